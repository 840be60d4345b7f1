/- Keys that are strings; frames one behind the other. -/
import Derived.Test.YtcaapoacmfjnmaaGreatMap
import Derived.Test.YtcaapoacmfjnmaaGreatRows
namespace Go.Proofs.YtcaapoacmfjnmaaGreat
open Go.RowKit
noncomputable abbrev Tryz.keyS : KeyK Tryz.prog 9 ByteArray := keyStr Tryz.underlying9
theorem qop_tail {base : Nat} {W a b : World} (h : Below base W a) (k : Below a.heap.size a b) (hz : base ≤ a.heap.size) : Below base W b :=
  ⟨k.os.trans h.os, k.tape.trans h.tape, k.output.trans h.output, Nat.le_trans h.size k.size, fun i hi => (k.block i (by omega)).trans (h.block i hi)⟩

theorem wpList_mapNextS {P : Program} {kt : TypeId} {h : P.underlying kt = some .string} {w : World} {ops : Array Oper} {rest : List Oper} {o : Oper} {a : Act} {Q : Exit → Act → World → Prop} (hgd : o.guard = none) (ia : Operand) (ho : o.op = Op.next ia false)
    (r it : Nat) (m : List (ByteArray × Value)) (cnt : Nat) (hi : a.eval ia = .pointer (some ⟨it, 0, none⟩)) (hit : MapIt (keyStr h) w r it m cnt)
    (hDone : cnt = 0 → wpList P ops Q rest (a.put o.dst (.tuple #[.bool false])) w)
    (hMore : ∀ (k : ByteArray) v w' cnt', (k, v) ∈ m → MapIt (keyStr h) w' r it m cnt' → cnt' < cnt → Mod (fun q => q = it) w w' → w'.heap.size = w.heap.size → (Instr.entry (.pointer (some ⟨it, 0, none⟩))).run P w' = .ok (.tuple #[.string k, v]) w' →
      wpList P ops Q rest (a.put o.dst (.tuple #[.bool true, .string k, v])) w') : wpList P ops Q (o :: rest) a w :=
  wpList_mapNext (kd := keyStr h) hgd ia ho r it m cnt hi hit hDone hMore
end Go.Proofs.YtcaapoacmfjnmaaGreat
