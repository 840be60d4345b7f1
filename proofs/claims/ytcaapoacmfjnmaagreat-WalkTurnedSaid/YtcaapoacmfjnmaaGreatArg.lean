/- Arguments, read: programs, keys, rows of numbers. -/
import Derived.Test.YtcaapoacmfjnmaaGreatStQ
import Derived.JoinedTies
import GoSem.Claim
import Derived.KernelRfl
namespace Go.Proofs.YtcaapoacmfjnmaaGreat
open Go.RowKit
set_option linter.unusedVariables false
open Go.ChangeShapes Go.WideShapes Go.ChangeAt
set_option maxRecDepth 100000 in
/-- a program, handed in as an argument -/
theorem prog_arg {H : Type} {enc : TypeId × Value → H} {W : World} {base : Nat} {v : Value} {d : DataW H} {q : List MemPlace}
    (o : Value.okWide Tryz.prog W .any base 24 v) (h : DataW.Trod enc Tryz.prog W 0 (fun _ => true) true 24 v d q) : ∃ (p : Pg) (A : Option Addr) (cap : Nat), v = valP p A cap ∧ PgIn W p A := by
  obtain ⟨cs, rfl, hsz⟩ := okWide_struct Tryz.underlying24 o
  obtain ⟨fuel, hf⟩ := h
  obtain ⟨p, A, cap, hcs, hcd, h1, h2, h3, _⟩ := prog_read fuel cs.toList _ (by simpa [Value.cells] using hf)
  obtain rfl : cs = #[.int .i64 p.vars, .int .i64 p.mtx, .slice A p.code.length cap] := by
    apply Array.ext'
    simpa using hcs
  exact ⟨p, A, cap, rfl, hcd, Nat.le_trans h1 h2, h3⟩
set_option maxRecDepth 100000 in
theorem int_readW {H : Type} {enc : TypeId × Value → H} {w : World} {base : Nat} {spare : Nat → Bool} {held : Bool} (fuel : Nat) (cs : List Value) (y : DataW H × List MemPlace) (hl : cs.length = 1)
    (h : DataW.trod enc Tryz.prog w base spare held fuel 3 cs = some y) : ∃ x : Int, cs = [iv x] ∧ (Lit.int .i64 x).wf = true := tr_int Tryz.underlying3 h
theorem flat_ivW (xs : List Int) : xs.flatMap (fun s => [iv s]) = xs.map iv := by induction xs <;> simp_all
set_option maxRecDepth 100000 in
/-- a row of numbers, handed in as an argument -/
theorem ints_arg {H : Type} {enc : TypeId × Value → H} {W : World} {base : Nat} {v : Value} {d : DataW H} {q : List MemPlace}
    (o : Value.okWide Tryz.prog W .any base 25 v) (h : DataW.Trod enc Tryz.prog W 0 (fun _ => true) true 25 v d q) : ∃ (row : List Int) (A : Option Addr) (cap : Nat), v = .slice A row.length cap ∧ Rd W 1 A row.length (row.map iv) ∧ row.length ≤ maxLen ∧ ∀ x ∈ row, (Lit.int .i64 x).wf = true := by
  obtain ⟨f2, hf2⟩ := h
  obtain ⟨A, len2, cap2, rfl⟩ := okWide_slice Tryz.underlying25 o
  obtain ⟨ss, hl, hg, hr2, h5, h6⟩ := tr_list (f := fun (s : Int) => [iv s]) (sz := 1) (by omega) Tryz.underlying25 (by kernel_rfl) int_readW (by simpa [Value.cells] using hf2)
  subst hl
  exact ⟨ss, A, cap2, rfl, flat_ivW ss ▸ hr2, Nat.le_trans h5 h6, hg⟩
set_option maxRecDepth 100000 in
/-- a text, handed in as an argument -/
theorem key_arg {H : Type} {enc : TypeId × Value → H} {W : World} {base : Nat} {v : Value} {d : DataW H} {q : List MemPlace}
    (o : Value.okWide Tryz.prog W .any base 9 v) (h : DataW.Trod enc Tryz.prog W 0 (fun _ => true) true 9 v d q) : ∃ k : List UInt8, v = .string ⟨k.toArray⟩ ∧ k.length ≤ maxLen := by
  obtain ⟨fuel, hf⟩ := h
  obtain ⟨s, rfl⟩ := okWide_string Tryz.underlying9 o
  obtain ⟨s', e, hs⟩ := tr_string Tryz.underlying9 (by simpa [Value.cells] using hf)
  obtain rfl : s = s' := by simpa using e
  exact ⟨s.data.toList, by simp, by simpa using hs⟩
end Go.Proofs.YtcaapoacmfjnmaaGreat
