/- A call of the mailbox laws, as data. -/
import Derived.Test.YtedogccbndjdpaaRows
import Derived.Test.YtedogccbndjdpaaRead
namespace Go.Proofs.Ytedogccbndjdpaa
open Go.ChangeShapes Go.WideShapes Go.ChangeAt Go.RowKit
set_option linter.unusedVariables false

set_option maxRecDepth 100000 in
/-- a call as data -/
theorem op_read {H : Type} {enc : TypeId × Value → H} {w : World} {base : Nat} {spare : Nat → Bool} {held : Bool} {fuel : Nat} {cs : List Value} {y : DataW H × List MemPlace}
    (h : DataW.trod enc Try.prog w base spare held fuel 30 cs = some y) : ∃ kd to : Int, ∃ (p : ByteArray) (s : Int), cs = [.int .i64 kd, .int .i64 to, .string p, .int .u8 s] ∧ (Lit.int .i64 kd).wf = true ∧ (Lit.int .i64 to).wf = true ∧ (Lit.int .u8 s).wf = true := by
  obtain ⟨hl, fuel', hf⟩ := tr_struct Try.underlying30 h
  have hl4 : cs.length = 4 := hl.trans (by kernel_rfl)
  match cs, hl4 with
  | [a, b, c, d], _ =>
    simp only [List.mem_cons, List.not_mem_nil, or_false, forall_eq_or_imp, forall_eq] at hf
    rw [show Try.prog.cellsOf 3 = 1 by kernel_rfl, show Try.prog.cellsOf 9 = 1 by kernel_rfl, show Try.prog.cellsOf 5 = 1 by kernel_rfl] at hf
    obtain ⟨⟨_, h1⟩, ⟨_, h2⟩, ⟨_, h3⟩, ⟨_, h4⟩⟩ := hf
    obtain ⟨kd, e1, w1⟩ := tr_int Try.underlying3 h1
    obtain ⟨to, e2, w2⟩ := tr_int Try.underlying3 h2
    obtain ⟨p, e3, w3⟩ := tr_string Try.underlying9 h3
    obtain ⟨s, e4, w4⟩ := tr_int Try.underlying5 h4
    simp at e1 e2 e3 e4
    subst e1 e2 e3 e4
    exact ⟨kd, to, p, s, rfl, w1, w2, w4⟩

end Go.Proofs.Ytedogccbndjdpaa
