/- Functions on single events. -/
import Derived.Test.YtgahjibjladafaaRows
import Derived.Test.YtgahjibjladafaaBase
import Derived.Test.YtgahjibjladafaaPlan
import Derived.Test.YtgahjibjladafaaFoTh
import Derived.Lib.Hide
import Derived.Outline
import Derived.Deep.CutBlock
import Derived.IntWalk
namespace Go.Proofs.Ytgahjibjladafaa
open Go.RowKit
set_option linter.unusedVariables false

def encE (e : Ev) : List Value := [.int .i64 e.t, .int .i64 e.k, .int .i64 e.o, .bool e.f]
def valE (e : Ev) : Value := .agg #[.int .i64 e.t, .int .i64 e.k, .int .i64 e.o, .bool e.f]

/-- what an event is of -/
def cls (e : Ev) : Int := if e.k = 2 ∨ e.k = 3 then 1 else if e.k = 4 ∨ e.k = 5 then 2 else 0
theorem cls_cases (e : Ev) : (cls e = 1 ∧ (e.k = 2 ∨ e.k = 3)) ∨ (cls e = 2 ∧ (e.k = 4 ∨ e.k = 5)) ∨ (cls e = 0 ∧ e.k ≠ 2 ∧ e.k ≠ 3 ∧ e.k ≠ 4 ∧ e.k ≠ 5) := by
  unfold cls
  by_cases h : e.k = 2 ∨ e.k = 3
  · rw [if_pos h]; exact .inl ⟨rfl, h⟩
  · by_cases h' : e.k = 4 ∨ e.k = 5
    · rw [if_neg h, if_pos h']; exact .inr (.inl ⟨rfl, h'⟩)
    · rw [if_neg h, if_neg h']; exact .inr (.inr ⟨rfl, by omega, by omega, by omega, by omega⟩)

theorem class_any (w : World) (e : Ev) : Calls Try.prog 93 #[valE e] w fun x w' => x = .returned (.int .i64 (cls e)) ∧ Below w.heap.size w w' := by
  obtain ⟨t, k, o, f⟩ := e
  have hb : ∀ O, Below w.heap.size w (w.alloc O) := fun O => (Below.refl _ _).alloc (Nat.le_refl _) _
  unfold valE cls
  simp only
  by_cases h2 : k = 2
  · subst h2
    go_enter Try.func93, Try.ntmps93
    go_wp2
    go_ret
    exact ⟨rfl, hb _⟩
  · by_cases h3 : k = 3
    · subst h3
      go_enter Try.func93, Try.ntmps93
      go_wp2
      go_ret
      exact ⟨rfl, hb _⟩
    · by_cases h4 : k = 4
      · subst h4
        go_enter Try.func93, Try.ntmps93
        go_wp2
        go_ret
        exact ⟨rfl, hb _⟩
      · by_cases h5 : k = 5
        · subst h5
          go_enter Try.func93, Try.ntmps93
          go_wp2
          go_ret
          exact ⟨rfl, hb _⟩
        · have e2 : (k == 2) = false := by simpa using h2
          have e3 : (k == 3) = false := by simpa using h3
          have e4 : (k == 4) = false := by simpa using h4
          have e5 : (k == 5) = false := by simpa using h5
          have hc : (if k = 2 ∨ k = 3 then (1 : Int) else if k = 4 ∨ k = 5 then 2 else 0) = 0 := by rw [if_neg (by omega), if_neg (by omega)]
          rw [hc]
          clear h2 h3 h4 h5 hc
          go_enter Try.func93, Try.ntmps93
          go_wp2
          go_ret
          exact ⟨rfl, hb _⟩

set_option maxHeartbeats 1000000 in
theorem right_any (w : World) (e : Ev) : Calls Try.prog 92 #[valE e] w fun x w' => x = .returned (.bool (Fo.right e)) ∧ Below w.heap.size w w' := by
  have hc := cls_cases e
  obtain ⟨w0, hw0⟩ : ∃ w0, w0 = w.alloc (Obj.cells #[.int .i64 e.t, .int .i64 e.k, .int .i64 e.o, .bool e.f] 39) := ⟨_, rfl⟩
  obtain ⟨X, hX⟩ : ∃ X, X = w.heap.size := ⟨_, rfl⟩
  have hk : w0.heap[X]? = some (.cells #[.int .i64 e.t, .int .i64 e.k, .int .i64 e.o, .bool e.f] 39 (0, 0)) := by rw [hw0, hX]; exact heap_alloc_new w _
  have hb0 : Below w.heap.size w w0 := by rw [hw0]; exact (Below.refl _ _).alloc (Nat.le_refl _) _
  have hcl := class_any w0 e
  unfold valE at hcl ⊢
  generalize cls e = c at *
  have c0 : w0.cell? ⟨X, 0, none⟩ = some (.int .i64 e.t) := by rw [cell_blk hk]; rfl
  have c1 : w0.cell? ⟨X, 1, none⟩ = some (.int .i64 e.k) := by rw [cell_blk hk]; rfl
  have c2 : w0.cell? ⟨X, 2, none⟩ = some (.int .i64 e.o) := by rw [cell_blk hk]; rfl
  have c3 : w0.cell? ⟨X, 3, none⟩ = some (.bool e.f) := by rw [cell_blk hk]; rfl
  have HCL := Lib.hid hcl
  have HK := Lib.hid hk
  have HB0 := Lib.hid hb0
  clear hcl hk hb0
  go_enter Try.func92, Try.ntmps92
  go_upto_region 2 with fail
  rw [← hw0, ← hX]
  have HX := Lib.hid hX
  clear hw0 hX
  go_wp2_with fail
  refine HCL.out.mono ?_
  rintro x w1 ⟨rfl, b1⟩
  have hk1 := (b1.block X (blk_lt HK.out)).trans HK.out
  have d0 : w1.cell? ⟨X, 0, none⟩ = some (.int .i64 e.t) := by rw [cell_blk hk1]; rfl
  have d1 : w1.cell? ⟨X, 1, none⟩ = some (.int .i64 e.k) := by rw [cell_blk hk1]; rfl
  have d2 : w1.cell? ⟨X, 2, none⟩ = some (.int .i64 e.o) := by rw [cell_blk hk1]; rfl
  have d3 : w1.cell? ⟨X, 3, none⟩ = some (.bool e.f) := by rw [cell_blk hk1]; rfl
  have hfin : Below w.heap.size w w1 := HB0.out.trans ⟨b1.os, b1.tape, b1.output, b1.size, fun i hi => b1.block i (by have := HB0.out.size; omega)⟩
  have HFIN := Lib.hid hfin
  clear b1 hk1 hfin c0 c1 c2 c3
  have HC := Lib.hid hc
  clear hc
  have fin : ∀ b : Bool, b = Fo.right e → Ending.returned (.bool b) = Ending.returned (.bool (Fo.right e)) ∧ Below w.heap.size w w1 := fun b hb => ⟨by rw [hb], HFIN.out⟩
  have FIN := Lib.hid fin
  clear fin
  rcases HC.out with ⟨rfl, hk⟩ | ⟨rfl, hk⟩ | ⟨rfl, hk⟩
  all_goals (have HKK := Lib.hid hk; clear hk)
  all_goals (go_wp2_with fail)
  all_goals (go_ret)
  all_goals (refine FIN.out _ ?_; have hkk := HKK.out; clear FIN HKK HFIN HC HB0 HK HCL HX d0 d1 d2 d3; unfold Fo.right; rw [Bool.eq_iff_iff, decide_eq_true_iff]; cases hf : e.f <;> simp [hf] at * <;> omega)
end Go.Proofs.Ytgahjibjladafaa
