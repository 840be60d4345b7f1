/- Dependence of two events. -/
import Derived.Test.YtgahjibjladafaaFoA
namespace Go.Proofs.Ytgahjibjladafaa
open Go.RowKit
set_option linter.unusedVariables false

/-- two events, boxed -/
theorem box2 (w : World) (a b : Ev) : ∃ W X Y, W = (w.alloc (Obj.cells #[.int .i64 a.t, .int .i64 a.k, .int .i64 a.o, .bool a.f] 39)).alloc (Obj.cells #[.int .i64 b.t, .int .i64 b.k, .int .i64 b.o, .bool b.f] 39) ∧ X = w.heap.size ∧ Y = w.heap.size + 1 ∧ Below w.heap.size w W ∧
    (∀ u, Below W.heap.size W u → (u.cell? ⟨X, 0, none⟩ = some (.int .i64 a.t) ∧ u.cell? ⟨X, 1, none⟩ = some (.int .i64 a.k) ∧ u.cell? ⟨X, 2, none⟩ = some (.int .i64 a.o) ∧ u.cell? ⟨X, 3, none⟩ = some (.bool a.f)) ∧
      (u.cell? ⟨Y, 0, none⟩ = some (.int .i64 b.t) ∧ u.cell? ⟨Y, 1, none⟩ = some (.int .i64 b.k) ∧ u.cell? ⟨Y, 2, none⟩ = some (.int .i64 b.o) ∧ u.cell? ⟨Y, 3, none⟩ = some (.bool b.f)) ∧ Below w.heap.size w u) := by
  refine ⟨_, _, _, rfl, rfl, rfl, ?_, fun u hu => ?_⟩
  · exact ((Below.refl _ _).alloc (Nat.le_refl _) _).alloc (by simp) _
  · have h1 : ((w.alloc (Obj.cells #[.int .i64 a.t, .int .i64 a.k, .int .i64 a.o, .bool a.f] 39)).alloc (Obj.cells #[.int .i64 b.t, .int .i64 b.k, .int .i64 b.o, .bool b.f] 39)).heap[w.heap.size]? = some (.cells #[.int .i64 a.t, .int .i64 a.k, .int .i64 a.o, .bool a.f] 39 (0, 0)) := by
      rw [heap_alloc_old _ _ (by simp), heap_alloc_new]
    have h2 : ((w.alloc (Obj.cells #[.int .i64 a.t, .int .i64 a.k, .int .i64 a.o, .bool a.f] 39)).alloc (Obj.cells #[.int .i64 b.t, .int .i64 b.k, .int .i64 b.o, .bool b.f] 39)).heap[w.heap.size + 1]? = some (.cells #[.int .i64 b.t, .int .i64 b.k, .int .i64 b.o, .bool b.f] 39 (0, 0)) := by
      have := heap_alloc_new (w.alloc (Obj.cells #[.int .i64 a.t, .int .i64 a.k, .int .i64 a.o, .bool a.f] 39)) (Obj.cells #[.int .i64 b.t, .int .i64 b.k, .int .i64 b.o, .bool b.f] 39)
      simpa using this
    have g1 := (hu.block _ (blk_lt h1)).trans h1
    have g2 := (hu.block _ (blk_lt h2)).trans h2
    refine ⟨⟨by rw [cell_blk g1]; rfl, by rw [cell_blk g1]; rfl, by rw [cell_blk g1]; rfl, by rw [cell_blk g1]; rfl⟩, ⟨by rw [cell_blk g2]; rfl, by rw [cell_blk g2]; rfl, by rw [cell_blk g2]; rfl, by rw [cell_blk g2]; rfl⟩, ?_⟩
    have hb : Below w.heap.size w ((w.alloc (Obj.cells #[.int .i64 a.t, .int .i64 a.k, .int .i64 a.o, .bool a.f] 39)).alloc (Obj.cells #[.int .i64 b.t, .int .i64 b.k, .int .i64 b.o, .bool b.f] 39)) := ((Below.refl _ _).alloc (Nat.le_refl _) _).alloc (by simp) _
    exact hb.trans ⟨hu.os, hu.tape, hu.output, hu.size, fun i hi => hu.block i (by have := hb.size; omega)⟩

theorem below2 {a b c : World} (h : Below a.heap.size a b) (k : Below b.heap.size b c) : Below a.heap.size a c := h.trans ⟨k.os, k.tape, k.output, k.size, fun i hi => k.block i (by have := h.size; omega)⟩

set_option maxHeartbeats 1000000 in
theorem depends_any (w : World) (a b : Ev) : Calls Try.prog 54 #[valE a, valE b] w fun x w' => x = .returned (.bool (Fo.dep a b)) ∧ Below w.heap.size w w' := by
  have ha := cls_cases a
  have hb := cls_cases b
  have HCA : Hid (∀ u, Calls Try.prog 93 #[valE a] u fun x w' => x = .returned (.int .i64 (cls a)) ∧ Below u.heap.size u w') := Lib.hid (fun u => class_any u a)
  have HCB : Hid (∀ u, Calls Try.prog 93 #[valE b] u fun x w' => x = .returned (.int .i64 (cls b)) ∧ Below u.heap.size u w') := Lib.hid (fun u => class_any u b)
  generalize cls a = ca at *
  generalize cls b = cb at *
  obtain ⟨W, X, Y, hW, hX, hY, hB, hcell⟩ := box2 w a b
  have hu := hcell W (Below.refl _ _)
  obtain ⟨⟨c0, c1, c2, c3⟩, ⟨d0, d1, d2, d3⟩, hw⟩ := hu
  unfold valE at HCA HCB ⊢
  go_enter Try.func54, Try.ntmps54
  go_upto_region 1 with fail
  rw [← hW, ← hY, ← hX]
  have HX := Lib.hid hX
  have HY := Lib.hid hY
  have HCELL := Lib.hid hcell
  have HA := Lib.hid ha
  have HB := Lib.hid hb
  clear hW hX hY hB hcell hw ha hb
  go_wp2_with fail
  refine (HCA.out _).mono ?_
  rintro x w1 ⟨rfl, b1⟩
  obtain ⟨⟨c0', c1', c2', c3'⟩, ⟨d0', d1', d2', d3'⟩, hw1⟩ := HCELL.out _ b1
  have HB1 := Lib.hid b1
  have HW1 := Lib.hid hw1
  clear c0 c1 c2 c3 d0 d1 d2 d3 b1 hw1
  have hcb := HCB.out w1
  have HCBW := Lib.hid hcb
  clear hcb
  have step : ∀ v, Below w1.heap.size w1 v → (v.cell? ⟨X, 1, none⟩ = some (.int .i64 a.k) ∧ v.cell? ⟨X, 2, none⟩ = some (.int .i64 a.o)) ∧ (v.cell? ⟨Y, 1, none⟩ = some (.int .i64 b.k) ∧ v.cell? ⟨Y, 2, none⟩ = some (.int .i64 b.o)) ∧ Below w.heap.size w v := fun v hv => by
    obtain ⟨⟨_, q1, q2, _⟩, ⟨_, r1, r2, _⟩, h⟩ := HCELL.out v (below2 HB1.out hv)
    exact ⟨⟨q1, q2⟩, ⟨r1, r2⟩, h⟩
  have STEP := Lib.hid step
  clear step
  have fin : ∀ (b' : Bool) v, b' = Fo.dep a b → Below w.heap.size w v → Ending.returned (.bool b') = Ending.returned (.bool (Fo.dep a b)) ∧ Below w.heap.size w v := fun b' v hb hv => ⟨by rw [hb], hv⟩
  have FIN := Lib.hid fin
  clear fin
  by_cases ht : a.t = b.t
  · have e1 : (a.t == b.t) = true := by simpa using ht
    have HT := Lib.hid ht
    clear ht
    go_wp2_with fail
    go_ret
    exact FIN.out _ _ (Fo.dep_thread HT.out).symm HW1.out
  · have e1 : (a.t == b.t) = false := by simpa using ht
    have HT := Lib.hid ht
    clear ht
    rcases HA.out with ⟨rfl, ha⟩ | ⟨rfl, ha⟩ | ⟨rfl, ha⟩
    rotate_left 2
    · have HA' := Lib.hid ha
      clear ha
      go_wp2_with fail
      go_ret
      refine FIN.out _ _ ?_ HW1.out
      have := HA'.out
      unfold Fo.dep Fo.memK Fo.mutK
      rw [decide_eq_false HT.out]
      simp [this.1, this.2.1, this.2.2.1, this.2.2.2]
    all_goals (have HA' := Lib.hid ha; clear ha)
    all_goals (go_wp2_with fail)
    all_goals (refine HCBW.out.mono ?_; rintro x w2 ⟨rfl, b2⟩; obtain ⟨⟨q1, q2⟩, ⟨r1, r2⟩, hw2⟩ := STEP.out w2 b2; have HW2 := Lib.hid hw2; clear b2 hw2 c1' c2' d1' d2')
    all_goals (rcases HB.out with ⟨rfl, hb⟩ | ⟨rfl, hb⟩ | ⟨rfl, hb⟩)
    all_goals (have HB' := Lib.hid hb; clear hb)
    all_goals (go_wp2_with fail)
    all_goals (go_ret)
    all_goals (refine FIN.out _ _ ?_ HW2.out; have ha := HA'.out; have hb := HB'.out; have ht := HT.out; clear FIN HA' HB' HT HA HB HCA HCB HCBW HCELL HB1 HW1 HW2 STEP HX HY q1 q2 r1 r2; unfold Fo.dep Fo.memK Fo.mutK; rw [decide_eq_false ht, Bool.eq_iff_iff]; simp at * <;> omega)

set_option maxHeartbeats 1000000 in
theorem refDepends_any (w : World) (a b : Ev) : Calls Try.prog 26 #[valE a, valE b] w fun x w' => x = .returned (.bool (Fo.dep a b)) ∧ Below w.heap.size w w' := by
  obtain ⟨W, X, Y, hW, hX, hY, hB, hcell⟩ := box2 w a b
  have hu := hcell W (Below.refl _ _)
  obtain ⟨⟨c0, c1, c2, c3⟩, ⟨d0, d1, d2, d3⟩, hw⟩ := hu
  unfold valE
  have fin : ∀ (b' : Bool), b' = Fo.dep a b → Ending.returned (.bool b') = Ending.returned (.bool (Fo.dep a b)) ∧ Below w.heap.size w W := fun b' hb => ⟨by rw [hb], hw⟩
  have FIN := Lib.hid fin
  clear fin hw
  go_enter Try.func26, Try.ntmps26
  go_upto_region 1 with fail
  rw [← hW, ← hY, ← hX]
  clear hW hX hY hB hcell
  by_cases ht : a.t = b.t
  · have e1 : (a.t == b.t) = true := by simpa using ht
    have HT := Lib.hid ht
    clear ht
    go_wp2_with fail
    go_ret
    exact FIN.out _ (Fo.dep_thread HT.out).symm
  · have e1 : (a.t == b.t) = false := by simpa using ht
    have HT := Lib.hid ht
    clear ht
    by_cases ho : a.o = b.o
    · have e2 : (a.o == b.o) = true := by simpa using ho
      have HO := Lib.hid ho
      clear ho
      go_wp2_with fail
      all_goals (go_ret)
      all_goals (refine FIN.out _ ?_; have ho := HO.out; have ht := HT.out; clear FIN HO HT c0 c1 c2 c3 d0 d1 d2 d3; unfold Fo.dep Fo.memK Fo.mutK; rw [decide_eq_false ht, decide_eq_true ho, Bool.eq_iff_iff]; simp at * <;> omega)
    · have e2 : (a.o == b.o) = false := by simpa using ho
      have HO := Lib.hid ho
      clear ho
      go_wp2_with fail
      go_ret
      refine FIN.out _ ?_
      unfold Fo.dep
      rw [decide_eq_false HT.out, decide_eq_false HO.out]
      rfl
end Go.Proofs.Ytgahjibjladafaa
