/- Functions on single events. -/
import Derived.Test.YtcaapoacmfjnmaaGreatRows
import Derived.Test.YtcaapoacmfjnmaaGreatBase
import Derived.Test.YtcaapoacmfjnmaaGreatPlan
import Derived.Test.YtcaapoacmfjnmaaGreatFoTh
import Derived.Lib.Hide
import Derived.Outline
import Derived.Deep.CutBlock
import Derived.IntWalk
import Derived.Test.YtcaapoacmfjnmaaGreatRead
namespace Go.Proofs.YtcaapoacmfjnmaaGreat
open Go.RowKit
set_option linter.unusedVariables false

def encE (e : Ev) : List Value := [.int .i64 e.t, .int .i64 e.k, .int .i64 e.o, .bool e.f]
def valE (e : Ev) : Value := .agg #[.int .i64 e.t, .int .i64 e.k, .int .i64 e.o, .bool e.f]

/-- what an event is of -/
def cls (e : Ev) : Int := if e.k = 2 ∨ e.k = 3 then 1 else if e.k = 4 ∨ e.k = 5 then 2 else 0
theorem cls_cases (e : Ev) : (cls e = 1 ∧ (e.k = 2 ∨ e.k = 3)) ∨ (cls e = 2 ∧ (e.k = 4 ∨ e.k = 5)) ∨ (cls e = 0 ∧ e.k ≠ 2 ∧ e.k ≠ 3 ∧ e.k ≠ 4 ∧ e.k ≠ 5) := by
  unfold cls
  by_cases h : e.k = 2 ∨ e.k = 3
  · rw [if_pos h]; exact .inl ⟨rfl, h⟩
  · by_cases h' : e.k = 4 ∨ e.k = 5
    · rw [if_neg h, if_pos h']; exact .inr (.inl ⟨rfl, h'⟩)
    · rw [if_neg h, if_neg h']; exact .inr (.inr ⟨rfl, by omega, by omega, by omega, by omega⟩)

theorem class_any (w : World) (e : Ev) : Calls Tryz.prog 76 #[valE e] w fun x w' => x = .returned (.int .i64 (cls e)) ∧ Below w.heap.size w w' := by
  obtain ⟨t, k, o, f⟩ := e
  have hb : ∀ O, Below w.heap.size w (w.alloc O) := fun O => (Below.refl _ _).alloc (Nat.le_refl _) _
  unfold valE cls
  simp only
  by_cases h2 : k = 2
  · subst h2
    go_enter Tryz.func76, Tryz.ntmps76
    go_wp2
    go_ret
    exact ⟨rfl, hb _⟩
  · by_cases h3 : k = 3
    · subst h3
      go_enter Tryz.func76, Tryz.ntmps76
      go_wp2
      go_ret
      exact ⟨rfl, hb _⟩
    · by_cases h4 : k = 4
      · subst h4
        go_enter Tryz.func76, Tryz.ntmps76
        go_wp2
        go_ret
        exact ⟨rfl, hb _⟩
      · by_cases h5 : k = 5
        · subst h5
          go_enter Tryz.func76, Tryz.ntmps76
          go_wp2
          go_ret
          exact ⟨rfl, hb _⟩
        · have e2 : (k == 2) = false := by simpa using h2
          have e3 : (k == 3) = false := by simpa using h3
          have e4 : (k == 4) = false := by simpa using h4
          have e5 : (k == 5) = false := by simpa using h5
          have hc : (if k = 2 ∨ k = 3 then (1 : Int) else if k = 4 ∨ k = 5 then 2 else 0) = 0 := by rw [if_neg (by omega), if_neg (by omega)]
          rw [hc]
          clear h2 h3 h4 h5 hc
          go_enter Tryz.func76, Tryz.ntmps76
          go_wp2
          go_ret
          exact ⟨rfl, hb _⟩

set_option maxHeartbeats 1000000 in
theorem right_any (w : World) (e : Ev) : Calls Tryz.prog 37 #[valE e] w fun x w' => x = .returned (.bool (Fo.right e)) ∧ Below w.heap.size w w' := by
  have hc := cls_cases e
  obtain ⟨w0, hw0⟩ : ∃ w0, w0 = w.alloc (Obj.cells #[.int .i64 e.t, .int .i64 e.k, .int .i64 e.o, .bool e.f] 57) := ⟨_, rfl⟩
  obtain ⟨X, hX⟩ : ∃ X, X = w.heap.size := ⟨_, rfl⟩
  have hk : w0.heap[X]? = some (.cells #[.int .i64 e.t, .int .i64 e.k, .int .i64 e.o, .bool e.f] 57 (0, 0)) := by rw [hw0, hX]; exact heap_alloc_new w _
  have hb0 : Below w.heap.size w w0 := by rw [hw0]; exact (Below.refl _ _).alloc (Nat.le_refl _) _
  have hcl := class_any w0 e
  unfold valE at hcl ⊢
  generalize cls e = c at *
  have c0 : w0.cell? ⟨X, 0, none⟩ = some (.int .i64 e.t) := by rw [cell_blk hk]; rfl
  have c1 : w0.cell? ⟨X, 1, none⟩ = some (.int .i64 e.k) := by rw [cell_blk hk]; rfl
  have c2 : w0.cell? ⟨X, 2, none⟩ = some (.int .i64 e.o) := by rw [cell_blk hk]; rfl
  have c3 : w0.cell? ⟨X, 3, none⟩ = some (.bool e.f) := by rw [cell_blk hk]; rfl
  have HCL := Lib.hid hcl
  have HK := Lib.hid hk
  have HB0 := Lib.hid hb0
  clear hcl hk hb0
  go_enter Tryz.func37, Tryz.ntmps37
  go_upto_region 2 with fail
  rw [← hw0, ← hX]
  have HX := Lib.hid hX
  clear hw0 hX
  go_wp2_with fail
  refine HCL.out.mono ?_
  rintro x w1 ⟨rfl, b1⟩
  have hk1 := (b1.block X (blk_lt HK.out)).trans HK.out
  have d0 : w1.cell? ⟨X, 0, none⟩ = some (.int .i64 e.t) := by rw [cell_blk hk1]; rfl
  have d1 : w1.cell? ⟨X, 1, none⟩ = some (.int .i64 e.k) := by rw [cell_blk hk1]; rfl
  have d2 : w1.cell? ⟨X, 2, none⟩ = some (.int .i64 e.o) := by rw [cell_blk hk1]; rfl
  have d3 : w1.cell? ⟨X, 3, none⟩ = some (.bool e.f) := by rw [cell_blk hk1]; rfl
  have hfin : Below w.heap.size w w1 := HB0.out.trans ⟨b1.os, b1.tape, b1.output, b1.size, fun i hi => b1.block i (by have := HB0.out.size; omega)⟩
  have HFIN := Lib.hid hfin
  clear b1 hk1 hfin c0 c1 c2 c3
  have HC := Lib.hid hc
  clear hc
  have fin : ∀ b : Bool, b = Fo.right e → Ending.returned (.bool b) = Ending.returned (.bool (Fo.right e)) ∧ Below w.heap.size w w1 := fun b hb => ⟨by rw [hb], HFIN.out⟩
  have FIN := Lib.hid fin
  clear fin
  rcases HC.out with ⟨rfl, hk⟩ | ⟨rfl, hk⟩ | ⟨rfl, hk⟩
  all_goals (have HKK := Lib.hid hk; clear hk)
  all_goals (go_wp2_with fail)
  all_goals (go_ret)
  all_goals (refine FIN.out _ ?_; have hkk := HKK.out; clear FIN HKK HFIN HC HB0 HK HCL HX d0 d1 d2 d3; unfold Fo.right; rw [Bool.eq_iff_iff, decide_eq_true_iff]; cases hf : e.f <;> simp [hf] at * <;> omega)
end Go.Proofs.YtcaapoacmfjnmaaGreat
/- Dependence of two events. -/
namespace Go.Proofs.YtcaapoacmfjnmaaGreat
open Go.RowKit
set_option linter.unusedVariables false

/-- two events, boxed -/
theorem box2 (w : World) (a b : Ev) : ∃ W X Y, W = (w.alloc (Obj.cells #[.int .i64 a.t, .int .i64 a.k, .int .i64 a.o, .bool a.f] 57)).alloc (Obj.cells #[.int .i64 b.t, .int .i64 b.k, .int .i64 b.o, .bool b.f] 57) ∧ X = w.heap.size ∧ Y = w.heap.size + 1 ∧ Below w.heap.size w W ∧
    (∀ u, Below W.heap.size W u → (u.cell? ⟨X, 0, none⟩ = some (.int .i64 a.t) ∧ u.cell? ⟨X, 1, none⟩ = some (.int .i64 a.k) ∧ u.cell? ⟨X, 2, none⟩ = some (.int .i64 a.o) ∧ u.cell? ⟨X, 3, none⟩ = some (.bool a.f)) ∧
      (u.cell? ⟨Y, 0, none⟩ = some (.int .i64 b.t) ∧ u.cell? ⟨Y, 1, none⟩ = some (.int .i64 b.k) ∧ u.cell? ⟨Y, 2, none⟩ = some (.int .i64 b.o) ∧ u.cell? ⟨Y, 3, none⟩ = some (.bool b.f)) ∧ Below w.heap.size w u) := by
  refine ⟨_, _, _, rfl, rfl, rfl, ?_, fun u hu => ?_⟩
  · exact ((Below.refl _ _).alloc (Nat.le_refl _) _).alloc (by simp) _
  · have h1 : ((w.alloc (Obj.cells #[.int .i64 a.t, .int .i64 a.k, .int .i64 a.o, .bool a.f] 57)).alloc (Obj.cells #[.int .i64 b.t, .int .i64 b.k, .int .i64 b.o, .bool b.f] 57)).heap[w.heap.size]? = some (.cells #[.int .i64 a.t, .int .i64 a.k, .int .i64 a.o, .bool a.f] 57 (0, 0)) := by
      rw [heap_alloc_old _ _ (by simp), heap_alloc_new]
    have h2 : ((w.alloc (Obj.cells #[.int .i64 a.t, .int .i64 a.k, .int .i64 a.o, .bool a.f] 57)).alloc (Obj.cells #[.int .i64 b.t, .int .i64 b.k, .int .i64 b.o, .bool b.f] 57)).heap[w.heap.size + 1]? = some (.cells #[.int .i64 b.t, .int .i64 b.k, .int .i64 b.o, .bool b.f] 57 (0, 0)) := by
      have := heap_alloc_new (w.alloc (Obj.cells #[.int .i64 a.t, .int .i64 a.k, .int .i64 a.o, .bool a.f] 57)) (Obj.cells #[.int .i64 b.t, .int .i64 b.k, .int .i64 b.o, .bool b.f] 57)
      simpa using this
    have g1 := (hu.block _ (blk_lt h1)).trans h1
    have g2 := (hu.block _ (blk_lt h2)).trans h2
    refine ⟨⟨by rw [cell_blk g1]; rfl, by rw [cell_blk g1]; rfl, by rw [cell_blk g1]; rfl, by rw [cell_blk g1]; rfl⟩, ⟨by rw [cell_blk g2]; rfl, by rw [cell_blk g2]; rfl, by rw [cell_blk g2]; rfl, by rw [cell_blk g2]; rfl⟩, ?_⟩
    have hb : Below w.heap.size w ((w.alloc (Obj.cells #[.int .i64 a.t, .int .i64 a.k, .int .i64 a.o, .bool a.f] 57)).alloc (Obj.cells #[.int .i64 b.t, .int .i64 b.k, .int .i64 b.o, .bool b.f] 57)) := ((Below.refl _ _).alloc (Nat.le_refl _) _).alloc (by simp) _
    exact hb.trans ⟨hu.os, hu.tape, hu.output, hu.size, fun i hi => hu.block i (by have := hb.size; omega)⟩

theorem below2 {a b c : World} (h : Below a.heap.size a b) (k : Below b.heap.size b c) : Below a.heap.size a c := h.trans ⟨k.os, k.tape, k.output, k.size, fun i hi => k.block i (by have := h.size; omega)⟩

set_option maxHeartbeats 1000000 in
theorem depends_any (w : World) (a b : Ev) : Calls Tryz.prog 129 #[valE a, valE b] w fun x w' => x = .returned (.bool (Fo.dep a b)) ∧ Below w.heap.size w w' := by
  have ha := cls_cases a
  have hb := cls_cases b
  have HCA : Hid (∀ u, Calls Tryz.prog 76 #[valE a] u fun x w' => x = .returned (.int .i64 (cls a)) ∧ Below u.heap.size u w') := Lib.hid (fun u => class_any u a)
  have HCB : Hid (∀ u, Calls Tryz.prog 76 #[valE b] u fun x w' => x = .returned (.int .i64 (cls b)) ∧ Below u.heap.size u w') := Lib.hid (fun u => class_any u b)
  generalize cls a = ca at *
  generalize cls b = cb at *
  obtain ⟨W, X, Y, hW, hX, hY, hB, hcell⟩ := box2 w a b
  have hu := hcell W (Below.refl _ _)
  obtain ⟨⟨c0, c1, c2, c3⟩, ⟨d0, d1, d2, d3⟩, hw⟩ := hu
  unfold valE at HCA HCB ⊢
  go_enter Tryz.func129, Tryz.ntmps129
  go_upto_region 1 with fail
  rw [← hW, ← hY, ← hX]
  have HX := Lib.hid hX
  have HY := Lib.hid hY
  have HCELL := Lib.hid hcell
  have HA := Lib.hid ha
  have HB := Lib.hid hb
  clear hW hX hY hB hcell hw ha hb
  go_wp2_with fail
  refine (HCA.out _).mono ?_
  rintro x w1 ⟨rfl, b1⟩
  obtain ⟨⟨c0', c1', c2', c3'⟩, ⟨d0', d1', d2', d3'⟩, hw1⟩ := HCELL.out _ b1
  have HB1 := Lib.hid b1
  have HW1 := Lib.hid hw1
  clear c0 c1 c2 c3 d0 d1 d2 d3 b1 hw1
  have hcb := HCB.out w1
  have HCBW := Lib.hid hcb
  clear hcb
  have step : ∀ v, Below w1.heap.size w1 v → (v.cell? ⟨X, 1, none⟩ = some (.int .i64 a.k) ∧ v.cell? ⟨X, 2, none⟩ = some (.int .i64 a.o)) ∧ (v.cell? ⟨Y, 1, none⟩ = some (.int .i64 b.k) ∧ v.cell? ⟨Y, 2, none⟩ = some (.int .i64 b.o)) ∧ Below w.heap.size w v := fun v hv => by
    obtain ⟨⟨_, q1, q2, _⟩, ⟨_, r1, r2, _⟩, h⟩ := HCELL.out v (below2 HB1.out hv)
    exact ⟨⟨q1, q2⟩, ⟨r1, r2⟩, h⟩
  have STEP := Lib.hid step
  clear step
  have fin : ∀ (b' : Bool) v, b' = Fo.dep a b → Below w.heap.size w v → Ending.returned (.bool b') = Ending.returned (.bool (Fo.dep a b)) ∧ Below w.heap.size w v := fun b' v hb hv => ⟨by rw [hb], hv⟩
  have FIN := Lib.hid fin
  clear fin
  by_cases ht : a.t = b.t
  · have e1 : (a.t == b.t) = true := by simpa using ht
    have HT := Lib.hid ht
    clear ht
    go_wp2_with fail
    go_ret
    exact FIN.out _ _ (Fo.dep_thread HT.out).symm HW1.out
  · have e1 : (a.t == b.t) = false := by simpa using ht
    have HT := Lib.hid ht
    clear ht
    rcases HA.out with ⟨rfl, ha⟩ | ⟨rfl, ha⟩ | ⟨rfl, ha⟩
    rotate_left 2
    · have HA' := Lib.hid ha
      clear ha
      go_wp2_with fail
      go_ret
      refine FIN.out _ _ ?_ HW1.out
      have := HA'.out
      unfold Fo.dep Fo.memK Fo.mutK
      rw [decide_eq_false HT.out]
      simp [this.1, this.2.1, this.2.2.1, this.2.2.2]
    all_goals (have HA' := Lib.hid ha; clear ha)
    all_goals (go_wp2_with fail)
    all_goals (refine HCBW.out.mono ?_; rintro x w2 ⟨rfl, b2⟩; obtain ⟨⟨q1, q2⟩, ⟨r1, r2⟩, hw2⟩ := STEP.out w2 b2; have HW2 := Lib.hid hw2; clear b2 hw2 c1' c2' d1' d2')
    all_goals (rcases HB.out with ⟨rfl, hb⟩ | ⟨rfl, hb⟩ | ⟨rfl, hb⟩)
    all_goals (have HB' := Lib.hid hb; clear hb)
    all_goals (go_wp2_with fail)
    all_goals (go_ret)
    all_goals (refine FIN.out _ _ ?_ HW2.out; have ha := HA'.out; have hb := HB'.out; have ht := HT.out; clear FIN HA' HB' HT HA HB HCA HCB HCBW HCELL HB1 HW1 HW2 STEP HX HY q1 q2 r1 r2; unfold Fo.dep Fo.memK Fo.mutK; rw [decide_eq_false ht, Bool.eq_iff_iff]; simp at * <;> omega)

set_option maxHeartbeats 1000000 in
theorem refDepends_any (w : World) (a b : Ev) : Calls Tryz.prog 139 #[valE a, valE b] w fun x w' => x = .returned (.bool (Fo.dep a b)) ∧ Below w.heap.size w w' := by
  obtain ⟨W, X, Y, hW, hX, hY, hB, hcell⟩ := box2 w a b
  have hu := hcell W (Below.refl _ _)
  obtain ⟨⟨c0, c1, c2, c3⟩, ⟨d0, d1, d2, d3⟩, hw⟩ := hu
  unfold valE
  have fin : ∀ (b' : Bool), b' = Fo.dep a b → Ending.returned (.bool b') = Ending.returned (.bool (Fo.dep a b)) ∧ Below w.heap.size w W := fun b' hb => ⟨by rw [hb], hw⟩
  have FIN := Lib.hid fin
  clear fin hw
  go_enter Tryz.func139, Tryz.ntmps139
  go_upto_region 1 with fail
  rw [← hW, ← hY, ← hX]
  clear hW hX hY hB hcell
  by_cases ht : a.t = b.t
  · have e1 : (a.t == b.t) = true := by simpa using ht
    have HT := Lib.hid ht
    clear ht
    go_wp2_with fail
    go_ret
    exact FIN.out _ (Fo.dep_thread HT.out).symm
  · have e1 : (a.t == b.t) = false := by simpa using ht
    have HT := Lib.hid ht
    clear ht
    by_cases ho : a.o = b.o
    · have e2 : (a.o == b.o) = true := by simpa using ho
      have HO := Lib.hid ho
      clear ho
      go_wp2_with fail
      all_goals (go_ret)
      all_goals (refine FIN.out _ ?_; have ho := HO.out; have ht := HT.out; clear FIN HO HT c0 c1 c2 c3 d0 d1 d2 d3; unfold Fo.dep Fo.memK Fo.mutK; rw [decide_eq_false ht, decide_eq_true ho, Bool.eq_iff_iff]; simp at * <;> omega)
    · have e2 : (a.o == b.o) = false := by simpa using ho
      have HO := Lib.hid ho
      clear ho
      go_wp2_with fail
      go_ret
      refine FIN.out _ ?_
      unfold Fo.dep
      rw [decide_eq_false HT.out, decide_eq_false HO.out]
      rfl
end Go.Proofs.YtcaapoacmfjnmaaGreat
/- Rows of events: reading, looking for one. -/
namespace Go.Proofs.YtcaapoacmfjnmaaGreat
open Go.RowKit
set_option linter.unusedVariables false

theorem encE_len (e : Ev) : (encE e).length = 4 := rfl
/-- the events' cells -/
def EvAt (u : World) (g o : Nat) (e : Ev) : Prop := u.cell? ⟨g, o, none⟩ = some (.int .i64 e.t) ∧ u.cell? ⟨g, o + 1, none⟩ = some (.int .i64 e.k) ∧ u.cell? ⟨g, o + 2, none⟩ = some (.int .i64 e.o) ∧ u.cell? ⟨g, o + 3, none⟩ = some (.bool e.f)
theorem evs_cell {w : World} {B : Nat} {A : Option Addr} {l : List Ev} (h : RdB w B 4 A l.length (l.flatMap encE)) : ∀ k, (hk : k < l.length) → ∃ g o, A = some ⟨g, o, none⟩ ∧ g < B ∧ ∀ u, Below B w u → EvAt u g (o + k * 4) l[k] := fun k hk => by
  obtain ⟨g, o, hA, hg, hc⟩ := h.2 (by omega)
  refine ⟨g, o, hA, hg, fun u hu => ?_⟩
  have hcl : ∀ r, r < 4 → u.cell? ⟨g, o + k * 4 + r, none⟩ = (encE l[k])[r]? := fun r hr => by
    rw [Nat.add_assoc, World.cell?_of_block (hu.block g hg), hc (k * 4 + r) (by omega), flat_get (f := encE) (sz := 4) encE_len l k r hk hr]
  have v0 := hcl 0 (by omega)
  have v1 := hcl 1 (by omega)
  have v2 := hcl 2 (by omega)
  have v3 := hcl 3 (by omega)
  simp only [encE, List.getElem?_cons_succ, List.getElem?_cons_zero, Nat.add_zero] at v0 v1 v2 v3
  exact ⟨v0, v1, v2, v3⟩

/-! the document's: may all be? -/
set_option maxHeartbeats 1000000 in
theorem refRight_any (w : World) (e : Ev) : Calls Tryz.prog 136 #[valE e] w fun x w' => x = .returned (.bool (Fo.right e)) ∧ Below w.heap.size w w' := by
  have hb : ∀ O, Below w.heap.size w (w.alloc O) := fun O => (Below.refl _ _).alloc (Nat.le_refl _) _
  obtain ⟨w0, hw0⟩ : ∃ w0, w0 = w.alloc (Obj.cells #[.int .i64 e.t, .int .i64 e.k, .int .i64 e.o, .bool e.f] 57) := ⟨_, rfl⟩
  obtain ⟨X, hX⟩ : ∃ X, X = w.heap.size := ⟨_, rfl⟩
  have hk : w0.heap[X]? = some (.cells #[.int .i64 e.t, .int .i64 e.k, .int .i64 e.o, .bool e.f] 57 (0, 0)) := by rw [hw0, hX]; exact heap_alloc_new w _
  have hb0 : Below w.heap.size w w0 := by rw [hw0]; exact hb _
  have c0 : w0.cell? ⟨X, 0, none⟩ = some (.int .i64 e.t) := by rw [cell_blk hk]; rfl
  have c1 : w0.cell? ⟨X, 1, none⟩ = some (.int .i64 e.k) := by rw [cell_blk hk]; rfl
  have c2 : w0.cell? ⟨X, 2, none⟩ = some (.int .i64 e.o) := by rw [cell_blk hk]; rfl
  have c3 : w0.cell? ⟨X, 3, none⟩ = some (.bool e.f) := by rw [cell_blk hk]; rfl
  unfold valE
  have fin : ∀ b : Bool, b = Fo.right e → Ending.returned (.bool b) = Ending.returned (.bool (Fo.right e)) ∧ Below w.heap.size w w0 := fun b hb => ⟨by rw [hb], hb0⟩
  have FIN := Lib.hid fin
  clear fin hb0 hk hb
  go_enter Tryz.func136, Tryz.ntmps136
  go_upto_region 1 with fail
  rw [← hw0, ← hX]
  clear hw0 hX
  by_cases h1 : e.k = 1
  · have e1 : (e.k == 1) = true := by simpa using h1
    have H1 := Lib.hid h1
    clear h1
    go_wp2_with fail
    all_goals (go_ret)
    all_goals (refine FIN.out _ ?_; have h1 := H1.out; clear FIN H1 c0 c1 c2 c3; unfold Fo.right; rw [Bool.eq_iff_iff, decide_eq_true_iff]; cases hf : e.f <;> simp [hf] at * <;> omega)
  · have e1 : (e.k == 1) = false := by simpa using h1
    have H1 := Lib.hid h1
    clear h1
    go_wp2_with fail
    all_goals (go_ret)
    all_goals (refine FIN.out _ ?_; have h1 := H1.out; clear FIN H1 c0 c1 c2 c3; unfold Fo.right; rw [Bool.eq_iff_iff, decide_eq_true_iff]; cases hf : e.f <;> simp [hf] at * <;> omega)

theorem rights_take {l : List Ev} {k : Nat} (hk : k < l.length) : Fo.rights (l.take (k + 1)) = (Fo.rights (l.take k) && Fo.right l[k]) := by
  unfold Fo.rights
  rw [List.take_add_one, List.getElem?_eq_getElem hk, List.all_append]
  simp
theorem rights_false {l : List Ev} {k : Nat} (hk : k < l.length) (h : Fo.right l[k] = false) : Fo.rights l = false := by
  unfold Fo.rights
  rw [List.all_eq_false]
  exact ⟨l[k], List.getElem_mem hk, by simp [h]⟩

theorem rows_any (w : World) (A : Option Addr) (cap : Nat) (l : List Ev) (hr : Rd w 4 A l.length (l.flatMap encE)) (hl : l.length < 4611686018427387904) :
    Calls Tryz.prog 93 #[.slice A l.length cap] w fun x w' => x = .returned (.bool (Fo.rights l)) ∧ Below w.heap.size w w' := by
  have HC := Lib.hid (evs_cell hr.toB)
  clear hr
  go_enter Tryz.func93, Tryz.ntmps93
  go_wp2_with fail
  go_loopw [3] (fun v wr => ∃ k : Nat, k ≤ l.length ∧ v = .int .i64 k ∧ Hid (Fo.rights (l.take k) = true) ∧ Below w.heap.size w wr) (fun v _ => l.length - (intOf v).toNat)
  case atStart => exact ⟨0, Nat.zero_le _, rfl, Lib.hid rfl, Below.refl _ _⟩
  case round =>
    obtain ⟨k, hk, rfl, HRT, hb⟩ := hrel
    by_cases hlt : k < l.length
    · obtain ⟨g, o, rfl, hg, hcl⟩ := HC.out k hlt
      obtain ⟨v0, v1, v2, v3⟩ := hcl wr hb
      have k1 : (0 : Int) ≤ (k : Int) := Int.natCast_nonneg _
      have k2 : (k : Int) < (l.length : Int) := by omega
      have hcall := refRight_any wr l[k]
      have htk := rights_take hlt
      have hrf := rights_false hlt
      obtain ⟨b, hbb⟩ : ∃ b, b = Fo.right l[k] := ⟨_, rfl⟩
      rw [← hbb] at hcall htk hrf
      unfold valE at hcall
      have HCALL := Lib.hid hcall
      have HTK := Lib.hid htk
      have HRF := Lib.hid hrf
      have HB := Lib.hid hb
      clear hcall htk hrf hcl hbb hb
      go_wp2_with fail
      refine HCALL.out.mono ?_
      rintro x w1 ⟨rfl, b1⟩
      have hb2 : Below w.heap.size w w1 := HB.out.trans ⟨b1.os, b1.tape, b1.output, b1.size, fun i hi => b1.block i (by have := HB.out.size; omega)⟩
      have HB2 := Lib.hid hb2
      clear b1 hb2
      cases b with
      | true =>
        go_wp2_with fail
        go_roundw
        case rel => exact ⟨k + 1, by omega, by go_num, Lib.hid (by rw [HTK.out, HRT.out]; rfl), HB2.out⟩
        case measure => simp [intOf]; omega
      | false =>
        go_wp2_with fail
        go_ret
        exact ⟨by rw [HRF.out (by trivial)]; rfl, HB2.out⟩
    · have hkn : k = l.length := by omega
      have HK := Lib.hid hkn
      have HB := Lib.hid hb
      clear hkn hb
      go_wp2_with fail
      go_ret
      have := HRT.out
      rw [HK.out, List.take_length] at this
      exact ⟨by rw [this]; rfl, HB.out⟩

/-! looking for one -/
theorem any_take {l : List Ev} {p : Ev → Bool} {k : Nat} (hk : k < l.length) : (l.take (k + 1)).any p = ((l.take k).any p || p l[k]) := by
  rw [List.take_add_one, List.getElem?_eq_getElem hk, List.any_append]
  simp
theorem indexFunc_right1 (w : World) (A : Option Addr) (cap : Nat) (l : List Ev) (hr : Rd w 4 A l.length (l.flatMap encE)) (hl : l.length < 4611686018427387904) (p : Ev → Bool)
    (hf : ∀ u e, Below w.heap.size w u → Calls Tryz.prog 121 #[valE e] u fun x w' => x = .returned (.bool (p e)) ∧ Below u.heap.size u w') :
    Calls Tryz.prog 145 #[.slice A l.length cap, .func (.func 121) #[] #[]] w fun x w' => ∃ n : Int, x = .returned (.int .i64 n) ∧ ((0 ≤ n) ↔ l.any p = true) ∧ Below w.heap.size w w' := by
  have HC := Lib.hid (evs_cell hr.toB)
  have HF := Lib.hid hf
  clear hr hf
  go_enter Tryz.func145, Tryz.ntmps145
  go_wp2_with fail
  go_loopw [8] (fun v wr => ∃ k : Nat, k ≤ l.length ∧ v = .int .i64 k ∧ Hid ((l.take k).any p = false) ∧ Below w.heap.size w wr) (fun v _ => l.length - (intOf v).toNat)
  case atStart => exact ⟨0, Nat.zero_le _, rfl, Lib.hid rfl, Below.refl _ _⟩
  case round =>
    obtain ⟨k, hk, rfl, HRT, hb⟩ := hrel
    by_cases hlt : k < l.length
    · obtain ⟨g, o, rfl, hg, hcl⟩ := HC.out k hlt
      obtain ⟨v0, v1, v2, v3⟩ := hcl wr hb
      have k1 : (0 : Int) ≤ (k : Int) := Int.natCast_nonneg _
      have k2 : (k : Int) < (l.length : Int) := by omega
      have hcall := HF.out wr l[k] hb
      have htk := any_take (p := p) hlt
      obtain ⟨b, hbb⟩ : ∃ b, b = p l[k] := ⟨_, rfl⟩
      have hin : b = true → l.any p = true := fun h => List.any_eq_true.2 ⟨l[k], List.getElem_mem hlt, by rw [← hbb, h]⟩
      rw [← hbb] at hcall htk
      unfold valE at hcall
      have HCALL := Lib.hid hcall
      have HTK := Lib.hid htk
      have HIN := Lib.hid hin
      have HB := Lib.hid hb
      clear hcall htk hin hcl hbb hb
      go_wp2_with fail
      refine HCALL.out.mono ?_
      rintro x w1 ⟨rfl, b1⟩
      have hb2 : Below w.heap.size w w1 := HB.out.trans ⟨b1.os, b1.tape, b1.output, b1.size, fun i hi => b1.block i (by have := HB.out.size; omega)⟩
      have HB2 := Lib.hid hb2
      clear b1 hb2
      cases b with
      | true =>
        go_wp2_with fail
        go_ret
        exact ⟨k, rfl, ⟨fun _ => HIN.out (by trivial), fun _ => k1⟩, HB2.out⟩
      | false =>
        go_wp2_with fail
        go_roundw
        case rel => exact ⟨k + 1, by omega, by go_num, Lib.hid (by rw [HTK.out, HRT.out]; rfl), HB2.out⟩
        case measure => simp [intOf]; omega
    · have hkn : k = l.length := by omega
      have HK := Lib.hid hkn
      have HB := Lib.hid hb
      clear hkn hb
      go_wp2_with fail
      go_ret
      have := HRT.out
      rw [HK.out, List.take_length] at this
      exact ⟨-1, rfl, ⟨fun h => by omega, fun h => by rw [this] at h; cases h⟩, HB.out⟩

theorem containsFunc_right1 (w : World) (A : Option Addr) (cap : Nat) (l : List Ev) (hr : Rd w 4 A l.length (l.flatMap encE)) (hl : l.length < 4611686018427387904) (p : Ev → Bool)
    (hf : ∀ u e, Below w.heap.size w u → Calls Tryz.prog 121 #[valE e] u fun x w' => x = .returned (.bool (p e)) ∧ Below u.heap.size u w') :
    Calls Tryz.prog 120 #[.slice A l.length cap, .func (.func 121) #[] #[]] w fun x w' => x = .returned (.bool (l.any p)) ∧ Below w.heap.size w w' := by
  have H := Lib.hid (indexFunc_right1 w A cap l hr hl p hf)
  clear hr hf
  go_enter Tryz.func120, Tryz.ntmps120
  go_wp2_with fail
  refine H.out.mono ?_
  rintro x w1 ⟨n, rfl, hn, b1⟩
  have HN := Lib.hid hn
  have HB := Lib.hid b1
  clear hn b1
  go_wp2_with fail
  go_ret
  refine ⟨?_, HB.out⟩
  have : decide (0 ≤ n) = l.any p := by
    rw [Bool.eq_iff_iff, decide_eq_true_iff]; exact HN.out
  rw [← this]
  rfl

theorem indexFunc_lev1 (w : World) (X : Nat) (A : Option Addr) (cap : Nat) (l : List Ev) (hr : Rd w 4 A l.length (l.flatMap encE)) (hl : l.length < 4611686018427387904) (p : Ev → Bool)
    (hf : ∀ u e, Below w.heap.size w u → Calls Tryz.prog 128 #[valE e, .pointer (some ⟨X, 0, none⟩)] u fun x w' => x = .returned (.bool (p e)) ∧ Below u.heap.size u w') :
    Calls Tryz.prog 145 #[.slice A l.length cap, .func (.func 128) #[] #[.pointer (some ⟨X, 0, none⟩)]] w fun x w' => ∃ n : Int, x = .returned (.int .i64 n) ∧ ((0 ≤ n) ↔ l.any p = true) ∧ Below w.heap.size w w' := by
  have HC := Lib.hid (evs_cell hr.toB)
  have HF := Lib.hid hf
  clear hr hf
  go_enter Tryz.func145, Tryz.ntmps145
  go_wp2_with fail
  go_loopw [8] (fun v wr => ∃ k : Nat, k ≤ l.length ∧ v = .int .i64 k ∧ Hid ((l.take k).any p = false) ∧ Below w.heap.size w wr) (fun v _ => l.length - (intOf v).toNat)
  case atStart => exact ⟨0, Nat.zero_le _, rfl, Lib.hid rfl, Below.refl _ _⟩
  case round =>
    obtain ⟨k, hk, rfl, HRT, hb⟩ := hrel
    by_cases hlt : k < l.length
    · obtain ⟨g, o, rfl, hg, hcl⟩ := HC.out k hlt
      obtain ⟨v0, v1, v2, v3⟩ := hcl wr hb
      have k1 : (0 : Int) ≤ (k : Int) := Int.natCast_nonneg _
      have k2 : (k : Int) < (l.length : Int) := by omega
      have hcall := HF.out wr l[k] hb
      have htk := any_take (p := p) hlt
      obtain ⟨b, hbb⟩ : ∃ b, b = p l[k] := ⟨_, rfl⟩
      have hin : b = true → l.any p = true := fun h => List.any_eq_true.2 ⟨l[k], List.getElem_mem hlt, by rw [← hbb, h]⟩
      rw [← hbb] at hcall htk
      unfold valE at hcall
      have HCALL := Lib.hid hcall
      have HTK := Lib.hid htk
      have HIN := Lib.hid hin
      have HB := Lib.hid hb
      clear hcall htk hin hcl hbb hb
      go_wp2_with fail
      refine HCALL.out.mono ?_
      rintro x w1 ⟨rfl, b1⟩
      have hb2 : Below w.heap.size w w1 := HB.out.trans ⟨b1.os, b1.tape, b1.output, b1.size, fun i hi => b1.block i (by have := HB.out.size; omega)⟩
      have HB2 := Lib.hid hb2
      clear b1 hb2
      cases b with
      | true =>
        go_wp2_with fail
        go_ret
        exact ⟨k, rfl, ⟨fun _ => HIN.out (by trivial), fun _ => k1⟩, HB2.out⟩
      | false =>
        go_wp2_with fail
        go_roundw
        case rel => exact ⟨k + 1, by omega, by go_num, Lib.hid (by rw [HTK.out, HRT.out]; rfl), HB2.out⟩
        case measure => simp [intOf]; omega
    · have hkn : k = l.length := by omega
      have HK := Lib.hid hkn
      have HB := Lib.hid hb
      clear hkn hb
      go_wp2_with fail
      go_ret
      have := HRT.out
      rw [HK.out, List.take_length] at this
      exact ⟨-1, rfl, ⟨fun h => by omega, fun h => by rw [this] at h; cases h⟩, HB.out⟩

theorem containsFunc_lev1 (w : World) (X : Nat) (A : Option Addr) (cap : Nat) (l : List Ev) (hr : Rd w 4 A l.length (l.flatMap encE)) (hl : l.length < 4611686018427387904) (p : Ev → Bool)
    (hf : ∀ u e, Below w.heap.size w u → Calls Tryz.prog 128 #[valE e, .pointer (some ⟨X, 0, none⟩)] u fun x w' => x = .returned (.bool (p e)) ∧ Below u.heap.size u w') :
    Calls Tryz.prog 120 #[.slice A l.length cap, .func (.func 128) #[] #[.pointer (some ⟨X, 0, none⟩)]] w fun x w' => x = .returned (.bool (l.any p)) ∧ Below w.heap.size w w' := by
  have H := Lib.hid (indexFunc_lev1 w X A cap l hr hl p hf)
  clear hr hf
  go_enter Tryz.func120, Tryz.ntmps120
  go_wp2_with fail
  refine H.out.mono ?_
  rintro x w1 ⟨n, rfl, hn, b1⟩
  have HN := Lib.hid hn
  have HB := Lib.hid b1
  clear hn b1
  go_wp2_with fail
  go_ret
  refine ⟨?_, HB.out⟩
  have : decide (0 ≤ n) = l.any p := by
    rw [Bool.eq_iff_iff, decide_eq_true_iff]; exact HN.out
  rw [← this]
  rfl

end Go.Proofs.YtcaapoacmfjnmaaGreat
