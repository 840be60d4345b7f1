/- What an instruction does. -/
import Derived.Test.YtcaapoacmfjnmaaGreatStJ
namespace Go.Proofs.YtcaapoacmfjnmaaGreat
open Go.RowKit
set_option linter.unusedVariables false

namespace Pr
def regs (s : St) (t : Nat) (x : Th) (q : Nat) (v : Int) : St := { s with th := s.th.set t { x with r := updI x.r q v } }
end Pr
theorem SAt.set_r {w : World} {C : Nat → Prop} {S T : Nat} {s : St} (h : SAt w C S T s) {t : Nat} {x : Th} (hx : s.th[t]? = some x) {q : Nat} (hq : q < 2) (v : Int) :
    SAt (w.setCell ⟨T, t * 4 + 2 + q, none⟩ (.int .i64 v)) C S T (Pr.regs s t x q v) ∧ Mod (fun k => k = T) w (w.setCell ⟨T, t * 4 + 2 + q, none⟩ (.int .i64 v)) := by
  rw [Nat.add_assoc]
  exact h.set_th hx (2 + q) (by omega) _ (by rcases (show q = 0 ∨ q = 1 by omega) with rfl | rfl <;> simp [encT, updI])
theorem SAt.set_pc {w : World} {C : Nat → Prop} {S T : Nat} {s : St} (h : SAt w C S T s) {t : Nat} {x : Th} (hx : s.th[t]? = some x) (n : Nat) :
    SAt (w.setCell ⟨T, t * 4, none⟩ (.int .i64 (n : Int))) C S T { s with th := s.th.set t { x with pc := n } } ∧ Mod (fun k => k = T) w (w.setCell ⟨T, t * 4, none⟩ (.int .i64 (n : Int))) :=
  h.set_th hx 0 (by omega) _ rfl
theorem SAt.set_fuel {w : World} {C : Nat → Prop} {S T : Nat} {s : St} (h : SAt w C S T s) {t : Nat} {x : Th} (hx : s.th[t]? = some x) (n : Nat) :
    SAt (w.setCell ⟨T, t * 4 + 1, none⟩ (.int .i64 (n : Int))) C S T { s with th := s.th.set t { x with fuel := n } } ∧ Mod (fun k => k = T) w (w.setCell ⟨T, t * 4 + 1, none⟩ (.int .i64 (n : Int))) :=
  h.set_th hx 1 (by omega) _ rfl

set_option maxRecDepth 100000 in
set_option maxHeartbeats 2000000 in
theorem load_any (w : World) (C : Nat → Prop) (S T : Nat) (s : St) (t : Nat) (x : Th) (k n : Int) (q m : Nat) (h : SAt w C S T s) (hx : s.th[t]? = some x) (hn4 : s.th.length ≤ 4) (hq2 : q < 2) (hm4 : m < 4) :
    Calls Tryz.prog 101 #[.pointer (some ⟨S, 0, none⟩), .int .i64 (t : Int), valI ⟨k, (q : Int), (m : Int), n⟩] w fun y w' => y = .returned (.tuple #[]) ∧ SAt w' C S T (Pr.regs s t x q (s.v m)) ∧ Mod (fun k => k = S ∨ k = T) w w' := by
  obtain ⟨Wz, Z, hWz, hZ, hBz, hZl, hZe⟩ := ins_box w ⟨k, (q : Int), (m : Int), n⟩
  have hS := h.below hBz
  obtain ⟨nn, hnn⟩ : ∃ n, n = s.th.length := ⟨_, rfl⟩
  have htn : t < nn := by rw [hnn]; exact (List.getElem?_eq_some_iff.1 hx).1
  have hl4 : nn ≤ 4 := by rw [hnn]; exact hn4
  have HZE := Lib.hid hZe
  have HS := Lib.hid hS
  have HB := Lib.hid hBz
  have HX := Lib.hid hx
  have HTN := Lib.hid hnn.symm
  have k1 : (0 : Int) ≤ (q : Int) := Int.natCast_nonneg _
  have k2 : (q : Int) < 2 := by omega
  have k3 : (0 : Int) ≤ (t : Int) := Int.natCast_nonneg _
  have k4 : (t : Int) < (nn : Int) := by omega
  have k5 : (0 : Int) ≤ (m : Int) := Int.natCast_nonneg _
  have k6 : (m : Int) < 4 := by omega
  simp only at hWz
  unfold valI
  simp only
  clear hZe hS hBz h hx hnn hZl hn4
  go_enter Tryz.func101, Tryz.ntmps101
  go_upto_region 1 with fail
  rw [← hWz, ← hZ]
  clear hWz hZ
  refine wp_region_planF (by kernel_rfl) (fun u => Below Wz.heap.size Wz u) [17] [(0, .pure), (1, .pure), (2, .pure), (3, .load), (4, .pure), (5, .pure), (6, .load), (7, .pure), (8, .pure), (9, .load), (10, .pure), (11, .pure), (12, .pure), (13, .load), (14, .pure), (15, .pure), (16, .pure), (17, .last)] (by simp only [List.map_cons, List.map_nil, List.getElem?_toArray, List.getElem?_cons_succ, List.getElem?_cons_zero]; rfl) (by kernel_rfl) (fun _ _ d _ _ h => by cases d <;> exact h) ((Below.refl _ _).drew) ?_
  obtain ⟨Wd, hWd⟩ : ∃ z, z = Wz.drew := ⟨_, rfl⟩
  rw [← hWd]
  have hbd : Below Wz.heap.size Wz Wd := by rw [hWd]; exact (Below.refl _ _).drew
  have HBD := Lib.hid hbd
  clear hWd hbd
  repeat (first
    | (refine plan_pure (v := ?_) (by rfl) (fun w1 => ?_) ?_
       rotate_left
       · go_simp <;> with_reducible rfl
       simp only [Act.put, List.setIfInBounds_toArray, List.set_cons_zero, List.set_cons_succ])
    | (refine plan_off (by rfl) ?_
       simp only [Act.put, List.setIfInBounds_toArray, List.set_cons_zero, List.set_cons_succ])
    | (refine plan_load_off (by rfl) ?_
       simp only [Act.put, List.setIfInBounds_toArray, List.set_cons_zero, List.set_cons_succ])
    | (refine plan_load (v := ?_) (by rfl) (fun w1 hw1 => ?_) ?_
       rotate_left
       · (have q0 := (HZE.out w1 hw1).1
          have a1 := q0.2.1
          have a2 := q0.2.2.1
          have a3 := q0.2.2.2
          simp only [Nat.zero_add] at a1 a2 a3
          clear q0
          have hq := HS.out.below hw1
          have z3 := HS.out.z3 hw1
          obtain ⟨PA, pc, tc, _, _, _, _, zv, zh, _⟩ := hq.cells
          have b1 := (hq.thread t x HX.out).2.2 q hq2
          rw [HTN.out] at z3
          have ql := hq.lt.2
          have qs := hq.lt.1
          have c1 := zv m hm4
          clear hq zv zh
          clear hw1
          go_simp <;> with_reducible rfl)
       simp only [Act.put, List.setIfInBounds_toArray, List.set_cons_zero, List.set_cons_succ]))
  have hSd := HS.out.below HBD.out
  obtain ⟨hs, hm⟩ := hSd.set_r HX.out hq2 (s.v m)
  have HSS := Lib.hid hs
  have HMM := Lib.hid hm
  have t1 := (hSd.thread t x HX.out).2.2 q hq2
  have f1 := hSd.free.2 (t * 4 + 2 + q)
  have tl := hSd.lt.2
  have sl := hSd.lt.1
  clear hSd hs hm
  refine plan_last ?_
  go_wp2_with fail
  repeat (first
    | (refine plan_pure (v := ?_) (by rfl) (fun w1 => ?_) ?_
       rotate_left
       · go_simp <;> with_reducible rfl
       simp only [Act.put, List.setIfInBounds_toArray, List.set_cons_zero, List.set_cons_succ])
    | (refine plan_off (by rfl) ?_
       simp only [Act.put, List.setIfInBounds_toArray, List.set_cons_zero, List.set_cons_succ])
    | (refine plan_load_off (by rfl) ?_
       simp only [Act.put, List.setIfInBounds_toArray, List.set_cons_zero, List.set_cons_succ])
    | (refine plan_load (v := ?_) (by rfl) (fun w1 hw1 => ?_) ?_
       rotate_left
       · (skip
          clear hw1
          go_simp <;> with_reducible rfl)
       simp only [Act.put, List.setIfInBounds_toArray, List.set_cons_zero, List.set_cons_succ]))
  refine plan_end ?_
  go_wp2_with fail
  go_end0
  exact ⟨rfl, HSS.out, ((Mod.of_below_size HB.out _).trans ((Mod.of_below HBD.out).mono (fun k hk e => by omega))).trans (HMM.out.mono (fun k _ e => Or.inr e))⟩

set_option maxRecDepth 100000 in
set_option maxHeartbeats 2000000 in
theorem store_any (w : World) (C : Nat → Prop) (S T : Nat) (s : St) (t : Nat) (x : Th) (k n : Int) (q m : Nat) (h : SAt w C S T s) (hx : s.th[t]? = some x) (hn4 : s.th.length ≤ 4) (hq2 : q < 2) (hm4 : m < 4) :
    Calls Tryz.prog 102 #[.pointer (some ⟨S, 0, none⟩), .int .i64 (t : Int), valI ⟨k, (q : Int), (m : Int), n⟩] w fun y w' => y = .returned (.tuple #[]) ∧ SAt w' C S T { s with v := updI s.v m (x.r q) } ∧ Mod (fun k => k = S ∨ k = T) w w' := by
  obtain ⟨Wz, Z, hWz, hZ, hBz, hZl, hZe⟩ := ins_box w ⟨k, (q : Int), (m : Int), n⟩
  have hS := h.below hBz
  obtain ⟨nn, hnn⟩ : ∃ n, n = s.th.length := ⟨_, rfl⟩
  have htn : t < nn := by rw [hnn]; exact (List.getElem?_eq_some_iff.1 hx).1
  have hl4 : nn ≤ 4 := by rw [hnn]; exact hn4
  have HZE := Lib.hid hZe
  have HS := Lib.hid hS
  have HB := Lib.hid hBz
  have HX := Lib.hid hx
  have HTN := Lib.hid hnn.symm
  have k1 : (0 : Int) ≤ (q : Int) := Int.natCast_nonneg _
  have k2 : (q : Int) < 2 := by omega
  have k3 : (0 : Int) ≤ (t : Int) := Int.natCast_nonneg _
  have k4 : (t : Int) < (nn : Int) := by omega
  have k5 : (0 : Int) ≤ (m : Int) := Int.natCast_nonneg _
  have k6 : (m : Int) < 4 := by omega
  simp only at hWz
  unfold valI
  simp only
  clear hZe hS hBz h hx hnn hZl hn4
  go_enter Tryz.func102, Tryz.ntmps102
  go_upto_region 1 with fail
  rw [← hWz, ← hZ]
  clear hWz hZ
  refine wp_region_planF (by kernel_rfl) (fun u => Below Wz.heap.size Wz u) [17] [(0, .pure), (1, .pure), (2, .load), (3, .pure), (4, .pure), (5, .pure), (6, .load), (7, .pure), (8, .pure), (9, .load), (10, .pure), (11, .pure), (12, .pure), (13, .load), (14, .pure), (15, .pure), (16, .pure), (17, .last)] (by simp only [List.map_cons, List.map_nil, List.getElem?_toArray, List.getElem?_cons_succ, List.getElem?_cons_zero]; rfl) (by kernel_rfl) (fun _ _ d _ _ h => by cases d <;> exact h) ((Below.refl _ _).drew) ?_
  obtain ⟨Wd, hWd⟩ : ∃ z, z = Wz.drew := ⟨_, rfl⟩
  rw [← hWd]
  have hbd : Below Wz.heap.size Wz Wd := by rw [hWd]; exact (Below.refl _ _).drew
  have HBD := Lib.hid hbd
  clear hWd hbd
  repeat (first
    | (refine plan_pure (v := ?_) (by rfl) (fun w1 => ?_) ?_
       rotate_left
       · go_simp <;> with_reducible rfl
       simp only [Act.put, List.setIfInBounds_toArray, List.set_cons_zero, List.set_cons_succ])
    | (refine plan_off (by rfl) ?_
       simp only [Act.put, List.setIfInBounds_toArray, List.set_cons_zero, List.set_cons_succ])
    | (refine plan_load_off (by rfl) ?_
       simp only [Act.put, List.setIfInBounds_toArray, List.set_cons_zero, List.set_cons_succ])
    | (refine plan_load (v := ?_) (by rfl) (fun w1 hw1 => ?_) ?_
       rotate_left
       · (have q0 := (HZE.out w1 hw1).1
          have a1 := q0.2.1
          have a2 := q0.2.2.1
          have a3 := q0.2.2.2
          simp only [Nat.zero_add] at a1 a2 a3
          clear q0
          have hq := HS.out.below hw1
          have z3 := HS.out.z3 hw1
          obtain ⟨PA, pc, tc, _, _, _, _, zv, zh, _⟩ := hq.cells
          have b1 := (hq.thread t x HX.out).2.2 q hq2
          rw [HTN.out] at z3
          have ql := hq.lt.2
          have qs := hq.lt.1
          have c1 := zv m hm4
          clear hq zv zh
          clear hw1
          go_simp <;> with_reducible rfl)
       simp only [Act.put, List.setIfInBounds_toArray, List.set_cons_zero, List.set_cons_succ]))
  have hSd := HS.out.below HBD.out
  obtain ⟨hs, hm⟩ := hSd.set_v hm4 (x.r q)
  have HSS := Lib.hid hs
  have HMM := Lib.hid hm
  obtain ⟨PA, pc, tc, _, _, _, _, zv, _, _⟩ := hSd.cells
  have c1 := zv m hm4
  have f1 := hSd.free.1 (4 + m)
  clear zv
  have tl := hSd.lt.2
  have sl := hSd.lt.1
  clear hSd hs hm
  refine plan_last ?_
  go_wp2_with fail
  repeat (first
    | (refine plan_pure (v := ?_) (by rfl) (fun w1 => ?_) ?_
       rotate_left
       · go_simp <;> with_reducible rfl
       simp only [Act.put, List.setIfInBounds_toArray, List.set_cons_zero, List.set_cons_succ])
    | (refine plan_off (by rfl) ?_
       simp only [Act.put, List.setIfInBounds_toArray, List.set_cons_zero, List.set_cons_succ])
    | (refine plan_load_off (by rfl) ?_
       simp only [Act.put, List.setIfInBounds_toArray, List.set_cons_zero, List.set_cons_succ])
    | (refine plan_load (v := ?_) (by rfl) (fun w1 hw1 => ?_) ?_
       rotate_left
       · (skip
          clear hw1
          go_simp <;> with_reducible rfl)
       simp only [Act.put, List.setIfInBounds_toArray, List.set_cons_zero, List.set_cons_succ]))
  refine plan_end ?_
  go_wp2_with fail
  go_end0
  exact ⟨rfl, HSS.out, ((Mod.of_below_size HB.out _).trans ((Mod.of_below HBD.out).mono (fun k hk e => by omega))).trans (HMM.out.mono (fun k _ e => Or.inl e))⟩

set_option maxRecDepth 100000 in
set_option maxHeartbeats 2000000 in
theorem set_any (w : World) (C : Nat → Prop) (S T : Nat) (s : St) (t : Nat) (x : Th) (k n : Int) (q m : Nat) (h : SAt w C S T s) (hx : s.th[t]? = some x) (hn4 : s.th.length ≤ 4) (hq2 : q < 2) (hm4 : m < 4) :
    Calls Tryz.prog 103 #[.pointer (some ⟨S, 0, none⟩), .int .i64 (t : Int), valI ⟨k, (q : Int), (m : Int), n⟩] w fun y w' => y = .returned (.tuple #[]) ∧ SAt w' C S T (Pr.regs s t x q n) ∧ Mod (fun k => k = S ∨ k = T) w w' := by
  obtain ⟨Wz, Z, hWz, hZ, hBz, hZl, hZe⟩ := ins_box w ⟨k, (q : Int), (m : Int), n⟩
  have hS := h.below hBz
  obtain ⟨nn, hnn⟩ : ∃ n, n = s.th.length := ⟨_, rfl⟩
  have htn : t < nn := by rw [hnn]; exact (List.getElem?_eq_some_iff.1 hx).1
  have hl4 : nn ≤ 4 := by rw [hnn]; exact hn4
  have HZE := Lib.hid hZe
  have HS := Lib.hid hS
  have HB := Lib.hid hBz
  have HX := Lib.hid hx
  have HTN := Lib.hid hnn.symm
  have k1 : (0 : Int) ≤ (q : Int) := Int.natCast_nonneg _
  have k2 : (q : Int) < 2 := by omega
  have k3 : (0 : Int) ≤ (t : Int) := Int.natCast_nonneg _
  have k4 : (t : Int) < (nn : Int) := by omega
  have k5 : (0 : Int) ≤ (m : Int) := Int.natCast_nonneg _
  have k6 : (m : Int) < 4 := by omega
  simp only at hWz
  unfold valI
  simp only
  clear hZe hS hBz h hx hnn hZl hn4
  go_enter Tryz.func103, Tryz.ntmps103
  go_upto_region 1 with fail
  rw [← hWz, ← hZ]
  clear hWz hZ
  refine wp_region_planF (by kernel_rfl) (fun u => Below Wz.heap.size Wz u) [12] [(0, .pure), (1, .pure), (2, .pure), (3, .load), (4, .pure), (5, .pure), (6, .load), (7, .pure), (8, .load), (9, .pure), (10, .pure), (11, .pure), (12, .last)] (by simp only [List.map_cons, List.map_nil, List.getElem?_toArray, List.getElem?_cons_succ, List.getElem?_cons_zero]; rfl) (by kernel_rfl) (fun _ _ d _ _ h => by cases d <;> exact h) ((Below.refl _ _).drew) ?_
  obtain ⟨Wd, hWd⟩ : ∃ z, z = Wz.drew := ⟨_, rfl⟩
  rw [← hWd]
  have hbd : Below Wz.heap.size Wz Wd := by rw [hWd]; exact (Below.refl _ _).drew
  have HBD := Lib.hid hbd
  clear hWd hbd
  repeat (first
    | (refine plan_pure (v := ?_) (by rfl) (fun w1 => ?_) ?_
       rotate_left
       · go_simp <;> with_reducible rfl
       simp only [Act.put, List.setIfInBounds_toArray, List.set_cons_zero, List.set_cons_succ])
    | (refine plan_off (by rfl) ?_
       simp only [Act.put, List.setIfInBounds_toArray, List.set_cons_zero, List.set_cons_succ])
    | (refine plan_load_off (by rfl) ?_
       simp only [Act.put, List.setIfInBounds_toArray, List.set_cons_zero, List.set_cons_succ])
    | (refine plan_load (v := ?_) (by rfl) (fun w1 hw1 => ?_) ?_
       rotate_left
       · (have q0 := (HZE.out w1 hw1).1
          have a1 := q0.2.1
          have a2 := q0.2.2.1
          have a3 := q0.2.2.2
          simp only [Nat.zero_add] at a1 a2 a3
          clear q0
          have hq := HS.out.below hw1
          have z3 := HS.out.z3 hw1
          obtain ⟨PA, pc, tc, _, _, _, _, zv, zh, _⟩ := hq.cells
          have b1 := (hq.thread t x HX.out).2.2 q hq2
          rw [HTN.out] at z3
          have ql := hq.lt.2
          have qs := hq.lt.1
          have c1 := zv m hm4
          clear hq zv zh
          clear hw1
          go_simp <;> with_reducible rfl)
       simp only [Act.put, List.setIfInBounds_toArray, List.set_cons_zero, List.set_cons_succ]))
  have hSd := HS.out.below HBD.out
  obtain ⟨hs, hm⟩ := hSd.set_r HX.out hq2 n
  have HSS := Lib.hid hs
  have HMM := Lib.hid hm
  have t1 := (hSd.thread t x HX.out).2.2 q hq2
  have f1 := hSd.free.2 (t * 4 + 2 + q)
  have tl := hSd.lt.2
  have sl := hSd.lt.1
  clear hSd hs hm
  refine plan_last ?_
  go_wp2_with fail
  repeat (first
    | (refine plan_pure (v := ?_) (by rfl) (fun w1 => ?_) ?_
       rotate_left
       · go_simp <;> with_reducible rfl
       simp only [Act.put, List.setIfInBounds_toArray, List.set_cons_zero, List.set_cons_succ])
    | (refine plan_off (by rfl) ?_
       simp only [Act.put, List.setIfInBounds_toArray, List.set_cons_zero, List.set_cons_succ])
    | (refine plan_load_off (by rfl) ?_
       simp only [Act.put, List.setIfInBounds_toArray, List.set_cons_zero, List.set_cons_succ])
    | (refine plan_load (v := ?_) (by rfl) (fun w1 hw1 => ?_) ?_
       rotate_left
       · (skip
          clear hw1
          go_simp <;> with_reducible rfl)
       simp only [Act.put, List.setIfInBounds_toArray, List.set_cons_zero, List.set_cons_succ]))
  refine plan_end ?_
  go_wp2_with fail
  go_end0
  exact ⟨rfl, HSS.out, ((Mod.of_below_size HB.out _).trans ((Mod.of_below HBD.out).mono (fun k hk e => by omega))).trans (HMM.out.mono (fun k _ e => Or.inr e))⟩

set_option maxRecDepth 100000 in
set_option maxHeartbeats 2000000 in
theorem add_any (w : World) (C : Nat → Prop) (S T : Nat) (s : St) (t : Nat) (x : Th) (k n : Int) (q m : Nat) (h : SAt w C S T s) (hx : s.th[t]? = some x) (hn4 : s.th.length ≤ 4) (hq2 : q < 2) (hm4 : m < 4) :
    Calls Tryz.prog 104 #[.pointer (some ⟨S, 0, none⟩), .int .i64 (t : Int), valI ⟨k, (q : Int), (m : Int), n⟩] w fun y w' => y = .returned (.tuple #[]) ∧ SAt w' C S T (Pr.regs s t x q (wrap64 (x.r q + n))) ∧ Mod (fun k => k = S ∨ k = T) w w' := by
  obtain ⟨Wz, Z, hWz, hZ, hBz, hZl, hZe⟩ := ins_box w ⟨k, (q : Int), (m : Int), n⟩
  have hS := h.below hBz
  obtain ⟨nn, hnn⟩ : ∃ n, n = s.th.length := ⟨_, rfl⟩
  have htn : t < nn := by rw [hnn]; exact (List.getElem?_eq_some_iff.1 hx).1
  have hl4 : nn ≤ 4 := by rw [hnn]; exact hn4
  have HZE := Lib.hid hZe
  have HS := Lib.hid hS
  have HB := Lib.hid hBz
  have HX := Lib.hid hx
  have HTN := Lib.hid hnn.symm
  have k1 : (0 : Int) ≤ (q : Int) := Int.natCast_nonneg _
  have k2 : (q : Int) < 2 := by omega
  have k3 : (0 : Int) ≤ (t : Int) := Int.natCast_nonneg _
  have k4 : (t : Int) < (nn : Int) := by omega
  have k5 : (0 : Int) ≤ (m : Int) := Int.natCast_nonneg _
  have k6 : (m : Int) < 4 := by omega
  simp only at hWz
  unfold valI
  simp only
  clear hZe hS hBz h hx hnn hZl hn4
  go_enter Tryz.func104, Tryz.ntmps104
  go_upto_region 1 with fail
  rw [← hWz, ← hZ]
  clear hWz hZ
  refine wp_region_planF (by kernel_rfl) (fun u => Below Wz.heap.size Wz u) [17] [(0, .pure), (1, .pure), (2, .pure), (3, .load), (4, .pure), (5, .pure), (6, .load), (7, .pure), (8, .pure), (9, .pure), (10, .load), (11, .pure), (12, .load), (13, .pure), (14, .pure), (15, .pure), (16, .pure), (17, .last)] (by simp only [List.map_cons, List.map_nil, List.getElem?_toArray, List.getElem?_cons_succ, List.getElem?_cons_zero]; rfl) (by kernel_rfl) (fun _ _ d _ _ h => by cases d <;> exact h) ((Below.refl _ _).drew) ?_
  obtain ⟨Wd, hWd⟩ : ∃ z, z = Wz.drew := ⟨_, rfl⟩
  rw [← hWd]
  have hbd : Below Wz.heap.size Wz Wd := by rw [hWd]; exact (Below.refl _ _).drew
  have HBD := Lib.hid hbd
  clear hWd hbd
  repeat (first
    | (refine plan_pure (v := ?_) (by rfl) (fun w1 => ?_) ?_
       rotate_left
       · go_simp <;> with_reducible rfl
       simp only [Act.put, List.setIfInBounds_toArray, List.set_cons_zero, List.set_cons_succ])
    | (refine plan_off (by rfl) ?_
       simp only [Act.put, List.setIfInBounds_toArray, List.set_cons_zero, List.set_cons_succ])
    | (refine plan_load_off (by rfl) ?_
       simp only [Act.put, List.setIfInBounds_toArray, List.set_cons_zero, List.set_cons_succ])
    | (refine plan_load (v := ?_) (by rfl) (fun w1 hw1 => ?_) ?_
       rotate_left
       · (have q0 := (HZE.out w1 hw1).1
          have a1 := q0.2.1
          have a2 := q0.2.2.1
          have a3 := q0.2.2.2
          simp only [Nat.zero_add] at a1 a2 a3
          clear q0
          have hq := HS.out.below hw1
          have z3 := HS.out.z3 hw1
          obtain ⟨PA, pc, tc, _, _, _, _, zv, zh, _⟩ := hq.cells
          have b1 := (hq.thread t x HX.out).2.2 q hq2
          rw [HTN.out] at z3
          have ql := hq.lt.2
          have qs := hq.lt.1
          have c1 := zv m hm4
          clear hq zv zh
          clear hw1
          go_simp <;> with_reducible rfl)
       simp only [Act.put, List.setIfInBounds_toArray, List.set_cons_zero, List.set_cons_succ]))
  have hSd := HS.out.below HBD.out
  obtain ⟨hs, hm⟩ := hSd.set_r HX.out hq2 (wrap64 (x.r q + n))
  have HSS := Lib.hid hs
  have HMM := Lib.hid hm
  have t1 := (hSd.thread t x HX.out).2.2 q hq2
  have f1 := hSd.free.2 (t * 4 + 2 + q)
  have tl := hSd.lt.2
  have sl := hSd.lt.1
  clear hSd hs hm
  refine plan_last ?_
  go_wp2_with fail
  repeat (first
    | (refine plan_pure (v := ?_) (by rfl) (fun w1 => ?_) ?_
       rotate_left
       · go_simp <;> with_reducible rfl
       simp only [Act.put, List.setIfInBounds_toArray, List.set_cons_zero, List.set_cons_succ])
    | (refine plan_off (by rfl) ?_
       simp only [Act.put, List.setIfInBounds_toArray, List.set_cons_zero, List.set_cons_succ])
    | (refine plan_load_off (by rfl) ?_
       simp only [Act.put, List.setIfInBounds_toArray, List.set_cons_zero, List.set_cons_succ])
    | (refine plan_load (v := ?_) (by rfl) (fun w1 hw1 => ?_) ?_
       rotate_left
       · (skip
          clear hw1
          go_simp <;> with_reducible rfl)
       simp only [Act.put, List.setIfInBounds_toArray, List.set_cons_zero, List.set_cons_succ]))
  refine plan_end ?_
  go_wp2_with fail
  go_end0
  exact ⟨rfl, HSS.out, ((Mod.of_below_size HB.out _).trans ((Mod.of_below HBD.out).mono (fun k hk e => by omega))).trans (HMM.out.mono (fun k _ e => Or.inr e))⟩

set_option maxRecDepth 100000 in
set_option maxHeartbeats 2000000 in
theorem lock_any (w : World) (C : Nat → Prop) (S T : Nat) (s : St) (t : Nat) (x : Th) (k n : Int) (q m : Nat) (h : SAt w C S T s) (hx : s.th[t]? = some x) (hn4 : s.th.length ≤ 4) (hq2 : q < 2) (hm4 : m < 2) :
    Calls Tryz.prog 105 #[.pointer (some ⟨S, 0, none⟩), .int .i64 (t : Int), valI ⟨k, (q : Int), (m : Int), n⟩] w fun y w' => y = .returned (.tuple #[]) ∧ SAt w' C S T { s with h := updI s.h m (t : Int) } ∧ Mod (fun k => k = S ∨ k = T) w w' := by
  obtain ⟨Wz, Z, hWz, hZ, hBz, hZl, hZe⟩ := ins_box w ⟨k, (q : Int), (m : Int), n⟩
  have hS := h.below hBz
  obtain ⟨nn, hnn⟩ : ∃ n, n = s.th.length := ⟨_, rfl⟩
  have htn : t < nn := by rw [hnn]; exact (List.getElem?_eq_some_iff.1 hx).1
  have hl4 : nn ≤ 4 := by rw [hnn]; exact hn4
  have HZE := Lib.hid hZe
  have HS := Lib.hid hS
  have HB := Lib.hid hBz
  have HX := Lib.hid hx
  have HTN := Lib.hid hnn.symm
  have k1 : (0 : Int) ≤ (q : Int) := Int.natCast_nonneg _
  have k2 : (q : Int) < 2 := by omega
  have k3 : (0 : Int) ≤ (t : Int) := Int.natCast_nonneg _
  have k4 : (t : Int) < (nn : Int) := by omega
  have k5 : (0 : Int) ≤ (m : Int) := Int.natCast_nonneg _
  have k6 : (m : Int) < 2 := by omega
  simp only at hWz
  unfold valI
  simp only
  clear hZe hS hBz h hx hnn hZl hn4
  go_enter Tryz.func105, Tryz.ntmps105
  go_upto_region 1 with fail
  rw [← hWz, ← hZ]
  clear hWz hZ
  refine wp_region_planF (by kernel_rfl) (fun u => Below Wz.heap.size Wz u) [7] [(0, .pure), (1, .pure), (2, .load), (3, .pure), (4, .pure), (5, .pure), (6, .pure), (7, .last)] (by simp only [List.map_cons, List.map_nil, List.getElem?_toArray, List.getElem?_cons_succ, List.getElem?_cons_zero]; rfl) (by kernel_rfl) (fun _ _ d _ _ h => by cases d <;> exact h) ((Below.refl _ _).drew) ?_
  obtain ⟨Wd, hWd⟩ : ∃ z, z = Wz.drew := ⟨_, rfl⟩
  rw [← hWd]
  have hbd : Below Wz.heap.size Wz Wd := by rw [hWd]; exact (Below.refl _ _).drew
  have HBD := Lib.hid hbd
  clear hWd hbd
  repeat (first
    | (refine plan_pure (v := ?_) (by rfl) (fun w1 => ?_) ?_
       rotate_left
       · go_simp <;> with_reducible rfl
       simp only [Act.put, List.setIfInBounds_toArray, List.set_cons_zero, List.set_cons_succ])
    | (refine plan_off (by rfl) ?_
       simp only [Act.put, List.setIfInBounds_toArray, List.set_cons_zero, List.set_cons_succ])
    | (refine plan_load_off (by rfl) ?_
       simp only [Act.put, List.setIfInBounds_toArray, List.set_cons_zero, List.set_cons_succ])
    | (refine plan_load (v := ?_) (by rfl) (fun w1 hw1 => ?_) ?_
       rotate_left
       · (have q0 := (HZE.out w1 hw1).1
          have a1 := q0.2.1
          have a2 := q0.2.2.1
          have a3 := q0.2.2.2
          simp only [Nat.zero_add] at a1 a2 a3
          clear q0
          have hq := HS.out.below hw1
          have z3 := HS.out.z3 hw1
          obtain ⟨PA, pc, tc, _, _, _, _, zv, zh, _⟩ := hq.cells
          have b1 := (hq.thread t x HX.out).2.2 q hq2
          rw [HTN.out] at z3
          have ql := hq.lt.2
          have qs := hq.lt.1
          have c1 := zh m hm4
          clear hq zv zh
          clear hw1
          go_simp <;> with_reducible rfl)
       simp only [Act.put, List.setIfInBounds_toArray, List.set_cons_zero, List.set_cons_succ]))
  have hSd := HS.out.below HBD.out
  obtain ⟨hs, hm⟩ := hSd.set_h hm4 (t : Int)
  have HSS := Lib.hid hs
  have HMM := Lib.hid hm
  obtain ⟨PA, pc, tc, _, _, _, _, _, zh, _⟩ := hSd.cells
  have c1 := zh m hm4
  have f1 := hSd.free.1 (8 + m)
  clear zh
  have tl := hSd.lt.2
  have sl := hSd.lt.1
  clear hSd hs hm
  refine plan_last ?_
  go_wp2_with fail
  repeat (first
    | (refine plan_pure (v := ?_) (by rfl) (fun w1 => ?_) ?_
       rotate_left
       · go_simp <;> with_reducible rfl
       simp only [Act.put, List.setIfInBounds_toArray, List.set_cons_zero, List.set_cons_succ])
    | (refine plan_off (by rfl) ?_
       simp only [Act.put, List.setIfInBounds_toArray, List.set_cons_zero, List.set_cons_succ])
    | (refine plan_load_off (by rfl) ?_
       simp only [Act.put, List.setIfInBounds_toArray, List.set_cons_zero, List.set_cons_succ])
    | (refine plan_load (v := ?_) (by rfl) (fun w1 hw1 => ?_) ?_
       rotate_left
       · (skip
          clear hw1
          go_simp <;> with_reducible rfl)
       simp only [Act.put, List.setIfInBounds_toArray, List.set_cons_zero, List.set_cons_succ]))
  refine plan_end ?_
  go_wp2_with fail
  go_end0
  exact ⟨rfl, HSS.out, ((Mod.of_below_size HB.out _).trans ((Mod.of_below HBD.out).mono (fun k hk e => by omega))).trans (HMM.out.mono (fun k _ e => Or.inl e))⟩

set_option maxRecDepth 100000 in
set_option maxHeartbeats 2000000 in
theorem unlock_any (w : World) (C : Nat → Prop) (S T : Nat) (s : St) (t : Nat) (x : Th) (k n : Int) (q m : Nat) (h : SAt w C S T s) (hx : s.th[t]? = some x) (hn4 : s.th.length ≤ 4) (hq2 : q < 2) (hm4 : m < 2) (s' : St) (hs' : s' = if s.h m = (t : Int) then { s with h := updI s.h m (-1) } else s) :
    Calls Tryz.prog 106 #[.pointer (some ⟨S, 0, none⟩), .int .i64 (t : Int), valI ⟨k, (q : Int), (m : Int), n⟩] w fun y w' => y = .returned (.tuple #[]) ∧ SAt w' C S T s' ∧ Mod (fun k => k = S ∨ k = T) w w' := by
  have HSP := Lib.hid hs'
  clear hs'
  obtain ⟨Wz, Z, hWz, hZ, hBz, hZl, hZe⟩ := ins_box w ⟨k, (q : Int), (m : Int), n⟩
  have hS := h.below hBz
  obtain ⟨nn, hnn⟩ : ∃ n, n = s.th.length := ⟨_, rfl⟩
  have htn : t < nn := by rw [hnn]; exact (List.getElem?_eq_some_iff.1 hx).1
  have hl4 : nn ≤ 4 := by rw [hnn]; exact hn4
  have HZE := Lib.hid hZe
  have HS := Lib.hid hS
  have HB := Lib.hid hBz
  have HX := Lib.hid hx
  have HTN := Lib.hid hnn.symm
  have k1 : (0 : Int) ≤ (q : Int) := Int.natCast_nonneg _
  have k2 : (q : Int) < 2 := by omega
  have k3 : (0 : Int) ≤ (t : Int) := Int.natCast_nonneg _
  have k4 : (t : Int) < (nn : Int) := by omega
  have k5 : (0 : Int) ≤ (m : Int) := Int.natCast_nonneg _
  have k6 : (m : Int) < 2 := by omega
  simp only at hWz
  unfold valI
  simp only
  clear hZe hS hBz h hx hnn hZl hn4
  go_enter Tryz.func106, Tryz.ntmps106
  go_upto_region 1 with fail
  rw [← hWz, ← hZ]
  clear hWz hZ
  refine wp_region_planF (by kernel_rfl) (fun u => Below Wz.heap.size Wz u) [] [(0, .pure), (1, .pure), (2, .load), (3, .pure), (4, .pure), (5, .pure), (6, .load), (7, .pure), (8, .pure)] (by simp only [List.map_cons, List.map_nil, List.getElem?_toArray, List.getElem?_cons_succ, List.getElem?_cons_zero]; rfl) (by kernel_rfl) (fun _ _ d _ _ h => by cases d <;> exact h) ((Below.refl _ _).drew) ?_
  obtain ⟨Wd, hWd⟩ : ∃ z, z = Wz.drew := ⟨_, rfl⟩
  rw [← hWd]
  have hbd : Below Wz.heap.size Wz Wd := by rw [hWd]; exact (Below.refl _ _).drew
  have HBD := Lib.hid hbd
  clear hWd hbd
  by_cases hh : s.h m = (t : Int)
  · have hd : (s.h m == (t : Int)) = true := by simpa using hh
    have HH := Lib.hid hh
    repeat (first
      | (refine plan_pure (v := ?_) (by rfl) (fun w1 => ?_) ?_
         rotate_left
         · go_simp <;> with_reducible rfl
         simp only [Act.put, List.setIfInBounds_toArray, List.set_cons_zero, List.set_cons_succ])
      | (refine plan_off (by rfl) ?_
         simp only [Act.put, List.setIfInBounds_toArray, List.set_cons_zero, List.set_cons_succ])
      | (refine plan_load_off (by rfl) ?_
         simp only [Act.put, List.setIfInBounds_toArray, List.set_cons_zero, List.set_cons_succ])
      | (refine plan_load (v := ?_) (by rfl) (fun w1 hw1 => ?_) ?_
         rotate_left
         · (have q0 := (HZE.out w1 hw1).1
            have a1 := q0.2.1
            have a2 := q0.2.2.1
            have a3 := q0.2.2.2
            simp only [Nat.zero_add] at a1 a2 a3
            clear q0
            have hq := HS.out.below hw1
            have z3 := HS.out.z3 hw1
            obtain ⟨PA, pc, tc, _, _, _, _, zv, zh, _⟩ := hq.cells
            have b1 := (hq.thread t x HX.out).2.2 q hq2
            rw [HTN.out] at z3
            have ql := hq.lt.2
            have qs := hq.lt.1
            have c1 := zh m hm4
            clear hq zv zh
            clear hw1
            go_simp <;> with_reducible rfl)
         simp only [Act.put, List.setIfInBounds_toArray, List.set_cons_zero, List.set_cons_succ]))
    refine plan_end ?_
    clear hh
    go_upto_region 2 with fail
    refine wp_region_planF (by kernel_rfl) (fun u => Below Wz.heap.size Wz u) [6] [(0, .pure), (1, .pure), (2, .load), (3, .pure), (4, .pure), (5, .pure), (6, .last)] (by simp only [List.map_cons, List.map_nil, List.getElem?_toArray, List.getElem?_cons_succ, List.getElem?_cons_zero]; rfl) (by kernel_rfl) (fun _ _ d _ _ h => by cases d <;> exact h) (HBD.out.drew) ?_
    obtain ⟨We, hWd⟩ : ∃ z, z = Wd.drew := ⟨_, rfl⟩
    rw [← hWd]
    have hbd : Below Wz.heap.size Wz We := by rw [hWd]; exact HBD.out.drew
    have HBE := Lib.hid hbd
    clear hWd hbd
    repeat (first
      | (refine plan_pure (v := ?_) (by rfl) (fun w1 => ?_) ?_
         rotate_left
         · go_simp <;> with_reducible rfl
         simp only [Act.put, List.setIfInBounds_toArray, List.set_cons_zero, List.set_cons_succ])
      | (refine plan_off (by rfl) ?_
         simp only [Act.put, List.setIfInBounds_toArray, List.set_cons_zero, List.set_cons_succ])
      | (refine plan_load_off (by rfl) ?_
         simp only [Act.put, List.setIfInBounds_toArray, List.set_cons_zero, List.set_cons_succ])
      | (refine plan_load (v := ?_) (by rfl) (fun w1 hw1 => ?_) ?_
         rotate_left
         · (have q0 := (HZE.out w1 hw1).1
            have a1 := q0.2.1
            have a2 := q0.2.2.1
            have a3 := q0.2.2.2
            simp only [Nat.zero_add] at a1 a2 a3
            clear q0
            have hq := HS.out.below hw1
            have z3 := HS.out.z3 hw1
            obtain ⟨PA, pc, tc, _, _, _, _, zv, zh, _⟩ := hq.cells
            have b1 := (hq.thread t x HX.out).2.2 q hq2
            rw [HTN.out] at z3
            have ql := hq.lt.2
            have qs := hq.lt.1
            have c1 := zh m hm4
            clear hq zv zh
            clear hw1
            go_simp <;> with_reducible rfl)
         simp only [Act.put, List.setIfInBounds_toArray, List.set_cons_zero, List.set_cons_succ]))
    have hSd := HS.out.below HBE.out
    obtain ⟨hs, hm⟩ := hSd.set_h hm4 (-1)
    have HSS := Lib.hid hs
    have HMM := Lib.hid hm
    obtain ⟨PA, pc, tc, _, _, _, _, _, zh, _⟩ := hSd.cells
    have c1 := zh m hm4
    have f1 := hSd.free.1 (8 + m)
    clear zh
    have tl := hSd.lt.2
    have sl := hSd.lt.1
    clear hSd hs hm
    refine plan_last ?_
    go_wp2_with fail
    repeat (first
      | (refine plan_pure (v := ?_) (by rfl) (fun w1 => ?_) ?_
         rotate_left
         · go_simp <;> with_reducible rfl
         simp only [Act.put, List.setIfInBounds_toArray, List.set_cons_zero, List.set_cons_succ])
      | (refine plan_off (by rfl) ?_
         simp only [Act.put, List.setIfInBounds_toArray, List.set_cons_zero, List.set_cons_succ])
      | (refine plan_load_off (by rfl) ?_
         simp only [Act.put, List.setIfInBounds_toArray, List.set_cons_zero, List.set_cons_succ])
      | (refine plan_load (v := ?_) (by rfl) (fun w1 hw1 => ?_) ?_
         rotate_left
         · (skip
            clear hw1
            go_simp <;> with_reducible rfl)
         simp only [Act.put, List.setIfInBounds_toArray, List.set_cons_zero, List.set_cons_succ]))
    refine plan_end ?_
    go_wp2_with fail
    go_end0
    exact ⟨rfl, by rw [HSP.out, if_pos HH.out]; exact HSS.out, ((Mod.of_below_size HB.out _).trans ((Mod.of_below HBE.out).mono (fun k hk e => by omega))).trans (HMM.out.mono (fun k _ e => Or.inl e))⟩
  · have hd : (s.h m == (t : Int)) = false := by simpa using hh
    have HH := Lib.hid hh
    repeat (first
      | (refine plan_pure (v := ?_) (by rfl) (fun w1 => ?_) ?_
         rotate_left
         · go_simp <;> with_reducible rfl
         simp only [Act.put, List.setIfInBounds_toArray, List.set_cons_zero, List.set_cons_succ])
      | (refine plan_off (by rfl) ?_
         simp only [Act.put, List.setIfInBounds_toArray, List.set_cons_zero, List.set_cons_succ])
      | (refine plan_load_off (by rfl) ?_
         simp only [Act.put, List.setIfInBounds_toArray, List.set_cons_zero, List.set_cons_succ])
      | (refine plan_load (v := ?_) (by rfl) (fun w1 hw1 => ?_) ?_
         rotate_left
         · (have q0 := (HZE.out w1 hw1).1
            have a1 := q0.2.1
            have a2 := q0.2.2.1
            have a3 := q0.2.2.2
            simp only [Nat.zero_add] at a1 a2 a3
            clear q0
            have hq := HS.out.below hw1
            have z3 := HS.out.z3 hw1
            obtain ⟨PA, pc, tc, _, _, _, _, zv, zh, _⟩ := hq.cells
            have b1 := (hq.thread t x HX.out).2.2 q hq2
            rw [HTN.out] at z3
            have ql := hq.lt.2
            have qs := hq.lt.1
            have c1 := zh m hm4
            clear hq zv zh
            clear hw1
            go_simp <;> with_reducible rfl)
         simp only [Act.put, List.setIfInBounds_toArray, List.set_cons_zero, List.set_cons_succ]))
    refine plan_end ?_
    go_wp2_with fail
    go_end0
    exact ⟨rfl, by rw [HSP.out, if_neg HH.out]; exact HS.out.below HBD.out, (Mod.of_below_size HB.out _).trans ((Mod.of_below HBD.out).mono (fun k hk e => by omega))⟩

set_option maxRecDepth 100000 in
set_option maxHeartbeats 2000000 in
theorem jump_any (w : World) (C : Nat → Prop) (S T : Nat) (s : St) (t : Nat) (x : Th) (k n : Int) (q m : Nat) (h : SAt w C S T s) (hx : s.th[t]? = some x) (hn4 : s.th.length ≤ 4) (hq2 : q < 2) (hm4 : m < 9) (s' : St) (hs' : s' = if x.r q = 0 then s else { s with th := s.th.set t { x with pc := m } }) :
    Calls Tryz.prog 107 #[.pointer (some ⟨S, 0, none⟩), .int .i64 (t : Int), valI ⟨k, (q : Int), (m : Int), n⟩] w fun y w' => y = .returned (.tuple #[]) ∧ SAt w' C S T s' ∧ Mod (fun k => k = S ∨ k = T) w w' := by
  have HSP := Lib.hid hs'
  clear hs'
  obtain ⟨Wz, Z, hWz, hZ, hBz, hZl, hZe⟩ := ins_box w ⟨k, (q : Int), (m : Int), n⟩
  have hS := h.below hBz
  obtain ⟨nn, hnn⟩ : ∃ n, n = s.th.length := ⟨_, rfl⟩
  have htn : t < nn := by rw [hnn]; exact (List.getElem?_eq_some_iff.1 hx).1
  have hl4 : nn ≤ 4 := by rw [hnn]; exact hn4
  have HZE := Lib.hid hZe
  have HS := Lib.hid hS
  have HB := Lib.hid hBz
  have HX := Lib.hid hx
  have HTN := Lib.hid hnn.symm
  have k1 : (0 : Int) ≤ (q : Int) := Int.natCast_nonneg _
  have k2 : (q : Int) < 2 := by omega
  have k3 : (0 : Int) ≤ (t : Int) := Int.natCast_nonneg _
  have k4 : (t : Int) < (nn : Int) := by omega
  have k5 : (0 : Int) ≤ (m : Int) := Int.natCast_nonneg _
  have k6 : (m : Int) < 9 := by omega
  simp only at hWz
  unfold valI
  simp only
  clear hZe hS hBz h hx hnn hZl hn4
  go_enter Tryz.func107, Tryz.ntmps107
  go_upto_region 1 with fail
  rw [← hWz, ← hZ]
  clear hWz hZ
  refine wp_region_planF (by kernel_rfl) (fun u => Below Wz.heap.size Wz u) [] [(0, .pure), (1, .pure), (2, .pure), (3, .load), (4, .pure), (5, .pure), (6, .load), (7, .pure), (8, .pure), (9, .pure), (10, .load), (11, .pure)] (by simp only [List.map_cons, List.map_nil, List.getElem?_toArray, List.getElem?_cons_succ, List.getElem?_cons_zero]; rfl) (by kernel_rfl) (fun _ _ d _ _ h => by cases d <;> exact h) ((Below.refl _ _).drew) ?_
  obtain ⟨Wd, hWd⟩ : ∃ z, z = Wz.drew := ⟨_, rfl⟩
  rw [← hWd]
  have hbd : Below Wz.heap.size Wz Wd := by rw [hWd]; exact (Below.refl _ _).drew
  have HBD := Lib.hid hbd
  clear hWd hbd
  by_cases hh : x.r q = 0
  · have hd : (x.r q == 0) = true := by simpa using hh
    have HH := Lib.hid hh
    repeat (first
      | (refine plan_pure (v := ?_) (by rfl) (fun w1 => ?_) ?_
         rotate_left
         · go_simp <;> with_reducible rfl
         simp only [Act.put, List.setIfInBounds_toArray, List.set_cons_zero, List.set_cons_succ])
      | (refine plan_off (by rfl) ?_
         simp only [Act.put, List.setIfInBounds_toArray, List.set_cons_zero, List.set_cons_succ])
      | (refine plan_load_off (by rfl) ?_
         simp only [Act.put, List.setIfInBounds_toArray, List.set_cons_zero, List.set_cons_succ])
      | (refine plan_load (v := ?_) (by rfl) (fun w1 hw1 => ?_) ?_
         rotate_left
         · (have q0 := (HZE.out w1 hw1).1
            have a1 := q0.2.1
            have a2 := q0.2.2.1
            have a3 := q0.2.2.2
            simp only [Nat.zero_add] at a1 a2 a3
            clear q0
            have hq := HS.out.below hw1
            have z3 := HS.out.z3 hw1
            obtain ⟨PA, pc, tc, _, _, _, _, zv, zh, _⟩ := hq.cells
            have b1 := (hq.thread t x HX.out).2.2 q hq2
            rw [HTN.out] at z3
            have ql := hq.lt.2
            have qs := hq.lt.1
            clear hq zv zh
            clear hw1
            go_simp <;> with_reducible rfl)
         simp only [Act.put, List.setIfInBounds_toArray, List.set_cons_zero, List.set_cons_succ]))
    refine plan_end ?_
    go_wp2_with fail
    go_end0
    exact ⟨rfl, by rw [HSP.out, if_pos HH.out]; exact HS.out.below HBD.out, (Mod.of_below_size HB.out _).trans ((Mod.of_below HBD.out).mono (fun k hk e => by omega))⟩
  · have hd : (x.r q == 0) = false := by simpa using hh
    have hd2 : (x.r q != 0) = true := by simpa using hh
    have HH := Lib.hid hh
    repeat (first
      | (refine plan_pure (v := ?_) (by rfl) (fun w1 => ?_) ?_
         rotate_left
         · go_simp <;> with_reducible rfl
         simp only [Act.put, List.setIfInBounds_toArray, List.set_cons_zero, List.set_cons_succ])
      | (refine plan_off (by rfl) ?_
         simp only [Act.put, List.setIfInBounds_toArray, List.set_cons_zero, List.set_cons_succ])
      | (refine plan_load_off (by rfl) ?_
         simp only [Act.put, List.setIfInBounds_toArray, List.set_cons_zero, List.set_cons_succ])
      | (refine plan_load (v := ?_) (by rfl) (fun w1 hw1 => ?_) ?_
         rotate_left
         · (have q0 := (HZE.out w1 hw1).1
            have a1 := q0.2.1
            have a2 := q0.2.2.1
            have a3 := q0.2.2.2
            simp only [Nat.zero_add] at a1 a2 a3
            clear q0
            have hq := HS.out.below hw1
            have z3 := HS.out.z3 hw1
            obtain ⟨PA, pc, tc, _, _, _, _, zv, zh, _⟩ := hq.cells
            have b1 := (hq.thread t x HX.out).2.2 q hq2
            rw [HTN.out] at z3
            have ql := hq.lt.2
            have qs := hq.lt.1
            clear hq zv zh
            clear hw1
            go_simp <;> with_reducible rfl)
         simp only [Act.put, List.setIfInBounds_toArray, List.set_cons_zero, List.set_cons_succ]))
    refine plan_end ?_
    clear hh
    go_upto_region 2 with fail
    refine wp_region_planF (by kernel_rfl) (fun u => Below Wz.heap.size Wz u) [9] [(0, .pure), (1, .pure), (2, .pure), (3, .load), (4, .pure), (5, .pure), (6, .load), (7, .pure), (8, .pure), (9, .last)] (by simp only [List.map_cons, List.map_nil, List.getElem?_toArray, List.getElem?_cons_succ, List.getElem?_cons_zero]; rfl) (by kernel_rfl) (fun _ _ d _ _ h => by cases d <;> exact h) (HBD.out.drew) ?_
    obtain ⟨We, hWd⟩ : ∃ z, z = Wd.drew := ⟨_, rfl⟩
    rw [← hWd]
    have hbd : Below Wz.heap.size Wz We := by rw [hWd]; exact HBD.out.drew
    have HBE := Lib.hid hbd
    clear hWd hbd
    repeat (first
      | (refine plan_pure (v := ?_) (by rfl) (fun w1 => ?_) ?_
         rotate_left
         · go_simp <;> with_reducible rfl
         simp only [Act.put, List.setIfInBounds_toArray, List.set_cons_zero, List.set_cons_succ])
      | (refine plan_off (by rfl) ?_
         simp only [Act.put, List.setIfInBounds_toArray, List.set_cons_zero, List.set_cons_succ])
      | (refine plan_load_off (by rfl) ?_
         simp only [Act.put, List.setIfInBounds_toArray, List.set_cons_zero, List.set_cons_succ])
      | (refine plan_load (v := ?_) (by rfl) (fun w1 hw1 => ?_) ?_
         rotate_left
         · (have q0 := (HZE.out w1 hw1).1
            have a1 := q0.2.1
            have a2 := q0.2.2.1
            have a3 := q0.2.2.2
            simp only [Nat.zero_add] at a1 a2 a3
            clear q0
            have hq := HS.out.below hw1
            have z3 := HS.out.z3 hw1
            obtain ⟨PA, pc, tc, _, _, _, _, zv, zh, _⟩ := hq.cells
            have b1 := (hq.thread t x HX.out).2.2 q hq2
            rw [HTN.out] at z3
            have ql := hq.lt.2
            have qs := hq.lt.1
            clear hq zv zh
            clear hw1
            go_simp <;> with_reducible rfl)
         simp only [Act.put, List.setIfInBounds_toArray, List.set_cons_zero, List.set_cons_succ]))
    have hSd := HS.out.below HBE.out
    obtain ⟨hs, hm⟩ := hSd.set_pc HX.out m
    have HSS := Lib.hid hs
    have HMM := Lib.hid hm
    have t1 := (hSd.thread t x HX.out).1
    have f1 := hSd.free.2 (t * 4)
    have tl := hSd.lt.2
    have sl := hSd.lt.1
    clear hSd hs hm
    refine plan_last ?_
    go_wp2_with fail
    repeat (first
      | (refine plan_pure (v := ?_) (by rfl) (fun w1 => ?_) ?_
         rotate_left
         · go_simp <;> with_reducible rfl
         simp only [Act.put, List.setIfInBounds_toArray, List.set_cons_zero, List.set_cons_succ])
      | (refine plan_off (by rfl) ?_
         simp only [Act.put, List.setIfInBounds_toArray, List.set_cons_zero, List.set_cons_succ])
      | (refine plan_load_off (by rfl) ?_
         simp only [Act.put, List.setIfInBounds_toArray, List.set_cons_zero, List.set_cons_succ])
      | (refine plan_load (v := ?_) (by rfl) (fun w1 hw1 => ?_) ?_
         rotate_left
         · (skip
            clear hw1
            go_simp <;> with_reducible rfl)
         simp only [Act.put, List.setIfInBounds_toArray, List.set_cons_zero, List.set_cons_succ]))
    refine plan_end ?_
    go_wp2_with fail
    go_end0
    exact ⟨rfl, by rw [HSP.out, if_neg HH.out]; exact HSS.out, ((Mod.of_below_size HB.out _).trans ((Mod.of_below HBE.out).mono (fun k hk e => by omega))).trans (HMM.out.mono (fun k _ e => Or.inr e))⟩

set_option maxRecDepth 100000 in
set_option maxHeartbeats 2000000 in
theorem assert_any (w : World) (C : Nat → Prop) (S T : Nat) (s : St) (t : Nat) (x : Th) (k n : Int) (q m : Nat) (h : SAt w C S T s) (hx : s.th[t]? = some x) (hn4 : s.th.length ≤ 4) (hq2 : q < 2) (hm4 : m < 9) :
    Calls Tryz.prog 108 #[.pointer (some ⟨S, 0, none⟩), .int .i64 (t : Int), valI ⟨k, (q : Int), (m : Int), n⟩] w fun y w' => y = .returned (.tuple #[]) ∧ SAt w' C S T s ∧ Mod (fun k => k = S ∨ k = T) w w' := by
  obtain ⟨Wz, Z, hWz, hZ, hBz, hZl, hZe⟩ := ins_box w ⟨k, (q : Int), (m : Int), n⟩
  have hS := h.below hBz
  obtain ⟨nn, hnn⟩ : ∃ n, n = s.th.length := ⟨_, rfl⟩
  have htn : t < nn := by rw [hnn]; exact (List.getElem?_eq_some_iff.1 hx).1
  have hl4 : nn ≤ 4 := by rw [hnn]; exact hn4
  have HZE := Lib.hid hZe
  have HS := Lib.hid hS
  have HB := Lib.hid hBz
  have HX := Lib.hid hx
  have HTN := Lib.hid hnn.symm
  have k1 : (0 : Int) ≤ (q : Int) := Int.natCast_nonneg _
  have k2 : (q : Int) < 2 := by omega
  have k3 : (0 : Int) ≤ (t : Int) := Int.natCast_nonneg _
  have k4 : (t : Int) < (nn : Int) := by omega
  have k5 : (0 : Int) ≤ (m : Int) := Int.natCast_nonneg _
  have k6 : (m : Int) < 9 := by omega
  simp only at hWz
  unfold valI
  simp only
  clear hZe hS hBz h hx hnn hZl hn4
  go_enter Tryz.func108, Tryz.ntmps108
  go_wp2_with fail
  go_end0
  rw [← hWz]
  exact ⟨rfl, HS.out, Mod.of_below_size HB.out _⟩
end Go.Proofs.YtcaapoacmfjnmaaGreat
