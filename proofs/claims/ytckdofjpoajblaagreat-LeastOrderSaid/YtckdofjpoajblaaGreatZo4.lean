/- Part 4 of the proof of leastOrder_holds: what it rests on. -/
import Derived.Test.YtckdofjpoajblaaGreatZo3
namespace Go.Proofs.YtckdofjpoajblaaGreat
open Go.RowKit
set_option linter.unusedVariables false
namespace Pr
def regs (s : St) (t : Nat) (x : Th) (q : Nat) (v : Int) : St := { s with th := s.th.set t { x with r := updI x.r q v } }
end Pr
theorem SAt.set_r {w : World} {C : Nat → Prop} {S T : Nat} {s : St} (h : SAt w C S T s) {t : Nat} {x : Th} (hx : s.th[t]? = some x) {q : Nat} (hq : q < 2) (v : Int) :
    SAt (w.setCell ⟨T, t * 4 + 2 + q, none⟩ (.int .i64 v)) C S T (Pr.regs s t x q v) ∧ Mod (fun k => k = T) w (w.setCell ⟨T, t * 4 + 2 + q, none⟩ (.int .i64 v)) := by
  rw [Nat.add_assoc]
  exact h.set_th hx (2 + q) (by omega) _ (by rcases (show q = 0 ∨ q = 1 by omega) with rfl | rfl <;> simp [encT, updI])
theorem SAt.set_pc {w : World} {C : Nat → Prop} {S T : Nat} {s : St} (h : SAt w C S T s) {t : Nat} {x : Th} (hx : s.th[t]? = some x) (n : Nat) :
    SAt (w.setCell ⟨T, t * 4, none⟩ (.int .i64 (n : Int))) C S T { s with th := s.th.set t { x with pc := n } } ∧ Mod (fun k => k = T) w (w.setCell ⟨T, t * 4, none⟩ (.int .i64 (n : Int))) :=
  h.set_th hx 0 (by omega) _ rfl
theorem SAt.set_fuel {w : World} {C : Nat → Prop} {S T : Nat} {s : St} (h : SAt w C S T s) {t : Nat} {x : Th} (hx : s.th[t]? = some x) (n : Nat) :
    SAt (w.setCell ⟨T, t * 4 + 1, none⟩ (.int .i64 (n : Int))) C S T { s with th := s.th.set t { x with fuel := n } } ∧ Mod (fun k => k = T) w (w.setCell ⟨T, t * 4 + 1, none⟩ (.int .i64 (n : Int))) :=
  h.set_th hx 1 (by omega) _ rfl
set_option maxRecDepth 100000 in
set_option maxHeartbeats 2000000 in
theorem load_any (w : World) (C : Nat → Prop) (S T : Nat) (s : St) (t : Nat) (x : Th) (k n : Int) (q m : Nat) (h : SAt w C S T s) (hx : s.th[t]? = some x) (hn4 : s.th.length ≤ 4) (hq2 : q < 2) (hm4 : m < 4) :
    Calls Tryz.prog 112 #[.pointer (some ⟨S, 0, none⟩), .int .i64 (t : Int), valI ⟨k, (q : Int), (m : Int), n⟩] w fun y w' => y = .returned (.tuple #[]) ∧ SAt w' C S T (Pr.regs s t x q (s.v m)) ∧ Mod (fun k => k = S ∨ k = T) w w' := by
  obtain ⟨Wz, Z, hWz, hZ, hBz, hZl, hZe⟩ := ins_box w ⟨k, (q : Int), (m : Int), n⟩
  have hS := h.below hBz
  obtain ⟨nn, hnn⟩ : ∃ n, n = s.th.length := ⟨_, rfl⟩
  have htn : t < nn := by rw [hnn]; exact (List.getElem?_eq_some_iff.1 hx).1
  have hl4 : nn ≤ 4 := by rw [hnn]; exact hn4
  have HZE := Lib.hid hZe
  have HS := Lib.hid hS
  have HB := Lib.hid hBz
  have HX := Lib.hid hx
  have HTN := Lib.hid hnn.symm
  have k1 : (0 : Int) ≤ (q : Int) := Int.natCast_nonneg _
  have k2 : (q : Int) < 2 := by omega
  have k3 : (0 : Int) ≤ (t : Int) := Int.natCast_nonneg _
  have k4 : (t : Int) < (nn : Int) := by omega
  have k5 : (0 : Int) ≤ (m : Int) := Int.natCast_nonneg _
  have k6 : (m : Int) < 4 := by omega
  simp only at hWz
  unfold valI
  simp only
  clear hZe hS hBz h hx hnn hZl hn4
  go_enter Tryz.func112, Tryz.ntmps112
  go_upto_region 1 with fail
  rw [← hWz, ← hZ]
  clear hWz hZ
  refine wp_region_planF (by kernel_rfl) (fun u => Below Wz.heap.size Wz u) [17] [(0, .pure), (1, .pure), (2, .pure), (3, .load), (4, .pure), (5, .pure), (6, .load), (7, .pure), (8, .pure), (9, .load), (10, .pure), (11, .pure), (12, .pure), (13, .load), (14, .pure), (15, .pure), (16, .pure), (17, .last)] (by simp only [List.map_cons, List.map_nil, List.getElem?_toArray, List.getElem?_cons_succ, List.getElem?_cons_zero]; rfl) (by kernel_rfl) (fun _ _ d _ _ h => by cases d <;> exact h) ((Below.refl _ _).drew) ?_
  obtain ⟨Wd, hWd⟩ : ∃ z, z = Wz.drew := ⟨_, rfl⟩
  rw [← hWd]
  have hbd : Below Wz.heap.size Wz Wd := by rw [hWd]; exact (Below.refl _ _).drew
  have HBD := Lib.hid hbd
  clear hWd hbd
  repeat (first
    | (refine plan_pure (v := ?_) (by rfl) (fun w1 => ?_) ?_
       rotate_left
       · go_simp <;> with_reducible rfl
       simp only [Act.put, List.setIfInBounds_toArray, List.set_cons_zero, List.set_cons_succ])
    | (refine plan_off (by rfl) ?_
       simp only [Act.put, List.setIfInBounds_toArray, List.set_cons_zero, List.set_cons_succ])
    | (refine plan_load_off (by rfl) ?_
       simp only [Act.put, List.setIfInBounds_toArray, List.set_cons_zero, List.set_cons_succ])
    | (refine plan_load (v := ?_) (by rfl) (fun w1 hw1 => ?_) ?_
       rotate_left
       · (have q0 := (HZE.out w1 hw1).1
          have a1 := q0.2.1
          have a2 := q0.2.2.1
          have a3 := q0.2.2.2
          simp only [Nat.zero_add] at a1 a2 a3
          clear q0
          have hq := HS.out.below hw1
          have z3 := HS.out.z3 hw1
          obtain ⟨PA, pc, tc, _, _, _, _, zv, zh, _⟩ := hq.cells
          have b1 := (hq.thread t x HX.out).2.2 q hq2
          rw [HTN.out] at z3
          have ql := hq.lt.2
          have qs := hq.lt.1
          have c1 := zv m hm4
          clear hq zv zh
          clear hw1
          go_simp <;> with_reducible rfl)
       simp only [Act.put, List.setIfInBounds_toArray, List.set_cons_zero, List.set_cons_succ]))
  have hSd := HS.out.below HBD.out
  obtain ⟨hs, hm⟩ := hSd.set_r HX.out hq2 (s.v m)
  have HSS := Lib.hid hs
  have HMM := Lib.hid hm
  have t1 := (hSd.thread t x HX.out).2.2 q hq2
  have f1 := hSd.free.2 (t * 4 + 2 + q)
  have tl := hSd.lt.2
  have sl := hSd.lt.1
  clear hSd hs hm
  refine plan_last ?_
  go_wp2_with fail
  repeat (first
    | (refine plan_pure (v := ?_) (by rfl) (fun w1 => ?_) ?_
       rotate_left
       · go_simp <;> with_reducible rfl
       simp only [Act.put, List.setIfInBounds_toArray, List.set_cons_zero, List.set_cons_succ])
    | (refine plan_off (by rfl) ?_
       simp only [Act.put, List.setIfInBounds_toArray, List.set_cons_zero, List.set_cons_succ])
    | (refine plan_load_off (by rfl) ?_
       simp only [Act.put, List.setIfInBounds_toArray, List.set_cons_zero, List.set_cons_succ])
    | (refine plan_load (v := ?_) (by rfl) (fun w1 hw1 => ?_) ?_
       rotate_left
       · (skip
          clear hw1
          go_simp <;> with_reducible rfl)
       simp only [Act.put, List.setIfInBounds_toArray, List.set_cons_zero, List.set_cons_succ]))
  refine plan_end ?_
  go_wp2_with fail
  go_end0
  exact ⟨rfl, HSS.out, ((Mod.of_below_size HB.out _).trans ((Mod.of_below HBD.out).mono (fun k hk e => by omega))).trans (HMM.out.mono (fun k _ e => Or.inr e))⟩
set_option maxRecDepth 100000 in
set_option maxHeartbeats 2000000 in
theorem store_any (w : World) (C : Nat → Prop) (S T : Nat) (s : St) (t : Nat) (x : Th) (k n : Int) (q m : Nat) (h : SAt w C S T s) (hx : s.th[t]? = some x) (hn4 : s.th.length ≤ 4) (hq2 : q < 2) (hm4 : m < 4) :
    Calls Tryz.prog 113 #[.pointer (some ⟨S, 0, none⟩), .int .i64 (t : Int), valI ⟨k, (q : Int), (m : Int), n⟩] w fun y w' => y = .returned (.tuple #[]) ∧ SAt w' C S T { s with v := updI s.v m (x.r q) } ∧ Mod (fun k => k = S ∨ k = T) w w' := by
  obtain ⟨Wz, Z, hWz, hZ, hBz, hZl, hZe⟩ := ins_box w ⟨k, (q : Int), (m : Int), n⟩
  have hS := h.below hBz
  obtain ⟨nn, hnn⟩ : ∃ n, n = s.th.length := ⟨_, rfl⟩
  have htn : t < nn := by rw [hnn]; exact (List.getElem?_eq_some_iff.1 hx).1
  have hl4 : nn ≤ 4 := by rw [hnn]; exact hn4
  have HZE := Lib.hid hZe
  have HS := Lib.hid hS
  have HB := Lib.hid hBz
  have HX := Lib.hid hx
  have HTN := Lib.hid hnn.symm
  have k1 : (0 : Int) ≤ (q : Int) := Int.natCast_nonneg _
  have k2 : (q : Int) < 2 := by omega
  have k3 : (0 : Int) ≤ (t : Int) := Int.natCast_nonneg _
  have k4 : (t : Int) < (nn : Int) := by omega
  have k5 : (0 : Int) ≤ (m : Int) := Int.natCast_nonneg _
  have k6 : (m : Int) < 4 := by omega
  simp only at hWz
  unfold valI
  simp only
  clear hZe hS hBz h hx hnn hZl hn4
  go_enter Tryz.func113, Tryz.ntmps113
  go_upto_region 1 with fail
  rw [← hWz, ← hZ]
  clear hWz hZ
  refine wp_region_planF (by kernel_rfl) (fun u => Below Wz.heap.size Wz u) [17] [(0, .pure), (1, .pure), (2, .load), (3, .pure), (4, .pure), (5, .pure), (6, .load), (7, .pure), (8, .pure), (9, .load), (10, .pure), (11, .pure), (12, .pure), (13, .load), (14, .pure), (15, .pure), (16, .pure), (17, .last)] (by simp only [List.map_cons, List.map_nil, List.getElem?_toArray, List.getElem?_cons_succ, List.getElem?_cons_zero]; rfl) (by kernel_rfl) (fun _ _ d _ _ h => by cases d <;> exact h) ((Below.refl _ _).drew) ?_
  obtain ⟨Wd, hWd⟩ : ∃ z, z = Wz.drew := ⟨_, rfl⟩
  rw [← hWd]
  have hbd : Below Wz.heap.size Wz Wd := by rw [hWd]; exact (Below.refl _ _).drew
  have HBD := Lib.hid hbd
  clear hWd hbd
  repeat (first
    | (refine plan_pure (v := ?_) (by rfl) (fun w1 => ?_) ?_
       rotate_left
       · go_simp <;> with_reducible rfl
       simp only [Act.put, List.setIfInBounds_toArray, List.set_cons_zero, List.set_cons_succ])
    | (refine plan_off (by rfl) ?_
       simp only [Act.put, List.setIfInBounds_toArray, List.set_cons_zero, List.set_cons_succ])
    | (refine plan_load_off (by rfl) ?_
       simp only [Act.put, List.setIfInBounds_toArray, List.set_cons_zero, List.set_cons_succ])
    | (refine plan_load (v := ?_) (by rfl) (fun w1 hw1 => ?_) ?_
       rotate_left
       · (have q0 := (HZE.out w1 hw1).1
          have a1 := q0.2.1
          have a2 := q0.2.2.1
          have a3 := q0.2.2.2
          simp only [Nat.zero_add] at a1 a2 a3
          clear q0
          have hq := HS.out.below hw1
          have z3 := HS.out.z3 hw1
          obtain ⟨PA, pc, tc, _, _, _, _, zv, zh, _⟩ := hq.cells
          have b1 := (hq.thread t x HX.out).2.2 q hq2
          rw [HTN.out] at z3
          have ql := hq.lt.2
          have qs := hq.lt.1
          have c1 := zv m hm4
          clear hq zv zh
          clear hw1
          go_simp <;> with_reducible rfl)
       simp only [Act.put, List.setIfInBounds_toArray, List.set_cons_zero, List.set_cons_succ]))
  have hSd := HS.out.below HBD.out
  obtain ⟨hs, hm⟩ := hSd.set_v hm4 (x.r q)
  have HSS := Lib.hid hs
  have HMM := Lib.hid hm
  obtain ⟨PA, pc, tc, _, _, _, _, zv, _, _⟩ := hSd.cells
  have c1 := zv m hm4
  have f1 := hSd.free.1 (4 + m)
  clear zv
  have tl := hSd.lt.2
  have sl := hSd.lt.1
  clear hSd hs hm
  refine plan_last ?_
  go_wp2_with fail
  repeat (first
    | (refine plan_pure (v := ?_) (by rfl) (fun w1 => ?_) ?_
       rotate_left
       · go_simp <;> with_reducible rfl
       simp only [Act.put, List.setIfInBounds_toArray, List.set_cons_zero, List.set_cons_succ])
    | (refine plan_off (by rfl) ?_
       simp only [Act.put, List.setIfInBounds_toArray, List.set_cons_zero, List.set_cons_succ])
    | (refine plan_load_off (by rfl) ?_
       simp only [Act.put, List.setIfInBounds_toArray, List.set_cons_zero, List.set_cons_succ])
    | (refine plan_load (v := ?_) (by rfl) (fun w1 hw1 => ?_) ?_
       rotate_left
       · (skip
          clear hw1
          go_simp <;> with_reducible rfl)
       simp only [Act.put, List.setIfInBounds_toArray, List.set_cons_zero, List.set_cons_succ]))
  refine plan_end ?_
  go_wp2_with fail
  go_end0
  exact ⟨rfl, HSS.out, ((Mod.of_below_size HB.out _).trans ((Mod.of_below HBD.out).mono (fun k hk e => by omega))).trans (HMM.out.mono (fun k _ e => Or.inl e))⟩
set_option maxRecDepth 100000 in
set_option maxHeartbeats 2000000 in
theorem set_any (w : World) (C : Nat → Prop) (S T : Nat) (s : St) (t : Nat) (x : Th) (k n : Int) (q m : Nat) (h : SAt w C S T s) (hx : s.th[t]? = some x) (hn4 : s.th.length ≤ 4) (hq2 : q < 2) (hm4 : m < 4) :
    Calls Tryz.prog 114 #[.pointer (some ⟨S, 0, none⟩), .int .i64 (t : Int), valI ⟨k, (q : Int), (m : Int), n⟩] w fun y w' => y = .returned (.tuple #[]) ∧ SAt w' C S T (Pr.regs s t x q n) ∧ Mod (fun k => k = S ∨ k = T) w w' := by
  obtain ⟨Wz, Z, hWz, hZ, hBz, hZl, hZe⟩ := ins_box w ⟨k, (q : Int), (m : Int), n⟩
  have hS := h.below hBz
  obtain ⟨nn, hnn⟩ : ∃ n, n = s.th.length := ⟨_, rfl⟩
  have htn : t < nn := by rw [hnn]; exact (List.getElem?_eq_some_iff.1 hx).1
  have hl4 : nn ≤ 4 := by rw [hnn]; exact hn4
  have HZE := Lib.hid hZe
  have HS := Lib.hid hS
  have HB := Lib.hid hBz
  have HX := Lib.hid hx
  have HTN := Lib.hid hnn.symm
  have k1 : (0 : Int) ≤ (q : Int) := Int.natCast_nonneg _
  have k2 : (q : Int) < 2 := by omega
  have k3 : (0 : Int) ≤ (t : Int) := Int.natCast_nonneg _
  have k4 : (t : Int) < (nn : Int) := by omega
  have k5 : (0 : Int) ≤ (m : Int) := Int.natCast_nonneg _
  have k6 : (m : Int) < 4 := by omega
  simp only at hWz
  unfold valI
  simp only
  clear hZe hS hBz h hx hnn hZl hn4
  go_enter Tryz.func114, Tryz.ntmps114
  go_upto_region 1 with fail
  rw [← hWz, ← hZ]
  clear hWz hZ
  refine wp_region_planF (by kernel_rfl) (fun u => Below Wz.heap.size Wz u) [12] [(0, .pure), (1, .pure), (2, .pure), (3, .load), (4, .pure), (5, .pure), (6, .load), (7, .pure), (8, .load), (9, .pure), (10, .pure), (11, .pure), (12, .last)] (by simp only [List.map_cons, List.map_nil, List.getElem?_toArray, List.getElem?_cons_succ, List.getElem?_cons_zero]; rfl) (by kernel_rfl) (fun _ _ d _ _ h => by cases d <;> exact h) ((Below.refl _ _).drew) ?_
  obtain ⟨Wd, hWd⟩ : ∃ z, z = Wz.drew := ⟨_, rfl⟩
  rw [← hWd]
  have hbd : Below Wz.heap.size Wz Wd := by rw [hWd]; exact (Below.refl _ _).drew
  have HBD := Lib.hid hbd
  clear hWd hbd
  repeat (first
    | (refine plan_pure (v := ?_) (by rfl) (fun w1 => ?_) ?_
       rotate_left
       · go_simp <;> with_reducible rfl
       simp only [Act.put, List.setIfInBounds_toArray, List.set_cons_zero, List.set_cons_succ])
    | (refine plan_off (by rfl) ?_
       simp only [Act.put, List.setIfInBounds_toArray, List.set_cons_zero, List.set_cons_succ])
    | (refine plan_load_off (by rfl) ?_
       simp only [Act.put, List.setIfInBounds_toArray, List.set_cons_zero, List.set_cons_succ])
    | (refine plan_load (v := ?_) (by rfl) (fun w1 hw1 => ?_) ?_
       rotate_left
       · (have q0 := (HZE.out w1 hw1).1
          have a1 := q0.2.1
          have a2 := q0.2.2.1
          have a3 := q0.2.2.2
          simp only [Nat.zero_add] at a1 a2 a3
          clear q0
          have hq := HS.out.below hw1
          have z3 := HS.out.z3 hw1
          obtain ⟨PA, pc, tc, _, _, _, _, zv, zh, _⟩ := hq.cells
          have b1 := (hq.thread t x HX.out).2.2 q hq2
          rw [HTN.out] at z3
          have ql := hq.lt.2
          have qs := hq.lt.1
          have c1 := zv m hm4
          clear hq zv zh
          clear hw1
          go_simp <;> with_reducible rfl)
       simp only [Act.put, List.setIfInBounds_toArray, List.set_cons_zero, List.set_cons_succ]))
  have hSd := HS.out.below HBD.out
  obtain ⟨hs, hm⟩ := hSd.set_r HX.out hq2 n
  have HSS := Lib.hid hs
  have HMM := Lib.hid hm
  have t1 := (hSd.thread t x HX.out).2.2 q hq2
  have f1 := hSd.free.2 (t * 4 + 2 + q)
  have tl := hSd.lt.2
  have sl := hSd.lt.1
  clear hSd hs hm
  refine plan_last ?_
  go_wp2_with fail
  repeat (first
    | (refine plan_pure (v := ?_) (by rfl) (fun w1 => ?_) ?_
       rotate_left
       · go_simp <;> with_reducible rfl
       simp only [Act.put, List.setIfInBounds_toArray, List.set_cons_zero, List.set_cons_succ])
    | (refine plan_off (by rfl) ?_
       simp only [Act.put, List.setIfInBounds_toArray, List.set_cons_zero, List.set_cons_succ])
    | (refine plan_load_off (by rfl) ?_
       simp only [Act.put, List.setIfInBounds_toArray, List.set_cons_zero, List.set_cons_succ])
    | (refine plan_load (v := ?_) (by rfl) (fun w1 hw1 => ?_) ?_
       rotate_left
       · (skip
          clear hw1
          go_simp <;> with_reducible rfl)
       simp only [Act.put, List.setIfInBounds_toArray, List.set_cons_zero, List.set_cons_succ]))
  refine plan_end ?_
  go_wp2_with fail
  go_end0
  exact ⟨rfl, HSS.out, ((Mod.of_below_size HB.out _).trans ((Mod.of_below HBD.out).mono (fun k hk e => by omega))).trans (HMM.out.mono (fun k _ e => Or.inr e))⟩
set_option maxRecDepth 100000 in
set_option maxHeartbeats 2000000 in
theorem add_any (w : World) (C : Nat → Prop) (S T : Nat) (s : St) (t : Nat) (x : Th) (k n : Int) (q m : Nat) (h : SAt w C S T s) (hx : s.th[t]? = some x) (hn4 : s.th.length ≤ 4) (hq2 : q < 2) (hm4 : m < 4) :
    Calls Tryz.prog 115 #[.pointer (some ⟨S, 0, none⟩), .int .i64 (t : Int), valI ⟨k, (q : Int), (m : Int), n⟩] w fun y w' => y = .returned (.tuple #[]) ∧ SAt w' C S T (Pr.regs s t x q (wrap64 (x.r q + n))) ∧ Mod (fun k => k = S ∨ k = T) w w' := by
  obtain ⟨Wz, Z, hWz, hZ, hBz, hZl, hZe⟩ := ins_box w ⟨k, (q : Int), (m : Int), n⟩
  have hS := h.below hBz
  obtain ⟨nn, hnn⟩ : ∃ n, n = s.th.length := ⟨_, rfl⟩
  have htn : t < nn := by rw [hnn]; exact (List.getElem?_eq_some_iff.1 hx).1
  have hl4 : nn ≤ 4 := by rw [hnn]; exact hn4
  have HZE := Lib.hid hZe
  have HS := Lib.hid hS
  have HB := Lib.hid hBz
  have HX := Lib.hid hx
  have HTN := Lib.hid hnn.symm
  have k1 : (0 : Int) ≤ (q : Int) := Int.natCast_nonneg _
  have k2 : (q : Int) < 2 := by omega
  have k3 : (0 : Int) ≤ (t : Int) := Int.natCast_nonneg _
  have k4 : (t : Int) < (nn : Int) := by omega
  have k5 : (0 : Int) ≤ (m : Int) := Int.natCast_nonneg _
  have k6 : (m : Int) < 4 := by omega
  simp only at hWz
  unfold valI
  simp only
  clear hZe hS hBz h hx hnn hZl hn4
  go_enter Tryz.func115, Tryz.ntmps115
  go_upto_region 1 with fail
  rw [← hWz, ← hZ]
  clear hWz hZ
  refine wp_region_planF (by kernel_rfl) (fun u => Below Wz.heap.size Wz u) [17] [(0, .pure), (1, .pure), (2, .pure), (3, .load), (4, .pure), (5, .pure), (6, .load), (7, .pure), (8, .pure), (9, .pure), (10, .load), (11, .pure), (12, .load), (13, .pure), (14, .pure), (15, .pure), (16, .pure), (17, .last)] (by simp only [List.map_cons, List.map_nil, List.getElem?_toArray, List.getElem?_cons_succ, List.getElem?_cons_zero]; rfl) (by kernel_rfl) (fun _ _ d _ _ h => by cases d <;> exact h) ((Below.refl _ _).drew) ?_
  obtain ⟨Wd, hWd⟩ : ∃ z, z = Wz.drew := ⟨_, rfl⟩
  rw [← hWd]
  have hbd : Below Wz.heap.size Wz Wd := by rw [hWd]; exact (Below.refl _ _).drew
  have HBD := Lib.hid hbd
  clear hWd hbd
  repeat (first
    | (refine plan_pure (v := ?_) (by rfl) (fun w1 => ?_) ?_
       rotate_left
       · go_simp <;> with_reducible rfl
       simp only [Act.put, List.setIfInBounds_toArray, List.set_cons_zero, List.set_cons_succ])
    | (refine plan_off (by rfl) ?_
       simp only [Act.put, List.setIfInBounds_toArray, List.set_cons_zero, List.set_cons_succ])
    | (refine plan_load_off (by rfl) ?_
       simp only [Act.put, List.setIfInBounds_toArray, List.set_cons_zero, List.set_cons_succ])
    | (refine plan_load (v := ?_) (by rfl) (fun w1 hw1 => ?_) ?_
       rotate_left
       · (have q0 := (HZE.out w1 hw1).1
          have a1 := q0.2.1
          have a2 := q0.2.2.1
          have a3 := q0.2.2.2
          simp only [Nat.zero_add] at a1 a2 a3
          clear q0
          have hq := HS.out.below hw1
          have z3 := HS.out.z3 hw1
          obtain ⟨PA, pc, tc, _, _, _, _, zv, zh, _⟩ := hq.cells
          have b1 := (hq.thread t x HX.out).2.2 q hq2
          rw [HTN.out] at z3
          have ql := hq.lt.2
          have qs := hq.lt.1
          have c1 := zv m hm4
          clear hq zv zh
          clear hw1
          go_simp <;> with_reducible rfl)
       simp only [Act.put, List.setIfInBounds_toArray, List.set_cons_zero, List.set_cons_succ]))
  have hSd := HS.out.below HBD.out
  obtain ⟨hs, hm⟩ := hSd.set_r HX.out hq2 (wrap64 (x.r q + n))
  have HSS := Lib.hid hs
  have HMM := Lib.hid hm
  have t1 := (hSd.thread t x HX.out).2.2 q hq2
  have f1 := hSd.free.2 (t * 4 + 2 + q)
  have tl := hSd.lt.2
  have sl := hSd.lt.1
  clear hSd hs hm
  refine plan_last ?_
  go_wp2_with fail
  repeat (first
    | (refine plan_pure (v := ?_) (by rfl) (fun w1 => ?_) ?_
       rotate_left
       · go_simp <;> with_reducible rfl
       simp only [Act.put, List.setIfInBounds_toArray, List.set_cons_zero, List.set_cons_succ])
    | (refine plan_off (by rfl) ?_
       simp only [Act.put, List.setIfInBounds_toArray, List.set_cons_zero, List.set_cons_succ])
    | (refine plan_load_off (by rfl) ?_
       simp only [Act.put, List.setIfInBounds_toArray, List.set_cons_zero, List.set_cons_succ])
    | (refine plan_load (v := ?_) (by rfl) (fun w1 hw1 => ?_) ?_
       rotate_left
       · (skip
          clear hw1
          go_simp <;> with_reducible rfl)
       simp only [Act.put, List.setIfInBounds_toArray, List.set_cons_zero, List.set_cons_succ]))
  refine plan_end ?_
  go_wp2_with fail
  go_end0
  exact ⟨rfl, HSS.out, ((Mod.of_below_size HB.out _).trans ((Mod.of_below HBD.out).mono (fun k hk e => by omega))).trans (HMM.out.mono (fun k _ e => Or.inr e))⟩
set_option maxRecDepth 100000 in
set_option maxHeartbeats 2000000 in
theorem lock_any (w : World) (C : Nat → Prop) (S T : Nat) (s : St) (t : Nat) (x : Th) (k n : Int) (q m : Nat) (h : SAt w C S T s) (hx : s.th[t]? = some x) (hn4 : s.th.length ≤ 4) (hq2 : q < 2) (hm4 : m < 2) :
    Calls Tryz.prog 116 #[.pointer (some ⟨S, 0, none⟩), .int .i64 (t : Int), valI ⟨k, (q : Int), (m : Int), n⟩] w fun y w' => y = .returned (.tuple #[]) ∧ SAt w' C S T { s with h := updI s.h m (t : Int) } ∧ Mod (fun k => k = S ∨ k = T) w w' := by
  obtain ⟨Wz, Z, hWz, hZ, hBz, hZl, hZe⟩ := ins_box w ⟨k, (q : Int), (m : Int), n⟩
  have hS := h.below hBz
  obtain ⟨nn, hnn⟩ : ∃ n, n = s.th.length := ⟨_, rfl⟩
  have htn : t < nn := by rw [hnn]; exact (List.getElem?_eq_some_iff.1 hx).1
  have hl4 : nn ≤ 4 := by rw [hnn]; exact hn4
  have HZE := Lib.hid hZe
  have HS := Lib.hid hS
  have HB := Lib.hid hBz
  have HX := Lib.hid hx
  have HTN := Lib.hid hnn.symm
  have k1 : (0 : Int) ≤ (q : Int) := Int.natCast_nonneg _
  have k2 : (q : Int) < 2 := by omega
  have k3 : (0 : Int) ≤ (t : Int) := Int.natCast_nonneg _
  have k4 : (t : Int) < (nn : Int) := by omega
  have k5 : (0 : Int) ≤ (m : Int) := Int.natCast_nonneg _
  have k6 : (m : Int) < 2 := by omega
  simp only at hWz
  unfold valI
  simp only
  clear hZe hS hBz h hx hnn hZl hn4
  go_enter Tryz.func116, Tryz.ntmps116
  go_upto_region 1 with fail
  rw [← hWz, ← hZ]
  clear hWz hZ
  refine wp_region_planF (by kernel_rfl) (fun u => Below Wz.heap.size Wz u) [7] [(0, .pure), (1, .pure), (2, .load), (3, .pure), (4, .pure), (5, .pure), (6, .pure), (7, .last)] (by simp only [List.map_cons, List.map_nil, List.getElem?_toArray, List.getElem?_cons_succ, List.getElem?_cons_zero]; rfl) (by kernel_rfl) (fun _ _ d _ _ h => by cases d <;> exact h) ((Below.refl _ _).drew) ?_
  obtain ⟨Wd, hWd⟩ : ∃ z, z = Wz.drew := ⟨_, rfl⟩
  rw [← hWd]
  have hbd : Below Wz.heap.size Wz Wd := by rw [hWd]; exact (Below.refl _ _).drew
  have HBD := Lib.hid hbd
  clear hWd hbd
  repeat (first
    | (refine plan_pure (v := ?_) (by rfl) (fun w1 => ?_) ?_
       rotate_left
       · go_simp <;> with_reducible rfl
       simp only [Act.put, List.setIfInBounds_toArray, List.set_cons_zero, List.set_cons_succ])
    | (refine plan_off (by rfl) ?_
       simp only [Act.put, List.setIfInBounds_toArray, List.set_cons_zero, List.set_cons_succ])
    | (refine plan_load_off (by rfl) ?_
       simp only [Act.put, List.setIfInBounds_toArray, List.set_cons_zero, List.set_cons_succ])
    | (refine plan_load (v := ?_) (by rfl) (fun w1 hw1 => ?_) ?_
       rotate_left
       · (have q0 := (HZE.out w1 hw1).1
          have a1 := q0.2.1
          have a2 := q0.2.2.1
          have a3 := q0.2.2.2
          simp only [Nat.zero_add] at a1 a2 a3
          clear q0
          have hq := HS.out.below hw1
          have z3 := HS.out.z3 hw1
          obtain ⟨PA, pc, tc, _, _, _, _, zv, zh, _⟩ := hq.cells
          have b1 := (hq.thread t x HX.out).2.2 q hq2
          rw [HTN.out] at z3
          have ql := hq.lt.2
          have qs := hq.lt.1
          have c1 := zh m hm4
          clear hq zv zh
          clear hw1
          go_simp <;> with_reducible rfl)
       simp only [Act.put, List.setIfInBounds_toArray, List.set_cons_zero, List.set_cons_succ]))
  have hSd := HS.out.below HBD.out
  obtain ⟨hs, hm⟩ := hSd.set_h hm4 (t : Int)
  have HSS := Lib.hid hs
  have HMM := Lib.hid hm
  obtain ⟨PA, pc, tc, _, _, _, _, _, zh, _⟩ := hSd.cells
  have c1 := zh m hm4
  have f1 := hSd.free.1 (8 + m)
  clear zh
  have tl := hSd.lt.2
  have sl := hSd.lt.1
  clear hSd hs hm
  refine plan_last ?_
  go_wp2_with fail
  repeat (first
    | (refine plan_pure (v := ?_) (by rfl) (fun w1 => ?_) ?_
       rotate_left
       · go_simp <;> with_reducible rfl
       simp only [Act.put, List.setIfInBounds_toArray, List.set_cons_zero, List.set_cons_succ])
    | (refine plan_off (by rfl) ?_
       simp only [Act.put, List.setIfInBounds_toArray, List.set_cons_zero, List.set_cons_succ])
    | (refine plan_load_off (by rfl) ?_
       simp only [Act.put, List.setIfInBounds_toArray, List.set_cons_zero, List.set_cons_succ])
    | (refine plan_load (v := ?_) (by rfl) (fun w1 hw1 => ?_) ?_
       rotate_left
       · (skip
          clear hw1
          go_simp <;> with_reducible rfl)
       simp only [Act.put, List.setIfInBounds_toArray, List.set_cons_zero, List.set_cons_succ]))
  refine plan_end ?_
  go_wp2_with fail
  go_end0
  exact ⟨rfl, HSS.out, ((Mod.of_below_size HB.out _).trans ((Mod.of_below HBD.out).mono (fun k hk e => by omega))).trans (HMM.out.mono (fun k _ e => Or.inl e))⟩
set_option maxRecDepth 100000 in
set_option maxHeartbeats 2000000 in
theorem unlock_any (w : World) (C : Nat → Prop) (S T : Nat) (s : St) (t : Nat) (x : Th) (k n : Int) (q m : Nat) (h : SAt w C S T s) (hx : s.th[t]? = some x) (hn4 : s.th.length ≤ 4) (hq2 : q < 2) (hm4 : m < 2) (s' : St) (hs' : s' = if s.h m = (t : Int) then { s with h := updI s.h m (-1) } else s) :
    Calls Tryz.prog 117 #[.pointer (some ⟨S, 0, none⟩), .int .i64 (t : Int), valI ⟨k, (q : Int), (m : Int), n⟩] w fun y w' => y = .returned (.tuple #[]) ∧ SAt w' C S T s' ∧ Mod (fun k => k = S ∨ k = T) w w' := by
  have HSP := Lib.hid hs'
  clear hs'
  obtain ⟨Wz, Z, hWz, hZ, hBz, hZl, hZe⟩ := ins_box w ⟨k, (q : Int), (m : Int), n⟩
  have hS := h.below hBz
  obtain ⟨nn, hnn⟩ : ∃ n, n = s.th.length := ⟨_, rfl⟩
  have htn : t < nn := by rw [hnn]; exact (List.getElem?_eq_some_iff.1 hx).1
  have hl4 : nn ≤ 4 := by rw [hnn]; exact hn4
  have HZE := Lib.hid hZe
  have HS := Lib.hid hS
  have HB := Lib.hid hBz
  have HX := Lib.hid hx
  have HTN := Lib.hid hnn.symm
  have k1 : (0 : Int) ≤ (q : Int) := Int.natCast_nonneg _
  have k2 : (q : Int) < 2 := by omega
  have k3 : (0 : Int) ≤ (t : Int) := Int.natCast_nonneg _
  have k4 : (t : Int) < (nn : Int) := by omega
  have k5 : (0 : Int) ≤ (m : Int) := Int.natCast_nonneg _
  have k6 : (m : Int) < 2 := by omega
  simp only at hWz
  unfold valI
  simp only
  clear hZe hS hBz h hx hnn hZl hn4
  go_enter Tryz.func117, Tryz.ntmps117
  go_upto_region 1 with fail
  rw [← hWz, ← hZ]
  clear hWz hZ
  refine wp_region_planF (by kernel_rfl) (fun u => Below Wz.heap.size Wz u) [] [(0, .pure), (1, .pure), (2, .load), (3, .pure), (4, .pure), (5, .pure), (6, .load), (7, .pure), (8, .pure)] (by simp only [List.map_cons, List.map_nil, List.getElem?_toArray, List.getElem?_cons_succ, List.getElem?_cons_zero]; rfl) (by kernel_rfl) (fun _ _ d _ _ h => by cases d <;> exact h) ((Below.refl _ _).drew) ?_
  obtain ⟨Wd, hWd⟩ : ∃ z, z = Wz.drew := ⟨_, rfl⟩
  rw [← hWd]
  have hbd : Below Wz.heap.size Wz Wd := by rw [hWd]; exact (Below.refl _ _).drew
  have HBD := Lib.hid hbd
  clear hWd hbd
  by_cases hh : s.h m = (t : Int)
  · have hd : (s.h m == (t : Int)) = true := by simpa using hh
    have HH := Lib.hid hh
    repeat (first
      | (refine plan_pure (v := ?_) (by rfl) (fun w1 => ?_) ?_
         rotate_left
         · go_simp <;> with_reducible rfl
         simp only [Act.put, List.setIfInBounds_toArray, List.set_cons_zero, List.set_cons_succ])
      | (refine plan_off (by rfl) ?_
         simp only [Act.put, List.setIfInBounds_toArray, List.set_cons_zero, List.set_cons_succ])
      | (refine plan_load_off (by rfl) ?_
         simp only [Act.put, List.setIfInBounds_toArray, List.set_cons_zero, List.set_cons_succ])
      | (refine plan_load (v := ?_) (by rfl) (fun w1 hw1 => ?_) ?_
         rotate_left
         · (have q0 := (HZE.out w1 hw1).1
            have a1 := q0.2.1
            have a2 := q0.2.2.1
            have a3 := q0.2.2.2
            simp only [Nat.zero_add] at a1 a2 a3
            clear q0
            have hq := HS.out.below hw1
            have z3 := HS.out.z3 hw1
            obtain ⟨PA, pc, tc, _, _, _, _, zv, zh, _⟩ := hq.cells
            have b1 := (hq.thread t x HX.out).2.2 q hq2
            rw [HTN.out] at z3
            have ql := hq.lt.2
            have qs := hq.lt.1
            have c1 := zh m hm4
            clear hq zv zh
            clear hw1
            go_simp <;> with_reducible rfl)
         simp only [Act.put, List.setIfInBounds_toArray, List.set_cons_zero, List.set_cons_succ]))
    refine plan_end ?_
    clear hh
    go_upto_region 2 with fail
    refine wp_region_planF (by kernel_rfl) (fun u => Below Wz.heap.size Wz u) [6] [(0, .pure), (1, .pure), (2, .load), (3, .pure), (4, .pure), (5, .pure), (6, .last)] (by simp only [List.map_cons, List.map_nil, List.getElem?_toArray, List.getElem?_cons_succ, List.getElem?_cons_zero]; rfl) (by kernel_rfl) (fun _ _ d _ _ h => by cases d <;> exact h) (HBD.out.drew) ?_
    obtain ⟨We, hWd⟩ : ∃ z, z = Wd.drew := ⟨_, rfl⟩
    rw [← hWd]
    have hbd : Below Wz.heap.size Wz We := by rw [hWd]; exact HBD.out.drew
    have HBE := Lib.hid hbd
    clear hWd hbd
    repeat (first
      | (refine plan_pure (v := ?_) (by rfl) (fun w1 => ?_) ?_
         rotate_left
         · go_simp <;> with_reducible rfl
         simp only [Act.put, List.setIfInBounds_toArray, List.set_cons_zero, List.set_cons_succ])
      | (refine plan_off (by rfl) ?_
         simp only [Act.put, List.setIfInBounds_toArray, List.set_cons_zero, List.set_cons_succ])
      | (refine plan_load_off (by rfl) ?_
         simp only [Act.put, List.setIfInBounds_toArray, List.set_cons_zero, List.set_cons_succ])
      | (refine plan_load (v := ?_) (by rfl) (fun w1 hw1 => ?_) ?_
         rotate_left
         · (have q0 := (HZE.out w1 hw1).1
            have a1 := q0.2.1
            have a2 := q0.2.2.1
            have a3 := q0.2.2.2
            simp only [Nat.zero_add] at a1 a2 a3
            clear q0
            have hq := HS.out.below hw1
            have z3 := HS.out.z3 hw1
            obtain ⟨PA, pc, tc, _, _, _, _, zv, zh, _⟩ := hq.cells
            have b1 := (hq.thread t x HX.out).2.2 q hq2
            rw [HTN.out] at z3
            have ql := hq.lt.2
            have qs := hq.lt.1
            have c1 := zh m hm4
            clear hq zv zh
            clear hw1
            go_simp <;> with_reducible rfl)
         simp only [Act.put, List.setIfInBounds_toArray, List.set_cons_zero, List.set_cons_succ]))
    have hSd := HS.out.below HBE.out
    obtain ⟨hs, hm⟩ := hSd.set_h hm4 (-1)
    have HSS := Lib.hid hs
    have HMM := Lib.hid hm
    obtain ⟨PA, pc, tc, _, _, _, _, _, zh, _⟩ := hSd.cells
    have c1 := zh m hm4
    have f1 := hSd.free.1 (8 + m)
    clear zh
    have tl := hSd.lt.2
    have sl := hSd.lt.1
    clear hSd hs hm
    refine plan_last ?_
    go_wp2_with fail
    repeat (first
      | (refine plan_pure (v := ?_) (by rfl) (fun w1 => ?_) ?_
         rotate_left
         · go_simp <;> with_reducible rfl
         simp only [Act.put, List.setIfInBounds_toArray, List.set_cons_zero, List.set_cons_succ])
      | (refine plan_off (by rfl) ?_
         simp only [Act.put, List.setIfInBounds_toArray, List.set_cons_zero, List.set_cons_succ])
      | (refine plan_load_off (by rfl) ?_
         simp only [Act.put, List.setIfInBounds_toArray, List.set_cons_zero, List.set_cons_succ])
      | (refine plan_load (v := ?_) (by rfl) (fun w1 hw1 => ?_) ?_
         rotate_left
         · (skip
            clear hw1
            go_simp <;> with_reducible rfl)
         simp only [Act.put, List.setIfInBounds_toArray, List.set_cons_zero, List.set_cons_succ]))
    refine plan_end ?_
    go_wp2_with fail
    go_end0
    exact ⟨rfl, by rw [HSP.out, if_pos HH.out]; exact HSS.out, ((Mod.of_below_size HB.out _).trans ((Mod.of_below HBE.out).mono (fun k hk e => by omega))).trans (HMM.out.mono (fun k _ e => Or.inl e))⟩
  · have hd : (s.h m == (t : Int)) = false := by simpa using hh
    have HH := Lib.hid hh
    repeat (first
      | (refine plan_pure (v := ?_) (by rfl) (fun w1 => ?_) ?_
         rotate_left
         · go_simp <;> with_reducible rfl
         simp only [Act.put, List.setIfInBounds_toArray, List.set_cons_zero, List.set_cons_succ])
      | (refine plan_off (by rfl) ?_
         simp only [Act.put, List.setIfInBounds_toArray, List.set_cons_zero, List.set_cons_succ])
      | (refine plan_load_off (by rfl) ?_
         simp only [Act.put, List.setIfInBounds_toArray, List.set_cons_zero, List.set_cons_succ])
      | (refine plan_load (v := ?_) (by rfl) (fun w1 hw1 => ?_) ?_
         rotate_left
         · (have q0 := (HZE.out w1 hw1).1
            have a1 := q0.2.1
            have a2 := q0.2.2.1
            have a3 := q0.2.2.2
            simp only [Nat.zero_add] at a1 a2 a3
            clear q0
            have hq := HS.out.below hw1
            have z3 := HS.out.z3 hw1
            obtain ⟨PA, pc, tc, _, _, _, _, zv, zh, _⟩ := hq.cells
            have b1 := (hq.thread t x HX.out).2.2 q hq2
            rw [HTN.out] at z3
            have ql := hq.lt.2
            have qs := hq.lt.1
            have c1 := zh m hm4
            clear hq zv zh
            clear hw1
            go_simp <;> with_reducible rfl)
         simp only [Act.put, List.setIfInBounds_toArray, List.set_cons_zero, List.set_cons_succ]))
    refine plan_end ?_
    go_wp2_with fail
    go_end0
    exact ⟨rfl, by rw [HSP.out, if_neg HH.out]; exact HS.out.below HBD.out, (Mod.of_below_size HB.out _).trans ((Mod.of_below HBD.out).mono (fun k hk e => by omega))⟩
set_option maxRecDepth 100000 in
set_option maxHeartbeats 2000000 in
theorem jump_any (w : World) (C : Nat → Prop) (S T : Nat) (s : St) (t : Nat) (x : Th) (k n : Int) (q m : Nat) (h : SAt w C S T s) (hx : s.th[t]? = some x) (hn4 : s.th.length ≤ 4) (hq2 : q < 2) (hm4 : m < 9) (s' : St) (hs' : s' = if x.r q = 0 then s else { s with th := s.th.set t { x with pc := m } }) :
    Calls Tryz.prog 118 #[.pointer (some ⟨S, 0, none⟩), .int .i64 (t : Int), valI ⟨k, (q : Int), (m : Int), n⟩] w fun y w' => y = .returned (.tuple #[]) ∧ SAt w' C S T s' ∧ Mod (fun k => k = S ∨ k = T) w w' := by
  have HSP := Lib.hid hs'
  clear hs'
  obtain ⟨Wz, Z, hWz, hZ, hBz, hZl, hZe⟩ := ins_box w ⟨k, (q : Int), (m : Int), n⟩
  have hS := h.below hBz
  obtain ⟨nn, hnn⟩ : ∃ n, n = s.th.length := ⟨_, rfl⟩
  have htn : t < nn := by rw [hnn]; exact (List.getElem?_eq_some_iff.1 hx).1
  have hl4 : nn ≤ 4 := by rw [hnn]; exact hn4
  have HZE := Lib.hid hZe
  have HS := Lib.hid hS
  have HB := Lib.hid hBz
  have HX := Lib.hid hx
  have HTN := Lib.hid hnn.symm
  have k1 : (0 : Int) ≤ (q : Int) := Int.natCast_nonneg _
  have k2 : (q : Int) < 2 := by omega
  have k3 : (0 : Int) ≤ (t : Int) := Int.natCast_nonneg _
  have k4 : (t : Int) < (nn : Int) := by omega
  have k5 : (0 : Int) ≤ (m : Int) := Int.natCast_nonneg _
  have k6 : (m : Int) < 9 := by omega
  simp only at hWz
  unfold valI
  simp only
  clear hZe hS hBz h hx hnn hZl hn4
  go_enter Tryz.func118, Tryz.ntmps118
  go_upto_region 1 with fail
  rw [← hWz, ← hZ]
  clear hWz hZ
  refine wp_region_planF (by kernel_rfl) (fun u => Below Wz.heap.size Wz u) [] [(0, .pure), (1, .pure), (2, .pure), (3, .load), (4, .pure), (5, .pure), (6, .load), (7, .pure), (8, .pure), (9, .pure), (10, .load), (11, .pure)] (by simp only [List.map_cons, List.map_nil, List.getElem?_toArray, List.getElem?_cons_succ, List.getElem?_cons_zero]; rfl) (by kernel_rfl) (fun _ _ d _ _ h => by cases d <;> exact h) ((Below.refl _ _).drew) ?_
  obtain ⟨Wd, hWd⟩ : ∃ z, z = Wz.drew := ⟨_, rfl⟩
  rw [← hWd]
  have hbd : Below Wz.heap.size Wz Wd := by rw [hWd]; exact (Below.refl _ _).drew
  have HBD := Lib.hid hbd
  clear hWd hbd
  by_cases hh : x.r q = 0
  · have hd : (x.r q == 0) = true := by simpa using hh
    have HH := Lib.hid hh
    repeat (first
      | (refine plan_pure (v := ?_) (by rfl) (fun w1 => ?_) ?_
         rotate_left
         · go_simp <;> with_reducible rfl
         simp only [Act.put, List.setIfInBounds_toArray, List.set_cons_zero, List.set_cons_succ])
      | (refine plan_off (by rfl) ?_
         simp only [Act.put, List.setIfInBounds_toArray, List.set_cons_zero, List.set_cons_succ])
      | (refine plan_load_off (by rfl) ?_
         simp only [Act.put, List.setIfInBounds_toArray, List.set_cons_zero, List.set_cons_succ])
      | (refine plan_load (v := ?_) (by rfl) (fun w1 hw1 => ?_) ?_
         rotate_left
         · (have q0 := (HZE.out w1 hw1).1
            have a1 := q0.2.1
            have a2 := q0.2.2.1
            have a3 := q0.2.2.2
            simp only [Nat.zero_add] at a1 a2 a3
            clear q0
            have hq := HS.out.below hw1
            have z3 := HS.out.z3 hw1
            obtain ⟨PA, pc, tc, _, _, _, _, zv, zh, _⟩ := hq.cells
            have b1 := (hq.thread t x HX.out).2.2 q hq2
            rw [HTN.out] at z3
            have ql := hq.lt.2
            have qs := hq.lt.1
            clear hq zv zh
            clear hw1
            go_simp <;> with_reducible rfl)
         simp only [Act.put, List.setIfInBounds_toArray, List.set_cons_zero, List.set_cons_succ]))
    refine plan_end ?_
    go_wp2_with fail
    go_end0
    exact ⟨rfl, by rw [HSP.out, if_pos HH.out]; exact HS.out.below HBD.out, (Mod.of_below_size HB.out _).trans ((Mod.of_below HBD.out).mono (fun k hk e => by omega))⟩
  · have hd : (x.r q == 0) = false := by simpa using hh
    have hd2 : (x.r q != 0) = true := by simpa using hh
    have HH := Lib.hid hh
    repeat (first
      | (refine plan_pure (v := ?_) (by rfl) (fun w1 => ?_) ?_
         rotate_left
         · go_simp <;> with_reducible rfl
         simp only [Act.put, List.setIfInBounds_toArray, List.set_cons_zero, List.set_cons_succ])
      | (refine plan_off (by rfl) ?_
         simp only [Act.put, List.setIfInBounds_toArray, List.set_cons_zero, List.set_cons_succ])
      | (refine plan_load_off (by rfl) ?_
         simp only [Act.put, List.setIfInBounds_toArray, List.set_cons_zero, List.set_cons_succ])
      | (refine plan_load (v := ?_) (by rfl) (fun w1 hw1 => ?_) ?_
         rotate_left
         · (have q0 := (HZE.out w1 hw1).1
            have a1 := q0.2.1
            have a2 := q0.2.2.1
            have a3 := q0.2.2.2
            simp only [Nat.zero_add] at a1 a2 a3
            clear q0
            have hq := HS.out.below hw1
            have z3 := HS.out.z3 hw1
            obtain ⟨PA, pc, tc, _, _, _, _, zv, zh, _⟩ := hq.cells
            have b1 := (hq.thread t x HX.out).2.2 q hq2
            rw [HTN.out] at z3
            have ql := hq.lt.2
            have qs := hq.lt.1
            clear hq zv zh
            clear hw1
            go_simp <;> with_reducible rfl)
         simp only [Act.put, List.setIfInBounds_toArray, List.set_cons_zero, List.set_cons_succ]))
    refine plan_end ?_
    clear hh
    go_upto_region 2 with fail
    refine wp_region_planF (by kernel_rfl) (fun u => Below Wz.heap.size Wz u) [9] [(0, .pure), (1, .pure), (2, .pure), (3, .load), (4, .pure), (5, .pure), (6, .load), (7, .pure), (8, .pure), (9, .last)] (by simp only [List.map_cons, List.map_nil, List.getElem?_toArray, List.getElem?_cons_succ, List.getElem?_cons_zero]; rfl) (by kernel_rfl) (fun _ _ d _ _ h => by cases d <;> exact h) (HBD.out.drew) ?_
    obtain ⟨We, hWd⟩ : ∃ z, z = Wd.drew := ⟨_, rfl⟩
    rw [← hWd]
    have hbd : Below Wz.heap.size Wz We := by rw [hWd]; exact HBD.out.drew
    have HBE := Lib.hid hbd
    clear hWd hbd
    repeat (first
      | (refine plan_pure (v := ?_) (by rfl) (fun w1 => ?_) ?_
         rotate_left
         · go_simp <;> with_reducible rfl
         simp only [Act.put, List.setIfInBounds_toArray, List.set_cons_zero, List.set_cons_succ])
      | (refine plan_off (by rfl) ?_
         simp only [Act.put, List.setIfInBounds_toArray, List.set_cons_zero, List.set_cons_succ])
      | (refine plan_load_off (by rfl) ?_
         simp only [Act.put, List.setIfInBounds_toArray, List.set_cons_zero, List.set_cons_succ])
      | (refine plan_load (v := ?_) (by rfl) (fun w1 hw1 => ?_) ?_
         rotate_left
         · (have q0 := (HZE.out w1 hw1).1
            have a1 := q0.2.1
            have a2 := q0.2.2.1
            have a3 := q0.2.2.2
            simp only [Nat.zero_add] at a1 a2 a3
            clear q0
            have hq := HS.out.below hw1
            have z3 := HS.out.z3 hw1
            obtain ⟨PA, pc, tc, _, _, _, _, zv, zh, _⟩ := hq.cells
            have b1 := (hq.thread t x HX.out).2.2 q hq2
            rw [HTN.out] at z3
            have ql := hq.lt.2
            have qs := hq.lt.1
            clear hq zv zh
            clear hw1
            go_simp <;> with_reducible rfl)
         simp only [Act.put, List.setIfInBounds_toArray, List.set_cons_zero, List.set_cons_succ]))
    have hSd := HS.out.below HBE.out
    obtain ⟨hs, hm⟩ := hSd.set_pc HX.out m
    have HSS := Lib.hid hs
    have HMM := Lib.hid hm
    have t1 := (hSd.thread t x HX.out).1
    have f1 := hSd.free.2 (t * 4)
    have tl := hSd.lt.2
    have sl := hSd.lt.1
    clear hSd hs hm
    refine plan_last ?_
    go_wp2_with fail
    repeat (first
      | (refine plan_pure (v := ?_) (by rfl) (fun w1 => ?_) ?_
         rotate_left
         · go_simp <;> with_reducible rfl
         simp only [Act.put, List.setIfInBounds_toArray, List.set_cons_zero, List.set_cons_succ])
      | (refine plan_off (by rfl) ?_
         simp only [Act.put, List.setIfInBounds_toArray, List.set_cons_zero, List.set_cons_succ])
      | (refine plan_load_off (by rfl) ?_
         simp only [Act.put, List.setIfInBounds_toArray, List.set_cons_zero, List.set_cons_succ])
      | (refine plan_load (v := ?_) (by rfl) (fun w1 hw1 => ?_) ?_
         rotate_left
         · (skip
            clear hw1
            go_simp <;> with_reducible rfl)
         simp only [Act.put, List.setIfInBounds_toArray, List.set_cons_zero, List.set_cons_succ]))
    refine plan_end ?_
    go_wp2_with fail
    go_end0
    exact ⟨rfl, by rw [HSP.out, if_neg HH.out]; exact HSS.out, ((Mod.of_below_size HB.out _).trans ((Mod.of_below HBE.out).mono (fun k hk e => by omega))).trans (HMM.out.mono (fun k _ e => Or.inr e))⟩
set_option maxRecDepth 100000 in
set_option maxHeartbeats 2000000 in
theorem assert_any (w : World) (C : Nat → Prop) (S T : Nat) (s : St) (t : Nat) (x : Th) (k n : Int) (q m : Nat) (h : SAt w C S T s) (hx : s.th[t]? = some x) (hn4 : s.th.length ≤ 4) (hq2 : q < 2) (hm4 : m < 9) :
    Calls Tryz.prog 119 #[.pointer (some ⟨S, 0, none⟩), .int .i64 (t : Int), valI ⟨k, (q : Int), (m : Int), n⟩] w fun y w' => y = .returned (.tuple #[]) ∧ SAt w' C S T s ∧ Mod (fun k => k = S ∨ k = T) w w' := by
  obtain ⟨Wz, Z, hWz, hZ, hBz, hZl, hZe⟩ := ins_box w ⟨k, (q : Int), (m : Int), n⟩
  have hS := h.below hBz
  obtain ⟨nn, hnn⟩ : ∃ n, n = s.th.length := ⟨_, rfl⟩
  have htn : t < nn := by rw [hnn]; exact (List.getElem?_eq_some_iff.1 hx).1
  have hl4 : nn ≤ 4 := by rw [hnn]; exact hn4
  have HZE := Lib.hid hZe
  have HS := Lib.hid hS
  have HB := Lib.hid hBz
  have HX := Lib.hid hx
  have HTN := Lib.hid hnn.symm
  have k1 : (0 : Int) ≤ (q : Int) := Int.natCast_nonneg _
  have k2 : (q : Int) < 2 := by omega
  have k3 : (0 : Int) ≤ (t : Int) := Int.natCast_nonneg _
  have k4 : (t : Int) < (nn : Int) := by omega
  have k5 : (0 : Int) ≤ (m : Int) := Int.natCast_nonneg _
  have k6 : (m : Int) < 9 := by omega
  simp only at hWz
  unfold valI
  simp only
  clear hZe hS hBz h hx hnn hZl hn4
  go_enter Tryz.func119, Tryz.ntmps119
  go_wp2_with fail
  go_end0
  rw [← hWz]
  exact ⟨rfl, HS.out, Mod.of_below_size HB.out _⟩
end Go.Proofs.YtckdofjpoajblaaGreat
namespace Go.Proofs.YtckdofjpoajblaaGreat
open Go.RowKit
set_option linter.unusedVariables false
namespace Pr
def deed (s : St) (t : Nat) (x : Th) (i : Ins) : St :=
  if i.k = 1 then regs s t x i.r.toNat (s.v i.x.toNat) else if i.k = 2 then { s with v := updI s.v i.x.toNat (x.r i.r.toNat) }
  else if i.k = 3 then regs s t x i.r.toNat i.n else if i.k = 4 then regs s t x i.r.toNat (wrap64 (x.r i.r.toNat + i.n))
  else if i.k = 5 then { s with h := updI s.h i.x.toNat (t : Int) } else if i.k = 6 then (if s.h i.x.toNat = (t : Int) then { s with h := updI s.h i.x.toNat (-1) } else s)
  else if i.k = 7 then (if x.r i.r.toNat = 0 then s else { s with th := s.th.set t { x with pc := i.x.toNat } }) else s
def tick (x : Th) : Th := ⟨x.pc + 1, x.fuel - 1, x.r⟩
def doI (s : St) (t : Nat) (i : Ins) : St :=
  match s.th[t]? with
  | some x => deed { s with th := s.th.set t (tick x) } t (tick x) i
  | none => s
theorem deed1 (s : St) (t : Nat) (x : Th) (q m : Nat) (n : Int) : deed s t x ⟨1, (q : Int), (m : Int), n⟩ = regs s t x q (s.v m) := rfl
theorem deed2 (s : St) (t : Nat) (x : Th) (q m : Nat) (n : Int) : deed s t x ⟨2, (q : Int), (m : Int), n⟩ = { s with v := updI s.v m (x.r q) } := rfl
theorem deed3 (s : St) (t : Nat) (x : Th) (q m : Nat) (n : Int) : deed s t x ⟨3, (q : Int), (m : Int), n⟩ = regs s t x q n := rfl
theorem deed4 (s : St) (t : Nat) (x : Th) (q m : Nat) (n : Int) : deed s t x ⟨4, (q : Int), (m : Int), n⟩ = regs s t x q (wrap64 (x.r q + n)) := rfl
theorem deed5 (s : St) (t : Nat) (x : Th) (q m : Nat) (n : Int) : deed s t x ⟨5, (q : Int), (m : Int), n⟩ = { s with h := updI s.h m (t : Int) } := rfl
theorem deed6 (s : St) (t : Nat) (x : Th) (q m : Nat) (n : Int) : deed s t x ⟨6, (q : Int), (m : Int), n⟩ = (if s.h m = (t : Int) then { s with h := updI s.h m (-1) } else s) := rfl
theorem deed7 (s : St) (t : Nat) (x : Th) (q m : Nat) (n : Int) : deed s t x ⟨7, (q : Int), (m : Int), n⟩ = (if x.r q = 0 then s else { s with th := s.th.set t { x with pc := m } }) := rfl
theorem deed8 (s : St) (t : Nat) (x : Th) (q m : Nat) (n : Int) : deed s t x ⟨8, (q : Int), (m : Int), n⟩ = s := rfl
end Pr
set_option maxRecDepth 100000 in
set_option maxHeartbeats 4000000 in
theorem do_any (w : World) (C : Nat → Prop) (S T : Nat) (s : St) (t : Nat) (i : Ins) (h : SAt w C S T s) (hw : Pr.Wf s) (hi : Pr.ins s t = some i) :
    Calls Tryz.prog 71 #[.pointer (some ⟨S, 0, none⟩), .int .i64 (t : Int), valI i] w fun y w' => y = .returned (.tuple #[]) ∧ SAt w' C S T (Pr.doI s t i) ∧ Mod (fun k => k = S ∨ k = T) w w' := by
  obtain ⟨nI, hn0, hn8, hok⟩ := hw.insOk hi
  obtain ⟨x, hx, hfu⟩ : ∃ x, s.th[t]? = some x ∧ x.fuel ≠ 0 := by
    unfold Pr.ins at hi
    split at hi
    · rename_i x c hx hc
      split at hi
      · cases hi
      · exact ⟨x, hx, by assumption⟩
    · cases hi
  obtain ⟨hf8, hp8⟩ := hw.bnd t x hx
  obtain ⟨f, hf⟩ : ∃ f, x.fuel = f + 1 := ⟨x.fuel - 1, by omega⟩
  have hdo : Pr.doI s t i = Pr.deed { s with th := s.th.set t ⟨x.pc + 1, f, x.r⟩ } t ⟨x.pc + 1, f, x.r⟩ i := by
    unfold Pr.doI
    rw [hx]
    simp only [Pr.tick, hf, Nat.add_sub_cancel]
  obtain ⟨s9, hs9⟩ : ∃ s9, s9 = Pr.doI s t i := ⟨_, rfl⟩
  rw [← hs9] at hdo ⊢
  have hv4 := hw.ok.1.2.1
  have hm2 := hw.ok.1.2.2.2.1
  obtain ⟨k, r, ix, n⟩ := i
  have hk1 := hok.1
  have hk8 := hok.2.1
  have hr0 := hok.2.2.2.2.2.2.1
  have hr1 := hok.2.2.2.2.2.2.2.1
  have hx0 := hok.2.2.2.2.2.1
  simp only at hk1 hk8 hr0 hr1 hx0
  obtain ⟨q, rfl⟩ : ∃ q : Nat, r = q := ⟨r.toNat, by omega⟩
  obtain ⟨m, rfl⟩ : ∃ m : Nat, ix = m := ⟨ix.toNat, by omega⟩
  have hq2 : q < 2 := by omega
  have hmv : k = 1 ∨ k = 2 → m < 4 := fun hk => by have := hok.2.2.2.2.2.2.2.2.2.1 hk; simp only at this; omega
  have hmm : k = 5 ∨ k = 6 → m < 2 := fun hk => by have := hok.2.2.2.2.2.2.2.2.2.2.1 hk; simp only at this; omega
  have hm0 : k = 3 ∨ k = 4 ∨ k = 8 → m = 0 := fun hk => by have := hok.2.2.2.2.2.2.2.2.2.2.2.2 hk; simp only at this; omega
  have hmj : m < 9 := by
    rcases (show k = 1 ∨ k = 2 ∨ k = 3 ∨ k = 4 ∨ k = 5 ∨ k = 6 ∨ k = 7 ∨ k = 8 by omega) with hk | hk | hk | hk | hk | hk | hk | hk
    · have := hmv (.inl hk); omega
    · have := hmv (.inr hk); omega
    · have := hok.2.2.2.2.2.2.2.2.2.2.2.2 (.inl hk); simp only at this; omega
    · have := hok.2.2.2.2.2.2.2.2.2.2.2.2 (.inr (.inl hk)); simp only at this; omega
    · have := hmm (.inl hk); omega
    · have := hmm (.inr hk); omega
    · have := hok.2.2.2.2.2.2.2.2.2.2.2.1 hk; simp only at this; omega
    · have := hok.2.2.2.2.2.2.2.2.2.2.2.2 (.inr (.inr hk)); simp only at this; omega
  obtain ⟨Wz, Z, hWz, hZ, hBz, hZl, hZe⟩ := ins_box w ⟨k, (q : Int), (m : Int), n⟩
  obtain ⟨nn, hnn⟩ : ∃ n, n = s.th.length := ⟨_, rfl⟩
  have htn : t < nn := by rw [hnn]; exact (List.getElem?_eq_some_iff.1 hx).1
  have hl4 : nn ≤ 4 := by rw [hnn]; exact hw.n4
  have HZE := Lib.hid hZe
  have HS := Lib.hid (h.below hBz)
  have HB := Lib.hid hBz
  have HX := Lib.hid hx
  have HTN := Lib.hid hnn.symm
  have HDO := Lib.hid hdo
  have HMV := Lib.hid hmv
  have HMM := Lib.hid hmm
  have HM0 := Lib.hid hm0
  have HF := Lib.hid hf
  have hf7 : f ≤ 7 := by omega
  have HTW := Lib.hid h.lt
  have HZW := Lib.hid (Nat.le_of_eq hZ.symm)
  have HZL := Lib.hid hZl
  have k3 : (0 : Int) ≤ (t : Int) := Int.natCast_nonneg _
  have k4 : (t : Int) < (nn : Int) := by omega
  simp only at hWz
  unfold valI
  simp only
  clear hZe hBz h hx hnn hZl hi hw hfu hdo hs9 hmv hmm hm0 hf hok hv4 hm2 hn0 hn8
  go_enter Tryz.func71, Tryz.ntmps71
  go_upto_region 1 with fail
  rw [← hWz, ← hZ]
  clear hWz hZ
  go_upto_region 2 with fail
  obtain ⟨D, hD⟩ : ∃ D, D = Wz.heap.size := ⟨_, rfl⟩
  obtain ⟨W2, hW2⟩ : ∃ W2, W2 = Wz.alloc (Obj.cells #[.nilFunc, .func (.func 112) #[] #[], .func (.func 113) #[] #[], .func (.func 114) #[] #[], .func (.func 115) #[] #[], .func (.func 116) #[] #[], .func (.func 117) #[] #[], .func (.func 118) #[] #[], .func (.func 119) #[] #[]] 191) := ⟨_, rfl⟩
  rw [← hW2, ← hD]
  have hb2 : Below Wz.heap.size Wz W2 := by rw [hW2]; exact (Below.refl _ _).alloc (Nat.le_refl _) _
  have hDk : W2.heap[D]? = some (.cells #[.nilFunc, .func (.func 112) #[] #[], .func (.func 113) #[] #[], .func (.func 114) #[] #[], .func (.func 115) #[] #[], .func (.func 116) #[] #[], .func (.func 117) #[] #[], .func (.func 118) #[] #[], .func (.func 119) #[] #[]] 191 (0, 0)) := by rw [hW2, hD]; exact heap_alloc_new Wz _
  have HDK := Lib.hid hDk
  have HB2 := Lib.hid hb2
  have hS2 := HS.out.below hb2
  have HS2 := Lib.hid hS2
  have HDW := Lib.hid (Nat.le_of_eq hD.symm)
  clear hD hW2 hb2 hDk hS2 HS
  obtain ⟨PA, pc, tc, _, _, _, z3, _, _, _⟩ := HS2.out.cells
  rw [HTN.out] at z3
  obtain ⟨t0, t1, _⟩ := HS2.out.thread t x HX.out
  rw [HF.out] at t1
  have sl := HS2.out.lt.1
  have tl := HS2.out.lt.2
  have f1 := HS2.out.free.2 (t * 4 + 1)
  obtain ⟨hs3, hm3⟩ := HS2.out.set_fuel HX.out f
  have HS3 := Lib.hid hs3
  have HM3 := Lib.hid hm3
  clear hs3 hm3
  go_upto_region 3 with fail
  have e1 : wrap64 (f : Int) = (f : Int) := IntWalk.wrap64_in _ (by omega)
  try rw [e1]
  obtain ⟨W3, hW3⟩ : ∃ W3, W3 = W2.setCell ⟨T, t * 4 + 1, none⟩ (.int .i64 (f : Int)) := ⟨_, rfl⟩
  rw [← hW3] at HS3 HM3 ⊢
  clear hW3 t0 t1 sl tl f1 e1 z3
  have hx3 : (s.th.set t { x with fuel := f })[t]? = some ⟨x.pc, f, x.r⟩ := by rw [List.getElem?_set_self (List.getElem?_eq_some_iff.1 HX.out).1]
  have HX3 := Lib.hid hx3
  clear hx3
  obtain ⟨PA', pc', tc', _, _, _, z3, _, _, _⟩ := HS3.out.cells
  simp only [List.length_set] at z3
  rw [HTN.out] at z3
  obtain ⟨t0, t1, _⟩ := HS3.out.thread t _ HX3.out
  have sl := HS3.out.lt.1
  have tl := HS3.out.lt.2
  have f1 := HS3.out.free.2 (t * 4)
  obtain ⟨hs4, hm4⟩ := HS3.out.set_pc HX3.out (x.pc + 1)
  simp only [List.set_set] at hs4
  rw [show ((x.pc + 1 : Nat) : Int) = (x.pc : Int) + 1 by omega] at hs4 hm4
  have HS4 := Lib.hid hs4
  have HM4 := Lib.hid hm4
  clear hs4 hm4
  go_upto_region 4 with fail
  have e1 : wrap64 ((x.pc : Int) + 1) = (x.pc : Int) + 1 := IntWalk.wrap64_in _ (by omega)
  try rw [e1]
  obtain ⟨W4, hW4⟩ : ∃ W4, W4 = W3.setCell ⟨T, t * 4, none⟩ (.int .i64 ((x.pc : Int) + 1)) := ⟨_, rfl⟩
  rw [← hW4] at HS4 HM4 ⊢
  clear hW4 t0 t1 sl tl f1 e1 z3
  have hx4 : (s.th.set t ⟨x.pc + 1, f, x.r⟩)[t]? = some ⟨x.pc + 1, f, x.r⟩ := by rw [List.getElem?_set_self (List.getElem?_eq_some_iff.1 HX.out).1]
  have hm24 : Mod (fun k => k = T) W2 W4 := HM3.out.trans HM4.out
  have hzd : ∀ u, Below W4.heap.size W4 u → (∀ j v, W2.cell? ⟨Z, j, none⟩ = some v → u.cell? ⟨Z, j, none⟩ = some v) ∧ (∀ j v, W2.cell? ⟨D, j, none⟩ = some v → u.cell? ⟨D, j, none⟩ = some v) ∧ Z < u.heap.size ∧ D < u.heap.size := fun u hu => by
    have h1 := HTW.out.2
    have h2 := HZW.out
    have h3 := HDW.out
    have h4 := HZL.out
    have h5 := HB2.out.size
    have h6 := hm24.size
    have h7 := hu.size
    have h8 := blk_lt HDK.out
    refine ⟨fun j v hv => ?_, fun j v hv => ?_, by omega, by omega⟩
    · rw [World.cell?_of_block (hu.block Z (by omega)), hm24.cell Z j (by omega) (by omega), hv]
    · rw [World.cell?_of_block (hu.block D (by omega)), hm24.cell D j (by omega) (by omega), hv]
  obtain ⟨y0, y1, y2, y3⟩ := (HZE.out W2 HB2.out).1
  simp only [Nat.zero_add] at y1 y2 y3
  have HZD := Lib.hid hzd
  have HY := Lib.hid (And.intro y0 (And.intro y1 (And.intro y2 y3)))
  have HM24 := Lib.hid hm24
  have HX4 := Lib.hid hx4
  have HL4 := Lib.hid (show (s.th.set t ⟨x.pc + 1, f, x.r⟩).length ≤ 4 by rw [List.length_set, HTN.out]; exact hl4)
  clear hzd y0 y1 y2 y3 hm24 hx4 HX3 HS3 HS2 HX k3 k4 hf8 hp8 htn hl4 hf7
  rcases (show k = 1 ∨ k = 2 ∨ k = 3 ∨ k = 4 ∨ k = 5 ∨ k = 6 ∨ k = 7 ∨ k = 8 by omega) with rfl | rfl | rfl | rfl | rfl | rfl | rfl | rfl
  · refine wp_region_planF (by kernel_rfl) (fun u => Below W4.heap.size W4 u) [7] [(0, .pure), (1, .load), (2, .pure), (3, .load), (4, .pure), (5, .pure), (6, .load), (7, .last)] (by simp only [List.map_cons, List.map_nil, List.getElem?_toArray, List.getElem?_cons_succ, List.getElem?_cons_zero]; rfl) (by kernel_rfl) (fun _ _ d _ _ h => by cases d <;> exact h) ((Below.refl _ _).drew) ?_
    obtain ⟨Wd, hWd⟩ : ∃ z, z = W4.drew := ⟨_, rfl⟩
    rw [← hWd]
    have hbd : Below W4.heap.size W4 Wd := by rw [hWd]; exact (Below.refl _ _).drew
    have HBD := Lib.hid hbd
    clear hWd hbd
    repeat (first
      | (refine plan_pure (v := ?_) (by rfl) (fun w1 => ?_) ?_
         rotate_left
         · go_simp <;> with_reducible rfl
         simp only [Act.put, List.setIfInBounds_toArray, List.set_cons_zero, List.set_cons_succ])
      | (refine plan_off (by rfl) ?_
         simp only [Act.put, List.setIfInBounds_toArray, List.set_cons_zero, List.set_cons_succ])
      | (refine plan_load_off (by rfl) ?_
         simp only [Act.put, List.setIfInBounds_toArray, List.set_cons_zero, List.set_cons_succ])
      | (refine plan_load (v := ?_) (by rfl) (fun w1 hw1 => ?_) ?_
         rotate_left
         · (have q0 := HZD.out w1 hw1
            have a0 := q0.1 _ _ HY.out.1
            have a1 := q0.1 _ _ HY.out.2.1
            have a2 := q0.1 _ _ HY.out.2.2.1
            have a3 := q0.1 _ _ HY.out.2.2.2
            have d0 := q0.2.1 1 _ (cell_blk HDK.out 1)
            have ql := q0.2.2.1
            have qd := q0.2.2.2
            clear q0
            clear hw1
            go_simp <;> with_reducible rfl)
         simp only [Act.put, List.setIfInBounds_toArray, List.set_cons_zero, List.set_cons_succ]))
    have hcall := load_any Wd C S T _ t _ 1 n q m (HS4.out.below HBD.out) HX4.out HL4.out hq2 (HMV.out (.inl rfl))
    have HCALL := Lib.hid hcall
    clear hcall
    refine plan_last ?_
    go_wp2_with fail
    refine HCALL.out.mono ?_
    rintro y w9 ⟨rfl, hsat, hmod⟩
    have HSAT := Lib.hid hsat
    have HMOD := Lib.hid hmod
    clear hsat hmod
    go_wp2_with fail
    repeat (first
      | (refine plan_pure (v := ?_) (by rfl) (fun w1 => ?_) ?_
         rotate_left
         · go_simp <;> with_reducible rfl
         simp only [Act.put, List.setIfInBounds_toArray, List.set_cons_zero, List.set_cons_succ])
      | (refine plan_off (by rfl) ?_
         simp only [Act.put, List.setIfInBounds_toArray, List.set_cons_zero, List.set_cons_succ])
      | (refine plan_load_off (by rfl) ?_
         simp only [Act.put, List.setIfInBounds_toArray, List.set_cons_zero, List.set_cons_succ])
      | (refine plan_load (v := ?_) (by rfl) (fun w1 hw1 => ?_) ?_
         rotate_left
         · (skip
            clear hw1
            go_simp <;> with_reducible rfl)
         simp only [Act.put, List.setIfInBounds_toArray, List.set_cons_zero, List.set_cons_succ]))
    refine plan_end ?_
    go_wp2_with fail
    go_end0
    exact ⟨rfl, by rw [HDO.out, Pr.deed1]; exact HSAT.out, ((((Mod.of_below_size HB.out _).trans (Mod.of_below_size HB2.out _ |>.mono (fun k _ e => e))).trans (HM24.out.mono (fun k _ e => Or.inr e))).trans (Mod.of_below_size HBD.out _)).trans HMOD.out⟩
  · refine wp_region_planF (by kernel_rfl) (fun u => Below W4.heap.size W4 u) [7] [(0, .pure), (1, .load), (2, .pure), (3, .load), (4, .pure), (5, .pure), (6, .load), (7, .last)] (by simp only [List.map_cons, List.map_nil, List.getElem?_toArray, List.getElem?_cons_succ, List.getElem?_cons_zero]; rfl) (by kernel_rfl) (fun _ _ d _ _ h => by cases d <;> exact h) ((Below.refl _ _).drew) ?_
    obtain ⟨Wd, hWd⟩ : ∃ z, z = W4.drew := ⟨_, rfl⟩
    rw [← hWd]
    have hbd : Below W4.heap.size W4 Wd := by rw [hWd]; exact (Below.refl _ _).drew
    have HBD := Lib.hid hbd
    clear hWd hbd
    repeat (first
      | (refine plan_pure (v := ?_) (by rfl) (fun w1 => ?_) ?_
         rotate_left
         · go_simp <;> with_reducible rfl
         simp only [Act.put, List.setIfInBounds_toArray, List.set_cons_zero, List.set_cons_succ])
      | (refine plan_off (by rfl) ?_
         simp only [Act.put, List.setIfInBounds_toArray, List.set_cons_zero, List.set_cons_succ])
      | (refine plan_load_off (by rfl) ?_
         simp only [Act.put, List.setIfInBounds_toArray, List.set_cons_zero, List.set_cons_succ])
      | (refine plan_load (v := ?_) (by rfl) (fun w1 hw1 => ?_) ?_
         rotate_left
         · (have q0 := HZD.out w1 hw1
            have a0 := q0.1 _ _ HY.out.1
            have a1 := q0.1 _ _ HY.out.2.1
            have a2 := q0.1 _ _ HY.out.2.2.1
            have a3 := q0.1 _ _ HY.out.2.2.2
            have d0 := q0.2.1 2 _ (cell_blk HDK.out 2)
            have ql := q0.2.2.1
            have qd := q0.2.2.2
            clear q0
            clear hw1
            go_simp <;> with_reducible rfl)
         simp only [Act.put, List.setIfInBounds_toArray, List.set_cons_zero, List.set_cons_succ]))
    have hcall := store_any Wd C S T _ t _ 2 n q m (HS4.out.below HBD.out) HX4.out HL4.out hq2 (HMV.out (.inr rfl))
    have HCALL := Lib.hid hcall
    clear hcall
    refine plan_last ?_
    go_wp2_with fail
    refine HCALL.out.mono ?_
    rintro y w9 ⟨rfl, hsat, hmod⟩
    have HSAT := Lib.hid hsat
    have HMOD := Lib.hid hmod
    clear hsat hmod
    go_wp2_with fail
    repeat (first
      | (refine plan_pure (v := ?_) (by rfl) (fun w1 => ?_) ?_
         rotate_left
         · go_simp <;> with_reducible rfl
         simp only [Act.put, List.setIfInBounds_toArray, List.set_cons_zero, List.set_cons_succ])
      | (refine plan_off (by rfl) ?_
         simp only [Act.put, List.setIfInBounds_toArray, List.set_cons_zero, List.set_cons_succ])
      | (refine plan_load_off (by rfl) ?_
         simp only [Act.put, List.setIfInBounds_toArray, List.set_cons_zero, List.set_cons_succ])
      | (refine plan_load (v := ?_) (by rfl) (fun w1 hw1 => ?_) ?_
         rotate_left
         · (skip
            clear hw1
            go_simp <;> with_reducible rfl)
         simp only [Act.put, List.setIfInBounds_toArray, List.set_cons_zero, List.set_cons_succ]))
    refine plan_end ?_
    go_wp2_with fail
    go_end0
    exact ⟨rfl, by rw [HDO.out, Pr.deed2]; exact HSAT.out, ((((Mod.of_below_size HB.out _).trans (Mod.of_below_size HB2.out _ |>.mono (fun k _ e => e))).trans (HM24.out.mono (fun k _ e => Or.inr e))).trans (Mod.of_below_size HBD.out _)).trans HMOD.out⟩
  · refine wp_region_planF (by kernel_rfl) (fun u => Below W4.heap.size W4 u) [7] [(0, .pure), (1, .load), (2, .pure), (3, .load), (4, .pure), (5, .pure), (6, .load), (7, .last)] (by simp only [List.map_cons, List.map_nil, List.getElem?_toArray, List.getElem?_cons_succ, List.getElem?_cons_zero]; rfl) (by kernel_rfl) (fun _ _ d _ _ h => by cases d <;> exact h) ((Below.refl _ _).drew) ?_
    obtain ⟨Wd, hWd⟩ : ∃ z, z = W4.drew := ⟨_, rfl⟩
    rw [← hWd]
    have hbd : Below W4.heap.size W4 Wd := by rw [hWd]; exact (Below.refl _ _).drew
    have HBD := Lib.hid hbd
    clear hWd hbd
    repeat (first
      | (refine plan_pure (v := ?_) (by rfl) (fun w1 => ?_) ?_
         rotate_left
         · go_simp <;> with_reducible rfl
         simp only [Act.put, List.setIfInBounds_toArray, List.set_cons_zero, List.set_cons_succ])
      | (refine plan_off (by rfl) ?_
         simp only [Act.put, List.setIfInBounds_toArray, List.set_cons_zero, List.set_cons_succ])
      | (refine plan_load_off (by rfl) ?_
         simp only [Act.put, List.setIfInBounds_toArray, List.set_cons_zero, List.set_cons_succ])
      | (refine plan_load (v := ?_) (by rfl) (fun w1 hw1 => ?_) ?_
         rotate_left
         · (have q0 := HZD.out w1 hw1
            have a0 := q0.1 _ _ HY.out.1
            have a1 := q0.1 _ _ HY.out.2.1
            have a2 := q0.1 _ _ HY.out.2.2.1
            have a3 := q0.1 _ _ HY.out.2.2.2
            have d0 := q0.2.1 3 _ (cell_blk HDK.out 3)
            have ql := q0.2.2.1
            have qd := q0.2.2.2
            clear q0
            clear hw1
            go_simp <;> with_reducible rfl)
         simp only [Act.put, List.setIfInBounds_toArray, List.set_cons_zero, List.set_cons_succ]))
    have hcall := set_any Wd C S T _ t _ 3 n q m (HS4.out.below HBD.out) HX4.out HL4.out hq2 (by have := HM0.out (.inl rfl); omega)
    have HCALL := Lib.hid hcall
    clear hcall
    refine plan_last ?_
    go_wp2_with fail
    refine HCALL.out.mono ?_
    rintro y w9 ⟨rfl, hsat, hmod⟩
    have HSAT := Lib.hid hsat
    have HMOD := Lib.hid hmod
    clear hsat hmod
    go_wp2_with fail
    repeat (first
      | (refine plan_pure (v := ?_) (by rfl) (fun w1 => ?_) ?_
         rotate_left
         · go_simp <;> with_reducible rfl
         simp only [Act.put, List.setIfInBounds_toArray, List.set_cons_zero, List.set_cons_succ])
      | (refine plan_off (by rfl) ?_
         simp only [Act.put, List.setIfInBounds_toArray, List.set_cons_zero, List.set_cons_succ])
      | (refine plan_load_off (by rfl) ?_
         simp only [Act.put, List.setIfInBounds_toArray, List.set_cons_zero, List.set_cons_succ])
      | (refine plan_load (v := ?_) (by rfl) (fun w1 hw1 => ?_) ?_
         rotate_left
         · (skip
            clear hw1
            go_simp <;> with_reducible rfl)
         simp only [Act.put, List.setIfInBounds_toArray, List.set_cons_zero, List.set_cons_succ]))
    refine plan_end ?_
    go_wp2_with fail
    go_end0
    exact ⟨rfl, by rw [HDO.out, Pr.deed3]; exact HSAT.out, ((((Mod.of_below_size HB.out _).trans (Mod.of_below_size HB2.out _ |>.mono (fun k _ e => e))).trans (HM24.out.mono (fun k _ e => Or.inr e))).trans (Mod.of_below_size HBD.out _)).trans HMOD.out⟩
  · refine wp_region_planF (by kernel_rfl) (fun u => Below W4.heap.size W4 u) [7] [(0, .pure), (1, .load), (2, .pure), (3, .load), (4, .pure), (5, .pure), (6, .load), (7, .last)] (by simp only [List.map_cons, List.map_nil, List.getElem?_toArray, List.getElem?_cons_succ, List.getElem?_cons_zero]; rfl) (by kernel_rfl) (fun _ _ d _ _ h => by cases d <;> exact h) ((Below.refl _ _).drew) ?_
    obtain ⟨Wd, hWd⟩ : ∃ z, z = W4.drew := ⟨_, rfl⟩
    rw [← hWd]
    have hbd : Below W4.heap.size W4 Wd := by rw [hWd]; exact (Below.refl _ _).drew
    have HBD := Lib.hid hbd
    clear hWd hbd
    repeat (first
      | (refine plan_pure (v := ?_) (by rfl) (fun w1 => ?_) ?_
         rotate_left
         · go_simp <;> with_reducible rfl
         simp only [Act.put, List.setIfInBounds_toArray, List.set_cons_zero, List.set_cons_succ])
      | (refine plan_off (by rfl) ?_
         simp only [Act.put, List.setIfInBounds_toArray, List.set_cons_zero, List.set_cons_succ])
      | (refine plan_load_off (by rfl) ?_
         simp only [Act.put, List.setIfInBounds_toArray, List.set_cons_zero, List.set_cons_succ])
      | (refine plan_load (v := ?_) (by rfl) (fun w1 hw1 => ?_) ?_
         rotate_left
         · (have q0 := HZD.out w1 hw1
            have a0 := q0.1 _ _ HY.out.1
            have a1 := q0.1 _ _ HY.out.2.1
            have a2 := q0.1 _ _ HY.out.2.2.1
            have a3 := q0.1 _ _ HY.out.2.2.2
            have d0 := q0.2.1 4 _ (cell_blk HDK.out 4)
            have ql := q0.2.2.1
            have qd := q0.2.2.2
            clear q0
            clear hw1
            go_simp <;> with_reducible rfl)
         simp only [Act.put, List.setIfInBounds_toArray, List.set_cons_zero, List.set_cons_succ]))
    have hcall := add_any Wd C S T _ t _ 4 n q m (HS4.out.below HBD.out) HX4.out HL4.out hq2 (by have := HM0.out (.inr (.inl rfl)); omega)
    have HCALL := Lib.hid hcall
    clear hcall
    refine plan_last ?_
    go_wp2_with fail
    refine HCALL.out.mono ?_
    rintro y w9 ⟨rfl, hsat, hmod⟩
    have HSAT := Lib.hid hsat
    have HMOD := Lib.hid hmod
    clear hsat hmod
    go_wp2_with fail
    repeat (first
      | (refine plan_pure (v := ?_) (by rfl) (fun w1 => ?_) ?_
         rotate_left
         · go_simp <;> with_reducible rfl
         simp only [Act.put, List.setIfInBounds_toArray, List.set_cons_zero, List.set_cons_succ])
      | (refine plan_off (by rfl) ?_
         simp only [Act.put, List.setIfInBounds_toArray, List.set_cons_zero, List.set_cons_succ])
      | (refine plan_load_off (by rfl) ?_
         simp only [Act.put, List.setIfInBounds_toArray, List.set_cons_zero, List.set_cons_succ])
      | (refine plan_load (v := ?_) (by rfl) (fun w1 hw1 => ?_) ?_
         rotate_left
         · (skip
            clear hw1
            go_simp <;> with_reducible rfl)
         simp only [Act.put, List.setIfInBounds_toArray, List.set_cons_zero, List.set_cons_succ]))
    refine plan_end ?_
    go_wp2_with fail
    go_end0
    exact ⟨rfl, by rw [HDO.out, Pr.deed4]; exact HSAT.out, ((((Mod.of_below_size HB.out _).trans (Mod.of_below_size HB2.out _ |>.mono (fun k _ e => e))).trans (HM24.out.mono (fun k _ e => Or.inr e))).trans (Mod.of_below_size HBD.out _)).trans HMOD.out⟩
  · refine wp_region_planF (by kernel_rfl) (fun u => Below W4.heap.size W4 u) [7] [(0, .pure), (1, .load), (2, .pure), (3, .load), (4, .pure), (5, .pure), (6, .load), (7, .last)] (by simp only [List.map_cons, List.map_nil, List.getElem?_toArray, List.getElem?_cons_succ, List.getElem?_cons_zero]; rfl) (by kernel_rfl) (fun _ _ d _ _ h => by cases d <;> exact h) ((Below.refl _ _).drew) ?_
    obtain ⟨Wd, hWd⟩ : ∃ z, z = W4.drew := ⟨_, rfl⟩
    rw [← hWd]
    have hbd : Below W4.heap.size W4 Wd := by rw [hWd]; exact (Below.refl _ _).drew
    have HBD := Lib.hid hbd
    clear hWd hbd
    repeat (first
      | (refine plan_pure (v := ?_) (by rfl) (fun w1 => ?_) ?_
         rotate_left
         · go_simp <;> with_reducible rfl
         simp only [Act.put, List.setIfInBounds_toArray, List.set_cons_zero, List.set_cons_succ])
      | (refine plan_off (by rfl) ?_
         simp only [Act.put, List.setIfInBounds_toArray, List.set_cons_zero, List.set_cons_succ])
      | (refine plan_load_off (by rfl) ?_
         simp only [Act.put, List.setIfInBounds_toArray, List.set_cons_zero, List.set_cons_succ])
      | (refine plan_load (v := ?_) (by rfl) (fun w1 hw1 => ?_) ?_
         rotate_left
         · (have q0 := HZD.out w1 hw1
            have a0 := q0.1 _ _ HY.out.1
            have a1 := q0.1 _ _ HY.out.2.1
            have a2 := q0.1 _ _ HY.out.2.2.1
            have a3 := q0.1 _ _ HY.out.2.2.2
            have d0 := q0.2.1 5 _ (cell_blk HDK.out 5)
            have ql := q0.2.2.1
            have qd := q0.2.2.2
            clear q0
            clear hw1
            go_simp <;> with_reducible rfl)
         simp only [Act.put, List.setIfInBounds_toArray, List.set_cons_zero, List.set_cons_succ]))
    have hcall := lock_any Wd C S T _ t _ 5 n q m (HS4.out.below HBD.out) HX4.out HL4.out hq2 (HMM.out (.inl rfl))
    have HCALL := Lib.hid hcall
    clear hcall
    refine plan_last ?_
    go_wp2_with fail
    refine HCALL.out.mono ?_
    rintro y w9 ⟨rfl, hsat, hmod⟩
    have HSAT := Lib.hid hsat
    have HMOD := Lib.hid hmod
    clear hsat hmod
    go_wp2_with fail
    repeat (first
      | (refine plan_pure (v := ?_) (by rfl) (fun w1 => ?_) ?_
         rotate_left
         · go_simp <;> with_reducible rfl
         simp only [Act.put, List.setIfInBounds_toArray, List.set_cons_zero, List.set_cons_succ])
      | (refine plan_off (by rfl) ?_
         simp only [Act.put, List.setIfInBounds_toArray, List.set_cons_zero, List.set_cons_succ])
      | (refine plan_load_off (by rfl) ?_
         simp only [Act.put, List.setIfInBounds_toArray, List.set_cons_zero, List.set_cons_succ])
      | (refine plan_load (v := ?_) (by rfl) (fun w1 hw1 => ?_) ?_
         rotate_left
         · (skip
            clear hw1
            go_simp <;> with_reducible rfl)
         simp only [Act.put, List.setIfInBounds_toArray, List.set_cons_zero, List.set_cons_succ]))
    refine plan_end ?_
    go_wp2_with fail
    go_end0
    exact ⟨rfl, by rw [HDO.out, Pr.deed5]; exact HSAT.out, ((((Mod.of_below_size HB.out _).trans (Mod.of_below_size HB2.out _ |>.mono (fun k _ e => e))).trans (HM24.out.mono (fun k _ e => Or.inr e))).trans (Mod.of_below_size HBD.out _)).trans HMOD.out⟩
  · refine wp_region_planF (by kernel_rfl) (fun u => Below W4.heap.size W4 u) [7] [(0, .pure), (1, .load), (2, .pure), (3, .load), (4, .pure), (5, .pure), (6, .load), (7, .last)] (by simp only [List.map_cons, List.map_nil, List.getElem?_toArray, List.getElem?_cons_succ, List.getElem?_cons_zero]; rfl) (by kernel_rfl) (fun _ _ d _ _ h => by cases d <;> exact h) ((Below.refl _ _).drew) ?_
    obtain ⟨Wd, hWd⟩ : ∃ z, z = W4.drew := ⟨_, rfl⟩
    rw [← hWd]
    have hbd : Below W4.heap.size W4 Wd := by rw [hWd]; exact (Below.refl _ _).drew
    have HBD := Lib.hid hbd
    clear hWd hbd
    repeat (first
      | (refine plan_pure (v := ?_) (by rfl) (fun w1 => ?_) ?_
         rotate_left
         · go_simp <;> with_reducible rfl
         simp only [Act.put, List.setIfInBounds_toArray, List.set_cons_zero, List.set_cons_succ])
      | (refine plan_off (by rfl) ?_
         simp only [Act.put, List.setIfInBounds_toArray, List.set_cons_zero, List.set_cons_succ])
      | (refine plan_load_off (by rfl) ?_
         simp only [Act.put, List.setIfInBounds_toArray, List.set_cons_zero, List.set_cons_succ])
      | (refine plan_load (v := ?_) (by rfl) (fun w1 hw1 => ?_) ?_
         rotate_left
         · (have q0 := HZD.out w1 hw1
            have a0 := q0.1 _ _ HY.out.1
            have a1 := q0.1 _ _ HY.out.2.1
            have a2 := q0.1 _ _ HY.out.2.2.1
            have a3 := q0.1 _ _ HY.out.2.2.2
            have d0 := q0.2.1 6 _ (cell_blk HDK.out 6)
            have ql := q0.2.2.1
            have qd := q0.2.2.2
            clear q0
            clear hw1
            go_simp <;> with_reducible rfl)
         simp only [Act.put, List.setIfInBounds_toArray, List.set_cons_zero, List.set_cons_succ]))
    have hcall := unlock_any Wd C S T _ t _ 6 n q m (HS4.out.below HBD.out) HX4.out HL4.out hq2 (HMM.out (.inr rfl)) _ rfl
    have HCALL := Lib.hid hcall
    clear hcall
    refine plan_last ?_
    go_wp2_with fail
    refine HCALL.out.mono ?_
    rintro y w9 ⟨rfl, hsat, hmod⟩
    have HSAT := Lib.hid hsat
    have HMOD := Lib.hid hmod
    clear hsat hmod
    go_wp2_with fail
    repeat (first
      | (refine plan_pure (v := ?_) (by rfl) (fun w1 => ?_) ?_
         rotate_left
         · go_simp <;> with_reducible rfl
         simp only [Act.put, List.setIfInBounds_toArray, List.set_cons_zero, List.set_cons_succ])
      | (refine plan_off (by rfl) ?_
         simp only [Act.put, List.setIfInBounds_toArray, List.set_cons_zero, List.set_cons_succ])
      | (refine plan_load_off (by rfl) ?_
         simp only [Act.put, List.setIfInBounds_toArray, List.set_cons_zero, List.set_cons_succ])
      | (refine plan_load (v := ?_) (by rfl) (fun w1 hw1 => ?_) ?_
         rotate_left
         · (skip
            clear hw1
            go_simp <;> with_reducible rfl)
         simp only [Act.put, List.setIfInBounds_toArray, List.set_cons_zero, List.set_cons_succ]))
    refine plan_end ?_
    go_wp2_with fail
    go_end0
    exact ⟨rfl, by rw [HDO.out, Pr.deed6]; exact HSAT.out, ((((Mod.of_below_size HB.out _).trans (Mod.of_below_size HB2.out _ |>.mono (fun k _ e => e))).trans (HM24.out.mono (fun k _ e => Or.inr e))).trans (Mod.of_below_size HBD.out _)).trans HMOD.out⟩
  · refine wp_region_planF (by kernel_rfl) (fun u => Below W4.heap.size W4 u) [7] [(0, .pure), (1, .load), (2, .pure), (3, .load), (4, .pure), (5, .pure), (6, .load), (7, .last)] (by simp only [List.map_cons, List.map_nil, List.getElem?_toArray, List.getElem?_cons_succ, List.getElem?_cons_zero]; rfl) (by kernel_rfl) (fun _ _ d _ _ h => by cases d <;> exact h) ((Below.refl _ _).drew) ?_
    obtain ⟨Wd, hWd⟩ : ∃ z, z = W4.drew := ⟨_, rfl⟩
    rw [← hWd]
    have hbd : Below W4.heap.size W4 Wd := by rw [hWd]; exact (Below.refl _ _).drew
    have HBD := Lib.hid hbd
    clear hWd hbd
    repeat (first
      | (refine plan_pure (v := ?_) (by rfl) (fun w1 => ?_) ?_
         rotate_left
         · go_simp <;> with_reducible rfl
         simp only [Act.put, List.setIfInBounds_toArray, List.set_cons_zero, List.set_cons_succ])
      | (refine plan_off (by rfl) ?_
         simp only [Act.put, List.setIfInBounds_toArray, List.set_cons_zero, List.set_cons_succ])
      | (refine plan_load_off (by rfl) ?_
         simp only [Act.put, List.setIfInBounds_toArray, List.set_cons_zero, List.set_cons_succ])
      | (refine plan_load (v := ?_) (by rfl) (fun w1 hw1 => ?_) ?_
         rotate_left
         · (have q0 := HZD.out w1 hw1
            have a0 := q0.1 _ _ HY.out.1
            have a1 := q0.1 _ _ HY.out.2.1
            have a2 := q0.1 _ _ HY.out.2.2.1
            have a3 := q0.1 _ _ HY.out.2.2.2
            have d0 := q0.2.1 7 _ (cell_blk HDK.out 7)
            have ql := q0.2.2.1
            have qd := q0.2.2.2
            clear q0
            clear hw1
            go_simp <;> with_reducible rfl)
         simp only [Act.put, List.setIfInBounds_toArray, List.set_cons_zero, List.set_cons_succ]))
    have hcall := jump_any Wd C S T _ t _ 7 n q m (HS4.out.below HBD.out) HX4.out HL4.out hq2 hmj _ rfl
    have HCALL := Lib.hid hcall
    clear hcall
    refine plan_last ?_
    go_wp2_with fail
    refine HCALL.out.mono ?_
    rintro y w9 ⟨rfl, hsat, hmod⟩
    have HSAT := Lib.hid hsat
    have HMOD := Lib.hid hmod
    clear hsat hmod
    go_wp2_with fail
    repeat (first
      | (refine plan_pure (v := ?_) (by rfl) (fun w1 => ?_) ?_
         rotate_left
         · go_simp <;> with_reducible rfl
         simp only [Act.put, List.setIfInBounds_toArray, List.set_cons_zero, List.set_cons_succ])
      | (refine plan_off (by rfl) ?_
         simp only [Act.put, List.setIfInBounds_toArray, List.set_cons_zero, List.set_cons_succ])
      | (refine plan_load_off (by rfl) ?_
         simp only [Act.put, List.setIfInBounds_toArray, List.set_cons_zero, List.set_cons_succ])
      | (refine plan_load (v := ?_) (by rfl) (fun w1 hw1 => ?_) ?_
         rotate_left
         · (skip
            clear hw1
            go_simp <;> with_reducible rfl)
         simp only [Act.put, List.setIfInBounds_toArray, List.set_cons_zero, List.set_cons_succ]))
    refine plan_end ?_
    go_wp2_with fail
    go_end0
    exact ⟨rfl, by rw [HDO.out, Pr.deed7]; exact HSAT.out, ((((Mod.of_below_size HB.out _).trans (Mod.of_below_size HB2.out _ |>.mono (fun k _ e => e))).trans (HM24.out.mono (fun k _ e => Or.inr e))).trans (Mod.of_below_size HBD.out _)).trans HMOD.out⟩
  · refine wp_region_planF (by kernel_rfl) (fun u => Below W4.heap.size W4 u) [7] [(0, .pure), (1, .load), (2, .pure), (3, .load), (4, .pure), (5, .pure), (6, .load), (7, .last)] (by simp only [List.map_cons, List.map_nil, List.getElem?_toArray, List.getElem?_cons_succ, List.getElem?_cons_zero]; rfl) (by kernel_rfl) (fun _ _ d _ _ h => by cases d <;> exact h) ((Below.refl _ _).drew) ?_
    obtain ⟨Wd, hWd⟩ : ∃ z, z = W4.drew := ⟨_, rfl⟩
    rw [← hWd]
    have hbd : Below W4.heap.size W4 Wd := by rw [hWd]; exact (Below.refl _ _).drew
    have HBD := Lib.hid hbd
    clear hWd hbd
    repeat (first
      | (refine plan_pure (v := ?_) (by rfl) (fun w1 => ?_) ?_
         rotate_left
         · go_simp <;> with_reducible rfl
         simp only [Act.put, List.setIfInBounds_toArray, List.set_cons_zero, List.set_cons_succ])
      | (refine plan_off (by rfl) ?_
         simp only [Act.put, List.setIfInBounds_toArray, List.set_cons_zero, List.set_cons_succ])
      | (refine plan_load_off (by rfl) ?_
         simp only [Act.put, List.setIfInBounds_toArray, List.set_cons_zero, List.set_cons_succ])
      | (refine plan_load (v := ?_) (by rfl) (fun w1 hw1 => ?_) ?_
         rotate_left
         · (have q0 := HZD.out w1 hw1
            have a0 := q0.1 _ _ HY.out.1
            have a1 := q0.1 _ _ HY.out.2.1
            have a2 := q0.1 _ _ HY.out.2.2.1
            have a3 := q0.1 _ _ HY.out.2.2.2
            have d0 := q0.2.1 8 _ (cell_blk HDK.out 8)
            have ql := q0.2.2.1
            have qd := q0.2.2.2
            clear q0
            clear hw1
            go_simp <;> with_reducible rfl)
         simp only [Act.put, List.setIfInBounds_toArray, List.set_cons_zero, List.set_cons_succ]))
    have hcall := assert_any Wd C S T _ t _ 8 n q m (HS4.out.below HBD.out) HX4.out HL4.out hq2 hmj
    have HCALL := Lib.hid hcall
    clear hcall
    refine plan_last ?_
    go_wp2_with fail
    refine HCALL.out.mono ?_
    rintro y w9 ⟨rfl, hsat, hmod⟩
    have HSAT := Lib.hid hsat
    have HMOD := Lib.hid hmod
    clear hsat hmod
    go_wp2_with fail
    repeat (first
      | (refine plan_pure (v := ?_) (by rfl) (fun w1 => ?_) ?_
         rotate_left
         · go_simp <;> with_reducible rfl
         simp only [Act.put, List.setIfInBounds_toArray, List.set_cons_zero, List.set_cons_succ])
      | (refine plan_off (by rfl) ?_
         simp only [Act.put, List.setIfInBounds_toArray, List.set_cons_zero, List.set_cons_succ])
      | (refine plan_load_off (by rfl) ?_
         simp only [Act.put, List.setIfInBounds_toArray, List.set_cons_zero, List.set_cons_succ])
      | (refine plan_load (v := ?_) (by rfl) (fun w1 hw1 => ?_) ?_
         rotate_left
         · (skip
            clear hw1
            go_simp <;> with_reducible rfl)
         simp only [Act.put, List.setIfInBounds_toArray, List.set_cons_zero, List.set_cons_succ]))
    refine plan_end ?_
    go_wp2_with fail
    go_end0
    exact ⟨rfl, by rw [HDO.out, Pr.deed8]; exact HSAT.out, ((((Mod.of_below_size HB.out _).trans (Mod.of_below_size HB2.out _ |>.mono (fun k _ e => e))).trans (HM24.out.mono (fun k _ e => Or.inr e))).trans (Mod.of_below_size HBD.out _)).trans HMOD.out⟩
end Go.Proofs.YtckdofjpoajblaaGreat
namespace Go.Proofs.YtckdofjpoajblaaGreat
open Go.RowKit
set_option linter.unusedVariables false
namespace Pr
def stepE (s : St) (t : Int) : Int := if 0 ≤ t ∧ t < (s.th.length : Int) then (if (next s t.toNat).isNone then 6 else if enabled s t.toNat = false then 9 else 0) else 2
def stepS (s : St) (t : Nat) : St :=
  match ins s t with
  | some i => doI s t i
  | none => s
theorem enabled_next {s : St} {t : Nat} (h : enabled s t = true) : ∃ e i, next s t = some e ∧ ins s t = some i ∧ e = evOf s t i := by
  unfold enabled at h
  cases hn : next s t with
  | none => rw [hn] at h; cases h
  | some e =>
    unfold next at hn
    obtain ⟨i, hi, he⟩ := Option.map_eq_some_iff.1 hn
    exact ⟨e, i, rfl, hi, he.symm⟩
end Pr
theorem SAt.bound {w : World} {C : Nat → Prop} {S T : Nat} {s : St} (h : SAt w C S T s) : SAt w (fun k => C k ∧ k < w.heap.size) S T s := by
  obtain ⟨PA, pc, tc, h1, h2, h3, h4, h5, h6⟩ := h
  exact ⟨PA, pc, tc, h1, h2, h3.bound, fun hk => h4 hk.1, fun hk => h5 hk.1, h6⟩
theorem SAt.widen {w w' : World} {C D : Nat → Prop} {S T : Nat} {s s' : St} (h : SAt w D S T s) (h0 : SAt w' C S T s') (hD : ∀ k, D k → C k) : SAt w C S T s := by
  obtain ⟨PA, pc, tc, h1, h2, h3, h4, h5, h6⟩ := h
  obtain ⟨_, _, _, _, _, _, g4, g5, _⟩ := h0
  exact ⟨PA, pc, tc, h1, h2, h3.imp hD, g4, g5, h6⟩
theorem ev0_box (w : World) : ∃ Wa X, Wa = w.alloc (Obj.cells #[.int .i64 0, .int .i64 0, .int .i64 0, .bool false] 51) ∧ X = w.heap.size ∧ Below w.heap.size w Wa ∧ X < Wa.heap.size ∧ Wa.heap[X]? = some (.cells #[.int .i64 0, .int .i64 0, .int .i64 0, .bool false] 51 (0, 0)) :=
    ⟨_, _, rfl, rfl, (Below.refl _ _).alloc (Nat.le_refl _) _, by simp, heap_alloc_new w _⟩
set_option maxRecDepth 100000 in
set_option maxHeartbeats 2000000 in
theorem step_okB (w : World) (C : Nat → Prop) (S T : Nat) (s : St) (t : Nat) (e : Ev) (h : SAt w C S T s) (hw : Pr.Wf s) (ht : t < s.th.length) (hen : Pr.enabled s t = true) (hnx : Pr.next s t = some e) (hC : ∀ k, C k → k < w.heap.size) :
    Calls Tryz.prog 32 #[.pointer (some ⟨S, 0, none⟩), .int .i64 (t : Int)] w fun x w' => x = .returned (.tuple #[valE e, .int .i64 0]) ∧ SAt w' C S T (Pr.stepS s t) ∧ Mod (fun k => k = S ∨ k = T) w w' := by
  obtain ⟨Wa, X, hWa, hX, hBa, hXl, hXk⟩ := ev0_box w
  have hS := h.below hBa
  have hc1 := is_any Wa C S T s t hS
  rw [decide_eq_true (show (0 : Int) ≤ t ∧ (t : Int) < s.th.length by omega)] at hc1
  have hc2 := next_any Wa C S T s t hS hw ht
  rw [hnx] at hc2
  have hc3 : ∀ u, Below Wa.heap.size Wa u → _ := fun u hu => enabled_any u C S T s t (hS.below hu) hw ht
  rw [hen] at hc3
  obtain ⟨_, i, _, hi, _⟩ := Pr.enabled_next hen
  have hc4 : ∀ u, Below Wa.heap.size Wa u → _ := fun u hu => instr_any u C S T s t (hS.below hu) hw ht
  rw [hi] at hc4
  have hc5 : ∀ u, Below Wa.heap.size Wa u → _ := fun u hu => do_any u C S T s t i (hS.below hu) hw hi
  have hst : Pr.stepS s t = Pr.doI s t i := by unfold Pr.stepS; rw [hi]
  rw [hst]
  simp only [Option.getD_some, Option.isSome_some] at hc2 hc4
  obtain ⟨s', hs'⟩ : ∃ s', s' = Pr.doI s t i := ⟨_, rfl⟩
  rw [← hs'] at hc5 ⊢
  obtain ⟨et, ek, eo, ef⟩ := e
  obtain ⟨ik, ir, ix, im⟩ := i
  simp only [valE, valI] at hc2 hc4 hc5 ⊢
  have HCC := Lib.hid hC
  have HC1 := Lib.hid hc1
  have HC2 := Lib.hid hc2
  have HC3 := Lib.hid hc3
  have HC4 := Lib.hid hc4
  have HC5 := Lib.hid hc5
  have HB := Lib.hid hBa
  have HXK := Lib.hid hXk
  have HXW := Lib.hid (Nat.le_of_eq hX.symm)
  have HST := Lib.hid (And.intro h.lt.1 h.lt.2)
  clear hC hc1 hc2 hc3 hc4 hc5 hBa hXk h hw ht hen hnx hS hi hst hs'
  go_enter Tryz.func32, Tryz.ntmps32
  go_upto_block 0 with fail
  rw [← hWa, ← hX]
  clear hWa hX
  go_wp2_with fail
  refine HC1.out.mono ?_
  rintro y w1 ⟨rfl, rfl⟩
  go_wp2_with fail
  refine HC2.out.mono ?_
  rintro y w2 ⟨rfl, b2⟩
  obtain ⟨Wz, Z, hWz, hZ, hBz, hZl, hZe⟩ := ev_box w2 ⟨et, ek, eo, ef⟩
  simp only at hWz
  have HB2 := Lib.hid (below_at b2 hBz)
  have HZE := Lib.hid hZe
  have HZW := Lib.hid (show Wa.heap.size ≤ Z by rw [hZ]; exact b2.size)
  have HZL := Lib.hid hZl
  clear b2 hBz hZl hZe
  go_upto_block 1 with fail
  rw [← hWz, ← hZ]
  clear hWz hZ
  go_wp2_with fail
  refine (HC3.out Wz HB2.out).mono ?_
  rintro y w3 ⟨rfl, b3⟩
  have HB3 := Lib.hid (below_at HB2.out b3)
  have HZ3 := Lib.hid b3
  clear b3
  go_wp2_with fail
  refine (HC4.out w3 HB3.out).mono ?_
  rintro y w4 ⟨rfl, b4⟩
  obtain ⟨Wy, Y, hWy, hY, hBy, hYl, hYe⟩ := ins_box w4 ⟨ik, ir, ix, im⟩
  simp only at hWy
  have HB4 := Lib.hid (below_at (below_at HB3.out b4) hBy)
  have HZ4 := Lib.hid (below_at (below_at HZ3.out b4) hBy)
  clear b4 hBy
  go_upto_region 11 with fail
  rw [← hWy, ← hY]
  clear hWy hY
  obtain ⟨⟨y0, y1, y2, y3⟩, yl⟩ := hYe Wy (Below.refl _ _)
  simp only [Nat.zero_add] at y1 y2 y3
  clear hYl hYe
  go_wp2_with fail
  refine (HC5.out Wy HB4.out).mono ?_
  rintro y w5 ⟨rfl, hsat, hmod⟩
  obtain ⟨⟨z0, z1, z2, z3⟩, zl⟩ := HZE.out Wy HZ4.out
  simp only [Nat.zero_add] at z1 z2 z3
  have hZF : ¬ (Z = S ∨ Z = T) := by have := HST.out; have := HZW.out; have := HB.out.size; omega
  have hXF : ¬ (X = S ∨ X = T) := by have := HST.out; have := HXW.out; omega
  have z0 := (hmod.cell Z 0 zl hZF).trans z0
  have z1 := (hmod.cell Z 1 zl hZF).trans z1
  have z2 := (hmod.cell Z 2 zl hZF).trans z2
  have z3 := (hmod.cell Z 3 zl hZF).trans z3
  have zl : Z < w5.heap.size := Nat.lt_of_lt_of_le zl hmod.size
  have hX5 := (hmod.block X (by have := HB4.out.size; have := blk_lt HXK.out; omega) hXF).trans ((HB4.out.block X (blk_lt HXK.out)).trans HXK.out)
  obtain ⟨V2, hV2, ⟨d0, d1, d2, d3⟩, hmv⟩ := in4_exit hX5 (.int .i64 et) (.int .i64 ek) (.int .i64 eo) (.bool ef)
  obtain ⟨⟨e0, e1, e2, e3⟩, el, g0, g1, g2, g3⟩ := in4_cells hX5
  have HSAT := Lib.hid hsat
  have HMOD := Lib.hid hmod
  have HV2 := Lib.hid hV2
  have HMV := Lib.hid hmv
  have HXF := Lib.hid hXF
  clear hsat hmod hV2 hmv hX5 hZF hXF y0 y1 y2 y3 yl
  go_wp2_with fail
  rw [← HV2.out]
  refine bodyPost_ret (v := .tuple #[.agg #[.int .i64 et, .int .i64 ek, .int .i64 eo, .bool ef], .int .i64 0]) (by simp [results, Tryz.results32, go_sem, d0, d1, d2, d3]) rfl ?_
  refine ⟨rfl, HSAT.out.mod HMV.out (fun k hk e => by have := HCC.out k hk; have := HXW.out; omega) (fun e => HXF.out (.inl e.symm)) (fun e => HXF.out (.inr e.symm)), ?_⟩
  have m1 : Mod (fun k => k = S ∨ k = T) w Wy := Mod.of_below_size (below_at HB.out HB4.out) _
  exact (m1.trans HMOD.out).then (HMV.out.mono (G := fun k => k = X) (fun k _ e => e)) (fun k hk e => by have := HXW.out; omega)
theorem step_ok (w : World) (C : Nat → Prop) (S T : Nat) (s : St) (t : Nat) (e : Ev) (h : SAt w C S T s) (hw : Pr.Wf s) (ht : t < s.th.length) (hen : Pr.enabled s t = true) (hnx : Pr.next s t = some e) :
    Calls Tryz.prog 32 #[.pointer (some ⟨S, 0, none⟩), .int .i64 (t : Int)] w fun x w' => x = .returned (.tuple #[valE e, .int .i64 0]) ∧ SAt w' C S T (Pr.stepS s t) ∧ Mod (fun k => k = S ∨ k = T) w w' :=
  (step_okB w _ S T s t e h.bound hw ht hen hnx (fun k hk => hk.2)).mono fun x w' hh => ⟨hh.1, hh.2.1.widen h (fun k hk => hk.1), hh.2.2⟩
end Go.Proofs.YtckdofjpoajblaaGreat
namespace Go.Proofs.YtckdofjpoajblaaGreat
open Go.RowKit
set_option linter.unusedVariables false
theorem int_cell {w : World} {B : Nat} {A : Option Addr} {ks : List Int} (h : RdB w B 1 A ks.length (ks.map iv)) : ∀ (k : Nat) (s : Int), ks[k]? = some s → ∃ g o, A = some ⟨g, o, none⟩ ∧ g < B ∧ ∀ u, Below B w u → u.cell? ⟨g, o + k, none⟩ = some (.int .i64 s) := fun k s hs => by
  obtain ⟨hk, rfl⟩ := List.getElem?_eq_some_iff.1 hs
  obtain ⟨g, o, hA, hg, hc⟩ := h.2 (by omega)
  refine ⟨g, o, hA, hg, fun u hu => ?_⟩
  rw [World.cell?_of_block (hu.block g hg), hc k (by omega), List.getElem?_map, List.getElem?_eq_getElem hk]
  rfl
set_option maxRecDepth 100000 in
set_option maxHeartbeats 2000000 in
theorem sameInts_any (w : World) (A : Option Addr) (cap : Nat) (a : List Int) (B : Option Addr) (cap' : Nat) (b : List Int) (ha : Rd w 1 A a.length (a.map iv)) (hb : Rd w 1 B b.length (b.map iv)) (hl : a.length < 4611686018427387904) :
    Calls Tryz.prog 24 #[.slice A a.length cap, .slice B b.length cap'] w fun x w' => x = .returned (.bool (decide (a = b))) ∧ Below w.heap.size w w' := by
  have HC := Lib.hid (int_cell ha.toB)
  have HD := Lib.hid (int_cell hb.toB)
  clear ha hb
  by_cases hlen : a.length = b.length
  · have hlen' : b.length = a.length := hlen.symm
    rw [hlen']
    have HL := Lib.hid hlen
    clear hlen hlen'
    go_enter Tryz.func24, Tryz.ntmps24
    go_wp2_with fail
    go_loopw [5] (fun v wr => ∃ k : Nat, k ≤ a.length ∧ v = .int .i64 k ∧ Hid (a.take k = b.take k) ∧ Below w.heap.size w wr) (fun v _ => a.length - (intOf v).toNat)
    case atStart => exact ⟨0, Nat.zero_le _, rfl, Lib.hid rfl, Below.refl _ _⟩
    case round =>
      obtain ⟨k, hk, rfl, HRT, hbw⟩ := hrel
      by_cases hlt : k < a.length
      · obtain ⟨x, hx⟩ := get_some hlt
        obtain ⟨y, hy⟩ := get_some (show k < b.length by have := HL.out; omega)
        obtain ⟨g, o, rfl, hg, hcl⟩ := HC.out k x hx
        obtain ⟨g', o', rfl, hg', hcl'⟩ := HD.out k y hy
        have v0 := hcl wr hbw
        have u0 := hcl' wr hbw
        have k1 : (0 : Int) ≤ (k : Int) := Int.natCast_nonneg _
        have k2 : (k : Int) < (a.length : Int) := by omega
        have htk : a.take (k + 1) = a.take k ++ [x] := by rw [List.take_add_one, hx]; rfl
        have htk' : b.take (k + 1) = b.take k ++ [y] := by rw [List.take_add_one, hy]; rfl
        have hne : x ≠ y → a ≠ b := fun h e => by subst e; rw [hx] at hy; exact h (Option.some.inj hy)
        have lg : g < wr.heap.size := by have := hbw.size; omega
        have lg' : g' < wr.heap.size := by have := hbw.size; omega
        have HTK := Lib.hid htk
        have HTK' := Lib.hid htk'
        have HNE := Lib.hid hne
        have HBW := Lib.hid hbw
        clear htk htk' hne hcl hcl' hbw hx hy
        by_cases hxy : x = y
        · have e3 : (x == y) = true := by simpa using hxy
          have e4 : (x != y) = false := by simpa using hxy
          have HXY := Lib.hid hxy
          clear hxy
          go_wp2_with fail
          refine wp_region_plan (by kernel_rfl) (fun u => Mod (fun _ => False) wr u) [] [(0, .pure), (1, .pure), (2, .pure), (3, .load), (4, .pure), (5, .pure), (6, .pure), (7, .load), (8, .pure)] (by simp only [List.map_cons, List.map_nil, List.getElem?_toArray, List.getElem?_cons_succ, List.getElem?_cons_zero]; rfl) (by kernel_rfl) (fun _ _ d _ _ h => by cases d <;> exact h) ((Mod.refl _ _).drew) ?_
          repeat (first
            | (refine plan_pure (v := ?_) (by rfl) (fun w1 => ?_) ?_
               rotate_left
               · go_simp <;> with_reducible rfl
               simp only [Act.put, List.setIfInBounds_toArray, List.set_cons_zero, List.set_cons_succ])
            | (refine plan_off (by rfl) ?_
               simp only [Act.put, List.setIfInBounds_toArray, List.set_cons_zero, List.set_cons_succ])
            | (refine plan_load_off (by rfl) ?_
               simp only [Act.put, List.setIfInBounds_toArray, List.set_cons_zero, List.set_cons_succ])
            | (refine plan_load (v := ?_) (by rfl) (fun w1 hw1 => ?_) ?_
               rotate_left
               · (have q0 := (hw1.cell g (o + k) lg id).trans v0
                  have q1 := (hw1.cell g' (o' + k) lg' id).trans u0
                  clear hw1
                  go_simp <;> with_reducible rfl)
               simp only [Act.put, List.setIfInBounds_toArray, List.set_cons_zero, List.set_cons_succ]))
          refine plan_end ?_
          go_wp2_with fail
          go_roundw
          case rel => exact ⟨k + 1, by omega, by go_num, Lib.hid (by rw [HTK.out, HTK'.out, HRT.out, HXY.out]), HBW.out.trans ⟨rfl, rfl, rfl, Nat.le_refl _, fun _ _ => rfl⟩⟩
          case measure => simp [intOf]; omega
        · have e3 : (x == y) = false := by simpa using hxy
          have e4 : (x != y) = true := by simpa using hxy
          have HXY := Lib.hid hxy
          clear hxy
          go_wp2_with fail
          refine wp_region_plan (by kernel_rfl) (fun u => Mod (fun _ => False) wr u) [] [(0, .pure), (1, .pure), (2, .pure), (3, .load), (4, .pure), (5, .pure), (6, .pure), (7, .load), (8, .pure)] (by simp only [List.map_cons, List.map_nil, List.getElem?_toArray, List.getElem?_cons_succ, List.getElem?_cons_zero]; rfl) (by kernel_rfl) (fun _ _ d _ _ h => by cases d <;> exact h) ((Mod.refl _ _).drew) ?_
          repeat (first
            | (refine plan_pure (v := ?_) (by rfl) (fun w1 => ?_) ?_
               rotate_left
               · go_simp <;> with_reducible rfl
               simp only [Act.put, List.setIfInBounds_toArray, List.set_cons_zero, List.set_cons_succ])
            | (refine plan_off (by rfl) ?_
               simp only [Act.put, List.setIfInBounds_toArray, List.set_cons_zero, List.set_cons_succ])
            | (refine plan_load_off (by rfl) ?_
               simp only [Act.put, List.setIfInBounds_toArray, List.set_cons_zero, List.set_cons_succ])
            | (refine plan_load (v := ?_) (by rfl) (fun w1 hw1 => ?_) ?_
               rotate_left
               · (have q0 := (hw1.cell g (o + k) lg id).trans v0
                  have q1 := (hw1.cell g' (o' + k) lg' id).trans u0
                  clear hw1
                  go_simp <;> with_reducible rfl)
               simp only [Act.put, List.setIfInBounds_toArray, List.set_cons_zero, List.set_cons_succ]))
          refine plan_end ?_
          go_wp2_with fail
          go_ret
          exact ⟨by rw [decide_eq_false (HNE.out HXY.out)]; rfl, HBW.out.trans ⟨rfl, rfl, rfl, Nat.le_refl _, fun _ _ => rfl⟩⟩
      · have hkn : k = a.length := by omega
        have HK := Lib.hid hkn
        have HBW := Lib.hid hbw
        clear hkn hbw
        go_wp2_with fail
        go_ret
        have h1 := HRT.out
        rw [HK.out, List.take_length, HL.out, List.take_length] at h1
        exact ⟨by rw [decide_eq_true h1]; rfl, HBW.out⟩
  · have e1 : ((a.length : Int) == (b.length : Int)) = false := by rw [beq_eq_false_iff_ne]; omega
    have hne : a ≠ b := fun e => hlen (by rw [e])
    have HNE := Lib.hid hne
    clear hlen hne
    go_enter Tryz.func24, Tryz.ntmps24
    go_wp2_with fail
    go_ret
    exact ⟨by rw [decide_eq_false HNE.out]; rfl, Below.refl _ _⟩
end Go.Proofs.YtckdofjpoajblaaGreat
namespace Go.Proofs.YtckdofjpoajblaaGreat
open Go.RowKit
set_option linter.unusedVariables false
namespace Pr
theorem deed_th (s : St) (t : Nat) (x : Th) (i : Ins) (hx : s.th[t]? = some x) (hf : x.fuel ≤ 8) (hp : x.pc ≤ 8) (hj : i.k = 7 → i.x ≤ 8) : ∃ y : Th, (deed s t x i).th = s.th.set t y ∧ y.fuel ≤ 8 ∧ y.pc ≤ 8 ∧ (deed s t x i).p = s.p := by
  have hself : s.th = s.th.set t x := by
    refine List.ext_getElem? fun j => ?_
    by_cases h : j = t
    · subst h; rw [List.getElem?_set_self (List.getElem?_eq_some_iff.1 hx).1, hx]
    · rw [List.getElem?_set_ne (fun e => h e.symm)]
  unfold deed
  split
  · exact ⟨_, rfl, hf, hp, rfl⟩
  · split
    · exact ⟨x, hself, hf, hp, rfl⟩
    · split
      · exact ⟨_, rfl, hf, hp, rfl⟩
      · split
        · exact ⟨_, rfl, hf, hp, rfl⟩
        · split
          · exact ⟨x, hself, hf, hp, rfl⟩
          · split
            · split
              · exact ⟨x, hself, hf, hp, rfl⟩
              · exact ⟨x, hself, hf, hp, rfl⟩
            · split
              · split
                · exact ⟨x, hself, hf, hp, rfl⟩
                · rename_i h7 _
                  exact ⟨_, rfl, hf, by have := hj h7; simp only; omega, rfl⟩
              · exact ⟨x, hself, hf, hp, rfl⟩
theorem doI_wf {s : St} {t : Nat} {i : Ins} (hw : Wf s) (hi : ins s t = some i) : Wf (doI s t i) ∧ (doI s t i).p = s.p ∧ (doI s t i).th.length = s.th.length := by
  obtain ⟨n, hn0, hn8, hok⟩ := hw.insOk hi
  have hi' := hi
  unfold ins at hi
  split at hi
  · rename_i x c hx hc
    split at hi
    · cases hi
    · have hpc : x.pc < c.length := (List.getElem?_eq_some_iff.1 hi).1
      have h8 := hw.q8 hc
      obtain ⟨hf, hp⟩ := hw.bnd t x hx
      have hlt := (List.getElem?_eq_some_iff.1 hx).1
      have hx2 : (s.th.set t (tick x))[t]? = some (tick x) := by rw [List.getElem?_set_self hlt]
      obtain ⟨y, h1, h2, h3, h4⟩ := deed_th { s with th := s.th.set t (tick x) } t (tick x) i hx2 (by simp [tick]; omega) (by simp [tick]; omega) (fun h7 => by have := hok.2.2.2.2.2.2.2.2.2.2.2.1 h7; omega)
      have hd : doI s t i = deed { s with th := s.th.set t (tick x) } t (tick x) i := by unfold doI; rw [hx]
      rw [hd]
      simp only [List.set_set] at h1
      refine ⟨⟨by rw [h4]; exact hw.ok, by rw [h1, h4, List.length_set]; exact hw.len, fun t' x' hx' => ?_⟩, h4, by rw [h1, List.length_set]⟩
      rw [h1] at hx'
      by_cases ht : t' = t
      · subst ht
        rw [List.getElem?_set_self hlt] at hx'
        injection hx' with hx'
        subst hx'
        exact ⟨h2, h3⟩
      · rw [List.getElem?_set_ne (fun e => ht e.symm)] at hx'
        exact hw.bnd t' x' hx'
  · cases hi
theorem stepS_wf {s : St} (t : Nat) (hw : Wf s) : Wf (stepS s t) ∧ (stepS s t).p = s.p ∧ (stepS s t).th.length = s.th.length := by
  unfold stepS
  split
  · rename_i i hi; exact doI_wf hw hi
  · exact ⟨hw, rfl, rfl⟩
def run : St → List Int → Except Int (St × List Ev)
  | s, [] => .ok (s, [])
  | s, t :: r => if stepE s t = 0 then (match run (stepS s t.toNat) r with
    | .ok (s', l) => .ok (s', ((next s t.toNat).getD zeroE) :: l)
    | .error e => .error e) else .error (stepE s t)
def few (p : Pg) : Bool := p.code.all (fun q => decide (q.length ≤ 50)) && decide (p.code.length ≤ 20)
end Pr
end Go.Proofs.YtckdofjpoajblaaGreat
namespace Go.Proofs.YtckdofjpoajblaaGreat
open Go.RowKit
set_option linter.unusedVariables false
end Go.Proofs.YtckdofjpoajblaaGreat
