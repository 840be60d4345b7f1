/- The reference's Next. -/
import Derived.Test.YtcaapoacmfjnmaaGreatRsC
namespace Go.Proofs.YtcaapoacmfjnmaaGreat
open Go.RowKit
set_option linter.unusedVariables false

set_option maxRecDepth 100000 in
set_option maxHeartbeats 4000000 in
theorem refNext_any (w : World) (C : Nat → Prop) (S T o : Nat) (s : St) (t : Nat) (h : RAt w C S T o s) (hw : Pr.Wf s) (ht : t < s.th.length) :
    Calls Tryz.prog 99 #[.pointer (some ⟨S, 0, none⟩), .int .i64 (t : Int)] w fun x w' => x = .returned (.tuple #[valE ((Pr.next s t).getD Pr.zeroE), .bool (Pr.next s t).isSome]) ∧ Below w.heap.size w w' := by
  obtain ⟨Wa, X, hWa, hX, hBa, hXl, hXk⟩ := ev0_box w
  have hS := h.below hBa
  obtain ⟨x, hx⟩ := get_some ht
  obtain ⟨q, hq⟩ := get_some (show t < s.p.code.length by rw [← hw.len]; exact ht)
  have hn4 := hw.n4
  have hq8 := hw.q8 hq
  obtain ⟨hf8, hp8⟩ := hw.bnd t x hx
  obtain ⟨PA, pc, tc, _, _, z2, z3, _, _, zc⟩ := hS.cells
  obtain ⟨t0, t1, _⟩ := hS.thread t x hx
  obtain ⟨g, og, A', c', rfl, hCg, hgl, hrq, hqc, hcm, hcell⟩ := zc.get t q hq
  have hins : Pr.ins s t = if x.fuel = 0 then none else q[x.pc]? := by unfold Pr.ins; rw [hx, hq]
  obtain ⟨n, hn⟩ : ∃ n, n = s.th.length := ⟨_, rfl⟩
  rw [show s.p.code.length = n by rw [hn]; exact hw.len.symm] at z2
  rw [← hn] at z3 ht hn4
  have hf : ∀ u, Below Wa.heap.size Wa u → u.cell? ⟨S, 3, none⟩ = some (.slice (some ⟨T, o, none⟩) n tc) ∧ u.cell? ⟨S, 2, none⟩ = some (.slice (some ⟨g, og, none⟩) n pc) ∧ u.cell? ⟨T, o + t * 4, none⟩ = some (.int .i64 (x.pc : Nat)) ∧ u.cell? ⟨T, o + t * 4 + 1, none⟩ = some (.int .i64 (x.fuel : Nat)) ∧ u.cell? ⟨g, og + t, none⟩ = some (.slice A' q.length c') ∧ S < u.heap.size ∧ T < u.heap.size ∧ g < u.heap.size ∧ RAt u C S T o s := fun u hu => by
    have hb := hu.size
    exact ⟨(World.cell?_of_block (hu.block S hS.lt.1)).trans z3, (World.cell?_of_block (hu.block S hS.lt.1)).trans z2, (World.cell?_of_block (hu.block T hS.lt.2)).trans t0, (World.cell?_of_block (hu.block T hS.lt.2)).trans t1, hcell u (hu.block g hgl), by have := hS.lt; omega, by have := hS.lt; omega, by omega, hS.below hu⟩
  have hin : ∀ i, q[x.pc]? = some i → ∃ g2 o2, A' = some ⟨g2, o2, none⟩ ∧ ∀ u, Below Wa.heap.size Wa u → InAt u g2 (o2 + x.pc * 4) i ∧ g2 < u.heap.size := fun i hi => by
    obtain ⟨g2, o2, e, _, hl2, hc⟩ := hrq.ins x.pc i hi
    exact ⟨g2, o2, e, fun u hu => ⟨hc u (hu.block g2 hl2), by have := hu.size; omega⟩⟩
  have hio : ∀ i, Pr.ins s t = some i → ∃ n : Int, 0 ≤ n ∧ n ≤ 8 ∧ Pr.InsOk s.p.vars s.p.mtx n i := fun i hi => hw.insOk hi
  have hmm := hw.ok.1.2.2.2.1
  have HF := Lib.hid hf
  have HIN := Lib.hid hin
  have HIO := Lib.hid hio
  have HINS := Lib.hid hins
  have HB := Lib.hid hBa
  have HXK := Lib.hid hXk
  have HXW := Lib.hid (Nat.le_of_eq hX.symm)
  have HXT := Lib.hid (And.intro hx hn)
  have HMM := Lib.hid hmm
  have k1 : (0 : Int) ≤ (t : Int) := Int.natCast_nonneg _
  have k2 : (t : Int) < (n : Int) := by omega
  have k3 : ¬ (n : Int) ≤ (t : Int) := by omega
  have k4 : ¬ n ≤ t := by omega
  have d1 : decide (n ≤ t) = false := decide_eq_false k4
  have HWB : Hid (Below Wa.heap.size Wa Wa) := Lib.hid (Below.refl _ _)
  clear hf hin hio hins hBa hXk hx hq hcell hrq hS z2 z3 t0 t1 zc h hw hCg hn hmm hgl hqc hcm
  go_enter Tryz.func99, Tryz.ntmps99
  go_upto_region 1 with fail
  rw [← hWa, ← hX]
  clear hWa hX
  by_cases hfu : x.fuel = 0
  · have e1 : (((x.fuel : Nat) : Int) == 0) = true := by simpa using hfu
    have HFU := Lib.hid hfu
    clear hfu
    refine wp_region_planF (by kernel_rfl) (fun u => Below Wa.heap.size Wa u) [] [(0, .pure), (1, .pure), (2, .pure), (3, .pure), (4, .pure), (5, .pure), (6, .pure), (7, .load), (8, .pure), (9, .pure), (10, .pure), (11, .pure), (12, .pure), (13, .pure), (14, .pure), (15, .load), (16, .pure), (17, .pure), (18, .pure), (19, .load), (20, .pure), (21, .pure), (22, .pure), (23, .pure), (24, .pure), (25, .pure), (26, .load), (27, .pure), (28, .pure), (29, .pure), (30, .load), (31, .pure), (32, .pure), (33, .pure), (34, .pure), (35, .load), (36, .pure), (37, .pure), (38, .load), (39, .pure), (40, .pure), (41, .pure)] (by simp only [List.map_cons, List.map_nil, List.getElem?_toArray, List.getElem?_cons_succ, List.getElem?_cons_zero]; rfl) (by kernel_rfl) (fun _ _ d _ _ h => by cases d <;> exact h) ((Below.refl _ _).drew) ?_
    obtain ⟨Wd, hWd⟩ : ∃ z, z = Wa.drew := ⟨_, rfl⟩
    rw [← hWd]
    have hbd : Below Wa.heap.size Wa Wd := by rw [hWd]; exact (Below.refl _ _).drew
    have hX5 := (hbd.block X hXl).trans HXK.out
    have HBD := Lib.hid hbd
    clear hWd hbd
    repeat (first
      | (refine plan_pure (v := ?_) (by rfl) (fun w1 => ?_) ?_
         rotate_left
         · go_simp <;> with_reducible rfl
         simp only [Act.put, List.setIfInBounds_toArray, List.set_cons_zero, List.set_cons_succ])
      | (refine plan_off (by rfl) ?_
         simp only [Act.put, List.setIfInBounds_toArray, List.set_cons_zero, List.set_cons_succ])
      | (refine plan_load_off (by rfl) ?_
         simp only [Act.put, List.setIfInBounds_toArray, List.set_cons_zero, List.set_cons_succ])
      | (refine plan_load (v := ?_) (by rfl) (fun w1 hw1 => ?_) ?_
         rotate_left
         · (have qf := HF.out w1 (HWB.out.trans hw1)
            obtain ⟨c3, c2, t0, t1, ccode, sl, tl, gl, _⟩ := qf
            clear hw1
            go_simp <;> with_reducible rfl)
         simp only [Act.put, List.setIfInBounds_toArray, List.set_cons_zero, List.set_cons_succ]))
    refine plan_end ?_
    obtain ⟨V2, hV2, ⟨d0, d1', d2, d3⟩, hmv⟩ := in4_exit hX5 (.int .i64 0) (.int .i64 0) (.int .i64 0) (.bool false)
    obtain ⟨⟨e0, e1', e2, e3⟩, el, g0, g1, g2, g3⟩ := in4_cells hX5
    have HV2 := Lib.hid hV2
    have HMV := Lib.hid hmv
    clear hV2 hmv hX5
    go_wp2_with fail
    rw [← HV2.out]
    refine bodyPost_ret (v := .tuple #[.agg #[.int .i64 0, .int .i64 0, .int .i64 0, .bool false], .bool false]) (by simp [results, Tryz.results99, go_sem, d0, d1', d2, d3]) rfl ?_
    exact ⟨by rw [show Pr.next s t = none by unfold Pr.next; rw [HINS.out]; rw [if_pos HFU.out]; rfl]; rfl, (below_at HB.out HBD.out).trans (HMV.out.below _ (by have := HB.out.size; have := HBD.out.size; omega) (fun k hk e => by have := HXW.out; omega))⟩
  · have e1 : (((x.fuel : Nat) : Int) == 0) = false := by simpa using hfu
    have HFU := Lib.hid hfu
    clear hfu
    by_cases hpc : x.pc < q.length
    · obtain ⟨i, hi⟩ := get_some hpc
      obtain ⟨g2, o2, rfl, hcell⟩ := HIN.out i hi
      have hins : Pr.ins s t = some i := by rw [HINS.out, if_neg HFU.out, hi]
      obtain ⟨nI, hn0, hn8', hok⟩ := HIO.out i hins
      have hnx : Pr.next s t = some (Pr.evOf s t i) := by unfold Pr.next; rw [hins]; rfl
      have HNX := Lib.hid hnx
      have HOK := Lib.hid hok
      have HCELL := Lib.hid hcell
      have q0 : (0 : Int) ≤ ((x.pc : Nat) : Int) := Int.natCast_nonneg _
      have e2 : ((x.pc : Nat) : Int) < ((q.length : Nat) : Int) := by omega
      have e3 : ¬ ((q.length : Nat) : Int) ≤ ((x.pc : Nat) : Int) := by omega
      have e4 : ¬ q.length ≤ x.pc := by omega
      have e5 : decide (q.length ≤ x.pc) = false := decide_eq_false e4
      clear hpc hi hcell hins hnx hok hn0 hn8' HIO HIN HINS
      obtain ⟨ik, ir, ix, im⟩ := i
      refine wp_region_planF (by kernel_rfl) (fun u => Below Wa.heap.size Wa u) [] [(0, .pure), (1, .pure), (2, .pure), (3, .pure), (4, .pure), (5, .pure), (6, .pure), (7, .load), (8, .pure), (9, .pure), (10, .pure), (11, .pure), (12, .pure), (13, .pure), (14, .pure), (15, .load), (16, .pure), (17, .pure), (18, .pure), (19, .load), (20, .pure), (21, .pure), (22, .pure), (23, .pure), (24, .pure), (25, .pure), (26, .load), (27, .pure), (28, .pure), (29, .pure), (30, .load), (31, .pure), (32, .pure), (33, .pure), (34, .pure), (35, .load), (36, .pure), (37, .pure), (38, .load), (39, .pure), (40, .pure), (41, .pure)] (by simp only [List.map_cons, List.map_nil, List.getElem?_toArray, List.getElem?_cons_succ, List.getElem?_cons_zero]; rfl) (by kernel_rfl) (fun _ _ d _ _ h => by cases d <;> exact h) ((Below.refl _ _).drew) ?_
      obtain ⟨Wd, hWd⟩ : ∃ z, z = Wa.drew := ⟨_, rfl⟩
      rw [← hWd]
      have hbd : Below Wa.heap.size Wa Wd := by rw [hWd]; exact (Below.refl _ _).drew
      have HBD := Lib.hid hbd
      clear hWd hbd
      repeat (first
        | (refine plan_pure (v := ?_) (by rfl) (fun w1 => ?_) ?_
           rotate_left
           · go_simp <;> with_reducible rfl
           simp only [Act.put, List.setIfInBounds_toArray, List.set_cons_zero, List.set_cons_succ])
        | (refine plan_off (by rfl) ?_
           simp only [Act.put, List.setIfInBounds_toArray, List.set_cons_zero, List.set_cons_succ])
        | (refine plan_load_off (by rfl) ?_
           simp only [Act.put, List.setIfInBounds_toArray, List.set_cons_zero, List.set_cons_succ])
        | (refine plan_load (v := ?_) (by rfl) (fun w1 hw1 => ?_) ?_
           rotate_left
           · (have qf := HF.out w1 (HWB.out.trans hw1)
              obtain ⟨c3, c2, t0, t1, ccode, sl, tl, gl, _⟩ := qf
              clear hw1
              go_simp <;> with_reducible rfl)
           simp only [Act.put, List.setIfInBounds_toArray, List.set_cons_zero, List.set_cons_succ]))
      refine plan_end ?_
      go_upto_region 3 with fail
      refine wp_region_planF (by kernel_rfl) (fun u => Below Wa.heap.size Wa u) [19] [(0, .pure), (1, .pure), (2, .pure), (3, .pure), (4, .load), (5, .pure), (6, .pure), (7, .load), (8, .pure), (9, .pure), (10, .pure), (11, .load), (12, .pure), (13, .pure), (14, .pure), (15, .load), (16, .pure), (17, .load), (18, .eff), (19, .last)] (by simp only [List.map_cons, List.map_nil, List.getElem?_toArray, List.getElem?_cons_succ, List.getElem?_cons_zero]; rfl) (by kernel_rfl) (fun _ _ d _ _ h => by cases d <;> exact h) (HBD.out.drew) ?_
      obtain ⟨We, hWe⟩ : ∃ z, z = Wd.drew := ⟨_, rfl⟩
      rw [← hWe]
      have hbe : Below Wa.heap.size Wa We := by rw [hWe]; exact HBD.out.drew
      have HBE := Lib.hid hbe
      clear hWe hbe
      repeat (first
        | (refine plan_pure (v := ?_) (by rfl) (fun w1 => ?_) ?_
           rotate_left
           · go_simp <;> with_reducible rfl
           simp only [Act.put, List.setIfInBounds_toArray, List.set_cons_zero, List.set_cons_succ])
        | (refine plan_off (by rfl) ?_
           simp only [Act.put, List.setIfInBounds_toArray, List.set_cons_zero, List.set_cons_succ])
        | (refine plan_load_off (by rfl) ?_
           simp only [Act.put, List.setIfInBounds_toArray, List.set_cons_zero, List.set_cons_succ])
        | (refine plan_load (v := ?_) (by rfl) (fun w1 hw1 => ?_) ?_
           rotate_left
           · (have qf := HF.out w1 (HWB.out.trans hw1)
              obtain ⟨c3, c2, t0, t1, ccode, sl, tl, gl, _⟩ := qf
              have qi := HCELL.out w1 (HWB.out.trans hw1)
              obtain ⟨⟨i0, i1, i2, i3⟩, il⟩ := qi
              clear hw1
              go_simp <;> with_reducible rfl)
           simp only [Act.put, List.setIfInBounds_toArray, List.set_cons_zero, List.set_cons_succ]))
      obtain ⟨Wf, hWf⟩ : ∃ z, z = We.alloc (Obj.cells #[.int .i64 0, .int .i64 0, .int .i64 0, .int .i64 0] 78) := ⟨_, rfl⟩
      obtain ⟨Z, hZ⟩ : ∃ z, z = We.heap.size := ⟨_, rfl⟩
      have hZk : Wf.heap[Z]? = some (.cells #[.int .i64 0, .int .i64 0, .int .i64 0, .int .i64 0] 78 (0, 0)) := by rw [hWf, hZ]; exact heap_alloc_new We _
      have hbf : Below Wa.heap.size Wa Wf := by rw [hWf]; exact HBE.out.alloc HBE.out.size _
      have hXZ : X < Z := by rw [hZ]; have := HBE.out.size; omega
      refine plan_eff ?_
      go_wp2_with fail
      rw [← hWf, ← hZ]
      have HBF := Lib.hid hbf
      have HZK := Lib.hid hZk
      have HXZ := Lib.hid hXZ
      have HZW := Lib.hid (show Wa.heap.size ≤ Z by rw [hZ]; exact HBE.out.size)
      clear hWf hZ hZk hbf hXZ
      refine plan_on (fun _ h => h) HBF.out ?_
      repeat (first
        | (refine plan_pure (v := ?_) (by rfl) (fun w1 => ?_) ?_
           rotate_left
           · go_simp <;> with_reducible rfl
           simp only [Act.put, List.setIfInBounds_toArray, List.set_cons_zero, List.set_cons_succ])
        | (refine plan_off (by rfl) ?_
           simp only [Act.put, List.setIfInBounds_toArray, List.set_cons_zero, List.set_cons_succ])
        | (refine plan_load_off (by rfl) ?_
           simp only [Act.put, List.setIfInBounds_toArray, List.set_cons_zero, List.set_cons_succ])
        | (refine plan_load (v := ?_) (by rfl) (fun w1 hw1 => ?_) ?_
           rotate_left
           · (have qf := HF.out w1 (HWB.out.trans hw1)
              obtain ⟨c3, c2, t0, t1, ccode, sl, tl, gl, _⟩ := qf
              have qi := HCELL.out w1 (HWB.out.trans hw1)
              obtain ⟨⟨i0, i1, i2, i3⟩, il⟩ := qi
              clear hw1
              go_simp <;> with_reducible rfl)
           simp only [Act.put, List.setIfInBounds_toArray, List.set_cons_zero, List.set_cons_succ]))
      obtain ⟨Wg, hWg, ⟨y0, y1, y2, y3⟩, hmg⟩ := in4_exit HZK.out (.int .i64 ik) (.int .i64 ir) (.int .i64 ix) (.int .i64 im)
      obtain ⟨⟨b0, b1, b2, b3⟩, el, g0, g1, g2', g3⟩ := in4_cells HZK.out
      refine plan_last ?_
      go_wp2_with fail
      repeat (first
        | (refine plan_pure (v := ?_) (by rfl) (fun w1 => ?_) ?_
           rotate_left
           · go_simp <;> with_reducible rfl
           simp only [Act.put, List.setIfInBounds_toArray, List.set_cons_zero, List.set_cons_succ])
        | (refine plan_off (by rfl) ?_
           simp only [Act.put, List.setIfInBounds_toArray, List.set_cons_zero, List.set_cons_succ])
        | (refine plan_load_off (by rfl) ?_
           simp only [Act.put, List.setIfInBounds_toArray, List.set_cons_zero, List.set_cons_succ])
        | (refine plan_load (v := ?_) (by rfl) (fun w1 hw1 => ?_) ?_
           rotate_left
           · (skip
              clear hw1
              go_simp <;> with_reducible rfl)
           simp only [Act.put, List.setIfInBounds_toArray, List.set_cons_zero, List.set_cons_succ]))
      refine plan_end ?_
      rw [← hWg]
      have hbg : Below Wa.heap.size Wa Wg := HBF.out.trans (hmg.below _ HBF.out.size (fun k hk e => by have := HXZ.out; have := HBE.out.size; have := HZW.out; omega))
      have hZg : Wg.heap[Z]? = some (.cells #[.int .i64 ik, .int .i64 ir, .int .i64 ix, .int .i64 im] 78 (0, 0)) := by
        rw [hWg, set_blk (set_blk (set_blk (set_blk HZK.out 0 _) 1 _) 2 _) 3 _]; simp
      obtain ⟨W5, Y, hW5, hY, hB5, hYl, hYe⟩ := ev_box Wg ⟨(t : Int), 1, 0, false⟩
      simp only at hW5
      have hY5 : W5.heap[Y]? = some (.cells #[.int .i64 (t : Int), .int .i64 1, .int .i64 0, .bool false] 57 (0, 0)) := by rw [hW5, hY]; exact heap_alloc_new Wg _
      have hZ5 := (hB5.block Z (blk_lt hZg)).trans hZg
      have HY5 := Lib.hid hY5
      have HZC := Lib.hid (in4_cells hZ5).1
      have HZL := Lib.hid (blk_lt hZ5)
      have HYZ := Lib.hid (show Z < Y by rw [hY]; exact blk_lt hZg)
      have HB5 := Lib.hid (below_at hbg hB5)
      have HYW := Lib.hid (show Wa.heap.size ≤ Y by rw [hY]; exact hbg.size)
      clear hWg y0 y1 y2 y3 hmg b0 b1 b2 b3 el g0 g1 g2' g3 hbg hZg hB5 hYl hYe hY5 hZ5
      go_upto_region 5 with fail
      rw [← hW5, ← hY]
      clear hW5 hY
      obtain ⟨z0, z1, z2, z3⟩ := HZC.out
      have zl := HZL.out
      go_upto_block 0 with fail
      clear z0 z1 z2 z3
      go_cut [73] (fun a w2 => Hid (w2.heap[Y]? = some (.cells (evCells (Pr.evOf s t ⟨ik, ir, ix, im⟩)) 57 (0, 0))) ∧ Hid (Mod (fun k => k = Y) W5 w2))
      case first =>
        rcases (show ik = 1 ∨ ik = 2 ∨ ik = 3 ∨ ik = 4 ∨ ik = 5 ∨ ik = 6 ∨ ik = 7 ∨ ik = 8 from by have h1 := HOK.out.1; have h8 := HOK.out.2.1; simp only at h1 h8; omega) with rfl | rfl | rfl | rfl | rfl | rfl | rfl | rfl
        · obtain ⟨⟨e0, e1', e2', e3'⟩, el, g0, g1, g2', g3⟩ := in4_cells HY5.out
          go_upto_region 8 with fail
          obtain ⟨W6, hW6⟩ : ∃ z, z = W5.setCell ⟨Y, 1, none⟩ (.int .i64 2) := ⟨_, rfl⟩
          rw [← hW6]
          have hm6 : Mod (fun k => k = Y) W5 W6 := by rw [hW6]; exact (Mod.refl (fun k => k = Y) _).setCell (p := ⟨Y, 1, none⟩) (fun _ => rfl) _
          have hY6 : W6.heap[Y]? = some (.cells #[.int .i64 (t : Int), .int .i64 2, .int .i64 0, .bool false] 57 (0, 0)) := by rw [hW6, set_blk HY5.out 1 _]; simp
          have z2' := (hm6.cell Z 2 HZL.out (by have := HYZ.out; omega)).trans HZC.out.2.2.1
          have zl' : Z < W6.heap.size := by have := HZL.out; have := hm6.size; omega
          clear hW6 e0 e1' e2' e3' el g0 g1 g2' g3
          obtain ⟨⟨e0, e1', e2', e3'⟩, el, g0, g1, g2', g3⟩ := in4_cells hY6
          have HY8 := Lib.hid (set_blk hY6 2 (.int .i64 ix))
          have HM8 := Lib.hid (hm6.setCell (p := ⟨Y, 2, none⟩) (fun _ => rfl) (.int .i64 ix))
          clear hY6 hm6
          go_wp2_with fail
          go_meet
          exact ⟨Lib.hid (by rw [HY8.out]; simp [evCells, Pr.evOf]), HM8⟩
        · obtain ⟨⟨e0, e1', e2', e3'⟩, el, g0, g1, g2', g3⟩ := in4_cells HY5.out
          go_upto_region 11 with fail
          obtain ⟨W6, hW6⟩ : ∃ z, z = W5.setCell ⟨Y, 1, none⟩ (.int .i64 3) := ⟨_, rfl⟩
          rw [← hW6]
          have hm6 : Mod (fun k => k = Y) W5 W6 := by rw [hW6]; exact (Mod.refl (fun k => k = Y) _).setCell (p := ⟨Y, 1, none⟩) (fun _ => rfl) _
          have hY6 : W6.heap[Y]? = some (.cells #[.int .i64 (t : Int), .int .i64 3, .int .i64 0, .bool false] 57 (0, 0)) := by rw [hW6, set_blk HY5.out 1 _]; simp
          have z2' := (hm6.cell Z 2 HZL.out (by have := HYZ.out; omega)).trans HZC.out.2.2.1
          have zl' : Z < W6.heap.size := by have := HZL.out; have := hm6.size; omega
          clear hW6 e0 e1' e2' e3' el g0 g1 g2' g3
          obtain ⟨⟨e0, e1', e2', e3'⟩, el, g0, g1, g2', g3⟩ := in4_cells hY6
          have HY8 := Lib.hid (set_blk hY6 2 (.int .i64 ix))
          have HM8 := Lib.hid (hm6.setCell (p := ⟨Y, 2, none⟩) (fun _ => rfl) (.int .i64 ix))
          clear hY6 hm6
          go_wp2_with fail
          go_meet
          exact ⟨Lib.hid (by rw [HY8.out]; simp [evCells, Pr.evOf]), HM8⟩
        · obtain ⟨⟨z0', z1', z2', z3'⟩, _⟩ := (And.intro HZC.out trivial)
          go_wp2_with fail
          go_meet
          exact ⟨Lib.hid (by rw [HY5.out]; simp [evCells, Pr.evOf]), Lib.hid (Mod.refl _ _)⟩
        · obtain ⟨⟨z0', z1', z2', z3'⟩, _⟩ := (And.intro HZC.out trivial)
          go_wp2_with fail
          go_meet
          exact ⟨Lib.hid (by rw [HY5.out]; simp [evCells, Pr.evOf]), Lib.hid (Mod.refl _ _)⟩
        · obtain ⟨⟨e0, e1', e2', e3'⟩, el, g0, g1, g2', g3⟩ := in4_cells HY5.out
          go_upto_region 14 with fail
          obtain ⟨W6, hW6⟩ : ∃ z, z = W5.setCell ⟨Y, 1, none⟩ (.int .i64 4) := ⟨_, rfl⟩
          rw [← hW6]
          have hm6 : Mod (fun k => k = Y) W5 W6 := by rw [hW6]; exact (Mod.refl (fun k => k = Y) _).setCell (p := ⟨Y, 1, none⟩) (fun _ => rfl) _
          have hY6 : W6.heap[Y]? = some (.cells #[.int .i64 (t : Int), .int .i64 4, .int .i64 0, .bool false] 57 (0, 0)) := by rw [hW6, set_blk HY5.out 1 _]; simp
          have z2' := (hm6.cell Z 2 HZL.out (by have := HYZ.out; omega)).trans HZC.out.2.2.1
          have zl' : Z < W6.heap.size := by have := HZL.out; have := hm6.size; omega
          clear hW6 e0 e1' e2' e3' el g0 g1 g2' g3
          obtain ⟨⟨e0, e1', e2', e3'⟩, el, g0, g1, g2', g3⟩ := in4_cells hY6
          have HY8 := Lib.hid (set_blk hY6 2 (.int .i64 ix))
          have HM8 := Lib.hid (hm6.setCell (p := ⟨Y, 2, none⟩) (fun _ => rfl) (.int .i64 ix))
          clear hY6 hm6
          go_wp2_with fail
          go_meet
          exact ⟨Lib.hid (by rw [HY8.out]; simp [evCells, Pr.evOf]), HM8⟩
        · have hx := HOK.out.2.2.2.2.2.1
          have hxm := HOK.out.2.2.2.2.2.2.2.2.2.2.1 (Or.inr rfl)
          have hmm := HMM.out
          simp only at hx hxm
          obtain ⟨m, rfl⟩ : ∃ m : Nat, ix = m := ⟨ix.toNat, by omega⟩
          have hm2 : m < 2 := by omega
          clear hx hxm hmm
          have k5 : (0 : Int) ≤ (m : Int) := Int.natCast_nonneg _
          have k6 : (m : Int) < 2 := by omega
          go_upto_region 16 with fail
          refine wp_region_planF (by kernel_rfl) (fun u => Mod (fun k => k = Y) W5 u) [] [(0, .pure), (1, .pure), (2, .load), (3, .pure), (4, .pure), (5, .pure), (6, .load), (7, .pure), (8, .pure)] (by simp only [List.map_cons, List.map_nil, List.getElem?_toArray, List.getElem?_cons_succ, List.getElem?_cons_zero]; rfl) (by kernel_rfl) (fun _ _ d _ _ h => by cases d <;> exact h) ((Mod.refl _ _).drew) ?_
          obtain ⟨WD, hWD⟩ : ∃ z, z = W5.drew := ⟨_, rfl⟩
          rw [← hWD]
          have hmd : Mod (fun k => k = Y) W5 WD := by rw [hWD]; exact (Mod.refl _ _).drew
          have hyd : WD.heap[Y]? = some (.cells #[.int .i64 (t : Int), .int .i64 1, .int .i64 0, .bool false] 57 (0, 0)) := by rw [hWD]; exact HY5.out
          have HMD := Lib.hid hmd
          have HYD := Lib.hid hyd
          clear hWD hmd hyd
          by_cases hh : s.h m = (t : Int)
          · have hd : (s.h m == (t : Int)) = true := by simpa using hh
            have hev : Pr.evOf s t ⟨6, ir, (m : Int), im⟩ = ⟨t, 5, m, false⟩ := by simp [Pr.evOf, hh]
            have HEV := Lib.hid hev
            clear hev hh
            repeat (first
              | (refine plan_pure (v := ?_) (by rfl) (fun w1 => ?_) ?_
                 rotate_left
                 · go_simp <;> with_reducible rfl
                 simp only [Act.put, List.setIfInBounds_toArray, List.set_cons_zero, List.set_cons_succ])
              | (refine plan_off (by rfl) ?_
                 simp only [Act.put, List.setIfInBounds_toArray, List.set_cons_zero, List.set_cons_succ])
              | (refine plan_load_off (by rfl) ?_
                 simp only [Act.put, List.setIfInBounds_toArray, List.set_cons_zero, List.set_cons_succ])
              | (refine plan_load (v := ?_) (by rfl) (fun w1 hw1 => ?_) ?_
                 rotate_left
                 · (have qz := (hw1.cell Z 2 HZL.out (by have := HYZ.out; omega)).trans HZC.out.2.2.1
                    have hbz : Below Wa.heap.size Wa w1 := HB5.out.trans (hw1.below _ HB5.out.size (fun k hk e => by have := HYW.out; omega))
                    have qf := HF.out w1 hbz
                    have qr := qf.2.2.2.2.2.2.2.2
                    have sl := qf.2.2.2.2.2.1
                    have zl : Z < w1.heap.size := by have := hw1.size; have := HZL.out; omega
                    obtain ⟨PA, pc', tc', _, _, _, _, _, qh, _⟩ := qr.cells
                    have q3 := qh m hm2
                    clear qf qh qr hbz
                    clear hw1
                    go_simp <;> with_reducible rfl)
                 simp only [Act.put, List.setIfInBounds_toArray, List.set_cons_zero, List.set_cons_succ]))
            refine plan_end ?_
            obtain ⟨⟨e0, e1', e2', e3'⟩, el, g0, g1, g2', g3⟩ := in4_cells HYD.out
            go_upto_region 18 with fail
            obtain ⟨W6, hW6⟩ : ∃ z, z = WD.setCell ⟨Y, 1, none⟩ (.int .i64 5) := ⟨_, rfl⟩
            rw [← hW6]
            have hm6 : Mod (fun k => k = Y) W5 W6 := by rw [hW6]; exact HMD.out.setCell (p := ⟨Y, 1, none⟩) (fun _ => rfl) _
            have hY6 : W6.heap[Y]? = some (.cells #[.int .i64 (t : Int), .int .i64 5, .int .i64 0, .bool false] 57 (0, 0)) := by rw [hW6, set_blk HYD.out 1 _]; simp
            have z2' := (hm6.cell Z 2 HZL.out (by have := HYZ.out; omega)).trans HZC.out.2.2.1
            have zl' : Z < W6.heap.size := by have := HZL.out; have := hm6.size; omega
            clear hW6 e0 e1' e2' e3' el g0 g1 g2' g3
            obtain ⟨⟨e0, e1', e2', e3'⟩, el, g0, g1, g2', g3⟩ := in4_cells hY6
            have HY8 := Lib.hid (set_blk hY6 2 (.int .i64 (m : Int)))
            have HM8 := Lib.hid (hm6.setCell (p := ⟨Y, 2, none⟩) (fun _ => rfl) (.int .i64 (m : Int)))
            clear hY6 hm6
            go_wp2_with fail
            go_meet
            exact ⟨Lib.hid (by rw [HY8.out, HEV.out]; simp [evCells]), HM8⟩
          · have hd : (s.h m == (t : Int)) = false := by simpa using hh
            have hev : Pr.evOf s t ⟨6, ir, (m : Int), im⟩ = ⟨t, 1, 0, true⟩ := by simp [Pr.evOf, hh]
            have HEV := Lib.hid hev
            clear hev hh
            repeat (first
              | (refine plan_pure (v := ?_) (by rfl) (fun w1 => ?_) ?_
                 rotate_left
                 · go_simp <;> with_reducible rfl
                 simp only [Act.put, List.setIfInBounds_toArray, List.set_cons_zero, List.set_cons_succ])
              | (refine plan_off (by rfl) ?_
                 simp only [Act.put, List.setIfInBounds_toArray, List.set_cons_zero, List.set_cons_succ])
              | (refine plan_load_off (by rfl) ?_
                 simp only [Act.put, List.setIfInBounds_toArray, List.set_cons_zero, List.set_cons_succ])
              | (refine plan_load (v := ?_) (by rfl) (fun w1 hw1 => ?_) ?_
                 rotate_left
                 · (have qz := (hw1.cell Z 2 HZL.out (by have := HYZ.out; omega)).trans HZC.out.2.2.1
                    have hbz : Below Wa.heap.size Wa w1 := HB5.out.trans (hw1.below _ HB5.out.size (fun k hk e => by have := HYW.out; omega))
                    have qf := HF.out w1 hbz
                    have qr := qf.2.2.2.2.2.2.2.2
                    have sl := qf.2.2.2.2.2.1
                    have zl : Z < w1.heap.size := by have := hw1.size; have := HZL.out; omega
                    obtain ⟨PA, pc', tc', _, _, _, _, _, qh, _⟩ := qr.cells
                    have q3 := qh m hm2
                    clear qf qh qr hbz
                    clear hw1
                    go_simp <;> with_reducible rfl)
                 simp only [Act.put, List.setIfInBounds_toArray, List.set_cons_zero, List.set_cons_succ]))
            refine plan_end ?_
            obtain ⟨⟨e0, e1', e2', e3'⟩, el, g0, g1, g2', g3⟩ := in4_cells HYD.out
            have HY8 := Lib.hid (set_blk HYD.out 3 (.bool true))
            have HM8 := Lib.hid (HMD.out.setCell (p := ⟨Y, 3, none⟩) (fun _ => rfl) (.bool true))
            go_wp2_with fail
            go_meet
            exact ⟨Lib.hid (by rw [HY8.out, HEV.out]; simp [evCells]), HM8⟩
        · obtain ⟨⟨z0', z1', z2', z3'⟩, _⟩ := (And.intro HZC.out trivial)
          go_wp2_with fail
          go_meet
          exact ⟨Lib.hid (by rw [HY5.out]; simp [evCells, Pr.evOf]), Lib.hid (Mod.refl _ _)⟩
        · have hx := HOK.out.2.2.2.2.2.2.1
          have hxm := HOK.out.2.2.2.2.2.2.2.1
          simp only at hx hxm
          obtain ⟨m, rfl⟩ : ∃ m : Nat, ir = m := ⟨ir.toNat, by omega⟩
          have hm2 : m < 2 := by omega
          clear hx hxm
          have k5 : (0 : Int) ≤ (m : Int) := Int.natCast_nonneg _
          have k6 : (m : Int) < 2 := by omega
          obtain ⟨y, hy⟩ : ∃ y, y = x.r m := ⟨_, rfl⟩
          have HYR := Lib.hid hy
          clear hy
          go_upto_region 21 with fail
          refine wp_region_planF (by kernel_rfl) (fun u => Mod (fun k => k = Y) W5 u) [13] [(0, .pure), (1, .pure), (2, .pure), (3, .load), (4, .pure), (5, .pure), (6, .load), (7, .pure), (8, .pure), (9, .pure), (10, .load), (11, .pure), (12, .pure), (13, .last)] (by simp only [List.map_cons, List.map_nil, List.getElem?_toArray, List.getElem?_cons_succ, List.getElem?_cons_zero]; rfl) (by kernel_rfl) (fun _ _ d _ _ h => by cases d <;> exact h) ((Mod.refl _ _).drew) ?_
          obtain ⟨WD, hWD⟩ : ∃ z, z = W5.drew := ⟨_, rfl⟩
          rw [← hWD]
          have hmd : Mod (fun k => k = Y) W5 WD := by rw [hWD]; exact (Mod.refl _ _).drew
          have hyd : WD.heap[Y]? = some (.cells #[.int .i64 (t : Int), .int .i64 1, .int .i64 0, .bool false] 57 (0, 0)) := by rw [hWD]; exact HY5.out
          have HMD := Lib.hid hmd
          have HYD := Lib.hid hyd
          clear hWD hmd hyd
          by_cases hy0 : y = 0
          · have hev : Pr.evOf s t ⟨8, (m : Int), ix, im⟩ = ⟨t, 1, 0, true⟩ := by simp [Pr.evOf, HXT.out.1, ← HYR.out, hy0]
            have hd : (y == 0) = true := by simpa using hy0
            have HEV := Lib.hid hev
            clear hev
            repeat (first
              | (refine plan_pure (v := ?_) (by rfl) (fun w1 => ?_) ?_
                 rotate_left
                 · go_simp <;> with_reducible rfl
                 simp only [Act.put, List.setIfInBounds_toArray, List.set_cons_zero, List.set_cons_succ])
              | (refine plan_off (by rfl) ?_
                 simp only [Act.put, List.setIfInBounds_toArray, List.set_cons_zero, List.set_cons_succ])
              | (refine plan_load_off (by rfl) ?_
                 simp only [Act.put, List.setIfInBounds_toArray, List.set_cons_zero, List.set_cons_succ])
              | (refine plan_load (v := ?_) (by rfl) (fun w1 hw1 => ?_) ?_
                 rotate_left
                 · (have qz := (hw1.cell Z 1 HZL.out (by have := HYZ.out; omega)).trans HZC.out.2.1
                    have hbz : Below Wa.heap.size Wa w1 := HB5.out.trans (hw1.below _ HB5.out.size (fun k hk e => by have := HYW.out; omega))
                    have qf := HF.out w1 hbz
                    have qr := qf.2.2.2.2.2.2.2.2
                    have sl := qf.2.2.2.2.2.1
                    have zl : Z < w1.heap.size := by have := hw1.size; have := HZL.out; omega
                    have q3 := (qr.thread t x HXT.out.1).2.2 m hm2
                    rw [← HYR.out] at q3
                    have q4 := qf.1
                    have ql := qf.2.2.2.2.2.2.1
                    clear qf qr hbz
                    clear hw1
                    go_simp <;> with_reducible rfl)
                 simp only [Act.put, List.setIfInBounds_toArray, List.set_cons_zero, List.set_cons_succ]))
            obtain ⟨⟨e0, e1', e2', e3'⟩, el, g0, g1, g2', g3⟩ := in4_cells HYD.out
            have HY8 := Lib.hid (set_blk HYD.out 3 (.bool true))
            have HM8 := Lib.hid (HMD.out.setCell (p := ⟨Y, 3, none⟩) (fun _ => rfl) (.bool true))
            refine plan_last ?_
            go_wp2_with fail
            repeat (first
              | (refine plan_pure (v := ?_) (by rfl) (fun w1 => ?_) ?_
                 rotate_left
                 · go_simp <;> with_reducible rfl
                 simp only [Act.put, List.setIfInBounds_toArray, List.set_cons_zero, List.set_cons_succ])
              | (refine plan_off (by rfl) ?_
                 simp only [Act.put, List.setIfInBounds_toArray, List.set_cons_zero, List.set_cons_succ])
              | (refine plan_load_off (by rfl) ?_
                 simp only [Act.put, List.setIfInBounds_toArray, List.set_cons_zero, List.set_cons_succ])
              | (refine plan_load (v := ?_) (by rfl) (fun w1 hw1 => ?_) ?_
                 rotate_left
                 · (skip
                    clear hw1
                    go_simp <;> with_reducible rfl)
                 simp only [Act.put, List.setIfInBounds_toArray, List.set_cons_zero, List.set_cons_succ]))
            refine plan_end ?_
            go_wp2_with fail
            go_meet
            exact ⟨Lib.hid (by rw [HY8.out, HEV.out]; simp [evCells]), HM8⟩
          · have hev : Pr.evOf s t ⟨8, (m : Int), ix, im⟩ = ⟨t, 1, 0, false⟩ := by simp [Pr.evOf, HXT.out.1, ← HYR.out, hy0]
            have hd : (y == 0) = false := by simpa using hy0
            have HEV := Lib.hid hev
            clear hev
            repeat (first
              | (refine plan_pure (v := ?_) (by rfl) (fun w1 => ?_) ?_
                 rotate_left
                 · go_simp <;> with_reducible rfl
                 simp only [Act.put, List.setIfInBounds_toArray, List.set_cons_zero, List.set_cons_succ])
              | (refine plan_off (by rfl) ?_
                 simp only [Act.put, List.setIfInBounds_toArray, List.set_cons_zero, List.set_cons_succ])
              | (refine plan_load_off (by rfl) ?_
                 simp only [Act.put, List.setIfInBounds_toArray, List.set_cons_zero, List.set_cons_succ])
              | (refine plan_load (v := ?_) (by rfl) (fun w1 hw1 => ?_) ?_
                 rotate_left
                 · (have qz := (hw1.cell Z 1 HZL.out (by have := HYZ.out; omega)).trans HZC.out.2.1
                    have hbz : Below Wa.heap.size Wa w1 := HB5.out.trans (hw1.below _ HB5.out.size (fun k hk e => by have := HYW.out; omega))
                    have qf := HF.out w1 hbz
                    have qr := qf.2.2.2.2.2.2.2.2
                    have sl := qf.2.2.2.2.2.1
                    have zl : Z < w1.heap.size := by have := hw1.size; have := HZL.out; omega
                    have q3 := (qr.thread t x HXT.out.1).2.2 m hm2
                    rw [← HYR.out] at q3
                    have q4 := qf.1
                    have ql := qf.2.2.2.2.2.2.1
                    clear qf qr hbz
                    clear hw1
                    go_simp <;> with_reducible rfl)
                 simp only [Act.put, List.setIfInBounds_toArray, List.set_cons_zero, List.set_cons_succ]))
            obtain ⟨⟨e0, e1', e2', e3'⟩, el, g0, g1, g2', g3⟩ := in4_cells HYD.out
            have HY8 := Lib.hid (set_blk HYD.out 3 (.bool false))
            have HM8 := Lib.hid (HMD.out.setCell (p := ⟨Y, 3, none⟩) (fun _ => rfl) (.bool false))
            refine plan_last ?_
            go_wp2_with fail
            repeat (first
              | (refine plan_pure (v := ?_) (by rfl) (fun w1 => ?_) ?_
                 rotate_left
                 · go_simp <;> with_reducible rfl
                 simp only [Act.put, List.setIfInBounds_toArray, List.set_cons_zero, List.set_cons_succ])
              | (refine plan_off (by rfl) ?_
                 simp only [Act.put, List.setIfInBounds_toArray, List.set_cons_zero, List.set_cons_succ])
              | (refine plan_load_off (by rfl) ?_
                 simp only [Act.put, List.setIfInBounds_toArray, List.set_cons_zero, List.set_cons_succ])
              | (refine plan_load (v := ?_) (by rfl) (fun w1 hw1 => ?_) ?_
                 rotate_left
                 · (skip
                    clear hw1
                    go_simp <;> with_reducible rfl)
                 simp only [Act.put, List.setIfInBounds_toArray, List.set_cons_zero, List.set_cons_succ]))
            refine plan_end ?_
            go_wp2_with fail
            go_meet
            exact ⟨Lib.hid (by rw [HY8.out, HEV.out]; simp [evCells]), HM8⟩
      case rest =>
        obtain ⟨HYC, HMC⟩ := hcut
        obtain ⟨e, he⟩ : ∃ e, e = Pr.evOf s t ⟨ik, ir, ix, im⟩ := ⟨_, rfl⟩
        rw [← he] at HYC
        have hXc : wc.heap[X]? = _ := (HMC.out.block X (by have := HB5.out.size; have := blk_lt HXK.out; omega) (by have := HXZ.out; have := HYZ.out; omega)).trans ((HB5.out.block X (blk_lt HXK.out)).trans HXK.out)
        obtain ⟨V2, hV2, ⟨d0, d1', d2, d3⟩, hmv⟩ := in4_exit hXc (.int .i64 e.t) (.int .i64 e.k) (.int .i64 e.o) (.bool e.f)
        obtain ⟨⟨e0, e1', e2', e3'⟩, el, g0, g1, g2', g3⟩ := in4_cells hXc
        obtain ⟨⟨y0, y1, y2, y3⟩, yl, _⟩ := in4_cells HYC.out
        have HE := Lib.hid he
        have HV2 := Lib.hid hV2
        have HMV := Lib.hid hmv
        clear hV2 hmv he hXc
        go_wp2_with fail
        rw [← HV2.out]
        refine bodyPost_ret (v := .tuple #[.agg #[.int .i64 e.t, .int .i64 e.k, .int .i64 e.o, .bool e.f], .bool true]) (by simp [results, Tryz.results99, go_sem, d0, d1', d2, d3]) rfl ?_
        refine ⟨by rw [HNX.out, Option.getD_some, Option.isSome_some, ← HE.out]; rfl, ?_⟩
        have h1 := below_at HB.out HB5.out
        have h2 := h1.trans (HMC.out.below _ h1.size (fun k hk e => by have := HYW.out; have := HB.out.size; omega))
        exact h2.trans (HMV.out.below _ h2.size (fun k hk e => by have := HXW.out; omega))
    · have e2 : ¬ ((x.pc : Nat) : Int) < ((q.length : Nat) : Int) := by omega
      have e3 : ((q.length : Nat) : Int) ≤ ((x.pc : Nat) : Int) := by omega
      have e4 : q.length ≤ x.pc := by omega
      have e5 : decide (q.length ≤ x.pc) = true := decide_eq_true e4
      have HP := Lib.hid hpc
      clear hpc
      refine wp_region_planF (by kernel_rfl) (fun u => Below Wa.heap.size Wa u) [] [(0, .pure), (1, .pure), (2, .pure), (3, .pure), (4, .pure), (5, .pure), (6, .pure), (7, .load), (8, .pure), (9, .pure), (10, .pure), (11, .pure), (12, .pure), (13, .pure), (14, .pure), (15, .load), (16, .pure), (17, .pure), (18, .pure), (19, .load), (20, .pure), (21, .pure), (22, .pure), (23, .pure), (24, .pure), (25, .pure), (26, .load), (27, .pure), (28, .pure), (29, .pure), (30, .load), (31, .pure), (32, .pure), (33, .pure), (34, .pure), (35, .load), (36, .pure), (37, .pure), (38, .load), (39, .pure), (40, .pure), (41, .pure)] (by simp only [List.map_cons, List.map_nil, List.getElem?_toArray, List.getElem?_cons_succ, List.getElem?_cons_zero]; rfl) (by kernel_rfl) (fun _ _ d _ _ h => by cases d <;> exact h) ((Below.refl _ _).drew) ?_
      obtain ⟨Wd, hWd⟩ : ∃ z, z = Wa.drew := ⟨_, rfl⟩
      rw [← hWd]
      have hbd : Below Wa.heap.size Wa Wd := by rw [hWd]; exact (Below.refl _ _).drew
      have hX5 := (hbd.block X hXl).trans HXK.out
      have HBD := Lib.hid hbd
      clear hWd hbd
      repeat (first
        | (refine plan_pure (v := ?_) (by rfl) (fun w1 => ?_) ?_
           rotate_left
           · go_simp <;> with_reducible rfl
           simp only [Act.put, List.setIfInBounds_toArray, List.set_cons_zero, List.set_cons_succ])
        | (refine plan_off (by rfl) ?_
           simp only [Act.put, List.setIfInBounds_toArray, List.set_cons_zero, List.set_cons_succ])
        | (refine plan_load_off (by rfl) ?_
           simp only [Act.put, List.setIfInBounds_toArray, List.set_cons_zero, List.set_cons_succ])
        | (refine plan_load (v := ?_) (by rfl) (fun w1 hw1 => ?_) ?_
           rotate_left
           · (have qf := HF.out w1 (HWB.out.trans hw1)
              obtain ⟨c3, c2, t0, t1, ccode, sl, tl, gl, _⟩ := qf
              clear hw1
              go_simp <;> with_reducible rfl)
           simp only [Act.put, List.setIfInBounds_toArray, List.set_cons_zero, List.set_cons_succ]))
      refine plan_end ?_
      obtain ⟨V2, hV2, ⟨d0, d1', d2, d3⟩, hmv⟩ := in4_exit hX5 (.int .i64 0) (.int .i64 0) (.int .i64 0) (.bool false)
      obtain ⟨⟨e0, e1', e2, e3⟩, el, g0, g1, g2, g3⟩ := in4_cells hX5
      have HV2 := Lib.hid hV2
      have HMV := Lib.hid hmv
      clear hV2 hmv hX5
      go_wp2_with fail
      rw [← HV2.out]
      refine bodyPost_ret (v := .tuple #[.agg #[.int .i64 0, .int .i64 0, .int .i64 0, .bool false], .bool false]) (by simp [results, Tryz.results99, go_sem, d0, d1', d2, d3]) rfl ?_
      exact ⟨by rw [show Pr.next s t = none by unfold Pr.next; rw [HINS.out]; rw [if_neg HFU.out, List.getElem?_eq_none (by have := HP.out; omega)]; rfl]; rfl, (below_at HB.out HBD.out).trans (HMV.out.below _ (by have := HB.out.size; have := HBD.out.size; omega) (fun k hk e => by have := HXW.out; omega))⟩
end Go.Proofs.YtcaapoacmfjnmaaGreat
