/- The document's work: Steal; awake. -/
import Derived.Test.YtedogccbndjdpaaWorkS
namespace Go.Proofs.Ytedogccbndjdpaa
open Go.RowKit
set_option linter.unusedVariables false

set_option maxHeartbeats 1000000 in
theorem ref_steal_no (w : World) (F : Nat → Prop) (B : Nat) (ls : List (List ByteArray)) (hW : RefW w F B ls) (i k : Int) (hno : i < 0 ∨ (ls.length : Int) ≤ i ∨ i = k ∨ rowOf ls k = []) :
    Calls Try.prog 35 #[ptrV B, .int .i64 i, .int .i64 k] w fun e w' => e = .returned (.tuple #[.string ⟨#[]⟩, .bool false]) ∧ w = w' := by
  obtain ⟨d, A, cap, vs, h1, h3⟩ := hW
  have HI := Lib.hid (h1.is i)
  have HK := Lib.hid (h1.is k)
  by_cases hi : i < 0 ∨ (ls.length : Int) ≤ i
  · rw [inR_out hi] at HI
    clear h1 h3 HK
    unfold ptrV at HI ⊢
    go_enter Try.func35, Try.ntmps35
    go_wp2_with fail
    refine HI.out.mono ?_
    rintro e w1 ⟨rfl, rfl⟩
    go_wp2_with fail
    go_ret2
    exact ⟨rfl, rfl⟩
  · obtain ⟨i, rfl⟩ := Int.eq_ofNat_of_zero_le (show 0 ≤ i by omega)
    rw [inR_nat (by omega)] at HI
    by_cases hk : k < 0 ∨ (ls.length : Int) ≤ k
    · rw [inR_out hk] at HK
      clear h1 h3
      unfold ptrV at HI HK ⊢
      go_enter Try.func35, Try.ntmps35
      go_wp2_with fail
      refine HI.out.mono ?_
      rintro e w1 ⟨rfl, rfl⟩
      go_wp2_with fail
      refine HK.out.mono ?_
      rintro e w1 ⟨rfl, rfl⟩
      go_wp2_with fail
      go_ret2
      exact ⟨rfl, rfl⟩
    · obtain ⟨k, rfl⟩ := Int.eq_ofNat_of_zero_le (show 0 ≤ k by omega)
      have hk' : k < ls.length := by omega
      rw [inR_nat (by omega)] at HK
      by_cases hik : (i : Int) = (k : Int)
      · obtain rfl : i = k := by omega
        clear h1 h3 hik hno
        have hb : ((i : Int) == (i : Int)) = true := by simp
        unfold ptrV at HI HK ⊢
        go_enter Try.func35, Try.ntmps35
        go_wp2_with fail
        refine HI.out.mono ?_
        rintro e w1 ⟨rfl, rfl⟩
        go_wp2_with fail
        refine HK.out.mono ?_
        rintro e w1 ⟨rfl, rfl⟩
        go_wp2_with fail
        go_ret2
        exact ⟨rfl, rfl⟩
      · have hr0 : rowOf ls k = [] := by
          rcases hno with h | h | h | h
          · omega
          · omega
          · exact (hik h).elim
          · exact h
        rw [rowOf_in hk'] at hr0
        obtain ⟨g, o, A', c', rfl, lg, c0, c1, hr⟩ := h1.cell k hk'
        rw [hr0] at c1
        have k1 : (0 : Int) ≤ (k : Int) := Int.natCast_nonneg _
        have k2 : (k : Int) < (ls.length : Int) := by omega
        have hb : ((i : Int) == (k : Int)) = false := by simpa using hik
        clear h1 h3 hr hik hno
        unfold ptrV at HI HK ⊢
        go_enter Try.func35, Try.ntmps35
        go_wp2_with fail
        refine HI.out.mono ?_
        rintro e w1 ⟨rfl, rfl⟩
        go_wp2_with fail
        refine HK.out.mono ?_
        rintro e w1 ⟨rfl, rfl⟩
        go_wp2_with fail
        go_ret2
        exact ⟨rfl, rfl⟩

set_option maxRecDepth 100000 in
set_option maxHeartbeats 1000000 in
theorem ref_steal (w : World) (F : Nat → Prop) (B : Nat) (ls : List (List ByteArray)) (hW : RefW w F B ls) (i k : Nat) (hi : i < ls.length) (hk : k < ls.length) (hik : i ≠ k) (x : ByteArray) (r : List ByteArray) (hx : ls[k] = r ++ [x]) (hl : r.length < 100000) (hl2 : ls[i].length < 100000) :
    Calls Try.prog 35 #[ptrV B, .int .i64 i, .int .i64 k] w fun e w' => e = .returned (.tuple #[.string x, .bool true]) ∧ RefW w' (fun k => F k ∨ w.heap.size ≤ k) B ((ls.set k r).set i (Hp.putF ahead ls[i] x)) ∧ Mod F w w' := by
  obtain ⟨d, A, cap, vs, h1, h3⟩ := hW
  have HI := Lib.hid (h1.is i)
  have HK := Lib.hid (h1.is k)
  rw [inR_nat (by omega)] at HI HK
  obtain ⟨i0, hi0, hz0, hz1, hz2⟩ := info_parts Try.infoStr
  obtain ⟨g, o, A', c', rfl, lg, c0, c1, hr⟩ := h1.cell k hk
  have hkl : ls[k].length = r.length + 1 := by rw [hx]; simp
  rw [hkl] at c1
  rw [hkl, hx] at hr
  obtain ⟨g', o', rfl⟩ := hr.1.some_of_pos (by have := hr.1.2.1; omega)
  have c2 : w.cell? ⟨g', o' + r.length, none⟩ = some (.string x) := by have := hr.1.cell r.length (by omega); simpa using this
  have lB := h1.blk.lt
  have lg' := hr.1.lt
  have hcap := hr.1.2.1
  have hcut := cut_to (P := Try.prog) (A := some ⟨g', o', none⟩) (n := r.length + 1) (cap := c') 50 9 Try.underlying50 hi0 .i64 r.length (by omega)
  have hcut1 : ∀ W : World, (Instr.slice 50 (.slice (some ⟨g', o', none⟩) (r.length + 1) c') none (some (.int .i64 r.length)) none).run Try.prog W = .ok (.slice (some ⟨g', o', none⟩) r.length c') W := fun W => hcut W
  have r4 : RowC w d 3 9 1 (some ⟨g', o', none⟩) r.length c' (r.map .string) := ⟨by have := hr.1.take (k := r.length) (by omega); simpa using this, hr.2⟩
  obtain ⟨h5, s5⟩ := h1.put k hk g o rfl r4
  have f4 : w.frozen? ⟨g, o + k, none⟩ = false := h1.row.1.free _
  have k1 : (0 : Int) ≤ (i : Int) := Int.natCast_nonneg _
  have k2 : (i : Int) < (ls.length : Int) := by omega
  have k3 : (0 : Int) ≤ (k : Int) := Int.natCast_nonneg _
  have k4 : (k : Int) < (ls.length : Int) := by omega
  have k5 : ((i : Int) == (k : Int)) = false := by simpa using (show ¬ (i : Int) = (k : Int) by omega)
  have n1 : (0 : Int) ≤ (r.length : Int) := Int.natCast_nonneg _
  have n2 : ((r.length : Int) + 1 == 0) = false := by simpa using (show ¬ ((r.length : Int) + 1 = 0) by omega)
  have ew0 : ((r.length : Int) + 1) - 1 = (r.length : Int) := by omega
  have ew2 : IntKind.i64.wrap (r.length : Int) = (r.length : Int) := IntWalk.i64_in _ (by omega)
  -- behind the cut
  obtain ⟨w2, hw2⟩ : ∃ w2, w2 = (w.setCell ⟨g, o + k, none⟩ (.slice (some ⟨g', o', none⟩) r.length c')).drew := ⟨_, rfl⟩
  have h5' : RefD w2 (paint d w.heap.size 2) B (some ⟨g, o, none⟩) cap (vs.set k (.slice (some ⟨g', o', none⟩) r.length c')) (ls.set k r) := by
    have := h5.stay0 (w' := w2) (d' := paint d w.heap.size 2) ⟨by rw [hw2]; exact ⟨rfl, rfl, rfl, Nat.le_refl _, fun _ _ _ => rfl⟩, fun _ _ => rfl⟩
    exact this
  have s5' : Chg 2 d w (paint d w.heap.size 2) w2 := ⟨by rw [hw2]; exact ⟨s5.1.os, s5.1.tape, s5.1.output, s5.1.size, s5.1.block⟩, s5.2⟩
  obtain ⟨d2, hd2⟩ : ∃ d2, d2 = paint d w.heap.size 2 := ⟨_, rfl⟩
  rw [← hd2] at h5' s5'
  have hi2 : i < (ls.set k r).length := by simpa using hi
  have hii : (ls.set k r)[i] = ls[i] := List.getElem_set_ne (Ne.symm hik) _
  obtain ⟨g2, o2, A2, cc2, hA, lg2, e0, e1, er⟩ := h5'.cell i hi2
  injection hA with hA
  injection hA with hA1 hA2
  subst hA1 hA2
  rw [List.length_set] at e0
  rw [hii] at e1 er
  have lB2 := h5'.blk.lt
  have H5 := Lib.hid h5'
  have S5 := Lib.hid s5'
  have ER := Lib.hid er
  have H3 := Lib.hid h3
  have HW2 := Lib.hid hw2
  clear h1 h3 hr r4 h5 s5 hcut h5' s5' er hd2 hkl hw2
  unfold ptrV at HI HK ⊢
  go_enter Try.func35, Try.ntmps35
  go_wp2_with fail
  refine HI.out.mono ?_
  rintro e w1 ⟨rfl, rfl⟩
  go_wp2_with fail
  refine HK.out.mono ?_
  rintro e w1 ⟨rfl, rfl⟩
  go_wp2_with fail
  refine wp_region_plan (by kernel_rfl) (fun u => Mod (fun _ => False) w u) [15] [(0, .pure), (1, .pure), (2, .pure), (3, .load), (4, .pure), (5, .pure), (6, .pure), (7, .pure), (8, .load), (9, .pure), (10, .pure), (11, .load), (12, .pure), (13, .pure), (14, .pure), (15, .last)] (by simp only [List.map_cons, List.map_nil, List.getElem?_toArray, List.getElem?_cons_succ, List.getElem?_cons_zero]; rfl) (by kernel_rfl) (fun _ _ d _ _ h => by cases d <;> exact h) ((Mod.refl _ _).drew) ?_
  repeat (first
    | (refine plan_pure (v := ?_) (by rfl) (fun w1 => ?_) ?_
       rotate_left
       · go_simp <;> with_reducible rfl
       simp only [Act.put, List.setIfInBounds_toArray, List.set_cons_zero, List.set_cons_succ])
    | (refine plan_off (by rfl) ?_
       simp only [Act.put, List.setIfInBounds_toArray, List.set_cons_zero, List.set_cons_succ])
    | (refine plan_load_off (by rfl) ?_
       simp only [Act.put, List.setIfInBounds_toArray, List.set_cons_zero, List.set_cons_succ])
    | (refine plan_load (v := ?_) (by rfl) (fun w1 hw1 => ?_) ?_
       rotate_left
       · (have q0 := (hw1.cell B 0 lB id).trans c0
          have q1 := (hw1.cell g (o + k) lg id).trans c1
          clear hw1
          go_simp <;> with_reducible rfl)
       simp only [Act.put, List.setIfInBounds_toArray, List.set_cons_zero, List.set_cons_succ]))
  refine plan_last ?_
  go_upto_region 6 with fail
  refine plan_end ?_
  go_upto_region 6 with fail
  rw [← HW2.out]
  clear c0 c1 c2
  refine wp_region_plan (by kernel_rfl) (fun u => Mod (fun _ => False) w2 u) [15] [(0, .pure), (1, .pure), (2, .pure), (3, .load), (4, .pure), (5, .pure), (6, .pure), (7, .pure), (8, .load), (9, .pure), (10, .pure), (11, .load), (12, .pure), (13, .eff), (14, .pure), (15, .last)] (by simp only [List.map_cons, List.map_nil, List.getElem?_toArray, List.getElem?_cons_succ, List.getElem?_cons_zero]; rfl) (by kernel_rfl) (fun _ _ d _ _ h => by cases d <;> exact h) ((Mod.refl _ _).drew) ?_
  repeat (first
    | (refine plan_pure (v := ?_) (by rfl) (fun w1 => ?_) ?_
       rotate_left
       · go_simp <;> with_reducible rfl
       simp only [Act.put, List.setIfInBounds_toArray, List.set_cons_zero, List.set_cons_succ])
    | (refine plan_off (by rfl) ?_
       simp only [Act.put, List.setIfInBounds_toArray, List.set_cons_zero, List.set_cons_succ])
    | (refine plan_load_off (by rfl) ?_
       simp only [Act.put, List.setIfInBounds_toArray, List.set_cons_zero, List.set_cons_succ])
    | (refine plan_load (v := ?_) (by rfl) (fun w1 hw1 => ?_) ?_
       rotate_left
       · (have q0 := (hw1.cell B 0 lB2 id).trans e0
          have q1 := (hw1.cell g (o + i) lg2 id).trans e1
          clear hw1
          go_simp <;> with_reducible rfl)
       simp only [Act.put, List.setIfInBounds_toArray, List.set_cons_zero, List.set_cons_succ]))
  refine plan_eff ?_
  go_wp2_with fail
  refine (put_any w2.drew A2 cc2 ls[i] x (show Rd w2.drew 1 A2 ls[i].length (ls[i].map .string) from ER.out.1.rd) (by omega)).mono ?_
  rintro e w3 ⟨A3, c3, rfl, hr3, ha3, hb3⟩
  have b3 := Below.undrew hb3
  have s3 : Chg 0 d2 w2 (paint d2 w2.heap.size 3) w3 := .below _ _ b3
  have h4 := H5.out.stay0 s3
  have r4 : RowC w3 (paint d2 w2.heap.size 3) 3 9 1 A3 (Hp.putF ahead ls[i] x).length c3 ((Hp.putF ahead ls[i] x).map .string) := ⟨hr3, fun a ha => paint_new (ha3 a ha)⟩
  obtain ⟨h6, s6⟩ := h4.put i hi2 g o rfl r4
  have f5 : w3.frozen? ⟨g, o + i, none⟩ = false := h4.row.1.free _
  obtain ⟨u, hu⟩ : ∃ u, w3.cell? ⟨g, o + i, none⟩ = some u := by
    obtain ⟨g', o', _, _, hA, _, _, hc, _⟩ := h4.cell i hi2
    injection hA with hA
    injection hA with hA1 hA2
    subst hA1 hA2
    exact ⟨_, hc⟩
  have hz := s3.size
  have hz5 := S5.out.size
  have ft3 := (H3.out.step S5.out).step s3
  have hfin : RefW _ (fun k => F k ∨ w.heap.size ≤ k) B ((ls.set k r).set i (Hp.putF ahead ls[i] x)) := ⟨_, _, _, _, h6, (ft3.step s6).wide (fun k hk h => by rcases h with (h | h) | h <;> first | exact h | (right; omega))⟩
  have hmd := ((S5.out.foot H3.out (by omega)).then (Mod.of_below_size b3 (fun k => F k ∨ w.heap.size ≤ k)) (fun k hk h => h.elim id (fun h => by omega))).then (s6.foot ft3 (by omega)) (fun k hk h => by rcases h with (h | h) | h <;> first | exact h | omega)
  have HFIN := Lib.hid hfin
  have HMD := Lib.hid hmd
  have B3 := Lib.hid b3
  clear hr3 ha3 hb3 b3 s3 h4 r4 h6 s6 hfin hmd ft3
  go_wp2_with fail
  refine plan_on (fun _ h => h) (Mod.of_below_size B3.out _) ?_
  repeat (first
    | (refine plan_pure (v := ?_) (by rfl) (fun w1 => ?_) ?_
       rotate_left
       · go_simp <;> with_reducible rfl
       simp only [Act.put, List.setIfInBounds_toArray, List.set_cons_zero, List.set_cons_succ])
    | (refine plan_off (by rfl) ?_
       simp only [Act.put, List.setIfInBounds_toArray, List.set_cons_zero, List.set_cons_succ])
    | (refine plan_load_off (by rfl) ?_
       simp only [Act.put, List.setIfInBounds_toArray, List.set_cons_zero, List.set_cons_succ])
    | (refine plan_load (v := ?_) (by rfl) (fun w1 hw1 => ?_) ?_
       rotate_left
       · (skip
          clear hw1
          go_simp <;> with_reducible rfl)
       simp only [Act.put, List.setIfInBounds_toArray, List.set_cons_zero, List.set_cons_succ]))
  refine plan_last ?_
  go_wp2_with fail
  refine plan_end ?_
  go_wp2_with fail
  go_ret2
  exact ⟨rfl, HFIN.out, HMD.out⟩
end Go.Proofs.Ytedogccbndjdpaa
