/- The document's work: Push, Pop, Steal. -/
import Derived.Test.YtedogccbndjdpaaWorkR
namespace Go.Proofs.Ytedogccbndjdpaa
open Go.RowKit
set_option linter.unusedVariables false

theorem inR_nat {n i : Nat} (h : i < n) : inR n (i : Int) = true := by unfold inR; rw [decide_eq_true (by omega), decide_eq_true (by omega)]; rfl
theorem inR_out {n : Nat} {i : Int} (h : i < 0 ∨ (n : Int) ≤ i) : inR n i = false := by
  unfold inR
  by_cases h0 : 0 ≤ i
  · rw [decide_eq_false (show ¬ i < (n : Int) by omega), Bool.and_false]
  · rw [decide_eq_false h0, Bool.false_and]

theorem ref_push_no (w : World) (F : Nat → Prop) (B : Nat) (ls : List (List ByteArray)) (hW : RefW w F B ls) (hn : ls.length ≤ 64) (hl : ls.flatten.length < 1000000) (i : Int) (s : ByteArray) (hno : i < 0 ∨ (ls.length : Int) ≤ i ∨ s ∈ ls.flatten) :
    Calls Try.prog 31 #[ptrV B, .int .i64 i, .string s] w fun e w' => e = .returned (.bool false) ∧ w = w' := by
  have HH := Lib.hid (ref_has w F B ls hW hn hl s)
  obtain ⟨d, A, cap, vs, h1, h3⟩ := hW
  have HI := Lib.hid (h1.is i)
  clear h1 h3
  unfold ptrV at HH HI ⊢
  by_cases hi : i < 0 ∨ (ls.length : Int) ≤ i
  · rw [inR_out hi] at HI
    go_enter Try.func31, Try.ntmps31
    go_wp2_with fail
    refine HI.out.mono ?_
    rintro e w1 ⟨rfl, rfl⟩
    go_wp2_with fail
    go_ret
    exact ⟨rfl, rfl⟩
  · have hs : s ∈ ls.flatten := by
      rcases hno with h | h | h
      · omega
      · omega
      · exact h
    obtain ⟨k, rfl⟩ := Int.eq_ofNat_of_zero_le (show 0 ≤ i by omega)
    rw [inR_nat (by omega)] at HI
    rw [inB_iff.2 hs] at HH
    go_enter Try.func31, Try.ntmps31
    go_wp2_with fail
    refine HI.out.mono ?_
    rintro e w1 ⟨rfl, rfl⟩
    go_wp2_with fail
    refine HH.out.mono ?_
    rintro e w1 ⟨rfl, rfl⟩
    go_wp2_with fail
    go_ret
    exact ⟨rfl, rfl⟩

set_option maxRecDepth 100000 in
theorem ref_push (w : World) (F : Nat → Prop) (B : Nat) (ls : List (List ByteArray)) (hW : RefW w F B ls) (hn : ls.length ≤ 64) (hl : ls.flatten.length < 1000000) (i : Nat) (hi : i < ls.length) (s : ByteArray) (hs : s ∉ ls.flatten) (hli : ls[i].length < 100000) :
    Calls Try.prog 31 #[ptrV B, .int .i64 i, .string s] w fun e w' => e = .returned (.bool true) ∧ RefW w' (fun k => F k ∨ w.heap.size ≤ k) B (ls.set i (Hp.putF ahead ls[i] s)) ∧ Mod F w w' := by
  have HH := Lib.hid (ref_has w F B ls hW hn hl s)
  obtain ⟨d, A, cap, vs, h1, h3⟩ := hW
  have HI := Lib.hid (h1.is i)
  rw [inR_nat (by omega)] at HI
  rw [inB_false.2 hs] at HH
  obtain ⟨g, o, A', c', rfl, lg, c0, c1, hr⟩ := h1.cell i hi
  have lB := h1.blk.lt
  have H1 := Lib.hid h1
  have H3 := Lib.hid h3
  have HR := Lib.hid hr
  have k1 : (0 : Int) ≤ (i : Int) := Int.natCast_nonneg _
  have k2 : (i : Int) < (ls.length : Int) := by omega
  clear h1 h3 hr hs
  unfold ptrV at HH HI ⊢
  go_enter Try.func31, Try.ntmps31
  go_wp2_with fail
  refine HI.out.mono ?_
  rintro e w1 ⟨rfl, rfl⟩
  go_wp2_with fail
  refine HH.out.mono ?_
  rintro e w1 ⟨rfl, rfl⟩
  go_wp2_with fail
  refine wp_region_plan (by kernel_rfl) (fun u => Mod (fun _ => False) w u) [15] [(0, .pure), (1, .pure), (2, .pure), (3, .load), (4, .pure), (5, .pure), (6, .pure), (7, .pure), (8, .load), (9, .pure), (10, .pure), (11, .load), (12, .pure), (13, .eff), (14, .pure), (15, .last)] (by simp only [List.map_cons, List.map_nil, List.getElem?_toArray, List.getElem?_cons_succ, List.getElem?_cons_zero]; rfl) (by kernel_rfl) (fun _ _ d _ _ h => by cases d <;> exact h) ((Mod.refl _ _).drew) ?_
  repeat (first
    | (refine plan_pure (v := ?_) (by rfl) (fun w1 => ?_) ?_
       rotate_left
       · go_simp <;> with_reducible rfl
       simp only [Act.put, List.setIfInBounds_toArray, List.set_cons_zero, List.set_cons_succ])
    | (refine plan_off (by rfl) ?_
       simp only [Act.put, List.setIfInBounds_toArray, List.set_cons_zero, List.set_cons_succ])
    | (refine plan_load_off (by rfl) ?_
       simp only [Act.put, List.setIfInBounds_toArray, List.set_cons_zero, List.set_cons_succ])
    | (refine plan_load (v := ?_) (by rfl) (fun w1 hw1 => ?_) ?_
       rotate_left
       · (have q0 := (hw1.cell B 0 lB id).trans c0
          have q1 := (hw1.cell g (o + i) lg id).trans c1
          clear hw1
          go_simp <;> with_reducible rfl)
       simp only [Act.put, List.setIfInBounds_toArray, List.set_cons_zero, List.set_cons_succ]))
  refine plan_eff ?_
  go_wp2_with fail
  refine (put_any w.drew A' c' ls[i] s (show Rd w.drew 1 A' ls[i].length (ls[i].map .string) from HR.out.1.rd) (by omega)).mono ?_
  rintro e w3 ⟨A3, c3, rfl, hr3, ha3, hb3⟩
  have b3 := Below.undrew hb3
  have s3 : Chg 0 d w (paint d w.heap.size 3) w3 := .below _ _ b3
  have h4 := H1.out.stay0 s3
  have r4 : RowC w3 (paint d w.heap.size 3) 3 9 1 A3 (Hp.putF ahead ls[i] s).length c3 ((Hp.putF ahead ls[i] s).map .string) := ⟨hr3, fun a ha => paint_new (ha3 a ha)⟩
  obtain ⟨h5, s5⟩ := h4.put i hi g o rfl r4
  have f4 : w3.frozen? ⟨g, o + i, none⟩ = false := h4.row.1.free _
  obtain ⟨u, hu⟩ : ∃ u, w3.cell? ⟨g, o + i, none⟩ = some u := by
    obtain ⟨g', o', _, _, hA, _, _, hc, _⟩ := h4.cell i hi
    injection hA with hA
    injection hA with hA1 hA2
    subst hA1 hA2
    exact ⟨_, hc⟩
  have hz := s3.size
  have hfin : RefW _ (fun k => F k ∨ w.heap.size ≤ k) B (ls.set i (Hp.putF ahead ls[i] s)) := ⟨_, _, _, _, h5, ((H3.out.step s3).step s5).wide (fun k hk h => h.elim id (fun h => .inr (by omega)))⟩
  have hmd := (Mod.of_below_size b3 F).then (s5.foot (H3.out.step s3) (by omega)) (fun k hk h => h.elim id (fun h => by omega))
  have HFIN := Lib.hid hfin
  have HMD := Lib.hid hmd
  have B3 := Lib.hid b3
  clear hr3 ha3 hb3 b3 s3 h4 r4 h5 s5 hfin hmd
  go_wp2_with fail
  refine plan_on (fun _ h => h) (Mod.of_below_size B3.out _) ?_
  repeat (first
    | (refine plan_pure (v := ?_) (by rfl) (fun w1 => ?_) ?_
       rotate_left
       · go_simp <;> with_reducible rfl
       simp only [Act.put, List.setIfInBounds_toArray, List.set_cons_zero, List.set_cons_succ])
    | (refine plan_off (by rfl) ?_
       simp only [Act.put, List.setIfInBounds_toArray, List.set_cons_zero, List.set_cons_succ])
    | (refine plan_load_off (by rfl) ?_
       simp only [Act.put, List.setIfInBounds_toArray, List.set_cons_zero, List.set_cons_succ])
    | (refine plan_load (v := ?_) (by rfl) (fun w1 hw1 => ?_) ?_
       rotate_left
       · (skip
          clear hw1
          go_simp <;> with_reducible rfl)
       simp only [Act.put, List.setIfInBounds_toArray, List.set_cons_zero, List.set_cons_succ]))
  refine plan_last ?_
  go_wp2_with fail
  refine plan_end ?_
  go_wp2_with fail
  go_ret
  exact ⟨rfl, HFIN.out, HMD.out⟩

theorem ref_pop_no (w : World) (F : Nat → Prop) (B : Nat) (ls : List (List ByteArray)) (hW : RefW w F B ls) (i : Int) (hno : rowOf ls i = []) :
    Calls Try.prog 33 #[ptrV B, .int .i64 i] w fun e w' => e = .returned (.tuple #[.string ⟨#[]⟩, .bool false]) ∧ w = w' := by
  obtain ⟨d, A, cap, vs, h1, h3⟩ := hW
  have HI := Lib.hid (h1.is i)
  by_cases hi : i < 0 ∨ (ls.length : Int) ≤ i
  · rw [inR_out hi] at HI
    clear h1 h3
    unfold ptrV at HI ⊢
    go_enter Try.func33, Try.ntmps33
    go_wp2_with fail
    refine HI.out.mono ?_
    rintro e w1 ⟨rfl, rfl⟩
    go_wp2_with fail
    go_ret2
    exact ⟨rfl, rfl⟩
  · obtain ⟨k, rfl⟩ := Int.eq_ofNat_of_zero_le (show 0 ≤ i by omega)
    have hk : k < ls.length := by omega
    rw [inR_nat (by omega)] at HI
    rw [rowOf_in hk] at hno
    obtain ⟨g, o, A', c', rfl, lg, c0, c1, hr⟩ := h1.cell k hk
    rw [hno] at c1
    have k1 : (0 : Int) ≤ (k : Int) := Int.natCast_nonneg _
    have k2 : (k : Int) < (ls.length : Int) := by omega
    clear h1 h3 hr
    unfold ptrV at HI ⊢
    go_enter Try.func33, Try.ntmps33
    go_wp2_with fail
    refine HI.out.mono ?_
    rintro e w1 ⟨rfl, rfl⟩
    go_wp2_with fail
    go_ret2
    exact ⟨rfl, rfl⟩

set_option maxRecDepth 100000 in
theorem ref_pop (w : World) (F : Nat → Prop) (B : Nat) (ls : List (List ByteArray)) (hW : RefW w F B ls) (i : Nat) (hi : i < ls.length) (x : ByteArray) (r : List ByteArray) (hx : ls[i] = x :: r) (hl : r.length < 100000) :
    Calls Try.prog 33 #[ptrV B, .int .i64 i] w fun e w' => e = .returned (.tuple #[.string x, .bool true]) ∧ RefW w' (fun k => F k ∨ w.heap.size ≤ k) B (ls.set i r) ∧ Mod F w w' := by
  obtain ⟨d, A, cap, vs, h1, h3⟩ := hW
  have HI := Lib.hid (h1.is i)
  rw [inR_nat (by omega)] at HI
  obtain ⟨i0, hi0, hz0, hz1, hz2⟩ := info_parts Try.infoStr
  obtain ⟨g, o, A', c', rfl, lg, c0, c1, hr⟩ := h1.cell i hi
  rw [hx] at c1 hr
  obtain ⟨g', o', rfl⟩ := hr.1.some_of_pos (by have := hr.1.2.1; simp at this; omega)
  have c2 : w.cell? ⟨g', o', none⟩ = some (.string x) := by have := hr.1.cell 0 (by simp); simpa using this
  have lB := h1.blk.lt
  have lg' := hr.1.lt
  obtain ⟨A2, c2', hcut, hr2, hA2⟩ := hr.1.cut_from 50 Try.underlying50 hi0 hz1 .i64 1 (by simp)
  have hcut1 : ∀ W : World, (Instr.slice 50 (.slice (some ⟨g', o', none⟩) (r.length + 1) c') (some (.int .i64 1)) none none).run Try.prog W = .ok (.slice A2 r.length c2') W := fun W => hcut W
  have r4 : RowC w d 3 9 1 A2 r.length c2' (r.map .string) := ⟨by simpa using hr2, fun a ha => by obtain ⟨a0, e1, e2⟩ := hA2 a ha; rw [e2]; exact hr.2 a0 e1⟩
  obtain ⟨h5, s5⟩ := h1.put i hi g o rfl r4
  have f4 : w.frozen? ⟨g, o + i, none⟩ = false := h1.row.1.free _
  have hfin : RefW _ (fun k => F k ∨ w.heap.size ≤ k) B (ls.set i r) := ⟨_, _, _, _, h5, h3.step s5⟩
  have hmd := s5.foot h3 (by omega)
  have HFIN := Lib.hid hfin
  have HMD := Lib.hid hmd
  have k1 : (0 : Int) ≤ (i : Int) := Int.natCast_nonneg _
  have k2 : (i : Int) < (ls.length : Int) := by omega
  simp only [List.length_cons] at c1
  clear h1 h3 hr r4 h5 s5 hfin hmd hr2 hA2 hcut
  unfold ptrV at HI ⊢
  go_enter Try.func33, Try.ntmps33
  go_wp2_with fail
  refine HI.out.mono ?_
  rintro e w1 ⟨rfl, rfl⟩
  go_wp2_with fail
  refine wp_region_plan (by kernel_rfl) (fun u => Mod (fun _ => False) w u) [14] [(0, .pure), (1, .pure), (2, .pure), (3, .load), (4, .pure), (5, .pure), (6, .pure), (7, .pure), (8, .load), (9, .pure), (10, .pure), (11, .load), (12, .pure), (13, .pure), (14, .last)] (by simp only [List.map_cons, List.map_nil, List.getElem?_toArray, List.getElem?_cons_succ, List.getElem?_cons_zero]; rfl) (by kernel_rfl) (fun _ _ d _ _ h => by cases d <;> exact h) ((Mod.refl _ _).drew) ?_
  repeat (first
    | (refine plan_pure (v := ?_) (by rfl) (fun w1 => ?_) ?_
       rotate_left
       · go_simp <;> with_reducible rfl
       simp only [Act.put, List.setIfInBounds_toArray, List.set_cons_zero, List.set_cons_succ])
    | (refine plan_off (by rfl) ?_
       simp only [Act.put, List.setIfInBounds_toArray, List.set_cons_zero, List.set_cons_succ])
    | (refine plan_load_off (by rfl) ?_
       simp only [Act.put, List.setIfInBounds_toArray, List.set_cons_zero, List.set_cons_succ])
    | (refine plan_load (v := ?_) (by rfl) (fun w1 hw1 => ?_) ?_
       rotate_left
       · (have q0 := (hw1.cell B 0 lB id).trans c0
          have q1 := (hw1.cell g (o + i) lg id).trans c1
          clear hw1
          go_simp <;> with_reducible rfl)
       simp only [Act.put, List.setIfInBounds_toArray, List.set_cons_zero, List.set_cons_succ]))
  refine plan_last ?_
  go_wp2_with fail
  refine plan_end ?_
  go_wp2_with fail
  go_ret2
  exact ⟨rfl, HFIN.out.mod (G := fun _ => False) ⟨rfl, rfl, rfl, Nat.le_refl _, fun _ _ _ => rfl⟩ (fun _ _ h => h), ⟨HMD.out.os, HMD.out.tape, HMD.out.output, HMD.out.size, HMD.out.block⟩⟩
end Go.Proofs.Ytedogccbndjdpaa
