/- Work: New. -/
import Derived.Test.YtedogccbndjdpaaWorkB
import Derived.IntWalk
namespace Go.Proofs.Ytedogccbndjdpaa
open Go.RowKit
set_option linter.unusedVariables false

theorem work_new_bad (n : Int) (w : World) (h : n < 1 ∨ 64 < n) : Calls Try.prog 29 #[.int .i64 n] w fun e w' => e = .returned (.tuple #[.pointer none, .int .i64 1]) ∧ w = w' := by
  by_cases h0 : n < 1
  · go_enter Try.func29, Try.ntmps29
    go_wp2
    go_ret2
    exact ⟨rfl, rfl⟩
  · have h1 : 64 < n := by omega
    go_enter Try.func29, Try.ntmps29
    go_wp2
    go_ret2
    exact ⟨rfl, rfl⟩

theorem Try.infoQue : (Try.prog.info? 48).map (fun i => (i.zero, i.size, i.bytes)) = some (some (.pointer none), 1, 8) := by kernel_rfl

theorem Below.undrew {w w' : World} (b : Below w.drew.heap.size w.drew w') : Below w.heap.size w w' := ⟨b.os, b.tape, b.output, b.size, b.block⟩
/-- what New has made after k rounds -/
def NewW (w : World) (B M k : Nat) (A : Option Addr) (cap : Nat) (wr : World) : Prop :=
  ∃ d Qs, Qs.length = k ∧ WorkD wr d B A cap M [] Qs (List.replicate k []) ∧ Foot (fun q => w.heap.size ≤ q) wr d ∧ Below w.heap.size w wr

set_option maxRecDepth 100000 in
set_option maxHeartbeats 1000000 in
theorem work_new (w : World) (n : Nat) (h1 : 1 ≤ n) (h2 : n ≤ 64) : Calls Try.prog 29 #[.int .i64 n] w fun e w' => ∃ B, e = .returned (.tuple #[ptrV B, .int .i64 0]) ∧ Work w' (fun k => w.heap.size ≤ k) B (List.replicate n []) ∧ Below w.heap.size w w' := by
  have hmk := @run_makeMap Try.prog
  obtain ⟨i0, hi0, hz0, hz1, hz2⟩ := info_parts Try.infoQue
  go_enter Try.func29, Try.ntmps29
  go_upto_region 4 with fail
  obtain ⟨M, hM⟩ : ∃ M, M = w.heap.size := ⟨_, rfl⟩
  obtain ⟨w1, hw1⟩ : ∃ w1, w1 = w.alloc (Obj.map #[] 0) := ⟨_, rfl⟩
  rw [← hw1, ← hM]
  obtain ⟨B, hB0⟩ : ∃ B, B = M + 1 := ⟨_, rfl⟩
  have hB : B = w1.heap.size := by rw [hB0, hw1, hM]; simp
  obtain ⟨w2, hw2⟩ : ∃ w2, w2 = w1.alloc (Obj.cells #[.slice none 0 0, .map (some M)] 92) := ⟨_, rfl⟩
  have hI : NewW w B M 0 none 0 w2 := by
    have m1 : MapC Try.keyS w1 (paint (fun _ => 0) w.heap.size 3) 3 M [] := by rw [hw1, hM]; exact MapC.made _ _ _ _ _
    have c2 : Chg 1 (paint (fun _ => 0) w.heap.size 3) w1 (paint (paint (fun _ => 0) w.heap.size 3) w1.heap.size 1) w2 := by rw [hw2]; exact Chg.alloc _ _ _
    have b2 : BlkC w2 (paint (paint (fun _ => 0) w.heap.size 3) w1.heap.size 1) 1 B (.cells #[.slice none 0 0, .map (some M)] 92 (0, 0)) := by rw [hw2, hB]; exact BlkC.made _ _ _ _
    have z1 : w.heap.size ≤ w1.heap.size := by rw [hw1]; simp
    refine ⟨_, [], rfl, ⟨b2, RowC.nil _ _ _ _ _, m1.stay c2 (by omega), rfl, fun i Q l h => by simp at h⟩, fun k hk hd => ?_, ?_⟩
    · rcases Nat.lt_or_ge k w.heap.size with h | h
      · rw [paint_old (by omega), paint_old h] at hd; exact (hd rfl).elim
      · exact h
    · rw [hw2]
      refine Below.alloc ?_ z1 _
      rw [hw1]
      exact (Below.refl _ _).alloc (Nat.le_refl _) _
  have HI := Lib.hid hI
  rw [← hw2, ← hB0]
  clear hI hw2 hB hB0 hw1 hM hmk
  go_wp2_with fail
  go_loopw [15] (fun v wr => ∃ (k : Nat) (A : Option Addr) (cap : Nat), k ≤ n ∧ v = .int .i64 k ∧ Hid (NewW w B M k A cap wr)) (fun v _ => n - (intOf v).toNat)
  case atStart => exact ⟨0, none, 0, Nat.zero_le _, rfl, HI⟩
  case round =>
    clear HI
    obtain ⟨k, A, cap, hk, rfl, HX⟩ := hrel
    obtain ⟨d, Qs, hQl, hW, hF, hbel⟩ := HX.out
    have HW := Lib.hid hW
    have HF := Lib.hid hF
    have HBEL := Lib.hid hbel
    have c0 : wr.cell? ⟨B, 0, none⟩ = some (.slice A k cap) := by rw [hW.blk.cell, ← hQl]; rfl
    have lB := hW.blk.lt
    clear hW hF hbel HX
    by_cases hlt : k < n
    · go_wp2_with fail
      refine wp_region_plan (by kernel_rfl) (fun u => Mod (fun _ => False) wr u) [7, 10] [(0, .pure), (1, .pure), (2, .pure), (3, .pure), (4, .load), (5, .eff), (6, .eff), (7, .last), (8, .pure), (9, .pure), (10, .last)] (by simp only [List.map_cons, List.map_nil, List.getElem?_toArray, List.getElem?_cons_succ, List.getElem?_cons_zero]; rfl) (by kernel_rfl) (fun _ _ d _ _ h => by cases d <;> exact h) ((Mod.refl _ _).drew) ?_
      repeat (first
        | (refine plan_pure (v := ?_) (by rfl) (fun w1 => ?_) ?_
           rotate_left
           · go_simp <;> with_reducible rfl
           simp only [Act.put, List.setIfInBounds_toArray, List.set_cons_zero, List.set_cons_succ])
        | (refine plan_off (by rfl) ?_
           simp only [Act.put, List.setIfInBounds_toArray, List.set_cons_zero, List.set_cons_succ])
        | (refine plan_load_off (by rfl) ?_
           simp only [Act.put, List.setIfInBounds_toArray, List.set_cons_zero, List.set_cons_succ])
        | (refine plan_load (v := ?_) (by rfl) (fun w1 hw1 => ?_) ?_
           rotate_left
           · (have q0 := (hw1.cell B 0 lB id).trans c0
              clear hw1
              go_simp <;> with_reducible rfl)
           simp only [Act.put, List.setIfInBounds_toArray, List.set_cons_zero, List.set_cons_succ]))
      refine plan_eff ?_
      go_wp2_with fail
      refine (que_new _).mono ?_
      rintro e w3 ⟨Q, rfl, hq3, b3⟩
      have b3 := Below.undrew b3
      have s3 : Chg (4 + k) d wr (paint d wr.heap.size (4 + k)) w3 := .below _ _ b3
      have q3 : QueC w3 (paint d wr.heap.size (4 + k)) (4 + k) Q [] := QueC.made hq3
      obtain ⟨d3, hd3⟩ : ∃ d3, d3 = paint d wr.heap.size (4 + k) := ⟨_, rfl⟩
      rw [← hd3] at s3 q3
      have h3 : BlkC w3 d3 1 B (.cells #[.slice A Qs.length cap, .map (some M)] 92 (0, 0)) ∧ RowC w3 d3 2 48 1 A Qs.length cap (Qs.map ptrV) ∧ MapC Try.keyS w3 d3 3 M [] ∧ ∀ i Q', (Qs ++ [Q])[i]? = some Q' → QueC w3 d3 (4 + i) Q' [] := by
        refine ⟨HW.out.blk.stay s3 (by omega), HW.out.row.stay s3 (by omega), HW.out.map.stay s3 (by omega), fun i Q' h => ?_⟩
        rcases Nat.lt_or_ge i Qs.length with hi | hi
        · rw [List.getElem?_append_left hi] at h
          exact (HW.out.que i Q' [] h (by rw [List.getElem?_replicate, if_pos (by omega)])).stay s3 (by omega)
        · rw [List.getElem?_append_right hi] at h
          have h0 : i - Qs.length = 0 := by have := (List.getElem?_eq_some_iff.1 h).1; simp at this; omega
          rw [h0] at h
          simp at h
          subst h
          rw [show i = k by omega]
          exact q3
      have H3 := Lib.hid h3
      have S3 := Lib.hid s3
      have B3 := Lib.hid b3
      clear hq3 b3 s3 q3 h3 hd3
      go_wp2_with fail
      refine plan_on (fun _ h => h) (Mod.of_below_size B3.out _) ?_
      refine plan_eff ?_
      go_wp2_with fail
      obtain ⟨w4, hw4⟩ : ∃ w4, w4 = w3.alloc (Obj.cells #[.pointer (some ⟨Q, 0, none⟩)] 48) := ⟨_, rfl⟩
      obtain ⟨Y, hY⟩ : ∃ Y, Y = w3.heap.size := ⟨_, rfl⟩
      have y4 : w4.heap[Y]? = some (.cells #[.pointer (some ⟨Q, 0, none⟩)] 48 (0, 0)) := by rw [hw4, hY]; exact heap_alloc_new w3 _
      have s4 : Chg 0 d3 w3 (paint d3 w3.heap.size 0) w4 := by rw [hw4]; exact Chg.alloc _ _ _
      have b4 : Below w3.heap.size w3 w4 := by rw [hw4]; exact (Below.refl _ _).alloc (Nat.le_refl _) _
      obtain ⟨d4, hd4⟩ : ∃ d4, d4 = paint d3 w3.heap.size 0 := ⟨_, rfl⟩
      rw [← hd4] at s4
      have h4 : BlkC w4 d4 1 B (.cells #[.slice A Qs.length cap, .map (some M)] 92 (0, 0)) ∧ RowC w4 d4 2 48 1 A Qs.length cap (Qs.map ptrV) ∧ MapC Try.keyS w4 d4 3 M [] ∧ ∀ i Q', (Qs ++ [Q])[i]? = some Q' → QueC w4 d4 (4 + i) Q' [] :=
        ⟨H3.out.1.stay s4 (by omega), H3.out.2.1.stay s4 (by omega), H3.out.2.2.1.stay s4 (by omega), fun i Q' h => (H3.out.2.2.2 i Q' h).stay s4 (by omega)⟩
      have H4 := Lib.hid h4
      have B34 := Lib.hid (qop_tail B3.out b4 B3.out.size)
      have S34 := Lib.hid s4
      rw [← hw4, ← hY]
      clear h4 b4 s4 hw4 hY hd4 H3 B3
      refine plan_on (fun _ h => h) (Mod.of_below_size B34.out _) ?_
      refine plan_last ?_
      refine wpList_append_row (by rfl) _ _ _ (by rfl) 48 i0 _ 1 8 Try.underlying90 hi0 hz0 hz1 hz2 rfl (by omega) A Qs.length cap (Qs.map ptrV) (by rw [hQl]; rfl) H4.out.2.1.1 ⟨Y, 0, none⟩ 1 1 [.pointer (some ⟨Q, 0, none⟩)] (by rfl) (by rfl) (World.news_of_block (cs := #[.pointer (some ⟨Q, 0, none⟩)]) (t := 48) (fr := (0, 0)) y4) (by simp [Value.oneCell']) (by omega) (by unfold maxLen; omega) (by omega) ?_
      intro g of cap' w5 hown hm hat
      obtain ⟨r5, s5⟩ := H4.out.2.1.put hown hm (fun a' ha' => by injection ha' with ha'; subst ha'; exact hat)
      obtain ⟨d5, hd5⟩ : ∃ d5, d5 = paint d4 w4.heap.size 2 := ⟨_, rfl⟩
      rw [← hd5] at s5 r5
      have h5 : BlkC w5 d5 1 B (.cells #[.slice A Qs.length cap, .map (some M)] 92 (0, 0)) ∧ MapC Try.keyS w5 d5 3 M [] ∧ ∀ i Q', (Qs ++ [Q])[i]? = some Q' → QueC w5 d5 (4 + i) Q' [] :=
        ⟨H4.out.1.stay s5 (by omega), H4.out.2.2.1.stay s5 (by omega), fun i Q' h => (H4.out.2.2.2 i Q' h).stay s5 (by omega)⟩
      have c5 : w5.cell? ⟨B, 0, none⟩ = some (.slice A k cap) := by rw [h5.1.cell, ← hQl]; rfl
      have f5 : w5.frozen? ⟨B, 0, none⟩ = false := h5.1.free 0
      obtain ⟨b6, s6⟩ := h5.1.set 0 (.slice (some ⟨g, of, none⟩) (Qs.length + 1) cap')
      have hfin : NewW w B M (k + 1) (some ⟨g, of, none⟩) cap' (w5.setCell ⟨B, 0, none⟩ (.slice (some ⟨g, of, none⟩) (Qs.length + 1) cap')) := by
        have ft := ((((HF.out.step S3.out).step S34.out).step s5).step s6)
        have z0 := HBEL.out.size
        have z3 := S3.out.size
        have z4 := S34.out.size
        have z5 := s5.size
        refine ⟨_, Qs ++ [Q], by simp [hQl], ⟨by simpa using b6, ?_, h5.2.1.stay s6 (by omega), by simp [hQl], fun i Q' l h h' => ?_⟩, ft.wide (fun q _ h => ?_), ?_⟩
        · have := r5.stay s6 (show (2 : Nat) ≠ 1 by omega)
          simp only [List.length_append, List.length_cons, List.length_nil, List.map_append, List.map_cons, List.map_nil]
          exact this
        · rw [List.getElem?_replicate] at h'
          split at h'
          · injection h' with h'
            subst h'
            exact (h5.2.2 i Q' h).stay s6 (by omega)
          · cases h'
        · rcases h with (((h | h) | h) | h) | h <;> first | exact h | omega
        · have e1 := qop_tail HBEL.out B34.out z0
          have f4 : Foot (fun q => w.heap.size ≤ q) w4 d4 := ((HF.out.step S3.out).step S34.out).wide (fun q _ h => by rcases h with (h | h) | h <;> first | exact h | omega)
          have f5' : Foot (fun q => w.heap.size ≤ q) w5 d5 := (f4.step s5).wide (fun q _ h => by rcases h with h | h <;> first | exact h | omega)
          exact (e1.trans ((s5.foot f4 (by omega)).below _ (by omega) (fun q hq h => by omega))).trans ((s6.foot f5' (by omega)).below _ (by omega) (fun q hq h => by omega))
      have HFIN := Lib.hid hfin
      clear hown hm hat r5 s5 h5 b6 s6 hfin hd5
      rw [hQl]
      rw [hQl] at HFIN
      go_wp2_with fail
      repeat (first
        | (refine plan_pure (v := ?_) (by rfl) (fun w1 => ?_) ?_
           rotate_left
           · go_simp <;> with_reducible rfl
           simp only [Act.put, List.setIfInBounds_toArray, List.set_cons_zero, List.set_cons_succ])
        | (refine plan_off (by rfl) ?_
           simp only [Act.put, List.setIfInBounds_toArray, List.set_cons_zero, List.set_cons_succ])
        | (refine plan_load_off (by rfl) ?_
           simp only [Act.put, List.setIfInBounds_toArray, List.set_cons_zero, List.set_cons_succ])
        | (refine plan_load (v := ?_) (by rfl) (fun w1 hw1 => ?_) ?_
           rotate_left
           · (skip
              clear hw1
              go_simp <;> with_reducible rfl)
           simp only [Act.put, List.setIfInBounds_toArray, List.set_cons_zero, List.set_cons_succ]))
      refine plan_last ?_
      go_wp2_with fail
      refine plan_end ?_
      go_wp2_with fail
      go_roundw
      case rel => exact ⟨k + 1, some ⟨g, of, none⟩, cap', by omega, by go_num, HFIN⟩
      case measure => simp [intOf]; omega
    · have hkn : k = n := by omega
      subst hkn
      go_wp2_with fail
      go_ret2
      refine ⟨B, rfl, ⟨d, A, cap, M, [], Qs, HW.out, ⟨by simp, fun s => ?_⟩, HF.out⟩, HBEL.out⟩
      have : (List.replicate k ([] : List ByteArray)).flatten = [] := by simp
      rw [this]; rfl
end Go.Proofs.Ytedogccbndjdpaa
