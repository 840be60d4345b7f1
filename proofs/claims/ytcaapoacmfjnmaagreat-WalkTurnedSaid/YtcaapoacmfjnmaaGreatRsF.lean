/- The reference's Enabled and All. -/
import Derived.Test.YtcaapoacmfjnmaaGreatRsD
namespace Go.Proofs.YtcaapoacmfjnmaaGreat
open Go.RowKit
set_option linter.unusedVariables false

set_option maxRecDepth 100000 in
set_option maxHeartbeats 2000000 in
theorem refEnabled_any (w : World) (C : Nat → Prop) (S T o : Nat) (s : St) (t : Nat) (h : RAt w C S T o s) (hw : Pr.Wf s) (ht : t < s.th.length) :
    Calls Tryz.prog 95 #[.pointer (some ⟨S, 0, none⟩), .int .i64 (t : Int)] w fun x w' => x = .returned (.bool (Pr.enabled s t)) ∧ Below w.heap.size w w' := by
  have hcall := refNext_any w C S T o s t h hw ht
  have hlk : ∀ e, Pr.next s t = some e → e.k = 4 → ∃ m : Nat, e.o = m ∧ m < 2 := fun e he hk => Pr.next_lock hw he hk
  have hen : Pr.enabled s t = match Pr.next s t with | none => false | some e => decide (e.k ≠ 4) || decide (s.h e.o.toNat < 0) := rfl
  obtain ⟨q, hq⟩ : ∃ q, q = Pr.next s t := ⟨_, rfl⟩
  rw [← hq] at hcall hlk hen
  rw [hen]
  have HCALL := Lib.hid hcall
  have HLK := Lib.hid hlk
  have HS := Lib.hid h
  clear hcall hlk hen hq h hw ht
  go_enter Tryz.func95, Tryz.ntmps95
  go_wp2_with fail
  refine HCALL.out.mono ?_
  rintro y w1 ⟨rfl, b1⟩
  have HB1 := Lib.hid b1
  clear b1 HCALL
  obtain ⟨e, he⟩ : ∃ e, e = q.getD Pr.zeroE := ⟨_, rfl⟩
  obtain ⟨Wz, Z, hWz, hZ, hBz, hZl, hZe⟩ := ev_box w1 e
  rw [← he]
  have HZE := Lib.hid hZe
  have HB2 := Lib.hid (below_at HB1.out hBz)
  have HE := Lib.hid he
  unfold valE
  clear hZe hZl hBz he HB1
  cases q with
  | none =>
    simp only [Option.isSome_none]
    go_upto_region 2 with fail
    rw [← hWz, ← hZ]
    clear hWz hZ
    refine wp_region_planF (by kernel_rfl) (fun u => Below Wz.heap.size Wz u) [] [(0, .pure), (1, .pure), (2, .pure), (3, .load), (4, .pure), (5, .pure), (6, .pure), (7, .pure), (8, .load), (9, .pure), (10, .pure), (11, .pure), (12, .load), (13, .pure), (14, .pure), (15, .pure), (16, .pure)] (by simp only [List.map_cons, List.map_nil, List.getElem?_toArray, List.getElem?_cons_succ, List.getElem?_cons_zero]; rfl) (by kernel_rfl) (fun _ _ d _ _ h => by cases d <;> exact h) ((Below.refl _ _).drew) ?_
    repeat (first
      | (refine plan_pure (v := ?_) (by rfl) (fun w1 => ?_) ?_
         rotate_left
         · go_simp <;> with_reducible rfl
         simp only [Act.put, List.setIfInBounds_toArray, List.set_cons_zero, List.set_cons_succ])
      | (refine plan_off (by rfl) ?_
         simp only [Act.put, List.setIfInBounds_toArray, List.set_cons_zero, List.set_cons_succ])
      | (refine plan_load_off (by rfl) ?_
         simp only [Act.put, List.setIfInBounds_toArray, List.set_cons_zero, List.set_cons_succ])
      | (refine plan_load (v := ?_) (by rfl) (fun w1 hw1 => ?_) ?_
         rotate_left
         · (skip
            clear hw1
            go_simp <;> with_reducible rfl)
         simp only [Act.put, List.setIfInBounds_toArray, List.set_cons_zero, List.set_cons_succ]))
    refine plan_end ?_
    go_wp2_with fail
    go_ret
    exact ⟨rfl, HB2.out.drew⟩
  | some e' =>
    have hee : e = e' := HE.out
    subst hee
    have HL := Lib.hid (HLK.out e rfl)
    clear HLK HE
    obtain ⟨et, ek, eo, ef⟩ := e
    simp only [Option.isSome_some] at *
    go_upto_region 2 with fail
    rw [← hWz, ← hZ]
    clear hWz hZ
    by_cases h4 : ek = 4
    · subst h4
      obtain ⟨m, rfl, hm⟩ := HL.out rfl
      obtain ⟨y, hy⟩ : ∃ y, y = s.h m := ⟨_, rfl⟩
      have HY := Lib.hid hy
      have k1 : (0 : Int) ≤ (m : Int) := Int.natCast_nonneg _
      have k2 : (m : Int) < 2 := by omega
      clear hy
      by_cases hy : y < 0
      · have hd : decide (y < 0) = true := decide_eq_true hy
        refine wp_region_planF (by kernel_rfl) (fun u => Below Wz.heap.size Wz u) [] [(0, .pure), (1, .pure), (2, .pure), (3, .load), (4, .pure), (5, .pure), (6, .pure), (7, .pure), (8, .load), (9, .pure), (10, .pure), (11, .pure), (12, .load), (13, .pure), (14, .pure), (15, .pure), (16, .pure)] (by simp only [List.map_cons, List.map_nil, List.getElem?_toArray, List.getElem?_cons_succ, List.getElem?_cons_zero]; rfl) (by kernel_rfl) (fun _ _ d _ _ h => by cases d <;> exact h) ((Below.refl _ _).drew) ?_
        repeat (first
          | (refine plan_pure (v := ?_) (by rfl) (fun w1 => ?_) ?_
             rotate_left
             · go_simp <;> with_reducible rfl
             simp only [Act.put, List.setIfInBounds_toArray, List.set_cons_zero, List.set_cons_succ])
          | (refine plan_off (by rfl) ?_
             simp only [Act.put, List.setIfInBounds_toArray, List.set_cons_zero, List.set_cons_succ])
          | (refine plan_load_off (by rfl) ?_
             simp only [Act.put, List.setIfInBounds_toArray, List.set_cons_zero, List.set_cons_succ])
          | (refine plan_load (v := ?_) (by rfl) (fun w1 hw1 => ?_) ?_
             rotate_left
             · (have q := (HZE.out w1 hw1).1
                have q1 := q.2.1
                have q2 := q.2.2.1
                simp only [Nat.zero_add] at q1 q2
                clear q
                obtain ⟨PA, pc, tc, _, _, _, _, _, qh, _⟩ := (HS.out.below (HB2.out.trans (hw1.mono HB2.out.size))).cells
                have q3 := qh m hm
                rw [← HY.out] at q3
                clear qh
                clear hw1
                go_simp <;> with_reducible rfl)
             simp only [Act.put, List.setIfInBounds_toArray, List.set_cons_zero, List.set_cons_succ]))
        refine plan_end ?_
        go_wp2_with fail
        go_ret
        exact ⟨by simp [← HY.out, hy], HB2.out.drew⟩
      · have hd : decide (y < 0) = false := decide_eq_false hy
        refine wp_region_planF (by kernel_rfl) (fun u => Below Wz.heap.size Wz u) [] [(0, .pure), (1, .pure), (2, .pure), (3, .load), (4, .pure), (5, .pure), (6, .pure), (7, .pure), (8, .load), (9, .pure), (10, .pure), (11, .pure), (12, .load), (13, .pure), (14, .pure), (15, .pure), (16, .pure)] (by simp only [List.map_cons, List.map_nil, List.getElem?_toArray, List.getElem?_cons_succ, List.getElem?_cons_zero]; rfl) (by kernel_rfl) (fun _ _ d _ _ h => by cases d <;> exact h) ((Below.refl _ _).drew) ?_
        repeat (first
          | (refine plan_pure (v := ?_) (by rfl) (fun w1 => ?_) ?_
             rotate_left
             · go_simp <;> with_reducible rfl
             simp only [Act.put, List.setIfInBounds_toArray, List.set_cons_zero, List.set_cons_succ])
          | (refine plan_off (by rfl) ?_
             simp only [Act.put, List.setIfInBounds_toArray, List.set_cons_zero, List.set_cons_succ])
          | (refine plan_load_off (by rfl) ?_
             simp only [Act.put, List.setIfInBounds_toArray, List.set_cons_zero, List.set_cons_succ])
          | (refine plan_load (v := ?_) (by rfl) (fun w1 hw1 => ?_) ?_
             rotate_left
             · (have q := (HZE.out w1 hw1).1
                have q1 := q.2.1
                have q2 := q.2.2.1
                simp only [Nat.zero_add] at q1 q2
                clear q
                obtain ⟨PA, pc, tc, _, _, _, _, _, qh, _⟩ := (HS.out.below (HB2.out.trans (hw1.mono HB2.out.size))).cells
                have q3 := qh m hm
                rw [← HY.out] at q3
                clear qh
                clear hw1
                go_simp <;> with_reducible rfl)
             simp only [Act.put, List.setIfInBounds_toArray, List.set_cons_zero, List.set_cons_succ]))
        refine plan_end ?_
        go_wp2_with fail
        go_ret
        exact ⟨by simp [← HY.out, hy], HB2.out.drew⟩
    · have hd : (ek == 4) = false := by simpa using h4
      have hd2 : (ek != 4) = true := by simpa using h4
      have hd3 : decide (ek = 4) = false := decide_eq_false h4
      refine wp_region_planF (by kernel_rfl) (fun u => Below Wz.heap.size Wz u) [] [(0, .pure), (1, .pure), (2, .pure), (3, .load), (4, .pure), (5, .pure), (6, .pure), (7, .pure), (8, .load), (9, .pure), (10, .pure), (11, .pure), (12, .load), (13, .pure), (14, .pure), (15, .pure), (16, .pure)] (by simp only [List.map_cons, List.map_nil, List.getElem?_toArray, List.getElem?_cons_succ, List.getElem?_cons_zero]; rfl) (by kernel_rfl) (fun _ _ d _ _ h => by cases d <;> exact h) ((Below.refl _ _).drew) ?_
      repeat (first
        | (refine plan_pure (v := ?_) (by rfl) (fun w1 => ?_) ?_
           rotate_left
           · go_simp <;> with_reducible rfl
           simp only [Act.put, List.setIfInBounds_toArray, List.set_cons_zero, List.set_cons_succ])
        | (refine plan_off (by rfl) ?_
           simp only [Act.put, List.setIfInBounds_toArray, List.set_cons_zero, List.set_cons_succ])
        | (refine plan_load_off (by rfl) ?_
           simp only [Act.put, List.setIfInBounds_toArray, List.set_cons_zero, List.set_cons_succ])
        | (refine plan_load (v := ?_) (by rfl) (fun w1 hw1 => ?_) ?_
           rotate_left
           · (have q := (HZE.out w1 hw1).1
              have q1 := q.2.1
              have q2 := q.2.2.1
              simp only [Nat.zero_add] at q1 q2
              clear q
              clear hw1
              go_simp <;> with_reducible rfl)
           simp only [Act.put, List.setIfInBounds_toArray, List.set_cons_zero, List.set_cons_succ]))
      refine plan_end ?_
      go_wp2_with fail
      go_ret
      exact ⟨by simp, HB2.out.drew⟩
set_option maxRecDepth 100000 in
set_option maxHeartbeats 2000000 in
theorem refAll_any (w : World) (C : Nat → Prop) (S T o : Nat) (s : St) (h : RAt w C S T o s) (hw : Pr.Wf s) :
    Calls Tryz.prog 59 #[.pointer (some ⟨S, 0, none⟩)] w fun x w' => ∃ A cap, x = .returned (.slice A ((Pr.all s).map (fun (t : Nat) => (t : Int))).length cap) ∧ IntsAt w w' A cap ((Pr.all s).map (fun (t : Nat) => (t : Int))) ∧ Below w.heap.size w w' := by
  have hcel : ∀ u, Below w.heap.size w u → (∃ tc, u.cell? ⟨S, 3, none⟩ = some (.slice (some ⟨T, o, none⟩) s.th.length tc)) ∧ S < u.heap.size := fun u hu => by
    obtain ⟨PA, pc, tc, _, _, _, z3, _, _, _⟩ := (h.below hu).cells
    exact ⟨⟨tc, z3⟩, (h.below hu).lt.1⟩
  have hen : ∀ u t, Below w.heap.size w u → t < s.th.length → Calls Tryz.prog 95 #[.pointer (some ⟨S, 0, none⟩), .int .i64 (t : Int)] u fun x w' => x = .returned (.bool (Pr.enabled s t)) ∧ Below u.heap.size u w' := fun u t hu ht => refEnabled_any u C S T o s t (h.below hu) hw ht
  have hn4 := hw.n4
  have hall : (Pr.all s).map (fun (t : Nat) => (t : Int)) = allI s s.th.length := rfl
  rw [hall]
  obtain ⟨n, hn⟩ : ∃ n, n = s.th.length := ⟨_, rfl⟩
  rw [← hn] at hcel hen hn4 ⊢
  obtain ⟨i0, hi0, hz0, hz1, hz2⟩ := info_parts Tryz.infoInt
  have HCEL := Lib.hid hcel
  have HEN := Lib.hid hen
  clear hcel hen h hw hall hn
  go_enter Tryz.func59, Tryz.ntmps59
  go_wp2_with fail
  go_loopw [3, 4] (fun r v wr => ∃ (k : Nat) (A : Option Addr) (cap len : Nat), k ≤ n ∧ v = .int .i64 k ∧ r = .slice A len cap ∧ len ≤ k ∧ Hid (len = (allI s k).length) ∧ Hid (IntsAt w wr A cap (allI s k)) ∧ Hid (Below w.heap.size w wr)) (fun _ v _ => n - (intOf v).toNat)
  case atStart => exact ⟨0, none, 0, 0, Nat.zero_le _, rfl, rfl, Nat.le_refl _, Lib.hid rfl, Lib.hid ⟨Row.nil _ _ _, fun a h => by cases h⟩, Lib.hid (Below.refl _ _)⟩
  case round =>
    obtain ⟨k, A, cap, len, hk, rfl, rfl, hlk, HLEN, HA, HB⟩ := hrel
    obtain ⟨⟨tc, z3⟩, sl⟩ := HCEL.out wr HB.out
    by_cases hlt : k < n
    · have hcall := HEN.out wr k HB.out hlt
      have hstep := allI_step s k
      obtain ⟨b, hb⟩ : ∃ b, b = Pr.enabled s k := ⟨_, rfl⟩
      rw [← hb] at hcall hstep
      have k1 : (0 : Int) ≤ (k : Int) := Int.natCast_nonneg _
      have k2 : (k : Int) < (n : Int) := by omega
      have HCALL := Lib.hid hcall
      have HSTEP := Lib.hid hstep
      clear hcall hstep hb
      go_wp2_with fail
      refine HCALL.out.mono ?_
      rintro x w1 ⟨rfl, b1⟩
      have HB1 := Lib.hid (below_at HB.out b1)
      have hr1 : Row w1 3 1 A len cap ((allI s k).map iv) := by
        have := row_stepS HA.out.1 b1
        rw [← HLEN.out] at this
        exact this
      have HR1 := Lib.hid hr1
      clear b1 hr1
      cases b with
      | false =>
        go_wp2_with fail
        go_roundw
        case rel => exact ⟨k + 1, A, cap, len, by omega, by go_num, rfl, by omega, Lib.hid (by rw [HSTEP.out]; exact HLEN.out), Lib.hid ⟨by rw [HSTEP.out]; have := HR1.out; rw [HLEN.out] at this; exact this, HA.out.2⟩, HB1⟩
        case measure => simp [intOf]; omega
      | true =>
        go_wp2_with (at_builtin; refine wpList_append_row (by rfl) _ _ _ (by rfl) 3 i0 _ 1 8 Tryz.underlying25 hi0 hz0 hz1 hz2 rfl (by omega) A len cap ((allI s k).map iv) (by rfl) (HR1.out.alloc _) ⟨w1.heap.size, 0, none⟩ 1 1 [.int .i64 (k : Int)] (by rfl) (by rfl) (World.news_of_block (cs := #[.int .i64 (k : Int)]) (t := 3) (fr := (0, 0)) (heap_alloc_new w1 _)) (by simp [Value.oneCell']) (by omega) (by unfold maxLen; omega) (by omega) ?_; intro g1 of1 cap1 w3 hown hm hat; skip)
        obtain ⟨q1, q2⟩ := acc_more HA.out.2 HB1.out hm hat (of := of1)
        go_roundw
        case rel =>
          have hl : (allI s (k + 1)).length = len + 1 := by rw [HSTEP.out]; simp [HLEN.out]
          refine ⟨k + 1, some ⟨g1, of1, none⟩, cap1, len + 1, by omega, by go_num, rfl, by omega, Lib.hid hl.symm, Lib.hid ⟨?_, q1⟩, Lib.hid q2⟩
          rw [hl, HSTEP.out]
          simpa [iv] using hown
        case measure => simp [intOf]; omega
    · obtain rfl : k = n := by omega
      have hl := HLEN.out
      subst hl
      go_wp2_with fail
      go_ret
      exact ⟨A, cap, rfl, HA.out, HB.out⟩
end Go.Proofs.YtcaapoacmfjnmaaGreat
