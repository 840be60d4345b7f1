/- Part 13 of the proof of seqExact_holds: what it rests on. -/
import Derived.Test.YtckdofjpoajblaaGreatZa12
namespace Go.Proofs.YtckdofjpoajblaaGreat
open Go.RowKit
set_option linter.unusedVariables false
set_option maxRecDepth 100000 in
set_option maxHeartbeats 2000000 in
theorem refEnabled_any (w : World) (C : Nat → Prop) (S T o : Nat) (s : St) (t : Nat) (h : RAt w C S T o s) (hw : Pr.Wf s) (ht : t < s.th.length) :
    Calls Tryz.prog 151 #[.pointer (some ⟨S, 0, none⟩), .int .i64 (t : Int)] w fun x w' => x = .returned (.bool (Pr.enabled s t)) ∧ Below w.heap.size w w' := by
  have hcall := refNext_any w C S T o s t h hw ht
  have hlk : ∀ e, Pr.next s t = some e → e.k = 4 → ∃ m : Nat, e.o = m ∧ m < 2 := fun e he hk => Pr.next_lock hw he hk
  have hen : Pr.enabled s t = match Pr.next s t with | none => false | some e => decide (e.k ≠ 4) || decide (s.h e.o.toNat < 0) := rfl
  obtain ⟨q, hq⟩ : ∃ q, q = Pr.next s t := ⟨_, rfl⟩
  rw [← hq] at hcall hlk hen
  rw [hen]
  have HCALL := Lib.hid hcall
  have HLK := Lib.hid hlk
  have HS := Lib.hid h
  clear hcall hlk hen hq h hw ht
  go_enter Tryz.func151, Tryz.ntmps151
  go_wp2_with fail
  refine HCALL.out.mono ?_
  rintro y w1 ⟨rfl, b1⟩
  have HB1 := Lib.hid b1
  clear b1 HCALL
  obtain ⟨e, he⟩ : ∃ e, e = q.getD Pr.zeroE := ⟨_, rfl⟩
  obtain ⟨Wz, Z, hWz, hZ, hBz, hZl, hZe⟩ := ev_box w1 e
  rw [← he]
  have HZE := Lib.hid hZe
  have HB2 := Lib.hid (below_at HB1.out hBz)
  have HE := Lib.hid he
  unfold valE
  clear hZe hZl hBz he HB1
  cases q with
  | none =>
    simp only [Option.isSome_none]
    go_upto_region 2 with fail
    rw [← hWz, ← hZ]
    clear hWz hZ
    refine wp_region_planF (by kernel_rfl) (fun u => Below Wz.heap.size Wz u) [] [(0, .pure), (1, .pure), (2, .pure), (3, .load), (4, .pure), (5, .pure), (6, .pure), (7, .pure), (8, .load), (9, .pure), (10, .pure), (11, .pure), (12, .load), (13, .pure), (14, .pure), (15, .pure), (16, .pure)] (by simp only [List.map_cons, List.map_nil, List.getElem?_toArray, List.getElem?_cons_succ, List.getElem?_cons_zero]; rfl) (by kernel_rfl) (fun _ _ d _ _ h => by cases d <;> exact h) ((Below.refl _ _).drew) ?_
    repeat (first
      | (refine plan_pure (v := ?_) (by rfl) (fun w1 => ?_) ?_
         rotate_left
         · go_simp <;> with_reducible rfl
         simp only [Act.put, List.setIfInBounds_toArray, List.set_cons_zero, List.set_cons_succ])
      | (refine plan_off (by rfl) ?_
         simp only [Act.put, List.setIfInBounds_toArray, List.set_cons_zero, List.set_cons_succ])
      | (refine plan_load_off (by rfl) ?_
         simp only [Act.put, List.setIfInBounds_toArray, List.set_cons_zero, List.set_cons_succ])
      | (refine plan_load (v := ?_) (by rfl) (fun w1 hw1 => ?_) ?_
         rotate_left
         · (skip
            clear hw1
            go_simp <;> with_reducible rfl)
         simp only [Act.put, List.setIfInBounds_toArray, List.set_cons_zero, List.set_cons_succ]))
    refine plan_end ?_
    go_wp2_with fail
    go_ret
    exact ⟨rfl, HB2.out.drew⟩
  | some e' =>
    have hee : e = e' := HE.out
    subst hee
    have HL := Lib.hid (HLK.out e rfl)
    clear HLK HE
    obtain ⟨et, ek, eo, ef⟩ := e
    simp only [Option.isSome_some] at *
    go_upto_region 2 with fail
    rw [← hWz, ← hZ]
    clear hWz hZ
    by_cases h4 : ek = 4
    · subst h4
      obtain ⟨m, rfl, hm⟩ := HL.out rfl
      obtain ⟨y, hy⟩ : ∃ y, y = s.h m := ⟨_, rfl⟩
      have HY := Lib.hid hy
      have k1 : (0 : Int) ≤ (m : Int) := Int.natCast_nonneg _
      have k2 : (m : Int) < 2 := by omega
      clear hy
      by_cases hy : y < 0
      · have hd : decide (y < 0) = true := decide_eq_true hy
        refine wp_region_planF (by kernel_rfl) (fun u => Below Wz.heap.size Wz u) [] [(0, .pure), (1, .pure), (2, .pure), (3, .load), (4, .pure), (5, .pure), (6, .pure), (7, .pure), (8, .load), (9, .pure), (10, .pure), (11, .pure), (12, .load), (13, .pure), (14, .pure), (15, .pure), (16, .pure)] (by simp only [List.map_cons, List.map_nil, List.getElem?_toArray, List.getElem?_cons_succ, List.getElem?_cons_zero]; rfl) (by kernel_rfl) (fun _ _ d _ _ h => by cases d <;> exact h) ((Below.refl _ _).drew) ?_
        repeat (first
          | (refine plan_pure (v := ?_) (by rfl) (fun w1 => ?_) ?_
             rotate_left
             · go_simp <;> with_reducible rfl
             simp only [Act.put, List.setIfInBounds_toArray, List.set_cons_zero, List.set_cons_succ])
          | (refine plan_off (by rfl) ?_
             simp only [Act.put, List.setIfInBounds_toArray, List.set_cons_zero, List.set_cons_succ])
          | (refine plan_load_off (by rfl) ?_
             simp only [Act.put, List.setIfInBounds_toArray, List.set_cons_zero, List.set_cons_succ])
          | (refine plan_load (v := ?_) (by rfl) (fun w1 hw1 => ?_) ?_
             rotate_left
             · (have q := (HZE.out w1 hw1).1
                have q1 := q.2.1
                have q2 := q.2.2.1
                simp only [Nat.zero_add] at q1 q2
                clear q
                obtain ⟨PA, pc, tc, _, _, _, _, _, qh, _⟩ := (HS.out.below (HB2.out.trans (hw1.mono HB2.out.size))).cells
                have q3 := qh m hm
                rw [← HY.out] at q3
                clear qh
                clear hw1
                go_simp <;> with_reducible rfl)
             simp only [Act.put, List.setIfInBounds_toArray, List.set_cons_zero, List.set_cons_succ]))
        refine plan_end ?_
        go_wp2_with fail
        go_ret
        exact ⟨by simp [← HY.out, hy], HB2.out.drew⟩
      · have hd : decide (y < 0) = false := decide_eq_false hy
        refine wp_region_planF (by kernel_rfl) (fun u => Below Wz.heap.size Wz u) [] [(0, .pure), (1, .pure), (2, .pure), (3, .load), (4, .pure), (5, .pure), (6, .pure), (7, .pure), (8, .load), (9, .pure), (10, .pure), (11, .pure), (12, .load), (13, .pure), (14, .pure), (15, .pure), (16, .pure)] (by simp only [List.map_cons, List.map_nil, List.getElem?_toArray, List.getElem?_cons_succ, List.getElem?_cons_zero]; rfl) (by kernel_rfl) (fun _ _ d _ _ h => by cases d <;> exact h) ((Below.refl _ _).drew) ?_
        repeat (first
          | (refine plan_pure (v := ?_) (by rfl) (fun w1 => ?_) ?_
             rotate_left
             · go_simp <;> with_reducible rfl
             simp only [Act.put, List.setIfInBounds_toArray, List.set_cons_zero, List.set_cons_succ])
          | (refine plan_off (by rfl) ?_
             simp only [Act.put, List.setIfInBounds_toArray, List.set_cons_zero, List.set_cons_succ])
          | (refine plan_load_off (by rfl) ?_
             simp only [Act.put, List.setIfInBounds_toArray, List.set_cons_zero, List.set_cons_succ])
          | (refine plan_load (v := ?_) (by rfl) (fun w1 hw1 => ?_) ?_
             rotate_left
             · (have q := (HZE.out w1 hw1).1
                have q1 := q.2.1
                have q2 := q.2.2.1
                simp only [Nat.zero_add] at q1 q2
                clear q
                obtain ⟨PA, pc, tc, _, _, _, _, _, qh, _⟩ := (HS.out.below (HB2.out.trans (hw1.mono HB2.out.size))).cells
                have q3 := qh m hm
                rw [← HY.out] at q3
                clear qh
                clear hw1
                go_simp <;> with_reducible rfl)
             simp only [Act.put, List.setIfInBounds_toArray, List.set_cons_zero, List.set_cons_succ]))
        refine plan_end ?_
        go_wp2_with fail
        go_ret
        exact ⟨by simp [← HY.out, hy], HB2.out.drew⟩
    · have hd : (ek == 4) = false := by simpa using h4
      have hd2 : (ek != 4) = true := by simpa using h4
      have hd3 : decide (ek = 4) = false := decide_eq_false h4
      refine wp_region_planF (by kernel_rfl) (fun u => Below Wz.heap.size Wz u) [] [(0, .pure), (1, .pure), (2, .pure), (3, .load), (4, .pure), (5, .pure), (6, .pure), (7, .pure), (8, .load), (9, .pure), (10, .pure), (11, .pure), (12, .load), (13, .pure), (14, .pure), (15, .pure), (16, .pure)] (by simp only [List.map_cons, List.map_nil, List.getElem?_toArray, List.getElem?_cons_succ, List.getElem?_cons_zero]; rfl) (by kernel_rfl) (fun _ _ d _ _ h => by cases d <;> exact h) ((Below.refl _ _).drew) ?_
      repeat (first
        | (refine plan_pure (v := ?_) (by rfl) (fun w1 => ?_) ?_
           rotate_left
           · go_simp <;> with_reducible rfl
           simp only [Act.put, List.setIfInBounds_toArray, List.set_cons_zero, List.set_cons_succ])
        | (refine plan_off (by rfl) ?_
           simp only [Act.put, List.setIfInBounds_toArray, List.set_cons_zero, List.set_cons_succ])
        | (refine plan_load_off (by rfl) ?_
           simp only [Act.put, List.setIfInBounds_toArray, List.set_cons_zero, List.set_cons_succ])
        | (refine plan_load (v := ?_) (by rfl) (fun w1 hw1 => ?_) ?_
           rotate_left
           · (have q := (HZE.out w1 hw1).1
              have q1 := q.2.1
              have q2 := q.2.2.1
              simp only [Nat.zero_add] at q1 q2
              clear q
              clear hw1
              go_simp <;> with_reducible rfl)
           simp only [Act.put, List.setIfInBounds_toArray, List.set_cons_zero, List.set_cons_succ]))
      refine plan_end ?_
      go_wp2_with fail
      go_ret
      exact ⟨by simp, HB2.out.drew⟩
set_option maxRecDepth 100000 in
set_option maxHeartbeats 2000000 in
theorem refAll_any (w : World) (C : Nat → Prop) (S T o : Nat) (s : St) (h : RAt w C S T o s) (hw : Pr.Wf s) :
    Calls Tryz.prog 85 #[.pointer (some ⟨S, 0, none⟩)] w fun x w' => ∃ A cap, x = .returned (.slice A ((Pr.all s).map (fun (t : Nat) => (t : Int))).length cap) ∧ IntsAt w w' A cap ((Pr.all s).map (fun (t : Nat) => (t : Int))) ∧ Below w.heap.size w w' := by
  have hcel : ∀ u, Below w.heap.size w u → (∃ tc, u.cell? ⟨S, 3, none⟩ = some (.slice (some ⟨T, o, none⟩) s.th.length tc)) ∧ S < u.heap.size := fun u hu => by
    obtain ⟨PA, pc, tc, _, _, _, z3, _, _, _⟩ := (h.below hu).cells
    exact ⟨⟨tc, z3⟩, (h.below hu).lt.1⟩
  have hen : ∀ u t, Below w.heap.size w u → t < s.th.length → Calls Tryz.prog 151 #[.pointer (some ⟨S, 0, none⟩), .int .i64 (t : Int)] u fun x w' => x = .returned (.bool (Pr.enabled s t)) ∧ Below u.heap.size u w' := fun u t hu ht => refEnabled_any u C S T o s t (h.below hu) hw ht
  have hn4 := hw.n4
  have hall : (Pr.all s).map (fun (t : Nat) => (t : Int)) = allI s s.th.length := rfl
  rw [hall]
  obtain ⟨n, hn⟩ : ∃ n, n = s.th.length := ⟨_, rfl⟩
  rw [← hn] at hcel hen hn4 ⊢
  obtain ⟨i0, hi0, hz0, hz1, hz2⟩ := info_parts Tryz.infoInt
  have HCEL := Lib.hid hcel
  have HEN := Lib.hid hen
  clear hcel hen h hw hall hn
  go_enter Tryz.func85, Tryz.ntmps85
  go_wp2_with fail
  go_loopw [3, 4] (fun r v wr => ∃ (k : Nat) (A : Option Addr) (cap len : Nat), k ≤ n ∧ v = .int .i64 k ∧ r = .slice A len cap ∧ len ≤ k ∧ Hid (len = (allI s k).length) ∧ Hid (IntsAt w wr A cap (allI s k)) ∧ Hid (Below w.heap.size w wr)) (fun _ v _ => n - (intOf v).toNat)
  case atStart => exact ⟨0, none, 0, 0, Nat.zero_le _, rfl, rfl, Nat.le_refl _, Lib.hid rfl, Lib.hid ⟨Row.nil _ _ _, fun a h => by cases h⟩, Lib.hid (Below.refl _ _)⟩
  case round =>
    obtain ⟨k, A, cap, len, hk, rfl, rfl, hlk, HLEN, HA, HB⟩ := hrel
    obtain ⟨⟨tc, z3⟩, sl⟩ := HCEL.out wr HB.out
    by_cases hlt : k < n
    · have hcall := HEN.out wr k HB.out hlt
      have hstep := allI_step s k
      obtain ⟨b, hb⟩ : ∃ b, b = Pr.enabled s k := ⟨_, rfl⟩
      rw [← hb] at hcall hstep
      have k1 : (0 : Int) ≤ (k : Int) := Int.natCast_nonneg _
      have k2 : (k : Int) < (n : Int) := by omega
      have HCALL := Lib.hid hcall
      have HSTEP := Lib.hid hstep
      clear hcall hstep hb
      go_wp2_with fail
      refine HCALL.out.mono ?_
      rintro x w1 ⟨rfl, b1⟩
      have HB1 := Lib.hid (below_at HB.out b1)
      have hr1 : Row w1 3 1 A len cap ((allI s k).map iv) := by
        have := row_stepS HA.out.1 b1
        rw [← HLEN.out] at this
        exact this
      have HR1 := Lib.hid hr1
      clear b1 hr1
      cases b with
      | false =>
        go_wp2_with fail
        go_roundw
        case rel => exact ⟨k + 1, A, cap, len, by omega, by go_num, rfl, by omega, Lib.hid (by rw [HSTEP.out]; exact HLEN.out), Lib.hid ⟨by rw [HSTEP.out]; have := HR1.out; rw [HLEN.out] at this; exact this, HA.out.2⟩, HB1⟩
        case measure => simp [intOf]; omega
      | true =>
        go_wp2_with (at_builtin; refine wpList_append_row (by rfl) _ _ _ (by rfl) 3 i0 _ 1 8 Tryz.underlying32 hi0 hz0 hz1 hz2 rfl (by omega) A len cap ((allI s k).map iv) (by rfl) (HR1.out.alloc _) ⟨w1.heap.size, 0, none⟩ 1 1 [.int .i64 (k : Int)] (by rfl) (by rfl) (World.news_of_block (cs := #[.int .i64 (k : Int)]) (t := 3) (fr := (0, 0)) (heap_alloc_new w1 _)) (by simp [Value.oneCell']) (by omega) (by unfold maxLen; omega) (by omega) ?_; intro g1 of1 cap1 w3 hown hm hat; skip)
        obtain ⟨q1, q2⟩ := acc_more HA.out.2 HB1.out hm hat (of := of1)
        go_roundw
        case rel =>
          have hl : (allI s (k + 1)).length = len + 1 := by rw [HSTEP.out]; simp [HLEN.out]
          refine ⟨k + 1, some ⟨g1, of1, none⟩, cap1, len + 1, by omega, by go_num, rfl, by omega, Lib.hid hl.symm, Lib.hid ⟨?_, q1⟩, Lib.hid q2⟩
          rw [hl, HSTEP.out]
          simpa [iv] using hown
        case measure => simp [intOf]; omega
    · obtain rfl : k = n := by omega
      have hl := HLEN.out
      subst hl
      go_wp2_with fail
      go_ret
      exact ⟨A, cap, rfl, HA.out, HB.out⟩
end Go.Proofs.YtckdofjpoajblaaGreat
namespace Go.Proofs.YtckdofjpoajblaaGreat
open Go.RowKit
set_option linter.unusedVariables false
theorem RAt.set_r {w : World} {C : Nat → Prop} {S T o : Nat} {s : St} (h : RAt w C S T o s) {t : Nat} {x : Th} (hx : s.th[t]? = some x) {q : Nat} (hq : q < 2) (v : Int) :
    RAt (w.setCell ⟨T, o + t * 4 + 2 + q, none⟩ (.int .i64 v)) C S T o (Pr.regs s t x q v) ∧ Mod (fun k => k = T) w (w.setCell ⟨T, o + t * 4 + 2 + q, none⟩ (.int .i64 v)) := by
  rw [Nat.add_assoc (o + t * 4)]
  exact h.set_th hx (2 + q) (by omega) _ (by rcases (show q = 0 ∨ q = 1 by omega) with rfl | rfl <;> simp [encT, updI])
theorem RAt.set_pc {w : World} {C : Nat → Prop} {S T o : Nat} {s : St} (h : RAt w C S T o s) {t : Nat} {x : Th} (hx : s.th[t]? = some x) (n : Nat) :
    RAt (w.setCell ⟨T, o + t * 4, none⟩ (.int .i64 (n : Int))) C S T o { s with th := s.th.set t { x with pc := n } } ∧ Mod (fun k => k = T) w (w.setCell ⟨T, o + t * 4, none⟩ (.int .i64 (n : Int))) :=
  h.set_th hx 0 (by omega) _ rfl
theorem RAt.set_fuel {w : World} {C : Nat → Prop} {S T o : Nat} {s : St} (h : RAt w C S T o s) {t : Nat} {x : Th} (hx : s.th[t]? = some x) (n : Nat) :
    RAt (w.setCell ⟨T, o + t * 4 + 1, none⟩ (.int .i64 (n : Int))) C S T o { s with th := s.th.set t { x with fuel := n } } ∧ Mod (fun k => k = T) w (w.setCell ⟨T, o + t * 4 + 1, none⟩ (.int .i64 (n : Int))) :=
  h.set_th hx 1 (by omega) _ rfl
theorem RAt.bound {w : World} {C : Nat → Prop} {S T o : Nat} {s : St} (h : RAt w C S T o s) : RAt w (fun k => C k ∧ k < w.heap.size) S T o s := by
  obtain ⟨PA, pc, tc, h1, h2, h3, h4, h5, h6⟩ := h
  exact ⟨PA, pc, tc, h1, h2, h3.bound, fun hk => h4 hk.1, fun hk => h5 hk.1, h6⟩
theorem RAt.widen {w w' : World} {C D : Nat → Prop} {S T o : Nat} {s s' : St} (h : RAt w D S T o s) (h0 : RAt w' C S T o s') (hD : ∀ k, D k → C k) : RAt w C S T o s := by
  obtain ⟨PA, pc, tc, h1, h2, h3, h4, h5, h6⟩ := h
  obtain ⟨_, _, _, _, _, _, g4, g5, _⟩ := h0
  exact ⟨PA, pc, tc, h1, h2, h3.imp hD, g4, g5, h6⟩
set_option maxRecDepth 100000 in
set_option maxHeartbeats 8000000 in
theorem refStep_okB (w : World) (C : Nat → Prop) (S T o : Nat) (s : St) (t : Nat) (e : Ev) (h : RAt w C S T o s) (hw : Pr.Wf s) (ht : t < s.th.length) (hen : Pr.enabled s t = true) (hnx : Pr.next s t = some e) (hC : ∀ k, C k → k < w.heap.size) :
    Calls Tryz.prog 88 #[.pointer (some ⟨S, 0, none⟩), .int .i64 (t : Int)] w fun x w' => x = .returned (.tuple #[valE e, .int .i64 0]) ∧ RAt w' C S T o (Pr.stepS s t) ∧ Mod (fun k => k = S ∨ k = T) w w' := by
  obtain ⟨Wa, X, hWa, hX, hBa, hXl, hXk⟩ := ev0_box w
  have hS := h.below hBa
  have hc2 := refNext_any Wa C S T o s t hS hw ht
  rw [hnx] at hc2
  have hc3 : ∀ u, Below Wa.heap.size Wa u → _ := fun u hu => refEnabled_any u C S T o s t (hS.below hu) hw ht
  rw [hen] at hc3
  obtain ⟨e', i, he', hi, hee⟩ := Pr.enabled_next hen
  obtain rfl : e' = e := by rw [hnx] at he'; injection he' with he'; exact he'.symm
  obtain ⟨x, hx⟩ := get_some ht
  obtain ⟨cq, hq⟩ := get_some (show t < s.p.code.length by rw [← hw.len]; exact ht)
  have hn4 := hw.n4
  have hq8 := hw.q8 hq
  obtain ⟨hf8, hp8⟩ := hw.bnd t x hx
  have hins : (if x.fuel = 0 then none else cq[x.pc]?) = some i := by rw [← hi]; unfold Pr.ins; rw [hx, hq]
  have hfu : x.fuel ≠ 0 := fun h0 => by rw [if_pos h0] at hins; cases hins
  rw [if_neg hfu] at hins
  obtain ⟨f, hf⟩ : ∃ f, x.fuel = f + 1 := ⟨x.fuel - 1, by omega⟩
  have hst : Pr.stepS s t = Pr.deed { s with th := s.th.set t ⟨x.pc + 1, f, x.r⟩ } t ⟨x.pc + 1, f, x.r⟩ i := by
    unfold Pr.stepS
    rw [hi]
    unfold Pr.doI
    rw [hx]
    simp only [Pr.tick, hf, Nat.add_sub_cancel]
  obtain ⟨s9, hs9⟩ : ∃ s9, s9 = Pr.stepS s t := ⟨_, rfl⟩
  rw [← hs9] at hst ⊢
  have hpc : x.pc < cq.length := (List.getElem?_eq_some_iff.1 hins).1
  obtain ⟨PA, pc, tc, _, _, z2, z3, _, _, zc⟩ := hS.cells
  obtain ⟨g, og, A', c', rfl, hCg, hgl, hrq, hqc, hcm, hcell⟩ := zc.get t cq hq
  obtain ⟨g2, o2, rfl, _, hl2, hic⟩ := hrq.ins x.pc i hins
  obtain ⟨n, hn⟩ : ∃ n, n = s.th.length := ⟨_, rfl⟩
  rw [show s.p.code.length = n by rw [hn]; exact hw.len.symm] at z2
  rw [← hn] at z3 ht hn4
  obtain ⟨cl, hcl⟩ : ∃ cl, cl = cq.length := ⟨_, rfl⟩
  rw [← hcl] at hpc hcell
  have hf0 : ∀ u, Below Wa.heap.size Wa u → u.cell? ⟨S, 3, none⟩ = some (.slice (some ⟨T, o, none⟩) n tc) ∧ u.cell? ⟨S, 2, none⟩ = some (.slice (some ⟨g, og, none⟩) n pc) ∧ u.cell? ⟨T, o + t * 4, none⟩ = some (.int .i64 (x.pc : Nat)) ∧ u.cell? ⟨g, og + t, none⟩ = some (.slice (some ⟨g2, o2, none⟩) cl c') ∧ S < u.heap.size ∧ T < u.heap.size ∧ g < u.heap.size ∧ InAt u g2 (o2 + x.pc * 4) i ∧ g2 < u.heap.size := fun u hu => by
    have hb := hu.size
    have hq := hS.below hu
    exact ⟨(World.cell?_of_block (hu.block S hS.lt.1)).trans z3, (World.cell?_of_block (hu.block S hS.lt.1)).trans z2, (hq.thread t x hx).1, hcell u (hu.block g hgl), hq.lt.1, hq.lt.2, by omega, hic u (hu.block g2 hl2), by omega⟩
  obtain ⟨nI, hn0, hn8', hok⟩ := hw.insOk hi
  obtain ⟨k, r, ix, im⟩ := i
  have hk1 := hok.1
  have hk8 := hok.2.1
  have hr0 := hok.2.2.2.2.2.2.1
  have hr1 := hok.2.2.2.2.2.2.2.1
  have hx0 := hok.2.2.2.2.2.1
  have hv4 := hw.ok.1.2.1
  have hm2 := hw.ok.1.2.2.2.1
  simp only at hk1 hk8 hr0 hr1 hx0
  obtain ⟨q, rfl⟩ : ∃ q : Nat, r = q := ⟨r.toNat, by omega⟩
  obtain ⟨m, rfl⟩ : ∃ m : Nat, ix = m := ⟨ix.toNat, by omega⟩
  have hq2 : q < 2 := by omega
  have hmv : k = 1 ∨ k = 2 → m < 4 := fun hk => by have := hok.2.2.2.2.2.2.2.2.2.1 hk; simp only at this; omega
  have hmm : k = 5 ∨ k = 6 → m < 2 := fun hk => by have := hok.2.2.2.2.2.2.2.2.2.2.1 hk; simp only at this; omega
  have hRa := hS
  have HMV := Lib.hid hmv
  have HMM := Lib.hid hmm
  have HF0 := Lib.hid hf0
  have HS := Lib.hid hS
  have HCC := Lib.hid hC
  obtain ⟨et, ek, eo, ef⟩ := e'
  simp only [Option.getD_some, Option.isSome_some, valE] at hc2 ⊢
  have HC2 := Lib.hid hc2
  have HC3 := Lib.hid hc3
  have HB := Lib.hid hBa
  have HXK := Lib.hid hXk
  have HXW := Lib.hid (Nat.le_of_eq hX.symm)
  have HSTL := Lib.hid (And.intro h.lt.1 h.lt.2)
  have HST := Lib.hid hst
  have HX := Lib.hid hx
  have HNN := Lib.hid hn
  have HFF := Lib.hid hf
  have HEE := Lib.hid hee
  have k1 : (0 : Int) ≤ (t : Int) := Int.natCast_nonneg _
  have k2 : (t : Int) < (n : Int) := by omega
  have k3 : ¬ n ≤ t := by omega
  have d1 : decide (n ≤ t) = false := decide_eq_false k3
  have q0 : (0 : Int) ≤ ((x.pc : Nat) : Int) := Int.natCast_nonneg _
  have q1 : ((x.pc : Nat) : Int) < ((cl : Nat) : Int) := by omega
  have hpc8 : x.pc ≤ 8 := hp8
  have hf7 : f ≤ 7 := by omega
  clear hC hc2 hc3 hBa hXk h hw hen hnx hS hi hst hs9 hf0 hmv hmm hx hn hf he' hins hq hcl hcell hrq hic hCg hgl hl2 hqc hcm z2 zc hfu hok hv4 hm2 hn0 hn8' hRa hee hf8 hp8
  go_enter Tryz.func88, Tryz.ntmps88
  go_upto_region 1 with fail
  rw [← hWa, ← hX]
  clear hWa hX
  go_wp2_with fail
  refine HC2.out.mono ?_
  rintro y w2 ⟨rfl, b2⟩
  obtain ⟨Wz, Z, hWz, hZ, hBz, hZl, hZe⟩ := ev_box w2 ⟨et, ek, eo, ef⟩
  simp only at hWz
  have HB2 := Lib.hid (below_at b2 hBz)
  have HZE := Lib.hid hZe
  have HZW := Lib.hid (show Wa.heap.size ≤ Z by rw [hZ]; exact b2.size)
  have HZL := Lib.hid hZl
  clear b2 hBz hZl hZe z3
  go_upto_region 4 with fail
  rw [← hWz, ← hZ]
  clear hWz hZ
  go_wp2_with fail
  refine (HC3.out Wz HB2.out).mono ?_
  rintro y w3 ⟨rfl, b3⟩
  have HB3 := Lib.hid (below_at HB2.out b3)
  have HZ3 := Lib.hid b3
  clear b3
  obtain ⟨c3, c2, t0, ccode, sl, tl, gl, _⟩ := HF0.out w3 HB3.out
  go_upto_region 9 with fail
  clear c3 c2 t0 ccode sl tl gl
  refine wp_region_planF (by kernel_rfl) (fun u => Below w3.heap.size w3 u) [15] [(0, .pure), (1, .pure), (2, .pure), (3, .pure), (4, .load), (5, .pure), (6, .pure), (7, .load), (8, .pure), (9, .pure), (10, .pure), (11, .load), (12, .pure), (13, .load), (14, .eff), (15, .last)] (by simp only [List.map_cons, List.map_nil, List.getElem?_toArray, List.getElem?_cons_succ, List.getElem?_cons_zero]; rfl) (by kernel_rfl) (fun _ _ d _ _ h => by cases d <;> exact h) ((Below.refl _ _).drew) ?_
  obtain ⟨Wd, hWd⟩ : ∃ z, z = w3.drew := ⟨_, rfl⟩
  rw [← hWd]
  have hbd : Below w3.heap.size w3 Wd := by rw [hWd]; exact (Below.refl _ _).drew
  have HBD := Lib.hid hbd
  clear hWd hbd
  repeat (first
    | (refine plan_pure (v := ?_) (by rfl) (fun w1 => ?_) ?_
       rotate_left
       · go_simp <;> with_reducible rfl
       simp only [Act.put, List.setIfInBounds_toArray, List.set_cons_zero, List.set_cons_succ])
    | (refine plan_off (by rfl) ?_
       simp only [Act.put, List.setIfInBounds_toArray, List.set_cons_zero, List.set_cons_succ])
    | (refine plan_load_off (by rfl) ?_
       simp only [Act.put, List.setIfInBounds_toArray, List.set_cons_zero, List.set_cons_succ])
    | (refine plan_load (v := ?_) (by rfl) (fun w1 hw1 => ?_) ?_
       rotate_left
       · (have qf := HF0.out w1 (below_at HB3.out hw1)
          obtain ⟨c3, c2, t0, ccode, sl, tl, gl, ⟨i0, i1, i2, i3⟩, il⟩ := qf
          clear hw1
          go_simp <;> with_reducible rfl)
       simp only [Act.put, List.setIfInBounds_toArray, List.set_cons_zero, List.set_cons_succ]))
  obtain ⟨Wf, hWf⟩ : ∃ z, z = Wd.alloc (Obj.cells #[.int .i64 0, .int .i64 0, .int .i64 0, .int .i64 0] 98) := ⟨_, rfl⟩
  obtain ⟨Y, hY⟩ : ∃ z, z = Wd.heap.size := ⟨_, rfl⟩
  have hYk : Wf.heap[Y]? = some (.cells #[.int .i64 0, .int .i64 0, .int .i64 0, .int .i64 0] 98 (0, 0)) := by rw [hWf, hY]; exact heap_alloc_new Wd _
  have hbf : Below w3.heap.size w3 Wf := by rw [hWf]; exact HBD.out.alloc HBD.out.size _
  have hYW : w3.heap.size ≤ Y := by rw [hY]; exact HBD.out.size
  refine plan_eff ?_
  go_wp2_with fail
  rw [← hWf, ← hY]
  have HBF := Lib.hid hbf
  have HYK := Lib.hid hYk
  have HYW := Lib.hid hYW
  clear hWf hY hYk hbf hYW
  refine plan_on (fun _ h => h) HBF.out ?_
  repeat (first
    | (refine plan_pure (v := ?_) (by rfl) (fun w1 => ?_) ?_
       rotate_left
       · go_simp <;> with_reducible rfl
       simp only [Act.put, List.setIfInBounds_toArray, List.set_cons_zero, List.set_cons_succ])
    | (refine plan_off (by rfl) ?_
       simp only [Act.put, List.setIfInBounds_toArray, List.set_cons_zero, List.set_cons_succ])
    | (refine plan_load_off (by rfl) ?_
       simp only [Act.put, List.setIfInBounds_toArray, List.set_cons_zero, List.set_cons_succ])
    | (refine plan_load (v := ?_) (by rfl) (fun w1 hw1 => ?_) ?_
       rotate_left
       · (have qf := HF0.out w1 (below_at HB3.out hw1)
          obtain ⟨c3, c2, t0, ccode, sl, tl, gl, ⟨i0, i1, i2, i3⟩, il⟩ := qf
          clear hw1
          go_simp <;> with_reducible rfl)
       simp only [Act.put, List.setIfInBounds_toArray, List.set_cons_zero, List.set_cons_succ]))
  obtain ⟨Wg, hWg, ⟨y0, y1, y2, y3⟩, hmg⟩ := in4_exit HYK.out (.int .i64 k) (.int .i64 (q : Int)) (.int .i64 (m : Int)) (.int .i64 im)
  obtain ⟨⟨b0, b1, b2, b3⟩, el, g0, g1, g2', g3⟩ := in4_cells HYK.out
  refine plan_last ?_
  go_wp2_with fail
  repeat (first
    | (refine plan_pure (v := ?_) (by rfl) (fun w1 => ?_) ?_
       rotate_left
       · go_simp <;> with_reducible rfl
       simp only [Act.put, List.setIfInBounds_toArray, List.set_cons_zero, List.set_cons_succ])
    | (refine plan_off (by rfl) ?_
       simp only [Act.put, List.setIfInBounds_toArray, List.set_cons_zero, List.set_cons_succ])
    | (refine plan_load_off (by rfl) ?_
       simp only [Act.put, List.setIfInBounds_toArray, List.set_cons_zero, List.set_cons_succ])
    | (refine plan_load (v := ?_) (by rfl) (fun w1 hw1 => ?_) ?_
       rotate_left
       · (skip
          clear hw1
          go_simp <;> with_reducible rfl)
       simp only [Act.put, List.setIfInBounds_toArray, List.set_cons_zero, List.set_cons_succ]))
  refine plan_end ?_
  rw [← hWg]
  have hbg : Below w3.heap.size w3 Wg := HBF.out.trans (hmg.below _ HBF.out.size (fun k hk e => by have := HYW.out; omega))
  have hYg : Wg.heap[Y]? = some (.cells #[.int .i64 k, .int .i64 (q : Int), .int .i64 (m : Int), .int .i64 im] 98 (0, 0)) := by
    rw [hWg, set_blk (set_blk (set_blk (set_blk HYK.out 0 _) 1 _) 2 _) 3 _]; simp
  have hSg := HS.out.below (below_at HB3.out hbg)
  have HBG := Lib.hid hbg
  have HYG := Lib.hid hYg
  have HSG := Lib.hid hSg
  clear hWg y0 y1 y2 y3 hmg b0 b1 b2 b3 el g0 g1 g2' g3 hbg hYg hSg
  -- what lies behind the threads' and the state's blocks stays
  have hfin : ∀ u, Mod (fun k => k = S ∨ k = T) Wg u → u.heap[X]? = some (.cells #[.int .i64 0, .int .i64 0, .int .i64 0, .bool false] 51 (0, 0)) ∧ ((u.cell? ⟨Z, 0, none⟩ = some (.int .i64 et) ∧ u.cell? ⟨Z, 1, none⟩ = some (.int .i64 ek) ∧ u.cell? ⟨Z, 2, none⟩ = some (.int .i64 eo) ∧ u.cell? ⟨Z, 3, none⟩ = some (.bool ef)) ∧ Z < u.heap.size) ∧ u.heap[Y]? = some (.cells #[.int .i64 k, .int .i64 (q : Int), .int .i64 (m : Int), .int .i64 im] 98 (0, 0)) ∧ Mod (fun k => k = S ∨ k = T) w u := fun u hu => by
    have h1 := HSTL.out.1
    have h2 := HSTL.out.2
    have h3 := HXW.out
    have h4 := HZW.out
    have h5 := HYW.out
    have h6 := HB.out.size
    have h7 := blk_lt HXK.out
    have h8 := HB3.out.size
    have h9 := HBG.out.size
    have h10 := HZL.out
    have h11 := HZ3.out.size
    have h12 := blk_lt HYG.out
    have h13 := hu.size
    have hZF : ¬ (Z = S ∨ Z = T) := by omega
    have hXF : ¬ (X = S ∨ X = T) := by omega
    have hYF : ¬ (Y = S ∨ Y = T) := by omega
    obtain ⟨⟨z0, z1, z2, z3⟩, zl⟩ := HZE.out Wg (below_at HZ3.out HBG.out)
    simp only [Nat.zero_add] at z1 z2 z3
    refine ⟨(hu.block X (by omega) hXF).trans (((below_at HB3.out HBG.out).block X h7).trans HXK.out), ⟨⟨(hu.cell Z 0 zl hZF).trans z0, (hu.cell Z 1 zl hZF).trans z1, (hu.cell Z 2 zl hZF).trans z2, (hu.cell Z 3 zl hZF).trans z3⟩, by omega⟩, (hu.block Y h12 hYF).trans HYG.out, (Mod.of_below_size (below_at (below_at HB.out HB3.out) HBG.out) _).trans hu⟩
  have HFIN := Lib.hid hfin
  clear hfin
  obtain ⟨t0, t1, _⟩ := HSG.out.thread t x HX.out
  rw [HFF.out] at t1
  have sl := HSG.out.lt.1
  have tl := HSG.out.lt.2
  have f1 := HSG.out.free.2 (o + t * 4 + 1)
  obtain ⟨hs3, hm3⟩ := HSG.out.set_fuel HX.out f
  have HS3 := Lib.hid hs3
  have HM3 := Lib.hid hm3
  clear hs3 hm3
  go_upto_region 11 with fail
  have e1 : wrap64 (f : Int) = (f : Int) := IntWalk.wrap64_in _ (by omega)
  try rw [e1]
  obtain ⟨W3, hW3⟩ : ∃ W3, W3 = Wg.setCell ⟨T, o + t * 4 + 1, none⟩ (.int .i64 (f : Int)) := ⟨_, rfl⟩
  rw [← hW3] at HS3 HM3 ⊢
  clear hW3 t0 t1 sl tl f1 e1
  have hx3 : (s.th.set t { x with fuel := f })[t]? = some ⟨x.pc, f, x.r⟩ := by rw [List.getElem?_set_self (List.getElem?_eq_some_iff.1 HX.out).1]
  obtain ⟨t0, t1, _⟩ := HS3.out.thread t _ hx3
  have sl := HS3.out.lt.1
  have tl := HS3.out.lt.2
  have f1 := HS3.out.free.2 (o + t * 4)
  obtain ⟨hs4, hm4⟩ := HS3.out.set_pc hx3 (x.pc + 1)
  simp only [List.set_set] at hs4
  rw [show ((x.pc + 1 : Nat) : Int) = (x.pc : Int) + 1 by omega] at hs4 hm4
  have HS4 := Lib.hid hs4
  have HM4 := Lib.hid hm4
  clear hs4 hm4 hx3
  go_upto_block 0 with fail
  have e1 : wrap64 ((x.pc : Int) + 1) = (x.pc : Int) + 1 := IntWalk.wrap64_in _ (by omega)
  try rw [e1]
  obtain ⟨W4, hW4⟩ : ∃ W4, W4 = W3.setCell ⟨T, o + t * 4, none⟩ (.int .i64 ((x.pc : Int) + 1)) := ⟨_, rfl⟩
  rw [← hW4] at HS4 HM4 ⊢
  clear hW4 t0 t1 sl tl f1 e1
  have hx4 : (s.th.set t ⟨x.pc + 1, f, x.r⟩)[t]? = some ⟨x.pc + 1, f, x.r⟩ := by rw [List.getElem?_set_self (List.getElem?_eq_some_iff.1 HX.out).1]
  have hmg4 : Mod (fun k => k = S ∨ k = T) Wg W4 := (HM3.out.trans HM4.out).mono (fun k _ e => .inr e)
  have hyd : ∀ u, Mod (fun k => k = S ∨ k = T) W4 u → (u.cell? ⟨Y, 0, none⟩ = some (.int .i64 k) ∧ u.cell? ⟨Y, 1, none⟩ = some (.int .i64 (q : Int)) ∧ u.cell? ⟨Y, 2, none⟩ = some (.int .i64 (m : Int)) ∧ u.cell? ⟨Y, 3, none⟩ = some (.int .i64 im)) ∧ Y < u.heap.size ∧ (u.cell? ⟨Z, 0, none⟩ = some (.int .i64 et) ∧ u.cell? ⟨Z, 1, none⟩ = some (.int .i64 ek) ∧ u.cell? ⟨Z, 2, none⟩ = some (.int .i64 eo) ∧ u.cell? ⟨Z, 3, none⟩ = some (.bool ef)) ∧ Z < u.heap.size := fun u hu => by
    obtain ⟨_, hz, hy, _⟩ := HFIN.out u (hmg4.trans hu)
    exact ⟨(in4_cells hy).1, blk_lt hy, hz⟩
  have HYD := Lib.hid hyd
  have HMG4 := Lib.hid hmg4
  have HX4 := Lib.hid hx4
  have hev : Pr.evOf s t ⟨k, (q : Int), (m : Int), im⟩ = ⟨et, ek, eo, ef⟩ := HEE.out.symm
  have HEV := Lib.hid hev
  clear hyd hmg4 hx4 HS3 HM3 HM4 HSG HEE hev hpc8
  have kq0 : (0 : Int) ≤ (q : Int) := Int.natCast_nonneg _
  have kq2 : (q : Int) < 2 := by omega
  have km0 : (0 : Int) ≤ (m : Int) := Int.natCast_nonneg _
  rcases (show k = 1 ∨ k = 2 ∨ k = 3 ∨ k = 4 ∨ k = 5 ∨ k = 6 ∨ k = 7 ∨ k = 8 by omega) with rfl | rfl | rfl | rfl | rfl | rfl | rfl | rfl
  · have hm4 : m < 4 := HMV.out (by omega)
    have km4 : (m : Int) < 4 := by omega
    obtain ⟨⟨a0, a1, a2, a3⟩, yl, ⟨b0, b1, b2, b3⟩, zl⟩ := HYD.out W4 (Mod.refl _ _)
    go_upto_region 13 with fail
    clear a0 a1 a2 a3 yl b0 b1 b2 b3 zl
    refine wp_region_planF (by kernel_rfl) (fun u => Below W4.heap.size W4 u) [13] [(0, .pure), (1, .pure), (2, .load), (3, .pure), (4, .pure), (5, .load), (6, .pure), (7, .pure), (8, .pure), (9, .load), (10, .pure), (11, .pure), (12, .pure), (13, .last)] (by simp only [List.map_cons, List.map_nil, List.getElem?_toArray, List.getElem?_cons_succ, List.getElem?_cons_zero]; rfl) (by kernel_rfl) (fun _ _ d _ _ h => by cases d <;> exact h) ((Below.refl _ _).drew) ?_
    obtain ⟨Wd, hWd⟩ : ∃ z, z = W4.drew := ⟨_, rfl⟩
    rw [← hWd]
    have hbd : Below W4.heap.size W4 Wd := by rw [hWd]; exact (Below.refl _ _).drew
    have HBD := Lib.hid hbd
    clear hWd hbd
    repeat (first
      | (refine plan_pure (v := ?_) (by rfl) (fun w1 => ?_) ?_
         rotate_left
         · go_simp <;> with_reducible rfl
         simp only [Act.put, List.setIfInBounds_toArray, List.set_cons_zero, List.set_cons_succ])
      | (refine plan_off (by rfl) ?_
         simp only [Act.put, List.setIfInBounds_toArray, List.set_cons_zero, List.set_cons_succ])
      | (refine plan_load_off (by rfl) ?_
         simp only [Act.put, List.setIfInBounds_toArray, List.set_cons_zero, List.set_cons_succ])
      | (refine plan_load (v := ?_) (by rfl) (fun w1 hw1 => ?_) ?_
         rotate_left
         · (have qy := HYD.out w1 (Mod.of_below_size hw1 _)
            obtain ⟨⟨a0, a1, a2, a3⟩, yl, ⟨b0, b1, b2, b3⟩, zl⟩ := qy
            have hq := HS4.out.below hw1
            obtain ⟨PA, pc', tc', _, _, _, z3', zv, zh, _⟩ := hq.cells
            have r1 := (hq.thread t _ HX4.out).2.2 q hq2
            have ql := hq.lt.2
            have qs := hq.lt.1
            have c1 := zv m hm4
            clear hq zv zh
            clear hw1
            go_simp <;> with_reducible rfl)
         simp only [Act.put, List.setIfInBounds_toArray, List.set_cons_zero, List.set_cons_succ]))
    have hSd := HS4.out.below HBD.out
    obtain ⟨hs, hm⟩ := hSd.set_r HX4.out hq2 (s.v m)
    have HSS := Lib.hid hs
    have HMM9 := Lib.hid hm
    have t1 := (hSd.thread t _ HX4.out).2.2 q hq2
    have f1 := hSd.free.2 (o + t * 4 + 2 + q)
    have tl := hSd.lt.2
    have sl := hSd.lt.1
    clear hSd hs hm
    refine plan_last ?_
    go_wp2_with fail
    repeat (first
      | (refine plan_pure (v := ?_) (by rfl) (fun w1 => ?_) ?_
         rotate_left
         · go_simp <;> with_reducible rfl
         simp only [Act.put, List.setIfInBounds_toArray, List.set_cons_zero, List.set_cons_succ])
      | (refine plan_off (by rfl) ?_
         simp only [Act.put, List.setIfInBounds_toArray, List.set_cons_zero, List.set_cons_succ])
      | (refine plan_load_off (by rfl) ?_
         simp only [Act.put, List.setIfInBounds_toArray, List.set_cons_zero, List.set_cons_succ])
      | (refine plan_load (v := ?_) (by rfl) (fun w1 hw1 => ?_) ?_
         rotate_left
         · (skip
            clear hw1
            go_simp <;> with_reducible rfl)
         simp only [Act.put, List.setIfInBounds_toArray, List.set_cons_zero, List.set_cons_succ]))
    refine plan_end ?_
    obtain ⟨W9, hW9⟩ : ∃ z, z = Wd.setCell ⟨T, o + t * 4 + 2 + q, none⟩ (.int .i64 (s.v m)) := ⟨_, rfl⟩
    rw [← hW9] at HSS HMM9 ⊢
    have HM9 : Hid (Mod (fun k => k = S ∨ k = T) W4 W9) := Lib.hid (((Mod.of_below HBD.out).mono (fun k hk e => by have := HBD.out.size; omega)).trans (HMM9.out.mono (fun k _ e => Or.inr e)))
    clear hW9 tl sl HMM9
    obtain ⟨hX5, ⟨⟨z0, z1, z2, z3⟩, zl⟩, _, hmw⟩ := HFIN.out W9 (HMG4.out.trans HM9.out)
    obtain ⟨V2, hV2, ⟨d0, d1', d2, d3⟩, hmv⟩ := in4_exit hX5 (.int .i64 et) (.int .i64 ek) (.int .i64 eo) (.bool ef)
    obtain ⟨⟨e0, e1', e2, e3⟩, el, g0, g1, g2', g3⟩ := in4_cells hX5
    have HMW := Lib.hid hmw
    have HV2 := Lib.hid hV2
    have HMX := Lib.hid hmv
    clear hV2 hmv hX5 hmw
    go_wp2_with fail
    rw [← HV2.out]
    refine bodyPost_ret (v := .tuple #[.agg #[.int .i64 et, .int .i64 ek, .int .i64 eo, .bool ef], .int .i64 0]) (by simp [results, Tryz.results88, go_sem, d0, d1', d2, d3]) rfl ?_
    have hXF : ¬ (X = S ∨ X = T) := by have := HSTL.out; have := HXW.out; omega
    refine ⟨rfl, by rw [HST.out, Pr.deed1]; exact HSS.out.mod HMX.out (fun k hk e => by have := HCC.out k hk; have := HXW.out; omega) (fun e => hXF (.inl e.symm)) (fun e => hXF (.inr e.symm)), ?_⟩
    exact HMW.out.then (HMX.out.mono (G := fun k => k = X) (fun k _ e => e)) (fun k hk e => by have := HXW.out; omega)
  · have hm4 : m < 4 := HMV.out (by omega)
    have km4 : (m : Int) < 4 := by omega
    obtain ⟨⟨a0, a1, a2, a3⟩, yl, ⟨b0, b1, b2, b3⟩, zl⟩ := HYD.out W4 (Mod.refl _ _)
    go_upto_region 15 with fail
    clear a0 a1 a2 a3 yl b0 b1 b2 b3 zl
    refine wp_region_planF (by kernel_rfl) (fun u => Below W4.heap.size W4 u) [13] [(0, .pure), (1, .pure), (2, .load), (3, .pure), (4, .pure), (5, .load), (6, .pure), (7, .pure), (8, .pure), (9, .load), (10, .pure), (11, .pure), (12, .pure), (13, .last)] (by simp only [List.map_cons, List.map_nil, List.getElem?_toArray, List.getElem?_cons_succ, List.getElem?_cons_zero]; rfl) (by kernel_rfl) (fun _ _ d _ _ h => by cases d <;> exact h) ((Below.refl _ _).drew) ?_
    obtain ⟨Wd, hWd⟩ : ∃ z, z = W4.drew := ⟨_, rfl⟩
    rw [← hWd]
    have hbd : Below W4.heap.size W4 Wd := by rw [hWd]; exact (Below.refl _ _).drew
    have HBD := Lib.hid hbd
    clear hWd hbd
    repeat (first
      | (refine plan_pure (v := ?_) (by rfl) (fun w1 => ?_) ?_
         rotate_left
         · go_simp <;> with_reducible rfl
         simp only [Act.put, List.setIfInBounds_toArray, List.set_cons_zero, List.set_cons_succ])
      | (refine plan_off (by rfl) ?_
         simp only [Act.put, List.setIfInBounds_toArray, List.set_cons_zero, List.set_cons_succ])
      | (refine plan_load_off (by rfl) ?_
         simp only [Act.put, List.setIfInBounds_toArray, List.set_cons_zero, List.set_cons_succ])
      | (refine plan_load (v := ?_) (by rfl) (fun w1 hw1 => ?_) ?_
         rotate_left
         · (have qy := HYD.out w1 (Mod.of_below_size hw1 _)
            obtain ⟨⟨a0, a1, a2, a3⟩, yl, ⟨b0, b1, b2, b3⟩, zl⟩ := qy
            have hq := HS4.out.below hw1
            obtain ⟨PA, pc', tc', _, _, _, z3', zv, zh, _⟩ := hq.cells
            have r1 := (hq.thread t _ HX4.out).2.2 q hq2
            have ql := hq.lt.2
            have qs := hq.lt.1
            have c1 := zv m hm4
            clear hq zv zh
            clear hw1
            go_simp <;> with_reducible rfl)
         simp only [Act.put, List.setIfInBounds_toArray, List.set_cons_zero, List.set_cons_succ]))
    have hSd := HS4.out.below HBD.out
    obtain ⟨hs, hm⟩ := hSd.set_v hm4 (x.r q)
    have HSS := Lib.hid hs
    have HMM9 := Lib.hid hm
    obtain ⟨PA, pc', tc', _, _, _, _, zv, _, _⟩ := hSd.cells
    have c1 := zv m hm4
    have f1 := hSd.free.1 (4 + m)
    clear zv
    have tl := hSd.lt.2
    have sl := hSd.lt.1
    clear hSd hs hm
    refine plan_last ?_
    go_wp2_with fail
    repeat (first
      | (refine plan_pure (v := ?_) (by rfl) (fun w1 => ?_) ?_
         rotate_left
         · go_simp <;> with_reducible rfl
         simp only [Act.put, List.setIfInBounds_toArray, List.set_cons_zero, List.set_cons_succ])
      | (refine plan_off (by rfl) ?_
         simp only [Act.put, List.setIfInBounds_toArray, List.set_cons_zero, List.set_cons_succ])
      | (refine plan_load_off (by rfl) ?_
         simp only [Act.put, List.setIfInBounds_toArray, List.set_cons_zero, List.set_cons_succ])
      | (refine plan_load (v := ?_) (by rfl) (fun w1 hw1 => ?_) ?_
         rotate_left
         · (skip
            clear hw1
            go_simp <;> with_reducible rfl)
         simp only [Act.put, List.setIfInBounds_toArray, List.set_cons_zero, List.set_cons_succ]))
    refine plan_end ?_
    obtain ⟨W9, hW9⟩ : ∃ z, z = Wd.setCell ⟨S, 4 + m, none⟩ (.int .i64 (x.r q)) := ⟨_, rfl⟩
    rw [← hW9] at HSS HMM9 ⊢
    have HM9 : Hid (Mod (fun k => k = S ∨ k = T) W4 W9) := Lib.hid (((Mod.of_below HBD.out).mono (fun k hk e => by have := HBD.out.size; omega)).trans (HMM9.out.mono (fun k _ e => Or.inl e)))
    clear hW9 tl sl HMM9
    obtain ⟨hX5, ⟨⟨z0, z1, z2, z3⟩, zl⟩, _, hmw⟩ := HFIN.out W9 (HMG4.out.trans HM9.out)
    obtain ⟨V2, hV2, ⟨d0, d1', d2, d3⟩, hmv⟩ := in4_exit hX5 (.int .i64 et) (.int .i64 ek) (.int .i64 eo) (.bool ef)
    obtain ⟨⟨e0, e1', e2, e3⟩, el, g0, g1, g2', g3⟩ := in4_cells hX5
    have HMW := Lib.hid hmw
    have HV2 := Lib.hid hV2
    have HMX := Lib.hid hmv
    clear hV2 hmv hX5 hmw
    go_wp2_with fail
    rw [← HV2.out]
    refine bodyPost_ret (v := .tuple #[.agg #[.int .i64 et, .int .i64 ek, .int .i64 eo, .bool ef], .int .i64 0]) (by simp [results, Tryz.results88, go_sem, d0, d1', d2, d3]) rfl ?_
    have hXF : ¬ (X = S ∨ X = T) := by have := HSTL.out; have := HXW.out; omega
    refine ⟨rfl, by rw [HST.out, Pr.deed2]; exact HSS.out.mod HMX.out (fun k hk e => by have := HCC.out k hk; have := HXW.out; omega) (fun e => hXF (.inl e.symm)) (fun e => hXF (.inr e.symm)), ?_⟩
    exact HMW.out.then (HMX.out.mono (G := fun k => k = X) (fun k _ e => e)) (fun k hk e => by have := HXW.out; omega)
  · obtain ⟨⟨a0, a1, a2, a3⟩, yl, ⟨b0, b1, b2, b3⟩, zl⟩ := HYD.out W4 (Mod.refl _ _)
    go_upto_region 17 with fail
    clear a0 a1 a2 a3 yl b0 b1 b2 b3 zl
    refine wp_region_planF (by kernel_rfl) (fun u => Below W4.heap.size W4 u) [8] [(0, .pure), (1, .pure), (2, .load), (3, .pure), (4, .load), (5, .pure), (6, .pure), (7, .pure), (8, .last)] (by simp only [List.map_cons, List.map_nil, List.getElem?_toArray, List.getElem?_cons_succ, List.getElem?_cons_zero]; rfl) (by kernel_rfl) (fun _ _ d _ _ h => by cases d <;> exact h) ((Below.refl _ _).drew) ?_
    obtain ⟨Wd, hWd⟩ : ∃ z, z = W4.drew := ⟨_, rfl⟩
    rw [← hWd]
    have hbd : Below W4.heap.size W4 Wd := by rw [hWd]; exact (Below.refl _ _).drew
    have HBD := Lib.hid hbd
    clear hWd hbd
    repeat (first
      | (refine plan_pure (v := ?_) (by rfl) (fun w1 => ?_) ?_
         rotate_left
         · go_simp <;> with_reducible rfl
         simp only [Act.put, List.setIfInBounds_toArray, List.set_cons_zero, List.set_cons_succ])
      | (refine plan_off (by rfl) ?_
         simp only [Act.put, List.setIfInBounds_toArray, List.set_cons_zero, List.set_cons_succ])
      | (refine plan_load_off (by rfl) ?_
         simp only [Act.put, List.setIfInBounds_toArray, List.set_cons_zero, List.set_cons_succ])
      | (refine plan_load (v := ?_) (by rfl) (fun w1 hw1 => ?_) ?_
         rotate_left
         · (have qy := HYD.out w1 (Mod.of_below_size hw1 _)
            obtain ⟨⟨a0, a1, a2, a3⟩, yl, ⟨b0, b1, b2, b3⟩, zl⟩ := qy
            have hq := HS4.out.below hw1
            obtain ⟨PA, pc', tc', _, _, _, z3', zv, zh, _⟩ := hq.cells
            have r1 := (hq.thread t _ HX4.out).2.2 q hq2
            have ql := hq.lt.2
            have qs := hq.lt.1
            clear hq zv zh
            clear hw1
            go_simp <;> with_reducible rfl)
         simp only [Act.put, List.setIfInBounds_toArray, List.set_cons_zero, List.set_cons_succ]))
    have hSd := HS4.out.below HBD.out
    obtain ⟨hs, hm⟩ := hSd.set_r HX4.out hq2 im
    have HSS := Lib.hid hs
    have HMM9 := Lib.hid hm
    have t1 := (hSd.thread t _ HX4.out).2.2 q hq2
    have f1 := hSd.free.2 (o + t * 4 + 2 + q)
    have tl := hSd.lt.2
    have sl := hSd.lt.1
    clear hSd hs hm
    refine plan_last ?_
    go_wp2_with fail
    repeat (first
      | (refine plan_pure (v := ?_) (by rfl) (fun w1 => ?_) ?_
         rotate_left
         · go_simp <;> with_reducible rfl
         simp only [Act.put, List.setIfInBounds_toArray, List.set_cons_zero, List.set_cons_succ])
      | (refine plan_off (by rfl) ?_
         simp only [Act.put, List.setIfInBounds_toArray, List.set_cons_zero, List.set_cons_succ])
      | (refine plan_load_off (by rfl) ?_
         simp only [Act.put, List.setIfInBounds_toArray, List.set_cons_zero, List.set_cons_succ])
      | (refine plan_load (v := ?_) (by rfl) (fun w1 hw1 => ?_) ?_
         rotate_left
         · (skip
            clear hw1
            go_simp <;> with_reducible rfl)
         simp only [Act.put, List.setIfInBounds_toArray, List.set_cons_zero, List.set_cons_succ]))
    refine plan_end ?_
    obtain ⟨W9, hW9⟩ : ∃ z, z = Wd.setCell ⟨T, o + t * 4 + 2 + q, none⟩ (.int .i64 im) := ⟨_, rfl⟩
    rw [← hW9] at HSS HMM9 ⊢
    have HM9 : Hid (Mod (fun k => k = S ∨ k = T) W4 W9) := Lib.hid (((Mod.of_below HBD.out).mono (fun k hk e => by have := HBD.out.size; omega)).trans (HMM9.out.mono (fun k _ e => Or.inr e)))
    clear hW9 tl sl HMM9
    obtain ⟨hX5, ⟨⟨z0, z1, z2, z3⟩, zl⟩, _, hmw⟩ := HFIN.out W9 (HMG4.out.trans HM9.out)
    obtain ⟨V2, hV2, ⟨d0, d1', d2, d3⟩, hmv⟩ := in4_exit hX5 (.int .i64 et) (.int .i64 ek) (.int .i64 eo) (.bool ef)
    obtain ⟨⟨e0, e1', e2, e3⟩, el, g0, g1, g2', g3⟩ := in4_cells hX5
    have HMW := Lib.hid hmw
    have HV2 := Lib.hid hV2
    have HMX := Lib.hid hmv
    clear hV2 hmv hX5 hmw
    go_wp2_with fail
    rw [← HV2.out]
    refine bodyPost_ret (v := .tuple #[.agg #[.int .i64 et, .int .i64 ek, .int .i64 eo, .bool ef], .int .i64 0]) (by simp [results, Tryz.results88, go_sem, d0, d1', d2, d3]) rfl ?_
    have hXF : ¬ (X = S ∨ X = T) := by have := HSTL.out; have := HXW.out; omega
    refine ⟨rfl, by rw [HST.out, Pr.deed3]; exact HSS.out.mod HMX.out (fun k hk e => by have := HCC.out k hk; have := HXW.out; omega) (fun e => hXF (.inl e.symm)) (fun e => hXF (.inr e.symm)), ?_⟩
    exact HMW.out.then (HMX.out.mono (G := fun k => k = X) (fun k _ e => e)) (fun k hk e => by have := HXW.out; omega)
  · obtain ⟨⟨a0, a1, a2, a3⟩, yl, ⟨b0, b1, b2, b3⟩, zl⟩ := HYD.out W4 (Mod.refl _ _)
    go_upto_region 19 with fail
    clear a0 a1 a2 a3 yl b0 b1 b2 b3 zl
    refine wp_region_planF (by kernel_rfl) (fun u => Below W4.heap.size W4 u) [13] [(0, .pure), (1, .pure), (2, .load), (3, .pure), (4, .pure), (5, .pure), (6, .load), (7, .pure), (8, .load), (9, .pure), (10, .pure), (11, .pure), (12, .pure), (13, .last)] (by simp only [List.map_cons, List.map_nil, List.getElem?_toArray, List.getElem?_cons_succ, List.getElem?_cons_zero]; rfl) (by kernel_rfl) (fun _ _ d _ _ h => by cases d <;> exact h) ((Below.refl _ _).drew) ?_
    obtain ⟨Wd, hWd⟩ : ∃ z, z = W4.drew := ⟨_, rfl⟩
    rw [← hWd]
    have hbd : Below W4.heap.size W4 Wd := by rw [hWd]; exact (Below.refl _ _).drew
    have HBD := Lib.hid hbd
    clear hWd hbd
    repeat (first
      | (refine plan_pure (v := ?_) (by rfl) (fun w1 => ?_) ?_
         rotate_left
         · go_simp <;> with_reducible rfl
         simp only [Act.put, List.setIfInBounds_toArray, List.set_cons_zero, List.set_cons_succ])
      | (refine plan_off (by rfl) ?_
         simp only [Act.put, List.setIfInBounds_toArray, List.set_cons_zero, List.set_cons_succ])
      | (refine plan_load_off (by rfl) ?_
         simp only [Act.put, List.setIfInBounds_toArray, List.set_cons_zero, List.set_cons_succ])
      | (refine plan_load (v := ?_) (by rfl) (fun w1 hw1 => ?_) ?_
         rotate_left
         · (have qy := HYD.out w1 (Mod.of_below_size hw1 _)
            obtain ⟨⟨a0, a1, a2, a3⟩, yl, ⟨b0, b1, b2, b3⟩, zl⟩ := qy
            have hq := HS4.out.below hw1
            obtain ⟨PA, pc', tc', _, _, _, z3', zv, zh, _⟩ := hq.cells
            have r1 := (hq.thread t _ HX4.out).2.2 q hq2
            have ql := hq.lt.2
            have qs := hq.lt.1
            clear hq zv zh
            clear hw1
            go_simp <;> with_reducible rfl)
         simp only [Act.put, List.setIfInBounds_toArray, List.set_cons_zero, List.set_cons_succ]))
    have hSd := HS4.out.below HBD.out
    obtain ⟨hs, hm⟩ := hSd.set_r HX4.out hq2 (wrap64 (x.r q + im))
    have HSS := Lib.hid hs
    have HMM9 := Lib.hid hm
    have t1 := (hSd.thread t _ HX4.out).2.2 q hq2
    have f1 := hSd.free.2 (o + t * 4 + 2 + q)
    have tl := hSd.lt.2
    have sl := hSd.lt.1
    clear hSd hs hm
    refine plan_last ?_
    go_wp2_with fail
    repeat (first
      | (refine plan_pure (v := ?_) (by rfl) (fun w1 => ?_) ?_
         rotate_left
         · go_simp <;> with_reducible rfl
         simp only [Act.put, List.setIfInBounds_toArray, List.set_cons_zero, List.set_cons_succ])
      | (refine plan_off (by rfl) ?_
         simp only [Act.put, List.setIfInBounds_toArray, List.set_cons_zero, List.set_cons_succ])
      | (refine plan_load_off (by rfl) ?_
         simp only [Act.put, List.setIfInBounds_toArray, List.set_cons_zero, List.set_cons_succ])
      | (refine plan_load (v := ?_) (by rfl) (fun w1 hw1 => ?_) ?_
         rotate_left
         · (skip
            clear hw1
            go_simp <;> with_reducible rfl)
         simp only [Act.put, List.setIfInBounds_toArray, List.set_cons_zero, List.set_cons_succ]))
    refine plan_end ?_
    obtain ⟨W9, hW9⟩ : ∃ z, z = Wd.setCell ⟨T, o + t * 4 + 2 + q, none⟩ (.int .i64 (wrap64 (x.r q + im))) := ⟨_, rfl⟩
    rw [← hW9] at HSS HMM9 ⊢
    have HM9 : Hid (Mod (fun k => k = S ∨ k = T) W4 W9) := Lib.hid (((Mod.of_below HBD.out).mono (fun k hk e => by have := HBD.out.size; omega)).trans (HMM9.out.mono (fun k _ e => Or.inr e)))
    clear hW9 tl sl HMM9
    obtain ⟨hX5, ⟨⟨z0, z1, z2, z3⟩, zl⟩, _, hmw⟩ := HFIN.out W9 (HMG4.out.trans HM9.out)
    obtain ⟨V2, hV2, ⟨d0, d1', d2, d3⟩, hmv⟩ := in4_exit hX5 (.int .i64 et) (.int .i64 ek) (.int .i64 eo) (.bool ef)
    obtain ⟨⟨e0, e1', e2, e3⟩, el, g0, g1, g2', g3⟩ := in4_cells hX5
    have HMW := Lib.hid hmw
    have HV2 := Lib.hid hV2
    have HMX := Lib.hid hmv
    clear hV2 hmv hX5 hmw
    go_wp2_with fail
    rw [← HV2.out]
    refine bodyPost_ret (v := .tuple #[.agg #[.int .i64 et, .int .i64 ek, .int .i64 eo, .bool ef], .int .i64 0]) (by simp [results, Tryz.results88, go_sem, d0, d1', d2, d3]) rfl ?_
    have hXF : ¬ (X = S ∨ X = T) := by have := HSTL.out; have := HXW.out; omega
    refine ⟨rfl, by rw [HST.out, Pr.deed4]; exact HSS.out.mod HMX.out (fun k hk e => by have := HCC.out k hk; have := HXW.out; omega) (fun e => hXF (.inl e.symm)) (fun e => hXF (.inr e.symm)), ?_⟩
    exact HMW.out.then (HMX.out.mono (G := fun k => k = X) (fun k _ e => e)) (fun k hk e => by have := HXW.out; omega)
  · have hm4 : m < 2 := HMM.out (by omega)
    have km4 : (m : Int) < 2 := by omega
    have hE : Pr.evOf s t ⟨5, (q : Int), (m : Int), im⟩ = ⟨(t : Int), 4, (m : Int), false⟩ := by simp [Pr.evOf]
    rw [HEV.out] at hE
    injection hE with g1 g2 g3 g4
    subst g1 g2 g3 g4
    have HK7 := Lib.hid trivial
    obtain ⟨⟨a0, a1, a2, a3⟩, yl, ⟨b0, b1, b2, b3⟩, zl⟩ := HYD.out W4 (Mod.refl _ _)
    go_upto_region 20 with fail
    clear a0 a1 a2 a3 yl b0 b1 b2 b3 zl
    refine wp_region_planF (by kernel_rfl) (fun u => Below W4.heap.size W4 u) [] [(0, .pure), (1, .load), (2, .pure), (3, .pure), (4, .pure), (5, .pure), (6, .load), (7, .pure), (8, .pure), (9, .pure), (10, .load), (11, .pure), (12, .pure), (13, .pure)] (by simp only [List.map_cons, List.map_nil, List.getElem?_toArray, List.getElem?_cons_succ, List.getElem?_cons_zero]; rfl) (by kernel_rfl) (fun _ _ d _ _ h => by cases d <;> exact h) ((Below.refl _ _).drew) ?_
    obtain ⟨Wd, hWd⟩ : ∃ z, z = W4.drew := ⟨_, rfl⟩
    rw [← hWd]
    have hbd : Below W4.heap.size W4 Wd := by rw [hWd]; exact (Below.refl _ _).drew
    have HBD := Lib.hid hbd
    clear hWd hbd
    repeat (first
      | (refine plan_pure (v := ?_) (by rfl) (fun w1 => ?_) ?_
         rotate_left
         · go_simp <;> with_reducible rfl
         simp only [Act.put, List.setIfInBounds_toArray, List.set_cons_zero, List.set_cons_succ])
      | (refine plan_off (by rfl) ?_
         simp only [Act.put, List.setIfInBounds_toArray, List.set_cons_zero, List.set_cons_succ])
      | (refine plan_load_off (by rfl) ?_
         simp only [Act.put, List.setIfInBounds_toArray, List.set_cons_zero, List.set_cons_succ])
      | (refine plan_load (v := ?_) (by rfl) (fun w1 hw1 => ?_) ?_
         rotate_left
         · (have qy := HYD.out w1 (Mod.of_below_size hw1 _)
            obtain ⟨⟨a0, a1, a2, a3⟩, yl, ⟨b0, b1, b2, b3⟩, zl⟩ := qy
            have hq := HS4.out.below hw1
            obtain ⟨PA, pc', tc', _, _, _, z3', zv, zh, _⟩ := hq.cells
            have r1 := (hq.thread t _ HX4.out).2.2 q hq2
            have ql := hq.lt.2
            have qs := hq.lt.1
            clear hq zv zh
            clear hw1
            go_simp <;> with_reducible rfl)
         simp only [Act.put, List.setIfInBounds_toArray, List.set_cons_zero, List.set_cons_succ]))
    refine plan_end ?_
    obtain ⟨⟨a0, a1, a2, a3⟩, yl, ⟨b0, b1, b2, b3⟩, zl⟩ := HYD.out Wd (Mod.of_below_size HBD.out _)
    go_upto_region 23 with fail
    clear a0 a1 a2 a3 yl b0 b1 b2 b3 zl
    refine wp_region_planF (by kernel_rfl) (fun u => Below W4.heap.size W4 u) [7] [(0, .pure), (1, .pure), (2, .load), (3, .pure), (4, .pure), (5, .pure), (6, .pure), (7, .last)] (by simp only [List.map_cons, List.map_nil, List.getElem?_toArray, List.getElem?_cons_succ, List.getElem?_cons_zero]; rfl) (by kernel_rfl) (fun _ _ d _ _ h => by cases d <;> exact h) (HBD.out.drew) ?_
    obtain ⟨We, hWe⟩ : ∃ z, z = Wd.drew := ⟨_, rfl⟩
    rw [← hWe]
    have hbe : Below W4.heap.size W4 We := by rw [hWe]; exact HBD.out.drew
    have HBE := Lib.hid hbe
    clear hWe hbe
    repeat (first
      | (refine plan_pure (v := ?_) (by rfl) (fun w1 => ?_) ?_
         rotate_left
         · go_simp <;> with_reducible rfl
         simp only [Act.put, List.setIfInBounds_toArray, List.set_cons_zero, List.set_cons_succ])
      | (refine plan_off (by rfl) ?_
         simp only [Act.put, List.setIfInBounds_toArray, List.set_cons_zero, List.set_cons_succ])
      | (refine plan_load_off (by rfl) ?_
         simp only [Act.put, List.setIfInBounds_toArray, List.set_cons_zero, List.set_cons_succ])
      | (refine plan_load (v := ?_) (by rfl) (fun w1 hw1 => ?_) ?_
         rotate_left
         · (have qy := HYD.out w1 (Mod.of_below_size hw1 _)
            obtain ⟨⟨a0, a1, a2, a3⟩, yl, ⟨b0, b1, b2, b3⟩, zl⟩ := qy
            have hq := HS4.out.below hw1
            obtain ⟨PA, pc', tc', _, _, _, z3', zv, zh, _⟩ := hq.cells
            have r1 := (hq.thread t _ HX4.out).2.2 q hq2
            have ql := hq.lt.2
            have qs := hq.lt.1
            have c1 := zh m hm4
            clear hq zv zh
            clear hw1
            go_simp <;> with_reducible rfl)
         simp only [Act.put, List.setIfInBounds_toArray, List.set_cons_zero, List.set_cons_succ]))
    have hSd := HS4.out.below HBE.out
    obtain ⟨hs, hm⟩ := hSd.set_h hm4 (t : Int)
    have HSS := Lib.hid hs
    have HMM9 := Lib.hid hm
    obtain ⟨PA, pc', tc', _, _, _, _, _, zh, _⟩ := hSd.cells
    have c1 := zh m hm4
    have f1 := hSd.free.1 (8 + m)
    clear zh
    have tl := hSd.lt.2
    have sl := hSd.lt.1
    clear hSd hs hm
    refine plan_last ?_
    go_wp2_with fail
    repeat (first
      | (refine plan_pure (v := ?_) (by rfl) (fun w1 => ?_) ?_
         rotate_left
         · go_simp <;> with_reducible rfl
         simp only [Act.put, List.setIfInBounds_toArray, List.set_cons_zero, List.set_cons_succ])
      | (refine plan_off (by rfl) ?_
         simp only [Act.put, List.setIfInBounds_toArray, List.set_cons_zero, List.set_cons_succ])
      | (refine plan_load_off (by rfl) ?_
         simp only [Act.put, List.setIfInBounds_toArray, List.set_cons_zero, List.set_cons_succ])
      | (refine plan_load (v := ?_) (by rfl) (fun w1 hw1 => ?_) ?_
         rotate_left
         · (skip
            clear hw1
            go_simp <;> with_reducible rfl)
         simp only [Act.put, List.setIfInBounds_toArray, List.set_cons_zero, List.set_cons_succ]))
    refine plan_end ?_
    obtain ⟨W9, hW9⟩ : ∃ z, z = We.setCell ⟨S, 8 + m, none⟩ (.int .i64 (t : Int)) := ⟨_, rfl⟩
    rw [← hW9] at HSS HMM9 ⊢
    have HM9 : Hid (Mod (fun k => k = S ∨ k = T) W4 W9) := Lib.hid (((Mod.of_below HBE.out).mono (fun k hk e => by have := HBE.out.size; omega)).trans (HMM9.out.mono (fun k _ e => Or.inl e)))
    clear hW9 tl sl HMM9
    obtain ⟨hX5, ⟨⟨z0, z1, z2, z3⟩, zl⟩, _, hmw⟩ := HFIN.out W9 (HMG4.out.trans HM9.out)
    obtain ⟨V2, hV2, ⟨d0, d1', d2, d3⟩, hmv⟩ := in4_exit hX5 (.int .i64 (t : Int)) (.int .i64 4) (.int .i64 (m : Int)) (.bool false)
    obtain ⟨⟨e0, e1', e2, e3⟩, el, g0, g1, g2', g3⟩ := in4_cells hX5
    have HMW := Lib.hid hmw
    have HV2 := Lib.hid hV2
    have HMX := Lib.hid hmv
    clear hV2 hmv hX5 hmw
    go_wp2_with fail
    rw [← HV2.out]
    refine bodyPost_ret (v := .tuple #[.agg #[.int .i64 (t : Int), .int .i64 4, .int .i64 (m : Int), .bool false], .int .i64 0]) (by simp [results, Tryz.results88, go_sem, d0, d1', d2, d3]) rfl ?_
    have hXF : ¬ (X = S ∨ X = T) := by have := HSTL.out; have := HXW.out; omega
    refine ⟨rfl, by rw [HST.out, Pr.deed5]; exact HSS.out.mod HMX.out (fun k hk e => by have := HCC.out k hk; have := HXW.out; omega) (fun e => hXF (.inl e.symm)) (fun e => hXF (.inr e.symm)), ?_⟩
    exact HMW.out.then (HMX.out.mono (G := fun k => k = X) (fun k _ e => e)) (fun k hk e => by have := HXW.out; omega)
  · have hm4 : m < 2 := HMM.out (by omega)
    have km4 : (m : Int) < 2 := by omega
    by_cases hh : s.h m = (t : Int)
    · have hE : Pr.evOf s t ⟨6, (q : Int), (m : Int), im⟩ = ⟨(t : Int), 5, (m : Int), false⟩ := by simp [Pr.evOf, hh]
      rw [HEV.out] at hE
      injection hE with g1 g2 g3 g4
      subst g1 g2 g3 g4
      have HHH := Lib.hid hh
      clear hh
      have HK7 := Lib.hid trivial
      obtain ⟨⟨a0, a1, a2, a3⟩, yl, ⟨b0, b1, b2, b3⟩, zl⟩ := HYD.out W4 (Mod.refl _ _)
      go_upto_region 20 with fail
      clear a0 a1 a2 a3 yl b0 b1 b2 b3 zl
      refine wp_region_planF (by kernel_rfl) (fun u => Below W4.heap.size W4 u) [] [(0, .pure), (1, .load), (2, .pure), (3, .pure), (4, .pure), (5, .pure), (6, .load), (7, .pure), (8, .pure), (9, .pure), (10, .load), (11, .pure), (12, .pure), (13, .pure)] (by simp only [List.map_cons, List.map_nil, List.getElem?_toArray, List.getElem?_cons_succ, List.getElem?_cons_zero]; rfl) (by kernel_rfl) (fun _ _ d _ _ h => by cases d <;> exact h) ((Below.refl _ _).drew) ?_
      obtain ⟨Wd, hWd⟩ : ∃ z, z = W4.drew := ⟨_, rfl⟩
      rw [← hWd]
      have hbd : Below W4.heap.size W4 Wd := by rw [hWd]; exact (Below.refl _ _).drew
      have HBD := Lib.hid hbd
      clear hWd hbd
      repeat (first
        | (refine plan_pure (v := ?_) (by rfl) (fun w1 => ?_) ?_
           rotate_left
           · go_simp <;> with_reducible rfl
           simp only [Act.put, List.setIfInBounds_toArray, List.set_cons_zero, List.set_cons_succ])
        | (refine plan_off (by rfl) ?_
           simp only [Act.put, List.setIfInBounds_toArray, List.set_cons_zero, List.set_cons_succ])
        | (refine plan_load_off (by rfl) ?_
           simp only [Act.put, List.setIfInBounds_toArray, List.set_cons_zero, List.set_cons_succ])
        | (refine plan_load (v := ?_) (by rfl) (fun w1 hw1 => ?_) ?_
           rotate_left
           · (have qy := HYD.out w1 (Mod.of_below_size hw1 _)
              obtain ⟨⟨a0, a1, a2, a3⟩, yl, ⟨b0, b1, b2, b3⟩, zl⟩ := qy
              have hq := HS4.out.below hw1
              obtain ⟨PA, pc', tc', _, _, _, z3', zv, zh, _⟩ := hq.cells
              have r1 := (hq.thread t _ HX4.out).2.2 q hq2
              have ql := hq.lt.2
              have qs := hq.lt.1
              clear hq zv zh
              clear hw1
              go_simp <;> with_reducible rfl)
           simp only [Act.put, List.setIfInBounds_toArray, List.set_cons_zero, List.set_cons_succ]))
      refine plan_end ?_
      obtain ⟨⟨a0, a1, a2, a3⟩, yl, ⟨b0, b1, b2, b3⟩, zl⟩ := HYD.out Wd (Mod.of_below_size HBD.out _)
      go_upto_region 25 with fail
      clear a0 a1 a2 a3 yl b0 b1 b2 b3 zl
      refine wp_region_planF (by kernel_rfl) (fun u => Below W4.heap.size W4 u) [6] [(0, .pure), (1, .pure), (2, .load), (3, .pure), (4, .pure), (5, .pure), (6, .last)] (by simp only [List.map_cons, List.map_nil, List.getElem?_toArray, List.getElem?_cons_succ, List.getElem?_cons_zero]; rfl) (by kernel_rfl) (fun _ _ d _ _ h => by cases d <;> exact h) (HBD.out.drew) ?_
      obtain ⟨We, hWe⟩ : ∃ z, z = Wd.drew := ⟨_, rfl⟩
      rw [← hWe]
      have hbe : Below W4.heap.size W4 We := by rw [hWe]; exact HBD.out.drew
      have HBE := Lib.hid hbe
      clear hWe hbe
      repeat (first
        | (refine plan_pure (v := ?_) (by rfl) (fun w1 => ?_) ?_
           rotate_left
           · go_simp <;> with_reducible rfl
           simp only [Act.put, List.setIfInBounds_toArray, List.set_cons_zero, List.set_cons_succ])
        | (refine plan_off (by rfl) ?_
           simp only [Act.put, List.setIfInBounds_toArray, List.set_cons_zero, List.set_cons_succ])
        | (refine plan_load_off (by rfl) ?_
           simp only [Act.put, List.setIfInBounds_toArray, List.set_cons_zero, List.set_cons_succ])
        | (refine plan_load (v := ?_) (by rfl) (fun w1 hw1 => ?_) ?_
           rotate_left
           · (have qy := HYD.out w1 (Mod.of_below_size hw1 _)
              obtain ⟨⟨a0, a1, a2, a3⟩, yl, ⟨b0, b1, b2, b3⟩, zl⟩ := qy
              have hq := HS4.out.below hw1
              obtain ⟨PA, pc', tc', _, _, _, z3', zv, zh, _⟩ := hq.cells
              have r1 := (hq.thread t _ HX4.out).2.2 q hq2
              have ql := hq.lt.2
              have qs := hq.lt.1
              have c1 := zh m hm4
              clear hq zv zh
              clear hw1
              go_simp <;> with_reducible rfl)
           simp only [Act.put, List.setIfInBounds_toArray, List.set_cons_zero, List.set_cons_succ]))
      have hSd := HS4.out.below HBE.out
      obtain ⟨hs, hm⟩ := hSd.set_h hm4 (-1)
      have HSS := Lib.hid hs
      have HMM9 := Lib.hid hm
      obtain ⟨PA, pc', tc', _, _, _, _, _, zh, _⟩ := hSd.cells
      have c1 := zh m hm4
      have f1 := hSd.free.1 (8 + m)
      clear zh
      have tl := hSd.lt.2
      have sl := hSd.lt.1
      clear hSd hs hm
      refine plan_last ?_
      go_wp2_with fail
      repeat (first
        | (refine plan_pure (v := ?_) (by rfl) (fun w1 => ?_) ?_
           rotate_left
           · go_simp <;> with_reducible rfl
           simp only [Act.put, List.setIfInBounds_toArray, List.set_cons_zero, List.set_cons_succ])
        | (refine plan_off (by rfl) ?_
           simp only [Act.put, List.setIfInBounds_toArray, List.set_cons_zero, List.set_cons_succ])
        | (refine plan_load_off (by rfl) ?_
           simp only [Act.put, List.setIfInBounds_toArray, List.set_cons_zero, List.set_cons_succ])
        | (refine plan_load (v := ?_) (by rfl) (fun w1 hw1 => ?_) ?_
           rotate_left
           · (skip
              clear hw1
              go_simp <;> with_reducible rfl)
           simp only [Act.put, List.setIfInBounds_toArray, List.set_cons_zero, List.set_cons_succ]))
      refine plan_end ?_
      obtain ⟨W9, hW9⟩ : ∃ z, z = We.setCell ⟨S, 8 + m, none⟩ (.int .i64 (-1)) := ⟨_, rfl⟩
      rw [← hW9] at HSS HMM9 ⊢
      have HM9 : Hid (Mod (fun k => k = S ∨ k = T) W4 W9) := Lib.hid (((Mod.of_below HBE.out).mono (fun k hk e => by have := HBE.out.size; omega)).trans (HMM9.out.mono (fun k _ e => Or.inl e)))
      clear hW9 tl sl HMM9
      obtain ⟨hX5, ⟨⟨z0, z1, z2, z3⟩, zl⟩, _, hmw⟩ := HFIN.out W9 (HMG4.out.trans HM9.out)
      obtain ⟨V2, hV2, ⟨d0, d1', d2, d3⟩, hmv⟩ := in4_exit hX5 (.int .i64 (t : Int)) (.int .i64 5) (.int .i64 (m : Int)) (.bool false)
      obtain ⟨⟨e0, e1', e2, e3⟩, el, g0, g1, g2', g3⟩ := in4_cells hX5
      have HMW := Lib.hid hmw
      have HV2 := Lib.hid hV2
      have HMX := Lib.hid hmv
      clear hV2 hmv hX5 hmw
      go_wp2_with fail
      rw [← HV2.out]
      refine bodyPost_ret (v := .tuple #[.agg #[.int .i64 (t : Int), .int .i64 5, .int .i64 (m : Int), .bool false], .int .i64 0]) (by simp [results, Tryz.results88, go_sem, d0, d1', d2, d3]) rfl ?_
      have hXF : ¬ (X = S ∨ X = T) := by have := HSTL.out; have := HXW.out; omega
      refine ⟨rfl, by rw [HST.out, Pr.deed6, if_pos HHH.out]; exact HSS.out.mod HMX.out (fun k hk e => by have := HCC.out k hk; have := HXW.out; omega) (fun e => hXF (.inl e.symm)) (fun e => hXF (.inr e.symm)), ?_⟩
      exact HMW.out.then (HMX.out.mono (G := fun k => k = X) (fun k _ e => e)) (fun k hk e => by have := HXW.out; omega)
    · have hE : Pr.evOf s t ⟨6, (q : Int), (m : Int), im⟩ = ⟨(t : Int), 1, 0, true⟩ := by simp [Pr.evOf, hh]
      rw [HEV.out] at hE
      injection hE with g1 g2 g3 g4
      subst g1 g2 g3 g4
      have HHH := Lib.hid hh
      clear hh
      have HK7 := Lib.hid trivial
      obtain ⟨⟨a0, a1, a2, a3⟩, yl, ⟨b0, b1, b2, b3⟩, zl⟩ := HYD.out W4 (Mod.refl _ _)
      go_upto_region 20 with fail
      clear a0 a1 a2 a3 yl b0 b1 b2 b3 zl
      refine wp_region_planF (by kernel_rfl) (fun u => Below W4.heap.size W4 u) [] [(0, .pure), (1, .load), (2, .pure), (3, .pure), (4, .pure), (5, .pure), (6, .load), (7, .pure), (8, .pure), (9, .pure), (10, .load), (11, .pure), (12, .pure), (13, .pure)] (by simp only [List.map_cons, List.map_nil, List.getElem?_toArray, List.getElem?_cons_succ, List.getElem?_cons_zero]; rfl) (by kernel_rfl) (fun _ _ d _ _ h => by cases d <;> exact h) ((Below.refl _ _).drew) ?_
      obtain ⟨Wd, hWd⟩ : ∃ z, z = W4.drew := ⟨_, rfl⟩
      rw [← hWd]
      have hbd : Below W4.heap.size W4 Wd := by rw [hWd]; exact (Below.refl _ _).drew
      have HBD := Lib.hid hbd
      clear hWd hbd
      repeat (first
        | (refine plan_pure (v := ?_) (by rfl) (fun w1 => ?_) ?_
           rotate_left
           · go_simp <;> with_reducible rfl
           simp only [Act.put, List.setIfInBounds_toArray, List.set_cons_zero, List.set_cons_succ])
        | (refine plan_off (by rfl) ?_
           simp only [Act.put, List.setIfInBounds_toArray, List.set_cons_zero, List.set_cons_succ])
        | (refine plan_load_off (by rfl) ?_
           simp only [Act.put, List.setIfInBounds_toArray, List.set_cons_zero, List.set_cons_succ])
        | (refine plan_load (v := ?_) (by rfl) (fun w1 hw1 => ?_) ?_
           rotate_left
           · (have qy := HYD.out w1 (Mod.of_below_size hw1 _)
              obtain ⟨⟨a0, a1, a2, a3⟩, yl, ⟨b0, b1, b2, b3⟩, zl⟩ := qy
              have hq := HS4.out.below hw1
              obtain ⟨PA, pc', tc', _, _, _, z3', zv, zh, _⟩ := hq.cells
              have r1 := (hq.thread t _ HX4.out).2.2 q hq2
              have ql := hq.lt.2
              have qs := hq.lt.1
              clear hq zv zh
              clear hw1
              go_simp <;> with_reducible rfl)
           simp only [Act.put, List.setIfInBounds_toArray, List.set_cons_zero, List.set_cons_succ]))
      refine plan_end ?_
      obtain ⟨⟨a0, a1, a2, a3⟩, yl, ⟨b0, b1, b2, b3⟩, zl⟩ := HYD.out Wd (Mod.of_below_size HBD.out _)
      go_upto_region 26 with fail
      clear a0 a1 a2 a3 yl b0 b1 b2 b3 zl
      obtain ⟨W9, hW9⟩ : ∃ z, z = Wd := ⟨_, rfl⟩
      rw [← hW9]
      have HSS : Hid (RAt W9 C S T o { s with th := s.th.set t ⟨x.pc + 1, f, x.r⟩ }) := Lib.hid (by rw [hW9]; exact HS4.out.below HBD.out)
      have HM9 : Hid (Mod (fun k => k = S ∨ k = T) W4 W9) := Lib.hid (by rw [hW9]; exact Mod.of_below_size HBD.out _)
      clear hW9
      obtain ⟨hX5, ⟨⟨z0, z1, z2, z3⟩, zl⟩, _, hmw⟩ := HFIN.out W9 (HMG4.out.trans HM9.out)
      obtain ⟨V2, hV2, ⟨d0, d1', d2, d3⟩, hmv⟩ := in4_exit hX5 (.int .i64 (t : Int)) (.int .i64 1) (.int .i64 0) (.bool true)
      obtain ⟨⟨e0, e1', e2, e3⟩, el, g0, g1, g2', g3⟩ := in4_cells hX5
      have HMW := Lib.hid hmw
      have HV2 := Lib.hid hV2
      have HMX := Lib.hid hmv
      clear hV2 hmv hX5 hmw
      go_wp2_with fail
      rw [← HV2.out]
      refine bodyPost_ret (v := .tuple #[.agg #[.int .i64 (t : Int), .int .i64 1, .int .i64 0, .bool true], .int .i64 0]) (by simp [results, Tryz.results88, go_sem, d0, d1', d2, d3]) rfl ?_
      have hXF : ¬ (X = S ∨ X = T) := by have := HSTL.out; have := HXW.out; omega
      refine ⟨rfl, by rw [HST.out, Pr.deed6, if_neg HHH.out]; exact HSS.out.mod HMX.out (fun k hk e => by have := HCC.out k hk; have := HXW.out; omega) (fun e => hXF (.inl e.symm)) (fun e => hXF (.inr e.symm)), ?_⟩
      exact HMW.out.then (HMX.out.mono (G := fun k => k = X) (fun k _ e => e)) (fun k hk e => by have := HXW.out; omega)
  · have hE : Pr.evOf s t ⟨7, (q : Int), (m : Int), im⟩ = ⟨(t : Int), 1, 0, false⟩ := by simp [Pr.evOf]
    rw [HEV.out] at hE
    injection hE with g1 g2 g3 g4
    subst g1 g2 g3 g4
    obtain ⟨v7, hv7⟩ : ∃ v, v = x.r q := ⟨_, rfl⟩
    have HV7 := Lib.hid hv7
    by_cases hh : v7 = 0
    · have hd : (v7 != 0) = false := by simpa using hh
      have HHH := Lib.hid (show x.r q = 0 by rw [← hv7]; exact hh)
      clear hh hv7
      have HK7 := Lib.hid trivial
      obtain ⟨⟨a0, a1, a2, a3⟩, yl, ⟨b0, b1, b2, b3⟩, zl⟩ := HYD.out W4 (Mod.refl _ _)
      go_upto_region 20 with fail
      clear a0 a1 a2 a3 yl b0 b1 b2 b3 zl
      refine wp_region_planF (by kernel_rfl) (fun u => Below W4.heap.size W4 u) [] [(0, .pure), (1, .load), (2, .pure), (3, .pure), (4, .pure), (5, .pure), (6, .load), (7, .pure), (8, .pure), (9, .pure), (10, .load), (11, .pure), (12, .pure), (13, .pure)] (by simp only [List.map_cons, List.map_nil, List.getElem?_toArray, List.getElem?_cons_succ, List.getElem?_cons_zero]; rfl) (by kernel_rfl) (fun _ _ d _ _ h => by cases d <;> exact h) ((Below.refl _ _).drew) ?_
      obtain ⟨Wd, hWd⟩ : ∃ z, z = W4.drew := ⟨_, rfl⟩
      rw [← hWd]
      have hbd : Below W4.heap.size W4 Wd := by rw [hWd]; exact (Below.refl _ _).drew
      have HBD := Lib.hid hbd
      clear hWd hbd
      repeat (first
        | (refine plan_pure (v := ?_) (by rfl) (fun w1 => ?_) ?_
           rotate_left
           · go_simp <;> with_reducible rfl
           simp only [Act.put, List.setIfInBounds_toArray, List.set_cons_zero, List.set_cons_succ])
        | (refine plan_off (by rfl) ?_
           simp only [Act.put, List.setIfInBounds_toArray, List.set_cons_zero, List.set_cons_succ])
        | (refine plan_load_off (by rfl) ?_
           simp only [Act.put, List.setIfInBounds_toArray, List.set_cons_zero, List.set_cons_succ])
        | (refine plan_load (v := ?_) (by rfl) (fun w1 hw1 => ?_) ?_
           rotate_left
           · (have qy := HYD.out w1 (Mod.of_below_size hw1 _)
              obtain ⟨⟨a0, a1, a2, a3⟩, yl, ⟨b0, b1, b2, b3⟩, zl⟩ := qy
              have hq := HS4.out.below hw1
              obtain ⟨PA, pc', tc', _, _, _, z3', zv, zh, _⟩ := hq.cells
              have r1 := (hq.thread t _ HX4.out).2.2 q hq2
              rw [← HV7.out] at r1
              have ql := hq.lt.2
              have qs := hq.lt.1
              clear hq zv zh
              clear hw1
              go_simp <;> with_reducible rfl)
           simp only [Act.put, List.setIfInBounds_toArray, List.set_cons_zero, List.set_cons_succ]))
      refine plan_end ?_
      obtain ⟨⟨a0, a1, a2, a3⟩, yl, ⟨b0, b1, b2, b3⟩, zl⟩ := HYD.out Wd (Mod.of_below_size HBD.out _)
      go_upto_region 26 with fail
      clear a0 a1 a2 a3 yl b0 b1 b2 b3 zl
      obtain ⟨W9, hW9⟩ : ∃ z, z = Wd := ⟨_, rfl⟩
      rw [← hW9]
      have HSS : Hid (RAt W9 C S T o { s with th := s.th.set t ⟨x.pc + 1, f, x.r⟩ }) := Lib.hid (by rw [hW9]; exact HS4.out.below HBD.out)
      have HM9 : Hid (Mod (fun k => k = S ∨ k = T) W4 W9) := Lib.hid (by rw [hW9]; exact Mod.of_below_size HBD.out _)
      clear hW9
      obtain ⟨hX5, ⟨⟨z0, z1, z2, z3⟩, zl⟩, _, hmw⟩ := HFIN.out W9 (HMG4.out.trans HM9.out)
      obtain ⟨V2, hV2, ⟨d0, d1', d2, d3⟩, hmv⟩ := in4_exit hX5 (.int .i64 (t : Int)) (.int .i64 1) (.int .i64 0) (.bool false)
      obtain ⟨⟨e0, e1', e2, e3⟩, el, g0, g1, g2', g3⟩ := in4_cells hX5
      have HMW := Lib.hid hmw
      have HV2 := Lib.hid hV2
      have HMX := Lib.hid hmv
      clear hV2 hmv hX5 hmw
      go_wp2_with fail
      rw [← HV2.out]
      refine bodyPost_ret (v := .tuple #[.agg #[.int .i64 (t : Int), .int .i64 1, .int .i64 0, .bool false], .int .i64 0]) (by simp [results, Tryz.results88, go_sem, d0, d1', d2, d3]) rfl ?_
      have hXF : ¬ (X = S ∨ X = T) := by have := HSTL.out; have := HXW.out; omega
      refine ⟨rfl, by rw [HST.out, Pr.deed7, if_pos HHH.out]; exact HSS.out.mod HMX.out (fun k hk e => by have := HCC.out k hk; have := HXW.out; omega) (fun e => hXF (.inl e.symm)) (fun e => hXF (.inr e.symm)), ?_⟩
      exact HMW.out.then (HMX.out.mono (G := fun k => k = X) (fun k _ e => e)) (fun k hk e => by have := HXW.out; omega)
    · have hd : (v7 != 0) = true := by simpa using hh
      have HHH := Lib.hid (show ¬ x.r q = 0 by rw [← hv7]; exact hh)
      clear hh hv7
      have HK7 := Lib.hid trivial
      obtain ⟨⟨a0, a1, a2, a3⟩, yl, ⟨b0, b1, b2, b3⟩, zl⟩ := HYD.out W4 (Mod.refl _ _)
      go_upto_region 20 with fail
      clear a0 a1 a2 a3 yl b0 b1 b2 b3 zl
      refine wp_region_planF (by kernel_rfl) (fun u => Below W4.heap.size W4 u) [] [(0, .pure), (1, .load), (2, .pure), (3, .pure), (4, .pure), (5, .pure), (6, .load), (7, .pure), (8, .pure), (9, .pure), (10, .load), (11, .pure), (12, .pure), (13, .pure)] (by simp only [List.map_cons, List.map_nil, List.getElem?_toArray, List.getElem?_cons_succ, List.getElem?_cons_zero]; rfl) (by kernel_rfl) (fun _ _ d _ _ h => by cases d <;> exact h) ((Below.refl _ _).drew) ?_
      obtain ⟨Wd, hWd⟩ : ∃ z, z = W4.drew := ⟨_, rfl⟩
      rw [← hWd]
      have hbd : Below W4.heap.size W4 Wd := by rw [hWd]; exact (Below.refl _ _).drew
      have HBD := Lib.hid hbd
      clear hWd hbd
      repeat (first
        | (refine plan_pure (v := ?_) (by rfl) (fun w1 => ?_) ?_
           rotate_left
           · go_simp <;> with_reducible rfl
           simp only [Act.put, List.setIfInBounds_toArray, List.set_cons_zero, List.set_cons_succ])
        | (refine plan_off (by rfl) ?_
           simp only [Act.put, List.setIfInBounds_toArray, List.set_cons_zero, List.set_cons_succ])
        | (refine plan_load_off (by rfl) ?_
           simp only [Act.put, List.setIfInBounds_toArray, List.set_cons_zero, List.set_cons_succ])
        | (refine plan_load (v := ?_) (by rfl) (fun w1 hw1 => ?_) ?_
           rotate_left
           · (have qy := HYD.out w1 (Mod.of_below_size hw1 _)
              obtain ⟨⟨a0, a1, a2, a3⟩, yl, ⟨b0, b1, b2, b3⟩, zl⟩ := qy
              have hq := HS4.out.below hw1
              obtain ⟨PA, pc', tc', _, _, _, z3', zv, zh, _⟩ := hq.cells
              have r1 := (hq.thread t _ HX4.out).2.2 q hq2
              rw [← HV7.out] at r1
              have ql := hq.lt.2
              have qs := hq.lt.1
              clear hq zv zh
              clear hw1
              go_simp <;> with_reducible rfl)
           simp only [Act.put, List.setIfInBounds_toArray, List.set_cons_zero, List.set_cons_succ]))
      refine plan_end ?_
      obtain ⟨⟨a0, a1, a2, a3⟩, yl, ⟨b0, b1, b2, b3⟩, zl⟩ := HYD.out Wd (Mod.of_below_size HBD.out _)
      have hSd := HS4.out.below HBD.out
      obtain ⟨hs, hm⟩ := hSd.set_pc HX4.out m
      have HSS := Lib.hid hs
      have HMM9 := Lib.hid hm
      have t1 := (hSd.thread t _ HX4.out).1
      have f1 := hSd.free.2 (o + t * 4)
      have tl := hSd.lt.2
      have sl := hSd.lt.1
      clear hSd hs hm
      go_upto_region 26 with fail
      clear a0 a1 a2 a3 yl b0 b1 b2 b3 zl t1 f1
      obtain ⟨W9, hW9⟩ : ∃ z, z = Wd.setCell ⟨T, o + t * 4, none⟩ (.int .i64 (m : Int)) := ⟨_, rfl⟩
      rw [← hW9] at HSS HMM9 ⊢
      simp only [List.set_set] at HSS
      have HM9 : Hid (Mod (fun k => k = S ∨ k = T) W4 W9) := Lib.hid (((Mod.of_below HBD.out).mono (fun k hk e => by have := HBD.out.size; omega)).trans (HMM9.out.mono (fun k _ e => Or.inr e)))
      clear hW9 tl sl HMM9
      obtain ⟨hX5, ⟨⟨z0, z1, z2, z3⟩, zl⟩, _, hmw⟩ := HFIN.out W9 (HMG4.out.trans HM9.out)
      obtain ⟨V2, hV2, ⟨d0, d1', d2, d3⟩, hmv⟩ := in4_exit hX5 (.int .i64 (t : Int)) (.int .i64 1) (.int .i64 0) (.bool false)
      obtain ⟨⟨e0, e1', e2, e3⟩, el, g0, g1, g2', g3⟩ := in4_cells hX5
      have HMW := Lib.hid hmw
      have HV2 := Lib.hid hV2
      have HMX := Lib.hid hmv
      clear hV2 hmv hX5 hmw
      go_wp2_with fail
      rw [← HV2.out]
      refine bodyPost_ret (v := .tuple #[.agg #[.int .i64 (t : Int), .int .i64 1, .int .i64 0, .bool false], .int .i64 0]) (by simp [results, Tryz.results88, go_sem, d0, d1', d2, d3]) rfl ?_
      have hXF : ¬ (X = S ∨ X = T) := by have := HSTL.out; have := HXW.out; omega
      refine ⟨rfl, by rw [HST.out, Pr.deed7, if_neg HHH.out]; simp only [List.set_set]; exact HSS.out.mod HMX.out (fun k hk e => by have := HCC.out k hk; have := HXW.out; omega) (fun e => hXF (.inl e.symm)) (fun e => hXF (.inr e.symm)), ?_⟩
      exact HMW.out.then (HMX.out.mono (G := fun k => k = X) (fun k _ e => e)) (fun k hk e => by have := HXW.out; omega)
  · have g2 : ek = 1 := by have h := congrArg Ev.k HEV.out; simp [Pr.evOf] at h; exact h.symm
    subst g2
    have HK7 := Lib.hid trivial
    obtain ⟨⟨a0, a1, a2, a3⟩, yl, ⟨b0, b1, b2, b3⟩, zl⟩ := HYD.out W4 (Mod.refl _ _)
    go_upto_region 20 with fail
    clear a0 a1 a2 a3 yl b0 b1 b2 b3 zl
    refine wp_region_planF (by kernel_rfl) (fun u => Below W4.heap.size W4 u) [] [(0, .pure), (1, .load), (2, .pure), (3, .pure), (4, .pure), (5, .pure), (6, .load), (7, .pure), (8, .pure), (9, .pure), (10, .load), (11, .pure), (12, .pure), (13, .pure)] (by simp only [List.map_cons, List.map_nil, List.getElem?_toArray, List.getElem?_cons_succ, List.getElem?_cons_zero]; rfl) (by kernel_rfl) (fun _ _ d _ _ h => by cases d <;> exact h) ((Below.refl _ _).drew) ?_
    obtain ⟨Wd, hWd⟩ : ∃ z, z = W4.drew := ⟨_, rfl⟩
    rw [← hWd]
    have hbd : Below W4.heap.size W4 Wd := by rw [hWd]; exact (Below.refl _ _).drew
    have HBD := Lib.hid hbd
    clear hWd hbd
    repeat (first
      | (refine plan_pure (v := ?_) (by rfl) (fun w1 => ?_) ?_
         rotate_left
         · go_simp <;> with_reducible rfl
         simp only [Act.put, List.setIfInBounds_toArray, List.set_cons_zero, List.set_cons_succ])
      | (refine plan_off (by rfl) ?_
         simp only [Act.put, List.setIfInBounds_toArray, List.set_cons_zero, List.set_cons_succ])
      | (refine plan_load_off (by rfl) ?_
         simp only [Act.put, List.setIfInBounds_toArray, List.set_cons_zero, List.set_cons_succ])
      | (refine plan_load (v := ?_) (by rfl) (fun w1 hw1 => ?_) ?_
         rotate_left
         · (have qy := HYD.out w1 (Mod.of_below_size hw1 _)
            obtain ⟨⟨a0, a1, a2, a3⟩, yl, ⟨b0, b1, b2, b3⟩, zl⟩ := qy
            have hq := HS4.out.below hw1
            obtain ⟨PA, pc', tc', _, _, _, z3', zv, zh, _⟩ := hq.cells
            have r1 := (hq.thread t _ HX4.out).2.2 q hq2
            have ql := hq.lt.2
            have qs := hq.lt.1
            clear hq zv zh
            clear hw1
            go_simp <;> with_reducible rfl)
         simp only [Act.put, List.setIfInBounds_toArray, List.set_cons_zero, List.set_cons_succ]))
    refine plan_end ?_
    obtain ⟨⟨a0, a1, a2, a3⟩, yl, ⟨b0, b1, b2, b3⟩, zl⟩ := HYD.out Wd (Mod.of_below_size HBD.out _)
    go_upto_region 26 with fail
    clear a0 a1 a2 a3 yl b0 b1 b2 b3 zl
    obtain ⟨W9, hW9⟩ : ∃ z, z = Wd := ⟨_, rfl⟩
    rw [← hW9]
    have HSS : Hid (RAt W9 C S T o { s with th := s.th.set t ⟨x.pc + 1, f, x.r⟩ }) := Lib.hid (by rw [hW9]; exact HS4.out.below HBD.out)
    have HM9 : Hid (Mod (fun k => k = S ∨ k = T) W4 W9) := Lib.hid (by rw [hW9]; exact Mod.of_below_size HBD.out _)
    clear hW9
    obtain ⟨hX5, ⟨⟨z0, z1, z2, z3⟩, zl⟩, _, hmw⟩ := HFIN.out W9 (HMG4.out.trans HM9.out)
    obtain ⟨V2, hV2, ⟨d0, d1', d2, d3⟩, hmv⟩ := in4_exit hX5 (.int .i64 et) (.int .i64 1) (.int .i64 eo) (.bool ef)
    obtain ⟨⟨e0, e1', e2, e3⟩, el, g0, g1, g2', g3⟩ := in4_cells hX5
    have HMW := Lib.hid hmw
    have HV2 := Lib.hid hV2
    have HMX := Lib.hid hmv
    clear hV2 hmv hX5 hmw
    go_wp2_with fail
    rw [← HV2.out]
    refine bodyPost_ret (v := .tuple #[.agg #[.int .i64 et, .int .i64 1, .int .i64 eo, .bool ef], .int .i64 0]) (by simp [results, Tryz.results88, go_sem, d0, d1', d2, d3]) rfl ?_
    have hXF : ¬ (X = S ∨ X = T) := by have := HSTL.out; have := HXW.out; omega
    refine ⟨rfl, by rw [HST.out, Pr.deed8]; exact HSS.out.mod HMX.out (fun k hk e => by have := HCC.out k hk; have := HXW.out; omega) (fun e => hXF (.inl e.symm)) (fun e => hXF (.inr e.symm)), ?_⟩
    exact HMW.out.then (HMX.out.mono (G := fun k => k = X) (fun k _ e => e)) (fun k hk e => by have := HXW.out; omega)
theorem refStep_ok (w : World) (C : Nat → Prop) (S T o : Nat) (s : St) (t : Nat) (e : Ev) (h : RAt w C S T o s) (hw : Pr.Wf s) (ht : t < s.th.length) (hen : Pr.enabled s t = true) (hnx : Pr.next s t = some e) :
    Calls Tryz.prog 88 #[.pointer (some ⟨S, 0, none⟩), .int .i64 (t : Int)] w fun x w' => x = .returned (.tuple #[valE e, .int .i64 0]) ∧ RAt w' C S T o (Pr.stepS s t) ∧ Mod (fun k => k = S ∨ k = T) w w' :=
  (refStep_okB w _ S T o s t e h.bound hw ht hen hnx (fun k hk => hk.2)).mono fun x w' hh => ⟨hh.1, hh.2.1.widen h (fun k hk => hk.1), hh.2.2⟩
end Go.Proofs.YtckdofjpoajblaaGreat
namespace Go.Proofs.YtckdofjpoajblaaGreat
open Go.RowKit
set_option linter.unusedVariables false
def PutOut (w : World) (A : Option Addr) (l : List Ky.K) (x : Ending) (w' : World) : Prop := ∃ A' cap', x = .returned (.slice A' l.length cap') ∧ (Rd w' 1 A' l.length (l.map sv) ∧ l.length ≤ cap' ∧ cap' ≤ maxLen) ∧ Below w.heap.size w w' ∧ (A' = A ∨ ∀ a, A' = some a → w.heap.size ≤ a.block)
set_option maxRecDepth 100000 in
set_option maxHeartbeats 4000000 in
theorem put_any (w : World) (A : Option Addr) (cap : Nat) (l : List Ky.K) (s : Ky.K) (hr : Rd w 1 A l.length (l.map sv)) (hcap : l.length ≤ cap) (hcm : cap ≤ maxLen) (hl : l.length ≤ 1000000) :
    Calls Tryz.prog 94 #[.slice A l.length cap, .string ⟨s.toArray⟩] w (PutOut w A (Ky.insG l s)) := by
  obtain ⟨i0, hi0, hz0, hz1, hz2⟩ := info_parts Tryz.infoStrR
  have HC := Lib.hid (str_cell hr.toB)
  have HR := Lib.hid hr
  have HCAP := Lib.hid (And.intro hcap hcm)
  obtain ⟨bs, hbs⟩ : ∃ bs : ByteArray, bs = ⟨s.toArray⟩ := ⟨_, rfl⟩
  rw [← hbs]
  have HBS := Lib.hid hbs
  clear hr hcap hcm hbs
  go_enter Tryz.func94, Tryz.ntmps94
  go_wp2_with fail
  go_loopw [5, 6, 7] (fun v5 v6 v7 wr => ∃ (i : Nat) (d : Bool) (ol : List Ky.K) (A' : Option Addr) (cap' : Nat), i ≤ l.length ∧ ol.length ≤ i + 1 ∧ v7 = .int .i64 i ∧ v6 = .bool d ∧ v5 = .slice A' ol.length cap' ∧ Hid (d = (l.take i).any fun y => Ky.lt s y) ∧ Hid (ol = if d = true then Ky.ins s (l.take i) else l.take i) ∧ Hid (s ∉ l.take i) ∧
    Hid (Row wr 9 1 A' ol.length cap' (ol.map sv)) ∧ Hid (∀ a, A' = some a → w.heap.size ≤ a.block) ∧ Hid (Below w.heap.size w wr)) (fun _ _ v _ => l.length - (intOf v).toNat)
  case atStart => exact ⟨0, false, [], none, 0, Nat.zero_le _, Nat.zero_le _, rfl, rfl, rfl, Lib.hid rfl, Lib.hid rfl, Lib.hid (by simp), Lib.hid (Row.nil _ _ _), Lib.hid (fun a h => (by cases h)), Lib.hid (Below.refl _ _)⟩
  case round =>
    obtain ⟨i, d, ol, A', cap', hi, hol, rfl, rfl, rfl, HD, HOL, HNM, HRW, HAT, HB⟩ := hrel
    by_cases hlt : i < l.length
    · obtain ⟨x, hx⟩ := get_some hlt
      obtain ⟨g, o, rfl, hg, hcl⟩ := HC.out i x hx
      have v0 := hcl wr HB.out
      obtain ⟨bx, by_, e1, e2, e3, e4, e5, e6, e7⟩ := sv_way x s
      have e8 : by_ = bs := by rw [← e2, HBS.out]
      subst e8
      rw [e1] at v0
      have htk : l.take (i + 1) = l.take i ++ [x] := by rw [List.take_add_one, hx]; rfl
      have hmem := List.mem_of_getElem? hx
      have HTK := Lib.hid htk
      have HMEM := Lib.hid hmem
      have HE1 := Lib.hid e1
      have HCL := Lib.hid hcl
      have k1 : (0 : Int) ≤ (i : Int) := Int.natCast_nonneg _
      have k2 : (i : Int) < (l.length : Int) := by omega
      have lg : g < wr.heap.size := by have := HB.out.size; omega
      clear hx hcl htk hmem e1 e2
      by_cases hxs : x = s
      · have h9 := e4 hxs
        subst h9
        have HXS := Lib.hid hxs
        clear hxs e3 e4 e5 e6 e7
        go_wp2_with fail
        go_ret
        have hin : Ky.insG l s = l := by unfold Ky.insG; rw [if_pos (HXS.out ▸ HMEM.out)]
        rw [hin]
        exact ⟨_, cap, rfl, ⟨HR.out.below HB.out (Nat.le_refl _), HCAP.out⟩, HB.out, .inl rfl⟩
      · have h9 := e5 hxs
        rw [decide_eq_false hxs] at e3
        have HXS := Lib.hid hxs
        have hnm : s ∉ l.take (i + 1) := fun hm => by
          rw [HTK.out] at hm
          rcases List.mem_append.1 hm with h | h
          · exact HNM.out h
          · rw [List.mem_singleton] at h; exact HXS.out h.symm
        have HNM2 := Lib.hid hnm
        have hdn : ((l.take (i + 1)).any fun y => Ky.lt s y) = (((l.take i).any fun y => Ky.lt s y) || Ky.lt s x) := by rw [HTK.out, List.any_append]; simp
        have HDN := Lib.hid hdn
        clear hxs e4 e5 hnm hdn e6
        have hway : d = true ∨ (d = false ∧ Ky.lt s x = true) ∨ (d = false ∧ Ky.lt s x = false) := by cases d <;> cases Ky.lt s x <;> simp
        rcases hway with rfl | ⟨rfl, hlx⟩ | ⟨rfl, hlx⟩
        · clear e7
          go_wp2_with (at_builtin; refine wpList_append_row (by rfl) _ _ _ (by rfl) 9 i0 _ 1 16 Tryz.underlying27 hi0 hz0 hz1 hz2 rfl (by omega) A' ol.length cap' (ol.map sv) (by rfl) (HRW.out.alloc _) ⟨wr.heap.size, 0, none⟩ 1 1 [.string bx] (by rfl) (by rfl) (World.news_of_block (cs := #[.string bx]) (t := 9) (fr := (0, 0)) (heap_alloc_new wr _)) (by simp [Value.oneCell']) (by omega) (by unfold maxLen; omega) (by omega) ?_; intro g1 of1 cap1 w3 hown hm hat; skip)
          obtain ⟨q1, q2⟩ := acc_more HAT.out HB.out hm hat (of := of1)
          have hz : (ol ++ [x]).length = ol.length + 1 := by rw [List.length_append]; rfl
          have hr3 : Row w3 9 1 (some ⟨g1, of1, none⟩) (ol ++ [x]).length cap1 ((ol ++ [x]).map sv) := by
            rw [hz, List.map_append]; simpa [sv, HE1.out] using hown
          have HZ := Lib.hid hz
          have hd := HD.out
          clear hz
          go_roundw
          case rel => exact ⟨i + 1, true, ol ++ [x], some ⟨g1, of1, none⟩, cap1, by omega, by rw [HZ.out]; omega, by go_num, rfl, by rw [HZ.out], Lib.hid (by rw [HDN.out, ← hd]; rfl), Lib.hid (by rw [if_pos rfl, HTK.out, Ky.ins_in hd.symm, HOL.out, if_pos rfl]), HNM2, Lib.hid hr3, Lib.hid q1, Lib.hid q2⟩
          case measure => simp [intOf]; omega
        · rw [hlx] at e7
          have HLX := Lib.hid hlx
          clear hlx
          go_upto_region 10 with (at_builtin; refine wpList_append_row (by rfl) _ _ _ (by rfl) 9 i0 _ 1 16 Tryz.underlying27 hi0 hz0 hz1 hz2 rfl (by omega) A' ol.length cap' (ol.map sv) (by rfl) (HRW.out.alloc _) ⟨wr.heap.size, 0, none⟩ 1 1 [.string by_] (by rfl) (by rfl) (World.news_of_block (cs := #[.string by_]) (t := 9) (fr := (0, 0)) (heap_alloc_new wr _)) (by simp [Value.oneCell']) (by omega) (by unfold maxLen; omega) (by omega) ?_; intro g1 of1 cap1 w3 hown hm hat; skip)
          obtain ⟨q1, q2⟩ := acc_more HAT.out HB.out hm hat (of := of1)
          have hz : (ol ++ [s]).length = ol.length + 1 := by rw [List.length_append]; rfl
          have hr3 : Row w3 9 1 (some ⟨g1, of1, none⟩) (ol.length + 1) cap1 ((ol ++ [s]).map sv) := by
            rw [List.map_append]; simpa [sv, HBS.out] using hown
          have HR3 := Lib.hid hr3
          have HAT3 := Lib.hid q1
          have HB3 := Lib.hid q2
          have HZ := Lib.hid hz
          have v3 := HCL.out w3 q2
          rw [HE1.out] at v3
          have lg3 : g < w3.heap.size := by have := q2.size; omega
          have hd := HD.out
          have HD2 := Lib.hid hd
          clear hz hown hm hat q1 q2 hr3 v0 lg hd
          go_wp2_with (at_builtin; refine wpList_append_row (by rfl) _ _ _ (by rfl) 9 i0 _ 1 16 Tryz.underlying27 hi0 hz0 hz1 hz2 rfl (by omega) (some ⟨g1, of1, none⟩) (ol.length + 1) cap1 ((ol ++ [s]).map sv) (by rfl) (HR3.out.alloc _) ⟨w3.heap.size, 0, none⟩ 1 1 [.string bx] (by rfl) (by rfl) (World.news_of_block (cs := #[.string bx]) (t := 9) (fr := (0, 0)) (heap_alloc_new w3 _)) (by simp [Value.oneCell']) (by omega) (by unfold maxLen; omega) (by omega) ?_; intro g4 of4 cap4 w4 hown hm hat; skip)
          obtain ⟨q1, q2⟩ := acc_more HAT3.out HB3.out hm hat (of := of4)
          have hz : (ol ++ [s, x]).length = ol.length + 1 + 1 := by rw [List.length_append]; rfl
          have hr4 : Row w4 9 1 (some ⟨g4, of4, none⟩) (ol ++ [s, x]).length cap4 ((ol ++ [s, x]).map sv) := by
            rw [hz, List.map_append]; simpa [sv, HE1.out, HBS.out] using hown
          have hol : ol.length = i := by rw [HOL.out, if_neg (by decide), List.length_take]; omega
          have HZ4 := Lib.hid hz
          clear hz
          go_roundw
          case rel => exact ⟨i + 1, true, ol ++ [s, x], some ⟨g4, of4, none⟩, cap4, by omega, by rw [HZ4.out]; omega, by go_num, rfl, by rw [HZ4.out], Lib.hid (by rw [HDN.out, HLX.out]; simp), Lib.hid (by rw [if_pos rfl, HTK.out, Ky.ins_out HD2.out.symm, HOL.out, if_neg (by decide)]; simp [Ky.ins, HLX.out]), HNM2, Lib.hid hr4, Lib.hid q1, Lib.hid q2⟩
          case measure => simp [intOf]; omega
        · rw [hlx] at e7
          have HLX := Lib.hid hlx
          clear hlx
          go_wp2_with (at_builtin; refine wpList_append_row (by rfl) _ _ _ (by rfl) 9 i0 _ 1 16 Tryz.underlying27 hi0 hz0 hz1 hz2 rfl (by omega) A' ol.length cap' (ol.map sv) (by rfl) (HRW.out.alloc _) ⟨wr.heap.size, 0, none⟩ 1 1 [.string bx] (by rfl) (by rfl) (World.news_of_block (cs := #[.string bx]) (t := 9) (fr := (0, 0)) (heap_alloc_new wr _)) (by simp [Value.oneCell']) (by omega) (by unfold maxLen; omega) (by omega) ?_; intro g1 of1 cap1 w3 hown hm hat; skip)
          obtain ⟨q1, q2⟩ := acc_more HAT.out HB.out hm hat (of := of1)
          have hz : (ol ++ [x]).length = ol.length + 1 := by rw [List.length_append]; rfl
          have hr3 : Row w3 9 1 (some ⟨g1, of1, none⟩) (ol ++ [x]).length cap1 ((ol ++ [x]).map sv) := by
            rw [hz, List.map_append]; simpa [sv, HE1.out] using hown
          have HZ := Lib.hid hz
          have hd := HD.out
          clear hz
          go_roundw
          case rel => exact ⟨i + 1, false, ol ++ [x], some ⟨g1, of1, none⟩, cap1, by omega, by rw [HZ.out]; omega, by go_num, rfl, by rw [HZ.out], Lib.hid (by rw [HDN.out, ← hd, HLX.out]; rfl), Lib.hid (by rw [if_neg (by decide), HTK.out, HOL.out, if_neg (by decide)]), HNM2, Lib.hid hr3, Lib.hid q1, Lib.hid q2⟩
          case measure => simp [intOf]; omega
    · have hall : l.take i = l := List.take_of_length_le (by omega)
      have hd := HD.out
      have ho := HOL.out
      have hn := HNM.out
      rw [hall] at hd ho hn
      have hg : Ky.insG l s = Ky.ins s l := by unfold Ky.insG; rw [if_neg hn]
      have HGG := Lib.hid hg
      have HO := Lib.hid ho
      have HDD := Lib.hid hd
      clear hd ho hn hg hall HD HOL HNM
      cases d with
      | true =>
        go_wp2_with fail
        go_ret
        have ho : ol = Ky.ins s l := by have := HO.out; simpa using this
        rw [HGG.out]
        exact ⟨A', cap', by rw [← ho]; rfl, by rw [← ho]; exact ⟨HRW.out.rd, HRW.out.2.1, HRW.out.2.2.1⟩, HB.out, .inr HAT.out⟩
      | false =>
        go_wp2_with (at_builtin; refine wpList_append_row (by rfl) _ _ _ (by rfl) 9 i0 _ 1 16 Tryz.underlying27 hi0 hz0 hz1 hz2 rfl (by omega) A' ol.length cap' (ol.map sv) (by rfl) (HRW.out.alloc _) ⟨wr.heap.size, 0, none⟩ 1 1 [.string bs] (by rfl) (by rfl) (World.news_of_block (cs := #[.string bs]) (t := 9) (fr := (0, 0)) (heap_alloc_new wr _)) (by simp [Value.oneCell']) (by omega) (by unfold maxLen; omega) (by omega) ?_; intro g1 of1 cap1 w3 hown hm hat; skip)
        obtain ⟨q1, q2⟩ := acc_more HAT.out HB.out hm hat (of := of1)
        have hz : (ol ++ [s]).length = ol.length + 1 := by rw [List.length_append]; rfl
        have hr3 : Row w3 9 1 (some ⟨g1, of1, none⟩) (ol.length + 1) cap1 ((ol ++ [s]).map sv) := by
          rw [List.map_append]; simpa [sv, HBS.out] using hown
        have ho : ol = l := by have := HO.out; simpa using this
        have hins : Ky.ins s l = ol ++ [s] := by
          have := Ky.ins_out HDD.out.symm []
          rw [List.append_nil] at this
          rw [this, ← ho]; rfl
        have HINS := Lib.hid hins
        have HR3 := Lib.hid hr3
        have HB3 := Lib.hid q2
        have HAT3 := Lib.hid q1
        have HZ := Lib.hid hz
        clear hown hm hat q1 q2 hr3 ho hins hz
        go_ret
        rw [HGG.out]
        exact ⟨_, cap1, by rw [HINS.out, HZ.out]; rfl, by rw [HINS.out, HZ.out]; exact ⟨HR3.out.rd, HR3.out.2.1, HR3.out.2.2.1⟩, HB3.out, .inr HAT3.out⟩
end Go.Proofs.YtckdofjpoajblaaGreat
