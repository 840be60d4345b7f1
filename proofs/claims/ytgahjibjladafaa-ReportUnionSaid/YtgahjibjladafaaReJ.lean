/- Reports: the document's Read. -/
import Derived.Test.YtgahjibjladafaaReI
namespace Go.Proofs.Ytgahjibjladafaa
open Go.RowKit
set_option linter.unusedVariables false

theorem mul_two (a b : Nat) (ha : a < 256) (hb : b < 256) : IntKind.i64.wrap (IntKind.i64.wrap (IntKind.i64.wrap (a : Int) * 256) + IntKind.i64.wrap (b : Int)) = ((a * 256 + b : Nat) : Int) := by
  have e1 : IntKind.i64.wrap (a : Int) = a := IntWalk.i64_in _ (by omega)
  have e2 : IntKind.i64.wrap (b : Int) = b := IntWalk.i64_in _ (by omega)
  have e3 : IntKind.i64.wrap ((a : Int) * 256) = ((a * 256 : Nat) : Int) := by rw [IntWalk.i64_in _ (by omega)]; omega
  rw [e1, e2, e3, IntWalk.i64_in _ (by omega)]
  omega
theorem idx_at (s : ByteArray) (j : Nat) (hj : j < s.size) (W : World) : (Instr.index 9 (.string s) (.int .i64 (j : Int))).run Try.prog W = .ok (.int .u8 (s[j]'hj).toNat) W := by
  rw [run_index_string W _ _ _ _ Try.underlying9, dif_pos ⟨Int.natCast_nonneg _, by omega⟩]; rfl
theorem num_at (s : ByteArray) (j : Nat) (hj : j + 1 < s.size) : Ky.num (s.data.toList.drop j) = (s[j]'(by omega)).toNat * 256 + (s[j + 1]'hj).toNat := by
  have e0 : (s.data.toList.drop j).getD 0 0 = s[j]'(by omega) := by rw [List.getD_eq_getElem?_getD, List.getElem?_drop, Nat.add_zero, List.getElem?_eq_getElem (by simp; omega)]; rfl
  have e1 : (s.data.toList.drop j).getD 1 0 = s[j + 1]'hj := by rw [List.getD_eq_getElem?_getD, List.getElem?_drop, List.getElem?_eq_getElem (by simp; omega)]; rfl
  unfold Ky.num
  rw [e0, e1]

set_option maxRecDepth 100000 in
set_option maxHeartbeats 8000000 in
theorem refRead15_any (w : World) (s : ByteArray) (hl : s.size < 100000) :
    Calls Try.prog 45 #[.string s] w (RepOut w (Ky.readK s.data.toList)) := by
  obtain ⟨i0, hi0, hz0, hz1, hz2⟩ := info_parts Try.infoStrR
  have hlen : s.data.toList.length = s.size := by simp
  obtain ⟨W1, X, hW1, hX, hBW, hXl, hXe⟩ := box_rep w 72 none 0 0 false
  have hXk : W1.heap[X]? = some (.cells #[.slice none 0 0, .bool false] 72 (0, 0)) := by rw [hW1, hX]; exact heap_alloc_new w _
  have HBW := Lib.hid hBW
  have HXK := Lib.hid hXk
  have HXW := Lib.hid (Nat.le_of_eq hX.symm)
  clear hBW hXk hXl hXe
  have none_out : ∀ (W2 : World) (R : Nat), Ky.readK s.data.toList = ([], false, R) → Below w.heap.size w W2 → RepOut w (Ky.readK s.data.toList) (.returned (.tuple #[.agg #[.slice none 0 0, .bool false], .int .i64 (R : Nat)])) W2 := fun W2 R h hb => by
    rw [h]
    exact ⟨none, 0, rfl, ⟨⟨rfl, fun h => by simp at h⟩, Nat.le_refl _, Nat.zero_le _⟩, hb⟩
  have HNO := Lib.hid none_out
  clear none_out
  by_cases h3 : s.size < 3
  · have hr := Ky.readK_short (s := s.data.toList) (by omega)
    have HR := Lib.hid hr
    have h3' : (s.size : Int) < 3 := by omega
    clear hr hlen
    go_enter Try.func45, Try.ntmps45
    go_upto_region 1 with fail
    rw [← hW1, ← hX]
    clear hW1 hX
    have c0 : W1.cell? ⟨X, 0, none⟩ = some (.slice none 0 0) := by rw [cell_blk HXK.out]; rfl
    have c1 : W1.cell? ⟨X, 1, none⟩ = some (.bool false) := by rw [cell_blk HXK.out]; rfl
    have f0 : W1.frozen? ⟨X, 0, none⟩ = false := free_blk HXK.out _
    have f1 : W1.frozen? ⟨X, 1, none⟩ = false := free_blk HXK.out _
    have hk2 := set_blk (set_blk HXK.out 0 (.slice none 0 0)) 1 (.bool false)
    have HK2 := Lib.hid hk2
    have hm2 : Mod (fun q => q = X) W1 ((W1.setCell ⟨X, 0, none⟩ (.slice none 0 0)).setCell ⟨X, 1, none⟩ (.bool false)) := ((Mod.refl (fun q => q = X) W1).setCell (p := ⟨X, 0, none⟩) (fun _ => rfl) _).setCell (p := ⟨X, 1, none⟩) (fun _ => rfl) _
    have HB2 := Lib.hid (((Mod.of_below HBW.out).then hm2 (fun q _ h => by rw [h]; exact HXW.out)).below _ (Nat.le_refl _) (fun q hq h => by omega) : Below w.heap.size w _)
    clear hk2 hm2
    go_wp2_with fail
    obtain ⟨W2, hW2⟩ : ∃ W2, W2 = (W1.setCell ⟨X, 0, none⟩ (.slice none 0 0)).setCell ⟨X, 1, none⟩ (.bool false) := ⟨_, rfl⟩
    rw [← hW2] at HK2 HB2 ⊢
    have d0 : W2.cell? ⟨X, 0, none⟩ = some (.slice none 0 0) := by rw [cell_blk HK2.out]; rfl
    have d1 : W2.cell? ⟨X, 1, none⟩ = some (.bool false) := by rw [cell_blk HK2.out]; rfl
    exact bodyPost_ret (v := .tuple #[.agg #[.slice none 0 0, .bool false], .int .i64 4]) (by simp [results, Try.results45, go_sem, d0, d1]) rfl (HNO.out _ 4 HR.out HB2.out)
  · have hs0 : 0 < s.size := by omega
    have h0 : (0 : Int) < (s.size : Int) := by omega
    have h3i : ¬ (s.size : Int) < 3 := by omega
    have h3j : (3 : Int) ≤ (s.size : Int) := by omega
    obtain ⟨b, hb⟩ : ∃ b, b = s[0]'hs0 := ⟨_, rfl⟩
    have hidx : ∀ W, (Instr.index 9 (.string s) (.int .i64 0)).run Try.prog W = .ok (.int .u8 b.toNat) W := fun W => by
      rw [run_index_string W _ _ _ _ Try.underlying9, dif_pos ⟨Int.le_refl _, h0⟩, hb]; rfl
    have hb0 : s.data.toList.getD 0 0 = b := by rw [hb, List.getD_eq_getElem?_getD, List.getElem?_eq_getElem (by simp; omega)]; rfl
    obtain ⟨c, hc⟩ : ∃ c : Bool, c = decide (b = 1) := ⟨_, rfl⟩
    have hcI : ((b.toNat : Int) == 1) = c := by
      rw [hc]
      by_cases h : b = 1
      · subst h; rfl
      · rw [decide_eq_false h, beq_eq_false_iff_ne]
        intro e
        exact h (UInt8.toNat_inj.1 (show b.toNat = 1 by omega))
    obtain ⟨N, hN⟩ : ∃ N, N = Ky.num (s.data.toList.drop 1) := ⟨_, rfl⟩
    have hN5 : N ≤ 65535 := by rw [hN]; exact Ky.num_le _
    obtain ⟨b1, hb1⟩ : ∃ b1, b1 = (s[1]'(by omega)).toNat := ⟨_, rfl⟩
    obtain ⟨b2, hb2⟩ : ∃ b2, b2 = (s[2]'(by omega)).toNat := ⟨_, rfl⟩
    have hx1 : ∀ W, (Instr.index 9 (.string s) (.int .i64 1)).run Try.prog W = .ok (.int .u8 (b1 : Int)) W := fun W => by rw [hb1]; exact idx_at s 1 (by omega) W
    have hx2 : ∀ W, (Instr.index 9 (.string s) (.int .i64 2)).run Try.prog W = .ok (.int .u8 (b2 : Int)) W := fun W => by rw [hb2]; exact idx_at s 2 (by omega) W
    have hmt : IntKind.i64.wrap (IntKind.i64.wrap (IntKind.i64.wrap (b1 : Int) * 256) + IntKind.i64.wrap (b2 : Int)) = (N : Int) := by
      rw [mul_two b1 b2 (by rw [hb1]; exact UInt8.toNat_lt _) (by rw [hb2]; exact UInt8.toNat_lt _), hN, num_at s 1 (by omega), hb1, hb2]
    have hps : Ky.parseR N (s.data.toList.drop 3) = (Ky.parseR (N - 0) (s.data.toList.drop 3)).map (fun p => ([] ++ p.1, p.2)) := by simp
    have hnone := Ky.readK_none (s := s.data.toList) (by omega)
    have hsome : ∀ (ks : List Ky.K) (r : List UInt8), Ky.parseR N (s.data.toList.drop 3) = some (ks, r) → Ky.readK s.data.toList = if b.toNat > 1 ∨ r ≠ [] ∨ Ky.rightK ks = false then ([], false, 3) else (ks, c, 0) := fun ks r hp => by
      have := Ky.readK_some (s := s.data.toList) (ks := ks) (r := r) (by omega) (by rw [← hN]; exact hp)
      rw [hb0, ← hc] at this
      exact this
    rw [← hN] at hnone
    have HPS0 := Lib.hid hps
    have HNONE := Lib.hid hnone
    have HSOME := Lib.hid hsome
    have HB0 := Lib.hid hb
    have HMT := Lib.hid hmt
    have hbt := b.toNat_lt
    have HS0 := Lib.hid (show 3 ≤ s.size by omega)
    clear hps hnone hsome hb hb0 hc hN hlen hmt hb1 hb2
    go_enter Try.func45, Try.ntmps45
    go_upto_region 1 with fail
    rw [← hW1, ← hX]
    clear hW1 hX
    go_upto_region 4 with fail
    obtain ⟨W2, hW2⟩ : ∃ W2, W2 = W1.alloc (Obj.cells #[.slice none 0 0, .bool c] 72) := ⟨_, rfl⟩
    obtain ⟨Y, hY⟩ : ∃ Y, Y = W1.heap.size := ⟨_, rfl⟩
    have hYk : W2.heap[Y]? = some (.cells #[.slice none 0 0, .bool c] 72 (0, 0)) := by rw [hW2, hY]; exact heap_alloc_new W1 _
    have hb2 : Below W1.heap.size W1 W2 := by rw [hW2]; exact (Below.refl _ _).alloc (Nat.le_refl _) _
    rw [← hW2, ← hY]
    have HYK := Lib.hid hYk
    have HXK2 := Lib.hid (blk_step HXK.out hb2)
    have HXY := Lib.hid (show X < Y ∧ Y < W2.heap.size from ⟨by rw [hY]; exact blk_lt HXK.out, blk_lt hYk⟩)
    have HB2 := Lib.hid (below_at HBW.out hb2)
    clear hW2 hY hYk hb2 hcI
    refine wp_region_plan (by kernel_rfl) (fun u => Mod (fun _ => False) W2 u) [] [(0, .pure), (1, .pure), (2, .pure), (3, .pure), (4, .pure), (5, .pure), (6, .pure), (7, .pure), (8, .pure)] (by simp only [List.map_cons, List.map_nil, List.getElem?_toArray, List.getElem?_cons_succ, List.getElem?_cons_zero]; rfl) (by kernel_rfl) (fun _ _ d _ _ h => by cases d <;> exact h) ((Mod.refl _ _).drew) ?_
    repeat (first
      | (refine plan_pure (v := ?_) (by rfl) (fun w1 => ?_) ?_
         rotate_left
         · go_simp <;> with_reducible rfl
         simp only [Act.put, List.setIfInBounds_toArray, List.set_cons_zero, List.set_cons_succ])
      | (refine plan_off (by rfl) ?_
         simp only [Act.put, List.setIfInBounds_toArray, List.set_cons_zero, List.set_cons_succ])
      | (refine plan_load_off (by rfl) ?_
         simp only [Act.put, List.setIfInBounds_toArray, List.set_cons_zero, List.set_cons_succ])
      | (refine plan_load (v := ?_) (by rfl) (fun w1 hw1 => ?_) ?_
         rotate_left
         · (skip
            clear hw1
            go_simp <;> with_reducible rfl)
         simp only [Act.put, List.setIfInBounds_toArray, List.set_cons_zero, List.set_cons_succ]))
    refine plan_end ?_
    rw [HMT.out]
    clear hx1 hx2
    generalize hw3 : W2.drew = w3
    have HB3 := Lib.hid (show Below w.heap.size w w3 by rw [← hw3]; exact HB2.out.drew)
    have HYK3 := Lib.hid (show w3.heap[Y]? = some (.cells #[.slice none 0 0, .bool c] 72 (0, 0)) by rw [← hw3]; exact HYK.out)
    have HXK3 := Lib.hid (show w3.heap[X]? = some (.cells #[.slice none 0 0, .bool false] 72 (0, 0)) by rw [← hw3]; exact HXK2.out)
    have HY3 := Lib.hid (show Y < w3.heap.size from blk_lt HYK3.out)
    clear hw3 HYK HXK2 HXK HMT
    go_wp2_with fail
    go_loopw [6, 7] (fun v6 v7 wr => ∃ (i at_ : Nat) (acc : List Ky.K) (A' : Option Addr) (cap' : Nat), i ≤ N ∧ Hid (acc.length = i) ∧ at_ ≤ s.size ∧ v7 = .int .i64 i ∧ v6 = .int .i64 at_ ∧ Hid (Ky.parseR N (s.data.toList.drop 3) = (Ky.parseR (N - i) (s.data.toList.drop at_)).map (fun p => (acc ++ p.1, p.2))) ∧
      Hid (wr.heap[Y]? = some (.cells #[.slice A' i cap', .bool c] 72 (0, 0))) ∧ Hid (Row wr 9 1 A' i cap' (acc.map sv)) ∧ Hid (∀ a, A' = some a → w3.heap.size ≤ a.block) ∧ Hid (Mod (fun q => q = Y) w3 wr)) (fun _ v _ => N - (intOf v).toNat)
    case atStart => exact ⟨0, 3, [], none, 0, Nat.zero_le _, Lib.hid rfl, HS0.out, rfl, rfl, HPS0, HYK3, Lib.hid (Row.nil _ _ _), Lib.hid (fun a h => (by cases h)), Lib.hid (Mod.refl _ _)⟩
    case round =>
      obtain ⟨i, p, acc, A', cap', hi, HAI, hps, rfl, rfl, HPS, HY, HRW, HAT, HM⟩ := hrel
      have HX := Lib.hid ((HM.out.block X (blk_lt HXK3.out) (by have := HXY.out; omega)).trans HXK3.out)
      have HBB := Lib.hid (((Mod.of_below HB3.out).then HM.out (fun q _ h => by have := HXY.out; have := HXW.out; omega)).below _ (Nat.le_refl _) (fun q hq h => by omega) : Below w.heap.size w wr)
      have p0 : (0 : Int) ≤ (p : Int) := Int.natCast_nonneg _
      have p1 : (p : Int) ≤ (s.size : Int) := by omega
      have p2 : (s.size : Int) < 100000 := by omega
      by_cases hlt : i < N
      · have hrl : (s.data.toList.drop p).length = s.size - p := by simp
        obtain ⟨m, hm⟩ : ∃ m, m = Ky.num (s.data.toList.drop p) := ⟨_, rfl⟩
        have hm5 : m ≤ 65535 := by rw [hm]; exact Ky.num_le _
        have hNi : N - i = (N - (i + 1)) + 1 := by omega
        have hsh : s.size < p + 2 ∨ s.size < p + 2 + m → Ky.readK s.data.toList = ([], false, 4) := fun h => HNONE.out (by
          rw [HPS.out, hNi, Ky.parseR_short (by rw [hrl, ← hm]; omega)]; rfl)
        have hlo : ¬ s.size < p + 2 → ¬ s.size < p + 2 + m → Ky.parseR N (s.data.toList.drop 3) = (Ky.parseR (N - (i + 1)) (s.data.toList.drop (p + 2 + m))).map (fun q => (acc ++ [(s.extract (p + 2) (p + 2 + m)).data.toList] ++ q.1, q.2)) := fun h1 h2 => by
          rw [HPS.out, hNi, Ky.parseR_succ (by rw [hrl]; omega) (by rw [hrl, ← hm]; omega), Option.map_map, ba_mid, ← hm, List.drop_drop, List.drop_drop, Nat.add_assoc p 2 m]
          congr 1
          funext q
          simp
        have k1 : (0 : Int) ≤ (i : Int) := Int.natCast_nonneg _
        have k2 : (i : Int) < (N : Int) := by omega
        have HSH := Lib.hid hsh
        have HLO := Lib.hid hlo
        by_cases hr2 : s.size < p + 2
        · have hnf := HSH.out (.inl hr2)
          have HNF := Lib.hid hnf
          have hr2i : (s.size : Int) < (p : Int) + 2 := by omega
          have hrd : decide (s.size < p + 2) = true := by simpa using hr2
          clear hnf hm hNi hsh hlo hrl
          have HXe := rep_exit HX.out HBB.out HXW.out (.slice none 0 0) (.bool false)
          obtain ⟨V2, hV2, d0, d1, hbv, hoth⟩ := HXe
          have HV2 := Lib.hid hV2
          have HBV := Lib.hid hbv
          have HOTH := Lib.hid hoth
          have c0 : wr.cell? ⟨X, 0, none⟩ = some (.slice none 0 0) := by rw [cell_blk HX.out]; rfl
          have c1 : wr.cell? ⟨X, 1, none⟩ = some (.bool false) := by rw [cell_blk HX.out]; rfl
          have f0 : wr.frozen? ⟨X, 0, none⟩ = false := free_blk HX.out _
          have f1 : wr.frozen? ⟨X, 1, none⟩ = false := free_blk HX.out _
          clear hV2 hbv hoth
          go_wp2_with fail
          rw [← HV2.out]
          exact bodyPost_ret (v := .tuple #[.agg #[.slice none 0 0, .bool false], .int .i64 4]) (by simp [results, Try.results45, go_sem, d0, d1]) rfl (HNO.out _ 4 HNF.out HBV.out)
        · have hr2i : ¬ (s.size : Int) < (p : Int) + 2 := by omega
          have hrd : decide (s.size < p + 2) = false := by simpa using hr2
          obtain ⟨b1, hb1⟩ : ∃ b1, b1 = (s[p]'(by omega)).toNat := ⟨_, rfl⟩
          obtain ⟨b2, hb2⟩ : ∃ b2, b2 = (s[p + 1]'(by omega)).toNat := ⟨_, rfl⟩
          have hx1 : ∀ W, (Instr.index 9 (.string s) (.int .i64 (p : Int))).run Try.prog W = .ok (.int .u8 (b1 : Int)) W := fun W => by rw [hb1]; exact idx_at s p (by omega) W
          have hx2 : ∀ W, (Instr.index 9 (.string s) (.int .i64 ((p + 1 : Nat) : Int))).run Try.prog W = .ok (.int .u8 (b2 : Int)) W := fun W => by rw [hb2]; exact idx_at s (p + 1) (by omega) W
          have hw1 : IntKind.i64.wrap ((p : Int) + 1) = ((p + 1 : Nat) : Int) := by rw [IntWalk.i64_in _ (by omega)]; omega
          have hmt : IntKind.i64.wrap (IntKind.i64.wrap (IntKind.i64.wrap (b1 : Int) * 256) + IntKind.i64.wrap (b2 : Int)) = (m : Int) := by
            rw [mul_two b1 b2 (by rw [hb1]; exact UInt8.toNat_lt _) (by rw [hb2]; exact UInt8.toNat_lt _), hm, num_at s p (by omega), hb1, hb2]
          have HMT := Lib.hid hmt
          have HX1 := Lib.hid hx1
          generalize p + 1 = pp at hx2 hw1
          clear hm hNi hsh hlo hrl hb1 hb2 hmt
          go_upto_region 11 with fail
          refine wp_region_plan (by kernel_rfl) (fun u => Mod (fun _ => False) wr u) [] [(0, .pure), (1, .pure), (2, .pure), (3, .pure), (4, .pure), (5, .pure), (6, .pure), (7, .pure), (8, .pure), (9, .pure), (10, .pure), (11, .pure)] (by simp only [List.map_cons, List.map_nil, List.getElem?_toArray, List.getElem?_cons_succ, List.getElem?_cons_zero]; rfl) (by kernel_rfl) (fun _ _ d _ _ h => by cases d <;> exact h) ((Mod.refl _ _).drew) ?_
          repeat (first
            | (refine plan_pure (v := ?_) (by rfl) (fun w1 => ?_) ?_
               rotate_left
               · go_simp <;> with_reducible rfl
               simp only [Act.put, List.setIfInBounds_toArray, List.set_cons_zero, List.set_cons_succ])
            | (refine plan_off (by rfl) ?_
               simp only [Act.put, List.setIfInBounds_toArray, List.set_cons_zero, List.set_cons_succ])
            | (refine plan_load_off (by rfl) ?_
               simp only [Act.put, List.setIfInBounds_toArray, List.set_cons_zero, List.set_cons_succ])
            | (refine plan_load (v := ?_) (by rfl) (fun w1 hw1 => ?_) ?_
               rotate_left
               · (skip
                  clear hw1
                  go_simp <;> with_reducible rfl)
               simp only [Act.put, List.setIfInBounds_toArray, List.set_cons_zero, List.set_cons_succ]))
          refine plan_end ?_
          rw [HMT.out]
          clear hx1 hx2 hw1 HX1 HMT
          generalize hw4 : wr.drew = w4
          have HX4 := Lib.hid (show w4.heap[X]? = some (.cells #[.slice none 0 0, .bool false] 72 (0, 0)) by rw [← hw4]; exact HX.out)
          have HY4 := Lib.hid (show w4.heap[Y]? = some (.cells #[.slice A' i cap', .bool c] 72 (0, 0)) by rw [← hw4]; exact HY.out)
          have HR4 := Lib.hid (show Row w4 9 1 A' i cap' (acc.map sv) by rw [← hw4]; exact HRW.out.move (fun _ _ => rfl))
          have HM4 := Lib.hid (show Mod (fun q => q = Y) w3 w4 by rw [← hw4]; exact HM.out.drew)
          have HB4 := Lib.hid (show Below w.heap.size w w4 by rw [← hw4]; exact HBB.out.drew)
          clear hw4 HX HY HRW HM HBB
          obtain ⟨u, hu⟩ : ∃ u, u = p + 2 := ⟨_, rfl⟩
          have hus : u ≤ s.size := by omega
          have hsh2 : s.size < u + m → Ky.readK s.data.toList = ([], false, 4) := fun h => HSH.out (.inr (by omega))
          have hlo2 := HLO.out hr2
          rw [← hu] at hlo2
          have HLO2 := Lib.hid hlo2
          have HSH2 := Lib.hid hsh2
          have hu2 : (p : Int) + 2 = (u : Int) := by omega
          have u0 : (0 : Int) ≤ (u : Int) := Int.natCast_nonneg _
          have u1 : (u : Int) ≤ (s.size : Int) := by omega
          have m0 : (0 : Int) ≤ (m : Int) := Int.natCast_nonneg _
          have m1 : (m : Int) ≤ 65535 := by omega
          clear hu hsh2 hlo2 HLO HSH
          by_cases hsm : s.size < u + m
          · have hnf := HSH2.out hsm
            have HNF := Lib.hid hnf
            have hsi : (s.size : Int) < (u : Int) + (m : Int) := by omega
            have hsd : decide (s.size < u + m) = true := by simpa using hsm
            clear hnf
            have HXe := rep_exit HX4.out HB4.out HXW.out (.slice none 0 0) (.bool false)
            obtain ⟨V2, hV2, d0, d1, hbv, hoth⟩ := HXe
            have HV2 := Lib.hid hV2
            have HBV := Lib.hid hbv
            have HOTH := Lib.hid hoth
            have c0 : w4.cell? ⟨X, 0, none⟩ = some (.slice none 0 0) := by rw [cell_blk HX4.out]; rfl
            have c1 : w4.cell? ⟨X, 1, none⟩ = some (.bool false) := by rw [cell_blk HX4.out]; rfl
            have f0 : w4.frozen? ⟨X, 0, none⟩ = false := free_blk HX4.out _
            have f1 : w4.frozen? ⟨X, 1, none⟩ = false := free_blk HX4.out _
            clear hV2 hbv hoth
            go_wp2_with fail
            rw [← HV2.out]
            exact bodyPost_ret (v := .tuple #[.agg #[.slice none 0 0, .bool false], .int .i64 4]) (by simp [results, Try.results45, go_sem, d0, d1]) rfl (HNO.out _ 4 HNF.out HBV.out)
          · have hsi : ¬ (s.size : Int) < (u : Int) + (m : Int) := by omega
            have hsd : decide (s.size < u + m) = false := by simpa using hsm
            have HPS5 := Lib.hid (HLO2.out hsm)
            obtain ⟨q, hq⟩ : ∃ q, q = u + m := ⟨_, rfl⟩
            rw [← hq] at HPS5 hsd hsm
            have huq : (u : Int) + (m : Int) = (q : Int) := by omega
            have hqs : (q : Int) ≤ (s.size : Int) := by omega
            have hqs' : q ≤ s.size := by omega
            have huq2 : (u : Int) ≤ (q : Int) := by omega
            have q0 : (0 : Int) ≤ (q : Int) := Int.natCast_nonneg _
            rw [huq] at hsi
            have hwq : IntKind.i64.wrap (q : Int) = (q : Int) := IntWalk.i64_in _ (by omega)
            have hkx := ba_back (s.extract u q)
            obtain ⟨kx, hkxe⟩ : ∃ kx, kx = (s.extract u q).data.toList := ⟨_, rfl⟩
            rw [← hkxe] at hkx HPS5
            have HKX := Lib.hid hkx
            have hac : i < 70000 := by omega
            clear hq hkx hkxe HLO2 HSH2
            go_upto_region 15 with fail
            have hYc : ∀ u : World, u.heap[Y]? = w4.heap[Y]? → u.cell? ⟨Y, 0, none⟩ = some (.slice A' i cap') := fun u hu => by rw [cell_blk (hu.trans HY4.out)]; rfl
            have hS : w4.drew.cell? ⟨Y, 0, none⟩ = some (.slice A' i cap') := hYc _ rfl
            clear hYc
            refine wp_region_plan (by kernel_rfl) (fun u => u.cell? ⟨Y, 0, none⟩ = some (.slice A' i cap')) [9, 11] [(0, .pure), (1, .load), (2, .pure), (3, .pure), (4, .pure), (5, .pure), (6, .pure), (7, .pure), (8, .eff), (9, .last), (10, .pure), (11, .last)] (by simp only [List.map_cons, List.map_nil, List.getElem?_toArray, List.getElem?_cons_succ, List.getElem?_cons_zero]; rfl) (by kernel_rfl) (fun _ _ d _ _ h => by cases d <;> exact h) (hS) ?_
            repeat (first
              | (refine plan_pure (v := ?_) (by rfl) (fun w1 => ?_) ?_
                 rotate_left
                 · go_simp <;> with_reducible rfl
                 simp only [Act.put, List.setIfInBounds_toArray, List.set_cons_zero, List.set_cons_succ])
              | (refine plan_off (by rfl) ?_
                 simp only [Act.put, List.setIfInBounds_toArray, List.set_cons_zero, List.set_cons_succ])
              | (refine plan_load_off (by rfl) ?_
                 simp only [Act.put, List.setIfInBounds_toArray, List.set_cons_zero, List.set_cons_succ])
              | (refine plan_load (v := ?_) (by rfl) (fun w1 hw1 => ?_) ?_
                 rotate_left
                 · (have q9 := hw1
                    clear hw1
                    go_simp <;> with_reducible rfl)
                 simp only [Act.put, List.setIfInBounds_toArray, List.set_cons_zero, List.set_cons_succ]))
            refine plan_eff ?_
            go_wp2_with fail
            obtain ⟨w6, hw6⟩ : ∃ w6, w6 = (w4.alloc (Obj.cells #[.string (s.extract u q)] 9)).drew := ⟨_, rfl⟩
            obtain ⟨Z, hZ⟩ : ∃ Z, Z = w4.heap.size := ⟨_, rfl⟩
            have hk6 : w6.heap[Z]? = some (.cells #[.string (s.extract u q)] 9 (0, 0)) := by rw [hw6, hZ]; exact heap_alloc_new w4 _
            have hb6 : Below w4.heap.size w4 w6 := by rw [hw6]; exact ((Below.refl _ _).alloc (Nat.le_refl _) _).drew
            rw [← hw6, ← hZ]
            have HK6 := Lib.hid hk6
            have HR6 := Lib.hid (row_step HR4.out hb6)
            have HY6 := Lib.hid (blk_step HY4.out hb6)
            have HM6 := Lib.hid (Mod.trans HM4.out (Mod.of_below_size hb6 (fun q => q = Y)))
            have hS6 : w6.cell? ⟨Y, 0, none⟩ = some (.slice A' i cap') := by rw [cell_blk HY6.out]; rfl
            clear hw6 hZ hk6 hb6 hS
            refine plan_on (fun _ h => h) hS6 ?_
            refine plan_last ?_
            refine wpList_append_row (by rfl) _ _ _ (by rfl) 9 i0 _ 1 16 Try.underlying67 hi0 hz0 hz1 hz2 rfl (by omega) A' i cap' (acc.map sv) (by rfl) HR6.out ⟨Z, 0, none⟩ 1 1 [.string (s.extract u q)] (by rfl) (by rfl) (World.news_of_block (cs := #[.string (s.extract u q)]) (t := 9) (fr := (0, 0)) HK6.out) (by simp [Value.oneCell']) (by omega) (by unfold maxLen; omega) (by omega) ?_
            intro g1 of1 cap1 w7 hown hmm hat
            have hz : (acc ++ [kx]).length = i + 1 := by rw [List.length_append, HAI.out]; rfl
            have hr7 : Row w7 9 1 (some ⟨g1, of1, none⟩) (i + 1) cap1 ((acc ++ [kx]).map sv) := by
              rw [List.map_append]; simpa [sv, HKX.out] using hown
            have hgn : w3.heap.size ≤ g1 := by
              rcases hat with ⟨a, e1, e2⟩ | h
              · have := HAT.out a e1; omega
              · exact Nat.le_trans HM6.out.size h
            have hgY : g1 ≠ Y := by have := HY3.out; omega
            have hm7 : Mod (fun q => q = Y) w3 w7 := (HM6.out).then hmm (fun q hq ⟨a, e1, e2⟩ => by have := HAT.out a e1; omega)
            have hy7 : w7.heap[Y]? = some (.cells #[.slice A' i cap', .bool c] 72 (0, 0)) := (hmm.block Y (blk_lt HY6.out) (fun ⟨a, e1, e2⟩ => by have := HAT.out a e1; have := HY3.out; omega)).trans HY6.out
            have c7 : w7.cell? ⟨Y, 0, none⟩ = some (.slice A' i cap') := by rw [cell_blk hy7]; rfl
            have f7 : w7.frozen? ⟨Y, 0, none⟩ = false := free_blk hy7 _
            have hy8 := set_blk hy7 0 (.slice (some ⟨g1, of1, none⟩) (i + 1) cap1)
            have hr8 := hr7.mod ((Mod.refl (fun q => q = Y) w7).setCell (p := ⟨Y, 0, none⟩) (fun _ => rfl) (.slice (some ⟨g1, of1, none⟩) (i + 1) cap1)) (fun a ha h => by injection ha with ha; subst ha; exact hgY h)
            have hm8 := Mod.setCell hm7 (p := ⟨Y, 0, none⟩) (fun _ => rfl) (.slice (some ⟨g1, of1, none⟩) (i + 1) cap1)
            have HZ := Lib.hid hz
            have HY8 := Lib.hid hy8
            have HR8 := Lib.hid hr8
            have HM8 := Lib.hid hm8
            have HGN := Lib.hid hgn
            clear hown hmm hat hz hr7 hgn hgY hm7 hy7 hy8 hr8 hm8 hS6
            go_wp2_with fail
            repeat (first
              | (refine plan_pure (v := ?_) (by rfl) (fun w1 => ?_) ?_
                 rotate_left
                 · go_simp <;> with_reducible rfl
                 simp only [Act.put, List.setIfInBounds_toArray, List.set_cons_zero, List.set_cons_succ])
              | (refine plan_off (by rfl) ?_
                 simp only [Act.put, List.setIfInBounds_toArray, List.set_cons_zero, List.set_cons_succ])
              | (refine plan_load_off (by rfl) ?_
                 simp only [Act.put, List.setIfInBounds_toArray, List.set_cons_zero, List.set_cons_succ])
              | (refine plan_load (v := ?_) (by rfl) (fun w1 hw1 => ?_) ?_
                 rotate_left
                 · (skip
                    clear hw1
                    go_simp <;> with_reducible rfl)
                 simp only [Act.put, List.setIfInBounds_toArray, List.set_cons_zero, List.set_cons_succ]))
            refine plan_last ?_
            go_wp2_with fail
            refine plan_end ?_
            go_wp2_with fail
            go_roundw
            case rel => exact ⟨i + 1, q, acc ++ [kx], some ⟨g1, of1, none⟩, cap1, by omega, HZ, hqs', by go_num, rfl, HPS5, Lib.hid (by exact HY8.out), Lib.hid (by exact HR8.out), Lib.hid (fun a ha => by injection ha with ha; subst ha; exact HGN.out), HM8⟩
            case measure => simp [intOf]; omega
      · have hiN : i = N := by omega
        have hp : Ky.parseR N (s.data.toList.drop 3) = some (acc, s.data.toList.drop p) := by
          rw [HPS.out, hiN, Nat.sub_self]
          simp [Ky.parseR]
        have hres := HSOME.out acc _ hp
        have hkl : ∀ k ∈ acc, k.length < 100000 := fun k hk => by
          have h1 := (Ky.body_parse _ _ _ _ hp).1
          have h2 := Ky.body_mem hk
          have h3 : (s.data.toList.drop 3).length = (Ky.body acc).length + (s.data.toList.drop p).length := by rw [h1, List.length_append]
          have h4 : (s.data.toList.drop 3).length = s.size - 3 := by simp
          omega
        have hright : ∀ u, Below wr.heap.size wr u → Calls Try.prog 48 #[.agg #[.slice A' i cap', .bool c]] u fun x w' => x = .returned (.bool (Ky.rightK acc)) ∧ Below u.heap.size u w' := fun u hu => by
          have := refRight15_any u A' cap' acc c (by rw [HAI.out]; exact (row_step HRW.out hu).rd) (by rw [HAI.out]; omega) hkl
          rwa [HAI.out] at this
        have hrest : s.data.toList.drop p = [] ↔ p = s.size := by
          rw [List.drop_eq_nil_iff]
          simp
          omega
        have HREST := Lib.hid hrest
        have HRES := Lib.hid hres
        have HRIGHT := Lib.hid hright
        have HIN := Lib.hid hiN
        have hni : ¬ (i : Int) < (N : Int) := by omega
        clear hp hres hkl hright hiN hrest
        by_cases hb1 : 1 < b.toNat
        · have hbi : (1 : Int) < (b.toNat : Int) := by omega
          have hbd : decide (1 < b.toNat) = true := by simpa using hb1
          have hnf : Ky.readK s.data.toList = ([], false, 3) := by rw [HRES.out, if_pos (.inl hb1)]
          have HNF := Lib.hid hnf
          clear hnf
          have HXe := rep_exit HX.out HBB.out HXW.out (.slice none 0 0) (.bool false)
          obtain ⟨V2, hV2, d0, d1, hbv, hoth⟩ := HXe
          have HV2 := Lib.hid hV2
          have HBV := Lib.hid hbv
          have HOTH := Lib.hid hoth
          have c0 : wr.cell? ⟨X, 0, none⟩ = some (.slice none 0 0) := by rw [cell_blk HX.out]; rfl
          have c1 : wr.cell? ⟨X, 1, none⟩ = some (.bool false) := by rw [cell_blk HX.out]; rfl
          have f0 : wr.frozen? ⟨X, 0, none⟩ = false := free_blk HX.out _
          have f1 : wr.frozen? ⟨X, 1, none⟩ = false := free_blk HX.out _
          clear hV2 hbv hoth
          go_wp2_with fail
          rw [← HV2.out]
          exact bodyPost_ret (v := .tuple #[.agg #[.slice none 0 0, .bool false], .int .i64 3]) (by simp [results, Try.results45, go_sem, d0, d1]) rfl (HNO.out _ 3 HNF.out HBV.out)
        · have hbi : ¬ (1 : Int) < (b.toNat : Int) := by omega
          have hbd : decide (1 < b.toNat) = false := by simpa using hb1
          by_cases hre : p = s.size
          · have he1 : ((p : Int) == (s.size : Int)) = true := by rw [hre]; simp
            have he2 : ((p : Int) != (s.size : Int)) = false := by rw [hre]; simp
            have HRE := Lib.hid (HREST.out.2 hre)
            have cY0 : wr.cell? ⟨Y, 0, none⟩ = some (.slice A' i cap') := by rw [cell_blk HY.out]; rfl
            have cY1 : wr.cell? ⟨Y, 1, none⟩ = some (.bool c) := by rw [cell_blk HY.out]; rfl
            have HC := Lib.hid (HRIGHT.out wr (Below.refl _ _))
            obtain ⟨rk, hrk⟩ : ∃ rk, rk = Ky.rightK acc := ⟨_, rfl⟩
            rw [← hrk] at HC
            have HRK := Lib.hid hrk
            clear hre hrk
            go_wp2_with fail
            refine HC.out.mono ?_
            rintro x w4 ⟨rfl, b4⟩
            have HX4 := Lib.hid (blk_step HX.out b4)
            have HY4 := Lib.hid (blk_step HY.out b4)
            have HR4 := Lib.hid (row_step HRW.out b4)
            have HB4 := Lib.hid (below_at HBB.out b4)
            clear b4 cY0 cY1
            cases rk with
            | false =>
              have hnf : Ky.readK s.data.toList = ([], false, 3) := by rw [HRES.out, if_pos (.inr (.inr HRK.out.symm))]
              have HNF := Lib.hid hnf
              clear hnf
              have HXe := rep_exit HX4.out HB4.out HXW.out (.slice none 0 0) (.bool false)
              obtain ⟨V2, hV2, d0, d1, hbv, hoth⟩ := HXe
              have HV2 := Lib.hid hV2
              have HBV := Lib.hid hbv
              have HOTH := Lib.hid hoth
              have c0 : w4.cell? ⟨X, 0, none⟩ = some (.slice none 0 0) := by rw [cell_blk HX4.out]; rfl
              have c1 : w4.cell? ⟨X, 1, none⟩ = some (.bool false) := by rw [cell_blk HX4.out]; rfl
              have f0 : w4.frozen? ⟨X, 0, none⟩ = false := free_blk HX4.out _
              have f1 : w4.frozen? ⟨X, 1, none⟩ = false := free_blk HX4.out _
              clear hV2 hbv hoth
              go_wp2_with fail
              rw [← HV2.out]
              exact bodyPost_ret (v := .tuple #[.agg #[.slice none 0 0, .bool false], .int .i64 3]) (by simp [results, Try.results45, go_sem, d0, d1]) rfl (HNO.out _ 3 HNF.out HBV.out)
            | true =>
              have hyf : Ky.readK s.data.toList = (acc, c, 0) := by rw [HRES.out, if_neg (by rw [HRE.out, ← HRK.out]; simp; omega)]
              have HYF := Lib.hid hyf
              have cY0 : w4.cell? ⟨Y, 0, none⟩ = some (.slice A' i cap') := by rw [cell_blk HY4.out]; rfl
              have cY1 : w4.cell? ⟨Y, 1, none⟩ = some (.bool c) := by rw [cell_blk HY4.out]; rfl
              clear hyf
              have HXe := rep_exit HX4.out HB4.out HXW.out (.slice A' i cap') (.bool c)
              obtain ⟨V2, hV2, d0, d1, hbv, hoth⟩ := HXe
              have HV2 := Lib.hid hV2
              have HBV := Lib.hid hbv
              have HOTH := Lib.hid hoth
              have c0 : w4.cell? ⟨X, 0, none⟩ = some (.slice none 0 0) := by rw [cell_blk HX4.out]; rfl
              have c1 : w4.cell? ⟨X, 1, none⟩ = some (.bool false) := by rw [cell_blk HX4.out]; rfl
              have f0 : w4.frozen? ⟨X, 0, none⟩ = false := free_blk HX4.out _
              have f1 : w4.frozen? ⟨X, 1, none⟩ = false := free_blk HX4.out _
              clear hV2 hbv hoth
              go_wp2_with fail
              rw [← HV2.out]
              refine bodyPost_ret (v := .tuple #[.agg #[.slice A' i cap', .bool c], .int .i64 0]) (by simp [results, Try.results45, go_sem, d0, d1]) rfl ?_
              rw [HYF.out]
              have hr2 := HR4.out.move (w' := V2) (fun a ha => HOTH.out a.block (by have := HAT.out a ha; have := HXY.out; have := HY3.out; omega))
              exact ⟨A', cap', by simp only [HAI.out]; rfl, by simp only [HAI.out]; exact ⟨hr2.rd, hr2.2.1, hr2.2.2.1⟩, HBV.out⟩
          · have he1 : ((p : Int) == (s.size : Int)) = false := by rw [beq_eq_false_iff_ne]; omega
            have he2 : ((p : Int) != (s.size : Int)) = true := by simp; omega
            have hnf : Ky.readK s.data.toList = ([], false, 3) := by rw [HRES.out, if_pos (.inr (.inl (fun h => hre (HREST.out.1 h))))]
            have HNF := Lib.hid hnf
            clear hnf hre
            have HXe := rep_exit HX.out HBB.out HXW.out (.slice none 0 0) (.bool false)
            obtain ⟨V2, hV2, d0, d1, hbv, hoth⟩ := HXe
            have HV2 := Lib.hid hV2
            have HBV := Lib.hid hbv
            have HOTH := Lib.hid hoth
            have c0 : wr.cell? ⟨X, 0, none⟩ = some (.slice none 0 0) := by rw [cell_blk HX.out]; rfl
            have c1 : wr.cell? ⟨X, 1, none⟩ = some (.bool false) := by rw [cell_blk HX.out]; rfl
            have f0 : wr.frozen? ⟨X, 0, none⟩ = false := free_blk HX.out _
            have f1 : wr.frozen? ⟨X, 1, none⟩ = false := free_blk HX.out _
            clear hV2 hbv hoth
            go_wp2_with fail
            rw [← HV2.out]
            exact bodyPost_ret (v := .tuple #[.agg #[.slice none 0 0, .bool false], .int .i64 3]) (by simp [results, Try.results45, go_sem, d0, d1]) rfl (HNO.out _ 3 HNF.out HBV.out)
end Go.Proofs.Ytgahjibjladafaa
