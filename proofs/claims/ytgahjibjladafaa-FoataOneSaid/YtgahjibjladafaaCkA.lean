/- Clocks: join. -/
import Derived.Test.YtgahjibjladafaaFoN
import Derived.Test.YtgahjibjladafaaFoD
import Derived.Test.YtgahjibjladafaaPlan
namespace Go.Proofs.Ytgahjibjladafaa
open Go.RowKit
set_option linter.unusedVariables false

/-- a clock in memory -/
def arr (f : Nat → Nat) : List Value := [.int .i64 (f 0 : Nat), .int .i64 (f 1 : Nat), .int .i64 (f 2 : Nat), .int .i64 (f 3 : Nat)]
theorem arr_get (f : Nat → Nat) {t : Nat} (h : t < 4) : (arr f)[t]? = some (.int .i64 (f t : Nat)) := by
  rcases (show t = 0 ∨ t = 1 ∨ t = 2 ∨ t = 3 by omega) with rfl | rfl | rfl | rfl <;> rfl
theorem arr_set (f : Nat → Nat) {t : Nat} (h : t < 4) (n : Nat) : (arr f).toArray.setIfInBounds t (.int .i64 (n : Nat)) = (arr fun i => if i = t then n else f i).toArray := by
  rcases (show t = 0 ∨ t = 1 ∨ t = 2 ∨ t = 3 by omega) with rfl | rfl | rfl | rfl <;> simp [arr]
theorem arr_ext {f g : Nat → Nat} (h : ∀ t, t < 4 → f t = g t) : arr f = arr g := by
  unfold arr
  rw [h 0 (by omega), h 1 (by omega), h 2 (by omega), h 3 (by omega)]

set_option maxRecDepth 100000 in
set_option maxHeartbeats 2000000 in
theorem join_any (w : World) (g : Nat) (f d : Nat → Nat) (T : TypeId) (h : w.heap[g]? = some (.cells (arr f).toArray T (0, 0))) (hf : ∀ t, f t ≤ 1000000) (hd : ∀ t, d t ≤ 1000000) :
    Calls Try.prog 102 #[.pointer (some ⟨g, 0, none⟩), .agg (arr d).toArray] w fun x w' => x = .returned (.tuple #[]) ∧ w'.heap[g]? = some (.cells (arr fun t => max (f t) (d t)).toArray T (0, 0)) ∧ Mod (fun k => k = g) w w' := by
  obtain ⟨W1, hW1⟩ : ∃ W1, W1 = w.alloc (Obj.cells (arr d).toArray 111) := ⟨_, rfl⟩
  obtain ⟨X, hX⟩ : ∃ X, X = w.heap.size := ⟨_, rfl⟩
  have hk : W1.heap[X]? = some (.cells (arr d).toArray 111 (0, 0)) := by rw [hW1, hX]; exact heap_alloc_new w _
  have hg : W1.heap[g]? = some (.cells (arr f).toArray T (0, 0)) := by rw [hW1]; exact (heap_alloc_old w _ (blk_lt h)).trans h
  have hgX : g ≠ X := by have := blk_lt h; omega
  have hm : Mod (fun k => k = g) w W1 := by rw [hW1]; exact (Mod.refl _ _).alloc _
  have HK := Lib.hid hk
  have HG := Lib.hid hg
  have HM := Lib.hid hm
  have HGX := Lib.hid hgX
  have HF := Lib.hid hf
  have HD := Lib.hid hd
  clear hk hg hm hgX hf hd h
  go_enter Try.func102, Try.ntmps102
  go_upto_region 1 with fail
  rw [← hW1, ← hX]
  clear hW1 hX
  go_wp2_with fail
  go_loopw [5] (fun v wr => ∃ t : Nat, t ≤ 4 ∧ v = .int .i64 t ∧ Hid (wr.heap[g]? = some (.cells (arr fun i => if i < t then max (f i) (d i) else f i).toArray T (0, 0))) ∧ Hid (Mod (fun k => k = g) W1 wr)) (fun v _ => 4 - (intOf v).toNat)
  case atStart => exact ⟨0, Nat.zero_le _, rfl, Lib.hid (by rw [HG.out, arr_ext (f := f) (g := fun i => if i < 0 then max (f i) (d i) else f i) (fun t _ => by simp)]), Lib.hid (Mod.refl _ _)⟩
  case round =>
    obtain ⟨t, ht, rfl, HC, HW⟩ := hrel
    by_cases hlt : t < 4
    · have k1 : (0 : Int) ≤ (t : Int) := Int.natCast_nonneg _
      have k2 : (t : Int) < 4 := by omega
      have hc1 : ∀ u : World, u.heap[g]? = wr.heap[g]? → u.cell? ⟨g, t, none⟩ = some (.int .i64 (f t : Nat)) := fun u hu => by
        rw [cell_blk (hu.trans HC.out), List.getElem?_toArray, arr_get _ hlt, if_neg (by omega)]
      have hc2 : ∀ u : World, u.heap[X]? = wr.heap[X]? → u.cell? ⟨X, t, none⟩ = some (.int .i64 (d t : Nat)) := fun u hu => by
        rw [cell_blk ((hu.trans (HW.out.block X (blk_lt HK.out) (fun e => HGX.out e.symm))).trans HK.out), List.getElem?_toArray, arr_get _ hlt]
      have hfz : wr.frozen? ⟨g, t, none⟩ = false := free_blk HC.out _
      have hcg := hc1 wr rfl
      have hlg : g < wr.heap.size := blk_lt HC.out
      have hlx : X < wr.heap.size := by have := blk_lt HK.out; have := HW.out.size; omega
      have b1 := HF.out t
      have b2 := HD.out t
      have hset := set_blk HC.out t (.int .i64 ((max (f t) (d t) : Nat) : Int))
      rw [arr_set _ hlt] at hset
      have hnx : (arr fun i => if i = t then max (f t) (d t) else if i < t then max (f i) (d i) else f i) = arr fun i => if i < t + 1 then max (f i) (d i) else f i := arr_ext fun i _ => by
        by_cases h1 : i = t
        · subst h1; simp
        · simp only [if_neg h1]
          by_cases h2 : i < t
          · rw [if_pos h2, if_pos (by omega)]
          · rw [if_neg h2, if_neg (by omega)]
      rw [hnx] at hset
      have hmx : max (f t : Int) (d t : Int) = ((max (f t) (d t) : Nat) : Int) := by omega
      have HSET := Lib.hid hset
      have HC1 := Lib.hid hc1
      have HC2 := Lib.hid hc2
      generalize hft : f t = ft at *
      generalize hdt : d t = dt at *
      generalize hm : max ft dt = mx at *
      clear hset hnx hc1 hc2 hft hdt hmx
      have H3 : (ft < dt ∧ mx = dt) ∨ (ft = dt ∧ mx = dt) ∨ (dt < ft ∧ mx = ft) := by omega
      clear hm
      rcases H3 with ⟨h5, rfl⟩ | ⟨rfl, rfl⟩ | ⟨h5, rfl⟩
      all_goals
        go_wp2_with fail
        refine wp_region_plan (by kernel_rfl) (fun u => u.heap[g]? = wr.heap[g]? ∧ u.heap[X]? = wr.heap[X]?) [10, 13] [(0, .pure), (1, .pure), (2, .pure), (3, .pure), (4, .pure), (5, .pure), (6, .load), (7, .pure), (8, .pure), (9, .load), (11, .pure), (10, .last), (12, .pure), (13, .last)] (by simp only [List.map_cons, List.map_nil, List.getElem?_toArray, List.getElem?_cons_succ, List.getElem?_cons_zero]; rfl) (by kernel_rfl) (fun _ _ d _ _ h => by cases d <;> exact h) (⟨rfl, rfl⟩) ?_
        repeat (first
          | (refine plan_pure (v := ?_) (by rfl) (fun w1 => ?_) ?_
             rotate_left
             · go_simp <;> with_reducible rfl
             simp only [Act.put, List.setIfInBounds_toArray, List.set_cons_zero, List.set_cons_succ])
          | (refine plan_off (by rfl) ?_
             simp only [Act.put, List.setIfInBounds_toArray, List.set_cons_zero, List.set_cons_succ])
          | (refine plan_load_off (by rfl) ?_
             simp only [Act.put, List.setIfInBounds_toArray, List.set_cons_zero, List.set_cons_succ])
          | (refine plan_load (v := ?_) (by rfl) (fun w1 hw1 => ?_) ?_
             rotate_left
             · (have q0 := HC1.out w1 hw1.1
                have q1 := HC2.out w1 hw1.2
                clear hw1
                go_simp <;> with_reducible rfl)
             simp only [Act.put, List.setIfInBounds_toArray, List.set_cons_zero, List.set_cons_succ]))
        refine plan_last ?_
        go_wp2_with fail
        repeat (first
          | (refine plan_pure (v := ?_) (by rfl) (fun w1 => ?_) ?_
             rotate_left
             · go_simp <;> with_reducible rfl
             simp only [Act.put, List.setIfInBounds_toArray, List.set_cons_zero, List.set_cons_succ])
          | (refine plan_off (by rfl) ?_
             simp only [Act.put, List.setIfInBounds_toArray, List.set_cons_zero, List.set_cons_succ])
          | (refine plan_load_off (by rfl) ?_
             simp only [Act.put, List.setIfInBounds_toArray, List.set_cons_zero, List.set_cons_succ])
          | (refine plan_load (v := ?_) (by rfl) (fun w1 hw1 => ?_) ?_
             rotate_left
             · (skip
                clear hw1
                go_simp <;> with_reducible rfl)
             simp only [Act.put, List.setIfInBounds_toArray, List.set_cons_zero, List.set_cons_succ]))
        refine plan_last ?_
        go_wp2_with fail
        refine plan_end ?_
        go_wp2_with fail
        go_roundw
        case rel => exact ⟨t + 1, by omega, by go_num, Lib.hid HSET.out, Lib.hid (Mod.trans HW.out ((Mod.refl (fun k => k = g) wr).drew.setCell (p := ⟨g, t, none⟩) (fun _ => rfl) _))⟩
        case measure => simp [intOf]; omega
    · have ht4 : t = 4 := by omega
      have hfin : (arr fun i => if i < t then max (f i) (d i) else f i) = arr fun i => max (f i) (d i) := arr_ext fun i hi => by rw [if_pos (by omega)]
      have HFIN := Lib.hid hfin
      have HT := Lib.hid ht4
      clear hfin ht4
      go_wp2_with fail
      go_end0
      exact ⟨rfl, by rw [HC.out, HFIN.out], HM.out.trans HW.out⟩
end Go.Proofs.Ytgahjibjladafaa
