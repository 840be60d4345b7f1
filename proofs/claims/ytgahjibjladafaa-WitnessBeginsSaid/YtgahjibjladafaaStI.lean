/- Who may step? -/
import Derived.Test.YtgahjibjladafaaStH
import Derived.Test.YtgahjibjladafaaApp
namespace Go.Proofs.Ytgahjibjladafaa
open Go.RowKit
set_option linter.unusedVariables false

namespace Pr
def enabled (s : St) (t : Nat) : Bool :=
  match next s t with
  | none => false
  | some e => decide (e.k ≠ 4) || decide (s.h e.o.toNat < 0)
def all (s : St) : List Nat := (List.range s.th.length).filter (enabled s)
theorem next_lock {s : St} (hw : Wf s) {t : Nat} {e : Ev} (h : next s t = some e) (hk : e.k = 4) : ∃ m : Nat, e.o = m ∧ m < 2 := by
  unfold next at h
  obtain ⟨i, hi, rfl⟩ := Option.map_eq_some_iff.1 h
  obtain ⟨n, _, _, hok⟩ := hw.insOk hi
  have h5 : i.k = 5 := by
    unfold evOf at hk
    by_cases h1 : i.k = 1
    · simp [h1] at hk
    · by_cases h2 : i.k = 2
      · simp [h2] at hk
      · by_cases h5 : i.k = 5
        · exact h5
        · rw [if_neg h1, if_neg h2, if_neg h5] at hk
          by_cases h6 : i.k = 6
          · rw [if_pos h6] at hk
            split at hk <;> simp at hk
          · rw [if_neg h6] at hk
            split at hk <;> simp at hk
  have h2 := hok.2.2.2.2.2.2.2.2.2.2.1 (Or.inl h5)
  have h0 := hok.2.2.2.2.2.1
  have hm := hw.ok.1.2.2.2.1
  have ho : (evOf s t i).o = i.x := by unfold evOf; simp [h5]
  exact ⟨i.x.toNat, by rw [ho]; omega, by omega⟩
end Pr
theorem ev_box (w : World) (e : Ev) : ∃ W X, W = w.alloc (Obj.cells #[.int .i64 e.t, .int .i64 e.k, .int .i64 e.o, .bool e.f] 39) ∧ X = w.heap.size ∧ Below w.heap.size w W ∧ X < W.heap.size ∧ ∀ u, Below W.heap.size W u → EvAt u X 0 e ∧ X < u.heap.size := by
  refine ⟨_, _, rfl, rfl, (Below.refl _ _).alloc (Nat.le_refl _) _, by simp, fun u hu => ?_⟩
  have h1 := heap_alloc_new w (Obj.cells #[.int .i64 e.t, .int .i64 e.k, .int .i64 e.o, .bool e.f] 39)
  have g1 := (hu.block _ (blk_lt h1)).trans h1
  exact ⟨⟨by rw [cell_blk g1]; rfl, by rw [cell_blk g1]; rfl, by rw [cell_blk g1]; rfl, by rw [cell_blk g1]; rfl⟩, blk_lt g1⟩
set_option maxRecDepth 100000 in
set_option maxHeartbeats 2000000 in
theorem enabled_any (w : World) (C : Nat → Prop) (S T : Nat) (s : St) (t : Nat) (h : SAt w C S T s) (hw : Pr.Wf s) (ht : t < s.th.length) :
    Calls Try.prog 78 #[.pointer (some ⟨S, 0, none⟩), .int .i64 (t : Int)] w fun x w' => x = .returned (.bool (Pr.enabled s t)) ∧ Below w.heap.size w w' := by
  have hcall := next_any w C S T s t h hw ht
  have hlk : ∀ e, Pr.next s t = some e → e.k = 4 → ∃ m : Nat, e.o = m ∧ m < 2 := fun e he hk => Pr.next_lock hw he hk
  have hen : Pr.enabled s t = match Pr.next s t with | none => false | some e => decide (e.k ≠ 4) || decide (s.h e.o.toNat < 0) := rfl
  obtain ⟨q, hq⟩ : ∃ q, q = Pr.next s t := ⟨_, rfl⟩
  rw [← hq] at hcall hlk hen
  rw [hen]
  have HCALL := Lib.hid hcall
  have HLK := Lib.hid hlk
  have HS := Lib.hid h
  clear hcall hlk hen hq h hw ht
  go_enter Try.func78, Try.ntmps78
  go_wp2_with fail
  refine HCALL.out.mono ?_
  rintro y w1 ⟨rfl, b1⟩
  have HB1 := Lib.hid b1
  clear b1 HCALL
  obtain ⟨e, he⟩ : ∃ e, e = q.getD Pr.zeroE := ⟨_, rfl⟩
  obtain ⟨Wz, Z, hWz, hZ, hBz, hZl, hZe⟩ := ev_box w1 e
  rw [← he]
  have HZE := Lib.hid hZe
  have HB2 := Lib.hid (below_at HB1.out hBz)
  have HE := Lib.hid he
  unfold valE
  clear hZe hZl hBz he HB1
  cases q with
  | none =>
    simp only [Option.isSome_none]
    go_upto_region 2 with fail
    rw [← hWz, ← hZ]
    clear hWz hZ
    refine wp_region_planF (by kernel_rfl) (fun u => Below Wz.heap.size Wz u) [] [(0, .pure), (1, .pure), (2, .pure), (3, .load), (4, .pure), (5, .pure), (6, .pure), (7, .pure), (8, .load), (9, .pure), (10, .pure), (11, .pure), (12, .load), (13, .pure), (14, .pure), (15, .pure), (16, .pure)] (by simp only [List.map_cons, List.map_nil, List.getElem?_toArray, List.getElem?_cons_succ, List.getElem?_cons_zero]; rfl) (by kernel_rfl) (fun _ _ d _ _ h => by cases d <;> exact h) ((Below.refl _ _).drew) ?_
    repeat (first
      | (refine plan_pure (v := ?_) (by rfl) (fun w1 => ?_) ?_
         rotate_left
         · go_simp <;> with_reducible rfl
         simp only [Act.put, List.setIfInBounds_toArray, List.set_cons_zero, List.set_cons_succ])
      | (refine plan_off (by rfl) ?_
         simp only [Act.put, List.setIfInBounds_toArray, List.set_cons_zero, List.set_cons_succ])
      | (refine plan_load_off (by rfl) ?_
         simp only [Act.put, List.setIfInBounds_toArray, List.set_cons_zero, List.set_cons_succ])
      | (refine plan_load (v := ?_) (by rfl) (fun w1 hw1 => ?_) ?_
         rotate_left
         · (skip
            clear hw1
            go_simp <;> with_reducible rfl)
         simp only [Act.put, List.setIfInBounds_toArray, List.set_cons_zero, List.set_cons_succ]))
    refine plan_end ?_
    go_wp2_with fail
    go_ret
    exact ⟨rfl, HB2.out.drew⟩
  | some e' =>
    have hee : e = e' := HE.out
    subst hee
    have HL := Lib.hid (HLK.out e rfl)
    clear HLK HE
    obtain ⟨et, ek, eo, ef⟩ := e
    simp only [Option.isSome_some] at *
    go_upto_region 2 with fail
    rw [← hWz, ← hZ]
    clear hWz hZ
    by_cases h4 : ek = 4
    · subst h4
      obtain ⟨m, rfl, hm⟩ := HL.out rfl
      obtain ⟨y, hy⟩ : ∃ y, y = s.h m := ⟨_, rfl⟩
      have HY := Lib.hid hy
      have k1 : (0 : Int) ≤ (m : Int) := Int.natCast_nonneg _
      have k2 : (m : Int) < 2 := by omega
      clear hy
      by_cases hy : y < 0
      · have hd : decide (y < 0) = true := decide_eq_true hy
        refine wp_region_planF (by kernel_rfl) (fun u => Below Wz.heap.size Wz u) [] [(0, .pure), (1, .pure), (2, .pure), (3, .load), (4, .pure), (5, .pure), (6, .pure), (7, .pure), (8, .load), (9, .pure), (10, .pure), (11, .pure), (12, .load), (13, .pure), (14, .pure), (15, .pure), (16, .pure)] (by simp only [List.map_cons, List.map_nil, List.getElem?_toArray, List.getElem?_cons_succ, List.getElem?_cons_zero]; rfl) (by kernel_rfl) (fun _ _ d _ _ h => by cases d <;> exact h) ((Below.refl _ _).drew) ?_
        repeat (first
          | (refine plan_pure (v := ?_) (by rfl) (fun w1 => ?_) ?_
             rotate_left
             · go_simp <;> with_reducible rfl
             simp only [Act.put, List.setIfInBounds_toArray, List.set_cons_zero, List.set_cons_succ])
          | (refine plan_off (by rfl) ?_
             simp only [Act.put, List.setIfInBounds_toArray, List.set_cons_zero, List.set_cons_succ])
          | (refine plan_load_off (by rfl) ?_
             simp only [Act.put, List.setIfInBounds_toArray, List.set_cons_zero, List.set_cons_succ])
          | (refine plan_load (v := ?_) (by rfl) (fun w1 hw1 => ?_) ?_
             rotate_left
             · (have q := (HZE.out w1 hw1).1
                have q1 := q.2.1
                have q2 := q.2.2.1
                simp only [Nat.zero_add] at q1 q2
                clear q
                obtain ⟨PA, pc, _, _, _, _, _, qh, _⟩ := (HS.out.below (HB2.out.trans (hw1.mono HB2.out.size))).cells
                have q3 := qh m hm
                rw [← HY.out] at q3
                clear qh
                clear hw1
                go_simp <;> with_reducible rfl)
             simp only [Act.put, List.setIfInBounds_toArray, List.set_cons_zero, List.set_cons_succ]))
        refine plan_end ?_
        go_wp2_with fail
        go_ret
        exact ⟨by simp [← HY.out, hy], HB2.out.drew⟩
      · have hd : decide (y < 0) = false := decide_eq_false hy
        refine wp_region_planF (by kernel_rfl) (fun u => Below Wz.heap.size Wz u) [] [(0, .pure), (1, .pure), (2, .pure), (3, .load), (4, .pure), (5, .pure), (6, .pure), (7, .pure), (8, .load), (9, .pure), (10, .pure), (11, .pure), (12, .load), (13, .pure), (14, .pure), (15, .pure), (16, .pure)] (by simp only [List.map_cons, List.map_nil, List.getElem?_toArray, List.getElem?_cons_succ, List.getElem?_cons_zero]; rfl) (by kernel_rfl) (fun _ _ d _ _ h => by cases d <;> exact h) ((Below.refl _ _).drew) ?_
        repeat (first
          | (refine plan_pure (v := ?_) (by rfl) (fun w1 => ?_) ?_
             rotate_left
             · go_simp <;> with_reducible rfl
             simp only [Act.put, List.setIfInBounds_toArray, List.set_cons_zero, List.set_cons_succ])
          | (refine plan_off (by rfl) ?_
             simp only [Act.put, List.setIfInBounds_toArray, List.set_cons_zero, List.set_cons_succ])
          | (refine plan_load_off (by rfl) ?_
             simp only [Act.put, List.setIfInBounds_toArray, List.set_cons_zero, List.set_cons_succ])
          | (refine plan_load (v := ?_) (by rfl) (fun w1 hw1 => ?_) ?_
             rotate_left
             · (have q := (HZE.out w1 hw1).1
                have q1 := q.2.1
                have q2 := q.2.2.1
                simp only [Nat.zero_add] at q1 q2
                clear q
                obtain ⟨PA, pc, _, _, _, _, _, qh, _⟩ := (HS.out.below (HB2.out.trans (hw1.mono HB2.out.size))).cells
                have q3 := qh m hm
                rw [← HY.out] at q3
                clear qh
                clear hw1
                go_simp <;> with_reducible rfl)
             simp only [Act.put, List.setIfInBounds_toArray, List.set_cons_zero, List.set_cons_succ]))
        refine plan_end ?_
        go_wp2_with fail
        go_ret
        exact ⟨by simp [← HY.out, hy], HB2.out.drew⟩
    · have hd : (ek == 4) = false := by simpa using h4
      have hd2 : (ek != 4) = true := by simpa using h4
      have hd3 : decide (ek = 4) = false := decide_eq_false h4
      refine wp_region_planF (by kernel_rfl) (fun u => Below Wz.heap.size Wz u) [] [(0, .pure), (1, .pure), (2, .pure), (3, .load), (4, .pure), (5, .pure), (6, .pure), (7, .pure), (8, .load), (9, .pure), (10, .pure), (11, .pure), (12, .load), (13, .pure), (14, .pure), (15, .pure), (16, .pure)] (by simp only [List.map_cons, List.map_nil, List.getElem?_toArray, List.getElem?_cons_succ, List.getElem?_cons_zero]; rfl) (by kernel_rfl) (fun _ _ d _ _ h => by cases d <;> exact h) ((Below.refl _ _).drew) ?_
      repeat (first
        | (refine plan_pure (v := ?_) (by rfl) (fun w1 => ?_) ?_
           rotate_left
           · go_simp <;> with_reducible rfl
           simp only [Act.put, List.setIfInBounds_toArray, List.set_cons_zero, List.set_cons_succ])
        | (refine plan_off (by rfl) ?_
           simp only [Act.put, List.setIfInBounds_toArray, List.set_cons_zero, List.set_cons_succ])
        | (refine plan_load_off (by rfl) ?_
           simp only [Act.put, List.setIfInBounds_toArray, List.set_cons_zero, List.set_cons_succ])
        | (refine plan_load (v := ?_) (by rfl) (fun w1 hw1 => ?_) ?_
           rotate_left
           · (have q := (HZE.out w1 hw1).1
              have q1 := q.2.1
              have q2 := q.2.2.1
              simp only [Nat.zero_add] at q1 q2
              clear q
              clear hw1
              go_simp <;> with_reducible rfl)
           simp only [Act.put, List.setIfInBounds_toArray, List.set_cons_zero, List.set_cons_succ]))
      refine plan_end ?_
      go_wp2_with fail
      go_ret
      exact ⟨by simp, HB2.out.drew⟩
end Go.Proofs.Ytgahjibjladafaa
