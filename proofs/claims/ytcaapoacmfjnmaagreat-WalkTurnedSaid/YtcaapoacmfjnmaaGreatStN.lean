/- Rows of whole numbers; the threads of events; what a state shows. -/
import Derived.Test.YtcaapoacmfjnmaaGreatStM
namespace Go.Proofs.YtcaapoacmfjnmaaGreat
open Go.RowKit
set_option linter.unusedVariables false

theorem int_cell {w : World} {B : Nat} {A : Option Addr} {ks : List Int} (h : RdB w B 1 A ks.length (ks.map iv)) : ∀ (k : Nat) (s : Int), ks[k]? = some s → ∃ g o, A = some ⟨g, o, none⟩ ∧ g < B ∧ ∀ u, Below B w u → u.cell? ⟨g, o + k, none⟩ = some (.int .i64 s) := fun k s hs => by
  obtain ⟨hk, rfl⟩ := List.getElem?_eq_some_iff.1 hs
  obtain ⟨g, o, hA, hg, hc⟩ := h.2 (by omega)
  refine ⟨g, o, hA, hg, fun u hu => ?_⟩
  rw [World.cell?_of_block (hu.block g hg), hc k (by omega), List.getElem?_map, List.getElem?_eq_getElem hk]
  rfl
set_option maxRecDepth 100000 in
set_option maxHeartbeats 2000000 in
theorem sameInts_any (w : World) (A : Option Addr) (cap : Nat) (a : List Int) (B : Option Addr) (cap' : Nat) (b : List Int) (ha : Rd w 1 A a.length (a.map iv)) (hb : Rd w 1 B b.length (b.map iv)) (hl : a.length < 4611686018427387904) :
    Calls Tryz.prog 21 #[.slice A a.length cap, .slice B b.length cap'] w fun x w' => x = .returned (.bool (decide (a = b))) ∧ Below w.heap.size w w' := by
  have HC := Lib.hid (int_cell ha.toB)
  have HD := Lib.hid (int_cell hb.toB)
  clear ha hb
  by_cases hlen : a.length = b.length
  · have hlen' : b.length = a.length := hlen.symm
    rw [hlen']
    have HL := Lib.hid hlen
    clear hlen hlen'
    go_enter Tryz.func21, Tryz.ntmps21
    go_wp2_with fail
    go_loopw [5] (fun v wr => ∃ k : Nat, k ≤ a.length ∧ v = .int .i64 k ∧ Hid (a.take k = b.take k) ∧ Below w.heap.size w wr) (fun v _ => a.length - (intOf v).toNat)
    case atStart => exact ⟨0, Nat.zero_le _, rfl, Lib.hid rfl, Below.refl _ _⟩
    case round =>
      obtain ⟨k, hk, rfl, HRT, hbw⟩ := hrel
      by_cases hlt : k < a.length
      · obtain ⟨x, hx⟩ := get_some hlt
        obtain ⟨y, hy⟩ := get_some (show k < b.length by have := HL.out; omega)
        obtain ⟨g, o, rfl, hg, hcl⟩ := HC.out k x hx
        obtain ⟨g', o', rfl, hg', hcl'⟩ := HD.out k y hy
        have v0 := hcl wr hbw
        have u0 := hcl' wr hbw
        have k1 : (0 : Int) ≤ (k : Int) := Int.natCast_nonneg _
        have k2 : (k : Int) < (a.length : Int) := by omega
        have htk : a.take (k + 1) = a.take k ++ [x] := by rw [List.take_add_one, hx]; rfl
        have htk' : b.take (k + 1) = b.take k ++ [y] := by rw [List.take_add_one, hy]; rfl
        have hne : x ≠ y → a ≠ b := fun h e => by subst e; rw [hx] at hy; exact h (Option.some.inj hy)
        have lg : g < wr.heap.size := by have := hbw.size; omega
        have lg' : g' < wr.heap.size := by have := hbw.size; omega
        have HTK := Lib.hid htk
        have HTK' := Lib.hid htk'
        have HNE := Lib.hid hne
        have HBW := Lib.hid hbw
        clear htk htk' hne hcl hcl' hbw hx hy
        by_cases hxy : x = y
        · have e3 : (x == y) = true := by simpa using hxy
          have e4 : (x != y) = false := by simpa using hxy
          have HXY := Lib.hid hxy
          clear hxy
          go_wp2_with fail
          refine wp_region_plan (by kernel_rfl) (fun u => Mod (fun _ => False) wr u) [] [(0, .pure), (1, .pure), (2, .pure), (3, .load), (4, .pure), (5, .pure), (6, .pure), (7, .load), (8, .pure)] (by simp only [List.map_cons, List.map_nil, List.getElem?_toArray, List.getElem?_cons_succ, List.getElem?_cons_zero]; rfl) (by kernel_rfl) (fun _ _ d _ _ h => by cases d <;> exact h) ((Mod.refl _ _).drew) ?_
          repeat (first
            | (refine plan_pure (v := ?_) (by rfl) (fun w1 => ?_) ?_
               rotate_left
               · go_simp <;> with_reducible rfl
               simp only [Act.put, List.setIfInBounds_toArray, List.set_cons_zero, List.set_cons_succ])
            | (refine plan_off (by rfl) ?_
               simp only [Act.put, List.setIfInBounds_toArray, List.set_cons_zero, List.set_cons_succ])
            | (refine plan_load_off (by rfl) ?_
               simp only [Act.put, List.setIfInBounds_toArray, List.set_cons_zero, List.set_cons_succ])
            | (refine plan_load (v := ?_) (by rfl) (fun w1 hw1 => ?_) ?_
               rotate_left
               · (have q0 := (hw1.cell g (o + k) lg id).trans v0
                  have q1 := (hw1.cell g' (o' + k) lg' id).trans u0
                  clear hw1
                  go_simp <;> with_reducible rfl)
               simp only [Act.put, List.setIfInBounds_toArray, List.set_cons_zero, List.set_cons_succ]))
          refine plan_end ?_
          go_wp2_with fail
          go_roundw
          case rel => exact ⟨k + 1, by omega, by go_num, Lib.hid (by rw [HTK.out, HTK'.out, HRT.out, HXY.out]), HBW.out.trans ⟨rfl, rfl, rfl, Nat.le_refl _, fun _ _ => rfl⟩⟩
          case measure => simp [intOf]; omega
        · have e3 : (x == y) = false := by simpa using hxy
          have e4 : (x != y) = true := by simpa using hxy
          have HXY := Lib.hid hxy
          clear hxy
          go_wp2_with fail
          refine wp_region_plan (by kernel_rfl) (fun u => Mod (fun _ => False) wr u) [] [(0, .pure), (1, .pure), (2, .pure), (3, .load), (4, .pure), (5, .pure), (6, .pure), (7, .load), (8, .pure)] (by simp only [List.map_cons, List.map_nil, List.getElem?_toArray, List.getElem?_cons_succ, List.getElem?_cons_zero]; rfl) (by kernel_rfl) (fun _ _ d _ _ h => by cases d <;> exact h) ((Mod.refl _ _).drew) ?_
          repeat (first
            | (refine plan_pure (v := ?_) (by rfl) (fun w1 => ?_) ?_
               rotate_left
               · go_simp <;> with_reducible rfl
               simp only [Act.put, List.setIfInBounds_toArray, List.set_cons_zero, List.set_cons_succ])
            | (refine plan_off (by rfl) ?_
               simp only [Act.put, List.setIfInBounds_toArray, List.set_cons_zero, List.set_cons_succ])
            | (refine plan_load_off (by rfl) ?_
               simp only [Act.put, List.setIfInBounds_toArray, List.set_cons_zero, List.set_cons_succ])
            | (refine plan_load (v := ?_) (by rfl) (fun w1 hw1 => ?_) ?_
               rotate_left
               · (have q0 := (hw1.cell g (o + k) lg id).trans v0
                  have q1 := (hw1.cell g' (o' + k) lg' id).trans u0
                  clear hw1
                  go_simp <;> with_reducible rfl)
               simp only [Act.put, List.setIfInBounds_toArray, List.set_cons_zero, List.set_cons_succ]))
          refine plan_end ?_
          go_wp2_with fail
          go_ret
          exact ⟨by rw [decide_eq_false (HNE.out HXY.out)]; rfl, HBW.out.trans ⟨rfl, rfl, rfl, Nat.le_refl _, fun _ _ => rfl⟩⟩
      · have hkn : k = a.length := by omega
        have HK := Lib.hid hkn
        have HBW := Lib.hid hbw
        clear hkn hbw
        go_wp2_with fail
        go_ret
        have h1 := HRT.out
        rw [HK.out, List.take_length, HL.out, List.take_length] at h1
        exact ⟨by rw [decide_eq_true h1]; rfl, HBW.out⟩
  · have e1 : ((a.length : Int) == (b.length : Int)) = false := by rw [beq_eq_false_iff_ne]; omega
    have hne : a ≠ b := fun e => hlen (by rw [e])
    have HNE := Lib.hid hne
    clear hlen hne
    go_enter Tryz.func21, Tryz.ntmps21
    go_wp2_with fail
    go_ret
    exact ⟨by rw [decide_eq_false HNE.out]; rfl, Below.refl _ _⟩


set_option maxRecDepth 100000 in
set_option maxHeartbeats 2000000 in
theorem refThreads_any (w : World) (A : Option Addr) (cap : Nat) (l : List Ev) (hr : Rd w 4 A l.length (l.flatMap encE)) (hl : l.length ≤ 1000000) :
    Calls Tryz.prog 54 #[.slice A l.length cap] w fun x w' => ∃ A' cap', x = .returned (.slice A' (l.map Ev.t).length cap') ∧ IntsAt w w' A' cap' (l.map Ev.t) ∧ Below w.heap.size w w' := by
  have HC := Lib.hid (evs_cell hr.toB)
  obtain ⟨i0, hi0, hz0, hz1, hz2⟩ := info_parts Tryz.infoInt
  have hll : l.length < 9223372036854775808 := by omega
  have HL := Lib.hid hl
  clear hr hl
  go_enter Tryz.func54, Tryz.ntmps54
  go_wp2_with fail
  go_loopw [3, 4] (fun r v wr => ∃ (k : Nat) (A' : Option Addr) (cap' : Nat), k ≤ l.length ∧ v = .int .i64 k ∧ r = .slice A' k cap' ∧ Hid (Row wr 3 1 A' k cap' (((l.take k).map Ev.t).map iv)) ∧ Hid (∀ a, A' = some a → w.heap.size ≤ a.block) ∧ Hid (Below w.heap.size w wr)) (fun _ v _ => l.length - (intOf v).toNat)
  case atStart => exact ⟨0, none, 0, Nat.zero_le _, rfl, rfl, Lib.hid (Row.nil _ _ _), Lib.hid (fun a h => by cases h), Lib.hid (Below.refl _ _)⟩
  case round =>
    obtain ⟨k, A', cap', hk, rfl, rfl, HR, HA, HB⟩ := hrel
    by_cases hlt : k < l.length
    · obtain ⟨g, o, rfl, hg, hcl⟩ := HC.out k hlt
      obtain ⟨v0, v1, v2, v3⟩ := hcl wr HB.out
      have k1 : (0 : Int) ≤ (k : Int) := Int.natCast_nonneg _
      have k2 : (k : Int) < (l.length : Int) := by omega
      have lg : g < wr.heap.size := by have := HB.out.size; omega
      have htk : (l.take (k + 1)).map Ev.t = (l.take k).map Ev.t ++ [l[k].t] := by rw [List.take_add_one, List.getElem?_eq_getElem hlt, List.map_append]; rfl
      obtain ⟨et, het⟩ : ∃ z, z = l[k].t := ⟨_, rfl⟩
      rw [← het] at v0 htk
      have HTK := Lib.hid htk
      
      clear hcl htk het
      go_wp2_with (at_builtin; refine wpList_append_row (by rfl) _ _ _ (by rfl) 3 i0 _ 1 8 Tryz.underlying25 hi0 hz0 hz1 hz2 rfl (by omega) A' k cap' (((l.take k).map Ev.t).map iv) (by rfl) (HR.out.alloc _) ⟨wr.heap.size, 0, none⟩ 1 1 [.int .i64 et] (by rfl) (by rfl) (World.news_of_block (cs := #[.int .i64 et]) (t := 3) (fr := (0, 0)) (heap_alloc_new wr _)) (by simp [Value.oneCell']) (by omega) (by have := HL.out; unfold maxLen; omega) (by have := HL.out; omega) ?_; intro g1 of1 cap1 w3 hown hm hat; skip)
      obtain ⟨q1, q2⟩ := acc_more HA.out HB.out hm hat (of := of1)
      go_roundw
      case rel =>
        refine ⟨k + 1, some ⟨g1, of1, none⟩, cap1, by omega, by go_num, rfl, Lib.hid ?_, Lib.hid q1, Lib.hid q2⟩
        rw [HTK.out]
        simpa [iv] using hown
      case measure => simp [intOf]; omega
    · obtain rfl : k = l.length := by omega
      have hr := HR.out
      rw [List.take_length] at hr
      have HR := Lib.hid hr
      clear hr
      go_wp2_with fail
      go_ret
      simp only [List.length_map]
      exact ⟨A', cap', rfl, ⟨by rw [List.length_map]; exact HR.out, HA.out⟩, HB.out⟩

set_option maxRecDepth 100000 in
set_option maxHeartbeats 2000000 in
theorem evThreads_any (w : World) (A : Option Addr) (cap : Nat) (l : List Ev) (hr : Rd w 4 A l.length (l.flatMap encE)) (hl : l.length ≤ 1000000) :
    Calls Tryz.prog 51 #[.slice A l.length cap] w fun x w' => ∃ A' cap', x = .returned (.slice A' (l.map Ev.t).length cap') ∧ IntsAt w w' A' cap' (l.map Ev.t) ∧ Below w.heap.size w w' := by
  have HC := Lib.hid (evs_cell hr.toB)
  obtain ⟨i0, hi0, hz0, hz1, hz2⟩ := info_parts Tryz.infoInt
  have hll : l.length < 9223372036854775808 := by omega
  have HL := Lib.hid hl
  clear hr hl
  go_enter Tryz.func51, Tryz.ntmps51
  go_wp2_with fail
  go_loopw [2, 7] (fun r v wr => ∃ (k : Nat) (A' : Option Addr) (cap' : Nat), k ≤ l.length ∧ v = .int .i64 k ∧ r = .slice A' k cap' ∧ Hid (Row wr 3 1 A' k cap' (((l.take k).map Ev.t).map iv)) ∧ Hid (∀ a, A' = some a → w.heap.size ≤ a.block) ∧ Hid (Below w.heap.size w wr)) (fun _ v _ => l.length - (intOf v).toNat)
  case atStart => exact ⟨0, none, 0, Nat.zero_le _, rfl, rfl, Lib.hid (Row.nil _ _ _), Lib.hid (fun a h => by cases h), Lib.hid (Below.refl _ _)⟩
  case round =>
    obtain ⟨k, A', cap', hk, rfl, rfl, HR, HA, HB⟩ := hrel
    by_cases hlt : k < l.length
    · obtain ⟨g, o, rfl, hg, hcl⟩ := HC.out k hlt
      obtain ⟨v0, v1, v2, v3⟩ := hcl wr HB.out
      have k1 : (0 : Int) ≤ (k : Int) := Int.natCast_nonneg _
      have k2 : (k : Int) < (l.length : Int) := by omega
      have lg : g < wr.heap.size := by have := HB.out.size; omega
      have htk : (l.take (k + 1)).map Ev.t = (l.take k).map Ev.t ++ [l[k].t] := by rw [List.take_add_one, List.getElem?_eq_getElem hlt, List.map_append]; rfl
      obtain ⟨et, het⟩ : ∃ z, z = l[k].t := ⟨_, rfl⟩
      rw [← het] at v0 htk
      have HTK := Lib.hid htk
      clear hcl htk
      obtain ⟨Wz, Z, hWz, hZ, hBz, hZl, hZe⟩ := ev_box wr l[k]
      have HBZ := Lib.hid (below_at HB.out hBz)
      have HRZ := Lib.hid (row_stepS HR.out hBz)
      obtain ⟨⟨y0, y1, y2, y3⟩, yl⟩ := hZe Wz (Below.refl _ _)
      rw [← het] at hWz y0
      generalize l[k].k = ek at *
      generalize l[k].o = eo at *
      generalize l[k].f = ef at *
      clear y1 y2 y3 hBz hZl hZe het
      go_upto_region 4 with fail
      rw [← hWz, ← hZ]
      clear hWz hZ
      go_wp2_with (at_builtin; refine wpList_append_row (by rfl) _ _ _ (by rfl) 3 i0 _ 1 8 Tryz.underlying25 hi0 hz0 hz1 hz2 rfl (by omega) A' k cap' (((l.take k).map Ev.t).map iv) (by rfl) (HRZ.out.alloc _) ⟨Wz.heap.size, 0, none⟩ 1 1 [.int .i64 et] (by rfl) (by rfl) (World.news_of_block (cs := #[.int .i64 et]) (t := 3) (fr := (0, 0)) (heap_alloc_new Wz _)) (by simp [Value.oneCell']) (by omega) (by have := HL.out; unfold maxLen; omega) (by have := HL.out; omega) ?_; intro g1 of1 cap1 w3 hown hm hat; skip)
      obtain ⟨q1, q2⟩ := acc_more HA.out HBZ.out hm hat (of := of1)
      go_roundw
      case rel =>
        refine ⟨k + 1, some ⟨g1, of1, none⟩, cap1, by omega, by go_num, rfl, Lib.hid ?_, Lib.hid q1, Lib.hid q2⟩
        rw [HTK.out]
        simpa [iv] using hown
      case measure => simp [intOf]; omega
    · obtain rfl : k = l.length := by omega
      have hr := HR.out
      rw [List.take_length] at hr
      have HR := Lib.hid hr
      clear hr
      go_wp2_with fail
      go_ret
      simp only [List.length_map]
      exact ⟨A', cap', rfl, ⟨by rw [List.length_map]; exact HR.out, HA.out⟩, HB.out⟩

end Go.Proofs.YtcaapoacmfjnmaaGreat
