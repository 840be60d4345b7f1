/- Queues, fourth part: heap.Push, heap.Remove, and the queue's own methods over its pile. -/
import Derived.Test.YtedogccbndjdpaaQueC
import Derived.Deep.DeepCutAuto
namespace Go.Proofs.Ytedogccbndjdpaa
open Go.RowKit
set_option linter.unusedVariables false

theorem below_tr {a b c : World} (h : Below a.heap.size a b) (k : Below b.heap.size b c) : Below a.heap.size a c :=
  ⟨k.os.trans h.os, k.tape.trans h.tape, k.output.trans h.output, Nat.le_trans h.size k.size, fun i hi => (k.block i (Nat.lt_of_lt_of_le hi h.size)).trans (h.block i hi)⟩

set_option maxRecDepth 100000 in
theorem heapPush_in (w : World) (F : Nat → Prop) (Q : Nat) (h : List ByteArray) (hp : PileAt w F Q h) (s : ByteArray) (hl : h.length < 900000) :
    Calls Try.prog 41 #[pileI Q, .iface 9 (.string s)] w fun e w' => e = .returned (.tuple #[]) ∧ PileAt w' (fun k => F k ∨ w.heap.size ≤ k) Q (Hp.pushF ahead h s) ∧ Mod F w w' := by
  have n1 := Try.nilPush
  have n2 := Try.metPush
  have n3 := Try.nilLen
  have n4 := Try.metLen
  have HP := Lib.hid hp
  clear hp
  go_enter Try.func41, Try.ntmps41
  go_wp2_with (first | (go_at_call 77; refine (pilePush_in _ F Q h HP.out s (by omega)).mono ?_; rintro e w1 ⟨rfl, hp1, hm1⟩; have HP1 := Lib.hid hp1; have HM1 := Lib.hid hm1; clear hp1 hm1) | (go_at_call 74; refine (pileLen_in _ _ Q _ HP1.out).mono ?_; rintro e w2 ⟨rfl, rfl⟩; rw [show (h ++ [s]).length = h.length + 1 from by simp]; skip) | (go_at_call 47; refine (heapUp_in _ _ Q _ HP1.out h.length (by simp) (by simp; omega)).mono ?_; rintro e w3 ⟨rfl, hp3, hm3⟩))
  go_end0
  exact ⟨rfl, hp3, HM1.out.then hm3 (fun i hi h => by rcases h with h | h; exact h; omega)⟩

set_option maxRecDepth 100000 in
set_option maxHeartbeats 1000000 in
theorem heapRemove_in (w : World) (F : Nat → Prop) (Q : Nat) (h : List ByteArray) (hp : PileAt w F Q h) (i : Nat) (hi : i < h.length) (hl : h.length < 900000) (s : ByteArray) (hs : (Hp.remF ahead h i)[h.length - 1]? = some s) :
    Calls Try.prog 48 #[pileI Q, .int .i64 i] w fun e w' => e = .returned (.iface 9 (.string s)) ∧ PileAt w' F Q (Hp.remF ahead h i).dropLast ∧ Mod F w w' := by
  have n1 := Try.nilPop
  have n2 := Try.metPop
  have n3 := Try.nilLen
  have n4 := Try.metLen
  have n5 := Try.nilSwap
  have n6 := Try.metSwap
  obtain ⟨n, hn⟩ : ∃ n, h.length = n + 1 := ⟨h.length - 1, by omega⟩
  have hlen : ∀ v, PileAt v F Q h → Calls Try.prog 74 #[.pointer (some ⟨Q, 0, none⟩)] v fun e w' => e = .returned (.int .i64 ((n : Int) + 1)) ∧ v = w' := fun v hv => by
    have := pileLen_in v F Q h hv
    rw [hn] at this
    exact this
  have hrl : (Hp.remF ahead h i).length = h.length := Hp.remF_len ahead h i
  have hpop : ∀ v, PileAt v F Q (Hp.remF ahead h i) → Calls Try.prog 76 #[.pointer (some ⟨Q, 0, none⟩)] v fun e w' => e = .returned (.iface 9 (.string s)) ∧ PileAt w' F Q (Hp.remF ahead h i).dropLast ∧ Mod F v w' := fun v hv => pilePop_in v F Q _ hv s (by rw [hrl]; exact hs)
  have HLEN := Lib.hid hlen
  have HPOP := Lib.hid hpop
  have HP := Lib.hid hp
  have HN := Lib.hid hn
  have hnl : n < 900000 := by omega
  clear hp hlen hpop hrl hs
  by_cases hni : n = i
  · subst hni
    have hr : Hp.remF ahead h n = h := by unfold Hp.remF; rw [if_pos (by omega)]
    rw [hr] at HPOP
    have HR := Lib.hid hr
    clear hr hn
    go_enter Try.func48, Try.ntmps48
    go_wp2_with (first | (go_at_call 74; refine (HLEN.out _ HP.out).mono ?_; rintro e w2 ⟨rfl, rfl⟩) | (go_at_call 76; refine (HPOP.out _ HP.out).mono ?_; rintro e w3 ⟨rfl, hp3, hm3⟩))
    go_ret
    rw [HR.out]
    exact ⟨rfl, hp3, hm3⟩
  · have hni' : ((n : Int) == (i : Int)) = false := by rw [beq_eq_false_iff_ne]; omega
    have hswl : (Hp.swp h i n).length = n + 1 := by rw [Hp.swp_len]; exact hn
    have hdl := (Hp.downF_ge ahead n _ i (Hp.swp h i n) rfl).2.2.1
    have hrem : Hp.remF ahead h i = if i < (Hp.downF ahead (Hp.swp h i n) i n).2 then (Hp.downF ahead (Hp.swp h i n) i n).1 else Hp.upF ahead (Hp.downF ahead (Hp.swp h i n) i n).1 i := by
      unfold Hp.remF
      rw [hn, Nat.add_sub_cancel, if_neg hni]
    have hsw : ∀ v, PileAt v F Q h → Calls Try.prog 78 #[.pointer (some ⟨Q, 0, none⟩), .int .i64 i, .int .i64 n] v fun e w' => e = .returned (.tuple #[]) ∧ PileAt w' F Q (Hp.swp h i n) ∧ Mod F v w' := fun v hv => swap_in v F Q h hv i n hi (by omega)
    have hdn : ∀ v, PileAt v F Q (Hp.swp h i n) → Calls Try.prog 50 #[pileI Q, .int .i64 i, .int .i64 n] v fun e w' => e = .returned (.bool (decide (i < (Hp.downF ahead (Hp.swp h i n) i n).2))) ∧ PileAt w' F Q (Hp.downF ahead (Hp.swp h i n) i n).1 ∧ Mod F v w' := fun v hv => heapDown_in v F Q _ hv i n (by omega) (by omega) (by omega)
    have hup : ∀ v, PileAt v F Q (Hp.downF ahead (Hp.swp h i n) i n).1 → Calls Try.prog 47 #[pileI Q, .int .i64 i] v fun e w' => e = .returned (.tuple #[]) ∧ PileAt w' F Q (Hp.upF ahead (Hp.downF ahead (Hp.swp h i n) i n).1 i) ∧ Mod F v w' := fun v hv => heapUp_in v F Q _ hv i (by omega) (by omega)
    have HSW := Lib.hid hsw
    have HUP := Lib.hid hup
    clear hn hswl hdl hsw hup
    by_cases hmv : i < (Hp.downF ahead (Hp.swp h i n) i n).2
    · rw [if_pos hmv] at hrem
      rw [decide_eq_true hmv] at hdn
      have HDN := Lib.hid hdn
      rw [hrem] at HPOP
      have HR := Lib.hid hrem
      clear hrem hdn hmv
      go_enter Try.func48, Try.ntmps48
      go_wp2_with (first | (go_at_call 74; refine (HLEN.out _ HP.out).mono ?_; rintro e w2 ⟨rfl, rfl⟩) | (go_at_call 78; refine (HSW.out _ HP.out).mono ?_; rintro e w3 ⟨rfl, hp3, hm3⟩) | (go_at_call 50; refine (HDN.out _ hp3).mono ?_; rintro e w4 ⟨rfl, hp4, hm4⟩) | (go_at_call 76; refine (HPOP.out _ hp4).mono ?_; rintro e w5 ⟨rfl, hp5, hm5⟩))
      go_ret
      rw [HR.out]
      exact ⟨rfl, hp5, (hm3.trans hm4).trans hm5⟩
    · rw [if_neg hmv] at hrem
      rw [decide_eq_false hmv] at hdn
      have HDN := Lib.hid hdn
      rw [hrem] at HPOP
      have HR := Lib.hid hrem
      clear hrem hdn hmv
      go_enter Try.func48, Try.ntmps48
      go_wp2_with (first | (go_at_call 74; refine (HLEN.out _ HP.out).mono ?_; rintro e w2 ⟨rfl, rfl⟩) | (go_at_call 78; refine (HSW.out _ HP.out).mono ?_; rintro e w3 ⟨rfl, hp3, hm3⟩) | (go_at_call 50; refine (HDN.out _ hp3).mono ?_; rintro e w4 ⟨rfl, hp4, hm4⟩) | (go_at_call 47; refine (HUP.out _ hp4).mono ?_; rintro e w6 ⟨rfl, hp6, hm6⟩) | (go_at_call 76; refine (HPOP.out _ hp6).mono ?_; rintro e w5 ⟨rfl, hp5, hm5⟩))
      go_ret
      rw [HR.out]
      exact ⟨rfl, hp5, ((hm3.trans hm4).trans hm6).trans hm5⟩

theorem top_in (w : World) (Q : Nat) : Calls Try.prog 43 #[.pointer (some ⟨Q, 0, none⟩)] w fun e w' => e = .returned (.int .i64 0) ∧ w = w' := by
  go_enter Try.func43, Try.ntmps43
  go_wp2
  go_ret
  exact ⟨rfl, rfl⟩
theorem queLen_nil (w : World) : Calls Try.prog 26 #[.pointer none] w fun e w' => e = .returned (.int .i64 0) ∧ w = w' := by
  go_enter Try.func26, Try.ntmps26
  go_wp2
  go_ret
  exact ⟨rfl, rfl⟩
theorem queLen_in (w : World) (F : Nat → Prop) (Q : Nat) (h : List ByteArray) (hp : PileAt w F Q h) :
    Calls Try.prog 26 #[.pointer (some ⟨Q, 0, none⟩)] w fun e w' => e = .returned (.int .i64 h.length) ∧ w = w' := by
  obtain ⟨A, cap, h1, h2, h3, h4⟩ := hp
  have c0 : w.cell? ⟨Q, 0, none⟩ = some (.slice A h.length cap) := by rw [cell_blk h2]; rfl
  clear h2 h3
  go_enter Try.func26, Try.ntmps26
  go_wp2
  go_ret
  exact ⟨rfl, rfl⟩
theorem quePush_nil (w : World) (s : ByteArray) : Calls Try.prog 22 #[.pointer none, .string s] w fun e w' => e = .returned (.tuple #[]) ∧ w = w' := by
  go_enter Try.func22, Try.ntmps22
  go_wp2
  go_end0
  exact ⟨rfl, rfl⟩

set_option maxRecDepth 100000 in
theorem end_in (w : World) (F : Nat → Prop) (Q : Nat) (h : List ByteArray) (hp : PileAt w F Q h) (hl : h.length < 900000) :
    Calls Try.prog 44 #[.pointer (some ⟨Q, 0, none⟩)] w fun e w' => e = .returned (.int .i64 (Hp.endF ahead h h.length)) ∧ Below w.heap.size w w' := by
  by_cases h0 : h.length = 0
  · have : h = [] := List.eq_nil_of_length_eq_zero h0
    subst this
    obtain ⟨A, cap, h1, h2, h3, h4⟩ := hp
    have c0 : w.cell? ⟨Q, 0, none⟩ = some (.slice A 0 cap) := by rw [cell_blk h2]; rfl
    clear h2 h3 h4 h0
    go_enter Try.func44, Try.ntmps44
    go_wp2
    refine wp_loop_rounds 1 ?_
    rw [rounds_succ]
    go_wp2
    go_ret
    exact ⟨rfl, Below.refl _ _⟩
  · obtain ⟨A, cap, h1, h2, h3, h4⟩ := hp
    obtain ⟨g, o, rfl⟩ := h3.some_of_pos (by have := h3.2.1; omega)
    have lQ := blk_lt h2
    have lg := h3.lt
    have c0 : w.cell? ⟨Q, 0, none⟩ = some (.slice (some ⟨g, o, none⟩) h.length cap) := by rw [cell_blk h2]; rfl
    have c1 : ∀ i, (hi : i < h.length) → w.cell? ⟨g, o + i, none⟩ = some (.string h[i]) := fun i hi => by rw [h3.cell i (by omega)]; simp [hi]
    have C0 := Lib.hid c0
    have C1 := Lib.hid c1
    have H0 := Lib.hid h0
    clear h2 h3 h4 c1 h0
    go_enter Try.func44, Try.ntmps44
    go_wp2_with fail
    clear c0
    go_loopw [3, 10] (fun a j wr => ∃ k at' : Nat, k ≤ h.length ∧ j = .int .i64 k ∧ a = .int .i64 at' ∧ Hid (at' = Hp.endF ahead h k ∧ at' < h.length ∧ Below w.heap.size w wr)) (fun _ j _ => h.length - (intOf j).toNat)
    case atStart => exact ⟨0, 0, Nat.zero_le _, rfl, rfl, Lib.hid ⟨rfl, Nat.pos_of_ne_zero H0.out, Below.refl _ _⟩⟩
    case round =>
      obtain ⟨k, a, hk, rfl, rfl, HX⟩ := hrel
      by_cases hlt : k < h.length
      · have x1 := HX.out.2.1
        have x2 := HX.out.2.2.size
        have c1 := C1.out k hlt
        have c2 := C1.out a x1
        have m1 : Mod (fun _ => False) w wr := Mod.of_below_size HX.out.2.2 _
        have d0 := (m1.cell Q 0 lQ id).trans C0.out
        have d1 := (m1.cell g (o + k) lg id).trans c1
        have d2 := (m1.cell g (o + a) lg id).trans c2
        have k1 : (0 : Int) ≤ (k : Int) := Int.natCast_nonneg _
        have k2 : (k : Int) < (h.length : Int) := by omega
        have k3 : (0 : Int) ≤ (a : Int) := Int.natCast_nonneg _
        have k4 : (a : Int) < (h.length : Int) := by omega
        obtain ⟨b, hb⟩ : ∃ b : Bool, b = Hp.lss ahead h a k := ⟨_, rfl⟩
        have hv : decide (0 < cmpV h[k] h[a]) = b := by rw [cmpV_pos, hb, Hp.lss_at ahead x1 hlt]
        have HB := Lib.hid hb
        clear c1 c2 m1 hb
        go_upto_region 5 with fail
        refine wp_region_plan (by kernel_rfl) (fun u => Mod (fun _ => False) wr u) [14] [(0, .pure), (1, .pure), (2, .pure), (3, .load), (4, .pure), (5, .pure), (6, .load), (7, .pure), (8, .pure), (9, .pure), (10, .load), (11, .pure), (12, .pure), (13, .load), (14, .last), (15, .pure)] (by simp only [List.map_cons, List.map_nil, List.getElem?_toArray, List.getElem?_cons_succ, List.getElem?_cons_zero]; rfl) (by kernel_rfl) (fun _ _ d _ _ h => by cases d <;> exact h) ((Mod.refl _ _).drew) ?_
        repeat (first
          | (refine plan_pure (v := ?_) (by rfl) (fun w1 => ?_) ?_
             rotate_left
             · go_simp <;> with_reducible rfl
             simp only [Act.put, List.setIfInBounds_toArray, List.set_cons_zero, List.set_cons_succ])
          | (refine plan_off (by rfl) ?_
             simp only [Act.put, List.setIfInBounds_toArray, List.set_cons_zero, List.set_cons_succ])
          | (refine plan_load_off (by rfl) ?_
             simp only [Act.put, List.setIfInBounds_toArray, List.set_cons_zero, List.set_cons_succ])
          | (refine plan_load (v := ?_) (by rfl) (fun w1 hw1 => ?_) ?_
             rotate_left
             · (have q0 := (hw1.cell Q 0 (by omega) id).trans d0
                have q1 := (hw1.cell g (o + k) (by omega) id).trans d1
                have q2 := (hw1.cell g (o + a) (by omega) id).trans d2
                clear hw1
                go_simp <;> with_reducible rfl)
             simp only [Act.put, List.setIfInBounds_toArray, List.set_cons_zero, List.set_cons_succ]))
        refine plan_last ?_
        go_wp2_with fail
        refine (compare_any _ _ _).mono ?_
        rintro e w1 ⟨rfl, hb1⟩
        go_wp2_with fail
        repeat (first
          | (refine plan_pure (v := ?_) (by rfl) (fun w1 => ?_) ?_
             rotate_left
             · go_simp <;> with_reducible rfl
             simp only [Act.put, List.setIfInBounds_toArray, List.set_cons_zero, List.set_cons_succ])
          | (refine plan_off (by rfl) ?_
             simp only [Act.put, List.setIfInBounds_toArray, List.set_cons_zero, List.set_cons_succ])
          | (refine plan_load_off (by rfl) ?_
             simp only [Act.put, List.setIfInBounds_toArray, List.set_cons_zero, List.set_cons_succ])
          | (refine plan_load (v := ?_) (by rfl) (fun w1 hw1 => ?_) ?_
             rotate_left
             · (skip
                clear hw1
                go_simp <;> with_reducible rfl)
             simp only [Act.put, List.setIfInBounds_toArray, List.set_cons_zero, List.set_cons_succ]))
        refine plan_end ?_
        have hbw : Below wr.heap.size wr w1 := ⟨hb1.os, hb1.tape, hb1.output, hb1.size, hb1.block⟩
        have hbw2 : Below w.heap.size w w1 := ⟨hbw.os.trans HX.out.2.2.os, hbw.tape.trans HX.out.2.2.tape, hbw.output.trans HX.out.2.2.output, Nat.le_trans HX.out.2.2.size hbw.size, fun i hi => (hbw.block i (Nat.lt_of_lt_of_le hi HX.out.2.2.size)).trans (HX.out.2.2.block i hi)⟩
        have HBW := Lib.hid hbw2
        clear hb1 hbw hbw2 d0 d1 d2
        cases b with
        | true =>
          have hv' : (0 < cmpV h[k] h[a]) = True := by simpa using hv
          clear hv
          go_wp2_with fail
          go_roundw
          case rel => exact ⟨k + 1, k, by omega, by go_num, rfl, Lib.hid ⟨by rw [Hp.endF, ← HX.out.1, ← HB.out]; rfl, hlt, HBW.out⟩⟩
          case measure => simp [intOf]; omega
        | false =>
          have hv' : (0 < cmpV h[k] h[a]) = False := by simpa using hv
          clear hv
          go_wp2_with fail
          go_roundw
          case rel => exact ⟨k + 1, a, by omega, by go_num, rfl, Lib.hid ⟨by rw [Hp.endF, ← HX.out.1, ← HB.out]; rfl, x1, HBW.out⟩⟩
          case measure => simp [intOf]; omega
      · have hkn : k = h.length := by omega
        have HK := Lib.hid hkn
        clear hkn
        go_wp2_with fail
        go_ret
        exact ⟨by rw [HX.out.1, HK.out]; rfl, HX.out.2.2⟩
end Go.Proofs.Ytedogccbndjdpaa
