/- Queues, third part: container/heap over a pile. -/
import Derived.Test.YtedogccbndjdpaaQueB
namespace Go.Proofs.Ytedogccbndjdpaa
open Go.RowKit
set_option linter.unusedVariables false

abbrev pileI (Q : Nat) : Value := .iface 88 (.pointer (some ⟨Q, 0, none⟩))
theorem Try.nilLess (n : Nat) (a : Addr) (w : World) : (nilAhead (n + 1) 88 (.pointer (some a)) "Less").run Try.prog w = .ok (some false) w := by kernel_rfl
theorem Try.metLess (n : Nat) (a : Addr) (w : World) : (method (n + 1) 88 (.pointer (some a)) "Less").run Try.prog w = .ok (75, .pointer (some a)) w := by kernel_rfl
theorem Try.nilSwap (n : Nat) (a : Addr) (w : World) : (nilAhead (n + 1) 88 (.pointer (some a)) "Swap").run Try.prog w = .ok (some false) w := by kernel_rfl
theorem Try.metSwap (n : Nat) (a : Addr) (w : World) : (method (n + 1) 88 (.pointer (some a)) "Swap").run Try.prog w = .ok (78, .pointer (some a)) w := by kernel_rfl
theorem Try.nilLen (n : Nat) (a : Addr) (w : World) : (nilAhead (n + 1) 88 (.pointer (some a)) "Len").run Try.prog w = .ok (some false) w := by kernel_rfl
theorem Try.metLen (n : Nat) (a : Addr) (w : World) : (method (n + 1) 88 (.pointer (some a)) "Len").run Try.prog w = .ok (74, .pointer (some a)) w := by kernel_rfl
theorem Try.nilPush (n : Nat) (a : Addr) (w : World) : (nilAhead (n + 1) 88 (.pointer (some a)) "Push").run Try.prog w = .ok (some false) w := by kernel_rfl
theorem Try.metPush (n : Nat) (a : Addr) (w : World) : (method (n + 1) 88 (.pointer (some a)) "Push").run Try.prog w = .ok (77, .pointer (some a)) w := by kernel_rfl
theorem Try.nilPop (n : Nat) (a : Addr) (w : World) : (nilAhead (n + 1) 88 (.pointer (some a)) "Pop").run Try.prog w = .ok (some false) w := by kernel_rfl
theorem Try.metPop (n : Nat) (a : Addr) (w : World) : (method (n + 1) 88 (.pointer (some a)) "Pop").run Try.prog w = .ok (76, .pointer (some a)) w := by kernel_rfl

set_option maxRecDepth 100000 in
theorem heapUp_in (w : World) (F : Nat → Prop) (Q : Nat) (h : List ByteArray) (hp : PileAt w F Q h) (j : Nat) (hj : j < h.length) (hl : h.length < 1000000) :
    Calls Try.prog 47 #[pileI Q, .int .i64 j] w fun e w' => e = .returned (.tuple #[]) ∧ PileAt w' F Q (Hp.upF ahead h j) ∧ Mod F w w' := by
  have n1 := Try.nilLess
  have n2 := Try.metLess
  have n3 := Try.nilSwap
  have n4 := Try.metSwap
  have hI : ∃ g : List ByteArray, g.length = h.length ∧ PileAt w F Q g ∧ Mod F w w ∧ Hp.upF ahead g j = Hp.upF ahead h j := ⟨h, rfl, hp, Mod.refl _ _, rfl⟩
  have HI := Lib.hid hI
  clear hI hp
  go_enter Try.func47, Try.ntmps47
  go_wp2_with fail
  go_loopw [1] (fun v wr => ∃ i : Nat, i ≤ j ∧ v = .int .i64 i ∧ Hid (∃ g : List ByteArray, g.length = h.length ∧ PileAt wr F Q g ∧ Mod F w wr ∧ Hp.upF ahead g i = Hp.upF ahead h j)) (fun v _ => (intOf v).toNat)
  case atStart => exact ⟨j, Nat.le_refl _, rfl, HI⟩
  case round =>
    clear HI
    obtain ⟨i, hi, rfl, HG⟩ := hrel
    obtain ⟨g, hgl, hg, hm, he⟩ := HG.out
    have HP := Lib.hid hg
    have HM := Lib.hid hm
    have HE := Lib.hid he
    clear HG hg hm he
    by_cases h0 : i = 0
    · subst h0
      go_wp2_with fail
      go_end0
      have := HE.out
      rw [Hp.upF_zero] at this
      rw [← this]
      exact ⟨rfl, HP.out, HM.out⟩
    · obtain ⟨p, hpe⟩ : ∃ p : Nat, p = (i - 1) / 2 := ⟨_, rfl⟩
      have hq : Int.tdiv ((i : Int) - 1) 2 = (p : Int) := by
        rw [Int.tdiv_eq_ediv_of_nonneg (by omega)]
        omega
      have hpi : p < i := by omega
      have hne : ((p : Int) == (i : Int)) = false := by rw [beq_eq_false_iff_ne]; omega
      have HPE := Lib.hid hpe
      clear hpe
      have hL := less_in wr F Q g HP.out i p (by omega) (by omega)
      have HL := Lib.hid hL
      clear hL
      cases hls : Hp.lss ahead g i p with
      | false =>
        rw [hls] at HL
        go_wp2_with (go_at_call 75; refine HL.out.mono ?_; rintro e w1 ⟨rfl, hb1⟩)
        go_end0
        have := HE.out
        rw [Hp.upF_stop ahead (by rw [← HPE.out]; exact hls)] at this
        rw [← this]
        exact ⟨rfl, HP.out.below hb1, HM.out.trans (Mod.of_below_size hb1 F)⟩
      | true =>
        rw [hls] at HL
        go_wp2_with (first | (go_at_call 75; refine HL.out.mono ?_; rintro e w1 ⟨rfl, hb1⟩) | (go_at_call 78; refine (swap_in _ F Q g (HP.out.below hb1) p i (by omega) (by omega)).mono ?_; rintro e w2 ⟨rfl, hp2, hm2⟩))
        go_roundw
        case rel =>
          have := HE.out
          rw [Hp.upF_step ahead (by omega) (by rw [← HPE.out]; exact hls), ← HPE.out] at this
          exact ⟨p, by omega, rfl, Lib.hid ⟨Hp.swp g p i, by rw [Hp.swp_len]; exact hgl, hp2, (HM.out.trans (Mod.of_below_size hb1 F)).trans hm2, this⟩⟩
        case measure => simp [intOf]; omega

set_option maxRecDepth 100000 in
set_option maxHeartbeats 1000000 in
theorem heapDown_in (w : World) (F : Nat → Prop) (Q : Nat) (h : List ByteArray) (hp : PileAt w F Q h) (j n : Nat) (hn : n ≤ h.length) (hl : h.length < 1000000) (hj : j < n) :
    Calls Try.prog 50 #[pileI Q, .int .i64 j, .int .i64 n] w fun e w' => e = .returned (.bool (decide (j < (Hp.downF ahead h j n).2))) ∧ PileAt w' F Q (Hp.downF ahead h j n).1 ∧ Mod F w w' := by
  have n1 := Try.nilLess
  have n2 := Try.metLess
  have n3 := Try.nilSwap
  have n4 := Try.metSwap
  have hI : ∃ g : List ByteArray, g.length = h.length ∧ PileAt w F Q g ∧ Mod F w w ∧ Hp.downF ahead g j n = Hp.downF ahead h j n := ⟨h, rfl, hp, Mod.refl _ _, rfl⟩
  have HI := Lib.hid hI
  clear hI hp
  go_enter Try.func50, Try.ntmps50
  go_wp2_with fail
  go_loopw [7] (fun v wr => ∃ i : Nat, i < n ∧ v = .int .i64 i ∧ Hid (∃ g : List ByteArray, g.length = h.length ∧ PileAt wr F Q g ∧ Mod F w wr ∧ Hp.downF ahead g i n = Hp.downF ahead h j n)) (fun v _ => n - (intOf v).toNat)
  case atStart => exact ⟨j, hj, rfl, HI⟩
  case round =>
    clear HI
    obtain ⟨i, hi, rfl, HG⟩ := hrel
    obtain ⟨g, hgl, hg, hm, he⟩ := HG.out
    have HP := Lib.hid hg
    have HM := Lib.hid hm
    have HE := Lib.hid he
    clear HG hg hm he
    obtain ⟨c1, hc1⟩ : ∃ c1 : Nat, c1 = 2 * i + 1 := ⟨_, rfl⟩
    obtain ⟨c2, hc2⟩ : ∃ c2 : Nat, c2 = 2 * i + 2 := ⟨_, rfl⟩
    have e1 : (2 : Int) * (i : Int) + 1 = (c1 : Int) := by omega
    have e2 : (c1 : Int) + 1 = (c2 : Int) := by omega
    have HC1 := Lib.hid hc1
    have HC2 := Lib.hid hc2
    have z3 : i < 1000000 := by omega
    have fin : ∀ (c : Nat) (v : World), c < n → c = Hp.kid ahead g i n → Hp.lss ahead g c i = true → PileAt v F Q (Hp.swp g i c) → Mod F w v → 2 * i + 1 < n → i < c → ∃ g' : List ByteArray, g'.length = h.length ∧ PileAt v F Q g' ∧ Mod F w v ∧ Hp.downF ahead g' c n = Hp.downF ahead h j n := fun c v h1 h2 h3 h4 h5 h6 h7 => by
      have := HE.out
      rw [Hp.downF_step ahead h6 (by rw [← h2]; exact h3), ← h2] at this
      exact ⟨_, by rw [Hp.swp_len]; exact hgl, h4, h5, this⟩
    have FIN := Lib.hid fin
    have stop : (2 * i + 1 < n → Hp.lss ahead g (Hp.kid ahead g i n) i = false) → Hp.downF ahead h j n = (g, i) := fun hs => by
      rw [← HE.out]
      by_cases hx : 2 * i + 1 < n
      · exact Hp.downF_stop ahead (hs hx)
      · exact Hp.downF_end ahead hx
    have STOP := Lib.hid stop
    have hls0 : ∀ v, Below wr.heap.size wr v → ∀ a b : Nat, a < h.length → b < h.length → Calls Try.prog 75 #[.pointer (some ⟨Q, 0, none⟩), .int .i64 a, .int .i64 b] v fun e w' => e = .returned (.bool (Hp.lss ahead g a b)) ∧ Below wr.heap.size wr w' := fun v hv a b ha hb => by
      refine (less_in v F Q g (HP.out.below hv) a b (by omega) (by omega)).mono ?_
      rintro e w' ⟨he, hx⟩
      exact ⟨he, ⟨hx.os.trans hv.os, hx.tape.trans hv.tape, hx.output.trans hv.output, Nat.le_trans hv.size hx.size, fun k hk => (hx.block k (Nat.lt_of_lt_of_le hk hv.size)).trans (hv.block k hk)⟩⟩
    have HLS := Lib.hid hls0
    clear hc1 hc2 fin stop hls0
    by_cases h1 : c1 < n
    · have hc12 : i < c1 ∧ i < c2 := by have := HC1.out; have := HC2.out; omega
      have HX : 2 * i + 1 < n := by have := HC1.out; omega
      by_cases h2 : c2 < n
      · cases hls : Hp.lss ahead g c2 c1 with
        | true =>
          have HK : Hid (Hp.kid ahead g i n = c2 ∧ c2 < n) := Lib.hid ⟨by unfold Hp.kid; rw [← HC1.out, ← HC2.out]; simp [h2, hls], by omega⟩
          cases hl2 : Hp.lss ahead g c2 i with
          | false =>
            have HST := Lib.hid (STOP.out (fun _ => by rw [HK.out.1]; exact hl2))
            go_wp2_with (go_at_call 75; refine (HLS.out _ (by first | exact hb1 | exact Below.refl _ _) _ _ (by omega) (by omega)).mono ?_; rintro e w1 ⟨rfl, hb1⟩)
            go_ret
            rw [HST.out]
            exact ⟨rfl, HP.out.below hb1, HM.out.trans (Mod.of_below_size hb1 F)⟩
          | true =>
            go_wp2_with (first | (go_at_call 75; refine (HLS.out _ (by first | exact hb1 | exact Below.refl _ _) _ _ (by omega) (by omega)).mono ?_; rintro e w1 ⟨rfl, hb1⟩) | (go_at_call 78; refine (swap_in _ F Q g (HP.out.below hb1) i c2 (by omega) (by omega)).mono ?_; rintro e w3 ⟨rfl, hp3, hm3⟩))
            go_roundw
            case rel => exact ⟨c2, by omega, rfl, Lib.hid (FIN.out c2 _ HK.out.2 HK.out.1.symm hl2 hp3 ((HM.out.trans (Mod.of_below_size hb1 F)).trans hm3) HX (by omega))⟩
            case measure => simp [intOf]; omega
        | false =>
          have HK : Hid (Hp.kid ahead g i n = c1 ∧ c1 < n) := Lib.hid ⟨by unfold Hp.kid; rw [← HC1.out, ← HC2.out]; simp [h2, hls], by omega⟩
          cases hl2 : Hp.lss ahead g c1 i with
          | false =>
            have HST := Lib.hid (STOP.out (fun _ => by rw [HK.out.1]; exact hl2))
            go_wp2_with (go_at_call 75; refine (HLS.out _ (by first | exact hb1 | exact Below.refl _ _) _ _ (by omega) (by omega)).mono ?_; rintro e w1 ⟨rfl, hb1⟩)
            go_ret
            rw [HST.out]
            exact ⟨rfl, HP.out.below hb1, HM.out.trans (Mod.of_below_size hb1 F)⟩
          | true =>
            go_wp2_with (first | (go_at_call 75; refine (HLS.out _ (by first | exact hb1 | exact Below.refl _ _) _ _ (by omega) (by omega)).mono ?_; rintro e w1 ⟨rfl, hb1⟩) | (go_at_call 78; refine (swap_in _ F Q g (HP.out.below hb1) i c1 (by omega) (by omega)).mono ?_; rintro e w3 ⟨rfl, hp3, hm3⟩))
            go_roundw
            case rel => exact ⟨c1, by omega, rfl, Lib.hid (FIN.out c1 _ HK.out.2 HK.out.1.symm hl2 hp3 ((HM.out.trans (Mod.of_below_size hb1 F)).trans hm3) HX (by omega))⟩
            case measure => simp [intOf]; omega
      · skip
        have HK : Hid (Hp.kid ahead g i n = c1 ∧ c1 < n) := Lib.hid ⟨by unfold Hp.kid; rw [← HC1.out, ← HC2.out]; simp [h2], by omega⟩
        cases hl2 : Hp.lss ahead g c1 i with
        | false =>
          have HST := Lib.hid (STOP.out (fun _ => by rw [HK.out.1]; exact hl2))
          go_wp2_with (go_at_call 75; refine (HLS.out _ (by first | exact hb1 | exact Below.refl _ _) _ _ (by omega) (by omega)).mono ?_; rintro e w1 ⟨rfl, hb1⟩)
          go_ret
          rw [HST.out]
          exact ⟨rfl, HP.out.below hb1, HM.out.trans (Mod.of_below_size hb1 F)⟩
        | true =>
          go_wp2_with (first | (go_at_call 75; refine (HLS.out _ (by first | exact hb1 | exact Below.refl _ _) _ _ (by omega) (by omega)).mono ?_; rintro e w1 ⟨rfl, hb1⟩) | (go_at_call 78; refine (swap_in _ F Q g (HP.out.below hb1) i c1 (by omega) (by omega)).mono ?_; rintro e w3 ⟨rfl, hp3, hm3⟩))
          go_roundw
          case rel => exact ⟨c1, by omega, rfl, Lib.hid (FIN.out c1 _ HK.out.2 HK.out.1.symm hl2 hp3 ((HM.out.trans (Mod.of_below_size hb1 F)).trans hm3) HX (by omega))⟩
          case measure => simp [intOf]; omega
    · have HST := Lib.hid (STOP.out (fun hx => by have := HC1.out; omega))
      go_wp2_with fail
      go_ret
      rw [HST.out]
      exact ⟨rfl, HP.out, HM.out⟩
end Go.Proofs.Ytedogccbndjdpaa
