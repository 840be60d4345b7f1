/- The reference's Step: refused. -/
import Derived.Test.YtcaapoacmfjnmaaGreatRsF
namespace Go.Proofs.YtcaapoacmfjnmaaGreat
open Go.RowKit
set_option linter.unusedVariables false

set_option maxRecDepth 100000 in
set_option maxHeartbeats 2000000 in
theorem refStep_bad (w : World) (C : Nat → Prop) (S T o : Nat) (s : St) (t : Int) (h : RAt w C S T o s) (hw : Pr.Wf s) (hbad : Pr.stepE s t ≠ 0) :
    Calls Tryz.prog 92 #[.pointer (some ⟨S, 0, none⟩), .int .i64 t] w fun x w' => x = .returned (.tuple #[valE Pr.zeroE, .int .i64 (Pr.stepE s t)]) ∧ Below w.heap.size w w' := by
  obtain ⟨Wa, X, hWa, hX, hBa, hXl, hXk⟩ := ev0_box w
  have hS := h.below hBa
  obtain ⟨PA, pc, tc, _, _, _, z3, _, _, _⟩ := hS.cells
  have sl := hS.lt.1
  have HB := Lib.hid hBa
  have HXK := Lib.hid hXk
  have HXW := Lib.hid (Nat.le_of_eq hX.symm)
  unfold valE Pr.zeroE
  by_cases hr : 0 ≤ t ∧ t < (s.th.length : Int)
  · obtain ⟨m, rfl⟩ : ∃ m : Nat, t = m := ⟨t.toNat, by omega⟩
    have hm : m < s.th.length := by omega
    have hc2 := refNext_any Wa C S T o s m hS hw hm
    have hE : Pr.stepE s m = if (Pr.next s m).isNone then 6 else if Pr.enabled s m = false then 9 else 0 := by unfold Pr.stepE; rw [if_pos hr, Int.toNat_natCast]
    have hc3 : ∀ u, Below Wa.heap.size Wa u → _ := fun u hu => refEnabled_any u C S T o s m (hS.below hu) hw hm
    obtain ⟨q, hq⟩ : ∃ q, q = Pr.next s m := ⟨_, rfl⟩
    rw [← hq] at hc2 hE
    obtain ⟨n, hn⟩ : ∃ n, n = s.th.length := ⟨_, rfl⟩
    rw [← hn] at z3 hm
    have k1 : (0 : Int) ≤ (m : Int) := Int.natCast_nonneg _
    have k2 : (m : Int) < (n : Int) := by omega
    have k3 : ¬ n ≤ m := by omega
    have d1 : decide (n ≤ m) = false := decide_eq_false k3
    have HC2 := Lib.hid hc2
    have HC3 := Lib.hid hc3
    cases q with
    | none =>
      obtain ⟨er, her⟩ : ∃ er, er = Pr.stepE s m := ⟨_, rfl⟩
      have her6 : er = 6 := by rw [her, hE]; rfl
      rw [← her]
      subst her6
      clear hc2 hc3 hBa hXk h hw hbad hS hE hr hq her hn
      simp only [Option.getD_none, Option.isSome_none, valE, Pr.zeroE] at HC2
      go_enter Tryz.func92, Tryz.ntmps92
      go_upto_region 1 with fail
      rw [← hWa, ← hX]
      clear hWa hX
      go_wp2_with fail
      refine HC2.out.mono ?_
      rintro y w2 ⟨rfl, b2⟩
      obtain ⟨Wz, Z, hWz, hZ, hBz, hZl, hZe⟩ := ev_box w2 ⟨0, 0, 0, false⟩
      simp only at hWz
      obtain ⟨⟨y0, y1, y2, y3⟩, yl⟩ := hZe Wz (Below.refl _ _)
      simp only [Nat.zero_add] at y1 y2 y3
      have hb := below_at b2 hBz
      have hX5 := (hb.block X (blk_lt HXK.out)).trans HXK.out
      obtain ⟨V2, hV2, ⟨d0, d1', d2, d3⟩, hmv⟩ := in4_exit hX5 (.int .i64 0) (.int .i64 0) (.int .i64 0) (.bool false)
      obtain ⟨⟨e0, e1, e2, e3⟩, el, g0, g1, g2, g3⟩ := in4_cells hX5
      have HB2 := Lib.hid (below_at HB.out hb)
      have HV2 := Lib.hid hV2
      have HMV := Lib.hid hmv
      clear hV2 hmv hX5 hb b2 hBz hZl hZe z3 sl
      go_upto_region 4 with fail
      rw [← hWz, ← hZ]
      clear hWz hZ
      go_wp2_with fail
      rw [← HV2.out]
      refine bodyPost_ret (v := .tuple #[.agg #[.int .i64 0, .int .i64 0, .int .i64 0, .bool false], .int .i64 6]) (by simp [results, Tryz.results92, go_sem, d0, d1', d2, d3]) rfl ?_
      exact ⟨rfl, HB2.out.trans (HMV.out.below _ HB2.out.size (fun k hk e => by have := HXW.out; omega))⟩
    | some e =>
      have hen : Pr.enabled s m = false := by
        cases he : Pr.enabled s m with
        | false => rfl
        | true => exact (hbad (by rw [hE, he]; rfl)).elim
      rw [hen] at HC3
      obtain ⟨er, her⟩ : ∃ er, er = Pr.stepE s m := ⟨_, rfl⟩
      have her9 : er = 9 := by rw [her, hE, hen]; rfl
      rw [← her]
      subst her9
      clear hc2 hc3 hBa hXk h hw hbad hS hE hr hq her hen hn
      obtain ⟨et, ek, eo, ef⟩ := e
      simp only [Option.getD_some, Option.isSome_some, valE] at HC2
      go_enter Tryz.func92, Tryz.ntmps92
      go_upto_region 1 with fail
      rw [← hWa, ← hX]
      clear hWa hX
      go_wp2_with fail
      refine HC2.out.mono ?_
      rintro y w2 ⟨rfl, b2⟩
      obtain ⟨Wz, Z, hWz, hZ, hBz, hZl, hZe⟩ := ev_box w2 ⟨et, ek, eo, ef⟩
      simp only at hWz
      have HB2 := Lib.hid (below_at b2 hBz)
      clear b2 hBz hZl hZe z3 sl
      go_upto_region 4 with fail
      rw [← hWz, ← hZ]
      clear hWz hZ
      go_wp2_with fail
      refine (HC3.out Wz HB2.out).mono ?_
      rintro y w3 ⟨rfl, b3⟩
      have hb := below_at HB2.out b3
      have hX5 := (hb.block X (blk_lt HXK.out)).trans HXK.out
      obtain ⟨V2, hV2, ⟨d0, d1', d2, d3⟩, hmv⟩ := in4_exit hX5 (.int .i64 0) (.int .i64 0) (.int .i64 0) (.bool false)
      obtain ⟨⟨e0, e1, e2, e3⟩, el, g0, g1, g2, g3⟩ := in4_cells hX5
      have HB3 := Lib.hid (below_at HB.out hb)
      have HV2 := Lib.hid hV2
      have HMV := Lib.hid hmv
      clear hV2 hmv hX5 hb b3
      go_wp2_with fail
      rw [← HV2.out]
      refine bodyPost_ret (v := .tuple #[.agg #[.int .i64 0, .int .i64 0, .int .i64 0, .bool false], .int .i64 9]) (by simp [results, Tryz.results92, go_sem, d0, d1', d2, d3]) rfl ?_
      exact ⟨rfl, HB3.out.trans (HMV.out.below _ HB3.out.size (fun k hk e => by have := HXW.out; omega))⟩
  · obtain ⟨er, her⟩ : ∃ er, er = Pr.stepE s t := ⟨_, rfl⟩
    have her2 : er = 2 := by rw [her]; unfold Pr.stepE; rw [if_neg hr]
    rw [← her]
    subst her2
    obtain ⟨n, hn⟩ : ∃ n, n = s.th.length := ⟨_, rfl⟩
    rw [← hn] at z3 hr
    obtain ⟨V2, hV2, ⟨d0, d1', d2, d3⟩, hmv⟩ := in4_exit hXk (.int .i64 0) (.int .i64 0) (.int .i64 0) (.bool false)
    obtain ⟨⟨e0, e1, e2, e3⟩, el, g0, g1, g2, g3⟩ := in4_cells hXk
    have HV2 := Lib.hid hV2
    have HMV := Lib.hid hmv
    clear hBa hXk h hw hbad hS her hV2 hmv hn
    by_cases h0 : t < 0
    · go_enter Tryz.func92, Tryz.ntmps92
      go_upto_region 1 with fail
      rw [← hWa, ← hX]
      clear hWa hX
      go_wp2_with fail
      rw [← HV2.out]
      refine bodyPost_ret (v := .tuple #[.agg #[.int .i64 0, .int .i64 0, .int .i64 0, .bool false], .int .i64 2]) (by simp [results, Tryz.results92, go_sem, d0, d1', d2, d3]) rfl ?_
      exact ⟨rfl, HB.out.trans (HMV.out.below _ HB.out.size (fun k hk e => by have := HXW.out; omega))⟩
    · have h1 : (n : Int) ≤ t := by omega
      have d1 : decide ((n : Int) ≤ t) = true := decide_eq_true h1
      go_enter Tryz.func92, Tryz.ntmps92
      go_upto_region 1 with fail
      rw [← hWa, ← hX]
      clear hWa hX
      go_wp2_with fail
      rw [← HV2.out]
      refine bodyPost_ret (v := .tuple #[.agg #[.int .i64 0, .int .i64 0, .int .i64 0, .bool false], .int .i64 2]) (by simp [results, Tryz.results92, go_sem, d0, d1', d2, d3]) rfl ?_
      exact ⟨rfl, HB.out.trans (HMV.out.below _ HB.out.size (fun k hk e => by have := HXW.out; omega))⟩
end Go.Proofs.YtcaapoacmfjnmaaGreat
