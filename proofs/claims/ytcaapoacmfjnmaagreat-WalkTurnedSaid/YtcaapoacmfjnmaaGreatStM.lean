/- A step. -/
import Derived.Test.YtcaapoacmfjnmaaGreatStL
namespace Go.Proofs.YtcaapoacmfjnmaaGreat
open Go.RowKit
set_option linter.unusedVariables false

namespace Pr
/-- the error of a step -/
def stepE (s : St) (t : Int) : Int := if 0 ≤ t ∧ t < (s.th.length : Int) then (if (next s t.toNat).isNone then 6 else if enabled s t.toNat = false then 9 else 0) else 2
/-- the state behind a step -/
def stepS (s : St) (t : Nat) : St :=
  match ins s t with
  | some i => doI s t i
  | none => s
theorem enabled_next {s : St} {t : Nat} (h : enabled s t = true) : ∃ e i, next s t = some e ∧ ins s t = some i ∧ e = evOf s t i := by
  unfold enabled at h
  cases hn : next s t with
  | none => rw [hn] at h; cases h
  | some e =>
    unfold next at hn
    obtain ⟨i, hi, he⟩ := Option.map_eq_some_iff.1 hn
    exact ⟨e, i, rfl, hi, he.symm⟩
end Pr
theorem SAt.bound {w : World} {C : Nat → Prop} {S T : Nat} {s : St} (h : SAt w C S T s) : SAt w (fun k => C k ∧ k < w.heap.size) S T s := by
  obtain ⟨PA, pc, tc, h1, h2, h3, h4, h5, h6⟩ := h
  exact ⟨PA, pc, tc, h1, h2, h3.bound, fun hk => h4 hk.1, fun hk => h5 hk.1, h6⟩
theorem SAt.widen {w w' : World} {C D : Nat → Prop} {S T : Nat} {s s' : St} (h : SAt w D S T s) (h0 : SAt w' C S T s') (hD : ∀ k, D k → C k) : SAt w C S T s := by
  obtain ⟨PA, pc, tc, h1, h2, h3, h4, h5, h6⟩ := h
  obtain ⟨_, _, _, _, _, _, g4, g5, _⟩ := h0
  exact ⟨PA, pc, tc, h1, h2, h3.imp hD, g4, g5, h6⟩
theorem ev0_box (w : World) : ∃ Wa X, Wa = w.alloc (Obj.cells #[.int .i64 0, .int .i64 0, .int .i64 0, .bool false] 57) ∧ X = w.heap.size ∧ Below w.heap.size w Wa ∧ X < Wa.heap.size ∧ Wa.heap[X]? = some (.cells #[.int .i64 0, .int .i64 0, .int .i64 0, .bool false] 57 (0, 0)) :=
    ⟨_, _, rfl, rfl, (Below.refl _ _).alloc (Nat.le_refl _) _, by simp, heap_alloc_new w _⟩
set_option maxRecDepth 100000 in
set_option maxHeartbeats 2000000 in
theorem step_okB (w : World) (C : Nat → Prop) (S T : Nat) (s : St) (t : Nat) (e : Ev) (h : SAt w C S T s) (hw : Pr.Wf s) (ht : t < s.th.length) (hen : Pr.enabled s t = true) (hnx : Pr.next s t = some e) (hC : ∀ k, C k → k < w.heap.size) :
    Calls Tryz.prog 30 #[.pointer (some ⟨S, 0, none⟩), .int .i64 (t : Int)] w fun x w' => x = .returned (.tuple #[valE e, .int .i64 0]) ∧ SAt w' C S T (Pr.stepS s t) ∧ Mod (fun k => k = S ∨ k = T) w w' := by
  obtain ⟨Wa, X, hWa, hX, hBa, hXl, hXk⟩ := ev0_box w
  have hS := h.below hBa
  have hc1 := is_any Wa C S T s t hS
  rw [decide_eq_true (show (0 : Int) ≤ t ∧ (t : Int) < s.th.length by omega)] at hc1
  have hc2 := next_any Wa C S T s t hS hw ht
  rw [hnx] at hc2
  have hc3 : ∀ u, Below Wa.heap.size Wa u → _ := fun u hu => enabled_any u C S T s t (hS.below hu) hw ht
  rw [hen] at hc3
  obtain ⟨_, i, _, hi, _⟩ := Pr.enabled_next hen
  have hc4 : ∀ u, Below Wa.heap.size Wa u → _ := fun u hu => instr_any u C S T s t (hS.below hu) hw ht
  rw [hi] at hc4
  have hc5 : ∀ u, Below Wa.heap.size Wa u → _ := fun u hu => do_any u C S T s t i (hS.below hu) hw hi
  have hst : Pr.stepS s t = Pr.doI s t i := by unfold Pr.stepS; rw [hi]
  rw [hst]
  simp only [Option.getD_some, Option.isSome_some] at hc2 hc4
  obtain ⟨s', hs'⟩ : ∃ s', s' = Pr.doI s t i := ⟨_, rfl⟩
  rw [← hs'] at hc5 ⊢
  obtain ⟨et, ek, eo, ef⟩ := e
  obtain ⟨ik, ir, ix, im⟩ := i
  simp only [valE, valI] at hc2 hc4 hc5 ⊢
  have HCC := Lib.hid hC
  have HC1 := Lib.hid hc1
  have HC2 := Lib.hid hc2
  have HC3 := Lib.hid hc3
  have HC4 := Lib.hid hc4
  have HC5 := Lib.hid hc5
  have HB := Lib.hid hBa
  have HXK := Lib.hid hXk
  have HXW := Lib.hid (Nat.le_of_eq hX.symm)
  have HST := Lib.hid (And.intro h.lt.1 h.lt.2)
  clear hC hc1 hc2 hc3 hc4 hc5 hBa hXk h hw ht hen hnx hS hi hst hs'
  go_enter Tryz.func30, Tryz.ntmps30
  go_upto_block 0 with fail
  rw [← hWa, ← hX]
  clear hWa hX
  go_wp2_with fail
  refine HC1.out.mono ?_
  rintro y w1 ⟨rfl, rfl⟩
  go_wp2_with fail
  refine HC2.out.mono ?_
  rintro y w2 ⟨rfl, b2⟩
  obtain ⟨Wz, Z, hWz, hZ, hBz, hZl, hZe⟩ := ev_box w2 ⟨et, ek, eo, ef⟩
  simp only at hWz
  have HB2 := Lib.hid (below_at b2 hBz)
  have HZE := Lib.hid hZe
  have HZW := Lib.hid (show Wa.heap.size ≤ Z by rw [hZ]; exact b2.size)
  have HZL := Lib.hid hZl
  clear b2 hBz hZl hZe
  go_upto_block 1 with fail
  rw [← hWz, ← hZ]
  clear hWz hZ
  go_wp2_with fail
  refine (HC3.out Wz HB2.out).mono ?_
  rintro y w3 ⟨rfl, b3⟩
  have HB3 := Lib.hid (below_at HB2.out b3)
  have HZ3 := Lib.hid b3
  clear b3
  go_wp2_with fail
  refine (HC4.out w3 HB3.out).mono ?_
  rintro y w4 ⟨rfl, b4⟩
  obtain ⟨Wy, Y, hWy, hY, hBy, hYl, hYe⟩ := ins_box w4 ⟨ik, ir, ix, im⟩
  simp only at hWy
  have HB4 := Lib.hid (below_at (below_at HB3.out b4) hBy)
  have HZ4 := Lib.hid (below_at (below_at HZ3.out b4) hBy)
  clear b4 hBy
  go_upto_region 11 with fail
  rw [← hWy, ← hY]
  clear hWy hY
  obtain ⟨⟨y0, y1, y2, y3⟩, yl⟩ := hYe Wy (Below.refl _ _)
  simp only [Nat.zero_add] at y1 y2 y3
  clear hYl hYe
  go_wp2_with fail
  refine (HC5.out Wy HB4.out).mono ?_
  rintro y w5 ⟨rfl, hsat, hmod⟩
  obtain ⟨⟨z0, z1, z2, z3⟩, zl⟩ := HZE.out Wy HZ4.out
  simp only [Nat.zero_add] at z1 z2 z3
  have hZF : ¬ (Z = S ∨ Z = T) := by have := HST.out; have := HZW.out; have := HB.out.size; omega
  have hXF : ¬ (X = S ∨ X = T) := by have := HST.out; have := HXW.out; omega
  have z0 := (hmod.cell Z 0 zl hZF).trans z0
  have z1 := (hmod.cell Z 1 zl hZF).trans z1
  have z2 := (hmod.cell Z 2 zl hZF).trans z2
  have z3 := (hmod.cell Z 3 zl hZF).trans z3
  have zl : Z < w5.heap.size := Nat.lt_of_lt_of_le zl hmod.size
  have hX5 := (hmod.block X (by have := HB4.out.size; have := blk_lt HXK.out; omega) hXF).trans ((HB4.out.block X (blk_lt HXK.out)).trans HXK.out)
  obtain ⟨V2, hV2, ⟨d0, d1, d2, d3⟩, hmv⟩ := in4_exit hX5 (.int .i64 et) (.int .i64 ek) (.int .i64 eo) (.bool ef)
  obtain ⟨⟨e0, e1, e2, e3⟩, el, g0, g1, g2, g3⟩ := in4_cells hX5
  have HSAT := Lib.hid hsat
  have HMOD := Lib.hid hmod
  have HV2 := Lib.hid hV2
  have HMV := Lib.hid hmv
  have HXF := Lib.hid hXF
  clear hsat hmod hV2 hmv hX5 hZF hXF y0 y1 y2 y3 yl
  go_wp2_with fail
  rw [← HV2.out]
  refine bodyPost_ret (v := .tuple #[.agg #[.int .i64 et, .int .i64 ek, .int .i64 eo, .bool ef], .int .i64 0]) (by simp [results, Tryz.results30, go_sem, d0, d1, d2, d3]) rfl ?_
  refine ⟨rfl, HSAT.out.mod HMV.out (fun k hk e => by have := HCC.out k hk; have := HXW.out; omega) (fun e => HXF.out (.inl e.symm)) (fun e => HXF.out (.inr e.symm)), ?_⟩
  have m1 : Mod (fun k => k = S ∨ k = T) w Wy := Mod.of_below_size (below_at HB.out HB4.out) _
  exact (m1.trans HMOD.out).then (HMV.out.mono (G := fun k => k = X) (fun k _ e => e)) (fun k hk e => by have := HXW.out; omega)
theorem step_ok (w : World) (C : Nat → Prop) (S T : Nat) (s : St) (t : Nat) (e : Ev) (h : SAt w C S T s) (hw : Pr.Wf s) (ht : t < s.th.length) (hen : Pr.enabled s t = true) (hnx : Pr.next s t = some e) :
    Calls Tryz.prog 30 #[.pointer (some ⟨S, 0, none⟩), .int .i64 (t : Int)] w fun x w' => x = .returned (.tuple #[valE e, .int .i64 0]) ∧ SAt w' C S T (Pr.stepS s t) ∧ Mod (fun k => k = S ∨ k = T) w w' :=
  (step_okB w _ S T s t e h.bound hw ht hen hnx (fun k hk => hk.2)).mono fun x w' hh => ⟨hh.1, hh.2.1.widen h (fun k hk => hk.1), hh.2.2⟩

set_option maxRecDepth 100000 in
set_option maxHeartbeats 2000000 in
theorem step_bad (w : World) (C : Nat → Prop) (S T : Nat) (s : St) (t : Int) (h : SAt w C S T s) (hw : Pr.Wf s) (hbad : Pr.stepE s t ≠ 0) :
    Calls Tryz.prog 30 #[.pointer (some ⟨S, 0, none⟩), .int .i64 t] w fun x w' => x = .returned (.tuple #[valE Pr.zeroE, .int .i64 (Pr.stepE s t)]) ∧ Below w.heap.size w w' := by
  obtain ⟨Wa, X, hWa, hX, hBa, hXl, hXk⟩ := ev0_box w
  have hS := h.below hBa
  have hc1 := is_any Wa C S T s t hS
  have HB := Lib.hid hBa
  have HXK := Lib.hid hXk
  have HXW := Lib.hid (Nat.le_of_eq hX.symm)
  have HS := Lib.hid hS
  have HWF := Lib.hid hw
  unfold valE Pr.zeroE
  by_cases hr : 0 ≤ t ∧ t < (s.th.length : Int)
  · rw [decide_eq_true hr] at hc1
    obtain ⟨m, rfl⟩ : ∃ m : Nat, t = m := ⟨t.toNat, by omega⟩
    have hm : m < s.th.length := by omega
    have hc2 := next_any Wa C S T s m hS hw hm
    have hE : Pr.stepE s m = if (Pr.next s m).isNone then 6 else if Pr.enabled s m = false then 9 else 0 := by unfold Pr.stepE; rw [if_pos hr, Int.toNat_natCast]
    have hc3 : ∀ u, Below Wa.heap.size Wa u → _ := fun u hu => enabled_any u C S T s m (hS.below hu) hw hm
    obtain ⟨q, hq⟩ : ∃ q, q = Pr.next s m := ⟨_, rfl⟩
    rw [← hq] at hc2 hE
    have HC1 := Lib.hid hc1
    have HC2 := Lib.hid hc2
    have HC3 := Lib.hid hc3
    cases q with
    | none =>
      obtain ⟨er, her⟩ : ∃ er, er = Pr.stepE s m := ⟨_, rfl⟩
      have her6 : er = 6 := by rw [her, hE]; rfl
      rw [← her]
      subst her6
      clear hc1 hc2 hc3 hBa hXk h hw hbad hS hE hr hq her
      simp only [Option.getD_none, Option.isSome_none, valE, Pr.zeroE] at HC2
      go_enter Tryz.func30, Tryz.ntmps30
      go_upto_block 0 with fail
      rw [← hWa, ← hX]
      clear hWa hX
      go_wp2_with fail
      refine HC1.out.mono ?_
      rintro y w1 ⟨rfl, rfl⟩
      go_wp2_with fail
      refine HC2.out.mono ?_
      rintro y w2 ⟨rfl, b2⟩
      obtain ⟨Wz, Z, hWz, hZ, hBz, hZl, hZe⟩ := ev_box w2 ⟨0, 0, 0, false⟩
      simp only at hWz
      have hb := below_at b2 hBz
      have hX5 := (hb.block X (blk_lt HXK.out)).trans HXK.out
      obtain ⟨V2, hV2, ⟨d0, d1, d2, d3⟩, hmv⟩ := in4_exit hX5 (.int .i64 0) (.int .i64 0) (.int .i64 0) (.bool false)
      obtain ⟨⟨e0, e1, e2, e3⟩, el, g0, g1, g2, g3⟩ := in4_cells hX5
      have HB2 := Lib.hid (below_at HB.out hb)
      have HV2 := Lib.hid hV2
      have HMV := Lib.hid hmv
      clear hV2 hmv hX5 hb b2 hBz hZl hZe
      go_upto_block 1 with fail
      rw [← hWz, ← hZ]
      clear hWz hZ
      go_wp2_with fail
      rw [← HV2.out]
      refine bodyPost_ret (v := .tuple #[.agg #[.int .i64 0, .int .i64 0, .int .i64 0, .bool false], .int .i64 6]) (by simp [results, Tryz.results30, go_sem, d0, d1, d2, d3]) rfl ?_
      exact ⟨rfl, HB2.out.trans (HMV.out.below _ HB2.out.size (fun k hk e => by have := HXW.out; omega))⟩
    | some e =>
      have hen : Pr.enabled s m = false := by
        cases he : Pr.enabled s m with
        | false => rfl
        | true => exact (hbad (by rw [hE, he]; rfl)).elim
      rw [hen] at HC3
      obtain ⟨er, her⟩ : ∃ er, er = Pr.stepE s m := ⟨_, rfl⟩
      have her9 : er = 9 := by rw [her, hE, hen]; rfl
      rw [← her]
      subst her9
      clear hc1 hc2 hc3 hBa hXk h hw hbad hS hE hr hq her hen
      obtain ⟨et, ek, eo, ef⟩ := e
      simp only [Option.getD_some, Option.isSome_some, valE] at HC2
      go_enter Tryz.func30, Tryz.ntmps30
      go_upto_block 0 with fail
      rw [← hWa, ← hX]
      clear hWa hX
      go_wp2_with fail
      refine HC1.out.mono ?_
      rintro y w1 ⟨rfl, rfl⟩
      go_wp2_with fail
      refine HC2.out.mono ?_
      rintro y w2 ⟨rfl, b2⟩
      obtain ⟨Wz, Z, hWz, hZ, hBz, hZl, hZe⟩ := ev_box w2 ⟨et, ek, eo, ef⟩
      simp only at hWz
      have HB2 := Lib.hid (below_at b2 hBz)
      clear b2 hBz hZl hZe
      go_upto_block 1 with fail
      rw [← hWz, ← hZ]
      clear hWz hZ
      go_wp2_with fail
      refine (HC3.out Wz HB2.out).mono ?_
      rintro y w3 ⟨rfl, b3⟩
      have hb := below_at HB2.out b3
      have hX5 := (hb.block X (blk_lt HXK.out)).trans HXK.out
      obtain ⟨V2, hV2, ⟨d0, d1, d2, d3⟩, hmv⟩ := in4_exit hX5 (.int .i64 0) (.int .i64 0) (.int .i64 0) (.bool false)
      obtain ⟨⟨e0, e1, e2, e3⟩, el, g0, g1, g2, g3⟩ := in4_cells hX5
      have HB3 := Lib.hid (below_at HB.out hb)
      have HV2 := Lib.hid hV2
      have HMV := Lib.hid hmv
      clear hV2 hmv hX5 hb b3
      go_wp2_with fail
      rw [← HV2.out]
      refine bodyPost_ret (v := .tuple #[.agg #[.int .i64 0, .int .i64 0, .int .i64 0, .bool false], .int .i64 9]) (by simp [results, Tryz.results30, go_sem, d0, d1, d2, d3]) rfl ?_
      exact ⟨rfl, HB3.out.trans (HMV.out.below _ HB3.out.size (fun k hk e => by have := HXW.out; omega))⟩
  · rw [decide_eq_false hr] at hc1
    obtain ⟨er, her⟩ : ∃ er, er = Pr.stepE s t := ⟨_, rfl⟩
    have her2 : er = 2 := by rw [her]; unfold Pr.stepE; rw [if_neg hr]
    rw [← her]
    subst her2
    have HC1 := Lib.hid hc1
    obtain ⟨V2, hV2, ⟨d0, d1, d2, d3⟩, hmv⟩ := in4_exit hXk (.int .i64 0) (.int .i64 0) (.int .i64 0) (.bool false)
    obtain ⟨⟨e0, e1, e2, e3⟩, el, g0, g1, g2, g3⟩ := in4_cells hXk
    have HV2 := Lib.hid hV2
    have HMV := Lib.hid hmv
    clear hc1 hBa hXk h hw hbad hS hr her hV2 hmv
    go_enter Tryz.func30, Tryz.ntmps30
    go_upto_block 0 with fail
    rw [← hWa, ← hX]
    clear hWa hX
    go_wp2_with fail
    refine HC1.out.mono ?_
    rintro y w1 ⟨rfl, rfl⟩
    go_wp2_with fail
    rw [← HV2.out]
    refine bodyPost_ret (v := .tuple #[.agg #[.int .i64 0, .int .i64 0, .int .i64 0, .bool false], .int .i64 2]) (by simp [results, Tryz.results30, go_sem, d0, d1, d2, d3]) rfl ?_
    exact ⟨rfl, HB.out.trans (HMV.out.below _ HB.out.size (fun k hk e => by have := HXW.out; omega))⟩
end Go.Proofs.YtcaapoacmfjnmaaGreat
