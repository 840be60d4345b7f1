/- The reference: may a program be? -/
import Derived.Test.YtcaapoacmfjnmaaGreatStC
import Derived.Test.YtcaapoacmfjnmaaGreatStQ
namespace Go.Proofs.YtcaapoacmfjnmaaGreat
open Go.RowKit
set_option linter.unusedVariables false

theorem refWithin_any (w : World) (a lo hi : Int) : Calls Tryz.prog 96 #[.int .i64 a, .int .i64 lo, .int .i64 hi] w fun x w' => x = .returned (.bool (decide (lo ≤ a ∧ a ≤ hi))) ∧ w = w' := by
  by_cases h1 : lo ≤ a
  · by_cases h2 : a ≤ hi
    · go_enter Tryz.func96, Tryz.ntmps96
      go_wp2_with fail
      go_ret
      exact ⟨by rw [decide_eq_true ⟨h1, h2⟩]; rfl, rfl⟩
    · go_enter Tryz.func96, Tryz.ntmps96
      go_wp2_with fail
      go_ret
      exact ⟨by rw [decide_eq_false (show ¬ a ≤ hi by omega)]; rfl, rfl⟩
  · go_enter Tryz.func96, Tryz.ntmps96
    go_wp2_with fail
    go_ret
    exact ⟨by rw [decide_eq_false (show ¬ lo ≤ a by omega)]; rfl, rfl⟩
theorem insOk_ref {vars mtx n k r x m most : Int} (hmost : most = (if k = 1 ∨ k = 2 then vars - 1 else if k = 5 ∨ k = 6 then mtx - 1 else if k = 7 then n else 0)) :
    Pr.InsOk vars mtx n ⟨k, r, x, m⟩ ↔ (1 ≤ k ∧ k ≤ 8) ∧ (0 ≤ x ∧ x ≤ most) ∧ (0 ≤ r ∧ r ≤ 1) ∧ ((k = 5 ∨ k = 6) → r = 0) ∧ ((k = 3 ∨ k = 4) → -128 ≤ m ∧ m ≤ 127) ∧ (¬ (k = 3 ∨ k = 4) → m = 0) := by
  subst hmost
  unfold Pr.InsOk
  constructor
  · rintro ⟨h1, h8, h⟩
    simp only at h1 h8
    rcases (show k = 1 ∨ k = 2 ∨ k = 3 ∨ k = 4 ∨ k = 5 ∨ k = 6 ∨ k = 7 ∨ k = 8 by omega) with rfl | rfl | rfl | rfl | rfl | rfl | rfl | rfl <;> simp at h ⊢ <;> omega
  · rintro ⟨⟨h1, h8⟩, h⟩
    rcases (show k = 1 ∨ k = 2 ∨ k = 3 ∨ k = 4 ∨ k = 5 ∨ k = 6 ∨ k = 7 ∨ k = 8 by omega) with rfl | rfl | rfl | rfl | rfl | rfl | rfl | rfl <;> simp at h ⊢ <;> omega

set_option maxRecDepth 100000 in
set_option maxHeartbeats 4000000 in
theorem refInstr_any (w : World) (p : Pg) (A : Option Addr) (cap : Nat) (n : Int) (i : Ins) (hv : 0 ≤ p.vars ∧ p.vars ≤ 4) (hm : 0 ≤ p.mtx ∧ p.mtx ≤ 2) (hn : 0 ≤ n ∧ n ≤ 8) :
    Calls Tryz.prog 97 #[valP p A cap, .int .i64 n, valI i] w fun x w' => x = .returned (.bool (decide (Pr.InsOk p.vars p.mtx n i))) ∧ Below w.heap.size w w' := by
  obtain ⟨pv, pm, L⟩ := p
  simp only at hv hm
  unfold valP
  simp only
  obtain ⟨Wa, X, hWa, hX, hBa, hXl, hXe⟩ := pg_box w pv pm A L.length cap
  obtain ⟨W, Z, hW, hZ, hB, hZl, hZe⟩ := ins_box Wa i
  obtain ⟨⟨z0, z1, z2, z3⟩, zl⟩ := hZe W (Below.refl _ _)
  obtain ⟨x0, x1, x2, xl⟩ := hXe W hB
  have hZ' : Z = w.heap.size + 1 := by rw [hZ, hWa]; simp
  simp only [Nat.zero_add] at z1 z2 z3
  unfold valI
  have HB := Lib.hid (below_at hBa hB)
  obtain ⟨k, r, x, m⟩ := i
  obtain ⟨b0, hb0⟩ : ∃ b, b = decide (Pr.InsOk pv pm n ⟨k, r, x, m⟩) := ⟨_, rfl⟩
  rw [← hb0]
  have HB0 := Lib.hid hb0
  simp only at hW z0 z1 z2 z3
  clear hB hBa hZe hXe x2 hZ hb0
  go_enter Tryz.func97, Tryz.ntmps97
  go_upto_region 2 with fail
  rw [← hZ', ← hWa, ← hW, ← hX]
  clear hZ' hWa hW hX
  go_upto_block 0 with fail
  go_cut [7] (fun a w2 => w2 = W ∧ ∃ most : Int, a = .int .i64 most ∧ most = (if k = 1 ∨ k = 2 then pv - 1 else if k = 5 ∨ k = 6 then pm - 1 else if k = 7 then n else 0))
  case first =>
    have e1 : IntKind.i64.wrap (pv - 1) = pv - 1 := IntWalk.i64_in _ (by omega)
    have e2 : IntKind.i64.wrap (pm - 1) = pm - 1 := IntWalk.i64_in _ (by omega)
    rcases (show k = 1 ∨ k = 2 ∨ k = 5 ∨ k = 6 ∨ k = 7 ∨ (k ≠ 1 ∧ k ≠ 2 ∧ k ≠ 5 ∧ k ≠ 6 ∧ k ≠ 7) from by omega) with rfl | rfl | rfl | rfl | rfl | ⟨h1, h2, h5, h6, h7⟩
    · go_wp2_with fail
      go_meet
      exact ⟨rfl, pv - 1, by first | rfl | go_num, by simp⟩
    · go_wp2_with fail
      go_meet
      exact ⟨rfl, pv - 1, by first | rfl | go_num, by simp⟩
    · go_wp2_with fail
      go_meet
      exact ⟨rfl, pm - 1, by first | rfl | go_num, by simp⟩
    · go_wp2_with fail
      go_meet
      exact ⟨rfl, pm - 1, by first | rfl | go_num, by simp⟩
    · go_wp2_with fail
      go_meet
      exact ⟨rfl, n, by first | rfl | go_num, by simp⟩
    · go_wp2_with fail
      go_meet
      exact ⟨rfl, 0, rfl, by simp [h1, h2, h5, h6, h7]⟩
  case rest =>
    obtain ⟨hwc, most, rfl, hmost⟩ := hcut
    subst hwc
    have HI := Lib.hid (insOk_ref (r := r) (x := x) (m := m) hmost)
    clear hmost x0 x1 xl
    go_wp2_with fail
    refine (refWithin_any _ k 1 8).mono ?_
    rintro y w1 ⟨rfl, rfl⟩
    by_cases hk : 1 ≤ k ∧ k ≤ 8
    · rw [decide_eq_true hk]
      go_wp2_with fail
      refine (refWithin_any _ x 0 most).mono ?_
      rintro y w1 ⟨rfl, rfl⟩
      by_cases hx : 0 ≤ x ∧ x ≤ most
      · rw [decide_eq_true hx]
        go_wp2_with fail
        refine (refWithin_any _ r 0 1).mono ?_
        rintro y w1 ⟨rfl, rfl⟩
        by_cases hr : 0 ≤ r ∧ r ≤ 1
        · rw [decide_eq_true hr]
          have HKX := Lib.hid (And.intro hk (And.intro hx hr))
          rcases (show k = 1 ∨ k = 2 ∨ k = 3 ∨ k = 4 ∨ k = 5 ∨ k = 6 ∨ k = 7 ∨ k = 8 by omega) with rfl | rfl | rfl | rfl | rfl | rfl | rfl | rfl
          · by_cases h0 : m = 0
            · subst h0
              have HBT := Lib.hid (show b0 = true from by rw [HB0.out]; exact decide_eq_true (HI.out.2 ⟨HKX.out.1, HKX.out.2.1, HKX.out.2.2, fun h => by omega, fun h => by omega, fun h => by omega⟩))
              go_wp2_with fail
              go_ret
              exact ⟨by rw [HBT.out]; rfl, HB.out⟩
            · have e0 : (m == 0) = false := by simpa using h0
              have HBT := Lib.hid (show b0 = false from by rw [HB0.out]; exact decide_eq_false (fun h => by have := (HI.out.1 h).2.2.2.2.2 (by omega); omega))
              go_wp2_with fail
              go_ret
              exact ⟨by rw [HBT.out]; rfl, HB.out⟩
          · by_cases h0 : m = 0
            · subst h0
              have HBT := Lib.hid (show b0 = true from by rw [HB0.out]; exact decide_eq_true (HI.out.2 ⟨HKX.out.1, HKX.out.2.1, HKX.out.2.2, fun h => by omega, fun h => by omega, fun h => by omega⟩))
              go_wp2_with fail
              go_ret
              exact ⟨by rw [HBT.out]; rfl, HB.out⟩
            · have e0 : (m == 0) = false := by simpa using h0
              have HBT := Lib.hid (show b0 = false from by rw [HB0.out]; exact decide_eq_false (fun h => by have := (HI.out.1 h).2.2.2.2.2 (by omega); omega))
              go_wp2_with fail
              go_ret
              exact ⟨by rw [HBT.out]; rfl, HB.out⟩
          · by_cases h0 : -128 ≤ m
            · by_cases h1 : m ≤ 127
              · skip
                have HBT := Lib.hid (show b0 = true from by rw [HB0.out]; exact decide_eq_true (HI.out.2 ⟨HKX.out.1, HKX.out.2.1, HKX.out.2.2, fun h => by omega, fun h => by omega, fun h => by omega⟩))
                go_wp2_with fail
                go_ret
                exact ⟨by rw [HBT.out]; rfl, HB.out⟩
              · have e0 : decide (m ≤ 127) = false := decide_eq_false h1
                have HBT := Lib.hid (show b0 = false from by rw [HB0.out]; exact decide_eq_false (fun h => by have := (HI.out.1 h).2.2.2.2.1 (by omega); omega))
                go_wp2_with fail
                go_ret
                exact ⟨by rw [HBT.out]; rfl, HB.out⟩
            · skip
              have HBT := Lib.hid (show b0 = false from by rw [HB0.out]; exact decide_eq_false (fun h => by have := (HI.out.1 h).2.2.2.2.1 (by omega); omega))
              go_wp2_with fail
              go_ret
              exact ⟨by rw [HBT.out]; rfl, HB.out⟩
          · by_cases h0 : -128 ≤ m
            · by_cases h1 : m ≤ 127
              · skip
                have HBT := Lib.hid (show b0 = true from by rw [HB0.out]; exact decide_eq_true (HI.out.2 ⟨HKX.out.1, HKX.out.2.1, HKX.out.2.2, fun h => by omega, fun h => by omega, fun h => by omega⟩))
                go_wp2_with fail
                go_ret
                exact ⟨by rw [HBT.out]; rfl, HB.out⟩
              · have e0 : decide (m ≤ 127) = false := decide_eq_false h1
                have HBT := Lib.hid (show b0 = false from by rw [HB0.out]; exact decide_eq_false (fun h => by have := (HI.out.1 h).2.2.2.2.1 (by omega); omega))
                go_wp2_with fail
                go_ret
                exact ⟨by rw [HBT.out]; rfl, HB.out⟩
            · skip
              have HBT := Lib.hid (show b0 = false from by rw [HB0.out]; exact decide_eq_false (fun h => by have := (HI.out.1 h).2.2.2.2.1 (by omega); omega))
              go_wp2_with fail
              go_ret
              exact ⟨by rw [HBT.out]; rfl, HB.out⟩
          · by_cases hr0 : r = 0
            · subst hr0
              by_cases h0 : m = 0
              · subst h0
                have HBT := Lib.hid (show b0 = true from by rw [HB0.out]; exact decide_eq_true (HI.out.2 ⟨HKX.out.1, HKX.out.2.1, HKX.out.2.2, fun h => by omega, fun h => by omega, fun h => by omega⟩))
                go_wp2_with fail
                go_ret
                exact ⟨by rw [HBT.out]; rfl, HB.out⟩
              · have e0 : (m == 0) = false := by simpa using h0
                have HBT := Lib.hid (show b0 = false from by rw [HB0.out]; exact decide_eq_false (fun h => by have := (HI.out.1 h).2.2.2.2.2 (by omega); omega))
                go_wp2_with fail
                go_ret
                exact ⟨by rw [HBT.out]; rfl, HB.out⟩
            · have e1 : (r == 0) = false := by simpa using hr0
              have e2 : (r != 0) = true := by simpa using hr0
              have HBT := Lib.hid (show b0 = false from by rw [HB0.out]; exact decide_eq_false (fun h => by have := (HI.out.1 h).2.2.2.1 (by omega); omega))
              go_wp2_with fail
              go_ret
              exact ⟨by rw [HBT.out]; rfl, HB.out⟩
          · by_cases hr0 : r = 0
            · subst hr0
              by_cases h0 : m = 0
              · subst h0
                have HBT := Lib.hid (show b0 = true from by rw [HB0.out]; exact decide_eq_true (HI.out.2 ⟨HKX.out.1, HKX.out.2.1, HKX.out.2.2, fun h => by omega, fun h => by omega, fun h => by omega⟩))
                go_wp2_with fail
                go_ret
                exact ⟨by rw [HBT.out]; rfl, HB.out⟩
              · have e0 : (m == 0) = false := by simpa using h0
                have HBT := Lib.hid (show b0 = false from by rw [HB0.out]; exact decide_eq_false (fun h => by have := (HI.out.1 h).2.2.2.2.2 (by omega); omega))
                go_wp2_with fail
                go_ret
                exact ⟨by rw [HBT.out]; rfl, HB.out⟩
            · have e1 : (r == 0) = false := by simpa using hr0
              have e2 : (r != 0) = true := by simpa using hr0
              have HBT := Lib.hid (show b0 = false from by rw [HB0.out]; exact decide_eq_false (fun h => by have := (HI.out.1 h).2.2.2.1 (by omega); omega))
              go_wp2_with fail
              go_ret
              exact ⟨by rw [HBT.out]; rfl, HB.out⟩
          · by_cases h0 : m = 0
            · subst h0
              have HBT := Lib.hid (show b0 = true from by rw [HB0.out]; exact decide_eq_true (HI.out.2 ⟨HKX.out.1, HKX.out.2.1, HKX.out.2.2, fun h => by omega, fun h => by omega, fun h => by omega⟩))
              go_wp2_with fail
              go_ret
              exact ⟨by rw [HBT.out]; rfl, HB.out⟩
            · have e0 : (m == 0) = false := by simpa using h0
              have HBT := Lib.hid (show b0 = false from by rw [HB0.out]; exact decide_eq_false (fun h => by have := (HI.out.1 h).2.2.2.2.2 (by omega); omega))
              go_wp2_with fail
              go_ret
              exact ⟨by rw [HBT.out]; rfl, HB.out⟩
          · by_cases h0 : m = 0
            · subst h0
              have HBT := Lib.hid (show b0 = true from by rw [HB0.out]; exact decide_eq_true (HI.out.2 ⟨HKX.out.1, HKX.out.2.1, HKX.out.2.2, fun h => by omega, fun h => by omega, fun h => by omega⟩))
              go_wp2_with fail
              go_ret
              exact ⟨by rw [HBT.out]; rfl, HB.out⟩
            · have e0 : (m == 0) = false := by simpa using h0
              have HBT := Lib.hid (show b0 = false from by rw [HB0.out]; exact decide_eq_false (fun h => by have := (HI.out.1 h).2.2.2.2.2 (by omega); omega))
              go_wp2_with fail
              go_ret
              exact ⟨by rw [HBT.out]; rfl, HB.out⟩
        · rw [decide_eq_false hr]
          have HR := Lib.hid hr
          clear hr
          go_wp2_with fail
          go_ret
          exact ⟨by rw [HB0.out, decide_eq_false (fun h => HR.out (HI.out.1 h).2.2.1)]; rfl, HB.out⟩
      · rw [decide_eq_false hx]
        have HX := Lib.hid hx
        clear hx
        go_wp2_with fail
        go_ret
        exact ⟨by rw [HB0.out, decide_eq_false (fun h => HX.out (HI.out.1 h).2.1)]; rfl, HB.out⟩
    · rw [decide_eq_false hk]
      have HK := Lib.hid hk
      clear hk
      go_wp2_with fail
      go_ret
      exact ⟨by rw [HB0.out, decide_eq_false (fun h => HK.out (HI.out.1 h).1)]; rfl, HB.out⟩
end Go.Proofs.YtcaapoacmfjnmaaGreat
/- The reference: may a program be? The whole. -/
namespace Go.Proofs.YtcaapoacmfjnmaaGreat
open Go.RowKit
set_option linter.unusedVariables false

theorem ins_takeR {vars mtx n : Int} {q : List Ins} {k : Nat} {i : Ins} (hi : q[k]? = some i) (h : ∀ x ∈ q.take k, Pr.InsOk vars mtx n x) (hok : Pr.InsOk vars mtx n i) : ∀ x ∈ q.take (k + 1), Pr.InsOk vars mtx n x := fun x hx => by
  rw [List.take_add_one, hi] at hx
  rcases List.mem_append.1 hx with h1 | h1
  · exact h x h1
  · simp at h1; subst h1; exact hok
set_option maxRecDepth 100000 in
set_option maxHeartbeats 4000000 in
theorem refPRight_any (w : World) (p : Pg) (A : Option Addr) (cap : Nat) (hin : PgIn w p A) :
    Calls Tryz.prog 60 #[valP p A cap] w fun x w' => x = .returned (.bool (decide (Pr.Ok p))) ∧ Below w.heap.size w w' := by
  obtain ⟨hcd, hl, hq⟩ := hin
  obtain ⟨v, m, L⟩ := p
  unfold valP
  simp only at hcd hl hq ⊢
  have hll : L.length < 9223372036854775808 := by unfold maxLen at hl; omega
  obtain ⟨W, X, hW, hX, hB, hXl, hXe⟩ := pg_box w v m A L.length cap
  have HX := Lib.hid hXe
  obtain ⟨x0, x1, x2, xl⟩ := hXe W (Below.refl _ _)
  have HB := Lib.hid hB
  have HCD := Lib.hid hcd
  have HLQ := Lib.hid hq
  obtain ⟨b1, hb1⟩ : ∃ b, b = decide (0 ≤ v ∧ v ≤ 4) := ⟨_, rfl⟩
  obtain ⟨b2, hb2⟩ : ∃ b, b = decide (0 ≤ m ∧ m ≤ 2) := ⟨_, rfl⟩
  obtain ⟨b3, hb3⟩ : ∃ b, b = decide (1 ≤ (L.length : Int) ∧ (L.length : Int) ≤ 4) := ⟨_, rfl⟩
  have hc1 : ∀ u, Calls Tryz.prog 96 #[.int .i64 v, .int .i64 0, .int .i64 4] u fun x w' => x = .returned (.bool b1) ∧ u = w' := fun u => by rw [hb1]; exact refWithin_any u v 0 4
  have hc2 : ∀ u, Calls Tryz.prog 96 #[.int .i64 m, .int .i64 0, .int .i64 2] u fun x w' => x = .returned (.bool b2) ∧ u = w' := fun u => by rw [hb2]; exact refWithin_any u m 0 2
  have hc3 : ∀ u, Calls Tryz.prog 96 #[.int .i64 (L.length : Int), .int .i64 1, .int .i64 4] u fun x w' => x = .returned (.bool b3) ∧ u = w' := fun u => by rw [hb3]; exact refWithin_any u (L.length : Int) 1 4
  have HC1 := Lib.hid hc1
  have HC2 := Lib.hid hc2
  have HC3 := Lib.hid hc3
  have HB1 := Lib.hid hb1
  have HB2 := Lib.hid hb2
  have HB3 := Lib.hid hb3
  clear hc1 hc2 hc3 hb1 hb2 hb3 hB hXe hcd hq hl
  go_enter Tryz.func60, Tryz.ntmps60
  go_upto_region 1 with fail
  rw [← hW, ← hX]
  clear hW hX
  go_wp2_with fail
  refine (HC1.out _).mono ?_
  rintro x w1 ⟨rfl, rfl⟩
  cases b1 with
  | false =>
    go_wp2_with fail
    go_ret
    exact ⟨by rw [decide_eq_false (fun h => of_decide_eq_false HB1.out.symm ⟨h.1.1, h.1.2.1⟩)]; rfl, HB.out⟩
  | true =>
    have q1 := of_decide_eq_true HB1.out.symm
    go_wp2_with fail
    refine (HC2.out _).mono ?_
    rintro x w1 ⟨rfl, rfl⟩
    cases b2 with
    | false =>
      go_wp2_with fail
      go_ret
      exact ⟨by rw [decide_eq_false (fun h => of_decide_eq_false HB2.out.symm ⟨h.1.2.2.1, h.1.2.2.2.1⟩)]; rfl, HB.out⟩
    | true =>
      have q2 := of_decide_eq_true HB2.out.symm
      go_wp2_with fail
      refine (HC3.out _).mono ?_
      rintro x w1 ⟨rfl, rfl⟩
      cases b3 with
      | false =>
        go_wp2_with fail
        go_ret
        exact ⟨by rw [decide_eq_false (fun h => of_decide_eq_false HB3.out.symm (by have h1 := h.1.2.2.2.2.1; have h2 := h.1.2.2.2.2.2; simp only at h1 h2; omega))]; rfl, HB.out⟩
      | true =>
        have q3 := of_decide_eq_true HB3.out.symm
        have hhd : Pr.HeadOk ⟨v, m, L⟩ := ⟨q1.1, q1.2, q2.1, q2.2, by simp only; omega, by simp only; omega⟩
        have HHD := Lib.hid hhd
        have hinstr : ∀ (u : World) (n : Nat) (i : Ins), n ≤ 8 → Calls Tryz.prog 97 #[.agg #[.int .i64 v, .int .i64 m, .slice A L.length cap], .int .i64 (n : Int), valI i] u fun x w' => x = .returned (.bool (decide (Pr.InsOk v m n i))) ∧ Below u.heap.size u w' := fun u n i hn => refInstr_any u ⟨v, m, L⟩ A cap n i q1 q2 (by omega)
        have HINSTR := Lib.hid hinstr
        clear hhd hinstr
        go_wp2_with fail
        go_loopw [3] (fun x wr => ∃ k : Nat, k ≤ L.length ∧ x = .int .i64 k ∧ Hid (∀ c ∈ L.take k, Pr.CodeOk v m c) ∧ Hid (Below W.heap.size W wr)) (fun x _ => L.length - (intOf x).toNat)
        case atStart => exact ⟨0, Nat.zero_le _, rfl, Lib.hid (fun c h => by simp at h), Lib.hid (Below.refl _ _)⟩
        case round =>
          clear x0 x1 x2 xl
          obtain ⟨k, hk, rfl, HOK, HW⟩ := hrel
          generalize wr = V at *
          obtain ⟨x0, x1, x2, xl⟩ := HX.out V HW.out
          by_cases hlt : k < L.length
          · obtain ⟨q, hq⟩ := get_some hlt
            obtain ⟨g, o, A', c', rfl, hg, hlg, hrq, hqc, hcm, hcell⟩ := HCD.out.get k q hq
            have ca := hcell V (((below_at HB.out HW.out).block g hlg))
            have lg : g < V.heap.size := by have := (below_at HB.out HW.out).size; omega
            have hqm := HLQ.out q (List.mem_of_getElem? hq)
            have hql : q.length < 9223372036854775808 := by unfold maxLen at hqm; omega
            have k1 : (0 : Int) ≤ (k : Int) := Int.natCast_nonneg _
            have k2 : (k : Int) < (L.length : Int) := by omega
            have HRQ := Lib.hid (ins_cell (hrq.below (below_at HB.out HW.out)).rd.toB)
            have HQ := Lib.hid hq
            clear hq hcell hrq hqm
            by_cases h8 : q.length ≤ 8
            · have h8' : ¬ (8 : Int) < (q.length : Int) := by omega
              have hd : decide (8 < q.length) = false := by simp; omega
              go_wp2_with fail
              go_loopw [5] (fun x wr => ∃ j : Nat, j ≤ q.length ∧ x = .int .i64 j ∧ Hid (∀ i ∈ q.take j, Pr.InsOk v m q.length i) ∧ Hid (Below V.heap.size V wr)) (fun x _ => q.length - (intOf x).toNat)
              case atStart => exact ⟨0, Nat.zero_le _, rfl, Lib.hid (fun c h => by simp at h), Lib.hid (Below.refl _ _)⟩
              case round =>
                clear x0 x1 x2 xl
                obtain ⟨j, hj, rfl, HIN, HV⟩ := hrel
                by_cases hltj : j < q.length
                · obtain ⟨i, hi⟩ := get_some hltj
                  obtain ⟨g2, o2, rfl, hg2, hc2⟩ := HRQ.out j hltj
                  have hqi : q[j] = i := (List.getElem?_eq_some_iff.1 hi).2
                  rw [hqi] at hc2
                  have k3 : (0 : Int) ≤ (j : Int) := Int.natCast_nonneg _
                  have k4 : (j : Int) < (q.length : Int) := by omega
                  have HC2' := Lib.hid hc2
                  have HGL := Lib.hid hg2
                  have HI := Lib.hid hi
                  have hcall := fun u => HINSTR.out u q.length i h8
                  obtain ⟨b, hb⟩ : ∃ b, b = decide (Pr.InsOk v m q.length i) := ⟨_, rfl⟩
                  rw [← hb] at hcall
                  obtain ⟨ik, ir, ix, im⟩ := i
                  simp only [valI] at hcall
                  have HCALL := Lib.hid hcall
                  have HBB := Lib.hid hb
                  clear hc2 hg2 hi hcall hb hqi
                  go_upto_region 12 with fail
                  refine wp_region_planF (by kernel_rfl) (fun u => Below V.heap.size V u) [7] [(0, .load), (1, .pure), (2, .pure), (3, .pure), (4, .pure), (5, .pure), (6, .load), (7, .last), (8, .pure)] (by simp only [List.map_cons, List.map_nil, List.getElem?_toArray, List.getElem?_cons_succ, List.getElem?_cons_zero]; rfl) (by kernel_rfl) (fun _ _ d _ _ h => by cases d <;> exact h) (HV.out.drew) ?_
                  obtain ⟨Wd, hWd⟩ : ∃ z, z = wr.drew := ⟨_, rfl⟩
                  rw [← hWd]
                  have hbd : Below V.heap.size V Wd := by rw [hWd]; exact HV.out.drew
                  have HBD := Lib.hid hbd
                  clear hWd hbd
                  repeat (first
                    | (refine plan_pure (v := ?_) (by rfl) (fun w1 => ?_) ?_
                       rotate_left
                       · go_simp <;> with_reducible rfl
                       simp only [Act.put, List.setIfInBounds_toArray, List.set_cons_zero, List.set_cons_succ])
                    | (refine plan_off (by rfl) ?_
                       simp only [Act.put, List.setIfInBounds_toArray, List.set_cons_zero, List.set_cons_succ])
                    | (refine plan_load_off (by rfl) ?_
                       simp only [Act.put, List.setIfInBounds_toArray, List.set_cons_zero, List.set_cons_succ])
                    | (refine plan_load (v := ?_) (by rfl) (fun w1 hw1 => ?_) ?_
                       rotate_left
                       · (obtain ⟨x0, x1, x2, xl⟩ := HX.out w1 (below_at HW.out hw1)
                          have q0 := HC2'.out w1 hw1
                          have a0 := q0.1
                          have a1 := q0.2.1
                          have a2 := q0.2.2.1
                          have a3 := q0.2.2.2
                          clear q0
                          have ql : g2 < w1.heap.size := by have := hw1.size; have := HGL.out; omega
                          clear hw1
                          go_simp <;> with_reducible rfl)
                       simp only [Act.put, List.setIfInBounds_toArray, List.set_cons_zero, List.set_cons_succ]))
                  refine plan_last ?_
                  go_wp2_with fail
                  refine (HCALL.out Wd).mono ?_
                  rintro y w9 ⟨rfl, b9⟩
                  have HV9 := Lib.hid (below_at HBD.out b9)
                  clear b9
                  go_wp2_with fail
                  repeat (first
                    | (refine plan_pure (v := ?_) (by rfl) (fun w1 => ?_) ?_
                       rotate_left
                       · go_simp <;> with_reducible rfl
                       simp only [Act.put, List.setIfInBounds_toArray, List.set_cons_zero, List.set_cons_succ])
                    | (refine plan_off (by rfl) ?_
                       simp only [Act.put, List.setIfInBounds_toArray, List.set_cons_zero, List.set_cons_succ])
                    | (refine plan_load_off (by rfl) ?_
                       simp only [Act.put, List.setIfInBounds_toArray, List.set_cons_zero, List.set_cons_succ])
                    | (refine plan_load (v := ?_) (by rfl) (fun w1 hw1 => ?_) ?_
                       rotate_left
                       · (skip
                          clear hw1
                          go_simp <;> with_reducible rfl)
                       simp only [Act.put, List.setIfInBounds_toArray, List.set_cons_zero, List.set_cons_succ]))
                  refine plan_end ?_
                  cases b with
                  | true =>
                    go_wp2_with fail
                    go_roundw
                    case rel => exact ⟨j + 1, by omega, by go_num, Lib.hid (ins_takeR HI.out HIN.out (of_decide_eq_true HBB.out.symm)), HV9⟩
                    case measure => simp [intOf]; omega
                  | false =>
                    go_wp2_with fail
                    go_ret
                    exact ⟨by rw [decide_eq_false (fun h => of_decide_eq_false HBB.out.symm ((h.2 q (List.mem_of_getElem? HQ.out)).2 _ (List.mem_of_getElem? HI.out)))]; rfl, below_at HB.out (below_at HW.out HV9.out)⟩
                · have hjn : j = q.length := by omega
                  have hin := HIN.out
                  rw [hjn, List.take_length] at hin
                  have HIN2 := Lib.hid hin
                  have HV2 := Lib.hid (below_at HW.out HV.out)
                  clear hin hjn
                  go_wp2_with fail
                  go_roundw
                  case rel => exact ⟨k + 1, by omega, by go_num, Lib.hid (code_take HQ.out HOK.out ⟨h8, HIN2.out⟩), HV2⟩
                  case measure => simp [intOf]; omega
            · have h8' : (8 : Int) < (q.length : Int) := by omega
              have hd : decide (8 < q.length) = true := by simp; omega
              go_wp2_with fail
              go_ret
              exact ⟨by rw [decide_eq_false (fun h => h8 (h.2 q (List.mem_of_getElem? HQ.out)).1)]; rfl, below_at HB.out HW.out⟩
          · have hkn : k = L.length := by omega
            have hok := HOK.out
            rw [hkn, List.take_length] at hok
            have HOK := Lib.hid hok
            clear hok
            go_wp2_with fail
            go_ret
            exact ⟨by rw [decide_eq_true (show Pr.Ok ⟨v, m, L⟩ from ⟨HHD.out, HOK.out⟩)]; rfl, below_at HB.out HW.out⟩
end Go.Proofs.YtcaapoacmfjnmaaGreat
