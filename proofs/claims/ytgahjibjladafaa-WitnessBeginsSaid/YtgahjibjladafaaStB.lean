/- prog.Right: may a program be? -/
import Derived.Test.YtgahjibjladafaaStA
import Derived.Deep.DeepCutAuto
import Derived.Deep.CutBlock
import Derived.IntWalk
namespace Go.Proofs.Ytgahjibjladafaa
open Go.RowKit
set_option linter.unusedVariables false

theorem within_any (w : World) (a lo hi : Int) : Calls Try.prog 103 #[.int .i64 a, .int .i64 lo, .int .i64 hi] w fun x w' => x = .returned (.bool (decide (lo ≤ a ∧ a ≤ hi))) ∧ w = w' := by
  by_cases h1 : lo ≤ a
  · by_cases h2 : a ≤ hi
    · go_enter Try.func103, Try.ntmps103
      go_wp2_with fail
      go_ret
      exact ⟨by rw [decide_eq_true ⟨h1, h2⟩]; rfl, rfl⟩
    · go_enter Try.func103, Try.ntmps103
      go_wp2_with fail
      go_ret
      exact ⟨by rw [decide_eq_false (show ¬ a ≤ hi by omega)]; rfl, rfl⟩
  · go_enter Try.func103, Try.ntmps103
    go_wp2_with fail
    go_ret
    exact ⟨by rw [decide_eq_false (show ¬ lo ≤ a by omega)]; rfl, rfl⟩

theorem ins_box (w : World) (i : Ins) : ∃ W X, W = w.alloc (Obj.cells #[.int .i64 i.k, .int .i64 i.r, .int .i64 i.x, .int .i64 i.n] 115) ∧ X = w.heap.size ∧ Below w.heap.size w W ∧ X < W.heap.size ∧ ∀ u, Below W.heap.size W u → InAt u X 0 i ∧ X < u.heap.size := by
  refine ⟨_, _, rfl, rfl, (Below.refl _ _).alloc (Nat.le_refl _) _, by simp, fun u hu => ?_⟩
  have h1 := heap_alloc_new w (Obj.cells #[.int .i64 i.k, .int .i64 i.r, .int .i64 i.x, .int .i64 i.n] 115)
  have g1 := (hu.block _ (blk_lt h1)).trans h1
  exact ⟨⟨by rw [cell_blk g1]; rfl, by rw [cell_blk g1]; rfl, by rw [cell_blk g1]; rfl, by rw [cell_blk g1]; rfl⟩, blk_lt g1⟩

theorem insOk_iff {vars mtx n k r x m up reg : Int} {num : Bool} (hk1 : 1 ≤ k) (hk8 : k ≤ 8) (hnum : num = true ↔ (k = 3 ∨ k = 4)) (hreg : reg = (if k = 5 ∨ k = 6 then 0 else 1)) (hup : up = (if k = 1 ∨ k = 2 then vars else if k = 5 ∨ k = 6 then mtx else if k = 7 then n + 1 else 1)) :
    Pr.InsOk vars mtx n ⟨k, r, x, m⟩ ↔ (num = true ∨ m = 0) ∧ -128 ≤ m ∧ m ≤ 127 ∧ (0 ≤ x ∧ x ≤ up - 1) ∧ (0 ≤ r ∧ r ≤ reg) := by
  subst hreg hup
  rw [hnum]
  unfold Pr.InsOk
  rcases (show k = 1 ∨ k = 2 ∨ k = 3 ∨ k = 4 ∨ k = 5 ∨ k = 6 ∨ k = 7 ∨ k = 8 by omega) with rfl | rfl | rfl | rfl | rfl | rfl | rfl | rfl <;> simp <;> omega

set_option maxRecDepth 100000 in
set_option maxHeartbeats 4000000 in
theorem instrOk_any (w : World) (X : Nat) (vars mtx n : Int) (i : Ins) (c0 : w.cell? ⟨X, 0, none⟩ = some (.int .i64 vars)) (c1 : w.cell? ⟨X, 1, none⟩ = some (.int .i64 mtx)) (hX : X < w.heap.size) (hv : 0 ≤ vars ∧ vars ≤ 4) (hm : 0 ≤ mtx ∧ mtx ≤ 2) (hn : 0 ≤ n ∧ n ≤ 8) :
    Calls Try.prog 105 #[.pointer (some ⟨X, 0, none⟩), .int .i64 n, valI i] w fun x w' => x = .returned (.bool (decide (Pr.InsOk vars mtx n i))) ∧ Below w.heap.size w w' := by
  obtain ⟨W, Z, hW, hZ, hB, hZl, hZe⟩ := ins_box w i
  obtain ⟨⟨z0, z1, z2, z3⟩, zl⟩ := hZe W (Below.refl _ _)
  have x0 : W.cell? ⟨X, 0, none⟩ = some (.int .i64 vars) := (World.cell?_of_block (hB.block X hX)).trans c0
  have x1 : W.cell? ⟨X, 1, none⟩ = some (.int .i64 mtx) := (World.cell?_of_block (hB.block X hX)).trans c1
  have xl : X < W.heap.size := by have := hB.size; omega
  simp only [Nat.zero_add] at z1 z2 z3
  unfold valI
  have HB := Lib.hid hB
  have HW := Lib.hid hW
  have HZ := Lib.hid hZ
  obtain ⟨k, r, x, m⟩ := i
  simp only at HW z0 z1 z2 z3
  clear hB hW hZ hZe c0 c1 hX
  go_enter Try.func105, Try.ntmps105
  go_upto_region 2 with fail
  rw [← HW.out, ← HZ.out]
  go_upto_block 0 with fail
  go_cut [7, 8, 9] (fun a b c w2 => w2 = W ∧ 1 ≤ k ∧ k ≤ 8 ∧ ∃ (up reg : Int) (num : Bool), a = .int .i64 up ∧ b = .int .i64 reg ∧ c = .bool num ∧ (num = true ↔ (k = 3 ∨ k = 4)) ∧ 0 ≤ up ∧ up ≤ 9 ∧ reg = (if k = 5 ∨ k = 6 then 0 else 1) ∧ up = (if k = 1 ∨ k = 2 then vars else if k = 5 ∨ k = 6 then mtx else if k = 7 then n + 1 else 1))
  case first =>
    rcases (show k = 1 ∨ k = 2 ∨ k = 3 ∨ k = 4 ∨ k = 5 ∨ k = 6 ∨ k = 7 ∨ k = 8 ∨ (k ≠ 1 ∧ k ≠ 2 ∧ k ≠ 3 ∧ k ≠ 4 ∧ k ≠ 5 ∧ k ≠ 6 ∧ k ≠ 7 ∧ k ≠ 8) from by omega) with rfl | rfl | rfl | rfl | rfl | rfl | rfl | rfl | ⟨h1, h2, h3, h4, h5, h6, h7, h8⟩
    · go_wp2_with fail
      go_meet
      exact ⟨rfl, by omega, by omega, _, _, _, rfl, rfl, rfl, by simp, by omega, by omega, rfl, rfl⟩
    · go_wp2_with fail
      go_meet
      exact ⟨rfl, by omega, by omega, _, _, _, rfl, rfl, rfl, by simp, by omega, by omega, rfl, rfl⟩
    · go_wp2_with fail
      go_meet
      exact ⟨rfl, by omega, by omega, _, _, _, rfl, rfl, rfl, by simp, by omega, by omega, rfl, rfl⟩
    · go_wp2_with fail
      go_meet
      exact ⟨rfl, by omega, by omega, _, _, _, rfl, rfl, rfl, by simp, by omega, by omega, rfl, rfl⟩
    · go_wp2_with fail
      go_meet
      exact ⟨rfl, by omega, by omega, _, _, _, rfl, rfl, rfl, by simp, by omega, by omega, rfl, rfl⟩
    · go_wp2_with fail
      go_meet
      exact ⟨rfl, by omega, by omega, _, _, _, rfl, rfl, rfl, by simp, by omega, by omega, rfl, rfl⟩
    · go_wp2_with fail
      go_meet
      exact ⟨rfl, by omega, by omega, n + 1, _, _, by go_num, rfl, rfl, by simp, by omega, by omega, rfl, rfl⟩
    · go_wp2_with fail
      go_meet
      exact ⟨rfl, by omega, by omega, _, _, _, rfl, rfl, rfl, by simp, by omega, by omega, rfl, rfl⟩
    · go_wp2_with fail
      go_ret
      exact ⟨by rw [decide_eq_false (by unfold Pr.InsOk; simp only; omega)]; rfl, HB.out⟩
  case rest =>
    obtain ⟨hwc, hk1, hk8, up, reg, num, rfl, rfl, rfl, hnum, hu0, hu9, hreg, hup⟩ := hcut
    subst hwc
    have HNUM := Lib.hid hnum
    have HUP := Lib.hid hup
    have HREG := Lib.hid hreg
    clear hnum hup hreg
    have hw : IntKind.i64.wrap (up - 1) = up - 1 := IntWalk.i64_in _ (by omega)
    cases num with
    | false =>
      by_cases h0 : m = 0
      · subst h0
        go_wp2_with fail
        refine (within_any _ x 0 (up - 1)).mono ?_
        rintro y w1 ⟨rfl, rfl⟩
        obtain ⟨b, hb⟩ : ∃ b, b = decide (0 ≤ x ∧ x ≤ up - 1) := ⟨_, rfl⟩
        rw [← hb]
        have HBB := Lib.hid hb
        clear hb
        cases b with
        | false =>
          go_wp2_with fail
          go_ret
          exact ⟨by rw [decide_eq_false (fun h => of_decide_eq_false HBB.out.symm ((insOk_iff hk1 hk8 (num := false) (by simpa using HNUM.out) HREG.out HUP.out).1 h).2.2.2.1)]; rfl, HB.out⟩
        | true =>
          go_wp2_with fail
          refine (within_any _ r 0 reg).mono ?_
          rintro y w1 ⟨rfl, rfl⟩
          obtain ⟨b, hb⟩ : ∃ b, b = decide (0 ≤ r ∧ r ≤ reg) := ⟨_, rfl⟩
          rw [← hb]
          have HBC := Lib.hid hb
          clear hb
          go_wp2_with fail
          go_ret
          refine ⟨?_, HB.out⟩
          rw [show decide (Pr.InsOk vars mtx n ⟨k, r, x, 0⟩) = b by
            rw [HBC.out]
            exact decide_eq_decide.2 ((insOk_iff hk1 hk8 (num := false) (by simpa using HNUM.out) HREG.out HUP.out).trans ⟨fun h => h.2.2.2.2, fun h => ⟨.inr rfl, by omega, by omega, of_decide_eq_true HBB.out.symm, h⟩⟩)]
          rfl
      · go_wp2_with fail
        go_ret
        exact ⟨by rw [decide_eq_false (fun h => by rcases ((insOk_iff hk1 hk8 (num := false) (by simpa using HNUM.out) HREG.out HUP.out).1 h).1 with h3 | h3; (· cases h3); exact h0 h3)]; rfl, HB.out⟩
    | true =>
      by_cases h1 : m < -128
      · go_wp2_with fail
        go_ret
        exact ⟨by rw [decide_eq_false (fun h => by have := ((insOk_iff hk1 hk8 (num := true) (by simpa using HNUM.out) HREG.out HUP.out).1 h).2.1; omega)]; rfl, HB.out⟩
      · by_cases h2 : 127 < m
        · go_wp2_with fail
          go_ret
          exact ⟨by rw [decide_eq_false (fun h => by have := ((insOk_iff hk1 hk8 (num := true) (by simpa using HNUM.out) HREG.out HUP.out).1 h).2.2.1; omega)]; rfl, HB.out⟩
        · go_wp2_with fail
          refine (within_any _ x 0 (up - 1)).mono ?_
          rintro y w1 ⟨rfl, rfl⟩
          obtain ⟨b, hb⟩ : ∃ b, b = decide (0 ≤ x ∧ x ≤ up - 1) := ⟨_, rfl⟩
          rw [← hb]
          have HBB := Lib.hid hb
          clear hb
          cases b with
          | false =>
            go_wp2_with fail
            go_ret
            exact ⟨by rw [decide_eq_false (fun h => of_decide_eq_false HBB.out.symm ((insOk_iff hk1 hk8 (num := true) (by simpa using HNUM.out) HREG.out HUP.out).1 h).2.2.2.1)]; rfl, HB.out⟩
          | true =>
            go_wp2_with fail
            refine (within_any _ r 0 reg).mono ?_
            rintro y w1 ⟨rfl, rfl⟩
            obtain ⟨b, hb⟩ : ∃ b, b = decide (0 ≤ r ∧ r ≤ reg) := ⟨_, rfl⟩
            rw [← hb]
            have HBC := Lib.hid hb
            clear hb
            go_wp2_with fail
            go_ret
            refine ⟨?_, HB.out⟩
            rw [show decide (Pr.InsOk vars mtx n ⟨k, r, x, m⟩) = b by
              rw [HBC.out]
              exact decide_eq_decide.2 ((insOk_iff hk1 hk8 (num := true) (by simpa using HNUM.out) HREG.out HUP.out).trans ⟨fun h => h.2.2.2.2, fun h => ⟨.inl rfl, by omega, by omega, of_decide_eq_true HBB.out.symm, h⟩⟩)]
            rfl
end Go.Proofs.Ytgahjibjladafaa
