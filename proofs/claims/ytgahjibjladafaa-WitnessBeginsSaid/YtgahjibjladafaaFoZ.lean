/- The document's Right (of levels). -/
import Derived.Test.YtgahjibjladafaaFoY
namespace Go.Proofs.Ytgahjibjladafaa
open Go.RowKit
set_option linter.unusedVariables false

set_option maxRecDepth 100000 in
set_option maxHeartbeats 4000000 in
theorem refRightL_any (w : World) (A : Option Addr) (cap : Nat) (L : List (List Ev)) (h : LvAt w w.heap.size A L) (hl : L.length ≤ 1000000) (ht : L.flatten.length ≤ 1000000) :
    Calls Try.prog 68 #[.slice A L.length cap] w fun x w' => x = .returned (.bool (Fo.okL L)) ∧ Below w.heap.size w w' := by
  have hrow := refRow_any w A cap L h hl ht
  have hemp : ∀ q ∈ L, q.length = 0 → Fo.okL L = false := fun q hq h0 => by
    cases hb : Fo.okL L with
    | false => rfl
    | true => have := (Fo.okL_mem hb hq).1; omega
  have hno : Fo.okRow L.flatten = false → Fo.okL L = false := Fo.okL_no
  have hyes : Fo.okRow L.flatten = true → Fo.okL L = decide (Fo.lev L.flatten = L) ∧ Fo.levR L.flatten = Fo.lev L.flatten := fun e => ⟨Fo.okL_eq e, by unfold Fo.levR; rw [if_pos e]⟩
  have hok : Fo.okRow L.flatten = (decide (L.flatten.length ≤ 200) && Fo.rights L.flatten) := rfl
  have hq4 : ∀ q ∈ Fo.lev L.flatten, q.length ≤ 1000000 := fun q hq => Nat.le_trans (Fo.lev_in_len _ _ hq) ht
  have hl4 : (Fo.lev L.flatten).length ≤ 1000000 := Nat.le_trans (Fo.lev_len_le _) ht
  generalize Fo.okL L = K at *
  generalize L.flatten = R at *
  have HL := Lib.hid h
  have HROW := Lib.hid hrow
  have HEMP := Lib.hid hemp
  have HNO := Lib.hid hno
  have HYES := Lib.hid hyes
  have HOK := Lib.hid hok
  have HQ4 := Lib.hid hq4
  have HL4 := Lib.hid hl4
  clear h hrow hemp hno hyes hok hq4 hl4
  go_enter Try.func68, Try.ntmps68
  go_wp2_with fail
  go_loopw [3] (fun v wr => ∃ k : Nat, k ≤ L.length ∧ v = .int .i64 k ∧ w = wr) (fun v _ => L.length - (intOf v).toNat)
  case atStart => exact ⟨0, Nat.zero_le _, rfl, rfl⟩
  case round =>
    obtain ⟨k, hk, rfl, rfl⟩ := hrel
    by_cases hlt : k < L.length
    · obtain ⟨g, o, A', c', rfl, hg, hP, hcl⟩ := HL.out.cell k hlt
      have v0 := hcl w (Below.refl _ _)
      have k1 : (0 : Int) ≤ (k : Int) := Int.natCast_nonneg _
      have k2 : (k : Int) < (L.length : Int) := by omega
      have hem := HEMP.out L[k] (List.getElem_mem hlt)
      generalize L[k] = q at v0 hem
      clear hcl hP
      generalize q.length = m at *
      by_cases hz : m = 0
      · have e1 : ((m : Int) == 0) = true := by simp; omega
        have HF := Lib.hid (hem hz)
        clear hem hz
        go_wp2_with fail
        go_ret
        exact ⟨by rw [HF.out]; rfl, Below.refl _ _⟩
      · have e1 : ((m : Int) == 0) = false := by simp; omega
        clear hem hz
        go_wp2_with fail
        go_roundw
        case rel => exact ⟨k + 1, by omega, by go_num, by trivial⟩
        case measure => simp [intOf]; omega
    · have hkn : ¬ (k : Int) < (L.length : Int) := by omega
      go_wp2_with fail
      refine HROW.out.mono ?_
      rintro x w1 ⟨A1, cap1, rfl, ⟨hrd, _⟩, hb1⟩
      have hc1 := rows_any w1 A1 cap1 R hrd (by omega)
      have hc2 : ∀ w2, Below w1.heap.size w1 w2 → Calls Try.prog 16 #[.slice A1 R.length cap1] w2 (LvOut w2 (Fo.levR R)) := fun w2 hb => refLevels_any w2 A1 cap1 R (hrd.below hb (Nat.le_refl _)) (by omega)
      have HB1 := Lib.hid hb1
      have HC1 := Lib.hid hc1
      have HC2 := Lib.hid hc2
      clear hb1 hrd hc1 hc2
      by_cases h200 : R.length ≤ 200
      · have hn : (R.length : Int) ≤ 200 := by omega
        have hok2 : Fo.okRow R = Fo.rights R := by rw [HOK.out, decide_eq_true h200, Bool.true_and]
        have HO2 := Lib.hid hok2
        clear hok2 h200
        obtain ⟨b, hb⟩ : ∃ b, b = Fo.rights R := ⟨_, rfl⟩
        rw [← hb] at HC1 HO2
        clear hb
        go_wp2_with fail
        refine HC1.out.mono ?_
        rintro x w2 ⟨rfl, b2⟩
        have hb2 := below_at HB1.out b2
        have HB2 := Lib.hid hb2
        cases b with
        | false =>
          clear b2 hb2
          go_wp2_with fail
          go_ret
          exact ⟨by rw [HNO.out HO2.out]; rfl, HB2.out⟩
        | true =>
          obtain ⟨h1, h2⟩ := HYES.out HO2.out
          have hcall := HC2.out w2 b2
          rw [h2] at hcall
          have HC3 := Lib.hid hcall
          have HK := Lib.hid h1
          clear hcall h1 h2 b2 hb2
          go_wp2_with fail
          refine HC3.out.mono ?_
          rintro x w3 ⟨A3, cap3, rfl, hlv3, b3⟩
          have hb3 := below_at HB2.out b3
          have hcall := same_any w3 A3 cap3 (Fo.lev R) A cap L hlv3 ((HL.out.below hb3).mono hb3.size) (by have := HL4.out; omega) (fun q hq => by have := HQ4.out q hq; omega)
          rw [← HK.out] at hcall
          have HB3 := Lib.hid hb3
          have HC4 := Lib.hid hcall
          clear hlv3 b3 hb3 hcall
          go_wp2_with fail
          refine HC4.out.mono ?_
          rintro x w4 ⟨rfl, b4⟩
          have HB4 := Lib.hid (below_at HB3.out b4)
          clear b4
          go_wp2_with fail
          go_ret
          exact ⟨rfl, HB4.out⟩
      · have hn : ¬ (R.length : Int) ≤ 200 := by omega
        have hok2 : Fo.okRow R = false := by rw [HOK.out, decide_eq_false h200, Bool.false_and]
        have HO2 := Lib.hid hok2
        clear hok2 h200
        go_wp2_with fail
        go_ret
        exact ⟨by rw [HNO.out HO2.out]; rfl, HB1.out⟩
end Go.Proofs.Ytgahjibjladafaa
