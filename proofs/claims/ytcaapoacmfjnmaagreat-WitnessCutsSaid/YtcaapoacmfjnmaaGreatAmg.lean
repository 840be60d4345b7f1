/- Rows of texts: Among. -/
import Derived.Test.YtcaapoacmfjnmaaGreatReX
namespace Go.Proofs.YtcaapoacmfjnmaaGreat
open Go.RowKit
set_option linter.unusedVariables false

set_option maxRecDepth 100000 in
set_option maxHeartbeats 4000000 in
theorem among_any (w : World) (A : Option Addr) (cap : Nat) (a : List Ky.K) (B : Option Addr) (cap' : Nat) (b : List Ky.K) (ha : Rd w 1 A a.length (a.map sv)) (hb : Rd w 1 B b.length (b.map sv)) (hb1 : b.length ≤ cap') (hb2 : cap' ≤ maxLen) (hla : a.length ≤ 1000000) (hlb : b.length ≤ 1000000) :
    Calls Tryz.prog 27 #[.slice A a.length cap, .slice B b.length cap'] w fun x w' => x = .returned (.bool (decide (∀ x ∈ a, x ∈ b))) ∧ Below w.heap.size w w' := by
  have HC := Lib.hid (str_cell ha.toB)
  have hins : ∀ (u : World) (s : Ky.K), Below w.heap.size w u → _ := fun u s hu => insert_any u B cap' b s (hb.below hu (Nat.le_refl _)) hb1 hb2 hlb
  have hsame : ∀ (u : World), Below w.heap.size w u → _ := fun u hu => same6_any u B cap' b none 0 [] (hb.below hu (Nat.le_refl _)) (Row.nil u 9 1).rd (by omega)
  have HINS := Lib.hid hins
  have HSAME := Lib.hid hsame
  obtain ⟨res, hres⟩ : ∃ r, r = decide (∀ x ∈ a, x ∈ b) := ⟨_, rfl⟩
  rw [← hres]
  have HRES := Lib.hid hres
  obtain ⟨na, hna⟩ : ∃ n, n = a.length := ⟨_, rfl⟩
  obtain ⟨nb, hnb⟩ : ∃ n, n = b.length := ⟨_, rfl⟩
  rw [← hna] at hla ⊢
  rw [← hnb] at hlb ⊢
  have HNA := Lib.hid (And.intro hna hnb)
  clear ha hb hins hsame hres hna hnb hb1 hb2
  go_enter Tryz.func27, Tryz.ntmps27
  go_wp2_with fail
  go_loopw [5] (fun v wr => ∃ i : Nat, i ≤ na ∧ v = .int .i64 i ∧ Hid (∀ x ∈ a.take i, x ∈ b) ∧ Hid (Below w.heap.size w wr)) (fun v _ => na - (intOf v).toNat)
  case atStart => exact ⟨0, Nat.zero_le _, rfl, Lib.hid (fun x hx => by simp at hx), Lib.hid (Below.refl _ _)⟩
  case round =>
    obtain ⟨i, hi, rfl, HIN, HB⟩ := hrel
    by_cases hlt : i < na
    · obtain ⟨x, hx⟩ := get_some (show i < a.length by rw [← HNA.out.1]; exact hlt)
      obtain ⟨g, o, rfl, hg, hcl⟩ := HC.out i x hx
      have v0 := hcl wr HB.out
      have lg : g < wr.heap.size := Nat.lt_of_lt_of_le hg HB.out.size
      have hcall := HINS.out wr x HB.out
      rw [← HNA.out.2] at hcall
      obtain ⟨xb, hxb⟩ : ∃ xb : ByteArray, xb = ⟨x.toArray⟩ := ⟨_, rfl⟩
      rw [← hxb] at v0 hcall
      have HCALL := Lib.hid hcall
      have HX := Lib.hid hx
      have k1 : (0 : Int) ≤ (i : Int) := Int.natCast_nonneg _
      have k2 : (i : Int) < (na : Int) := by omega
      clear hcall hx hcl hxb
      go_wp2_with fail
      refine HCALL.out.mono ?_
      rintro y w1 ⟨A1, c1, rfl, _, b1⟩
      obtain ⟨n1, hn1⟩ : ∃ n, n = (Ky.insG b x).length := ⟨_, rfl⟩
      rw [← hn1]
      have hl := Ky.insG_len b x
      rw [← hn1, ← HNA.out.2] at hl
      have HB1 := Lib.hid (below_at HB.out b1)
      clear b1 hn1 HCALL v0 lg
      by_cases hm : x ∈ b
      · rw [if_pos hm] at hl
        subst hl
        have HM := Lib.hid hm
        clear hm
        have e1 : ((n1 : Int) != (n1 : Int)) = false := by simp
        go_wp2_with fail
        go_roundw
        case rel => exact ⟨i + 1, by omega, by go_num, Lib.hid (fun z hz => by
          rw [List.take_add_one, HX.out] at hz
          rcases List.mem_append.1 hz with h | h
          · exact HIN.out z h
          · simp at h; subst h; exact HM.out), HB1⟩
        case measure => simp [intOf]; omega
      · rw [if_neg hm] at hl
        have hr : res = false := by rw [HRES.out]; exact decide_eq_false (fun h => hm (h x (List.mem_of_getElem? HX.out)))
        have e1 : ((n1 : Int) != (nb : Int)) = true := by simp; omega
        have HL := Lib.hid hl
        subst hr
        clear hm hl HRES
        go_wp2_with fail
        go_ret
        exact ⟨rfl, HB1.out⟩
    · obtain rfl : i = na := by omega
      have hall : ∀ x ∈ a, x ∈ b := fun x hx => HIN.out x (by rw [List.take_of_length_le (by rw [← HNA.out.1]; exact Nat.le_refl _)]; exact hx)
      have hr : res = true := by rw [HRES.out]; exact decide_eq_true hall
      by_cases h0 : i = 0
      · subst h0
        subst hr
        clear HRES hall
        go_wp2_with fail
        go_ret
        exact ⟨rfl, HB.out⟩
      · have hbn : b ≠ [] := fun e => by
          obtain ⟨x, hx⟩ := get_some (show 0 < a.length by rw [← HNA.out.1]; omega)
          have := hall x (List.mem_of_getElem? hx)
          rw [e] at this; cases this
        have e1 : ((i : Int) == 0) = false := by simpa using h0
        have hcall := HSAME.out wr HB.out
        rw [decide_eq_false hbn, ← HNA.out.2] at hcall
        have HCALL := Lib.hid hcall
        subst hr
        clear HRES hall hbn hcall
        go_wp2_with fail
        refine HCALL.out.mono ?_
        rintro y w1 ⟨rfl, b1⟩
        have HB1 := Lib.hid (below_at HB.out b1)
        clear b1
        go_wp2_with fail
        go_ret
        exact ⟨rfl, HB1.out⟩
end Go.Proofs.YtcaapoacmfjnmaaGreat
