/- FoataTells: of any events the levels, and the key, are the document's; read they are the same. -/
import Derived.Test.YtgahjibjladafaaFoApart
import Derived.Test.YtgahjibjladafaaApp
import Derived.JoinedTies
import GoSem.Claim
import Derived.KernelRfl
namespace Go.Proofs.Ytgahjibjladafaa
open Go.RowKit
set_option linter.unusedVariables false

theorem tells_facts (l : List Ev) : ∃ (L : List (List Ev)) (ks : ByteArray) (b : Bool), Fo.levR l = L ∧ (⟨(Fo.key l).toArray⟩ : ByteArray) = ks ∧ ks.size ≤ 1 + 2 * l.length ∧ L.length ≤ l.length ∧ L.flatten.length ≤ l.length ∧ (∀ q ∈ L, q.length ≤ l.length) ∧
    (b = false → ks = ⟨#[]⟩) ∧ (b = true → ks.data.toList ≠ [] ∧ Fo.readL ks.data.toList = some L ∧ (⟨(Fo.printL L).toArray⟩ : ByteArray) = ks) := by
  by_cases h : Fo.okRow l = true
  · have h1 : Fo.levR l = Fo.lev l := by unfold Fo.levR; rw [if_pos h]
    obtain ⟨k1, k2, k3⟩ := Fo.key_read h
    have hf := (Fo.lev_flat l).length_eq
    have hlen : (Fo.lev l).length ≤ l.length := by rw [Fo.lev_len]; exact Fo.levU_len l
    refine ⟨_, _, true, h1, rfl, ?_, hlen, by omega, fun q hq => by have := Fo.mem_len hq; omega, fun h => (by cases h), fun _ => ⟨by simpa using k1, by simpa using k2, by rw [k3]⟩⟩
    rw [Fo.key_enc h, Fo.enc_eq]
    have := Fo.encP_len (L := Fo.lev l) (Fo.lev l).length
    rw [List.take_length] at this
    show (Fo.encP (Fo.lev l) ++ [0]).toArray.size ≤ _
    simp only [List.size_toArray, List.length_append, List.length_singleton]
    omega
  · have h1 : Fo.levR l = [] := by unfold Fo.levR; rw [if_neg h]
    have h2 := Fo.key_none (l := l) (by simpa using h)
    refine ⟨_, _, false, h1, rfl, ?_, by simp, by simp, fun q hq => (by cases hq), fun _ => by rw [h2], fun h => (by cases h)⟩
    rw [h2]
    show 0 ≤ _
    omega

set_option maxRecDepth 100000 in
set_option maxHeartbeats 4000000 in
theorem foataTells_any (W : World) (A : Option Addr) (cap : Nat) (l : List Ev) (hr : Rd W 4 A l.length (l.flatMap encE)) (hl : l.length ≤ maxLen) :
    Calls Try.prog 3 #[.slice A l.length cap] W fun e w' => e = .returned (.bool true) ∧ Below W.heap.size W w' := by
  have hm : l.length < 9223372036854775808 := by unfold maxLen at hl; omega
  have HR := Lib.hid hr
  clear hr hl
  go_enter Try.func3, Try.ntmps3
  go_upto_region 1 with fail
  go_cut [13] (fun v w2 => Below W.heap.size W w2 ∧ ∃ b, v = .bool b ∧ (b = false → l.length ≤ 60))
  case first =>
    go_wp2_with fail
    refine (awake05 _).mono ?_
    rintro e w1 ⟨rfl, b1⟩
    go_wp2_with fail
    all_goals (go_meet)
    all_goals (exact ⟨b1, _, rfl, fun h => by first | (cases h; done) | (simp at h; omega) | omega⟩)
  case rest =>
    obtain ⟨b1, b, rfl, hb⟩ := hcut
    have HB1 := Lib.hid b1
    clear b1
    cases b with
    | true =>
      go_wp2_with fail
      refine (awake05 _).mono ?_
      rintro e w2 ⟨rfl, b2⟩
      go_wp2_with fail
      go_ret
      exact ⟨rfl, below_at HB1.out b2⟩
    | false =>
      have h60 := hb rfl
      clear hb hm
      obtain ⟨i0, hi0, hz0, hz1, hz2⟩ := info_parts Try.infoEv
      obtain ⟨L, ks, b, hL, hks, hs0, hl1, hl2, hl3, hf, ht⟩ := tells_facts l
      have hrd : ∀ u, Below W.heap.size W u → Rd u 4 A l.length (l.flatMap encE) := fun u hu => HR.out.below hu (Nat.le_refl _)
      have hlev : ∀ (u : World) (A' : Option Addr) (cap' : Nat), Rd u 4 A' l.length (l.flatMap encE) → Calls Try.prog 13 #[.slice A' l.length cap'] u (LvOut u L) := fun u A' cap' hu => hL ▸ levels_any u A' cap' l hu (by omega)
      have hkey : ∀ (u : World), Below W.heap.size W u → Calls Try.prog 14 #[.slice A l.length cap] u fun x w' => x = .returned (.string ks) ∧ Below u.heap.size u w' := fun u hu => hks ▸ fkey_any u A cap l (hrd u hu) (by omega)
      have hrlev : ∀ (u : World), Below W.heap.size W u → Calls Try.prog 16 #[.slice A l.length cap] u (LvOut u L) := fun u hu => hL ▸ refLevels_any u A cap l (hrd u hu) (by omega)
      have hrkey : ∀ (u : World), Below W.heap.size W u → Calls Try.prog 17 #[.slice A l.length cap] u fun x w' => x = .returned (.string ks) ∧ Below u.heap.size u w' := fun u hu => hks ▸ refKey_any u A cap l (hrd u hu) (by omega)
      have hq : ∀ q ∈ L, q.length < 4611686018427387904 := fun q h => by have := hl3 q h; omega
      have HRD := Lib.hid hrd
      have HLEV := Lib.hid hlev
      have HKEY := Lib.hid hkey
      have HRLEV := Lib.hid hrlev
      have HRKEY := Lib.hid hrkey
      have HQ := Lib.hid hq
      have HF := Lib.hid hf
      have HT := Lib.hid ht
      clear hL hks hrd hlev hkey hrlev hrkey hq hf ht hl3 HR
      have hX : Rd (wc.alloc (Obj.cells #[] 39)) 4 A l.length (l.flatMap encE) := HRD.out _ (HB1.out.alloc HB1.out.size _)
      have HX := Lib.hid hX
      clear hX
      go_wp2_with (at_builtin; refine wpList_append_copy (by rfl) _ _ _ (by rfl) 39 i0 _ 4 32 Try.underlying22 hi0 hz0 hz1 hz2 rfl (by omega) ⟨wc.heap.size, 0, none⟩ 0 [] (by rfl) (row_empty (heap_alloc_new wc _)) A l.length cap (l.flatMap encE) (by rfl) HX.out (by unfold maxLen; omega) (by omega) ?_; intro g7 o7 cap7 w2 hown hb2 _)
      rw [Nat.zero_add, List.nil_append] at hown
      have HB2 := Lib.hid (below_at (HB1.out.alloc HB1.out.size _) hb2)
      have HC := Lib.hid (HLEV.out w2 _ cap7 hown.rd)
      clear hown hb2 HX HB1 HLEV
      refine HC.out.mono ?_
      rintro x w3 ⟨A3, cap3, rfl, hlv, hb3⟩
      have HB3 := Lib.hid (below_at HB2.out hb3)
      have HL := Lib.hid hlv
      have HC3 := Lib.hid (HKEY.out w3 HB3.out)
      clear hlv hb3
      go_wp2_with fail
      refine HC3.out.mono ?_
      rintro x w4 ⟨rfl, hb4⟩
      have HB4 := Lib.hid (below_at HB3.out hb4)
      have HL4 := Lib.hid ((HL.out.below hb4).mono hb4.size)
      have HC4 := Lib.hid (HRLEV.out w4 HB4.out)
      clear hb4 HL HC HC3
      go_wp2_with fail
      refine HC4.out.mono ?_
      rintro x w5 ⟨A5, cap5, rfl, hlv, hb5⟩
      have HB5 := Lib.hid (below_at HB4.out hb5)
      have HL5 := Lib.hid ((HL4.out.below hb5).mono hb5.size)
      have hsame := same_any w5 A3 cap3 L A5 cap5 L HL5.out hlv (by omega) HQ.out
      rw [decide_eq_true rfl] at hsame
      have HS := Lib.hid hsame
      clear hsame hlv hb5 HC4 HL4
      go_wp2_with fail
      refine HS.out.mono ?_
      rintro x w6 ⟨rfl, hb6⟩
      have HB6 := Lib.hid (below_at HB5.out hb6)
      have HL6 := Lib.hid ((HL5.out.below hb6).mono hb6.size)
      have HC6 := Lib.hid (HRKEY.out w6 HB6.out)
      clear hb6 HS HL5
      go_wp2_with fail
      refine HC6.out.mono ?_
      rintro x w7 ⟨rfl, hb7⟩
      have HB7 := Lib.hid (below_at HB6.out hb7)
      have HL7 := Lib.hid ((HL6.out.below hb7).mono hb7.size)
      have HC7 := Lib.hid (fread_any w7 ks (by omega))
      clear hb7 HC6 HL6
      go_wp2_with fail
      refine HC7.out.mono ?_
      rintro x w8 hx
      cases b with
      | false =>
        have hk0 := HF.out rfl
        rcases hx with ⟨A8, cap8, M, hM, _⟩ | ⟨_, rfl, hb8⟩
        · rw [hk0] at hM; cases hM
        · have HB8 := Lib.hid (below_at HB7.out hb8)
          clear hb8 HC7 HF HT HRD HKEY HRLEV HRKEY
          subst hk0
          go_wp2_with fail
          go_ret
          exact ⟨rfl, HB8.out⟩
      | true =>
        obtain ⟨hne, hrd, hpr⟩ := HT.out rfl
        rcases hx with ⟨A8, cap8, M, hM, rfl, hlv8, hb8⟩ | ⟨hM, _⟩
        case inr => rw [hrd] at hM; cases hM
        have : M = L := by rw [hrd] at hM; exact (Option.some.inj hM).symm
        subst this
        have he : ks.toList.isEmpty = false := by rw [ByteArray.toList_eq]; cases hq : ks.data.toList with
          | nil => exact (hne hq).elim
          | cons _ _ => rfl
        have HB8 := Lib.hid (below_at HB7.out hb8)
        have HL8 := Lib.hid ((HL7.out.below hb8).mono hb8.size)
        have hsame := same_any w8 A8 cap8 M A3 cap3 M hlv8 HL8.out (by omega) HQ.out
        rw [decide_eq_true rfl] at hsame
        have HS := Lib.hid hsame
        have hpf : ∀ (u : World), LvAt u u.heap.size A3 M → Calls Try.prog 22 #[.slice A3 M.length cap3] u fun x w' => x = .returned (.string ks) ∧ Below u.heap.size u w' := fun u hu => hpr ▸ fprint_any u A3 cap3 M hu (by omega) (by omega)
        have HPF := Lib.hid hpf
        have hfl : M.flatten.length ≤ 60 := by omega
        have hrow : ∀ u, LvAt u u.heap.size A3 M → Calls Try.prog 20 #[.slice A3 M.length cap3] u (RowOut u M.flatten) := fun u hu => frow_any u A3 cap3 M hu (by omega) (by omega)
        have hrrow : ∀ u, LvAt u u.heap.size A3 M → Calls Try.prog 21 #[.slice A3 M.length cap3] u (RowOut u M.flatten) := fun u hu => refRow_any u A3 cap3 M hu (by omega) (by omega)
        clear hl2
        generalize M.flatten = R at hfl hrow hrrow
        have HROW := Lib.hid hrow
        have HRROW := Lib.hid hrrow
        clear hrow hrrow
        clear hM hrd hpr hsame hlv8 hb8 hne hpf HC7 HF HT HRD HKEY HRLEV HRKEY HL7
        go_wp2_with fail
        refine HS.out.mono ?_
        rintro x w9 ⟨rfl, hb9⟩
        have HB9 := Lib.hid (below_at HB8.out hb9)
        have HL9 := Lib.hid ((HL8.out.below hb9).mono hb9.size)
        have HR9 := Lib.hid (HROW.out w9 HL9.out)
        clear hb9 HS HL8
        go_wp2_with fail
        refine HR9.out.mono ?_
        rintro x w10 ⟨A10, cap10, rfl, ⟨hr10, _⟩, hb10⟩
        have HB10 := Lib.hid (below_at HB9.out hb10)
        have HL10 := Lib.hid ((HL9.out.below hb10).mono hb10.size)
        have HR10 := Lib.hid hr10
        have HRR := Lib.hid (HRROW.out w10 HL10.out)
        clear hb10 hr10 HL9 HR9
        go_wp2_with fail
        refine HRR.out.mono ?_
        rintro x w11 ⟨A11, cap11, rfl, ⟨hr11, _⟩, hb11⟩
        have HB11 := Lib.hid (below_at HB10.out hb11)
        have HL11 := Lib.hid ((HL10.out.below hb11).mono hb11.size)
        have hse := sameEvents_any w11 A10 cap10 R A11 cap11 R (HR10.out.below hb11 (Nat.le_refl _)) hr11 (by omega)
        rw [decide_eq_true rfl] at hse
        have HSE := Lib.hid hse
        clear hb11 hr11 hse HL10 HR10 HRR
        go_wp2_with fail
        refine HSE.out.mono ?_
        rintro x w12 ⟨rfl, hb12⟩
        have HB12 := Lib.hid (below_at HB11.out hb12)
        have HP := Lib.hid (HPF.out w12 ((HL11.out.below hb12).mono hb12.size))
        clear hb12 HSE HL11
        go_wp2_with fail
        refine HP.out.mono ?_
        rintro x w13 ⟨rfl, hb13⟩
        have HB13 := Lib.hid (below_at HB12.out hb13)
        clear hb13 HP
        go_wp2_with fail
        go_ret
        exact ⟨by simp, HB13.out⟩

open Go.ChangeShapes Go.WideShapes Go.ChangeAt
set_option maxRecDepth 100000 in
theorem FoataTells_walk {H : Type} {enc : TypeId × Value → H} (W : World) {base : Nat} {v0 : Value} {d0 : DataW H} {p0 : List MemPlace}
    (o0 : Value.okWide Try.prog W .any base 22 v0) (h0 : DataW.Trod enc Try.prog W 0 (fun _ => true) true 22 v0 d0 p0) :
    Calls Try.prog 3 #[v0] W fun e w' => e = .returned (.bool true) ∧ Below W.heap.size W w' := by
  obtain ⟨fuel, hf⟩ := h0
  obtain ⟨A, len, cap, rfl⟩ := okWide_slice Try.underlying22 o0
  obtain ⟨l, rfl, hr, h1, h2⟩ := row_read (by simpa [Value.cells] using hf)
  exact foataTells_any W A cap l hr (Nat.le_trans h1 h2)
namespace foataTells
theorem own : ownKnob Try.prog.godebug = none := by kernel_rfl
theorem laidOut : laidOutB Try.prog = true := by kernel_rfl
set_option maxRecDepth 100000 in
theorem lifted (os : Os) (started : os.Started) (H : Type) (enc : TypeId × Value → H) :
    ReturnsInHanded {} Try.checked os 3 .any (Rows.foataTellsSpec.pre6 enc Try.prog Try.f3 Rows.foataTellsRow.domain false) (Rows.foataTellsSpec.post enc Try.prog Try.f3 false true false false) := by
  refine returnsInHanded_of_change_sized (C := Try.checked) own started (by kernel_rfl) Try.func3
    (ChangeSpec.witness6 (enc := enc) (C := Try.checked) false ⟨#[], #[.slice none 0 0], []⟩ 8 (by kernel_rfl) (by kernel_rfl) (by kernel_rfl) (by kernel_rfl)) ?_
  intro W base args ds gs before hval0 hW hcnd hsz0 _
  have hval : ∀ (j : Nat) t v, Try.f3.params[j]? = some t → args[j]? = some v → Value.okWide Try.prog W .any base t v := hval0
  have hW' := hW
  obtain ⟨p, q, hA0, hV, rfl, hfz, hnd⟩ := hW
  have hA : DataW.TrodAll enc Try.prog W 0 (fun _ => true) true Try.f3.params.toList args.toList ds p := hA0
  rw [Try.params3] at hA hval
  obtain ⟨v0, vs0, d0, ds0, p0, q0, hargs, rfl, rfl, h0, r0⟩ := trodAll_cons hA
  obtain ⟨rfl, rfl, rfl⟩ := trodAll_nil r0
  obtain rfl : args = #[v0] := by cases args; simp_all
  obtain ⟨rfl, rfl⟩ := trodVars_none hV
  have lt0 : ∀ x ∈ p0, x.block < W.heap.size := by obtain ⟨m, hm⟩ := h0; exact DataW.trod_lt m _ _ _ hm
  clear hA0 hval0 hsz0
  refine (FoataTells_walk W (hval 0 22 v0 rfl rfl) h0).mono fun e W' ⟨he, bel⟩ => ?_
  subst he
  exact ⟨_, rfl, _, _, _, [], _, [], hW', trodAll_mk1 (shut_bool Try.underlying4 _), (trodAll_cons_mk (Below.trod laidOut (by kernel_rfl) (of_decide_eq_true (by kernel_rfl)) h0 bel lt0) trodAll_mk0), rfl, bel.frame _, fun h => (by cases h)⟩
theorem over : Rows.foataTellsRow.holds Try.pinned (OpenSpec.ofChange Rows.foataTellsSpec) :=
  OpenClaim.holds_of_wide 3 Try.f3 rfl rfl rfl rfl rfl rfl rfl ⟨rfl, rfl, rfl, rfl, rfl⟩ rfl rfl rfl rfl rfl (by kernel_rfl) Try.func3 (by kernel_rfl)
    (of_decide_eq_true (by kernel_rfl)) (by unfold Func.isWrapper; first | (rw [if_pos (by decide +kernel)]; kernel_rfl) | (rw [if_neg (by decide +kernel)]; exact ⟨rfl, rfl⟩))
    (fun os started H enc _ => lifted os started H enc)
end foataTells
/-- The row. -/
theorem foataTells_holds : Rows.FoataTellsSaid := foataTells.over
#print axioms foataTells_holds
end Go.Proofs.Ytgahjibjladafaa
