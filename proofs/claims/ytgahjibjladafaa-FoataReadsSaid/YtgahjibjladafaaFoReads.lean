/- FoataReads: any bytes are read as the document says, any levels written as it says. -/
import Derived.Test.YtgahjibjladafaaFoRd
import Derived.Test.YtgahjibjladafaaFs
import Derived.Test.YtgahjibjladafaaFr
import Derived.JoinedTies
import GoSem.Claim
import Derived.KernelRfl
namespace Go.Proofs.Ytgahjibjladafaa
open Go.RowKit
set_option linter.unusedVariables false

theorem flat_bound {m : Nat} : ∀ {L : List (List Ev)}, (∀ q ∈ L, q.length ≤ m) → L.flatten.length ≤ L.length * m
  | [], _ => by simp
  | q :: L, h => by
    rw [List.flatten_cons, List.length_append, List.length_cons, Nat.add_mul, Nat.one_mul]
    have := flat_bound (L := L) (fun r hr => h r (List.mem_cons_of_mem _ hr))
    have := h q List.mem_cons_self
    omega

set_option maxRecDepth 100000 in
set_option maxHeartbeats 4000000 in
theorem foataReads_any (W : World) (s : ByteArray) (A : Option Addr) (cap : Nat) (L : List (List Ev)) (hs : s.size ≤ maxLen) (hL : LvAt W W.heap.size A L) (hl : L.length ≤ maxLen) (hq : ∀ q ∈ L, q.length ≤ maxLen) :
    Calls Try.prog 4 #[.string s, .slice A L.length cap] W fun e w' => e = .returned (.bool true) ∧ Below W.heap.size W w' := by
  have hm1 : s.size < 9223372036854775808 := by unfold maxLen at hs; omega
  have hm2 : L.length < 9223372036854775808 := by unfold maxLen at hl; omega
  have HLV := Lib.hid hL
  have HC := Lib.hid hL.cell
  have HQ := Lib.hid hq
  clear hs hl hL hq
  go_enter Try.func4, Try.ntmps4
  go_upto_region 1 with fail
  go_cut [22] (fun v w2 => Below W.heap.size W w2 ∧ ∃ b, v = .bool b ∧ (b = false → s.size ≤ 200 ∧ L.length ≤ 20))
  case first =>
    go_wp2_with fail
    refine (awake05 _).mono ?_
    rintro e w1 ⟨rfl, b1⟩
    go_wp2_with fail
    all_goals (go_meet)
    all_goals (exact ⟨b1, _, rfl, fun h => by first | (cases h; done) | (simp at h; omega) | omega⟩)
  case rest =>
    obtain ⟨b1, b, rfl, hb⟩ := hcut
    have HB1 := Lib.hid b1
    clear b1
    cases b with
    | true =>
      go_wp2_with fail
      refine (awake05 _).mono ?_
      rintro e w2 ⟨rfl, b2⟩
      go_wp2_with fail
      go_ret
      exact ⟨rfl, below_at HB1.out b2⟩
    | false =>
      obtain ⟨h0, h1⟩ := hb rfl
      clear hb
      go_wp2_with fail
      go_loop [26] (fun v => ∃ k : Nat, k ≤ L.length ∧ v = .int .i64 k ∧ Hid (∀ q ∈ L.take k, q.length ≤ 20)) (fun v => L.length - (intOf v).toNat)
      case atStart => exact ⟨0, Nat.zero_le _, rfl, Lib.hid (by simp)⟩
      case round =>
        obtain ⟨k, hk, rfl, HK⟩ := hrel
        by_cases hlt : k < L.length
        · obtain ⟨g, o, A', c', rfl, hg, hp, hcl⟩ := HC.out k hlt
          have hc := hcl wc HB1.out
          clear hcl hp
          by_cases h20 : L[k].length ≤ 20
          · have hd : decide (20 < L[k].length) = false := by simp; omega
            have hn := HK.out
            have hnx : ∀ q ∈ L.take (k + 1), q.length ≤ 20 := fun q hq => by
              rw [List.take_succ_eq_append_getElem hlt] at hq
              rcases List.mem_append.1 hq with hq | hq
              · exact hn q hq
              · rw [List.mem_singleton] at hq; rw [hq]; exact h20
            have HNX := Lib.hid hnx
            clear hn hnx hg
            go_wp2_with fail
            go_round
            case rel => exact ⟨k + 1, by omega, by go_num, HNX⟩
            case measure => simp [intOf]; omega
          · go_wp2_with fail
            go_ret
            exact ⟨rfl, HB1.out⟩
        · have hall : ∀ q ∈ L, q.length ≤ 20 := fun q hq => HK.out q (by rw [List.take_of_length_le (by omega)]; exact hq)
          have hfl : L.flatten.length ≤ 400 := by have := flat_bound hall; have : L.length * 20 ≤ 20 * 20 := Nat.mul_le_mul_right _ h1; omega
          clear hall HK HQ HC
          have hpa : ∀ u, Below W.heap.size W u → Calls Try.prog 22 #[.slice A L.length cap] u fun x w' => x = .returned (.string ⟨(Fo.printL L).toArray⟩) ∧ Below u.heap.size u w' := fun u hu => fprint_any u A cap L ((HLV.out.below hu).mono hu.size) (by omega) (by omega)
          have hpb : ∀ u, Below W.heap.size W u → Calls Try.prog 24 #[.slice A L.length cap] u fun x w' => x = .returned (.string ⟨(Fo.printL L).toArray⟩) ∧ Below u.heap.size u w' := fun u hu => refPrintL_any u A cap L ((HLV.out.below hu).mono hu.size) (by omega) (by omega)
          have HPA := Lib.hid hpa
          have HPB := Lib.hid hpb
          clear hpa hpb
          have hra := fread_any wc s (by omega)
          have HRA := Lib.hid hra
          have hrb : ∀ u, Calls Try.prog 23 #[.string s] u (ReadOutB u s.data.toList) := fun u => refReadL_any u s (by omega)
          have HRB := Lib.hid hrb
          clear hra hrb
          generalize (⟨(Fo.printL L).toArray⟩ : ByteArray) = pr at HPA HPB
          go_wp2_with fail
          refine HRA.out.mono ?_
          rintro x w1 hx
          have hsum : ∃ (M : List (List Ev)) (A1 : Option Addr) (cap1 : Nat) (ok : Bool) (ev : Int), x = .returned (.tuple #[.slice A1 M.length cap1, .int .i64 ev]) ∧ (ok = true → ev = 0) ∧ (ok = false → ev = 3) ∧ LvAt w1 w1.heap.size A1 M ∧ Below wc.heap.size wc w1 ∧ Fo.readL s.data.toList = (if ok = true then some M else none) ∧ (ok = false → M = []) ∧ M.length < 4611686018427387904 ∧ ∀ q ∈ M, q.length < 4611686018427387904 := by
            rcases hx with ⟨A1, cap1, M, hM, rfl, h2, h3⟩ | ⟨hM, rfl, h3⟩
            · refine ⟨M, A1, cap1, true, 0, rfl, fun _ => rfl, fun h => (by cases h), h2, h3, hM, fun h => (by cases h), ?_, fun q hq => ?_⟩
              · obtain ⟨q1, q2⟩ := Fo.readL_spec hM
                have e1 := congrArg List.length q2
                have e2 := Fo.enc_len M
                simp at e1
                omega
              · have := (Fo.okL_mem (Fo.readL_spec hM).1 hq).2.1
                omega
            · exact ⟨[], none, 0, false, 3, rfl, fun h => (by cases h), fun _ => rfl, ⟨[], ⟨rfl, fun h => by simp at h⟩, fun i hi => (by cases hi)⟩, h3, hM, fun _ => rfl, by simp, fun q hq => (by cases hq)⟩
          obtain ⟨M, A1, cap1, ok, ev, rfl, hev0, hev1, hlv, hb1, hM, hno, hM1, hM2⟩ := hsum
          clear hx
          have HB2 := Lib.hid (below_at HB1.out hb1)
          have HLM := Lib.hid hlv
          have HM := Lib.hid hM
          have HE0 := Lib.hid hev0
          have HE1 := Lib.hid hev1
          clear hev0 hev1
          have HNO := Lib.hid hno
          have HM2 := Lib.hid hM2
          clear hb1 hlv hM hno hM2 HRA
          go_wp2_with fail
          refine (HRB.out _).mono ?_
          rintro y w2 hy
          have hsum2 : ∃ (A2 : Option Addr) (cap2 : Nat), y = .returned (.tuple #[.slice A2 M.length cap2, .bool ok]) ∧ LvAt w2 w2.heap.size A2 M ∧ Below w1.heap.size w1 w2 := by
            cases ok with
            | true =>
              rcases hy with ⟨A2, cap2, M', hM', rfl, h2, h3⟩ | ⟨hM', _⟩
              · have : M' = M := by have e := HM.out; rw [hM'] at e; exact Option.some.inj e
                subst this
                exact ⟨A2, cap2, rfl, h2, h3⟩
              · have e := HM.out; rw [hM'] at e; cases e
            | false =>
              have e0 : M = [] := HNO.out rfl
              subst e0
              rcases hy with ⟨A2, cap2, M', hM', _⟩ | ⟨hM', rfl, h3⟩
              · have e := HM.out; rw [hM'] at e; cases e
              · exact ⟨none, 0, rfl, ⟨[], ⟨rfl, fun h => by simp at h⟩, fun i hi => (by cases hi)⟩, h3⟩
          obtain ⟨A2, cap2, rfl, hlv2, hb2⟩ := hsum2
          clear hy
          have hsame : Calls Try.prog 15 #[.slice A1 M.length cap1, .slice A2 M.length cap2] w2 fun x w' => x = .returned (.bool true) ∧ Below w2.heap.size w2 w' := by
            have := same_any w2 A1 cap1 M A2 cap2 M ((HLM.out.below hb2).mono hb2.size) hlv2 hM1 HM2.out
            rw [decide_eq_true rfl] at this
            exact this
          have HS := Lib.hid hsame
          have HB3 := Lib.hid (below_at HB2.out hb2)
          clear hsame hlv2 hb2 HLM HRB HM HNO HM2
          go_wp2_with fail
          refine HS.out.mono ?_
          rintro x w3 ⟨rfl, hb3⟩
          have HB4 := Lib.hid (below_at HB3.out hb3)
          have HPA1 := Lib.hid (HPA.out w3 HB4.out)
          clear hb3
          rcases (Bool.eq_false_or_eq_true ok).elim (fun h : ok = true => (Or.inr ⟨h, HE0.out h⟩ : (ok = false ∧ ev = 3) ∨ (ok = true ∧ ev = 0))) (fun h : ok = false => .inl ⟨h, HE1.out h⟩) with ⟨rfl, rfl⟩ | ⟨rfl, rfl⟩
          all_goals
            clear HE0 HE1
            go_wp2_with fail
            refine HPA1.out.mono ?_
            rintro x w4 ⟨rfl, hb4⟩
            have HB5 := Lib.hid (below_at HB4.out hb4)
            have HPB1 := Lib.hid (HPB.out w4 HB5.out)
            clear hb4
            go_wp2_with fail
            refine HPB1.out.mono ?_
            rintro x w5 ⟨rfl, hb5⟩
            have HB6 := Lib.hid (below_at HB5.out hb5)
            clear hb5
            go_wp2_with fail
            go_ret
            exact ⟨rfl, HB6.out⟩

open Go.ChangeShapes Go.WideShapes Go.ChangeAt
set_option maxRecDepth 100000 in
theorem FoataReads_walk {H : Type} {enc : TypeId × Value → H} (W : World) {base : Nat} {v0 v1 : Value} {d0 d1 : DataW H} {p0 p1 : List MemPlace}
    (o0 : Value.okWide Try.prog W .any base 9 v0) (h0 : DataW.Trod enc Try.prog W 0 (fun _ => true) true 9 v0 d0 p0)
    (o1 : Value.okWide Try.prog W .any base 24 v1) (h1 : DataW.Trod enc Try.prog W 0 (fun _ => true) true 24 v1 d1 p1) :
    Calls Try.prog 4 #[v0, v1] W fun e w' => e = .returned (.bool true) ∧ Below W.heap.size W w' := by
  obtain ⟨fuel, hf⟩ := h0
  obtain ⟨fuel', hf'⟩ := h1
  obtain ⟨A, len, cap, rfl⟩ := okWide_slice Try.underlying24 o1
  obtain ⟨s, rfl⟩ := okWide_string Try.underlying9 o0
  obtain ⟨s', e, hs⟩ := tr_string Try.underlying9 (by simpa [Value.cells] using hf)
  obtain rfl : s = s' := by simpa using e
  obtain ⟨L, rfl, hL, hl, hq⟩ := lv_read (by simpa [Value.cells] using hf')
  exact foataReads_any W s A cap L hs hL hl hq
namespace foataReads
theorem own : ownKnob Try.prog.godebug = none := by kernel_rfl
theorem laidOut : laidOutB Try.prog = true := by kernel_rfl
set_option maxRecDepth 100000 in
theorem lifted (os : Os) (started : os.Started) (H : Type) (enc : TypeId × Value → H) :
    ReturnsInHanded {} Try.checked os 4 .any (Rows.foataReadsSpec.pre6 enc Try.prog Try.f4 Rows.foataReadsRow.domain false) (Rows.foataReadsSpec.post enc Try.prog Try.f4 false true false false) := by
  refine returnsInHanded_of_change_sized (C := Try.checked) own started (by kernel_rfl) Try.func4
    (ChangeSpec.witness6 (enc := enc) (C := Try.checked) false ⟨#[], #[.string ByteArray.empty, .slice none 0 0], []⟩ 8 (by kernel_rfl) (by kernel_rfl) (by kernel_rfl) (by kernel_rfl)) ?_
  intro W base args ds gs before hval0 hW hcnd hsz0 _
  have hval : ∀ (j : Nat) t v, Try.f4.params[j]? = some t → args[j]? = some v → Value.okWide Try.prog W .any base t v := hval0
  have hW' := hW
  obtain ⟨p, q, hA0, hV, rfl, hfz, hnd⟩ := hW
  have hA : DataW.TrodAll enc Try.prog W 0 (fun _ => true) true Try.f4.params.toList args.toList ds p := hA0
  rw [Try.params4] at hA hval
  obtain ⟨v0, vs0, d0, ds0, p0, q0, hargs, rfl, rfl, h0, r0⟩ := trodAll_cons hA
  obtain ⟨v1, vs1, d1, ds1, p1, q1, rfl, rfl, rfl, h1, r1⟩ := trodAll_cons r0
  obtain ⟨rfl, rfl, rfl⟩ := trodAll_nil r1
  obtain rfl : args = #[v0, v1] := by cases args; simp_all
  obtain ⟨rfl, rfl⟩ := trodVars_none hV
  have lt0 : ∀ x ∈ p0, x.block < W.heap.size := by obtain ⟨m, hm⟩ := h0; exact DataW.trod_lt m _ _ _ hm
  have lt1 : ∀ x ∈ p1, x.block < W.heap.size := by obtain ⟨m, hm⟩ := h1; exact DataW.trod_lt m _ _ _ hm
  clear hA0 hval0 hsz0
  refine (FoataReads_walk W (hval 0 9 v0 rfl rfl) h0 (hval 1 24 v1 rfl rfl) h1).mono fun e W' ⟨he, bel⟩ => ?_
  subst he
  exact ⟨_, rfl, _, _, _, [], _, [], hW', trodAll_mk1 (shut_bool Try.underlying4 _), (trodAll_cons_mk (Below.trod laidOut (by kernel_rfl) (of_decide_eq_true (by kernel_rfl)) h0 bel lt0) (trodAll_cons_mk (Below.trod laidOut (by kernel_rfl) (of_decide_eq_true (by kernel_rfl)) h1 bel lt1) trodAll_mk0)), rfl, bel.frame _, fun h => (by cases h)⟩
theorem over : Rows.foataReadsRow.holds Try.pinned (OpenSpec.ofChange Rows.foataReadsSpec) :=
  OpenClaim.holds_of_wide 4 Try.f4 rfl rfl rfl rfl rfl rfl rfl ⟨rfl, rfl, rfl, rfl, rfl⟩ rfl rfl rfl rfl rfl (by kernel_rfl) Try.func4 (by kernel_rfl)
    (of_decide_eq_true (by kernel_rfl)) (by unfold Func.isWrapper; first | (rw [if_pos (by decide +kernel)]; kernel_rfl) | (rw [if_neg (by decide +kernel)]; exact ⟨rfl, rfl⟩))
    (fun os started H enc _ => lifted os started H enc)
end foataReads
/-- The row. -/
theorem foataReads_holds : Rows.FoataReadsSaid := foataReads.over
#print axioms foataReads_holds
end Go.Proofs.Ytgahjibjladafaa
