/- FoataApart: no two events of a level depend on one another; each one of a later level depends on one of the level ahead. -/
import Derived.Test.YtgahjibjladafaaFoLv
import Derived.Test.YtgahjibjladafaaFs
import Derived.Test.YtgahjibjladafaaFoTh
import Derived.JoinedTies
import GoSem.Claim
import Derived.KernelRfl
namespace Go.Proofs.Ytgahjibjladafaa
open Go.RowKit
set_option linter.unusedVariables false

theorem below_chain {w a b : World} {B : Nat} (h : Below B w a) (k : Below a.heap.size a b) (hB : B ≤ w.heap.size) : Below B w b := h.trans ⟨k.os, k.tape, k.output, k.size, fun i hi => k.block i (by have := h.size; omega)⟩
/-- a box of an event, read in later worlds -/
theorem box_ev (w : World) (e : Ev) : ∃ W X, W = w.alloc (Obj.cells #[.int .i64 e.t, .int .i64 e.k, .int .i64 e.o, .bool e.f] 39) ∧ X = w.heap.size ∧ Below w.heap.size w W ∧ X < W.heap.size ∧ ∀ u, Below W.heap.size W u → EvAt u X 0 e := by
  refine ⟨_, _, rfl, rfl, (Below.refl _ _).alloc (Nat.le_refl _) _, by simp, fun u hu => ?_⟩
  have h1 := heap_alloc_new w (Obj.cells #[.int .i64 e.t, .int .i64 e.k, .int .i64 e.o, .bool e.f] 39)
  have g1 := (hu.block _ (blk_lt h1)).trans h1
  exact ⟨by rw [cell_blk g1]; rfl, by rw [cell_blk g1]; rfl, by rw [cell_blk g1]; rfl, by rw [cell_blk g1]; rfl⟩

theorem any_step {α : Type} {q : List α} {p : α → Bool} {k : Nat} {x : α} (h : q[k]? = some x) : (q.take (k + 1)).any p = ((q.take k).any p || p x) := by
  rw [List.take_add_one, h, List.any_append]
  simp
theorem apart_facts (l : List Ev) : ∃ L : List (List Ev), Fo.lev l = L ∧ (∀ (i : Nat) (q : List Ev), L[i]? = some q → ∀ (j k : Nat) (x e : Ev), j < k → q[j]? = some x → q[k]? = some e → Fo.dep x e = false) ∧
    (∀ (i : Nat) (Q q : List Ev), L[i]? = some Q → L[i + 1]? = some q → ∀ (k : Nat) (e : Ev), q[k]? = some e → (Q.any fun x => Fo.dep x e) = true) ∧ L.flatten.length = l.length ∧ L.length ≤ l.length ∧ ∀ (i : Nat) (q : List Ev), L[i]? = some q → q.length ≤ l.length := by
  refine ⟨_, rfl, fun i q hq j k x e hjk hx he => ?_, fun i Q q hQ hq k e he => ?_, (Fo.lev_flat l).length_eq, by rw [Fo.lev_len]; exact Fo.levU_len l, fun i q hq => ?_⟩
  · obtain ⟨h1, rfl⟩ := List.getElem?_eq_some_iff.1 hq
    obtain ⟨h2, rfl⟩ := List.getElem?_eq_some_iff.1 hx
    obtain ⟨h3, rfl⟩ := List.getElem?_eq_some_iff.1 he
    exact Fo.apart_no h1 hjk h3
  · obtain ⟨h1, rfl⟩ := List.getElem?_eq_some_iff.1 hQ
    obtain ⟨h2, rfl⟩ := List.getElem?_eq_some_iff.1 hq
    exact Fo.apart_up h2 (List.mem_of_getElem? he)
  · obtain ⟨h1, rfl⟩ := List.getElem?_eq_some_iff.1 hq
    have := Fo.mem_len (List.getElem_mem h1); have := (Fo.lev_flat l).length_eq; omega
set_option maxRecDepth 100000 in
set_option maxHeartbeats 4000000 in
theorem foataApart_any (W : World) (A : Option Addr) (cap : Nat) (l : List Ev) (hr : Rd W 4 A l.length (l.flatMap encE)) (hl : l.length ≤ maxLen) :
    Calls Try.prog 5 #[.slice A l.length cap] W fun e w' => e = .returned (.bool true) ∧ Below W.heap.size W w' := by
  have hm : l.length < 9223372036854775808 := by unfold maxLen at hl; omega
  have hrows : l.length ≤ 60 → ∀ u, Below W.heap.size W u → Calls Try.prog 25 #[.slice A l.length cap] u fun x w' => x = .returned (.bool (Fo.rights l)) ∧ Below u.heap.size u w' := fun h60 u hu => rows_any u A cap l (hr.below hu (Nat.le_refl _)) (by omega)
  have hlev : l.length ≤ 60 → ∀ u, Below W.heap.size W u → Calls Try.prog 13 #[.slice A l.length cap] u (LvOut u (Fo.levR l)) := fun h60 u hu => levels_any u A cap l (hr.below hu (Nat.le_refl _)) (by omega)
  obtain ⟨r, hrr⟩ : ∃ r, r = Fo.rights l := ⟨_, rfl⟩
  rw [← hrr] at hrows
  have HRR := Lib.hid hrr
  have HROWS := Lib.hid hrows
  have HLEV := Lib.hid hlev
  clear hr hl hrows hlev hrr
  go_enter Try.func5, Try.ntmps5
  go_upto_region 1 with fail
  go_cut [25] (fun v w2 => Below W.heap.size W w2 ∧ ∃ b, v = .bool b ∧ (b = false → l.length ≤ 60 ∧ r = true))
  case first =>
    go_wp2_with fail
    refine (awake05 _).mono ?_
    rintro e w1 ⟨rfl, b1⟩
    have HB1 := Lib.hid b1
    by_cases h60 : l.length ≤ 60
    · have HR1 := Lib.hid (HROWS.out h60 w1 b1)
      clear b1
      have hd : decide (60 < l.length) = false := by simp; omega
      go_wp2_with fail
      refine HR1.out.mono ?_
      rintro e w2 ⟨rfl, b2⟩
      go_wp2_with fail
      go_meet
      exact ⟨below_at HB1.out b2, _, rfl, fun h => ⟨h60, by cases r <;> simp_all⟩⟩
    · clear b1
      have hd : decide (60 < l.length) = true := by simp; omega
      go_wp2_with fail
      go_meet
      exact ⟨HB1.out, _, rfl, fun h => by cases h⟩
  case rest =>
    obtain ⟨b1, b, rfl, hb⟩ := hcut
    have HB1 := Lib.hid b1
    clear b1
    cases b with
    | true =>
      go_wp2_with fail
      refine (awake05 _).mono ?_
      rintro e w2 ⟨rfl, b2⟩
      go_wp2_with fail
      go_ret
      exact ⟨rfl, below_at HB1.out b2⟩
    | false =>
      obtain ⟨h60, rfl⟩ := hb rfl
      clear hb
      have hlr : Fo.levR l = Fo.lev l := by unfold Fo.levR Fo.okRow; rw [if_pos (by rw [← HRR.out]; simp; omega)]
      have hl1 := HLEV.out h60 wc HB1.out
      obtain ⟨L, hLL, hno, hup, hsum, hln, hlq⟩ := apart_facts l
      rw [hlr, hLL] at hl1
      have hlq : ∀ (i : Nat) (q : List Ev), L[i]? = some q → q.length ≤ 60 := fun i q hi => Nat.le_trans (hlq i q hi) h60
      have hsn : ∀ (k : Nat) (q : List Ev), L[k]? = some q → sumN L (k + 1) = sumN L k + q.length := fun k q hq => by obtain ⟨h1, rfl⟩ := List.getElem?_eq_some_iff.1 hq; exact sumN_succ h1
      have hsl := sumN_le L
      have hse : sumN L L.length = l.length := by unfold sumN; rw [List.take_length]; exact hsum
      have HL1 := Lib.hid hl1
      have HNO := Lib.hid hno
      have HUP := Lib.hid hup
      have HLQ := Lib.hid hlq
      have HSN := Lib.hid hsn
      have HSL := Lib.hid hsl
      have HSE := Lib.hid hse
      have HSUM := Lib.hid hsum
      clear hl1 hno hup hlq hsn hsl hse hsum hlr hLL HLEV HRR HROWS
      go_wp2_with fail
      refine HL1.out.mono ?_
      rintro x w1 ⟨A1, cap1, rfl, hlv, hb1⟩
      have HBW := Lib.hid (below_at HB1.out hb1)
      have HC := Lib.hid hlv.lvl
      clear hb1 hlv HL1 HB1
      go_wp2_with fail
      go_loopw [4, 31] (fun v4 v31 wr => ∃ i : Nat, i ≤ L.length ∧ v31 = .int .i64 i ∧ v4 = .int .i64 (sumN L i) ∧ Hid (Below w1.heap.size w1 wr)) (fun _ v _ => L.length - (intOf v).toNat)
      case atStart => exact ⟨0, Nat.zero_le _, rfl, rfl, Lib.hid (Below.refl _ _)⟩
      case round =>
        obtain ⟨i, hi, rfl, rfl, HF⟩ := hrel
        by_cases hlt : i < L.length
        · obtain ⟨q, hqi⟩ := get_some hlt
          obtain ⟨g, o, A', c', rfl, hg, _, hp, hcl, hc1, hc2⟩ := HC.out i q hqi
          have hc := hcl wr HF.out
          have hn1 := HSN.out i q hqi
          have hn2 := HSL.out (i + 1)
          have hn3 := HSUM.out
          have hq := HLQ.out i q hqi
          have hno := HNO.out i q hqi
          have hpv : i ≠ 0 → ∃ (Q : List Ev) (Ap : Option Addr) (cp : Nat), Q.length ≤ 60 ∧ (∀ u, Below w1.heap.size w1 u → u.cell? ⟨g, o + (i - 1), none⟩ = some (.slice Ap Q.length cp)) ∧
              (∀ (j : Nat) (e : Ev), Q[j]? = some e → ∃ g o, Ap = some ⟨g, o, none⟩ ∧ g < w1.heap.size ∧ ∀ u, Below w1.heap.size w1 u → EvAt u g (o + j * 4) e) ∧ ∀ (k : Nat) (e : Ev), q[k]? = some e → (Q.any fun x => Fo.dep x e) = true := fun h0 => by
            obtain ⟨j, rfl⟩ : ∃ j, i = j + 1 := ⟨i - 1, by omega⟩
            obtain ⟨Q, hQ⟩ := get_some (show j < L.length by omega)
            obtain ⟨g2, o2, A2, c2, e2, _, _, hp2, hcl2, _⟩ := HC.out j Q hQ
            obtain ⟨rfl, rfl⟩ : g = g2 ∧ o = o2 := by injection e2 with e2; injection e2 with a b; exact ⟨a, b⟩
            exact ⟨Q, A2, c2, HLQ.out j Q hQ, fun u hu => by simpa using hcl2 u hu, hp2, HUP.out j Q q hQ hqi⟩
          generalize hs1 : sumN L (i + 1) = s1 at *
          generalize hs0 : sumN L i = s0 at *
          have HS1 := Lib.hid hs1
          have HEV := Lib.hid hp
          have HNO1 := Lib.hid hno
          have HPV := Lib.hid hpv
          have HN1 := Lib.hid hn1
          have k1 : (0 : Int) ≤ (i : Int) := Int.natCast_nonneg _
          have k2 : (i : Int) < (L.length : Int) := by omega
          have k3 : s0 + q.length ≤ 60 := by omega
          have lgw : g < wr.heap.size := by have := HF.out.size; omega
          clear hcl hp hn1 hn2 hn3 hno hpv hs1 hs0 hqi
          go_wp2_with fail
          go_loopw [42] (fun v wr => ∃ k : Nat, k ≤ q.length ∧ v = .int .i64 k ∧ Hid (Below w1.heap.size w1 wr)) (fun v _ => q.length - (intOf v).toNat)
          case atStart => exact ⟨0, Nat.zero_le _, rfl, HF⟩
          case round =>
            clear HF hc lgw
            obtain ⟨k, hk, rfl, HF⟩ := hrel
            by_cases hkl : k < q.length
            · obtain ⟨e, hke⟩ := get_some hkl
              obtain ⟨g3, o3, rfl, hg3, hcl⟩ := HEV.out k e hke
              obtain ⟨v0, v1, v2, v3⟩ := hcl wr HF.out
              have hno := fun (j : Nat) (x : Ev) (hj : j < k) (hx : q[j]? = some x) => HNO1.out j k x e hj hx hke
              have HNO2 := Lib.hid hno
              have HKE := Lib.hid hke
              clear hcl hno hke
              go_upto_region 12 with fail
              obtain ⟨W1, X, hW1, hX, hBW, hXl, hXe⟩ := box_ev wr e
              rw [← hW1, ← hX]
              have HF1 := Lib.hid (below_chain HF.out hBW (Nat.le_refl _))
              have HXE := Lib.hid hXe
              clear hW1 hX hBW v0 v1 v2 v3 hXe HF
              go_wp2_with fail
              go_loopw [51] (fun v wr => ∃ j : Nat, j ≤ k ∧ v = .int .i64 j ∧ Hid (Below W1.heap.size W1 wr)) (fun v _ => k - (intOf v).toNat)
              case atStart => exact ⟨0, Nat.zero_le _, rfl, Lib.hid (Below.refl _ _)⟩
              case round =>
                obtain ⟨j, hj, rfl, HG⟩ := hrel
                have HFG := Lib.hid (below_chain HF1.out HG.out (Nat.le_refl _))
                by_cases hjl : j < k
                · obtain ⟨x, hjx⟩ := get_some (show j < q.length by omega)
                  obtain ⟨g4, o4, e4, hg4, hcl⟩ := HEV.out j x hjx
                  obtain ⟨rfl, rfl⟩ : g3 = g4 ∧ o3 = o4 := by injection e4 with e4; injection e4 with a b; exact ⟨a, b⟩
                  obtain ⟨v0, v1, v2, v3⟩ := hcl wr HFG.out
                  have HDEP := Lib.hid (HNO2.out j x hjl hjx)
                  clear hjx e4 hcl
                  go_upto_region 15 with fail
                  obtain ⟨W2, Y, hW2, hY, hBW2, hYl, hYe⟩ := box_ev wr x
                  rw [← hW2, ← hY]
                  have HG2 := Lib.hid (below_chain HG.out hBW2 (Nat.le_refl _))
                  obtain ⟨y0, y1, y2, y3⟩ := hYe W2 (Below.refl _ _)
                  obtain ⟨x0, x1, x2, x3⟩ := HXE.out W2 HG2.out
                  have hcall := refDepends_any W2 x e
                  rw [HDEP.out] at hcall
                  unfold valE at hcall
                  have HCALL := Lib.hid hcall
                  clear hW2 hY hBW2 hYe v0 v1 v2 v3 hcall
                  go_wp2_with fail
                  refine HCALL.out.mono ?_
                  rintro x w3 ⟨rfl, hb3⟩
                  have HG3 := Lib.hid (below_chain HG2.out hb3 (Nat.le_refl _))
                  clear hb3 x0 x1 x2 x3 y0 y1 y2 y3
                  go_wp2_with fail
                  go_roundw
                  case rel => exact ⟨j + 1, by omega, by go_num, HG3⟩
                  case measure => simp [intOf]; omega
                · obtain rfl : j = k := by omega
                  clear HNO2 hjl
                  have HXE2 := Lib.hid (fun u (hu : Below wr.heap.size wr u) => HXE.out u (below_chain HG.out hu (Nat.le_refl _)))
                  clear HXE HF1 HG
                  have lgw : g < wr.heap.size := by have := HFG.out.size; omega
                  by_cases hi0 : i = 0
                  · subst hi0
                    clear HPV HKE
                    go_wp2_with fail
                    go_roundw
                    case rel => exact ⟨j + 1, by omega, by go_num, HFG⟩
                    case measure => simp [intOf]; omega
                  · obtain ⟨Q, Ap, cp, hQ6, hcq, hQe, hQd⟩ := HPV.out hi0
                    have hcw := hcq wr HFG.out
                    have hdp := hQd j e HKE.out
                    have hi1 : (0 : Int) < (i : Int) := by omega
                    have hi2 : ((i : Int) == 0) = false := by rw [beq_eq_false_iff_ne]; omega
                    have hi6 : decide (0 < i) = true := by simp; omega
                    have hi3 : (i : Int) - 1 = ((i - 1 : Nat) : Int) := by omega
                    have HQE := Lib.hid hQe
                    have HDP := Lib.hid hdp
                    clear hcq hQe hQd hdp HPV HKE
                    have hi4 : ((i - 1 : Nat) : Int) < (L.length : Int) := by omega
                    have hi5 : (0 : Int) ≤ ((i - 1 : Nat) : Int) := Int.natCast_nonneg _
                    generalize wr = V at *
                    go_wp2_with fail
                    go_loopw [11, 69] (fun v11 v wz => ∃ m : Nat, m ≤ Q.length ∧ v = .int .i64 m ∧ v11 = .bool ((Q.take m).any fun x => Fo.dep x e) ∧ Hid (Below V.heap.size V wz)) (fun _ v _ => Q.length - (intOf v).toNat)
                    case atStart => exact ⟨0, Nat.zero_le _, rfl, rfl, Lib.hid (Below.refl _ _)⟩
                    case round =>
                      clear hcw lgw
                      obtain ⟨m, hm, rfl, rfl, HG⟩ := hrel
                      have HFH := Lib.hid (below_chain HFG.out HG.out (Nat.le_refl _))
                      have lgz : g < wr.heap.size := by have := HFH.out.size; omega
                      by_cases hml : m < Q.length
                      · obtain ⟨x, hmx⟩ := get_some hml
                        obtain ⟨g5, o5, rfl, hg5, hcl⟩ := HQE.out m x hmx
                        obtain ⟨v0, v1, v2, v3⟩ := hcl wr HFH.out
                        have hst := any_step (p := fun x => Fo.dep x e) hmx
                        obtain ⟨W2, Y, hW2, hY, hBW2, hYl, hYe⟩ := box_ev wr x
                        have HG2 := Lib.hid (below_chain HG.out hBW2 (Nat.le_refl _))
                        obtain ⟨y0, y1, y2, y3⟩ := hYe W2 (Below.refl _ _)
                        obtain ⟨x0, x1, x2, x3⟩ := HXE2.out W2 HG2.out
                        have hcall := refDepends_any W2 x e
                        unfold valE at hcall
                        generalize Fo.dep x e = d at hst hcall
                        generalize ((Q.take m).any fun x => Fo.dep x e) = f at hst ⊢
                        generalize hnx : ((Q.take (m + 1)).any fun x => Fo.dep x e) = nx at hst
                        have HST := Lib.hid hst
                        have HNX := Lib.hid hnx
                        have HCALL := Lib.hid hcall
                        have m1 : (0 : Int) ≤ (m : Int) := Int.natCast_nonneg _
                        have m2 : (m : Int) < (Q.length : Int) := by omega
                        have lg5 : g5 < wr.heap.size := by have := HFH.out.size; omega
                        clear hmx hcl hst hnx hcall hYe
                        go_upto_region 23 with fail
                        rw [← hW2, ← hY]
                        clear hW2 hY hBW2 v0 v1 v2 v3
                        cases f with
                        | true =>
                          go_wp2_with fail
                          go_roundw
                          case rel => exact ⟨m + 1, by omega, by go_num, by rw [HNX.out, HST.out]; rfl, HG2⟩
                          case measure => simp [intOf]; omega
                        | false =>
                          go_wp2_with fail
                          refine HCALL.out.mono ?_
                          rintro x w3 ⟨rfl, hb3⟩
                          have HG3 := Lib.hid (below_chain HG2.out hb3 (Nat.le_refl _))
                          clear hb3 x0 x1 x2 x3 y0 y1 y2 y3
                          go_wp2_with fail
                          go_roundw
                          case rel => exact ⟨m + 1, by omega, by go_num, by rw [HNX.out, HST.out]; simp, HG3⟩
                          case measure => simp [intOf]; omega
                      · have hmq : (Q.take m).any (fun x => Fo.dep x e) = true := by rw [List.take_of_length_le (by omega)]; exact HDP.out
                        rw [hmq]
                        clear hmq
                        go_wp2_with fail
                        go_roundw
                        case rel => exact ⟨j + 1, by omega, by go_num, HFH⟩
                        case measure => simp [intOf]; omega
            · have hkq : k = q.length := by omega
              have HKQ := Lib.hid hkq
              clear hkq
              go_wp2_with fail
              go_roundw
              case rel => exact ⟨i + 1, by omega, by go_num, by rw [HS1.out, HN1.out]; go_num, HF⟩
              case measure => simp [intOf]; omega
        · have hin : i = L.length := by omega
          have hse := HSE.out
          rw [← hin] at hse
          have HIN := Lib.hid hin
          rw [hse]
          clear hse hin
          go_wp2_with fail
          go_ret
          exact ⟨by simp, below_chain HBW.out HF.out (by have := HBW.out.size; omega)⟩

open Go.ChangeShapes Go.WideShapes Go.ChangeAt
set_option maxRecDepth 100000 in
theorem FoataApart_walk {H : Type} {enc : TypeId × Value → H} (W : World) {base : Nat} {v0 : Value} {d0 : DataW H} {p0 : List MemPlace}
    (o0 : Value.okWide Try.prog W .any base 22 v0) (h0 : DataW.Trod enc Try.prog W 0 (fun _ => true) true 22 v0 d0 p0) :
    Calls Try.prog 5 #[v0] W fun e w' => e = .returned (.bool true) ∧ Below W.heap.size W w' := by
  obtain ⟨fuel, hf⟩ := h0
  obtain ⟨A, len, cap, rfl⟩ := okWide_slice Try.underlying22 o0
  obtain ⟨l, rfl, hr, h1, h2⟩ := row_read (by simpa [Value.cells] using hf)
  exact foataApart_any W A cap l hr (Nat.le_trans h1 h2)
namespace foataApart
theorem own : ownKnob Try.prog.godebug = none := by kernel_rfl
theorem laidOut : laidOutB Try.prog = true := by kernel_rfl
set_option maxRecDepth 100000 in
theorem lifted (os : Os) (started : os.Started) (H : Type) (enc : TypeId × Value → H) :
    ReturnsInHanded {} Try.checked os 5 .any (Rows.foataApartSpec.pre6 enc Try.prog Try.f5 Rows.foataApartRow.domain false) (Rows.foataApartSpec.post enc Try.prog Try.f5 false true false false) := by
  refine returnsInHanded_of_change_sized (C := Try.checked) own started (by kernel_rfl) Try.func5
    (ChangeSpec.witness6 (enc := enc) (C := Try.checked) false ⟨#[], #[.slice none 0 0], []⟩ 8 (by kernel_rfl) (by kernel_rfl) (by kernel_rfl) (by kernel_rfl)) ?_
  intro W base args ds gs before hval0 hW hcnd hsz0 _
  have hval : ∀ (j : Nat) t v, Try.f5.params[j]? = some t → args[j]? = some v → Value.okWide Try.prog W .any base t v := hval0
  have hW' := hW
  obtain ⟨p, q, hA0, hV, rfl, hfz, hnd⟩ := hW
  have hA : DataW.TrodAll enc Try.prog W 0 (fun _ => true) true Try.f5.params.toList args.toList ds p := hA0
  rw [Try.params5] at hA hval
  obtain ⟨v0, vs0, d0, ds0, p0, q0, hargs, rfl, rfl, h0, r0⟩ := trodAll_cons hA
  obtain ⟨rfl, rfl, rfl⟩ := trodAll_nil r0
  obtain rfl : args = #[v0] := by cases args; simp_all
  obtain ⟨rfl, rfl⟩ := trodVars_none hV
  have lt0 : ∀ x ∈ p0, x.block < W.heap.size := by obtain ⟨m, hm⟩ := h0; exact DataW.trod_lt m _ _ _ hm
  clear hA0 hval0 hsz0
  refine (FoataApart_walk W (hval 0 22 v0 rfl rfl) h0).mono fun e W' ⟨he, bel⟩ => ?_
  subst he
  exact ⟨_, rfl, _, _, _, [], _, [], hW', trodAll_mk1 (shut_bool Try.underlying4 _), (trodAll_cons_mk (Below.trod laidOut (by kernel_rfl) (of_decide_eq_true (by kernel_rfl)) h0 bel lt0) trodAll_mk0), rfl, bel.frame _, fun h => (by cases h)⟩
theorem over : Rows.foataApartRow.holds Try.pinned (OpenSpec.ofChange Rows.foataApartSpec) :=
  OpenClaim.holds_of_wide 5 Try.f5 rfl rfl rfl rfl rfl rfl rfl ⟨rfl, rfl, rfl, rfl, rfl⟩ rfl rfl rfl rfl rfl (by kernel_rfl) Try.func5 (by kernel_rfl)
    (of_decide_eq_true (by kernel_rfl)) (by unfold Func.isWrapper; first | (rw [if_pos (by decide +kernel)]; kernel_rfl) | (rw [if_neg (by decide +kernel)]; exact ⟨rfl, rfl⟩))
    (fun os started H enc _ => lifted os started H enc)
end foataApart
/-- The row. -/
theorem foataApart_holds : Rows.FoataApartSaid := foataApart.over
#print axioms foataApart_holds
end Go.Proofs.Ytgahjibjladafaa
