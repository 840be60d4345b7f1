/- Part 10 of the proof of leastOrder_holds: what it rests on. -/
import Derived.Test.YtckdofjpoajblaaGreatZo9
namespace Go.Proofs.YtckdofjpoajblaaGreat
open Go.RowKit
set_option linter.unusedVariables false
theorem take_rev (a : List Int) {i : Nat} (h : i < a.length) : a.reverse.take (i + 1) = a.reverse.take i ++ [a[a.length - 1 - i]'(by omega)] := by
  rw [List.take_add_one, List.getElem?_reverse h, List.getElem?_eq_getElem (by omega)]
  rfl
set_option maxRecDepth 100000 in
set_option maxHeartbeats 4000000 in
theorem leastOrder_any (w : World) (A : Option Addr) (ca : Nat) (a : List Int) (B : Option Addr) (cb : Nat) (b : List Int) (C : Option Addr) (cc : Nat) (c : List Int)
    (ha : Rd w 1 A a.length (a.map iv)) (hb : Rd w 1 B b.length (b.map iv)) (hc : Rd w 1 C c.length (c.map iv)) (la : a.length ≤ 17592186043904) (lb : b.length ≤ 17592186043904) (lc : c.length ≤ 17592186043904) :
    Calls Tryz.prog 4 #[.slice A a.length ca, .slice B b.length cb, .slice C c.length cc] w fun x w' => x = .returned (.bool true) ∧ Below w.heap.size w w' := by
  have hla : a.length < 4611686018427387904 := by omega
  have hlb : b.length < 4611686018427387904 := by omega
  have hlc : c.length < 4611686018427387904 := by omega
  have haw : ∀ u, Below w.heap.size w u → Calls Tryz.prog 17 #[] u fun x w' => x = .returned (.bool true) ∧ Below u.heap.size u w' := fun u _ => awake20 u
  have hsi : ∀ u, Below w.heap.size w u → Calls Tryz.prog 24 #[.slice A a.length ca, .slice B b.length cb] u fun x w' => x = .returned (.bool (decide (a = b))) ∧ Below u.heap.size u w' := fun u hu => sameInts_any u A ca a B cb b (ha.below hu (Nat.le_refl _)) (hb.below hu (Nat.le_refl _)) hla
  have hab : ∀ u, Below w.heap.size w u → Calls Tryz.prog 25 #[.slice A a.length ca, .slice B b.length cb] u fun x w' => x = .returned (.bool (Pr.aheadI a b)) ∧ Below u.heap.size u w' := fun u hu => ahead_any u A ca a B cb b (ha.below hu (Nat.le_refl _)) (hb.below hu (Nat.le_refl _)) hla hlb
  have hba : ∀ u, Below w.heap.size w u → Calls Tryz.prog 25 #[.slice B b.length cb, .slice A a.length ca] u fun x w' => x = .returned (.bool (Pr.aheadI b a)) ∧ Below u.heap.size u w' := fun u hu => ahead_any u B cb b A ca a (hb.below hu (Nat.le_refl _)) (ha.below hu (Nat.le_refl _)) hlb hla
  have hbc : ∀ u, Below w.heap.size w u → Calls Tryz.prog 25 #[.slice B b.length cb, .slice C c.length cc] u fun x w' => x = .returned (.bool (Pr.aheadI b c)) ∧ Below u.heap.size u w' := fun u hu => ahead_any u B cb b C cc c (hb.below hu (Nat.le_refl _)) (hc.below hu (Nat.le_refl _)) hlb hlc
  have hac : ∀ u, Below w.heap.size w u → Calls Tryz.prog 25 #[.slice A a.length ca, .slice C c.length cc] u fun x w' => x = .returned (.bool (Pr.aheadI a c)) ∧ Below u.heap.size u w' := fun u hu => ahead_any u A ca a C cc c (ha.below hu (Nat.le_refl _)) (hc.below hu (Nat.le_refl _)) hla hlc
  have hra : ∀ u, Below w.heap.size w u → Calls Tryz.prog 26 #[.slice A a.length ca, .slice B b.length cb] u fun x w' => x = .returned (.bool (Pr.aheadI a b)) ∧ Below u.heap.size u w' := fun u hu => refAhead_any u A ca a B cb b (ha.below hu (Nat.le_refl _)) (hb.below hu (Nat.le_refl _)) hla hlb
  have hsw : ∀ u, Below w.heap.size w u → Calls Tryz.prog 27 #[.slice A a.length ca] u fun x w' => x = .returned (.int .i64 (Pr.sw a : Nat)) ∧ Below u.heap.size u w' := fun u hu => switches_any u A ca a (ha.below hu (Nat.le_refl _)) hla
  have hrs : ∀ u, Below w.heap.size w u → Calls Tryz.prog 28 #[.slice A a.length ca] u fun x w' => x = .returned (.int .i64 (Pr.sw a : Nat)) ∧ Below u.heap.size u w' := fun u hu => refSwitches_any u A ca a (ha.below hu (Nat.le_refl _)) hla
  have hbk : ∀ u A' c', Rd u 1 A' a.reverse.length (a.reverse.map iv) → Calls Tryz.prog 27 #[.slice A' a.length c'] u fun x w' => x = .returned (.int .i64 (Pr.sw a : Nat)) ∧ Below u.heap.size u w' := fun u A' c' hr => by
    have := switches_any u A' c' a.reverse hr (by rw [List.length_reverse]; exact hla)
    rw [Pr.sw_rev, List.length_reverse] at this
    exact this
  have hswl := Pr.sw_le a
  have k1 : Pr.aheadI a b = true → Pr.aheadI b a = false := fun h => Pr.ahead_asymm h
  have k2 : Pr.aheadI a b = true → Pr.aheadI b c = true → Pr.aheadI a c = true := Pr.ahead_trans
  have k3 : decide (a = b) = (!Pr.aheadI a b && !Pr.aheadI b a) := by
    by_cases e : a = b
    · subst e; rw [decide_eq_true rfl, Pr.ahead_irrefl]; rfl
    · rw [decide_eq_false e]
      cases h1 : Pr.aheadI a b with
      | true => rfl
      | false =>
        cases h2 : Pr.aheadI b a with
        | true => rfl
        | false => exact (e (Pr.ahead_total h1 h2)).elim
  have hcell : ∀ (u : World), Below w.heap.size w u → ∀ i (h : i < a.length), ∃ g o, A = some ⟨g, o, none⟩ ∧ g < u.heap.size ∧ u.cell? ⟨g, o + (a.length - 1 - i), none⟩ = some (.int .i64 (a[a.length - 1 - i]'(by omega))) := fun u hu i h => by
    obtain ⟨g, o, h1, h2, h3⟩ := int_cell ha.toB (a.length - 1 - i) _ (List.getElem?_eq_getElem (by omega))
    exact ⟨g, o, h1, Nat.lt_of_lt_of_le h2 hu.size, h3 u hu⟩
  obtain ⟨x, hx⟩ : ∃ x, x = Pr.aheadI a b := ⟨_, rfl⟩
  obtain ⟨y, hy⟩ : ∃ x, x = Pr.aheadI b a := ⟨_, rfl⟩
  obtain ⟨z, hz⟩ : ∃ x, x = Pr.aheadI b c := ⟨_, rfl⟩
  obtain ⟨u, hu⟩ : ∃ x, x = Pr.aheadI a c := ⟨_, rfl⟩
  obtain ⟨s, hs⟩ : ∃ x, x = decide (a = b) := ⟨_, rfl⟩
  obtain ⟨n, hn⟩ : ∃ n, n = Pr.sw a := ⟨_, rfl⟩
  rw [← hx, ← hy] at k1 k3
  rw [← hx, ← hz, ← hu] at k2
  rw [← hs] at k3 hsi
  rw [← hn] at hswl hsw hrs
  simp only [← hn] at hbk
  rw [← hx] at hab hra
  rw [← hy] at hba
  rw [← hz] at hbc
  rw [← hu] at hac
  obtain ⟨nb, hnb⟩ : ∃ n, n = b.length := ⟨_, rfl⟩
  obtain ⟨nc, hnc⟩ : ∃ n, n = c.length := ⟨_, rfl⟩
  obtain ⟨na, hna⟩ : ∃ n, n = a.length := ⟨_, rfl⟩
  rw [← hnb, ← hna] at hsi hab hba hra
  rw [← hnb, ← hnc] at hbc
  rw [← hna, ← hnc] at hac
  rw [← hna] at hsw hrs hswl hla la
  simp only [← hna] at hbk
  rw [← hnb] at hlb lb
  rw [← hnc] at hlc lc
  rw [← hna, ← hnb, ← hnc]
  have HAW := Lib.hid haw
  have HSI := Lib.hid hsi
  have HAB := Lib.hid hab
  have HBA := Lib.hid hba
  have HBC := Lib.hid hbc
  have HAC := Lib.hid hac
  have HRA := Lib.hid hra
  have HSW := Lib.hid hsw
  have HRS := Lib.hid hrs
  have HBK := Lib.hid hbk
  have HN := Lib.hid hna
  have HCELL := Lib.hid hcell
  have HK := Lib.hid (And.intro k1 (And.intro k2 k3))
  obtain ⟨i0, hi0, hz0, hz1, hz2⟩ := info_parts Tryz.infoInt
  clear haw hsi hab hba hbc hac hra hsw hrs hbk hna hcell k1 k2 k3 hx hy hz hu hs hn hnb hnc ha hb hc
  go_enter Tryz.func4, Tryz.ntmps4
  go_wp2_with fail
  refine (HAW.out w (Below.refl _ _)).mono ?_
  rintro y' w1 ⟨rfl, b1⟩
  have HB1 := Lib.hid b1
  clear b1
  by_cases hbig : 300 < na + nb + nc
  · have q1 : (300 : Int) < (na : Int) + (nb : Int) + (nc : Int) := by omega
    go_wp2_with fail
    refine (HAW.out w1 HB1.out).mono ?_
    rintro y' w2 ⟨rfl, b2⟩
    have HB2 := Lib.hid (below_at HB1.out b2)
    go_wp2_with fail
    go_ret
    exact ⟨rfl, HB2.out⟩
  · have q1 : ¬ (300 : Int) < (na : Int) + (nb : Int) + (nc : Int) := by omega
    have q2 : na ≤ 300 := by omega
    go_wp2_with fail
    go_loopw [7, 27] (fun r v wr => ∃ (i : Nat) (A' : Option Addr) (c' : Nat), i ≤ na ∧ v = .int .i64 i ∧ r = .slice A' i c' ∧ Hid (Row wr 3 1 A' i c' ((a.reverse.take i).map iv)) ∧ Hid (∀ x, A' = some x → w.heap.size ≤ x.block) ∧ Hid (Below w.heap.size w wr)) (fun _ v _ => na - (intOf v).toNat)
    case atStart => exact ⟨0, none, 0, Nat.zero_le _, rfl, rfl, Lib.hid (Row.nil _ _ _), Lib.hid (fun x h => by cases h), HB1⟩
    case round =>
      obtain ⟨i, A', c', hi, rfl, rfl, HR, HF, HB⟩ := hrel
      rename World => V
      by_cases hlt : i < na
      · obtain ⟨g, o, rfl, hg, hcl⟩ := HCELL.out V HB.out i (by rw [← HN.out]; exact hlt)
        obtain ⟨e, he⟩ : ∃ e, e = a[a.length - 1 - i]'(by have := HN.out; omega) := ⟨_, rfl⟩
        rw [← he] at hcl
        rw [← HN.out] at hcl
        have htk := take_rev a (show i < a.length by rw [← HN.out]; exact hlt)
        rw [← he] at htk
        have HTK := Lib.hid htk
        obtain ⟨j, hj⟩ : ∃ j, j = na - 1 - i := ⟨_, rfl⟩
        rw [← hj] at hcl
        have hij : (i : Int) = (na : Int) - 1 - (j : Int) := by omega
        have r1 : (na : Int) - 1 - (i : Int) = (j : Int) := by omega
        have r2 : (0 : Int) ≤ (j : Int) := Int.natCast_nonneg _
        have r3 : (j : Int) < (na : Int) := by omega
        have r4 : j < na := by omega
        have k1 : (0 : Int) ≤ (i : Int) := Int.natCast_nonneg _
        have k2 : (i : Int) < (na : Int) := by omega
        clear htk he hij hj
        go_wp2_with (at_builtin; refine wpList_append_row (by rfl) _ _ _ (by rfl) 3 i0 _ 1 8 Tryz.underlying32 hi0 hz0 hz1 hz2 rfl (by omega) A' i c' ((a.reverse.take i).map iv) (by rfl) (HR.out.alloc _) ⟨V.heap.size, 0, none⟩ 1 1 [.int .i64 e] (by rfl) (by rfl) (World.news_of_block (cs := #[.int .i64 e]) (t := 3) (fr := (0, 0)) (heap_alloc_new V _)) (by simp [Value.oneCell']) (by omega) (by unfold maxLen; omega) (by omega) ?_; intro g1 of1 cap1 w3 hown hm hat; skip)
        obtain ⟨p1, p2⟩ := acc_more HF.out HB.out hm hat (of := of1)
        go_roundw
        case rel => exact ⟨i + 1, some ⟨g1, of1, none⟩, cap1, by omega, by go_num, rfl, Lib.hid (by rw [HTK.out, List.map_append]; exact hown), Lib.hid p1, Lib.hid p2⟩
        case measure => simp [intOf]; omega
      · obtain rfl : i = na := by omega
        have hrev : (a.reverse.take i) = a.reverse := List.take_of_length_le (by rw [List.length_reverse, ← HN.out]; exact Nat.le_refl _)
        have hrow := HR.out
        rw [hrev] at hrow
        have HBK2 := Lib.hid (fun u (hu : Below V.heap.size V u) => HBK.out u A' c' (by rw [List.length_reverse, ← HN.out]; exact (row_stepS hrow hu).rd))
        have HSI2 := Lib.hid (fun u (hu : Below V.heap.size V u) => HSI.out u (below_at HB.out hu))
        have HAB2 := Lib.hid (fun u (hu : Below V.heap.size V u) => HAB.out u (below_at HB.out hu))
        have HBA2 := Lib.hid (fun u (hu : Below V.heap.size V u) => HBA.out u (below_at HB.out hu))
        have HBC2 := Lib.hid (fun u (hu : Below V.heap.size V u) => HBC.out u (below_at HB.out hu))
        have HAC2 := Lib.hid (fun u (hu : Below V.heap.size V u) => HAC.out u (below_at HB.out hu))
        have HRA2 := Lib.hid (fun u (hu : Below V.heap.size V u) => HRA.out u (below_at HB.out hu))
        have HSW2 := Lib.hid (fun u (hu : Below V.heap.size V u) => HSW.out u (below_at HB.out hu))
        have HRS2 := Lib.hid (fun u (hu : Below V.heap.size V u) => HRS.out u (below_at HB.out hu))
        have k4 : ¬ (i : Int) < (i : Int) := by omega
        clear hrow hrev HBK HSI HAB HBA HBC HAC HRA HSW HRS HAW HCELL HR HF
        have s0 := (Below.refl V.heap.size V)
        have n1 : (n : Int) ≤ max ((i : Int) - 1) 0 := by omega
        go_wp2_with fail
        refine (HSI2.out V s0).mono ?_
        rintro y' v1 ⟨rfl, s1⟩
        go_wp2_with fail
        refine (HAB2.out v1 s1).mono ?_
        rintro y' v2 ⟨rfl, s2⟩
        have s2 := below_at s1 s2
        go_wp2_with fail
        refine (HRA2.out v2 s2).mono ?_
        rintro y' v3 ⟨rfl, s3⟩
        have s3 := below_at s2 s3
        clear s1 s2
        obtain ⟨K1, K2, K3⟩ := HK.out
        have fin : ∀ v, Below V.heap.size V v → ∀ v', Below v.heap.size v v' → Below w.heap.size w v' := fun v h v' h' => below_at HB.out (below_at h h')
        have FIN := Lib.hid fin
        clear fin
        cases x with
        | true =>
          have hy := K1 (by first | rfl | trivial)
          subst hy
          have hs : s = false := K3
          subst hs
          clear K1 K3
          go_wp2_with fail
          refine (HAB2.out v3 s3).mono ?_
          rintro y' v4 ⟨rfl, s4⟩
          have s4 := below_at s3 s4
          clear s3
          go_wp2_with fail
          refine (HAB2.out v4 s4).mono ?_
          rintro y' v5 ⟨rfl, s5⟩
          have s5 := below_at s4 s5
          clear s4
          go_wp2_with fail
          refine (HBA2.out v5 s5).mono ?_
          rintro y' v6 ⟨rfl, s6⟩
          have s6 := below_at s5 s6
          clear s5
          go_wp2_with fail
          refine (HBC2.out v6 s6).mono ?_
          rintro y' v7 ⟨rfl, s7⟩
          have s7 := below_at s6 s7
          clear s6
          cases z with
          | true =>
            have hu := K2 (by first | rfl | trivial) (by first | rfl | trivial)
            subst hu
            clear K2
            go_wp2_with fail
            refine (HAC2.out v7 s7).mono ?_
            rintro y' v8 ⟨rfl, s8⟩
            have s8 := below_at s7 s8
            clear s7
            go_wp2_with fail
            refine (HSW2.out v8 s8).mono ?_
            rintro y' v9 ⟨rfl, s9⟩
            have s9 := below_at s8 s9
            clear s8
            go_wp2_with fail
            refine (HRS2.out v9 s9).mono ?_
            rintro y' v10 ⟨rfl, s10⟩
            have s10 := below_at s9 s10
            clear s9
            go_wp2_with fail
            refine (HBK2.out v10 s10).mono ?_
            rintro y' v11 ⟨rfl, s11⟩
            have B11 := Lib.hid (FIN.out _ s10 _ s11)
            clear s10 s11
            go_wp2_with fail
            go_ret
            exact ⟨by simp [n1], B11.out⟩
          | false =>
            clear K2
            go_wp2_with fail
            refine (HSW2.out v7 s7).mono ?_
            rintro y' v9 ⟨rfl, s9⟩
            have s9 := below_at s7 s9
            clear s7
            go_wp2_with fail
            refine (HRS2.out v9 s9).mono ?_
            rintro y' v10 ⟨rfl, s10⟩
            have s10 := below_at s9 s10
            clear s9
            go_wp2_with fail
            refine (HBK2.out v10 s10).mono ?_
            rintro y' v11 ⟨rfl, s11⟩
            have B11 := Lib.hid (FIN.out _ s10 _ s11)
            clear s10 s11
            go_wp2_with fail
            go_ret
            exact ⟨by simp [n1], B11.out⟩
        | false =>
          have hs : s = !y := K3
          subst hs
          clear K1 K2 K3
          cases y with
          | true =>
            simp only [Bool.not_true] at *
            go_wp2_with fail
            refine (HAB2.out v3 s3).mono ?_
            rintro y' v4 ⟨rfl, s4⟩
            have s4 := below_at s3 s4
            clear s3
            go_wp2_with fail
            refine (HBA2.out v4 s4).mono ?_
            rintro y' v5 ⟨rfl, s5⟩
            have s5 := below_at s4 s5
            clear s4
            go_wp2_with fail
            refine (HAB2.out v5 s5).mono ?_
            rintro y' v6 ⟨rfl, s6⟩
            have s6 := below_at s5 s6
            clear s5
            go_wp2_with fail
            refine (HSW2.out v6 s6).mono ?_
            rintro y' v9 ⟨rfl, s9⟩
            have s9 := below_at s6 s9
            clear s6
            go_wp2_with fail
            refine (HRS2.out v9 s9).mono ?_
            rintro y' v10 ⟨rfl, s10⟩
            have s10 := below_at s9 s10
            clear s9
            go_wp2_with fail
            refine (HBK2.out v10 s10).mono ?_
            rintro y' v11 ⟨rfl, s11⟩
            have B11 := Lib.hid (FIN.out _ s10 _ s11)
            clear s10 s11
            go_wp2_with fail
            go_ret
            exact ⟨by simp [n1], B11.out⟩
          | false =>
            simp only [Bool.not_false] at *
            go_wp2_with fail
            refine (HAB2.out v3 s3).mono ?_
            rintro y' v4 ⟨rfl, s4⟩
            have s4 := below_at s3 s4
            clear s3
            go_wp2_with fail
            refine (HBA2.out v4 s4).mono ?_
            rintro y' v5 ⟨rfl, s5⟩
            have s5 := below_at s4 s5
            clear s4
            go_wp2_with fail
            refine (HAB2.out v5 s5).mono ?_
            rintro y' v6 ⟨rfl, s6⟩
            have s6 := below_at s5 s6
            clear s5
            go_wp2_with fail
            refine (HSW2.out v6 s6).mono ?_
            rintro y' v9 ⟨rfl, s9⟩
            have s9 := below_at s6 s9
            clear s6
            go_wp2_with fail
            refine (HRS2.out v9 s9).mono ?_
            rintro y' v10 ⟨rfl, s10⟩
            have s10 := below_at s9 s10
            clear s9
            go_wp2_with fail
            refine (HBK2.out v10 s10).mono ?_
            rintro y' v11 ⟨rfl, s11⟩
            have B11 := Lib.hid (FIN.out _ s10 _ s11)
            clear s10 s11
            go_wp2_with fail
            go_ret
            exact ⟨by simp [n1], B11.out⟩
open Go.ChangeShapes Go.WideShapes Go.ChangeAt
set_option maxRecDepth 100000 in
theorem LeastOrder_walk {H : Type} {enc : TypeId × Value → H} (W : World) {base : Nat} {v0 v1 v2 : Value} {d0 d1 d2 : DataW H} {p0 p1 p2 : List MemPlace}
    (o0 : Value.okWide Tryz.prog W .any base 32 v0) (h0 : DataW.Trod enc Tryz.prog W 0 (fun _ => true) true 32 v0 d0 p0)
    (o1 : Value.okWide Tryz.prog W .any base 32 v1) (h1 : DataW.Trod enc Tryz.prog W 0 (fun _ => true) true 32 v1 d1 p1)
    (o2 : Value.okWide Tryz.prog W .any base 32 v2) (h2 : DataW.Trod enc Tryz.prog W 0 (fun _ => true) true 32 v2 d2 p2) (hz : (DataW.weightsEach Tryz.prog [32, 32, 32] [d0, d1, d2]).all (· ≤ reachBytes) = true) :
    Calls Tryz.prog 4 #[v0, v1, v2] W fun e W' => e = .returned (.bool true) ∧ Below W.heap.size W W' := by
  obtain ⟨a, A, ca, rfl, ha, la, _⟩ := ints_arg o0 h0
  obtain ⟨b, B, cb, rfl, hb, lb, _⟩ := ints_arg o1 h1
  obtain ⟨c, C, cc, rfl, hc, lc, _⟩ := ints_arg o2 h2
  obtain ⟨z0, hz⟩ := weights_split hz
  obtain ⟨z1, hz⟩ := weights_split hz
  obtain ⟨z2, _⟩ := weights_split hz
  exact leastOrder_any W A ca a B cb b C cc c ha hb hc (ints_size h0 z0) (ints_size h1 z1) (ints_size h2 z2)
namespace leastOrder
theorem own : ownKnob Tryz.prog.godebug = none := by kernel_rfl
theorem laidOut : laidOutB Tryz.prog = true := by kernel_rfl
set_option maxRecDepth 100000 in
theorem lifted (os : Os) (started : os.Started) (H : Type) (enc : TypeId × Value → H) :
    ReturnsInHanded {} Tryz.checked os 4 .any (Rows.leastOrderSpec.pre6 enc Tryz.prog Tryz.f4 Rows.leastOrderRow.domain false) (Rows.leastOrderSpec.post enc Tryz.prog Tryz.f4 false true false false) := by
  refine returnsInHanded_of_change_sized (C := Tryz.checked) own started (by kernel_rfl) Tryz.func4
    (ChangeSpec.witness6 (enc := enc) (C := Tryz.checked) false ⟨#[], #[.slice none 0 0, .slice none 0 0, .slice none 0 0], []⟩ 8 (by kernel_rfl) (by kernel_rfl) (by kernel_rfl) (by kernel_rfl)) ?_
  intro W base args ds gs before hval0 hW hcnd hsz0 _
  have hval : ∀ (j : Nat) t v, Tryz.f4.params[j]? = some t → args[j]? = some v → Value.okWide Tryz.prog W .any base t v := hval0
  have hW' := hW
  obtain ⟨p, q, hA0, hV, rfl, hfz, hnd⟩ := hW
  have hA : DataW.TrodAll enc Tryz.prog W 0 (fun _ => true) true Tryz.f4.params.toList args.toList ds p := hA0
  rw [Tryz.params4] at hA hval
  obtain ⟨v0, vs0, d0, ds0, p0, q0, hargs, rfl, rfl, h0, r0⟩ := trodAll_cons hA
  obtain ⟨v1, vs1, d1, ds1, p1, q1, rfl, rfl, rfl, h1, r1⟩ := trodAll_cons r0
  obtain ⟨v2, vs2, d2, ds2, p2, q2, rfl, rfl, rfl, h2, r2⟩ := trodAll_cons r1
  obtain ⟨rfl, rfl, rfl⟩ := trodAll_nil r2
  obtain rfl : args = #[v0, v1, v2] := by cases args; simp_all
  obtain ⟨rfl, rfl⟩ := trodVars_none hV
  have lt0 : ∀ x ∈ p0, x.block < W.heap.size := by obtain ⟨m, hm⟩ := h0; exact DataW.trod_lt m _ _ _ hm
  have lt1 : ∀ x ∈ p1, x.block < W.heap.size := by obtain ⟨m, hm⟩ := h1; exact DataW.trod_lt m _ _ _ hm
  have lt2 : ∀ x ∈ p2, x.block < W.heap.size := by obtain ⟨m, hm⟩ := h2; exact DataW.trod_lt m _ _ _ hm
  have hsz : (DataW.weightsEach Tryz.prog [32, 32, 32] [d0, d1, d2]).all (· ≤ reachBytes) = true := hsz0
  clear hA0 hval0 hsz0
  refine (LeastOrder_walk W (hval 0 32 v0 rfl rfl) h0 (hval 1 32 v1 rfl rfl) h1 (hval 2 32 v2 rfl rfl) h2 hsz).mono fun e W' ⟨he, bel⟩ => ?_
  subst he
  exact ⟨_, rfl, _, _, _, [], _, [], hW', trodAll_mk1 (shut_bool Tryz.underlying4 _), (trodAll_cons_mk (Below.trod laidOut (by kernel_rfl) (of_decide_eq_true (by kernel_rfl)) h0 bel lt0) (trodAll_cons_mk (Below.trod laidOut (by kernel_rfl) (of_decide_eq_true (by kernel_rfl)) h1 bel lt1) (trodAll_cons_mk (Below.trod laidOut (by kernel_rfl) (of_decide_eq_true (by kernel_rfl)) h2 bel lt2) trodAll_mk0))), rfl, bel.frame _, fun h => (by cases h)⟩
theorem over : Rows.leastOrderRow.holds Tryz.pinned (OpenSpec.ofChange Rows.leastOrderSpec) :=
  OpenClaim.holds_of_wide 4 Tryz.f4 rfl rfl rfl rfl rfl rfl rfl ⟨rfl, rfl, rfl, rfl, rfl⟩ rfl rfl rfl rfl rfl (by kernel_rfl) Tryz.func4 (by kernel_rfl)
    (of_decide_eq_true (by kernel_rfl)) (by unfold Func.isWrapper; first | (rw [if_pos (by decide +kernel)]; kernel_rfl) | (rw [if_neg (by decide +kernel)]; exact ⟨rfl, rfl⟩))
    (fun os started H enc _ => lifted os started H enc)
end leastOrder
theorem leastOrder_holds : Rows.LeastOrderSaid := leastOrder.over
end Go.Proofs.YtckdofjpoajblaaGreat
