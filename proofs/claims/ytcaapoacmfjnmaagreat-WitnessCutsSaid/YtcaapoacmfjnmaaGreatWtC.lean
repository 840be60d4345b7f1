/- WitnessCuts: a witness that is cut off is a beginning, but no end; its steps done once more, from a state that is at the end, are refused. -/
import Derived.Test.YtcaapoacmfjnmaaGreatWtB
namespace Go.Proofs.YtcaapoacmfjnmaaGreat
open Go.RowKit
set_option linter.unusedVariables false

/-- a place among so many -/
theorem idx_of (n : Int) {k : Nat} (h0 : 0 < k) (h1 : k ≤ 1000000) : ∃ i : Nat, i < k ∧ wrap64 ((IntKind.u64.wrap n).tmod (k : Int)) = (i : Int) ∧ IntKind.i64.wrap ((IntKind.u64.wrap n).tmod (k : Int)) = (i : Int) := by
  have h0' : 0 ≤ IntKind.u64.wrap n := by simp [IntKind.wrap, IntKind.signed, IntKind.bits]; omega
  generalize IntKind.u64.wrap n = u at h0'
  obtain ⟨m, rfl⟩ : ∃ m : Nat, u = m := ⟨u.toNat, by omega⟩
  refine ⟨m % k, Nat.mod_lt _ h0, ?_⟩
  rw [show (m : Int).tmod (k : Int) = ((m % k : Nat) : Int) from rfl]
  have hl := Nat.mod_lt m h0
  exact ⟨IntWalk.wrap64_in _ (by omega), by simp [IntKind.wrap, IntKind.signed, IntKind.bits]; omega⟩
theorem Rd.take {w : World} {A : Option Addr} {l : List Int} (h : Rd w 1 A l.length (l.map iv)) {k : Nat} (hk : k ≤ l.length) : Rd w 1 A (l.take k).length ((l.take k).map iv) := by
  refine ⟨by simp, fun hp => ?_⟩
  obtain ⟨g, o, hA, hg, hc⟩ := h.2 (by rw [List.length_take] at hp; omega)
  refine ⟨g, o, hA, hg, fun j hj => ?_⟩
  rw [List.length_take] at hj
  rw [hc j (by omega), List.map_take, List.getElem?_take]
  rw [if_pos (by omega)]

set_option maxRecDepth 100000 in
set_option maxHeartbeats 8000000 in
theorem witnessCuts_any (W : World) (p : Pg) (A : Option Addr) (cap : Nat) (f nn cut : Int) (hp : PgIn W p A) :
    Calls Tryz.prog 5 #[valP p A cap, .int .i64 f, .int .i64 nn, .int .i64 cut] W fun e w' => e = .returned (.bool true) ∧ Below W.heap.size W w' := by
  obtain ⟨Wa, X, hWa, hX, hBa, hXl, hXe⟩ := pg_box W p.vars p.mtx A p.code.length cap
  have hpa := hp.below hBa
  have hsmall : ∀ u, Below Wa.heap.size Wa u → _ := fun u hu => small_any u p A cap f (hpa.below hu)
  obtain ⟨sm, hsm⟩ : ∃ b, b = Pr.small p f := ⟨_, rfl⟩
  rw [← hsm] at hsmall
  have HXE := Lib.hid hXe
  have HB := Lib.hid hBa
  have HPA := Lib.hid hpa
  have HSM := Lib.hid hsm
  unfold valP at hsmall ⊢
  have HSMALL := Lib.hid hsmall
  obtain ⟨x0, x1, x2, xl⟩ := hXe Wa (Below.refl _ _)
  clear hXe hBa hsmall hpa hp hsm
  go_enter Tryz.func5, Tryz.ntmps5
  go_upto_region 1 with fail
  rw [← hWa, ← hX]
  clear hWa hX
  go_cut [29] (fun v w2 => Below Wa.heap.size Wa w2 ∧ ∃ z, v = .bool z ∧ (z = false → sm = true))
  case first =>
    go_wp2_with fail
    refine (awake18 _).mono ?_
    rintro x w1 ⟨rfl, b1⟩
    have HB1 := Lib.hid b1
    clear b1 x0 x1 x2 xl
    obtain ⟨x0, x1, x2, xl⟩ := HXE.out w1 HB1.out
    go_wp2_with fail
    refine (HSMALL.out w1 HB1.out).mono ?_
    rintro x w2 ⟨rfl, b2⟩
    have HB2 := Lib.hid (below_at HB1.out b2)
    clear b2
    cases sm with
    | false =>
      go_wp2_with fail
      go_meet
      exact ⟨HB2.out, _, rfl, fun h => by cases h⟩
    | true =>
      go_wp2_with fail
      all_goals (go_meet)
      all_goals (exact ⟨HB2.out, _, rfl, fun h => by first | (cases h; done) | rfl | trivial⟩)
  case rest =>
    obtain ⟨b1, z, rfl, hz⟩ := hcut
    have HB1 := Lib.hid b1
    clear b1 x0 x1 x2 xl
    cases z with
    | true =>
      go_wp2_with fail
      refine (awake18 _).mono ?_
      rintro e w2 ⟨rfl, b2⟩
      go_wp2_with fail
      go_ret
      exact ⟨rfl, below_at HB.out (below_at HB1.out b2)⟩
    | false =>
      have hs1 := hz rfl
      subst hs1
      clear hz HSMALL
      obtain ⟨m, rfl, hm8, hok, _, hcnt, hall6⟩ := Pr.small_spec HSM.out.symm
      have hcls := fun k => Pr.keys_cls (p := p) (m := m) hok hm8 k
      have hne := Pr.keys_ne (p := p) (m := m) hok hm8
      have hkl2 := Nat.le_trans (Pr.keys_len (p := p) (m := m)) (Pr.ends_len 32 (Pr.start p m) [])
      obtain ⟨⟨ks, rn, sk⟩, hsum⟩ : ∃ a, a = Pr.sumOf (Pr.ends 32 (Pr.start p m) []) := ⟨_, rfl⟩
      rw [← hsum] at hall6 hcls hkl2 hne
      simp only at hcls hkl2 hne
      have hall := refAll6_any wc p A cap m 600 (HPA.out.below HB1.out) (by omega)
      rw [hall6] at hall
      obtain ⟨nk, hnk⟩ : ∃ n, n = ks.length := ⟨_, rfl⟩
      have hnk0 : 0 < nk := by rw [hnk]; exact Nat.pos_of_ne_zero (fun e => hne (List.eq_nil_of_length_eq_zero e))
      have hnk9 : nk ≤ 1000 := by rw [hnk]; omega
      obtain ⟨ix, hix, hixe, hixe2⟩ := idx_of nn hnk0 (by omega)
      obtain ⟨q, hq⟩ := get_some (show ix < ks.length by rw [← hnk]; exact hix)
      have hc := (hcls q).1 (List.mem_of_getElem? hq)
      obtain ⟨row, s, l, h1, h2, h3, h4, h5⟩ := Pr.cls_of hok hm8 hc
      have hql : q.length ≤ 1000 := by
        obtain ⟨s, l, hex, _, e⟩ := hc
        have hl := Pr.ex_short hok hm8 hex
        have hokr : Fo.okRow l = true := by
          unfold Fo.okRow Fo.rights
          rw [Bool.and_eq_true]
          exact ⟨decide_eq_true (by omega), List.all_eq_true.2 (Pr.ex_rights hex (Pr.start_wf hok hm8))⟩
        have := Pr.key_small hokr
        rw [← e]
        omega
      have HALL := Lib.hid hall
      have HPR := Lib.hid (And.intro hok hm8)
      have HNK := Lib.hid hnk
      have HQ := Lib.hid (And.intro hq (And.intro h1 (And.intro h2 (And.intro h3 (And.intro h4 (And.intro h5 hql))))))
      clear hcls hne hkl2 hsum hall hnk hall6 hcnt hok hm8 hc h1 h2 h3 h4 h5 hql hq HSM
      unfold valP at HALL
      obtain ⟨x0, x1, x2, xl⟩ := HXE.out wc HB1.out
      go_wp2_with fail
      refine HALL.out.mono ?_
      rintro y w1 ⟨KA, kc, rfl, hkr, hk1, hk2, b1⟩
      simp only at hkr hk1
      rw [← HNK.out]
      obtain ⟨W2, hW2⟩ : ∃ z, z = w1.alloc (Obj.cells #[.slice KA nk kc, .int .i64 rn, .int .i64 (Pr.cnt 32 (Pr.start p m)), .int .i64 sk] 46) := ⟨_, rfl⟩
      obtain ⟨Z, hZ⟩ : ∃ z, z = w1.heap.size := ⟨_, rfl⟩
      have hZk : W2.heap[Z]? = some (.cells #[.slice KA nk kc, .int .i64 rn, .int .i64 (Pr.cnt 32 (Pr.start p m)), .int .i64 sk] 46 (0, 0)) := by rw [hW2, hZ]; exact heap_alloc_new w1 _
      have hb2 : Below w1.heap.size w1 W2 := by rw [hW2]; exact (Below.refl _ _).alloc (Nat.le_refl _) _
      have HB2 := Lib.hid (below_at HB1.out (below_at b1 hb2))
      have HZK := Lib.hid hZk
      have hkr2 : RdB W2 W2.heap.size 1 KA ks.length (ks.map sv) := (hkr.below hb2 (Nat.le_refl _)).toB
      obtain ⟨g, o, rfl, hg, hcl⟩ := str_cell hkr2 ix q HQ.out.1
      obtain ⟨qb, hqb⟩ : ∃ qb : ByteArray, qb = ⟨q.toArray⟩ := ⟨_, rfl⟩
      rw [← hqb] at hcl
      have HKC := Lib.hid (And.intro hg hcl)
      have HQB := Lib.hid hqb
      clear b1 hb2 hZk hkr hk1 hk2 hkr2 x0 x1 x2 xl HALL HB1 hg hcl hqb
      go_upto_region 4 with fail
      rw [← hW2, ← hZ]
      clear hW2 hZ
      refine wp_region_planF (by kernel_rfl) (fun u => Below W2.heap.size W2 u) [14] [(0, .load), (1, .pure), (2, .pure), (3, .load), (4, .pure), (5, .pure), (6, .pure), (7, .load), (8, .pure), (9, .pure), (10, .pure), (11, .pure), (12, .pure), (13, .load), (14, .last), (15, .pure), (16, .pure), (17, .pure), (18, .pure), (19, .pure)] (by simp only [List.map_cons, List.map_nil, List.getElem?_toArray, List.getElem?_cons_succ, List.getElem?_cons_zero]; rfl) (by kernel_rfl) (fun _ _ d _ _ h => by cases d <;> exact h) ((Below.refl _ _).drew) ?_
      obtain ⟨W3, hW3⟩ : ∃ z, z = W2.drew := ⟨_, rfl⟩
      rw [← hW3]
      have hb3 : Below W2.heap.size W2 W3 := by rw [hW3]; exact (Below.refl _ _).drew
      have HB3 := Lib.hid hb3
      clear hW3 hb3
      have uw : IntKind.u64.wrap (nk : Int) = (nk : Int) := by simp [IntKind.wrap, IntKind.signed, IntKind.bits]; omega
      have nz : ¬ (nk : Int) = 0 := by omega
      have nz2 : ¬ nk = 0 := by omega
      have nzb : ((nk : Int) == 0) = false := by simpa using nz
      have ix0 : (0 : Int) ≤ (ix : Int) := Int.natCast_nonneg _
      have ix1 : (ix : Int) < (nk : Int) := by omega
      repeat (first
        | (refine plan_pure (v := ?_) (by rfl) (fun w1 => ?_) ?_
           rotate_left
           · go_simp <;> with_reducible rfl
           simp only [Act.put, List.setIfInBounds_toArray, List.set_cons_zero, List.set_cons_succ])
        | (refine plan_off (by rfl) ?_
           simp only [Act.put, List.setIfInBounds_toArray, List.set_cons_zero, List.set_cons_succ])
        | (refine plan_load_off (by rfl) ?_
           simp only [Act.put, List.setIfInBounds_toArray, List.set_cons_zero, List.set_cons_succ])
        | (refine plan_load (v := ?_) (by rfl) (fun w1 hw1 => ?_) ?_
           rotate_left
           · (have qx := HXE.out w1 (below_at HB2.out hw1)
              obtain ⟨x0, x1, x2, xl⟩ := qx
              have qz := blk_stepW HZK.out hw1
              have y0 : w1.cell? ⟨Z, 0, none⟩ = some (.slice (some ⟨g, o, none⟩) nk kc) := cell_blk qz 0
              have yl := blk_lt qz
              have kc0 := HKC.out.2 w1 hw1
              have kl : g < w1.heap.size := Nat.lt_of_lt_of_le HKC.out.1 hw1.size
              clear qz
              clear hw1
              go_simp <;> with_reducible rfl)
           simp only [Act.put, List.setIfInBounds_toArray, List.set_cons_zero, List.set_cons_succ]))
      have hof := ofW_any W3 p A cap m q (HPA.out.below (below_at HB2.out HB3.out)) (by have := HQ.out.2.2.2.2.2.2; omega)
      rw [HQ.out.2.1, ← HQB.out] at hof
      unfold valP at hof
      have HOF := Lib.hid hof
      clear hof
      refine plan_last ?_
      go_wp2_with fail
      refine HOF.out.mono ?_
      rintro y w4 ⟨A4, c4, rfl, r4, l4, u4, b4⟩
      obtain ⟨nr, hnr⟩ : ∃ n, n = row.length := ⟨_, rfl⟩
      rw [← hnr]
      have HNR := Lib.hid hnr
      have HR4 := Lib.hid (And.intro r4 (And.intro l4 u4))
      have HB4 := Lib.hid (below_at HB2.out (below_at HB3.out b4))
      have hnr32 : nr ≤ 32 := by rw [hnr]; exact HQ.out.2.2.2.2.2.1
      have hnc : nr ≤ c4 := by rw [hnr]; exact l4
      clear r4 l4 u4 b4 HOF hnr nz nzb nz2 uw ix0 ix1 hixe hixe2
      go_wp2_with fail
      repeat (first
        | (refine plan_pure (v := ?_) (by rfl) (fun w1 => ?_) ?_
           rotate_left
           · go_simp <;> with_reducible rfl
           simp only [Act.put, List.setIfInBounds_toArray, List.set_cons_zero, List.set_cons_succ])
        | (refine plan_off (by rfl) ?_
           simp only [Act.put, List.setIfInBounds_toArray, List.set_cons_zero, List.set_cons_succ])
        | (refine plan_load_off (by rfl) ?_
           simp only [Act.put, List.setIfInBounds_toArray, List.set_cons_zero, List.set_cons_succ])
        | (refine plan_load (v := ?_) (by rfl) (fun w1 hw1 => ?_) ?_
           rotate_left
           · (skip
              clear hw1
              go_simp <;> with_reducible rfl)
           simp only [Act.put, List.setIfInBounds_toArray, List.set_cons_zero, List.set_cons_succ]))
      refine plan_end ?_
      obtain ⟨x0, x1, x2, xl⟩ := HXE.out w4 HB4.out
      have hrep := replay_any w4 p A cap m A4 c4 row (HPA.out.below HB4.out).1 (HPA.out.below HB4.out).2.1 (HPA.out.below HB4.out).2.2 HR4.out.1 (by rw [← HNR.out]; omega)
      rw [HQ.out.2.2.1, ← HNR.out] at hrep
      unfold valP at hrep
      have HREP := Lib.hid hrep
      clear hrep
      go_wp2_with fail
      refine HREP.out.mono ?_
      rintro y w5 ⟨S, T, C, A5, c5, rfl, hsat, _, _, _, _, _, _, b5⟩
      have hwf := (Pr.replay_wf HQ.out.2.2.1).1
      have hthr := fun u (hu : Below w5.heap.size w5 u) => threads_any u C S T s (hsat.below hu)
      have hstp := fun (t : Nat) u (hu : Below w5.heap.size w5 u) => step_bad u C S T s t (hsat.below hu) hwf (Pr.end_stuck HQ.out.2.2.2.2.1 t)
      have herr : ∀ t : Nat, Pr.stepE s (t : Int) ≠ 0 := fun t => Pr.end_stuck HQ.out.2.2.2.2.1 t
      obtain ⟨nt, hnt⟩ : ∃ n, n = s.th.length := ⟨_, rfl⟩
      have hn4 := hwf.n4
      rw [← hnt] at hthr hn4
      simp only [valE, Pr.zeroE] at hstp
      have HTHR := Lib.hid hthr
      have HSTP := Lib.hid hstp
      have HERR := Lib.hid herr
      have HB5 := Lib.hid (below_at HB4.out b5)
      have HR5 := Lib.hid (And.intro (HR4.out.1.below b5 (Nat.le_refl _)) HR4.out.2)
      clear b5 hsat hwf hthr hstp herr hnt HREP x0 x1 x2 xl HR4
      go_wp2_with fail
      refine (HTHR.out w5 (Below.refl _ _)).mono ?_
      rintro y w6 ⟨rfl, rfl⟩
      go_wp2_with fail
      go_loopw [69] (fun v wr => ∃ i : Nat, i ≤ nt ∧ v = .int .i64 i ∧ Hid (Below w5.heap.size w5 wr)) (fun v _ => nt - (intOf v).toNat)
      case atStart => exact ⟨0, Nat.zero_le _, rfl, Lib.hid (Below.refl _ _)⟩
      case round =>
        obtain ⟨i, hi, rfl, HBR⟩ := hrel
        by_cases hlt : i < nt
        · have k1 : (0 : Int) ≤ (i : Int) := Int.natCast_nonneg _
          have k2 : (i : Int) < (nt : Int) := by omega
          have hc := HSTP.out i wr HBR.out
          have he := HERR.out i
          obtain ⟨er, her⟩ : ∃ er, er = Pr.stepE s i := ⟨_, rfl⟩
          rw [← her] at hc he
          have e1 : (er == 0) = false := by simpa using he
          have HC := Lib.hid hc
          clear hc he her
          go_wp2_with fail
          refine HC.out.mono ?_
          rintro y w7 ⟨rfl, b7⟩
          have HB7 := Lib.hid (below_at HBR.out b7)
          clear b7 HC
          go_wp2_with fail
          go_roundw
          case rel => exact ⟨i + 1, by omega, by go_num, Lib.hid (HB7.out.alloc HB7.out.size _)⟩
          case measure => simp [intOf]; omega
        · have k2 : ¬ (i : Int) < (nt : Int) := by omega
          have HBW := Lib.hid (below_at HB5.out HBR.out)
          by_cases h0 : nr = 0
          · subst h0
            go_wp2_with fail
            go_ret
            exact ⟨rfl, below_at HB.out HBW.out⟩
          · have e0 : ((nr : Int) == 0) = false := by simpa using h0
            obtain ⟨ic, hic, hice, hice2⟩ := idx_of cut (show 0 < nr by omega) (by omega)
            have uw : IntKind.u64.wrap (nr : Int) = (nr : Int) := by simp [IntKind.wrap, IntKind.signed, IntKind.bits]; omega
            have nz : ¬ (nr : Int) = 0 := by omega
            have ic0 : (0 : Int) ≤ (ic : Int) := Int.natCast_nonneg _
            have ic1 : (ic : Int) ≤ (c4 : Int) := by omega
            obtain ⟨s', l', hcr, hca⟩ := Pr.cut_short HPR.out.1 HPR.out.2 HQ.out.2.2.1 (c := ic) (by rw [← HNR.out]; exact hic)
            obtain ⟨x0, x1, x2, xl⟩ := HXE.out wr HBW.out
            go_upto_region 20 with fail
            have hrs : Rd wr 1 A4 (row.take ic).length ((row.take ic).map iv) := (HR5.out.1.below HBR.out (Nat.le_refl _)).take (by rw [← HNR.out]; omega)
            have htl : (row.take ic).length = ic := by rw [List.length_take, ← HNR.out]; omega
            have hbg := beginsW_any wr p A cap m A4 c4 (row.take ic) (HPA.out.below HBW.out) hrs (by omega)
            have hbe : Pr.beginsW p m (row.take ic) = .ok (Fo.key l') := by unfold Pr.beginsW; rw [hcr]
            have hen : ∀ u, Below wr.heap.size wr u → Calls Tryz.prog 23 #[valP p A cap, .int .i64 m, .slice A4 ic c4] u fun x w' => x = .returned (.bool false) ∧ Below u.heap.size u w' := fun u hu => by
              have h := endsW_any u p A cap m A4 c4 (row.take ic) (HPA.out.below (below_at HBW.out hu)) (hrs.below hu (Nat.le_refl _)) (by omega)
              have he : Pr.endsW p m (row.take ic) = false := by unfold Pr.endsW; rw [hcr]; simp [hca]
              rw [he, htl] at h
              exact h
            rw [hbe, htl] at hbg
            obtain ⟨kb, hkb⟩ : ∃ b : ByteArray, b = ⟨(Fo.key l').toArray⟩ := ⟨_, rfl⟩
            have hbg2 : Calls Tryz.prog 17 #[valP p A cap, .int .i64 m, .slice A4 ic c4] wr fun x w' => x = .returned (.tuple #[.string kb, .int .i64 0]) ∧ Below wr.heap.size wr w' := hkb ▸ hbg
            unfold valP at hbg2 hen
            have HBG := Lib.hid hbg2
            have HEN := Lib.hid hen
            clear hrs htl hbg hbe hen hbg2 hkb hcr hca uw nz ic0 ic1 hice hice2 hic
            go_wp2_with fail
            refine HBG.out.mono ?_
            rintro y w7 ⟨rfl, b7⟩
            have HB7 := Lib.hid b7
            clear b7 HBG x0 x1 x2 xl
            obtain ⟨x0, x1, x2, xl⟩ := HXE.out w7 (below_at HBW.out HB7.out)
            go_wp2_with fail
            refine (HEN.out w7 HB7.out).mono ?_
            rintro y w8 ⟨rfl, b8⟩
            have HB8 := Lib.hid (below_at HB7.out b8)
            clear b8 x0 x1 x2 xl
            go_wp2_with fail
            go_ret
            exact ⟨rfl, below_at HB.out (below_at HBW.out HB8.out)⟩
open Go.ChangeShapes Go.WideShapes Go.ChangeAt
set_option maxRecDepth 100000 in
theorem WitnessCuts_walk {H : Type} {enc : TypeId × Value → H} (W : World) {base : Nat} {v0 v1 v2 v3 : Value} {d0 d1 d2 d3 : DataW H} {p0 p1 p2 p3 : List MemPlace}
    (o0 : Value.okWide Tryz.prog W .any base 24 v0) (h0 : DataW.Trod enc Tryz.prog W 0 (fun _ => true) true 24 v0 d0 p0)
    (o1 : Value.okWide Tryz.prog W .any base 3 v1) (h1 : DataW.Trod enc Tryz.prog W 0 (fun _ => true) true 3 v1 d1 p1)
    (o2 : Value.okWide Tryz.prog W .any base 3 v2) (h2 : DataW.Trod enc Tryz.prog W 0 (fun _ => true) true 3 v2 d2 p2)
    (o3 : Value.okWide Tryz.prog W .any base 3 v3) (h3 : DataW.Trod enc Tryz.prog W 0 (fun _ => true) true 3 v3 d3 p3) :
    Calls Tryz.prog 5 #[v0, v1, v2, v3] W fun e w' => e = .returned (.bool true) ∧ Below W.heap.size W w' := by
  obtain ⟨p, A, cap, rfl, hin⟩ := prog_arg o0 h0
  obtain ⟨f, rfl, rfl, rfl, _⟩ := open_int Tryz.underlying3 o1 h1
  obtain ⟨a, rfl, rfl, rfl, _⟩ := open_int Tryz.underlying3 o2 h2
  obtain ⟨b, rfl, rfl, rfl, _⟩ := open_int Tryz.underlying3 o3 h3
  exact witnessCuts_any W p A cap f a b hin
namespace witnessCuts
theorem own : ownKnob Tryz.prog.godebug = none := by kernel_rfl
theorem laidOut : laidOutB Tryz.prog = true := by kernel_rfl
set_option maxRecDepth 100000 in
theorem lifted (os : Os) (started : os.Started) (H : Type) (enc : TypeId × Value → H) :
    ReturnsInHanded {} Tryz.checked os 5 .any (Rows.witnessCutsSpec.pre6 enc Tryz.prog Tryz.f5 Rows.witnessCutsRow.domain false) (Rows.witnessCutsSpec.post enc Tryz.prog Tryz.f5 false true false false) := by
  refine returnsInHanded_of_change_sized (C := Tryz.checked) own started (by kernel_rfl) Tryz.func5
    (ChangeSpec.witness6 (enc := enc) (C := Tryz.checked) false ⟨#[], #[.agg #[.int .i64 0, .int .i64 0, .slice none 0 0], .int .i64 0, .int .i64 0, .int .i64 0], []⟩ 8 (by kernel_rfl) (by kernel_rfl) (by kernel_rfl) (by kernel_rfl)) ?_
  intro W base args ds gs before hval0 hW hcnd hsz0 _
  have hval : ∀ (j : Nat) t v, Tryz.f5.params[j]? = some t → args[j]? = some v → Value.okWide Tryz.prog W .any base t v := hval0
  have hW' := hW
  obtain ⟨p, q, hA0, hV, rfl, hfz, hnd⟩ := hW
  have hA : DataW.TrodAll enc Tryz.prog W 0 (fun _ => true) true Tryz.f5.params.toList args.toList ds p := hA0
  rw [Tryz.params5] at hA hval
  obtain ⟨v0, vs0, d0, ds0, p0, q0, hargs, rfl, rfl, h0, r0⟩ := trodAll_cons hA
  obtain ⟨v1, vs1, d1, ds1, p1, q1, rfl, rfl, rfl, h1, r1⟩ := trodAll_cons r0
  obtain ⟨v2, vs2, d2, ds2, p2, q2, rfl, rfl, rfl, h2, r2⟩ := trodAll_cons r1
  obtain ⟨v3, vs3, d3, ds3, p3, q3, rfl, rfl, rfl, h3, r3⟩ := trodAll_cons r2
  obtain ⟨rfl, rfl, rfl⟩ := trodAll_nil r3
  obtain rfl : args = #[v0, v1, v2, v3] := by cases args; simp_all
  obtain ⟨rfl, rfl⟩ := trodVars_none hV
  have lt0 : ∀ x ∈ p0, x.block < W.heap.size := by obtain ⟨m, hm⟩ := h0; exact DataW.trod_lt m _ _ _ hm
  have lt1 : ∀ x ∈ p1, x.block < W.heap.size := by obtain ⟨m, hm⟩ := h1; exact DataW.trod_lt m _ _ _ hm
  have lt2 : ∀ x ∈ p2, x.block < W.heap.size := by obtain ⟨m, hm⟩ := h2; exact DataW.trod_lt m _ _ _ hm
  have lt3 : ∀ x ∈ p3, x.block < W.heap.size := by obtain ⟨m, hm⟩ := h3; exact DataW.trod_lt m _ _ _ hm
  clear hA0 hval0 hsz0
  refine (WitnessCuts_walk W (hval 0 24 v0 rfl rfl) h0 (hval 1 3 v1 rfl rfl) h1 (hval 2 3 v2 rfl rfl) h2 (hval 3 3 v3 rfl rfl) h3).mono fun e W' ⟨he, bel⟩ => ?_
  subst he
  exact ⟨_, rfl, _, _, _, [], _, [], hW', trodAll_mk1 (shut_bool Tryz.underlying4 _), (trodAll_cons_mk (Below.trod laidOut (by kernel_rfl) (of_decide_eq_true (by kernel_rfl)) h0 bel lt0) (trodAll_cons_mk (Below.trod laidOut (by kernel_rfl) (of_decide_eq_true (by kernel_rfl)) h1 bel lt1) (trodAll_cons_mk (Below.trod laidOut (by kernel_rfl) (of_decide_eq_true (by kernel_rfl)) h2 bel lt2) (trodAll_cons_mk (Below.trod laidOut (by kernel_rfl) (of_decide_eq_true (by kernel_rfl)) h3 bel lt3) trodAll_mk0)))), rfl, bel.frame _, fun h => (by cases h)⟩
theorem over : Rows.witnessCutsRow.holds Tryz.pinned (OpenSpec.ofChange Rows.witnessCutsSpec) :=
  OpenClaim.holds_of_wide 5 Tryz.f5 rfl rfl rfl rfl rfl rfl rfl ⟨rfl, rfl, rfl, rfl, rfl⟩ rfl rfl rfl rfl rfl (by kernel_rfl) Tryz.func5 (by kernel_rfl)
    (of_decide_eq_true (by kernel_rfl)) (by unfold Func.isWrapper; first | (rw [if_pos (by decide +kernel)]; kernel_rfl) | (rw [if_neg (by decide +kernel)]; exact ⟨rfl, rfl⟩))
    (fun os started H enc _ => lifted os started H enc)
end witnessCuts
/-- The row. -/
theorem witnessCuts_holds : Rows.WitnessCutsSaid := witnessCuts.over
#print axioms witnessCuts_holds
end Go.Proofs.YtcaapoacmfjnmaaGreat
