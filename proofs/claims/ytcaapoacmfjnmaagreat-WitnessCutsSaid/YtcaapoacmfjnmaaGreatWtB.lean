/- WitnessAll: each class of a program has a witness, a whole execution with just that key; what has a witness is a class. -/
import Derived.Test.YtcaapoacmfjnmaaGreatStR
import Derived.Test.YtcaapoacmfjnmaaGreatWtT
import Derived.Test.YtcaapoacmfjnmaaGreatAmg
import Derived.Test.YtcaapoacmfjnmaaGreatArg
import Derived.JoinedTies
import GoSem.Claim
import Derived.KernelRfl
namespace Go.Proofs.YtcaapoacmfjnmaaGreat
open Go.RowKit
set_option linter.unusedVariables false

/-- two texts in memory are the same just if they are the same bytes -/
theorem key_eq (k k' : List UInt8) : ((⟨k.toArray⟩ : ByteArray) = ⟨k'.toArray⟩) ↔ k = k' := ⟨fun e => by injection e with e; simpa using congrArg Array.toList e, fun e => by rw [e]⟩
theorem one_str {w : World} {Y : Nat} {k : List UInt8} (h : w.heap[Y]? = some (.cells #[.string ⟨k.toArray⟩] 9 (0, 0))) : Rd w 1 (some ⟨Y, 0, none⟩) [k].length ([k].map sv) :=
  ⟨rfl, fun _ => ⟨Y, 0, rfl, blk_lt h, fun j hj => by
    have : j = 0 := by simp at hj; omega
    subst this
    rw [cell_blk h]; rfl⟩⟩
set_option maxRecDepth 100000 in
set_option maxHeartbeats 8000000 in
theorem witnessAll_any (W : World) (p : Pg) (A : Option Addr) (cap : Nat) (f : Int) (k : List UInt8) (hp : PgIn W p A) (hk : k.length ≤ maxLen) :
    Calls Tryz.prog 4 #[valP p A cap, .int .i64 f, .string ⟨k.toArray⟩] W fun e w' => e = .returned (.bool true) ∧ Below W.heap.size W w' := by
  obtain ⟨Wa, X, hWa, hX, hBa, hXl, hXe⟩ := pg_box W p.vars p.mtx A p.code.length cap
  have hpa := hp.below hBa
  have hsmall : ∀ u, Below Wa.heap.size Wa u → _ := fun u hu => small_any u p A cap f (hpa.below hu)
  obtain ⟨sm, hsm⟩ : ∃ b, b = Pr.small p f := ⟨_, rfl⟩
  rw [← hsm] at hsmall
  obtain ⟨kb, hkb⟩ : ∃ kb : ByteArray, kb = ⟨k.toArray⟩ := ⟨_, rfl⟩
  have hks : kb.size = k.length := by rw [hkb]; show k.toArray.size = _; simp
  rw [← hkb]
  obtain ⟨kn, hkn⟩ : ∃ kn, kn = kb.size := ⟨_, rfl⟩
  have hm2 : kn < 9223372036854775808 := by rw [hkn, hks]; unfold maxLen at hk; omega
  have HXE := Lib.hid hXe
  have HB := Lib.hid hBa
  have HPA := Lib.hid hpa
  have HKB := Lib.hid hkb
  have HKS := Lib.hid hks
  have HKN := Lib.hid hkn
  have HSM := Lib.hid hsm
  unfold valP at hsmall ⊢
  have HSMALL := Lib.hid hsmall
  obtain ⟨x0, x1, x2, xl⟩ := hXe Wa (Below.refl _ _)
  clear hXe hBa hsmall hpa hp hkb hks hk hsm
  go_enter Tryz.func4, Tryz.ntmps4
  go_upto_region 1 with fail
  rw [← hWa, ← hX]
  clear hWa hX
  go_cut [27] (fun v w2 => Below Wa.heap.size Wa w2 ∧ ∃ z, v = .bool z ∧ (z = false → sm = true ∧ kn ≤ 200))
  case first =>
    go_wp2_with fail
    refine (awake18 _).mono ?_
    rintro x w1 ⟨rfl, b1⟩
    have HB1 := Lib.hid b1
    clear b1 x0 x1 x2 xl
    obtain ⟨x0, x1, x2, xl⟩ := HXE.out w1 HB1.out
    go_wp2_with fail
    refine (HSMALL.out w1 HB1.out).mono ?_
    rintro x w2 ⟨rfl, b2⟩
    have HB2 := Lib.hid (below_at HB1.out b2)
    clear b2
    cases sm with
    | false =>
      go_wp2_with fail
      go_meet
      exact ⟨HB2.out, _, rfl, fun h => by cases h⟩
    | true =>
      try rw [← hkn]
      go_wp2_with fail
      all_goals (go_meet)
      all_goals (exact ⟨HB2.out, _, rfl, fun h => by first | (cases h; done) | (simp at h; exact ⟨trivial, by omega⟩) | exact ⟨rfl, by omega⟩⟩)
  case rest =>
    obtain ⟨b1, z, rfl, hz⟩ := hcut
    have HB1 := Lib.hid b1
    clear b1 x0 x1 x2 xl
    cases z with
    | true =>
      go_wp2_with fail
      refine (awake18 _).mono ?_
      rintro e w2 ⟨rfl, b2⟩
      go_wp2_with fail
      go_ret
      exact ⟨rfl, below_at HB.out (below_at HB1.out b2)⟩
    | false =>
      obtain ⟨hs1, hk200⟩ := hz rfl
      subst hs1
      clear hz HSMALL
      have hkl : k.length ≤ 200 := by rw [← HKS.out, ← HKN.out]; exact hk200
      obtain ⟨m, rfl, hm8, hok, _, hcnt, hall6⟩ := Pr.small_spec HSM.out.symm
      have hkeys := fun k => Pr.keys_cls (p := p) (m := m) hok hm8 k
      have hkl2 := Nat.le_trans (Pr.keys_len (p := p) (m := m)) (Pr.ends_len 32 (Pr.start p m) [])
      have hrl : ∀ k, Pr.Cls p m k → k.length ≤ 1000 := fun k ⟨s, l, hex, _, e⟩ => by
        have hl := Pr.ex_short hok hm8 hex
        have hokr : Fo.okRow l = true := by
          unfold Fo.okRow Fo.rights
          rw [Bool.and_eq_true]
          exact ⟨decide_eq_true (by omega), List.all_eq_true.2 (Pr.ex_rights hex (Pr.start_wf hok hm8))⟩
        rw [← e]
        have := Pr.key_small hokr
        omega
      obtain ⟨⟨ks, rn, sk⟩, hsum⟩ : ∃ a, a = Pr.sumOf (Pr.ends 32 (Pr.start p m) []) := ⟨_, rfl⟩
      rw [← hsum] at hall6 hkeys hkl2
      simp only at hkeys hkl2
      have hall := refAll6_any wc p A cap m 600 (HPA.out.below HB1.out) (by omega)
      rw [hall6] at hall
      have HALL := Lib.hid hall
      have hof : ∀ (u : World) (q : List UInt8), q ∈ ks → Below Wa.heap.size Wa u → ∃ row : List Int, row.length ≤ 32 ∧ Calls Tryz.prog 19 #[valP p A cap, .int .i64 m, .string ⟨q.toArray⟩] u (RowOutW u (.ok row)) ∧
          (∀ (v : World) (B : Option Addr) (c' : Nat), Below Wa.heap.size Wa v → Rd v 1 B row.length (row.map iv) → Calls Tryz.prog 17 #[valP p A cap, .int .i64 m, .slice B row.length c'] v (KeyOutW v (.ok q))) ∧
          (∀ (v : World) (B : Option Addr) (c' : Nat), Below Wa.heap.size Wa v → Rd v 1 B row.length (row.map iv) → Calls Tryz.prog 23 #[valP p A cap, .int .i64 m, .slice B row.length c'] v fun x w' => x = .returned (.bool true) ∧ Below v.heap.size v w') ∧
          (∀ (v : World), Below Wa.heap.size Wa v → Calls Tryz.prog 22 #[valP p A cap, .int .i64 m, .string ⟨q.toArray⟩] v fun x w' => x = .returned (.bool true) ∧ Below v.heap.size v w') := fun u q hq hu => by
        have hc := (hkeys q).1 hq
        obtain ⟨row, s, l, h1, h2, h3, h4, h5⟩ := Pr.cls_of hok hm8 hc
        have hql := hrl q hc
        have hb : Pr.beginsW p m row = .ok q := by unfold Pr.beginsW; rw [h2, ← h3]
        have he : Pr.endsW p m row = true := by unfold Pr.endsW; rw [h2]; simp [h4]
        have hi : Pr.isW p m q = true := (Pr.is_cls hok hm8 q).2 hc
        refine ⟨row, h5, ?_, fun v B c' hv hr => ?_, fun v B c' hv hr => ?_, fun v hv => ?_⟩
        · have := ofW_any u p A cap m q (HPA.out.below hu) (by omega)
          rw [h1] at this
          exact this
        · have := beginsW_any v p A cap m B c' row (HPA.out.below hv) hr (by omega)
          rw [hb] at this
          exact this
        · have := endsW_any v p A cap m B c' row (HPA.out.below hv) hr (by omega)
          rw [he] at this
          exact this
        · have := isW_any v p A cap m q (HPA.out.below hv) (by omega)
          rw [hi] at this
          exact this
      have his : ∀ (u : World), Below Wa.heap.size Wa u → _ := fun u hu => isW_any u p A cap m k (HPA.out.below hu) (by omega)
      have hik : Pr.isW p m k = decide (∀ x ∈ [k], x ∈ ks) := by
        rw [show decide (∀ x ∈ [k], x ∈ ks) = decide (k ∈ ks) by congr 1; simp]
        by_cases hc : k ∈ ks
        · rw [decide_eq_true hc]; exact (Pr.is_cls hok hm8 k).2 ((hkeys k).1 hc)
        · rw [decide_eq_false hc]
          cases hh : Pr.isW p m k with
          | false => rfl
          | true => exact (hc ((hkeys k).2 ((Pr.is_cls hok hm8 k).1 hh))).elim
      rw [hik, ← HKB.out] at his
      obtain ⟨bk, hbk⟩ : ∃ b, b = decide (∀ x ∈ [k], x ∈ ks) := ⟨_, rfl⟩
      rw [← hbk] at his
      have HBK := Lib.hid hbk
      unfold valP at hof his
      obtain ⟨nk, hnk⟩ : ∃ n, n = ks.length := ⟨_, rfl⟩
      have hnk9 : nk ≤ 1000 := by rw [hnk]; omega
      have HOF := Lib.hid hof
      have HIS := Lib.hid his
      have HNK := Lib.hid hnk
      have HKK := Lib.hid hkl
      clear hof his hall hkeys hkl2 hrl hsum hall6 hcnt hok hm8 hik hbk hnk hkl hk200 HSM hkn hm2
      unfold valP at HALL
      obtain ⟨x0, x1, x2, xl⟩ := HXE.out wc HB1.out
      go_wp2_with fail
      refine HALL.out.mono ?_
      rintro y w1 ⟨KA, kc, rfl, hkr, hk1, hk2, b1⟩
      simp only at hkr hk1
      rw [← HNK.out] at hk1 ⊢
      obtain ⟨W2, hW2⟩ : ∃ z, z = w1.alloc (Obj.cells #[.slice KA nk kc, .int .i64 rn, .int .i64 (Pr.cnt 32 (Pr.start p m)), .int .i64 sk] 46) := ⟨_, rfl⟩
      obtain ⟨Z, hZ⟩ : ∃ z, z = w1.heap.size := ⟨_, rfl⟩
      have hZk : W2.heap[Z]? = some (.cells #[.slice KA nk kc, .int .i64 rn, .int .i64 (Pr.cnt 32 (Pr.start p m)), .int .i64 sk] 46 (0, 0)) := by rw [hW2, hZ]; exact heap_alloc_new w1 _
      have hb2 : Below w1.heap.size w1 W2 := by rw [hW2]; exact (Below.refl _ _).alloc (Nat.le_refl _) _
      have HB2 := Lib.hid (below_at HB1.out (below_at b1 hb2))
      have HZK := Lib.hid hZk
      have HKR := Lib.hid (And.intro (hkr.below hb2 (Nat.le_refl _)) (And.intro hk1 hk2))
      have hkr2 : RdB W2 W2.heap.size 1 KA ks.length (ks.map sv) := (hkr.below hb2 (Nat.le_refl _)).toB
      have HKC := Lib.hid (str_cell hkr2)
      clear b1 hb2 hZk hkr hk1 hk2 hkr2 x0 x1 x2 xl HALL HB1
      go_upto_region 4 with fail
      rw [← hW2, ← hZ]
      clear hW2 hZ
      obtain ⟨⟨y0, y1, y2, y3⟩, yl, _⟩ := in4_cells HZK.out
      go_wp2_with fail
      go_loopw [38] (fun v wr => ∃ i : Nat, i ≤ nk ∧ v = .int .i64 i ∧ Hid (Below W2.heap.size W2 wr)) (fun v _ => nk - (intOf v).toNat)
      case atStart => exact ⟨0, Nat.zero_le _, rfl, Lib.hid (Below.refl _ _)⟩
      case round =>
        clear y0 y1 y2 y3 yl
        obtain ⟨i, hi, rfl, HBR⟩ := hrel
        have HBW := Lib.hid (below_at HB2.out HBR.out)
        by_cases hlt : i < nk
        · obtain ⟨q, hq⟩ := get_some (show i < ks.length by rw [← HNK.out]; exact hlt)
          obtain ⟨g, o, rfl, hg, hcl⟩ := HKC.out i q hq
          have v0 := hcl wr HBR.out
          have lg : g < wr.heap.size := Nat.lt_of_lt_of_le hg HBR.out.size
          have hqm := List.mem_of_getElem? hq
          obtain ⟨row, hrow, ho1, ho2, ho3, ho4⟩ := HOF.out wr q hqm HBW.out
          obtain ⟨qb, hqb⟩ : ∃ qb : ByteArray, qb = ⟨q.toArray⟩ := ⟨_, rfl⟩
          rw [← hqb] at v0 ho1 ho4
          have ho2' : ∀ (v : World) (B : Option Addr) (c' : Nat), Below Wa.heap.size Wa v → Rd v 1 B row.length (row.map iv) → Calls Tryz.prog 17 #[.agg #[.int .i64 p.vars, .int .i64 p.mtx, .slice A p.code.length cap], .int .i64 m, .slice B row.length c'] v fun x w' => x = .returned (.tuple #[.string qb, .int .i64 0]) ∧ Below v.heap.size v w' := fun v B c' hv hr => hqb ▸ ho2 v B c' hv hr
          obtain ⟨nr, hnr⟩ : ∃ n, n = row.length := ⟨_, rfl⟩
          have HO1 := Lib.hid ho1
          have HO2 := Lib.hid ho2'
          have HO3 := Lib.hid ho3
          have HO4 := Lib.hid ho4
          have k1 : (0 : Int) ≤ (i : Int) := Int.natCast_nonneg _
          have k2 : (i : Int) < (nk : Int) := by omega
          obtain ⟨x0, x1, x2, xl⟩ := HXE.out wr HBW.out
          clear hq hcl hqm ho1 ho2 ho2' ho3 ho4 hqb hrow hnr
          go_wp2_with fail
          refine HO1.out.mono ?_
          rintro y w3 ⟨A3, c3, rfl, r3, _, _, b3⟩
          have HB3 := Lib.hid (below_at HBW.out b3)
          have HE3 := Lib.hid (below_at HBR.out b3)
          have HR3 := Lib.hid r3
          clear b3 r3 HO1 x0 x1 x2 xl v0 lg
          obtain ⟨x0, x1, x2, xl⟩ := HXE.out w3 HB3.out
          go_wp2_with fail
          refine (HO2.out w3 A3 c3 HB3.out HR3.out).mono ?_
          rintro y w4 ⟨rfl, b4⟩
          have HB4 := Lib.hid (below_at HB3.out b4)
          have HE4 := Lib.hid (below_at HE3.out b4)
          have HR4 := Lib.hid (HR3.out.below b4 (Nat.le_refl _))
          clear b4 HO2 x0 x1 x2 xl
          obtain ⟨x0, x1, x2, xl⟩ := HXE.out w4 HB4.out
          have e1 : (qb == qb) = true := by rw [ba_beq]; simp
          have e2 : (qb != qb) = false := by unfold bne; rw [e1]; rfl
          go_wp2_with fail
          refine (HO3.out w4 A3 c3 HB4.out HR4.out).mono ?_
          rintro y w5 ⟨rfl, b5⟩
          have HB5 := Lib.hid (below_at HB4.out b5)
          have HE5 := Lib.hid (below_at HE4.out b5)
          clear b5 HO3 x0 x1 x2 xl
          obtain ⟨x0, x1, x2, xl⟩ := HXE.out w5 HB5.out
          go_wp2_with fail
          refine (HO4.out w5 HB5.out).mono ?_
          rintro y w6 ⟨rfl, b6⟩
          have HE6 := Lib.hid (below_at HE5.out b6)
          clear b6 HO4 x0 x1 x2 xl
          go_wp2_with fail
          go_roundw
          case rel => exact ⟨i + 1, by omega, by go_num, HE6⟩
          case measure => simp [intOf]; omega
        · have k2 : ¬ (i : Int) < (nk : Int) := by omega
          go_upto_region 12 with fail
          refine wp_region_pt (by kernel_rfl) (fun u => Below W2.heap.size W2 u) [] (.cons 0 .load (.cons 1 .pure (.cons 2 .pure (.cons 4 .pure (.cons 6 .pure (.cons 7 .load (.fork 3 (.cons 5 .eff (.cons 8 .eff (.cons 9 .pure (.cons 10 .pure .nil)))) 5 (.cons 3 .eff (.cons 8 .eff (.cons 9 .pure (.cons 10 .pure .nil))))))))))) (by simp only [PT.map, List.getElem?_toArray, List.getElem?_cons_succ, List.getElem?_cons_zero]; rfl) (by kernel_rfl) (fun _ _ d _ _ h => by cases d <;> exact h) (HBR.out.drew) ?_
          have HB9 := Lib.hid HBR.out.drew
          obtain ⟨v, hv⟩ : ∃ v, v = wr.drew := ⟨_, rfl⟩
          rw [← hv] at HB9 ⊢
          clear hv
          repeat (first
            | (refine pt_pure (v := ?_) (by rfl) (fun w1 => ?_) ?_
               rotate_left
               · go_simp <;> with_reducible rfl
               simp only [Act.put, List.setIfInBounds_toArray, List.set_cons_zero, List.set_cons_succ])
            | (refine pt_off (by rfl) ?_
               simp only [Act.put, List.setIfInBounds_toArray, List.set_cons_zero, List.set_cons_succ])
            | (refine pt_load_off (by rfl) ?_
               simp only [Act.put, List.setIfInBounds_toArray, List.set_cons_zero, List.set_cons_succ])
            | (refine pt_load (v := ?_) (by rfl) (fun w1 hw1 => ?_) ?_
               rotate_left
               · (have qx := HXE.out w1 (below_at HB2.out hw1)
                  obtain ⟨x0, x1, x2, xl⟩ := qx
                  have qz := blk_stepW HZK.out hw1
                  have y0 : w1.cell? ⟨Z, 0, none⟩ = some (.slice KA nk kc) := cell_blk qz 0
                  have yl := blk_lt qz
                  clear qz
                  clear hw1
                  go_simp <;> with_reducible rfl)
               simp only [Act.put, List.setIfInBounds_toArray, List.set_cons_zero, List.set_cons_succ]))
          refine pt_fork ?_ ?_
          · go_wp2_with fail
            refine (HIS.out v (below_at HB2.out HB9.out)).mono ?_
            rintro y u ⟨rfl, b3⟩
            have HB9 := Lib.hid (below_at HB9.out b3)
            (try have H5 := Lib.hid (blk_stepW H5.out b3))
            clear b3
            rename World => v
            go_wp2_with fail
            refine pt_on (fun u h => h) HB9.out ?_
            refine pt_eff ?_
            go_wp2_with fail
            obtain ⟨Y, hY⟩ : ∃ Z, Z = v.heap.size := ⟨_, rfl⟩
            obtain ⟨u, hu⟩ : ∃ u, u = v.alloc (Obj.cells #[.string kb] 9) := ⟨_, rfl⟩
            rw [← hu, ← hY]
            have hb : Below v.heap.size v u := by rw [hu]; exact (Below.refl _ _).alloc (Nat.le_refl _) _
            have hk : u.heap[Y]? = some (.cells #[.string kb] 9 (0, 0)) := by rw [hu, hY]; exact heap_alloc_new v _
            have H5 := Lib.hid hk
            have HB9 := Lib.hid (below_at HB9.out hb)
            clear hb hk hu hY
            rename World => v
            refine pt_on (fun u h => h) HB9.out ?_
            refine pt_eff ?_
            have hcall := among_any v (some ⟨Y, 0, none⟩) 1 [k] KA kc ks (one_str (by rw [← HKB.out]; exact H5.out)) (HKR.out.1.below HB9.out (Nat.le_refl _)) (by rw [← HNK.out]; exact HKR.out.2.1) HKR.out.2.2 (by simp) (by rw [← HNK.out]; omega)
            rw [← HBK.out, ← HNK.out] at hcall
            have HCALL := Lib.hid hcall
            clear hcall
            go_wp2_with fail
            refine HCALL.out.mono ?_
            rintro y u ⟨rfl, b8⟩
            have HB9 := Lib.hid (below_at HB9.out b8)
            clear b8 HCALL
            rename World => v
            have g1 : (bk == bk) = true := beq_self_eq_true bk
            go_wp2_with fail
            refine pt_on (fun u h => h) HB9.out ?_
            repeat (first
              | (refine pt_pure (v := ?_) (by rfl) (fun w1 => ?_) ?_
                 rotate_left
                 · go_simp <;> with_reducible rfl
                 simp only [Act.put, List.setIfInBounds_toArray, List.set_cons_zero, List.set_cons_succ])
              | (refine pt_off (by rfl) ?_
                 simp only [Act.put, List.setIfInBounds_toArray, List.set_cons_zero, List.set_cons_succ])
              | (refine pt_load_off (by rfl) ?_
                 simp only [Act.put, List.setIfInBounds_toArray, List.set_cons_zero, List.set_cons_succ])
              | (refine pt_load (v := ?_) (by rfl) (fun w1 hw1 => ?_) ?_
                 rotate_left
                 · (skip
                    clear hw1
                    go_simp <;> with_reducible rfl)
                 simp only [Act.put, List.setIfInBounds_toArray, List.set_cons_zero, List.set_cons_succ]))
            refine pt_end ?_
            go_wp2_with fail
            go_ret
            exact ⟨by simp, below_at HB.out (below_at HB2.out HB9.out)⟩
          · go_wp2_with fail
            obtain ⟨Y, hY⟩ : ∃ Z, Z = v.heap.size := ⟨_, rfl⟩
            obtain ⟨u, hu⟩ : ∃ u, u = v.alloc (Obj.cells #[.string kb] 9) := ⟨_, rfl⟩
            rw [← hu, ← hY]
            have hb : Below v.heap.size v u := by rw [hu]; exact (Below.refl _ _).alloc (Nat.le_refl _) _
            have hk : u.heap[Y]? = some (.cells #[.string kb] 9 (0, 0)) := by rw [hu, hY]; exact heap_alloc_new v _
            have H5 := Lib.hid hk
            have HB9 := Lib.hid (below_at HB9.out hb)
            clear hb hk hu hY
            rename World => v
            refine pt_on (fun u h => h) HB9.out ?_
            refine pt_eff ?_
            go_wp2_with fail
            refine (HIS.out v (below_at HB2.out HB9.out)).mono ?_
            rintro y u ⟨rfl, b3⟩
            have HB9 := Lib.hid (below_at HB9.out b3)
            (try have H5 := Lib.hid (blk_stepW H5.out b3))
            clear b3
            rename World => v
            go_wp2_with fail
            refine pt_on (fun u h => h) HB9.out ?_
            refine pt_eff ?_
            have hcall := among_any v (some ⟨Y, 0, none⟩) 1 [k] KA kc ks (one_str (by rw [← HKB.out]; exact H5.out)) (HKR.out.1.below HB9.out (Nat.le_refl _)) (by rw [← HNK.out]; exact HKR.out.2.1) HKR.out.2.2 (by simp) (by rw [← HNK.out]; omega)
            rw [← HBK.out, ← HNK.out] at hcall
            have HCALL := Lib.hid hcall
            clear hcall
            go_wp2_with fail
            refine HCALL.out.mono ?_
            rintro y u ⟨rfl, b8⟩
            have HB9 := Lib.hid (below_at HB9.out b8)
            clear b8 HCALL
            rename World => v
            have g1 : (bk == bk) = true := beq_self_eq_true bk
            go_wp2_with fail
            refine pt_on (fun u h => h) HB9.out ?_
            repeat (first
              | (refine pt_pure (v := ?_) (by rfl) (fun w1 => ?_) ?_
                 rotate_left
                 · go_simp <;> with_reducible rfl
                 simp only [Act.put, List.setIfInBounds_toArray, List.set_cons_zero, List.set_cons_succ])
              | (refine pt_off (by rfl) ?_
                 simp only [Act.put, List.setIfInBounds_toArray, List.set_cons_zero, List.set_cons_succ])
              | (refine pt_load_off (by rfl) ?_
                 simp only [Act.put, List.setIfInBounds_toArray, List.set_cons_zero, List.set_cons_succ])
              | (refine pt_load (v := ?_) (by rfl) (fun w1 hw1 => ?_) ?_
                 rotate_left
                 · (skip
                    clear hw1
                    go_simp <;> with_reducible rfl)
                 simp only [Act.put, List.setIfInBounds_toArray, List.set_cons_zero, List.set_cons_succ]))
            refine pt_end ?_
            go_wp2_with fail
            go_ret
            exact ⟨by simp, below_at HB.out (below_at HB2.out HB9.out)⟩
open Go.ChangeShapes Go.WideShapes Go.ChangeAt
set_option maxRecDepth 100000 in
theorem WitnessAll_walk {H : Type} {enc : TypeId × Value → H} (W : World) {base : Nat} {v0 v1 v2 : Value} {d0 d1 d2 : DataW H} {p0 p1 p2 : List MemPlace}
    (o0 : Value.okWide Tryz.prog W .any base 24 v0) (h0 : DataW.Trod enc Tryz.prog W 0 (fun _ => true) true 24 v0 d0 p0)
    (o1 : Value.okWide Tryz.prog W .any base 3 v1) (h1 : DataW.Trod enc Tryz.prog W 0 (fun _ => true) true 3 v1 d1 p1)
    (o2 : Value.okWide Tryz.prog W .any base 9 v2) (h2 : DataW.Trod enc Tryz.prog W 0 (fun _ => true) true 9 v2 d2 p2) :
    Calls Tryz.prog 4 #[v0, v1, v2] W fun e w' => e = .returned (.bool true) ∧ Below W.heap.size W w' := by
  obtain ⟨p, A, cap, rfl, hin⟩ := prog_arg o0 h0
  obtain ⟨f, rfl, rfl, rfl, wf⟩ := open_int Tryz.underlying3 o1 h1
  obtain ⟨k, rfl, hk⟩ := key_arg o2 h2
  exact witnessAll_any W p A cap f k hin hk
namespace witnessAll
theorem own : ownKnob Tryz.prog.godebug = none := by kernel_rfl
theorem laidOut : laidOutB Tryz.prog = true := by kernel_rfl
set_option maxRecDepth 100000 in
theorem lifted (os : Os) (started : os.Started) (H : Type) (enc : TypeId × Value → H) :
    ReturnsInHanded {} Tryz.checked os 4 .any (Rows.witnessAllSpec.pre6 enc Tryz.prog Tryz.f4 Rows.witnessAllRow.domain false) (Rows.witnessAllSpec.post enc Tryz.prog Tryz.f4 false true false false) := by
  refine returnsInHanded_of_change_sized (C := Tryz.checked) own started (by kernel_rfl) Tryz.func4
    (ChangeSpec.witness6 (enc := enc) (C := Tryz.checked) false ⟨#[], #[.agg #[.int .i64 0, .int .i64 0, .slice none 0 0], .int .i64 0, .string ByteArray.empty], []⟩ 8 (by kernel_rfl) (by kernel_rfl) (by kernel_rfl) (by kernel_rfl)) ?_
  intro W base args ds gs before hval0 hW hcnd hsz0 _
  have hval : ∀ (j : Nat) t v, Tryz.f4.params[j]? = some t → args[j]? = some v → Value.okWide Tryz.prog W .any base t v := hval0
  have hW' := hW
  obtain ⟨p, q, hA0, hV, rfl, hfz, hnd⟩ := hW
  have hA : DataW.TrodAll enc Tryz.prog W 0 (fun _ => true) true Tryz.f4.params.toList args.toList ds p := hA0
  rw [Tryz.params4] at hA hval
  obtain ⟨v0, vs0, d0, ds0, p0, q0, hargs, rfl, rfl, h0, r0⟩ := trodAll_cons hA
  obtain ⟨v1, vs1, d1, ds1, p1, q1, rfl, rfl, rfl, h1, r1⟩ := trodAll_cons r0
  obtain ⟨v2, vs2, d2, ds2, p2, q2, rfl, rfl, rfl, h2, r2⟩ := trodAll_cons r1
  obtain ⟨rfl, rfl, rfl⟩ := trodAll_nil r2
  obtain rfl : args = #[v0, v1, v2] := by cases args; simp_all
  obtain ⟨rfl, rfl⟩ := trodVars_none hV
  have lt0 : ∀ x ∈ p0, x.block < W.heap.size := by obtain ⟨m, hm⟩ := h0; exact DataW.trod_lt m _ _ _ hm
  have lt1 : ∀ x ∈ p1, x.block < W.heap.size := by obtain ⟨m, hm⟩ := h1; exact DataW.trod_lt m _ _ _ hm
  have lt2 : ∀ x ∈ p2, x.block < W.heap.size := by obtain ⟨m, hm⟩ := h2; exact DataW.trod_lt m _ _ _ hm
  clear hA0 hval0 hsz0
  refine (WitnessAll_walk W (hval 0 24 v0 rfl rfl) h0 (hval 1 3 v1 rfl rfl) h1 (hval 2 9 v2 rfl rfl) h2).mono fun e W' ⟨he, bel⟩ => ?_
  subst he
  exact ⟨_, rfl, _, _, _, [], _, [], hW', trodAll_mk1 (shut_bool Tryz.underlying4 _), (trodAll_cons_mk (Below.trod laidOut (by kernel_rfl) (of_decide_eq_true (by kernel_rfl)) h0 bel lt0) (trodAll_cons_mk (Below.trod laidOut (by kernel_rfl) (of_decide_eq_true (by kernel_rfl)) h1 bel lt1) (trodAll_cons_mk (Below.trod laidOut (by kernel_rfl) (of_decide_eq_true (by kernel_rfl)) h2 bel lt2) trodAll_mk0))), rfl, bel.frame _, fun h => (by cases h)⟩
theorem over : Rows.witnessAllRow.holds Tryz.pinned (OpenSpec.ofChange Rows.witnessAllSpec) :=
  OpenClaim.holds_of_wide 4 Tryz.f4 rfl rfl rfl rfl rfl rfl rfl ⟨rfl, rfl, rfl, rfl, rfl⟩ rfl rfl rfl rfl rfl (by kernel_rfl) Tryz.func4 (by kernel_rfl)
    (of_decide_eq_true (by kernel_rfl)) (by unfold Func.isWrapper; first | (rw [if_pos (by decide +kernel)]; kernel_rfl) | (rw [if_neg (by decide +kernel)]; exact ⟨rfl, rfl⟩))
    (fun os started H enc _ => lifted os started H enc)
end witnessAll
/-- The row. -/
theorem witnessAll_holds : Rows.WitnessAllSaid := witnessAll.over
#print axioms witnessAll_holds
end Go.Proofs.YtcaapoacmfjnmaaGreat
