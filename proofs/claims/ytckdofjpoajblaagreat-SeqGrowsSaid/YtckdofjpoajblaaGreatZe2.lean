/- Part 2 of the proof of seqGrows_holds: what it rests on. -/
import Derived.Test.YtckdofjpoajblaaGreatZe1
namespace Go.Proofs.YtckdofjpoajblaaGreat
open Go.RowKit
set_option linter.unusedVariables false
set_option maxRecDepth 100000 in
set_option maxHeartbeats 16000000 in
theorem seqGrows_any (W : World) (p : Pg) (A : Option Addr) (cap : Nat) (f bb mm : Int) (B : Option Addr) (cap2 : Nat) (ts : List Nat) (hp : PgIn W p A)
    (hr : Rd W 1 B ts.length (ts.map (fun (t : Nat) => Value.int .u8 (t : Int)))) (hg : ∀ t ∈ ts, t ≤ 255) (ht : ts.length ≤ maxLen) :
    Calls Tryz.prog 10 #[valP p A cap, .int .i64 f, .int .i64 bb, .int .i64 mm, .slice B ts.length cap2] W fun e w' => e = .returned (.bool true) ∧ Below W.heap.size W w' := by
  obtain ⟨i8, hi8, h80, h81, h82⟩ := info_parts Tryz.infoU8
  obtain ⟨b0, hb3, hbe⟩ := mod_nat bb 300 (by omega) (by omega)
  obtain ⟨mo, hmo, hme⟩ := mod_nat mm 300 (by omega) (by omega)
  obtain ⟨b, hb⟩ : ∃ z, z = 1 + b0 := ⟨_, rfl⟩
  have hbe2 : wrap64 (1 + wrap64 ((IntKind.u64.wrap bb).tmod 300)) = (b : Int) := by
    rw [show wrap64 ((IntKind.u64.wrap bb).tmod 300) = (b0 : Int) from hbe, IntWalk.wrap64_in _ (by omega)]
    omega
  have HBE := Lib.hid hbe2
  have HME := Lib.hid (show wrap64 ((IntKind.u64.wrap mm).tmod 300) = (mo : Int) from hme)
  have hb1 : 1 ≤ b := by omega
  have hb4 : b ≤ 300 := by omega
  clear hbe hme hbe2 hb
  obtain ⟨Wa, X, hWa, hX, hBa, hXl, hXe⟩ := pg_box W p.vars p.mtx A p.code.length cap
  have hpa := hp.below hBa
  have hsmall : ∀ u, Below Wa.heap.size Wa u → _ := fun u hu => small_any u p A cap f (hpa.below hu)
  obtain ⟨sm, hsm⟩ : ∃ b, b = Pr.small p f := ⟨_, rfl⟩
  rw [← hsm] at hsmall
  obtain ⟨nt, hnt⟩ : ∃ n, n = ts.length := ⟨_, rfl⟩
  have hm1 : nt < 9223372036854775808 := by rw [hnt]; unfold maxLen at ht; omega
  have HXE := Lib.hid hXe
  have HB := Lib.hid hBa
  have HPA := Lib.hid hpa
  have HSM := Lib.hid hsm
  have HR := Lib.hid hr
  have HG := Lib.hid hg
  have HNT := Lib.hid hnt
  rw [← hnt]
  unfold valP at hsmall ⊢
  have HSMALL := Lib.hid hsmall
  obtain ⟨x0, x1, x2, xl⟩ := hXe Wa (Below.refl _ _)
  clear hXe hBa hsmall hpa hp hsm hr hg ht hnt
  go_enter Tryz.func10, Tryz.ntmps10
  go_upto_region 1 with fail
  rw [← hWa, ← hX]
  clear hWa hX
  go_upto_region 2 with fail
  rw [HBE.out, HME.out]
  go_cut [38] (fun v w2 => Below Wa.heap.size Wa w2 ∧ ∃ z, v = .bool z ∧ (z = false → sm = true ∧ nt ≤ 500))
  case first =>
    go_wp2_with fail
    refine (awake09 _).mono ?_
    rintro x w1 ⟨rfl, b1⟩
    have HB1 := Lib.hid b1
    clear b1 x0 x1 x2 xl
    obtain ⟨x0, x1, x2, xl⟩ := HXE.out w1 HB1.out
    go_wp2_with fail
    refine (HSMALL.out w1 HB1.out).mono ?_
    rintro x w2 ⟨rfl, b2⟩
    have HB2 := Lib.hid (below_at HB1.out b2)
    clear b2
    cases sm with
    | false =>
      go_wp2_with fail
      go_meet
      exact ⟨HB2.out, _, rfl, fun h => by cases h⟩
    | true =>
      go_wp2_with fail
      all_goals (go_meet)
      all_goals (exact ⟨HB2.out, _, rfl, fun h => by first | (cases h; done) | (simp at h; exact ⟨trivial, by omega⟩) | exact ⟨rfl, by omega⟩⟩)
  case rest =>
    obtain ⟨b1, z, rfl, hz⟩ := hcut
    have HB1 := Lib.hid b1
    clear b1 x0 x1 x2 xl
    cases z with
    | true =>
      go_wp2_with fail
      refine (awake09 _).mono ?_
      rintro e w2 ⟨rfl, b2⟩
      go_wp2_with fail
      go_ret
      exact ⟨rfl, below_at HB.out (below_at HB1.out b2)⟩
    | false =>
      obtain ⟨hs1, hn500⟩ := hz rfl
      subst hs1
      clear hz HSMALL hm1
      obtain ⟨m, rfl, hm8, hok, _, hcnt, hall6⟩ := Pr.small_spec HSM.out.symm
      have hwf := Pr.start_wf hok hm8
      have hfu := Pr.fuels_start hok hm8
      obtain ⟨bs, hbs⟩ : ∃ z, z = b + mo := ⟨_, rfl⟩
      have eW : IntKind.i64.wrap ((b : Int) + (mo : Int)) = (bs : Int) := by rw [IntWalk.i64_in _ (by omega)]; omega
      obtain ⟨gk, gn, gr, gc⟩ := Pr.expl_more hwf hb1 (show b ≤ bs by omega) ts
      have hst := Pr.ksE_strict (Pr.start p m) b ts
      have ok1 := Pr.expl_ok hwf hfu b ts hb1
      have ok2 := Pr.expl_ok hwf hfu bs ts (by omega)
      have hn1 := ok1.nodes
      have hn2 := ok2.nodes
      have hr1 := ok1.runs
      have hr2 := ok2.runs
      have hk1 := ok1.blk
      have hk2 := ok2.blk
      have hex1 := explore_law Wa p A cap m b ts HPA.out hm8 hok (by omega) HG.out (by rw [← HNT.out]; omega)
      have hex2 := explore_law Wa p A cap m bs ts HPA.out hm8 hok (by omega) HG.out (by rw [← HNT.out]; omega)
      rw [show max b 1 = b by omega, ← HNT.out] at hex1
      rw [show max bs 1 = bs by omega, ← HNT.out] at hex2
      obtain ⟨E1, hE1⟩ : ∃ z, z = Pr.explX (Pr.start p m) b ts := ⟨_, rfl⟩
      obtain ⟨en1, hen1⟩ : ∃ n, n = E1.1.nodes := ⟨_, rfl⟩
      obtain ⟨eb1, heb1⟩ : ∃ n, n = E1.1.blk := ⟨_, rfl⟩
      obtain ⟨er1, her1⟩ : ∃ n, n = E1.1.runs := ⟨_, rfl⟩
      obtain ⟨cm1, hcme1⟩ : ∃ n, n = E1.2 := ⟨_, rfl⟩
      obtain ⟨ke1, hke1⟩ : ∃ n, n = Pr.ksE (Pr.start p m) b ts := ⟨_, rfl⟩
      obtain ⟨ne1, hne1⟩ : ∃ n, n = ke1.length := ⟨_, rfl⟩
      obtain ⟨E2, hE2⟩ : ∃ z, z = Pr.explX (Pr.start p m) bs ts := ⟨_, rfl⟩
      obtain ⟨en2, hen2⟩ : ∃ n, n = E2.1.nodes := ⟨_, rfl⟩
      obtain ⟨eb2, heb2⟩ : ∃ n, n = E2.1.blk := ⟨_, rfl⟩
      obtain ⟨er2, her2⟩ : ∃ n, n = E2.1.runs := ⟨_, rfl⟩
      obtain ⟨cm2, hcme2⟩ : ∃ n, n = E2.2 := ⟨_, rfl⟩
      obtain ⟨ke2, hke2⟩ : ∃ n, n = Pr.ksE (Pr.start p m) bs ts := ⟨_, rfl⟩
      obtain ⟨ne2, hne2⟩ : ∃ n, n = ke2.length := ⟨_, rfl⟩
      rw [← hE1, ← hen1, ← heb1, ← her1, ← hcme1, ← hke1, ← hne1] at hex1
      rw [← hE2, ← hen2, ← heb2, ← her2, ← hcme2, ← hke2, ← hne2] at hex2
      rw [← hE1, ← hE2] at gn gr gc
      rw [← hE1] at hn1 hr1 hk1
      rw [← hE2] at hn2 hr2 hk2
      rw [← hen1, ← hen2] at gn gc
      rw [← her1, ← her2] at gr
      rw [← hcme1, ← hcme2] at gc
      rw [← hke1, ← hke2] at gk
      rw [← hke1] at hst hr1
      rw [← hke2] at hr2
      rw [← hen1] at hn1 hk1
      rw [← hen2] at hn2 hk2
      rw [← her1] at hr1 hk1
      rw [← her2] at hr2 hk2
      rw [← heb1] at hk1
      rw [← heb2] at hk2
      rw [← hne1] at hr1
      rw [← hne2] at hr2
      unfold valP at hex1 hex2
      obtain ⟨W2, hW2⟩ : ∃ z, z = wc := ⟨_, rfl⟩
      have hbA : Below Wa.heap.size Wa W2 := by rw [hW2]; exact HB1.out
      have HSS := Lib.hid (show ∀ u, Below W2.heap.size W2 u → (u.cell? ⟨X, 0, none⟩ = some (.int .i64 p.vars) ∧ u.cell? ⟨X, 1, none⟩ = some (.int .i64 p.mtx) ∧ u.cell? ⟨X, 2, none⟩ = some (.slice A p.code.length cap) ∧ X < u.heap.size) from fun u hu => HXE.out u (below_at hbA hu))
      have HORD := Lib.hid (show ∀ u, Below W2.heap.size W2 u → Rd u 1 B nt (ts.map fun (b : Nat) => Value.int .u8 (b : Int)) from fun u hu => by
        have := HR.out.below (below_at HB.out (below_at hbA hu)) (Nat.le_refl _)
        rw [← HNT.out] at this
        exact this)
      have HSS0 := HSS
      have HORD0 := HORD
      have HEX := Lib.hid (fun u (hu : Below W2.heap.size W2 u) => hex1 u (below_at hbA hu))
      have HEX1 := HEX
      have HEX2 := Lib.hid (fun u (hu : Below W2.heap.size W2 u) => hex2 u (below_at hbA hu))
      have HB2 := Lib.hid hbA
      have HGK := Lib.hid (And.intro gk hst)
      have HGC := Lib.hid gc
      have HNE := Lib.hid (And.intro hne1 hne2)
      have HEW := Lib.hid eW
      obtain rfl : ne1 = er1 := hr1.symm
      obtain rfl : ne2 = er2 := hr2.symm
      have hl1 : ne1 ≤ 600 := by omega
      have hl2 : ne2 ≤ 600 := by omega
      have HNUM := Lib.hid (show en1 ≤ en2 ∧ ne1 ≤ ne2 ∧ ne1 ≤ 600 ∧ ne2 ≤ 600 from ⟨gn, gr, hl1, hl2⟩)
      clear gn gr hk1 hk2 hn1 hn2 hl1 hl2 hb3 hmo hr1 hr2
      rw [← hW2]
      clear hcnt hall6 hwf hfu hok hm8 HSM hex1 hex2 gk gc hst ok1 ok2 hE1 hE2 hen1 hen2 heb1 heb2 her1 her2 hcme1 hcme2 hke1 hke2 hne1 hne2 hbA HB1 hW2 eW hbs hb1 hb4
      generalize wc = w00 at *
      go_upto_region 4 with fail
      go_cut [11, 12] (fun v9 v10 wz => Below W2.heap.size W2 wz ∧ ∃ Y KA' kc', v9 = .pointer (some ⟨Y, 0, none⟩) ∧ v10 = .int .i64 0 ∧ wz.heap[Y]? = some (.cells #[.slice KA' ne1 kc', .int .i64 (en1 : Int), .int .i64 (ne1 : Int), .int .i64 (eb1 : Int), .bool cm1] 60 (0, 0)) ∧ Rd wz 1 KA' ne1 (ke1.map sv))
      case first =>
        refine wp_region_pt (by kernel_rfl) (fun u => (u.cell? ⟨X, 0, none⟩ = some (.int .i64 p.vars) ∧ u.cell? ⟨X, 1, none⟩ = some (.int .i64 p.mtx) ∧ u.cell? ⟨X, 2, none⟩ = some (.slice A p.code.length cap) ∧ X < u.heap.size)) [] (.cons 0 .load (.cons 1 .pure (.cons 2 .pure (.cons 4 .pure (.fork 3 (.fork 5 (.fork 6 (.cons 7 .pure (.cons 8 .pure (.cons 9 .pure (.cons 10 .eff (.cons 11 .eff (.cons 12 .pure .nil)))))) 10 (.cons 6 .eff (.cons 7 .pure (.cons 8 .pure (.cons 9 .pure (.cons 11 .eff (.cons 12 .pure .nil))))))) 10 (.cons 5 .eff (.cons 6 .eff (.cons 7 .pure (.cons 8 .pure (.cons 9 .pure (.cons 11 .eff (.cons 12 .pure .nil)))))))) 10 (.cons 3 .eff (.cons 5 .eff (.cons 6 .eff (.cons 7 .pure (.cons 8 .pure (.cons 9 .pure (.cons 11 .eff (.cons 12 .pure .nil))))))))))))) (by simp only [PT.map, List.getElem?_toArray, List.getElem?_cons_succ, List.getElem?_cons_zero]; rfl) (by kernel_rfl) (fun _ _ d _ _ h => by cases d <;> exact h) (HSS.out W2.drew (Below.refl W2.heap.size W2).drew) ?_
        have HB := Lib.hid (Below.refl W2.heap.size W2).drew
        obtain ⟨vw, hv⟩ : ∃ vw, vw = W2.drew := ⟨_, rfl⟩
        rw [← hv] at HB ⊢
        clear hv
        repeat (first
          | (refine pt_pure (v := ?_) (by rfl) (fun w1 => ?_) ?_
             rotate_left
             · go_simp <;> with_reducible rfl
             simp only [Act.put, List.setIfInBounds_toArray, List.set_cons_zero, List.set_cons_succ])
          | (refine pt_off (by rfl) ?_
             simp only [Act.put, List.setIfInBounds_toArray, List.set_cons_zero, List.set_cons_succ])
          | (refine pt_load_off (by rfl) ?_
             simp only [Act.put, List.setIfInBounds_toArray, List.set_cons_zero, List.set_cons_succ])
          | (refine pt_load (v := ?_) (by rfl) (fun w1 hw1 => ?_) ?_
             rotate_left
             · (have qq := hw1
                obtain ⟨x0, x1, x2, xl⟩ := qq
                clear hw1
                go_simp <;> with_reducible rfl)
             simp only [Act.put, List.setIfInBounds_toArray, List.set_cons_zero, List.set_cons_succ]))
        refine pt_fork ?_ ?_
        · go_wp2_with fail
          obtain ⟨E, hE⟩ : ∃ Z, Z = vw.heap.size := ⟨_, rfl⟩
          obtain ⟨u, hu⟩ : ∃ u, u = vw.alloc (Obj.cells #[] 5) := ⟨_, rfl⟩
          rw [← hu, ← hE]
          have hb : Below vw.heap.size vw u := by rw [hu]; exact (Below.refl _ _).alloc (Nat.le_refl _) _
          have hk : u.heap[E]? = some (.cells #[] 5 (0, 0)) := by rw [hu, hE]; exact heap_alloc_new vw _
          have HC := Lib.hid hk
          have HB := Lib.hid (below_at HB.out hb)
          (try have HZ := Lib.hid (blk_stepW HZ.out hb))
          clear hb hk hu hE
          rename World => vw
          refine pt_on (fun u h => h) (HSS.out _ HB.out) ?_
          refine pt_fork ?_ ?_
          · have HR := Lib.hid (HORD.out vw HB.out)
            have HE := Lib.hid (row_empty (sz := 1) HC.out)
            go_wp2_with (at_builtin; refine wpList_append_copy (by rfl) _ _ _ (by rfl) 5 i8 _ 1 1 Tryz.underlying43 hi8 h80 h81 h82 rfl (by omega) ⟨E, 0, none⟩ 0 [] (by rfl) HE.out B nt cap2 (ts.map fun (b : Nat) => Value.int .u8 (b : Int)) (by rfl) HR.out (by unfold maxLen; omega) (by omega) ?_; intro g7 o7 cap7 u hown hb hgz)
            rw [Nat.zero_add, List.nil_append] at hown
            have HA := Lib.hid hown.rd
            have HB := Lib.hid (below_at HB.out hb)
            (try have HZ := Lib.hid (blk_stepW HZ.out hb))
            clear hown hb hgz HR HE
            rename World => vw
            refine pt_on (fun u h => h) (HSS.out _ HB.out) ?_
            refine pt_fork ?_ ?_
            · go_wp2_with fail
              refine (HEX.out _ HB.out _ _ HA.out).mono ?_
              rintro y u ⟨⟨KZ, kz, rfl, hrk⟩, hb⟩
              have HK := Lib.hid hrk
              have HB := Lib.hid (below_at HB.out hb)
              (try have HZ := Lib.hid (blk_stepW HZ.out hb))
              clear hrk hb
              rename World => vw
              go_wp2_with fail
              refine pt_on (fun u h => h) (HSS.out _ HB.out) ?_
              repeat (first
                | (refine pt_pure (v := ?_) (by rfl) (fun w1 => ?_) ?_
                   rotate_left
                   · go_simp <;> with_reducible rfl
                   simp only [Act.put, List.setIfInBounds_toArray, List.set_cons_zero, List.set_cons_succ])
                | (refine pt_off (by rfl) ?_
                   simp only [Act.put, List.setIfInBounds_toArray, List.set_cons_zero, List.set_cons_succ])
                | (refine pt_load_off (by rfl) ?_
                   simp only [Act.put, List.setIfInBounds_toArray, List.set_cons_zero, List.set_cons_succ])
                | (refine pt_load (v := ?_) (by rfl) (fun w1 hw1 => ?_) ?_
                   rotate_left
                   · (skip
                      clear hw1
                      go_simp <;> with_reducible rfl)
                   simp only [Act.put, List.setIfInBounds_toArray, List.set_cons_zero, List.set_cons_succ]))
              refine pt_eff ?_
              go_wp2_with fail
              obtain ⟨Y, hY⟩ : ∃ Z, Z = vw.heap.size := ⟨_, rfl⟩
              obtain ⟨u, hu⟩ : ∃ u, u = vw.alloc (Obj.cells #[.slice none 0 0, .int .i64 0, .int .i64 0, .int .i64 0, .bool false] 60) := ⟨_, rfl⟩
              rw [← hu, ← hY]
              have hb : Below vw.heap.size vw u := by rw [hu]; exact (Below.refl _ _).alloc (Nat.le_refl _) _
              have hk : u.heap[Y]? = some (.cells #[.slice none 0 0, .int .i64 0, .int .i64 0, .int .i64 0, .bool false] 60 (0, 0)) := by rw [hu, hY]; exact heap_alloc_new vw _
              have HYW : Hid (W2.heap.size ≤ Y) := Lib.hid (by rw [hY]; exact HB.out.size)
              have HZ := Lib.hid hk
              have HB := Lib.hid (below_at HB.out hb)
              (try have HC := Lib.hid (blk_stepW HC.out hb))
              (try have HA := Lib.hid (HA.out.below hb (Nat.le_refl _)))
              (try have HK := Lib.hid (HK.out.below hb (Nat.le_refl _)))
              clear hb hk hu hY
              rename World => vw
              refine pt_on (fun u h => h) (HSS.out _ HB.out) ?_
              refine pt_eff ?_
              have e0 := cell_blk HZ.out 0
              have e1 := cell_blk HZ.out 1
              have e2 := cell_blk HZ.out 2
              have e3 := cell_blk HZ.out 3
              have e4 := cell_blk HZ.out 4
              simp only [List.getElem?_toArray, List.getElem?_cons_zero, List.getElem?_cons_succ] at e0 e1 e2 e3 e4
              have g0 := free_blk HZ.out 0
              have g1 := free_blk HZ.out 1
              have g2 := free_blk HZ.out 2
              have g3 := free_blk HZ.out 3
              have g4 := free_blk HZ.out 4
              have zl := blk_lt HZ.out
              obtain ⟨V2, hV2, hk2, hm2⟩ := rep_store HZ.out (.slice KZ ne1 kz) (.int .i64 (en1 : Int)) (.int .i64 (ne1 : Int)) (.int .i64 (eb1 : Int)) (.bool cm1)
              have HV2 := Lib.hid hV2
              have HREP := Lib.hid hk2
              have HRK := Lib.hid (rd_store HK.out HZ.out hm2)
              have HB := Lib.hid (HB.out.trans (hm2.below W2.heap.size HB.out.size (fun k hk e => by have := HYW.out; omega)))
              clear hV2 hk2 hm2
              go_wp2_with fail
              rw [← HV2.out]
              clear e0 e1 e2 e3 e4 g0 g1 g2 g3 g4 zl
              refine pt_on (fun u h => h) (HSS.out _ HB.out) ?_
              repeat (first
                | (refine pt_pure (v := ?_) (by rfl) (fun w1 => ?_) ?_
                   rotate_left
                   · go_simp <;> with_reducible rfl
                   simp only [Act.put, List.setIfInBounds_toArray, List.set_cons_zero, List.set_cons_succ])
                | (refine pt_off (by rfl) ?_
                   simp only [Act.put, List.setIfInBounds_toArray, List.set_cons_zero, List.set_cons_succ])
                | (refine pt_load_off (by rfl) ?_
                   simp only [Act.put, List.setIfInBounds_toArray, List.set_cons_zero, List.set_cons_succ])
                | (refine pt_load (v := ?_) (by rfl) (fun w1 hw1 => ?_) ?_
                   rotate_left
                   · (skip
                      clear hw1
                      go_simp <;> with_reducible rfl)
                   simp only [Act.put, List.setIfInBounds_toArray, List.set_cons_zero, List.set_cons_succ]))
              refine pt_end ?_
              go_wp2_with fail
              go_meet
              exact ⟨HB.out, _, _, _, rfl, rfl, HREP.out, HRK.out⟩
            · go_wp2_with fail
              obtain ⟨Y, hY⟩ : ∃ Z, Z = vw.heap.size := ⟨_, rfl⟩
              obtain ⟨u, hu⟩ : ∃ u, u = vw.alloc (Obj.cells #[.slice none 0 0, .int .i64 0, .int .i64 0, .int .i64 0, .bool false] 60) := ⟨_, rfl⟩
              rw [← hu, ← hY]
              have hb : Below vw.heap.size vw u := by rw [hu]; exact (Below.refl _ _).alloc (Nat.le_refl _) _
              have hk : u.heap[Y]? = some (.cells #[.slice none 0 0, .int .i64 0, .int .i64 0, .int .i64 0, .bool false] 60 (0, 0)) := by rw [hu, hY]; exact heap_alloc_new vw _
              have HYW : Hid (W2.heap.size ≤ Y) := Lib.hid (by rw [hY]; exact HB.out.size)
              have HZ := Lib.hid hk
              have HB := Lib.hid (below_at HB.out hb)
              (try have HC := Lib.hid (blk_stepW HC.out hb))
              (try have HA := Lib.hid (HA.out.below hb (Nat.le_refl _)))
              (try have HK := Lib.hid (HK.out.below hb (Nat.le_refl _)))
              clear hb hk hu hY
              rename World => vw
              refine pt_on (fun u h => h) (HSS.out _ HB.out) ?_
              refine pt_eff ?_
              go_wp2_with fail
              refine (HEX.out _ HB.out _ _ HA.out).mono ?_
              rintro y u ⟨⟨KZ, kz, rfl, hrk⟩, hb⟩
              have HK := Lib.hid hrk
              have HB := Lib.hid (below_at HB.out hb)
              (try have HZ := Lib.hid (blk_stepW HZ.out hb))
              clear hrk hb
              rename World => vw
              go_wp2_with fail
              refine pt_on (fun u h => h) (HSS.out _ HB.out) ?_
              repeat (first
                | (refine pt_pure (v := ?_) (by rfl) (fun w1 => ?_) ?_
                   rotate_left
                   · go_simp <;> with_reducible rfl
                   simp only [Act.put, List.setIfInBounds_toArray, List.set_cons_zero, List.set_cons_succ])
                | (refine pt_off (by rfl) ?_
                   simp only [Act.put, List.setIfInBounds_toArray, List.set_cons_zero, List.set_cons_succ])
                | (refine pt_load_off (by rfl) ?_
                   simp only [Act.put, List.setIfInBounds_toArray, List.set_cons_zero, List.set_cons_succ])
                | (refine pt_load (v := ?_) (by rfl) (fun w1 hw1 => ?_) ?_
                   rotate_left
                   · (skip
                      clear hw1
                      go_simp <;> with_reducible rfl)
                   simp only [Act.put, List.setIfInBounds_toArray, List.set_cons_zero, List.set_cons_succ]))
              refine pt_eff ?_
              have e0 := cell_blk HZ.out 0
              have e1 := cell_blk HZ.out 1
              have e2 := cell_blk HZ.out 2
              have e3 := cell_blk HZ.out 3
              have e4 := cell_blk HZ.out 4
              simp only [List.getElem?_toArray, List.getElem?_cons_zero, List.getElem?_cons_succ] at e0 e1 e2 e3 e4
              have g0 := free_blk HZ.out 0
              have g1 := free_blk HZ.out 1
              have g2 := free_blk HZ.out 2
              have g3 := free_blk HZ.out 3
              have g4 := free_blk HZ.out 4
              have zl := blk_lt HZ.out
              obtain ⟨V2, hV2, hk2, hm2⟩ := rep_store HZ.out (.slice KZ ne1 kz) (.int .i64 (en1 : Int)) (.int .i64 (ne1 : Int)) (.int .i64 (eb1 : Int)) (.bool cm1)
              have HV2 := Lib.hid hV2
              have HREP := Lib.hid hk2
              have HRK := Lib.hid (rd_store HK.out HZ.out hm2)
              have HB := Lib.hid (HB.out.trans (hm2.below W2.heap.size HB.out.size (fun k hk e => by have := HYW.out; omega)))
              clear hV2 hk2 hm2
              go_wp2_with fail
              rw [← HV2.out]
              clear e0 e1 e2 e3 e4 g0 g1 g2 g3 g4 zl
              refine pt_on (fun u h => h) (HSS.out _ HB.out) ?_
              repeat (first
                | (refine pt_pure (v := ?_) (by rfl) (fun w1 => ?_) ?_
                   rotate_left
                   · go_simp <;> with_reducible rfl
                   simp only [Act.put, List.setIfInBounds_toArray, List.set_cons_zero, List.set_cons_succ])
                | (refine pt_off (by rfl) ?_
                   simp only [Act.put, List.setIfInBounds_toArray, List.set_cons_zero, List.set_cons_succ])
                | (refine pt_load_off (by rfl) ?_
                   simp only [Act.put, List.setIfInBounds_toArray, List.set_cons_zero, List.set_cons_succ])
                | (refine pt_load (v := ?_) (by rfl) (fun w1 hw1 => ?_) ?_
                   rotate_left
                   · (skip
                      clear hw1
                      go_simp <;> with_reducible rfl)
                   simp only [Act.put, List.setIfInBounds_toArray, List.set_cons_zero, List.set_cons_succ]))
              refine pt_end ?_
              go_wp2_with fail
              go_meet
              exact ⟨HB.out, _, _, _, rfl, rfl, HREP.out, HRK.out⟩
          · go_wp2_with fail
            obtain ⟨Y, hY⟩ : ∃ Z, Z = vw.heap.size := ⟨_, rfl⟩
            obtain ⟨u, hu⟩ : ∃ u, u = vw.alloc (Obj.cells #[.slice none 0 0, .int .i64 0, .int .i64 0, .int .i64 0, .bool false] 60) := ⟨_, rfl⟩
            rw [← hu, ← hY]
            have hb : Below vw.heap.size vw u := by rw [hu]; exact (Below.refl _ _).alloc (Nat.le_refl _) _
            have hk : u.heap[Y]? = some (.cells #[.slice none 0 0, .int .i64 0, .int .i64 0, .int .i64 0, .bool false] 60 (0, 0)) := by rw [hu, hY]; exact heap_alloc_new vw _
            have HYW : Hid (W2.heap.size ≤ Y) := Lib.hid (by rw [hY]; exact HB.out.size)
            have HZ := Lib.hid hk
            have HB := Lib.hid (below_at HB.out hb)
            (try have HC := Lib.hid (blk_stepW HC.out hb))
            (try have HA := Lib.hid (HA.out.below hb (Nat.le_refl _)))
            (try have HK := Lib.hid (HK.out.below hb (Nat.le_refl _)))
            clear hb hk hu hY
            rename World => vw
            refine pt_on (fun u h => h) (HSS.out _ HB.out) ?_
            refine pt_eff ?_
            have HR := Lib.hid (HORD.out vw HB.out)
            have HE := Lib.hid (row_empty (sz := 1) HC.out)
            go_wp2_with (at_builtin; refine wpList_append_copy (by rfl) _ _ _ (by rfl) 5 i8 _ 1 1 Tryz.underlying43 hi8 h80 h81 h82 rfl (by omega) ⟨E, 0, none⟩ 0 [] (by rfl) HE.out B nt cap2 (ts.map fun (b : Nat) => Value.int .u8 (b : Int)) (by rfl) HR.out (by unfold maxLen; omega) (by omega) ?_; intro g7 o7 cap7 u hown hb hgz)
            rw [Nat.zero_add, List.nil_append] at hown
            have HA := Lib.hid hown.rd
            have HB := Lib.hid (below_at HB.out hb)
            (try have HZ := Lib.hid (blk_stepW HZ.out hb))
            clear hown hb hgz HR HE
            rename World => vw
            refine pt_on (fun u h => h) (HSS.out _ HB.out) ?_
            refine pt_eff ?_
            go_wp2_with fail
            refine (HEX.out _ HB.out _ _ HA.out).mono ?_
            rintro y u ⟨⟨KZ, kz, rfl, hrk⟩, hb⟩
            have HK := Lib.hid hrk
            have HB := Lib.hid (below_at HB.out hb)
            (try have HZ := Lib.hid (blk_stepW HZ.out hb))
            clear hrk hb
            rename World => vw
            go_wp2_with fail
            refine pt_on (fun u h => h) (HSS.out _ HB.out) ?_
            repeat (first
              | (refine pt_pure (v := ?_) (by rfl) (fun w1 => ?_) ?_
                 rotate_left
                 · go_simp <;> with_reducible rfl
                 simp only [Act.put, List.setIfInBounds_toArray, List.set_cons_zero, List.set_cons_succ])
              | (refine pt_off (by rfl) ?_
                 simp only [Act.put, List.setIfInBounds_toArray, List.set_cons_zero, List.set_cons_succ])
              | (refine pt_load_off (by rfl) ?_
                 simp only [Act.put, List.setIfInBounds_toArray, List.set_cons_zero, List.set_cons_succ])
              | (refine pt_load (v := ?_) (by rfl) (fun w1 hw1 => ?_) ?_
                 rotate_left
                 · (skip
                    clear hw1
                    go_simp <;> with_reducible rfl)
                 simp only [Act.put, List.setIfInBounds_toArray, List.set_cons_zero, List.set_cons_succ]))
            refine pt_eff ?_
            have e0 := cell_blk HZ.out 0
            have e1 := cell_blk HZ.out 1
            have e2 := cell_blk HZ.out 2
            have e3 := cell_blk HZ.out 3
            have e4 := cell_blk HZ.out 4
            simp only [List.getElem?_toArray, List.getElem?_cons_zero, List.getElem?_cons_succ] at e0 e1 e2 e3 e4
            have g0 := free_blk HZ.out 0
            have g1 := free_blk HZ.out 1
            have g2 := free_blk HZ.out 2
            have g3 := free_blk HZ.out 3
            have g4 := free_blk HZ.out 4
            have zl := blk_lt HZ.out
            obtain ⟨V2, hV2, hk2, hm2⟩ := rep_store HZ.out (.slice KZ ne1 kz) (.int .i64 (en1 : Int)) (.int .i64 (ne1 : Int)) (.int .i64 (eb1 : Int)) (.bool cm1)
            have HV2 := Lib.hid hV2
            have HREP := Lib.hid hk2
            have HRK := Lib.hid (rd_store HK.out HZ.out hm2)
            have HB := Lib.hid (HB.out.trans (hm2.below W2.heap.size HB.out.size (fun k hk e => by have := HYW.out; omega)))
            clear hV2 hk2 hm2
            go_wp2_with fail
            rw [← HV2.out]
            clear e0 e1 e2 e3 e4 g0 g1 g2 g3 g4 zl
            refine pt_on (fun u h => h) (HSS.out _ HB.out) ?_
            repeat (first
              | (refine pt_pure (v := ?_) (by rfl) (fun w1 => ?_) ?_
                 rotate_left
                 · go_simp <;> with_reducible rfl
                 simp only [Act.put, List.setIfInBounds_toArray, List.set_cons_zero, List.set_cons_succ])
              | (refine pt_off (by rfl) ?_
                 simp only [Act.put, List.setIfInBounds_toArray, List.set_cons_zero, List.set_cons_succ])
              | (refine pt_load_off (by rfl) ?_
                 simp only [Act.put, List.setIfInBounds_toArray, List.set_cons_zero, List.set_cons_succ])
              | (refine pt_load (v := ?_) (by rfl) (fun w1 hw1 => ?_) ?_
                 rotate_left
                 · (skip
                    clear hw1
                    go_simp <;> with_reducible rfl)
                 simp only [Act.put, List.setIfInBounds_toArray, List.set_cons_zero, List.set_cons_succ]))
            refine pt_end ?_
            go_wp2_with fail
            go_meet
            exact ⟨HB.out, _, _, _, rfl, rfl, HREP.out, HRK.out⟩
        · go_wp2_with fail
          obtain ⟨Y, hY⟩ : ∃ Z, Z = vw.heap.size := ⟨_, rfl⟩
          obtain ⟨u, hu⟩ : ∃ u, u = vw.alloc (Obj.cells #[.slice none 0 0, .int .i64 0, .int .i64 0, .int .i64 0, .bool false] 60) := ⟨_, rfl⟩
          rw [← hu, ← hY]
          have hb : Below vw.heap.size vw u := by rw [hu]; exact (Below.refl _ _).alloc (Nat.le_refl _) _
          have hk : u.heap[Y]? = some (.cells #[.slice none 0 0, .int .i64 0, .int .i64 0, .int .i64 0, .bool false] 60 (0, 0)) := by rw [hu, hY]; exact heap_alloc_new vw _
          have HYW : Hid (W2.heap.size ≤ Y) := Lib.hid (by rw [hY]; exact HB.out.size)
          have HZ := Lib.hid hk
          have HB := Lib.hid (below_at HB.out hb)
          (try have HC := Lib.hid (blk_stepW HC.out hb))
          (try have HA := Lib.hid (HA.out.below hb (Nat.le_refl _)))
          (try have HK := Lib.hid (HK.out.below hb (Nat.le_refl _)))
          clear hb hk hu hY
          rename World => vw
          refine pt_on (fun u h => h) (HSS.out _ HB.out) ?_
          refine pt_eff ?_
          go_wp2_with fail
          obtain ⟨E, hE⟩ : ∃ Z, Z = vw.heap.size := ⟨_, rfl⟩
          obtain ⟨u, hu⟩ : ∃ u, u = vw.alloc (Obj.cells #[] 5) := ⟨_, rfl⟩
          rw [← hu, ← hE]
          have hb : Below vw.heap.size vw u := by rw [hu]; exact (Below.refl _ _).alloc (Nat.le_refl _) _
          have hk : u.heap[E]? = some (.cells #[] 5 (0, 0)) := by rw [hu, hE]; exact heap_alloc_new vw _
          have HC := Lib.hid hk
          have HB := Lib.hid (below_at HB.out hb)
          (try have HZ := Lib.hid (blk_stepW HZ.out hb))
          clear hb hk hu hE
          rename World => vw
          refine pt_on (fun u h => h) (HSS.out _ HB.out) ?_
          refine pt_eff ?_
          have HR := Lib.hid (HORD.out vw HB.out)
          have HE := Lib.hid (row_empty (sz := 1) HC.out)
          go_wp2_with (at_builtin; refine wpList_append_copy (by rfl) _ _ _ (by rfl) 5 i8 _ 1 1 Tryz.underlying43 hi8 h80 h81 h82 rfl (by omega) ⟨E, 0, none⟩ 0 [] (by rfl) HE.out B nt cap2 (ts.map fun (b : Nat) => Value.int .u8 (b : Int)) (by rfl) HR.out (by unfold maxLen; omega) (by omega) ?_; intro g7 o7 cap7 u hown hb hgz)
          rw [Nat.zero_add, List.nil_append] at hown
          have HA := Lib.hid hown.rd
          have HB := Lib.hid (below_at HB.out hb)
          (try have HZ := Lib.hid (blk_stepW HZ.out hb))
          clear hown hb hgz HR HE
          rename World => vw
          refine pt_on (fun u h => h) (HSS.out _ HB.out) ?_
          refine pt_eff ?_
          go_wp2_with fail
          refine (HEX.out _ HB.out _ _ HA.out).mono ?_
          rintro y u ⟨⟨KZ, kz, rfl, hrk⟩, hb⟩
          have HK := Lib.hid hrk
          have HB := Lib.hid (below_at HB.out hb)
          (try have HZ := Lib.hid (blk_stepW HZ.out hb))
          clear hrk hb
          rename World => vw
          go_wp2_with fail
          refine pt_on (fun u h => h) (HSS.out _ HB.out) ?_
          repeat (first
            | (refine pt_pure (v := ?_) (by rfl) (fun w1 => ?_) ?_
               rotate_left
               · go_simp <;> with_reducible rfl
               simp only [Act.put, List.setIfInBounds_toArray, List.set_cons_zero, List.set_cons_succ])
            | (refine pt_off (by rfl) ?_
               simp only [Act.put, List.setIfInBounds_toArray, List.set_cons_zero, List.set_cons_succ])
            | (refine pt_load_off (by rfl) ?_
               simp only [Act.put, List.setIfInBounds_toArray, List.set_cons_zero, List.set_cons_succ])
            | (refine pt_load (v := ?_) (by rfl) (fun w1 hw1 => ?_) ?_
               rotate_left
               · (skip
                  clear hw1
                  go_simp <;> with_reducible rfl)
               simp only [Act.put, List.setIfInBounds_toArray, List.set_cons_zero, List.set_cons_succ]))
          refine pt_eff ?_
          have e0 := cell_blk HZ.out 0
          have e1 := cell_blk HZ.out 1
          have e2 := cell_blk HZ.out 2
          have e3 := cell_blk HZ.out 3
          have e4 := cell_blk HZ.out 4
          simp only [List.getElem?_toArray, List.getElem?_cons_zero, List.getElem?_cons_succ] at e0 e1 e2 e3 e4
          have g0 := free_blk HZ.out 0
          have g1 := free_blk HZ.out 1
          have g2 := free_blk HZ.out 2
          have g3 := free_blk HZ.out 3
          have g4 := free_blk HZ.out 4
          have zl := blk_lt HZ.out
          obtain ⟨V2, hV2, hk2, hm2⟩ := rep_store HZ.out (.slice KZ ne1 kz) (.int .i64 (en1 : Int)) (.int .i64 (ne1 : Int)) (.int .i64 (eb1 : Int)) (.bool cm1)
          have HV2 := Lib.hid hV2
          have HREP := Lib.hid hk2
          have HRK := Lib.hid (rd_store HK.out HZ.out hm2)
          have HB := Lib.hid (HB.out.trans (hm2.below W2.heap.size HB.out.size (fun k hk e => by have := HYW.out; omega)))
          clear hV2 hk2 hm2
          go_wp2_with fail
          rw [← HV2.out]
          clear e0 e1 e2 e3 e4 g0 g1 g2 g3 g4 zl
          refine pt_on (fun u h => h) (HSS.out _ HB.out) ?_
          repeat (first
            | (refine pt_pure (v := ?_) (by rfl) (fun w1 => ?_) ?_
               rotate_left
               · go_simp <;> with_reducible rfl
               simp only [Act.put, List.setIfInBounds_toArray, List.set_cons_zero, List.set_cons_succ])
            | (refine pt_off (by rfl) ?_
               simp only [Act.put, List.setIfInBounds_toArray, List.set_cons_zero, List.set_cons_succ])
            | (refine pt_load_off (by rfl) ?_
               simp only [Act.put, List.setIfInBounds_toArray, List.set_cons_zero, List.set_cons_succ])
            | (refine pt_load (v := ?_) (by rfl) (fun w1 hw1 => ?_) ?_
               rotate_left
               · (skip
                  clear hw1
                  go_simp <;> with_reducible rfl)
               simp only [Act.put, List.setIfInBounds_toArray, List.set_cons_zero, List.set_cons_succ]))
          refine pt_end ?_
          go_wp2_with fail
          go_meet
          exact ⟨HB.out, _, _, _, rfl, rfl, HREP.out, HRK.out⟩
      case rest =>
        obtain ⟨bz, Y1, K1, kc1, rfl, rfl, hrep1, hrk1⟩ := hcut
        generalize wc = w5 at *
        have HREP1 := Lib.hid hrep1
        have HRK1 := Lib.hid hrk1
        have HBZ1 := Lib.hid bz
        have eW := HEW.out
        clear hrep1 hrk1 bz HSS HORD HEX
        have HSS := Lib.hid (fun v (hv : Below w5.heap.size w5 v) => HSS0.out v (below_at HBZ1.out hv))
        have HORD := Lib.hid (fun v (hv : Below w5.heap.size w5 v) => HORD0.out v (below_at HBZ1.out hv))
        have HEX := Lib.hid (fun v (hv : Below w5.heap.size w5 v) => HEX2.out v (below_at HBZ1.out hv))
        go_upto_region 5 with fail
        go_cut [13, 14] (fun v9 v10 wz => Below w5.heap.size w5 wz ∧ ∃ Y KA' kc', v9 = .pointer (some ⟨Y, 0, none⟩) ∧ v10 = .int .i64 0 ∧ wz.heap[Y]? = some (.cells #[.slice KA' ne2 kc', .int .i64 (en2 : Int), .int .i64 (ne2 : Int), .int .i64 (eb2 : Int), .bool cm2] 60 (0, 0)) ∧ Rd wz 1 KA' ne2 (ke2.map sv))
        case first =>
          refine wp_region_pt (by kernel_rfl) (fun u => (u.cell? ⟨X, 0, none⟩ = some (.int .i64 p.vars) ∧ u.cell? ⟨X, 1, none⟩ = some (.int .i64 p.mtx) ∧ u.cell? ⟨X, 2, none⟩ = some (.slice A p.code.length cap) ∧ X < u.heap.size)) [] (.cons 0 .load (.cons 1 .pure (.cons 2 .pure (.cons 3 .pure (.cons 4 .pure (.cons 6 .pure (.fork 5 (.fork 7 (.fork 8 (.cons 9 .pure (.cons 10 .pure (.cons 11 .pure (.cons 12 .eff (.cons 13 .eff (.cons 14 .pure .nil)))))) 12 (.cons 8 .eff (.cons 9 .pure (.cons 10 .pure (.cons 11 .pure (.cons 13 .eff (.cons 14 .pure .nil))))))) 12 (.cons 7 .eff (.cons 8 .eff (.cons 9 .pure (.cons 10 .pure (.cons 11 .pure (.cons 13 .eff (.cons 14 .pure .nil)))))))) 12 (.cons 5 .eff (.cons 7 .eff (.cons 8 .eff (.cons 9 .pure (.cons 10 .pure (.cons 11 .pure (.cons 13 .eff (.cons 14 .pure .nil))))))))))))))) (by simp only [PT.map, List.getElem?_toArray, List.getElem?_cons_succ, List.getElem?_cons_zero]; rfl) (by kernel_rfl) (fun _ _ d _ _ h => by cases d <;> exact h) (HSS.out w5.drew (Below.refl w5.heap.size w5).drew) ?_
          have HB := Lib.hid (Below.refl w5.heap.size w5).drew
          obtain ⟨vw, hv⟩ : ∃ vw, vw = w5.drew := ⟨_, rfl⟩
          rw [← hv] at HB ⊢
          clear hv
          repeat (first
            | (refine pt_pure (v := ?_) (by rfl) (fun w1 => ?_) ?_
               rotate_left
               · go_simp <;> with_reducible rfl
               simp only [Act.put, List.setIfInBounds_toArray, List.set_cons_zero, List.set_cons_succ])
            | (refine pt_off (by rfl) ?_
               simp only [Act.put, List.setIfInBounds_toArray, List.set_cons_zero, List.set_cons_succ])
            | (refine pt_load_off (by rfl) ?_
               simp only [Act.put, List.setIfInBounds_toArray, List.set_cons_zero, List.set_cons_succ])
            | (refine pt_load (v := ?_) (by rfl) (fun w1 hw1 => ?_) ?_
               rotate_left
               · (have qq := hw1
                  obtain ⟨x0, x1, x2, xl⟩ := qq
                  clear hw1
                  go_simp <;> with_reducible rfl)
               simp only [Act.put, List.setIfInBounds_toArray, List.set_cons_zero, List.set_cons_succ]))
          refine pt_fork ?_ ?_
          · go_wp2_with fail
            obtain ⟨E, hE⟩ : ∃ Z, Z = vw.heap.size := ⟨_, rfl⟩
            obtain ⟨u, hu⟩ : ∃ u, u = vw.alloc (Obj.cells #[] 5) := ⟨_, rfl⟩
            rw [← hu, ← hE]
            have hb : Below vw.heap.size vw u := by rw [hu]; exact (Below.refl _ _).alloc (Nat.le_refl _) _
            have hk : u.heap[E]? = some (.cells #[] 5 (0, 0)) := by rw [hu, hE]; exact heap_alloc_new vw _
            have HC := Lib.hid hk
            have HB := Lib.hid (below_at HB.out hb)
            (try have HZ := Lib.hid (blk_stepW HZ.out hb))
            clear hb hk hu hE
            rename World => vw
            refine pt_on (fun u h => h) (HSS.out _ HB.out) ?_
            refine pt_fork ?_ ?_
            · have HR := Lib.hid (HORD.out vw HB.out)
              have HE := Lib.hid (row_empty (sz := 1) HC.out)
              go_wp2_with (at_builtin; refine wpList_append_copy (by rfl) _ _ _ (by rfl) 5 i8 _ 1 1 Tryz.underlying43 hi8 h80 h81 h82 rfl (by omega) ⟨E, 0, none⟩ 0 [] (by rfl) HE.out B nt cap2 (ts.map fun (b : Nat) => Value.int .u8 (b : Int)) (by rfl) HR.out (by unfold maxLen; omega) (by omega) ?_; intro g7 o7 cap7 u hown hb hgz)
              rw [Nat.zero_add, List.nil_append] at hown
              have HA := Lib.hid hown.rd
              have HB := Lib.hid (below_at HB.out hb)
              (try have HZ := Lib.hid (blk_stepW HZ.out hb))
              clear hown hb hgz HR HE
              rename World => vw
              refine pt_on (fun u h => h) (HSS.out _ HB.out) ?_
              refine pt_fork ?_ ?_
              · go_wp2_with fail
                refine (HEX.out _ HB.out _ _ HA.out).mono ?_
                rintro y u ⟨⟨KZ, kz, rfl, hrk⟩, hb⟩
                have HK := Lib.hid hrk
                have HB := Lib.hid (below_at HB.out hb)
                (try have HZ := Lib.hid (blk_stepW HZ.out hb))
                clear hrk hb
                rename World => vw
                go_wp2_with fail
                refine pt_on (fun u h => h) (HSS.out _ HB.out) ?_
                repeat (first
                  | (refine pt_pure (v := ?_) (by rfl) (fun w1 => ?_) ?_
                     rotate_left
                     · go_simp <;> with_reducible rfl
                     simp only [Act.put, List.setIfInBounds_toArray, List.set_cons_zero, List.set_cons_succ])
                  | (refine pt_off (by rfl) ?_
                     simp only [Act.put, List.setIfInBounds_toArray, List.set_cons_zero, List.set_cons_succ])
                  | (refine pt_load_off (by rfl) ?_
                     simp only [Act.put, List.setIfInBounds_toArray, List.set_cons_zero, List.set_cons_succ])
                  | (refine pt_load (v := ?_) (by rfl) (fun w1 hw1 => ?_) ?_
                     rotate_left
                     · (skip
                        clear hw1
                        go_simp <;> with_reducible rfl)
                     simp only [Act.put, List.setIfInBounds_toArray, List.set_cons_zero, List.set_cons_succ]))
                refine pt_eff ?_
                go_wp2_with fail
                obtain ⟨Y, hY⟩ : ∃ Z, Z = vw.heap.size := ⟨_, rfl⟩
                obtain ⟨u, hu⟩ : ∃ u, u = vw.alloc (Obj.cells #[.slice none 0 0, .int .i64 0, .int .i64 0, .int .i64 0, .bool false] 60) := ⟨_, rfl⟩
                rw [← hu, ← hY]
                have hb : Below vw.heap.size vw u := by rw [hu]; exact (Below.refl _ _).alloc (Nat.le_refl _) _
                have hk : u.heap[Y]? = some (.cells #[.slice none 0 0, .int .i64 0, .int .i64 0, .int .i64 0, .bool false] 60 (0, 0)) := by rw [hu, hY]; exact heap_alloc_new vw _
                have HYW : Hid (w5.heap.size ≤ Y) := Lib.hid (by rw [hY]; exact HB.out.size)
                have HZ := Lib.hid hk
                have HB := Lib.hid (below_at HB.out hb)
                (try have HC := Lib.hid (blk_stepW HC.out hb))
                (try have HA := Lib.hid (HA.out.below hb (Nat.le_refl _)))
                (try have HK := Lib.hid (HK.out.below hb (Nat.le_refl _)))
                clear hb hk hu hY
                rename World => vw
                refine pt_on (fun u h => h) (HSS.out _ HB.out) ?_
                refine pt_eff ?_
                have e0 := cell_blk HZ.out 0
                have e1 := cell_blk HZ.out 1
                have e2 := cell_blk HZ.out 2
                have e3 := cell_blk HZ.out 3
                have e4 := cell_blk HZ.out 4
                simp only [List.getElem?_toArray, List.getElem?_cons_zero, List.getElem?_cons_succ] at e0 e1 e2 e3 e4
                have g0 := free_blk HZ.out 0
                have g1 := free_blk HZ.out 1
                have g2 := free_blk HZ.out 2
                have g3 := free_blk HZ.out 3
                have g4 := free_blk HZ.out 4
                have zl := blk_lt HZ.out
                obtain ⟨V2, hV2, hk2, hm2⟩ := rep_store HZ.out (.slice KZ ne2 kz) (.int .i64 (en2 : Int)) (.int .i64 (ne2 : Int)) (.int .i64 (eb2 : Int)) (.bool cm2)
                have HV2 := Lib.hid hV2
                have HREP := Lib.hid hk2
                have HRK := Lib.hid (rd_store HK.out HZ.out hm2)
                have HB := Lib.hid (HB.out.trans (hm2.below w5.heap.size HB.out.size (fun k hk e => by have := HYW.out; omega)))
                clear hV2 hk2 hm2
                go_wp2_with fail
                rw [← HV2.out]
                clear e0 e1 e2 e3 e4 g0 g1 g2 g3 g4 zl
                refine pt_on (fun u h => h) (HSS.out _ HB.out) ?_
                repeat (first
                  | (refine pt_pure (v := ?_) (by rfl) (fun w1 => ?_) ?_
                     rotate_left
                     · go_simp <;> with_reducible rfl
                     simp only [Act.put, List.setIfInBounds_toArray, List.set_cons_zero, List.set_cons_succ])
                  | (refine pt_off (by rfl) ?_
                     simp only [Act.put, List.setIfInBounds_toArray, List.set_cons_zero, List.set_cons_succ])
                  | (refine pt_load_off (by rfl) ?_
                     simp only [Act.put, List.setIfInBounds_toArray, List.set_cons_zero, List.set_cons_succ])
                  | (refine pt_load (v := ?_) (by rfl) (fun w1 hw1 => ?_) ?_
                     rotate_left
                     · (skip
                        clear hw1
                        go_simp <;> with_reducible rfl)
                     simp only [Act.put, List.setIfInBounds_toArray, List.set_cons_zero, List.set_cons_succ]))
                refine pt_end ?_
                go_wp2_with fail
                go_meet
                exact ⟨HB.out, _, _, _, rfl, rfl, HREP.out, HRK.out⟩
              · go_wp2_with fail
                obtain ⟨Y, hY⟩ : ∃ Z, Z = vw.heap.size := ⟨_, rfl⟩
                obtain ⟨u, hu⟩ : ∃ u, u = vw.alloc (Obj.cells #[.slice none 0 0, .int .i64 0, .int .i64 0, .int .i64 0, .bool false] 60) := ⟨_, rfl⟩
                rw [← hu, ← hY]
                have hb : Below vw.heap.size vw u := by rw [hu]; exact (Below.refl _ _).alloc (Nat.le_refl _) _
                have hk : u.heap[Y]? = some (.cells #[.slice none 0 0, .int .i64 0, .int .i64 0, .int .i64 0, .bool false] 60 (0, 0)) := by rw [hu, hY]; exact heap_alloc_new vw _
                have HYW : Hid (w5.heap.size ≤ Y) := Lib.hid (by rw [hY]; exact HB.out.size)
                have HZ := Lib.hid hk
                have HB := Lib.hid (below_at HB.out hb)
                (try have HC := Lib.hid (blk_stepW HC.out hb))
                (try have HA := Lib.hid (HA.out.below hb (Nat.le_refl _)))
                (try have HK := Lib.hid (HK.out.below hb (Nat.le_refl _)))
                clear hb hk hu hY
                rename World => vw
                refine pt_on (fun u h => h) (HSS.out _ HB.out) ?_
                refine pt_eff ?_
                go_wp2_with fail
                refine (HEX.out _ HB.out _ _ HA.out).mono ?_
                rintro y u ⟨⟨KZ, kz, rfl, hrk⟩, hb⟩
                have HK := Lib.hid hrk
                have HB := Lib.hid (below_at HB.out hb)
                (try have HZ := Lib.hid (blk_stepW HZ.out hb))
                clear hrk hb
                rename World => vw
                go_wp2_with fail
                refine pt_on (fun u h => h) (HSS.out _ HB.out) ?_
                repeat (first
                  | (refine pt_pure (v := ?_) (by rfl) (fun w1 => ?_) ?_
                     rotate_left
                     · go_simp <;> with_reducible rfl
                     simp only [Act.put, List.setIfInBounds_toArray, List.set_cons_zero, List.set_cons_succ])
                  | (refine pt_off (by rfl) ?_
                     simp only [Act.put, List.setIfInBounds_toArray, List.set_cons_zero, List.set_cons_succ])
                  | (refine pt_load_off (by rfl) ?_
                     simp only [Act.put, List.setIfInBounds_toArray, List.set_cons_zero, List.set_cons_succ])
                  | (refine pt_load (v := ?_) (by rfl) (fun w1 hw1 => ?_) ?_
                     rotate_left
                     · (skip
                        clear hw1
                        go_simp <;> with_reducible rfl)
                     simp only [Act.put, List.setIfInBounds_toArray, List.set_cons_zero, List.set_cons_succ]))
                refine pt_eff ?_
                have e0 := cell_blk HZ.out 0
                have e1 := cell_blk HZ.out 1
                have e2 := cell_blk HZ.out 2
                have e3 := cell_blk HZ.out 3
                have e4 := cell_blk HZ.out 4
                simp only [List.getElem?_toArray, List.getElem?_cons_zero, List.getElem?_cons_succ] at e0 e1 e2 e3 e4
                have g0 := free_blk HZ.out 0
                have g1 := free_blk HZ.out 1
                have g2 := free_blk HZ.out 2
                have g3 := free_blk HZ.out 3
                have g4 := free_blk HZ.out 4
                have zl := blk_lt HZ.out
                obtain ⟨V2, hV2, hk2, hm2⟩ := rep_store HZ.out (.slice KZ ne2 kz) (.int .i64 (en2 : Int)) (.int .i64 (ne2 : Int)) (.int .i64 (eb2 : Int)) (.bool cm2)
                have HV2 := Lib.hid hV2
                have HREP := Lib.hid hk2
                have HRK := Lib.hid (rd_store HK.out HZ.out hm2)
                have HB := Lib.hid (HB.out.trans (hm2.below w5.heap.size HB.out.size (fun k hk e => by have := HYW.out; omega)))
                clear hV2 hk2 hm2
                go_wp2_with fail
                rw [← HV2.out]
                clear e0 e1 e2 e3 e4 g0 g1 g2 g3 g4 zl
                refine pt_on (fun u h => h) (HSS.out _ HB.out) ?_
                repeat (first
                  | (refine pt_pure (v := ?_) (by rfl) (fun w1 => ?_) ?_
                     rotate_left
                     · go_simp <;> with_reducible rfl
                     simp only [Act.put, List.setIfInBounds_toArray, List.set_cons_zero, List.set_cons_succ])
                  | (refine pt_off (by rfl) ?_
                     simp only [Act.put, List.setIfInBounds_toArray, List.set_cons_zero, List.set_cons_succ])
                  | (refine pt_load_off (by rfl) ?_
                     simp only [Act.put, List.setIfInBounds_toArray, List.set_cons_zero, List.set_cons_succ])
                  | (refine pt_load (v := ?_) (by rfl) (fun w1 hw1 => ?_) ?_
                     rotate_left
                     · (skip
                        clear hw1
                        go_simp <;> with_reducible rfl)
                     simp only [Act.put, List.setIfInBounds_toArray, List.set_cons_zero, List.set_cons_succ]))
                refine pt_end ?_
                go_wp2_with fail
                go_meet
                exact ⟨HB.out, _, _, _, rfl, rfl, HREP.out, HRK.out⟩
            · go_wp2_with fail
              obtain ⟨Y, hY⟩ : ∃ Z, Z = vw.heap.size := ⟨_, rfl⟩
              obtain ⟨u, hu⟩ : ∃ u, u = vw.alloc (Obj.cells #[.slice none 0 0, .int .i64 0, .int .i64 0, .int .i64 0, .bool false] 60) := ⟨_, rfl⟩
              rw [← hu, ← hY]
              have hb : Below vw.heap.size vw u := by rw [hu]; exact (Below.refl _ _).alloc (Nat.le_refl _) _
              have hk : u.heap[Y]? = some (.cells #[.slice none 0 0, .int .i64 0, .int .i64 0, .int .i64 0, .bool false] 60 (0, 0)) := by rw [hu, hY]; exact heap_alloc_new vw _
              have HYW : Hid (w5.heap.size ≤ Y) := Lib.hid (by rw [hY]; exact HB.out.size)
              have HZ := Lib.hid hk
              have HB := Lib.hid (below_at HB.out hb)
              (try have HC := Lib.hid (blk_stepW HC.out hb))
              (try have HA := Lib.hid (HA.out.below hb (Nat.le_refl _)))
              (try have HK := Lib.hid (HK.out.below hb (Nat.le_refl _)))
              clear hb hk hu hY
              rename World => vw
              refine pt_on (fun u h => h) (HSS.out _ HB.out) ?_
              refine pt_eff ?_
              have HR := Lib.hid (HORD.out vw HB.out)
              have HE := Lib.hid (row_empty (sz := 1) HC.out)
              go_wp2_with (at_builtin; refine wpList_append_copy (by rfl) _ _ _ (by rfl) 5 i8 _ 1 1 Tryz.underlying43 hi8 h80 h81 h82 rfl (by omega) ⟨E, 0, none⟩ 0 [] (by rfl) HE.out B nt cap2 (ts.map fun (b : Nat) => Value.int .u8 (b : Int)) (by rfl) HR.out (by unfold maxLen; omega) (by omega) ?_; intro g7 o7 cap7 u hown hb hgz)
              rw [Nat.zero_add, List.nil_append] at hown
              have HA := Lib.hid hown.rd
              have HB := Lib.hid (below_at HB.out hb)
              (try have HZ := Lib.hid (blk_stepW HZ.out hb))
              clear hown hb hgz HR HE
              rename World => vw
              refine pt_on (fun u h => h) (HSS.out _ HB.out) ?_
              refine pt_eff ?_
              go_wp2_with fail
              refine (HEX.out _ HB.out _ _ HA.out).mono ?_
              rintro y u ⟨⟨KZ, kz, rfl, hrk⟩, hb⟩
              have HK := Lib.hid hrk
              have HB := Lib.hid (below_at HB.out hb)
              (try have HZ := Lib.hid (blk_stepW HZ.out hb))
              clear hrk hb
              rename World => vw
              go_wp2_with fail
              refine pt_on (fun u h => h) (HSS.out _ HB.out) ?_
              repeat (first
                | (refine pt_pure (v := ?_) (by rfl) (fun w1 => ?_) ?_
                   rotate_left
                   · go_simp <;> with_reducible rfl
                   simp only [Act.put, List.setIfInBounds_toArray, List.set_cons_zero, List.set_cons_succ])
                | (refine pt_off (by rfl) ?_
                   simp only [Act.put, List.setIfInBounds_toArray, List.set_cons_zero, List.set_cons_succ])
                | (refine pt_load_off (by rfl) ?_
                   simp only [Act.put, List.setIfInBounds_toArray, List.set_cons_zero, List.set_cons_succ])
                | (refine pt_load (v := ?_) (by rfl) (fun w1 hw1 => ?_) ?_
                   rotate_left
                   · (skip
                      clear hw1
                      go_simp <;> with_reducible rfl)
                   simp only [Act.put, List.setIfInBounds_toArray, List.set_cons_zero, List.set_cons_succ]))
              refine pt_eff ?_
              have e0 := cell_blk HZ.out 0
              have e1 := cell_blk HZ.out 1
              have e2 := cell_blk HZ.out 2
              have e3 := cell_blk HZ.out 3
              have e4 := cell_blk HZ.out 4
              simp only [List.getElem?_toArray, List.getElem?_cons_zero, List.getElem?_cons_succ] at e0 e1 e2 e3 e4
              have g0 := free_blk HZ.out 0
              have g1 := free_blk HZ.out 1
              have g2 := free_blk HZ.out 2
              have g3 := free_blk HZ.out 3
              have g4 := free_blk HZ.out 4
              have zl := blk_lt HZ.out
              obtain ⟨V2, hV2, hk2, hm2⟩ := rep_store HZ.out (.slice KZ ne2 kz) (.int .i64 (en2 : Int)) (.int .i64 (ne2 : Int)) (.int .i64 (eb2 : Int)) (.bool cm2)
              have HV2 := Lib.hid hV2
              have HREP := Lib.hid hk2
              have HRK := Lib.hid (rd_store HK.out HZ.out hm2)
              have HB := Lib.hid (HB.out.trans (hm2.below w5.heap.size HB.out.size (fun k hk e => by have := HYW.out; omega)))
              clear hV2 hk2 hm2
              go_wp2_with fail
              rw [← HV2.out]
              clear e0 e1 e2 e3 e4 g0 g1 g2 g3 g4 zl
              refine pt_on (fun u h => h) (HSS.out _ HB.out) ?_
              repeat (first
                | (refine pt_pure (v := ?_) (by rfl) (fun w1 => ?_) ?_
                   rotate_left
                   · go_simp <;> with_reducible rfl
                   simp only [Act.put, List.setIfInBounds_toArray, List.set_cons_zero, List.set_cons_succ])
                | (refine pt_off (by rfl) ?_
                   simp only [Act.put, List.setIfInBounds_toArray, List.set_cons_zero, List.set_cons_succ])
                | (refine pt_load_off (by rfl) ?_
                   simp only [Act.put, List.setIfInBounds_toArray, List.set_cons_zero, List.set_cons_succ])
                | (refine pt_load (v := ?_) (by rfl) (fun w1 hw1 => ?_) ?_
                   rotate_left
                   · (skip
                      clear hw1
                      go_simp <;> with_reducible rfl)
                   simp only [Act.put, List.setIfInBounds_toArray, List.set_cons_zero, List.set_cons_succ]))
              refine pt_end ?_
              go_wp2_with fail
              go_meet
              exact ⟨HB.out, _, _, _, rfl, rfl, HREP.out, HRK.out⟩
          · go_wp2_with fail
            obtain ⟨Y, hY⟩ : ∃ Z, Z = vw.heap.size := ⟨_, rfl⟩
            obtain ⟨u, hu⟩ : ∃ u, u = vw.alloc (Obj.cells #[.slice none 0 0, .int .i64 0, .int .i64 0, .int .i64 0, .bool false] 60) := ⟨_, rfl⟩
            rw [← hu, ← hY]
            have hb : Below vw.heap.size vw u := by rw [hu]; exact (Below.refl _ _).alloc (Nat.le_refl _) _
            have hk : u.heap[Y]? = some (.cells #[.slice none 0 0, .int .i64 0, .int .i64 0, .int .i64 0, .bool false] 60 (0, 0)) := by rw [hu, hY]; exact heap_alloc_new vw _
            have HYW : Hid (w5.heap.size ≤ Y) := Lib.hid (by rw [hY]; exact HB.out.size)
            have HZ := Lib.hid hk
            have HB := Lib.hid (below_at HB.out hb)
            (try have HC := Lib.hid (blk_stepW HC.out hb))
            (try have HA := Lib.hid (HA.out.below hb (Nat.le_refl _)))
            (try have HK := Lib.hid (HK.out.below hb (Nat.le_refl _)))
            clear hb hk hu hY
            rename World => vw
            refine pt_on (fun u h => h) (HSS.out _ HB.out) ?_
            refine pt_eff ?_
            go_wp2_with fail
            obtain ⟨E, hE⟩ : ∃ Z, Z = vw.heap.size := ⟨_, rfl⟩
            obtain ⟨u, hu⟩ : ∃ u, u = vw.alloc (Obj.cells #[] 5) := ⟨_, rfl⟩
            rw [← hu, ← hE]
            have hb : Below vw.heap.size vw u := by rw [hu]; exact (Below.refl _ _).alloc (Nat.le_refl _) _
            have hk : u.heap[E]? = some (.cells #[] 5 (0, 0)) := by rw [hu, hE]; exact heap_alloc_new vw _
            have HC := Lib.hid hk
            have HB := Lib.hid (below_at HB.out hb)
            (try have HZ := Lib.hid (blk_stepW HZ.out hb))
            clear hb hk hu hE
            rename World => vw
            refine pt_on (fun u h => h) (HSS.out _ HB.out) ?_
            refine pt_eff ?_
            have HR := Lib.hid (HORD.out vw HB.out)
            have HE := Lib.hid (row_empty (sz := 1) HC.out)
            go_wp2_with (at_builtin; refine wpList_append_copy (by rfl) _ _ _ (by rfl) 5 i8 _ 1 1 Tryz.underlying43 hi8 h80 h81 h82 rfl (by omega) ⟨E, 0, none⟩ 0 [] (by rfl) HE.out B nt cap2 (ts.map fun (b : Nat) => Value.int .u8 (b : Int)) (by rfl) HR.out (by unfold maxLen; omega) (by omega) ?_; intro g7 o7 cap7 u hown hb hgz)
            rw [Nat.zero_add, List.nil_append] at hown
            have HA := Lib.hid hown.rd
            have HB := Lib.hid (below_at HB.out hb)
            (try have HZ := Lib.hid (blk_stepW HZ.out hb))
            clear hown hb hgz HR HE
            rename World => vw
            refine pt_on (fun u h => h) (HSS.out _ HB.out) ?_
            refine pt_eff ?_
            go_wp2_with fail
            refine (HEX.out _ HB.out _ _ HA.out).mono ?_
            rintro y u ⟨⟨KZ, kz, rfl, hrk⟩, hb⟩
            have HK := Lib.hid hrk
            have HB := Lib.hid (below_at HB.out hb)
            (try have HZ := Lib.hid (blk_stepW HZ.out hb))
            clear hrk hb
            rename World => vw
            go_wp2_with fail
            refine pt_on (fun u h => h) (HSS.out _ HB.out) ?_
            repeat (first
              | (refine pt_pure (v := ?_) (by rfl) (fun w1 => ?_) ?_
                 rotate_left
                 · go_simp <;> with_reducible rfl
                 simp only [Act.put, List.setIfInBounds_toArray, List.set_cons_zero, List.set_cons_succ])
              | (refine pt_off (by rfl) ?_
                 simp only [Act.put, List.setIfInBounds_toArray, List.set_cons_zero, List.set_cons_succ])
              | (refine pt_load_off (by rfl) ?_
                 simp only [Act.put, List.setIfInBounds_toArray, List.set_cons_zero, List.set_cons_succ])
              | (refine pt_load (v := ?_) (by rfl) (fun w1 hw1 => ?_) ?_
                 rotate_left
                 · (skip
                    clear hw1
                    go_simp <;> with_reducible rfl)
                 simp only [Act.put, List.setIfInBounds_toArray, List.set_cons_zero, List.set_cons_succ]))
            refine pt_eff ?_
            have e0 := cell_blk HZ.out 0
            have e1 := cell_blk HZ.out 1
            have e2 := cell_blk HZ.out 2
            have e3 := cell_blk HZ.out 3
            have e4 := cell_blk HZ.out 4
            simp only [List.getElem?_toArray, List.getElem?_cons_zero, List.getElem?_cons_succ] at e0 e1 e2 e3 e4
            have g0 := free_blk HZ.out 0
            have g1 := free_blk HZ.out 1
            have g2 := free_blk HZ.out 2
            have g3 := free_blk HZ.out 3
            have g4 := free_blk HZ.out 4
            have zl := blk_lt HZ.out
            obtain ⟨V2, hV2, hk2, hm2⟩ := rep_store HZ.out (.slice KZ ne2 kz) (.int .i64 (en2 : Int)) (.int .i64 (ne2 : Int)) (.int .i64 (eb2 : Int)) (.bool cm2)
            have HV2 := Lib.hid hV2
            have HREP := Lib.hid hk2
            have HRK := Lib.hid (rd_store HK.out HZ.out hm2)
            have HB := Lib.hid (HB.out.trans (hm2.below w5.heap.size HB.out.size (fun k hk e => by have := HYW.out; omega)))
            clear hV2 hk2 hm2
            go_wp2_with fail
            rw [← HV2.out]
            clear e0 e1 e2 e3 e4 g0 g1 g2 g3 g4 zl
            refine pt_on (fun u h => h) (HSS.out _ HB.out) ?_
            repeat (first
              | (refine pt_pure (v := ?_) (by rfl) (fun w1 => ?_) ?_
                 rotate_left
                 · go_simp <;> with_reducible rfl
                 simp only [Act.put, List.setIfInBounds_toArray, List.set_cons_zero, List.set_cons_succ])
              | (refine pt_off (by rfl) ?_
                 simp only [Act.put, List.setIfInBounds_toArray, List.set_cons_zero, List.set_cons_succ])
              | (refine pt_load_off (by rfl) ?_
                 simp only [Act.put, List.setIfInBounds_toArray, List.set_cons_zero, List.set_cons_succ])
              | (refine pt_load (v := ?_) (by rfl) (fun w1 hw1 => ?_) ?_
                 rotate_left
                 · (skip
                    clear hw1
                    go_simp <;> with_reducible rfl)
                 simp only [Act.put, List.setIfInBounds_toArray, List.set_cons_zero, List.set_cons_succ]))
            refine pt_end ?_
            go_wp2_with fail
            go_meet
            exact ⟨HB.out, _, _, _, rfl, rfl, HREP.out, HRK.out⟩
        case rest =>
          obtain ⟨bz, Y2, K2, kc2, rfl, rfl, hrep2, hrk2⟩ := hcut
          generalize wc = w6 at *
          have HREP2 := Lib.hid hrep2
          have HRK2 := Lib.hid hrk2
          have HBZ2 := Lib.hid bz
          have HBY2 := Lib.hid (below_at HBZ1.out bz)
          clear hrep2 hrk2 bz HSS HORD HEX eW
          have HSS := Lib.hid (fun v (hv : Below w6.heap.size w6 v) => HSS0.out v (below_at HBY2.out hv))
          have HORD := Lib.hid (fun v (hv : Below w6.heap.size w6 v) => HORD0.out v (below_at HBY2.out hv))
          have HEX := Lib.hid (fun v (hv : Below w6.heap.size w6 v) => HEX1.out v (below_at HBY2.out hv))
          go_upto_region 6 with fail
          go_cut [15, 16] (fun v9 v10 wz => Below w6.heap.size w6 wz ∧ ∃ Y KA' kc', v9 = .pointer (some ⟨Y, 0, none⟩) ∧ v10 = .int .i64 0 ∧ wz.heap[Y]? = some (.cells #[.slice KA' ne1 kc', .int .i64 (en1 : Int), .int .i64 (ne1 : Int), .int .i64 (eb1 : Int), .bool cm1] 60 (0, 0)) ∧ Rd wz 1 KA' ne1 (ke1.map sv))
          case first =>
            refine wp_region_pt (by kernel_rfl) (fun u => (u.cell? ⟨X, 0, none⟩ = some (.int .i64 p.vars) ∧ u.cell? ⟨X, 1, none⟩ = some (.int .i64 p.mtx) ∧ u.cell? ⟨X, 2, none⟩ = some (.slice A p.code.length cap) ∧ X < u.heap.size)) [] (.cons 0 .load (.cons 1 .pure (.cons 2 .pure (.cons 4 .pure (.fork 3 (.fork 5 (.fork 6 (.cons 7 .pure (.cons 8 .pure (.cons 9 .pure (.cons 10 .eff (.cons 11 .eff (.cons 12 .pure .nil)))))) 10 (.cons 6 .eff (.cons 7 .pure (.cons 8 .pure (.cons 9 .pure (.cons 11 .eff (.cons 12 .pure .nil))))))) 10 (.cons 5 .eff (.cons 6 .eff (.cons 7 .pure (.cons 8 .pure (.cons 9 .pure (.cons 11 .eff (.cons 12 .pure .nil)))))))) 10 (.cons 3 .eff (.cons 5 .eff (.cons 6 .eff (.cons 7 .pure (.cons 8 .pure (.cons 9 .pure (.cons 11 .eff (.cons 12 .pure .nil))))))))))))) (by simp only [PT.map, List.getElem?_toArray, List.getElem?_cons_succ, List.getElem?_cons_zero]; rfl) (by kernel_rfl) (fun _ _ d _ _ h => by cases d <;> exact h) (HSS.out w6.drew (Below.refl w6.heap.size w6).drew) ?_
            have HB := Lib.hid (Below.refl w6.heap.size w6).drew
            obtain ⟨vw, hv⟩ : ∃ vw, vw = w6.drew := ⟨_, rfl⟩
            rw [← hv] at HB ⊢
            clear hv
            repeat (first
              | (refine pt_pure (v := ?_) (by rfl) (fun w1 => ?_) ?_
                 rotate_left
                 · go_simp <;> with_reducible rfl
                 simp only [Act.put, List.setIfInBounds_toArray, List.set_cons_zero, List.set_cons_succ])
              | (refine pt_off (by rfl) ?_
                 simp only [Act.put, List.setIfInBounds_toArray, List.set_cons_zero, List.set_cons_succ])
              | (refine pt_load_off (by rfl) ?_
                 simp only [Act.put, List.setIfInBounds_toArray, List.set_cons_zero, List.set_cons_succ])
              | (refine pt_load (v := ?_) (by rfl) (fun w1 hw1 => ?_) ?_
                 rotate_left
                 · (have qq := hw1
                    obtain ⟨x0, x1, x2, xl⟩ := qq
                    clear hw1
                    go_simp <;> with_reducible rfl)
                 simp only [Act.put, List.setIfInBounds_toArray, List.set_cons_zero, List.set_cons_succ]))
            refine pt_fork ?_ ?_
            · go_wp2_with fail
              obtain ⟨E, hE⟩ : ∃ Z, Z = vw.heap.size := ⟨_, rfl⟩
              obtain ⟨u, hu⟩ : ∃ u, u = vw.alloc (Obj.cells #[] 5) := ⟨_, rfl⟩
              rw [← hu, ← hE]
              have hb : Below vw.heap.size vw u := by rw [hu]; exact (Below.refl _ _).alloc (Nat.le_refl _) _
              have hk : u.heap[E]? = some (.cells #[] 5 (0, 0)) := by rw [hu, hE]; exact heap_alloc_new vw _
              have HC := Lib.hid hk
              have HB := Lib.hid (below_at HB.out hb)
              (try have HZ := Lib.hid (blk_stepW HZ.out hb))
              clear hb hk hu hE
              rename World => vw
              refine pt_on (fun u h => h) (HSS.out _ HB.out) ?_
              refine pt_fork ?_ ?_
              · have HR := Lib.hid (HORD.out vw HB.out)
                have HE := Lib.hid (row_empty (sz := 1) HC.out)
                go_wp2_with (at_builtin; refine wpList_append_copy (by rfl) _ _ _ (by rfl) 5 i8 _ 1 1 Tryz.underlying43 hi8 h80 h81 h82 rfl (by omega) ⟨E, 0, none⟩ 0 [] (by rfl) HE.out B nt cap2 (ts.map fun (b : Nat) => Value.int .u8 (b : Int)) (by rfl) HR.out (by unfold maxLen; omega) (by omega) ?_; intro g7 o7 cap7 u hown hb hgz)
                rw [Nat.zero_add, List.nil_append] at hown
                have HA := Lib.hid hown.rd
                have HB := Lib.hid (below_at HB.out hb)
                (try have HZ := Lib.hid (blk_stepW HZ.out hb))
                clear hown hb hgz HR HE
                rename World => vw
                refine pt_on (fun u h => h) (HSS.out _ HB.out) ?_
                refine pt_fork ?_ ?_
                · go_wp2_with fail
                  refine (HEX.out _ HB.out _ _ HA.out).mono ?_
                  rintro y u ⟨⟨KZ, kz, rfl, hrk⟩, hb⟩
                  have HK := Lib.hid hrk
                  have HB := Lib.hid (below_at HB.out hb)
                  (try have HZ := Lib.hid (blk_stepW HZ.out hb))
                  clear hrk hb
                  rename World => vw
                  go_wp2_with fail
                  refine pt_on (fun u h => h) (HSS.out _ HB.out) ?_
                  repeat (first
                    | (refine pt_pure (v := ?_) (by rfl) (fun w1 => ?_) ?_
                       rotate_left
                       · go_simp <;> with_reducible rfl
                       simp only [Act.put, List.setIfInBounds_toArray, List.set_cons_zero, List.set_cons_succ])
                    | (refine pt_off (by rfl) ?_
                       simp only [Act.put, List.setIfInBounds_toArray, List.set_cons_zero, List.set_cons_succ])
                    | (refine pt_load_off (by rfl) ?_
                       simp only [Act.put, List.setIfInBounds_toArray, List.set_cons_zero, List.set_cons_succ])
                    | (refine pt_load (v := ?_) (by rfl) (fun w1 hw1 => ?_) ?_
                       rotate_left
                       · (skip
                          clear hw1
                          go_simp <;> with_reducible rfl)
                       simp only [Act.put, List.setIfInBounds_toArray, List.set_cons_zero, List.set_cons_succ]))
                  refine pt_eff ?_
                  go_wp2_with fail
                  obtain ⟨Y, hY⟩ : ∃ Z, Z = vw.heap.size := ⟨_, rfl⟩
                  obtain ⟨u, hu⟩ : ∃ u, u = vw.alloc (Obj.cells #[.slice none 0 0, .int .i64 0, .int .i64 0, .int .i64 0, .bool false] 60) := ⟨_, rfl⟩
                  rw [← hu, ← hY]
                  have hb : Below vw.heap.size vw u := by rw [hu]; exact (Below.refl _ _).alloc (Nat.le_refl _) _
                  have hk : u.heap[Y]? = some (.cells #[.slice none 0 0, .int .i64 0, .int .i64 0, .int .i64 0, .bool false] 60 (0, 0)) := by rw [hu, hY]; exact heap_alloc_new vw _
                  have HYW : Hid (w6.heap.size ≤ Y) := Lib.hid (by rw [hY]; exact HB.out.size)
                  have HZ := Lib.hid hk
                  have HB := Lib.hid (below_at HB.out hb)
                  (try have HC := Lib.hid (blk_stepW HC.out hb))
                  (try have HA := Lib.hid (HA.out.below hb (Nat.le_refl _)))
                  (try have HK := Lib.hid (HK.out.below hb (Nat.le_refl _)))
                  clear hb hk hu hY
                  rename World => vw
                  refine pt_on (fun u h => h) (HSS.out _ HB.out) ?_
                  refine pt_eff ?_
                  have e0 := cell_blk HZ.out 0
                  have e1 := cell_blk HZ.out 1
                  have e2 := cell_blk HZ.out 2
                  have e3 := cell_blk HZ.out 3
                  have e4 := cell_blk HZ.out 4
                  simp only [List.getElem?_toArray, List.getElem?_cons_zero, List.getElem?_cons_succ] at e0 e1 e2 e3 e4
                  have g0 := free_blk HZ.out 0
                  have g1 := free_blk HZ.out 1
                  have g2 := free_blk HZ.out 2
                  have g3 := free_blk HZ.out 3
                  have g4 := free_blk HZ.out 4
                  have zl := blk_lt HZ.out
                  obtain ⟨V2, hV2, hk2, hm2⟩ := rep_store HZ.out (.slice KZ ne1 kz) (.int .i64 (en1 : Int)) (.int .i64 (ne1 : Int)) (.int .i64 (eb1 : Int)) (.bool cm1)
                  have HV2 := Lib.hid hV2
                  have HREP := Lib.hid hk2
                  have HRK := Lib.hid (rd_store HK.out HZ.out hm2)
                  have HB := Lib.hid (HB.out.trans (hm2.below w6.heap.size HB.out.size (fun k hk e => by have := HYW.out; omega)))
                  clear hV2 hk2 hm2
                  go_wp2_with fail
                  rw [← HV2.out]
                  clear e0 e1 e2 e3 e4 g0 g1 g2 g3 g4 zl
                  refine pt_on (fun u h => h) (HSS.out _ HB.out) ?_
                  repeat (first
                    | (refine pt_pure (v := ?_) (by rfl) (fun w1 => ?_) ?_
                       rotate_left
                       · go_simp <;> with_reducible rfl
                       simp only [Act.put, List.setIfInBounds_toArray, List.set_cons_zero, List.set_cons_succ])
                    | (refine pt_off (by rfl) ?_
                       simp only [Act.put, List.setIfInBounds_toArray, List.set_cons_zero, List.set_cons_succ])
                    | (refine pt_load_off (by rfl) ?_
                       simp only [Act.put, List.setIfInBounds_toArray, List.set_cons_zero, List.set_cons_succ])
                    | (refine pt_load (v := ?_) (by rfl) (fun w1 hw1 => ?_) ?_
                       rotate_left
                       · (skip
                          clear hw1
                          go_simp <;> with_reducible rfl)
                       simp only [Act.put, List.setIfInBounds_toArray, List.set_cons_zero, List.set_cons_succ]))
                  refine pt_end ?_
                  go_wp2_with fail
                  go_meet
                  exact ⟨HB.out, _, _, _, rfl, rfl, HREP.out, HRK.out⟩
                · go_wp2_with fail
                  obtain ⟨Y, hY⟩ : ∃ Z, Z = vw.heap.size := ⟨_, rfl⟩
                  obtain ⟨u, hu⟩ : ∃ u, u = vw.alloc (Obj.cells #[.slice none 0 0, .int .i64 0, .int .i64 0, .int .i64 0, .bool false] 60) := ⟨_, rfl⟩
                  rw [← hu, ← hY]
                  have hb : Below vw.heap.size vw u := by rw [hu]; exact (Below.refl _ _).alloc (Nat.le_refl _) _
                  have hk : u.heap[Y]? = some (.cells #[.slice none 0 0, .int .i64 0, .int .i64 0, .int .i64 0, .bool false] 60 (0, 0)) := by rw [hu, hY]; exact heap_alloc_new vw _
                  have HYW : Hid (w6.heap.size ≤ Y) := Lib.hid (by rw [hY]; exact HB.out.size)
                  have HZ := Lib.hid hk
                  have HB := Lib.hid (below_at HB.out hb)
                  (try have HC := Lib.hid (blk_stepW HC.out hb))
                  (try have HA := Lib.hid (HA.out.below hb (Nat.le_refl _)))
                  (try have HK := Lib.hid (HK.out.below hb (Nat.le_refl _)))
                  clear hb hk hu hY
                  rename World => vw
                  refine pt_on (fun u h => h) (HSS.out _ HB.out) ?_
                  refine pt_eff ?_
                  go_wp2_with fail
                  refine (HEX.out _ HB.out _ _ HA.out).mono ?_
                  rintro y u ⟨⟨KZ, kz, rfl, hrk⟩, hb⟩
                  have HK := Lib.hid hrk
                  have HB := Lib.hid (below_at HB.out hb)
                  (try have HZ := Lib.hid (blk_stepW HZ.out hb))
                  clear hrk hb
                  rename World => vw
                  go_wp2_with fail
                  refine pt_on (fun u h => h) (HSS.out _ HB.out) ?_
                  repeat (first
                    | (refine pt_pure (v := ?_) (by rfl) (fun w1 => ?_) ?_
                       rotate_left
                       · go_simp <;> with_reducible rfl
                       simp only [Act.put, List.setIfInBounds_toArray, List.set_cons_zero, List.set_cons_succ])
                    | (refine pt_off (by rfl) ?_
                       simp only [Act.put, List.setIfInBounds_toArray, List.set_cons_zero, List.set_cons_succ])
                    | (refine pt_load_off (by rfl) ?_
                       simp only [Act.put, List.setIfInBounds_toArray, List.set_cons_zero, List.set_cons_succ])
                    | (refine pt_load (v := ?_) (by rfl) (fun w1 hw1 => ?_) ?_
                       rotate_left
                       · (skip
                          clear hw1
                          go_simp <;> with_reducible rfl)
                       simp only [Act.put, List.setIfInBounds_toArray, List.set_cons_zero, List.set_cons_succ]))
                  refine pt_eff ?_
                  have e0 := cell_blk HZ.out 0
                  have e1 := cell_blk HZ.out 1
                  have e2 := cell_blk HZ.out 2
                  have e3 := cell_blk HZ.out 3
                  have e4 := cell_blk HZ.out 4
                  simp only [List.getElem?_toArray, List.getElem?_cons_zero, List.getElem?_cons_succ] at e0 e1 e2 e3 e4
                  have g0 := free_blk HZ.out 0
                  have g1 := free_blk HZ.out 1
                  have g2 := free_blk HZ.out 2
                  have g3 := free_blk HZ.out 3
                  have g4 := free_blk HZ.out 4
                  have zl := blk_lt HZ.out
                  obtain ⟨V2, hV2, hk2, hm2⟩ := rep_store HZ.out (.slice KZ ne1 kz) (.int .i64 (en1 : Int)) (.int .i64 (ne1 : Int)) (.int .i64 (eb1 : Int)) (.bool cm1)
                  have HV2 := Lib.hid hV2
                  have HREP := Lib.hid hk2
                  have HRK := Lib.hid (rd_store HK.out HZ.out hm2)
                  have HB := Lib.hid (HB.out.trans (hm2.below w6.heap.size HB.out.size (fun k hk e => by have := HYW.out; omega)))
                  clear hV2 hk2 hm2
                  go_wp2_with fail
                  rw [← HV2.out]
                  clear e0 e1 e2 e3 e4 g0 g1 g2 g3 g4 zl
                  refine pt_on (fun u h => h) (HSS.out _ HB.out) ?_
                  repeat (first
                    | (refine pt_pure (v := ?_) (by rfl) (fun w1 => ?_) ?_
                       rotate_left
                       · go_simp <;> with_reducible rfl
                       simp only [Act.put, List.setIfInBounds_toArray, List.set_cons_zero, List.set_cons_succ])
                    | (refine pt_off (by rfl) ?_
                       simp only [Act.put, List.setIfInBounds_toArray, List.set_cons_zero, List.set_cons_succ])
                    | (refine pt_load_off (by rfl) ?_
                       simp only [Act.put, List.setIfInBounds_toArray, List.set_cons_zero, List.set_cons_succ])
                    | (refine pt_load (v := ?_) (by rfl) (fun w1 hw1 => ?_) ?_
                       rotate_left
                       · (skip
                          clear hw1
                          go_simp <;> with_reducible rfl)
                       simp only [Act.put, List.setIfInBounds_toArray, List.set_cons_zero, List.set_cons_succ]))
                  refine pt_end ?_
                  go_wp2_with fail
                  go_meet
                  exact ⟨HB.out, _, _, _, rfl, rfl, HREP.out, HRK.out⟩
              · go_wp2_with fail
                obtain ⟨Y, hY⟩ : ∃ Z, Z = vw.heap.size := ⟨_, rfl⟩
                obtain ⟨u, hu⟩ : ∃ u, u = vw.alloc (Obj.cells #[.slice none 0 0, .int .i64 0, .int .i64 0, .int .i64 0, .bool false] 60) := ⟨_, rfl⟩
                rw [← hu, ← hY]
                have hb : Below vw.heap.size vw u := by rw [hu]; exact (Below.refl _ _).alloc (Nat.le_refl _) _
                have hk : u.heap[Y]? = some (.cells #[.slice none 0 0, .int .i64 0, .int .i64 0, .int .i64 0, .bool false] 60 (0, 0)) := by rw [hu, hY]; exact heap_alloc_new vw _
                have HYW : Hid (w6.heap.size ≤ Y) := Lib.hid (by rw [hY]; exact HB.out.size)
                have HZ := Lib.hid hk
                have HB := Lib.hid (below_at HB.out hb)
                (try have HC := Lib.hid (blk_stepW HC.out hb))
                (try have HA := Lib.hid (HA.out.below hb (Nat.le_refl _)))
                (try have HK := Lib.hid (HK.out.below hb (Nat.le_refl _)))
                clear hb hk hu hY
                rename World => vw
                refine pt_on (fun u h => h) (HSS.out _ HB.out) ?_
                refine pt_eff ?_
                have HR := Lib.hid (HORD.out vw HB.out)
                have HE := Lib.hid (row_empty (sz := 1) HC.out)
                go_wp2_with (at_builtin; refine wpList_append_copy (by rfl) _ _ _ (by rfl) 5 i8 _ 1 1 Tryz.underlying43 hi8 h80 h81 h82 rfl (by omega) ⟨E, 0, none⟩ 0 [] (by rfl) HE.out B nt cap2 (ts.map fun (b : Nat) => Value.int .u8 (b : Int)) (by rfl) HR.out (by unfold maxLen; omega) (by omega) ?_; intro g7 o7 cap7 u hown hb hgz)
                rw [Nat.zero_add, List.nil_append] at hown
                have HA := Lib.hid hown.rd
                have HB := Lib.hid (below_at HB.out hb)
                (try have HZ := Lib.hid (blk_stepW HZ.out hb))
                clear hown hb hgz HR HE
                rename World => vw
                refine pt_on (fun u h => h) (HSS.out _ HB.out) ?_
                refine pt_eff ?_
                go_wp2_with fail
                refine (HEX.out _ HB.out _ _ HA.out).mono ?_
                rintro y u ⟨⟨KZ, kz, rfl, hrk⟩, hb⟩
                have HK := Lib.hid hrk
                have HB := Lib.hid (below_at HB.out hb)
                (try have HZ := Lib.hid (blk_stepW HZ.out hb))
                clear hrk hb
                rename World => vw
                go_wp2_with fail
                refine pt_on (fun u h => h) (HSS.out _ HB.out) ?_
                repeat (first
                  | (refine pt_pure (v := ?_) (by rfl) (fun w1 => ?_) ?_
                     rotate_left
                     · go_simp <;> with_reducible rfl
                     simp only [Act.put, List.setIfInBounds_toArray, List.set_cons_zero, List.set_cons_succ])
                  | (refine pt_off (by rfl) ?_
                     simp only [Act.put, List.setIfInBounds_toArray, List.set_cons_zero, List.set_cons_succ])
                  | (refine pt_load_off (by rfl) ?_
                     simp only [Act.put, List.setIfInBounds_toArray, List.set_cons_zero, List.set_cons_succ])
                  | (refine pt_load (v := ?_) (by rfl) (fun w1 hw1 => ?_) ?_
                     rotate_left
                     · (skip
                        clear hw1
                        go_simp <;> with_reducible rfl)
                     simp only [Act.put, List.setIfInBounds_toArray, List.set_cons_zero, List.set_cons_succ]))
                refine pt_eff ?_
                have e0 := cell_blk HZ.out 0
                have e1 := cell_blk HZ.out 1
                have e2 := cell_blk HZ.out 2
                have e3 := cell_blk HZ.out 3
                have e4 := cell_blk HZ.out 4
                simp only [List.getElem?_toArray, List.getElem?_cons_zero, List.getElem?_cons_succ] at e0 e1 e2 e3 e4
                have g0 := free_blk HZ.out 0
                have g1 := free_blk HZ.out 1
                have g2 := free_blk HZ.out 2
                have g3 := free_blk HZ.out 3
                have g4 := free_blk HZ.out 4
                have zl := blk_lt HZ.out
                obtain ⟨V2, hV2, hk2, hm2⟩ := rep_store HZ.out (.slice KZ ne1 kz) (.int .i64 (en1 : Int)) (.int .i64 (ne1 : Int)) (.int .i64 (eb1 : Int)) (.bool cm1)
                have HV2 := Lib.hid hV2
                have HREP := Lib.hid hk2
                have HRK := Lib.hid (rd_store HK.out HZ.out hm2)
                have HB := Lib.hid (HB.out.trans (hm2.below w6.heap.size HB.out.size (fun k hk e => by have := HYW.out; omega)))
                clear hV2 hk2 hm2
                go_wp2_with fail
                rw [← HV2.out]
                clear e0 e1 e2 e3 e4 g0 g1 g2 g3 g4 zl
                refine pt_on (fun u h => h) (HSS.out _ HB.out) ?_
                repeat (first
                  | (refine pt_pure (v := ?_) (by rfl) (fun w1 => ?_) ?_
                     rotate_left
                     · go_simp <;> with_reducible rfl
                     simp only [Act.put, List.setIfInBounds_toArray, List.set_cons_zero, List.set_cons_succ])
                  | (refine pt_off (by rfl) ?_
                     simp only [Act.put, List.setIfInBounds_toArray, List.set_cons_zero, List.set_cons_succ])
                  | (refine pt_load_off (by rfl) ?_
                     simp only [Act.put, List.setIfInBounds_toArray, List.set_cons_zero, List.set_cons_succ])
                  | (refine pt_load (v := ?_) (by rfl) (fun w1 hw1 => ?_) ?_
                     rotate_left
                     · (skip
                        clear hw1
                        go_simp <;> with_reducible rfl)
                     simp only [Act.put, List.setIfInBounds_toArray, List.set_cons_zero, List.set_cons_succ]))
                refine pt_end ?_
                go_wp2_with fail
                go_meet
                exact ⟨HB.out, _, _, _, rfl, rfl, HREP.out, HRK.out⟩
            · go_wp2_with fail
              obtain ⟨Y, hY⟩ : ∃ Z, Z = vw.heap.size := ⟨_, rfl⟩
              obtain ⟨u, hu⟩ : ∃ u, u = vw.alloc (Obj.cells #[.slice none 0 0, .int .i64 0, .int .i64 0, .int .i64 0, .bool false] 60) := ⟨_, rfl⟩
              rw [← hu, ← hY]
              have hb : Below vw.heap.size vw u := by rw [hu]; exact (Below.refl _ _).alloc (Nat.le_refl _) _
              have hk : u.heap[Y]? = some (.cells #[.slice none 0 0, .int .i64 0, .int .i64 0, .int .i64 0, .bool false] 60 (0, 0)) := by rw [hu, hY]; exact heap_alloc_new vw _
              have HYW : Hid (w6.heap.size ≤ Y) := Lib.hid (by rw [hY]; exact HB.out.size)
              have HZ := Lib.hid hk
              have HB := Lib.hid (below_at HB.out hb)
              (try have HC := Lib.hid (blk_stepW HC.out hb))
              (try have HA := Lib.hid (HA.out.below hb (Nat.le_refl _)))
              (try have HK := Lib.hid (HK.out.below hb (Nat.le_refl _)))
              clear hb hk hu hY
              rename World => vw
              refine pt_on (fun u h => h) (HSS.out _ HB.out) ?_
              refine pt_eff ?_
              go_wp2_with fail
              obtain ⟨E, hE⟩ : ∃ Z, Z = vw.heap.size := ⟨_, rfl⟩
              obtain ⟨u, hu⟩ : ∃ u, u = vw.alloc (Obj.cells #[] 5) := ⟨_, rfl⟩
              rw [← hu, ← hE]
              have hb : Below vw.heap.size vw u := by rw [hu]; exact (Below.refl _ _).alloc (Nat.le_refl _) _
              have hk : u.heap[E]? = some (.cells #[] 5 (0, 0)) := by rw [hu, hE]; exact heap_alloc_new vw _
              have HC := Lib.hid hk
              have HB := Lib.hid (below_at HB.out hb)
              (try have HZ := Lib.hid (blk_stepW HZ.out hb))
              clear hb hk hu hE
              rename World => vw
              refine pt_on (fun u h => h) (HSS.out _ HB.out) ?_
              refine pt_eff ?_
              have HR := Lib.hid (HORD.out vw HB.out)
              have HE := Lib.hid (row_empty (sz := 1) HC.out)
              go_wp2_with (at_builtin; refine wpList_append_copy (by rfl) _ _ _ (by rfl) 5 i8 _ 1 1 Tryz.underlying43 hi8 h80 h81 h82 rfl (by omega) ⟨E, 0, none⟩ 0 [] (by rfl) HE.out B nt cap2 (ts.map fun (b : Nat) => Value.int .u8 (b : Int)) (by rfl) HR.out (by unfold maxLen; omega) (by omega) ?_; intro g7 o7 cap7 u hown hb hgz)
              rw [Nat.zero_add, List.nil_append] at hown
              have HA := Lib.hid hown.rd
              have HB := Lib.hid (below_at HB.out hb)
              (try have HZ := Lib.hid (blk_stepW HZ.out hb))
              clear hown hb hgz HR HE
              rename World => vw
              refine pt_on (fun u h => h) (HSS.out _ HB.out) ?_
              refine pt_eff ?_
              go_wp2_with fail
              refine (HEX.out _ HB.out _ _ HA.out).mono ?_
              rintro y u ⟨⟨KZ, kz, rfl, hrk⟩, hb⟩
              have HK := Lib.hid hrk
              have HB := Lib.hid (below_at HB.out hb)
              (try have HZ := Lib.hid (blk_stepW HZ.out hb))
              clear hrk hb
              rename World => vw
              go_wp2_with fail
              refine pt_on (fun u h => h) (HSS.out _ HB.out) ?_
              repeat (first
                | (refine pt_pure (v := ?_) (by rfl) (fun w1 => ?_) ?_
                   rotate_left
                   · go_simp <;> with_reducible rfl
                   simp only [Act.put, List.setIfInBounds_toArray, List.set_cons_zero, List.set_cons_succ])
                | (refine pt_off (by rfl) ?_
                   simp only [Act.put, List.setIfInBounds_toArray, List.set_cons_zero, List.set_cons_succ])
                | (refine pt_load_off (by rfl) ?_
                   simp only [Act.put, List.setIfInBounds_toArray, List.set_cons_zero, List.set_cons_succ])
                | (refine pt_load (v := ?_) (by rfl) (fun w1 hw1 => ?_) ?_
                   rotate_left
                   · (skip
                      clear hw1
                      go_simp <;> with_reducible rfl)
                   simp only [Act.put, List.setIfInBounds_toArray, List.set_cons_zero, List.set_cons_succ]))
              refine pt_eff ?_
              have e0 := cell_blk HZ.out 0
              have e1 := cell_blk HZ.out 1
              have e2 := cell_blk HZ.out 2
              have e3 := cell_blk HZ.out 3
              have e4 := cell_blk HZ.out 4
              simp only [List.getElem?_toArray, List.getElem?_cons_zero, List.getElem?_cons_succ] at e0 e1 e2 e3 e4
              have g0 := free_blk HZ.out 0
              have g1 := free_blk HZ.out 1
              have g2 := free_blk HZ.out 2
              have g3 := free_blk HZ.out 3
              have g4 := free_blk HZ.out 4
              have zl := blk_lt HZ.out
              obtain ⟨V2, hV2, hk2, hm2⟩ := rep_store HZ.out (.slice KZ ne1 kz) (.int .i64 (en1 : Int)) (.int .i64 (ne1 : Int)) (.int .i64 (eb1 : Int)) (.bool cm1)
              have HV2 := Lib.hid hV2
              have HREP := Lib.hid hk2
              have HRK := Lib.hid (rd_store HK.out HZ.out hm2)
              have HB := Lib.hid (HB.out.trans (hm2.below w6.heap.size HB.out.size (fun k hk e => by have := HYW.out; omega)))
              clear hV2 hk2 hm2
              go_wp2_with fail
              rw [← HV2.out]
              clear e0 e1 e2 e3 e4 g0 g1 g2 g3 g4 zl
              refine pt_on (fun u h => h) (HSS.out _ HB.out) ?_
              repeat (first
                | (refine pt_pure (v := ?_) (by rfl) (fun w1 => ?_) ?_
                   rotate_left
                   · go_simp <;> with_reducible rfl
                   simp only [Act.put, List.setIfInBounds_toArray, List.set_cons_zero, List.set_cons_succ])
                | (refine pt_off (by rfl) ?_
                   simp only [Act.put, List.setIfInBounds_toArray, List.set_cons_zero, List.set_cons_succ])
                | (refine pt_load_off (by rfl) ?_
                   simp only [Act.put, List.setIfInBounds_toArray, List.set_cons_zero, List.set_cons_succ])
                | (refine pt_load (v := ?_) (by rfl) (fun w1 hw1 => ?_) ?_
                   rotate_left
                   · (skip
                      clear hw1
                      go_simp <;> with_reducible rfl)
                   simp only [Act.put, List.setIfInBounds_toArray, List.set_cons_zero, List.set_cons_succ]))
              refine pt_end ?_
              go_wp2_with fail
              go_meet
              exact ⟨HB.out, _, _, _, rfl, rfl, HREP.out, HRK.out⟩
          case rest =>
            obtain ⟨bz, Y3, K3, kc3, rfl, rfl, hrep3, hrk3⟩ := hcut
            generalize wc = w7 at *
            obtain ⟨gn, gr, hl1, hl2⟩ := HNUM.out
            have HK := Lib.hid (And.intro (HRK1.out.below (below_at HBZ2.out bz) (Nat.le_refl _)) (And.intro (HRK2.out.below bz (Nat.le_refl _)) hrk3))
            have HBF := Lib.hid (below_at HBY2.out bz)
            have hp1 := blk_stepW HREP1.out (below_at HBZ2.out bz)
            have hp2 := blk_stepW HREP2.out bz
            have hin := in_any w7 K1 kc1 ke1 K2 kc2 ke2 (by rw [← HNE.out.1]; exact HK.out.1) (by rw [← HNE.out.2]; exact HK.out.2.1) (by rw [← HNE.out.1]; omega) (by rw [← HNE.out.2]; omega) HGK.out.1 HGK.out.2
            rw [← HNE.out.1, ← HNE.out.2] at hin
            have a0 : w7.cell? ⟨Y1, 0, none⟩ = some (.slice K1 ne1 kc1) := cell_blk hp1 0
            have al := blk_lt hp1
            have b0 : w7.cell? ⟨Y2, 0, none⟩ = some (.slice K2 ne2 kc2) := cell_blk hp2 0
            have bl := blk_lt hp2
            have HIN := Lib.hid hin
            have HP := Lib.hid (And.intro hp1 (And.intro hp2 hrep3))
            clear hin bz hp1 hp2 hrep3 hrk3 HSS HORD HEX HREP1 HREP2 HRK1 HRK2
            go_upto_region 7 with fail
            simp only [List.append]
            go_wp2_with fail
            refine HIN.out.mono ?_
            rintro x w8 ⟨rfl, b8⟩
            have hp1 := blk_stepW HP.out.1 b8
            have hp2 := blk_stepW HP.out.2.1 b8
            have hp3 := blk_stepW HP.out.2.2 b8
            have a0' : w8.cell? ⟨Y1, 0, none⟩ = some (.slice K1 ne1 kc1) := cell_blk hp1 0
            have a1 : w8.cell? ⟨Y1, 1, none⟩ = some (.int .i64 (en1 : Int)) := cell_blk hp1 1
            have a2 : w8.cell? ⟨Y1, 2, none⟩ = some (.int .i64 (ne1 : Int)) := cell_blk hp1 2
            have a4 : w8.cell? ⟨Y1, 4, none⟩ = some (.bool cm1) := cell_blk hp1 4
            have al' := blk_lt hp1
            have b1 : w8.cell? ⟨Y2, 1, none⟩ = some (.int .i64 (en2 : Int)) := cell_blk hp2 1
            have b2 : w8.cell? ⟨Y2, 2, none⟩ = some (.int .i64 (ne2 : Int)) := cell_blk hp2 2
            have b4 : w8.cell? ⟨Y2, 4, none⟩ = some (.bool cm2) := cell_blk hp2 4
            have bl' := blk_lt hp2
            have c0 : w8.cell? ⟨Y3, 0, none⟩ = some (.slice K3 ne1 kc3) := cell_blk hp3 0
            have cl := blk_lt hp3
            have hsame := same6_any w8 K1 kc1 ke1 K3 kc3 ke1 (by rw [← HNE.out.1]; exact HK.out.1.below b8 (Nat.le_refl _)) (by rw [← HNE.out.1]; exact HK.out.2.2.below b8 (Nat.le_refl _)) (by rw [← HNE.out.1]; omega)
            rw [decide_eq_true rfl, ← HNE.out.1] at hsame
            have d1 : (en1 : Int) ≤ (en2 : Int) := by omega
            have d2 : (ne1 : Int) ≤ (ne2 : Int) := by omega
            have HSAME := Lib.hid hsame
            have HP8 := Lib.hid (And.intro hp1 (And.intro hp2 hp3))
            have HB8 := Lib.hid (below_at HBF.out b8)
            clear hsame hp1 hp2 hp3 b8 HIN HP a0 al b0 bl
            have hcases : (cm1 = false) ∨ (cm1 = true ∧ cm2 = true ∧ en1 = en2) := by
              cases hc : cm1 with
              | false => exact .inl rfl
              | true => exact .inr ⟨rfl, HGC.out hc⟩
            rcases hcases with rfl | ⟨rfl, rfl, rfl⟩
            all_goals
              go_wp2_with fail
              refine HSAME.out.mono ?_
              rintro x w9 ⟨rfl, b9⟩
              have hp1 := blk_stepW HP8.out.1 b9
              have hp3 := blk_stepW HP8.out.2.2 b9
              have a1' := cell_blk hp1 1
              have a3' := cell_blk hp1 3
              have a4' := cell_blk hp1 4
              have al9 := blk_lt hp1
              have c1' := cell_blk hp3 1
              have c3' := cell_blk hp3 3
              have c4' := cell_blk hp3 4
              have cl9 := blk_lt hp3
              simp only [List.getElem?_toArray, List.getElem?_cons_zero, List.getElem?_cons_succ] at a1' a3' a4' c1' c3' c4'
              have HB9 := Lib.hid (below_at HB8.out b9)
              clear hp1 hp3 b9
              go_wp2_with fail
              go_ret
              exact ⟨by first | rfl | simp, below_at HB.out (below_at HB2.out HB9.out)⟩
open Go.ChangeShapes Go.WideShapes Go.ChangeAt
set_option maxRecDepth 100000 in
theorem SeqGrows_walk {H : Type} {enc : TypeId × Value → H} (W : World) {base : Nat} {v0 v1 v2 v3 v4 : Value} {d0 d1 d2 d3 d4 : DataW H} {p0 p1 p2 p3 p4 : List MemPlace}
    (o0 : Value.okWide Tryz.prog W .any base 24 v0) (h0 : DataW.Trod enc Tryz.prog W 0 (fun _ => true) true 24 v0 d0 p0)
    (o1 : Value.okWide Tryz.prog W .any base 3 v1) (h1 : DataW.Trod enc Tryz.prog W 0 (fun _ => true) true 3 v1 d1 p1)
    (o2 : Value.okWide Tryz.prog W .any base 3 v2) (h2 : DataW.Trod enc Tryz.prog W 0 (fun _ => true) true 3 v2 d2 p2)
    (o3 : Value.okWide Tryz.prog W .any base 3 v3) (h3 : DataW.Trod enc Tryz.prog W 0 (fun _ => true) true 3 v3 d3 p3)
    (o4 : Value.okWide Tryz.prog W .any base 43 v4) (h4 : DataW.Trod enc Tryz.prog W 0 (fun _ => true) true 43 v4 d4 p4) :
    Calls Tryz.prog 10 #[v0, v1, v2, v3, v4] W fun e w' => e = .returned (.bool true) ∧ Below W.heap.size W w' := by
  obtain ⟨p, A, cap, rfl, hin⟩ := prog_arg o0 h0
  obtain ⟨f, rfl, rfl, rfl, _⟩ := open_int Tryz.underlying3 o1 h1
  obtain ⟨bb, rfl, rfl, rfl, _⟩ := open_int Tryz.underlying3 o2 h2
  obtain ⟨mm, rfl, rfl, rfl, _⟩ := open_int Tryz.underlying3 o3 h3
  obtain ⟨ts, B, cap2, rfl, hr, hl, hg⟩ := u8s_arg o4 h4
  exact seqGrows_any W p A cap f bb mm B cap2 ts hin hr hg hl
end Go.Proofs.YtckdofjpoajblaaGreat
