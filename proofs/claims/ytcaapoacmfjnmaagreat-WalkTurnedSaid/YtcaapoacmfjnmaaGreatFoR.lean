/- foata.Levels -/
import Derived.Test.YtcaapoacmfjnmaaGreatFoQ
import Derived.Test.YtcaapoacmfjnmaaGreatFoN
import Derived.Test.YtcaapoacmfjnmaaGreatFoEv
import Derived.Deep.DeepCutAuto
import Derived.Deep.CutBlock
import Derived.IntWalk
namespace Go.Proofs.YtcaapoacmfjnmaaGreat
open Go.RowKit
set_option linter.unusedVariables false

theorem Tryz.infoSl : (Tryz.prog.info? 52).map (fun i => (i.zero, i.size, i.bytes)) = some (some (.slice none 0 0), 1, 24) := by kernel_rfl

set_option maxRecDepth 100000 in
set_option maxHeartbeats 4000000 in
theorem levels_any (w : World) (A : Option Addr) (cap : Nat) (l : List Ev) (hr : Rd w 4 A l.length (l.flatMap encE)) (hl : l.length < 4611686018427387904) :
    Calls Tryz.prog 79 #[.slice A l.length cap] w (LvOut w (Fo.levR l)) := by
  obtain ⟨i0, hi0, hz0, hz1, hz2⟩ := info_parts Tryz.infoEv
  obtain ⟨i1, hi1, hy0, hy1, hy2⟩ := info_parts Tryz.infoSl
  have hok := fright_any w A cap l hr hl
  have HC := Lib.hid (evs_cell hr.toB)
  clear hr
  obtain ⟨b, hb⟩ : ∃ b, b = Fo.okRow l := ⟨_, rfl⟩
  rw [← hb] at hok
  have hlr : b = true → Fo.levR l = Fo.lev l := fun h => by rw [hb] at h; unfold Fo.levR; rw [if_pos h]
  have hlf : b = false → Fo.levR l = [] := fun h => by rw [hb] at h; unfold Fo.levR; rw [if_neg (by rw [h]; decide)]
  have hbl : b = true → l.length ≤ 200 := fun h => by rw [hb] at h; unfold Fo.okRow at h; simp at h; exact h.1
  have hrs : b = true → Fo.rights l = true := fun h => by rw [hb] at h; unfold Fo.okRow at h; simp at h; exact h.2
  generalize Fo.levR l = R at hlr hlf ⊢
  have HOK := Lib.hid hok
  have HRS := Lib.hid hrs
  have HLR := Lib.hid hlr
  have HLF := Lib.hid hlf
  clear hok hb hlr hrs hlf
  go_enter Tryz.func79, Tryz.ntmps79
  go_wp2_with fail
  refine HOK.out.mono ?_
  rintro x w1 ⟨rfl, b1⟩
  have HB1 := Lib.hid b1
  clear b1
  cases b with
  | false =>
    go_wp2_with fail
    go_ret
    rw [HLF.out (by trivial)]
    exact LvOut.nil HB1.out
  | true =>
    have hl2 : l.length ≤ 200 := hbl rfl
    clear hl hbl
    go_wp2_with fail
    go_loopw [2, 14] (fun v2 v14 wr => ∃ (k : Nat) (A : Option Addr) (cap : Nat) (c : Nat → Nat), k ≤ l.length ∧ v14 = .int .i64 k ∧ v2 = .slice A (Fo.levU (l.take k)).length cap ∧ Hid (LvC wr c A cap (Fo.levU (l.take k))) ∧ Hid (Fr w.heap.size c w wr)) (fun _ v14 _ => l.length - (intOf v14).toNat)
    case atStart => exact ⟨0, none, 0, _, Nat.zero_le _, rfl, rfl, Lib.hid (LvC.nil _ _), Lib.hid ((Fr.start w).step (.below 3 3 HB1.out) (by decide))⟩
    case round =>
      obtain ⟨k, AL, capL, c, hk, rfl, rfl, HLV, HFR⟩ := hrel
      by_cases hlt : k < l.length
      · obtain ⟨g, o, rfl, hg, hcl⟩ := HC.out k hlt
        obtain ⟨v0, v1, v2, v3⟩ := hcl wr HFR.out.below
        have k1 : (0 : Int) ≤ (k : Int) := Int.natCast_nonneg _
        have k2 : (k : Int) < (l.length : Int) := by omega
        have hL := Fo.levU_len (l.take k)
        rw [List.length_take, Nat.min_eq_left hk] at hL
        have hIn := Fo.levU_in (l.take k)
        rw [List.length_take, Nat.min_eq_left hk] at hIn
        have hsn : Fo.levU (l.take (k + 1)) = Fo.addL (Fo.levU (l.take k)) (Fo.place (Fo.levU (l.take k)) l[k]) l[k] := by
          rw [List.take_add_one, List.getElem?_eq_getElem hlt]; exact Fo.levU_snoc _ _
        have hpl := Fo.place_le (Fo.levU (l.take k)) l[k]
        generalize Fo.levU (l.take k) = L at *
        generalize l[k] = e at *
        have HIN := Lib.hid hIn
        have HSN := Lib.hid hsn
        have HPL := Lib.hid hpl
        clear hcl hIn hsn hpl
        go_upto_block 2 with fail
        obtain ⟨W1, X, hW1, hX, hBW, c0, c1, c2, c3⟩ := one_box wr e
        have hch : Chg 3 c wr (paint c wr.heap.size 3) W1 := by rw [hW1]; exact Chg.alloc 3 3 _
        have hbx : BlkC W1 (paint c wr.heap.size 3) 3 X (.cells #[.int .i64 e.t, .int .i64 e.k, .int .i64 e.o, .bool e.f] 57 (0, 0)) := by rw [hW1, hX]; exact BlkC.made wr c 3 _
        rw [← hW1, ← hX]
        have HLV1 := Lib.hid (HLV.out.stay hch (by decide) (by decide))
        have HFR1 := Lib.hid (HFR.out.step hch (by decide))
        generalize paint c wr.heap.size 3 = cc at hch HLV1 HFR1 hbx
        have HBX := Lib.hid hbx
        have HKX := Lib.hid hbx.1
        clear hch hBW hW1 hX hbx c0 c1 c2 c3 v0 v1 v2 v3
        go_cut [6] (fun v w2 => v = .int .i64 (Fo.place L e) ∧ Below W1.heap.size W1 w2)
        case first =>
          go_wp2_with fail
          go_loopw [6] (fun v wr => ∃ m : Nat, m ≤ L.length ∧ v = .int .i64 m ∧ Hid (Fo.placeAt L e m = Fo.place L e) ∧ Below W1.heap.size W1 wr) (fun v _ => (intOf v).toNat)
          case atStart => exact ⟨L.length, Nat.le_refl _, rfl, Lib.hid rfl, Below.refl _ _⟩
          case round =>
            obtain ⟨m, hm, rfl, HPA, hbw⟩ := hrel
            cases m with
            | zero =>
              have HBW := Lib.hid hbw
              clear hbw
              go_wp2_with fail
              go_meet
              exact ⟨by rw [← HPA.out]; rfl, HBW.out⟩
            | succ m =>
              have HLV2 := HLV1.out.stay (Chg.below 3 3 hbw) (by decide) (by decide)
              obtain ⟨g1, o1, A1, c1, rfl, lg1, _, q1, _, r1, _⟩ := HLV2.cell m (by omega)
              have hkX : ∀ u, Below wr.heap.size wr u → u.heap[X]? = some (.cells #[.int .i64 e.t, .int .i64 e.k, .int .i64 e.o, .bool e.f] 57 (0, 0)) := fun u hu =>
                (hu.block X (by have := blk_lt HKX.out; have := hbw.size; omega)).trans ((hbw.block X (blk_lt HKX.out)).trans HKX.out)
              have hcall := containsFunc_lev1 wr X A1 c1 L[m] r1.1.rd (by have := HIN.out L[m] (List.getElem_mem _); omega) (fun x => Fo.dep x e) (fun u e' hu => lev1_any u X e e' ⟨_, _, _, hkX u hu⟩
                ⟨by rw [cell_blk (hkX u hu)]; rfl, by rw [cell_blk (hkX u hu)]; rfl, by rw [cell_blk (hkX u hu)]; rfl, by rw [cell_blk (hkX u hu)]; rfl⟩)
              have hhit := Fo.placeAt_hit (L := L) (e := e) (m := m) (by omega)
              have hmiss := Fo.placeAt_miss (L := L) (e := e) (m := m) (by omega)
              generalize (L[m].any fun x => Fo.dep x e) = b at hcall hhit hmiss
              generalize L[m].length = lm at hcall q1
              have HCALL := Lib.hid hcall
              have HHIT := Lib.hid hhit
              have HMISS := Lib.hid hmiss
              have HBW := Lib.hid hbw
              have m1 : (0 : Int) ≤ (m : Int) := Int.natCast_nonneg _
              have m2 : (m : Int) < (L.length : Int) := by omega
              have m3 : (0 : Int) < (m : Int) + 1 := by omega
              clear hcall hhit hmiss hbw hkX HLV2 r1
              go_wp2_with fail
              refine HCALL.out.mono ?_
              rintro x w3 ⟨rfl, b3⟩
              have HB3 := Lib.hid (HBW.out.trans ⟨b3.os, b3.tape, b3.output, b3.size, fun i hi => b3.block i (by have := HBW.out.size; omega)⟩ : Below W1.heap.size W1 w3)
              clear b3
              cases b with
              | true =>
                go_wp2_with fail
                go_meet
                exact ⟨by rw [← HPA.out, HHIT.out (by trivial)]; rfl, HB3.out⟩
              | false =>
                go_wp2_with fail
                go_roundw
                case rel => exact ⟨m, by omega, by go_num, Lib.hid (by rw [← HPA.out, HMISS.out (by trivial)]), HB3.out⟩
                case measure => simp [intOf]
        case rest =>
          obtain ⟨rfl, hbw⟩ := hcut
          have lX := HBX.out.lt
          have hLV2 := HLV1.out.stay (Chg.below 3 3 hbw) (by decide) (by decide)
          have hFR2 := HFR1.out.step (Chg.below 3 3 hbw) (by decide)
          have hBX2 : BlkC wc (paint cc W1.heap.size 3) 3 X (.cells #[.int .i64 e.t, .int .i64 e.k, .int .i64 e.o, .bool e.f] 57 (0, 0)) := ⟨(hbw.block X lX).trans HBX.out.1, (paint_old lX).trans HBX.out.2⟩
          generalize paint cc W1.heap.size 3 = cd at hLV2 hFR2 hBX2
          generalize Fo.place L e = p at *
          have HLV2 := Lib.hid hLV2
          have HFR2 := Lib.hid hFR2
          have HBX2 := Lib.hid hBX2
          have hpl := HPL.out
          clear hLV2 hFR2 hBX2 hbw lX HBX HKX HLV1 HFR1
          generalize wc = w5 at *
          go_upto_if 38 with fail
          go_cut [2] (fun v w2 => ∃ (A2 : Option Addr) (cap2 : Nat) (c2 : Nat → Nat) (L2 : List (List Ev)), v = .slice A2 L2.length cap2 ∧ p < L2.length ∧ L2.length ≤ 201 ∧ Hid (Fo.addL L p e = L2.set p (L2.getD p [] ++ [e])) ∧ Hid (∀ q ∈ L2, q.length ≤ 200) ∧ Hid (LvC w2 c2 A2 cap2 L2) ∧ Hid (Fr w.heap.size c2 w w2) ∧ Hid (BlkC w2 c2 3 X (.cells #[.int .i64 e.t, .int .i64 e.k, .int .i64 e.o, .bool e.f] 57 (0, 0))))
          case first =>
            by_cases hp : p = L.length
            · subst hp
              obtain ⟨vs, hv, hin⟩ := HLV2.out.stay (Chg.alloc 4 3 (Obj.cells #[.slice none 0 0] 52)) (by decide) (by decide)
              have HV := Lib.hid hv
              have HIN2 := Lib.hid hin
              clear hv hin
              go_wp2_with (at_builtin; refine wpList_append_row (by rfl) _ _ _ (by rfl) 52 i1 _ 1 24 Tryz.underlying89 hi1 hy0 hy1 hy2 rfl (by omega) AL L.length capL vs (by rfl) HV.out.1 ⟨w5.heap.size, 0, none⟩ 1 1 [.slice none 0 0] (by rfl) (by rfl) (World.news_of_block (cs := #[.slice none 0 0]) (t := 52) (fr := (0, 0)) (heap_alloc_new w5 _)) (by simp [Value.oneCell']) (by omega) (by unfold maxLen; omega) (by omega) ?_; intro g1 of1 cap1 w3 hown hm hat; skip)
              go_meet
              obtain ⟨z1, z2⟩ := LvC.snoc HV.out HIN2.out hown hm (fun a' ha' => by injection ha' with ha'; subst ha'; exact hat)
              exact ⟨some ⟨g1, of1, none⟩, cap1, _, L ++ [[]], by rw [List.length_append]; rfl, by simp, by rw [List.length_append, List.length_singleton]; omega,
                Lib.hid (by rw [Fo.addL_end]; simp), Lib.hid (fun q hq => by
                  rcases List.mem_append.1 hq with hq | hq
                  · have := HIN.out q hq; omega
                  · rw [List.mem_singleton] at hq; subst hq; simp), Lib.hid z1, Lib.hid ((HFR2.out.step (Chg.alloc 4 3 _) (by decide)).step z2 (by decide)), Lib.hid ((HBX2.out.stay (Chg.alloc 4 3 _) (by decide)).stay z2 (by decide))⟩
            · have e1 : ((p : Int) == (L.length : Int)) = false := by simp; omega
              have HP := Lib.hid hp
              clear hp
              go_wp2_with fail
              go_meet
              have hpl2 : p < L.length := by have := HP.out; omega
              exact ⟨AL, capL, _, L, rfl, hpl2, by omega, Lib.hid (by rw [Fo.addL_in e hpl2, List.getD_eq_getElem?_getD, List.getElem?_eq_getElem hpl2]; rfl), Lib.hid (fun q hq => by have := HIN.out q hq; omega), HLV2, HFR2, HBX2⟩
          case rest =>
            obtain ⟨A2, cap2, c2, L2, rfl, hp2, hl2, HAD, HLEN, HLV3, HFR3, HBX3⟩ := hcut
            obtain ⟨g2, o2, A3, c3, rfl, lg2, cg2, q2, f2, r3, _⟩ := HLV3.out.cell p hp2
            have hget : L2.getD p [] = L2[p] := by rw [List.getD_eq_getElem?_getD, List.getElem?_eq_getElem hp2]; rfl
            have hq3 : L2[p].length ≤ 200 := HLEN.out _ (List.getElem_mem _)
            generalize hq' : L2[p] = q at *
            have lX := HBX3.out.lt
            have nX : ¬ ∃ a, A3 = some a ∧ X = a.block := fun ⟨a, h1, h2⟩ => by have := r3.2 a h1; rw [← h2, HBX3.out.2] at this; omega
            have nG : ¬ ∃ a, A3 = some a ∧ g2 = a.block := fun ⟨a, h1, h2⟩ => by have := r3.2 a h1; rw [← h2, cg2] at this; omega
            have p1 : (0 : Int) ≤ (p : Int) := Int.natCast_nonneg _
            have p2 : (p : Int) < (L2.length : Int) := by omega
            have HBXC := HBX3.out.cell
            have x0 : wc.cell? ⟨X, 0, none⟩ = some (.int .i64 e.t) := by rw [HBXC]; rfl
            have x1 : wc.cell? ⟨X, 1, none⟩ = some (.int .i64 e.k) := by rw [HBXC]; rfl
            have x2 : wc.cell? ⟨X, 2, none⟩ = some (.int .i64 e.o) := by rw [HBXC]; rfl
            have x3 : wc.cell? ⟨X, 3, none⟩ = some (.bool e.f) := by rw [HBXC]; rfl
            have HR3 := Lib.hid r3
            have HGET := Lib.hid hget
            have fg2 := f2 (o2 + p)
            clear r3 hget HBXC f2
            generalize wc = w6 at *
            have hal : Chg 4 c2 w6 (paint c2 w6.heap.size 3) (w6.alloc (Obj.cells #[.int .i64 e.t, .int .i64 e.k, .int .i64 e.o, .bool e.f] 57)).drew := (Chg.alloc 4 3 _).drew
            have HAL := Lib.hid hal
            clear hal
            go_upto_region 12 with fail
            refine wp_region_plan (by kernel_rfl) (fun u => Mod (fun k => ∃ a, A3 = some a ∧ k = a.block) w6 u) [8, 10] [(0, .pure), (1, .pure), (2, .pure), (3, .pure), (4, .pure), (5, .load), (6, .load), (7, .eff), (8, .last), (9, .pure), (10, .last)] (by simp only [List.map_cons, List.map_nil, List.getElem?_toArray, List.getElem?_cons_succ, List.getElem?_cons_zero]; rfl) (by kernel_rfl) (fun _ _ d _ _ h => by cases d <;> exact h) ((Mod.refl _ _).drew) ?_
            repeat (first
              | (refine plan_pure (v := ?_) (by rfl) (fun w1 => ?_) ?_
                 rotate_left
                 · go_simp <;> with_reducible rfl
                 simp only [Act.put, List.setIfInBounds_toArray, List.set_cons_zero, List.set_cons_succ])
              | (refine plan_off (by rfl) ?_
                 simp only [Act.put, List.setIfInBounds_toArray, List.set_cons_zero, List.set_cons_succ])
              | (refine plan_load_off (by rfl) ?_
                 simp only [Act.put, List.setIfInBounds_toArray, List.set_cons_zero, List.set_cons_succ])
              | (refine plan_load (v := ?_) (by rfl) (fun w1 hw1 => ?_) ?_
                 rotate_left
                 · (have y0 := (hw1.cell g2 (o2 + p) lg2 nG).trans q2
                    have y1 := (hw1.cell X 0 lX nX).trans x0
                    have y2 := (hw1.cell X 1 lX nX).trans x1
                    have y3 := (hw1.cell X 2 lX nX).trans x2
                    have y4 := (hw1.cell X 3 lX nX).trans x3
                    clear hw1
                    go_simp <;> with_reducible rfl)
                 simp only [Act.put, List.setIfInBounds_toArray, List.set_cons_zero, List.set_cons_succ]))
            refine plan_eff ?_
            go_wp2_with fail
            refine plan_on (fun _ h => h) (((Mod.refl _ _).alloc _).drew) ?_
            refine plan_last ?_
            refine wpList_append_row (by rfl) _ _ _ (by rfl) 57 i0 _ 4 32 Tryz.underlying52 hi0 hz0 hz1 hz2 rfl (by omega) A3 q.length c3 (q.flatMap encE) (by rfl) ((HR3.out.stay HAL.out (by omega)).1.move (fun _ _ => rfl)) ⟨w6.heap.size, 0, none⟩ 1 1 [.int .i64 e.t, .int .i64 e.k, .int .i64 e.o, .bool e.f] (by rfl) (by rfl) (World.news_of_block (cs := #[.int .i64 e.t, .int .i64 e.k, .int .i64 e.o, .bool e.f]) (t := 57) (fr := (0, 0)) (heap_alloc_new w6 _)) (by simp [Value.oneCell']) (by omega) (by unfold maxLen; omega) (by omega) ?_
            intro ga oa capa w7 hown hgrow hat
            have hm7 : Mod (fun k => ∃ a, A3 = some a ∧ k = a.block) w6 w7 := (((Mod.refl _ _).alloc _).drew).trans hgrow
            have f7 : w7.frozen? ⟨g2, o2 + p, none⟩ = false := (hm7.frozen g2 (o2 + p) lg2 nG).trans fg2
            have q7 := (hm7.cell g2 (o2 + p) lg2 nG).trans q2
            go_wp2_with fail
            repeat (first
              | (refine plan_pure (v := ?_) (by rfl) (fun w1 => ?_) ?_
                 rotate_left
                 · go_simp <;> with_reducible rfl
                 simp only [Act.put, List.setIfInBounds_toArray, List.set_cons_zero, List.set_cons_succ])
              | (refine plan_off (by rfl) ?_
                 simp only [Act.put, List.setIfInBounds_toArray, List.set_cons_zero, List.set_cons_succ])
              | (refine plan_load_off (by rfl) ?_
                 simp only [Act.put, List.setIfInBounds_toArray, List.set_cons_zero, List.set_cons_succ])
              | (refine plan_load (v := ?_) (by rfl) (fun w1 hw1 => ?_) ?_
                 rotate_left
                 · (skip
                    clear hw1
                    go_simp <;> with_reducible rfl)
                 simp only [Act.put, List.setIfInBounds_toArray, List.set_cons_zero, List.set_cons_succ]))
            refine plan_last ?_
            go_wp2_with fail
            refine plan_end ?_
            go_wp2_with fail
            go_roundw
            case rel =>
              have hl3 := HLV3.out.stay HAL.out (by decide) (by decide)
              obtain ⟨z1, z2⟩ := RowC.put (HR3.out.stay HAL.out (by omega)) (A' := some ⟨ga, oa, none⟩) (cs' := (q ++ [e]).flatMap encE) (by simpa [List.flatMap_append, encE] using hown) hgrow (fun a' ha' => by injection ha' with ha'; subst ha'; exact hat)
              have hz : (q ++ [e]).length = q.length + 1 := by simp
              rw [← hz] at z1
              obtain ⟨y1, y2⟩ := hl3.put hp2 z2 (q ++ [e]) z1 g2 o2 rfl
              rw [hz] at y1 y2
              have hfr := ((HFR3.out.step HAL.out (by decide)).step z2 (by omega)).step y2 (by decide)
              refine ⟨k + 1, some ⟨g2, o2, none⟩, cap2, _, by omega, by go_num, ?_, ?_, Lib.hid hfr⟩
              · rw [HSN.out, HAD.out, List.length_set]
              · rw [HSN.out, HAD.out, HGET.out]; exact Lib.hid y1
            case measure => simp [intOf]; omega
      · have hkn : k = l.length := by omega
        have HK := Lib.hid hkn
        clear hkn
        have hL := Fo.levU_len l
        have HLV1 : Hid (LvC wr c AL capL (Fo.part (Fo.levU l) 0)) := by rw [Fo.part_zero]; have := HLV.out; rw [HK.out, List.take_length] at this; exact Lib.hid this
        have hlk : (Fo.levU (l.take k)).length = (Fo.levU l).length := by rw [HK.out, List.take_length]
        rw [hlk]
        clear hlk HLV
        have h4 : ∀ i, (hi : i < (Fo.levU l).length) → (Fo.levU l)[i].length ≤ 4 ∧ 0 < (Fo.levU l)[i].length := fun i hi => ⟨Fo.level_four (HRS.out (by trivial)) i hi, Fo.level_ne i hi⟩
        have hso : ∀ i, (hi : i < (Fo.levU l).length) → ∀ q' : List Ev, q'.Perm (Fo.levU l)[i] → Fo.SortedT q' → q' = Fo.sortT (Fo.levU l)[i] := fun i hi q' hp hs => Fo.level_sort i hi hp hs
        have hR : R = Fo.part (Fo.levU l) (Fo.levU l).length := by rw [Fo.part_all]; exact HLR.out (by trivial)
        generalize Fo.levU l = L at *
        have H4 := Lib.hid h4
        have HSO := Lib.hid hso
        have HR := Lib.hid hR
        clear h4 hso hR
        generalize wr = w9 at *
        go_wp2_with fail
        go_loopw [55] (fun v55 wr => ∃ (i : Nat) (c : Nat → Nat), i ≤ L.length ∧ v55 = .int .i64 i ∧ Hid (LvC wr c AL capL (Fo.part L i)) ∧ Hid (Fr w.heap.size c w wr)) (fun v55 _ => L.length - (intOf v55).toNat)
        case atStart => exact ⟨0, _, Nat.zero_le _, rfl, HLV1, HFR⟩
        case round =>
          obtain ⟨i, c, hi, rfl, HLV2, HFR2⟩ := hrel
          by_cases hlt2 : i < L.length
          · have hlp : i < (Fo.part L i).length := by rw [Fo.part_len]; exact hlt2
            obtain ⟨g2, o2, A3, c3, rfl, lg2, cg2, q2, f2, r3, put⟩ := HLV2.out.cell i hlp
            have hset := Fo.part_set L i hlt2
            rw [Fo.part_get L i hlt2] at q2 r3 put
            obtain ⟨h4, hpos⟩ := H4.out i hlt2
            have hso := HSO.out i hlt2
            generalize L[i] = q at *
            obtain ⟨ga, oa, rfl⟩ := r3.1.some_of_pos (by have := r3.1.2.1; omega)
            have hcall := sort_any wr ga oa c3 q r3.1 (by omega)
            have HCALL := Lib.hid hcall
            have HSET := Lib.hid hset
            have HPUT := Lib.hid put
            have HR3 := Lib.hid r3
            have HSO2 := Lib.hid hso
            have k1 : (0 : Int) ≤ (i : Int) := Int.natCast_nonneg _
            have k2 : (i : Int) < (L.length : Int) := by omega
            clear hcall hset put r3 hso f2
            go_wp2_with fail
            refine HCALL.out.mono ?_
            rintro x w7 ⟨rfl, q', hp, hs, hlen, hown, hm⟩
            have hq := HSO2.out q' hp hs
            have hch : Chg (10 + i) c wr (paint c wr.heap.size (10 + i)) w7 := .mod (10 + i) (hm.mono (fun j _ e => by subst e; exact HR3.out.2 _ rfl))
            have hro : RowC w7 (paint c wr.heap.size (10 + i)) (10 + i) 57 4 (some ⟨ga, oa, none⟩) q'.length c3 (q'.flatMap encE) := ⟨hown, fun a ha => by injection ha with ha; subst ha; rw [paint_old HR3.out.1.lt]; exact HR3.out.2 _ rfl⟩
            have HLV3 := Lib.hid (HPUT.out w7 _ q' hch hlen hro)
            have HFR3 := Lib.hid (HFR2.out.step hch (by omega))
            rw [hq] at HLV3
            rw [HSET.out] at HLV3
            clear hq hch hro hown hm hp hs hlen
            go_wp2_with fail
            go_roundw
            case rel => exact ⟨i + 1, _, by omega, by go_num, HLV3, HFR3⟩
            case measure => simp [intOf]; omega
          · have hkn2 : i = L.length := by omega
            have HK2 := Lib.hid hkn2
            clear hkn2
            go_wp2_with fail
            go_ret
            rw [HR.out]
            refine ⟨AL, capL, by rw [Fo.part_len]; rfl, ?_, HFR2.out.below⟩
            rw [← HK2.out]
            exact HLV2.out.lv
end Go.Proofs.YtcaapoacmfjnmaaGreat
