/- Part 7 of the proof of leastTells_holds: what it rests on. -/
import Derived.Test.YtckdofjpoajblaaGreatZk6
namespace Go.Proofs.YtckdofjpoajblaaGreat
open Go.RowKit
set_option linter.unusedVariables false
theorem Tryz.infoSl : (Tryz.prog.info? 55).map (fun i => (i.zero, i.size, i.bytes)) = some (some (.slice none 0 0), 1, 24) := by kernel_rfl
set_option maxRecDepth 100000 in
set_option maxHeartbeats 4000000 in
theorem levels_any (w : World) (A : Option Addr) (cap : Nat) (l : List Ev) (hr : Rd w 4 A l.length (l.flatMap encE)) (hl : l.length < 4611686018427387904) :
    Calls Tryz.prog 82 #[.slice A l.length cap] w (LvOut w (Fo.levR l)) := by
  obtain ⟨i0, hi0, hz0, hz1, hz2⟩ := info_parts Tryz.infoEv
  obtain ⟨i1, hi1, hy0, hy1, hy2⟩ := info_parts Tryz.infoSl
  have hok := fright_any w A cap l hr hl
  have HC := Lib.hid (evs_cell hr.toB)
  clear hr
  obtain ⟨b, hb⟩ : ∃ b, b = Fo.okRow l := ⟨_, rfl⟩
  rw [← hb] at hok
  have hlr : b = true → Fo.levR l = Fo.lev l := fun h => by rw [hb] at h; unfold Fo.levR; rw [if_pos h]
  have hlf : b = false → Fo.levR l = [] := fun h => by rw [hb] at h; unfold Fo.levR; rw [if_neg (by rw [h]; decide)]
  have hbl : b = true → l.length ≤ 200 := fun h => by rw [hb] at h; unfold Fo.okRow at h; simp at h; exact h.1
  have hrs : b = true → Fo.rights l = true := fun h => by rw [hb] at h; unfold Fo.okRow at h; simp at h; exact h.2
  generalize Fo.levR l = R at hlr hlf ⊢
  have HOK := Lib.hid hok
  have HRS := Lib.hid hrs
  have HLR := Lib.hid hlr
  have HLF := Lib.hid hlf
  clear hok hb hlr hrs hlf
  go_enter Tryz.func82, Tryz.ntmps82
  go_wp2_with fail
  refine HOK.out.mono ?_
  rintro x w1 ⟨rfl, b1⟩
  have HB1 := Lib.hid b1
  clear b1
  cases b with
  | false =>
    go_wp2_with fail
    go_ret
    rw [HLF.out (by trivial)]
    exact LvOut.nil HB1.out
  | true =>
    have hl2 : l.length ≤ 200 := hbl rfl
    clear hl hbl
    go_wp2_with fail
    go_loopw [2, 14] (fun v2 v14 wr => ∃ (k : Nat) (A : Option Addr) (cap : Nat) (c : Nat → Nat), k ≤ l.length ∧ v14 = .int .i64 k ∧ v2 = .slice A (Fo.levU (l.take k)).length cap ∧ Hid (LvC wr c A cap (Fo.levU (l.take k))) ∧ Hid (Fr w.heap.size c w wr)) (fun _ v14 _ => l.length - (intOf v14).toNat)
    case atStart => exact ⟨0, none, 0, _, Nat.zero_le _, rfl, rfl, Lib.hid (LvC.nil _ _), Lib.hid ((Fr.start w).step (.below 3 3 HB1.out) (by decide))⟩
    case round =>
      obtain ⟨k, AL, capL, c, hk, rfl, rfl, HLV, HFR⟩ := hrel
      by_cases hlt : k < l.length
      · obtain ⟨g, o, rfl, hg, hcl⟩ := HC.out k hlt
        obtain ⟨v0, v1, v2, v3⟩ := hcl wr HFR.out.below
        have k1 : (0 : Int) ≤ (k : Int) := Int.natCast_nonneg _
        have k2 : (k : Int) < (l.length : Int) := by omega
        have hL := Fo.levU_len (l.take k)
        rw [List.length_take, Nat.min_eq_left hk] at hL
        have hIn := Fo.levU_in (l.take k)
        rw [List.length_take, Nat.min_eq_left hk] at hIn
        have hsn : Fo.levU (l.take (k + 1)) = Fo.addL (Fo.levU (l.take k)) (Fo.place (Fo.levU (l.take k)) l[k]) l[k] := by
          rw [List.take_add_one, List.getElem?_eq_getElem hlt]; exact Fo.levU_snoc _ _
        have hpl := Fo.place_le (Fo.levU (l.take k)) l[k]
        generalize Fo.levU (l.take k) = L at *
        generalize l[k] = e at *
        have HIN := Lib.hid hIn
        have HSN := Lib.hid hsn
        have HPL := Lib.hid hpl
        clear hcl hIn hsn hpl
        go_upto_block 2 with fail
        obtain ⟨W1, X, hW1, hX, hBW, c0, c1, c2, c3⟩ := one_box wr e
        have hch : Chg 3 c wr (paint c wr.heap.size 3) W1 := by rw [hW1]; exact Chg.alloc 3 3 _
        have hbx : BlkC W1 (paint c wr.heap.size 3) 3 X (.cells #[.int .i64 e.t, .int .i64 e.k, .int .i64 e.o, .bool e.f] 51 (0, 0)) := by rw [hW1, hX]; exact BlkC.made wr c 3 _
        rw [← hW1, ← hX]
        have HLV1 := Lib.hid (HLV.out.stay hch (by decide) (by decide))
        have HFR1 := Lib.hid (HFR.out.step hch (by decide))
        generalize paint c wr.heap.size 3 = cc at hch HLV1 HFR1 hbx
        have HBX := Lib.hid hbx
        have HKX := Lib.hid hbx.1
        clear hch hBW hW1 hX hbx c0 c1 c2 c3 v0 v1 v2 v3
        go_cut [6] (fun v w2 => v = .int .i64 (Fo.place L e) ∧ Below W1.heap.size W1 w2)
        case first =>
          go_wp2_with fail
          go_loopw [6] (fun v wr => ∃ m : Nat, m ≤ L.length ∧ v = .int .i64 m ∧ Hid (Fo.placeAt L e m = Fo.place L e) ∧ Below W1.heap.size W1 wr) (fun v _ => (intOf v).toNat)
          case atStart => exact ⟨L.length, Nat.le_refl _, rfl, Lib.hid rfl, Below.refl _ _⟩
          case round =>
            obtain ⟨m, hm, rfl, HPA, hbw⟩ := hrel
            cases m with
            | zero =>
              have HBW := Lib.hid hbw
              clear hbw
              go_wp2_with fail
              go_meet
              exact ⟨by rw [← HPA.out]; rfl, HBW.out⟩
            | succ m =>
              have HLV2 := HLV1.out.stay (Chg.below 3 3 hbw) (by decide) (by decide)
              obtain ⟨g1, o1, A1, c1, rfl, lg1, _, q1, _, r1, _⟩ := HLV2.cell m (by omega)
              have hkX : ∀ u, Below wr.heap.size wr u → u.heap[X]? = some (.cells #[.int .i64 e.t, .int .i64 e.k, .int .i64 e.o, .bool e.f] 51 (0, 0)) := fun u hu =>
                (hu.block X (by have := blk_lt HKX.out; have := hbw.size; omega)).trans ((hbw.block X (blk_lt HKX.out)).trans HKX.out)
              have hcall := containsFunc_lev1 wr X A1 c1 L[m] r1.1.rd (by have := HIN.out L[m] (List.getElem_mem _); omega) (fun x => Fo.dep x e) (fun u e' hu => lev1_any u X e e' ⟨_, _, _, hkX u hu⟩
                ⟨by rw [cell_blk (hkX u hu)]; rfl, by rw [cell_blk (hkX u hu)]; rfl, by rw [cell_blk (hkX u hu)]; rfl, by rw [cell_blk (hkX u hu)]; rfl⟩)
              have hhit := Fo.placeAt_hit (L := L) (e := e) (m := m) (by omega)
              have hmiss := Fo.placeAt_miss (L := L) (e := e) (m := m) (by omega)
              generalize (L[m].any fun x => Fo.dep x e) = b at hcall hhit hmiss
              generalize L[m].length = lm at hcall q1
              have HCALL := Lib.hid hcall
              have HHIT := Lib.hid hhit
              have HMISS := Lib.hid hmiss
              have HBW := Lib.hid hbw
              have m1 : (0 : Int) ≤ (m : Int) := Int.natCast_nonneg _
              have m2 : (m : Int) < (L.length : Int) := by omega
              have m3 : (0 : Int) < (m : Int) + 1 := by omega
              clear hcall hhit hmiss hbw hkX HLV2 r1
              go_wp2_with fail
              refine HCALL.out.mono ?_
              rintro x w3 ⟨rfl, b3⟩
              have HB3 := Lib.hid (HBW.out.trans ⟨b3.os, b3.tape, b3.output, b3.size, fun i hi => b3.block i (by have := HBW.out.size; omega)⟩ : Below W1.heap.size W1 w3)
              clear b3
              cases b with
              | true =>
                go_wp2_with fail
                go_meet
                exact ⟨by rw [← HPA.out, HHIT.out (by trivial)]; rfl, HB3.out⟩
              | false =>
                go_wp2_with fail
                go_roundw
                case rel => exact ⟨m, by omega, by go_num, Lib.hid (by rw [← HPA.out, HMISS.out (by trivial)]), HB3.out⟩
                case measure => simp [intOf]
        case rest =>
          obtain ⟨rfl, hbw⟩ := hcut
          have lX := HBX.out.lt
          have hLV2 := HLV1.out.stay (Chg.below 3 3 hbw) (by decide) (by decide)
          have hFR2 := HFR1.out.step (Chg.below 3 3 hbw) (by decide)
          have hBX2 : BlkC wc (paint cc W1.heap.size 3) 3 X (.cells #[.int .i64 e.t, .int .i64 e.k, .int .i64 e.o, .bool e.f] 51 (0, 0)) := ⟨(hbw.block X lX).trans HBX.out.1, (paint_old lX).trans HBX.out.2⟩
          generalize paint cc W1.heap.size 3 = cd at hLV2 hFR2 hBX2
          generalize Fo.place L e = p at *
          have HLV2 := Lib.hid hLV2
          have HFR2 := Lib.hid hFR2
          have HBX2 := Lib.hid hBX2
          have hpl := HPL.out
          clear hLV2 hFR2 hBX2 hbw lX HBX HKX HLV1 HFR1
          generalize wc = w5 at *
          go_upto_if 38 with fail
          go_cut [2] (fun v w2 => ∃ (A2 : Option Addr) (cap2 : Nat) (c2 : Nat → Nat) (L2 : List (List Ev)), v = .slice A2 L2.length cap2 ∧ p < L2.length ∧ L2.length ≤ 201 ∧ Hid (Fo.addL L p e = L2.set p (L2.getD p [] ++ [e])) ∧ Hid (∀ q ∈ L2, q.length ≤ 200) ∧ Hid (LvC w2 c2 A2 cap2 L2) ∧ Hid (Fr w.heap.size c2 w w2) ∧ Hid (BlkC w2 c2 3 X (.cells #[.int .i64 e.t, .int .i64 e.k, .int .i64 e.o, .bool e.f] 51 (0, 0))))
          case first =>
            by_cases hp : p = L.length
            · subst hp
              obtain ⟨vs, hv, hin⟩ := HLV2.out.stay (Chg.alloc 4 3 (Obj.cells #[.slice none 0 0] 55)) (by decide) (by decide)
              have HV := Lib.hid hv
              have HIN2 := Lib.hid hin
              clear hv hin
              go_wp2_with (at_builtin; refine wpList_append_row (by rfl) _ _ _ (by rfl) 55 i1 _ 1 24 Tryz.underlying150 hi1 hy0 hy1 hy2 rfl (by omega) AL L.length capL vs (by rfl) HV.out.1 ⟨w5.heap.size, 0, none⟩ 1 1 [.slice none 0 0] (by rfl) (by rfl) (World.news_of_block (cs := #[.slice none 0 0]) (t := 55) (fr := (0, 0)) (heap_alloc_new w5 _)) (by simp [Value.oneCell']) (by omega) (by unfold maxLen; omega) (by omega) ?_; intro g1 of1 cap1 w3 hown hm hat; skip)
              go_meet
              obtain ⟨z1, z2⟩ := LvC.snoc HV.out HIN2.out hown hm (fun a' ha' => by injection ha' with ha'; subst ha'; exact hat)
              exact ⟨some ⟨g1, of1, none⟩, cap1, _, L ++ [[]], by rw [List.length_append]; rfl, by simp, by rw [List.length_append, List.length_singleton]; omega,
                Lib.hid (by rw [Fo.addL_end]; simp), Lib.hid (fun q hq => by
                  rcases List.mem_append.1 hq with hq | hq
                  · have := HIN.out q hq; omega
                  · rw [List.mem_singleton] at hq; subst hq; simp), Lib.hid z1, Lib.hid ((HFR2.out.step (Chg.alloc 4 3 _) (by decide)).step z2 (by decide)), Lib.hid ((HBX2.out.stay (Chg.alloc 4 3 _) (by decide)).stay z2 (by decide))⟩
            · have e1 : ((p : Int) == (L.length : Int)) = false := by simp; omega
              have HP := Lib.hid hp
              clear hp
              go_wp2_with fail
              go_meet
              have hpl2 : p < L.length := by have := HP.out; omega
              exact ⟨AL, capL, _, L, rfl, hpl2, by omega, Lib.hid (by rw [Fo.addL_in e hpl2, List.getD_eq_getElem?_getD, List.getElem?_eq_getElem hpl2]; rfl), Lib.hid (fun q hq => by have := HIN.out q hq; omega), HLV2, HFR2, HBX2⟩
          case rest =>
            obtain ⟨A2, cap2, c2, L2, rfl, hp2, hl2, HAD, HLEN, HLV3, HFR3, HBX3⟩ := hcut
            obtain ⟨g2, o2, A3, c3, rfl, lg2, cg2, q2, f2, r3, _⟩ := HLV3.out.cell p hp2
            have hget : L2.getD p [] = L2[p] := by rw [List.getD_eq_getElem?_getD, List.getElem?_eq_getElem hp2]; rfl
            have hq3 : L2[p].length ≤ 200 := HLEN.out _ (List.getElem_mem _)
            generalize hq' : L2[p] = q at *
            have lX := HBX3.out.lt
            have nX : ¬ ∃ a, A3 = some a ∧ X = a.block := fun ⟨a, h1, h2⟩ => by have := r3.2 a h1; rw [← h2, HBX3.out.2] at this; omega
            have nG : ¬ ∃ a, A3 = some a ∧ g2 = a.block := fun ⟨a, h1, h2⟩ => by have := r3.2 a h1; rw [← h2, cg2] at this; omega
            have p1 : (0 : Int) ≤ (p : Int) := Int.natCast_nonneg _
            have p2 : (p : Int) < (L2.length : Int) := by omega
            have HBXC := HBX3.out.cell
            have x0 : wc.cell? ⟨X, 0, none⟩ = some (.int .i64 e.t) := by rw [HBXC]; rfl
            have x1 : wc.cell? ⟨X, 1, none⟩ = some (.int .i64 e.k) := by rw [HBXC]; rfl
            have x2 : wc.cell? ⟨X, 2, none⟩ = some (.int .i64 e.o) := by rw [HBXC]; rfl
            have x3 : wc.cell? ⟨X, 3, none⟩ = some (.bool e.f) := by rw [HBXC]; rfl
            have HR3 := Lib.hid r3
            have HGET := Lib.hid hget
            have fg2 := f2 (o2 + p)
            clear r3 hget HBXC f2
            generalize wc = w6 at *
            have hal : Chg 4 c2 w6 (paint c2 w6.heap.size 3) (w6.alloc (Obj.cells #[.int .i64 e.t, .int .i64 e.k, .int .i64 e.o, .bool e.f] 51)).drew := (Chg.alloc 4 3 _).drew
            have HAL := Lib.hid hal
            clear hal
            go_upto_region 12 with fail
            refine wp_region_plan (by kernel_rfl) (fun u => Mod (fun k => ∃ a, A3 = some a ∧ k = a.block) w6 u) [8, 10] [(0, .pure), (1, .pure), (2, .pure), (3, .pure), (4, .pure), (5, .load), (6, .load), (7, .eff), (8, .last), (9, .pure), (10, .last)] (by simp only [List.map_cons, List.map_nil, List.getElem?_toArray, List.getElem?_cons_succ, List.getElem?_cons_zero]; rfl) (by kernel_rfl) (fun _ _ d _ _ h => by cases d <;> exact h) ((Mod.refl _ _).drew) ?_
            repeat (first
              | (refine plan_pure (v := ?_) (by rfl) (fun w1 => ?_) ?_
                 rotate_left
                 · go_simp <;> with_reducible rfl
                 simp only [Act.put, List.setIfInBounds_toArray, List.set_cons_zero, List.set_cons_succ])
              | (refine plan_off (by rfl) ?_
                 simp only [Act.put, List.setIfInBounds_toArray, List.set_cons_zero, List.set_cons_succ])
              | (refine plan_load_off (by rfl) ?_
                 simp only [Act.put, List.setIfInBounds_toArray, List.set_cons_zero, List.set_cons_succ])
              | (refine plan_load (v := ?_) (by rfl) (fun w1 hw1 => ?_) ?_
                 rotate_left
                 · (have y0 := (hw1.cell g2 (o2 + p) lg2 nG).trans q2
                    have y1 := (hw1.cell X 0 lX nX).trans x0
                    have y2 := (hw1.cell X 1 lX nX).trans x1
                    have y3 := (hw1.cell X 2 lX nX).trans x2
                    have y4 := (hw1.cell X 3 lX nX).trans x3
                    clear hw1
                    go_simp <;> with_reducible rfl)
                 simp only [Act.put, List.setIfInBounds_toArray, List.set_cons_zero, List.set_cons_succ]))
            refine plan_eff ?_
            go_wp2_with fail
            refine plan_on (fun _ h => h) (((Mod.refl _ _).alloc _).drew) ?_
            refine plan_last ?_
            refine wpList_append_row (by rfl) _ _ _ (by rfl) 51 i0 _ 4 32 Tryz.underlying55 hi0 hz0 hz1 hz2 rfl (by omega) A3 q.length c3 (q.flatMap encE) (by rfl) ((HR3.out.stay HAL.out (by omega)).1.move (fun _ _ => rfl)) ⟨w6.heap.size, 0, none⟩ 1 1 [.int .i64 e.t, .int .i64 e.k, .int .i64 e.o, .bool e.f] (by rfl) (by rfl) (World.news_of_block (cs := #[.int .i64 e.t, .int .i64 e.k, .int .i64 e.o, .bool e.f]) (t := 51) (fr := (0, 0)) (heap_alloc_new w6 _)) (by simp [Value.oneCell']) (by omega) (by unfold maxLen; omega) (by omega) ?_
            intro ga oa capa w7 hown hgrow hat
            have hm7 : Mod (fun k => ∃ a, A3 = some a ∧ k = a.block) w6 w7 := (((Mod.refl _ _).alloc _).drew).trans hgrow
            have f7 : w7.frozen? ⟨g2, o2 + p, none⟩ = false := (hm7.frozen g2 (o2 + p) lg2 nG).trans fg2
            have q7 := (hm7.cell g2 (o2 + p) lg2 nG).trans q2
            go_wp2_with fail
            repeat (first
              | (refine plan_pure (v := ?_) (by rfl) (fun w1 => ?_) ?_
                 rotate_left
                 · go_simp <;> with_reducible rfl
                 simp only [Act.put, List.setIfInBounds_toArray, List.set_cons_zero, List.set_cons_succ])
              | (refine plan_off (by rfl) ?_
                 simp only [Act.put, List.setIfInBounds_toArray, List.set_cons_zero, List.set_cons_succ])
              | (refine plan_load_off (by rfl) ?_
                 simp only [Act.put, List.setIfInBounds_toArray, List.set_cons_zero, List.set_cons_succ])
              | (refine plan_load (v := ?_) (by rfl) (fun w1 hw1 => ?_) ?_
                 rotate_left
                 · (skip
                    clear hw1
                    go_simp <;> with_reducible rfl)
                 simp only [Act.put, List.setIfInBounds_toArray, List.set_cons_zero, List.set_cons_succ]))
            refine plan_last ?_
            go_wp2_with fail
            refine plan_end ?_
            go_wp2_with fail
            go_roundw
            case rel =>
              have hl3 := HLV3.out.stay HAL.out (by decide) (by decide)
              obtain ⟨z1, z2⟩ := RowC.put (HR3.out.stay HAL.out (by omega)) (A' := some ⟨ga, oa, none⟩) (cs' := (q ++ [e]).flatMap encE) (by simpa [List.flatMap_append, encE] using hown) hgrow (fun a' ha' => by injection ha' with ha'; subst ha'; exact hat)
              have hz : (q ++ [e]).length = q.length + 1 := by simp
              rw [← hz] at z1
              obtain ⟨y1, y2⟩ := hl3.put hp2 z2 (q ++ [e]) z1 g2 o2 rfl
              rw [hz] at y1 y2
              have hfr := ((HFR3.out.step HAL.out (by decide)).step z2 (by omega)).step y2 (by decide)
              refine ⟨k + 1, some ⟨g2, o2, none⟩, cap2, _, by omega, by go_num, ?_, ?_, Lib.hid hfr⟩
              · rw [HSN.out, HAD.out, List.length_set]
              · rw [HSN.out, HAD.out, HGET.out]; exact Lib.hid y1
            case measure => simp [intOf]; omega
      · have hkn : k = l.length := by omega
        have HK := Lib.hid hkn
        clear hkn
        have hL := Fo.levU_len l
        have HLV1 : Hid (LvC wr c AL capL (Fo.part (Fo.levU l) 0)) := by rw [Fo.part_zero]; have := HLV.out; rw [HK.out, List.take_length] at this; exact Lib.hid this
        have hlk : (Fo.levU (l.take k)).length = (Fo.levU l).length := by rw [HK.out, List.take_length]
        rw [hlk]
        clear hlk HLV
        have h4 : ∀ i, (hi : i < (Fo.levU l).length) → (Fo.levU l)[i].length ≤ 4 ∧ 0 < (Fo.levU l)[i].length := fun i hi => ⟨Fo.level_four (HRS.out (by trivial)) i hi, Fo.level_ne i hi⟩
        have hso : ∀ i, (hi : i < (Fo.levU l).length) → ∀ q' : List Ev, q'.Perm (Fo.levU l)[i] → Fo.SortedT q' → q' = Fo.sortT (Fo.levU l)[i] := fun i hi q' hp hs => Fo.level_sort i hi hp hs
        have hR : R = Fo.part (Fo.levU l) (Fo.levU l).length := by rw [Fo.part_all]; exact HLR.out (by trivial)
        generalize Fo.levU l = L at *
        have H4 := Lib.hid h4
        have HSO := Lib.hid hso
        have HR := Lib.hid hR
        clear h4 hso hR
        generalize wr = w9 at *
        go_wp2_with fail
        go_loopw [55] (fun v55 wr => ∃ (i : Nat) (c : Nat → Nat), i ≤ L.length ∧ v55 = .int .i64 i ∧ Hid (LvC wr c AL capL (Fo.part L i)) ∧ Hid (Fr w.heap.size c w wr)) (fun v55 _ => L.length - (intOf v55).toNat)
        case atStart => exact ⟨0, _, Nat.zero_le _, rfl, HLV1, HFR⟩
        case round =>
          obtain ⟨i, c, hi, rfl, HLV2, HFR2⟩ := hrel
          by_cases hlt2 : i < L.length
          · have hlp : i < (Fo.part L i).length := by rw [Fo.part_len]; exact hlt2
            obtain ⟨g2, o2, A3, c3, rfl, lg2, cg2, q2, f2, r3, put⟩ := HLV2.out.cell i hlp
            have hset := Fo.part_set L i hlt2
            rw [Fo.part_get L i hlt2] at q2 r3 put
            obtain ⟨h4, hpos⟩ := H4.out i hlt2
            have hso := HSO.out i hlt2
            generalize L[i] = q at *
            obtain ⟨ga, oa, rfl⟩ := r3.1.some_of_pos (by have := r3.1.2.1; omega)
            have hcall := sort_any wr ga oa c3 q r3.1 (by omega)
            have HCALL := Lib.hid hcall
            have HSET := Lib.hid hset
            have HPUT := Lib.hid put
            have HR3 := Lib.hid r3
            have HSO2 := Lib.hid hso
            have k1 : (0 : Int) ≤ (i : Int) := Int.natCast_nonneg _
            have k2 : (i : Int) < (L.length : Int) := by omega
            clear hcall hset put r3 hso f2
            go_wp2_with fail
            refine HCALL.out.mono ?_
            rintro x w7 ⟨rfl, q', hp, hs, hlen, hown, hm⟩
            have hq := HSO2.out q' hp hs
            have hch : Chg (10 + i) c wr (paint c wr.heap.size (10 + i)) w7 := .mod (10 + i) (hm.mono (fun j _ e => by subst e; exact HR3.out.2 _ rfl))
            have hro : RowC w7 (paint c wr.heap.size (10 + i)) (10 + i) 51 4 (some ⟨ga, oa, none⟩) q'.length c3 (q'.flatMap encE) := ⟨hown, fun a ha => by injection ha with ha; subst ha; rw [paint_old HR3.out.1.lt]; exact HR3.out.2 _ rfl⟩
            have HLV3 := Lib.hid (HPUT.out w7 _ q' hch hlen hro)
            have HFR3 := Lib.hid (HFR2.out.step hch (by omega))
            rw [hq] at HLV3
            rw [HSET.out] at HLV3
            clear hq hch hro hown hm hp hs hlen
            go_wp2_with fail
            go_roundw
            case rel => exact ⟨i + 1, _, by omega, by go_num, HLV3, HFR3⟩
            case measure => simp [intOf]; omega
          · have hkn2 : i = L.length := by omega
            have HK2 := Lib.hid hkn2
            clear hkn2
            go_wp2_with fail
            go_ret
            rw [HR.out]
            refine ⟨AL, capL, by rw [Fo.part_len]; rfl, ?_, HFR2.out.below⟩
            rw [← HK2.out]
            exact HLV2.out.lv
end Go.Proofs.YtckdofjpoajblaaGreat
namespace Go.Proofs.YtckdofjpoajblaaGreat
open Go.RowKit
set_option linter.unusedVariables false
namespace Fo
def encP (L : List (List Ev)) : List UInt8 := L.flatMap (fun l => UInt8.ofNat l.length :: bytes l)
theorem enc_eq (L : List (List Ev)) : enc L = encP L ++ [0] := rfl
theorem encP_succ {L : List (List Ev)} {k : Nat} (hk : k < L.length) : encP (L.take (k + 1)) = encP (L.take k) ++ [UInt8.ofNat L[k].length] ++ bytes L[k] := by
  unfold encP
  rw [List.take_add_one, List.getElem?_eq_getElem hk, List.flatMap_append, List.append_assoc]
  simp
theorem encP_len {L : List (List Ev)} (k : Nat) : (encP (L.take k)).length ≤ L.flatten.length + L.length := by
  have h : ∀ M : List (List Ev), (encP M).length = M.flatten.length + M.length := by
    intro M
    induction M with
    | nil => rfl
    | cons q M ih =>
      have : encP (q :: M) = (UInt8.ofNat q.length :: bytes q) ++ encP M := rfl
      rw [this, List.length_append, ih, List.flatten_cons, List.length_append, List.length_cons, List.length_cons]
      unfold bytes
      rw [List.length_map]
      omega
  rw [h]
  have := sumN_le L k
  unfold sumN at this
  have := List.length_take (l := L) (i := k)
  omega
theorem okL_eq {L : List (List Ev)} (h : okRow L.flatten = true) : okL L = decide (lev L.flatten = L) := by
  unfold okL
  unfold okRow at h
  rw [h, Bool.true_and]
theorem okL_no {L : List (List Ev)} (h : okRow L.flatten = false) : okL L = false := by
  unfold okL
  unfold okRow at h
  rw [h, Bool.false_and]
end Fo
theorem prE_right {l : List Ev} (h : Fo.rights l = true) : prE l = Fo.bytes l := by unfold prE; rw [if_pos h]
theorem Bld.move {B b : Nat} {bs : List Value} {w w' : World} (h : Bld B b bs w) (hb : Below w.heap.size w w') : Bld B b bs w' := by
  have go : ∀ p, Lib.BuilderAt 220 5 B b p bs w → Lib.BuilderAt 220 5 B b p bs w' := fun p h => by
    obtain ⟨hB, v, hk, ⟨h1, h2⟩, hne⟩ := h
    refine ⟨hB, v, (hb.block b (blk_lt hk)).trans hk, ⟨h1, ?_⟩, hne⟩
    rcases h2 with h2 | ⟨g, cap, cur, a1, a2, a3, a4⟩
    · exact .inl h2
    · exact .inr ⟨g, cap, cur, a1, a2, (hb.block g (blk_lt a3)).trans a3, a4⟩
  exact h.elim (fun h => .inl (go _ h)) (fun h => .inr (go _ h))
theorem u8_conv (n : Nat) (h : n ≤ 200) : (Value.int .u8 (n : Int)) = Value.int .u8 ((UInt8.ofNat n).toNat : Int) := by
  have : (UInt8.ofNat n).toNat = n := by simp; omega
  rw [this]
set_option maxRecDepth 100000 in
set_option maxHeartbeats 4000000 in
theorem fprint_any (w : World) (A : Option Addr) (cap : Nat) (L : List (List Ev)) (h : LvAt w w.heap.size A L) (hl : L.length ≤ 1000000) (ht : L.flatten.length ≤ 1000000) :
    Calls Tryz.prog 81 #[.slice A L.length cap] w fun x w' => x = .returned (.string ⟨(Fo.printL L).toArray⟩) ∧ Below w.heap.size w w' := by
  have hrow := frow_any w A cap L h hl ht
  have hno : Fo.okRow L.flatten = false → Fo.printL L = [] := fun e => by unfold Fo.printL; rw [Fo.okL_no e]; rfl
  have hny : Fo.okRow L.flatten = true → Fo.lev L.flatten ≠ L → Fo.printL L = [] := fun e e2 => by unfold Fo.printL; rw [Fo.okL_eq e, decide_eq_false e2]; rfl
  have hyy : Fo.okRow L.flatten = true → Fo.lev L.flatten = L → Fo.printL L = Fo.encP L ++ [0] ∧ ∀ q ∈ L, q.length ≤ 4 ∧ Fo.rights q = true := fun e e2 => by
    have hk : Fo.okL L = true := by rw [Fo.okL_eq e, decide_eq_true e2]
    refine ⟨by unfold Fo.printL; rw [if_pos hk]; rfl, fun q hq => (Fo.okL_mem hk hq).2⟩
  have hlv : Fo.okRow L.flatten = true → Fo.levR L.flatten = Fo.lev L.flatten := fun e => by unfold Fo.levR; rw [if_pos e]
  have hel := fun k => Fo.encP_len (L := L) k
  have hq4 : ∀ q ∈ Fo.lev L.flatten, q.length ≤ 1000000 := fun q hq => Nat.le_trans (Fo.lev_in_len _ _ hq) ht
  have hl4 : (Fo.lev L.flatten).length ≤ 1000000 := Nat.le_trans (Fo.lev_len_le _) ht
  generalize Fo.printL L = P at *
  generalize L.flatten = R at *
  have HL := Lib.hid h
  have HROW := Lib.hid hrow
  have HNO := Lib.hid hno
  have HNY := Lib.hid hny
  have HYY := Lib.hid hyy
  have HLV := Lib.hid hlv
  have HEL := Lib.hid hel
  have HQ4 := Lib.hid hq4
  have HL4 := Lib.hid hl4
  clear h hrow hno hny hyy hlv hel hq4 hl4
  go_enter Tryz.func81, Tryz.ntmps81
  go_wp2_with fail
  refine HROW.out.mono ?_
  rintro x w1 ⟨A1, cap1, rfl, ⟨hrd, _⟩, hb1⟩
  have hcall := fright_any w1 A1 cap1 R hrd (by omega)
  have hcall2 : ∀ w2, Below w1.heap.size w1 w2 → Calls Tryz.prog 82 #[.slice A1 R.length cap1] w2 (LvOut w2 (Fo.levR R)) := fun w2 hb => levels_any w2 A1 cap1 R (hrd.below hb (Nat.le_refl _)) (by omega)
  generalize hbb : Fo.okRow R = b at *
  have HB1 := Lib.hid hb1
  have HC1 := Lib.hid hcall
  have HC2 := Lib.hid hcall2
  clear hb1 hcall hcall2 hrd hbb
  go_wp2_with fail
  refine HC1.out.mono ?_
  rintro x w2 ⟨rfl, b2⟩
  have hb2 := below_at HB1.out b2
  have hcall := HC2.out w2 b2
  have HB2 := Lib.hid hb2
  cases b with
  | false =>
    clear hcall b2 hb2
    go_wp2_with fail
    go_ret
    exact ⟨by rw [HNO.out (by trivial)]; rfl, HB2.out⟩
  | true =>
    rw [HLV.out (by trivial)] at hcall
    have HC3 := Lib.hid hcall
    clear hcall b2 hb2
    go_wp2_with fail
    refine HC3.out.mono ?_
    rintro x w3 ⟨A3, cap3, rfl, hlv3, b3⟩
    have hb3 := below_at HB2.out b3
    have hcall := equalFunc_any w3 A3 cap3 (Fo.lev R) A cap L hlv3 ((HL.out.below hb3).mono hb3.size) (by have := HL4.out; omega) (fun q hq => by have := HQ4.out q hq; omega)
    have HB3 := Lib.hid hb3
    have HC4 := Lib.hid hcall
    clear hlv3 b3 hb3 hcall
    go_wp2_with fail
    refine HC4.out.mono ?_
    rintro x w4 ⟨rfl, b4⟩
    have HB4 := Lib.hid (below_at HB3.out b4)
    clear b4
    by_cases heq : Fo.lev R = L
    · have hyy := HYY.out (by trivial) heq
      rw [decide_eq_true heq]
      have HEQ := Lib.hid heq
      have HP := Lib.hid hyy.1
      have HQ := Lib.hid hyy.2
      clear heq hyy HC4
      go_upto_region 5 with fail
      obtain ⟨w5, hw5⟩ : ∃ w5, w5 = w4.alloc (Obj.cells #[.pointer none, .slice none 0 0] 220) := ⟨_, rfl⟩
      obtain ⟨X, hX⟩ : ∃ X, X = w4.heap.size := ⟨_, rfl⟩
      have hbld : Bld w.heap.size X (Lib.byteCells (Fo.encP (L.take 0))) w5 := .inl ⟨by have := HB4.out.size; omega, _, by rw [hw5, hX]; exact heap_alloc_new w4 _, ⟨rfl, .inl ⟨rfl, rfl⟩⟩, by simp [Value.ownBlock]⟩
      have hb5 : Below w.heap.size w w5 := by rw [hw5]; exact HB4.out.alloc HB4.out.size _
      rw [← hw5, ← hX]
      have HBLD := Lib.hid hbld
      have HB5 := Lib.hid hb5
      clear hw5 hX hbld hb5
      go_wp2_with fail
      go_loopw [21] (fun v wr => ∃ k : Nat, k ≤ L.length ∧ v = .int .i64 k ∧ Hid (Bld w.heap.size X (Lib.byteCells (Fo.encP (L.take k))) wr) ∧ Below w.heap.size w wr) (fun v _ => L.length - (intOf v).toNat)
      case atStart => exact ⟨0, Nat.zero_le _, rfl, HBLD, HB5.out⟩
      case round =>
        obtain ⟨k, hk, rfl, HBL, hbw⟩ := hrel
        by_cases hlt : k < L.length
        · obtain ⟨g, o, A', c', hA, hg, hP, hcl⟩ := HL.out.cell k hlt
          subst hA
          have v0 := hcl wr hbw
          have k1 : (0 : Int) ≤ (k : Int) := Int.natCast_nonneg _
          have k2 : (k : Int) < (L.length : Int) := by omega
          have hsn := Fo.encP_succ hlt
          obtain ⟨hq4, hqr⟩ := HQ.out L[k] (List.getElem_mem hlt)
          have hel := HEL.out k
          have hel2 := HEL.out (k + 1)
          rw [hsn, List.length_append, List.length_append, List.length_singleton] at hel2
          have hpr : ∀ u, Below w.heap.size w u → Calls Tryz.prog 145 #[.slice A' L[k].length c'] u fun x w' => x = .returned (.string ⟨(Fo.bytes L[k]).toArray⟩) ∧ Below u.heap.size u w' := fun u hu => by
            have := print_any u A' c' L[k] ((hP.below hu).mono hu.size) (by omega)
            rwa [prE_right hqr] at this
          generalize L[k] = q at v0 hsn hq4 hel2 hpr
          generalize Fo.encP (L.take k) = E at HBL hsn hel hel2
          have hby := bld_byte w.heap.size X (Lib.byteCells E) (q.length : Int) wr HBL.out (by rw [Lib.byteCells_length]; omega) hbw.size
          have HBY := Lib.hid hby
          have HPR := Lib.hid hpr
          have HSN := Lib.hid hsn
          have HBW := Lib.hid hbw
          have hwr : IntKind.u8.wrap (q.length : Int) = (q.length : Int) := by unfold IntKind.wrap; simp [IntKind.bits, IntKind.signed]; omega
          clear hby hpr hsn hbw hcl hP hqr
          go_wp2_with fail
          refine HBY.out.mono ?_
          rintro x w6 ⟨rfl, hbl, hb⟩
          have hb6 := HBW.out.trans hb
          have hcall := HPR.out w6 hb6
          have HBL6 := Lib.hid hbl
          have HB6 := Lib.hid hb6
          have HC6 := Lib.hid hcall
          clear hbl hb hb6 hcall HBY
          go_wp2_with fail
          refine HC6.out.mono ?_
          rintro x w7 ⟨rfl, b7⟩
          have hb7 := below_at HB6.out b7
          have hst := bld_str w.heap.size X (Lib.byteCells E ++ [.int .u8 (q.length : Int)]) ⟨(Fo.bytes q).toArray⟩ w7 (HBL6.out.move b7) (by
            rw [List.length_append, Lib.byteCells_length, List.length_singleton]
            have : ByteArray.size ⟨(Fo.bytes q).toArray⟩ = (Fo.bytes q).length := by simp [ByteArray.size]
            omega) hb7.size
          have HST := Lib.hid hst
          have HB7 := Lib.hid hb7
          clear b7 hb7 hst HC6
          go_wp2_with fail
          refine HST.out.mono ?_
          rintro x w8 ⟨rfl, hbl, hb⟩
          have HBL8 := Lib.hid hbl
          have HB8 := Lib.hid (HB7.out.trans hb)
          clear hbl hb HST
          go_wp2_with fail
          go_roundw
          case rel =>
            refine ⟨k + 1, by omega, by go_num, ?_, HB8.out⟩
            rw [HSN.out, Lib.byteCells_append, Lib.byteCells_append]
            have := HBL8.out
            rw [u8_conv q.length (by omega), Lib.strCells_toArray] at this
            exact Lib.hid this
          case measure => simp [intOf]; omega
        · have hkn : k = L.length := by omega
          have hbl := HBL.out
          have hel := HEL.out k
          rw [hkn, List.take_length] at hbl hel
          have hby := bld_byte w.heap.size X (Lib.byteCells (Fo.encP L)) 0 wr hbl (by rw [Lib.byteCells_length]; omega) hbw.size
          have HBY := Lib.hid hby
          have HBW := Lib.hid hbw
          have HK := Lib.hid hkn
          clear hby hbl hbw hkn
          go_wp2_with fail
          refine HBY.out.mono ?_
          rintro x w6 ⟨rfl, hbl, hb⟩
          have hb6 := HBW.out.trans hb
          have hbl2 : Bld w.heap.size X (Lib.byteCells (Fo.encP L ++ [0])) w6 := by rw [Lib.byteCells_append]; exact hbl
          have hst := Tryz.Builder_String_any w.heap.size X (Fo.encP L ++ [0]) w6 hbl2 hb6.size
          change Calls Tryz.prog 146 _ _ _ at hst
          rw [← HP.out] at hst
          have HST := Lib.hid hst
          have HB6 := Lib.hid hb6
          clear hb hbl hbl2 hb6 hst HBY
          go_wp2_with fail
          refine HST.out.mono ?_
          rintro x w7 ⟨rfl, hb⟩
          have HB7 := Lib.hid (HB6.out.trans hb)
          clear hb HST
          go_wp2_with fail
          go_ret
          exact ⟨rfl, HB7.out⟩
    · have hny := HNY.out (by trivial) heq
      rw [decide_eq_false heq]
      have HNN := Lib.hid hny
      clear heq hny HC4
      go_wp2_with fail
      go_ret
      exact ⟨by rw [HNN.out]; rfl, HB4.out⟩
set_option maxRecDepth 100000 in
theorem fkey_any (w : World) (A : Option Addr) (cap : Nat) (l : List Ev) (hr : Rd w 4 A l.length (l.flatMap encE)) (hl : l.length < 4611686018427387904) :
    Calls Tryz.prog 46 #[.slice A l.length cap] w fun x w' => x = .returned (.string ⟨(Fo.key l).toArray⟩) ∧ Below w.heap.size w w' := by
  have hcall := fright_any w A cap l hr hl
  have hcall2 : ∀ w2, Below w.heap.size w w2 → Calls Tryz.prog 82 #[.slice A l.length cap] w2 (LvOut w2 (Fo.levR l)) := fun w2 hb => levels_any w2 A cap l (hr.below hb (Nat.le_refl _)) hl
  have hno : Fo.okRow l = false → Fo.key l = [] := fun e => by unfold Fo.key; rw [if_neg (by rw [e]; decide)]
  have hyes : Fo.okRow l = true → Fo.key l = Fo.printL (Fo.lev l) ∧ Fo.levR l = Fo.lev l ∧ l.length ≤ 200 := fun e => by
    refine ⟨by unfold Fo.key; rw [if_pos e], by unfold Fo.levR; rw [if_pos e], ?_⟩
    unfold Fo.okRow at e
    simp at e
    exact e.1
  have hfl := (Fo.lev_flat l).length_eq
  have hle := Fo.lev_len_le l
  generalize Fo.key l = K at *
  generalize Fo.okRow l = b at *
  have HC1 := Lib.hid hcall
  have HC2 := Lib.hid hcall2
  have HNO := Lib.hid hno
  have HYES := Lib.hid hyes
  have HFL := Lib.hid hfl
  have HLE := Lib.hid hle
  clear hcall hcall2 hno hyes hfl hle hr
  go_enter Tryz.func46, Tryz.ntmps46
  go_wp2_with fail
  refine HC1.out.mono ?_
  rintro x w1 ⟨rfl, b1⟩
  have HB1 := Lib.hid b1
  cases b with
  | false =>
    clear b1
    go_wp2_with fail
    go_ret
    exact ⟨by rw [HNO.out (by trivial)]; rfl, HB1.out⟩
  | true =>
    obtain ⟨h1, h2, h3⟩ := HYES.out (by trivial)
    have hcall := HC2.out w1 b1
    rw [h2] at hcall
    have HC3 := Lib.hid hcall
    have HK := Lib.hid h1
    clear b1 hcall h1 h2
    go_wp2_with fail
    refine HC3.out.mono ?_
    rintro x w2 ⟨A2, cap2, rfl, hlv, b2⟩
    have hpr := fprint_any w2 A2 cap2 (Fo.lev l) hlv (by have := HLE.out; omega) (by rw [HFL.out]; omega)
    rw [← HK.out] at hpr
    have HP := Lib.hid hpr
    have HB2 := Lib.hid (below_at HB1.out b2)
    clear hlv b2 hpr
    go_wp2_with fail
    refine HP.out.mono ?_
    rintro x w3 ⟨rfl, b3⟩
    have HB3 := Lib.hid (below_at HB2.out b3)
    clear b3
    go_wp2_with fail
    go_ret
    exact ⟨rfl, HB3.out⟩
end Go.Proofs.YtckdofjpoajblaaGreat
namespace Go.Proofs.YtckdofjpoajblaaGreat
open Go.RowKit
set_option linter.unusedVariables false
set_option maxRecDepth 100000 in
set_option maxHeartbeats 4000000 in
theorem refRightL_any (w : World) (A : Option Addr) (cap : Nat) (L : List (List Ev)) (h : LvAt w w.heap.size A L) (hl : L.length ≤ 1000000) (ht : L.flatten.length ≤ 1000000) :
    Calls Tryz.prog 200 #[.slice A L.length cap] w fun x w' => x = .returned (.bool (Fo.okL L)) ∧ Below w.heap.size w w' := by
  have hrow := refRow_any w A cap L h hl ht
  have hemp : ∀ q ∈ L, q.length = 0 → Fo.okL L = false := fun q hq h0 => by
    cases hb : Fo.okL L with
    | false => rfl
    | true => have := (Fo.okL_mem hb hq).1; omega
  have hno : Fo.okRow L.flatten = false → Fo.okL L = false := Fo.okL_no
  have hyes : Fo.okRow L.flatten = true → Fo.okL L = decide (Fo.lev L.flatten = L) ∧ Fo.levR L.flatten = Fo.lev L.flatten := fun e => ⟨Fo.okL_eq e, by unfold Fo.levR; rw [if_pos e]⟩
  have hok : Fo.okRow L.flatten = (decide (L.flatten.length ≤ 200) && Fo.rights L.flatten) := rfl
  have hq4 : ∀ q ∈ Fo.lev L.flatten, q.length ≤ 1000000 := fun q hq => Nat.le_trans (Fo.lev_in_len _ _ hq) ht
  have hl4 : (Fo.lev L.flatten).length ≤ 1000000 := Nat.le_trans (Fo.lev_len_le _) ht
  generalize Fo.okL L = K at *
  generalize L.flatten = R at *
  have HL := Lib.hid h
  have HROW := Lib.hid hrow
  have HEMP := Lib.hid hemp
  have HNO := Lib.hid hno
  have HYES := Lib.hid hyes
  have HOK := Lib.hid hok
  have HQ4 := Lib.hid hq4
  have HL4 := Lib.hid hl4
  clear h hrow hemp hno hyes hok hq4 hl4
  go_enter Tryz.func200, Tryz.ntmps200
  go_wp2_with fail
  go_loopw [3] (fun v wr => ∃ k : Nat, k ≤ L.length ∧ v = .int .i64 k ∧ w = wr) (fun v _ => L.length - (intOf v).toNat)
  case atStart => exact ⟨0, Nat.zero_le _, rfl, rfl⟩
  case round =>
    obtain ⟨k, hk, rfl, rfl⟩ := hrel
    by_cases hlt : k < L.length
    · obtain ⟨g, o, A', c', rfl, hg, hP, hcl⟩ := HL.out.cell k hlt
      have v0 := hcl w (Below.refl _ _)
      have k1 : (0 : Int) ≤ (k : Int) := Int.natCast_nonneg _
      have k2 : (k : Int) < (L.length : Int) := by omega
      have hem := HEMP.out L[k] (List.getElem_mem hlt)
      generalize L[k] = q at v0 hem
      clear hcl hP
      generalize q.length = m at *
      by_cases hz : m = 0
      · have e1 : ((m : Int) == 0) = true := by simp; omega
        have HF := Lib.hid (hem hz)
        clear hem hz
        go_wp2_with fail
        go_ret
        exact ⟨by rw [HF.out]; rfl, Below.refl _ _⟩
      · have e1 : ((m : Int) == 0) = false := by simp; omega
        clear hem hz
        go_wp2_with fail
        go_roundw
        case rel => exact ⟨k + 1, by omega, by go_num, by trivial⟩
        case measure => simp [intOf]; omega
    · have hkn : ¬ (k : Int) < (L.length : Int) := by omega
      go_wp2_with fail
      refine HROW.out.mono ?_
      rintro x w1 ⟨A1, cap1, rfl, ⟨hrd, _⟩, hb1⟩
      have hc1 := rows_any w1 A1 cap1 R hrd (by omega)
      have hc2 : ∀ w2, Below w1.heap.size w1 w2 → Calls Tryz.prog 157 #[.slice A1 R.length cap1] w2 (LvOut w2 (Fo.levR R)) := fun w2 hb => refLevels_any w2 A1 cap1 R (hrd.below hb (Nat.le_refl _)) (by omega)
      have HB1 := Lib.hid hb1
      have HC1 := Lib.hid hc1
      have HC2 := Lib.hid hc2
      clear hb1 hrd hc1 hc2
      by_cases h200 : R.length ≤ 200
      · have hn : (R.length : Int) ≤ 200 := by omega
        have hok2 : Fo.okRow R = Fo.rights R := by rw [HOK.out, decide_eq_true h200, Bool.true_and]
        have HO2 := Lib.hid hok2
        clear hok2 h200
        obtain ⟨b, hb⟩ : ∃ b, b = Fo.rights R := ⟨_, rfl⟩
        rw [← hb] at HC1 HO2
        clear hb
        go_wp2_with fail
        refine HC1.out.mono ?_
        rintro x w2 ⟨rfl, b2⟩
        have hb2 := below_at HB1.out b2
        have HB2 := Lib.hid hb2
        cases b with
        | false =>
          clear b2 hb2
          go_wp2_with fail
          go_ret
          exact ⟨by rw [HNO.out HO2.out]; rfl, HB2.out⟩
        | true =>
          obtain ⟨h1, h2⟩ := HYES.out HO2.out
          have hcall := HC2.out w2 b2
          rw [h2] at hcall
          have HC3 := Lib.hid hcall
          have HK := Lib.hid h1
          clear hcall h1 h2 b2 hb2
          go_wp2_with fail
          refine HC3.out.mono ?_
          rintro x w3 ⟨A3, cap3, rfl, hlv3, b3⟩
          have hb3 := below_at HB2.out b3
          have hcall := same_any w3 A3 cap3 (Fo.lev R) A cap L hlv3 ((HL.out.below hb3).mono hb3.size) (by have := HL4.out; omega) (fun q hq => by have := HQ4.out q hq; omega)
          rw [← HK.out] at hcall
          have HB3 := Lib.hid hb3
          have HC4 := Lib.hid hcall
          clear hlv3 b3 hb3 hcall
          go_wp2_with fail
          refine HC4.out.mono ?_
          rintro x w4 ⟨rfl, b4⟩
          have HB4 := Lib.hid (below_at HB3.out b4)
          clear b4
          go_wp2_with fail
          go_ret
          exact ⟨rfl, HB4.out⟩
      · have hn : ¬ (R.length : Int) ≤ 200 := by omega
        have hok2 : Fo.okRow R = false := by rw [HOK.out, decide_eq_false h200, Bool.false_and]
        have HO2 := Lib.hid hok2
        clear hok2 h200
        go_wp2_with fail
        go_ret
        exact ⟨by rw [HNO.out HO2.out]; rfl, HB1.out⟩
end Go.Proofs.YtckdofjpoajblaaGreat
namespace Go.Proofs.YtckdofjpoajblaaGreat
open Go.RowKit
set_option linter.unusedVariables false
set_option maxRecDepth 100000 in
set_option maxHeartbeats 4000000 in
theorem refPrintL_any (w : World) (A : Option Addr) (cap : Nat) (L : List (List Ev)) (h : LvAt w w.heap.size A L) (hl : L.length ≤ 1000000) (ht : L.flatten.length ≤ 1000000) :
    Calls Tryz.prog 156 #[.slice A L.length cap] w fun x w' => x = .returned (.string ⟨(Fo.printL L).toArray⟩) ∧ Below w.heap.size w w' := by
  have hcall := refRightL_any w A cap L h hl ht
  have hno : Fo.okL L = false → Fo.printL L = [] := fun e => by unfold Fo.printL; rw [if_neg (by rw [e]; decide)]
  have hyes : Fo.okL L = true → Fo.printL L = Fo.encP L ++ [0] ∧ ∀ q ∈ L, q.length ≤ 4 ∧ Fo.rights q = true := fun hk => ⟨by unfold Fo.printL; rw [if_pos hk]; rfl, fun q hq => (Fo.okL_mem hk hq).2⟩
  have hel : ∀ k, (Fo.encP (L.take k)).length ≤ 2000000 := fun k => by have := Fo.encP_len (L := L) k; omega
  generalize Fo.okL L = b at *
  generalize Fo.printL L = P at *
  have HL := Lib.hid h
  have HC1 := Lib.hid hcall
  have HNO := Lib.hid hno
  have HYES := Lib.hid hyes
  have HEL := Lib.hid hel
  clear h hcall hno hyes ht hel
  go_enter Tryz.func156, Tryz.ntmps156
  go_wp2_with fail
  refine HC1.out.mono ?_
  rintro x w1 ⟨rfl, b1⟩
  have HB1 := Lib.hid b1
  clear b1
  cases b with
  | false =>
    go_wp2_with fail
    go_ret
    exact ⟨by rw [HNO.out (by trivial)]; rfl, HB1.out⟩
  | true =>
    obtain ⟨h1, h2⟩ := HYES.out (by trivial)
    have HP := Lib.hid h1
    have HQ := Lib.hid h2
    clear h1 h2
    go_wp2_with fail
    go_loopw [3, 4] (fun v3 v wr => ∃ k : Nat, k ≤ L.length ∧ v = .int .i64 k ∧ v3 = .string ⟨(Fo.encP (L.take k)).toArray⟩ ∧ Below w.heap.size w wr) (fun _ v _ => L.length - (intOf v).toNat)
    case atStart => exact ⟨0, Nat.zero_le _, rfl, rfl, HB1.out⟩
    case round =>
      obtain ⟨k, hk, rfl, rfl, hbw⟩ := hrel
      by_cases hlt : k < L.length
      · obtain ⟨g, o, A', c', hA, hg, hP, hcl⟩ := HL.out.cell k hlt
        subst hA
        have v0 := hcl wr hbw
        have k1 : (0 : Int) ≤ (k : Int) := Int.natCast_nonneg _
        have k2 : (k : Int) < (L.length : Int) := by omega
        have hsn := Fo.encP_succ hlt
        obtain ⟨hq4, hqr⟩ := HQ.out L[k] (List.getElem_mem hlt)
        have hpr : ∀ u, Below w.heap.size w u → Calls Tryz.prog 201 #[.slice A' L[k].length c'] u fun x w' => x = .returned (.string ⟨(Fo.bytes L[k]).toArray⟩) ∧ Below u.heap.size u w' := fun u hu => by
          have := refPrint_any u A' c' L[k] ((hP.below hu).mono hu.size) (by omega)
          rwa [prE_right hqr] at this
        have hu8 := u8_conv L[k].length (by omega)
        have hel := HEL.out k
        generalize L[k] = q at v0 hsn hq4 hpr hu8
        generalize Fo.encP (L.take k) = E at hsn hel
        have HPR := Lib.hid hpr
        have HSN := Lib.hid hsn
        have HBW := Lib.hid hbw
        have hwr : IntKind.u8.wrap (q.length : Int) = (q.length : Int) := by unfold IntKind.wrap; simp [IntKind.bits, IntKind.signed]; omega
        have lg : g < wr.heap.size := by have := hbw.size; omega
        have hrow : ∀ V : World, Row (V.alloc (Obj.cells #[.int .u8 (q.length : Int)] 5)) 5 1 (some ⟨V.heap.size, 0, none⟩) 1 1 (byteVs [UInt8.ofNat q.length]) := fun V => by
          rw [hu8]
          exact ⟨rfl, Nat.le_refl _, by unfold maxLen; omega, fun h => (by cases h), fun a ha => by injection ha with ha; subst ha; exact ⟨rfl, _, heap_alloc_new V _, by simp, rfl⟩⟩
        have hconv : ∀ V u : World, Mod (fun _ => False) (V.alloc (Obj.cells #[.int .u8 (q.length : Int)] 5)) u → (convert 43 9 (.slice (some ⟨V.heap.size, 0, none⟩) 1 1)).run Tryz.prog u = .ok (.string ⟨#[UInt8.ofNat q.length]⟩) u := fun V u hu =>
          conv_bytes ((hrow V).mod hu (fun _ _ => id)) 43 9 Tryz.underlying43 Tryz.underlying5 Tryz.underlying9
        have hfin : Value.string (⟨E.toArray⟩ ++ (⟨#[UInt8.ofNat q.length]⟩ ++ ⟨(Fo.bytes q).toArray⟩)) = .string ⟨(E ++ [UInt8.ofNat q.length] ++ Fo.bytes q).toArray⟩ := by
          congr 1
          apply ByteArray.ext
          apply Array.toList_inj.1
          simp [ByteArray.data_append]
        have HCV := Lib.hid hconv
        have HFIN := Lib.hid hfin
        generalize UInt8.ofNat q.length = u8 at HSN HCV HFIN
        have z0 : ByteArray.size ⟨E.toArray⟩ ≤ 2000000 := by simpa [ByteArray.size] using hel
        have z1 : ByteArray.size ⟨#[u8]⟩ = 1 := rfl
        have z2 : ByteArray.size ⟨(Fo.bytes q).toArray⟩ ≤ 4 := by unfold Fo.bytes; simp [ByteArray.size]; omega
        generalize (⟨#[u8]⟩ : ByteArray) = t1 at HCV HFIN z1
        generalize (⟨(Fo.bytes q).toArray⟩ : ByteArray) = t2 at HPR HFIN z2
        generalize (⟨E.toArray⟩ : ByteArray) = t0 at HFIN z0 ⊢
        have s1 : ¬ (9223372036854775807 < t1.size + t2.size) := by omega
        have s2 : ¬ (9223372036854775807 < t0.size + (t1.size + t2.size)) := by omega
        have s3 : ¬ (9223372036854775807 < t0.size + (t1 ++ t2).size) := by rw [ByteArray.size_append]; omega
        clear z0 z1 z2 hel
        clear hpr hsn hbw hcl hP hqr hrow hconv hu8 hfin
        go_wp2_with fail
        refine wp_region_pt (by kernel_rfl) (fun u => Mod (fun _ => False) wr u) [] (.cons 0 .pure (.cons 1 .pure (.cons 2 .pure (.cons 3 .pure (.cons 4 .load (.cons 5 .pure (.cons 6 .pure (.cons 9 .pure (.cons 10 .pure (.cons 11 .pure (.cons 12 .load (.fork 7 (.cons 8 .load (.cons 13 .eff (.cons 14 .pure (.cons 15 .pure (.cons 16 .pure .nil))))) 13 (.cons 7 .eff (.cons 8 .load (.cons 14 .pure (.cons 15 .pure (.cons 16 .pure .nil))))))))))))))))) (by simp only [PT.map, List.getElem?_toArray, List.getElem?_cons_succ, List.getElem?_cons_zero]; rfl) (by kernel_rfl) (fun _ _ d _ _ h => by cases d <;> exact h) ((Mod.refl _ _).drew) ?_
        repeat (first
          | (refine pt_pure (v := ?_) (by rfl) (fun w1 => ?_) ?_
             rotate_left
             · go_simp <;> with_reducible rfl
             simp only [Act.put, List.setIfInBounds_toArray, List.set_cons_zero, List.set_cons_succ])
          | (refine pt_off (by rfl) ?_
             simp only [Act.put, List.setIfInBounds_toArray, List.set_cons_zero, List.set_cons_succ])
          | (refine pt_load_off (by rfl) ?_
             simp only [Act.put, List.setIfInBounds_toArray, List.set_cons_zero, List.set_cons_succ])
          | (refine pt_load (v := ?_) (by rfl) (fun w1 hw1 => ?_) ?_
             rotate_left
             · (have q0 := (hw1.cell g (o + k) lg id).trans v0
                clear hw1
                go_simp <;> with_reducible rfl)
             simp only [Act.put, List.setIfInBounds_toArray, List.set_cons_zero, List.set_cons_succ]))
        refine pt_fork ?_ ?_
        · go_wp2_with fail
          refine pt_on (S' := fun u => Mod (fun _ => False) (wr.alloc (Obj.cells #[.int .u8 (q.length : Int)] 5)) u) (fun u h => ((Mod.refl _ _).alloc _).trans h) (by first | exact Mod.refl _ _ | exact (Mod.refl _ _).drew) ?_
          repeat (first
            | (refine pt_pure (v := ?_) (by rfl) (fun w1 => ?_) ?_
               rotate_left
               · go_simp <;> with_reducible rfl
               simp only [Act.put, List.setIfInBounds_toArray, List.set_cons_zero, List.set_cons_succ])
            | (refine pt_off (by rfl) ?_
               simp only [Act.put, List.setIfInBounds_toArray, List.set_cons_zero, List.set_cons_succ])
            | (refine pt_load_off (by rfl) ?_
               simp only [Act.put, List.setIfInBounds_toArray, List.set_cons_zero, List.set_cons_succ])
            | (refine pt_load (v := ?_) (by rfl) (fun w1 hw1 => ?_) ?_
               rotate_left
               · (have q0 := HCV.out wr w1 hw1
                  clear hw1
                  go_simp <;> with_reducible rfl)
               simp only [Act.put, List.setIfInBounds_toArray, List.set_cons_zero, List.set_cons_succ]))
          refine pt_eff ?_
          go_wp2_with fail
          refine (HPR.out _ (by first | exact (HBW.out.alloc HBW.out.size _).drew | exact (HBW.out.drew).alloc HBW.out.size _)).mono ?_
          rintro x w7 ⟨rfl, b7⟩
          have HB7 := Lib.hid (below_at (w := w) (by first | exact (HBW.out.alloc HBW.out.size _).drew | exact (HBW.out.drew).alloc HBW.out.size _) b7)
          have hm7 : Mod (fun _ => False) (wr.alloc (Obj.cells #[.int .u8 (q.length : Int)] 5)) w7 := (Mod.refl (fun _ => False) (wr.alloc (Obj.cells #[.int .u8 (q.length : Int)] 5))).drew.trans ((Mod.of_below_size b7 (fun _ => False)))
          clear b7
          go_wp2_with fail
          refine pt_on (S' := fun u => Mod (fun _ => False) w7 u) (fun u h => hm7.trans h) (Mod.refl _ _) ?_
          repeat (first
            | (refine pt_pure (v := ?_) (by rfl) (fun w1 => ?_) ?_
               rotate_left
               · go_simp <;> with_reducible rfl
               simp only [Act.put, List.setIfInBounds_toArray, List.set_cons_zero, List.set_cons_succ])
            | (refine pt_off (by rfl) ?_
               simp only [Act.put, List.setIfInBounds_toArray, List.set_cons_zero, List.set_cons_succ])
            | (refine pt_load_off (by rfl) ?_
               simp only [Act.put, List.setIfInBounds_toArray, List.set_cons_zero, List.set_cons_succ])
            | (refine pt_load (v := ?_) (by rfl) (fun w1 hw1 => ?_) ?_
               rotate_left
               · (skip
                  clear hw1
                  go_simp <;> with_reducible rfl)
               simp only [Act.put, List.setIfInBounds_toArray, List.set_cons_zero, List.set_cons_succ]))
          refine pt_end ?_
          go_wp2_with fail
          go_roundw
          case rel => exact ⟨k + 1, by omega, by go_num, by rw [HSN.out]; exact HFIN.out, HB7.out⟩
          case measure => simp [intOf]; omega
        · go_wp2_with fail
          refine (HPR.out _ HBW.out.drew).mono ?_
          rintro x w7 ⟨rfl, b7⟩
          have HB7 := Lib.hid (below_at HBW.out.drew b7)
          have hm7 : Mod (fun _ => False) wr w7 := (Mod.refl (fun _ => False) wr).drew.trans (Mod.of_below_size b7 (fun _ => False))
          have v7 := (World.cell?_of_block (b7.block g lg)).trans v0
          clear b7
          go_wp2_with fail
          refine pt_on (S' := fun u => Mod (fun _ => False) w7 u) (fun u h => hm7.trans h) (Mod.refl _ _) ?_
          refine pt_eff ?_
          go_wp2_with fail
          refine pt_on (S' := fun u => Mod (fun _ => False) (w7.alloc (Obj.cells #[.int .u8 (q.length : Int)] 5)) u) (fun u h => ((Mod.refl _ _).alloc _).trans h) (by first | exact Mod.refl _ _ | exact (Mod.refl _ _).drew) ?_
          repeat (first
            | (refine pt_pure (v := ?_) (by rfl) (fun w1 => ?_) ?_
               rotate_left
               · go_simp <;> with_reducible rfl
               simp only [Act.put, List.setIfInBounds_toArray, List.set_cons_zero, List.set_cons_succ])
            | (refine pt_off (by rfl) ?_
               simp only [Act.put, List.setIfInBounds_toArray, List.set_cons_zero, List.set_cons_succ])
            | (refine pt_load_off (by rfl) ?_
               simp only [Act.put, List.setIfInBounds_toArray, List.set_cons_zero, List.set_cons_succ])
            | (refine pt_load (v := ?_) (by rfl) (fun w1 hw1 => ?_) ?_
               rotate_left
               · (have q0 := HCV.out w7 w1 hw1
                  clear hw1
                  go_simp <;> with_reducible rfl)
               simp only [Act.put, List.setIfInBounds_toArray, List.set_cons_zero, List.set_cons_succ]))
          refine pt_end ?_
          go_wp2_with fail
          go_roundw
          case rel => exact ⟨k + 1, by omega, by go_num, by rw [HSN.out]; exact HFIN.out, by first | exact HB7.out.alloc HB7.out.size _ | exact (HB7.out.alloc HB7.out.size _).drew⟩
          case measure => simp [intOf]; omega
      · have hkn : k = L.length := by omega
        have hel := HEL.out k
        rw [hkn, List.take_length] at hel ⊢
        have hrow : Row (wr.alloc (Obj.cells #[.int .u8 0] 5)) 5 1 (some ⟨wr.heap.size, 0, none⟩) 1 1 (byteVs [0]) :=
          ⟨rfl, Nat.le_refl _, by unfold maxLen; omega, fun h => (by cases h), fun a ha => by injection ha with ha; subst ha; exact ⟨rfl, _, heap_alloc_new wr _, by simp, rfl⟩⟩
        have hconv := conv_bytes hrow 43 9 Tryz.underlying43 Tryz.underlying5 Tryz.underlying9
        have hfin : Value.string (⟨(Fo.encP L).toArray⟩ ++ ⟨[(0 : UInt8)].toArray⟩) = .string ⟨P.toArray⟩ := by
          rw [HP.out]
          refine congrArg Value.string (ByteArray.ext (Array.toList_inj.1 ?_))
          simp [ByteArray.data_append]
        have z0 : ByteArray.size ⟨(Fo.encP L).toArray⟩ ≤ 2000000 := by simpa [ByteArray.size] using hel
        have z1 : ByteArray.size ⟨[(0 : UInt8)].toArray⟩ = 1 := rfl
        have hlt' : ¬ (L.length : Int) < (L.length : Int) := by omega
        generalize (⟨(Fo.encP L).toArray⟩ : ByteArray) = t0 at hfin z0 ⊢
        generalize (⟨[(0 : UInt8)].toArray⟩ : ByteArray) = t1 at hconv hfin z1
        have s1 : ¬ (9223372036854775807 < t0.size + t1.size) := by omega
        have HFIN := Lib.hid hfin
        have HB9 := Lib.hid (hbw.alloc hbw.size (Obj.cells #[.int .u8 0] 5))
        clear hfin hrow hel hkn hbw z0 z1 hlt
        go_wp2_with fail
        go_ret
        exact ⟨by rw [← HFIN.out]; rfl, HB9.out⟩
set_option maxRecDepth 100000 in
theorem refKey_any (w : World) (A : Option Addr) (cap : Nat) (l : List Ev) (hr : Rd w 4 A l.length (l.flatMap encE)) (hl : l.length < 4611686018427387904) :
    Calls Tryz.prog 95 #[.slice A l.length cap] w fun x w' => x = .returned (.string ⟨(Fo.key l).toArray⟩) ∧ Below w.heap.size w w' := by
  have hcall := rows_any w A cap l hr hl
  have hcall2 : ∀ w2, Below w.heap.size w w2 → Calls Tryz.prog 157 #[.slice A l.length cap] w2 (LvOut w2 (Fo.levR l)) := fun w2 hb => refLevels_any w2 A cap l (hr.below hb (Nat.le_refl _)) hl
  have hok : Fo.okRow l = (decide (l.length ≤ 200) && Fo.rights l) := rfl
  have hno : Fo.okRow l = false → Fo.key l = [] := fun e => by unfold Fo.key; rw [if_neg (by rw [e]; decide)]
  have hyes : Fo.okRow l = true → Fo.key l = Fo.printL (Fo.lev l) ∧ Fo.levR l = Fo.lev l := fun e => ⟨by unfold Fo.key; rw [if_pos e], by unfold Fo.levR; rw [if_pos e]⟩
  have hfl := (Fo.lev_flat l).length_eq
  have hle := Fo.lev_len_le l
  generalize Fo.key l = K at *
  generalize Fo.okRow l = ok at *
  generalize Fo.rights l = b at *
  have HC1 := Lib.hid hcall
  have HC2 := Lib.hid hcall2
  have HNO := Lib.hid hno
  have HYES := Lib.hid hyes
  have HFL := Lib.hid hfl
  have HLE := Lib.hid hle
  have HOK := Lib.hid hok
  clear hcall hcall2 hno hyes hfl hle hr hok
  go_enter Tryz.func95, Tryz.ntmps95
  go_wp2_with fail
  refine HC1.out.mono ?_
  rintro x w1 ⟨rfl, b1⟩
  have HB1 := Lib.hid b1
  cases b with
  | false =>
    clear b1
    go_wp2_with fail
    go_ret
    exact ⟨by rw [HNO.out (by rw [HOK.out, Bool.and_false])]; rfl, HB1.out⟩
  | true =>
    by_cases h200 : l.length ≤ 200
    · obtain ⟨h1, h2⟩ := HYES.out (by rw [HOK.out, decide_eq_true h200]; rfl)
      have hcall := HC2.out w1 b1
      rw [h2] at hcall
      have HC3 := Lib.hid hcall
      have HK := Lib.hid h1
      have hn : ¬ (200 : Int) < (l.length : Int) := by omega
      clear b1 hcall h1 h2
      go_wp2_with fail
      refine HC3.out.mono ?_
      rintro x w2 ⟨A2, cap2, rfl, hlv, b2⟩
      have hpr := refPrintL_any w2 A2 cap2 (Fo.lev l) hlv (by have := HLE.out; omega) (by rw [HFL.out]; omega)
      rw [← HK.out] at hpr
      have HP := Lib.hid hpr
      have HB2 := Lib.hid (below_at HB1.out b2)
      clear hlv b2 hpr
      go_wp2_with fail
      refine HP.out.mono ?_
      rintro x w3 ⟨rfl, b3⟩
      have HB3 := Lib.hid (below_at HB2.out b3)
      clear b3
      go_wp2_with fail
      go_ret
      exact ⟨rfl, HB3.out⟩
    · have hn : (200 : Int) < (l.length : Int) := by omega
      have HN := Lib.hid h200
      clear b1 h200
      go_wp2_with fail
      go_ret
      exact ⟨by rw [HNO.out (by rw [HOK.out, decide_eq_false HN.out]; rfl)]; rfl, HB1.out⟩
end Go.Proofs.YtckdofjpoajblaaGreat
namespace Go.Proofs.YtckdofjpoajblaaGreat
open Go.RowKit
set_option linter.unusedVariables false
namespace Fo
end Fo
end Go.Proofs.YtckdofjpoajblaaGreat
namespace Go.Proofs.YtckdofjpoajblaaGreat
open Go.RowKit
set_option linter.unusedVariables false
end Go.Proofs.YtckdofjpoajblaaGreat
namespace Go.Proofs.YtckdofjpoajblaaGreat
open Go.RowKit
set_option linter.unusedVariables false
namespace Pr
def may (p : Pg) (f : Int) : Prop := Ok p ∧ 0 ≤ f ∧ f ≤ 8
instance (p : Pg) (f : Int) : Decidable (may p f) := by unfold may; infer_instance
end Pr
def PgIn (w : World) (p : Pg) (A : Option Addr) : Prop := CdAt w (fun k => k < w.heap.size) A p.code ∧ p.code.length ≤ maxLen ∧ ∀ q ∈ p.code, q.length ≤ maxLen
theorem PgIn.below {w w' : World} {p : Pg} {A : Option Addr} (h : PgIn w p A) (hb : Below w.heap.size w w') : PgIn w' p A := ⟨(h.1.below hb).imp (fun k hk => by have := hb.size; omega), h.2⟩
end Go.Proofs.YtckdofjpoajblaaGreat
namespace Go.Proofs.YtckdofjpoajblaaGreat
set_option linter.unusedVariables false
namespace Pr
def nth (s : St) (x : Th) (i : Ins) : Th :=
  if i.k = 1 then { tick x with r := updI x.r i.r.toNat (s.v i.x.toNat) } else if i.k = 3 then { tick x with r := updI x.r i.r.toNat i.n }
  else if i.k = 4 then { tick x with r := updI x.r i.r.toNat (RowKit.wrap64 (x.r i.r.toNat + i.n)) } else if i.k = 7 then (if x.r i.r.toNat = 0 then tick x else { tick x with pc := i.x.toNat }) else tick x
def nv (s : St) (x : Th) (i : Ins) : Nat → Int := if i.k = 2 then updI s.v i.x.toNat (x.r i.r.toNat) else s.v
def nh (s : St) (t : Nat) (i : Ins) : Nat → Int := if i.k = 5 then updI s.h i.x.toNat (t : Int) else if i.k = 6 ∧ s.h i.x.toNat = (t : Int) then updI s.h i.x.toNat (-1) else s.h
theorem doI_eq {s : St} {t : Nat} {x : Th} (i : Ins) (hx : s.th[t]? = some x) (hk : 1 ≤ i.k ∧ i.k ≤ 8) : doI s t i = ⟨s.p, s.th.set t (nth s x i), nv s x i, nh s t i⟩ := by
  have hd : doI s t i = deed { s with th := s.th.set t (tick x) } t (tick x) i := by unfold doI; rw [hx]
  rw [hd]
  obtain ⟨k, r, m, n⟩ := i
  simp only at hk
  rcases (show k = 1 ∨ k = 2 ∨ k = 3 ∨ k = 4 ∨ k = 5 ∨ k = 6 ∨ k = 7 ∨ k = 8 by omega) with rfl | rfl | rfl | rfl | rfl | rfl | rfl | rfl
  · simp [deed, regs, nth, nv, nh, tick]
  · simp [deed, nth, nv, nh, tick]
  · simp [deed, regs, nth, nv, nh, tick]
  · simp [deed, regs, nth, nv, nh, tick]
  · simp [deed, nth, nv, nh, tick]
  · simp only [deed, nth, nv, nh]
    by_cases h : s.h m.toNat = (t : Int) <;> simp [h]
  · simp only [deed, nth, nv, nh, tick]
    by_cases h : x.r r.toNat = 0 <;> simp [h]
  · simp [deed, nth, nv, nh]
structure Can (s : St) (t : Nat) (x : Th) (i : Ins) : Prop where
  th : s.th[t]? = some x
  ins : Pr.ins s t = some i
  en : enabled s t = true
theorem can_of {s : St} {t : Nat} (h : enabled s t = true) : ∃ x i, Can s t x i := by
  obtain ⟨e, i, _, hi, _⟩ := enabled_next h
  have hi' := hi
  unfold Pr.ins at hi
  split at hi
  · rename_i x c hx hc
    exact ⟨x, i, hx, hi', h⟩
  · cases hi
end Pr
end Go.Proofs.YtckdofjpoajblaaGreat
namespace Go.Proofs.YtckdofjpoajblaaGreat
set_option linter.unusedVariables false
namespace Pr
inductive Ex : St → List Ev → St → Prop
  | nil (s : St) : Ex s [] s
  | cons {s s' : St} {l : List Ev} (t : Nat) (e : Ev) : enabled s t = true → next s t = some e → Ex (stepS s t) l s' → Ex s (e :: l) s'
theorem en_lt {s : St} {t : Nat} (h : enabled s t = true) : t < s.th.length := by
  obtain ⟨x, i, hc⟩ := can_of h
  exact (List.getElem?_eq_some_iff.1 hc.th).1
theorem stepS_can {s : St} {t : Nat} {x : Th} {i : Ins} (h : Can s t x i) : stepS s t = doI s t i := by unfold stepS; rw [h.ins]
end Pr
end Go.Proofs.YtckdofjpoajblaaGreat
namespace Go.Proofs.YtckdofjpoajblaaGreat
set_option linter.unusedVariables false
namespace Pr
def fuels (s : St) : Nat := (s.th.map Th.fuel).sum
theorem sum_set {l : List Nat} : ∀ {t x y : Nat}, l[t]? = some x → y + 1 = x → (l.set t y).sum + 1 = l.sum := by
  induction l with
  | nil => intro t x y h; cases h
  | cons a l ih =>
    intro t x y h e
    cases t with
    | zero => simp at h; subst h; simp; omega
    | succ t => simp at h; have := ih h e; simp; omega
theorem fuels_step {s : St} {t : Nat} (hw : Wf s) (h : enabled s t = true) : fuels (stepS s t) + 1 = fuels s := by
  obtain ⟨x, i, hc⟩ := can_of h
  obtain ⟨n, h0, h8, hok⟩ := hw.insOk hc.ins
  rw [stepS_can hc, doI_eq i hc.th ⟨hok.1, hok.2.1⟩]
  unfold fuels
  rw [List.map_set]
  refine sum_set (x := x.fuel) (by rw [List.getElem?_map, hc.th]; rfl) ?_
  have hf : x.fuel ≠ 0 := fun h0 => by
    have := hc.ins
    unfold Pr.ins at this
    rw [hc.th] at this
    revert this
    cases s.p.code[t]? <;> simp [h0]
  have : (nth s x i).fuel = x.fuel - 1 := by
    unfold nth
    repeat' split
    all_goals rfl
  omega
theorem all_iff {s : St} {t : Nat} : t ∈ all s ↔ enabled s t = true := by
  unfold all
  rw [List.mem_filter, List.mem_range]
  exact ⟨fun h => h.2, fun h => ⟨en_lt h, h⟩⟩
theorem all_nil_of {s : St} (hw : Wf s) (h : fuels s = 0) : all s = [] := by
  refine List.eq_nil_iff_forall_not_mem.2 (fun t ht => ?_)
  have := fuels_step hw (all_iff.1 ht)
  omega
theorem all_len {s : St} (hw : Wf s) : (all s).length ≤ 4 := by
  unfold all
  have := hw.n4
  exact Nat.le_trans (List.length_filter_le _ _) (by simpa using this)
def evAt (s : St) (t : Nat) : Ev := (next s t).getD zeroE
def waits (s : St) : Bool := (List.range s.th.length).any fun t => (next s t).isSome
def cnt : Nat → St → Nat
  | 0, _ => 1
  | n + 1, s => 1 + ((all s).map fun t => cnt n (stepS s t)).sum
def ends : Nat → St → List Ev → List (St × List Ev)
  | 0, s, row => [(s, row)]
  | n + 1, s, row => if all s = [] then [(s, row)] else (all s).flatMap fun t => ends n (stepS s t) (row ++ [evAt s t])
def over {α : Type} (at_ : St → List Ev → α → α) (most : Nat) : Nat → St → List Ev → Nat × α → Nat × α
  | 0, s, row, x => if most < x.1 + 1 then (x.1 + 1, x.2) else (x.1 + 1, at_ s row x.2)
  | n + 1, s, row, x => if most < x.1 + 1 then (x.1 + 1, x.2) else
      (all s).foldl (fun y t => over at_ most n (stepS s t) (row ++ [evAt s t]) y) (x.1 + 1, if all s = [] then at_ s row x.2 else x.2)
theorem over_eq {α : Type} (at_ : St → List Ev → α → α) (most : Nat) : ∀ n s row x, x.1 + cnt n s ≤ most → over at_ most n s row x = (x.1 + cnt n s, (ends n s row).foldl (fun a z => at_ z.1 z.2 a) x.2) := by
  intro n
  induction n with
  | zero => intro s row x h; simp only [cnt] at h; simp only [over, cnt, ends, if_neg (show ¬ most < x.1 + 1 by omega)]; rfl
  | succ n ih =>
    intro s row x h
    simp only [cnt] at h
    simp only [over, cnt, ends, if_neg (show ¬ most < x.1 + 1 by omega)]
    have go : ∀ (l : List Nat) (c : Nat) (a : α), c + (l.map fun t => cnt n (stepS s t)).sum ≤ most →
        l.foldl (fun y t => over at_ most n (stepS s t) (row ++ [evAt s t]) y) (c, a) = (c + (l.map fun t => cnt n (stepS s t)).sum, (l.flatMap fun t => ends n (stepS s t) (row ++ [evAt s t])).foldl (fun a z => at_ z.1 z.2 a) a) := by
      intro l
      induction l with
      | nil => intro c a _; simp
      | cons t l ih2 =>
        intro c a hc
        simp only [List.map_cons, List.sum_cons] at hc
        rw [List.foldl_cons, ih _ _ (c, a) (by simp only; omega), ih2 _ _ (by omega)]
        simp only [List.map_cons, List.sum_cons, List.flatMap_cons, List.foldl_append, Nat.add_assoc]
    by_cases ha : all s = []
    · rw [ha, if_pos rfl]; rfl
    · rw [if_neg ha, go _ _ _ (by omega), if_neg ha, Nat.add_assoc]
theorem over_full {α : Type} (at_ : St → List Ev → α → α) (most : Nat) : ∀ n s row x, most < x.1 + cnt n s → most < (over at_ most n s row x).1 := by
  intro n
  induction n with
  | zero => intro s row x h; simp only [cnt] at h; simp only [over, if_pos h]; exact h
  | succ n ih =>
    intro s row x h
    simp only [cnt] at h
    simp only [over]
    split
    · assumption
    · have go : ∀ (l : List Nat) (y : Nat × α), most < y.1 + (l.map fun t => cnt n (stepS s t)).sum → most < (l.foldl (fun y t => over at_ most n (stepS s t) (row ++ [evAt s t]) y) y).1 := by
        intro l
        induction l with
        | nil => intro y hy; simpa using hy
        | cons t l ih2 =>
          intro y hy
          simp only [List.map_cons, List.sum_cons] at hy
          rw [List.foldl_cons]
          refine ih2 _ ?_
          by_cases hf : y.1 + cnt n (stepS s t) ≤ most
          · rw [over_eq at_ most n _ _ y hf]; simp only; omega
          · have := ih (stepS s t) (row ++ [evAt s t]) y (by omega)
            omega
      exact go _ _ (by simp only; omega)
theorem over_bound {α : Type} (at_ : St → List Ev → α → α) (most : Nat) : ∀ n s row x, Wf s → (over at_ most n s row x).1 ≤ max x.1 most + 1 + 4 * n := by
  intro n
  induction n with
  | zero => intro s row x _; simp only [over]; split <;> (simp only; omega)
  | succ n ih =>
    intro s row x hw
    simp only [over]
    split
    · simp only; omega
    · have full : ∀ m s row (x : Nat × α), most < x.1 + 1 → (over at_ most m s row x).1 = x.1 + 1 := by
        intro m s row x h
        cases m <;> simp only [over, if_pos h]
      have go : ∀ (l : List Nat) (y : Nat × α), (l.foldl (fun y t => over at_ most n (stepS s t) (row ++ [evAt s t]) y) y).1 ≤ max y.1 (most + 1 + 4 * n) + l.length := by
        intro l
        induction l with
        | nil => intro y; simp only [List.foldl_nil, List.length_nil]; omega
        | cons t l ih2 =>
          intro y
          rw [List.foldl_cons, List.length_cons]
          refine Nat.le_trans (ih2 _) ?_
          by_cases hf : most < y.1 + 1
          · rw [full n _ _ y hf]; omega
          · have := ih (stepS s t) (row ++ [evAt s t]) y (stepS_wf t hw).1
            omega
      have := go (all s) (x.1 + 1, if all s = [] then at_ s row x.2 else x.2)
      have := all_len hw
      simp only at *
      omega
theorem fuels_start {p : Pg} {f : Nat} (h : Ok p) (hf : f ≤ 8) : fuels (start p f) ≤ 32 := by
  have h4 : p.code.length ≤ 4 := h.1.2.2.2.2.2
  unfold fuels start
  simp only [List.map_map]
  have : ∀ l : List (List Ins), (l.map (Th.fuel ∘ fun _ => (⟨0, f, fun _ => 0⟩ : Th))).sum = l.length * f := by
    intro l
    induction l with
    | nil => simp
    | cons a l ih => rw [List.map_cons, List.sum_cons, ih, List.length_cons, Nat.succ_mul]; simp [Nat.add_comm]
  rw [this]
  calc p.code.length * f ≤ 4 * 8 := Nat.mul_le_mul h4 hf
    _ = 32 := rfl
end Pr
end Go.Proofs.YtckdofjpoajblaaGreat
namespace Go.Proofs.YtckdofjpoajblaaGreat
set_option linter.unusedVariables false
namespace Pr
def lexI : List Int → List Int → Bool
  | _, [] => false
  | [], _ :: _ => true
  | a :: l, b :: m => if a < b then true else if b < a then false else lexI l m
def aheadI (a b : List Int) : Bool := if a.length ≠ b.length then decide (a.length < b.length) else lexI a b
theorem lexI_irrefl : ∀ a : List Int, lexI a a = false
  | [] => rfl
  | a :: l => by simp only [lexI, if_neg (show ¬ a < a by omega)]; exact lexI_irrefl l
theorem lexI_trans : ∀ {a b c : List Int}, lexI a b = true → lexI b c = true → lexI a c = true
  | _, _, [], _, h => by simp [lexI] at h
  | _, [], _ :: _, h, _ => by simp [lexI] at h
  | [], _ :: _, _ :: _, _, _ => rfl
  | a :: l, b :: m, c :: n, h1, h2 => by
    simp only [lexI] at h1 h2 ⊢
    by_cases hab : a < b
    · by_cases hbc : b < c
      · rw [if_pos (by omega)]
      · rw [if_neg hbc] at h2
        by_cases hcb : c < b
        · rw [if_pos hcb] at h2; cases h2
        · rw [if_pos (by omega)]
    · rw [if_neg hab] at h1
      by_cases hba : b < a
      · rw [if_pos hba] at h1; cases h1
      · rw [if_neg hba] at h1
        obtain rfl : a = b := by omega
        by_cases hbc : a < c
        · rw [if_pos hbc]
        · rw [if_neg hbc] at h2 ⊢
          by_cases hcb : c < a
          · rw [if_pos hcb] at h2; cases h2
          · rw [if_neg hcb] at h2 ⊢
            exact lexI_trans h1 h2
theorem lexI_total : ∀ {a b : List Int}, a.length = b.length → lexI a b = false → lexI b a = false → a = b
  | [], [], _, _, _ => rfl
  | [], _ :: _, h, _, _ => by cases h
  | _ :: _, [], h, _, _ => by cases h
  | a :: l, b :: m, h, h1, h2 => by
    simp only [lexI] at h1 h2
    by_cases hab : a < b
    · rw [if_pos hab] at h1; cases h1
    · by_cases hba : b < a
      · rw [if_pos hba] at h2; cases h2
      · rw [if_neg hab, if_neg hba] at h1
        rw [if_neg hba, if_neg hab] at h2
        obtain rfl : a = b := by omega
        rw [lexI_total (by simpa using h) h1 h2]
theorem ahead_irrefl (a : List Int) : aheadI a a = false := by unfold aheadI; rw [if_neg (by simp)]; exact lexI_irrefl a
theorem ahead_trans {a b c : List Int} (h1 : aheadI a b = true) (h2 : aheadI b c = true) : aheadI a c = true := by
  unfold aheadI at h1 h2 ⊢
  by_cases hab : a.length = b.length
  · rw [if_neg (by simpa using hab)] at h1
    by_cases hbc : b.length = c.length
    · rw [if_neg (by simpa using hbc)] at h2
      rw [if_neg (by simpa using hab.trans hbc)]
      exact lexI_trans h1 h2
    · rw [if_pos hbc, decide_eq_true_eq] at h2
      rw [if_pos (by omega), decide_eq_true_eq]; omega
  · rw [if_pos hab, decide_eq_true_eq] at h1
    by_cases hbc : b.length = c.length
    · rw [if_pos (by omega), decide_eq_true_eq]; omega
    · rw [if_pos hbc, decide_eq_true_eq] at h2
      rw [if_pos (by omega), decide_eq_true_eq]; omega
theorem ahead_total {a b : List Int} (h1 : aheadI a b = false) (h2 : aheadI b a = false) : a = b := by
  unfold aheadI at h1 h2
  by_cases hab : a.length = b.length
  · rw [if_neg (by simpa using hab)] at h1
    rw [if_neg (by simpa using hab.symm)] at h2
    exact lexI_total hab h1 h2
  · rw [if_pos hab, decide_eq_false_iff_not] at h1
    rw [if_pos (fun e => hab e.symm), decide_eq_false_iff_not] at h2
    omega
theorem ahead_asymm {a b : List Int} (h : aheadI a b = true) : aheadI b a = false := by
  cases h' : aheadI b a with
  | false => rfl
  | true => have := ahead_trans h h'; rw [ahead_irrefl] at this; cases this
theorem lexI_snoc : ∀ {a b : List Int} (x y : Int), a.length = b.length → lexI a b = true → lexI (a ++ [x]) (b ++ [y]) = true
  | [], [], _, _, _, h => by cases h
  | [], _ :: _, _, _, h, _ => by cases h
  | _ :: _, [], _, _, h, _ => by cases h
  | a :: l, b :: m, x, y, hl, h => by
    simp only [lexI, List.cons_append] at h ⊢
    by_cases hab : a < b
    · rw [if_pos hab]
    · rw [if_neg hab] at h ⊢
      by_cases hba : b < a
      · rw [if_pos hba] at h; cases h
      · rw [if_neg hba] at h ⊢
        exact lexI_snoc x y (by simpa using hl) h
theorem lexI_last : ∀ (a : List Int) {x y : Int}, x < y → lexI (a ++ [x]) (a ++ [y]) = true
  | [], x, y, h => by simp [lexI, h]
  | a :: l, x, y, h => by
    simp only [lexI, List.cons_append, if_neg (show ¬ a < a by omega)]
    exact lexI_last l h
structure Nd where
  s : St
  w : List Int
  e : Ev
def kidN (d : Nd) (t : Nat) : Nd := ⟨stepS d.s t, d.w ++ [(t : Int)], evAt d.s t⟩
def kids_ (d : Nd) : List Nd := (all d.s).map (kidN d)
def take_ (is : Nd → Bool) (d : Nd) (b : Option (List Int)) : Option (List Int) :=
  if is d && (match b with | none => true | some w => aheadI d.w w) then some d.w else b
def dfs (is : Nd → Bool) : Nat → Nd → Option (List Int) → Option (List Int)
  | 0, d, b => take_ is d b
  | n + 1, d, b => (kids_ d).foldl (fun b c => dfs is n c b) (take_ is d b)
def pre_ : Nat → Nd → List Nd
  | 0, d => [d]
  | n + 1, d => d :: (kids_ d).flatMap (pre_ n)
def levels : Nat → List Nd → List Nd
  | 0, _ => []
  | n + 1, L => L ++ levels n (L.flatMap kids_)
def bfs (is : Nd → Bool) : Nat → List Nd → Option Nd
  | 0, _ => none
  | n + 1, L => match L.find? is with | some d => some d | none => bfs is n (L.flatMap kids_)
theorem bfs_find (is : Nd → Bool) : ∀ n L, bfs is n L = (levels n L).find? is
  | 0, L => rfl
  | n + 1, L => by
    simp only [bfs, levels, List.find?_append]
    rw [bfs_find is n]
    cases L.find? is <;> rfl
theorem dfs_fold (is : Nd → Bool) : ∀ n d b, dfs is n d b = (pre_ n d).foldl (fun b c => take_ is c b) b := by
  intro n
  induction n with
  | zero => intro d b; rfl
  | succ n ih =>
    intro d b
    simp only [dfs, pre_, List.foldl_cons]
    generalize take_ is d b = b'
    induction kids_ d generalizing b' with
    | nil => rfl
    | cons c l ih2 => rw [List.foldl_cons, List.flatMap_cons, List.foldl_append, ih, ih2]
inductive Reach : Nd → Nd → Prop
  | refl (d : Nd) : Reach d d
  | step {d c d' : Nd} : c ∈ kids_ d → Reach c d' → Reach d d'
theorem kid_wf {d c : Nd} (hw : Wf d.s) (h : c ∈ kids_ d) : Wf c.s ∧ fuels c.s + 1 = fuels d.s := by
  obtain ⟨t, ht, rfl⟩ := List.mem_map.1 h
  have hen := all_iff.1 ht
  exact ⟨(stepS_wf t hw).1, fuels_step hw hen⟩
theorem kids_none {d : Nd} (hw : Wf d.s) (h : fuels d.s = 0) : kids_ d = [] := by unfold kids_; rw [all_nil_of hw h]; rfl
theorem mem_pre : ∀ (n : Nat) {d : Nd}, Wf d.s → fuels d.s ≤ n → ∀ d', d' ∈ pre_ n d ↔ Reach d d' := by
  intro n
  induction n with
  | zero =>
    intro d hw hf d'
    simp only [pre_, List.mem_singleton]
    constructor
    · rintro rfl; exact .refl _
    · intro h
      cases h with
      | refl => rfl
      | step hc _ => rw [kids_none hw (by omega)] at hc; cases hc
  | succ n ih =>
    intro d hw hf d'
    simp only [pre_, List.mem_cons, List.mem_flatMap]
    constructor
    · rintro (rfl | ⟨c, hc, h⟩)
      · exact .refl _
      · have := kid_wf hw hc
        exact .step hc ((ih this.1 (by omega) d').1 h)
    · intro h
      cases h with
      | refl => exact Or.inl rfl
      | step hc h =>
        have := kid_wf hw hc
        exact Or.inr ⟨_, hc, (ih this.1 (by omega) d').2 h⟩
theorem mem_levels : ∀ (n : Nat) {L : List Nd}, (∀ d ∈ L, Wf d.s ∧ fuels d.s < n) → ∀ d', d' ∈ levels n L ↔ ∃ d ∈ L, Reach d d' := by
  intro n
  induction n with
  | zero =>
    intro L hL d'
    simp only [levels, List.not_mem_nil, false_iff]
    rintro ⟨d, hd, _⟩
    have := (hL d hd).2
    omega
  | succ n ih =>
    intro L hL d'
    simp only [levels, List.mem_append]
    by_cases h0 : ∃ d ∈ L, fuels d.s = 0 ∧ n = 0
    · obtain ⟨d0, hd0, _, rfl⟩ := h0
      simp only [levels, List.not_mem_nil, or_false]
      constructor
      · intro h; exact ⟨d', h, .refl _⟩
      · rintro ⟨d, hd, h⟩
        cases h with
        | refl => exact hd
        | step hc _ => rw [kids_none (hL d hd).1 (by have := (hL d hd).2; omega)] at hc; cases hc
    · rw [ih (L := L.flatMap kids_) fun c hc => by
        obtain ⟨d, hd, hc⟩ := List.mem_flatMap.1 hc
        have h1 := kid_wf (hL d hd).1 hc
        have h2 := (hL d hd).2
        exact ⟨h1.1, by omega⟩]
      constructor
      · rintro (h | ⟨c, hc, h⟩)
        · exact ⟨d', h, .refl _⟩
        · obtain ⟨d, hd, hc⟩ := List.mem_flatMap.1 hc
          exact ⟨d, hd, .step hc h⟩
      · rintro ⟨d, hd, h⟩
        cases h with
        | refl => exact Or.inl hd
        | step hc h => exact Or.inr ⟨_, List.mem_flatMap.2 ⟨d, hd, hc⟩, h⟩
theorem level_order {L : List Nd} {k : Nat} (hk : ∀ d ∈ L, d.w.length = k) (h : L.Pairwise (fun a b => aheadI a.w b.w = true)) :
    (∀ d ∈ L.flatMap kids_, d.w.length = k + 1) ∧ (L.flatMap kids_).Pairwise (fun a b => aheadI a.w b.w = true) := by
  have hlen : ∀ d ∈ L, ∀ c ∈ kids_ d, c.w.length = k + 1 := fun d hd c hc => by
    obtain ⟨t, _, rfl⟩ := List.mem_map.1 hc
    simp [kidN, hk d hd]
  refine ⟨fun c hc => ?_, ?_⟩
  · obtain ⟨d, hd, hc⟩ := List.mem_flatMap.1 hc
    exact hlen d hd c hc
  · induction L with
    | nil => exact List.Pairwise.nil
    | cons d L ih =>
      rw [List.pairwise_cons] at h
      rw [List.flatMap_cons, List.pairwise_append]
      refine ⟨?_, ih (fun x hx => hk x (List.mem_cons_of_mem _ hx)) h.2 (fun x hx => hlen x (List.mem_cons_of_mem _ hx)), ?_⟩
      · unfold kids_
        rw [List.pairwise_map]
        have hs : (all d.s).Pairwise (fun a b => a < b) := List.Pairwise.filter _ List.pairwise_lt_range
        refine hs.imp fun {a b} hab => ?_
        unfold aheadI kidN
        simp only [List.length_append, List.length_cons, List.length_nil, ne_eq, not_true_eq_false, if_false]
        exact lexI_last _ (by omega)
      · intro a ha b hb
        obtain ⟨t, _, rfl⟩ := List.mem_map.1 ha
        obtain ⟨d2, hd2, hb⟩ := List.mem_flatMap.1 hb
        obtain ⟨u, _, rfl⟩ := List.mem_map.1 hb
        have h1 := hk d (List.mem_cons_self ..)
        have h2 := hk d2 (List.mem_cons_of_mem _ hd2)
        have h3 := h.1 d2 hd2
        unfold aheadI at h3 ⊢
        rw [if_neg (by simp; omega)] at h3
        unfold kidN
        rw [if_neg (by simp; omega)]
        exact lexI_snoc _ _ (by omega) h3
theorem levels_order : ∀ (n : Nat) {L : List Nd} {k : Nat}, (∀ d ∈ L, d.w.length = k) → L.Pairwise (fun a b => aheadI a.w b.w = true) → (∀ d ∈ levels n L, k ≤ d.w.length) ∧ (levels n L).Pairwise (fun a b => aheadI a.w b.w = true) := by
  intro n
  induction n with
  | zero => intro L k _ _; exact ⟨fun d hd => (by cases hd), List.Pairwise.nil⟩
  | succ n ih =>
    intro L k hk h
    obtain ⟨h1, h2⟩ := level_order hk h
    obtain ⟨h3, h4⟩ := ih h1 h2
    simp only [levels]
    refine ⟨fun d hd => ?_, List.pairwise_append.2 ⟨h, h4, fun a ha b hb => ?_⟩⟩
    · rcases List.mem_append.1 hd with hd | hd
      · exact Nat.le_of_eq (hk d hd).symm
      · have := h3 d hd; omega
    · have e1 := hk a ha
      have e2 := h3 b hb
      unfold aheadI
      rw [if_pos (by omega), decide_eq_true_eq]
      omega
theorem find_least (is : Nd → Bool) : ∀ {L : List Nd}, L.Pairwise (fun a b => aheadI a.w b.w = true) → (∀ d, L.find? is = some d → d ∈ L ∧ is d = true ∧ ∀ c ∈ L, is c = true → aheadI c.w d.w = false) ∧ (L.find? is = none → ∀ c ∈ L, is c = false) := by
  intro L h
  refine ⟨fun d hd => ?_, fun hn c hc => by have := List.find?_eq_none.1 hn c hc; simpa using this⟩
  refine ⟨List.mem_of_find?_eq_some hd, List.find?_some hd, ?_⟩
  induction L with
  | nil => intro c hc; cases hc
  | cons a L ih =>
    rw [List.pairwise_cons] at h
    intro c hc hic
    rw [List.find?_cons] at hd
    cases ha : is a with
    | true =>
      rw [ha] at hd
      injection hd with hd
      subst hd
      rcases List.mem_cons.1 hc with rfl | hc
      · exact ahead_irrefl _
      · exact ahead_asymm (h.1 c hc)
    | false =>
      rw [ha] at hd
      rcases List.mem_cons.1 hc with rfl | hc
      · rw [ha] at hic; cases hic
      · exact ih h.2 hd c hc hic
theorem fold_least (is : Nd → Bool) : ∀ (L : List Nd) (b : Option (List Int)), (∀ c ∈ L, is c = true → ∃ w, L.foldl (fun b c => take_ is c b) b = some w ∧ aheadI c.w w = false) ∧
    (∀ v, b = some v → ∃ w, L.foldl (fun b c => take_ is c b) b = some w ∧ aheadI v w = false) ∧ (L.foldl (fun b c => take_ is c b) b = b ∨ ∃ c ∈ L, is c = true ∧ L.foldl (fun b c => take_ is c b) b = some c.w) := by
  intro L
  induction L with
  | nil => intro b; exact ⟨fun c hc => (by cases hc), fun v hv => ⟨v, hv, ahead_irrefl v⟩, Or.inl rfl⟩
  | cons d L ih =>
    intro b
    obtain ⟨h1, h2, h3⟩ := ih (take_ is d b)
    have hd : (is d = true → ∃ v, take_ is d b = some v ∧ aheadI d.w v = false) ∧ (∀ v, b = some v → ∃ v', take_ is d b = some v' ∧ aheadI v v' = false ∧ (v' = v ∨ aheadI v' v = true)) ∧ (take_ is d b = b ∨ (is d = true ∧ take_ is d b = some d.w)) := by
      unfold take_
      cases hi : is d with
      | false => exact ⟨fun h => (by cases h), fun v hv => ⟨v, by simp [hv], ahead_irrefl v, Or.inl rfl⟩, Or.inl (by simp)⟩
      | true =>
        cases b with
        | none => exact ⟨fun _ => ⟨d.w, by simp, ahead_irrefl _⟩, fun v hv => (by cases hv), Or.inr ⟨rfl, by simp⟩⟩
        | some v =>
          cases ha : aheadI d.w v with
          | true => exact ⟨fun _ => ⟨d.w, by simp [ha], ahead_irrefl _⟩, fun v' hv => by injection hv with hv; subst hv; exact ⟨d.w, by simp [ha], ahead_asymm ha, Or.inr ha⟩, Or.inr ⟨rfl, by simp [ha]⟩⟩
          | false => exact ⟨fun _ => ⟨v, by simp [ha], ha⟩, fun v' hv => by injection hv with hv; subst hv; exact ⟨v, by simp [ha], ahead_irrefl v, Or.inl rfl⟩, Or.inl (by simp [ha])⟩
    have tr : ∀ {x y z : List Int}, aheadI x y = false → aheadI y z = false → aheadI x z = false := fun {x y z} hxy hyz => by
      cases h : aheadI x z with
      | false => rfl
      | true =>
        cases h' : aheadI y x with
        | true => have := ahead_trans h' h; rw [hyz] at this; cases this
        | false => have := ahead_total hxy h'; subst this; rw [hyz] at h; cases h
    simp only [List.foldl_cons]
    refine ⟨fun c hc hic => ?_, fun v hv => ?_, ?_⟩
    · rcases List.mem_cons.1 hc with rfl | hc
      · obtain ⟨v, hv, ha⟩ := hd.1 hic
        obtain ⟨w, hw, ha'⟩ := h2 v hv
        exact ⟨w, hw, tr ha ha'⟩
      · exact h1 c hc hic
    · obtain ⟨v', hv', ha, _⟩ := hd.2.1 v hv
      obtain ⟨w, hw, ha'⟩ := h2 v' hv'
      exact ⟨w, hw, tr ha ha'⟩
    · rcases h3 with h3 | ⟨c, hc, hic, h3⟩
      · rcases hd.2.2 with h | ⟨hi, h⟩
        · exact Or.inl (h3.trans h)
        · exact Or.inr ⟨d, List.mem_cons_self .., hi, h3.trans h⟩
      · exact Or.inr ⟨c, List.mem_cons_of_mem _ hc, hic, h3⟩
def node0 (s : St) : Nd := ⟨s, [], zeroE⟩
def leastN (is : Nd → Bool) (s : St) : Option Nd := bfs is 33 [node0 s]
theorem least_mem {is : Nd → Bool} {s : St} (hw : Wf s) (hf : fuels s ≤ 32) : (∀ d, leastN is s = some d → Reach (node0 s) d ∧ is d = true ∧ ∀ c, Reach (node0 s) c → is c = true → aheadI c.w d.w = false) ∧ (leastN is s = none → ∀ c, Reach (node0 s) c → is c = false) := by
  have hm := mem_levels 33 (L := [node0 s]) (fun d hd => by rw [List.mem_singleton.1 hd]; exact ⟨hw, by show fuels s < 33; omega⟩)
  have ho := (levels_order 33 (L := [node0 s]) (k := 0) (fun d hd => by rw [List.mem_singleton.1 hd]; rfl) (List.pairwise_singleton _ _)).2
  obtain ⟨h1, h2⟩ := find_least is ho
  have hr : ∀ c, Reach (node0 s) c → c ∈ levels 33 [node0 s] := fun c hc => (hm c).2 ⟨_, List.mem_singleton.2 rfl, hc⟩
  unfold leastN
  rw [bfs_find]
  refine ⟨fun d hd => ?_, fun hn c hc => h2 hn c (hr c hc)⟩
  obtain ⟨a, b, c⟩ := h1 d hd
  obtain ⟨d0, hd0, hre⟩ := (hm d).1 a
  rw [List.mem_singleton.1 hd0] at hre
  exact ⟨hre, b, fun x hx => c x (hr x hx)⟩
theorem dfs_least {is : Nd → Bool} {s : St} (hw : Wf s) (hf : fuels s ≤ 32) : dfs is 32 (node0 s) none = (leastN is s).map Nd.w := by
  have hm := mem_pre 32 (d := node0 s) hw hf
  rw [dfs_fold]
  obtain ⟨h1, _, h3⟩ := fold_least is (pre_ 32 (node0 s)) none
  obtain ⟨g1, g2⟩ := least_mem (is := is) hw hf
  cases hl : leastN is s with
  | none =>
    rcases h3 with h3 | ⟨c, hc, hic, h3⟩
    · exact h3
    · have := g2 hl c ((hm c).1 hc); rw [hic] at this; cases this
  | some d =>
    obtain ⟨a1, a2, a3⟩ := g1 d hl
    obtain ⟨w, hw1, hw2⟩ := h1 d ((hm d).2 a1) a2
    rcases h3 with h3 | ⟨c, hc, hic, h3⟩
    · rw [h3] at hw1; cases hw1
    · rw [h3] at hw1 ⊢
      injection hw1 with hw1
      subst hw1
      have := a3 c ((hm c).1 hc) hic
      show some c.w = some d.w
      rw [ahead_total hw2 this]
def lev_ : Nat → List Nd → List Nd
  | 0, L => L
  | n + 1, L => lev_ n (L.flatMap kids_)
theorem lev_len : ∀ (k n : Nat) (L : List Nd), k ≤ n → (lev_ k L).length ≤ (L.map fun d => cnt n d.s).sum := by
  intro k
  induction k with
  | zero =>
    intro n L _
    show L.length ≤ _
    induction L with
    | nil => exact Nat.le_refl _
    | cons d L ih =>
      rw [List.map_cons, List.sum_cons, List.length_cons]
      have : 1 ≤ cnt n d.s := by cases n <;> simp only [cnt] <;> omega
      omega
  | succ k ih =>
    intro n L hn
    obtain ⟨n, rfl⟩ : ∃ m, n = m + 1 := ⟨n - 1, by omega⟩
    refine Nat.le_trans (ih n _ (by omega)) ?_
    clear ih
    induction L with
    | nil => exact Nat.le_refl _
    | cons d L ih =>
      rw [List.flatMap_cons, List.map_append, List.sum_append, List.map_cons, List.sum_cons]
      have : ((kids_ d).map fun c => cnt n c.s).sum ≤ cnt (n + 1) d.s := by
        unfold kids_
        rw [List.map_map]
        simp only [cnt]
        have e : ((all d.s).map ((fun c => cnt n c.s) ∘ kidN d)) = (all d.s).map fun t => cnt n (stepS d.s t) := rfl
        rw [e]
        omega
      omega
end Pr
end Go.Proofs.YtckdofjpoajblaaGreat
namespace Go.Proofs.YtckdofjpoajblaaGreat
open Go.RowKit
set_option linter.unusedVariables false
def cmpI (x y : Int) : Int := if x < y then -1 else if y < x then 1 else 0
theorem cmpInt_any (w : World) (x y : Int) : Calls Tryz.prog 63 #[.int .i64 x, .int .i64 y] w fun e w' => e = .returned (.int .i64 (cmpI x y)) ∧ w = w' := by
  have hn : ∀ z w, Calls Tryz.prog 103 #[.int .i64 z] w fun e w' => e = .returned (.bool false) ∧ w = w' := by
    intro z w
    go_enter Tryz.func103, Tryz.ntmps103
    go_wp2
    go_ret
    simp
  unfold cmpI
  by_cases h1 : x < y
  · rw [if_pos h1]
    go_enter Tryz.func63, Tryz.ntmps63
    go_wp2_with (go_at_call 103; refine (hn _ _).mono ?_; rintro e w' ⟨rfl, rfl⟩)
    go_ret
    exact ⟨rfl, rfl⟩
  · rw [if_neg h1]
    by_cases h2 : y < x
    · rw [if_pos h2]
      go_enter Tryz.func63, Tryz.ntmps63
      go_wp2_with (go_at_call 103; refine (hn _ _).mono ?_; rintro e w' ⟨rfl, rfl⟩)
      go_ret
      exact ⟨rfl, rfl⟩
    · rw [if_neg h2]
      go_enter Tryz.func63, Tryz.ntmps63
      go_wp2_with (go_at_call 103; refine (hn _ _).mono ?_; rintro e w' ⟨rfl, rfl⟩)
      go_ret
      exact ⟨rfl, rfl⟩
theorem cmpOr_any (w : World) (g : Nat) (u v : Int) (h0 : w.cell? ⟨g, 0, none⟩ = some (.int .i64 u)) (h1 : w.cell? ⟨g, 1, none⟩ = some (.int .i64 v)) :
    Calls Tryz.prog 62 #[.slice (some ⟨g, 0, none⟩) 2 2] w fun e w' => e = .returned (.int .i64 (if u ≠ 0 then u else v)) ∧ w = w' := by
  by_cases hu : u = 0
  · subst hu
    by_cases hv : v = 0
    · subst hv
      go_enter Tryz.func62, Tryz.ntmps62
      go_wp2
      refine wp_loop_rounds 3 ?_
      rw [rounds_succ]
      go_wp2
      rw [rounds_succ]
      go_wp2
      rw [rounds_succ]
      go_wp2
      go_ret
      exact ⟨rfl, rfl⟩
    · have hv' : (v == 0) = false := by simpa using hv
      go_enter Tryz.func62, Tryz.ntmps62
      go_wp2
      refine wp_loop_rounds 3 ?_
      rw [rounds_succ]
      go_wp2
      rw [rounds_succ]
      go_wp2
      go_ret
      exact ⟨rfl, rfl⟩
  · have hu' : (u == 0) = false := by simpa using hu
    rw [if_pos hu]
    go_enter Tryz.func62, Tryz.ntmps62
    go_wp2
    refine wp_loop_rounds 3 ?_
    rw [rounds_succ]
    go_wp2
    go_ret
    exact ⟨rfl, rfl⟩
def cmpL : List Int → List Int → Int
  | [], [] => 0
  | [], _ :: _ => -1
  | _ :: _, [] => 1
  | a :: l, b :: m => if cmpI a b ≠ 0 then cmpI a b else cmpL l m
theorem cmpL_lex : ∀ a b : List Int, decide (cmpL a b < 0) = Pr.lexI a b
  | [], [] => rfl
  | [], _ :: _ => rfl
  | _ :: _, [] => rfl
  | a :: l, b :: m => by
    simp only [cmpL, Pr.lexI, cmpI]
    by_cases h1 : a < b
    · simp [h1]
    · by_cases h2 : b < a
      · simp [h1, h2]
      · simp only [if_neg h1, if_neg h2, ne_eq, not_true_eq_false, if_false]
        exact cmpL_lex l m
theorem cmpL_ahead (a b : List Int) : decide ((if cmpI a.length b.length ≠ 0 then cmpI a.length b.length else cmpL a b) < 0) = Pr.aheadI a b := by
  unfold Pr.aheadI cmpI
  by_cases h1 : a.length < b.length
  · rw [if_pos (show a.length ≠ b.length by omega), if_pos (show (a.length : Int) < (b.length : Int) by omega)]
    simp [h1]
  · rw [if_neg (show ¬ (a.length : Int) < (b.length : Int) by omega)]
    by_cases h2 : b.length < a.length
    · rw [if_pos (show a.length ≠ b.length by omega), if_pos (show (b.length : Int) < (a.length : Int) by omega)]
      simp [h1]
    · rw [if_neg (show ¬ a.length ≠ b.length by omega), if_neg (show ¬ (b.length : Int) < (a.length : Int) by omega)]
      simp only [ne_eq, not_true_eq_false, if_false]
      exact cmpL_lex a b
set_option maxRecDepth 100000 in
set_option maxHeartbeats 2000000 in
theorem compareL_any (w : World) (A : Option Addr) (cap : Nat) (a : List Int) (B : Option Addr) (cap' : Nat) (b : List Int) (ha : Rd w 1 A a.length (a.map iv)) (hb : Rd w 1 B b.length (b.map iv)) (hl : a.length < 4611686018427387904) (hl' : b.length < 4611686018427387904) :
    Calls Tryz.prog 64 #[.slice A a.length cap, .slice B b.length cap'] w fun x w' => x = .returned (.int .i64 (cmpL a b)) ∧ w = w' := by
  have HC := Lib.hid (int_cell ha.toB)
  have HD := Lib.hid (int_cell hb.toB)
  clear ha hb
  obtain ⟨n, hn⟩ : ∃ n, n = a.length := ⟨_, rfl⟩
  obtain ⟨m, hm⟩ : ∃ n, n = b.length := ⟨_, rfl⟩
  rw [← hn] at hl ⊢
  rw [← hm] at hl' ⊢
  obtain ⟨res, hres⟩ : ∃ z, z = cmpL a b := ⟨_, rfl⟩
  rw [← hres]
  have HN := Lib.hid hn
  have HM := Lib.hid hm
  have HRES := Lib.hid hres
  clear hn hm hres
  go_enter Tryz.func64, Tryz.ntmps64
  go_wp2_with fail
  go_loopw [11] (fun v wr => ∃ k : Nat, k ≤ n ∧ k ≤ m ∧ v = .int .i64 k ∧ Hid (res = cmpL (a.drop k) (b.drop k)) ∧ wr = w) (fun v _ => n - (intOf v).toNat)
  case atStart => exact ⟨0, Nat.zero_le _, Nat.zero_le _, rfl, Lib.hid HRES.out, rfl⟩
  case round =>
    obtain ⟨k, hk, hkm, rfl, HR, rfl⟩ := hrel
    by_cases hlt : k < n
    · obtain ⟨x, hx⟩ := get_some (show k < a.length by rw [← HN.out]; exact hlt)
      obtain ⟨g, o, rfl, hg, hcl⟩ := HC.out k x hx
      have v0 := hcl wr (Below.refl _ _)
      have k1 : (0 : Int) ≤ (k : Int) := Int.natCast_nonneg _
      have k2 : (k : Int) < (n : Int) := by omega
      have da : a.drop k = x :: a.drop (k + 1) := by
        obtain ⟨h, rfl⟩ := List.getElem?_eq_some_iff.1 hx
        exact List.drop_eq_getElem_cons h
      by_cases hlm : k < m
      · obtain ⟨y, hy⟩ := get_some (show k < b.length by rw [← HM.out]; exact hlm)
        obtain ⟨g', o', rfl, hg', hcl'⟩ := HD.out k y hy
        have u0 := hcl' wr (Below.refl _ _)
        have k3 : (k : Int) < (m : Int) := by omega
        have db : b.drop k = y :: b.drop (k + 1) := by
          obtain ⟨h, rfl⟩ := List.getElem?_eq_some_iff.1 hy
          exact List.drop_eq_getElem_cons h
        obtain ⟨c, hc⟩ : ∃ z, z = cmpI x y := ⟨_, rfl⟩
        have hr := HR.out
        rw [da, db] at hr
        simp only [cmpL] at hr
        rw [← hc] at hr
        have HQ := Lib.hid hr
        have HCC := Lib.hid hc
        clear hcl hcl' hx hy da db hr hc
        go_wp2_with fail
        refine (cmpInt_any _ _ _).mono ?_
        rintro e w' ⟨he, rfl⟩
        rw [← HCC.out] at he
        subst he
        by_cases h0 : c = 0
        · have e1 : (c != 0) = false := by simpa using h0
          have H0 := Lib.hid h0
          clear h0
          go_wp2_with fail
          go_roundw
          case rel => exact ⟨k + 1, by omega, by omega, by go_num, Lib.hid (by have := HQ.out; rwa [if_neg (by simp [H0.out])] at this), by first | rfl | trivial⟩
          case measure => simp [intOf]; omega
        · have e1 : (c != 0) = true := by simpa using h0
          have H0 := Lib.hid h0
          clear h0
          go_wp2_with fail
          go_ret
          exact ⟨by have := HQ.out; rw [if_pos H0.out] at this; rw [this]; rfl, rfl⟩
      · have hkm' : ¬ (k : Int) < (m : Int) := by omega
        have db : b.drop k = [] := List.drop_eq_nil_of_le (by have := HM.out; omega)
        have hr := HR.out
        rw [da, db] at hr
        have HQ := Lib.hid hr
        clear hcl hx da db hr
        go_wp2_with fail
        go_ret
        exact ⟨by rw [HQ.out]; rfl, rfl⟩
    · obtain rfl : k = n := by omega
      have hr := HR.out
      rw [List.drop_eq_nil_of_le (show a.length ≤ k by have := HN.out; omega)] at hr
      have HQ := Lib.hid hr
      clear hr
      by_cases hlm : k < m
      · have k3 : (k : Int) < (m : Int) := by omega
        go_wp2_with fail
        go_ret
        refine ⟨?_, rfl⟩
        rw [HQ.out, List.drop_eq_getElem_cons (show k < b.length by have := HM.out; omega)]
        rfl
      · have k3 : ¬ (k : Int) < (m : Int) := by omega
        go_wp2_with fail
        go_ret
        refine ⟨?_, rfl⟩
        rw [HQ.out, List.drop_eq_nil_of_le (by have := HM.out; omega)]
        rfl
set_option maxRecDepth 100000 in
theorem ahead_any (w : World) (A : Option Addr) (cap : Nat) (a : List Int) (B : Option Addr) (cap' : Nat) (b : List Int) (ha : Rd w 1 A a.length (a.map iv)) (hb : Rd w 1 B b.length (b.map iv)) (hl : a.length < 4611686018427387904) (hl' : b.length < 4611686018427387904) :
    Calls Tryz.prog 25 #[.slice A a.length cap, .slice B b.length cap'] w fun x w' => x = .returned (.bool (Pr.aheadI a b)) ∧ Below w.heap.size w w' := by
  have HL := Lib.hid (compareL_any w A cap a B cap' b ha hb hl hl')
  clear ha hb
  go_enter Tryz.func25, Tryz.ntmps25
  go_wp2_with fail
  refine (cmpInt_any _ _ _).mono ?_
  rintro e w' ⟨rfl, rfl⟩
  go_wp2_with fail
  refine HL.out.mono ?_
  rintro e w' ⟨rfl, rfl⟩
  go_wp2_with fail
  have hb := heap_alloc_new w (.cells #[.int .i64 (cmpI a.length b.length), .int .i64 (cmpL a b)] 3)
  refine (cmpOr_any _ _ (cmpI a.length b.length) (cmpL a b) (by rw [cell_blk hb]; rfl) (by rw [cell_blk hb]; rfl)).mono ?_
  rintro e w' ⟨he, rfl⟩
  obtain ⟨z, hz⟩ : ∃ z, z = (if cmpI a.length b.length ≠ 0 then cmpI a.length b.length else cmpL a b) := ⟨_, rfl⟩
  rw [← hz] at he
  subst he
  have hd := cmpL_ahead a b
  rw [← hz] at hd
  have HD := Lib.hid hd
  clear hb hz hd
  go_wp2_with fail
  go_ret
  exact ⟨by rw [← HD.out]; rfl, (Below.refl _ _).alloc (Nat.le_refl _) _⟩
end Go.Proofs.YtckdofjpoajblaaGreat
namespace Go.Proofs.YtckdofjpoajblaaGreat
open Go.RowKit
set_option linter.unusedVariables false
set_option maxRecDepth 100000 in
set_option maxHeartbeats 2000000 in
theorem refAhead_any (w : World) (A : Option Addr) (cap : Nat) (a : List Int) (B : Option Addr) (cap' : Nat) (b : List Int) (ha : Rd w 1 A a.length (a.map iv)) (hb : Rd w 1 B b.length (b.map iv)) (hl : a.length < 4611686018427387904) (hl' : b.length < 4611686018427387904) :
    Calls Tryz.prog 26 #[.slice A a.length cap, .slice B b.length cap'] w fun x w' => x = .returned (.bool (Pr.aheadI a b)) ∧ Below w.heap.size w w' := by
  have HC := Lib.hid (int_cell ha.toB)
  have HD := Lib.hid (int_cell hb.toB)
  clear ha hb
  obtain ⟨n, hn⟩ : ∃ n, n = a.length := ⟨_, rfl⟩
  obtain ⟨m, hm⟩ : ∃ n, n = b.length := ⟨_, rfl⟩
  have hah : Pr.aheadI a b = if n ≠ m then decide (n < m) else Pr.lexI a b := by rw [hn, hm]; rfl
  rw [hah]
  rw [← hn] at hl ⊢
  rw [← hm] at hl' ⊢
  have HN := Lib.hid hn
  have HM := Lib.hid hm
  clear hn hm hah
  by_cases hnm : n = m
  · subst hnm
    rw [if_neg (by simp)]
    obtain ⟨res, hres⟩ : ∃ z, z = Pr.lexI a b := ⟨_, rfl⟩
    rw [← hres]
    have HRES := Lib.hid hres
    clear hres
    go_enter Tryz.func26, Tryz.ntmps26
    go_wp2_with fail
    go_loopw [5] (fun v wr => ∃ k : Nat, k ≤ n ∧ v = .int .i64 k ∧ Hid (res = Pr.lexI (a.drop k) (b.drop k)) ∧ Below w.heap.size w wr) (fun v _ => n - (intOf v).toNat)
    case atStart => exact ⟨0, Nat.zero_le _, rfl, Lib.hid HRES.out, Below.refl _ _⟩
    case round =>
      obtain ⟨k, hk, rfl, HR, hbw⟩ := hrel
      by_cases hlt : k < n
      · obtain ⟨x, hx⟩ := get_some (show k < a.length by rw [← HN.out]; exact hlt)
        obtain ⟨y, hy⟩ := get_some (show k < b.length by rw [← HM.out]; exact hlt)
        obtain ⟨g, o, rfl, hg, hcl⟩ := HC.out k x hx
        obtain ⟨g', o', rfl, hg', hcl'⟩ := HD.out k y hy
        have v0 := hcl wr hbw
        have u0 := hcl' wr hbw
        have k1 : (0 : Int) ≤ (k : Int) := Int.natCast_nonneg _
        have k2 : (k : Int) < (n : Int) := by omega
        have lg : g < wr.heap.size := by have := hbw.size; omega
        have lg' : g' < wr.heap.size := by have := hbw.size; omega
        have hr := HR.out
        have da : a.drop k = x :: a.drop (k + 1) := by
          obtain ⟨h, rfl⟩ := List.getElem?_eq_some_iff.1 hx
          exact List.drop_eq_getElem_cons h
        have db : b.drop k = y :: b.drop (k + 1) := by
          obtain ⟨h, rfl⟩ := List.getElem?_eq_some_iff.1 hy
          exact List.drop_eq_getElem_cons h
        rw [da, db] at hr
        simp only [Pr.lexI] at hr
        have HQ := Lib.hid hr
        have HBW := Lib.hid hbw
        clear hcl hcl' hx hy da db hr hbw
        by_cases hxy : x = y
        · have e4 : (x != y) = false := by simpa using hxy
          have HXY := Lib.hid hxy
          clear hxy
          go_wp2_with fail
          refine wp_region_planF (by kernel_rfl) (fun u => Mod (fun _ => False) wr u) [] [(0, .pure), (1, .pure), (2, .pure), (3, .load), (4, .pure), (5, .pure), (6, .pure), (7, .load), (8, .pure)] (by simp only [List.map_cons, List.map_nil, List.getElem?_toArray, List.getElem?_cons_succ, List.getElem?_cons_zero]; rfl) (by kernel_rfl) (fun _ _ d _ _ h => by cases d <;> exact h) ((Mod.refl _ _).drew) ?_
          repeat (first
            | (refine plan_pure (v := ?_) (by rfl) (fun w1 => ?_) ?_
               rotate_left
               · go_simp <;> with_reducible rfl
               simp only [Act.put, List.setIfInBounds_toArray, List.set_cons_zero, List.set_cons_succ])
            | (refine plan_off (by rfl) ?_
               simp only [Act.put, List.setIfInBounds_toArray, List.set_cons_zero, List.set_cons_succ])
            | (refine plan_load_off (by rfl) ?_
               simp only [Act.put, List.setIfInBounds_toArray, List.set_cons_zero, List.set_cons_succ])
            | (refine plan_load (v := ?_) (by rfl) (fun w1 hw1 => ?_) ?_
               rotate_left
               · (have q0 := (hw1.cell g (o + k) lg id).trans v0
                  have q1 := (hw1.cell g' (o' + k) lg' id).trans u0
                  clear hw1
                  go_simp <;> with_reducible rfl)
               simp only [Act.put, List.setIfInBounds_toArray, List.set_cons_zero, List.set_cons_succ]))
          refine plan_end ?_
          go_wp2_with fail
          go_roundw
          case rel => exact ⟨k + 1, by omega, by go_num, Lib.hid (by have := HQ.out; rwa [if_neg (by rw [HXY.out]; omega), if_neg (by rw [HXY.out]; omega)] at this), HBW.out.drew⟩
          case measure => simp [intOf]; omega
        · have e4 : (x != y) = true := by simpa using hxy
          have HXY := Lib.hid hxy
          clear hxy
          go_wp2_with fail
          refine wp_region_planF (by kernel_rfl) (fun u => Mod (fun _ => False) wr u) [] [(0, .pure), (1, .pure), (2, .pure), (3, .load), (4, .pure), (5, .pure), (6, .pure), (7, .load), (8, .pure)] (by simp only [List.map_cons, List.map_nil, List.getElem?_toArray, List.getElem?_cons_succ, List.getElem?_cons_zero]; rfl) (by kernel_rfl) (fun _ _ d _ _ h => by cases d <;> exact h) ((Mod.refl _ _).drew) ?_
          repeat (first
            | (refine plan_pure (v := ?_) (by rfl) (fun w1 => ?_) ?_
               rotate_left
               · go_simp <;> with_reducible rfl
               simp only [Act.put, List.setIfInBounds_toArray, List.set_cons_zero, List.set_cons_succ])
            | (refine plan_off (by rfl) ?_
               simp only [Act.put, List.setIfInBounds_toArray, List.set_cons_zero, List.set_cons_succ])
            | (refine plan_load_off (by rfl) ?_
               simp only [Act.put, List.setIfInBounds_toArray, List.set_cons_zero, List.set_cons_succ])
            | (refine plan_load (v := ?_) (by rfl) (fun w1 hw1 => ?_) ?_
               rotate_left
               · (have q0 := (hw1.cell g (o + k) lg id).trans v0
                  have q1 := (hw1.cell g' (o' + k) lg' id).trans u0
                  clear hw1
                  go_simp <;> with_reducible rfl)
               simp only [Act.put, List.setIfInBounds_toArray, List.set_cons_zero, List.set_cons_succ]))
          refine plan_end ?_
          obtain ⟨wd, hwd⟩ : ∃ z, z = wr.drew := ⟨_, rfl⟩
          have hmd : Mod (fun _ => False) wr wd := by rw [hwd]; exact (Mod.refl _ _).drew
          have HB2 : Hid (Below w.heap.size w wd) := Lib.hid (by rw [hwd]; exact HBW.out.drew)
          have v1 := (hmd.cell g (o + k) lg id).trans v0
          have u1 := (hmd.cell g' (o' + k) lg' id).trans u0
          have lg1 : g < wd.heap.size := Nat.lt_of_lt_of_le lg hmd.size
          have lg2 : g' < wd.heap.size := Nat.lt_of_lt_of_le lg' hmd.size
          rw [← hwd]
          clear hwd hmd v0 u0 lg lg'
          go_wp2_with fail
          refine wp_region_planF (by kernel_rfl) (fun u => Mod (fun _ => False) wd u) [] [(0, .pure), (1, .pure), (2, .pure), (3, .load), (4, .pure), (5, .pure), (6, .pure), (7, .load), (8, .pure), (9, .pure)] (by simp only [List.map_cons, List.map_nil, List.getElem?_toArray, List.getElem?_cons_succ, List.getElem?_cons_zero]; rfl) (by kernel_rfl) (fun _ _ d _ _ h => by cases d <;> exact h) ((Mod.refl _ _).drew) ?_
          repeat (first
            | (refine plan_pure (v := ?_) (by rfl) (fun w1 => ?_) ?_
               rotate_left
               · go_simp <;> with_reducible rfl
               simp only [Act.put, List.setIfInBounds_toArray, List.set_cons_zero, List.set_cons_succ])
            | (refine plan_off (by rfl) ?_
               simp only [Act.put, List.setIfInBounds_toArray, List.set_cons_zero, List.set_cons_succ])
            | (refine plan_load_off (by rfl) ?_
               simp only [Act.put, List.setIfInBounds_toArray, List.set_cons_zero, List.set_cons_succ])
            | (refine plan_load (v := ?_) (by rfl) (fun w1 hw1 => ?_) ?_
               rotate_left
               · (have q0 := (hw1.cell g (o + k) lg1 id).trans v1
                  have q1 := (hw1.cell g' (o' + k) lg2 id).trans u1
                  clear hw1
                  go_simp <;> with_reducible rfl)
               simp only [Act.put, List.setIfInBounds_toArray, List.set_cons_zero, List.set_cons_succ]))
          refine plan_end ?_
          go_wp2_with fail
          go_ret
          refine ⟨?_, HB2.out.drew⟩
          rw [HQ.out]
          have hne := HXY.out
          by_cases hlt' : x < y
          · rw [if_pos hlt']; simp [hlt']
          · rw [if_neg hlt', if_pos (by omega)]; simp [hlt']
      · obtain rfl : k = n := by omega
        have hr := HR.out
        rw [List.drop_eq_nil_of_le (show a.length ≤ k by have := HN.out; omega), List.drop_eq_nil_of_le (show b.length ≤ k by have := HM.out; omega)] at hr
        have HQ := Lib.hid hr
        have HBW := Lib.hid hbw
        clear hr hbw
        go_wp2_with fail
        go_ret
        exact ⟨by rw [HQ.out]; rfl, HBW.out⟩
  · rw [if_pos hnm]
    have e1 : ((n : Int) != (m : Int)) = true := by simp; omega
    have HNM := Lib.hid hnm
    clear hnm
    go_enter Tryz.func26, Tryz.ntmps26
    go_wp2_with fail
    go_ret
    exact ⟨by simp, Below.refl _ _⟩
end Go.Proofs.YtckdofjpoajblaaGreat
