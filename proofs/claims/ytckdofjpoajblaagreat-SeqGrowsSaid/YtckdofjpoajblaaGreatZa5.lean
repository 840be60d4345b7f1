/- Part 5 of the proof of seqExact_holds: what it rests on. -/
import Derived.Test.YtckdofjpoajblaaGreatZa4
namespace Go.Proofs.YtckdofjpoajblaaGreat
open Go.RowKit
set_option linter.unusedVariables false
theorem Tryz.infoSl : (Tryz.prog.info? 55).map (fun i => (i.zero, i.size, i.bytes)) = some (some (.slice none 0 0), 1, 24) := by kernel_rfl
set_option maxRecDepth 100000 in
set_option maxHeartbeats 4000000 in
theorem levels_any (w : World) (A : Option Addr) (cap : Nat) (l : List Ev) (hr : Rd w 4 A l.length (l.flatMap encE)) (hl : l.length < 4611686018427387904) :
    Calls Tryz.prog 82 #[.slice A l.length cap] w (LvOut w (Fo.levR l)) := by
  obtain ⟨i0, hi0, hz0, hz1, hz2⟩ := info_parts Tryz.infoEv
  obtain ⟨i1, hi1, hy0, hy1, hy2⟩ := info_parts Tryz.infoSl
  have hok := fright_any w A cap l hr hl
  have HC := Lib.hid (evs_cell hr.toB)
  clear hr
  obtain ⟨b, hb⟩ : ∃ b, b = Fo.okRow l := ⟨_, rfl⟩
  rw [← hb] at hok
  have hlr : b = true → Fo.levR l = Fo.lev l := fun h => by rw [hb] at h; unfold Fo.levR; rw [if_pos h]
  have hlf : b = false → Fo.levR l = [] := fun h => by rw [hb] at h; unfold Fo.levR; rw [if_neg (by rw [h]; decide)]
  have hbl : b = true → l.length ≤ 200 := fun h => by rw [hb] at h; unfold Fo.okRow at h; simp at h; exact h.1
  have hrs : b = true → Fo.rights l = true := fun h => by rw [hb] at h; unfold Fo.okRow at h; simp at h; exact h.2
  generalize Fo.levR l = R at hlr hlf ⊢
  have HOK := Lib.hid hok
  have HRS := Lib.hid hrs
  have HLR := Lib.hid hlr
  have HLF := Lib.hid hlf
  clear hok hb hlr hrs hlf
  go_enter Tryz.func82, Tryz.ntmps82
  go_wp2_with fail
  refine HOK.out.mono ?_
  rintro x w1 ⟨rfl, b1⟩
  have HB1 := Lib.hid b1
  clear b1
  cases b with
  | false =>
    go_wp2_with fail
    go_ret
    rw [HLF.out (by trivial)]
    exact LvOut.nil HB1.out
  | true =>
    have hl2 : l.length ≤ 200 := hbl rfl
    clear hl hbl
    go_wp2_with fail
    go_loopw [2, 14] (fun v2 v14 wr => ∃ (k : Nat) (A : Option Addr) (cap : Nat) (c : Nat → Nat), k ≤ l.length ∧ v14 = .int .i64 k ∧ v2 = .slice A (Fo.levU (l.take k)).length cap ∧ Hid (LvC wr c A cap (Fo.levU (l.take k))) ∧ Hid (Fr w.heap.size c w wr)) (fun _ v14 _ => l.length - (intOf v14).toNat)
    case atStart => exact ⟨0, none, 0, _, Nat.zero_le _, rfl, rfl, Lib.hid (LvC.nil _ _), Lib.hid ((Fr.start w).step (.below 3 3 HB1.out) (by decide))⟩
    case round =>
      obtain ⟨k, AL, capL, c, hk, rfl, rfl, HLV, HFR⟩ := hrel
      by_cases hlt : k < l.length
      · obtain ⟨g, o, rfl, hg, hcl⟩ := HC.out k hlt
        obtain ⟨v0, v1, v2, v3⟩ := hcl wr HFR.out.below
        have k1 : (0 : Int) ≤ (k : Int) := Int.natCast_nonneg _
        have k2 : (k : Int) < (l.length : Int) := by omega
        have hL := Fo.levU_len (l.take k)
        rw [List.length_take, Nat.min_eq_left hk] at hL
        have hIn := Fo.levU_in (l.take k)
        rw [List.length_take, Nat.min_eq_left hk] at hIn
        have hsn : Fo.levU (l.take (k + 1)) = Fo.addL (Fo.levU (l.take k)) (Fo.place (Fo.levU (l.take k)) l[k]) l[k] := by
          rw [List.take_add_one, List.getElem?_eq_getElem hlt]; exact Fo.levU_snoc _ _
        have hpl := Fo.place_le (Fo.levU (l.take k)) l[k]
        generalize Fo.levU (l.take k) = L at *
        generalize l[k] = e at *
        have HIN := Lib.hid hIn
        have HSN := Lib.hid hsn
        have HPL := Lib.hid hpl
        clear hcl hIn hsn hpl
        go_upto_block 2 with fail
        obtain ⟨W1, X, hW1, hX, hBW, c0, c1, c2, c3⟩ := one_box wr e
        have hch : Chg 3 c wr (paint c wr.heap.size 3) W1 := by rw [hW1]; exact Chg.alloc 3 3 _
        have hbx : BlkC W1 (paint c wr.heap.size 3) 3 X (.cells #[.int .i64 e.t, .int .i64 e.k, .int .i64 e.o, .bool e.f] 51 (0, 0)) := by rw [hW1, hX]; exact BlkC.made wr c 3 _
        rw [← hW1, ← hX]
        have HLV1 := Lib.hid (HLV.out.stay hch (by decide) (by decide))
        have HFR1 := Lib.hid (HFR.out.step hch (by decide))
        generalize paint c wr.heap.size 3 = cc at hch HLV1 HFR1 hbx
        have HBX := Lib.hid hbx
        have HKX := Lib.hid hbx.1
        clear hch hBW hW1 hX hbx c0 c1 c2 c3 v0 v1 v2 v3
        go_cut [6] (fun v w2 => v = .int .i64 (Fo.place L e) ∧ Below W1.heap.size W1 w2)
        case first =>
          go_wp2_with fail
          go_loopw [6] (fun v wr => ∃ m : Nat, m ≤ L.length ∧ v = .int .i64 m ∧ Hid (Fo.placeAt L e m = Fo.place L e) ∧ Below W1.heap.size W1 wr) (fun v _ => (intOf v).toNat)
          case atStart => exact ⟨L.length, Nat.le_refl _, rfl, Lib.hid rfl, Below.refl _ _⟩
          case round =>
            obtain ⟨m, hm, rfl, HPA, hbw⟩ := hrel
            cases m with
            | zero =>
              have HBW := Lib.hid hbw
              clear hbw
              go_wp2_with fail
              go_meet
              exact ⟨by rw [← HPA.out]; rfl, HBW.out⟩
            | succ m =>
              have HLV2 := HLV1.out.stay (Chg.below 3 3 hbw) (by decide) (by decide)
              obtain ⟨g1, o1, A1, c1, rfl, lg1, _, q1, _, r1, _⟩ := HLV2.cell m (by omega)
              have hkX : ∀ u, Below wr.heap.size wr u → u.heap[X]? = some (.cells #[.int .i64 e.t, .int .i64 e.k, .int .i64 e.o, .bool e.f] 51 (0, 0)) := fun u hu =>
                (hu.block X (by have := blk_lt HKX.out; have := hbw.size; omega)).trans ((hbw.block X (blk_lt HKX.out)).trans HKX.out)
              have hcall := containsFunc_lev1 wr X A1 c1 L[m] r1.1.rd (by have := HIN.out L[m] (List.getElem_mem _); omega) (fun x => Fo.dep x e) (fun u e' hu => lev1_any u X e e' ⟨_, _, _, hkX u hu⟩
                ⟨by rw [cell_blk (hkX u hu)]; rfl, by rw [cell_blk (hkX u hu)]; rfl, by rw [cell_blk (hkX u hu)]; rfl, by rw [cell_blk (hkX u hu)]; rfl⟩)
              have hhit := Fo.placeAt_hit (L := L) (e := e) (m := m) (by omega)
              have hmiss := Fo.placeAt_miss (L := L) (e := e) (m := m) (by omega)
              generalize (L[m].any fun x => Fo.dep x e) = b at hcall hhit hmiss
              generalize L[m].length = lm at hcall q1
              have HCALL := Lib.hid hcall
              have HHIT := Lib.hid hhit
              have HMISS := Lib.hid hmiss
              have HBW := Lib.hid hbw
              have m1 : (0 : Int) ≤ (m : Int) := Int.natCast_nonneg _
              have m2 : (m : Int) < (L.length : Int) := by omega
              have m3 : (0 : Int) < (m : Int) + 1 := by omega
              clear hcall hhit hmiss hbw hkX HLV2 r1
              go_wp2_with fail
              refine HCALL.out.mono ?_
              rintro x w3 ⟨rfl, b3⟩
              have HB3 := Lib.hid (HBW.out.trans ⟨b3.os, b3.tape, b3.output, b3.size, fun i hi => b3.block i (by have := HBW.out.size; omega)⟩ : Below W1.heap.size W1 w3)
              clear b3
              cases b with
              | true =>
                go_wp2_with fail
                go_meet
                exact ⟨by rw [← HPA.out, HHIT.out (by trivial)]; rfl, HB3.out⟩
              | false =>
                go_wp2_with fail
                go_roundw
                case rel => exact ⟨m, by omega, by go_num, Lib.hid (by rw [← HPA.out, HMISS.out (by trivial)]), HB3.out⟩
                case measure => simp [intOf]
        case rest =>
          obtain ⟨rfl, hbw⟩ := hcut
          have lX := HBX.out.lt
          have hLV2 := HLV1.out.stay (Chg.below 3 3 hbw) (by decide) (by decide)
          have hFR2 := HFR1.out.step (Chg.below 3 3 hbw) (by decide)
          have hBX2 : BlkC wc (paint cc W1.heap.size 3) 3 X (.cells #[.int .i64 e.t, .int .i64 e.k, .int .i64 e.o, .bool e.f] 51 (0, 0)) := ⟨(hbw.block X lX).trans HBX.out.1, (paint_old lX).trans HBX.out.2⟩
          generalize paint cc W1.heap.size 3 = cd at hLV2 hFR2 hBX2
          generalize Fo.place L e = p at *
          have HLV2 := Lib.hid hLV2
          have HFR2 := Lib.hid hFR2
          have HBX2 := Lib.hid hBX2
          have hpl := HPL.out
          clear hLV2 hFR2 hBX2 hbw lX HBX HKX HLV1 HFR1
          generalize wc = w5 at *
          go_upto_if 38 with fail
          go_cut [2] (fun v w2 => ∃ (A2 : Option Addr) (cap2 : Nat) (c2 : Nat → Nat) (L2 : List (List Ev)), v = .slice A2 L2.length cap2 ∧ p < L2.length ∧ L2.length ≤ 201 ∧ Hid (Fo.addL L p e = L2.set p (L2.getD p [] ++ [e])) ∧ Hid (∀ q ∈ L2, q.length ≤ 200) ∧ Hid (LvC w2 c2 A2 cap2 L2) ∧ Hid (Fr w.heap.size c2 w w2) ∧ Hid (BlkC w2 c2 3 X (.cells #[.int .i64 e.t, .int .i64 e.k, .int .i64 e.o, .bool e.f] 51 (0, 0))))
          case first =>
            by_cases hp : p = L.length
            · subst hp
              obtain ⟨vs, hv, hin⟩ := HLV2.out.stay (Chg.alloc 4 3 (Obj.cells #[.slice none 0 0] 55)) (by decide) (by decide)
              have HV := Lib.hid hv
              have HIN2 := Lib.hid hin
              clear hv hin
              go_wp2_with (at_builtin; refine wpList_append_row (by rfl) _ _ _ (by rfl) 55 i1 _ 1 24 Tryz.underlying150 hi1 hy0 hy1 hy2 rfl (by omega) AL L.length capL vs (by rfl) HV.out.1 ⟨w5.heap.size, 0, none⟩ 1 1 [.slice none 0 0] (by rfl) (by rfl) (World.news_of_block (cs := #[.slice none 0 0]) (t := 55) (fr := (0, 0)) (heap_alloc_new w5 _)) (by simp [Value.oneCell']) (by omega) (by unfold maxLen; omega) (by omega) ?_; intro g1 of1 cap1 w3 hown hm hat; skip)
              go_meet
              obtain ⟨z1, z2⟩ := LvC.snoc HV.out HIN2.out hown hm (fun a' ha' => by injection ha' with ha'; subst ha'; exact hat)
              exact ⟨some ⟨g1, of1, none⟩, cap1, _, L ++ [[]], by rw [List.length_append]; rfl, by simp, by rw [List.length_append, List.length_singleton]; omega,
                Lib.hid (by rw [Fo.addL_end]; simp), Lib.hid (fun q hq => by
                  rcases List.mem_append.1 hq with hq | hq
                  · have := HIN.out q hq; omega
                  · rw [List.mem_singleton] at hq; subst hq; simp), Lib.hid z1, Lib.hid ((HFR2.out.step (Chg.alloc 4 3 _) (by decide)).step z2 (by decide)), Lib.hid ((HBX2.out.stay (Chg.alloc 4 3 _) (by decide)).stay z2 (by decide))⟩
            · have e1 : ((p : Int) == (L.length : Int)) = false := by simp; omega
              have HP := Lib.hid hp
              clear hp
              go_wp2_with fail
              go_meet
              have hpl2 : p < L.length := by have := HP.out; omega
              exact ⟨AL, capL, _, L, rfl, hpl2, by omega, Lib.hid (by rw [Fo.addL_in e hpl2, List.getD_eq_getElem?_getD, List.getElem?_eq_getElem hpl2]; rfl), Lib.hid (fun q hq => by have := HIN.out q hq; omega), HLV2, HFR2, HBX2⟩
          case rest =>
            obtain ⟨A2, cap2, c2, L2, rfl, hp2, hl2, HAD, HLEN, HLV3, HFR3, HBX3⟩ := hcut
            obtain ⟨g2, o2, A3, c3, rfl, lg2, cg2, q2, f2, r3, _⟩ := HLV3.out.cell p hp2
            have hget : L2.getD p [] = L2[p] := by rw [List.getD_eq_getElem?_getD, List.getElem?_eq_getElem hp2]; rfl
            have hq3 : L2[p].length ≤ 200 := HLEN.out _ (List.getElem_mem _)
            generalize hq' : L2[p] = q at *
            have lX := HBX3.out.lt
            have nX : ¬ ∃ a, A3 = some a ∧ X = a.block := fun ⟨a, h1, h2⟩ => by have := r3.2 a h1; rw [← h2, HBX3.out.2] at this; omega
            have nG : ¬ ∃ a, A3 = some a ∧ g2 = a.block := fun ⟨a, h1, h2⟩ => by have := r3.2 a h1; rw [← h2, cg2] at this; omega
            have p1 : (0 : Int) ≤ (p : Int) := Int.natCast_nonneg _
            have p2 : (p : Int) < (L2.length : Int) := by omega
            have HBXC := HBX3.out.cell
            have x0 : wc.cell? ⟨X, 0, none⟩ = some (.int .i64 e.t) := by rw [HBXC]; rfl
            have x1 : wc.cell? ⟨X, 1, none⟩ = some (.int .i64 e.k) := by rw [HBXC]; rfl
            have x2 : wc.cell? ⟨X, 2, none⟩ = some (.int .i64 e.o) := by rw [HBXC]; rfl
            have x3 : wc.cell? ⟨X, 3, none⟩ = some (.bool e.f) := by rw [HBXC]; rfl
            have HR3 := Lib.hid r3
            have HGET := Lib.hid hget
            have fg2 := f2 (o2 + p)
            clear r3 hget HBXC f2
            generalize wc = w6 at *
            have hal : Chg 4 c2 w6 (paint c2 w6.heap.size 3) (w6.alloc (Obj.cells #[.int .i64 e.t, .int .i64 e.k, .int .i64 e.o, .bool e.f] 51)).drew := (Chg.alloc 4 3 _).drew
            have HAL := Lib.hid hal
            clear hal
            go_upto_region 12 with fail
            refine wp_region_plan (by kernel_rfl) (fun u => Mod (fun k => ∃ a, A3 = some a ∧ k = a.block) w6 u) [8, 10] [(0, .pure), (1, .pure), (2, .pure), (3, .pure), (4, .pure), (5, .load), (6, .load), (7, .eff), (8, .last), (9, .pure), (10, .last)] (by simp only [List.map_cons, List.map_nil, List.getElem?_toArray, List.getElem?_cons_succ, List.getElem?_cons_zero]; rfl) (by kernel_rfl) (fun _ _ d _ _ h => by cases d <;> exact h) ((Mod.refl _ _).drew) ?_
            repeat (first
              | (refine plan_pure (v := ?_) (by rfl) (fun w1 => ?_) ?_
                 rotate_left
                 · go_simp <;> with_reducible rfl
                 simp only [Act.put, List.setIfInBounds_toArray, List.set_cons_zero, List.set_cons_succ])
              | (refine plan_off (by rfl) ?_
                 simp only [Act.put, List.setIfInBounds_toArray, List.set_cons_zero, List.set_cons_succ])
              | (refine plan_load_off (by rfl) ?_
                 simp only [Act.put, List.setIfInBounds_toArray, List.set_cons_zero, List.set_cons_succ])
              | (refine plan_load (v := ?_) (by rfl) (fun w1 hw1 => ?_) ?_
                 rotate_left
                 · (have y0 := (hw1.cell g2 (o2 + p) lg2 nG).trans q2
                    have y1 := (hw1.cell X 0 lX nX).trans x0
                    have y2 := (hw1.cell X 1 lX nX).trans x1
                    have y3 := (hw1.cell X 2 lX nX).trans x2
                    have y4 := (hw1.cell X 3 lX nX).trans x3
                    clear hw1
                    go_simp <;> with_reducible rfl)
                 simp only [Act.put, List.setIfInBounds_toArray, List.set_cons_zero, List.set_cons_succ]))
            refine plan_eff ?_
            go_wp2_with fail
            refine plan_on (fun _ h => h) (((Mod.refl _ _).alloc _).drew) ?_
            refine plan_last ?_
            refine wpList_append_row (by rfl) _ _ _ (by rfl) 51 i0 _ 4 32 Tryz.underlying55 hi0 hz0 hz1 hz2 rfl (by omega) A3 q.length c3 (q.flatMap encE) (by rfl) ((HR3.out.stay HAL.out (by omega)).1.move (fun _ _ => rfl)) ⟨w6.heap.size, 0, none⟩ 1 1 [.int .i64 e.t, .int .i64 e.k, .int .i64 e.o, .bool e.f] (by rfl) (by rfl) (World.news_of_block (cs := #[.int .i64 e.t, .int .i64 e.k, .int .i64 e.o, .bool e.f]) (t := 51) (fr := (0, 0)) (heap_alloc_new w6 _)) (by simp [Value.oneCell']) (by omega) (by unfold maxLen; omega) (by omega) ?_
            intro ga oa capa w7 hown hgrow hat
            have hm7 : Mod (fun k => ∃ a, A3 = some a ∧ k = a.block) w6 w7 := (((Mod.refl _ _).alloc _).drew).trans hgrow
            have f7 : w7.frozen? ⟨g2, o2 + p, none⟩ = false := (hm7.frozen g2 (o2 + p) lg2 nG).trans fg2
            have q7 := (hm7.cell g2 (o2 + p) lg2 nG).trans q2
            go_wp2_with fail
            repeat (first
              | (refine plan_pure (v := ?_) (by rfl) (fun w1 => ?_) ?_
                 rotate_left
                 · go_simp <;> with_reducible rfl
                 simp only [Act.put, List.setIfInBounds_toArray, List.set_cons_zero, List.set_cons_succ])
              | (refine plan_off (by rfl) ?_
                 simp only [Act.put, List.setIfInBounds_toArray, List.set_cons_zero, List.set_cons_succ])
              | (refine plan_load_off (by rfl) ?_
                 simp only [Act.put, List.setIfInBounds_toArray, List.set_cons_zero, List.set_cons_succ])
              | (refine plan_load (v := ?_) (by rfl) (fun w1 hw1 => ?_) ?_
                 rotate_left
                 · (skip
                    clear hw1
                    go_simp <;> with_reducible rfl)
                 simp only [Act.put, List.setIfInBounds_toArray, List.set_cons_zero, List.set_cons_succ]))
            refine plan_last ?_
            go_wp2_with fail
            refine plan_end ?_
            go_wp2_with fail
            go_roundw
            case rel =>
              have hl3 := HLV3.out.stay HAL.out (by decide) (by decide)
              obtain ⟨z1, z2⟩ := RowC.put (HR3.out.stay HAL.out (by omega)) (A' := some ⟨ga, oa, none⟩) (cs' := (q ++ [e]).flatMap encE) (by simpa [List.flatMap_append, encE] using hown) hgrow (fun a' ha' => by injection ha' with ha'; subst ha'; exact hat)
              have hz : (q ++ [e]).length = q.length + 1 := by simp
              rw [← hz] at z1
              obtain ⟨y1, y2⟩ := hl3.put hp2 z2 (q ++ [e]) z1 g2 o2 rfl
              rw [hz] at y1 y2
              have hfr := ((HFR3.out.step HAL.out (by decide)).step z2 (by omega)).step y2 (by decide)
              refine ⟨k + 1, some ⟨g2, o2, none⟩, cap2, _, by omega, by go_num, ?_, ?_, Lib.hid hfr⟩
              · rw [HSN.out, HAD.out, List.length_set]
              · rw [HSN.out, HAD.out, HGET.out]; exact Lib.hid y1
            case measure => simp [intOf]; omega
      · have hkn : k = l.length := by omega
        have HK := Lib.hid hkn
        clear hkn
        have hL := Fo.levU_len l
        have HLV1 : Hid (LvC wr c AL capL (Fo.part (Fo.levU l) 0)) := by rw [Fo.part_zero]; have := HLV.out; rw [HK.out, List.take_length] at this; exact Lib.hid this
        have hlk : (Fo.levU (l.take k)).length = (Fo.levU l).length := by rw [HK.out, List.take_length]
        rw [hlk]
        clear hlk HLV
        have h4 : ∀ i, (hi : i < (Fo.levU l).length) → (Fo.levU l)[i].length ≤ 4 ∧ 0 < (Fo.levU l)[i].length := fun i hi => ⟨Fo.level_four (HRS.out (by trivial)) i hi, Fo.level_ne i hi⟩
        have hso : ∀ i, (hi : i < (Fo.levU l).length) → ∀ q' : List Ev, q'.Perm (Fo.levU l)[i] → Fo.SortedT q' → q' = Fo.sortT (Fo.levU l)[i] := fun i hi q' hp hs => Fo.level_sort i hi hp hs
        have hR : R = Fo.part (Fo.levU l) (Fo.levU l).length := by rw [Fo.part_all]; exact HLR.out (by trivial)
        generalize Fo.levU l = L at *
        have H4 := Lib.hid h4
        have HSO := Lib.hid hso
        have HR := Lib.hid hR
        clear h4 hso hR
        generalize wr = w9 at *
        go_wp2_with fail
        go_loopw [55] (fun v55 wr => ∃ (i : Nat) (c : Nat → Nat), i ≤ L.length ∧ v55 = .int .i64 i ∧ Hid (LvC wr c AL capL (Fo.part L i)) ∧ Hid (Fr w.heap.size c w wr)) (fun v55 _ => L.length - (intOf v55).toNat)
        case atStart => exact ⟨0, _, Nat.zero_le _, rfl, HLV1, HFR⟩
        case round =>
          obtain ⟨i, c, hi, rfl, HLV2, HFR2⟩ := hrel
          by_cases hlt2 : i < L.length
          · have hlp : i < (Fo.part L i).length := by rw [Fo.part_len]; exact hlt2
            obtain ⟨g2, o2, A3, c3, rfl, lg2, cg2, q2, f2, r3, put⟩ := HLV2.out.cell i hlp
            have hset := Fo.part_set L i hlt2
            rw [Fo.part_get L i hlt2] at q2 r3 put
            obtain ⟨h4, hpos⟩ := H4.out i hlt2
            have hso := HSO.out i hlt2
            generalize L[i] = q at *
            obtain ⟨ga, oa, rfl⟩ := r3.1.some_of_pos (by have := r3.1.2.1; omega)
            have hcall := sort_any wr ga oa c3 q r3.1 (by omega)
            have HCALL := Lib.hid hcall
            have HSET := Lib.hid hset
            have HPUT := Lib.hid put
            have HR3 := Lib.hid r3
            have HSO2 := Lib.hid hso
            have k1 : (0 : Int) ≤ (i : Int) := Int.natCast_nonneg _
            have k2 : (i : Int) < (L.length : Int) := by omega
            clear hcall hset put r3 hso f2
            go_wp2_with fail
            refine HCALL.out.mono ?_
            rintro x w7 ⟨rfl, q', hp, hs, hlen, hown, hm⟩
            have hq := HSO2.out q' hp hs
            have hch : Chg (10 + i) c wr (paint c wr.heap.size (10 + i)) w7 := .mod (10 + i) (hm.mono (fun j _ e => by subst e; exact HR3.out.2 _ rfl))
            have hro : RowC w7 (paint c wr.heap.size (10 + i)) (10 + i) 51 4 (some ⟨ga, oa, none⟩) q'.length c3 (q'.flatMap encE) := ⟨hown, fun a ha => by injection ha with ha; subst ha; rw [paint_old HR3.out.1.lt]; exact HR3.out.2 _ rfl⟩
            have HLV3 := Lib.hid (HPUT.out w7 _ q' hch hlen hro)
            have HFR3 := Lib.hid (HFR2.out.step hch (by omega))
            rw [hq] at HLV3
            rw [HSET.out] at HLV3
            clear hq hch hro hown hm hp hs hlen
            go_wp2_with fail
            go_roundw
            case rel => exact ⟨i + 1, _, by omega, by go_num, HLV3, HFR3⟩
            case measure => simp [intOf]; omega
          · have hkn2 : i = L.length := by omega
            have HK2 := Lib.hid hkn2
            clear hkn2
            go_wp2_with fail
            go_ret
            rw [HR.out]
            refine ⟨AL, capL, by rw [Fo.part_len]; rfl, ?_, HFR2.out.below⟩
            rw [← HK2.out]
            exact HLV2.out.lv
end Go.Proofs.YtckdofjpoajblaaGreat
namespace Go.Proofs.YtckdofjpoajblaaGreat
open Go.RowKit
set_option linter.unusedVariables false
namespace Fo
def encP (L : List (List Ev)) : List UInt8 := L.flatMap (fun l => UInt8.ofNat l.length :: bytes l)
theorem encP_succ {L : List (List Ev)} {k : Nat} (hk : k < L.length) : encP (L.take (k + 1)) = encP (L.take k) ++ [UInt8.ofNat L[k].length] ++ bytes L[k] := by
  unfold encP
  rw [List.take_add_one, List.getElem?_eq_getElem hk, List.flatMap_append, List.append_assoc]
  simp
theorem encP_len {L : List (List Ev)} (k : Nat) : (encP (L.take k)).length ≤ L.flatten.length + L.length := by
  have h : ∀ M : List (List Ev), (encP M).length = M.flatten.length + M.length := by
    intro M
    induction M with
    | nil => rfl
    | cons q M ih =>
      have : encP (q :: M) = (UInt8.ofNat q.length :: bytes q) ++ encP M := rfl
      rw [this, List.length_append, ih, List.flatten_cons, List.length_append, List.length_cons, List.length_cons]
      unfold bytes
      rw [List.length_map]
      omega
  rw [h]
  have := sumN_le L k
  unfold sumN at this
  have := List.length_take (l := L) (i := k)
  omega
theorem okL_eq {L : List (List Ev)} (h : okRow L.flatten = true) : okL L = decide (lev L.flatten = L) := by
  unfold okL
  unfold okRow at h
  rw [h, Bool.true_and]
theorem okL_no {L : List (List Ev)} (h : okRow L.flatten = false) : okL L = false := by
  unfold okL
  unfold okRow at h
  rw [h, Bool.false_and]
end Fo
theorem prE_right {l : List Ev} (h : Fo.rights l = true) : prE l = Fo.bytes l := by unfold prE; rw [if_pos h]
theorem Bld.move {B b : Nat} {bs : List Value} {w w' : World} (h : Bld B b bs w) (hb : Below w.heap.size w w') : Bld B b bs w' := by
  have go : ∀ p, Lib.BuilderAt 220 5 B b p bs w → Lib.BuilderAt 220 5 B b p bs w' := fun p h => by
    obtain ⟨hB, v, hk, ⟨h1, h2⟩, hne⟩ := h
    refine ⟨hB, v, (hb.block b (blk_lt hk)).trans hk, ⟨h1, ?_⟩, hne⟩
    rcases h2 with h2 | ⟨g, cap, cur, a1, a2, a3, a4⟩
    · exact .inl h2
    · exact .inr ⟨g, cap, cur, a1, a2, (hb.block g (blk_lt a3)).trans a3, a4⟩
  exact h.elim (fun h => .inl (go _ h)) (fun h => .inr (go _ h))
theorem u8_conv (n : Nat) (h : n ≤ 200) : (Value.int .u8 (n : Int)) = Value.int .u8 ((UInt8.ofNat n).toNat : Int) := by
  have : (UInt8.ofNat n).toNat = n := by simp; omega
  rw [this]
set_option maxRecDepth 100000 in
set_option maxHeartbeats 4000000 in
theorem fprint_any (w : World) (A : Option Addr) (cap : Nat) (L : List (List Ev)) (h : LvAt w w.heap.size A L) (hl : L.length ≤ 1000000) (ht : L.flatten.length ≤ 1000000) :
    Calls Tryz.prog 81 #[.slice A L.length cap] w fun x w' => x = .returned (.string ⟨(Fo.printL L).toArray⟩) ∧ Below w.heap.size w w' := by
  have hrow := frow_any w A cap L h hl ht
  have hno : Fo.okRow L.flatten = false → Fo.printL L = [] := fun e => by unfold Fo.printL; rw [Fo.okL_no e]; rfl
  have hny : Fo.okRow L.flatten = true → Fo.lev L.flatten ≠ L → Fo.printL L = [] := fun e e2 => by unfold Fo.printL; rw [Fo.okL_eq e, decide_eq_false e2]; rfl
  have hyy : Fo.okRow L.flatten = true → Fo.lev L.flatten = L → Fo.printL L = Fo.encP L ++ [0] ∧ ∀ q ∈ L, q.length ≤ 4 ∧ Fo.rights q = true := fun e e2 => by
    have hk : Fo.okL L = true := by rw [Fo.okL_eq e, decide_eq_true e2]
    refine ⟨by unfold Fo.printL; rw [if_pos hk]; rfl, fun q hq => (Fo.okL_mem hk hq).2⟩
  have hlv : Fo.okRow L.flatten = true → Fo.levR L.flatten = Fo.lev L.flatten := fun e => by unfold Fo.levR; rw [if_pos e]
  have hel := fun k => Fo.encP_len (L := L) k
  have hq4 : ∀ q ∈ Fo.lev L.flatten, q.length ≤ 1000000 := fun q hq => Nat.le_trans (Fo.lev_in_len _ _ hq) ht
  have hl4 : (Fo.lev L.flatten).length ≤ 1000000 := Nat.le_trans (Fo.lev_len_le _) ht
  generalize Fo.printL L = P at *
  generalize L.flatten = R at *
  have HL := Lib.hid h
  have HROW := Lib.hid hrow
  have HNO := Lib.hid hno
  have HNY := Lib.hid hny
  have HYY := Lib.hid hyy
  have HLV := Lib.hid hlv
  have HEL := Lib.hid hel
  have HQ4 := Lib.hid hq4
  have HL4 := Lib.hid hl4
  clear h hrow hno hny hyy hlv hel hq4 hl4
  go_enter Tryz.func81, Tryz.ntmps81
  go_wp2_with fail
  refine HROW.out.mono ?_
  rintro x w1 ⟨A1, cap1, rfl, ⟨hrd, _⟩, hb1⟩
  have hcall := fright_any w1 A1 cap1 R hrd (by omega)
  have hcall2 : ∀ w2, Below w1.heap.size w1 w2 → Calls Tryz.prog 82 #[.slice A1 R.length cap1] w2 (LvOut w2 (Fo.levR R)) := fun w2 hb => levels_any w2 A1 cap1 R (hrd.below hb (Nat.le_refl _)) (by omega)
  generalize hbb : Fo.okRow R = b at *
  have HB1 := Lib.hid hb1
  have HC1 := Lib.hid hcall
  have HC2 := Lib.hid hcall2
  clear hb1 hcall hcall2 hrd hbb
  go_wp2_with fail
  refine HC1.out.mono ?_
  rintro x w2 ⟨rfl, b2⟩
  have hb2 := below_at HB1.out b2
  have hcall := HC2.out w2 b2
  have HB2 := Lib.hid hb2
  cases b with
  | false =>
    clear hcall b2 hb2
    go_wp2_with fail
    go_ret
    exact ⟨by rw [HNO.out (by trivial)]; rfl, HB2.out⟩
  | true =>
    rw [HLV.out (by trivial)] at hcall
    have HC3 := Lib.hid hcall
    clear hcall b2 hb2
    go_wp2_with fail
    refine HC3.out.mono ?_
    rintro x w3 ⟨A3, cap3, rfl, hlv3, b3⟩
    have hb3 := below_at HB2.out b3
    have hcall := equalFunc_any w3 A3 cap3 (Fo.lev R) A cap L hlv3 ((HL.out.below hb3).mono hb3.size) (by have := HL4.out; omega) (fun q hq => by have := HQ4.out q hq; omega)
    have HB3 := Lib.hid hb3
    have HC4 := Lib.hid hcall
    clear hlv3 b3 hb3 hcall
    go_wp2_with fail
    refine HC4.out.mono ?_
    rintro x w4 ⟨rfl, b4⟩
    have HB4 := Lib.hid (below_at HB3.out b4)
    clear b4
    by_cases heq : Fo.lev R = L
    · have hyy := HYY.out (by trivial) heq
      rw [decide_eq_true heq]
      have HEQ := Lib.hid heq
      have HP := Lib.hid hyy.1
      have HQ := Lib.hid hyy.2
      clear heq hyy HC4
      go_upto_region 5 with fail
      obtain ⟨w5, hw5⟩ : ∃ w5, w5 = w4.alloc (Obj.cells #[.pointer none, .slice none 0 0] 220) := ⟨_, rfl⟩
      obtain ⟨X, hX⟩ : ∃ X, X = w4.heap.size := ⟨_, rfl⟩
      have hbld : Bld w.heap.size X (Lib.byteCells (Fo.encP (L.take 0))) w5 := .inl ⟨by have := HB4.out.size; omega, _, by rw [hw5, hX]; exact heap_alloc_new w4 _, ⟨rfl, .inl ⟨rfl, rfl⟩⟩, by simp [Value.ownBlock]⟩
      have hb5 : Below w.heap.size w w5 := by rw [hw5]; exact HB4.out.alloc HB4.out.size _
      rw [← hw5, ← hX]
      have HBLD := Lib.hid hbld
      have HB5 := Lib.hid hb5
      clear hw5 hX hbld hb5
      go_wp2_with fail
      go_loopw [21] (fun v wr => ∃ k : Nat, k ≤ L.length ∧ v = .int .i64 k ∧ Hid (Bld w.heap.size X (Lib.byteCells (Fo.encP (L.take k))) wr) ∧ Below w.heap.size w wr) (fun v _ => L.length - (intOf v).toNat)
      case atStart => exact ⟨0, Nat.zero_le _, rfl, HBLD, HB5.out⟩
      case round =>
        obtain ⟨k, hk, rfl, HBL, hbw⟩ := hrel
        by_cases hlt : k < L.length
        · obtain ⟨g, o, A', c', hA, hg, hP, hcl⟩ := HL.out.cell k hlt
          subst hA
          have v0 := hcl wr hbw
          have k1 : (0 : Int) ≤ (k : Int) := Int.natCast_nonneg _
          have k2 : (k : Int) < (L.length : Int) := by omega
          have hsn := Fo.encP_succ hlt
          obtain ⟨hq4, hqr⟩ := HQ.out L[k] (List.getElem_mem hlt)
          have hel := HEL.out k
          have hel2 := HEL.out (k + 1)
          rw [hsn, List.length_append, List.length_append, List.length_singleton] at hel2
          have hpr : ∀ u, Below w.heap.size w u → Calls Tryz.prog 145 #[.slice A' L[k].length c'] u fun x w' => x = .returned (.string ⟨(Fo.bytes L[k]).toArray⟩) ∧ Below u.heap.size u w' := fun u hu => by
            have := print_any u A' c' L[k] ((hP.below hu).mono hu.size) (by omega)
            rwa [prE_right hqr] at this
          generalize L[k] = q at v0 hsn hq4 hel2 hpr
          generalize Fo.encP (L.take k) = E at HBL hsn hel hel2
          have hby := bld_byte w.heap.size X (Lib.byteCells E) (q.length : Int) wr HBL.out (by rw [Lib.byteCells_length]; omega) hbw.size
          have HBY := Lib.hid hby
          have HPR := Lib.hid hpr
          have HSN := Lib.hid hsn
          have HBW := Lib.hid hbw
          have hwr : IntKind.u8.wrap (q.length : Int) = (q.length : Int) := by unfold IntKind.wrap; simp [IntKind.bits, IntKind.signed]; omega
          clear hby hpr hsn hbw hcl hP hqr
          go_wp2_with fail
          refine HBY.out.mono ?_
          rintro x w6 ⟨rfl, hbl, hb⟩
          have hb6 := HBW.out.trans hb
          have hcall := HPR.out w6 hb6
          have HBL6 := Lib.hid hbl
          have HB6 := Lib.hid hb6
          have HC6 := Lib.hid hcall
          clear hbl hb hb6 hcall HBY
          go_wp2_with fail
          refine HC6.out.mono ?_
          rintro x w7 ⟨rfl, b7⟩
          have hb7 := below_at HB6.out b7
          have hst := bld_str w.heap.size X (Lib.byteCells E ++ [.int .u8 (q.length : Int)]) ⟨(Fo.bytes q).toArray⟩ w7 (HBL6.out.move b7) (by
            rw [List.length_append, Lib.byteCells_length, List.length_singleton]
            have : ByteArray.size ⟨(Fo.bytes q).toArray⟩ = (Fo.bytes q).length := by simp [ByteArray.size]
            omega) hb7.size
          have HST := Lib.hid hst
          have HB7 := Lib.hid hb7
          clear b7 hb7 hst HC6
          go_wp2_with fail
          refine HST.out.mono ?_
          rintro x w8 ⟨rfl, hbl, hb⟩
          have HBL8 := Lib.hid hbl
          have HB8 := Lib.hid (HB7.out.trans hb)
          clear hbl hb HST
          go_wp2_with fail
          go_roundw
          case rel =>
            refine ⟨k + 1, by omega, by go_num, ?_, HB8.out⟩
            rw [HSN.out, Lib.byteCells_append, Lib.byteCells_append]
            have := HBL8.out
            rw [u8_conv q.length (by omega), Lib.strCells_toArray] at this
            exact Lib.hid this
          case measure => simp [intOf]; omega
        · have hkn : k = L.length := by omega
          have hbl := HBL.out
          have hel := HEL.out k
          rw [hkn, List.take_length] at hbl hel
          have hby := bld_byte w.heap.size X (Lib.byteCells (Fo.encP L)) 0 wr hbl (by rw [Lib.byteCells_length]; omega) hbw.size
          have HBY := Lib.hid hby
          have HBW := Lib.hid hbw
          have HK := Lib.hid hkn
          clear hby hbl hbw hkn
          go_wp2_with fail
          refine HBY.out.mono ?_
          rintro x w6 ⟨rfl, hbl, hb⟩
          have hb6 := HBW.out.trans hb
          have hbl2 : Bld w.heap.size X (Lib.byteCells (Fo.encP L ++ [0])) w6 := by rw [Lib.byteCells_append]; exact hbl
          have hst := Tryz.Builder_String_any w.heap.size X (Fo.encP L ++ [0]) w6 hbl2 hb6.size
          change Calls Tryz.prog 146 _ _ _ at hst
          rw [← HP.out] at hst
          have HST := Lib.hid hst
          have HB6 := Lib.hid hb6
          clear hb hbl hbl2 hb6 hst HBY
          go_wp2_with fail
          refine HST.out.mono ?_
          rintro x w7 ⟨rfl, hb⟩
          have HB7 := Lib.hid (HB6.out.trans hb)
          clear hb HST
          go_wp2_with fail
          go_ret
          exact ⟨rfl, HB7.out⟩
    · have hny := HNY.out (by trivial) heq
      rw [decide_eq_false heq]
      have HNN := Lib.hid hny
      clear heq hny HC4
      go_wp2_with fail
      go_ret
      exact ⟨by rw [HNN.out]; rfl, HB4.out⟩
set_option maxRecDepth 100000 in
theorem fkey_any (w : World) (A : Option Addr) (cap : Nat) (l : List Ev) (hr : Rd w 4 A l.length (l.flatMap encE)) (hl : l.length < 4611686018427387904) :
    Calls Tryz.prog 46 #[.slice A l.length cap] w fun x w' => x = .returned (.string ⟨(Fo.key l).toArray⟩) ∧ Below w.heap.size w w' := by
  have hcall := fright_any w A cap l hr hl
  have hcall2 : ∀ w2, Below w.heap.size w w2 → Calls Tryz.prog 82 #[.slice A l.length cap] w2 (LvOut w2 (Fo.levR l)) := fun w2 hb => levels_any w2 A cap l (hr.below hb (Nat.le_refl _)) hl
  have hno : Fo.okRow l = false → Fo.key l = [] := fun e => by unfold Fo.key; rw [if_neg (by rw [e]; decide)]
  have hyes : Fo.okRow l = true → Fo.key l = Fo.printL (Fo.lev l) ∧ Fo.levR l = Fo.lev l ∧ l.length ≤ 200 := fun e => by
    refine ⟨by unfold Fo.key; rw [if_pos e], by unfold Fo.levR; rw [if_pos e], ?_⟩
    unfold Fo.okRow at e
    simp at e
    exact e.1
  have hfl := (Fo.lev_flat l).length_eq
  have hle := Fo.lev_len_le l
  generalize Fo.key l = K at *
  generalize Fo.okRow l = b at *
  have HC1 := Lib.hid hcall
  have HC2 := Lib.hid hcall2
  have HNO := Lib.hid hno
  have HYES := Lib.hid hyes
  have HFL := Lib.hid hfl
  have HLE := Lib.hid hle
  clear hcall hcall2 hno hyes hfl hle hr
  go_enter Tryz.func46, Tryz.ntmps46
  go_wp2_with fail
  refine HC1.out.mono ?_
  rintro x w1 ⟨rfl, b1⟩
  have HB1 := Lib.hid b1
  cases b with
  | false =>
    clear b1
    go_wp2_with fail
    go_ret
    exact ⟨by rw [HNO.out (by trivial)]; rfl, HB1.out⟩
  | true =>
    obtain ⟨h1, h2, h3⟩ := HYES.out (by trivial)
    have hcall := HC2.out w1 b1
    rw [h2] at hcall
    have HC3 := Lib.hid hcall
    have HK := Lib.hid h1
    clear b1 hcall h1 h2
    go_wp2_with fail
    refine HC3.out.mono ?_
    rintro x w2 ⟨A2, cap2, rfl, hlv, b2⟩
    have hpr := fprint_any w2 A2 cap2 (Fo.lev l) hlv (by have := HLE.out; omega) (by rw [HFL.out]; omega)
    rw [← HK.out] at hpr
    have HP := Lib.hid hpr
    have HB2 := Lib.hid (below_at HB1.out b2)
    clear hlv b2 hpr
    go_wp2_with fail
    refine HP.out.mono ?_
    rintro x w3 ⟨rfl, b3⟩
    have HB3 := Lib.hid (below_at HB2.out b3)
    clear b3
    go_wp2_with fail
    go_ret
    exact ⟨rfl, HB3.out⟩
end Go.Proofs.YtckdofjpoajblaaGreat
namespace Go.Proofs.YtckdofjpoajblaaGreat
open Go.RowKit
set_option linter.unusedVariables false
set_option maxRecDepth 100000 in
set_option maxHeartbeats 4000000 in
theorem refRightL_any (w : World) (A : Option Addr) (cap : Nat) (L : List (List Ev)) (h : LvAt w w.heap.size A L) (hl : L.length ≤ 1000000) (ht : L.flatten.length ≤ 1000000) :
    Calls Tryz.prog 200 #[.slice A L.length cap] w fun x w' => x = .returned (.bool (Fo.okL L)) ∧ Below w.heap.size w w' := by
  have hrow := refRow_any w A cap L h hl ht
  have hemp : ∀ q ∈ L, q.length = 0 → Fo.okL L = false := fun q hq h0 => by
    cases hb : Fo.okL L with
    | false => rfl
    | true => have := (Fo.okL_mem hb hq).1; omega
  have hno : Fo.okRow L.flatten = false → Fo.okL L = false := Fo.okL_no
  have hyes : Fo.okRow L.flatten = true → Fo.okL L = decide (Fo.lev L.flatten = L) ∧ Fo.levR L.flatten = Fo.lev L.flatten := fun e => ⟨Fo.okL_eq e, by unfold Fo.levR; rw [if_pos e]⟩
  have hok : Fo.okRow L.flatten = (decide (L.flatten.length ≤ 200) && Fo.rights L.flatten) := rfl
  have hq4 : ∀ q ∈ Fo.lev L.flatten, q.length ≤ 1000000 := fun q hq => Nat.le_trans (Fo.lev_in_len _ _ hq) ht
  have hl4 : (Fo.lev L.flatten).length ≤ 1000000 := Nat.le_trans (Fo.lev_len_le _) ht
  generalize Fo.okL L = K at *
  generalize L.flatten = R at *
  have HL := Lib.hid h
  have HROW := Lib.hid hrow
  have HEMP := Lib.hid hemp
  have HNO := Lib.hid hno
  have HYES := Lib.hid hyes
  have HOK := Lib.hid hok
  have HQ4 := Lib.hid hq4
  have HL4 := Lib.hid hl4
  clear h hrow hemp hno hyes hok hq4 hl4
  go_enter Tryz.func200, Tryz.ntmps200
  go_wp2_with fail
  go_loopw [3] (fun v wr => ∃ k : Nat, k ≤ L.length ∧ v = .int .i64 k ∧ w = wr) (fun v _ => L.length - (intOf v).toNat)
  case atStart => exact ⟨0, Nat.zero_le _, rfl, rfl⟩
  case round =>
    obtain ⟨k, hk, rfl, rfl⟩ := hrel
    by_cases hlt : k < L.length
    · obtain ⟨g, o, A', c', rfl, hg, hP, hcl⟩ := HL.out.cell k hlt
      have v0 := hcl w (Below.refl _ _)
      have k1 : (0 : Int) ≤ (k : Int) := Int.natCast_nonneg _
      have k2 : (k : Int) < (L.length : Int) := by omega
      have hem := HEMP.out L[k] (List.getElem_mem hlt)
      generalize L[k] = q at v0 hem
      clear hcl hP
      generalize q.length = m at *
      by_cases hz : m = 0
      · have e1 : ((m : Int) == 0) = true := by simp; omega
        have HF := Lib.hid (hem hz)
        clear hem hz
        go_wp2_with fail
        go_ret
        exact ⟨by rw [HF.out]; rfl, Below.refl _ _⟩
      · have e1 : ((m : Int) == 0) = false := by simp; omega
        clear hem hz
        go_wp2_with fail
        go_roundw
        case rel => exact ⟨k + 1, by omega, by go_num, by trivial⟩
        case measure => simp [intOf]; omega
    · have hkn : ¬ (k : Int) < (L.length : Int) := by omega
      go_wp2_with fail
      refine HROW.out.mono ?_
      rintro x w1 ⟨A1, cap1, rfl, ⟨hrd, _⟩, hb1⟩
      have hc1 := rows_any w1 A1 cap1 R hrd (by omega)
      have hc2 : ∀ w2, Below w1.heap.size w1 w2 → Calls Tryz.prog 157 #[.slice A1 R.length cap1] w2 (LvOut w2 (Fo.levR R)) := fun w2 hb => refLevels_any w2 A1 cap1 R (hrd.below hb (Nat.le_refl _)) (by omega)
      have HB1 := Lib.hid hb1
      have HC1 := Lib.hid hc1
      have HC2 := Lib.hid hc2
      clear hb1 hrd hc1 hc2
      by_cases h200 : R.length ≤ 200
      · have hn : (R.length : Int) ≤ 200 := by omega
        have hok2 : Fo.okRow R = Fo.rights R := by rw [HOK.out, decide_eq_true h200, Bool.true_and]
        have HO2 := Lib.hid hok2
        clear hok2 h200
        obtain ⟨b, hb⟩ : ∃ b, b = Fo.rights R := ⟨_, rfl⟩
        rw [← hb] at HC1 HO2
        clear hb
        go_wp2_with fail
        refine HC1.out.mono ?_
        rintro x w2 ⟨rfl, b2⟩
        have hb2 := below_at HB1.out b2
        have HB2 := Lib.hid hb2
        cases b with
        | false =>
          clear b2 hb2
          go_wp2_with fail
          go_ret
          exact ⟨by rw [HNO.out HO2.out]; rfl, HB2.out⟩
        | true =>
          obtain ⟨h1, h2⟩ := HYES.out HO2.out
          have hcall := HC2.out w2 b2
          rw [h2] at hcall
          have HC3 := Lib.hid hcall
          have HK := Lib.hid h1
          clear hcall h1 h2 b2 hb2
          go_wp2_with fail
          refine HC3.out.mono ?_
          rintro x w3 ⟨A3, cap3, rfl, hlv3, b3⟩
          have hb3 := below_at HB2.out b3
          have hcall := same_any w3 A3 cap3 (Fo.lev R) A cap L hlv3 ((HL.out.below hb3).mono hb3.size) (by have := HL4.out; omega) (fun q hq => by have := HQ4.out q hq; omega)
          rw [← HK.out] at hcall
          have HB3 := Lib.hid hb3
          have HC4 := Lib.hid hcall
          clear hlv3 b3 hb3 hcall
          go_wp2_with fail
          refine HC4.out.mono ?_
          rintro x w4 ⟨rfl, b4⟩
          have HB4 := Lib.hid (below_at HB3.out b4)
          clear b4
          go_wp2_with fail
          go_ret
          exact ⟨rfl, HB4.out⟩
      · have hn : ¬ (R.length : Int) ≤ 200 := by omega
        have hok2 : Fo.okRow R = false := by rw [HOK.out, decide_eq_false h200, Bool.false_and]
        have HO2 := Lib.hid hok2
        clear hok2 h200
        go_wp2_with fail
        go_ret
        exact ⟨by rw [HNO.out HO2.out]; rfl, HB1.out⟩
end Go.Proofs.YtckdofjpoajblaaGreat
namespace Go.Proofs.YtckdofjpoajblaaGreat
open Go.RowKit
set_option linter.unusedVariables false
namespace Fo
def acc (S : List Ent) (e : Ev) (i : Nat) : Nat → Nat := fun t => sup (S.take i) (fun p => dep p.e e) (fun p => p.c t)
theorem acc_step {S : List Ent} {e : Ev} {i : Nat} {p : Ent} (h : S[i]? = some p) : acc S e (i + 1) = fun t => if dep p.e e = true then max (acc S e i t) (p.c t) else acc S e i t := by
  unfold acc
  funext t
  rw [List.take_add_one, h]
  exact sup_snoc _ _ _ _
theorem acc_all (S : List Ent) (e : Ev) (t : Nat) : acc S e S.length t + (if t = e.t.toNat then 1 else 0) = clk S e t := by unfold acc clk; rw [List.take_length]
theorem acc_le {S : List Ent} {m : Nat} (h : ∀ p ∈ S, ∀ t, p.c t ≤ m) (e : Ev) (i t : Nat) : acc S e i t ≤ m := sup_le fun p hp _ => h p (List.mem_of_mem_take hp) t
theorem cl_le {l : List Ev} (hr : rights l = true) : ∀ p ∈ cl l, ∀ t, p.c t ≤ l.length := fun p hp t => by
  have h := (clkOk l (fun e he => (right_thr (List.all_eq_true.1 hr e he)).1)).le p hp t
  unfold cnt_ at h
  exact Nat.le_trans h (List.length_filter_le _ _)
theorem cl_get {l : List Ev} {i : Nat} {p : Ent} (h : (cl l)[i]? = some p) : l[i]? = some p.e := by
  have := cl_ev l
  rw [← this, List.getElem?_map, h]
  rfl
end Fo
def encK (p : Fo.Ent) : List Value := arr p.c
theorem Tryz.infoK : (Tryz.prog.info? 271).map (fun i => (i.zero, i.size, i.bytes)) = some (some (.agg #[.int .i64 0, .int .i64 0, .int .i64 0, .int .i64 0]), 4, 32) := by kernel_rfl
theorem clk_cell {w : World} {e : Nat} {A : Option Addr} {n cap : Nat} {S : List Fo.Ent} (h : Row w e 4 A n cap (S.flatMap encK)) {i : Nat} {p : Fo.Ent} (hp : S[i]? = some p) (hn : n = S.length) :
    ∃ g o, A = some ⟨g, o, none⟩ ∧ g < w.heap.size ∧ ∀ u : World, u.heap[g]? = w.heap[g]? → ∀ j, j < 4 → u.cell? ⟨g, o + i * 4 + j, none⟩ = some (.int .i64 (p.c j : Nat)) := by
  obtain ⟨hi, rfl⟩ := List.getElem?_eq_some_iff.1 hp
  obtain ⟨g, o, rfl⟩ := h.some_of_pos (by have := h.2.1; omega)
  refine ⟨g, o, rfl, h.lt, fun u hu j hj => ?_⟩
  rw [World.cell?_of_block hu, show o + i * 4 + j = o + (i * 4 + j) by omega, h.cell (i * 4 + j) (by omega), flat_get (f := encK) (sz := 4) (fun _ => rfl) S i j hi hj]
  exact arr_get _ hj
set_option maxRecDepth 100000 in
set_option maxHeartbeats 8000000 in
theorem clocks_any (w : World) (A : Option Addr) (cap : Nat) (l : List Ev) (hr : Rd w 4 A l.length (l.flatMap encE)) (hcap : l.length ≤ cap) (hcm : cap ≤ maxLen) (hl : l.length ≤ 1000) (hR : Fo.rights l = true) :
    Calls Tryz.prog 230 #[.slice A l.length cap] w fun x w' => ∃ A' cap', x = .returned (.slice A' l.length cap') ∧ Row w' 271 4 A' l.length cap' ((Fo.cl l).flatMap encK) ∧ (∀ a, A' = some a → w.heap.size ≤ a.block) ∧ Below w.heap.size w w' := by
  obtain ⟨i1, hi1, hy0, hy1, hy2⟩ := info_parts Tryz.infoK
  have hok := cright_any w A cap l hr (by omega)
  rw [hR] at hok
  have hev : ∀ (k : Nat) (e : Ev), l[k]? = some e → ∃ g o, A = some ⟨g, o, none⟩ ∧ g < w.heap.size ∧ ∀ u, Below w.heap.size w u → EvAt u g (o + k * 4) e := fun k e hk => by
    obtain ⟨h1, rfl⟩ := List.getElem?_eq_some_iff.1 hk
    exact evs_cell hr.toB k h1
  have HC := Lib.hid hev
  have HOK := Lib.hid hok
  have HRT := Lib.hid hR
  have hcz : cap < 9223372036854775808 := by unfold maxLen at hcm; omega
  clear hr hok hev hR hcm
  go_enter Tryz.func230, Tryz.ntmps230
  go_wp2_with fail
  refine HOK.out.mono ?_
  rintro x w1 ⟨rfl, b1⟩
  have HB1 := Lib.hid b1
  clear b1
  go_wp2_with fail
  go_loopw [2, 13] (fun v2 v13 wr => ∃ (k : Nat) (A' : Option Addr) (cap' : Nat), k ≤ l.length ∧ v13 = .int .i64 k ∧ v2 = .slice A' k cap' ∧ Hid (Row wr 271 4 A' k cap' ((Fo.cl (l.take k)).flatMap encK)) ∧ Hid (∀ a, A' = some a → w.heap.size ≤ a.block) ∧ Hid (Below w.heap.size w wr)) (fun _ v _ => l.length - (intOf v).toNat)
  case atStart => exact ⟨0, none, 0, Nat.zero_le _, rfl, rfl, Lib.hid (Row.nil _ _ _), Lib.hid (fun a h => (by cases h)), HB1⟩
  case round =>
    obtain ⟨k, A', cap', hk, rfl, rfl, HRW, HAT, HB⟩ := hrel
    by_cases hlt : k < l.length
    · obtain ⟨e, hke⟩ := get_some hlt
      obtain ⟨g, o, rfl, hg, hcl⟩ := HC.out k e hke
      obtain ⟨v0, v1, v2, v3⟩ := hcl wr HB.out
      have k1 : (0 : Int) ≤ (k : Int) := Int.natCast_nonneg _
      have k2 : (k : Int) < (l.length : Int) := by omega
      have hre : Fo.right e = true := List.all_eq_true.1 HRT.out e (List.mem_of_getElem? hke)
      obtain ⟨n, hn, hn4⟩ : ∃ n : Nat, e.t = (n : Int) ∧ n < 4 := by
        obtain ⟨h1, h2⟩ := Fo.right_thr hre
        exact ⟨e.t.toNat, by omega, by omega⟩
      have hsn : Fo.cl (l.take (k + 1)) = Fo.cl (l.take k) ++ [⟨e, Fo.clk (Fo.cl (l.take k)) e⟩] := by rw [List.take_add_one, hke]; exact Fo.cl_snoc _ _
      have hlen : (Fo.cl (l.take k)).length = k := by rw [Fo.cl_len, List.length_take]; omega
      have hle : ∀ p ∈ Fo.cl (l.take k), ∀ t, p.c t ≤ 1000 := fun p hp t => by
        have := Fo.cl_le (l := l.take k) (List.all_eq_true.2 fun x hx => List.all_eq_true.1 HRT.out x (List.mem_of_mem_take hx)) p hp t
        rw [List.length_take] at this; omega
      have hget : ∀ (i : Nat) (p : Fo.Ent), (Fo.cl (l.take k))[i]? = some p → l[i]? = some p.e := fun i p hp => by
        have h1 := Fo.cl_get hp
        obtain ⟨h2, _⟩ := List.getElem?_eq_some_iff.1 hp
        rw [hlen] at h2
        rwa [List.getElem?_take, if_pos h2] at h1
      generalize Fo.cl (l.take k) = S at *
      have HSN := Lib.hid hsn
      have HLEN := Lib.hid hlen
      have HLE := Lib.hid hle
      have HGET := Lib.hid hget
      have HN := Lib.hid hn
      clear hke hcl hre hsn hlen hle hget hn
      go_upto_region 7 with fail
      obtain ⟨W1, X, hW1, hX, hBW, hXl, hXe⟩ := box_ev wr e
      obtain ⟨W2, hW2⟩ : ∃ W2, W2 = W1.alloc (Obj.cells #[.int .i64 0, .int .i64 0, .int .i64 0, .int .i64 0] 271) := ⟨_, rfl⟩
      obtain ⟨Y, hY⟩ : ∃ Y, Y = X + 1 := ⟨_, rfl⟩
      have hYs : Y = W1.heap.size := by rw [hY, hW1, hX]; simp
      have hk2 : W2.heap[Y]? = some (.cells (arr (Fo.acc S e 0)).toArray 271 (0, 0)) := by rw [hW2, hYs]; exact heap_alloc_new W1 _
      have hB2 : Below W1.heap.size W1 W2 := by rw [hW2]; exact (Below.refl _ _).alloc (Nat.le_refl _) _
      have hXY : X ≠ Y := by omega
      rw [← hW1, ← hX, ← hW2, ← hY]
      have HX2 := Lib.hid (fun u (hu : Mod (fun q => q = Y) W2 u) => show EvAt u X 0 e from hXe u ((Mod.of_below_size hB2 (fun _ => False)).then hu (fun i hi h => by omega) |>.below _ (Nat.le_refl _) (fun _ _ h => h)))
      have HB2 := Lib.hid (below_chain (below_chain HB.out hBW (Nat.le_refl _)) hB2 (Nat.le_refl _))
      have HR2 := Lib.hid (row_step (row_step HRW.out hBW) hB2)
      have HK2 := Lib.hid hk2
      have HXY := Lib.hid hXY
      have hYb : w.heap.size ≤ Y ∧ (∀ a, A' = some a → a.block ≠ Y) := ⟨by have := HB.out.size; omega, fun a ha h => by subst ha; have := HRW.out.lt; omega⟩
      have HYB := Lib.hid hYb
      have hYl : Y < W2.heap.size := blk_lt hk2
      have HZ := Lib.hid hYl
      clear hX hW1 hW2 hY hYs hk2 hB2 hXY hBW hXl hXe hYb hYl v0 v1 v2 v3 HB HRW
      go_wp2_with fail
      go_loopw [22] (fun v wr => ∃ i : Nat, i ≤ k ∧ v = .int .i64 i ∧ Hid (wr.heap[Y]? = some (.cells (arr (Fo.acc S e i)).toArray 271 (0, 0))) ∧ Hid (Mod (fun q => q = Y) W2 wr)) (fun v _ => k - (intOf v).toNat)
      case atStart => exact ⟨0, Nat.zero_le _, rfl, HK2, Lib.hid (Mod.refl _ _)⟩
      case round =>
        obtain ⟨i, hi, rfl, HY, HM⟩ := hrel
        have HBM := Lib.hid (((Mod.of_below HB2.out).then HM.out (fun q _ h => by rw [h]; exact HYB.out.1)).below _ (Nat.le_refl _) (fun q hq h => by omega) : Below w.heap.size w wr)
        have HRM := Lib.hid (HR2.out.mod HM.out (fun a ha => HYB.out.2 a ha))
        by_cases hil : i < k
        · obtain ⟨p, hpi⟩ := get_some (show i < S.length by rw [HLEN.out]; exact hil)
          have hle := HGET.out i p hpi
          obtain ⟨g4, o4, e4, hg4, hcl⟩ := HC.out i p.e hle
          obtain ⟨rfl, rfl⟩ : g = g4 ∧ o = o4 := by injection e4 with e4; injection e4 with a b; exact ⟨a, b⟩
          obtain ⟨v0, v1, v2, v3⟩ := hcl wr HBM.out
          have hst := Fo.acc_step (e := e) hpi
          obtain ⟨gA, oA, rfl, hgA, hcA⟩ := clk_cell HRM.out hpi HLEN.out.symm
          obtain ⟨W3, Z, hW3, hZ, hBW3, hZl, hZe⟩ := box_ev wr p.e
          have hM3 : Mod (fun q => q = Y) W2 W3 := Mod.trans HM.out (Mod.of_below_size hBW3 _)
          have hY3 := blk_step HY.out hBW3
          obtain ⟨y0, y1, y2, y3⟩ := hZe W3 (Below.refl _ _)
          obtain ⟨x0, x1, x2, x3⟩ := HX2.out W3 hM3
          have hcall := depends_any W3 p.e e
          unfold valE at hcall
          have hjoin : ∀ u : World, u.heap[Y]? = some (.cells (arr (Fo.acc S e i)).toArray 271 (0, 0)) → Calls Tryz.prog 237 #[.pointer (some ⟨Y, 0, none⟩), .agg #[.int .i64 (p.c 0 : Nat), .int .i64 (p.c 1 : Nat), .int .i64 (p.c 2 : Nat), .int .i64 (p.c 3 : Nat)]] u fun x w' => x = .returned (.tuple #[]) ∧ w'.heap[Y]? = some (.cells (arr fun t => max (Fo.acc S e i t) (p.c t)).toArray 271 (0, 0)) ∧ Mod (fun k => k = Y) u w' :=
            fun u hu => join_any u Y (Fo.acc S e i) p.c 271 hu (fun t => by have := Fo.acc_le HLE.out e i t; omega) (fun t => by have := HLE.out p (List.mem_of_getElem? hpi) t; omega)
          have k3 : (0 : Int) ≤ (i : Int) := Int.natCast_nonneg _
          have k4 : (i : Int) < (k : Int) := by omega
          have lgA : gA < wr.heap.size := hgA
          have lgA3 : gA < W3.heap.size := Nat.lt_of_lt_of_le hgA hBW3.size
          have HCALL := Lib.hid hcall
          have HJOIN := Lib.hid hjoin
          have HST := Lib.hid hst
          have HM3 := Lib.hid hM3
          have HY3 := Lib.hid hY3
          have HCA := Lib.hid (fun u (hu : Below W3.heap.size W3 u) => hcA u ((hu.block gA (by have := hBW3.size; omega)).trans (hBW3.block gA lgA)))
          clear hpi hle e4 hcl hst hcA hcall hjoin hM3 hY3 hZe
          go_upto_region 10 with fail
          rw [← hW3, ← hZ]
          clear hW3 hZ hBW3 v0 v1 v2 v3
          go_wp2_with fail
          refine HCALL.out.mono ?_
          rintro x w4 ⟨rfl, b4⟩
          have HM4 := Lib.hid (Mod.trans HM3.out (Mod.of_below_size b4 (fun q => q = Y)))
          have HY4 := Lib.hid (blk_step HY3.out b4)
          have c0 := HCA.out w4 b4 0 (by omega)
          have c1 := HCA.out w4 b4 1 (by omega)
          have c2 := HCA.out w4 b4 2 (by omega)
          have c3 := HCA.out w4 b4 3 (by omega)
          have lgA4 : gA < w4.heap.size := Nat.lt_of_lt_of_le lgA3 b4.size
          simp only [Nat.add_zero] at c0
          clear b4 x0 x1 x2 x3 y0 y1 y2 y3
          cases hd : Fo.dep p.e e with
          | false =>
            have hnx : Fo.acc S e (i + 1) = Fo.acc S e i := by rw [HST.out]; funext t; rw [hd, if_neg (by decide)]
            have HNX := Lib.hid hnx
            clear hd hnx
            go_wp2_with fail
            go_roundw
            case rel => exact ⟨i + 1, by omega, by go_num, Lib.hid (by rw [HNX.out]; exact HY4.out), HM4⟩
            case measure => simp [intOf]; omega
          | true =>
            have hnx : Fo.acc S e (i + 1) = fun t => max (Fo.acc S e i t) (p.c t) := by rw [HST.out]; funext t; rw [hd, if_pos rfl]
            have HNX := Lib.hid hnx
            have HJ := Lib.hid (HJOIN.out w4 HY4.out)
            clear hd hnx
            go_wp2_with fail
            refine HJ.out.mono ?_
            rintro x w5 ⟨rfl, hy5, hm5⟩
            have HY5 := Lib.hid hy5
            have HM5 := Lib.hid (Mod.trans HM4.out hm5)
            clear hy5 hm5
            go_wp2_with fail
            go_roundw
            case rel => exact ⟨i + 1, by omega, by go_num, Lib.hid (by rw [HNX.out]; exact HY5.out), HM5⟩
            case measure => simp [intOf]; omega
        · obtain rfl : i = k := by omega
          have hY0 := HY.out
          have hx := HX2.out wr HM.out
          obtain ⟨x0, x1, x2, x3⟩ := hx
          rw [HN.out] at x0
          have n1 : (0 : Int) ≤ (n : Int) := Int.natCast_nonneg _
          have n2 : (n : Int) < 4 := by omega
          have cY : ∀ j, j < 4 → wr.cell? ⟨Y, j, none⟩ = some (.int .i64 (Fo.acc S e i j : Nat)) := fun j hj => by rw [cell_blk hY0, List.getElem?_toArray, arr_get _ hj]
          have cn := cY n hn4
          have fn : wr.frozen? ⟨Y, n, none⟩ = false := free_blk hY0 _
          have ln : Y < wr.heap.size := blk_lt hY0
          have hset := set_blk hY0 n (.int .i64 ((Fo.acc S e i n + 1 : Nat) : Int))
          rw [arr_set _ hn4] at hset
          have hnx : (arr fun j => if j = n then Fo.acc S e i n + 1 else Fo.acc S e i j) = arr (Fo.clk S e) := arr_ext fun j hj => by
            have h1 := Fo.acc_all S e j
            rw [HLEN.out] at h1
            have h2 : e.t.toNat = n := by rw [HN.out]; rfl
            rw [h2] at h1
            by_cases h3 : j = n
            · subst h3; rw [if_pos rfl, ← h1, if_pos rfl]
            · rw [if_neg h3, ← h1, if_neg h3, Nat.add_zero]
          rw [hnx] at hset
          have han := Fo.acc_le HLE.out e i n
          have hms : Mod (fun q => q = Y) W2 (wr.setCell ⟨Y, n, none⟩ (.int .i64 ((Fo.acc S e i n + 1 : Nat) : Int))) := Mod.setCell HM.out (p := ⟨Y, n, none⟩) (fun _ => rfl) _
          generalize Fo.acc S e i n = an at *
          have hcast : ((an + 1 : Nat) : Int) = (an : Int) + 1 := by omega
          rw [hcast] at hset hms
          have HSET := Lib.hid hset
          have HMS := Lib.hid hms
          clear hY0 cY hset hnx hms hcast HX2
          go_upto_region 14 with fail
          obtain ⟨w6, hw6⟩ : ∃ w6, w6 = wr.setCell ⟨Y, n, none⟩ (.int .i64 ((an : Int) + 1)) := ⟨_, rfl⟩
          rw [← hw6] at HSET HMS ⊢
          have hb6 : Below w.heap.size w w6 := ((Mod.of_below HB2.out).then HMS.out (fun q _ h => by rw [h]; exact HYB.out.1)).below _ (Nat.le_refl _) (fun q hq h => by omega)
          have hr6 := HR2.out.mod HMS.out (fun a ha => HYB.out.2 a ha)
          have c0 : w6.cell? ⟨Y, 0, none⟩ = some (.int .i64 (Fo.clk S e 0 : Nat)) := by rw [cell_blk HSET.out]; rfl
          have c1 : w6.cell? ⟨Y, 1, none⟩ = some (.int .i64 (Fo.clk S e 1 : Nat)) := by rw [cell_blk HSET.out]; rfl
          have c2 : w6.cell? ⟨Y, 2, none⟩ = some (.int .i64 (Fo.clk S e 2 : Nat)) := by rw [cell_blk HSET.out]; rfl
          have c3 : w6.cell? ⟨Y, 3, none⟩ = some (.int .i64 (Fo.clk S e 3 : Nat)) := by rw [cell_blk HSET.out]; rfl
          have HB6 := Lib.hid hb6
          have HR6 := Lib.hid hr6
          clear hw6 hb6 hr6 cn fn ln x0 x1 x2 x3
          go_wp2_with (at_builtin; refine wpList_append_row (by rfl) _ _ _ (by rfl) 271 i1 _ 4 32 Tryz.underlying294 hi1 hy0 hy1 hy2 rfl (by omega) A' i cap' (S.flatMap encK) (by rfl) (HR6.out.alloc _) ⟨w6.heap.size, 0, none⟩ 1 1 [.int .i64 (Fo.clk S e 0 : Nat), .int .i64 (Fo.clk S e 1 : Nat), .int .i64 (Fo.clk S e 2 : Nat), .int .i64 (Fo.clk S e 3 : Nat)] (by rfl) (by rfl) (World.news_of_block (cs := #[.int .i64 (Fo.clk S e 0 : Nat), .int .i64 (Fo.clk S e 1 : Nat), .int .i64 (Fo.clk S e 2 : Nat), .int .i64 (Fo.clk S e 3 : Nat)]) (t := 271) (fr := (0, 0)) (heap_alloc_new w6 _)) (by simp [Value.oneCell']) (by omega) (by unfold maxLen; omega) (by omega) ?_; intro g7 o7 cap7 w7 hown hm hat; skip)
          obtain ⟨q1, q2⟩ := acc_more HAT.out HB6.out hm hat (of := o7)
          have hr7 : Row w7 271 4 (some ⟨g7, o7, none⟩) (i + 1) cap7 ((Fo.cl (l.take (i + 1))).flatMap encK) := by
            rw [HSN.out, List.flatMap_append]; simpa [encK, arr] using hown
          go_roundw
          case rel => exact ⟨i + 1, some ⟨g7, o7, none⟩, cap7, by omega, by go_num, rfl, Lib.hid hr7, Lib.hid q1, Lib.hid q2⟩
          case measure => simp [intOf]; omega
    · have hkl : k = l.length := by omega
      have HKL := Lib.hid hkl
      clear hkl
      go_wp2_with fail
      go_ret
      have h1 := HRW.out
      rw [HKL.out, List.take_length] at h1
      exact ⟨A', cap', by rw [HKL.out]; rfl, h1, HAT.out, HB.out⟩
end Go.Proofs.YtckdofjpoajblaaGreat
namespace Go.Proofs.YtckdofjpoajblaaGreat
set_option linter.unusedVariables false
namespace Fo
def Ini (e : Ev) : List Ev → Prop
  | [] => False
  | x :: l => if x.t = e.t then x = e else dep x e = false ∧ Ini e l
theorem Ini.head (e : Ev) (l : List Ev) : Ini e (e :: l) := by simp [Ini]
theorem Ini.app {e : Ev} : ∀ {l : List Ev}, Ini e l → ∀ m, Ini e (l ++ m)
  | [], h, _ => h.elim
  | x :: l, h, m => by
    simp only [List.cons_append, Ini] at h ⊢
    split
    · rename_i hx; rw [if_pos hx] at h; exact h
    · rename_i hx; rw [if_neg hx] at h; exact ⟨h.1, Ini.app h.2 m⟩
theorem Ini.far {e : Ev} : ∀ {a : List Ev}, (∀ x ∈ a, dep x e = false) → ∀ b, Ini e (a ++ e :: b)
  | [], _, b => Ini.head e b
  | x :: a, h, b => by
    have hx := h x List.mem_cons_self
    simp only [List.cons_append, Ini]
    rw [if_neg (fun ht => by rw [dep_thread ht] at hx; cases hx)]
    exact ⟨hx, Ini.far (fun y hy => h y (List.mem_cons_of_mem _ hy)) b⟩
theorem Ini.swap {e x y : Ev} (hd : dep x y = false) (r : List Ev) : ∀ l : List Ev, Ini e (l ++ x :: y :: r) → Ini e (l ++ y :: x :: r)
  | [], h => by
    simp only [List.nil_append, Ini] at h ⊢
    by_cases hx : x.t = e.t
    · rw [if_pos hx] at h
      subst h
      by_cases hy : y.t = x.t
      · rw [dep_thread hy.symm] at hd; cases hd
      · rw [if_neg hy, if_pos rfl]; exact ⟨by rw [dep_comm]; exact hd, rfl⟩
    · rw [if_neg hx] at h
      by_cases hy : y.t = e.t
      · rw [if_pos hy] at h ⊢; exact h.2
      · rw [if_neg hy] at h ⊢; rw [if_neg hx]; exact ⟨h.2.1, h.1, h.2.2⟩
  | z :: l, h => by
    simp only [List.cons_append, Ini] at h ⊢
    by_cases hz : z.t = e.t
    · rw [if_pos hz] at h ⊢; exact h
    · rw [if_neg hz] at h ⊢; exact ⟨h.1, Ini.swap hd r l h.2⟩
theorem Eqv.ini {e : Ev} {l m : List Ev} (h : Eqv l m) : Ini e l ↔ Ini e m := by
  induction h with
  | refl l => exact Iff.rfl
  | symm _ ih => exact ih.symm
  | trans _ _ ih1 ih2 => exact ih1.trans ih2
  | swap l r x y hd => exact ⟨Ini.swap hd r l, Ini.swap (by rw [dep_comm]; exact hd) r l⟩
def del (t : Int) : List Ev → List Ev
  | [] => []
  | x :: l => if x.t = t then l else x :: del t l
theorem Ini.move {e : Ev} : ∀ {l : List Ev}, Ini e l → Eqv l (e :: del e.t l)
  | [], h => h.elim
  | x :: l, h => by
    simp only [Ini] at h
    simp only [del]
    by_cases hx : x.t = e.t
    · rw [if_pos hx] at h ⊢; subst h; exact .refl _
    · rw [if_neg hx] at h ⊢
      have h1 := (Ini.move h.2).left [x]
      have h2 := Eqv.swap [] (del e.t l) x e h.1
      exact .trans (by simpa using h1) (by simpa using h2)
theorem del_swap {t : Int} {x y : Ev} (hd : dep x y = false) (r : List Ev) : ∀ l : List Ev, Eqv (del t (l ++ x :: y :: r)) (del t (l ++ y :: x :: r))
  | [] => by
    simp only [List.nil_append, del]
    by_cases hx : x.t = t
    · by_cases hy : y.t = t
      · rw [dep_thread (hx.trans hy.symm)] at hd; cases hd
      · simp only [if_pos hx, if_neg hy]; exact .refl _
    · by_cases hy : y.t = t
      · simp only [if_pos hy, if_neg hx]; exact .refl _
      · simp only [if_neg hx, if_neg hy]; exact Eqv.swap [] _ x y hd
  | z :: l => by
    simp only [List.cons_append, del]
    by_cases hz : z.t = t
    · simp only [if_pos hz]; exact Eqv.swap l r x y hd
    · simp only [if_neg hz]
      have := (del_swap (t := t) hd r l).left [z]
      simpa using this
theorem Eqv.del {l m : List Ev} (h : Eqv l m) (t : Int) : Eqv (del t l) (del t m) := by
  induction h with
  | refl l => exact .refl _
  | symm _ ih => exact ih.symm
  | trans _ _ ih1 ih2 => exact ih1.trans ih2
  | swap l r x y hd => exact del_swap hd r l
theorem Eqv.tail {e : Ev} {l m : List Ev} (h : Eqv (e :: l) (e :: m)) : Eqv l m := by
  have := h.del e.t
  simpa [Fo.del] using this
theorem Eqv.front {e : Ev} {q : List Ev} (h : ∀ x ∈ q, dep x e = false) (r : List Ev) : Eqv (e :: (q ++ r)) (q ++ e :: r) := by
  have := (Eqv.over e q h).right r
  simpa using this.symm
theorem cnt_app (a b : List Ev) (t : Nat) : cnt_ (a ++ b) t = cnt_ a t + cnt_ b t := by unfold cnt_; rw [List.filter_append, List.length_append]
theorem cnt_cons (e : Ev) (l : List Ev) (t : Nat) : cnt_ (e :: l) t = (if e.t.toNat = t then 1 else 0) + cnt_ l t := by
  unfold cnt_
  by_cases h : e.t.toNat = t
  · rw [List.filter_cons_of_pos (by simpa using h), if_pos h, List.length_cons]; omega
  · rw [List.filter_cons_of_neg (by simpa using h), if_neg h]; omega
theorem cnt_nil (t : Nat) : cnt_ [] t = 0 := rfl
theorem cnt_none {l : List Ev} {t : Nat} (h : ∀ x ∈ l, x.t.toNat ≠ t) : cnt_ l t = 0 := by
  unfold cnt_
  rw [List.length_eq_zero_iff, List.filter_eq_nil_iff]
  intro x hx
  simpa using h x hx
theorem cnt_perm {l m : List Ev} (h : l.Perm m) (t : Nat) : cnt_ l t = cnt_ m t := (h.filter _).length_eq
theorem cnt_cut {t k : Nat} : ∀ {l : List Ev}, k ≤ cnt_ l t → ∃ a b, l = a ++ b ∧ cnt_ a t = k
  | [], h => ⟨[], [], rfl, by simp [cnt_] at h ⊢; omega⟩
  | x :: l, h => by
    rw [cnt_cons] at h
    by_cases hx : x.t.toNat = t
    · rw [if_pos hx] at h
      by_cases hk : k = 0
      · exact ⟨[], x :: l, rfl, by subst hk; simp [cnt_]⟩
      · obtain ⟨a, b, hl, ha⟩ := cnt_cut (t := t) (k := k - 1) (l := l) (by omega)
        exact ⟨x :: a, b, by rw [hl]; rfl, by rw [cnt_cons, if_pos hx, ha]; omega⟩
    · rw [if_neg hx] at h
      obtain ⟨a, b, hl, ha⟩ := cnt_cut (t := t) (k := k) (l := l) (by omega)
      exact ⟨x :: a, b, by rw [hl]; rfl, by rw [cnt_cons, if_neg hx, ha]; omega⟩
theorem first_of {α : Type} {p : α → Prop} : ∀ {l : List α}, (∃ x ∈ l, p x) → ∃ a x b, l = a ++ x :: b ∧ p x ∧ ∀ y ∈ a, ¬ p y
  | [], h => by obtain ⟨x, hx, _⟩ := h; cases hx
  | y :: l, h => by
    by_cases hy : p y
    · exact ⟨[], y, l, rfl, hy, fun z hz => by cases hz⟩
    · obtain ⟨a, x, b, hl, hx, ha⟩ := first_of (p := p) (l := l) (by
        obtain ⟨x, hx, hp⟩ := h
        rcases List.mem_cons.1 hx with rfl | hx
        · exact (hy hp).elim
        · exact ⟨x, hx, hp⟩)
      refine ⟨y :: a, x, b, by rw [hl]; rfl, hx, fun z hz => ?_⟩
      rcases List.mem_cons.1 hz with rfl | hz
      · exact hy
      · exact ha z hz
def lastC (l : List Ev) (t : Nat) : Nat → Nat := ((cl l).filter fun p => decide (p.e.t.toNat = t)).foldl (fun _ p => p.c) (fun _ => 0)
theorem lastC_snoc (l : List Ev) (e : Ev) (t : Nat) : lastC (l ++ [e]) t = if e.t.toNat = t then clk (cl l) e else lastC l t := by
  unfold lastC
  rw [cl_snoc, List.filter_append, List.foldl_append]
  by_cases h : e.t.toNat = t
  · rw [if_pos h, List.filter_cons_of_pos (by simpa using h)]; rfl
  · rw [if_neg h, List.filter_cons_of_neg (by simpa using h)]; rfl
theorem lastC_spec (l : List Ev) (hr : ∀ e ∈ l, 0 ≤ e.t) (t : Nat) : (cnt_ l t = 0 → lastC l t = fun _ => 0) ∧ (0 < cnt_ l t → ∃ p ∈ cl l, p.e.t.toNat = t ∧ p.num = cnt_ l t ∧ lastC l t = p.c) := by
  revert hr
  refine snoc_ind (p := fun l => (∀ e ∈ l, 0 ≤ e.t) → (cnt_ l t = 0 → lastC l t = fun _ => 0) ∧ (0 < cnt_ l t → ∃ p ∈ cl l, p.e.t.toNat = t ∧ p.num = cnt_ l t ∧ lastC l t = p.c)) (fun _ => ⟨fun _ => rfl, fun h => by simp [cnt_] at h⟩) (fun l e ih hr => ?_) l
  have h := ih (fun x hx => hr x (by simp [hx]))
  have hk := clkOk (l ++ [e]) hr
  rw [cnt_snoc, lastC_snoc]
  by_cases he : e.t.toNat = t
  · rw [if_pos he, if_pos he]
    refine ⟨fun h0 => by omega, fun _ => ⟨⟨e, clk (cl l) e⟩, by rw [cl_snoc]; simp, he, ?_, rfl⟩⟩
    obtain ⟨p, hp, h1, h2⟩ := hk.last t (by rw [cnt_snoc, if_pos he]; omega)
    have h3 := hk.le ⟨e, clk (cl l) e⟩ (by rw [cl_snoc]; simp) t
    have h5 : ∀ q ∈ cl l, q.c t ≤ cnt_ l t := fun q hq => (clkOk l (fun x hx => hr x (by simp [hx]))).le q hq t
    rw [cl_snoc] at hp
    rcases List.mem_append.1 hp with hp | hp
    · have h6 := h5 p hp
      unfold Ent.num at h2
      rw [h1, cnt_snoc, if_pos he] at h2
      omega
    · rw [List.mem_singleton] at hp
      rw [cnt_snoc, if_pos he] at h2
      rw [← hp]
      exact h2
  · rw [if_neg he, if_neg he]
    refine ⟨h.1, fun h0 => ?_⟩
    obtain ⟨p, hp, h1, h2, h3⟩ := h.2 h0
    exact ⟨p, by rw [cl_snoc]; exact List.mem_append_left _ hp, h1, h2, h3⟩
def RaceAt (z : List Ev) (i : Nat) (e : Ev) : Prop := ∃ x, z[i]? = some x ∧ x.t ≠ e.t ∧ dep x e = true ∧ lastC z e.t.toNat x.t.toNat < cnt_ (z.take (i + 1)) x.t.toNat
end Fo
structure Sys (σ : Type) where
  en : σ → Nat → Bool
  step : σ → Nat → σ
  next : σ → Nat → Option Ev
  ok : σ → Prop
  fuel : σ → Nat
  okS : ∀ {s t}, ok s → en s t = true → ok (step s t)
  enN : ∀ {s t}, ok s → en s t = true → ∃ e, next s t = some e
  nextT : ∀ {s t e}, next s t = some e → e.t = (t : Nat)
  fuelS : ∀ {s t}, ok s → en s t = true → fuel (step s t) < fuel s
  stay : ∀ {s t u}, ok s → en s t = true → t ≠ u → next (step s t) u = next s u
  apart : ∀ {s t u e f}, ok s → en s t = true → next s t = some e → next s u = some f → Fo.dep e f = false → en (step s t) u = en s u
  comm : ∀ {s t u e f}, ok s → en s t = true → en s u = true → next s t = some e → next s u = some f → Fo.dep e f = false → step (step s t) u = step (step s u) t
namespace Sys
variable {σ : Type} (S : Sys σ)
def aft (s : σ) (l : List Ev) : σ := l.foldl (fun s e => S.step s e.t.toNat) s
def Can (s : σ) : List Ev → Prop
  | [] => True
  | e :: l => S.en s e.t.toNat = true ∧ S.next s e.t.toNat = some e ∧ Can (S.step s e.t.toNat) l
theorem aft_cons (s : σ) (e : Ev) (l : List Ev) : S.aft s (e :: l) = S.aft (S.step s e.t.toNat) l := rfl
theorem aft_app (s : σ) (a b : List Ev) : S.aft s (a ++ b) = S.aft (S.aft s a) b := by unfold aft; rw [List.foldl_append]
theorem can_app {s : σ} : ∀ {a b : List Ev}, S.Can s (a ++ b) ↔ S.Can s a ∧ S.Can (S.aft s a) b
  | [], b => by simp [Can, aft]
  | e :: a, b => by
    simp only [List.cons_append, Can, aft_cons]
    rw [can_app]
    constructor
    · rintro ⟨h1, h2, h3, h4⟩; exact ⟨⟨h1, h2, h3⟩, h4⟩
    · rintro ⟨⟨h1, h2, h3⟩, h4⟩; exact ⟨h1, h2, h3, h4⟩
theorem can_ok {s : σ} : ∀ {l : List Ev}, S.ok s → S.Can s l → S.ok (S.aft s l)
  | [], h, _ => h
  | e :: l, h, hc => can_ok (l := l) (S.okS h hc.1) hc.2.2
theorem can_pos {s : σ} : ∀ {l : List Ev}, S.Can s l → ∀ e ∈ l, 0 ≤ e.t
  | [], _, e, he => by cases he
  | x :: l, h, e, he => by
    rcases List.mem_cons.1 he with rfl | he
    · have := S.nextT h.2.1; omega
    · exact can_pos h.2.2 e he
theorem can_swap {s : σ} (h : S.ok s) {a b : Ev} {l : List Ev} (hd : Fo.dep a b = false) (hc : S.Can s (a :: b :: l)) : S.Can s (b :: a :: l) ∧ S.aft s (b :: a :: l) = S.aft s (a :: b :: l) := by
  obtain ⟨h1, h2, h3, h4, h5⟩ := hc
  have ha := S.nextT h2
  have hb := S.nextT h4
  have hab : a.t.toNat ≠ b.t.toNat := fun e => by
    rw [Fo.dep_thread (by omega)] at hd; cases hd
  have h4' : S.next s b.t.toNat = some b := by rw [← S.stay h h1 hab]; exact h4
  have h3' : S.en s b.t.toNat = true := by rw [← S.apart h h1 h2 h4' hd]; exact h3
  have hd' : Fo.dep b a = false := by rw [Fo.dep_comm]; exact hd
  have hcm := S.comm h h1 h3' h2 h4' hd
  refine ⟨⟨h3', h4', ?_, ?_, ?_⟩, ?_⟩
  · rw [S.apart h h3' h4' h2 hd']; exact h1
  · rw [S.stay h h3' (Ne.symm hab)]; exact h2
  · rw [← hcm]; exact h5
  · simp only [aft_cons, hcm]
theorem can_eqv {l m : List Ev} (h : Fo.Eqv l m) : ∀ {s : σ}, S.ok s → ((S.Can s l → S.Can s m ∧ S.aft s m = S.aft s l) ∧ (S.Can s m → S.Can s l ∧ S.aft s l = S.aft s m)) := by
  induction h with
  | refl l => intro s _; exact ⟨fun h => ⟨h, rfl⟩, fun h => ⟨h, rfl⟩⟩
  | symm _ ih => intro s hs; exact ⟨(ih hs).2, (ih hs).1⟩
  | trans _ _ ih1 ih2 =>
    intro s hs
    refine ⟨fun h => ?_, fun h => ?_⟩
    · obtain ⟨a1, a2⟩ := (ih1 hs).1 h
      obtain ⟨b1, b2⟩ := (ih2 hs).1 a1
      exact ⟨b1, b2.trans a2⟩
    · obtain ⟨a1, a2⟩ := (ih2 hs).2 h
      obtain ⟨b1, b2⟩ := (ih1 hs).2 a1
      exact ⟨b1, b2.trans a2⟩
  | swap l r x y hd =>
    intro s hs
    have key : ∀ {x y : Ev}, Fo.dep x y = false → S.Can s (l ++ x :: y :: r) → S.Can s (l ++ y :: x :: r) ∧ S.aft s (l ++ y :: x :: r) = S.aft s (l ++ x :: y :: r) := fun {x y} hd h => by
      obtain ⟨h1, h2⟩ := S.can_app.1 h
      obtain ⟨h3, h4⟩ := S.can_swap (S.can_ok hs h1) hd h2
      exact ⟨S.can_app.2 ⟨h1, h3⟩, by rw [S.aft_app, S.aft_app, h4]⟩
    exact ⟨key hd, key (by rw [Fo.dep_comm]; exact hd)⟩
theorem next_far {q : Nat} : ∀ {l : List Ev} {s : σ}, S.ok s → S.Can s l → (∀ x ∈ l, x.t.toNat ≠ q) → S.next (S.aft s l) q = S.next s q
  | [], s, _, _, _ => rfl
  | e :: l, s, h, hc, hq => by
    rw [aft_cons, next_far (S.okS h hc.1) hc.2.2 (fun x hx => hq x (List.mem_cons_of_mem _ hx)), S.stay h hc.1 (hq e List.mem_cons_self)]
theorem can_push {p : Ev} : ∀ {w : List Ev} {s : σ}, S.ok s → S.en s p.t.toNat = true → S.next s p.t.toNat = some p → S.Can s w → (∀ x ∈ w, Fo.dep x p = false) →
    S.Can (S.step s p.t.toNat) w ∧ S.aft (S.step s p.t.toNat) w = S.step (S.aft s w) p.t.toNat ∧ S.en (S.aft s w) p.t.toNat = true ∧ S.next (S.aft s w) p.t.toNat = some p
  | [], s, _, he, hn, _, _ => ⟨trivial, rfl, he, hn⟩
  | e :: w, s, h, he, hn, hc, hd => by
    have hde : Fo.dep e p = false := hd e List.mem_cons_self
    have hep : Fo.dep p e = false := by rw [Fo.dep_comm]; exact hde
    have htt : e.t.toNat ≠ p.t.toNat := fun h1 => by
      have a1 := S.nextT hc.2.1
      have a2 := S.nextT hn
      rw [Fo.dep_thread (by omega)] at hde; cases hde
    have he' : S.en (S.step s e.t.toNat) p.t.toNat = true := by rw [S.apart h hc.1 hc.2.1 hn hde]; exact he
    have hn' : S.next (S.step s e.t.toNat) p.t.toNat = some p := by rw [S.stay h hc.1 htt]; exact hn
    obtain ⟨h1, h2, h3, h4⟩ := can_push (w := w) (S.okS h hc.1) he' hn' hc.2.2 (fun x hx => hd x (List.mem_cons_of_mem _ hx))
    have hcm := S.comm h hc.1 he hc.2.1 hn hde
    rw [hcm] at h1 h2
    exact ⟨⟨by rw [S.apart h he hn hc.2.1 hep]; exact hc.1, by rw [S.stay h he (Ne.symm htt)]; exact hc.2.1, h1⟩, h2, h3, h4⟩
def Told (s : σ) (l : List Ev) (q k : Nat) (x : Option Ev) : Prop := ∀ a b, l = a ++ b → Fo.cnt_ a q = k → S.next (S.aft s a) q = x
theorem told_of {s : σ} (h : S.ok s) {q k : Nat} {a b : List Ev} (hc : S.Can s (a ++ b)) (hk : Fo.cnt_ a q = k) : S.Told s (a ++ b) q k (S.next (S.aft s a) q) := by
  intro c d he hck
  have key : ∀ (a m : List Ev), S.Can s (a ++ m) → Fo.cnt_ (a ++ m) q = Fo.cnt_ a q → S.next (S.aft s (a ++ m)) q = S.next (S.aft s a) q := fun a m hc hk => by
    obtain ⟨h1, h2⟩ := S.can_app.1 hc
    rw [S.aft_app, S.next_far (S.can_ok h h1) h2]
    intro x hx hxq
    rw [Fo.cnt_app] at hk
    have : 0 < Fo.cnt_ m q := by
      unfold Fo.cnt_
      exact List.length_pos_of_mem (List.mem_filter.2 ⟨hx, by simpa using hxq⟩)
    omega
  rcases List.append_eq_append_iff.1 he with ⟨m, h1, h2⟩ | ⟨m, h1, h2⟩
  · subst h1
    rw [h2, ← List.append_assoc] at hc
    rw [key a m (S.can_app.1 hc).1 (hck.trans hk.symm)]
  · subst h1
    rw [key c m (S.can_app.1 hc).1 (hk.trans hck.symm)]
theorem told_swap {s : σ} (h : S.ok s) {q k : Nat} {r : Option Ev} {x y : Ev} (hd : Fo.dep x y = false) (l m : List Ev) (hc : S.Can s (l ++ x :: y :: m)) (ht : S.Told s (l ++ x :: y :: m) q k r) : S.Told s (l ++ y :: x :: m) q k r := by
  obtain ⟨hc1, hc2⟩ := S.can_app.1 hc
  have hok := S.can_ok h hc1
  obtain ⟨hs1, hs2⟩ := S.can_swap hok hd hc2
  intro a b he hk
  rcases List.append_eq_append_iff.1 he with ⟨n, h1, h2⟩ | ⟨n, h1, h2⟩
  · -- a = l ++ n, y :: x :: m = n ++ b
    subst h1
    cases n with
    | nil => exact ht _ (x :: y :: m) (by simp) hk
    | cons y' n =>
      simp only [List.cons_append, List.cons.injEq] at h2
      obtain ⟨rfl, h2⟩ := h2
      cases n with
      | nil =>
        by_cases hy : y.t.toNat = q
        · have e1 := ht (l ++ [x, y]) m (by simp) (by
            have hx : x.t.toNat ≠ q := fun hx => by
              have a1 := S.nextT hc2.2.1
              have a2 := S.nextT hc2.2.2.2.1
              rw [Fo.dep_thread (by omega)] at hd; cases hd
            rw [← hk]; simp only [Fo.cnt_app, Fo.cnt_cons, if_neg hx, Fo.cnt_nil]; omega)
          rw [← e1, S.aft_app, S.aft_app]
          have hxq : x.t.toNat ≠ q := fun hx => by
              have a1 := S.nextT hc2.2.1
              have a2 := S.nextT hc2.2.2.2.1
              rw [Fo.dep_thread (by omega)] at hd; cases hd
          obtain ⟨g1, g2, g3, g4, _⟩ := hs1
          have hs3 : S.step (S.step (S.aft s l) y.t.toNat) x.t.toNat = S.step (S.step (S.aft s l) x.t.toNat) y.t.toNat :=
            (S.comm hok hc2.1 g1 hc2.2.1 g2 hd).symm
          simp only [S.aft_cons]
          show S.next (S.step (S.aft s l) y.t.toNat) q = S.next (S.step (S.step (S.aft s l) x.t.toNat) y.t.toNat) q
          rw [← hs3, S.stay (S.okS hok g1) g3 hxq]
        · have e1 := ht l (x :: y :: m) rfl (by rw [← hk]; simp only [Fo.cnt_app, Fo.cnt_cons, if_neg hy, Fo.cnt_nil]; omega)
          rw [← e1, S.aft_app]
          simp only [S.aft_cons]
          exact S.stay hok hs1.1 hy
      | cons x' n =>
        simp only [List.cons_append, List.cons.injEq] at h2
        obtain ⟨rfl, h2⟩ := h2
        have e1 := ht (l ++ x :: y :: n) b (by rw [h2]; simp) (by rw [← hk]; simp only [Fo.cnt_app, Fo.cnt_cons]; omega)
        rw [← e1, S.aft_app, S.aft_app]
        obtain ⟨g1, g2, g3, g4, _⟩ := hs1
        simp only [S.aft_cons]
        rw [S.comm hok hc2.1 g1 hc2.2.1 g2 hd]
  · subst h1
    exact ht a (n ++ x :: y :: m) (by simp) hk
theorem told_eqv {l m : List Ev} (he : Fo.Eqv l m) : ∀ {s : σ}, S.ok s → S.Can s l → ∀ {q k : Nat} {r : Option Ev}, S.Told s l q k r ↔ S.Told s m q k r := by
  induction he with
  | refl l => intro s _ _ q k r; exact Iff.rfl
  | symm h ih => intro s hs hc q k r; exact (ih hs ((S.can_eqv h hs).2 hc).1).symm
  | trans h1 h2 ih1 ih2 => intro s hs hc q k r; exact (ih1 hs hc).trans (ih2 hs ((S.can_eqv h1 hs).1 hc).1)
  | swap l r x y hd =>
    intro s hs hc q k v
    have h2 := ((S.can_eqv (Fo.Eqv.swap l r x y hd) hs).1 hc).1
    exact ⟨S.told_swap hs hd l r hc, S.told_swap hs (by rw [Fo.dep_comm]; exact hd) l r h2⟩
end Sys
end Go.Proofs.YtckdofjpoajblaaGreat
namespace Go.Proofs.YtckdofjpoajblaaGreat
open Go.RowKit
set_option linter.unusedVariables false
section
variable {P : Program}
theorem run_append_copy0 (w : World) (t ty e : TypeId) (i : TypeInfo) (z : Value) (sz bytes : Nat) (ht : P.underlying t = some (.slice e)) (hi : P.info? e = some i) (hz : i.zero = some z)
    (hsize : i.size = sz) (hby : i.bytes = bytes) (hzs : z.cells.size = sz) (hsz : 0 < sz)
    (b : Addr) (n : Nat) (cs : List Value) (hown : Row w e sz (some b) n n cs)
    (X : Option Addr) (m c : Nat) (news : List Value) (hx : Rd w sz X m news) (h63 : n + m ≤ maxLen) (hbytes : (n + m) * bytes ≤ 140737488355328) :
    ∃ g o cap' w', (Builtin.append_ #[t, t] ty #[.slice (some b) n n, .slice X m c]).run P w = .ok (.slice (some ⟨g, o, none⟩) (n + m) cap') w' ∧ Row w' e sz (some ⟨g, o, none⟩) (n + m) cap' (cs ++ news) ∧
      Below w.heap.size w w' ∧ ((m = 0 ∧ g = b.block) ∨ w.heap.size ≤ g) ∧ (o = 0 ∨ o = b.off) := by
  rcases Nat.eq_zero_or_pos m with hm | hm
  · subst hm
    have hn : news = [] := List.eq_nil_of_length_eq_zero (by rw [hx.1]; simp)
    subst hn
    subst hsize
    obtain ⟨hs, _⟩ := hown.2.2.2.2 b rfl
    obtain ⟨g, o, s⟩ := b
    simp at hs
    subst hs
    exact ⟨g, o, n, w, run_append_none w t ty e i ht hi _ n n cs hown X c, by simpa using hown, Below.refl _ _, .inl ⟨rfl, rfl⟩, .inr rfl⟩
  · obtain ⟨g, o, rfl, hg, hc⟩ := hx.2 (Nat.mul_pos hm hsz)
    obtain ⟨v', w', hr, ho, hgr⟩ := run_append_arg_grows (P := P) (w := w) t ty e i z sz bytes ht hi hz hsize hby hzs hsz b n n cs hown.1 hown.cells ⟨g, o, none⟩ m c news hx.1
      (fun j u hu => by rw [addr_add, hc j (by rw [← hx.1]; exact (List.getElem?_eq_some_iff.1 hu).1)]; exact hu) (by omega) h63 hbytes
    rcases ho.2 with ⟨_, h0⟩ | ⟨g', cap', cur, rfl, hb, hgh, hnc, hcm, hcsz, htk⟩
    · omega
    · refine ⟨g', 0, cap', w', hr, ⟨ho.1, hnc, hcm, fun h => (by cases h), fun a' ha' => ?_⟩, (Mod.of_grown hgr).below _ (Nat.le_refl _) (fun k _ hk => by cases hk), .inr hb, .inl rfl⟩
      injection ha' with ha'
      subst ha'
      exact ⟨rfl, cur, hgh, by simp only; omega, by simpa using htk⟩
theorem run_append_copy (w : World) (t ty e : TypeId) (i : TypeInfo) (z : Value) (sz bytes : Nat) (ht : P.underlying t = some (.slice e)) (hi : P.info? e = some i) (hz : i.zero = some z)
    (hsize : i.size = sz) (hby : i.bytes = bytes) (hzs : z.cells.size = sz) (hsz : 0 < sz)
    (b : Addr) (n : Nat) (cs : List Value) (hown : Row w e sz (some b) n n cs)
    (X : Option Addr) (m c : Nat) (news : List Value) (hx : Rd w sz X m news) (h63 : n + m ≤ maxLen) (hbytes : (n + m) * bytes ≤ 140737488355328) :
    ∃ g o cap' w', (Builtin.append_ #[t, t] ty #[.slice (some b) n n, .slice X m c]).run P w = .ok (.slice (some ⟨g, o, none⟩) (n + m) cap') w' ∧ Row w' e sz (some ⟨g, o, none⟩) (n + m) cap' (cs ++ news) ∧
      Below w.heap.size w w' ∧ ((m = 0 ∧ g = b.block) ∨ w.heap.size ≤ g) := by
  obtain ⟨g, o, cap', w', h1, h2, h3, h4, _⟩ := run_append_copy0 w t ty e i z sz bytes ht hi hz hsize hby hzs hsz b n cs hown X m c news hx h63 hbytes
  exact ⟨g, o, cap', w', h1, h2, h3, h4⟩
theorem wpList_append_copy {w : World} {ops : Array Oper} {rest : List Oper} {o : Oper} {a : Act} {Q : Exit → Act → World → Prop} (hgd : o.guard = none) (s x : Operand) (t : TypeId)
    (ho : o.op = .call { callee := .builtin .append, args := #[s, x], argTypes := #[t, t] })
    (e : TypeId) (i : TypeInfo) (z : Value) (sz bytes : Nat) (ht : P.underlying t = some (.slice e)) (hi : P.info? e = some i) (hz : i.zero = some z)
    (hsize : i.size = sz) (hby : i.bytes = bytes) (hzs : z.cells.size = sz) (hsz : 0 < sz)
    (b : Addr) (n : Nat) (cs : List Value) (hs : a.eval s = .slice (some b) n n) (hown : Row w e sz (some b) n n cs)
    (X : Option Addr) (m c : Nat) (news : List Value) (hx : a.eval x = .slice X m c) (hrd : Rd w sz X m news)
    (h63 : n + m ≤ maxLen) (hbytes : (n + m) * bytes ≤ 140737488355328)
    (h : ∀ g off cap' w', Row w' e sz (some ⟨g, off, none⟩) (n + m) cap' (cs ++ news) → Below w.heap.size w w' → ((m = 0 ∧ g = b.block) ∨ w.heap.size ≤ g) → wpList P ops Q rest (a.put o.dst (.slice (some ⟨g, off, none⟩) (n + m) cap')) w') : wpList P ops Q (o :: rest) a w := by
  refine wpList_plain hgd fun K hK => ?_
  obtain ⟨g, off, cap', w', hr, h2, h3, h4⟩ := run_append_copy (P := P) w t o.type e i z sz bytes ht hi hz hsize hby hzs hsz b n cs hown X m c news hrd h63 hbytes
  unfold Oper.wp execOp
  simp only [ho, resolve, invoke, builtin, Sem.run_bind, Sem.run_pure, Result.andThen_ok, List.map_toArray, List.map_cons, List.map_nil, hs, hx, hr]
  exact hK _ _ (h g off cap' w' h2 h3 h4)
theorem wpList_append_copy0 {w : World} {ops : Array Oper} {rest : List Oper} {o : Oper} {a : Act} {Q : Exit → Act → World → Prop} (hgd : o.guard = none) (s x : Operand) (t : TypeId)
    (ho : o.op = .call { callee := .builtin .append, args := #[s, x], argTypes := #[t, t] })
    (e : TypeId) (i : TypeInfo) (z : Value) (sz bytes : Nat) (ht : P.underlying t = some (.slice e)) (hi : P.info? e = some i) (hz : i.zero = some z)
    (hsize : i.size = sz) (hby : i.bytes = bytes) (hzs : z.cells.size = sz) (hsz : 0 < sz)
    (b : Addr) (n : Nat) (cs : List Value) (hs : a.eval s = .slice (some b) n n) (hown : Row w e sz (some b) n n cs)
    (X : Option Addr) (m c : Nat) (news : List Value) (hx : a.eval x = .slice X m c) (hrd : Rd w sz X m news)
    (h63 : n + m ≤ maxLen) (hbytes : (n + m) * bytes ≤ 140737488355328)
    (h : ∀ g off cap' w', Row w' e sz (some ⟨g, off, none⟩) (n + m) cap' (cs ++ news) → Below w.heap.size w w' → ((m = 0 ∧ g = b.block) ∨ w.heap.size ≤ g) → (off = 0 ∨ off = b.off) → wpList P ops Q rest (a.put o.dst (.slice (some ⟨g, off, none⟩) (n + m) cap')) w') : wpList P ops Q (o :: rest) a w := by
  refine wpList_plain hgd fun K hK => ?_
  obtain ⟨g, off, cap', w', hr, h2, h3, h4, h5⟩ := run_append_copy0 (P := P) w t o.type e i z sz bytes ht hi hz hsize hby hzs hsz b n cs hown X m c news hrd h63 hbytes
  unfold Oper.wp execOp
  simp only [ho, resolve, invoke, builtin, Sem.run_bind, Sem.run_pure, Result.andThen_ok, List.map_toArray, List.map_cons, List.map_nil, hs, hx, hr]
  exact hK _ _ (h g off cap' w' h2 h3 h4 h5)
end
theorem row_empty {w : World} {e sz Z : Nat} (h : w.heap[Z]? = some (.cells #[] e (0, 0))) : Row w e sz (some ⟨Z, 0, none⟩) 0 0 [] :=
  ⟨by simp, Nat.le_refl _, Nat.zero_le _, fun h => (by cases h), fun a ha => by injection ha with ha; subst ha; exact ⟨rfl, _, h, by simp, by simp⟩⟩
end Go.Proofs.YtckdofjpoajblaaGreat
