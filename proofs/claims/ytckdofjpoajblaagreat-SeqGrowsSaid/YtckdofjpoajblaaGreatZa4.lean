/- Part 4 of the proof of seqExact_holds: what it rests on. -/
import Derived.Test.YtckdofjpoajblaaGreatZa3
namespace Go.Proofs.YtckdofjpoajblaaGreat
open Go.RowKit
set_option linter.unusedVariables false
theorem Tryz.infoSl2 : (Tryz.prog.info? 55).map (fun i => (i.zero, i.size, i.bytes)) = some (some (.slice none 0 0), 1, 24) := by kernel_rfl
theorem Tryz.infoInt2 : (Tryz.prog.info? 3).map (fun i => (i.zero, i.size, i.bytes)) = some (some (.int .i64 0), 1, 8) := by kernel_rfl
def nums (a : List Nat) : List Value := a.map fun (n : Nat) => .int .i64 (n : Int)
theorem lv_store {W w : World} {base i c' cap e2 k capT : Nat} {A' AT : Option Addr} {g o : Nat} {L : List (List Ev)} {c : Nat → Nat} {aa : List Value} (hF : Fr base c W w) (ha : RowC w c 2 e2 1 AT k capT aa) (h : LvC w c (some ⟨g, o, none⟩) cap L) (hi : i < L.length) (q' : List Ev)
    (hr : RowC w c 4 51 4 A' q'.length c' (q'.flatMap encE)) : ∃ c2, LvC (w.setCell ⟨g, o + i, none⟩ (.slice A' q'.length c')) c2 (some ⟨g, o, none⟩) cap (L.set i q') ∧ Fr base c2 W (w.setCell ⟨g, o + i, none⟩ (.slice A' q'.length c')) ∧ RowC (w.setCell ⟨g, o + i, none⟩ (.slice A' q'.length c')) c2 2 e2 1 AT k capT aa := by
  have h2 := (h.re (i := 4) (by decide) (by decide) (10 + i)).put hi (Chg.refl _ _ _) q' (hr.re (10 + i)) g o rfl
  exact ⟨_, h2.1, (hF.re (i := 4) (by decide) (10 + i)).step h2.2 (by decide), (ha.re_ne (i := 4) (by decide) (10 + i)).stay h2.2 (by decide)⟩
theorem acc4 {W w w3 : World} {base capN cap' cap2 e2 k capT g of' : Nat} {AN A2 AT : Option Addr} {L2 : List (List Ev)} {c : Nat → Nat} {aa : List Value} {N : List Ev} (hN : RowC w c 4 51 4 AN N.length capN (N.flatMap encE)) (hL : LvC w c A2 cap2 L2) (hF : Fr base c W w)
    (hA : RowC w c 2 e2 1 AT k capT aa) (x : Ev) (O : Obj) (hown : Row w3 51 4 (some ⟨g, of', none⟩) (N.length + 1) cap' (N.flatMap encE ++ [.int .i64 x.t, .int .i64 x.k, .int .i64 x.o, .bool x.f]))
    (hm : Mod (fun k => ∃ a, AN = some a ∧ k = a.block) (w.alloc O) w3) (hat : (∃ a, AN = some a ∧ g = a.block) ∨ (w.alloc O).heap.size ≤ g) :
    ∃ c3, RowC w3 c3 4 51 4 (some ⟨g, of', none⟩) (N ++ [x]).length cap' ((N ++ [x]).flatMap encE) ∧ LvC w3 c3 A2 cap2 L2 ∧ Fr base c3 W w3 ∧ RowC w3 c3 2 e2 1 AT k capT aa := by
  have hal : Chg 5 c w (paint c w.heap.size 3) (w.alloc O) := Chg.alloc 5 3 _
  obtain ⟨z1, z2⟩ := RowC.put (hN.stay hal (by decide)) (A' := some ⟨g, of', none⟩) (cs' := (N ++ [x]).flatMap encE) (by simpa [List.flatMap_append, encE] using hown) hm (fun a' ha' => by injection ha' with ha'; subst ha'; exact hat)
  have hz : (N ++ [x]).length = N.length + 1 := by simp
  rw [← hz] at z1
  exact ⟨_, z1, (hL.stay hal (by decide) (by decide)).stay z2 (by decide) (by decide), (hF.step hal (by decide)).step z2 (by decide), (hA.stay hal (by decide)).stay z2 (by decide)⟩
set_option maxRecDepth 100000 in
set_option maxHeartbeats 4000000 in
theorem refLevels_any (w : World) (A : Option Addr) (cap : Nat) (l : List Ev) (hr : Rd w 4 A l.length (l.flatMap encE)) (hl : l.length < 4611686018427387904) :
    Calls Tryz.prog 157 #[.slice A l.length cap] w (LvOut w (Fo.levR l)) := by
  obtain ⟨i0, hi0, hz0, hz1, hz2⟩ := info_parts Tryz.infoEv
  obtain ⟨i1, hi1, hy0, hy1, hy2⟩ := info_parts Tryz.infoSl2
  obtain ⟨i2, hi2, hx0, hx1, hx2⟩ := info_parts Tryz.infoInt2
  have hok := rows_any w A cap l hr hl
  have HC := Lib.hid (evs_cell hr.toB)
  clear hr
  obtain ⟨b, hb⟩ : ∃ b, b = Fo.rights l := ⟨_, rfl⟩
  have hlr : b = true → l.length ≤ 200 → Fo.levR l = Fo.lev l := fun h h2 => by unfold Fo.levR Fo.okRow; rw [← hb, h, decide_eq_true h2]; rfl
  have hlf : b = false → Fo.levR l = [] := fun h => by unfold Fo.levR Fo.okRow; rw [← hb, h, Bool.and_false]; rfl
  have hln : ¬ l.length ≤ 200 → Fo.levR l = [] := fun h => by unfold Fo.levR Fo.okRow; rw [decide_eq_false h]; rfl
  rw [← hb] at hok
  generalize Fo.levR l = R at hlr hlf hln ⊢
  have HOK := Lib.hid hok
  have HLR := Lib.hid hlr
  have HLF := Lib.hid hlf
  have HLN := Lib.hid hln
  clear hok hb hlr hlf hln
  go_enter Tryz.func157, Tryz.ntmps157
  go_wp2_with fail
  refine HOK.out.mono ?_
  rintro x w1 ⟨rfl, b1⟩
  have HB1 := Lib.hid b1
  clear b1
  cases b with
  | false =>
    go_wp2_with fail
    go_ret
    rw [HLF.out (by trivial)]
    exact LvOut.nil HB1.out
  | true =>
    by_cases hl2 : l.length ≤ 200
    · have hl3 : ¬ (200 : Int) < (l.length : Int) := by omega
      clear hl
      go_wp2_with fail
      go_loopw [3, 4, 5] (fun v3 v4 v5 wr => ∃ (k : Nat) (AT AL : Option Addr) (capT capL : Nat) (c : Nat → Nat), k ≤ l.length ∧ v5 = .int .i64 k ∧ v3 = .slice AT k capT ∧ v4 = .slice AL (Fo.lev (l.take k)).length capL ∧
        Hid (RowC wr c 2 3 1 AT k capT (nums (Fo.ats (l.take k)))) ∧ Hid (LvC wr c AL capL (Fo.lev (l.take k))) ∧ Hid (Fr w.heap.size c w wr)) (fun _ _ v5 _ => l.length - (intOf v5).toNat)
      case atStart => exact ⟨0, none, none, 0, 0, _, Nat.zero_le _, rfl, rfl, rfl, Lib.hid (RowC.nil _ _ _ _ _ : RowC w1 _ 2 3 1 none 0 0 []), Lib.hid (LvC.nil _ _), Lib.hid ((Fr.start w).step (.below 3 3 HB1.out) (by decide))⟩
      case round =>
        obtain ⟨k, AT, AL, capT, capL, c, hk, rfl, rfl, rfl, HAT, HLV, HFR⟩ := hrel
        by_cases hlt : k < l.length
        · have hE := HC.out k hlt
          obtain ⟨g, o, rfl, hg, hcl⟩ := hE
          obtain ⟨v0, v1, v2, v3⟩ := hcl wr HFR.out.below
          have k1 : (0 : Int) ≤ (k : Int) := Int.natCast_nonneg _
          have k2 : (k : Int) < (l.length : Int) := by omega
          have hlk : (l.take k).length = k := by rw [List.length_take]; omega
          have hL := Fo.lev_len_le (l.take k)
          have hIn := Fo.lev_in_len (l.take k)
          have htk : l.take (k + 1) = l.take k ++ [l[k]] := by rw [List.take_add_one, List.getElem?_eq_getElem hlt]; rfl
          have hats : Fo.ats (l.take (k + 1)) = Fo.ats (l.take k) ++ [Fo.high (l.take k) (Fo.ats (l.take k)) l[k]] := by rw [htk]; exact Fo.ats_snoc _ _
          have halen : (Fo.ats (l.take k)).length = k := (Fo.ats_len (l.take k)).trans hlk
          have hale := Fo.ats_le (l.take k)
          have hhn := Fo.highN_all (l.take k) (Fo.ats (l.take k)) l[k] (Fo.ats_len _)
          have hhs : ∀ j, (hj : j < k) → Fo.highN (l.take k) (Fo.ats (l.take k)) l[k] (j + 1) = if Fo.dep (l[j]'(Nat.lt_trans hj hlt)) l[k] then max (Fo.highN (l.take k) (Fo.ats (l.take k)) l[k] j) ((Fo.ats (l.take k)).getD j 0 + 1) else Fo.highN (l.take k) (Fo.ats (l.take k)) l[k] j := fun j hj => by
            have := Fo.highN_succ (l := l.take k) (a := Fo.ats (l.take k)) (e := l[k]) (j := j) (by omega) (by omega)
            have h9 : (Fo.ats (l.take k)).getD j 0 = (Fo.ats (l.take k))[j]'(by omega) := by rw [List.getD_eq_getElem?_getD, List.getElem?_eq_getElem (by omega)]; rfl
            rw [this, h9]; simp
          have hhz := Fo.highN_zero (l.take k) (Fo.ats (l.take k)) l[k]
          have hhl : ∀ j, Fo.highN (l.take k) (Fo.ats (l.take k)) l[k] j ≤ 201 := fun j => by have := Fo.highN_le (l := l.take k) (e := l[k]) hale j; omega
          have hle := Fo.high_le (l.take k) l[k]
          have hin := Fo.lev_in (l.take k) l[k]
          have hend := Fo.lev_end (l.take k) l[k]
          rw [← htk] at hin hend
          rw [hlk] at hL hIn hale hhn
          generalize Fo.highN (l.take k) (Fo.ats (l.take k)) l[k] = H at hhn hhs hhz hhl
          generalize Fo.high (l.take k) (Fo.ats (l.take k)) l[k] = n at hats hhn hle hin hend
          generalize Fo.lev (l.take k) = L at *
          generalize Fo.ats (l.take k) = at_ at *
          have hdep : ∀ j, (hj : j < k) → ∀ u, Calls Tryz.prog 202 #[valE (l[j]'(Nat.lt_trans hj hlt)), valE l[k]] u fun x w' => x = .returned (.bool (Fo.dep (l[j]'(Nat.lt_trans hj hlt)) l[k])) ∧ Below u.heap.size u w' := fun j hj u => refDepends_any u _ l[k]
          simp only [valE] at hdep
          generalize l[k] = e at *
          have HHS := Lib.hid hhs
          have HHL := Lib.hid hhl
          have HALE := Lib.hid hale
          have HIN := Lib.hid hin
          have HEND := Lib.hid hend
          have HLE := Lib.hid hle
          have HATS := Lib.hid hats
          have HINL := Lib.hid hIn
          have HDEP := Lib.hid hdep
          have HHN := Lib.hid hhn
          have HHZ := Lib.hid hhz
          have HEC := Lib.hid hcl
          have HAL := Lib.hid halen
          have HLL := Lib.hid hL
          have HTK := Lib.hid htk
          clear hhs hhl hale hin hend hle hats hIn hdep hhn hhz hcl halen hL hlk htk v0 v1 v2 v3
          generalize wr = w5 at *
          go_upto_block 2 with fail
          go_cut [6] (fun v w2 => v = .int .i64 n ∧ Below w5.heap.size w5 w2)
          case first =>
            go_wp2_with fail
            go_loopw [6, 7] (fun v6 v7 wr => ∃ j : Nat, j ≤ k ∧ v7 = .int .i64 j ∧ v6 = .int .i64 (H j) ∧ Below w5.heap.size w5 wr) (fun _ v7 _ => k - (intOf v7).toNat)
            case atStart => exact ⟨0, Nat.zero_le _, rfl, by rw [HHZ.out]; rfl, Below.refl _ _⟩
            case round =>
              obtain ⟨j, hj, rfl, rfl, hbw⟩ := hrel
              by_cases hjk : j < k
              · obtain ⟨g', o', hA', _, hcl⟩ := HC.out j (by omega)
                injection hA' with hA'
                injection hA' with h1 h2
                subst h1 h2
                have hbb := (HFR.out.step (Chg.below 3 3 hbw) (by decide)).below
                obtain ⟨v0, v1, v2, v3⟩ := HEC.out wr hbb
                obtain ⟨u0, u1, u2, u3⟩ := hcl wr hbb
                have hat := (HAT.out.stay (Chg.below 3 3 hbw) (by decide)).1
                obtain ⟨ga, oa, rfl⟩ := hat.some_of_pos (by have := hat.2.1; omega)
                have hac : wr.cell? ⟨ga, oa + j, none⟩ = some (.int .i64 ((at_.getD j 0 : Nat) : Int)) := by
                  rw [hat.cell j (by omega)]
                  unfold nums
                  rw [List.getElem?_map, List.getD_eq_getElem?_getD, List.getElem?_eq_getElem (by rw [HAL.out]; exact hjk)]
                  rfl
                have hab : at_.getD j 0 ≤ 200 := by
                  rw [List.getD_eq_getElem?_getD, List.getElem?_eq_getElem (by rw [HAL.out]; exact hjk)]
                  have := HALE.out _ (List.getElem_mem (l := at_) (n := j) (by rw [HAL.out]; exact hjk))
                  simp only [Option.getD_some]
                  omega
                have lga : ga < wr.heap.size := hat.lt
                have lg : g < wr.heap.size := by have := hbb.size; omega
                have hcall := HDEP.out j hjk
                have hhs := HHS.out j hjk
                have hhl := HHL.out j
                generalize at_.getD j 0 = y at hac hab hhs
                generalize l[j]'(Nat.lt_trans hjk hlt) = z at hcall hhs u0 u1 u2 u3
                generalize Fo.dep z e = b at hcall hhs
                generalize hHj : H j = hj at *
                have HCALL := Lib.hid hcall
                have HHS2 := Lib.hid hhs
                have HBW := Lib.hid hbw
                have j1 : (0 : Int) ≤ (j : Int) := Int.natCast_nonneg _
                have j2 : (j : Int) < (k : Int) := by omega
                have j3 : (j : Int) < (l.length : Int) := by omega
                clear hcall hhs hcl hat hbw hHj
                go_wp2_with fail
                refine wp_region_plan (by kernel_rfl) (fun u => Mod (fun _ => False) wr u) [8] [(0, .pure), (1, .pure), (2, .pure), (3, .load), (4, .pure), (5, .pure), (6, .pure), (7, .load), (8, .last)] (by simp only [List.map_cons, List.map_nil, List.getElem?_toArray, List.getElem?_cons_succ, List.getElem?_cons_zero]; rfl) (by kernel_rfl) (fun _ _ d _ _ h => by cases d <;> exact h) ((Mod.refl _ _).drew) ?_
                repeat (first
                  | (refine plan_pure (v := ?_) (by rfl) (fun w1 => ?_) ?_
                     rotate_left
                     · go_simp <;> with_reducible rfl
                     simp only [Act.put, List.setIfInBounds_toArray, List.set_cons_zero, List.set_cons_succ])
                  | (refine plan_off (by rfl) ?_
                     simp only [Act.put, List.setIfInBounds_toArray, List.set_cons_zero, List.set_cons_succ])
                  | (refine plan_load_off (by rfl) ?_
                     simp only [Act.put, List.setIfInBounds_toArray, List.set_cons_zero, List.set_cons_succ])
                  | (refine plan_load (v := ?_) (by rfl) (fun w1 hw1 => ?_) ?_
                     rotate_left
                     · (have q0 := (hw1.cell g (o + k * 4) lg id).trans v0
                        have q1 := (hw1.cell g (o + k * 4 + 1) lg id).trans v1
                        have q2 := (hw1.cell g (o + k * 4 + 2) lg id).trans v2
                        have q3 := (hw1.cell g (o + k * 4 + 3) lg id).trans v3
                        have p0 := (hw1.cell g (o + j * 4) lg id).trans u0
                        have p1 := (hw1.cell g (o + j * 4 + 1) lg id).trans u1
                        have p2 := (hw1.cell g (o + j * 4 + 2) lg id).trans u2
                        have p3 := (hw1.cell g (o + j * 4 + 3) lg id).trans u3
                        clear hw1
                        go_simp <;> with_reducible rfl)
                     simp only [Act.put, List.setIfInBounds_toArray, List.set_cons_zero, List.set_cons_succ]))
                refine plan_last ?_
                go_wp2_with fail
                refine (HCALL.out _).mono ?_
                rintro x w7 ⟨rfl, b3⟩
                have HB7 := Lib.hid (HBW.out.trans ⟨b3.os, b3.tape, b3.output, b3.size, fun i hi => b3.block i (by have := HBW.out.size; show i < wr.heap.size; omega)⟩ : Below w5.heap.size w5 w7)
                have hac7 : w7.cell? ⟨ga, oa + j, none⟩ = some (.int .i64 (y : Int)) := (World.cell?_of_block (b3.block ga lga)).trans hac
                clear b3
                cases b with
                | true =>
                  have hmx : H (j + 1) = max hj (y + 1) := HHS2.out
                  have HMX := Lib.hid hmx
                  clear hmx
                  go_wp2_with fail
                  refine plan_end ?_
                  go_wp2_with fail
                  go_roundw
                  case rel => exact ⟨j + 1, by omega, by go_num, by rw [HMX.out]; congr 1; omega, HB7.out⟩
                  case measure => simp [intOf]; omega
                | false =>
                  have hmx : H (j + 1) = hj := HHS2.out
                  have HMX := Lib.hid hmx
                  clear hmx
                  go_wp2_with fail
                  refine plan_end ?_
                  go_wp2_with fail
                  go_roundw
                  case rel => exact ⟨j + 1, by omega, by go_num, by rw [HMX.out], HB7.out⟩
                  case measure => simp [intOf]; omega
              · have hjn : j = k := by omega
                have HJ := Lib.hid hjn
                have HBW := Lib.hid hbw
                clear hjn hbw
                go_wp2_with fail
                go_meet
                exact ⟨by rw [HJ.out, HHN.out], HBW.out⟩
          case rest =>
            obtain ⟨rfl, hbw⟩ := hcut
            have hat := HAT.out.stay (Chg.below 3 3 hbw) (by decide)
            have hlv := HLV.out.stay (Chg.below 3 3 hbw) (by decide) (by decide)
            have hfr := HFR.out.step (Chg.below 3 3 hbw) (by decide)
            generalize paint c w5.heap.size 3 = c1 at hat hlv hfr
            have hal : Chg 4 c1 wc (paint c1 wc.heap.size 3) (wc.alloc (Obj.cells #[.int .i64 (n : Int)] 3)) := Chg.alloc 4 3 _
            have HAT2 := Lib.hid (hat.stay hal (by decide))
            have HLV2 := Lib.hid (hlv.stay hal (by decide) (by decide))
            have HFR2 := Lib.hid (hfr.step hal (by decide))
            generalize paint c1 wc.heap.size 3 = c2 at hal HAT2 HLV2 HFR2
            have hnl := HLE.out
            have hLk := HLL.out
            clear hat hlv hfr hal hbw
            generalize wc = w6 at *
            go_upto_if 53 with (at_builtin; refine wpList_append_row (by rfl) _ _ _ (by rfl) 3 i2 _ 1 8 Tryz.underlying32 hi2 hx0 hx1 hx2 rfl (by omega) AT k capT (nums at_) (by rfl) HAT2.out.1 ⟨w6.heap.size, 0, none⟩ 1 1 [.int .i64 (n : Int)] (by rfl) (by rfl) (World.news_of_block (cs := #[.int .i64 (n : Int)]) (t := 3) (fr := (0, 0)) (heap_alloc_new w6 _)) (by simp [Value.oneCell']) (by omega) (by unfold maxLen; omega) (by omega) ?_; intro g1 of1 cap1 w7 hown hm hat; skip)
            obtain ⟨z1, z2⟩ := RowC.put HAT2.out (A' := some ⟨g1, of1, none⟩) (cs' := nums (at_ ++ [n])) (by unfold nums; simpa [nums] using hown) hm (fun a' ha' => by injection ha' with ha'; subst ha'; exact hat)
            have HAT3 := Lib.hid z1
            have HLV3 := Lib.hid (HLV2.out.stay z2 (by decide) (by decide))
            have HFR3 := Lib.hid (HFR2.out.step z2 (by decide))
            generalize paint c2 (w6.alloc (Obj.cells #[.int .i64 (n : Int)] 3)).heap.size 2 = c3 at z1 z2 HAT3 HLV3 HFR3
            clear z1 z2 hown hm hat HAT2 HLV2 HFR2
            go_cut [4] (fun v w2 => ∃ (A2 : Option Addr) (cap2 : Nat) (c2 : Nat → Nat) (L2 : List (List Ev)), v = .slice A2 L2.length cap2 ∧ n < L2.length ∧ L2.length ≤ 201 ∧ Hid (Fo.lev (l.take (k + 1)) = L2.set n (Fo.insT e (L2.getD n []))) ∧ Hid (∀ q ∈ L2, q.length ≤ 200) ∧ Hid (LvC w2 c2 A2 cap2 L2) ∧ Hid (Fr w.heap.size c2 w w2) ∧ Hid (RowC w2 c2 2 3 1 (some ⟨g1, of1, none⟩) (k + 1) cap1 (nums (at_ ++ [n]))))
            case first =>
              by_cases hp : n = L.length
              · obtain ⟨vs, hv, hin⟩ := HLV3.out.stay (Chg.alloc 4 3 (Obj.cells #[.slice none 0 0] 55)) (by decide) (by decide)
                have e1 : ((n : Int) == (L.length : Int)) = true := by simp; omega
                have HV := Lib.hid hv
                have HIN2 := Lib.hid hin
                have HP := Lib.hid hp
                clear hv hin hp
                go_wp2_with (at_builtin; refine wpList_append_row (by rfl) _ _ _ (by rfl) 55 i1 _ 1 24 Tryz.underlying150 hi1 hy0 hy1 hy2 rfl (by omega) AL L.length capL vs (by rfl) HV.out.1 ⟨w7.heap.size, 0, none⟩ 1 1 [.slice none 0 0] (by rfl) (by rfl) (World.news_of_block (cs := #[.slice none 0 0]) (t := 55) (fr := (0, 0)) (heap_alloc_new w7 _)) (by simp [Value.oneCell']) (by omega) (by unfold maxLen; omega) (by omega) ?_; intro g4 of4 cap4 w8 hown hm hat; skip)
                go_meet
                obtain ⟨z1, z2⟩ := LvC.snoc HV.out HIN2.out hown hm (fun a' ha' => by injection ha' with ha'; subst ha'; exact hat)
                exact ⟨some ⟨g4, of4, none⟩, cap4, _, L ++ [[]], by rw [List.length_append]; rfl, by rw [HP.out]; simp, by rw [List.length_append, List.length_singleton]; omega,
                  Lib.hid (HEND.out HP.out), Lib.hid (fun q hq => by
                    rcases List.mem_append.1 hq with hq | hq
                    · have := HINL.out q hq; omega
                    · rw [List.mem_singleton] at hq; subst hq; simp), Lib.hid z1, Lib.hid ((HFR3.out.step (Chg.alloc 4 3 _) (by decide)).step z2 (by decide)), Lib.hid ((HAT3.out.stay (Chg.alloc 4 3 _) (by decide)).stay z2 (by decide))⟩
              · have e1 : ((n : Int) == (L.length : Int)) = false := by simp; omega
                have HP := Lib.hid hp
                clear hp
                go_wp2_with fail
                go_meet
                have hpl2 : n < L.length := by have := HP.out; omega
                exact ⟨AL, capL, _, L, rfl, hpl2, by omega, Lib.hid (HIN.out hpl2), Lib.hid (fun q hq => by have := HINL.out q hq; omega), HLV3, HFR3, HAT3⟩
            case rest =>
              obtain ⟨A2, cap2, c5, L2, rfl, hp2, hl4, HSET, HLEN, HLV4, HFR4, HAT4⟩ := hcut
              obtain ⟨g2, o2, _, _, rfl, _, _, _, _, _, _⟩ := HLV4.out.cell n hp2
              have hget : L2.getD n [] = L2[n] := by rw [List.getD_eq_getElem?_getD, List.getElem?_eq_getElem hp2]; rfl
              have hq3 : L2[n].length ≤ 200 := HLEN.out _ (List.getElem_mem _)
              have hqc : ∀ u cu, LvC u cu (some ⟨g2, o2, none⟩) cap2 L2 → ∃ A' c', g2 < u.heap.size ∧ u.cell? ⟨g2, o2 + n, none⟩ = some (.slice A' L2[n].length c') ∧ u.frozen? ⟨g2, o2 + n, none⟩ = false ∧ RowC u cu (10 + n) 51 4 A' L2[n].length c' (L2[n].flatMap encE) := fun u cu h => by
                obtain ⟨_, _, A', c', hA, h1, _, h2, h3, h4, _⟩ := h.cell n hp2
                injection hA with hA
                injection hA with h5 h6
                subst h5 h6
                exact ⟨A', c', h1, h2, h3 _, h4⟩
              generalize L2[n] = q at hget hq3 hqc
              have HGET := Lib.hid hget
              have HQC := Lib.hid hqc
              have p1 : (0 : Int) ≤ (n : Int) := Int.natCast_nonneg _
              have p2 : (n : Int) < (L2.length : Int) := by omega
              clear hget hqc
              generalize wc = w9 at *
              go_upto_block 4 with fail
              go_wp2_with fail
              go_loopw [8, 9, 10] (fun v8 v9 v10 wr => ∃ (j : Nat) (AN : Option Addr) (capN : Nat) (cN : Nat → Nat), j ≤ q.length ∧ v10 = .int .i64 j ∧ v9 = .bool (Fo.insA e (q.take j)).2 ∧ v8 = .slice AN (Fo.insA e (q.take j)).1.length capN ∧
                Hid (RowC wr cN 4 51 4 AN (Fo.insA e (q.take j)).1.length capN ((Fo.insA e (q.take j)).1.flatMap encE)) ∧ Hid (LvC wr cN (some ⟨g2, o2, none⟩) cap2 L2) ∧ Hid (Fr w.heap.size cN w wr) ∧ Hid (RowC wr cN 2 3 1 (some ⟨g1, of1, none⟩) (k + 1) cap1 (nums (at_ ++ [n])))) (fun _ _ v10 _ => q.length - (intOf v10).toNat)
              case atStart => exact ⟨0, none, 0, c5, Nat.zero_le _, rfl, rfl, rfl, Lib.hid (RowC.nil _ _ _ _ _), HLV4, HFR4, HAT4⟩
              case round =>
                obtain ⟨j, AN, capN, cN, hj, rfl, rfl, rfl, HN, HLV5, HFR5, HAT5⟩ := hrel
                by_cases hjq : j < q.length
                · have hxc : ∀ u cu, LvC u cu (some ⟨g2, o2, none⟩) cap2 L2 → ∃ ga oa c', g2 < u.heap.size ∧ ga < u.heap.size ∧ u.cell? ⟨g2, o2 + n, none⟩ = some (.slice (some ⟨ga, oa, none⟩) q.length c') ∧ EvAt u ga (oa + j * 4) q[j] := fun u cu h => by
                    obtain ⟨A', c', lg2, q2, fz, r5⟩ := HQC.out u cu h
                    obtain ⟨ga, oa, rfl⟩ := r5.1.some_of_pos (by have := r5.1.2.1; omega)
                    have hfl : ∀ r, (hr : r < 4) → u.cell? ⟨ga, oa + j * 4 + r, none⟩ = (encE q[j])[r]? := fun r hr => by
                      rw [Nat.add_assoc, r5.1.cell (j * 4 + r) (by omega), flat_get (f := encE) (sz := 4) encE_len q j r hjq hr]
                    have u0 := hfl 0 (by omega)
                    have u1 := hfl 1 (by omega)
                    have u2 := hfl 2 (by omega)
                    have u3 := hfl 3 (by omega)
                    simp only [encE, List.getElem?_cons_succ, List.getElem?_cons_zero, Nat.add_zero] at u0 u1 u2 u3
                    exact ⟨ga, oa, c', lg2, r5.1.lt, q2, u0, u1, u2, u3⟩
                  obtain ⟨v0, v1, v2, v3⟩ := HEC.out wr HFR5.out.below
                  have lg : g < wr.heap.size := by have := HFR5.out.1; omega
                  have hsn : Fo.insA e (q.take (j + 1)) = if !(Fo.insA e (q.take j)).2 && decide (e.t < q[j].t) then ((Fo.insA e (q.take j)).1 ++ [e, q[j]], true) else ((Fo.insA e (q.take j)).1 ++ [q[j]], (Fo.insA e (q.take j)).2) := by
                    rw [List.take_add_one, List.getElem?_eq_getElem hjq]; exact Fo.insA_snoc _ _ _
                  have hnl2 := Fo.insA_len e (q.take j)
                  rw [List.length_take, Nat.min_eq_left hj] at hnl2
                  generalize (Fo.insA e (q.take j)).1 = N at hsn hnl2 HN
                  generalize (Fo.insA e (q.take j)).2 = b at hsn
                  generalize q[j] = x at hsn hxc
                  obtain ⟨ga, oa, c', lg2, lga, q2, u0, u1, u2, u3⟩ := hxc wr cN HLV5.out
                  have HXC := Lib.hid hxc
                  have HSN := Lib.hid hsn
                  have j1 : (0 : Int) ≤ (j : Int) := Int.natCast_nonneg _
                  have j2 : (j : Int) < (q.length : Int) := by omega
                  obtain ⟨w8, hw8⟩ : ∃ w8, w8 = wr.drew := ⟨_, rfl⟩
                  have hch : Chg 9 cN wr cN w8 := by rw [hw8]; exact (Chg.refl 9 cN wr).drew
                  have HN8 := Lib.hid (HN.out.stay hch (by decide))
                  have HLV8 := Lib.hid (HLV5.out.stay hch (by decide) (by decide))
                  have HFR8 := Lib.hid (HFR5.out.step hch (by decide))
                  have HAT8 := Lib.hid (HAT5.out.stay hch (by decide))
                  have HW8 := Lib.hid hw8
                  clear hsn hxc hch hw8
                  cases b with
                  | true =>
                    have hs : Fo.insA e (q.take (j + 1)) = (N ++ [x], true) := by rw [HSN.out]; rfl
                    have HS := Lib.hid hs
                    clear hs
                    go_wp2_with fail
                    refine wp_region_plan (by kernel_rfl) (fun u => Mod (fun _ => False) wr u) [] [(0, .pure), (1, .pure), (2, .pure), (3, .pure), (4, .pure), (5, .pure), (6, .pure), (7, .load), (8, .pure), (9, .pure), (10, .pure), (11, .load), (12, .pure), (13, .pure), (14, .pure), (15, .load), (16, .pure), (17, .pure)] (by simp only [List.map_cons, List.map_nil, List.getElem?_toArray, List.getElem?_cons_succ, List.getElem?_cons_zero]; rfl) (by kernel_rfl) (fun _ _ d _ _ h => by cases d <;> exact h) ((Mod.refl _ _).drew) ?_
                    repeat (first
                      | (refine plan_pure (v := ?_) (by rfl) (fun w1 => ?_) ?_
                         rotate_left
                         · go_simp <;> with_reducible rfl
                         simp only [Act.put, List.setIfInBounds_toArray, List.set_cons_zero, List.set_cons_succ])
                      | (refine plan_off (by rfl) ?_
                         simp only [Act.put, List.setIfInBounds_toArray, List.set_cons_zero, List.set_cons_succ])
                      | (refine plan_load_off (by rfl) ?_
                         simp only [Act.put, List.setIfInBounds_toArray, List.set_cons_zero, List.set_cons_succ])
                      | (refine plan_load (v := ?_) (by rfl) (fun w1 hw1 => ?_) ?_
                         rotate_left
                         · (skip
                            clear hw1
                            go_simp <;> with_reducible rfl)
                         simp only [Act.put, List.setIfInBounds_toArray, List.set_cons_zero, List.set_cons_succ]))
                    refine plan_end ?_
                    rw [← HW8.out]
                    obtain ⟨ga, oa, c', lg2, lga, q2, u0, u1, u2, u3⟩ := HXC.out w8 cN HLV8.out
                    go_wp2_with (at_builtin; refine wpList_append_row (by rfl) _ _ _ (by rfl) 51 i0 _ 4 32 Tryz.underlying55 hi0 hz0 hz1 hz2 rfl (by omega) AN N.length capN (N.flatMap encE) (by rfl) (HN8.out.1.alloc _) ⟨w8.heap.size, 0, none⟩ 1 1 [.int .i64 x.t, .int .i64 x.k, .int .i64 x.o, .bool x.f] (by rfl) (by rfl) (World.news_of_block (cs := #[.int .i64 x.t, .int .i64 x.k, .int .i64 x.o, .bool x.f]) (t := 51) (fr := (0, 0)) (heap_alloc_new w8 _)) (by simp [Value.oneCell']) (by omega) (by unfold maxLen; omega) (by omega) ?_; intro g6 of6 cap6 w10 hown hm hat; skip)
                    obtain ⟨c9, z1, z2, z3, z4⟩ := acc4 HN8.out HLV8.out HFR8.out HAT8.out x _ hown hm hat
                    go_roundw
                    case rel => exact ⟨j + 1, some ⟨g6, of6, none⟩, cap6, c9, by omega, by go_num, by rw [HS.out], by rw [HS.out]; simp, by rw [HS.out]; exact Lib.hid z1, Lib.hid z2, Lib.hid z3, Lib.hid z4⟩
                    case measure => simp [intOf]; omega
                  | false =>
                    by_cases hxt : e.t < x.t
                    · have hs : Fo.insA e (q.take (j + 1)) = (N ++ [e] ++ [x], true) := by rw [HSN.out, decide_eq_true hxt]; simp
                      have HS := Lib.hid hs
                      clear hs
                      go_wp2_with fail
                      refine wp_region_plan (by kernel_rfl) (fun u => Mod (fun _ => False) wr u) [] [(0, .pure), (1, .pure), (2, .pure), (3, .pure), (4, .pure), (5, .pure), (6, .pure), (7, .load), (8, .pure), (9, .pure), (10, .pure), (11, .load), (12, .pure), (13, .pure), (14, .pure), (15, .load), (16, .pure), (17, .pure)] (by simp only [List.map_cons, List.map_nil, List.getElem?_toArray, List.getElem?_cons_succ, List.getElem?_cons_zero]; rfl) (by kernel_rfl) (fun _ _ d _ _ h => by cases d <;> exact h) ((Mod.refl _ _).drew) ?_
                      repeat (first
                        | (refine plan_pure (v := ?_) (by rfl) (fun w1 => ?_) ?_
                           rotate_left
                           · go_simp <;> with_reducible rfl
                           simp only [Act.put, List.setIfInBounds_toArray, List.set_cons_zero, List.set_cons_succ])
                        | (refine plan_off (by rfl) ?_
                           simp only [Act.put, List.setIfInBounds_toArray, List.set_cons_zero, List.set_cons_succ])
                        | (refine plan_load_off (by rfl) ?_
                           simp only [Act.put, List.setIfInBounds_toArray, List.set_cons_zero, List.set_cons_succ])
                        | (refine plan_load (v := ?_) (by rfl) (fun w1 hw1 => ?_) ?_
                           rotate_left
                           · (have y0 := (hw1.cell g (o + k * 4) lg id).trans v0
                              have y1 := (hw1.cell g2 (o2 + n) lg2 id).trans q2
                              have y2 := (hw1.cell ga (oa + j * 4) lga id).trans u0
                              clear hw1
                              go_simp <;> with_reducible rfl)
                           simp only [Act.put, List.setIfInBounds_toArray, List.set_cons_zero, List.set_cons_succ]))
                      refine plan_end ?_
                      rw [← HW8.out]
                      obtain ⟨v0, v1, v2, v3⟩ := HEC.out w8 HFR8.out.below
                      go_upto_region 24 with (at_builtin; refine wpList_append_row (by rfl) _ _ _ (by rfl) 51 i0 _ 4 32 Tryz.underlying55 hi0 hz0 hz1 hz2 rfl (by omega) AN N.length capN (N.flatMap encE) (by rfl) (HN8.out.1.alloc _) ⟨w8.heap.size, 0, none⟩ 1 1 [.int .i64 e.t, .int .i64 e.k, .int .i64 e.o, .bool e.f] (by rfl) (by rfl) (World.news_of_block (cs := #[.int .i64 e.t, .int .i64 e.k, .int .i64 e.o, .bool e.f]) (t := 51) (fr := (0, 0)) (heap_alloc_new w8 _)) (by simp [Value.oneCell']) (by omega) (by unfold maxLen; omega) (by omega) ?_; intro g6 of6 cap6 w10 hown hm hat; skip)
                      obtain ⟨c9, z1, z2, z3, z4⟩ := acc4 HN8.out HLV8.out HFR8.out HAT8.out e _ hown hm hat
                      have hz : (N ++ [e]).length = N.length + 1 := by simp
                      have HZ1' := Lib.hid z1
                      rw [hz] at z1
                      have HZ1 := Lib.hid z1
                      have HZ2 := Lib.hid z2
                      have HZ3 := Lib.hid z3
                      have HZ4 := Lib.hid z4
                      have HZ := Lib.hid hz
                      clear z1 z2 z3 z4 hown hm hat hz v0 v1 v2 v3
                      obtain ⟨ga, oa, c', lg2, lga, q2, u0, u1, u2, u3⟩ := HXC.out w10 c9 HZ2.out
                      go_wp2_with (at_builtin; refine wpList_append_row (by rfl) _ _ _ (by rfl) 51 i0 _ 4 32 Tryz.underlying55 hi0 hz0 hz1 hz2 rfl (by omega) (some ⟨g6, of6, none⟩) (N.length + 1) cap6 ((N ++ [e]).flatMap encE) (by rfl) (HZ1.out.1.alloc _) ⟨w10.heap.size, 0, none⟩ 1 1 [.int .i64 x.t, .int .i64 x.k, .int .i64 x.o, .bool x.f] (by rfl) (by rfl) (World.news_of_block (cs := #[.int .i64 x.t, .int .i64 x.k, .int .i64 x.o, .bool x.f]) (t := 51) (fr := (0, 0)) (heap_alloc_new w10 _)) (by simp [Value.oneCell']) (by omega) (by unfold maxLen; omega) (by omega) ?_; intro g7 of7 cap7 w11 hown hm hat; skip)
                      obtain ⟨c10, z1, z2, z3, z4⟩ := acc4 HZ1'.out HZ2.out HZ3.out HZ4.out x _ (by rw [HZ.out]; exact hown) hm hat
                      go_roundw
                      case rel => exact ⟨j + 1, some ⟨g7, of7, none⟩, cap7, c10, by omega, by go_num, by rw [HS.out], by rw [HS.out]; simp, by rw [HS.out]; exact Lib.hid z1, Lib.hid z2, Lib.hid z3, Lib.hid z4⟩
                      case measure => simp [intOf]; omega
                    · have hs : Fo.insA e (q.take (j + 1)) = (N ++ [x], false) := by rw [HSN.out, decide_eq_false hxt]; rfl
                      have HS := Lib.hid hs
                      clear hs
                      go_wp2_with fail
                      refine wp_region_plan (by kernel_rfl) (fun u => Mod (fun _ => False) wr u) [] [(0, .pure), (1, .pure), (2, .pure), (3, .pure), (4, .pure), (5, .pure), (6, .pure), (7, .load), (8, .pure), (9, .pure), (10, .pure), (11, .load), (12, .pure), (13, .pure), (14, .pure), (15, .load), (16, .pure), (17, .pure)] (by simp only [List.map_cons, List.map_nil, List.getElem?_toArray, List.getElem?_cons_succ, List.getElem?_cons_zero]; rfl) (by kernel_rfl) (fun _ _ d _ _ h => by cases d <;> exact h) ((Mod.refl _ _).drew) ?_
                      repeat (first
                        | (refine plan_pure (v := ?_) (by rfl) (fun w1 => ?_) ?_
                           rotate_left
                           · go_simp <;> with_reducible rfl
                           simp only [Act.put, List.setIfInBounds_toArray, List.set_cons_zero, List.set_cons_succ])
                        | (refine plan_off (by rfl) ?_
                           simp only [Act.put, List.setIfInBounds_toArray, List.set_cons_zero, List.set_cons_succ])
                        | (refine plan_load_off (by rfl) ?_
                           simp only [Act.put, List.setIfInBounds_toArray, List.set_cons_zero, List.set_cons_succ])
                        | (refine plan_load (v := ?_) (by rfl) (fun w1 hw1 => ?_) ?_
                           rotate_left
                           · (have y0 := (hw1.cell g (o + k * 4) lg id).trans v0
                              have y1 := (hw1.cell g2 (o2 + n) lg2 id).trans q2
                              have y2 := (hw1.cell ga (oa + j * 4) lga id).trans u0
                              clear hw1
                              go_simp <;> with_reducible rfl)
                           simp only [Act.put, List.setIfInBounds_toArray, List.set_cons_zero, List.set_cons_succ]))
                      refine plan_end ?_
                      rw [← HW8.out]
                      obtain ⟨ga, oa, c', lg2, lga, q2, u0, u1, u2, u3⟩ := HXC.out w8 cN HLV8.out
                      go_wp2_with (at_builtin; refine wpList_append_row (by rfl) _ _ _ (by rfl) 51 i0 _ 4 32 Tryz.underlying55 hi0 hz0 hz1 hz2 rfl (by omega) AN N.length capN (N.flatMap encE) (by rfl) (HN8.out.1.alloc _) ⟨w8.heap.size, 0, none⟩ 1 1 [.int .i64 x.t, .int .i64 x.k, .int .i64 x.o, .bool x.f] (by rfl) (by rfl) (World.news_of_block (cs := #[.int .i64 x.t, .int .i64 x.k, .int .i64 x.o, .bool x.f]) (t := 51) (fr := (0, 0)) (heap_alloc_new w8 _)) (by simp [Value.oneCell']) (by omega) (by unfold maxLen; omega) (by omega) ?_; intro g6 of6 cap6 w10 hown hm hat; skip)
                      obtain ⟨c9, z1, z2, z3, z4⟩ := acc4 HN8.out HLV8.out HFR8.out HAT8.out x _ hown hm hat
                      go_roundw
                      case rel => exact ⟨j + 1, some ⟨g6, of6, none⟩, cap6, c9, by omega, by go_num, by rw [HS.out], by rw [HS.out]; simp, by rw [HS.out]; exact Lib.hid z1, Lib.hid z2, Lib.hid z3, Lib.hid z4⟩
                      case measure => simp [intOf]; omega
                · have hjn : j = q.length := by omega
                  obtain ⟨A', c', lg2, q2, fz, _⟩ := HQC.out wr cN HLV5.out
                  have hend2 := Fo.insA_end e q
                  have hnl2 := Fo.insA_len e q
                  rw [show q.take j = q by rw [hjn, List.take_length]] at *
                  generalize (Fo.insA e q).1 = N at hend2 hnl2 HN
                  generalize (Fo.insA e q).2 = b at hend2
                  obtain ⟨v0, v1, v2, v3⟩ := HEC.out wr HFR5.out.below
                  have HJN := Lib.hid hjn
                  clear hjn
                  cases b with
                  | true =>
                    have HE2 := Lib.hid (show N = Fo.insT e q from hend2)
                    clear hend2
                    go_wp2_with fail
                    go_roundw
                    case rel =>
                      obtain ⟨c9, z1, z2, z3⟩ := lv_store HFR5.out HAT5.out HLV5.out hp2 N HN.out
                      refine ⟨k + 1, some ⟨g1, of1, none⟩, some ⟨g2, o2, none⟩, cap1, cap2, c9, by omega, by go_num, rfl, ?_, ?_, ?_, Lib.hid z2⟩
                      · rw [HSET.out, List.length_set]
                      · rw [HATS.out]; exact Lib.hid z3
                      · rw [HSET.out, HGET.out, ← HE2.out]; exact Lib.hid z1
                    case measure => simp [intOf]; omega
                  | false =>
                    have HE2 := Lib.hid (show N ++ [e] = Fo.insT e q from hend2)
                    clear hend2
                    go_upto_region 28 with (at_builtin; refine wpList_append_row (by rfl) _ _ _ (by rfl) 51 i0 _ 4 32 Tryz.underlying55 hi0 hz0 hz1 hz2 rfl (by omega) AN N.length capN (N.flatMap encE) (by rfl) (HN.out.1.alloc _) ⟨wr.heap.size, 0, none⟩ 1 1 [.int .i64 e.t, .int .i64 e.k, .int .i64 e.o, .bool e.f] (by rfl) (by rfl) (World.news_of_block (cs := #[.int .i64 e.t, .int .i64 e.k, .int .i64 e.o, .bool e.f]) (t := 51) (fr := (0, 0)) (heap_alloc_new wr _)) (by simp [Value.oneCell']) (by omega) (by unfold maxLen; omega) (by omega) ?_; intro g6 of6 cap6 w10 hown hm hat; skip)
                    obtain ⟨c9, z1, z2, z3, z4⟩ := acc4 HN.out HLV5.out HFR5.out HAT5.out e _ hown hm hat
                    have hz : (N ++ [e]).length = N.length + 1 := by simp
                    obtain ⟨c10, x1, x2, x3⟩ := lv_store z3 z4 z2 hp2 (N ++ [e]) z1
                    rw [hz] at x1 x2 x3
                    obtain ⟨_, _, _, y1, y2, _⟩ := HQC.out w10 c9 z2
                    have HX1 := Lib.hid x1
                    have HX2 := Lib.hid x2
                    have HX3 := Lib.hid x3
                    clear z1 z2 z3 z4 x1 x2 x3 hown hm hat hz v0 v1 v2 v3
                    go_wp2_with fail
                    go_roundw
                    case rel =>
                      refine ⟨k + 1, some ⟨g1, of1, none⟩, some ⟨g2, o2, none⟩, cap1, cap2, c10, by omega, by go_num, rfl, ?_, ?_, ?_, HX2⟩
                      · rw [HSET.out, List.length_set]
                      · rw [HATS.out]; exact HX3
                      · rw [HSET.out, HGET.out, ← HE2.out]; exact HX1
                    case measure => simp [intOf]; omega
        · have hkn : k = l.length := by omega
          have hR := HLR.out (by trivial) hl2
          have HK := Lib.hid hkn
          have HR := Lib.hid hR
          clear hkn hR
          go_wp2_with fail
          go_ret
          rw [HR.out]
          have h1 := HLV.out.lv
          rw [HK.out, List.take_length] at h1
          exact ⟨AL, capL, by rw [HK.out, List.take_length]; rfl, h1, HFR.out.below⟩
    · have hl3 : (200 : Int) < (l.length : Int) := by omega
      have HN := Lib.hid hl2
      clear hl2
      go_wp2_with fail
      go_ret
      rw [HLN.out HN.out]
      exact LvOut.nil HB1.out
end Go.Proofs.YtckdofjpoajblaaGreat
namespace Go.Proofs.YtckdofjpoajblaaGreat
open Go.RowKit
set_option linter.unusedVariables false
theorem grow_any (n : Nat) (w : World) (hlim : n ≤ 1000000) :
    Calls Tryz.prog 215 #[.slice none 0 0, .int .i64 n] w fun x w' => ∃ A cap, x = .returned (.slice A 0 cap) ∧ Row w' 51 4 A 0 cap [] ∧ Below w.heap.size w w' ∧ ∀ a, A = some a → w.heap.size ≤ a.block := by
  obtain ⟨i0, hi0, hz0, hz1, hz2⟩ := info_parts Tryz.infoEv
  have k1 : ¬ ((n : Int) < 0) := by omega
  rcases Nat.eq_zero_or_pos n with h0 | h0
  · subst h0
    clear k1
    go_enter Tryz.func215, Tryz.ntmps215
    go_wp2_with fail
    go_ret
    exact ⟨none, 0, rfl, Row.nil _ _ _, Below.refl _ _, fun a h => (by cases h)⟩
  · have k2 : (0 : Int) < (n : Int) := by omega
    have happ := fun ty => Lib.run_append_nil_zeros (P := Tryz.prog) w 55 3 ty 51 i0 _ .i64 .i64 Tryz.underlying55 Tryz.underlying3 hi0 hz0 n h0 (by omega) (by omega) (by rw [hz2]; omega)
    have hcapge : n ≤ grownCap w n 0 51 := grownCap_ge w _ 0 _
    have hcaple : grownCap w n 0 51 ≤ maxLen := grownCap_le_maxLen w _ 0 _ (by unfold maxLen; omega)
    generalize grownCap w n 0 51 = cap2 at happ hcapge hcaple
    have hZs : (Builtin.zeroCells (Value.agg #[Value.int .i64 0, Value.int .i64 0, Value.int .i64 0, Value.bool false]).cells n ++ Builtin.zeroCells (Value.agg #[Value.int .i64 0, Value.int .i64 0, Value.int .i64 0, Value.bool false]).cells (cap2 - n)).size = cap2 * 4 := by
      simp [size_zeroCells, Value.cells]; omega
    generalize (Builtin.zeroCells (Value.agg #[Value.int .i64 0, Value.int .i64 0, Value.int .i64 0, Value.bool false]).cells n ++ Builtin.zeroCells (Value.agg #[Value.int .i64 0, Value.int .i64 0, Value.int .i64 0, Value.bool false]).cells (cap2 - n)) = Z at happ hZs
    go_enter Tryz.func215, Tryz.ntmps215
    go_wp2_with (at_builtin; refine Lib.wpList_append_run _ rfl _ _ _ _ rfl _ _ rfl rfl _ _ (happ _) ?_)
    go_ret
    exact ⟨some ⟨w.heap.size, 0, none⟩, cap2, rfl, ⟨rfl, Nat.zero_le _, hcaple, fun h => (by cases h), fun a ha => by injection ha with ha; subst ha; exact ⟨rfl, Z, heap_alloc_new w.drew _, by simp; omega, by simp⟩⟩, ⟨rfl, rfl, rfl, by simp, fun k hk => Below.heap_alloc w _ k hk⟩, fun a ha => by injection ha with ha; subst ha; exact Nat.le_refl _⟩
def RowOut (w : World) (l : List Ev) (x : Ending) (w' : World) : Prop := ∃ A' cap', x = .returned (.slice A' l.length cap') ∧ (Rd w' 4 A' l.length (l.flatMap encE) ∧ l.length ≤ cap' ∧ cap' ≤ maxLen) ∧ Below w.heap.size w w'
def sumN (L : List (List Ev)) (k : Nat) : Nat := (L.take k).flatten.length
theorem sumN_zero (L : List (List Ev)) : sumN L 0 = 0 := rfl
theorem sumN_succ {L : List (List Ev)} {k : Nat} (hk : k < L.length) : sumN L (k + 1) = sumN L k + L[k].length := by
  unfold sumN
  rw [List.take_add_one, List.getElem?_eq_getElem hk, List.flatten_append, List.length_append]
  simp
theorem sumN_le (L : List (List Ev)) (k : Nat) : sumN L k ≤ L.flatten.length := by
  unfold sumN
  conv => rhs; rw [← List.take_append_drop k L, List.flatten_append, List.length_append]
  omega
def rowN (L : List (List Ev)) (k : Nat) : List Ev := (L.take k).flatten
theorem rowN_succ {L : List (List Ev)} {k : Nat} (hk : k < L.length) : rowN L (k + 1) = rowN L k ++ L[k] := by
  unfold rowN
  rw [List.take_add_one, List.getElem?_eq_getElem hk, List.flatten_append]
  simp
theorem rowN_all (L : List (List Ev)) : rowN L L.length = L.flatten := by unfold rowN; rw [List.take_length]
theorem rowN_len (L : List (List Ev)) (k : Nat) : (rowN L k).length = sumN L k := rfl
theorem enc_one (l : List Ev) : ∀ u ∈ l.flatMap encE, u.oneCell' = true := fun u hu => by
  obtain ⟨e, _, he⟩ := List.mem_flatMap.1 hu
  simp only [encE, List.mem_cons, List.not_mem_nil, or_false] at he
  rcases he with rfl | rfl | rfl | rfl <;> rfl
theorem acc_rd {w wr w1 : World} {A A' : Option Addr} (hA : ∀ a, A = some a → w.heap.size ≤ a.block) (hb : Below w.heap.size w wr)
    (hm : Mod (fun k => ∃ a, A = some a ∧ k = a.block) wr w1) (hat : ∀ a', A' = some a' → (∃ a, A = some a ∧ a'.block = a.block) ∨ wr.heap.size ≤ a'.block) :
    (∀ a, A' = some a → w.heap.size ≤ a.block) ∧ Below w.heap.size w w1 := by
  have z := hb.size
  refine ⟨fun a ha => ?_, hb.trans (hm.below _ z (fun k hk ⟨a, h1, h2⟩ => by have := hA a h1; omega))⟩
  rcases hat a ha with ⟨b, h1, h2⟩ | h
  · rw [h2]; exact hA b h1
  · omega
set_option maxRecDepth 100000 in
set_option maxHeartbeats 2000000 in
theorem concat_any (w : World) (A : Option Addr) (cap : Nat) (L : List (List Ev)) (h : LvAt w w.heap.size A L) (hl : L.length ≤ 1000000) (ht : L.flatten.length ≤ 1000000) :
    Calls Tryz.prog 187 #[.slice A L.length cap] w (RowOut w L.flatten) := by
  obtain ⟨i0, hi0, hz0, hz1, hz2⟩ := info_parts Tryz.infoEv
  have HC := Lib.hid h.cell
  have hS : ∀ k, sumN L k ≤ 1000000 := fun k => Nat.le_trans (sumN_le L k) ht
  have hs0 := sumN_zero L
  have hs1 : ∀ k, (hk : k < L.length) → sumN L (k + 1) = sumN L k + L[k].length := fun k hk => sumN_succ hk
  have hr1 : ∀ k, (hk : k < L.length) → rowN L (k + 1) = rowN L k ++ L[k] := fun k hk => rowN_succ hk
  have hrl : ∀ k, (rowN L k).length = sumN L k := fun k => rowN_len L k
  have hr0 : rowN L 0 = [] := rfl
  have hra := rowN_all L
  generalize L.flatten = R at *
  generalize sumN L = S at *
  generalize rowN L = T at *
  have HS := Lib.hid hS
  have HS0 := Lib.hid hs0
  have HS1 := Lib.hid hs1
  have HR1 := Lib.hid hr1
  have HRL := Lib.hid hrl
  have HR0 := Lib.hid hr0
  have HRA := Lib.hid hra
  clear h hS hs0 hs1 hr1 hrl hr0 hra ht
  go_enter Tryz.func187, Tryz.ntmps187
  go_wp2_with fail
  go_loopw [3, 11] (fun v3 v11 wr => ∃ k : Nat, k ≤ L.length ∧ v11 = .int .i64 k ∧ v3 = .int .i64 (S k) ∧ w = wr) (fun _ v11 _ => L.length - (intOf v11).toNat)
  case atStart => exact ⟨0, Nat.zero_le _, rfl, by rw [HS0.out]; rfl, rfl⟩
  case round =>
    obtain ⟨k, hk, rfl, rfl, rfl⟩ := hrel
    by_cases hlt : k < L.length
    · obtain ⟨g, o, A', c', rfl, hg, _, hcl⟩ := HC.out k hlt
      have q0 := hcl w (Below.refl _ _)
      have k1 : (0 : Int) ≤ (k : Int) := Int.natCast_nonneg _
      have k2 : (k : Int) < (L.length : Int) := by omega
      have hs := HS1.out k hlt
      have hle := HS.out (k + 1)
      rw [hs] at hle
      generalize L[k].length = m at q0 hs hle
      generalize S k = sk at hs hle
      have k3 : ¬ ((sk : Int) + (m : Int) < 0) := by omega
      have HS2 := Lib.hid hs
      clear hcl hs
      go_wp2_with fail
      go_roundw
      case rel => exact ⟨k + 1, by omega, by go_num, by rw [HS2.out]; go_num, by trivial⟩
      case measure => simp [intOf]; omega
    · have hkn : k = L.length := by omega
      have HK := Lib.hid hkn
      have hgrow := grow_any (S k) w (HS.out k)
      generalize S k = sk at *
      have HG := Lib.hid hgrow
      clear hkn hgrow
      go_wp2_with fail
      refine HG.out.mono ?_
      rintro x w1 ⟨A6, cap6, rfl, hrow, hb, hfr⟩
      have HROW := Lib.hid hrow
      have HB := Lib.hid hb
      have HFR := Lib.hid hfr
      clear hrow hb hfr
      go_wp2_with fail
      go_loopw [6, 27] (fun v6 v27 wr => ∃ (k : Nat) (A' : Option Addr) (cap' : Nat), k ≤ L.length ∧ v27 = .int .i64 k ∧ v6 = .slice A' (T k).length cap' ∧ Hid (Row wr 51 4 A' (T k).length cap' ((T k).flatMap encE)) ∧ Hid (∀ a, A' = some a → w.heap.size ≤ a.block) ∧ Below w.heap.size w wr) (fun _ v27 _ => L.length - (intOf v27).toNat)
      case atStart => exact ⟨0, A6, cap6, Nat.zero_le _, rfl, by rw [HR0.out]; rfl, by rw [HR0.out]; exact HROW, HFR, HB.out⟩
      case round =>
        obtain ⟨k, A7, cap7, hk, rfl, rfl, HRW, HAT, hbw⟩ := hrel
        by_cases hlt : k < L.length
        · obtain ⟨g, o, A', c', rfl, hg, hrd, hcl⟩ := HC.out k hlt
          have q0 := hcl wr hbw
          have k1 : (0 : Int) ≤ (k : Int) := Int.natCast_nonneg _
          have k2 : (k : Int) < (L.length : Int) := by omega
          have hr := HR1.out k hlt
          have hle := HS.out (k + 1)
          rw [← HRL.out, hr, List.length_append] at hle
          have hrd2 : Rd wr 4 A' L[k].length (L[k].flatMap encE) := (hrd.below hbw).mono hbw.size
          generalize L[k] = q at q0 hr hle hrd2
          generalize T k = t at *
          have HR2 := Lib.hid hr
          have HRD := Lib.hid hrd2
          have HBW := Lib.hid hbw
          clear hcl hr hrd hrd2 hbw
          go_wp2_with (at_builtin; refine wpList_append_rd (by rfl) _ _ _ (by rfl) 51 i0 _ 4 32 Tryz.underlying55 hi0 hz0 hz1 hz2 rfl (by omega) A7 t.length cap7 (t.flatMap encE) (by rfl) HRW.out A' q.length c' (q.flatMap encE) (by rfl) HRD.out (enc_one q) (by unfold maxLen; omega) (by omega) ?_; intro A8 cap8 w8 hown hm hat; skip)
          obtain ⟨z1, z2⟩ := acc_rd HAT.out HBW.out hm hat
          have hz : (t ++ q).length = t.length + q.length := List.length_append
          have hown2 : Row w8 51 4 A8 (t ++ q).length cap8 ((t ++ q).flatMap encE) := by rw [hz, List.flatMap_append]; exact hown
          have HZ := Lib.hid hz
          clear hz
          go_roundw
          case rel => exact ⟨k + 1, A8, cap8, by omega, by go_num, by rw [HR2.out, HZ.out], by rw [HR2.out]; exact Lib.hid hown2, Lib.hid z1, z2⟩
          case measure => simp [intOf]; omega
        · have hkn : k = L.length := by omega
          have HK2 := Lib.hid hkn
          have HBW := Lib.hid hbw
          clear hkn hbw
          go_wp2_with fail
          go_ret
          refine ⟨A7, cap7, by rw [HK2.out, HRA.out]; rfl, ?_, HBW.out⟩
          have := (⟨HRW.out.rd, HRW.out.2.1, HRW.out.2.2.1⟩ : _ ∧ _ ∧ _)
          rw [HK2.out, HRA.out] at this
          exact this
theorem frow_any (w : World) (A : Option Addr) (cap : Nat) (L : List (List Ev)) (h : LvAt w w.heap.size A L) (hl : L.length ≤ 1000000) (ht : L.flatten.length ≤ 1000000) :
    Calls Tryz.prog 140 #[.slice A L.length cap] w (RowOut w L.flatten) := by
  have hc := concat_any w A cap L h hl ht
  generalize L.flatten = R at *
  have HC := Lib.hid hc
  clear h hc ht
  go_enter Tryz.func140, Tryz.ntmps140
  go_wp2_with fail
  refine HC.out.mono ?_
  rintro x w1 ⟨A', cap', rfl, hr, hb⟩
  have HR := Lib.hid hr
  have HB := Lib.hid hb
  clear hr hb
  go_wp2_with fail
  go_ret
  exact ⟨A', cap', rfl, HR.out, HB.out⟩
set_option maxRecDepth 100000 in
set_option maxHeartbeats 2000000 in
theorem refRow_any (w : World) (A : Option Addr) (cap : Nat) (L : List (List Ev)) (h : LvAt w w.heap.size A L) (hl : L.length ≤ 1000000) (ht : L.flatten.length ≤ 1000000) :
    Calls Tryz.prog 184 #[.slice A L.length cap] w (RowOut w L.flatten) := by
  obtain ⟨i0, hi0, hz0, hz1, hz2⟩ := info_parts Tryz.infoEv
  have HC := Lib.hid h.cell
  have hS : ∀ k, (rowN L k).length ≤ 1000000 := fun k => Nat.le_trans (sumN_le L k) ht
  have hr1 : ∀ k, (hk : k < L.length) → rowN L (k + 1) = rowN L k ++ L[k] := fun k hk => rowN_succ hk
  have hr0 : rowN L 0 = [] := rfl
  have hra := rowN_all L
  generalize L.flatten = R at *
  generalize rowN L = T at *
  have HS := Lib.hid hS
  have HR1 := Lib.hid hr1
  have HR0 := Lib.hid hr0
  have HRA := Lib.hid hra
  clear h hS hr1 hr0 hra ht
  go_enter Tryz.func184, Tryz.ntmps184
  go_wp2_with fail
  go_loopw [3, 4] (fun v6 v27 wr => ∃ (k : Nat) (A' : Option Addr) (cap' : Nat), k ≤ L.length ∧ v27 = .int .i64 k ∧ v6 = .slice A' (T k).length cap' ∧ Hid (Row wr 51 4 A' (T k).length cap' ((T k).flatMap encE)) ∧ Hid (∀ a, A' = some a → w.heap.size ≤ a.block) ∧ Below w.heap.size w wr) (fun _ v27 _ => L.length - (intOf v27).toNat)
  case atStart => exact ⟨0, none, 0, Nat.zero_le _, rfl, by rw [HR0.out]; rfl, by rw [HR0.out]; exact Lib.hid (Row.nil _ _ _), Lib.hid (fun a h => (by cases h)), Below.refl _ _⟩
  case round =>
    obtain ⟨k, A7, cap7, hk, rfl, rfl, HRW, HAT, hbw⟩ := hrel
    by_cases hlt : k < L.length
    · obtain ⟨g, o, A', c', rfl, hg, hrd, hcl⟩ := HC.out k hlt
      have q0 := hcl wr hbw
      have k1 : (0 : Int) ≤ (k : Int) := Int.natCast_nonneg _
      have k2 : (k : Int) < (L.length : Int) := by omega
      have hr := HR1.out k hlt
      have hle := HS.out (k + 1)
      rw [hr, List.length_append] at hle
      have hrd2 : Rd wr 4 A' L[k].length (L[k].flatMap encE) := (hrd.below hbw).mono hbw.size
      generalize L[k] = q at q0 hr hle hrd2
      generalize T k = t at *
      have HR2 := Lib.hid hr
      have HRD := Lib.hid hrd2
      have HBW := Lib.hid hbw
      clear hcl hr hrd hrd2 hbw
      go_wp2_with (at_builtin; refine wpList_append_rd (by rfl) _ _ _ (by rfl) 51 i0 _ 4 32 Tryz.underlying55 hi0 hz0 hz1 hz2 rfl (by omega) A7 t.length cap7 (t.flatMap encE) (by rfl) HRW.out A' q.length c' (q.flatMap encE) (by rfl) HRD.out (enc_one q) (by unfold maxLen; omega) (by omega) ?_; intro A8 cap8 w8 hown hm hat; skip)
      obtain ⟨z1, z2⟩ := acc_rd HAT.out HBW.out hm hat
      have hz : (t ++ q).length = t.length + q.length := List.length_append
      have hown2 : Row w8 51 4 A8 (t ++ q).length cap8 ((t ++ q).flatMap encE) := by rw [hz, List.flatMap_append]; exact hown
      have HZ := Lib.hid hz
      clear hz
      go_roundw
      case rel => exact ⟨k + 1, A8, cap8, by omega, by go_num, by rw [HR2.out, HZ.out], by rw [HR2.out]; exact Lib.hid hown2, Lib.hid z1, z2⟩
      case measure => simp [intOf]; omega
    · have hkn : k = L.length := by omega
      have HK2 := Lib.hid hkn
      have HBW := Lib.hid hbw
      clear hkn hbw
      go_wp2_with fail
      go_ret
      refine ⟨A7, cap7, by rw [HK2.out, HRA.out]; rfl, ?_, HBW.out⟩
      have := (⟨HRW.out.rd, HRW.out.2.1, HRW.out.2.2.1⟩ : _ ∧ _ ∧ _)
      rw [HK2.out, HRA.out] at this
      exact this
end Go.Proofs.YtckdofjpoajblaaGreat
namespace Go.Proofs.YtckdofjpoajblaaGreat
open Go.RowKit
set_option linter.unusedVariables false
set_option maxRecDepth 100000 in
set_option maxHeartbeats 1000000 in
theorem equal_any (w : World) (A : Option Addr) (cap : Nat) (a : List Ev) (B : Option Addr) (cap' : Nat) (b : List Ev) (ha : Rd w 4 A a.length (a.flatMap encE)) (hb : Rd w 4 B b.length (b.flatMap encE)) (hl : a.length < 4611686018427387904) :
    Calls Tryz.prog 142 #[.slice A a.length cap, .slice B b.length cap'] w fun x w' => x = .returned (.bool (decide (a = b))) ∧ Below w.heap.size w w' := by
  have HC := Lib.hid (evs_cell ha.toB)
  have HD := Lib.hid (evs_cell hb.toB)
  clear ha hb
  by_cases hlen : a.length = b.length
  · have hlen' : b.length = a.length := hlen.symm
    rw [hlen']
    have HL := Lib.hid hlen
    clear hlen hlen'
    go_enter Tryz.func142, Tryz.ntmps142
    go_wp2_with fail
    go_loopw [13] (fun v wr => ∃ k : Nat, k ≤ a.length ∧ v = .int .i64 k ∧ Hid (a.take k = b.take k) ∧ Below w.heap.size w wr) (fun v _ => a.length - (intOf v).toNat)
    case atStart => exact ⟨0, Nat.zero_le _, rfl, Lib.hid rfl, Below.refl _ _⟩
    case round =>
      obtain ⟨k, hk, rfl, HRT, hbw⟩ := hrel
      by_cases hlt : k < a.length
      · obtain ⟨g, o, rfl, hg, hcl⟩ := HC.out k hlt
        obtain ⟨g', o', rfl, hg', hcl'⟩ := HD.out k (by have := HL.out; omega)
        obtain ⟨v0, v1, v2, v3⟩ := hcl wr hbw
        obtain ⟨u0, u1, u2, u3⟩ := hcl' wr hbw
        have k1 : (0 : Int) ≤ (k : Int) := Int.natCast_nonneg _
        have k2 : (k : Int) < (a.length : Int) := by omega
        have heq : ∀ w, _ := evEq a[k] (b[k]'(by have := HL.out; omega))
        have htk : a.take (k + 1) = a.take k ++ [a[k]] := by rw [List.take_add_one, List.getElem?_eq_getElem hlt]; rfl
        have htk' : b.take (k + 1) = b.take k ++ [b[k]'(by have := HL.out; omega)] := by rw [List.take_add_one, List.getElem?_eq_getElem (by have := HL.out; omega)]; rfl
        have hne : a[k] ≠ b[k]'(by have := HL.out; omega) → a ≠ b := fun h e => h (by subst e; rfl)
        generalize a[k] = x at *
        generalize b[k]'(by have := HL.out; omega) = y at *
        have lg : g < wr.heap.size := by have := hbw.size; omega
        have lg' : g' < wr.heap.size := by have := hbw.size; omega
        have HTK := Lib.hid htk
        have HTK' := Lib.hid htk'
        have HNE := Lib.hid hne
        have HBW := Lib.hid hbw
        have hgd := evGuard
        clear htk htk' hne hcl hcl' hbw
        go_wp2_with fail
        refine wp_region_plan (by kernel_rfl) (fun u => Mod (fun _ => False) wr u) [] [(0, .pure), (1, .pure), (2, .pure), (3, .load), (4, .pure), (5, .pure), (6, .pure), (7, .load), (8, .pure)] (by simp only [List.map_cons, List.map_nil, List.getElem?_toArray, List.getElem?_cons_succ, List.getElem?_cons_zero]; rfl) (by kernel_rfl) (fun _ _ d _ _ h => by cases d <;> exact h) ((Mod.refl _ _).drew) ?_
        repeat (first
          | (refine plan_pure (v := ?_) (by rfl) (fun w1 => ?_) ?_
             rotate_left
             · go_simp <;> with_reducible rfl
             simp only [Act.put, List.setIfInBounds_toArray, List.set_cons_zero, List.set_cons_succ])
          | (refine plan_off (by rfl) ?_
             simp only [Act.put, List.setIfInBounds_toArray, List.set_cons_zero, List.set_cons_succ])
          | (refine plan_load_off (by rfl) ?_
             simp only [Act.put, List.setIfInBounds_toArray, List.set_cons_zero, List.set_cons_succ])
          | (refine plan_load (v := ?_) (by rfl) (fun w1 hw1 => ?_) ?_
             rotate_left
             · (have q0 := (hw1.cell g (o + k * 4) lg id).trans v0
                have q1 := (hw1.cell g (o + k * 4 + 1) lg id).trans v1
                have q2 := (hw1.cell g (o + k * 4 + 2) lg id).trans v2
                have q3 := (hw1.cell g (o + k * 4 + 3) lg id).trans v3
                have p0 := (hw1.cell g' (o' + k * 4) lg' id).trans u0
                have p1 := (hw1.cell g' (o' + k * 4 + 1) lg' id).trans u1
                have p2 := (hw1.cell g' (o' + k * 4 + 2) lg' id).trans u2
                have p3 := (hw1.cell g' (o' + k * 4 + 3) lg' id).trans u3
                clear hw1
                go_simp <;> with_reducible rfl)
             simp only [Act.put, List.setIfInBounds_toArray, List.set_cons_zero, List.set_cons_succ]))
        refine plan_end ?_
        by_cases hxy : x = y
        · have hd : decide (x = y) = true := decide_eq_true hxy
          rw [hd]
          have HXY := Lib.hid hxy
          clear hxy hd heq
          go_wp2_with fail
          go_roundw
          case rel => exact ⟨k + 1, by omega, by go_num, Lib.hid (by rw [HTK.out, HTK'.out, HRT.out, HXY.out]), HBW.out.trans ⟨rfl, rfl, rfl, Nat.le_refl _, fun _ _ => rfl⟩⟩
          case measure => simp [intOf]; omega
        · have hd : decide (x = y) = false := decide_eq_false hxy
          rw [hd]
          have HXY := Lib.hid hxy
          clear hxy hd heq
          go_wp2_with fail
          go_ret
          exact ⟨by rw [decide_eq_false (HNE.out HXY.out)]; rfl, HBW.out.trans ⟨rfl, rfl, rfl, Nat.le_refl _, fun _ _ => rfl⟩⟩
      · have hkn : k = a.length := by omega
        have HK := Lib.hid hkn
        have HBW := Lib.hid hbw
        clear hkn hbw
        go_wp2_with fail
        go_ret
        have h1 := HRT.out
        rw [HK.out, List.take_length, HL.out, List.take_length] at h1
        exact ⟨by rw [decide_eq_true h1]; rfl, HBW.out⟩
  · have hlen' : ¬ ((a.length : Int) = (b.length : Int)) := by omega
    have e1 : ((a.length : Int) == (b.length : Int)) = false := by simpa using hlen'
    have hne : a ≠ b := fun e => hlen (by rw [e])
    have HNE := Lib.hid hne
    clear hlen hlen' hne
    go_enter Tryz.func142, Tryz.ntmps142
    go_wp2_with fail
    go_ret
    exact ⟨by rw [decide_eq_false HNE.out]; rfl, Below.refl _ _⟩
set_option maxRecDepth 100000 in
set_option maxHeartbeats 2000000 in
theorem equalFunc_any (w : World) (A : Option Addr) (cap : Nat) (a : List (List Ev)) (B : Option Addr) (cap' : Nat) (b : List (List Ev)) (ha : LvAt w w.heap.size A a) (hb : LvAt w w.heap.size B b) (hl : a.length < 4611686018427387904) (hq : ∀ q ∈ a, q.length < 4611686018427387904) :
    Calls Tryz.prog 141 #[.slice A a.length cap, .slice B b.length cap', .func (.func 142) #[] #[]] w fun x w' => x = .returned (.bool (decide (a = b))) ∧ Below w.heap.size w w' := by
  have HC := Lib.hid ha.cell
  have HD := Lib.hid hb.cell
  have HQ := Lib.hid hq
  clear ha hb hq
  by_cases hlen : a.length = b.length
  · have hlen' : b.length = a.length := hlen.symm
    rw [hlen']
    have HL := Lib.hid hlen
    clear hlen hlen'
    go_enter Tryz.func141, Tryz.ntmps141
    go_wp2_with fail
    go_loopw [17] (fun v wr => ∃ k : Nat, k ≤ a.length ∧ v = .int .i64 k ∧ Hid (a.take k = b.take k) ∧ Below w.heap.size w wr) (fun v _ => a.length - (intOf v).toNat)
    case atStart => exact ⟨0, Nat.zero_le _, rfl, Lib.hid rfl, Below.refl _ _⟩
    case round =>
      obtain ⟨k, hk, rfl, HRT, hbw⟩ := hrel
      by_cases hlt : k < a.length
      · obtain ⟨g, o, P, pc, rfl, hg, hP, hcl⟩ := HC.out k hlt
        obtain ⟨g', o', Q, qc, rfl, hg', hQ, hcl'⟩ := HD.out k (by have := HL.out; omega)
        have v0 := hcl wr hbw
        have u0 := hcl' wr hbw
        have k1 : (0 : Int) ≤ (k : Int) := Int.natCast_nonneg _
        have k2 : (k : Int) < (a.length : Int) := by omega
        have htk : a.take (k + 1) = a.take k ++ [a[k]] := by rw [List.take_add_one, List.getElem?_eq_getElem hlt]; rfl
        have htk' : b.take (k + 1) = b.take k ++ [b[k]'(by have := HL.out; omega)] := by rw [List.take_add_one, List.getElem?_eq_getElem (by have := HL.out; omega)]; rfl
        have hne : a[k] ≠ b[k]'(by have := HL.out; omega) → a ≠ b := fun h e => h (by subst e; rfl)
        have hxl : a[k].length < 4611686018427387904 := HQ.out _ (List.getElem_mem hlt)
        have hcall := equal_any wr P pc a[k] Q qc (b[k]'(by have := HL.out; omega)) ((hP.below hbw).mono hbw.size) ((hQ.below hbw).mono hbw.size) hxl
        generalize a[k] = x at *
        generalize b[k]'(by have := HL.out; omega) = y at *
        have HTK := Lib.hid htk
        have HTK' := Lib.hid htk'
        have HNE := Lib.hid hne
        have HBW := Lib.hid hbw
        have HCALL := Lib.hid hcall
        clear htk htk' hne hcl hcl' hbw hP hQ hcall
        go_wp2_with fail
        refine HCALL.out.mono ?_
        rintro z w1 ⟨rfl, b1⟩
        have hb2 : Below w.heap.size w w1 := below_at HBW.out b1
        have HB2 := Lib.hid hb2
        clear b1 hb2
        by_cases hxy : x = y
        · have hd : decide (x = y) = true := decide_eq_true hxy
          rw [hd]
          have HXY := Lib.hid hxy
          clear hxy hd HCALL
          go_wp2_with fail
          go_roundw
          case rel => exact ⟨k + 1, by omega, by go_num, Lib.hid (by rw [HTK.out, HTK'.out, HRT.out, HXY.out]), HB2.out⟩
          case measure => simp [intOf]; omega
        · have hd : decide (x = y) = false := decide_eq_false hxy
          rw [hd]
          have HXY := Lib.hid hxy
          clear hxy hd HCALL
          go_wp2_with fail
          go_ret
          exact ⟨by rw [decide_eq_false (HNE.out HXY.out)]; rfl, HB2.out⟩
      · have hkn : k = a.length := by omega
        have HK := Lib.hid hkn
        have HBW := Lib.hid hbw
        clear hkn hbw
        go_wp2_with fail
        go_ret
        have h1 := HRT.out
        rw [HK.out, List.take_length, HL.out, List.take_length] at h1
        exact ⟨by rw [decide_eq_true h1]; rfl, HBW.out⟩
  · have hlen' : ¬ ((a.length : Int) = (b.length : Int)) := by omega
    have e1 : ((a.length : Int) == (b.length : Int)) = false := by simpa using hlen'
    have hne : a ≠ b := fun e => hlen (by rw [e])
    have HNE := Lib.hid hne
    clear hlen hlen' hne
    go_enter Tryz.func141, Tryz.ntmps141
    go_wp2_with fail
    go_ret
    exact ⟨by rw [decide_eq_false HNE.out]; rfl, Below.refl _ _⟩
end Go.Proofs.YtckdofjpoajblaaGreat
namespace Go.Proofs
open Go.Shelf
def Tryz.lays169_ren : Go.Shelf.Ren := ⟨fun | 169 => 146 | n => n, fun | 70 => 218 | 9 => 9 | 0 => 0 | 72 => 220 | 37 => 43 | 127 => 261 | 3 => 3 | 5 => 5 | n => n, fun | n => n⟩
theorem Tryz.lays169 : Go.Proofs.Lays.n169 Tryz.prog Tryz.lays169_ren := {
  mixed := by kernel_rfl
  f169 := Tryz.func146.trans (congrArg some (by kernel_rfl))
  t0 := Tryz.underlying0
  a0 := Tryz.isAgg0
  z0 := Tryz.sizeOf0
  v0 := Tryz.zeroValue0
  t3 := Tryz.underlying3
  a3 := Tryz.isAgg3
  z3 := Tryz.sizeOf3
  v3 := Tryz.zeroValue3
  t9 := Tryz.underlying9
  a9 := Tryz.isAgg9
  z9 := Tryz.sizeOf9
  v9 := Tryz.zeroValue9
  t37 := Tryz.underlying43
  a37 := Tryz.isAgg43
  z37 := Tryz.sizeOf43
  v37 := Tryz.zeroValue43
  t70 := Tryz.underlying218
  a70 := Tryz.isAgg218
  z70 := Tryz.sizeOf218
  v70 := Tryz.zeroValue218
  t72 := Tryz.underlying220
  a72 := Tryz.isAgg220
  z72 := Tryz.sizeOf220
  v72 := Tryz.zeroValue220
  t127 := Tryz.underlying261
  a127 := Tryz.isAgg261
  z127 := Tryz.sizeOf261
  v127 := Tryz.zeroValue261 }
theorem Tryz.Builder_Extra_169 : Builder.Extra Tryz.prog Tryz.lays169_ren := {
  sizeBuilder := by kernel_rfl
  liesBuilder := by kernel_rfl
  t5 := Tryz.underlying5
  a5 := Tryz.isAgg5
  z5 := Tryz.sizeOf5
  v5 := Tryz.zeroValue5
  infoByte := by kernel_rfl
  cellsByte := by kernel_rfl
  sizeByte := by kernel_rfl
  neB5 := by decide }
open Go.RowKit in
/-- (*strings.Builder).String: "String returns the accumulated string.": WHATEVER THE BUILDER HOLDS. (LAID: no walk: one application.) -/
theorem Tryz.Builder_String_any (B b : Nat) (l : List UInt8) (w : World) (h : Lib.IsBuilder 220 5 B b (Lib.byteCells l) w) (hBw : B ≤ w.heap.size) :
    Calls Tryz.prog 146 #[.pointer (some ⟨b, 0, none⟩)] w fun e w' => e = .returned (.string ⟨l.toArray⟩) ∧ Below B w w' := Any.Builder_String_any Tryz.lays169 Tryz.Builder_Extra_169 B b l w h hBw
def Tryz.lays125_ren : Go.Shelf.Ren := ⟨fun | 125 => 130 | 128 => 178 | 129 => 179 | n => n, fun | 46 => 45 | 3 => 3 | 51 => 250 | 53 => 252 | 4 => 4 | 5 => 5 | 9 => 9 | n => n, fun | n => n⟩
theorem Tryz.lays125 : Go.Proofs.Lays.n125 Tryz.prog Tryz.lays125_ren := {
  mixed := by kernel_rfl
  f125 := Tryz.func130.trans (congrArg some (by kernel_rfl))
  f128 := Tryz.func178.trans (congrArg some (by kernel_rfl))
  f129 := Tryz.func179.trans (congrArg some (by kernel_rfl))
  t3 := Tryz.underlying3
  a3 := Tryz.isAgg3
  z3 := Tryz.sizeOf3
  v3 := Tryz.zeroValue3
  t4 := Tryz.underlying4
  a4 := Tryz.isAgg4
  z4 := Tryz.sizeOf4
  v4 := Tryz.zeroValue4
  t5 := Tryz.underlying5
  a5 := Tryz.isAgg5
  z5 := Tryz.sizeOf5
  v5 := Tryz.zeroValue5
  t9 := Tryz.underlying9
  a9 := Tryz.isAgg9
  z9 := Tryz.sizeOf9
  v9 := Tryz.zeroValue9
  t46 := Tryz.underlying45
  a46 := Tryz.isAgg45
  z46 := Tryz.sizeOf45
  v46 := Tryz.zeroValue45
  t51 := Tryz.underlying250
  a51 := Tryz.isAgg250
  z51 := Tryz.sizeOf250
  v51 := Tryz.zeroValue250
  t53 := Tryz.underlying252
  a53 := Tryz.isAgg252
  z53 := Tryz.sizeOf252
  v53 := Tryz.zeroValue252 }
theorem Tryz.bits_Len (x : Int) (w : World) (h0 : 0 ≤ x) (h1 : x ≤ 18446744073709551615) :
    Calls Tryz.prog 130 #[.int .u64 x] w fun e w' => e = .returned (.int .i64 (Lib.bitLen x.toNat)) ∧ w' = w := Any.bits_Len Tryz.lays125 x w h0 h1
def Tryz.lays122_ren : Go.Shelf.Ren := ⟨fun | 122 => 63 | 215 => 103 | n => n, fun | 3 => 3 | 4 => 4 | n => n, fun | n => n⟩
theorem Tryz.lays122 : Go.Proofs.Lays.n122 Tryz.prog Tryz.lays122_ren := {
  mixed := by kernel_rfl
  f122 := Tryz.func63.trans (congrArg some (by kernel_rfl))
  f215 := Tryz.func103.trans (congrArg some (by kernel_rfl))
  t3 := Tryz.underlying3
  a3 := Tryz.isAgg3
  z3 := Tryz.sizeOf3
  v3 := Tryz.zeroValue3
  t4 := Tryz.underlying4
  a4 := Tryz.isAgg4
  z4 := Tryz.sizeOf4
  v4 := Tryz.zeroValue4 }
open Go.RowKit in
/-- cmp.Compare at int: "Compare returns -1 if x is less than y, 0 if x equals y, +1 if x is greater than y.": IT RETURNS 'Lib.compareInt x y'; the world is as it was. (LAID: no walk: one application.) -/
theorem Tryz.cmp_Compare_int (x y : Int) (w : World) :
    Calls Tryz.prog 63 #[.int .i64 x, .int .i64 y] w fun e w' => e = .returned (.int .i64 (Lib.compareInt x y)) ∧ w' = w := Any.cmp_Compare_int Tryz.lays122 x y w
def Tryz.lays190_ren : Go.Shelf.Ren := ⟨fun | 190 => 74 | 125 => 130 | 258 => 129 | 128 => 178 | 129 => 179 | 302 => 169 | 303 => 170 | 304 => 171 | 305 => 172 | 306 => 173 | 307 => 174 | 308 => 175 | 309 => 176 | 310 => 177 | 333 => 207 | 329 => 208 | 330 => 209 | 334 => 210 | 335 => 211 | 336 => 212 | 344 => 231 | n => n, fun | 31 => 27 | 9 => 9 | 3 => 3 | 46 => 45 | 0 => 0 | 51 => 250 | 53 => 252 | 4 => 4 | 183 => 242 | 182 => 241 | 131 => 247 | 5 => 5 | 218 => 273 | 222 => 277 | 228 => 296 | 229 => 297 | n => n, fun | n => n⟩
theorem Tryz.lays190 : Go.Proofs.Lays.n190 Tryz.prog Tryz.lays190_ren := {
  mixed := by kernel_rfl
  f125 := Tryz.func130.trans (congrArg some (by kernel_rfl))
  f128 := Tryz.func178.trans (congrArg some (by kernel_rfl))
  f129 := Tryz.func179.trans (congrArg some (by kernel_rfl))
  f190 := Tryz.func74.trans (congrArg some (by kernel_rfl))
  f258 := Tryz.func129.trans (congrArg some (by kernel_rfl))
  f302 := Tryz.func169.trans (congrArg some (by kernel_rfl))
  f303 := Tryz.func170.trans (congrArg some (by kernel_rfl))
  f304 := Tryz.func171.trans (congrArg some (by kernel_rfl))
  f305 := Tryz.func172.trans (congrArg some (by kernel_rfl))
  f306 := Tryz.func173.trans (congrArg some (by kernel_rfl))
  f307 := Tryz.func174.trans (congrArg some (by kernel_rfl))
  f308 := Tryz.func175.trans (congrArg some (by kernel_rfl))
  f309 := Tryz.func176.trans (congrArg some (by kernel_rfl))
  f310 := Tryz.func177.trans (congrArg some (by kernel_rfl))
  f329 := Tryz.func208.trans (congrArg some (by kernel_rfl))
  f330 := Tryz.func209.trans (congrArg some (by kernel_rfl))
  f333 := Tryz.func207.trans (congrArg some (by kernel_rfl))
  f334 := Tryz.func210.trans (congrArg some (by kernel_rfl))
  f335 := Tryz.func211.trans (congrArg some (by kernel_rfl))
  f336 := Tryz.func212.trans (congrArg some (by kernel_rfl))
  f344 := Tryz.func231.trans (congrArg some (by kernel_rfl))
  t0 := Tryz.underlying0
  a0 := Tryz.isAgg0
  z0 := Tryz.sizeOf0
  v0 := Tryz.zeroValue0
  t3 := Tryz.underlying3
  a3 := Tryz.isAgg3
  z3 := Tryz.sizeOf3
  v3 := Tryz.zeroValue3
  t4 := Tryz.underlying4
  a4 := Tryz.isAgg4
  z4 := Tryz.sizeOf4
  v4 := Tryz.zeroValue4
  t5 := Tryz.underlying5
  a5 := Tryz.isAgg5
  z5 := Tryz.sizeOf5
  v5 := Tryz.zeroValue5
  t9 := Tryz.underlying9
  a9 := Tryz.isAgg9
  z9 := Tryz.sizeOf9
  v9 := Tryz.zeroValue9
  t31 := Tryz.underlying27
  a31 := Tryz.isAgg27
  z31 := Tryz.sizeOf27
  v31 := Tryz.zeroValue27
  t46 := Tryz.underlying45
  a46 := Tryz.isAgg45
  z46 := Tryz.sizeOf45
  v46 := Tryz.zeroValue45
  t51 := Tryz.underlying250
  a51 := Tryz.isAgg250
  z51 := Tryz.sizeOf250
  v51 := Tryz.zeroValue250
  t53 := Tryz.underlying252
  a53 := Tryz.isAgg252
  z53 := Tryz.sizeOf252
  v53 := Tryz.zeroValue252
  t131 := Tryz.underlying247
  a131 := Tryz.isAgg247
  z131 := Tryz.sizeOf247
  v131 := Tryz.zeroValue247
  t182 := Tryz.underlying241
  a182 := Tryz.isAgg241
  z182 := Tryz.sizeOf241
  v182 := Tryz.zeroValue241
  t183 := Tryz.underlying242
  a183 := Tryz.isAgg242
  z183 := Tryz.sizeOf242
  v183 := Tryz.zeroValue242
  t218 := Tryz.underlying273
  a218 := Tryz.isAgg273
  z218 := Tryz.sizeOf273
  v218 := Tryz.zeroValue273
  t222 := Tryz.underlying277
  a222 := Tryz.isAgg277
  z222 := Tryz.sizeOf277
  v222 := Tryz.zeroValue277
  t228 := Tryz.underlying296
  a228 := Tryz.isAgg296
  z228 := Tryz.sizeOf296
  v228 := Tryz.zeroValue296
  t229 := Tryz.underlying297
  a229 := Tryz.isAgg297
  z229 := Tryz.sizeOf297
  v229 := Tryz.zeroValue297 }
open Go.Sort Go.RowKit in
theorem Tryz.slices_Sort_string (blk off cap : Nat) (ss : List (List UInt8)) (w : World) (hH : Holds encStr w blk off ss.toArray) (hblk : blk < w.heap.size) (hsz : ss.length < 4611686018427387904) :
    Calls Tryz.prog 74 #[.slice (some ⟨blk, off, none⟩) ss.length cap] w fun e w' =>
      e = .returned (.tuple #[]) ∧ ∃ n os, w' = grow (putRow encStr (Sort.ahead w n) blk off (ss.mergeSort fun x y => decide (x ≤ y)).toArray) os := Any.slices_Sort_string Tryz.lays190 blk off cap ss w hH hblk hsz
def Tryz.lays194_ren : Go.Shelf.Ren := ⟨fun | 194 => 75 | n => n, fun | 31 => 27 | 9 => 9 | 3 => 3 | 4 => 4 | 0 => 0 | n => n, fun | n => n⟩
theorem Tryz.lays194 : Go.Proofs.Lays.n194 Tryz.prog Tryz.lays194_ren := {
  mixed := by kernel_rfl
  f194 := Tryz.func75.trans (congrArg some (by kernel_rfl))
  t0 := Tryz.underlying0
  a0 := Tryz.isAgg0
  z0 := Tryz.sizeOf0
  v0 := Tryz.zeroValue0
  t3 := Tryz.underlying3
  a3 := Tryz.isAgg3
  z3 := Tryz.sizeOf3
  v3 := Tryz.zeroValue3
  t4 := Tryz.underlying4
  a4 := Tryz.isAgg4
  z4 := Tryz.sizeOf4
  v4 := Tryz.zeroValue4
  t9 := Tryz.underlying9
  a9 := Tryz.isAgg9
  z9 := Tryz.sizeOf9
  v9 := Tryz.zeroValue9
  t31 := Tryz.underlying27
  a31 := Tryz.isAgg27
  z31 := Tryz.sizeOf27
  v31 := Tryz.zeroValue27 }
open Go.RowKit Go.Lib Go.Sort in
/-- slices.Compact at []string: "Compact replaces consecutive runs of equal elements with a single copy. This is like the uniq command found on Unix. Compact modifies the contents of the slice s and returns the modified slice, which may have a smaller length. Compact zeroes the elements between the new length and the original length. The result preserves the nilness of s.": IT RETURNS THE SLICE CUT TO 'Lib.compact zs'; ITS CELLS HOLD 'Lib.compact zs', THEN ZERO VALUES up to the old length; all else is as it was, but for the count of draws. IN THE WORDS OF slices.Sort's CONTRACT ('Holds', 'putRow'): so the everyday 'slices.Sort(xs); xs = slices.Compact(xs)' goes from the one contract to the other. It asks 'zs.length ≤ cap' (every slice's: the reslicing 's[:k]' looks at it). Length 0, nil: '.._empty'. (LAID: no walk: one application.) -/
theorem Tryz.slices_Compact_string (blk off cap : Nat) (zs : List (List UInt8)) (w : World) (hH : Holds encStr w blk off zs.toArray) (hsz : zs.length ≤ 9223372036854775807) (hcap : zs.length ≤ cap) :
    Calls Tryz.prog 75 #[.slice (some ⟨blk, off, none⟩) zs.length cap] w fun e w' => e = .returned (.slice (some ⟨blk, off, none⟩) (Lib.compact zs).length cap) ∧ ∃ q, w' = putRow encStr (Sort.ahead w q) blk off (Lib.compact zs ++ List.replicate (zs.length - (Lib.compact zs).length) []).toArray := Any.slices_Compact_string Tryz.lays194 blk off cap zs w hH hsz hcap
open Go.RowKit Go.Lib Go.Sort in
/-- The same at a slice of length 0, a nil one too: it comes back as it is. (LAID: no walk: one application.) -/
theorem Tryz.slices_Compact_string_empty (a : Option Addr) (cap : Nat) (w : World) :
    Calls Tryz.prog 75 #[.slice a 0 cap] w fun e w' => e = .returned (.slice a 0 cap) ∧ w' = w := Any.slices_Compact_string_empty Tryz.lays194 a cap w
open Go.RowKit Go.Sort in
/-- .. and plain. (LAID: no walk: one application.) -/
theorem Tryz.slices_Sort_string_none (p : Option Addr) (cap : Nat) (w : World) :
    Calls Tryz.prog 74 #[.slice p 0 cap] w fun e w' => e = .returned (.tuple #[]) ∧ w' = w := Any.slices_Sort_string_none Tryz.lays190 p cap w
def Tryz.laysSlF06_f89_ren : Go.Shelf.Ren := ⟨fun | 6 => 89 | 15 => 130 | 14 => 153 | 28 => 178 | 29 => 179 | 20 => 190 | 21 => 191 | 22 => 192 | 23 => 193 | 24 => 194 | 25 => 195 | 26 => 196 | 27 => 197 | 46 => 225 | 47 => 208 | 48 => 209 | 49 => 226 | 50 => 227 | 57 => 235 | n => n, fun | 22 => 86 | 24 => 70 | 25 => 166 | 3 => 3 | 39 => 45 | 0 => 0 | 53 => 250 | 55 => 252 | 4 => 4 | 46 => 242 | 45 => 241 | 50 => 247 | 5 => 5 | 9 => 9 | 66 => 273 | 70 => 277 | 76 => 296 | 77 => 297 | n => n, fun | n => n⟩
theorem Tryz.laysSlF06_f89 : Go.Proofs.SlLaysF0.n6 Tryz.prog Tryz.laysSlF06_f89_ren := {
  mixed := by kernel_rfl
  f6 := ⟨Tryz.f89.name, by decide, Tryz.func89.trans (congrArg some (by kernel_rfl))⟩
  f14 := ⟨Tryz.f153.name, by decide, Tryz.func153.trans (congrArg some (by kernel_rfl))⟩
  f15 := Tryz.func130.trans (congrArg some (by kernel_rfl))
  f20 := ⟨Tryz.f190.name, by decide, Tryz.func190.trans (congrArg some (by kernel_rfl))⟩
  f21 := ⟨Tryz.f191.name, by decide, Tryz.func191.trans (congrArg some (by kernel_rfl))⟩
  f22 := ⟨Tryz.f192.name, by decide, Tryz.func192.trans (congrArg some (by kernel_rfl))⟩
  f23 := ⟨Tryz.f193.name, by decide, Tryz.func193.trans (congrArg some (by kernel_rfl))⟩
  f24 := ⟨Tryz.f194.name, by decide, Tryz.func194.trans (congrArg some (by kernel_rfl))⟩
  f25 := ⟨Tryz.f195.name, by decide, Tryz.func195.trans (congrArg some (by kernel_rfl))⟩
  f26 := ⟨Tryz.f196.name, by decide, Tryz.func196.trans (congrArg some (by kernel_rfl))⟩
  f27 := ⟨Tryz.f197.name, by decide, Tryz.func197.trans (congrArg some (by kernel_rfl))⟩
  f28 := Tryz.func178.trans (congrArg some (by kernel_rfl))
  f29 := Tryz.func179.trans (congrArg some (by kernel_rfl))
  f46 := ⟨Tryz.f225.name, by decide, Tryz.func225.trans (congrArg some (by kernel_rfl))⟩
  f47 := Tryz.func208.trans (congrArg some (by kernel_rfl))
  f48 := Tryz.func209.trans (congrArg some (by kernel_rfl))
  f49 := ⟨Tryz.f226.name, by decide, Tryz.func226.trans (congrArg some (by kernel_rfl))⟩
  f50 := ⟨Tryz.f227.name, by decide, Tryz.func227.trans (congrArg some (by kernel_rfl))⟩
  f57 := ⟨Tryz.f235.name, by decide, Tryz.func235.trans (congrArg some (by kernel_rfl))⟩
  t0 := Tryz.underlying0
  a0 := Tryz.isAgg0
  z0 := Tryz.sizeOf0
  v0 := Tryz.zeroValue0
  t3 := Tryz.underlying3
  a3 := Tryz.isAgg3
  z3 := Tryz.sizeOf3
  v3 := Tryz.zeroValue3
  t4 := Tryz.underlying4
  a4 := Tryz.isAgg4
  z4 := Tryz.sizeOf4
  v4 := Tryz.zeroValue4
  t5 := Tryz.underlying5
  a5 := Tryz.isAgg5
  z5 := Tryz.sizeOf5
  v5 := Tryz.zeroValue5
  t9 := Tryz.underlying9
  a9 := Tryz.isAgg9
  z9 := Tryz.sizeOf9
  v9 := Tryz.zeroValue9
  t22 := Tryz.underlying86
  a22 := Tryz.isAgg86
  z22 := Tryz.sizeOf86
  v22 := Tryz.zeroValue86
  t25 := Tryz.underlying166
  a25 := Tryz.isAgg166
  z25 := Tryz.sizeOf166
  v25 := Tryz.zeroValue166
  t39 := Tryz.underlying45
  a39 := Tryz.isAgg45
  z39 := Tryz.sizeOf45
  v39 := Tryz.zeroValue45
  t45 := Tryz.underlying241
  a45 := Tryz.isAgg241
  z45 := Tryz.sizeOf241
  v45 := Tryz.zeroValue241
  t46 := Tryz.underlying242
  a46 := Tryz.isAgg242
  z46 := Tryz.sizeOf242
  v46 := Tryz.zeroValue242
  t50 := Tryz.underlying247
  a50 := Tryz.isAgg247
  z50 := Tryz.sizeOf247
  v50 := Tryz.zeroValue247
  t53 := Tryz.underlying250
  a53 := Tryz.isAgg250
  z53 := Tryz.sizeOf250
  v53 := Tryz.zeroValue250
  t55 := Tryz.underlying252
  a55 := Tryz.isAgg252
  z55 := Tryz.sizeOf252
  v55 := Tryz.zeroValue252
  t66 := Tryz.underlying273
  a66 := Tryz.isAgg273
  z66 := Tryz.sizeOf273
  v66 := Tryz.zeroValue273
  t70 := Tryz.underlying277
  a70 := Tryz.isAgg277
  z70 := Tryz.sizeOf277
  v70 := Tryz.zeroValue277
  t76 := Tryz.underlying296
  a76 := Tryz.isAgg296
  z76 := Tryz.sizeOf296
  v76 := Tryz.zeroValue296
  t77 := Tryz.underlying297
  a77 := Tryz.isAgg297
  z77 := Tryz.sizeOf297
  v77 := Tryz.zeroValue297 }
open Go.RowKit Go.Lib Go.Sort in
/-- THE SAME IN THE DOCUMENTATION's OWN TERMS: where 'cmp(a, b) < 0' is a strict weak order the row holds a permutation of what it held, sorted by it. (LAID AT THE INSTANCE 'slices.SortFunc[[][4]int64,[4]int64]': no walk: one application.) -/
theorem Tryz.slices_SortFunc_small_sorted {α : Type} [Inhabited α] (k : Nat) (aE : ∀ w, (isAgg 70).run Tryz.prog w = .ok true w) (zE : ∀ w, (Go.sizeOf 70).run Tryz.prog w = .ok k w) (enc : α → List Value) (hk : ∀ x, (enc x).length = k) (h1 : ∀ x, ∀ v ∈ enc x, v.oneCell' = true) (cf : α → α → Int) (g : Nat) (cb : Array Value) (hS : SWO (ltOf cf)) (blk off cap : Nat) (d : Array α) (w : World) (eg : ∀ args w, (callFunc g args).run Tryz.prog w = .ok (.enter g args) w) (hcmp : CmpLays Tryz.prog g cb enc k cf blk off d.size w) (hH : HoldsK enc k w blk off d) (hblk : blk < w.heap.size) (h12 : d.size ≤ 12) (hlen : ∀ (n : Nat) (W : World), n ≤ 12 → Calls Tryz.prog 130 #[.int .u64 n] W fun e w' => (∃ l : Int, e = .returned (.int .i64 l)) ∧ w' = W) :
    Calls Tryz.prog 89 #[.slice (some ⟨blk, off, none⟩) d.size cap, .func (.func g) #[] cb] w fun e w' => e = .returned (.tuple #[]) ∧ ∃ d' n os, PermIn 0 d.size d d' ∧ SortedIn (ltOf cf) 0 d.size d' ∧ w' = sortWorldK enc k w blk off n d' os := AnyQ.slices_SortFunc_small_sorted Tryz.laysSlF06_f89 k aE zE enc hk h1 cf g cb hS blk off cap d w eg hcmp hH hblk h12 hlen
end Go.Proofs
namespace Go.Proofs.YtckdofjpoajblaaGreat
open Go.RowKit
set_option linter.unusedVariables false
theorem Tryz.sizeBld : (Tryz.prog.info? 220).map (·.size) = some 2 := by kernel_rfl
theorem Tryz.liesBld : liesAt Tryz.prog Tryz.prog.depth 220 (2 / Tryz.prog.cellsOf 220) 0 220 1 = true := by kernel_rfl
theorem Tryz.infoByte5 : (Tryz.prog.info? 5).map (fun i => (i.zero, i.size, i.bytes)) = some (some (.int .u8 0), 1, 1) := by kernel_rfl
abbrev Bld (B b : Nat) (bs : List Value) (w : World) : Prop := Lib.IsBuilder 220 5 B b bs w
set_option maxRecDepth 100000 in
set_option maxHeartbeats 1000000 in
theorem bld_used (b : Nat) (w : World) (h0 : w.cell? ⟨b, 0, none⟩ = some (.pointer (some ⟨b, 0, none⟩))) :
    Calls Tryz.prog 188 #[.pointer (some ⟨b, 0, none⟩)] w fun e w' => e = .returned (.tuple #[]) ∧ w' = w := by
  obtain ⟨j, hj, _⟩ := Option.map_eq_some_iff.1 Tryz.sizeBld
  go_enter Tryz.func188, Tryz.ntmps188
  go_wp2_with fail
  rw [Lib.run_neq_ptr_same w _ Tryz.underlying218 hj]
  go_wp2_with fail
  go_end0
  exact ⟨rfl, rfl⟩
set_option maxRecDepth 100000 in
set_option maxHeartbeats 1000000 in
theorem bld_fresh (b : Nat) (w : World) (h0 : w.cell? ⟨b, 0, none⟩ = some (.pointer none)) (hsh : w.shape? b = some (220, 2)) (hfz : w.frozen? ⟨b, 0, none⟩ = false) :
    Calls Tryz.prog 188 #[.pointer (some ⟨b, 0, none⟩)] w fun e w' => e = .returned (.tuple #[]) ∧ w' = w.setCell ⟨b, 0, none⟩ (.pointer (some ⟨b, 0, none⟩)) := by
  obtain ⟨j, hj, hjs⟩ := Option.map_eq_some_iff.1 Tryz.sizeBld
  go_enter Tryz.func188, Tryz.ntmps188
  go_wp2_with fail
  rw [Lib.run_to_unsafe w ⟨b, 0, none⟩ Tryz.underlying218 Tryz.underlying284 hj (by rw [hjs]; decide) hsh (Nat.zero_lt_succ 1)]
  simp only [Result.andThen]
  rw [Oper.upon_value]
  go_wp2_with fail
  rw [run_callFunc_extern Tryz.func216 (by kernel_rfl) (by kernel_rfl) (by kernel_rfl) (e := Extern.AbiNoEscape.same) (by kernel_rfl)]
  rw [Lib.run_noEscape]
  simp only [Result.andThen]
  rw [Oper.upon_value]
  go_wp2_with fail
  rw [Lib.run_from_unsafe w ⟨b, 0, none⟩ Tryz.underlying284 Tryz.underlying218 hj hsh Tryz.liesBld]
  simp only [Result.andThen]
  rw [Oper.upon_value]
  go_wp2_with fail
  go_end0
  exact ⟨rfl, rfl⟩
theorem bld_check (B b : Nat) (bs : List Value) (w : World) (h : Bld B b bs w) :
    Calls Tryz.prog 188 #[.pointer (some ⟨b, 0, none⟩)] w fun e w' => e = .returned (.tuple #[]) ∧ Lib.BuilderAt 220 5 B b (.pointer (some ⟨b, 0, none⟩)) bs w' ∧ Below B w w' := by
  rcases h with h | h
  · refine (bld_fresh b w h.cell0 h.shape h.frozen0).mono ?_
    rintro e w' ⟨rfl, rfl⟩
    exact ⟨rfl, h.used _, (Below.refl B w).setCell (p := ⟨b, 0, none⟩) h.1 _⟩
  · refine (bld_used b w h.cell0).mono ?_
    rintro e w' ⟨rfl, rfl⟩
    exact ⟨rfl, h, Below.refl B _⟩
set_option maxHeartbeats 2000000 in
set_option maxRecDepth 100000 in
theorem bld_byte (B b : Nat) (bs : List Value) (c : Int) (w : World) (h : Bld B b bs w) (hlen : bs.length + 1 ≤ 140737488355328) (hBw : B ≤ w.heap.size) :
    Calls Tryz.prog 143 #[.pointer (some ⟨b, 0, none⟩), .int .u8 c] w fun e w' => e = .returned .nilIface ∧ Bld B b (bs ++ [.int .u8 c]) w' ∧ Below B w w' := by
  obtain ⟨i0, hi, hz0, hz1, hz2⟩ := info_parts Tryz.infoByte5
  have HCK := Lib.hid (bld_check B b bs w h)
  clear h
  go_enter Tryz.func143, Tryz.ntmps143
  go_wp2_with fail
  refine HCK.out.mono ?_
  rintro e w1 ⟨rfl, h1, hb1⟩
  obtain ⟨hB, v, hbk, hown, hne⟩ := h1
  have c0 : w1.cell? ⟨b, 0, none⟩ = some (.pointer (some ⟨b, 0, none⟩)) := by rw [Lib.cell_of_heap hbk]; rfl
  have c1 : w1.cell? ⟨b, 1, none⟩ = some v := by rw [Lib.cell_of_heap hbk]; rfl
  go_wp2_with (at_builtin; refine wpList_append_own _ rfl _ _ 43 rfl B 5 i0 (.int .u8 0) 1 1 Tryz.underlying43 hi hz0 hz1 hz2 rfl (by decide) _ _ _ rfl (hown.alloc _) ⟨w1.heap.size, 0, none⟩ 1 1 [.int .u8 c] rfl rfl ?c1 ?c2 ?c3 ?c4 ?c5 ?_)
  case c1 =>
    intro j u hj
    match j, hj with
    | 0, hj => simp at hj; subst hj; simp [Addr.add]
  case c2 => intro u hu; simp at hu; subst hu; rfl
  case c3 => unfold maxLen; omega
  case c4 => omega
  case c5 => have := hb1.size; simp; omega
  intro v' w2 hown' hgrow _
  have hlt : b < w1.heap.size := blk_lt hbk
  have hb2 : w2.heap[b]? = some (.cells #[.pointer (some ⟨b, 0, none⟩), v] 220 (0, 0)) := by
    rw [hgrow.block b (by simp; omega) (fun e => hne e.symm), heap_alloc_old w1 _ hlt]
    exact hbk
  have d0 : w2.cell? ⟨b, 0, none⟩ = some (.pointer (some ⟨b, 0, none⟩)) := by rw [Lib.cell_of_heap hb2]; rfl
  have d1 : w2.cell? ⟨b, 1, none⟩ = some v := by rw [Lib.cell_of_heap hb2]; rfl
  have f1 : w2.frozen? ⟨b, 1, none⟩ = false := Lib.frozen_of_heap hb2 1
  obtain ⟨g, cap, rfl⟩ : ∃ g cap, v' = .slice (some ⟨g, 0, none⟩) (bs.length + 1) cap := by
    rcases hown'.2 with ⟨_, h0⟩ | ⟨g, cap, cur, hv, _⟩
    · omega
    · exact ⟨g, cap, hv⟩
  go_wp2_with fail
  go_ret
  refine ⟨rfl, .inr ?_, ?_⟩
  · exact Lib.BuilderAt.put (T := 220) (e := 5) hB hb2 (bs' := bs ++ [.int .u8 c]) (by simpa using hown') (by decide)
  · exact ((hb1.alloc (by have := hb1.size; omega) _).grown hgrow (by have := hb1.size; simp; omega) (fun k hk => (hown.lt k hk).1)).setCell (p := ⟨b, 1, none⟩) hB _
set_option maxHeartbeats 2000000 in
set_option maxRecDepth 100000 in
theorem bld_str (B b : Nat) (bs : List Value) (s : ByteArray) (w : World) (h : Bld B b bs w) (hlen : bs.length + s.size ≤ 140737488355328) (hBw : B ≤ w.heap.size) :
    Calls Tryz.prog 144 #[.pointer (some ⟨b, 0, none⟩), .string s] w fun e w' => e = .returned (.tuple #[.int .i64 s.size, .nilIface]) ∧ Bld B b (bs ++ Lib.strCells s) w' ∧ Below B w w' := by
  obtain ⟨i0, hi, hz0, hz1, hz2⟩ := info_parts Tryz.infoByte5
  have HCK := Lib.hid (bld_check B b bs w h)
  clear h
  go_enter Tryz.func144, Tryz.ntmps144
  go_wp2_with fail
  refine HCK.out.mono ?_
  rintro e w1 ⟨rfl, h1, hb1⟩
  obtain ⟨hB, v, hbk, hown, hne⟩ := h1
  have c0 : w1.cell? ⟨b, 0, none⟩ = some (.pointer (some ⟨b, 0, none⟩)) := by rw [Lib.cell_of_heap hbk]; rfl
  have c1 : w1.cell? ⟨b, 1, none⟩ = some v := by rw [Lib.cell_of_heap hbk]; rfl
  go_wp2_with (at_builtin; refine Lib.wpList_append_own_string _ rfl _ _ 43 9 rfl B 5 i0 Tryz.underlying43 Tryz.underlying9 hi hz0 hz1 hz2 _ _ _ rfl hown s rfl ?c3 ?c4 ?c5 ?_)
  case c3 => unfold maxLen; omega
  case c4 => omega
  case c5 => have := hb1.size; omega
  intro v' w2 hown' hgrow _
  have hlt : b < w1.heap.size := blk_lt hbk
  have hb2 : w2.heap[b]? = some (.cells #[.pointer (some ⟨b, 0, none⟩), v] 220 (0, 0)) := by
    rw [hgrow.block b hlt (fun e => hne e.symm)]
    exact hbk
  have d0 : w2.cell? ⟨b, 0, none⟩ = some (.pointer (some ⟨b, 0, none⟩)) := by rw [Lib.cell_of_heap hb2]; rfl
  have d1 : w2.cell? ⟨b, 1, none⟩ = some v := by rw [Lib.cell_of_heap hb2]; rfl
  have f1 : w2.frozen? ⟨b, 1, none⟩ = false := Lib.frozen_of_heap hb2 1
  obtain ⟨ao, n', cap, rfl⟩ : ∃ ao n' cap, v' = .slice ao n' cap := by
    rcases hown'.2 with ⟨hv, _⟩ | ⟨g, cap, cur, hv, _⟩
    · exact ⟨_, _, _, hv⟩
    · exact ⟨_, _, _, hv⟩
  go_wp2_with fail
  go_ret2
  refine ⟨rfl, .inr ?_, ?_⟩
  · exact Lib.BuilderAt.put (T := 220) (e := 5) hB hb2 (bs' := bs ++ Lib.strCells s) (by simpa [Lib.strCells_length] using hown') (by decide)
  · exact (hb1.grown hgrow (by have := hb1.size; omega) (fun k hk => (hown.lt k hk).1)).setCell (p := ⟨b, 1, none⟩) hB _
end Go.Proofs.YtckdofjpoajblaaGreat
namespace Go.Proofs
open Go.Shelf
def Tryz.sortEv_ren : Go.Shelf.Ren := ⟨fun | 6 => 149 | 15 => 130 | 14 => 189 | 28 => 178 | 29 => 179 | 20 => 217 | 21 => 218 | 22 => 219 | 23 => 220 | 24 => 221 | 25 => 222 | 26 => 223 | 27 => 224 | 46 => 232 | 47 => 208 | 48 => 209 | 49 => 233 | 50 => 234 | 57 => 238 | n => n, fun | 22 => 55 | 24 => 51 | 25 => 229 | 3 => 3 | 39 => 45 | 0 => 0 | 53 => 250 | 55 => 252 | 4 => 4 | 46 => 242 | 45 => 241 | 50 => 247 | 5 => 5 | 9 => 9 | 66 => 273 | 70 => 277 | 76 => 296 | 77 => 297 | n => n, fun | n => n⟩
theorem Tryz.sortEv : Go.Proofs.SlLaysF0.n6 Tryz.prog Tryz.sortEv_ren := {
  mixed := by kernel_rfl
  f6 := ⟨Tryz.f149.name, by decide, Tryz.func149.trans (congrArg some (by kernel_rfl))⟩
  f14 := ⟨Tryz.f189.name, by decide, Tryz.func189.trans (congrArg some (by kernel_rfl))⟩
  f15 := Tryz.func130.trans (congrArg some (by kernel_rfl))
  f20 := ⟨Tryz.f217.name, by decide, Tryz.func217.trans (congrArg some (by kernel_rfl))⟩
  f21 := ⟨Tryz.f218.name, by decide, Tryz.func218.trans (congrArg some (by kernel_rfl))⟩
  f22 := ⟨Tryz.f219.name, by decide, Tryz.func219.trans (congrArg some (by kernel_rfl))⟩
  f23 := ⟨Tryz.f220.name, by decide, Tryz.func220.trans (congrArg some (by kernel_rfl))⟩
  f24 := ⟨Tryz.f221.name, by decide, Tryz.func221.trans (congrArg some (by kernel_rfl))⟩
  f25 := ⟨Tryz.f222.name, by decide, Tryz.func222.trans (congrArg some (by kernel_rfl))⟩
  f26 := ⟨Tryz.f223.name, by decide, Tryz.func223.trans (congrArg some (by kernel_rfl))⟩
  f27 := ⟨Tryz.f224.name, by decide, Tryz.func224.trans (congrArg some (by kernel_rfl))⟩
  f28 := Tryz.func178.trans (congrArg some (by kernel_rfl))
  f29 := Tryz.func179.trans (congrArg some (by kernel_rfl))
  f46 := ⟨Tryz.f232.name, by decide, Tryz.func232.trans (congrArg some (by kernel_rfl))⟩
  f47 := Tryz.func208.trans (congrArg some (by kernel_rfl))
  f48 := Tryz.func209.trans (congrArg some (by kernel_rfl))
  f49 := ⟨Tryz.f233.name, by decide, Tryz.func233.trans (congrArg some (by kernel_rfl))⟩
  f50 := ⟨Tryz.f234.name, by decide, Tryz.func234.trans (congrArg some (by kernel_rfl))⟩
  f57 := ⟨Tryz.f238.name, by decide, Tryz.func238.trans (congrArg some (by kernel_rfl))⟩
  t0 := Tryz.underlying0
  a0 := Tryz.isAgg0
  z0 := Tryz.sizeOf0
  v0 := Tryz.zeroValue0
  t3 := Tryz.underlying3
  a3 := Tryz.isAgg3
  z3 := Tryz.sizeOf3
  v3 := Tryz.zeroValue3
  t4 := Tryz.underlying4
  a4 := Tryz.isAgg4
  z4 := Tryz.sizeOf4
  v4 := Tryz.zeroValue4
  t5 := Tryz.underlying5
  a5 := Tryz.isAgg5
  z5 := Tryz.sizeOf5
  v5 := Tryz.zeroValue5
  t9 := Tryz.underlying9
  a9 := Tryz.isAgg9
  z9 := Tryz.sizeOf9
  v9 := Tryz.zeroValue9
  t22 := Tryz.underlying55
  a22 := Tryz.isAgg55
  z22 := Tryz.sizeOf55
  v22 := Tryz.zeroValue55
  t25 := Tryz.underlying229
  a25 := Tryz.isAgg229
  z25 := Tryz.sizeOf229
  v25 := Tryz.zeroValue229
  t39 := Tryz.underlying45
  a39 := Tryz.isAgg45
  z39 := Tryz.sizeOf45
  v39 := Tryz.zeroValue45
  t45 := Tryz.underlying241
  a45 := Tryz.isAgg241
  z45 := Tryz.sizeOf241
  v45 := Tryz.zeroValue241
  t46 := Tryz.underlying242
  a46 := Tryz.isAgg242
  z46 := Tryz.sizeOf242
  v46 := Tryz.zeroValue242
  t50 := Tryz.underlying247
  a50 := Tryz.isAgg247
  z50 := Tryz.sizeOf247
  v50 := Tryz.zeroValue247
  t53 := Tryz.underlying250
  a53 := Tryz.isAgg250
  z53 := Tryz.sizeOf250
  v53 := Tryz.zeroValue250
  t55 := Tryz.underlying252
  a55 := Tryz.isAgg252
  z55 := Tryz.sizeOf252
  v55 := Tryz.zeroValue252
  t66 := Tryz.underlying273
  a66 := Tryz.isAgg273
  z66 := Tryz.sizeOf273
  v66 := Tryz.zeroValue273
  t70 := Tryz.underlying277
  a70 := Tryz.isAgg277
  z70 := Tryz.sizeOf277
  v70 := Tryz.zeroValue277
  t76 := Tryz.underlying296
  a76 := Tryz.isAgg296
  z76 := Tryz.sizeOf296
  v76 := Tryz.zeroValue296
  t77 := Tryz.underlying297
  a77 := Tryz.isAgg297
  z77 := Tryz.sizeOf297
  v77 := Tryz.zeroValue297 }
end Go.Proofs
namespace Go.Proofs.YtckdofjpoajblaaGreat
open Go.RowKit Go.Lib Go.Sort
set_option linter.unusedVariables false
instance : Inhabited Ev := ⟨⟨0, 0, 0, false⟩⟩
def cmpT (x y : Ev) : Int := Lib.compareInt x.t y.t
theorem ltT (x y : Ev) : ltOf cmpT x y = decide (x.t < y.t) := by
  unfold ltOf cmpT Lib.compareInt
  split
  · simp; omega
  · split <;> simp <;> omega
theorem swoT : SWO (ltOf cmpT) where
  irrefl x := by rw [ltT]; simp
  trans x y z h1 h2 := by rw [ltT] at *; simp at *; omega
  ntrans x y z h1 h2 := by rw [ltT] at *; simp at *; omega
set_option maxHeartbeats 1000000 in
theorem cmp_any (x y : Ev) (W : World) : Calls Tryz.prog 150 #[valE x, valE y] W fun e w' => e = .returned (.int .i64 (cmpT x y)) ∧ ∃ q os', w' = grow (W.drewN q) os' := by
  have hcon := fun W' => Tryz.cmp_Compare_int x.t y.t W'
  unfold cmpT valE
  change ∀ W', Calls Tryz.prog 63 _ _ _ at hcon
  generalize Lib.compareInt x.t y.t = r at hcon ⊢
  go_enter Tryz.func150, Tryz.ntmps150
  go_wp2_with (go_at_call 63; refine (hcon _).mono ?_; rintro e w' ⟨rfl, rfl⟩)
  go_ret
  exact ⟨rfl, 0, _, by rw [alloc_eq_grow, alloc_eq_grow, grow_grow]; rfl⟩
theorem flatT (q : List Ev) (j : Nat) (hj : j < q.length * 4) : (q.flatMap encE)[j]? = some ((flatK encE 4 q.toArray)[j]!) := by
  have h1 : j / 4 < q.length := by omega
  have h2 : j % 4 < 4 := by omega
  rw [get_flatK _ _ _ _ (by simpa using hj)]
  have h3 : j = j / 4 * 4 + j % 4 := by omega
  conv => lhs; rw [h3]
  rw [flat_get (f := encE) (sz := 4) encE_len q _ _ h1 h2]
  have h4 : (q.toArray)[j / 4]! = q[j / 4] := by
    rw [getElem!_pos q.toArray (j / 4) (by simpa using h1)]
    simp
  rw [h4]
  have h5 : j % 4 < (encE q[j / 4]).length := h2
  rw [List.getElem?_eq_getElem h5]
  congr 1
  exact (getElem!_pos (encE q[j / 4]) (j % 4) h5).symm
theorem Row.holdsK {w : World} {g o cap : Nat} {q : List Ev} (h : Row w 51 4 (some ⟨g, o, none⟩) q.length cap (q.flatMap encE)) : HoldsK encE 4 w g o q.toArray := by
  intro j hj
  rw [size_flatK] at hj
  have hj' : j < q.length * 4 := by simpa using hj
  refine ⟨?_, h.free _⟩
  rw [h.cell j hj', flatT q j hj']
  rfl
theorem sortW_row {w : World} {g o cap m : Nat} {q : List Ev} (h : Row w 51 4 (some ⟨g, o, none⟩) q.length cap (q.flatMap encE)) (q' : List Ev) (hq : q'.length = q.length) (os : Array Obj) :
    Row (sortWorldK encE 4 w g o m q'.toArray os) 51 4 (some ⟨g, o, none⟩) q'.length cap (q'.flatMap encE) ∧ Mod (fun k => k = g) w (sortWorldK encE 4 w g o m q'.toArray os) := by
  have lg : g < w.heap.size := h.lt
  obtain ⟨h1, h2, h3, h4, h5⟩ := h
  obtain ⟨_, cur, hc, hsz, ht⟩ := h5 _ rfl
  simp only at hc hsz ht
  have hblk : (sortWorldK encE 4 w g o m q'.toArray os).heap[g]? = some (.cells (putCells id o (flatK encE 4 q'.toArray) cur) 51 (0, 0)) := by
    unfold sortWorldK putRowK putRow mapBlock grow Sort.ahead
    simp only
    rw [Array.getElem?_append_left (by simpa using lg), Array.getElem?_modify, if_pos rfl, hc]
    rfl
  have hold : ∀ k, k < w.heap.size → k ≠ g → (sortWorldK encE 4 w g o m q'.toArray os).heap[k]? = w.heap[k]? := fun k hk hn => by
    unfold sortWorldK putRowK putRow mapBlock grow Sort.ahead
    simp only
    rw [Array.getElem?_append_left (by simpa using hk), Array.getElem?_modify, if_neg (Ne.symm hn)]
  refine ⟨⟨flat_len encE_len q', by omega, h3, fun h => (by cases h), fun a ha => ?_⟩, ⟨rfl, rfl, rfl, ?_, fun k hk hn => hold k hk hn⟩⟩
  · injection ha with ha
    subst ha
    refine ⟨rfl, _, hblk, by simp [putCells]; exact hsz, ?_⟩
    apply List.ext_getElem?
    intro j
    by_cases hj : j < q'.length * 4
    · rw [List.getElem?_take_of_lt hj, List.getElem?_drop, flatT q' j hj]
      simp only [Array.getElem?_toList]
      unfold putCells
      have hj2 : o + j < cur.size := by
        have : q'.length * 4 ≤ cap * 4 := Nat.mul_le_mul_right _ (by omega)
        omega
      have hfs : (flatK encE 4 q'.toArray).size = q'.length * 4 := by simp
      generalize flatK encE 4 q'.toArray = F at hfs ⊢
      simp only [Array.getElem?_mapIdx, Array.getElem?_eq_getElem hj2, Option.map_some]
      rw [if_pos (by omega), Nat.add_sub_cancel_left]
      rfl
    · rw [List.getElem?_eq_none (by rw [List.length_take]; omega), List.getElem?_eq_none (by rw [flat_len encE_len q']; omega)]
  · unfold sortWorldK putRowK putRow mapBlock grow Sort.ahead
    simp
theorem sort_any (w : World) (g o cap : Nat) (q : List Ev) (hr : Row w 51 4 (some ⟨g, o, none⟩) q.length cap (q.flatMap encE)) (h12 : q.length ≤ 12) :
    Calls Tryz.prog 149 #[.slice (some ⟨g, o, none⟩) q.length cap, .func (.func 150) #[] #[]] w fun x w' => x = .returned (.tuple #[]) ∧
      ∃ q', q'.Perm q ∧ Fo.SortedT q' ∧ q'.length = q.length ∧ Row w' 51 4 (some ⟨g, o, none⟩) q'.length cap (q'.flatMap encE) ∧ Mod (fun k => k = g) w w' := by
  have eg : ∀ args w, (callFunc 150 args).run Tryz.prog w = .ok (.enter 150 args) w := enters_of Tryz.func150 (by kernel_rfl) rfl
  have hlen : ∀ (n : Nat) (W : World), n ≤ 12 → Calls Tryz.prog 130 #[.int .u64 n] W fun e w' => (∃ l : Int, e = .returned (.int .i64 l)) ∧ w' = W := fun n W hn =>
    (Tryz.bits_Len n W (by omega) (by omega)).mono fun _ _ ⟨he, hw⟩ => ⟨⟨_, he⟩, hw⟩
  have hcon := AnyQ.slices_SortFunc_small_sorted Tryz.sortEv 4 Tryz.isAgg51 Tryz.sizeOf51 encE encE_len (fun x v hv => by simp [encE] at hv; rcases hv with rfl | rfl | rfl | rfl <;> rfl) cmpT 150 #[] swoT g o cap q.toArray w eg
    (fun _ _ _ _ x y => cmp_any x y _) hr.holdsK hr.lt (by simpa using h12) hlen
  change Calls Tryz.prog 149 _ _ _ at hcon
  simp only [List.size_toArray] at hcon
  refine hcon.mono ?_
  rintro x w' ⟨rfl, d', m, os, hp, hs, rfl⟩
  obtain ⟨l', rfl⟩ : ∃ l' : List Ev, d' = l'.toArray := ⟨d'.toList, rfl⟩
  have hsz : l'.length = q.length := by simpa using hp.1
  have hperm : l'.Perm q := by
    have := hp.2.2
    have ht : List.take q.length l' = l' := by rw [← hsz]; exact List.take_length
    simpa [hsz, ht] using this
  have hsort : Fo.SortedT l' := by
    unfold Fo.SortedT
    rw [List.pairwise_iff_getElem]
    intro i j hi hj hij
    have := hs i j (Nat.zero_le _) hij (by omega)
    rw [ltT, getElem!_pos l'.toArray i (by simpa using hi), getElem!_pos l'.toArray j (by simpa using hj)] at this
    simpa using this
  obtain ⟨h1, h2⟩ := sortW_row (m := m) hr l' hsz os
  exact ⟨rfl, l', hperm, hsort, hsz, h1, h2⟩
end Go.Proofs.YtckdofjpoajblaaGreat
