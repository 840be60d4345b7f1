/- QueueTwo. -/
import Derived.Test.YtedogccbndjdpaaQueAll
import Derived.Test.YtedogccbndjdpaaCol
namespace Go.Proofs.Ytedogccbndjdpaa
open Go.RowKit
set_option linter.unusedVariables false

theorem foldPut_perm {xs ys : List ByteArray} (h : xs.Perm ys) : xs.foldl (Hp.putF ahead) [] = ys.foldl (Hp.putF ahead) [] := by
  have p : ∀ (xs l : List ByteArray), (xs.foldl (Hp.putF ahead) l).Perm (xs ++ l) := by
    intro xs
    induction xs with
    | nil => intro l; exact List.Perm.refl _
    | cons x xs ih =>
      intro l
      rw [List.foldl_cons]
      exact (ih _).trans (((Hp.putF_perm ahead l x).append_left xs).trans List.perm_middle)
  have q : ∀ (xs l : List ByteArray), Hp.Sorted ahead l → Hp.Sorted ahead (xs.foldl (Hp.putF ahead) l) := by
    intro xs
    induction xs with
    | nil => intro l h; exact h
    | cons x xs ih => intro l h; exact ih _ (Hp.putF_sorted ahead_tot h x)
  exact sorted_eq (q xs [] List.Pairwise.nil) (q ys [] List.Pairwise.nil) ((p xs []).trans ((h.append_right []).trans (p ys []).symm))

set_option maxRecDepth 100000 in
set_option maxHeartbeats 2000000 in
theorem queueTwo_any (W : World) (A0 : Option Addr) (cap0 : Nat) (xs : List ByteArray) (A1 : Option Addr) (cap1 : Nat) (ts : List Nat) (A2 : Option Addr) (cap2 : Nat) (bs : List Bool)
    (hr : Rd W 1 A0 xs.length (xs.map .string)) (hr1 : Rd W 1 A1 ts.length (ts.map fun (t : Nat) => .int .u8 (t : Int))) (hr2 : Rd W 1 A2 bs.length (bs.map .bool)) (hmax : xs.length ≤ maxLen) (hmax1 : ts.length ≤ maxLen) (hmax2 : bs.length ≤ maxLen) (ht : ∀ t ∈ ts, t ≤ 255) :
    Calls Try.prog 8 #[.slice A0 xs.length cap0, .slice A1 ts.length cap1, .slice A2 bs.length cap2] W fun e w' => e = .returned (.bool true) ∧ Below W.heap.size W w' := by
  have HR := Lib.hid hr
  have HR1 := Lib.hid hr1
  have HR2 := Lib.hid hr2
  have HT := Lib.hid ht
  have hmx : xs.length < 9223372036854775808 := by unfold maxLen at hmax; omega
  have hmx1 : ts.length < 9223372036854775808 := by unfold maxLen at hmax1; omega
  have hmx2 : bs.length < 9223372036854775808 := by unfold maxLen at hmax2; omega
  clear hr hr1 hr2 hmax hmax1 hmax2 ht
  go_enter Try.func8, Try.ntmps8
  go_upto_region 1 with fail
  go_cut [36] (fun v w2 => Below W.heap.size W w2 ∧ ∃ b, v = .bool b ∧ (b = false → xs.length ≤ 100 ∧ ts.length ≤ 100 ∧ bs.length ≤ 100))
  case first =>
    go_wp2_with fail
    refine (awake11 _).mono ?_
    rintro e w1 ⟨rfl, b1⟩
    go_wp2_with fail
    all_goals (go_meet)
    all_goals (exact ⟨b1, _, rfl, fun h => by first | (cases h; done) | (simp at h; omega) | omega⟩)
  case rest =>
    obtain ⟨b1, b, rfl, hb⟩ := hcut
    have HB1 := Lib.hid b1
    clear b1
    cases b with
    | true =>
      go_wp2_with fail
      refine (awake11 _).mono ?_
      rintro e w2 ⟨rfl, b2⟩
      go_wp2_with fail
      go_ret
      exact ⟨rfl, below_tr HB1.out b2⟩
    | false =>
      obtain ⟨h0, h1, h2⟩ := hb rfl
      have hF : Fr W.heap.size (fun _ => 0) W wc := ⟨by have := HB1.out.size; omega, HB1.out, fun _ _ => rfl⟩
      obtain ⟨base, hbase⟩ : ∃ base, base = W.heap.size := ⟨_, rfl⟩
      have hend : ∀ c w, Fr base c W w → Below W.heap.size W w := fun c w h => hbase ▸ h.below
      have HEND := Lib.hid hend
      have HBASE := Lib.hid hbase
      rw [← hbase] at hF
      obtain ⟨i0, hi0, hz0, hz1, hz2⟩ := info_parts Try.infoStr
      have hx : ∀ O : Obj, Rd (wc.alloc O) 1 A0 xs.length (xs.map .string) := fun O => HR.out.below (HB1.out.alloc (HB1.out.size) O) (Nat.le_refl _)
      have HX := Lib.hid hx
      have HF := Lib.hid hF
      clear hF hbase hb hx hmx hmx1 hmx2 hend
      go_wp2_with (at_builtin; refine wpList_append_rd (by rfl) _ _ _ (by rfl) 9 i0 _ 1 16 Try.underlying50 hi0 hz0 hz1 hz2 rfl (by omega) (some ⟨wc.heap.size, 0, none⟩) 0 0 [] (by rfl) ⟨rfl, Nat.le_refl _, Nat.zero_le _, fun h => (by cases h), fun a ha => by injection ha with ha; subst ha; exact ⟨rfl, _, heap_alloc_new wc _, by simp, by simp⟩⟩ A0 xs.length cap0 (xs.map .string) (by rfl) (HX.out _) (by simp [Value.oneCell']) (by unfold maxLen; omega) (by omega) ?_; intro A7 cap7 w2 hown hm hat)
      have hI : ∃ c, Fr base c W w2 ∧ RowC w2 c 1 9 1 A7 xs.length cap7 (xs.map .string) := by
        have s1 := BlkC.made wc (fun _ => 0) 1 (Obj.cells #[] 9)
        have s2 := Chg.alloc (c := fun _ => 0) (w := wc) 1 1 (Obj.cells #[] 9)
        have s3 := RowC.put (c := paint (fun _ => 0) wc.heap.size 1) (j := 1) (w := wc.alloc (Obj.cells #[] 9)) (A := some ⟨wc.heap.size, 0, none⟩) (cap := 0) (n := 0) (cs := []) (e := 9) (sz := 1) ⟨⟨rfl, Nat.le_refl _, Nat.zero_le _, fun h => (by cases h), fun a ha => by injection ha with ha; subst ha; exact ⟨rfl, _, heap_alloc_new wc _, by simp, by simp⟩⟩, fun a ha => by injection ha with ha; subst ha; exact s1.2⟩ hown hm hat
        exact ⟨_, (HF.out.step s2 (by omega)).step s3.2 (by omega), by simpa using s3.1⟩
      have HI := Lib.hid hI
      clear hown hm hat hI HF HX
      obtain ⟨hI1, hI2⟩ : True ∧ True := ⟨trivial, trivial⟩
      go_wp2_with fail
      go_loopw [43] (fun v wr => ∃ (k : Nat) (ys : List ByteArray) (c : Nat → Nat), k ≤ ts.length ∧ v = .int .i64 k ∧ ys.length = xs.length ∧ Hid (Fr base c W wr) ∧ Hid (RowC wr c 1 9 1 A7 xs.length cap7 (ys.map .string)) ∧ Hid (ys.Perm xs)) (fun v _ => ts.length - (intOf v).toNat)
      case atStart =>
        obtain ⟨c, q1, q2⟩ := HI.out
        exact ⟨0, xs, c, Nat.zero_le _, rfl, rfl, Lib.hid q1, Lib.hid q2, Lib.hid (List.Perm.refl _)⟩
      case round =>
        clear HI
        obtain ⟨k, ys, c, hk, rfl, hyl, HF, HRW, HPM⟩ := hrel
        by_cases hlt : k < ts.length
        · obtain ⟨g1, o1, rfl, hg1, hc1⟩ := HR1.out.2 (by omega)
          obtain ⟨t, hs⟩ : ∃ t, ts[k]? = some t := ⟨_, List.getElem?_eq_getElem hlt⟩
          have htb : t ≤ 255 := HT.out t (List.mem_of_getElem? hs)
          have c1 : wr.cell? ⟨g1, o1 + k, none⟩ = some (.int .u8 t) := by
            rw [World.cell?_of_block (HF.out.below.block g1 (by have := HBASE.out; omega)), hc1 k (by omega)]; simp [hs]
          clear hc1 hs
          by_cases hin : k < xs.length
          · obtain ⟨g, o, rfl⟩ := HRW.out.1.some_of_pos (by have := HRW.out.1.2.1; omega)
            go_upto_region 9 with fail
            obtain ⟨j, hj, hjl⟩ : ∃ j : Nat, ((t : Int) % (xs.length : Int)) = j ∧ j < xs.length := ⟨t % xs.length, by simp, Nat.mod_lt _ (by omega)⟩
            rw [hj]
            have hrow := HRW.out.1
            have d1 : wr.cell? ⟨g, o + k, none⟩ = some (.string ys[k]) := by rw [hrow.cell k (by omega)]; simp
            have d2 : wr.cell? ⟨g, o + j, none⟩ = some (.string ys[j]) := by rw [hrow.cell j (by omega)]; simp
            have lg := hrow.lt
            have f1 : wr.frozen? ⟨g, o + k, none⟩ = false := hrow.free _
            have r1 := hrow.set k (by omega) (.string ys[j])
            obtain ⟨u, hu⟩ : ∃ u, (wr.setCell ⟨g, o + k, none⟩ (.string ys[j])).cell? ⟨g, o + j, none⟩ = some u := by
              rw [r1.cell j (by omega)]
              exact ⟨_, List.getElem?_eq_getElem (by simp; omega)⟩
            have f2 : (wr.setCell ⟨g, o + k, none⟩ (.string ys[j])).frozen? ⟨g, o + j, none⟩ = false := r1.free _
            have r2 := r1.set j (by omega) (.string ys[k])
            have hcs : ((ys.map Value.string).set k (.string ys[j])).set j (.string ys[k]) = ((ys.set k ys[j]).set j ys[k]).map .string := by rw [List.map_set, List.map_set]
            rw [hcs] at r2
            have hpm : ((ys.set k ys[j]).set j ys[k]).Perm xs := by
              have := (Hp.swp_perm ys k j)
              rw [Hp.swp_at (by omega) (by omega)] at this
              exact this.trans HPM.out
            have hm : Mod (fun q => c q = 1) wr (((wr.drew.setCell ⟨g, o + k, none⟩ (.string ys[j])).setCell ⟨g, o + j, none⟩ (.string ys[k]))) := ((Mod.refl _ _).drew.setCell (fun _ => HRW.out.2 _ rfl) _).setCell (fun _ => HRW.out.2 _ rfl) _
            have hch : Chg 1 c wr (paint c wr.heap.size 1) (((wr.drew.setCell ⟨g, o + k, none⟩ (.string ys[j])).setCell ⟨g, o + j, none⟩ (.string ys[k]))) := .mod 1 hm
            have HFIN := Lib.hid (HF.out.step hch (by omega))
            have HR2' : Hid (RowC (((wr.drew.setCell ⟨g, o + k, none⟩ (.string ys[j])).setCell ⟨g, o + j, none⟩ (.string ys[k]))) (paint c wr.heap.size 1) 1 9 1 (some ⟨g, o, none⟩) xs.length cap7 (((ys.set k ys[j]).set j ys[k]).map .string)) := Lib.hid ⟨r2.move (fun a ha => rfl), fun a ha => by injection ha with ha; subst ha; rw [paint_old lg]; exact HRW.out.2 _ rfl⟩
            have HP2 := Lib.hid hpm
            have k1 : (0 : Int) ≤ (k : Int) := Int.natCast_nonneg _
            have k2 : (k : Int) < (xs.length : Int) := by omega
            have k3 : (0 : Int) ≤ (j : Int) := Int.natCast_nonneg _
            have k4 : (j : Int) < (xs.length : Int) := by omega
            clear hj hrow r1 r2 hcs hpm hm hch
            refine wp_region_plan (by kernel_rfl) (fun u => Mod (fun _ => False) wr u) [13, 15] [(0, .pure), (1, .pure), (2, .pure), (3, .pure), (4, .pure), (5, .pure), (6, .pure), (7, .load), (8, .pure), (9, .pure), (10, .pure), (11, .load), (12, .pure), (13, .last), (14, .pure), (15, .last)] (by simp only [List.map_cons, List.map_nil, List.getElem?_toArray, List.getElem?_cons_succ, List.getElem?_cons_zero]; rfl) (by kernel_rfl) (fun _ _ d _ _ h => by cases d <;> exact h) ((Mod.refl _ _).drew) ?_
            repeat (first
              | (refine plan_pure (v := ?_) (by rfl) (fun w1 => ?_) ?_
                 rotate_left
                 · go_simp <;> with_reducible rfl
                 simp only [Act.put, List.setIfInBounds_toArray, List.set_cons_zero, List.set_cons_succ])
              | (refine plan_off (by rfl) ?_
                 simp only [Act.put, List.setIfInBounds_toArray, List.set_cons_zero, List.set_cons_succ])
              | (refine plan_load_off (by rfl) ?_
                 simp only [Act.put, List.setIfInBounds_toArray, List.set_cons_zero, List.set_cons_succ])
              | (refine plan_load (v := ?_) (by rfl) (fun w1 hw1 => ?_) ?_
                 rotate_left
                 · (have q1 := (hw1.cell g (o + k) lg id).trans d1
                    have q2 := (hw1.cell g (o + j) lg id).trans d2
                    clear hw1
                    go_simp <;> with_reducible rfl)
                 simp only [Act.put, List.setIfInBounds_toArray, List.set_cons_zero, List.set_cons_succ]))
            refine plan_last ?_
            go_wp2_with fail
            repeat (first
              | (refine plan_pure (v := ?_) (by rfl) (fun w1 => ?_) ?_
                 rotate_left
                 · go_simp <;> with_reducible rfl
                 simp only [Act.put, List.setIfInBounds_toArray, List.set_cons_zero, List.set_cons_succ])
              | (refine plan_off (by rfl) ?_
                 simp only [Act.put, List.setIfInBounds_toArray, List.set_cons_zero, List.set_cons_succ])
              | (refine plan_load_off (by rfl) ?_
                 simp only [Act.put, List.setIfInBounds_toArray, List.set_cons_zero, List.set_cons_succ])
              | (refine plan_load (v := ?_) (by rfl) (fun w1 hw1 => ?_) ?_
                 rotate_left
                 · (skip
                    clear hw1
                    go_simp <;> with_reducible rfl)
                 simp only [Act.put, List.setIfInBounds_toArray, List.set_cons_zero, List.set_cons_succ]))
            refine plan_last ?_
            go_wp2_with fail
            refine plan_end ?_
            go_wp2_with fail
            go_roundw
            case rel => exact ⟨k + 1, _, _, by omega, by go_num, by simp [hyl], HFIN, HR2', HP2⟩
            case measure => simp [intOf]; omega
          · go_wp2_with fail
            go_roundw
            case rel => exact ⟨k + 1, ys, c, by omega, by go_num, hyl, HF, HRW, HPM⟩
            case measure => simp [intOf]; omega
        · go_wp2_with fail
          refine (que_new _).mono ?_
          rintro e w3 ⟨Qa, rfl, hq3, b3⟩
          have s3 := Chg.below (c := c) 2 2 b3
          have HF3 := Lib.hid (HF.out.step s3 (by omega))
          have HR3 := Lib.hid (HRW.out.stay s3 (by omega))
          have HA3 := Lib.hid (QueC.made (c := c) (j := 2) hq3)
          clear hq3 b3 s3 HF HRW
          go_wp2_with fail
          refine (que_new _).mono ?_
          rintro e w4 ⟨Qb, rfl, hq4, b4⟩
          obtain ⟨c3, hc3⟩ : ∃ c3, c3 = paint c wr.heap.size 2 := ⟨_, rfl⟩
          rw [← hc3] at HF3 HR3 HA3
          have s4 := Chg.below (c := c3) 3 3 b4
          have hI : Fr base (paint c3 w3.heap.size 3) W w4 ∧ RowC w4 (paint c3 w3.heap.size 3) 1 9 1 A7 xs.length cap7 (ys.map .string) ∧ QueC w4 (paint c3 w3.heap.size 3) 2 Qa [] ∧ QueC w4 (paint c3 w3.heap.size 3) 3 Qb [] :=
            ⟨HF3.out.step s4 (by omega), HR3.out.stay s4 (by omega), HA3.out.stay s4 (by omega), QueC.made hq4⟩
          have HI := Lib.hid hI
          clear hq4 b4 s4 HF3 HR3 HA3 hI hc3
          go_wp2_with fail
          go_loopw [76] (fun v wr => ∃ (k : Nat) (c : Nat → Nat), k ≤ xs.length ∧ v = .int .i64 k ∧ Hid (Fr base c W wr ∧ RowC wr c 1 9 1 A7 xs.length cap7 (ys.map .string) ∧ QueC wr c 2 Qa ((xs.take k).foldl (Hp.putF ahead) []) ∧ QueC wr c 3 Qb ((ys.take k).foldl (Hp.putF ahead) []))) (fun v _ => xs.length - (intOf v).toNat)
          case atStart => exact ⟨0, _, Nat.zero_le _, rfl, HI⟩
          case round =>
            clear HI c3 c
            obtain ⟨k, c, hk, rfl, HX⟩ := hrel
            obtain ⟨hF, hR, hA, hB⟩ := HX.out
            by_cases hlt : k < xs.length
            · obtain ⟨g0, o0, rfl, hg0, hc0⟩ := HR.out.2 (by omega)
              obtain ⟨s, hs⟩ : ∃ s, xs[k]? = some s := ⟨_, List.getElem?_eq_getElem hlt⟩
              obtain ⟨t, ht⟩ : ∃ t, ys[k]? = some t := ⟨_, List.getElem?_eq_getElem (by omega)⟩
              have c0 : wr.cell? ⟨g0, o0 + k, none⟩ = some (.string s) := by
                rw [World.cell?_of_block (hF.below.block g0 (by have := HBASE.out; omega)), hc0 k (by omega)]; simp [hs]
              have hsx : xs.take (k + 1) = xs.take k ++ [s] := by rw [List.take_add_one, hs]; rfl
              have hsy : ys.take (k + 1) = ys.take k ++ [t] := by rw [List.take_add_one, ht]; rfl
              have HSX := Lib.hid hsx
              have HSY := Lib.hid hsy
              have HF := Lib.hid hF
              have HRW := Lib.hid hR
              have HA := Lib.hid hA
              have HB := Lib.hid hB
              have hla : ∀ zs : List ByteArray, zs.length = xs.length → ((zs.take k).foldl (Hp.putF ahead) []).length < 900000 := fun zs hz => by rw [fold_len]; simp; omega
              have HLA := Lib.hid hla
              have HT' := Lib.hid ht
              clear hF hR hA hB HX hc0 hs hsx hsy hla ht
              by_cases hsz : 100 < s.size
              · go_wp2
                go_ret
                exact ⟨rfl, HEND.out _ _ HF.out⟩
              · go_wp2_with fail
                refine (que_push wr _ Qa _ HA.out s (HLA.out xs rfl)).mono ?_
                rintro e w3 ⟨rfl, hq3, hm3⟩
                obtain ⟨q3, s3⟩ := QueC.put hq3 hm3
                have hR3 := HRW.out.stay s3 (by omega)
                obtain ⟨g, o, rfl⟩ := hR3.1.some_of_pos (by have := hR3.1.2.1; omega)
                have c1 : w3.cell? ⟨g, o + k, none⟩ = some (.string t) := by rw [hR3.1.cell k (by omega)]; simp [HT'.out]
                have HQ3 := Lib.hid q3
                have HR3 := Lib.hid hR3
                have HF3 := Lib.hid (HF.out.step s3 (by omega))
                have HB3 := Lib.hid (HB.out.stay s3 (by omega))
                have k1 : (0 : Int) ≤ (k : Int) := Int.natCast_nonneg _
                have k2 : (k : Int) < (xs.length : Int) := by omega
                clear hq3 hm3 q3 s3 hR3
                go_wp2_with fail
                refine (que_push w3 _ Qb _ HB3.out t (HLA.out ys hyl)).mono ?_
                rintro e w4 ⟨rfl, hq4, hm4⟩
                obtain ⟨q4, s4⟩ := QueC.put hq4 hm4
                have hfin : Hid (Fr base _ W w4 ∧ RowC w4 _ 1 9 1 (some ⟨g, o, none⟩) xs.length cap7 (ys.map .string) ∧ QueC w4 _ 2 Qa ((xs.take (k + 1)).foldl (Hp.putF ahead) []) ∧ QueC w4 _ 3 Qb ((ys.take (k + 1)).foldl (Hp.putF ahead) [])) :=
                  Lib.hid ⟨HF3.out.step s4 (by omega), HR3.out.stay s4 (by omega), by rw [HSX.out, List.foldl_append]; exact HQ3.out.stay s4 (by omega), by rw [HSY.out, List.foldl_append]; exact q4⟩
                clear hq4 hm4 q4 s4
                go_wp2_with fail
                go_roundw
                case rel => exact ⟨k + 1, _, by omega, by go_num, hfin⟩
                case measure => simp [intOf]; omega
            · have hkn : k = xs.length := by omega
              have hI : Fr base c W wr ∧ QueC wr c 2 Qa (xs.foldl (Hp.putF ahead) []) ∧ QueC wr c 3 Qb (xs.foldl (Hp.putF ahead) []) := by
                refine ⟨hF, ?_, ?_⟩
                · rw [hkn, List.take_length] at hA; exact hA
                · rw [hkn, ← hyl, List.take_length, foldPut_perm HPM.out] at hB; exact hB
              have HI := Lib.hid hI
              have hfl := fold_len xs []
              clear hF hR hA hB hI HX HPM hkn
              obtain ⟨l0, hl0⟩ : ∃ l0, l0 = xs.foldl (Hp.putF ahead) [] := ⟨_, rfl⟩
              rw [← hl0] at hfl HI
              simp at hfl
              clear hl0
              go_wp2_with fail
              go_loopw [100] (fun v wr => ∃ (k : Nat) (l : List ByteArray) (c : Nat → Nat), k ≤ bs.length ∧ v = .int .i64 k ∧ l.length ≤ xs.length ∧ Hid (Fr base c W wr ∧ QueC wr c 2 Qa l ∧ QueC wr c 3 Qb l)) (fun v _ => bs.length - (intOf v).toNat)
              case atStart => exact ⟨0, l0, c, Nat.zero_le _, rfl, by omega, HI⟩
              case round =>
                clear HI c hfl l0
                obtain ⟨k, l, c, hk, rfl, hll, HX⟩ := hrel
                obtain ⟨hF, hA, hB⟩ := HX.out
                have HF := Lib.hid hF
                have HA := Lib.hid hA
                have HB := Lib.hid hB
                clear hF hA hB HX
                by_cases hlt : k < bs.length
                · obtain ⟨g0, o0, rfl, hg0, hc0⟩ := HR2.out.2 (by omega)
                  obtain ⟨b, hs⟩ : ∃ b, bs[k]? = some b := ⟨_, List.getElem?_eq_getElem hlt⟩
                  have c0 : wr.cell? ⟨g0, o0 + k, none⟩ = some (.bool b) := by
                    rw [World.cell?_of_block (HF.out.below.block g0 (by have := HBASE.out; omega)), hc0 k (by omega)]; simp [hs]
                  clear hc0 hs
                  go_upto_if 104 with fail
                  go_cut [16, 17, 18, 19] (fun v16 v17 v18 v19 w2 => ∃ (s : ByteArray) (ok : Bool) (l' : List ByteArray) (c' : Nat → Nat), v16 = .string s ∧ v17 = .string s ∧ v18 = .bool ok ∧ v19 = .bool ok ∧ l'.length ≤ xs.length ∧ Hid (Fr base c' W w2 ∧ QueC w2 c' 2 Qa l' ∧ QueC w2 c' 3 Qb l'))
                  case first =>
                    cases b with
                    | true =>
                      cases l with
                      | nil =>
                        go_wp2_with fail
                        refine (que_pop_none wr _ Qa HA.out).mono ?_
                        rintro e w3 ⟨rfl, rfl⟩
                        go_wp2_with fail
                        refine (que_pop_none wr _ Qb HB.out).mono ?_
                        rintro e w3 ⟨rfl, rfl⟩
                        go_wp2_with fail
                        go_meet
                        exact ⟨_, _, [], c, rfl, rfl, rfl, rfl, Nat.zero_le _, Lib.hid ⟨HF.out, HA.out, HB.out⟩⟩
                      | cons x r =>
                        simp only [List.length_cons] at hll
                        go_wp2_with fail
                        refine (que_pop wr _ Qa x r HA.out (by omega)).mono ?_
                        rintro e w3 ⟨rfl, hq3, hm3⟩
                        obtain ⟨q3, s3⟩ := QueC.put' hq3 hm3
                        have HQ3 := Lib.hid q3
                        have HF3 := Lib.hid (HF.out.step s3 (by omega))
                        have HB3 := Lib.hid (HB.out.stay s3 (by omega))
                        clear hq3 hm3 q3 s3
                        go_wp2_with fail
                        refine (que_pop w3 _ Qb x r HB3.out (by omega)).mono ?_
                        rintro e w4 ⟨rfl, hq4, hm4⟩
                        obtain ⟨q4, s4⟩ := QueC.put' hq4 hm4
                        have HFIN := Lib.hid (And.intro (HF3.out.step s4 (by omega)) (And.intro (HQ3.out.stay s4 (by omega)) q4))
                        clear hq4 hm4 q4 s4
                        go_wp2_with fail
                        go_meet
                        exact ⟨_, _, r, _, rfl, rfl, rfl, rfl, by omega, HFIN⟩
                    | false =>
                      by_cases hl0 : l = []
                      · subst hl0
                        go_wp2_with fail
                        refine (que_steal_none wr _ Qa HA.out).mono ?_
                        rintro e w3 ⟨rfl, rfl⟩
                        go_wp2_with fail
                        refine (que_steal_none wr _ Qb HB.out).mono ?_
                        rintro e w3 ⟨rfl, rfl⟩
                        go_wp2_with fail
                        go_meet
                        exact ⟨_, _, [], c, rfl, rfl, rfl, rfl, Nat.zero_le _, Lib.hid ⟨HF.out, HA.out, HB.out⟩⟩
                      · obtain ⟨r, x, hrx⟩ := last_split hl0
                        subst hrx
                        simp only [List.length_append, List.length_cons, List.length_nil] at hll
                        clear hl0
                        go_wp2_with fail
                        refine (que_steal wr _ Qa x r HA.out (by omega)).mono ?_
                        rintro e w3 ⟨rfl, hq3, hm3⟩
                        obtain ⟨q3, s3⟩ := QueC.put' hq3 hm3
                        have HQ3 := Lib.hid q3
                        have HF3 := Lib.hid (HF.out.step s3 (by omega))
                        have HB3 := Lib.hid (HB.out.stay s3 (by omega))
                        clear hq3 hm3 q3 s3
                        go_wp2_with fail
                        refine (que_steal w3 _ Qb x r HB3.out (by omega)).mono ?_
                        rintro e w4 ⟨rfl, hq4, hm4⟩
                        obtain ⟨q4, s4⟩ := QueC.put' hq4 hm4
                        have HFIN := Lib.hid (And.intro (HF3.out.step s4 (by omega)) (And.intro (HQ3.out.stay s4 (by omega)) q4))
                        clear hq4 hm4 q4 s4
                        go_wp2_with fail
                        go_meet
                        exact ⟨_, _, r, _, rfl, rfl, rfl, rfl, by omega, HFIN⟩
                  case rest =>
                    obtain ⟨s, ok, l', c', rfl, rfl, rfl, rfl, hll', HX'⟩ := hcut
                    clear HF HA HB
                    go_wp2_with fail
                    refine (que_len _ _ Qa l' HX'.out.2.1).mono ?_
                    rintro e w3 ⟨rfl, rfl⟩
                    go_wp2_with fail
                    refine (que_len _ _ Qb l' HX'.out.2.2).mono ?_
                    rintro e w3 ⟨rfl, rfl⟩
                    go_wp2_with fail
                    go_roundw
                    case rel => exact ⟨k + 1, l', c', by omega, by go_num, hll', HX'⟩
                    case measure => simp [intOf]; omega
                · go_wp2_with fail
                  go_ret
                  exact ⟨rfl, HEND.out _ _ HF.out⟩

open Go.ChangeShapes Go.WideShapes Go.ChangeAt
set_option maxRecDepth 100000 in
theorem QueueTwo_walk {H : Type} {enc : TypeId × Value → H} (W : World) {base : Nat} {v0 v1 v2 : Value} {d0 d1 d2 : DataW H} {p0 p1 p2 : List MemPlace}
    (o0 : Value.okWide Try.prog W .any base 50 v0) (h0 : DataW.Trod enc Try.prog W 0 (fun _ => true) true 50 v0 d0 p0)
    (o1 : Value.okWide Try.prog W .any base 62 v1) (h1 : DataW.Trod enc Try.prog W 0 (fun _ => true) true 62 v1 d1 p1)
    (o2 : Value.okWide Try.prog W .any base 58 v2) (h2 : DataW.Trod enc Try.prog W 0 (fun _ => true) true 58 v2 d2 p2) :
    Calls Try.prog 8 #[v0, v1, v2] W fun e w' => e = .returned (.bool true) ∧ Below W.heap.size W w' := by
  obtain ⟨A, len, cap, rfl⟩ := okWide_slice Try.underlying50 o0
  obtain ⟨A', len', cap', rfl⟩ := okWide_slice Try.underlying62 o1
  obtain ⟨A2, len2, cap2, rfl⟩ := okWide_slice Try.underlying58 o2
  obtain ⟨fuel, hf⟩ := h0
  obtain ⟨fuel', hf'⟩ := h1
  obtain ⟨fuel2, hf2⟩ := h2
  obtain ⟨xs, hl, hg, hr, h1, h2⟩ := tr_list (f := fun s => [Value.string s]) (sz := 1) (by omega) Try.underlying50 (by kernel_rfl) strs_read (by simpa [Value.cells] using hf)
  obtain ⟨ts, hl', hg', hr', h1', h2'⟩ := tr_list (f := fun (s : Nat) => [Value.int .u8 (s : Int)]) (sz := 1) (by omega) Try.underlying62 (by kernel_rfl) u8s_read (by simpa [Value.cells] using hf')
  obtain ⟨bs, hl2, hg2, hr2, h12, h22⟩ := tr_list (f := fun s => [Value.bool s]) (sz := 1) (by omega) Try.underlying58 (by kernel_rfl) bools_read (by simpa [Value.cells] using hf2)
  subst hl
  subst hl'
  subst hl2
  exact queueTwo_any W A cap xs A' cap' ts A2 cap2 bs (flat_str xs ▸ hr) (flat_u8 ts ▸ hr') (flat_bool bs ▸ hr2) (by omega) (by omega) (by omega) hg'
namespace queueTwo
theorem own : ownKnob Try.prog.godebug = none := by kernel_rfl
theorem laidOut : laidOutB Try.prog = true := by kernel_rfl
set_option maxRecDepth 100000 in
theorem lifted (os : Os) (started : os.Started) (H : Type) (enc : TypeId × Value → H) :
    ReturnsInHanded {} Try.checked os 8 .any (Rows.queueTwoSpec.pre6 enc Try.prog Try.f8 Rows.queueTwoRow.domain false) (Rows.queueTwoSpec.post enc Try.prog Try.f8 false true false false) := by
  refine returnsInHanded_of_change_sized (C := Try.checked) own started (by kernel_rfl) Try.func8
    (ChangeSpec.witness6 (enc := enc) (C := Try.checked) false ⟨#[], #[.slice none 0 0, .slice none 0 0, .slice none 0 0], []⟩ 8 (by kernel_rfl) (by kernel_rfl) (by kernel_rfl) (by kernel_rfl)) ?_
  intro W base args ds gs before hval0 hW hcnd hsz0 _
  have hval : ∀ (j : Nat) t v, Try.f8.params[j]? = some t → args[j]? = some v → Value.okWide Try.prog W .any base t v := hval0
  have hW' := hW
  obtain ⟨p, q, hA0, hV, rfl, hfz, hnd⟩ := hW
  have hA : DataW.TrodAll enc Try.prog W 0 (fun _ => true) true Try.f8.params.toList args.toList ds p := hA0
  rw [Try.params8] at hA hval
  obtain ⟨v0, vs0, d0, ds0, p0, q0, hargs, rfl, rfl, h0, r0⟩ := trodAll_cons hA
  obtain ⟨v1, vs1, d1, ds1, p1, q1, rfl, rfl, rfl, h1, r1⟩ := trodAll_cons r0
  obtain ⟨v2, vs2, d2, ds2, p2, q2, rfl, rfl, rfl, h2, r2⟩ := trodAll_cons r1
  obtain ⟨rfl, rfl, rfl⟩ := trodAll_nil r2
  obtain rfl : args = #[v0, v1, v2] := by cases args; simp_all
  obtain ⟨rfl, rfl⟩ := trodVars_none hV
  have lt0 : ∀ x ∈ p0, x.block < W.heap.size := by obtain ⟨m, hm⟩ := h0; exact DataW.trod_lt m _ _ _ hm
  have lt1 : ∀ x ∈ p1, x.block < W.heap.size := by obtain ⟨m, hm⟩ := h1; exact DataW.trod_lt m _ _ _ hm
  have lt2 : ∀ x ∈ p2, x.block < W.heap.size := by obtain ⟨m, hm⟩ := h2; exact DataW.trod_lt m _ _ _ hm
  clear hA0 hval0 hsz0
  refine (QueueTwo_walk W (hval 0 50 v0 rfl rfl) h0 (hval 1 62 v1 rfl rfl) h1 (hval 2 58 v2 rfl rfl) h2).mono fun e W' ⟨he, bel⟩ => ?_
  subst he
  exact ⟨_, rfl, _, _, _, [], _, [], hW', trodAll_mk1 (shut_bool Try.underlying4 _), (trodAll_cons_mk (Below.trod laidOut (by kernel_rfl) (of_decide_eq_true (by kernel_rfl)) h0 bel lt0) (trodAll_cons_mk (Below.trod laidOut (by kernel_rfl) (of_decide_eq_true (by kernel_rfl)) h1 bel lt1) (trodAll_cons_mk (Below.trod laidOut (by kernel_rfl) (of_decide_eq_true (by kernel_rfl)) h2 bel lt2) trodAll_mk0))), rfl, bel.frame _, fun h => (by cases h)⟩
theorem over : Rows.queueTwoRow.holds Try.pinned (OpenSpec.ofChange Rows.queueTwoSpec) :=
  OpenClaim.holds_of_wide 8 Try.f8 rfl rfl rfl rfl rfl rfl rfl ⟨rfl, rfl, rfl, rfl, rfl⟩ rfl rfl rfl rfl rfl (by kernel_rfl) Try.func8 (by kernel_rfl)
    (of_decide_eq_true (by kernel_rfl)) (by unfold Func.isWrapper; first | (rw [if_pos (by decide +kernel)]; kernel_rfl) | (rw [if_neg (by decide +kernel)]; exact ⟨rfl, rfl⟩))
    (fun os started H enc _ => lifted os started H enc)
end queueTwo
/-- The row. -/
theorem queueTwo_holds : Rows.QueueTwoSaid := queueTwo.over
#print axioms queueTwo_holds
end Go.Proofs.Ytedogccbndjdpaa
