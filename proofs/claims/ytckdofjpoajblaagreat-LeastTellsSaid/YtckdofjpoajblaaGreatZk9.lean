/- Part 9 of the proof of leastTells_holds: what it rests on. -/
import Derived.Test.YtckdofjpoajblaaGreatZk8
namespace Go.Proofs.YtckdofjpoajblaaGreat
open Go.RowKit
set_option linter.unusedVariables false
theorem Tryz.infoRTh : (Tryz.prog.info? 162).map (fun i => (i.zero, i.size, i.bytes)) = some (some (.agg #[.int .i64 0, .int .i64 0, .int .i64 0, .int .i64 0]), 4, 32) := by kernel_rfl
def nwCells (p : Pg) (PA : Option Addr) (pc : Nat) (A : Option Addr) (i tc : Nat) : Array Value :=
  #[.int .i64 p.vars, .int .i64 p.mtx, .slice PA p.code.length pc, .slice A i tc, .int .i64 0, .int .i64 0, .int .i64 0, .int .i64 0, .int .i64 (-1), .int .i64 (-1)]
set_option maxRecDepth 100000 in
theorem refNew_bad (w : World) (p : Pg) (A : Option Addr) (cap : Nat) (fuel : Int) (hin : PgIn w p A) (hbad : ¬ (Pr.Ok p ∧ 0 ≤ fuel ∧ fuel ≤ 8)) :
    Calls Tryz.prog 49 #[valP p A cap, .int .i64 fuel] w fun x w' => x = .returned (.pointer none) ∧ Below w.heap.size w w' := by
  obtain ⟨Wa, X, hWa, hX, hBa, hXl, hXe⟩ := pg_box w p.vars p.mtx A p.code.length cap
  have hcall := refPRight_any Wa p A cap (hin.below hBa)
  obtain ⟨b, hb⟩ : ∃ b, b = decide (Pr.Ok p) := ⟨_, rfl⟩
  rw [← hb] at hcall
  unfold valP at hcall ⊢
  have HCALL := Lib.hid hcall
  have HB := Lib.hid hBa
  have HBB := Lib.hid hb
  have HBAD := Lib.hid hbad
  obtain ⟨x0, x1, x2, xl⟩ := hXe Wa (Below.refl _ _)
  clear hcall hBa hb hbad hin hXe
  go_enter Tryz.func49, Tryz.ntmps49
  go_upto_region 1 with fail
  rw [← hWa, ← hX]
  clear hWa hX
  go_wp2_with fail
  refine HCALL.out.mono ?_
  rintro x w1 ⟨rfl, b1⟩
  have HB1 := Lib.hid (below_at HB.out b1)
  clear b1
  cases b with
  | false =>
    go_wp2_with fail
    go_ret
    exact ⟨rfl, HB1.out⟩
  | true =>
    have hok : Pr.Ok p := of_decide_eq_true HBB.out.symm
    by_cases h0 : fuel < 0
    · go_wp2_with fail
      go_ret
      exact ⟨rfl, HB1.out⟩
    · by_cases h8 : 8 < fuel
      · go_wp2_with fail
        go_ret
        exact ⟨rfl, HB1.out⟩
      · exact (HBAD.out ⟨hok, by omega, by omega⟩).elim
set_option maxRecDepth 100000 in
set_option maxHeartbeats 4000000 in
theorem refNew_okC (w : World) (p : Pg) (A : Option Addr) (cap : Nat) (f : Nat) (C : Nat → Prop) (hcC : CdAt w C A p.code) (hCw : ∀ k, C k → k < w.heap.size) (hin : PgIn w p A) (hok : Pr.Ok p) (hf : f ≤ 8) :
    Calls Tryz.prog 49 #[valP p A cap, .int .i64 (f : Int)] w fun x w' => ∃ (S T o : Nat), x = .returned (.pointer (some ⟨S, 0, none⟩)) ∧ RAt w' C S T o (Pr.start p f) ∧ w.heap.size ≤ S ∧ w.heap.size ≤ T ∧ Below w.heap.size w w' := by
  obtain ⟨Wa, X, hWa, hX, hBa, hXl, hXe⟩ := pg_box w p.vars p.mtx A p.code.length cap
  have hcall := refPRight_any Wa p A cap (hin.below hBa)
  rw [decide_eq_true hok] at hcall
  have hl1 := hok.1.2.2.2.2.1
  have hl4 := hok.1.2.2.2.2.2
  obtain ⟨i0, hi0, hz0, hz1, hz2⟩ := info_parts Tryz.infoRTh
  unfold valP at hcall ⊢
  obtain ⟨n, hn⟩ : ∃ n, n = p.code.length := ⟨_, rfl⟩
  rw [← hn] at hcall hWa hXe hl1 hl4 ⊢
  have HN := Lib.hid hn
  have HCALL := Lib.hid hcall
  have HB := Lib.hid hBa
  have HXE := Lib.hid hXe
  have HIN := Lib.hid (And.intro hcC hCw)
  obtain ⟨x0, x1, x2, xl⟩ := hXe Wa (Below.refl _ _)
  clear hcall hBa hin hXe hok hn hcC hCw
  go_enter Tryz.func49, Tryz.ntmps49
  go_upto_region 1 with fail
  rw [← hWa, ← hX]
  clear hWa hX
  go_wp2_with fail
  refine HCALL.out.mono ?_
  rintro x w1 ⟨rfl, b1⟩
  have HB1 := Lib.hid b1
  clear b1 x0 x1 x2 xl
  obtain ⟨x0, x1, x2, xl⟩ := HXE.out w1 HB1.out
  have n0 : ¬ (f : Int) < 0 := by omega
  have n8 : ¬ (8 : Int) < (f : Int) := by omega
  go_upto_region 4 with fail
  obtain ⟨S, hS⟩ : ∃ S, S = w1.heap.size := ⟨_, rfl⟩
  obtain ⟨W2, hW2⟩ : ∃ W2, W2 = w1.alloc (Obj.cells (nwCells p A cap none 0 0) 156) := ⟨_, rfl⟩
  have hW2' := hW2
  unfold nwCells at hW2'
  rw [← HN.out] at hW2'
  rw [← hW2', ← hS]
  have hb2 : Below w1.heap.size w1 W2 := by rw [hW2]; exact (Below.refl _ _).alloc (Nat.le_refl _) _
  have hS2 : W2.heap[S]? = some (.cells (nwCells p A cap none 0 0) 156 (0, 0)) := by rw [hW2, hS]; exact heap_alloc_new w1 _
  have HB2 := Lib.hid (below_at HB1.out hb2)
  have HS2 := Lib.hid hS2
  have HSW := Lib.hid (show Wa.heap.size ≤ S by rw [hS]; exact HB1.out.size)
  have HSL := Lib.hid (blk_lt hS2)
  clear hW2 hW2' hb2 hS2 hS x0 x1 x2 xl n0 n8 HCALL HB1
  go_wp2_with fail
  go_loopw [6] (fun v wr => ∃ (i : Nat) (B : Option Addr) (tc : Nat), i ≤ n ∧ v = .int .i64 i ∧ Hid (wr.heap[S]? = some (.cells (nwCells p A cap B i tc) 156 (0, 0))) ∧ Hid (Row wr 162 4 B i tc ((List.replicate i (⟨0, f, fun _ => 0⟩ : Th)).flatMap encT)) ∧ Hid (∀ a, B = some a → W2.heap.size ≤ a.block) ∧ Hid (Mod (fun k => k = S) W2 wr)) (fun v _ => n - (intOf v).toNat)
  case atStart => exact ⟨0, none, 0, Nat.zero_le _, rfl, HS2, Lib.hid (Row.nil _ _ _), Lib.hid (fun a h => by cases h), Lib.hid (Mod.refl _ _)⟩
  case round =>
    obtain ⟨i, B, tc, hi, rfl, HS, HR, HA, HM⟩ := hrel
    have hbw : Below Wa.heap.size Wa wr := HB2.out.trans (HM.out.below _ HB2.out.size (fun k hk e => by have := HSW.out; omega))
    have HBW := Lib.hid hbw
    obtain ⟨x0, x1, x2, xl⟩ := HXE.out wr hbw
    clear hbw
    by_cases hlt : i < n
    · have k1 : (0 : Int) ≤ (i : Int) := Int.natCast_nonneg _
      have k2 : (i : Int) < (n : Int) := by omega
      have s3 : wr.cell? ⟨S, 3, none⟩ = some (.slice B i tc) := by rw [cell_blk HS.out]; rfl
      have f3 : ∀ u : World, u.heap[S]? = some (.cells (nwCells p A cap B i tc) 156 (0, 0)) → u.cell? ⟨S, 3, none⟩ = some (.slice B i tc) ∧ u.frozen? ⟨S, 3, none⟩ = false ∧ S < u.heap.size := fun u hu => ⟨by rw [cell_blk hu]; rfl, free_blk hu _, blk_lt hu⟩
      have F3 := Lib.hid f3
      have sl : S < wr.heap.size := blk_lt HS.out
      clear f3
      go_upto_region 6 with (at_builtin; refine wpList_append_row (by rfl) _ _ _ (by rfl) 162 i0 _ 4 32 Tryz.underlying154 hi0 hz0 hz1 hz2 rfl (by omega) B i tc ((List.replicate i (⟨0, f, fun _ => 0⟩ : Th)).flatMap encT) (by rfl) (HR.out.alloc _) ⟨wr.heap.size, 0, none⟩ 1 1 [.int .i64 0, .int .i64 (f : Int), .int .i64 0, .int .i64 0] (by rfl) (by rfl) (World.news_of_block (cs := #[.int .i64 0, .int .i64 (f : Int), .int .i64 0, .int .i64 0]) (t := 162) (fr := (0, 0)) (heap_alloc_new wr _)) (by simp [Value.oneCell']) (by omega) (by unfold maxLen; omega) (by omega) ?_; intro g1 of1 cap1 w3 hown hm hat; obtain ⟨s4, f4, l4⟩ := F3.out w3 ((hm.block S (by simp; have := HSL.out; have := HM.out.size; omega) (fun ⟨a, e1, e2⟩ => by have := HA.out a e1; have := HSL.out; omega)).trans ((((Below.refl wr.heap.size wr).alloc (Nat.le_refl _) _).block S (blk_lt HS.out)).trans HS.out)); have HOWN := Lib.hid hown; have HMM := Lib.hid hm; have HAT := Lib.hid hat; clear hown hm hat)
      have hal : Below wr.heap.size wr (wr.alloc (Obj.cells #[.int .i64 0, .int .i64 (f : Int), .int .i64 0, .int .i64 0] 162)) := (Below.refl _ _).alloc (Nat.le_refl _) _
      have hg1 : W2.heap.size ≤ g1 := by
        rcases HAT.out with ⟨a, e4, e5⟩ | h
        · have := HA.out a e4; omega
        · have := hal.size; have := HM.out.size; omega
      have hS3 : w3.heap[S]? = some (.cells (nwCells p A cap B i tc) 156 (0, 0)) := (HMM.out.block S (by have := hal.size; omega) (fun ⟨a, e1, e2⟩ => by have := HA.out a e1; have := HSL.out; omega)).trans ((hal.block S sl).trans HS.out)
      have hm3 : Mod (fun k => k = S) W2 w3 := (HM.out.trans (Mod.of_below_size hal _)).then HMM.out (fun q hq ⟨a, e4, e5⟩ => by have := HA.out a e4; omega)
      have hsc := (Mod.refl (fun k => k = S) w3).setCell (p := ⟨S, 3, none⟩) (fun _ => rfl) (.slice (some ⟨g1, of1, none⟩) (i + 1) cap1)
      have HG1 := Lib.hid hg1
      have HS3 := Lib.hid hS3
      have HM3 := Lib.hid hm3
      have HSC := Lib.hid hsc
      clear hal hg1 hS3 hm3 hsc
      go_wp2_with fail
      go_roundw
      case rel =>
        refine ⟨i + 1, some ⟨g1, of1, none⟩, cap1, by omega, by go_num, Lib.hid ?_, Lib.hid ?_, Lib.hid (fun a ha => by injection ha with ha; subst ha; exact HG1.out), Lib.hid (HM3.out.trans HSC.out)⟩
        · rw [set_blk HS3.out]; simp [nwCells]
        · have hr := HOWN.out.mod HSC.out (fun a ha e => by injection ha with ha; subst ha; have e' : g1 = S := e; have := HSL.out; have := HG1.out; omega)
          rw [List.replicate_succ', List.flatMap_append]
          simpa [encT] using hr
      case measure => simp [intOf]; omega
    · obtain rfl : i = n := by omega
      obtain ⟨g, o, rfl⟩ := HR.out.some_of_pos (by have := HR.out.2.1; omega)
      have hgl := HA.out _ rfl
      have HGL := Lib.hid hgl
      clear hgl
      go_wp2_with fail
      go_ret
      have hlen : (Pr.start p f).th = List.replicate i (⟨0, f, fun _ => 0⟩ : Th) := by
        unfold Pr.start
        simp only
        rw [HN.out, List.map_const']
      have hw2 : w.heap.size ≤ W2.heap.size := by have := HB.out.size; have := HB2.out.size; omega
      refine ⟨S, rfl, g, ⟨o, A, cap, tc, ?_, ?_, ?_, ?_, ?_, ?_, ?_⟩, by have := HB.out.size; have := HSW.out; omega, by have hgg : W2.heap.size ≤ g := HGL.out; omega, below_at HB.out HBW.out⟩
      · rw [HS.out]
        unfold nwCells rfCells
        rw [hlen, List.length_replicate]
        simp [Pr.start]
      · rw [hlen, List.length_replicate]; exact HR.out
      · exact HIN.out.1.below (below_at HB.out HBW.out)
      · intro h; have h := HIN.out.2 _ h; have := HB.out.size; have := HSW.out; omega
      · intro h; have h := HIN.out.2 _ h; have hgg : W2.heap.size ≤ g := HGL.out; omega
      · intro h; have hgg : W2.heap.size ≤ g := HGL.out; have := HSL.out; omega
      · rw [hlen, List.length_replicate]; exact HN.out
theorem refNew_ok (w : World) (p : Pg) (A : Option Addr) (cap : Nat) (f : Nat) (hin : PgIn w p A) (hok : Pr.Ok p) (hf : f ≤ 8) :
    Calls Tryz.prog 49 #[valP p A cap, .int .i64 (f : Int)] w fun x w' => ∃ (S T o : Nat), x = .returned (.pointer (some ⟨S, 0, none⟩)) ∧ RAt w' (fun k => k < w.heap.size) S T o (Pr.start p f) ∧ w.heap.size ≤ S ∧ w.heap.size ≤ T ∧ Below w.heap.size w w' :=
  refNew_okC w p A cap f _ hin.1 (fun k hk => hk) hin hok hf
end Go.Proofs.YtckdofjpoajblaaGreat
namespace Go.Proofs.YtckdofjpoajblaaGreat
open Go.RowKit
set_option linter.unusedVariables false
set_option maxRecDepth 100000 in
set_option maxHeartbeats 4000000 in
theorem refNext_any (w : World) (C : Nat → Prop) (S T o : Nat) (s : St) (t : Nat) (h : RAt w C S T o s) (hw : Pr.Wf s) (ht : t < s.th.length) :
    Calls Tryz.prog 84 #[.pointer (some ⟨S, 0, none⟩), .int .i64 (t : Int)] w fun x w' => x = .returned (.tuple #[valE ((Pr.next s t).getD Pr.zeroE), .bool (Pr.next s t).isSome]) ∧ Below w.heap.size w w' := by
  obtain ⟨Wa, X, hWa, hX, hBa, hXl, hXk⟩ := ev0_box w
  have hS := h.below hBa
  obtain ⟨x, hx⟩ := get_some ht
  obtain ⟨q, hq⟩ := get_some (show t < s.p.code.length by rw [← hw.len]; exact ht)
  have hn4 := hw.n4
  have hq8 := hw.q8 hq
  obtain ⟨hf8, hp8⟩ := hw.bnd t x hx
  obtain ⟨PA, pc, tc, _, _, z2, z3, _, _, zc⟩ := hS.cells
  obtain ⟨t0, t1, _⟩ := hS.thread t x hx
  obtain ⟨g, og, A', c', rfl, hCg, hgl, hrq, hqc, hcm, hcell⟩ := zc.get t q hq
  have hins : Pr.ins s t = if x.fuel = 0 then none else q[x.pc]? := by unfold Pr.ins; rw [hx, hq]
  obtain ⟨n, hn⟩ : ∃ n, n = s.th.length := ⟨_, rfl⟩
  rw [show s.p.code.length = n by rw [hn]; exact hw.len.symm] at z2
  rw [← hn] at z3 ht hn4
  have hf : ∀ u, Below Wa.heap.size Wa u → u.cell? ⟨S, 3, none⟩ = some (.slice (some ⟨T, o, none⟩) n tc) ∧ u.cell? ⟨S, 2, none⟩ = some (.slice (some ⟨g, og, none⟩) n pc) ∧ u.cell? ⟨T, o + t * 4, none⟩ = some (.int .i64 (x.pc : Nat)) ∧ u.cell? ⟨T, o + t * 4 + 1, none⟩ = some (.int .i64 (x.fuel : Nat)) ∧ u.cell? ⟨g, og + t, none⟩ = some (.slice A' q.length c') ∧ S < u.heap.size ∧ T < u.heap.size ∧ g < u.heap.size ∧ RAt u C S T o s := fun u hu => by
    have hb := hu.size
    exact ⟨(World.cell?_of_block (hu.block S hS.lt.1)).trans z3, (World.cell?_of_block (hu.block S hS.lt.1)).trans z2, (World.cell?_of_block (hu.block T hS.lt.2)).trans t0, (World.cell?_of_block (hu.block T hS.lt.2)).trans t1, hcell u (hu.block g hgl), by have := hS.lt; omega, by have := hS.lt; omega, by omega, hS.below hu⟩
  have hin : ∀ i, q[x.pc]? = some i → ∃ g2 o2, A' = some ⟨g2, o2, none⟩ ∧ ∀ u, Below Wa.heap.size Wa u → InAt u g2 (o2 + x.pc * 4) i ∧ g2 < u.heap.size := fun i hi => by
    obtain ⟨g2, o2, e, _, hl2, hc⟩ := hrq.ins x.pc i hi
    exact ⟨g2, o2, e, fun u hu => ⟨hc u (hu.block g2 hl2), by have := hu.size; omega⟩⟩
  have hio : ∀ i, Pr.ins s t = some i → ∃ n : Int, 0 ≤ n ∧ n ≤ 8 ∧ Pr.InsOk s.p.vars s.p.mtx n i := fun i hi => hw.insOk hi
  have hmm := hw.ok.1.2.2.2.1
  have HF := Lib.hid hf
  have HIN := Lib.hid hin
  have HIO := Lib.hid hio
  have HINS := Lib.hid hins
  have HB := Lib.hid hBa
  have HXK := Lib.hid hXk
  have HXW := Lib.hid (Nat.le_of_eq hX.symm)
  have HXT := Lib.hid (And.intro hx hn)
  have HMM := Lib.hid hmm
  have k1 : (0 : Int) ≤ (t : Int) := Int.natCast_nonneg _
  have k2 : (t : Int) < (n : Int) := by omega
  have k3 : ¬ (n : Int) ≤ (t : Int) := by omega
  have k4 : ¬ n ≤ t := by omega
  have d1 : decide (n ≤ t) = false := decide_eq_false k4
  have HWB : Hid (Below Wa.heap.size Wa Wa) := Lib.hid (Below.refl _ _)
  clear hf hin hio hins hBa hXk hx hq hcell hrq hS z2 z3 t0 t1 zc h hw hCg hn hmm hgl hqc hcm
  go_enter Tryz.func84, Tryz.ntmps84
  go_upto_region 1 with fail
  rw [← hWa, ← hX]
  clear hWa hX
  by_cases hfu : x.fuel = 0
  · have e1 : (((x.fuel : Nat) : Int) == 0) = true := by simpa using hfu
    have HFU := Lib.hid hfu
    clear hfu
    refine wp_region_planF (by kernel_rfl) (fun u => Below Wa.heap.size Wa u) [] [(0, .pure), (1, .pure), (2, .pure), (3, .pure), (4, .pure), (5, .pure), (6, .pure), (7, .load), (8, .pure), (9, .pure), (10, .pure), (11, .pure), (12, .pure), (13, .pure), (14, .pure), (15, .load), (16, .pure), (17, .pure), (18, .pure), (19, .load), (20, .pure), (21, .pure), (22, .pure), (23, .pure), (24, .pure), (25, .pure), (26, .load), (27, .pure), (28, .pure), (29, .pure), (30, .load), (31, .pure), (32, .pure), (33, .pure), (34, .pure), (35, .load), (36, .pure), (37, .pure), (38, .load), (39, .pure), (40, .pure), (41, .pure)] (by simp only [List.map_cons, List.map_nil, List.getElem?_toArray, List.getElem?_cons_succ, List.getElem?_cons_zero]; rfl) (by kernel_rfl) (fun _ _ d _ _ h => by cases d <;> exact h) ((Below.refl _ _).drew) ?_
    obtain ⟨Wd, hWd⟩ : ∃ z, z = Wa.drew := ⟨_, rfl⟩
    rw [← hWd]
    have hbd : Below Wa.heap.size Wa Wd := by rw [hWd]; exact (Below.refl _ _).drew
    have hX5 := (hbd.block X hXl).trans HXK.out
    have HBD := Lib.hid hbd
    clear hWd hbd
    repeat (first
      | (refine plan_pure (v := ?_) (by rfl) (fun w1 => ?_) ?_
         rotate_left
         · go_simp <;> with_reducible rfl
         simp only [Act.put, List.setIfInBounds_toArray, List.set_cons_zero, List.set_cons_succ])
      | (refine plan_off (by rfl) ?_
         simp only [Act.put, List.setIfInBounds_toArray, List.set_cons_zero, List.set_cons_succ])
      | (refine plan_load_off (by rfl) ?_
         simp only [Act.put, List.setIfInBounds_toArray, List.set_cons_zero, List.set_cons_succ])
      | (refine plan_load (v := ?_) (by rfl) (fun w1 hw1 => ?_) ?_
         rotate_left
         · (have qf := HF.out w1 (HWB.out.trans hw1)
            obtain ⟨c3, c2, t0, t1, ccode, sl, tl, gl, _⟩ := qf
            clear hw1
            go_simp <;> with_reducible rfl)
         simp only [Act.put, List.setIfInBounds_toArray, List.set_cons_zero, List.set_cons_succ]))
    refine plan_end ?_
    obtain ⟨V2, hV2, ⟨d0, d1', d2, d3⟩, hmv⟩ := in4_exit hX5 (.int .i64 0) (.int .i64 0) (.int .i64 0) (.bool false)
    obtain ⟨⟨e0, e1', e2, e3⟩, el, g0, g1, g2, g3⟩ := in4_cells hX5
    have HV2 := Lib.hid hV2
    have HMV := Lib.hid hmv
    clear hV2 hmv hX5
    go_wp2_with fail
    rw [← HV2.out]
    refine bodyPost_ret (v := .tuple #[.agg #[.int .i64 0, .int .i64 0, .int .i64 0, .bool false], .bool false]) (by simp [results, Tryz.results84, go_sem, d0, d1', d2, d3]) rfl ?_
    exact ⟨by rw [show Pr.next s t = none by unfold Pr.next; rw [HINS.out]; rw [if_pos HFU.out]; rfl]; rfl, (below_at HB.out HBD.out).trans (HMV.out.below _ (by have := HB.out.size; have := HBD.out.size; omega) (fun k hk e => by have := HXW.out; omega))⟩
  · have e1 : (((x.fuel : Nat) : Int) == 0) = false := by simpa using hfu
    have HFU := Lib.hid hfu
    clear hfu
    by_cases hpc : x.pc < q.length
    · obtain ⟨i, hi⟩ := get_some hpc
      obtain ⟨g2, o2, rfl, hcell⟩ := HIN.out i hi
      have hins : Pr.ins s t = some i := by rw [HINS.out, if_neg HFU.out, hi]
      obtain ⟨nI, hn0, hn8', hok⟩ := HIO.out i hins
      have hnx : Pr.next s t = some (Pr.evOf s t i) := by unfold Pr.next; rw [hins]; rfl
      have HNX := Lib.hid hnx
      have HOK := Lib.hid hok
      have HCELL := Lib.hid hcell
      have q0 : (0 : Int) ≤ ((x.pc : Nat) : Int) := Int.natCast_nonneg _
      have e2 : ((x.pc : Nat) : Int) < ((q.length : Nat) : Int) := by omega
      have e3 : ¬ ((q.length : Nat) : Int) ≤ ((x.pc : Nat) : Int) := by omega
      have e4 : ¬ q.length ≤ x.pc := by omega
      have e5 : decide (q.length ≤ x.pc) = false := decide_eq_false e4
      clear hpc hi hcell hins hnx hok hn0 hn8' HIO HIN HINS
      obtain ⟨ik, ir, ix, im⟩ := i
      refine wp_region_planF (by kernel_rfl) (fun u => Below Wa.heap.size Wa u) [] [(0, .pure), (1, .pure), (2, .pure), (3, .pure), (4, .pure), (5, .pure), (6, .pure), (7, .load), (8, .pure), (9, .pure), (10, .pure), (11, .pure), (12, .pure), (13, .pure), (14, .pure), (15, .load), (16, .pure), (17, .pure), (18, .pure), (19, .load), (20, .pure), (21, .pure), (22, .pure), (23, .pure), (24, .pure), (25, .pure), (26, .load), (27, .pure), (28, .pure), (29, .pure), (30, .load), (31, .pure), (32, .pure), (33, .pure), (34, .pure), (35, .load), (36, .pure), (37, .pure), (38, .load), (39, .pure), (40, .pure), (41, .pure)] (by simp only [List.map_cons, List.map_nil, List.getElem?_toArray, List.getElem?_cons_succ, List.getElem?_cons_zero]; rfl) (by kernel_rfl) (fun _ _ d _ _ h => by cases d <;> exact h) ((Below.refl _ _).drew) ?_
      obtain ⟨Wd, hWd⟩ : ∃ z, z = Wa.drew := ⟨_, rfl⟩
      rw [← hWd]
      have hbd : Below Wa.heap.size Wa Wd := by rw [hWd]; exact (Below.refl _ _).drew
      have HBD := Lib.hid hbd
      clear hWd hbd
      repeat (first
        | (refine plan_pure (v := ?_) (by rfl) (fun w1 => ?_) ?_
           rotate_left
           · go_simp <;> with_reducible rfl
           simp only [Act.put, List.setIfInBounds_toArray, List.set_cons_zero, List.set_cons_succ])
        | (refine plan_off (by rfl) ?_
           simp only [Act.put, List.setIfInBounds_toArray, List.set_cons_zero, List.set_cons_succ])
        | (refine plan_load_off (by rfl) ?_
           simp only [Act.put, List.setIfInBounds_toArray, List.set_cons_zero, List.set_cons_succ])
        | (refine plan_load (v := ?_) (by rfl) (fun w1 hw1 => ?_) ?_
           rotate_left
           · (have qf := HF.out w1 (HWB.out.trans hw1)
              obtain ⟨c3, c2, t0, t1, ccode, sl, tl, gl, _⟩ := qf
              clear hw1
              go_simp <;> with_reducible rfl)
           simp only [Act.put, List.setIfInBounds_toArray, List.set_cons_zero, List.set_cons_succ]))
      refine plan_end ?_
      go_upto_region 3 with fail
      refine wp_region_planF (by kernel_rfl) (fun u => Below Wa.heap.size Wa u) [19] [(0, .pure), (1, .pure), (2, .pure), (3, .pure), (4, .load), (5, .pure), (6, .pure), (7, .load), (8, .pure), (9, .pure), (10, .pure), (11, .load), (12, .pure), (13, .pure), (14, .pure), (15, .load), (16, .pure), (17, .load), (18, .eff), (19, .last)] (by simp only [List.map_cons, List.map_nil, List.getElem?_toArray, List.getElem?_cons_succ, List.getElem?_cons_zero]; rfl) (by kernel_rfl) (fun _ _ d _ _ h => by cases d <;> exact h) (HBD.out.drew) ?_
      obtain ⟨We, hWe⟩ : ∃ z, z = Wd.drew := ⟨_, rfl⟩
      rw [← hWe]
      have hbe : Below Wa.heap.size Wa We := by rw [hWe]; exact HBD.out.drew
      have HBE := Lib.hid hbe
      clear hWe hbe
      repeat (first
        | (refine plan_pure (v := ?_) (by rfl) (fun w1 => ?_) ?_
           rotate_left
           · go_simp <;> with_reducible rfl
           simp only [Act.put, List.setIfInBounds_toArray, List.set_cons_zero, List.set_cons_succ])
        | (refine plan_off (by rfl) ?_
           simp only [Act.put, List.setIfInBounds_toArray, List.set_cons_zero, List.set_cons_succ])
        | (refine plan_load_off (by rfl) ?_
           simp only [Act.put, List.setIfInBounds_toArray, List.set_cons_zero, List.set_cons_succ])
        | (refine plan_load (v := ?_) (by rfl) (fun w1 hw1 => ?_) ?_
           rotate_left
           · (have qf := HF.out w1 (HWB.out.trans hw1)
              obtain ⟨c3, c2, t0, t1, ccode, sl, tl, gl, _⟩ := qf
              have qi := HCELL.out w1 (HWB.out.trans hw1)
              obtain ⟨⟨i0, i1, i2, i3⟩, il⟩ := qi
              clear hw1
              go_simp <;> with_reducible rfl)
           simp only [Act.put, List.setIfInBounds_toArray, List.set_cons_zero, List.set_cons_succ]))
      obtain ⟨Wf, hWf⟩ : ∃ z, z = We.alloc (Obj.cells #[.int .i64 0, .int .i64 0, .int .i64 0, .int .i64 0] 98) := ⟨_, rfl⟩
      obtain ⟨Z, hZ⟩ : ∃ z, z = We.heap.size := ⟨_, rfl⟩
      have hZk : Wf.heap[Z]? = some (.cells #[.int .i64 0, .int .i64 0, .int .i64 0, .int .i64 0] 98 (0, 0)) := by rw [hWf, hZ]; exact heap_alloc_new We _
      have hbf : Below Wa.heap.size Wa Wf := by rw [hWf]; exact HBE.out.alloc HBE.out.size _
      have hXZ : X < Z := by rw [hZ]; have := HBE.out.size; omega
      refine plan_eff ?_
      go_wp2_with fail
      rw [← hWf, ← hZ]
      have HBF := Lib.hid hbf
      have HZK := Lib.hid hZk
      have HXZ := Lib.hid hXZ
      have HZW := Lib.hid (show Wa.heap.size ≤ Z by rw [hZ]; exact HBE.out.size)
      clear hWf hZ hZk hbf hXZ
      refine plan_on (fun _ h => h) HBF.out ?_
      repeat (first
        | (refine plan_pure (v := ?_) (by rfl) (fun w1 => ?_) ?_
           rotate_left
           · go_simp <;> with_reducible rfl
           simp only [Act.put, List.setIfInBounds_toArray, List.set_cons_zero, List.set_cons_succ])
        | (refine plan_off (by rfl) ?_
           simp only [Act.put, List.setIfInBounds_toArray, List.set_cons_zero, List.set_cons_succ])
        | (refine plan_load_off (by rfl) ?_
           simp only [Act.put, List.setIfInBounds_toArray, List.set_cons_zero, List.set_cons_succ])
        | (refine plan_load (v := ?_) (by rfl) (fun w1 hw1 => ?_) ?_
           rotate_left
           · (have qf := HF.out w1 (HWB.out.trans hw1)
              obtain ⟨c3, c2, t0, t1, ccode, sl, tl, gl, _⟩ := qf
              have qi := HCELL.out w1 (HWB.out.trans hw1)
              obtain ⟨⟨i0, i1, i2, i3⟩, il⟩ := qi
              clear hw1
              go_simp <;> with_reducible rfl)
           simp only [Act.put, List.setIfInBounds_toArray, List.set_cons_zero, List.set_cons_succ]))
      obtain ⟨Wg, hWg, ⟨y0, y1, y2, y3⟩, hmg⟩ := in4_exit HZK.out (.int .i64 ik) (.int .i64 ir) (.int .i64 ix) (.int .i64 im)
      obtain ⟨⟨b0, b1, b2, b3⟩, el, g0, g1, g2', g3⟩ := in4_cells HZK.out
      refine plan_last ?_
      go_wp2_with fail
      repeat (first
        | (refine plan_pure (v := ?_) (by rfl) (fun w1 => ?_) ?_
           rotate_left
           · go_simp <;> with_reducible rfl
           simp only [Act.put, List.setIfInBounds_toArray, List.set_cons_zero, List.set_cons_succ])
        | (refine plan_off (by rfl) ?_
           simp only [Act.put, List.setIfInBounds_toArray, List.set_cons_zero, List.set_cons_succ])
        | (refine plan_load_off (by rfl) ?_
           simp only [Act.put, List.setIfInBounds_toArray, List.set_cons_zero, List.set_cons_succ])
        | (refine plan_load (v := ?_) (by rfl) (fun w1 hw1 => ?_) ?_
           rotate_left
           · (skip
              clear hw1
              go_simp <;> with_reducible rfl)
           simp only [Act.put, List.setIfInBounds_toArray, List.set_cons_zero, List.set_cons_succ]))
      refine plan_end ?_
      rw [← hWg]
      have hbg : Below Wa.heap.size Wa Wg := HBF.out.trans (hmg.below _ HBF.out.size (fun k hk e => by have := HXZ.out; have := HBE.out.size; have := HZW.out; omega))
      have hZg : Wg.heap[Z]? = some (.cells #[.int .i64 ik, .int .i64 ir, .int .i64 ix, .int .i64 im] 98 (0, 0)) := by
        rw [hWg, set_blk (set_blk (set_blk (set_blk HZK.out 0 _) 1 _) 2 _) 3 _]; simp
      obtain ⟨W5, Y, hW5, hY, hB5, hYl, hYe⟩ := ev_box Wg ⟨(t : Int), 1, 0, false⟩
      simp only at hW5
      have hY5 : W5.heap[Y]? = some (.cells #[.int .i64 (t : Int), .int .i64 1, .int .i64 0, .bool false] 51 (0, 0)) := by rw [hW5, hY]; exact heap_alloc_new Wg _
      have hZ5 := (hB5.block Z (blk_lt hZg)).trans hZg
      have HY5 := Lib.hid hY5
      have HZC := Lib.hid (in4_cells hZ5).1
      have HZL := Lib.hid (blk_lt hZ5)
      have HYZ := Lib.hid (show Z < Y by rw [hY]; exact blk_lt hZg)
      have HB5 := Lib.hid (below_at hbg hB5)
      have HYW := Lib.hid (show Wa.heap.size ≤ Y by rw [hY]; exact hbg.size)
      clear hWg y0 y1 y2 y3 hmg b0 b1 b2 b3 el g0 g1 g2' g3 hbg hZg hB5 hYl hYe hY5 hZ5
      go_upto_region 5 with fail
      rw [← hW5, ← hY]
      clear hW5 hY
      obtain ⟨z0, z1, z2, z3⟩ := HZC.out
      have zl := HZL.out
      go_upto_block 0 with fail
      clear z0 z1 z2 z3
      go_cut [73] (fun a w2 => Hid (w2.heap[Y]? = some (.cells (evCells (Pr.evOf s t ⟨ik, ir, ix, im⟩)) 51 (0, 0))) ∧ Hid (Mod (fun k => k = Y) W5 w2))
      case first =>
        rcases (show ik = 1 ∨ ik = 2 ∨ ik = 3 ∨ ik = 4 ∨ ik = 5 ∨ ik = 6 ∨ ik = 7 ∨ ik = 8 from by have h1 := HOK.out.1; have h8 := HOK.out.2.1; simp only at h1 h8; omega) with rfl | rfl | rfl | rfl | rfl | rfl | rfl | rfl
        · obtain ⟨⟨e0, e1', e2', e3'⟩, el, g0, g1, g2', g3⟩ := in4_cells HY5.out
          go_upto_region 8 with fail
          obtain ⟨W6, hW6⟩ : ∃ z, z = W5.setCell ⟨Y, 1, none⟩ (.int .i64 2) := ⟨_, rfl⟩
          rw [← hW6]
          have hm6 : Mod (fun k => k = Y) W5 W6 := by rw [hW6]; exact (Mod.refl (fun k => k = Y) _).setCell (p := ⟨Y, 1, none⟩) (fun _ => rfl) _
          have hY6 : W6.heap[Y]? = some (.cells #[.int .i64 (t : Int), .int .i64 2, .int .i64 0, .bool false] 51 (0, 0)) := by rw [hW6, set_blk HY5.out 1 _]; simp
          have z2' := (hm6.cell Z 2 HZL.out (by have := HYZ.out; omega)).trans HZC.out.2.2.1
          have zl' : Z < W6.heap.size := by have := HZL.out; have := hm6.size; omega
          clear hW6 e0 e1' e2' e3' el g0 g1 g2' g3
          obtain ⟨⟨e0, e1', e2', e3'⟩, el, g0, g1, g2', g3⟩ := in4_cells hY6
          have HY8 := Lib.hid (set_blk hY6 2 (.int .i64 ix))
          have HM8 := Lib.hid (hm6.setCell (p := ⟨Y, 2, none⟩) (fun _ => rfl) (.int .i64 ix))
          clear hY6 hm6
          go_wp2_with fail
          go_meet
          exact ⟨Lib.hid (by rw [HY8.out]; simp [evCells, Pr.evOf]), HM8⟩
        · obtain ⟨⟨e0, e1', e2', e3'⟩, el, g0, g1, g2', g3⟩ := in4_cells HY5.out
          go_upto_region 11 with fail
          obtain ⟨W6, hW6⟩ : ∃ z, z = W5.setCell ⟨Y, 1, none⟩ (.int .i64 3) := ⟨_, rfl⟩
          rw [← hW6]
          have hm6 : Mod (fun k => k = Y) W5 W6 := by rw [hW6]; exact (Mod.refl (fun k => k = Y) _).setCell (p := ⟨Y, 1, none⟩) (fun _ => rfl) _
          have hY6 : W6.heap[Y]? = some (.cells #[.int .i64 (t : Int), .int .i64 3, .int .i64 0, .bool false] 51 (0, 0)) := by rw [hW6, set_blk HY5.out 1 _]; simp
          have z2' := (hm6.cell Z 2 HZL.out (by have := HYZ.out; omega)).trans HZC.out.2.2.1
          have zl' : Z < W6.heap.size := by have := HZL.out; have := hm6.size; omega
          clear hW6 e0 e1' e2' e3' el g0 g1 g2' g3
          obtain ⟨⟨e0, e1', e2', e3'⟩, el, g0, g1, g2', g3⟩ := in4_cells hY6
          have HY8 := Lib.hid (set_blk hY6 2 (.int .i64 ix))
          have HM8 := Lib.hid (hm6.setCell (p := ⟨Y, 2, none⟩) (fun _ => rfl) (.int .i64 ix))
          clear hY6 hm6
          go_wp2_with fail
          go_meet
          exact ⟨Lib.hid (by rw [HY8.out]; simp [evCells, Pr.evOf]), HM8⟩
        · obtain ⟨⟨z0', z1', z2', z3'⟩, _⟩ := (And.intro HZC.out trivial)
          go_wp2_with fail
          go_meet
          exact ⟨Lib.hid (by rw [HY5.out]; simp [evCells, Pr.evOf]), Lib.hid (Mod.refl _ _)⟩
        · obtain ⟨⟨z0', z1', z2', z3'⟩, _⟩ := (And.intro HZC.out trivial)
          go_wp2_with fail
          go_meet
          exact ⟨Lib.hid (by rw [HY5.out]; simp [evCells, Pr.evOf]), Lib.hid (Mod.refl _ _)⟩
        · obtain ⟨⟨e0, e1', e2', e3'⟩, el, g0, g1, g2', g3⟩ := in4_cells HY5.out
          go_upto_region 14 with fail
          obtain ⟨W6, hW6⟩ : ∃ z, z = W5.setCell ⟨Y, 1, none⟩ (.int .i64 4) := ⟨_, rfl⟩
          rw [← hW6]
          have hm6 : Mod (fun k => k = Y) W5 W6 := by rw [hW6]; exact (Mod.refl (fun k => k = Y) _).setCell (p := ⟨Y, 1, none⟩) (fun _ => rfl) _
          have hY6 : W6.heap[Y]? = some (.cells #[.int .i64 (t : Int), .int .i64 4, .int .i64 0, .bool false] 51 (0, 0)) := by rw [hW6, set_blk HY5.out 1 _]; simp
          have z2' := (hm6.cell Z 2 HZL.out (by have := HYZ.out; omega)).trans HZC.out.2.2.1
          have zl' : Z < W6.heap.size := by have := HZL.out; have := hm6.size; omega
          clear hW6 e0 e1' e2' e3' el g0 g1 g2' g3
          obtain ⟨⟨e0, e1', e2', e3'⟩, el, g0, g1, g2', g3⟩ := in4_cells hY6
          have HY8 := Lib.hid (set_blk hY6 2 (.int .i64 ix))
          have HM8 := Lib.hid (hm6.setCell (p := ⟨Y, 2, none⟩) (fun _ => rfl) (.int .i64 ix))
          clear hY6 hm6
          go_wp2_with fail
          go_meet
          exact ⟨Lib.hid (by rw [HY8.out]; simp [evCells, Pr.evOf]), HM8⟩
        · have hx := HOK.out.2.2.2.2.2.1
          have hxm := HOK.out.2.2.2.2.2.2.2.2.2.2.1 (Or.inr rfl)
          have hmm := HMM.out
          simp only at hx hxm
          obtain ⟨m, rfl⟩ : ∃ m : Nat, ix = m := ⟨ix.toNat, by omega⟩
          have hm2 : m < 2 := by omega
          clear hx hxm hmm
          have k5 : (0 : Int) ≤ (m : Int) := Int.natCast_nonneg _
          have k6 : (m : Int) < 2 := by omega
          go_upto_region 16 with fail
          refine wp_region_planF (by kernel_rfl) (fun u => Mod (fun k => k = Y) W5 u) [] [(0, .pure), (1, .pure), (2, .load), (3, .pure), (4, .pure), (5, .pure), (6, .load), (7, .pure), (8, .pure)] (by simp only [List.map_cons, List.map_nil, List.getElem?_toArray, List.getElem?_cons_succ, List.getElem?_cons_zero]; rfl) (by kernel_rfl) (fun _ _ d _ _ h => by cases d <;> exact h) ((Mod.refl _ _).drew) ?_
          obtain ⟨WD, hWD⟩ : ∃ z, z = W5.drew := ⟨_, rfl⟩
          rw [← hWD]
          have hmd : Mod (fun k => k = Y) W5 WD := by rw [hWD]; exact (Mod.refl _ _).drew
          have hyd : WD.heap[Y]? = some (.cells #[.int .i64 (t : Int), .int .i64 1, .int .i64 0, .bool false] 51 (0, 0)) := by rw [hWD]; exact HY5.out
          have HMD := Lib.hid hmd
          have HYD := Lib.hid hyd
          clear hWD hmd hyd
          by_cases hh : s.h m = (t : Int)
          · have hd : (s.h m == (t : Int)) = true := by simpa using hh
            have hev : Pr.evOf s t ⟨6, ir, (m : Int), im⟩ = ⟨t, 5, m, false⟩ := by simp [Pr.evOf, hh]
            have HEV := Lib.hid hev
            clear hev hh
            repeat (first
              | (refine plan_pure (v := ?_) (by rfl) (fun w1 => ?_) ?_
                 rotate_left
                 · go_simp <;> with_reducible rfl
                 simp only [Act.put, List.setIfInBounds_toArray, List.set_cons_zero, List.set_cons_succ])
              | (refine plan_off (by rfl) ?_
                 simp only [Act.put, List.setIfInBounds_toArray, List.set_cons_zero, List.set_cons_succ])
              | (refine plan_load_off (by rfl) ?_
                 simp only [Act.put, List.setIfInBounds_toArray, List.set_cons_zero, List.set_cons_succ])
              | (refine plan_load (v := ?_) (by rfl) (fun w1 hw1 => ?_) ?_
                 rotate_left
                 · (have qz := (hw1.cell Z 2 HZL.out (by have := HYZ.out; omega)).trans HZC.out.2.2.1
                    have hbz : Below Wa.heap.size Wa w1 := HB5.out.trans (hw1.below _ HB5.out.size (fun k hk e => by have := HYW.out; omega))
                    have qf := HF.out w1 hbz
                    have qr := qf.2.2.2.2.2.2.2.2
                    have sl := qf.2.2.2.2.2.1
                    have zl : Z < w1.heap.size := by have := hw1.size; have := HZL.out; omega
                    obtain ⟨PA, pc', tc', _, _, _, _, _, qh, _⟩ := qr.cells
                    have q3 := qh m hm2
                    clear qf qh qr hbz
                    clear hw1
                    go_simp <;> with_reducible rfl)
                 simp only [Act.put, List.setIfInBounds_toArray, List.set_cons_zero, List.set_cons_succ]))
            refine plan_end ?_
            obtain ⟨⟨e0, e1', e2', e3'⟩, el, g0, g1, g2', g3⟩ := in4_cells HYD.out
            go_upto_region 18 with fail
            obtain ⟨W6, hW6⟩ : ∃ z, z = WD.setCell ⟨Y, 1, none⟩ (.int .i64 5) := ⟨_, rfl⟩
            rw [← hW6]
            have hm6 : Mod (fun k => k = Y) W5 W6 := by rw [hW6]; exact HMD.out.setCell (p := ⟨Y, 1, none⟩) (fun _ => rfl) _
            have hY6 : W6.heap[Y]? = some (.cells #[.int .i64 (t : Int), .int .i64 5, .int .i64 0, .bool false] 51 (0, 0)) := by rw [hW6, set_blk HYD.out 1 _]; simp
            have z2' := (hm6.cell Z 2 HZL.out (by have := HYZ.out; omega)).trans HZC.out.2.2.1
            have zl' : Z < W6.heap.size := by have := HZL.out; have := hm6.size; omega
            clear hW6 e0 e1' e2' e3' el g0 g1 g2' g3
            obtain ⟨⟨e0, e1', e2', e3'⟩, el, g0, g1, g2', g3⟩ := in4_cells hY6
            have HY8 := Lib.hid (set_blk hY6 2 (.int .i64 (m : Int)))
            have HM8 := Lib.hid (hm6.setCell (p := ⟨Y, 2, none⟩) (fun _ => rfl) (.int .i64 (m : Int)))
            clear hY6 hm6
            go_wp2_with fail
            go_meet
            exact ⟨Lib.hid (by rw [HY8.out, HEV.out]; simp [evCells]), HM8⟩
          · have hd : (s.h m == (t : Int)) = false := by simpa using hh
            have hev : Pr.evOf s t ⟨6, ir, (m : Int), im⟩ = ⟨t, 1, 0, true⟩ := by simp [Pr.evOf, hh]
            have HEV := Lib.hid hev
            clear hev hh
            repeat (first
              | (refine plan_pure (v := ?_) (by rfl) (fun w1 => ?_) ?_
                 rotate_left
                 · go_simp <;> with_reducible rfl
                 simp only [Act.put, List.setIfInBounds_toArray, List.set_cons_zero, List.set_cons_succ])
              | (refine plan_off (by rfl) ?_
                 simp only [Act.put, List.setIfInBounds_toArray, List.set_cons_zero, List.set_cons_succ])
              | (refine plan_load_off (by rfl) ?_
                 simp only [Act.put, List.setIfInBounds_toArray, List.set_cons_zero, List.set_cons_succ])
              | (refine plan_load (v := ?_) (by rfl) (fun w1 hw1 => ?_) ?_
                 rotate_left
                 · (have qz := (hw1.cell Z 2 HZL.out (by have := HYZ.out; omega)).trans HZC.out.2.2.1
                    have hbz : Below Wa.heap.size Wa w1 := HB5.out.trans (hw1.below _ HB5.out.size (fun k hk e => by have := HYW.out; omega))
                    have qf := HF.out w1 hbz
                    have qr := qf.2.2.2.2.2.2.2.2
                    have sl := qf.2.2.2.2.2.1
                    have zl : Z < w1.heap.size := by have := hw1.size; have := HZL.out; omega
                    obtain ⟨PA, pc', tc', _, _, _, _, _, qh, _⟩ := qr.cells
                    have q3 := qh m hm2
                    clear qf qh qr hbz
                    clear hw1
                    go_simp <;> with_reducible rfl)
                 simp only [Act.put, List.setIfInBounds_toArray, List.set_cons_zero, List.set_cons_succ]))
            refine plan_end ?_
            obtain ⟨⟨e0, e1', e2', e3'⟩, el, g0, g1, g2', g3⟩ := in4_cells HYD.out
            have HY8 := Lib.hid (set_blk HYD.out 3 (.bool true))
            have HM8 := Lib.hid (HMD.out.setCell (p := ⟨Y, 3, none⟩) (fun _ => rfl) (.bool true))
            go_wp2_with fail
            go_meet
            exact ⟨Lib.hid (by rw [HY8.out, HEV.out]; simp [evCells]), HM8⟩
        · obtain ⟨⟨z0', z1', z2', z3'⟩, _⟩ := (And.intro HZC.out trivial)
          go_wp2_with fail
          go_meet
          exact ⟨Lib.hid (by rw [HY5.out]; simp [evCells, Pr.evOf]), Lib.hid (Mod.refl _ _)⟩
        · have hx := HOK.out.2.2.2.2.2.2.1
          have hxm := HOK.out.2.2.2.2.2.2.2.1
          simp only at hx hxm
          obtain ⟨m, rfl⟩ : ∃ m : Nat, ir = m := ⟨ir.toNat, by omega⟩
          have hm2 : m < 2 := by omega
          clear hx hxm
          have k5 : (0 : Int) ≤ (m : Int) := Int.natCast_nonneg _
          have k6 : (m : Int) < 2 := by omega
          obtain ⟨y, hy⟩ : ∃ y, y = x.r m := ⟨_, rfl⟩
          have HYR := Lib.hid hy
          clear hy
          go_upto_region 21 with fail
          refine wp_region_planF (by kernel_rfl) (fun u => Mod (fun k => k = Y) W5 u) [13] [(0, .pure), (1, .pure), (2, .pure), (3, .load), (4, .pure), (5, .pure), (6, .load), (7, .pure), (8, .pure), (9, .pure), (10, .load), (11, .pure), (12, .pure), (13, .last)] (by simp only [List.map_cons, List.map_nil, List.getElem?_toArray, List.getElem?_cons_succ, List.getElem?_cons_zero]; rfl) (by kernel_rfl) (fun _ _ d _ _ h => by cases d <;> exact h) ((Mod.refl _ _).drew) ?_
          obtain ⟨WD, hWD⟩ : ∃ z, z = W5.drew := ⟨_, rfl⟩
          rw [← hWD]
          have hmd : Mod (fun k => k = Y) W5 WD := by rw [hWD]; exact (Mod.refl _ _).drew
          have hyd : WD.heap[Y]? = some (.cells #[.int .i64 (t : Int), .int .i64 1, .int .i64 0, .bool false] 51 (0, 0)) := by rw [hWD]; exact HY5.out
          have HMD := Lib.hid hmd
          have HYD := Lib.hid hyd
          clear hWD hmd hyd
          by_cases hy0 : y = 0
          · have hev : Pr.evOf s t ⟨8, (m : Int), ix, im⟩ = ⟨t, 1, 0, true⟩ := by simp [Pr.evOf, HXT.out.1, ← HYR.out, hy0]
            have hd : (y == 0) = true := by simpa using hy0
            have HEV := Lib.hid hev
            clear hev
            repeat (first
              | (refine plan_pure (v := ?_) (by rfl) (fun w1 => ?_) ?_
                 rotate_left
                 · go_simp <;> with_reducible rfl
                 simp only [Act.put, List.setIfInBounds_toArray, List.set_cons_zero, List.set_cons_succ])
              | (refine plan_off (by rfl) ?_
                 simp only [Act.put, List.setIfInBounds_toArray, List.set_cons_zero, List.set_cons_succ])
              | (refine plan_load_off (by rfl) ?_
                 simp only [Act.put, List.setIfInBounds_toArray, List.set_cons_zero, List.set_cons_succ])
              | (refine plan_load (v := ?_) (by rfl) (fun w1 hw1 => ?_) ?_
                 rotate_left
                 · (have qz := (hw1.cell Z 1 HZL.out (by have := HYZ.out; omega)).trans HZC.out.2.1
                    have hbz : Below Wa.heap.size Wa w1 := HB5.out.trans (hw1.below _ HB5.out.size (fun k hk e => by have := HYW.out; omega))
                    have qf := HF.out w1 hbz
                    have qr := qf.2.2.2.2.2.2.2.2
                    have sl := qf.2.2.2.2.2.1
                    have zl : Z < w1.heap.size := by have := hw1.size; have := HZL.out; omega
                    have q3 := (qr.thread t x HXT.out.1).2.2 m hm2
                    rw [← HYR.out] at q3
                    have q4 := qf.1
                    have ql := qf.2.2.2.2.2.2.1
                    clear qf qr hbz
                    clear hw1
                    go_simp <;> with_reducible rfl)
                 simp only [Act.put, List.setIfInBounds_toArray, List.set_cons_zero, List.set_cons_succ]))
            obtain ⟨⟨e0, e1', e2', e3'⟩, el, g0, g1, g2', g3⟩ := in4_cells HYD.out
            have HY8 := Lib.hid (set_blk HYD.out 3 (.bool true))
            have HM8 := Lib.hid (HMD.out.setCell (p := ⟨Y, 3, none⟩) (fun _ => rfl) (.bool true))
            refine plan_last ?_
            go_wp2_with fail
            repeat (first
              | (refine plan_pure (v := ?_) (by rfl) (fun w1 => ?_) ?_
                 rotate_left
                 · go_simp <;> with_reducible rfl
                 simp only [Act.put, List.setIfInBounds_toArray, List.set_cons_zero, List.set_cons_succ])
              | (refine plan_off (by rfl) ?_
                 simp only [Act.put, List.setIfInBounds_toArray, List.set_cons_zero, List.set_cons_succ])
              | (refine plan_load_off (by rfl) ?_
                 simp only [Act.put, List.setIfInBounds_toArray, List.set_cons_zero, List.set_cons_succ])
              | (refine plan_load (v := ?_) (by rfl) (fun w1 hw1 => ?_) ?_
                 rotate_left
                 · (skip
                    clear hw1
                    go_simp <;> with_reducible rfl)
                 simp only [Act.put, List.setIfInBounds_toArray, List.set_cons_zero, List.set_cons_succ]))
            refine plan_end ?_
            go_wp2_with fail
            go_meet
            exact ⟨Lib.hid (by rw [HY8.out, HEV.out]; simp [evCells]), HM8⟩
          · have hev : Pr.evOf s t ⟨8, (m : Int), ix, im⟩ = ⟨t, 1, 0, false⟩ := by simp [Pr.evOf, HXT.out.1, ← HYR.out, hy0]
            have hd : (y == 0) = false := by simpa using hy0
            have HEV := Lib.hid hev
            clear hev
            repeat (first
              | (refine plan_pure (v := ?_) (by rfl) (fun w1 => ?_) ?_
                 rotate_left
                 · go_simp <;> with_reducible rfl
                 simp only [Act.put, List.setIfInBounds_toArray, List.set_cons_zero, List.set_cons_succ])
              | (refine plan_off (by rfl) ?_
                 simp only [Act.put, List.setIfInBounds_toArray, List.set_cons_zero, List.set_cons_succ])
              | (refine plan_load_off (by rfl) ?_
                 simp only [Act.put, List.setIfInBounds_toArray, List.set_cons_zero, List.set_cons_succ])
              | (refine plan_load (v := ?_) (by rfl) (fun w1 hw1 => ?_) ?_
                 rotate_left
                 · (have qz := (hw1.cell Z 1 HZL.out (by have := HYZ.out; omega)).trans HZC.out.2.1
                    have hbz : Below Wa.heap.size Wa w1 := HB5.out.trans (hw1.below _ HB5.out.size (fun k hk e => by have := HYW.out; omega))
                    have qf := HF.out w1 hbz
                    have qr := qf.2.2.2.2.2.2.2.2
                    have sl := qf.2.2.2.2.2.1
                    have zl : Z < w1.heap.size := by have := hw1.size; have := HZL.out; omega
                    have q3 := (qr.thread t x HXT.out.1).2.2 m hm2
                    rw [← HYR.out] at q3
                    have q4 := qf.1
                    have ql := qf.2.2.2.2.2.2.1
                    clear qf qr hbz
                    clear hw1
                    go_simp <;> with_reducible rfl)
                 simp only [Act.put, List.setIfInBounds_toArray, List.set_cons_zero, List.set_cons_succ]))
            obtain ⟨⟨e0, e1', e2', e3'⟩, el, g0, g1, g2', g3⟩ := in4_cells HYD.out
            have HY8 := Lib.hid (set_blk HYD.out 3 (.bool false))
            have HM8 := Lib.hid (HMD.out.setCell (p := ⟨Y, 3, none⟩) (fun _ => rfl) (.bool false))
            refine plan_last ?_
            go_wp2_with fail
            repeat (first
              | (refine plan_pure (v := ?_) (by rfl) (fun w1 => ?_) ?_
                 rotate_left
                 · go_simp <;> with_reducible rfl
                 simp only [Act.put, List.setIfInBounds_toArray, List.set_cons_zero, List.set_cons_succ])
              | (refine plan_off (by rfl) ?_
                 simp only [Act.put, List.setIfInBounds_toArray, List.set_cons_zero, List.set_cons_succ])
              | (refine plan_load_off (by rfl) ?_
                 simp only [Act.put, List.setIfInBounds_toArray, List.set_cons_zero, List.set_cons_succ])
              | (refine plan_load (v := ?_) (by rfl) (fun w1 hw1 => ?_) ?_
                 rotate_left
                 · (skip
                    clear hw1
                    go_simp <;> with_reducible rfl)
                 simp only [Act.put, List.setIfInBounds_toArray, List.set_cons_zero, List.set_cons_succ]))
            refine plan_end ?_
            go_wp2_with fail
            go_meet
            exact ⟨Lib.hid (by rw [HY8.out, HEV.out]; simp [evCells]), HM8⟩
      case rest =>
        obtain ⟨HYC, HMC⟩ := hcut
        obtain ⟨e, he⟩ : ∃ e, e = Pr.evOf s t ⟨ik, ir, ix, im⟩ := ⟨_, rfl⟩
        rw [← he] at HYC
        have hXc : wc.heap[X]? = _ := (HMC.out.block X (by have := HB5.out.size; have := blk_lt HXK.out; omega) (by have := HXZ.out; have := HYZ.out; omega)).trans ((HB5.out.block X (blk_lt HXK.out)).trans HXK.out)
        obtain ⟨V2, hV2, ⟨d0, d1', d2, d3⟩, hmv⟩ := in4_exit hXc (.int .i64 e.t) (.int .i64 e.k) (.int .i64 e.o) (.bool e.f)
        obtain ⟨⟨e0, e1', e2', e3'⟩, el, g0, g1, g2', g3⟩ := in4_cells hXc
        obtain ⟨⟨y0, y1, y2, y3⟩, yl, _⟩ := in4_cells HYC.out
        have HE := Lib.hid he
        have HV2 := Lib.hid hV2
        have HMV := Lib.hid hmv
        clear hV2 hmv he hXc
        go_wp2_with fail
        rw [← HV2.out]
        refine bodyPost_ret (v := .tuple #[.agg #[.int .i64 e.t, .int .i64 e.k, .int .i64 e.o, .bool e.f], .bool true]) (by simp [results, Tryz.results84, go_sem, d0, d1', d2, d3]) rfl ?_
        refine ⟨by rw [HNX.out, Option.getD_some, Option.isSome_some, ← HE.out]; rfl, ?_⟩
        have h1 := below_at HB.out HB5.out
        have h2 := h1.trans (HMC.out.below _ h1.size (fun k hk e => by have := HYW.out; have := HB.out.size; omega))
        exact h2.trans (HMV.out.below _ h2.size (fun k hk e => by have := HXW.out; omega))
    · have e2 : ¬ ((x.pc : Nat) : Int) < ((q.length : Nat) : Int) := by omega
      have e3 : ((q.length : Nat) : Int) ≤ ((x.pc : Nat) : Int) := by omega
      have e4 : q.length ≤ x.pc := by omega
      have e5 : decide (q.length ≤ x.pc) = true := decide_eq_true e4
      have HP := Lib.hid hpc
      clear hpc
      refine wp_region_planF (by kernel_rfl) (fun u => Below Wa.heap.size Wa u) [] [(0, .pure), (1, .pure), (2, .pure), (3, .pure), (4, .pure), (5, .pure), (6, .pure), (7, .load), (8, .pure), (9, .pure), (10, .pure), (11, .pure), (12, .pure), (13, .pure), (14, .pure), (15, .load), (16, .pure), (17, .pure), (18, .pure), (19, .load), (20, .pure), (21, .pure), (22, .pure), (23, .pure), (24, .pure), (25, .pure), (26, .load), (27, .pure), (28, .pure), (29, .pure), (30, .load), (31, .pure), (32, .pure), (33, .pure), (34, .pure), (35, .load), (36, .pure), (37, .pure), (38, .load), (39, .pure), (40, .pure), (41, .pure)] (by simp only [List.map_cons, List.map_nil, List.getElem?_toArray, List.getElem?_cons_succ, List.getElem?_cons_zero]; rfl) (by kernel_rfl) (fun _ _ d _ _ h => by cases d <;> exact h) ((Below.refl _ _).drew) ?_
      obtain ⟨Wd, hWd⟩ : ∃ z, z = Wa.drew := ⟨_, rfl⟩
      rw [← hWd]
      have hbd : Below Wa.heap.size Wa Wd := by rw [hWd]; exact (Below.refl _ _).drew
      have hX5 := (hbd.block X hXl).trans HXK.out
      have HBD := Lib.hid hbd
      clear hWd hbd
      repeat (first
        | (refine plan_pure (v := ?_) (by rfl) (fun w1 => ?_) ?_
           rotate_left
           · go_simp <;> with_reducible rfl
           simp only [Act.put, List.setIfInBounds_toArray, List.set_cons_zero, List.set_cons_succ])
        | (refine plan_off (by rfl) ?_
           simp only [Act.put, List.setIfInBounds_toArray, List.set_cons_zero, List.set_cons_succ])
        | (refine plan_load_off (by rfl) ?_
           simp only [Act.put, List.setIfInBounds_toArray, List.set_cons_zero, List.set_cons_succ])
        | (refine plan_load (v := ?_) (by rfl) (fun w1 hw1 => ?_) ?_
           rotate_left
           · (have qf := HF.out w1 (HWB.out.trans hw1)
              obtain ⟨c3, c2, t0, t1, ccode, sl, tl, gl, _⟩ := qf
              clear hw1
              go_simp <;> with_reducible rfl)
           simp only [Act.put, List.setIfInBounds_toArray, List.set_cons_zero, List.set_cons_succ]))
      refine plan_end ?_
      obtain ⟨V2, hV2, ⟨d0, d1', d2, d3⟩, hmv⟩ := in4_exit hX5 (.int .i64 0) (.int .i64 0) (.int .i64 0) (.bool false)
      obtain ⟨⟨e0, e1', e2, e3⟩, el, g0, g1, g2, g3⟩ := in4_cells hX5
      have HV2 := Lib.hid hV2
      have HMV := Lib.hid hmv
      clear hV2 hmv hX5
      go_wp2_with fail
      rw [← HV2.out]
      refine bodyPost_ret (v := .tuple #[.agg #[.int .i64 0, .int .i64 0, .int .i64 0, .bool false], .bool false]) (by simp [results, Tryz.results84, go_sem, d0, d1', d2, d3]) rfl ?_
      exact ⟨by rw [show Pr.next s t = none by unfold Pr.next; rw [HINS.out]; rw [if_neg HFU.out, List.getElem?_eq_none (by have := HP.out; omega)]; rfl]; rfl, (below_at HB.out HBD.out).trans (HMV.out.below _ (by have := HB.out.size; have := HBD.out.size; omega) (fun k hk e => by have := HXW.out; omega))⟩
end Go.Proofs.YtckdofjpoajblaaGreat
namespace Go.Proofs.YtckdofjpoajblaaGreat
open Go.RowKit
set_option linter.unusedVariables false
set_option maxRecDepth 100000 in
set_option maxHeartbeats 2000000 in
theorem refEnabled_any (w : World) (C : Nat → Prop) (S T o : Nat) (s : St) (t : Nat) (h : RAt w C S T o s) (hw : Pr.Wf s) (ht : t < s.th.length) :
    Calls Tryz.prog 151 #[.pointer (some ⟨S, 0, none⟩), .int .i64 (t : Int)] w fun x w' => x = .returned (.bool (Pr.enabled s t)) ∧ Below w.heap.size w w' := by
  have hcall := refNext_any w C S T o s t h hw ht
  have hlk : ∀ e, Pr.next s t = some e → e.k = 4 → ∃ m : Nat, e.o = m ∧ m < 2 := fun e he hk => Pr.next_lock hw he hk
  have hen : Pr.enabled s t = match Pr.next s t with | none => false | some e => decide (e.k ≠ 4) || decide (s.h e.o.toNat < 0) := rfl
  obtain ⟨q, hq⟩ : ∃ q, q = Pr.next s t := ⟨_, rfl⟩
  rw [← hq] at hcall hlk hen
  rw [hen]
  have HCALL := Lib.hid hcall
  have HLK := Lib.hid hlk
  have HS := Lib.hid h
  clear hcall hlk hen hq h hw ht
  go_enter Tryz.func151, Tryz.ntmps151
  go_wp2_with fail
  refine HCALL.out.mono ?_
  rintro y w1 ⟨rfl, b1⟩
  have HB1 := Lib.hid b1
  clear b1 HCALL
  obtain ⟨e, he⟩ : ∃ e, e = q.getD Pr.zeroE := ⟨_, rfl⟩
  obtain ⟨Wz, Z, hWz, hZ, hBz, hZl, hZe⟩ := ev_box w1 e
  rw [← he]
  have HZE := Lib.hid hZe
  have HB2 := Lib.hid (below_at HB1.out hBz)
  have HE := Lib.hid he
  unfold valE
  clear hZe hZl hBz he HB1
  cases q with
  | none =>
    simp only [Option.isSome_none]
    go_upto_region 2 with fail
    rw [← hWz, ← hZ]
    clear hWz hZ
    refine wp_region_planF (by kernel_rfl) (fun u => Below Wz.heap.size Wz u) [] [(0, .pure), (1, .pure), (2, .pure), (3, .load), (4, .pure), (5, .pure), (6, .pure), (7, .pure), (8, .load), (9, .pure), (10, .pure), (11, .pure), (12, .load), (13, .pure), (14, .pure), (15, .pure), (16, .pure)] (by simp only [List.map_cons, List.map_nil, List.getElem?_toArray, List.getElem?_cons_succ, List.getElem?_cons_zero]; rfl) (by kernel_rfl) (fun _ _ d _ _ h => by cases d <;> exact h) ((Below.refl _ _).drew) ?_
    repeat (first
      | (refine plan_pure (v := ?_) (by rfl) (fun w1 => ?_) ?_
         rotate_left
         · go_simp <;> with_reducible rfl
         simp only [Act.put, List.setIfInBounds_toArray, List.set_cons_zero, List.set_cons_succ])
      | (refine plan_off (by rfl) ?_
         simp only [Act.put, List.setIfInBounds_toArray, List.set_cons_zero, List.set_cons_succ])
      | (refine plan_load_off (by rfl) ?_
         simp only [Act.put, List.setIfInBounds_toArray, List.set_cons_zero, List.set_cons_succ])
      | (refine plan_load (v := ?_) (by rfl) (fun w1 hw1 => ?_) ?_
         rotate_left
         · (skip
            clear hw1
            go_simp <;> with_reducible rfl)
         simp only [Act.put, List.setIfInBounds_toArray, List.set_cons_zero, List.set_cons_succ]))
    refine plan_end ?_
    go_wp2_with fail
    go_ret
    exact ⟨rfl, HB2.out.drew⟩
  | some e' =>
    have hee : e = e' := HE.out
    subst hee
    have HL := Lib.hid (HLK.out e rfl)
    clear HLK HE
    obtain ⟨et, ek, eo, ef⟩ := e
    simp only [Option.isSome_some] at *
    go_upto_region 2 with fail
    rw [← hWz, ← hZ]
    clear hWz hZ
    by_cases h4 : ek = 4
    · subst h4
      obtain ⟨m, rfl, hm⟩ := HL.out rfl
      obtain ⟨y, hy⟩ : ∃ y, y = s.h m := ⟨_, rfl⟩
      have HY := Lib.hid hy
      have k1 : (0 : Int) ≤ (m : Int) := Int.natCast_nonneg _
      have k2 : (m : Int) < 2 := by omega
      clear hy
      by_cases hy : y < 0
      · have hd : decide (y < 0) = true := decide_eq_true hy
        refine wp_region_planF (by kernel_rfl) (fun u => Below Wz.heap.size Wz u) [] [(0, .pure), (1, .pure), (2, .pure), (3, .load), (4, .pure), (5, .pure), (6, .pure), (7, .pure), (8, .load), (9, .pure), (10, .pure), (11, .pure), (12, .load), (13, .pure), (14, .pure), (15, .pure), (16, .pure)] (by simp only [List.map_cons, List.map_nil, List.getElem?_toArray, List.getElem?_cons_succ, List.getElem?_cons_zero]; rfl) (by kernel_rfl) (fun _ _ d _ _ h => by cases d <;> exact h) ((Below.refl _ _).drew) ?_
        repeat (first
          | (refine plan_pure (v := ?_) (by rfl) (fun w1 => ?_) ?_
             rotate_left
             · go_simp <;> with_reducible rfl
             simp only [Act.put, List.setIfInBounds_toArray, List.set_cons_zero, List.set_cons_succ])
          | (refine plan_off (by rfl) ?_
             simp only [Act.put, List.setIfInBounds_toArray, List.set_cons_zero, List.set_cons_succ])
          | (refine plan_load_off (by rfl) ?_
             simp only [Act.put, List.setIfInBounds_toArray, List.set_cons_zero, List.set_cons_succ])
          | (refine plan_load (v := ?_) (by rfl) (fun w1 hw1 => ?_) ?_
             rotate_left
             · (have q := (HZE.out w1 hw1).1
                have q1 := q.2.1
                have q2 := q.2.2.1
                simp only [Nat.zero_add] at q1 q2
                clear q
                obtain ⟨PA, pc, tc, _, _, _, _, _, qh, _⟩ := (HS.out.below (HB2.out.trans (hw1.mono HB2.out.size))).cells
                have q3 := qh m hm
                rw [← HY.out] at q3
                clear qh
                clear hw1
                go_simp <;> with_reducible rfl)
             simp only [Act.put, List.setIfInBounds_toArray, List.set_cons_zero, List.set_cons_succ]))
        refine plan_end ?_
        go_wp2_with fail
        go_ret
        exact ⟨by simp [← HY.out, hy], HB2.out.drew⟩
      · have hd : decide (y < 0) = false := decide_eq_false hy
        refine wp_region_planF (by kernel_rfl) (fun u => Below Wz.heap.size Wz u) [] [(0, .pure), (1, .pure), (2, .pure), (3, .load), (4, .pure), (5, .pure), (6, .pure), (7, .pure), (8, .load), (9, .pure), (10, .pure), (11, .pure), (12, .load), (13, .pure), (14, .pure), (15, .pure), (16, .pure)] (by simp only [List.map_cons, List.map_nil, List.getElem?_toArray, List.getElem?_cons_succ, List.getElem?_cons_zero]; rfl) (by kernel_rfl) (fun _ _ d _ _ h => by cases d <;> exact h) ((Below.refl _ _).drew) ?_
        repeat (first
          | (refine plan_pure (v := ?_) (by rfl) (fun w1 => ?_) ?_
             rotate_left
             · go_simp <;> with_reducible rfl
             simp only [Act.put, List.setIfInBounds_toArray, List.set_cons_zero, List.set_cons_succ])
          | (refine plan_off (by rfl) ?_
             simp only [Act.put, List.setIfInBounds_toArray, List.set_cons_zero, List.set_cons_succ])
          | (refine plan_load_off (by rfl) ?_
             simp only [Act.put, List.setIfInBounds_toArray, List.set_cons_zero, List.set_cons_succ])
          | (refine plan_load (v := ?_) (by rfl) (fun w1 hw1 => ?_) ?_
             rotate_left
             · (have q := (HZE.out w1 hw1).1
                have q1 := q.2.1
                have q2 := q.2.2.1
                simp only [Nat.zero_add] at q1 q2
                clear q
                obtain ⟨PA, pc, tc, _, _, _, _, _, qh, _⟩ := (HS.out.below (HB2.out.trans (hw1.mono HB2.out.size))).cells
                have q3 := qh m hm
                rw [← HY.out] at q3
                clear qh
                clear hw1
                go_simp <;> with_reducible rfl)
             simp only [Act.put, List.setIfInBounds_toArray, List.set_cons_zero, List.set_cons_succ]))
        refine plan_end ?_
        go_wp2_with fail
        go_ret
        exact ⟨by simp [← HY.out, hy], HB2.out.drew⟩
    · have hd : (ek == 4) = false := by simpa using h4
      have hd2 : (ek != 4) = true := by simpa using h4
      have hd3 : decide (ek = 4) = false := decide_eq_false h4
      refine wp_region_planF (by kernel_rfl) (fun u => Below Wz.heap.size Wz u) [] [(0, .pure), (1, .pure), (2, .pure), (3, .load), (4, .pure), (5, .pure), (6, .pure), (7, .pure), (8, .load), (9, .pure), (10, .pure), (11, .pure), (12, .load), (13, .pure), (14, .pure), (15, .pure), (16, .pure)] (by simp only [List.map_cons, List.map_nil, List.getElem?_toArray, List.getElem?_cons_succ, List.getElem?_cons_zero]; rfl) (by kernel_rfl) (fun _ _ d _ _ h => by cases d <;> exact h) ((Below.refl _ _).drew) ?_
      repeat (first
        | (refine plan_pure (v := ?_) (by rfl) (fun w1 => ?_) ?_
           rotate_left
           · go_simp <;> with_reducible rfl
           simp only [Act.put, List.setIfInBounds_toArray, List.set_cons_zero, List.set_cons_succ])
        | (refine plan_off (by rfl) ?_
           simp only [Act.put, List.setIfInBounds_toArray, List.set_cons_zero, List.set_cons_succ])
        | (refine plan_load_off (by rfl) ?_
           simp only [Act.put, List.setIfInBounds_toArray, List.set_cons_zero, List.set_cons_succ])
        | (refine plan_load (v := ?_) (by rfl) (fun w1 hw1 => ?_) ?_
           rotate_left
           · (have q := (HZE.out w1 hw1).1
              have q1 := q.2.1
              have q2 := q.2.2.1
              simp only [Nat.zero_add] at q1 q2
              clear q
              clear hw1
              go_simp <;> with_reducible rfl)
           simp only [Act.put, List.setIfInBounds_toArray, List.set_cons_zero, List.set_cons_succ]))
      refine plan_end ?_
      go_wp2_with fail
      go_ret
      exact ⟨by simp, HB2.out.drew⟩
set_option maxRecDepth 100000 in
set_option maxHeartbeats 2000000 in
theorem refAll_any (w : World) (C : Nat → Prop) (S T o : Nat) (s : St) (h : RAt w C S T o s) (hw : Pr.Wf s) :
    Calls Tryz.prog 85 #[.pointer (some ⟨S, 0, none⟩)] w fun x w' => ∃ A cap, x = .returned (.slice A ((Pr.all s).map (fun (t : Nat) => (t : Int))).length cap) ∧ IntsAt w w' A cap ((Pr.all s).map (fun (t : Nat) => (t : Int))) ∧ Below w.heap.size w w' := by
  have hcel : ∀ u, Below w.heap.size w u → (∃ tc, u.cell? ⟨S, 3, none⟩ = some (.slice (some ⟨T, o, none⟩) s.th.length tc)) ∧ S < u.heap.size := fun u hu => by
    obtain ⟨PA, pc, tc, _, _, _, z3, _, _, _⟩ := (h.below hu).cells
    exact ⟨⟨tc, z3⟩, (h.below hu).lt.1⟩
  have hen : ∀ u t, Below w.heap.size w u → t < s.th.length → Calls Tryz.prog 151 #[.pointer (some ⟨S, 0, none⟩), .int .i64 (t : Int)] u fun x w' => x = .returned (.bool (Pr.enabled s t)) ∧ Below u.heap.size u w' := fun u t hu ht => refEnabled_any u C S T o s t (h.below hu) hw ht
  have hn4 := hw.n4
  have hall : (Pr.all s).map (fun (t : Nat) => (t : Int)) = allI s s.th.length := rfl
  rw [hall]
  obtain ⟨n, hn⟩ : ∃ n, n = s.th.length := ⟨_, rfl⟩
  rw [← hn] at hcel hen hn4 ⊢
  obtain ⟨i0, hi0, hz0, hz1, hz2⟩ := info_parts Tryz.infoInt
  have HCEL := Lib.hid hcel
  have HEN := Lib.hid hen
  clear hcel hen h hw hall hn
  go_enter Tryz.func85, Tryz.ntmps85
  go_wp2_with fail
  go_loopw [3, 4] (fun r v wr => ∃ (k : Nat) (A : Option Addr) (cap len : Nat), k ≤ n ∧ v = .int .i64 k ∧ r = .slice A len cap ∧ len ≤ k ∧ Hid (len = (allI s k).length) ∧ Hid (IntsAt w wr A cap (allI s k)) ∧ Hid (Below w.heap.size w wr)) (fun _ v _ => n - (intOf v).toNat)
  case atStart => exact ⟨0, none, 0, 0, Nat.zero_le _, rfl, rfl, Nat.le_refl _, Lib.hid rfl, Lib.hid ⟨Row.nil _ _ _, fun a h => by cases h⟩, Lib.hid (Below.refl _ _)⟩
  case round =>
    obtain ⟨k, A, cap, len, hk, rfl, rfl, hlk, HLEN, HA, HB⟩ := hrel
    obtain ⟨⟨tc, z3⟩, sl⟩ := HCEL.out wr HB.out
    by_cases hlt : k < n
    · have hcall := HEN.out wr k HB.out hlt
      have hstep := allI_step s k
      obtain ⟨b, hb⟩ : ∃ b, b = Pr.enabled s k := ⟨_, rfl⟩
      rw [← hb] at hcall hstep
      have k1 : (0 : Int) ≤ (k : Int) := Int.natCast_nonneg _
      have k2 : (k : Int) < (n : Int) := by omega
      have HCALL := Lib.hid hcall
      have HSTEP := Lib.hid hstep
      clear hcall hstep hb
      go_wp2_with fail
      refine HCALL.out.mono ?_
      rintro x w1 ⟨rfl, b1⟩
      have HB1 := Lib.hid (below_at HB.out b1)
      have hr1 : Row w1 3 1 A len cap ((allI s k).map iv) := by
        have := row_stepS HA.out.1 b1
        rw [← HLEN.out] at this
        exact this
      have HR1 := Lib.hid hr1
      clear b1 hr1
      cases b with
      | false =>
        go_wp2_with fail
        go_roundw
        case rel => exact ⟨k + 1, A, cap, len, by omega, by go_num, rfl, by omega, Lib.hid (by rw [HSTEP.out]; exact HLEN.out), Lib.hid ⟨by rw [HSTEP.out]; have := HR1.out; rw [HLEN.out] at this; exact this, HA.out.2⟩, HB1⟩
        case measure => simp [intOf]; omega
      | true =>
        go_wp2_with (at_builtin; refine wpList_append_row (by rfl) _ _ _ (by rfl) 3 i0 _ 1 8 Tryz.underlying32 hi0 hz0 hz1 hz2 rfl (by omega) A len cap ((allI s k).map iv) (by rfl) (HR1.out.alloc _) ⟨w1.heap.size, 0, none⟩ 1 1 [.int .i64 (k : Int)] (by rfl) (by rfl) (World.news_of_block (cs := #[.int .i64 (k : Int)]) (t := 3) (fr := (0, 0)) (heap_alloc_new w1 _)) (by simp [Value.oneCell']) (by omega) (by unfold maxLen; omega) (by omega) ?_; intro g1 of1 cap1 w3 hown hm hat; skip)
        obtain ⟨q1, q2⟩ := acc_more HA.out.2 HB1.out hm hat (of := of1)
        go_roundw
        case rel =>
          have hl : (allI s (k + 1)).length = len + 1 := by rw [HSTEP.out]; simp [HLEN.out]
          refine ⟨k + 1, some ⟨g1, of1, none⟩, cap1, len + 1, by omega, by go_num, rfl, by omega, Lib.hid hl.symm, Lib.hid ⟨?_, q1⟩, Lib.hid q2⟩
          rw [hl, HSTEP.out]
          simpa [iv] using hown
        case measure => simp [intOf]; omega
    · obtain rfl : k = n := by omega
      have hl := HLEN.out
      subst hl
      go_wp2_with fail
      go_ret
      exact ⟨A, cap, rfl, HA.out, HB.out⟩
end Go.Proofs.YtckdofjpoajblaaGreat
