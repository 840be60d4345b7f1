/- The reference's New. -/
import Derived.Test.YtcaapoacmfjnmaaGreatRsB
import Derived.Test.YtcaapoacmfjnmaaGreatRsE
namespace Go.Proofs.YtcaapoacmfjnmaaGreat
open Go.RowKit
set_option linter.unusedVariables false

theorem Tryz.infoRTh : (Tryz.prog.info? 153).map (fun i => (i.zero, i.size, i.bytes)) = some (some (.agg #[.int .i64 0, .int .i64 0, .int .i64 0, .int .i64 0]), 4, 32) := by kernel_rfl
def nwCells (p : Pg) (PA : Option Addr) (pc : Nat) (A : Option Addr) (i tc : Nat) : Array Value :=
  #[.int .i64 p.vars, .int .i64 p.mtx, .slice PA p.code.length pc, .slice A i tc, .int .i64 0, .int .i64 0, .int .i64 0, .int .i64 0, .int .i64 (-1), .int .i64 (-1)]
set_option maxRecDepth 100000 in
theorem refNew_bad (w : World) (p : Pg) (A : Option Addr) (cap : Nat) (fuel : Int) (hin : PgIn w p A) (hbad : ¬ (Pr.Ok p ∧ 0 ≤ fuel ∧ fuel ≤ 8)) :
    Calls Tryz.prog 58 #[valP p A cap, .int .i64 fuel] w fun x w' => x = .returned (.pointer none) ∧ Below w.heap.size w w' := by
  obtain ⟨Wa, X, hWa, hX, hBa, hXl, hXe⟩ := pg_box w p.vars p.mtx A p.code.length cap
  have hcall := refPRight_any Wa p A cap (hin.below hBa)
  obtain ⟨b, hb⟩ : ∃ b, b = decide (Pr.Ok p) := ⟨_, rfl⟩
  rw [← hb] at hcall
  unfold valP at hcall ⊢
  have HCALL := Lib.hid hcall
  have HB := Lib.hid hBa
  have HBB := Lib.hid hb
  have HBAD := Lib.hid hbad
  obtain ⟨x0, x1, x2, xl⟩ := hXe Wa (Below.refl _ _)
  clear hcall hBa hb hbad hin hXe
  go_enter Tryz.func58, Tryz.ntmps58
  go_upto_region 1 with fail
  rw [← hWa, ← hX]
  clear hWa hX
  go_wp2_with fail
  refine HCALL.out.mono ?_
  rintro x w1 ⟨rfl, b1⟩
  have HB1 := Lib.hid (below_at HB.out b1)
  clear b1
  cases b with
  | false =>
    go_wp2_with fail
    go_ret
    exact ⟨rfl, HB1.out⟩
  | true =>
    have hok : Pr.Ok p := of_decide_eq_true HBB.out.symm
    by_cases h0 : fuel < 0
    · go_wp2_with fail
      go_ret
      exact ⟨rfl, HB1.out⟩
    · by_cases h8 : 8 < fuel
      · go_wp2_with fail
        go_ret
        exact ⟨rfl, HB1.out⟩
      · exact (HBAD.out ⟨hok, by omega, by omega⟩).elim
set_option maxRecDepth 100000 in
set_option maxHeartbeats 4000000 in
theorem refNew_ok (w : World) (p : Pg) (A : Option Addr) (cap : Nat) (f : Nat) (hin : PgIn w p A) (hok : Pr.Ok p) (hf : f ≤ 8) :
    Calls Tryz.prog 58 #[valP p A cap, .int .i64 (f : Int)] w fun x w' => ∃ (S T o : Nat), x = .returned (.pointer (some ⟨S, 0, none⟩)) ∧ RAt w' (fun k => k < w.heap.size) S T o (Pr.start p f) ∧ w.heap.size ≤ S ∧ w.heap.size ≤ T ∧ Below w.heap.size w w' := by
  obtain ⟨Wa, X, hWa, hX, hBa, hXl, hXe⟩ := pg_box w p.vars p.mtx A p.code.length cap
  have hcall := refPRight_any Wa p A cap (hin.below hBa)
  rw [decide_eq_true hok] at hcall
  have hl1 := hok.1.2.2.2.2.1
  have hl4 := hok.1.2.2.2.2.2
  obtain ⟨i0, hi0, hz0, hz1, hz2⟩ := info_parts Tryz.infoRTh
  unfold valP at hcall ⊢
  obtain ⟨n, hn⟩ : ∃ n, n = p.code.length := ⟨_, rfl⟩
  rw [← hn] at hcall hWa hXe hl1 hl4 ⊢
  have HN := Lib.hid hn
  have HCALL := Lib.hid hcall
  have HB := Lib.hid hBa
  have HXE := Lib.hid hXe
  have HIN := Lib.hid hin
  obtain ⟨x0, x1, x2, xl⟩ := hXe Wa (Below.refl _ _)
  clear hcall hBa hin hXe hok hn
  go_enter Tryz.func58, Tryz.ntmps58
  go_upto_region 1 with fail
  rw [← hWa, ← hX]
  clear hWa hX
  go_wp2_with fail
  refine HCALL.out.mono ?_
  rintro x w1 ⟨rfl, b1⟩
  have HB1 := Lib.hid b1
  clear b1 x0 x1 x2 xl
  obtain ⟨x0, x1, x2, xl⟩ := HXE.out w1 HB1.out
  have n0 : ¬ (f : Int) < 0 := by omega
  have n8 : ¬ (8 : Int) < (f : Int) := by omega
  go_upto_region 4 with fail
  obtain ⟨S, hS⟩ : ∃ S, S = w1.heap.size := ⟨_, rfl⟩
  obtain ⟨W2, hW2⟩ : ∃ W2, W2 = w1.alloc (Obj.cells (nwCells p A cap none 0 0) 151) := ⟨_, rfl⟩
  have hW2' := hW2
  unfold nwCells at hW2'
  rw [← HN.out] at hW2'
  rw [← hW2', ← hS]
  have hb2 : Below w1.heap.size w1 W2 := by rw [hW2]; exact (Below.refl _ _).alloc (Nat.le_refl _) _
  have hS2 : W2.heap[S]? = some (.cells (nwCells p A cap none 0 0) 151 (0, 0)) := by rw [hW2, hS]; exact heap_alloc_new w1 _
  have HB2 := Lib.hid (below_at HB1.out hb2)
  have HS2 := Lib.hid hS2
  have HSW := Lib.hid (show Wa.heap.size ≤ S by rw [hS]; exact HB1.out.size)
  have HSL := Lib.hid (blk_lt hS2)
  clear hW2 hW2' hb2 hS2 hS x0 x1 x2 xl n0 n8 HCALL HB1
  go_wp2_with fail
  go_loopw [6] (fun v wr => ∃ (i : Nat) (B : Option Addr) (tc : Nat), i ≤ n ∧ v = .int .i64 i ∧ Hid (wr.heap[S]? = some (.cells (nwCells p A cap B i tc) 151 (0, 0))) ∧ Hid (Row wr 153 4 B i tc ((List.replicate i (⟨0, f, fun _ => 0⟩ : Th)).flatMap encT)) ∧ Hid (∀ a, B = some a → W2.heap.size ≤ a.block) ∧ Hid (Mod (fun k => k = S) W2 wr)) (fun v _ => n - (intOf v).toNat)
  case atStart => exact ⟨0, none, 0, Nat.zero_le _, rfl, HS2, Lib.hid (Row.nil _ _ _), Lib.hid (fun a h => by cases h), Lib.hid (Mod.refl _ _)⟩
  case round =>
    obtain ⟨i, B, tc, hi, rfl, HS, HR, HA, HM⟩ := hrel
    have hbw : Below Wa.heap.size Wa wr := HB2.out.trans (HM.out.below _ HB2.out.size (fun k hk e => by have := HSW.out; omega))
    have HBW := Lib.hid hbw
    obtain ⟨x0, x1, x2, xl⟩ := HXE.out wr hbw
    clear hbw
    by_cases hlt : i < n
    · have k1 : (0 : Int) ≤ (i : Int) := Int.natCast_nonneg _
      have k2 : (i : Int) < (n : Int) := by omega
      have s3 : wr.cell? ⟨S, 3, none⟩ = some (.slice B i tc) := by rw [cell_blk HS.out]; rfl
      have f3 : ∀ u : World, u.heap[S]? = some (.cells (nwCells p A cap B i tc) 151 (0, 0)) → u.cell? ⟨S, 3, none⟩ = some (.slice B i tc) ∧ u.frozen? ⟨S, 3, none⟩ = false ∧ S < u.heap.size := fun u hu => ⟨by rw [cell_blk hu]; rfl, free_blk hu _, blk_lt hu⟩
      have F3 := Lib.hid f3
      have sl : S < wr.heap.size := blk_lt HS.out
      clear f3
      go_upto_region 6 with (at_builtin; refine wpList_append_row (by rfl) _ _ _ (by rfl) 153 i0 _ 4 32 Tryz.underlying149 hi0 hz0 hz1 hz2 rfl (by omega) B i tc ((List.replicate i (⟨0, f, fun _ => 0⟩ : Th)).flatMap encT) (by rfl) (HR.out.alloc _) ⟨wr.heap.size, 0, none⟩ 1 1 [.int .i64 0, .int .i64 (f : Int), .int .i64 0, .int .i64 0] (by rfl) (by rfl) (World.news_of_block (cs := #[.int .i64 0, .int .i64 (f : Int), .int .i64 0, .int .i64 0]) (t := 153) (fr := (0, 0)) (heap_alloc_new wr _)) (by simp [Value.oneCell']) (by omega) (by unfold maxLen; omega) (by omega) ?_; intro g1 of1 cap1 w3 hown hm hat; obtain ⟨s4, f4, l4⟩ := F3.out w3 ((hm.block S (by simp; have := HSL.out; have := HM.out.size; omega) (fun ⟨a, e1, e2⟩ => by have := HA.out a e1; have := HSL.out; omega)).trans ((((Below.refl wr.heap.size wr).alloc (Nat.le_refl _) _).block S (blk_lt HS.out)).trans HS.out)); have HOWN := Lib.hid hown; have HMM := Lib.hid hm; have HAT := Lib.hid hat; clear hown hm hat)
      have hal : Below wr.heap.size wr (wr.alloc (Obj.cells #[.int .i64 0, .int .i64 (f : Int), .int .i64 0, .int .i64 0] 153)) := (Below.refl _ _).alloc (Nat.le_refl _) _
      have hg1 : W2.heap.size ≤ g1 := by
        rcases HAT.out with ⟨a, e4, e5⟩ | h
        · have := HA.out a e4; omega
        · have := hal.size; have := HM.out.size; omega
      have hS3 : w3.heap[S]? = some (.cells (nwCells p A cap B i tc) 151 (0, 0)) := (HMM.out.block S (by have := hal.size; omega) (fun ⟨a, e1, e2⟩ => by have := HA.out a e1; have := HSL.out; omega)).trans ((hal.block S sl).trans HS.out)
      have hm3 : Mod (fun k => k = S) W2 w3 := (HM.out.trans (Mod.of_below_size hal _)).then HMM.out (fun q hq ⟨a, e4, e5⟩ => by have := HA.out a e4; omega)
      have hsc := (Mod.refl (fun k => k = S) w3).setCell (p := ⟨S, 3, none⟩) (fun _ => rfl) (.slice (some ⟨g1, of1, none⟩) (i + 1) cap1)
      have HG1 := Lib.hid hg1
      have HS3 := Lib.hid hS3
      have HM3 := Lib.hid hm3
      have HSC := Lib.hid hsc
      clear hal hg1 hS3 hm3 hsc
      go_wp2_with fail
      go_roundw
      case rel =>
        refine ⟨i + 1, some ⟨g1, of1, none⟩, cap1, by omega, by go_num, Lib.hid ?_, Lib.hid ?_, Lib.hid (fun a ha => by injection ha with ha; subst ha; exact HG1.out), Lib.hid (HM3.out.trans HSC.out)⟩
        · rw [set_blk HS3.out]; simp [nwCells]
        · have hr := HOWN.out.mod HSC.out (fun a ha e => by injection ha with ha; subst ha; have e' : g1 = S := e; have := HSL.out; have := HG1.out; omega)
          rw [List.replicate_succ', List.flatMap_append]
          simpa [encT] using hr
      case measure => simp [intOf]; omega
    · obtain rfl : i = n := by omega
      obtain ⟨g, o, rfl⟩ := HR.out.some_of_pos (by have := HR.out.2.1; omega)
      have hgl := HA.out _ rfl
      have HGL := Lib.hid hgl
      clear hgl
      go_wp2_with fail
      go_ret
      have hlen : (Pr.start p f).th = List.replicate i (⟨0, f, fun _ => 0⟩ : Th) := by
        unfold Pr.start
        simp only
        rw [HN.out, List.map_const']
      have hw2 : w.heap.size ≤ W2.heap.size := by have := HB.out.size; have := HB2.out.size; omega
      refine ⟨S, rfl, g, ⟨o, A, cap, tc, ?_, ?_, ?_, ?_, ?_, ?_, ?_⟩, by have := HB.out.size; have := HSW.out; omega, by have hgg : W2.heap.size ≤ g := HGL.out; omega, below_at HB.out HBW.out⟩
      · rw [HS.out]
        unfold nwCells rfCells
        rw [hlen, List.length_replicate]
        simp [Pr.start]
      · rw [hlen, List.length_replicate]; exact HR.out
      · exact HIN.out.1.below (below_at HB.out HBW.out)
      · intro h; have := HB.out.size; have := HSW.out; omega
      · intro h; have hgg : W2.heap.size ≤ g := HGL.out; omega
      · intro h; have hgg : W2.heap.size ≤ g := HGL.out; have := HSL.out; omega
      · rw [hlen, List.length_replicate]; exact HN.out
end Go.Proofs.YtcaapoacmfjnmaaGreat
