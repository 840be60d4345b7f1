/- state.Copy. -/
import Derived.Test.YtcaapoacmfjnmaaGreatStP
import Derived.Lib.SliceRun
namespace Go.Proofs.YtcaapoacmfjnmaaGreat
open Go.RowKit
set_option linter.unusedVariables false

set_option maxRecDepth 100000 in
theorem cloneT_any (w : World) (a : Addr) (n cap : Nat) (cs : List Value) (hr : Rd w 4 (some a) n cs) (hn : n ≤ 1000000) :
    Calls Tryz.prog 140 #[.slice (some a) n cap] w (fun x w' => ∃ T cap', x = .returned (.slice (some ⟨T, 0, none⟩) n cap') ∧ Row w' 125 4 (some ⟨T, 0, none⟩) n cap' cs ∧ w.heap.size ≤ T ∧ Below w.heap.size w w') := by
  obtain ⟨i0, hi0, hz0, hz1, hz2⟩ := info_parts Tryz.infoTh
  have qn : ∀ (w : World) (a : Option Addr) (n c n' c' : Nat), (binOp .eql 103 (.slice a n c) (.slice none n' c')).run Tryz.prog w = .ok (.bool a.isNone) w := fun w a n c n' c' => Lib.run_eql_slice_nil w _ _ a n c n' c' Tryz.underlying103
  have hb : Below w.heap.size w (w.alloc (Obj.cells #[] 125)) := (Below.refl _ _).alloc (Nat.le_refl _) _
  have HX := Lib.hid (hr.below hb (Nat.le_refl _))
  have HB := Lib.hid hb
  clear hr hb
  go_enter Tryz.func140, Tryz.ntmps140
  go_wp2_with (at_builtin; refine wpList_append_copy0 (by rfl) _ _ _ (by rfl) 125 i0 _ 4 32 Tryz.underlying103 hi0 hz0 hz1 hz2 rfl (by omega) ⟨w.heap.size, 0, none⟩ 0 [] (by rfl) (row_empty (heap_alloc_new w _)) (some a) n cap cs (by rfl) HX.out (by unfold maxLen; omega) (by omega) ?_; intro g7 o7 cap7 w7 hown hb2 hg7 ho7; obtain rfl : o7 = 0 := by (rcases ho7 with h | h <;> exact h); skip)
  go_ret
  rw [Nat.zero_add] at hown
  refine ⟨g7, cap7, rfl, by simpa using hown, ?_, below_at HB.out hb2⟩
  have := HB.out.size
  rcases hg7 with ⟨_, h⟩ | h
  · exact Nat.le_of_eq h.symm
  · simp at h; omega
/-- what a copy leaves -/
def CopyOut (w : World) (C : Nat → Prop) (s : St) (x : Ending) (w' : World) : Prop := ∃ S' T', x = .returned (.pointer (some ⟨S', 0, none⟩)) ∧ SAt w' C S' T' s ∧ w.heap.size ≤ S' ∧ w.heap.size ≤ T' ∧ Below w.heap.size w w'
set_option maxRecDepth 100000 in
set_option maxHeartbeats 2000000 in
theorem copyS_any (w : World) (C : Nat → Prop) (S T : Nat) (s : St) (h : SAt w C S T s) (hC : ∀ k, C k → k < w.heap.size) (hn4 : s.th.length ≤ 4) :
    Calls Tryz.prog 110 #[.pointer (some ⟨S, 0, none⟩)] w (CopyOut w C s) := by
  have hlen := h.len
  have hS0 := h
  obtain ⟨PA, pc, tc, h1, h2, h3, h4, h5, h6, h7⟩ := h
  have c0 : ∀ j, w.cell? ⟨S, j, none⟩ = (stCells s PA pc T tc)[j]? := fun j => cell_blk h1 j
  have g0 := c0 0
  have g1 := c0 1
  have g2 := c0 2
  have g3 := c0 3
  have g4 := c0 4
  have g5 := c0 5
  have g6 := c0 6
  have g7 := c0 7
  have g8 := c0 8
  have g9 := c0 9
  simp only [stCells, List.getElem?_toArray, List.getElem?_cons_succ, List.getElem?_cons_zero] at g0 g1 g2 g3 g4 g5 g6 g7 g8 g9
  have sl := blk_lt h1
  have hcl := fun (u : World) (hu : Below w.heap.size w u) => cloneT_any u ⟨T, 0, none⟩ s.th.length tc (s.th.flatMap encT) (h2.rd.below hu (Nat.le_refl _)) (by omega)
  have HS := Lib.hid (And.intro h1 (And.intro h2.rd (And.intro h3 hlen)))
  have HC := Lib.hid hC
  obtain ⟨n, hn⟩ : ∃ n, n = s.th.length := ⟨_, rfl⟩
  obtain ⟨m, hm⟩ : ∃ m, m = s.p.code.length := ⟨_, rfl⟩
  rw [← hn] at g3 hn4 hcl
  rw [← hm] at g2
  have HN := Lib.hid (And.intro hn hm)
  have HCL := Lib.hid hcl
  clear c0 h1 h2 h3 h4 h5 h6 h7 hlen hC hn hm hcl hS0
  go_enter Tryz.func110, Tryz.ntmps110
  go_upto_region 4 with fail
  obtain ⟨W1, hW1⟩ : ∃ z, z = w.alloc (Obj.cells #[.int .i64 s.p.vars, .int .i64 s.p.mtx, .slice PA m pc, .slice (some ⟨T, 0, none⟩) n tc, .int .i64 (s.v 0), .int .i64 (s.v 1), .int .i64 (s.v 2), .int .i64 (s.v 3), .int .i64 (s.h 0), .int .i64 (s.h 1)] 107) := ⟨_, rfl⟩
  obtain ⟨S1, hS1⟩ : ∃ z, z = w.heap.size := ⟨_, rfl⟩
  rw [← hW1, ← hS1]
  have hk1 : W1.heap[S1]? = some (.cells #[.int .i64 s.p.vars, .int .i64 s.p.mtx, .slice PA m pc, .slice (some ⟨T, 0, none⟩) n tc, .int .i64 (s.v 0), .int .i64 (s.v 1), .int .i64 (s.v 2), .int .i64 (s.v 3), .int .i64 (s.h 0), .int .i64 (s.h 1)] 107 (0, 0)) := by rw [hW1, hS1]; exact heap_alloc_new w _
  have hb1 : Below w.heap.size w W1 := by rw [hW1]; exact (Below.refl _ _).alloc (Nat.le_refl _) _
  have HK1 := Lib.hid hk1
  have HB1 := Lib.hid hb1
  have HSW := Lib.hid (Nat.le_of_eq hS1.symm)
  clear hk1 hb1 hW1 hS1 g0 g1 g2 g4 g5 g6 g7 g8 g9
  have g3 := (World.cell?_of_block (HB1.out.block S sl)).trans g3
  have sl : S < W1.heap.size := Nat.lt_of_lt_of_le sl HB1.out.size
  go_wp2_with fail
  refine (HCL.out W1 HB1.out).mono ?_
  rintro y u ⟨T1, c1, rfl, hrow, hT1, hbu0⟩
  have hk2 := (hbu0.block S1 (blk_lt HK1.out)).trans HK1.out
  have c3 : u.cell? ⟨S1, 3, none⟩ = some (.slice (some ⟨T, 0, none⟩) n tc) := cell_blk hk2 3
  have fz := free_blk hk2 3
  have ll := blk_lt hk2
  have HK2 := Lib.hid hk2
  have HROW := Lib.hid hrow
  have HBU := Lib.hid (below_at HB1.out hbu0)
  have HT1 := Lib.hid (show S1 < T1 by have := blk_lt HK1.out; omega)
  clear hk2 hrow hT1 hbu0 g3 sl HCL
  go_wp2_with fail
  have hm : Mod (fun k => k = S1) u (u.setCell ⟨S1, 3, none⟩ (.slice (some ⟨T1, 0, none⟩) n c1)) := (Mod.refl (fun k => k = S1) u).setCell (p := ⟨S1, 3, none⟩) (fun _ => rfl) _
  have hgS := HT1.out
  have hk3 : (u.setCell ⟨S1, 3, none⟩ (.slice (some ⟨T1, 0, none⟩) n c1)).heap[S1]? = some (.cells (stCells s PA pc T1 c1) 107 (0, 0)) := by
    rw [set_blk HK2.out, HN.out.1, HN.out.2]; simp [stCells]
  have hbz : Below w.heap.size w (u.setCell ⟨S1, 3, none⟩ (.slice (some ⟨T1, 0, none⟩) n c1)) := HBU.out.setCell (p := ⟨S1, 3, none⟩) HSW.out _
  have hrow := HROW.out.mod hm (fun a ha e => by injection ha with ha; subst ha; simp only at e; omega)
  have hrow : Row (u.setCell ⟨S1, 3, none⟩ (.slice (some ⟨T1, 0, none⟩) n c1)) 125 4 (some ⟨T1, 0, none⟩) s.th.length c1 (s.th.flatMap encT) := by rw [← HN.out.1]; exact hrow
  refine bodyPost_ret (v := .pointer (some ⟨S1, 0, none⟩)) (by simp [results, Tryz.results110, go_sem]) rfl ?_
  have hCw : ∀ k, C k → k < w.heap.size := HC.out
  have hsw := HSW.out
  exact ⟨S1, T1, rfl, ⟨PA, pc, c1, hk3, hrow, (HS.out.2.2.1.mod (Mod.of_below_size hbz (fun _ => False)) (fun _ _ h => h)), fun hk => by have := hCw _ hk; omega, fun hk => by have := hCw _ hk; omega, fun e => by omega, HS.out.2.2.2⟩, hsw, by omega, hbz⟩
end Go.Proofs.YtcaapoacmfjnmaaGreat
