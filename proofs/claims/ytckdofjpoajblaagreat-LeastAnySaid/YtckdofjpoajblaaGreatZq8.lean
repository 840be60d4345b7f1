/- Part 8 of the proof of leastAny_holds: what it rests on. -/
import Derived.Test.YtckdofjpoajblaaGreatZq7
namespace Go.Proofs.YtckdofjpoajblaaGreat
open Go.RowKit
set_option linter.unusedVariables false
set_option maxRecDepth 100000 in
theorem cloneT_any (w : World) (a : Addr) (n cap : Nat) (cs : List Value) (hr : Rd w 4 (some a) n cs) (hn : n ≤ 1000000) :
    Calls Tryz.prog 158 #[.slice (some a) n cap] w (fun x w' => ∃ T cap', x = .returned (.slice (some ⟨T, 0, none⟩) n cap') ∧ Row w' 127 4 (some ⟨T, 0, none⟩) n cap' cs ∧ w.heap.size ≤ T ∧ Below w.heap.size w w') := by
  obtain ⟨i0, hi0, hz0, hz1, hz2⟩ := info_parts Tryz.infoTh
  have qn : ∀ (w : World) (a : Option Addr) (n c n' c' : Nat), (binOp .eql 121 (.slice a n c) (.slice none n' c')).run Tryz.prog w = .ok (.bool a.isNone) w := fun w a n c n' c' => Lib.run_eql_slice_nil w _ _ a n c n' c' Tryz.underlying121
  have hb : Below w.heap.size w (w.alloc (Obj.cells #[] 127)) := (Below.refl _ _).alloc (Nat.le_refl _) _
  have HX := Lib.hid (hr.below hb (Nat.le_refl _))
  have HB := Lib.hid hb
  clear hr hb
  go_enter Tryz.func158, Tryz.ntmps158
  go_wp2_with (at_builtin; refine wpList_append_copy0 (by rfl) _ _ _ (by rfl) 127 i0 _ 4 32 Tryz.underlying121 hi0 hz0 hz1 hz2 rfl (by omega) ⟨w.heap.size, 0, none⟩ 0 [] (by rfl) (row_empty (heap_alloc_new w _)) (some a) n cap cs (by rfl) HX.out (by unfold maxLen; omega) (by omega) ?_; intro g7 o7 cap7 w7 hown hb2 hg7 ho7; obtain rfl : o7 = 0 := by (rcases ho7 with h | h <;> exact h); skip)
  go_ret
  rw [Nat.zero_add] at hown
  refine ⟨g7, cap7, rfl, by simpa using hown, ?_, below_at HB.out hb2⟩
  have := HB.out.size
  rcases hg7 with ⟨_, h⟩ | h
  · exact Nat.le_of_eq h.symm
  · simp at h; omega
def CopyOut (w : World) (C : Nat → Prop) (s : St) (x : Ending) (w' : World) : Prop := ∃ S' T', x = .returned (.pointer (some ⟨S', 0, none⟩)) ∧ SAt w' C S' T' s ∧ w.heap.size ≤ S' ∧ w.heap.size ≤ T' ∧ Below w.heap.size w w'
set_option maxRecDepth 100000 in
set_option maxHeartbeats 2000000 in
theorem copyS_any (w : World) (C : Nat → Prop) (S T : Nat) (s : St) (h : SAt w C S T s) (hC : ∀ k, C k → k < w.heap.size) (hn4 : s.th.length ≤ 4) :
    Calls Tryz.prog 96 #[.pointer (some ⟨S, 0, none⟩)] w (CopyOut w C s) := by
  have hlen := h.len
  have hS0 := h
  obtain ⟨PA, pc, tc, h1, h2, h3, h4, h5, h6, h7⟩ := h
  have c0 : ∀ j, w.cell? ⟨S, j, none⟩ = (stCells s PA pc T tc)[j]? := fun j => cell_blk h1 j
  have g0 := c0 0
  have g1 := c0 1
  have g2 := c0 2
  have g3 := c0 3
  have g4 := c0 4
  have g5 := c0 5
  have g6 := c0 6
  have g7 := c0 7
  have g8 := c0 8
  have g9 := c0 9
  simp only [stCells, List.getElem?_toArray, List.getElem?_cons_succ, List.getElem?_cons_zero] at g0 g1 g2 g3 g4 g5 g6 g7 g8 g9
  have sl := blk_lt h1
  have hcl := fun (u : World) (hu : Below w.heap.size w u) => cloneT_any u ⟨T, 0, none⟩ s.th.length tc (s.th.flatMap encT) (h2.rd.below hu (Nat.le_refl _)) (by omega)
  have HS := Lib.hid (And.intro h1 (And.intro h2.rd (And.intro h3 hlen)))
  have HC := Lib.hid hC
  obtain ⟨n, hn⟩ : ∃ n, n = s.th.length := ⟨_, rfl⟩
  obtain ⟨m, hm⟩ : ∃ m, m = s.p.code.length := ⟨_, rfl⟩
  rw [← hn] at g3 hn4 hcl
  rw [← hm] at g2
  have HN := Lib.hid (And.intro hn hm)
  have HCL := Lib.hid hcl
  clear c0 h1 h2 h3 h4 h5 h6 h7 hlen hC hn hm hcl hS0
  go_enter Tryz.func96, Tryz.ntmps96
  go_upto_region 4 with fail
  obtain ⟨W1, hW1⟩ : ∃ z, z = w.alloc (Obj.cells #[.int .i64 s.p.vars, .int .i64 s.p.mtx, .slice PA m pc, .slice (some ⟨T, 0, none⟩) n tc, .int .i64 (s.v 0), .int .i64 (s.v 1), .int .i64 (s.v 2), .int .i64 (s.v 3), .int .i64 (s.h 0), .int .i64 (s.h 1)] 124) := ⟨_, rfl⟩
  obtain ⟨S1, hS1⟩ : ∃ z, z = w.heap.size := ⟨_, rfl⟩
  rw [← hW1, ← hS1]
  have hk1 : W1.heap[S1]? = some (.cells #[.int .i64 s.p.vars, .int .i64 s.p.mtx, .slice PA m pc, .slice (some ⟨T, 0, none⟩) n tc, .int .i64 (s.v 0), .int .i64 (s.v 1), .int .i64 (s.v 2), .int .i64 (s.v 3), .int .i64 (s.h 0), .int .i64 (s.h 1)] 124 (0, 0)) := by rw [hW1, hS1]; exact heap_alloc_new w _
  have hb1 : Below w.heap.size w W1 := by rw [hW1]; exact (Below.refl _ _).alloc (Nat.le_refl _) _
  have HK1 := Lib.hid hk1
  have HB1 := Lib.hid hb1
  have HSW := Lib.hid (Nat.le_of_eq hS1.symm)
  clear hk1 hb1 hW1 hS1 g0 g1 g2 g4 g5 g6 g7 g8 g9
  have g3 := (World.cell?_of_block (HB1.out.block S sl)).trans g3
  have sl : S < W1.heap.size := Nat.lt_of_lt_of_le sl HB1.out.size
  go_wp2_with fail
  refine (HCL.out W1 HB1.out).mono ?_
  rintro y u ⟨T1, c1, rfl, hrow, hT1, hbu0⟩
  have hk2 := (hbu0.block S1 (blk_lt HK1.out)).trans HK1.out
  have c3 : u.cell? ⟨S1, 3, none⟩ = some (.slice (some ⟨T, 0, none⟩) n tc) := cell_blk hk2 3
  have fz := free_blk hk2 3
  have ll := blk_lt hk2
  have HK2 := Lib.hid hk2
  have HROW := Lib.hid hrow
  have HBU := Lib.hid (below_at HB1.out hbu0)
  have HT1 := Lib.hid (show S1 < T1 by have := blk_lt HK1.out; omega)
  clear hk2 hrow hT1 hbu0 g3 sl HCL
  go_wp2_with fail
  have hm : Mod (fun k => k = S1) u (u.setCell ⟨S1, 3, none⟩ (.slice (some ⟨T1, 0, none⟩) n c1)) := (Mod.refl (fun k => k = S1) u).setCell (p := ⟨S1, 3, none⟩) (fun _ => rfl) _
  have hgS := HT1.out
  have hk3 : (u.setCell ⟨S1, 3, none⟩ (.slice (some ⟨T1, 0, none⟩) n c1)).heap[S1]? = some (.cells (stCells s PA pc T1 c1) 124 (0, 0)) := by
    rw [set_blk HK2.out, HN.out.1, HN.out.2]; simp [stCells]
  have hbz : Below w.heap.size w (u.setCell ⟨S1, 3, none⟩ (.slice (some ⟨T1, 0, none⟩) n c1)) := HBU.out.setCell (p := ⟨S1, 3, none⟩) HSW.out _
  have hrow := HROW.out.mod hm (fun a ha e => by injection ha with ha; subst ha; simp only at e; omega)
  have hrow : Row (u.setCell ⟨S1, 3, none⟩ (.slice (some ⟨T1, 0, none⟩) n c1)) 127 4 (some ⟨T1, 0, none⟩) s.th.length c1 (s.th.flatMap encT) := by rw [← HN.out.1]; exact hrow
  refine bodyPost_ret (v := .pointer (some ⟨S1, 0, none⟩)) (by simp [results, Tryz.results96, go_sem]) rfl ?_
  have hCw : ∀ k, C k → k < w.heap.size := HC.out
  have hsw := HSW.out
  exact ⟨S1, T1, rfl, ⟨PA, pc, c1, hk3, hrow, (HS.out.2.2.1.mod (Mod.of_below_size hbz (fun _ => False)) (fun _ _ h => h)), fun hk => by have := hCw _ hk; omega, fun hk => by have := hCw _ hk; omega, fun e => by omega, HS.out.2.2.2⟩, hsw, by omega, hbz⟩
end Go.Proofs.YtckdofjpoajblaaGreat
namespace Go.Proofs.YtckdofjpoajblaaGreat
open Go.RowKit
set_option linter.unusedVariables false
def CellAt (w : World) (k : Nat) (v : Value) : Prop := ∃ T, w.heap[k]? = some (.cells #[v] T (0, 0))
theorem CellAt.mod {w w' : World} {F : Nat → Prop} {k : Nat} {v : Value} (h : CellAt w k v) (hm : Mod F w w') (hF : ¬ F k) : CellAt w' k v := by
  obtain ⟨T, h⟩ := h
  exact ⟨T, (hm.block k (blk_lt h) hF).trans h⟩
theorem CellAt.below {w w' : World} {k : Nat} {v : Value} (h : CellAt w k v) (hb : Below w.heap.size w w') : CellAt w' k v := h.mod (Mod.of_below_size hb (fun _ => False)) (fun h => h)
theorem CellAt.cell {w : World} {k : Nat} {v : Value} (h : CellAt w k v) : w.cell? ⟨k, 0, none⟩ = some v ∧ k < w.heap.size ∧ w.frozen? ⟨k, 0, none⟩ = false := by
  obtain ⟨T, h⟩ := h
  exact ⟨cell_blk h 0, blk_lt h, free_blk h 0⟩
theorem CellAt.set {w : World} {k : Nat} {v : Value} (h : CellAt w k v) (u : Value) : CellAt (w.setCell ⟨k, 0, none⟩ u) k u ∧ Mod (fun q => q = k) w (w.setCell ⟨k, 0, none⟩ u) := by
  obtain ⟨T, h⟩ := h
  exact ⟨⟨T, by rw [set_blk h]; simp⟩, (Mod.refl (fun q => q = k) w).setCell (p := ⟨k, 0, none⟩) (fun _ => rfl) u⟩
theorem cellAt_new (w : World) (v : Value) (T : TypeId) : CellAt (w.alloc (Obj.cells #[v] T)) w.heap.size v := ⟨T, heap_alloc_new w _⟩
structure AtS {α : Type} (G : Nat) (caps : Array Value) (F : Nat → Prop) (I : α → World → Prop) (at_ : St → List Ev → α → α) : Prop where
  call : ∀ (u : World) (C : Nat → Prop) (S T : Nat) (s : St) (row : List Ev) (A : Option Addr) (cap : Nat) (x : α), SAt u C S T s → Pr.Wf s → Rd u 4 A row.length (row.flatMap encE) → row.length ≤ 100 → (∀ k, F k → k ≠ S ∧ k ≠ T ∧ ¬ C k ∧ (∀ b, A = some b → b.block ≠ k)) → I x u →
    Calls Tryz.prog G (#[.pointer (some ⟨S, 0, none⟩), .slice A row.length cap] ++ caps) u fun y w' => y = .returned (.tuple #[]) ∧ I (at_ s row x) w' ∧ Mod F u w'
  enters : ∀ (args : Array Value) (w : World), (callFunc G args).run Tryz.prog w = .ok (.enter G args) w
  keep : ∀ (x : α) (u u' : World) (H : Nat → Prop), I x u → Mod H u u' → (∀ k, H k → ¬ F k) → I x u'
theorem AtS.below {α : Type} {G : Nat} {caps : Array Value} {F : Nat → Prop} {I : α → World → Prop} {at_ : St → List Ev → α → α} (h : AtS G caps F I at_) {x : α} {u u' : World} (hi : I x u) (hb : Below u.heap.size u u') : I x u' :=
  h.keep x u u' (fun _ => False) hi (Mod.of_below_size hb _) (fun _ h => h.elim)
structure Ov (w : World) (N P Q R : Nat) (c most : Nat) (G : Nat) (caps : Array Value) : Prop where
  n : CellAt w N (.int .i64 c)
  p : CellAt w P (.int .i64 most)
  q : CellAt w Q (.func (.func G) #[] caps)
  r : CellAt w R (.func (.func 159) #[] #[.pointer (some ⟨N, 0, none⟩), .pointer (some ⟨P, 0, none⟩), .pointer (some ⟨Q, 0, none⟩), .pointer (some ⟨R, 0, none⟩)])
  np : N ≠ P
  nq : N ≠ Q
  nr : N ≠ R
theorem Ov.mod {w w' : World} {N P Q R c most G : Nat} {caps : Array Value} {F : Nat → Prop} (h : Ov w N P Q R c most G caps) (hm : Mod F w w') (hN : ¬ F N) (hP : ¬ F P) (hQ : ¬ F Q) (hR : ¬ F R) : Ov w' N P Q R c most G caps :=
  ⟨h.n.mod hm hN, h.p.mod hm hP, h.q.mod hm hQ, h.r.mod hm hR, h.np, h.nq, h.nr⟩
theorem Ov.below {w w' : World} {N P Q R c most G : Nat} {caps : Array Value} (h : Ov w N P Q R c most G caps) (hb : Below w.heap.size w w') : Ov w' N P Q R c most G caps :=
  h.mod (Mod.of_below_size hb (fun _ => False)) (fun h => h) (fun h => h) (fun h => h) (fun h => h)
theorem Ov.set {w : World} {N P Q R c most G : Nat} {caps : Array Value} (h : Ov w N P Q R c most G caps) (c' : Nat) : Ov (w.setCell ⟨N, 0, none⟩ (.int .i64 c')) N P Q R c' most G caps ∧ Mod (fun k => k = N) w (w.setCell ⟨N, 0, none⟩ (.int .i64 c')) := by
  obtain ⟨h1, h2⟩ := h.n.set (.int .i64 c')
  exact ⟨⟨h1, h.p.mod h2 (fun e => h.np e.symm), h.q.mod h2 (fun e => h.nq e.symm), h.r.mod h2 (fun e => h.nr e.symm), h.np, h.nq, h.nr⟩, h2⟩
theorem Row.tight {w : World} {e sz : Nat} {A : Option Addr} {n cap : Nat} {cs : List Value} (h : Row w e sz A n cap cs) (hA : A ≠ none) : Row w e sz A n n cs := by
  obtain ⟨h1, h2, h3, h4, h5⟩ := h
  refine ⟨h1, Nat.le_refl _, Nat.le_trans h2 h3, fun h => (hA h).elim, fun a ha => ?_⟩
  obtain ⟨q1, cur, q2, q3, q4⟩ := h5 a ha
  exact ⟨q1, cur, q2, Nat.le_trans (Nat.add_le_add_left (Nat.mul_le_mul_right sz h2) _) q3, q4⟩
theorem ev_rd {w : World} {Y : Nat} {et ek eo : Int} {ef : Bool} {T : TypeId} (h : w.heap[Y]? = some (.cells #[.int .i64 et, .int .i64 ek, .int .i64 eo, .bool ef] T (0, 0))) : Rd w 4 (some ⟨Y, 0, none⟩) 1 [.int .i64 et, .int .i64 ek, .int .i64 eo, .bool ef] :=
  ⟨rfl, fun _ => ⟨Y, 0, rfl, blk_lt h, fun j hj => by
    rw [cell_blk h]
    rcases (show j = 0 ∨ j = 1 ∨ j = 2 ∨ j = 3 by omega) with rfl | rfl | rfl | rfl <;> rfl⟩⟩
section
variable {α : Type}
def OverC (N P Q R most G : Nat) (caps : Array Value) (F : Nat → Prop) (I : α → World → Prop) (at_ : St → List Ev → α → α) (n : Nat) (s : St) : Prop := ∀ (w : World) (C : Nat → Prop) (S T : Nat) (row : List Ev) (A : Option Addr) (cap c : Nat) (x : α), SAt w C S T s → (∀ k, C k → k < w.heap.size) →
  Row w 51 4 A row.length cap (row.flatMap encE) → row.length + n ≤ 100 → (∀ k, (k = N ∨ F k) → k ≠ S ∧ k ≠ T ∧ ¬ C k ∧ (∀ b, A = some b → b.block ≠ k) ∧ k < w.heap.size) → Ov w N P Q R c most G caps → I x w → c + 4 * n ≤ most + 300 →
  Calls Tryz.prog 159 #[.pointer (some ⟨S, 0, none⟩), .slice A row.length cap, .pointer (some ⟨N, 0, none⟩), .pointer (some ⟨P, 0, none⟩), .pointer (some ⟨Q, 0, none⟩), .pointer (some ⟨R, 0, none⟩)] w fun y w' => y = .returned (.tuple #[]) ∧ Ov w' N P Q R (Pr.over at_ most n s row (c, x)).1 most G caps ∧ I (Pr.over at_ most n s row (c, x)).2 w' ∧ Mod (fun k => k = N ∨ F k) w w'
set_option maxRecDepth 100000 in
set_option maxHeartbeats 8000000 in
theorem over1_full {N P Q R most G : Nat} {caps : Array Value} {F : Nat → Prop} {I : α → World → Prop} {at_ : St → List Ev → α → α} (hat : AtS G caps F I at_) (hFN : ¬ F N) (hFP : ¬ F P) (hFQ : ¬ F Q) (hFR : ¬ F R) (hmost : most ≤ 100000)
    (n : Nat) (s : St) (hw : Pr.Wf s) (w : World) (C : Nat → Prop) (S T : Nat) (row : List Ev) (A : Option Addr) (cap c : Nat) (x : α) (h : SAt w C S T s) (hC : ∀ k, C k → k < w.heap.size)
    (hr : Row w 51 4 A row.length cap (row.flatMap encE)) (hrl : row.length + n ≤ 100) (hap : ∀ k, (k = N ∨ F k) → k ≠ S ∧ k ≠ T ∧ ¬ C k ∧ (∀ b, A = some b → b.block ≠ k) ∧ k < w.heap.size) (hov : Ov w N P Q R c most G caps) (hI : I x w) (hc : c ≤ most + 300) (hf : most < c + 1) :
    Calls Tryz.prog 159 #[.pointer (some ⟨S, 0, none⟩), .slice A row.length cap, .pointer (some ⟨N, 0, none⟩), .pointer (some ⟨P, 0, none⟩), .pointer (some ⟨Q, 0, none⟩), .pointer (some ⟨R, 0, none⟩)] w fun y w' => y = .returned (.tuple #[]) ∧ Ov w' N P Q R (c + 1) most G caps ∧ I x w' ∧ Mod (fun k => k = N ∨ F k) w w' := by
  obtain ⟨m2, ml, f2⟩ := hov.n.cell
  obtain ⟨hov1, hm1⟩ := hov.set (c + 1)
  rw [show ((c + 1 : Nat) : Int) = (c : Int) + 1 by omega] at hov1 hm1
  have hS1 := h.mod hm1 (fun k hk e => (hap N (.inl rfl)).2.2.1 (e ▸ hk)) (fun e => (hap N (.inl rfl)).1 e.symm) (fun e => (hap N (.inl rfl)).2.1 e.symm)
  have hr1 := hr.mod hm1 (fun a ha => (hap N (.inl rfl)).2.2.2.1 a ha)
  have hI1 := hat.keep x _ _ _ hI hm1 (fun k hk => by subst hk; exact hFN)
  have e1 : wrap64 ((c : Int) + 1) = (c : Int) + 1 := IntWalk.wrap64_in _ (by omega)
  have HE1 := Lib.hid e1
  have HMF := Lib.hid (show Mod (fun k => k = N ∨ F k) w (w.setCell ⟨N, 0, none⟩ (.int .i64 ((c : Int) + 1))) from hm1.mono (fun k _ e => .inl e))
  have d1 : decide ((most : Int) < (c : Int) + 1) = true := decide_eq_true (by omega)
  have d2 : (most : Int) < (c : Int) + 1 := by omega
  obtain ⟨W1, hW1⟩ : ∃ z, z = w.setCell ⟨N, 0, none⟩ (.int .i64 ((c : Int) + 1)) := ⟨_, rfl⟩
  rw [← hW1] at hov1 hm1 hI1 HMF
  have HOV := Lib.hid hov1
  have HI1 := Lib.hid hI1
  have HW1 := Lib.hid hW1
  clear h hC hr hw hov hI hov1 hm1 hS1 hr1 hI1 hap e1 hat hFN hFP hFQ hFR hW1
  go_enter Tryz.func159, Tryz.ntmps159
  go_upto_region 1 with fail
  try rw [HE1.out]
  rw [← HW1.out]
  clear m2 ml f2 HW1
  obtain ⟨m2, ml, _⟩ := HOV.out.n.cell
  rw [show ((c + 1 : Nat) : Int) = (c : Int) + 1 by omega] at m2
  obtain ⟨p2, pl, _⟩ := HOV.out.p.cell
  go_wp2_with fail
  refine bodyPost_ret (v := .tuple #[]) (by simp [results, Tryz.results159, go_sem]) rfl ?_
  exact ⟨rfl, HOV.out, HI1.out, HMF.out⟩
set_option maxRecDepth 100000 in
set_option maxHeartbeats 8000000 in
theorem over1_end {N P Q R most G : Nat} {caps : Array Value} {F : Nat → Prop} {I : α → World → Prop} {at_ : St → List Ev → α → α} (hat : AtS G caps F I at_) (hFN : ¬ F N) (hFP : ¬ F P) (hFQ : ¬ F Q) (hFR : ¬ F R) (hmost : most ≤ 100000)
    (n : Nat) (s : St) (hw : Pr.Wf s) (w : World) (C : Nat → Prop) (S T : Nat) (row : List Ev) (A : Option Addr) (cap c : Nat) (x : α) (h : SAt w C S T s) (hC : ∀ k, C k → k < w.heap.size)
    (hr : Row w 51 4 A row.length cap (row.flatMap encE)) (hrl : row.length + n ≤ 100) (hap : ∀ k, (k = N ∨ F k) → k ≠ S ∧ k ≠ T ∧ ¬ C k ∧ (∀ b, A = some b → b.block ≠ k) ∧ k < w.heap.size) (hov : Ov w N P Q R c most G caps) (hI : I x w) (hc : c ≤ most + 300) (hf : ¬ most < c + 1) (ha : Pr.all s = []) :
    Calls Tryz.prog 159 #[.pointer (some ⟨S, 0, none⟩), .slice A row.length cap, .pointer (some ⟨N, 0, none⟩), .pointer (some ⟨P, 0, none⟩), .pointer (some ⟨Q, 0, none⟩), .pointer (some ⟨R, 0, none⟩)] w fun y w' => y = .returned (.tuple #[]) ∧ Ov w' N P Q R (c + 1) most G caps ∧ I (at_ s row x) w' ∧ Mod (fun k => k = N ∨ F k) w w' := by
  obtain ⟨m2, ml, f2⟩ := hov.n.cell
  obtain ⟨hov1, hm1⟩ := hov.set (c + 1)
  rw [show ((c + 1 : Nat) : Int) = (c : Int) + 1 by omega] at hov1 hm1
  have hS1 := h.mod hm1 (fun k hk e => (hap N (.inl rfl)).2.2.1 (e ▸ hk)) (fun e => (hap N (.inl rfl)).1 e.symm) (fun e => (hap N (.inl rfl)).2.1 e.symm)
  have hr1 := hr.mod hm1 (fun a ha => (hap N (.inl rfl)).2.2.2.1 a ha)
  have hI1 := hat.keep x _ _ _ hI hm1 (fun k hk => by subst hk; exact hFN)
  have e1 : wrap64 ((c : Int) + 1) = (c : Int) + 1 := IntWalk.wrap64_in _ (by omega)
  have HE1 := Lib.hid e1
  have HMF := Lib.hid (show Mod (fun k => k = N ∨ F k) w (w.setCell ⟨N, 0, none⟩ (.int .i64 ((c : Int) + 1))) from hm1.mono (fun k _ e => .inl e))
  have d1 : decide ((most : Int) < (c : Int) + 1) = false := decide_eq_false (by omega)
  have d2 : ¬ (most : Int) < (c : Int) + 1 := by omega
  obtain ⟨W1, hW1⟩ : ∃ z, z = w.setCell ⟨N, 0, none⟩ (.int .i64 ((c : Int) + 1)) := ⟨_, rfl⟩
  rw [← hW1] at hov1 hm1 hS1 hr1 hI1 HMF
  have hall := all_any W1 C S T s hS1 hw
  have hlen : ((Pr.all s).map (fun (t : Nat) => (t : Int))).length = (Pr.all s).length := by simp
  rw [hlen] at hall
  rw [ha] at hall
  have hall0 : Calls Tryz.prog 31 #[.pointer (some ⟨S, 0, none⟩)] W1 fun x w' => ∃ A cap, x = .returned (.slice A 0 cap) ∧ Below W1.heap.size W1 w' := hall.mono fun x w' ⟨A, cap, h1, _, h3⟩ => ⟨A, cap, h1, h3⟩
  have HALL := Lib.hid hall0
  have HS1 := Lib.hid hS1
  have HR1 := Lib.hid hr1
  have HOV := Lib.hid hov1
  have HI1 := Lib.hid hI1
  have HW1 := Lib.hid hW1
  have HWF := Lib.hid hw
  have HRL := Lib.hid hrl
  have HAT := Lib.hid hat
  have HAP := Lib.hid (And.intro hap (And.intro hFN (And.intro hFP (And.intro hFQ hFR))))
  clear h hC hr hw hov hI hov1 hm1 hS1 hr1 hI1 hap e1 hat hFN hFP hFQ hFR hW1 hall hall0 ha hlen hrl
  go_enter Tryz.func159, Tryz.ntmps159
  go_upto_region 1 with fail
  try rw [HE1.out]
  rw [← HW1.out]
  clear m2 ml f2
  obtain ⟨m2, ml, _⟩ := HOV.out.n.cell
  rw [show ((c + 1 : Nat) : Int) = (c : Int) + 1 by omega] at m2
  obtain ⟨p2, pl, _⟩ := HOV.out.p.cell
  go_wp2_with fail
  refine HALL.out.mono ?_
  rintro y w2 ⟨A2, c2, rfl, b2⟩
  have hov2 := HOV.out.below b2
  have hcall := HAT.out.call w2 C S T s row A cap x (HS1.out.below b2) HWF.out ((HR1.out.rd).below b2 (Nat.le_refl _)) (by have := HRL.out; omega) (fun k hk => have h9 := HAP.out.1 k (.inr hk); ⟨h9.1, h9.2.1, h9.2.2.1, h9.2.2.2.1⟩) (HAT.out.below HI1.out b2)
  have HCALL := Lib.hid hcall
  have HOV2 := Lib.hid hov2
  have HMO := Lib.hid (show Mod (fun k => k = N ∨ F k) w w2 from HMF.out.trans (Mod.of_below_size b2 _))
  clear m2 ml p2 pl HALL b2 hov2 hcall
  obtain ⟨q2, ql, _⟩ := HOV2.out.q.cell
  go_wp2_with fail
  rw [HAT.out.enters, Oper.upon_enter]
  refine HCALL.out.mono ?_
  rintro y w3 ⟨rfl, hi3, hm3⟩
  have HOV3 := Lib.hid (HOV2.out.mod hm3 HAP.out.2.1 HAP.out.2.2.1 HAP.out.2.2.2.1 HAP.out.2.2.2.2)
  have HI3 := Lib.hid hi3
  have HMO3 := Lib.hid (show Mod (fun k => k = N ∨ F k) w w3 from HMO.out.trans (hm3.mono (fun k _ e => .inr e)))
  clear hi3 hm3 q2 ql HCALL HOV2 HMO
  go_wp2_with fail
  go_loopw [30] (fun v wz => v = .int .i64 0 ∧ wz = w3) (fun v _ => 0)
  case atStart => exact ⟨rfl, rfl⟩
  case round =>
    obtain ⟨rfl, rfl⟩ := hrel
    go_wp2_with fail
    go_end0
    exact ⟨rfl, HOV3.out, HI3.out, HMO3.out⟩
def kidsP (at_ : St → List Ev → α → α) (most n : Nat) (s : St) (row : List Ev) (l : List Nat) (x : Nat × α) : Nat × α := l.foldl (fun y t => Pr.over at_ most n (Pr.stepS s t) (row ++ [Pr.evAt s t]) y) x
theorem kidsP_bound (at_ : St → List Ev → α → α) (most n : Nat) (s : St) (row : List Ev) (hw : Pr.Wf s) : ∀ (l : List Nat) (x : Nat × α), (kidsP at_ most n s row l x).1 ≤ max x.1 (most + 1 + 4 * n) + l.length := by
  intro l
  induction l with
  | nil => intro x; show x.1 ≤ _; omega
  | cons t l ih =>
    intro x
    refine Nat.le_trans (ih _) ?_
    rw [List.length_cons]
    show max (Pr.over at_ most n (Pr.stepS s t) (row ++ [Pr.evAt s t]) x).1 (most + 1 + 4 * n) + l.length ≤ max x.1 (most + 1 + 4 * n) + (l.length + 1)
    by_cases hf : most < x.1 + 1
    · have : Pr.over at_ most n (Pr.stepS s t) (row ++ [Pr.evAt s t]) x = (x.1 + 1, x.2) := by cases n <;> simp only [Pr.over, if_pos hf]
      rw [this]; simp only; omega
    · have := Pr.over_bound at_ most n (Pr.stepS s t) (row ++ [Pr.evAt s t]) x (Pr.stepS_wf t hw).1
      omega
theorem kidsP_snoc {at_ : St → List Ev → α → α} {most n : Nat} {s : St} {row : List Ev} {l : List Nat} {i t : Nat} {x : Nat × α} (h : l[i]? = some t) : kidsP at_ most n s row (l.take (i + 1)) x = Pr.over at_ most n (Pr.stepS s t) (row ++ [Pr.evAt s t]) (kidsP at_ most n s row (l.take i) x) := by
  rw [List.take_add_one, h]
  unfold kidsP
  rw [List.foldl_append]
  rfl
set_option maxRecDepth 100000 in
set_option maxHeartbeats 8000000 in
theorem over1_more {N P Q R most G : Nat} {caps : Array Value} {F : Nat → Prop} {I : α → World → Prop} {at_ : St → List Ev → α → α} (hat : AtS G caps F I at_) (hFN : ¬ F N) (hFP : ¬ F P) (hFQ : ¬ F Q) (hFR : ¬ F R) (hmost : most ≤ 100000)
    (n : Nat) (s : St) (hw : Pr.Wf s) (w : World) (C : Nat → Prop) (S T : Nat) (row : List Ev) (A : Option Addr) (cap c : Nat) (x : α) (h : SAt w C S T s) (hC : ∀ k, C k → k < w.heap.size)
    (hr : Row w 51 4 A row.length cap (row.flatMap encE)) (hrl : row.length + n ≤ 100) (hap : ∀ k, (k = N ∨ F k) → k ≠ S ∧ k ≠ T ∧ ¬ C k ∧ (∀ b, A = some b → b.block ≠ k) ∧ k < w.heap.size) (hov : Ov w N P Q R c most G caps) (hI : I x w) (hc : c ≤ most + 300) (hf : ¬ most < c + 1) (ha : Pr.all s ≠ []) (hn32 : n ≤ 32) (hcn : c + 4 * n ≤ most + 300) (hn0 : 0 < n) (ih : ∀ t ∈ Pr.all s, OverC N P Q R most G caps F I at_ (n - 1) (Pr.stepS s t)) :
    Calls Tryz.prog 159 #[.pointer (some ⟨S, 0, none⟩), .slice A row.length cap, .pointer (some ⟨N, 0, none⟩), .pointer (some ⟨P, 0, none⟩), .pointer (some ⟨Q, 0, none⟩), .pointer (some ⟨R, 0, none⟩)] w fun y w' => y = .returned (.tuple #[]) ∧ Ov w' N P Q R (kidsP at_ most (n - 1) s row (Pr.all s) (c + 1, x)).1 most G caps ∧ I (kidsP at_ most (n - 1) s row (Pr.all s) (c + 1, x)).2 w' ∧ Mod (fun k => k = N ∨ F k) w w' := by
  obtain ⟨m2, ml, f2⟩ := hov.n.cell
  obtain ⟨hov1, hm1⟩ := hov.set (c + 1)
  rw [show ((c + 1 : Nat) : Int) = (c : Int) + 1 by omega] at hov1 hm1
  have hS1 := h.mod hm1 (fun k hk e => (hap N (.inl rfl)).2.2.1 (e ▸ hk)) (fun e => (hap N (.inl rfl)).1 e.symm) (fun e => (hap N (.inl rfl)).2.1 e.symm)
  have hr1 := hr.mod hm1 (fun a ha => (hap N (.inl rfl)).2.2.2.1 a ha)
  have hI1 := hat.keep x _ _ _ hI hm1 (fun k hk => by subst hk; exact hFN)
  have e1 : wrap64 ((c : Int) + 1) = (c : Int) + 1 := IntWalk.wrap64_in _ (by omega)
  have HE1 := Lib.hid e1
  have HMF := Lib.hid (show Mod (fun k => k = N ∨ F k) w (w.setCell ⟨N, 0, none⟩ (.int .i64 ((c : Int) + 1))) from hm1.mono (fun k _ e => .inl e))
  have d1 : decide ((most : Int) < (c : Int) + 1) = false := decide_eq_false (by omega)
  have d2 : ¬ (most : Int) < (c : Int) + 1 := by omega
  obtain ⟨W1, hW1⟩ : ∃ z, z = w.setCell ⟨N, 0, none⟩ (.int .i64 ((c : Int) + 1)) := ⟨_, rfl⟩
  rw [← hW1] at hov1 hm1 hS1 hr1 hI1 HMF
  have hall := all_any W1 C S T s hS1 hw
  have hlen : ((Pr.all s).map (fun (t : Nat) => (t : Int))).length = (Pr.all s).length := by simp
  rw [hlen] at hall
  obtain ⟨na, hna⟩ : ∃ na, na = (Pr.all s).length := ⟨_, rfl⟩
  have hna0 : na ≠ 0 := by rw [hna]; exact fun h => ha (List.eq_nil_of_length_eq_zero h)
  have hna4 : na ≤ 4 := by rw [hna]; exact Pr.all_len hw
  rw [← hna] at hall
  obtain ⟨rl, hrl2⟩ : ∃ rl, rl = row.length := ⟨_, rfl⟩
  rw [← hrl2] at hr1 hrl ⊢
  have HALL := Lib.hid hall
  have HS1 := Lib.hid hS1
  have HR1 := Lib.hid hr1
  have HOV := Lib.hid hov1
  have HI1 := Lib.hid hI1
  have HW1 := Lib.hid hW1
  have HWF := Lib.hid hw
  have HRL := Lib.hid (And.intro hrl hrl2)
  have HAT := Lib.hid hat
  have HAP := Lib.hid (And.intro hap (And.intro hFN (And.intro hFP (And.intro hFQ hFR))))
  have HC := Lib.hid hC
  have HNA := Lib.hid hna
  have HIH := Lib.hid ih
  have HCN := Lib.hid (And.intro hcn (And.intro hn32 hn0))
  have HWS := Lib.hid (show w.heap.size ≤ W1.heap.size from hm1.size)
  have hrl9 : rl ≤ 100 := by omega
  have e0 : ((na : Int) == 0) = false := by simpa using hna0
  clear h hC hr hw hov hI hov1 hm1 hS1 hr1 hI1 hap e1 hat hFN hFP hFQ hFR hW1 hall ha hlen hrl hrl2 hna ih hcn hn32 hn0 hna0
  go_enter Tryz.func159, Tryz.ntmps159
  go_upto_region 1 with fail
  try rw [HE1.out]
  rw [← HW1.out]
  clear m2 ml f2
  obtain ⟨m2, ml, _⟩ := HOV.out.n.cell
  rw [show ((c + 1 : Nat) : Int) = (c : Int) + 1 by omega] at m2
  obtain ⟨p2, pl, _⟩ := HOV.out.p.cell
  go_wp2_with fail
  refine HALL.out.mono ?_
  rintro y w2 ⟨A2, c2, rfl, hints, b2⟩
  have hlen : ((Pr.all s).map (fun (t : Nat) => (t : Int))).length = na := by rw [List.length_map, HNA.out]
  have hrd : RdB w2 w2.heap.size 1 A2 ((Pr.all s).map (fun (t : Nat) => (t : Int))).length (((Pr.all s).map (fun (t : Nat) => (t : Int))).map iv) := hints.1.rd.toB
  have hatA : ∀ b, A2 = some b → W1.heap.size ≤ b.block := hints.2
  have HIC := Lib.hid (int_cell hrd)
  have HATA := Lib.hid hatA
  have HS2 := Lib.hid (HS1.out.below b2)
  have HR2 := Lib.hid (row_stepS HR1.out b2)
  have HOV2 := Lib.hid (HOV.out.below b2)
  have HI2 := Lib.hid (HAT.out.below HI1.out b2)
  have HMO := Lib.hid (show Mod (fun k => k = N ∨ F k) w w2 from HMF.out.trans (Mod.of_below_size b2 _))
  have HW12 := Lib.hid b2.size
  clear m2 ml p2 pl HALL b2 hints hrd hatA hlen HW1 HE1 HOV HI1 HS1 HR1 HMF
  go_wp2_with fail
  obtain ⟨i0, hi0, hz0, hz1, hz2⟩ := info_parts Tryz.infoEv
  go_loopw [30] (fun v wr => ∃ i : Nat, i ≤ na ∧ v = .int .i64 i ∧ Hid (Ov wr N P Q R (kidsP at_ most (n - 1) s row ((Pr.all s).take i) (c + 1, x)).1 most G caps) ∧ Hid (I (kidsP at_ most (n - 1) s row ((Pr.all s).take i) (c + 1, x)).2 wr) ∧ Hid (Mod (fun k => k = N ∨ F k) w2 wr)) (fun v _ => na - (intOf v).toNat)
  case atStart => exact ⟨0, Nat.zero_le _, rfl, HOV2, HI2, Lib.hid (Mod.refl _ _)⟩
  case round =>
    clear HOV2 HI2
    obtain ⟨i, hi, rfl, HOV, HI, HMV0⟩ := hrel
    by_cases hlt : i < na
    · obtain ⟨t, ht⟩ := get_some (show i < (Pr.all s).length by rw [← HNA.out]; exact hlt)
      have hen := (Pr.all_iff (s := s) (t := t)).1 (List.mem_of_getElem? ht)
      obtain ⟨e, ii, hnx, h8, h9⟩ := Pr.enabled_next hen
      clear h8 h9
      have htl := Pr.en_lt hen
      have hti : ((Pr.all s).map (fun (t : Nat) => (t : Int)))[i]? = some (t : Int) := by rw [List.getElem?_map, ht]; rfl
      obtain ⟨g, og, rfl, hgl, hcl⟩ := HIC.out i _ hti
      have hgM : ¬ (g = N ∨ F g) := fun hk => by have h1 : W1.heap.size ≤ g := HATA.out _ rfl; have := (HAP.out.1 g hk).2.2.2.2; have := HWS.out; omega
      have hca := (HMV0.out.cell g (og + i) hgl hgM).trans (hcl w2 (Below.refl _ _))
      have hlg : g < wr.heap.size := Nat.lt_of_lt_of_le hgl HMV0.out.size
      have hSr : SAt wr C S T s := HS2.out.mod HMV0.out (fun k hk e => (HAP.out.1 k e).2.2.1 hk) (fun e => (HAP.out.1 S e).1 rfl) (fun e => (HAP.out.1 T e).2.1 rfl)
      have hRr : Row wr 51 4 A rl cap (row.flatMap encE) := HR2.out.mod HMV0.out (fun a ha e => (HAP.out.1 _ e).2.2.2.1 a ha rfl)
      have hwsz : w.heap.size ≤ wr.heap.size := by have := HWS.out; have := HW12.out; have := HMV0.out.size; omega
      have hcopy := copyS_any wr C S T s hSr (fun k hk => Nat.lt_of_lt_of_le (HC.out k hk) hwsz) HWF.out.n4
      have HCOPY := Lib.hid hcopy
      have HT := Lib.hid (And.intro ht (And.intro hen (And.intro hnx htl)))
      have HWZ := Lib.hid hwsz
      have HRR := Lib.hid hRr
      have k1 : (0 : Int) ≤ (i : Int) := Int.natCast_nonneg _
      have k2 : (i : Int) < (na : Int) := by omega
      clear hcopy ht hen hnx htl hti hcl hgM hgl hSr hwsz hRr
      go_wp2_with fail
      refine HCOPY.out.mono ?_
      rintro y w3 ⟨S', T', rfl, hR3, hS', hT', b3⟩
      obtain ⟨et, ek, eo, ef⟩ := e
      have hstep := step_ok w3 C S' T' s t ⟨et, ek, eo, ef⟩ hR3 HWF.out HT.out.2.2.2 HT.out.2.1 HT.out.2.2.1
      simp only [valE] at hstep
      have HSTEP := Lib.hid hstep
      have HR3 := Lib.hid hR3
      have HB3 := Lib.hid b3
      have HST := Lib.hid (And.intro hS' hT')
      clear hstep hR3 b3 hS' hT' HCOPY hca hlg
      go_wp2_with fail
      refine HSTEP.out.mono ?_
      rintro y w4 ⟨rfl, hR4, hm4⟩
      have hb4 : Below wr.heap.size wr w4 := HB3.out.trans (hm4.below _ HB3.out.size (fun k hk e => by have := HST.out; omega))
      obtain ⟨V0, Z, hV0, hZ, hBz, hZl, hZe⟩ := ev_box w4 ⟨et, ek, eo, ef⟩
      simp only at hV0
      have hb5 : Below wr.heap.size wr V0 := below_at hb4 hBz
      have hR5 := hR4.below hBz
      have HXE := Lib.hid hZe
      have HRD := Lib.hid (fun (u : World) (hu : Below V0.heap.size V0 u) => row_stepS HRR.out (below_at hb5 hu))
      have HOVB := Lib.hid (fun (u : World) (hu : Below V0.heap.size V0 u) => HOV.out.below (below_at hb5 hu))
      have hrec : ∀ (u : World) (g8 o8 cap8 : Nat), Below V0.heap.size V0 u → V0.heap.size ≤ g8 → Row u 51 4 (some ⟨g8, o8, none⟩) (rl + 1) cap8 (row.flatMap encE ++ [.int .i64 et, .int .i64 ek, .int .i64 eo, .bool ef]) →
          Calls Tryz.prog 159 #[.pointer (some ⟨S', 0, none⟩), .slice (some ⟨g8, o8, none⟩) (rl + 1) cap8, .pointer (some ⟨N, 0, none⟩), .pointer (some ⟨P, 0, none⟩), .pointer (some ⟨Q, 0, none⟩), .pointer (some ⟨R, 0, none⟩)] u fun y w' => y = .returned (.tuple #[]) ∧ Ov w' N P Q R (kidsP at_ most (n - 1) s row ((Pr.all s).take (i + 1)) (c + 1, x)).1 most G caps ∧ I (kidsP at_ most (n - 1) s row ((Pr.all s).take (i + 1)) (c + 1, x)).2 w' ∧ Mod (fun k => k = N ∨ F k) u w' := fun u g8 o8 cap8 hu hg8 hrd => by
        obtain ⟨ci, xi, hx⟩ : ∃ ci xi, kidsP at_ most (n - 1) s row ((Pr.all s).take i) (c + 1, x) = (ci, xi) := ⟨_, _, rfl⟩
        have hov := HOVB.out u hu
        have hii := HAT.out.below HI.out (below_at hb5 hu)
        have hbd := kidsP_bound at_ most (n - 1) s row HWF.out ((Pr.all s).take i) (c + 1, x)
        have hev : Pr.evAt s t = ⟨et, ek, eo, ef⟩ := by unfold Pr.evAt; rw [HT.out.2.2.1]; rfl
        rw [hx] at hov hii hbd
        rw [kidsP_snoc HT.out.1, hx, hev]
        have hl2 : (row ++ [(⟨et, ek, eo, ef⟩ : Ev)]).length = rl + 1 := by rw [List.length_append, ← HRL.out.2]; rfl
        have hlt2 : ((Pr.all s).take i).length ≤ 3 := by rw [List.length_take]; omega
        have hcn := HCN.out
        simp only at hbd hov hii
        have hu5 := hu.size
        have hz5 := hb5.size
        have hwz := HWZ.out
        have hst := HST.out
        have hss := hR5.lt
        have hfl : (row ++ [(⟨et, ek, eo, ef⟩ : Ev)]).flatMap encE = row.flatMap encE ++ [.int .i64 et, .int .i64 ek, .int .i64 eo, .bool ef] := by rw [List.flatMap_append]; simp [encE]
        have := HIH.out t (List.mem_of_getElem? HT.out.1) u C S' T' (row ++ [⟨et, ek, eo, ef⟩]) (some ⟨g8, o8, none⟩) cap8 ci xi (hR5.below hu) (fun k hk => by have := HC.out k hk; omega)
          (by rw [hl2, hfl]; exact hrd) (by rw [hl2]; have := HRL.out.1; omega) (fun k hk => by
            have h9 := HAP.out.1 k hk
            exact ⟨by omega, by omega, h9.2.2.1, fun b hb => by injection hb with hb; subst hb; simp only; omega, by omega⟩) hov hii (by omega)
        rw [hl2] at this
        exact this
      have HREC := Lib.hid hrec
      have HMV := Lib.hid (show Mod (fun k => k = N ∨ F k) w2 V0 from HMV0.out.trans (Mod.of_below_size hb5 _))
      have HZN := Lib.hid (show ∀ k, (k = N ∨ F k) → k ≠ Z from fun k hk e => by
        have h1 := (HAP.out.1 k hk).2.2.2.2
        have h2 := hb4.size
        have h3 := HWZ.out
        rw [hZ] at e
        omega)
      clear hrec hR5 hb5 hR4 hm4 hb4 hBz hZl hZe HSTEP HR3 HB3 HI HMV0
      go_upto_region 10 with fail
      rw [← hV0, ← hZ]
      clear hV0 hZ
      refine wp_region_planF (by kernel_rfl) (fun u => Below V0.heap.size V0 u) [11] [(0, .load), (1, .pure), (2, .pure), (3, .pure), (4, .pure), (5, .pure), (6, .pure), (7, .pure), (8, .load), (9, .eff), (10, .eff), (11, .last)] (by simp only [List.map_cons, List.map_nil, List.getElem?_toArray, List.getElem?_cons_succ, List.getElem?_cons_zero]; rfl) (by kernel_rfl) (fun _ _ d _ _ h => by cases d <;> exact h) ((Below.refl _ _).drew) ?_
      obtain ⟨v1, hv1⟩ : ∃ z, z = V0.drew := ⟨_, rfl⟩
      rw [← hv1]
      have hbv : Below V0.heap.size V0 v1 := by rw [hv1]; exact (Below.refl _ _).drew
      have HBV := Lib.hid hbv
      clear hv1 hbv
      cases A with
      | none =>
        obtain rfl : rl = 0 := by have h1 := HRR.out.2.2.2.1 rfl; have h2 := HRR.out.2.1; omega
        have hre : row = [] := List.eq_nil_of_length_eq_zero (by rw [← HRL.out.2])
        obtain rfl : cap = 0 := HRR.out.2.2.2.1 rfl
        subst hre
        repeat (first
          | (refine plan_pure (v := ?_) (by rfl) (fun w1 => ?_) ?_
             rotate_left
             · go_simp <;> with_reducible rfl
             simp only [Act.put, List.setIfInBounds_toArray, List.set_cons_zero, List.set_cons_succ])
          | (refine plan_off (by rfl) ?_
             simp only [Act.put, List.setIfInBounds_toArray, List.set_cons_zero, List.set_cons_succ])
          | (refine plan_load_off (by rfl) ?_
             simp only [Act.put, List.setIfInBounds_toArray, List.set_cons_zero, List.set_cons_succ])
          | (refine plan_load (v := ?_) (by rfl) (fun w1 hw1 => ?_) ?_
             rotate_left
             · (have qr := (HOVB.out w1 hw1).r.cell
                obtain ⟨r0, r1, _⟩ := qr
                have qe := HXE.out w1 hw1
                obtain ⟨⟨z0, z1, z2, z3⟩, zl⟩ := qe
                simp only [Nat.zero_add] at z1 z2 z3
                clear hw1
                go_simp <;> with_reducible rfl)
             simp only [Act.put, List.setIfInBounds_toArray, List.set_cons_zero, List.set_cons_succ]))
        obtain ⟨Y, hY⟩ : ∃ Z, Z = v1.heap.size := ⟨_, rfl⟩
        obtain ⟨v2, hv2⟩ : ∃ u, u = v1.alloc (Obj.cells #[.int .i64 et, .int .i64 ek, .int .i64 eo, .bool ef] 51) := ⟨_, rfl⟩
        have HYK := Lib.hid (show v2.heap[Y]? = some (.cells #[.int .i64 et, .int .i64 ek, .int .i64 eo, .bool ef] 51 (0, 0)) by rw [hv2, hY]; exact heap_alloc_new v1 _)
        have HB2 := Lib.hid (show Below V0.heap.size V0 v2 by rw [hv2]; exact HBV.out.alloc HBV.out.size _)
        refine plan_eff ?_
        go_wp2_with fail
        rw [← hv2, ← hY]
        clear hv2 hY
        refine plan_on (fun _ h => h) HB2.out ?_
        repeat (first
          | (refine plan_pure (v := ?_) (by rfl) (fun w1 => ?_) ?_
             rotate_left
             · go_simp <;> with_reducible rfl
             simp only [Act.put, List.setIfInBounds_toArray, List.set_cons_zero, List.set_cons_succ])
          | (refine plan_off (by rfl) ?_
             simp only [Act.put, List.setIfInBounds_toArray, List.set_cons_zero, List.set_cons_succ])
          | (refine plan_load_off (by rfl) ?_
             simp only [Act.put, List.setIfInBounds_toArray, List.set_cons_zero, List.set_cons_succ])
          | (refine plan_load (v := ?_) (by rfl) (fun w1 hw1 => ?_) ?_
             rotate_left
             · (skip
                clear hw1
                go_simp <;> with_reducible rfl)
             simp only [Act.put, List.setIfInBounds_toArray, List.set_cons_zero, List.set_cons_succ]))
        refine plan_eff ?_
        go_wp2_with (at_builtin; refine wpList_append_row (by rfl) _ _ _ (by rfl) 51 i0 _ 4 32 Tryz.underlying55 hi0 hz0 hz1 hz2 rfl (by omega) none 0 0 [] (by rfl) (Row.nil v2 _ _) ⟨Y, 0, none⟩ 1 1 [.int .i64 et, .int .i64 ek, .int .i64 eo, .bool ef] (by rfl) (by rfl) (World.news_of_block (cs := #[.int .i64 et, .int .i64 ek, .int .i64 eo, .bool ef]) (t := 51) (fr := (0, 0)) HYK.out) (by simp [Value.oneCell']) (by omega) (by unfold maxLen; omega) (by omega) ?_; intro g8 o8 cap8 v3 hown hm hat9; skip)
        have HB3 := Lib.hid (show Below V0.heap.size V0 v3 from HB2.out.trans (hm.below _ HB2.out.size (fun k hk ⟨a, e1, e2⟩ => by cases e1)))
        have HG8 := Lib.hid (show V0.heap.size ≤ g8 by
          rcases hat9 with ⟨a, e1, e2⟩ | h
          · cases e1
          · exact Nat.le_trans HB2.out.size h)
        have hcall := HREC.out v3 g8 o8 cap8 HB3.out HG8.out (by simpa using hown)
        have HCALL := Lib.hid hcall
        clear hown hm hat9 hcall
        refine plan_on (fun _ h => h) HB3.out ?_
        repeat (first
          | (refine plan_pure (v := ?_) (by rfl) (fun w1 => ?_) ?_
             rotate_left
             · go_simp <;> with_reducible rfl
             simp only [Act.put, List.setIfInBounds_toArray, List.set_cons_zero, List.set_cons_succ])
          | (refine plan_off (by rfl) ?_
             simp only [Act.put, List.setIfInBounds_toArray, List.set_cons_zero, List.set_cons_succ])
          | (refine plan_load_off (by rfl) ?_
             simp only [Act.put, List.setIfInBounds_toArray, List.set_cons_zero, List.set_cons_succ])
          | (refine plan_load (v := ?_) (by rfl) (fun w1 hw1 => ?_) ?_
             rotate_left
             · (skip
                clear hw1
                go_simp <;> with_reducible rfl)
             simp only [Act.put, List.setIfInBounds_toArray, List.set_cons_zero, List.set_cons_succ]))
        refine plan_last ?_
        go_wp2_with fail
        refine HCALL.out.mono ?_
        rintro y w9 ⟨rfl, ho9, hi9, hm9⟩
        have HO9 := Lib.hid ho9
        have HI9 := Lib.hid hi9
        have HM9 := Lib.hid ((Mod.of_below_size HB3.out (fun k => k = N ∨ F k)).trans hm9)
        clear ho9 hi9 hm9 HCALL
        go_wp2_with fail
        repeat (first
          | (refine plan_pure (v := ?_) (by rfl) (fun w1 => ?_) ?_
             rotate_left
             · go_simp <;> with_reducible rfl
             simp only [Act.put, List.setIfInBounds_toArray, List.set_cons_zero, List.set_cons_succ])
          | (refine plan_off (by rfl) ?_
             simp only [Act.put, List.setIfInBounds_toArray, List.set_cons_zero, List.set_cons_succ])
          | (refine plan_load_off (by rfl) ?_
             simp only [Act.put, List.setIfInBounds_toArray, List.set_cons_zero, List.set_cons_succ])
          | (refine plan_load (v := ?_) (by rfl) (fun w1 hw1 => ?_) ?_
             rotate_left
             · (skip
                clear hw1
                go_simp <;> with_reducible rfl)
             simp only [Act.put, List.setIfInBounds_toArray, List.set_cons_zero, List.set_cons_succ]))
        refine plan_end ?_
        go_wp2_with fail
        go_roundw
        case rel => exact ⟨i + 1, by omega, by go_num, HO9, HI9, Lib.hid (HMV.out.trans HM9.out)⟩
        case measure => simp [intOf]; omega
      | some a =>
        have hrc : rl ≤ cap := HRR.out.2.1
        have k5 : (0 : Int) ≤ (rl : Int) := Int.natCast_nonneg _
        have k6 : (rl : Int) ≤ (cap : Int) := by omega
        obtain ⟨ga, oa, sa⟩ := a
        obtain rfl : sa = none := (HRR.out.2.2.2.2 _ rfl).1
        repeat (first
          | (refine plan_pure (v := ?_) (by rfl) (fun w1 => ?_) ?_
             rotate_left
             · go_simp <;> with_reducible rfl
             simp only [Act.put, List.setIfInBounds_toArray, List.set_cons_zero, List.set_cons_succ])
          | (refine plan_off (by rfl) ?_
             simp only [Act.put, List.setIfInBounds_toArray, List.set_cons_zero, List.set_cons_succ])
          | (refine plan_load_off (by rfl) ?_
             simp only [Act.put, List.setIfInBounds_toArray, List.set_cons_zero, List.set_cons_succ])
          | (refine plan_load (v := ?_) (by rfl) (fun w1 hw1 => ?_) ?_
             rotate_left
             · (have qr := (HOVB.out w1 hw1).r.cell
                obtain ⟨r0, r1, _⟩ := qr
                have qe := HXE.out w1 hw1
                obtain ⟨⟨z0, z1, z2, z3⟩, zl⟩ := qe
                simp only [Nat.zero_add] at z1 z2 z3
                clear hw1
                go_simp <;> with_reducible rfl)
             simp only [Act.put, List.setIfInBounds_toArray, List.set_cons_zero, List.set_cons_succ]))
        obtain ⟨Y, hY⟩ : ∃ Z, Z = v1.heap.size := ⟨_, rfl⟩
        obtain ⟨v2, hv2⟩ : ∃ u, u = v1.alloc (Obj.cells #[.int .i64 et, .int .i64 ek, .int .i64 eo, .bool ef] 51) := ⟨_, rfl⟩
        have HYK := Lib.hid (show v2.heap[Y]? = some (.cells #[.int .i64 et, .int .i64 ek, .int .i64 eo, .bool ef] 51 (0, 0)) by rw [hv2, hY]; exact heap_alloc_new v1 _)
        have HB2 := Lib.hid (show Below V0.heap.size V0 v2 by rw [hv2]; exact HBV.out.alloc HBV.out.size _)
        have HTR := Lib.hid ((HRD.out v2 HB2.out).tight (fun h => by cases h))
        refine plan_eff ?_
        go_wp2_with fail
        rw [← hv2, ← hY]
        clear hv2 hY
        refine plan_on (fun _ h => h) HB2.out ?_
        repeat (first
          | (refine plan_pure (v := ?_) (by rfl) (fun w1 => ?_) ?_
             rotate_left
             · go_simp <;> with_reducible rfl
             simp only [Act.put, List.setIfInBounds_toArray, List.set_cons_zero, List.set_cons_succ])
          | (refine plan_off (by rfl) ?_
             simp only [Act.put, List.setIfInBounds_toArray, List.set_cons_zero, List.set_cons_succ])
          | (refine plan_load_off (by rfl) ?_
             simp only [Act.put, List.setIfInBounds_toArray, List.set_cons_zero, List.set_cons_succ])
          | (refine plan_load (v := ?_) (by rfl) (fun w1 hw1 => ?_) ?_
             rotate_left
             · (skip
                clear hw1
                go_simp <;> with_reducible rfl)
             simp only [Act.put, List.setIfInBounds_toArray, List.set_cons_zero, List.set_cons_succ]))
        refine plan_eff ?_
        go_wp2_with (at_builtin; refine wpList_append_copy (by rfl) _ _ _ (by rfl) 51 i0 _ 4 32 Tryz.underlying55 hi0 hz0 hz1 hz2 rfl (by omega) ⟨ga, oa, none⟩ rl (row.flatMap encE) (by rfl) HTR.out (some ⟨Y, 0, none⟩) 1 1 [.int .i64 et, .int .i64 ek, .int .i64 eo, .bool ef] (by rfl) (ev_rd HYK.out) (by unfold maxLen; omega) (by omega) ?_; intro g8 o8 cap8 v3 hown hb9 hg9; skip)
        have HB3 := Lib.hid (show Below V0.heap.size V0 v3 from below_at HB2.out hb9)
        have HG8 := Lib.hid (show V0.heap.size ≤ g8 by
          rcases hg9 with ⟨h, _⟩ | h
          · omega
          · exact Nat.le_trans HB2.out.size h)
        have hcall := HREC.out v3 g8 o8 cap8 HB3.out HG8.out hown
        have HCALL := Lib.hid hcall
        clear hown hb9 hg9 hcall HTR
        refine plan_on (fun _ h => h) HB3.out ?_
        repeat (first
          | (refine plan_pure (v := ?_) (by rfl) (fun w1 => ?_) ?_
             rotate_left
             · go_simp <;> with_reducible rfl
             simp only [Act.put, List.setIfInBounds_toArray, List.set_cons_zero, List.set_cons_succ])
          | (refine plan_off (by rfl) ?_
             simp only [Act.put, List.setIfInBounds_toArray, List.set_cons_zero, List.set_cons_succ])
          | (refine plan_load_off (by rfl) ?_
             simp only [Act.put, List.setIfInBounds_toArray, List.set_cons_zero, List.set_cons_succ])
          | (refine plan_load (v := ?_) (by rfl) (fun w1 hw1 => ?_) ?_
             rotate_left
             · (skip
                clear hw1
                go_simp <;> with_reducible rfl)
             simp only [Act.put, List.setIfInBounds_toArray, List.set_cons_zero, List.set_cons_succ]))
        refine plan_last ?_
        go_wp2_with fail
        refine HCALL.out.mono ?_
        rintro y w9 ⟨rfl, ho9, hi9, hm9⟩
        have HO9 := Lib.hid ho9
        have HI9 := Lib.hid hi9
        have HM9 := Lib.hid ((Mod.of_below_size HB3.out (fun k => k = N ∨ F k)).trans hm9)
        clear ho9 hi9 hm9 HCALL
        go_wp2_with fail
        repeat (first
          | (refine plan_pure (v := ?_) (by rfl) (fun w1 => ?_) ?_
             rotate_left
             · go_simp <;> with_reducible rfl
             simp only [Act.put, List.setIfInBounds_toArray, List.set_cons_zero, List.set_cons_succ])
          | (refine plan_off (by rfl) ?_
             simp only [Act.put, List.setIfInBounds_toArray, List.set_cons_zero, List.set_cons_succ])
          | (refine plan_load_off (by rfl) ?_
             simp only [Act.put, List.setIfInBounds_toArray, List.set_cons_zero, List.set_cons_succ])
          | (refine plan_load (v := ?_) (by rfl) (fun w1 hw1 => ?_) ?_
             rotate_left
             · (skip
                clear hw1
                go_simp <;> with_reducible rfl)
             simp only [Act.put, List.setIfInBounds_toArray, List.set_cons_zero, List.set_cons_succ]))
        refine plan_end ?_
        go_wp2_with fail
        go_roundw
        case rel => exact ⟨i + 1, by omega, by go_num, HO9, HI9, Lib.hid (HMV.out.trans HM9.out)⟩
        case measure => simp [intOf]; omega
    · obtain rfl : i = na := by omega
      go_wp2_with fail
      go_end0
      have hs := HOV.out
      have hi9 := HI.out
      rw [List.take_of_length_le (by rw [HNA.out]; exact Nat.le_refl _)] at hs hi9
      exact ⟨rfl, hs, hi9, HMO.out.trans HMV0.out⟩
theorem over1_any {N P Q R most G : Nat} {caps : Array Value} {F : Nat → Prop} {I : α → World → Prop} {at_ : St → List Ev → α → α} (hat : AtS G caps F I at_) (hFN : ¬ F N) (hFP : ¬ F P) (hFQ : ¬ F Q) (hFR : ¬ F R) (hmost : most ≤ 100000) : ∀ (n : Nat) (s : St), Pr.Wf s → Pr.fuels s ≤ n → n ≤ 32 → OverC N P Q R most G caps F I at_ n s := by
  have full : ∀ {n : Nat} {s : St} {row : List Ev} {x : Nat × α}, most < x.1 + 1 → Pr.over at_ most n s row x = (x.1 + 1, x.2) := fun {n s row x} h => by cases n <;> simp only [Pr.over, if_pos h]
  have nilC : ∀ {n : Nat} {s : St} {row : List Ev} {c : Nat} {x : α}, ¬ most < c + 1 → Pr.all s = [] → Pr.over at_ most n s row (c, x) = (c + 1, at_ s row x) := fun {n s row c x} h ha => by
    cases n with
    | zero => simp only [Pr.over, if_neg h]
    | succ n => simp only [Pr.over, if_neg h, if_pos ha]; rw [ha]; rfl
  intro n
  induction n with
  | zero =>
    intro s hw hf _ w C S T row A cap c x h hC hr hrl hap hov hI hc
    by_cases h1 : most < c + 1
    · rw [full (x := (c, x)) h1]
      exact over1_full hat hFN hFP hFQ hFR hmost 0 s hw w C S T row A cap c x h hC hr hrl hap hov hI (by omega) h1
    · have ha := Pr.all_nil_of hw (by omega)
      rw [nilC h1 ha]
      exact over1_end hat hFN hFP hFQ hFR hmost 0 s hw w C S T row A cap c x h hC hr hrl hap hov hI (by omega) h1 ha
  | succ n ih =>
    intro s hw hf hn w C S T row A cap c x h hC hr hrl hap hov hI hc
    by_cases h1 : most < c + 1
    · rw [full (x := (c, x)) h1]
      exact over1_full hat hFN hFP hFQ hFR hmost (n + 1) s hw w C S T row A cap c x h hC hr hrl hap hov hI (by omega) h1
    · by_cases ha : Pr.all s = []
      · rw [nilC h1 ha]
        exact over1_end hat hFN hFP hFQ hFR hmost (n + 1) s hw w C S T row A cap c x h hC hr hrl hap hov hI (by omega) h1 ha
      · have hg : Pr.over at_ most (n + 1) s row (c, x) = kidsP at_ most n s row (Pr.all s) (c + 1, x) := by simp only [Pr.over, if_neg h1, if_neg ha]; rfl
        rw [hg]
        exact over1_more hat hFN hFP hFQ hFR hmost (n + 1) s hw w C S T row A cap c x h hC hr hrl hap hov hI (by omega) h1 ha hn hc (Nat.succ_pos _) (fun t ht => by
          have hen := Pr.all_iff.1 ht
          have := Pr.fuels_step hw hen
          exact ih (Pr.stepS s t) (Pr.stepS_wf t hw).1 (by omega) (by omega))
end
end Go.Proofs.YtckdofjpoajblaaGreat
namespace Go.Proofs.YtckdofjpoajblaaGreat
open Go.RowKit
set_option linter.unusedVariables false
set_option maxRecDepth 100000 in
theorem cloneInt_any (w : World) (A : Option Addr) (n cap : Nat) (cs : List Value) (hr : Rd w 1 A n cs) (hn : n ≤ 1000000) :
    Calls Tryz.prog 97 #[.slice A n cap] w (fun x w' => CloneOut w 3 1 n cs x w') := by
  unfold CloneOut
  obtain ⟨i0, hi0, hz0, hz1, hz2⟩ := info_parts Tryz.infoInt
  have qn : ∀ (w : World) (a : Option Addr) (n c n' c' : Nat), (binOp .eql 32 (.slice a n c) (.slice none n' c')).run Tryz.prog w = .ok (.bool a.isNone) w := fun w a n c n' c' => Lib.run_eql_slice_nil w _ _ a n c n' c' Tryz.underlying32
  cases A with
  | none =>
    have h0 : n = 0 := by
      rcases Nat.eq_zero_or_pos n with h | h
      · exact h
      · obtain ⟨g, o, h1, _⟩ := hr.2 (by omega); cases h1
    subst h0
    have hc : cs = [] := List.eq_nil_of_length_eq_zero (by rw [hr.1])
    subst hc
    clear hr hi0 hz0 hz1 hz2
    go_enter Tryz.func97, Tryz.ntmps97
    go_wp2_with fail
    go_ret
    exact ⟨none, 0, rfl, Row.nil _ _ _, fun a h => (by cases h), Below.refl _ _⟩
  | some a =>
    have hb : Below w.heap.size w (w.alloc (Obj.cells #[] 3)) := (Below.refl _ _).alloc (Nat.le_refl _) _
    have HX := Lib.hid (hr.below hb (Nat.le_refl _))
    have HB := Lib.hid hb
    clear hr hb
    go_enter Tryz.func97, Tryz.ntmps97
    go_wp2_with (at_builtin; refine wpList_append_copy (by rfl) _ _ _ (by rfl) 3 i0 _ 1 8 Tryz.underlying32 hi0 hz0 hz1 hz2 rfl (by omega) ⟨w.heap.size, 0, none⟩ 0 [] (by rfl) (row_empty (heap_alloc_new w _)) (some a) n cap cs (by rfl) HX.out (by unfold maxLen; omega) (by omega) ?_; intro g7 o7 cap7 w2 hown hb2 hg7)
    go_ret
    rw [Nat.zero_add] at hown
    refine ⟨_, cap7, rfl, by simpa using hown, fun a h => ?_, below_at HB.out hb2⟩
    injection h with h
    subst h
    have := HB.out.size
    rcases hg7 with ⟨_, h⟩ | h
    · exact Nat.le_of_eq h.symm
    · simp at h; simp only; omega
def NodeAt (u : World) (B o S : Nat) (WA : Option Addr) (wc : Nat) (d : Pr.Nd) : Prop :=
  u.cell? ⟨B, o, none⟩ = some (.pointer (some ⟨S, 0, none⟩)) ∧ u.cell? ⟨B, o + 1, none⟩ = some (.slice WA d.w.length wc) ∧ u.cell? ⟨B, o + 2, none⟩ = some (.int .i64 d.e.t) ∧ u.cell? ⟨B, o + 3, none⟩ = some (.int .i64 d.e.k) ∧
    u.cell? ⟨B, o + 4, none⟩ = some (.int .i64 d.e.o) ∧ u.cell? ⟨B, o + 5, none⟩ = some (.bool d.e.f) ∧ B < u.heap.size
theorem NodeAt.block {u u' : World} {B o S : Nat} {WA : Option Addr} {wc : Nat} {d : Pr.Nd} (h : NodeAt u B o S WA wc d) (hb : u'.heap[B]? = u.heap[B]?) (hs : u.heap.size ≤ u'.heap.size) : NodeAt u' B o S WA wc d := by
  obtain ⟨h0, h1, h2, h3, h4, h5, h6⟩ := h
  exact ⟨by rw [World.cell?_of_block hb]; exact h0, by rw [World.cell?_of_block hb]; exact h1, by rw [World.cell?_of_block hb]; exact h2, by rw [World.cell?_of_block hb]; exact h3, by rw [World.cell?_of_block hb]; exact h4, by rw [World.cell?_of_block hb]; exact h5, by omega⟩
structure IsS (G : Nat) (caps : Array Value) (W0 : World) (is : Pr.Nd → Bool) : Prop where
  call : ∀ (u : World) (C : Nat → Prop) (S T B o : Nat) (d : Pr.Nd) (WA : Option Addr) (wc : Nat), Below W0.heap.size W0 u → SAt u C S T d.s → Pr.Wf d.s → NodeAt u B o S WA wc d →
    Calls Tryz.prog G (#[.pointer (some ⟨B, o, none⟩)] ++ caps) u fun y w' => y = .returned (.bool (is d)) ∧ Below u.heap.size u w'
  enters : ∀ (args : Array Value) (w : World), (callFunc G args).run Tryz.prog w = .ok (.enter G args) w
namespace Pr
def isFail (d : Nd) : Bool := d.e.f
def isWait (d : Nd) : Bool := decide (all d.s = []) && waits d.s
def isReach (x : Nat) (v : Int) (d : Nd) : Bool := decide (d.s.v x = v)
end Pr
set_option maxRecDepth 100000 in
theorem fail_is (W0 : World) : IsS 55 #[] W0 Pr.isFail where
  enters := Go.Proofs.enters_of Tryz.func55 (by kernel_rfl) rfl
  call := by
    intro u C S T B o d WA wc hb h hw hn
    obtain ⟨h0, h1, h2, h3, h4, h5, h6⟩ := hn
    show Calls Tryz.prog 55 #[.pointer (some ⟨B, o, none⟩)] u _
    obtain ⟨s, w, ⟨et, ek, eo, ef⟩⟩ := d
    simp only at h5
    clear hb h hw h0 h1 h2 h3 h4
    go_enter Tryz.func55, Tryz.ntmps55
    go_wp2_with fail
    go_ret
    exact ⟨rfl, Below.refl _ _⟩
set_option maxRecDepth 100000 in
set_option maxHeartbeats 2000000 in
theorem wait_is (W0 : World) : IsS 56 #[] W0 Pr.isWait where
  enters := Go.Proofs.enters_of Tryz.func56 (by kernel_rfl) rfl
  call := by
    intro u C S T B o d WA wc hb0 h hw hn
    show Calls Tryz.prog 56 #[.pointer (some ⟨B, o, none⟩)] u _
    obtain ⟨s, w, e⟩ := d
    simp only at h hw
    obtain ⟨res, hres⟩ : ∃ r, r = Pr.isWait ⟨s, w, e⟩ := ⟨_, rfl⟩
    rw [← hres]
    have hall := all_any u C S T s h hw
    have hthr : ∀ v, Below u.heap.size u v → _ := fun v hv => threads_any v C S T s (h.below hv)
    have hnx := fun (i : Nat) (hi : i < s.th.length) (v : World) (hu : Below u.heap.size u v) => next_any v C S T s i (h.below hu) hw hi
    obtain ⟨nt, hnt⟩ : ∃ n, n = s.th.length := ⟨_, rfl⟩
    have hn4 := hw.n4
    obtain ⟨na, hna⟩ : ∃ n, n = ((Pr.all s).map (fun (t : Nat) => (t : Int))).length := ⟨_, rfl⟩
    rw [← hna] at hall
    rw [← hnt] at hthr hnx hn4
    have hna4 : na ≤ 4 := by rw [hna, List.length_map]; exact Pr.all_len hw
    have hres2 : res = (decide (na = 0) && (List.range nt).any fun t => (Pr.next s t).isSome) := by
      rw [hres, hnt, hna]
      unfold Pr.isWait Pr.waits
      simp [List.length_eq_zero_iff]
    have hblk : ∀ v, Below u.heap.size u v → v.cell? ⟨B, o, none⟩ = some (.pointer (some ⟨S, 0, none⟩)) ∧ B < v.heap.size := fun v hv => ⟨by rw [World.cell?_of_block (hv.block B hn.2.2.2.2.2.2)]; exact hn.1, Nat.lt_of_lt_of_le hn.2.2.2.2.2.2 hv.size⟩
    have HALL := Lib.hid hall
    have HTHR := Lib.hid hthr
    have HNX := Lib.hid hnx
    have HRES := Lib.hid hres2
    have HBL := Lib.hid hblk
    obtain ⟨b0, bl⟩ := hblk u (Below.refl _ _)
    clear h hw hthr hnx hres hnt hres2 hall hna hblk hn hb0
    go_enter Tryz.func56, Tryz.ntmps56
    go_wp2_with fail
    refine HALL.out.mono ?_
    rintro y w1 ⟨A1, c1, rfl, _, b1⟩
    have HB1 := Lib.hid b1
    clear b1 HALL b0 bl
    obtain ⟨b0, bl⟩ := HBL.out w1 HB1.out
    by_cases h0 : na = 0
    · subst h0
      go_wp2_with fail
      refine (HTHR.out w1 HB1.out).mono ?_
      rintro y w2 ⟨rfl, rfl⟩
      clear b0 bl
      go_wp2_with fail
      go_loopw [18] (fun v wr => ∃ i : Nat, i ≤ nt ∧ v = .int .i64 i ∧ Hid (((List.range i).any fun t => (Pr.next s t).isSome) = false) ∧ Hid (Below u.heap.size u wr)) (fun v _ => nt - (intOf v).toNat)
      case atStart => exact ⟨0, Nat.zero_le _, rfl, Lib.hid rfl, HB1⟩
      case round =>
        obtain ⟨i, hi, rfl, HN, HB⟩ := hrel
        by_cases hlt : i < nt
        · have hc := HNX.out i hlt wr HB.out
          obtain ⟨⟨et, ek, eo, ef⟩, he⟩ : ∃ e, e = (Pr.next s i).getD Pr.zeroE := ⟨_, rfl⟩
          obtain ⟨ok, hok⟩ : ∃ ok, ok = (Pr.next s i).isSome := ⟨_, rfl⟩
          rw [← he, ← hok] at hc
          simp only [valE] at hc
          obtain ⟨b0, bl⟩ := HBL.out wr HB.out
          have HC := Lib.hid hc
          have HOK := Lib.hid hok
          have k1 : (0 : Int) ≤ (i : Int) := Int.natCast_nonneg _
          have k2 : (i : Int) < (nt : Int) := by omega
          clear hc he hok
          go_wp2_with fail
          refine HC.out.mono ?_
          rintro y w2 ⟨rfl, b2⟩
          have HB2 := Lib.hid (below_at HB.out b2)
          clear b2 HC b0 bl
          cases ok with
          | true =>
            have hr : res = true := by rw [HRES.out]; simp only [decide_true, Bool.true_and]; exact List.any_eq_true.2 ⟨i, List.mem_range.2 hlt, HOK.out.symm⟩
            subst hr
            go_wp2_with fail
            go_ret
            exact ⟨rfl, HB2.out.alloc HB2.out.size _⟩
          | false =>
            go_wp2_with fail
            go_roundw
            case rel => exact ⟨i + 1, by omega, by go_num, Lib.hid (by rw [List.range_succ, List.any_append, HN.out]; simp [← HOK.out]), Lib.hid (HB2.out.alloc HB2.out.size _)⟩
            case measure => simp [intOf]; omega
        · obtain rfl : i = nt := by omega
          have hr : res = false := by rw [HRES.out, HN.out]; rfl
          subst hr
          go_wp2_with fail
          go_ret
          exact ⟨rfl, HB.out⟩
    · have k1 : (0 : Int) < (na : Int) := by omega
      have hr : res = false := by rw [HRES.out, decide_eq_false h0]; rfl
      subst hr
      clear h0
      go_wp2_with fail
      go_ret
      exact ⟨rfl, HB1.out⟩
set_option maxRecDepth 100000 in
set_option maxHeartbeats 2000000 in
theorem reach_is (W0 : World) (K1 K2 : Nat) (x : Nat) (v : Int) (hx : x < 4) (h1 : CellAt W0 K1 (.int .i64 (x : Int))) (h2 : CellAt W0 K2 (.int .i64 v)) : IsS 60 #[.pointer (some ⟨K1, 0, none⟩), .pointer (some ⟨K2, 0, none⟩)] W0 (Pr.isReach x v) where
  enters := Go.Proofs.enters_of Tryz.func60 (by kernel_rfl) rfl
  call := by
    intro u C S T B o d WA wc hb h hw hn
    obtain ⟨n0, _, _, _, _, _, nl⟩ := hn
    show Calls Tryz.prog 60 #[.pointer (some ⟨B, o, none⟩), .pointer (some ⟨K1, 0, none⟩), .pointer (some ⟨K2, 0, none⟩)] u _
    obtain ⟨c0, cl, _⟩ := (CellAt.below h1 hb).cell
    obtain ⟨e0, el, _⟩ := (CellAt.below h2 hb).cell
    have hv : ∀ z : World, Below u.heap.size u z → _ := fun z hz => var_any z C S T d.s x (h.below hz) hx
    have HV := Lib.hid hv
    unfold Pr.isReach
    obtain ⟨vx, hvx⟩ : ∃ z, z = d.s.v x := ⟨_, rfl⟩
    rw [← hvx] at HV ⊢
    clear hb h hw hv hvx h1 h2
    go_enter Tryz.func60, Tryz.ntmps60
    go_upto_region 1 with fail
    refine wp_region_planF (by kernel_rfl) (fun z => Below u.heap.size u z) [] [(0, .pure), (1, .pure), (2, .pure), (3, .load), (4, .load), (6, .load), (5, .eff), (7, .pure), (8, .pure)] (by simp only [List.map_cons, List.map_nil, List.getElem?_toArray, List.getElem?_cons_succ, List.getElem?_cons_zero]; rfl) (by kernel_rfl) (fun _ _ d _ _ h => by cases d <;> exact h) ((Below.refl _ _).drew) ?_
    repeat (first
      | (refine plan_pure (v := ?_) (by rfl) (fun w1 => ?_) ?_
         rotate_left
         · go_simp <;> with_reducible rfl
         simp only [Act.put, List.setIfInBounds_toArray, List.set_cons_zero, List.set_cons_succ])
      | (refine plan_off (by rfl) ?_
         simp only [Act.put, List.setIfInBounds_toArray, List.set_cons_zero, List.set_cons_succ])
      | (refine plan_load_off (by rfl) ?_
         simp only [Act.put, List.setIfInBounds_toArray, List.set_cons_zero, List.set_cons_succ])
      | (refine plan_load (v := ?_) (by rfl) (fun w1 hw1 => ?_) ?_
         rotate_left
         · (have q0 := (World.cell?_of_block (hw1.block B nl) : w1.cell? ⟨B, o, none⟩ = _).trans n0
            have q1 := (World.cell?_of_block (hw1.block K1 cl) : w1.cell? ⟨K1, 0, none⟩ = _).trans c0
            have q2 := (World.cell?_of_block (hw1.block K2 el) : w1.cell? ⟨K2, 0, none⟩ = _).trans e0
            have q3 := hw1.size
            clear hw1
            go_simp <;> with_reducible rfl)
         simp only [Act.put, List.setIfInBounds_toArray, List.set_cons_zero, List.set_cons_succ]))
    obtain ⟨Wd, hWd⟩ : ∃ z, z = u.drew := ⟨_, rfl⟩
    have hbd : Below u.heap.size u Wd := by rw [hWd]; exact (Below.refl _ _).drew
    rw [← hWd]
    clear hWd
    refine plan_eff ?_
    go_wp2_with fail
    refine (HV.out Wd hbd).mono ?_
    rintro y w2 ⟨rfl, rfl⟩
    have HB := Lib.hid hbd
    clear hbd n0 nl c0 cl e0 el
    go_wp2_with fail
    refine plan_on (fun _ h => h) HB.out ?_
    repeat (first
      | (refine plan_pure (v := ?_) (by rfl) (fun w1 => ?_) ?_
         rotate_left
         · go_simp <;> with_reducible rfl
         simp only [Act.put, List.setIfInBounds_toArray, List.set_cons_zero, List.set_cons_succ])
      | (refine plan_off (by rfl) ?_
         simp only [Act.put, List.setIfInBounds_toArray, List.set_cons_zero, List.set_cons_succ])
      | (refine plan_load_off (by rfl) ?_
         simp only [Act.put, List.setIfInBounds_toArray, List.set_cons_zero, List.set_cons_succ])
      | (refine plan_load (v := ?_) (by rfl) (fun w1 hw1 => ?_) ?_
         rotate_left
         · (skip
            clear hw1
            go_simp <;> with_reducible rfl)
         simp only [Act.put, List.setIfInBounds_toArray, List.set_cons_zero, List.set_cons_succ]))
    refine plan_end ?_
    go_wp2_with fail
    go_ret
    exact ⟨by first | rfl | (simp; done) | trivial, HB.out⟩
end Go.Proofs.YtckdofjpoajblaaGreat
namespace Go.Proofs.YtckdofjpoajblaaGreat
open Go.RowKit
set_option linter.unusedVariables false
theorem Tryz.infoWay : (Tryz.prog.info? 104).map (fun i => (i.zero, i.size, i.bytes)) = some (some (.agg #[.pointer none, .slice none 0 0, .int .i64 0, .int .i64 0, .int .i64 0, .bool false]), 6, 64) := by kernel_rfl
structure Nc where
  S : Nat
  T : Nat
  wc : Nat
  WA : Option Addr
  d : Pr.Nd
def encNc (x : Nc) : List Value := [.pointer (some ⟨x.S, 0, none⟩), .slice x.WA x.d.w.length x.wc, .int .i64 x.d.e.t, .int .i64 x.d.e.k, .int .i64 x.d.e.o, .bool x.d.e.f]
theorem encNc_len (x : Nc) : (encNc x).length = 6 := rfl
def NcAt (w : World) (C X : Nat → Prop) (x : Nc) : Prop := SAt w C x.S x.T x.d.s ∧ RdC w X 1 x.WA x.d.w.length (x.d.w.map iv) ∧ X x.S ∧ X x.T
theorem NcAt.mod {w w' : World} {F C X : Nat → Prop} {x : Nc} (h : NcAt w C X x) (hm : Mod F w w') (hC : ∀ k, C k → ¬ F k) (hX : ∀ k, X k → ¬ F k) : NcAt w' C X x :=
  ⟨h.1.mod hm hC (hX _ h.2.2.1) (hX _ h.2.2.2), h.2.1.mod hm hX, h.2.2⟩
theorem NcAt.below {w w' : World} {C X : Nat → Prop} {x : Nc} (h : NcAt w C X x) (hb : Below w.heap.size w w') : NcAt w' C X x :=
  ⟨h.1.below hb, h.2.1.below hb, h.2.2⟩
theorem NcAt.re {w : World} {C X Y : Nat → Prop} {x : Nc} (h : NcAt w C X x) (hXY : ∀ k, k < w.heap.size → X k → Y k) : NcAt w C Y x :=
  ⟨h.1, ⟨h.2.1.1, fun h0 => by obtain ⟨g, o, h1, hc, h2, h3⟩ := h.2.1.2 h0; exact ⟨g, o, h1, hXY g h2 hc, h2, h3⟩⟩, hXY _ h.1.lt.1 h.2.2.1, hXY _ h.1.lt.2 h.2.2.2⟩
def offB (B : Option Addr) (k : Nat) : Prop := ∀ a, B = some a → k ≠ a.block
def NodesAt (w : World) (C : Nat → Prop) (B : Option Addr) (cap : Nat) (xs : List Nc) : Prop :=
  Row w 104 6 B xs.length cap (xs.flatMap encNc) ∧ ∀ x ∈ xs, NcAt w C (offB B) x
theorem NodesAt.nil (w : World) (C : Nat → Prop) : NodesAt w C none 0 [] := ⟨Row.nil _ _ _, fun x hx => by cases hx⟩
theorem NodesAt.below {w w' : World} {C : Nat → Prop} {B : Option Addr} {cap : Nat} {xs : List Nc} (h : NodesAt w C B cap xs) (hb : Below w.heap.size w w') : NodesAt w' C B cap xs :=
  ⟨row_stepS h.1 hb, fun x hx => (h.2 x hx).below hb⟩
theorem NodesAt.snoc {w w8 w9 : World} {C : Nat → Prop} {B : Option Addr} {cap cap' g of : Nat} {xs : List Nc} {x : Nc} (h : NodesAt w C B cap xs) (hb : Below w.heap.size w w8) (hx : NcAt w8 C (offB B) x)
    (hr : Row w9 104 6 (some ⟨g, of, none⟩) (xs.length + 1) cap' (xs.flatMap encNc ++ encNc x)) (hm : Mod (fun k => ∃ a, B = some a ∧ k = a.block) w8 w9) (hg : (∃ a, B = some a ∧ g = a.block) ∨ w8.heap.size ≤ g)
    (hC : ∀ k, C k → offB B k) : NodesAt w9 C (some ⟨g, of, none⟩) cap' (xs ++ [x]) := by
  refine ⟨by simpa using hr, fun y hy => ?_⟩
  have hy8 : NcAt w8 C (offB B) y := by
    rcases List.mem_append.1 hy with hy | hy
    · exact (h.2 y hy).below hb
    · rw [List.mem_singleton.1 hy]; exact hx
  have h9 : NcAt w8 C (fun k => offB B k ∧ offB (some ⟨g, of, none⟩) k) y := hy8.re fun k hk hoff => ⟨hoff, fun a ha e => by
    injection ha with ha
    subst ha
    rcases hg with ⟨a, h1, h2⟩ | h1
    · exact hoff a h1 (e.trans h2)
    · simp only at e; omega⟩
  exact (h9.mod hm (fun k hk ⟨a, h1, h2⟩ => hC k hk a h1 h2) (fun k hk ⟨a, h1, h2⟩ => hk.1 a h1 h2)).re fun k _ hk => hk.2
theorem NodesAt.node {V u : World} {C : Nat → Prop} {B : Option Addr} {cap i : Nat} {xs : List Nc} {x : Nc} (h : NodesAt V C B cap xs) (hi : xs[i]? = some x) (hb : Below V.heap.size V u) :
    ∃ g o, B = some ⟨g, o, none⟩ ∧ g < V.heap.size ∧ NodeAt u g (o + i * 6) x.S x.WA x.wc x.d ∧ SAt u C x.S x.T x.d.s ∧ RdB u V.heap.size 1 x.WA x.d.w.length (x.d.w.map iv) := by
  obtain ⟨hl, rfl⟩ := List.getElem?_eq_some_iff.1 hi
  obtain ⟨g, o, rfl⟩ := h.1.some_of_pos (by have := h.1.2.1; omega)
  have hc := h.2 xs[i] (List.getElem_mem hl)
  have hg := h.1.lt
  have cl : ∀ r, r < 6 → u.cell? ⟨g, o + i * 6 + r, none⟩ = (encNc xs[i])[r]? := fun r hr => by
    have := h.1.cell (i * 6 + r) (by omega)
    rw [World.cell?_of_block (hb.block g hg), Nat.add_assoc, this, flat_get (f := encNc) (sz := 6) encNc_len xs i r hl hr]
  refine ⟨g, o, rfl, hg, ⟨cl 0 (by omega), cl 1 (by omega), cl 2 (by omega), cl 3 (by omega), cl 4 (by omega), cl 5 (by omega), Nat.lt_of_lt_of_le hg hb.size⟩, hc.1.below hb, ?_⟩
  have hr := hc.2.1
  refine ⟨hr.1, fun h0 => ?_⟩
  obtain ⟨g2, o2, h1, _, h2, h3⟩ := hr.2 h0
  exact ⟨g2, o2, h1, h2, fun j hj => by rw [World.cell?_of_block (hb.block g2 h2), h3 j hj]⟩
namespace Pr
theorem bfs_nil (is : Nd → Bool) : ∀ n, bfs is n [] = none
  | 0 => rfl
  | n + 1 => by simp only [bfs, List.find?_nil, List.flatMap_nil]; exact bfs_nil is n
structure Lvl (s0 : St) (k : Nat) (L : List Nd) : Prop where
  wf : ∀ d ∈ L, Wf d.s
  way : ∀ d ∈ L, d.w.length = k
  fuel : ∀ d ∈ L, fuels d.s + k = fuels s0
  eq : L = lev_ k [node0 s0]
theorem lev_snoc : ∀ (k : Nat) (L : List Nd), lev_ (k + 1) L = (lev_ k L).flatMap kids_
  | 0, L => rfl
  | k + 1, L => lev_snoc k (L.flatMap kids_)
theorem Lvl.start {s : St} (hw : Wf s) : Lvl s 0 [node0 s] :=
  ⟨fun d hd => by rw [List.mem_singleton.1 hd]; exact hw, fun d hd => by rw [List.mem_singleton.1 hd]; rfl, fun d hd => by rw [List.mem_singleton.1 hd]; rfl, rfl⟩
theorem Lvl.next {s : St} {k : Nat} {L : List Nd} (h : Lvl s k L) : Lvl s (k + 1) (L.flatMap kids_) := by
  refine ⟨fun c hc => ?_, fun c hc => ?_, fun c hc => ?_, ?_⟩
  · obtain ⟨d, hd, hc⟩ := List.mem_flatMap.1 hc
    exact (kid_wf (h.wf d hd) hc).1
  · obtain ⟨d, hd, hc⟩ := List.mem_flatMap.1 hc
    obtain ⟨t, _, rfl⟩ := List.mem_map.1 hc
    simp [kidN, h.way d hd]
  · obtain ⟨d, hd, hc⟩ := List.mem_flatMap.1 hc
    have h1 := (kid_wf (h.wf d hd) hc).2
    have h2 := h.fuel d hd
    omega
  · rw [lev_snoc, h.eq]
theorem Lvl.small {s : St} {k : Nat} {L : List Nd} (h : Lvl s k L) (hf : fuels s ≤ 32) : L.length ≤ cnt 32 s := by
  by_cases hk : k ≤ 32
  · rw [h.eq]
    have := lev_len k 32 [node0 s] hk
    simpa [node0] using this
  · cases L with
    | nil => exact Nat.zero_le _
    | cons d L => have := h.fuel d (List.mem_cons_self ..); omega
end Pr
end Go.Proofs.YtckdofjpoajblaaGreat
namespace Go.Proofs
open Go.Shelf
def Tryz.keys101_ren : Go.Shelf.Ren := ⟨fun | 7 => 101 | 10 => 161 | n => n, fun | 23 => 140 | 26 => 9 | 3 => 4 | 28 => 177 | 0 => 0 | 27 => 176 | 33 => 235 | 4 => 4 | n => n, fun | n => n⟩
theorem Tryz.keys101 : Go.Proofs.SlLaysZ.n7 Tryz.prog Tryz.keys101_ren := {
  mixed := by kernel_rfl
  f7 := ⟨Tryz.f101.name, by decide, Tryz.func101.trans (congrArg some (by kernel_rfl))⟩
  f10 := ⟨Tryz.f161.name, by decide, Tryz.func161.trans (congrArg some (by kernel_rfl))⟩
  t0 := Tryz.underlying0
  a0 := Tryz.isAgg0
  z0 := Tryz.sizeOf0
  v0 := Tryz.zeroValue0
  t4 := Tryz.underlying4
  a4 := Tryz.isAgg4
  z4 := Tryz.sizeOf4
  v4 := Tryz.zeroValue4
  t23 := Tryz.underlying140
  a23 := Tryz.isAgg140
  z23 := Tryz.sizeOf140
  v23 := Tryz.zeroValue140
  t26 := Tryz.underlying9
  a26 := Tryz.isAgg9
  z26 := Tryz.sizeOf9
  v26 := Tryz.zeroValue9
  t27 := Tryz.underlying176
  a27 := Tryz.isAgg176
  z27 := Tryz.sizeOf176
  v27 := Tryz.zeroValue176
  t28 := Tryz.underlying177
  a28 := Tryz.isAgg177
  z28 := Tryz.sizeOf177
  v28 := Tryz.zeroValue177
  t33 := Tryz.underlying235
  a33 := Tryz.isAgg235
  z33 := Tryz.sizeOf235
  v33 := Tryz.zeroValue235 }
def Tryz.sorted100_ren : Go.Shelf.Ren := ⟨fun | 6 => 100 | 8 => 160 | 9 => 74 | 11 => 203 | 13 => 130 | 12 => 129 | 23 => 178 | 24 => 179 | 14 => 169 | 15 => 170 | 16 => 171 | 17 => 172 | 18 => 173 | 19 => 174 | 20 => 175 | 21 => 176 | 22 => 177 | 25 => 207 | 26 => 208 | 27 => 209 | 28 => 210 | 29 => 211 | 30 => 212 | 31 => 231 | n => n, fun | 26 => 9 | 28 => 177 | 24 => 27 | 0 => 0 | 3 => 3 | 37 => 45 | 48 => 250 | 50 => 252 | 4 => 4 | 40 => 242 | 39 => 241 | 45 => 247 | 5 => 5 | 9 => 9 | 51 => 273 | 55 => 277 | 57 => 296 | 58 => 297 | 33 => 235 | n => n, fun | n => n⟩
theorem Tryz.sorted100 : Go.Proofs.SlLaysZ.n6 Tryz.prog Tryz.sorted100_ren := {
  mixed := by kernel_rfl
  f6 := ⟨Tryz.f100.name, by decide, Tryz.func100.trans (congrArg some (by kernel_rfl))⟩
  f8 := ⟨Tryz.f160.name, by decide, Tryz.func160.trans (congrArg some (by kernel_rfl))⟩
  f11 := ⟨Tryz.f203.name, by decide, Tryz.func203.trans (congrArg some (by kernel_rfl))⟩
  t0 := Tryz.underlying0
  a0 := Tryz.isAgg0
  z0 := Tryz.sizeOf0
  v0 := Tryz.zeroValue0
  t24 := Tryz.underlying27
  a24 := Tryz.isAgg27
  z24 := Tryz.sizeOf27
  v24 := Tryz.zeroValue27
  t26 := Tryz.underlying9
  a26 := Tryz.isAgg9
  z26 := Tryz.sizeOf9
  v26 := Tryz.zeroValue9
  t28 := Tryz.underlying177
  a28 := Tryz.isAgg177
  z28 := Tryz.sizeOf177
  v28 := Tryz.zeroValue177
  i26 := by kernel_rfl }
def Tryz.sort74_ren : Go.Shelf.Ren := ⟨fun | 6 => 74 | 8 => 130 | 9 => 129 | 19 => 178 | 20 => 179 | 21 => 169 | 22 => 170 | 23 => 171 | 24 => 172 | 25 => 173 | 26 => 174 | 27 => 175 | 28 => 176 | 29 => 177 | 36 => 207 | 31 => 208 | 32 => 209 | 37 => 210 | 38 => 211 | 39 => 212 | 41 => 231 | n => n, fun | 27 => 27 | 29 => 9 | 3 => 3 | 32 => 45 | 26 => 27 | 0 => 0 | 44 => 250 | 46 => 252 | 4 => 4 | 36 => 242 | 35 => 241 | 41 => 247 | 5 => 5 | 9 => 9 | 53 => 273 | 57 => 277 | 63 => 296 | 64 => 297 | n => n, fun | n => n⟩
theorem Tryz.sort74 : Go.Proofs.SlLaysM.n6 Tryz.prog Tryz.sort74_ren := {
  mixed := by kernel_rfl
  f6 := ⟨Tryz.f74.name, by decide, Tryz.func74.trans (congrArg some (by kernel_rfl))⟩
  f8 := Tryz.func130.trans (congrArg some (by kernel_rfl))
  f9 := ⟨Tryz.f129.name, by decide, Tryz.func129.trans (congrArg some (by kernel_rfl))⟩
  f19 := Tryz.func178.trans (congrArg some (by kernel_rfl))
  f20 := Tryz.func179.trans (congrArg some (by kernel_rfl))
  f21 := ⟨Tryz.f169.name, by decide, Tryz.func169.trans (congrArg some (by kernel_rfl))⟩
  f22 := ⟨Tryz.f170.name, by decide, Tryz.func170.trans (congrArg some (by kernel_rfl))⟩
  f23 := ⟨Tryz.f171.name, by decide, Tryz.func171.trans (congrArg some (by kernel_rfl))⟩
  f24 := ⟨Tryz.f172.name, by decide, Tryz.func172.trans (congrArg some (by kernel_rfl))⟩
  f25 := ⟨Tryz.f173.name, by decide, Tryz.func173.trans (congrArg some (by kernel_rfl))⟩
  f26 := ⟨Tryz.f174.name, by decide, Tryz.func174.trans (congrArg some (by kernel_rfl))⟩
  f27 := ⟨Tryz.f175.name, by decide, Tryz.func175.trans (congrArg some (by kernel_rfl))⟩
  f28 := ⟨Tryz.f176.name, by decide, Tryz.func176.trans (congrArg some (by kernel_rfl))⟩
  f29 := ⟨Tryz.f177.name, by decide, Tryz.func177.trans (congrArg some (by kernel_rfl))⟩
  f31 := Tryz.func208.trans (congrArg some (by kernel_rfl))
  f32 := Tryz.func209.trans (congrArg some (by kernel_rfl))
  f36 := ⟨Tryz.f207.name, by decide, Tryz.func207.trans (congrArg some (by kernel_rfl))⟩
  f37 := ⟨Tryz.f210.name, by decide, Tryz.func210.trans (congrArg some (by kernel_rfl))⟩
  f38 := ⟨Tryz.f211.name, by decide, Tryz.func211.trans (congrArg some (by kernel_rfl))⟩
  f39 := ⟨Tryz.f212.name, by decide, Tryz.func212.trans (congrArg some (by kernel_rfl))⟩
  f41 := ⟨Tryz.f231.name, by decide, Tryz.func231.trans (congrArg some (by kernel_rfl))⟩
  t0 := Tryz.underlying0
  a0 := Tryz.isAgg0
  z0 := Tryz.sizeOf0
  v0 := Tryz.zeroValue0
  t3 := Tryz.underlying3
  a3 := Tryz.isAgg3
  z3 := Tryz.sizeOf3
  v3 := Tryz.zeroValue3
  t4 := Tryz.underlying4
  a4 := Tryz.isAgg4
  z4 := Tryz.sizeOf4
  v4 := Tryz.zeroValue4
  t5 := Tryz.underlying5
  a5 := Tryz.isAgg5
  z5 := Tryz.sizeOf5
  v5 := Tryz.zeroValue5
  t9 := Tryz.underlying9
  a9 := Tryz.isAgg9
  z9 := Tryz.sizeOf9
  v9 := Tryz.zeroValue9
  t26 := Tryz.underlying27
  a26 := Tryz.isAgg27
  z26 := Tryz.sizeOf27
  v26 := Tryz.zeroValue27
  t27 := Tryz.underlying27
  a27 := Tryz.isAgg27
  z27 := Tryz.sizeOf27
  v27 := Tryz.zeroValue27
  t29 := Tryz.underlying9
  a29 := Tryz.isAgg9
  z29 := Tryz.sizeOf9
  v29 := Tryz.zeroValue9
  t32 := Tryz.underlying45
  a32 := Tryz.isAgg45
  z32 := Tryz.sizeOf45
  v32 := Tryz.zeroValue45
  t35 := Tryz.underlying241
  a35 := Tryz.isAgg241
  z35 := Tryz.sizeOf241
  v35 := Tryz.zeroValue241
  t36 := Tryz.underlying242
  a36 := Tryz.isAgg242
  z36 := Tryz.sizeOf242
  v36 := Tryz.zeroValue242
  t41 := Tryz.underlying247
  a41 := Tryz.isAgg247
  z41 := Tryz.sizeOf247
  v41 := Tryz.zeroValue247
  t44 := Tryz.underlying250
  a44 := Tryz.isAgg250
  z44 := Tryz.sizeOf250
  v44 := Tryz.zeroValue250
  t46 := Tryz.underlying252
  a46 := Tryz.isAgg252
  z46 := Tryz.sizeOf252
  v46 := Tryz.zeroValue252
  t53 := Tryz.underlying273
  a53 := Tryz.isAgg273
  z53 := Tryz.sizeOf273
  v53 := Tryz.zeroValue273
  t57 := Tryz.underlying277
  a57 := Tryz.isAgg277
  z57 := Tryz.sizeOf277
  v57 := Tryz.zeroValue277
  t63 := Tryz.underlying296
  a63 := Tryz.isAgg296
  z63 := Tryz.sizeOf296
  v63 := Tryz.zeroValue296
  t64 := Tryz.underlying297
  a64 := Tryz.isAgg297
  z64 := Tryz.sizeOf297
  v64 := Tryz.zeroValue297 }
end Go.Proofs
namespace Go.Proofs.YtckdofjpoajblaaGreat
set_option linter.unusedVariables false
namespace Ky
abbrev K := List UInt8
abbrev lt (a b : K) : Bool := Op.bytesLess a b
theorem lt_irr : ∀ l : K, lt l l = false
  | [] => rfl
  | a :: l => by have := lt_irr l; simp only [lt] at this; simp [lt, Op.bytesLess, this]
theorem lt_tr : ∀ {a b c : K}, lt a b = true → lt b c = true → lt a c = true
  | [], [], _, h, _ => by simp [lt, Op.bytesLess] at h
  | [], _ :: _, [], _, h => by simp [lt, Op.bytesLess] at h
  | [], _ :: _, _ :: _, _, _ => rfl
  | _ :: _, [], _, h, _ => by simp [lt, Op.bytesLess] at h
  | _ :: _, _ :: _, [], _, h => by simp [lt, Op.bytesLess] at h
  | a :: x, b :: y, c :: z, h1, h2 => by
    simp only [lt, Op.bytesLess, Bool.or_eq_true, Bool.and_eq_true, decide_eq_true_eq, beq_iff_eq] at h1 h2 ⊢
    rcases h1 with h1 | ⟨h1, h1'⟩
    · rcases h2 with h2 | ⟨h2, h2'⟩
      · exact .inl (UInt8.lt_trans h1 h2)
      · subst h2; exact .inl h1
    · subst h1
      rcases h2 with h2 | ⟨h2, h2'⟩
      · exact .inl h2
      · exact .inr ⟨h2, lt_tr (a := x) (b := y) (c := z) h1' h2'⟩
theorem lt_tri : ∀ {a b : K}, lt a b = false → lt b a = false → a = b
  | [], [], _, _ => rfl
  | [], _ :: _, h, _ => by simp [lt, Op.bytesLess] at h
  | _ :: _, [], _, h => by simp [lt, Op.bytesLess] at h
  | a :: x, b :: y, h1, h2 => by
    simp only [lt, Op.bytesLess, Bool.or_eq_false_iff, decide_eq_false_iff_not, Bool.and_eq_false_iff, beq_eq_false_iff_ne] at h1 h2
    have hab : a = b := by
      have := UInt8.not_lt.1 h1.1
      have := UInt8.not_lt.1 h2.1
      exact UInt8.le_antisymm ‹_› ‹_›
    subst hab
    rw [lt_tri (a := x) (b := y) (by rcases h1.2 with h | h; exact absurd rfl h; exact h) (by rcases h2.2 with h | h; exact absurd rfl h; exact h)]
theorem lt_asym {a b : K} (h : lt a b = true) : lt b a = false := by
  cases h2 : lt b a with
  | false => rfl
  | true => have := lt_tr h h2; rw [lt_irr] at this; cases this
theorem le_eq (x y : K) : decide (x ≤ y) = !lt y x := by
  rw [lt, bytesLess_eq]
  by_cases h : y < x
  · rw [decide_eq_true h, decide_eq_false (fun e => e h)]; rfl
  · rw [decide_eq_false h, decide_eq_true (show x ≤ y from h)]; rfl
def Strict (l : List K) : Prop := l.Pairwise (fun a b => lt a b = true)
def ins (s : K) : List K → List K
  | [] => [s]
  | x :: xs => if lt s x = true then s :: x :: xs else x :: ins s xs
def insG (l : List K) (s : K) : List K := if s ∈ l then l else ins s l
def gather (l : List K) : List K := l.foldl insG []
theorem ins_mem (s : K) : ∀ l x, x ∈ ins s l ↔ x = s ∨ x ∈ l
  | [], x => by simp [ins]
  | y :: l, x => by
    simp only [ins]
    split
    · simp
    · simp only [List.mem_cons, ins_mem s l x]
      constructor
      · rintro (h | h | h); exact .inr (.inl h); exact .inl h; exact .inr (.inr h)
      · rintro (h | h | h); exact .inr (.inl h); exact .inl h; exact .inr (.inr h)
theorem ins_strict {s : K} : ∀ {l : List K}, s ∉ l → Strict l → Strict (ins s l)
  | [], _, _ => List.pairwise_cons.2 ⟨fun _ h => (by cases h), List.Pairwise.nil⟩
  | y :: l, hn, h => by
    obtain ⟨h1, h2⟩ := List.pairwise_cons.1 h
    simp only [ins]
    split
    · rename_i hs
      exact List.pairwise_cons.2 ⟨fun x hx => by rcases List.mem_cons.1 hx with rfl | hx; exact hs; exact lt_tr hs (h1 x hx), h⟩
    · rename_i hs
      have hys : lt y s = true := by
        cases hq : lt y s with
        | true => rfl
        | false => exact absurd (lt_tri (by simpa using hs) hq) (fun e => hn (e ▸ List.mem_cons_self))
      exact List.pairwise_cons.2 ⟨fun x hx => by rcases (ins_mem s l x).1 hx with rfl | hx; exact hys; exact h1 x hx, ins_strict (fun hm => hn (List.mem_cons_of_mem _ hm)) h2⟩
theorem insG_mem (l : List K) (s x : K) : x ∈ insG l s ↔ x = s ∨ x ∈ l := by
  unfold insG
  split
  · rename_i h
    exact ⟨.inr, fun e => by rcases e with rfl | e; exact h; exact e⟩
  · exact ins_mem s l x
theorem insG_strict {l : List K} (h : Strict l) (s : K) : Strict (insG l s) := by
  unfold insG
  split
  · exact h
  · rename_i hn; exact ins_strict hn h
theorem ins_len (s : K) : ∀ l, (ins s l).length = l.length + 1
  | [] => rfl
  | y :: l => by simp only [ins]; split <;> simp [ins_len s l]
theorem insG_len (l : List K) (s : K) : (insG l s).length = if s ∈ l then l.length else l.length + 1 := by
  unfold insG
  split
  · rfl
  · exact ins_len s l
theorem foldG_mem : ∀ (l acc : List K) (x : K), x ∈ l.foldl insG acc ↔ x ∈ acc ∨ x ∈ l
  | [], acc, x => by simp
  | y :: l, acc, x => by
    rw [List.foldl_cons, foldG_mem l, insG_mem, List.mem_cons]
    constructor
    · rintro ((h | h) | h); exact .inr (.inl h); exact .inl h; exact .inr (.inr h)
    · rintro (h | h | h); exact .inl (.inr h); exact .inl (.inl h); exact .inr h
theorem foldG_strict : ∀ (l acc : List K), Strict acc → Strict (l.foldl insG acc)
  | [], _, h => h
  | y :: l, acc, h => foldG_strict l _ (insG_strict h y)
theorem gather_mem (l : List K) (x : K) : x ∈ gather l ↔ x ∈ l := by unfold gather; rw [foldG_mem]; simp
theorem gather_strict (l : List K) : Strict (gather l) := foldG_strict l [] List.Pairwise.nil
theorem strict_ext : ∀ {l r : List K}, Strict l → Strict r → (∀ x, x ∈ l ↔ x ∈ r) → l = r
  | [], [], _, _, _ => rfl
  | [], y :: r, _, _, h => by have := (h y).2 List.mem_cons_self; cases this
  | x :: l, [], _, _, h => by have := (h x).1 List.mem_cons_self; cases this
  | x :: l, y :: r, hl, hr, h => by
    obtain ⟨l1, l2⟩ := List.pairwise_cons.1 hl
    obtain ⟨r1, r2⟩ := List.pairwise_cons.1 hr
    have hxy : x = y := by
      rcases List.mem_cons.1 ((h x).1 List.mem_cons_self) with e | e
      · exact e
      · rcases List.mem_cons.1 ((h y).2 List.mem_cons_self) with e' | e'
        · exact e'.symm
        · have := lt_tr (r1 x e) (l1 y e'); rw [lt_irr] at this; cases this
    subst hxy
    have nl : x ∉ l := fun e => by have := l1 x e; rw [lt_irr] at this; cases this
    have nr : x ∉ r := fun e => by have := r1 x e; rw [lt_irr] at this; cases this
    rw [strict_ext l2 r2 fun z => ⟨fun hz => ((List.mem_cons.1 ((h z).1 (List.mem_cons_of_mem _ hz))).resolve_left fun e => nl (e ▸ hz)), fun hz => ((List.mem_cons.1 ((h z).2 (List.mem_cons_of_mem _ hz))).resolve_left fun e => nr (e ▸ hz))⟩]
theorem gather_again {l : List K} (h : Strict l) : gather l = l := strict_ext (gather_strict l) h (fun x => gather_mem l x)
end Ky
end Go.Proofs.YtckdofjpoajblaaGreat
namespace Go.Proofs.YtckdofjpoajblaaGreat
set_option linter.unusedVariables false
namespace Ky
end Ky
end Go.Proofs.YtckdofjpoajblaaGreat
namespace Go.Proofs.YtckdofjpoajblaaGreat
open Go.RowKit
set_option linter.unusedVariables false
def sv (k : List UInt8) : Value := .string ⟨k.toArray⟩
theorem str_cell {w : World} {B : Nat} {A : Option Addr} {ks : List Ky.K} (h : RdB w B 1 A ks.length (ks.map sv)) : ∀ (k : Nat) (s : Ky.K), ks[k]? = some s → ∃ g o, A = some ⟨g, o, none⟩ ∧ g < B ∧ ∀ u, Below B w u → u.cell? ⟨g, o + k, none⟩ = some (.string ⟨s.toArray⟩) := fun k s hs => by
  obtain ⟨hk, rfl⟩ := List.getElem?_eq_some_iff.1 hs
  obtain ⟨g, o, hA, hg, hc⟩ := h.2 (by omega)
  refine ⟨g, o, hA, hg, fun u hu => ?_⟩
  rw [World.cell?_of_block (hu.block g hg), hc k (by omega), List.getElem?_map, List.getElem?_eq_getElem hk]
  rfl
def StrOut (w : World) (l : List Ky.K) (x : Ending) (w' : World) : Prop := ∃ A' cap', x = .returned (.slice A' l.length cap') ∧ (Rd w' 1 A' l.length (l.map sv) ∧ l.length ≤ cap' ∧ cap' ≤ maxLen) ∧ Below w.heap.size w w'
theorem sv_way (x y : Ky.K) : ∃ bx by_ : ByteArray, (⟨x.toArray⟩ : ByteArray) = bx ∧ (⟨y.toArray⟩ : ByteArray) = by_ ∧ (bx.toList == by_.toList) = decide (x = y) ∧ (x = y → bx = by_) ∧ (x ≠ y → ¬ bx.toList = by_.toList) ∧ Op.bytesLess bx.toList by_.toList = Ky.lt x y ∧ Op.bytesLess by_.toList bx.toList = Ky.lt y x := by
  refine ⟨_, _, rfl, rfl, ?_, fun h => by rw [h], fun h e => h ?_, ?_, ?_⟩
  · rw [ByteArray.toList_eq, ByteArray.toList_eq]
    show (x == y) = _
    by_cases h : x = y
    · subst h; simp
    · rw [decide_eq_false h]; simpa using h
  · rw [ByteArray.toList_eq, ByteArray.toList_eq] at e; exact e
  · rw [ByteArray.toList_eq, ByteArray.toList_eq]
  · rw [ByteArray.toList_eq, ByteArray.toList_eq]
end Go.Proofs.YtckdofjpoajblaaGreat
namespace Go.Proofs.YtckdofjpoajblaaGreat
open Go.RowKit
set_option linter.unusedVariables false
namespace Ky
theorem ins_in {s x : K} : ∀ {l : List K}, (l.any fun y => lt s y) = true → ins s (l ++ [x]) = ins s l ++ [x]
  | [], h => by simp at h
  | y :: l, h => by
    simp only [List.cons_append, ins]
    by_cases hy : lt s y = true
    · rw [if_pos hy, if_pos hy]; rfl
    · rw [if_neg hy, if_neg hy, ins_in (l := l) (by simpa [hy] using h)]; rfl
theorem ins_out {s : K} : ∀ {l : List K}, (l.any fun y => lt s y) = false → ∀ r, ins s (l ++ r) = l ++ ins s r
  | [], _, _ => rfl
  | y :: l, h, r => by
    have h' : lt s y = false ∧ (l.any fun y => lt s y) = false := by simpa using h
    simp only [List.cons_append, ins]
    rw [if_neg (by rw [h'.1]; decide), ins_out h'.2]
end Ky
theorem Tryz.infoStrR : (Tryz.prog.info? 9).map (fun i => (i.zero, i.size, i.bytes)) = some (some (.string ByteArray.empty), 1, 16) := by kernel_rfl
end Go.Proofs.YtckdofjpoajblaaGreat
namespace Go.Proofs.YtckdofjpoajblaaGreat
open Go.RowKit
set_option linter.unusedVariables false
def PutOut (w : World) (A : Option Addr) (l : List Ky.K) (x : Ending) (w' : World) : Prop := ∃ A' cap', x = .returned (.slice A' l.length cap') ∧ (Rd w' 1 A' l.length (l.map sv) ∧ l.length ≤ cap' ∧ cap' ≤ maxLen) ∧ Below w.heap.size w w' ∧ (A' = A ∨ ∀ a, A' = some a → w.heap.size ≤ a.block)
set_option maxRecDepth 100000 in
set_option maxHeartbeats 4000000 in
theorem put_any (w : World) (A : Option Addr) (cap : Nat) (l : List Ky.K) (s : Ky.K) (hr : Rd w 1 A l.length (l.map sv)) (hcap : l.length ≤ cap) (hcm : cap ≤ maxLen) (hl : l.length ≤ 1000000) :
    Calls Tryz.prog 94 #[.slice A l.length cap, .string ⟨s.toArray⟩] w (PutOut w A (Ky.insG l s)) := by
  obtain ⟨i0, hi0, hz0, hz1, hz2⟩ := info_parts Tryz.infoStrR
  have HC := Lib.hid (str_cell hr.toB)
  have HR := Lib.hid hr
  have HCAP := Lib.hid (And.intro hcap hcm)
  obtain ⟨bs, hbs⟩ : ∃ bs : ByteArray, bs = ⟨s.toArray⟩ := ⟨_, rfl⟩
  rw [← hbs]
  have HBS := Lib.hid hbs
  clear hr hcap hcm hbs
  go_enter Tryz.func94, Tryz.ntmps94
  go_wp2_with fail
  go_loopw [5, 6, 7] (fun v5 v6 v7 wr => ∃ (i : Nat) (d : Bool) (ol : List Ky.K) (A' : Option Addr) (cap' : Nat), i ≤ l.length ∧ ol.length ≤ i + 1 ∧ v7 = .int .i64 i ∧ v6 = .bool d ∧ v5 = .slice A' ol.length cap' ∧ Hid (d = (l.take i).any fun y => Ky.lt s y) ∧ Hid (ol = if d = true then Ky.ins s (l.take i) else l.take i) ∧ Hid (s ∉ l.take i) ∧
    Hid (Row wr 9 1 A' ol.length cap' (ol.map sv)) ∧ Hid (∀ a, A' = some a → w.heap.size ≤ a.block) ∧ Hid (Below w.heap.size w wr)) (fun _ _ v _ => l.length - (intOf v).toNat)
  case atStart => exact ⟨0, false, [], none, 0, Nat.zero_le _, Nat.zero_le _, rfl, rfl, rfl, Lib.hid rfl, Lib.hid rfl, Lib.hid (by simp), Lib.hid (Row.nil _ _ _), Lib.hid (fun a h => (by cases h)), Lib.hid (Below.refl _ _)⟩
  case round =>
    obtain ⟨i, d, ol, A', cap', hi, hol, rfl, rfl, rfl, HD, HOL, HNM, HRW, HAT, HB⟩ := hrel
    by_cases hlt : i < l.length
    · obtain ⟨x, hx⟩ := get_some hlt
      obtain ⟨g, o, rfl, hg, hcl⟩ := HC.out i x hx
      have v0 := hcl wr HB.out
      obtain ⟨bx, by_, e1, e2, e3, e4, e5, e6, e7⟩ := sv_way x s
      have e8 : by_ = bs := by rw [← e2, HBS.out]
      subst e8
      rw [e1] at v0
      have htk : l.take (i + 1) = l.take i ++ [x] := by rw [List.take_add_one, hx]; rfl
      have hmem := List.mem_of_getElem? hx
      have HTK := Lib.hid htk
      have HMEM := Lib.hid hmem
      have HE1 := Lib.hid e1
      have HCL := Lib.hid hcl
      have k1 : (0 : Int) ≤ (i : Int) := Int.natCast_nonneg _
      have k2 : (i : Int) < (l.length : Int) := by omega
      have lg : g < wr.heap.size := by have := HB.out.size; omega
      clear hx hcl htk hmem e1 e2
      by_cases hxs : x = s
      · have h9 := e4 hxs
        subst h9
        have HXS := Lib.hid hxs
        clear hxs e3 e4 e5 e6 e7
        go_wp2_with fail
        go_ret
        have hin : Ky.insG l s = l := by unfold Ky.insG; rw [if_pos (HXS.out ▸ HMEM.out)]
        rw [hin]
        exact ⟨_, cap, rfl, ⟨HR.out.below HB.out (Nat.le_refl _), HCAP.out⟩, HB.out, .inl rfl⟩
      · have h9 := e5 hxs
        rw [decide_eq_false hxs] at e3
        have HXS := Lib.hid hxs
        have hnm : s ∉ l.take (i + 1) := fun hm => by
          rw [HTK.out] at hm
          rcases List.mem_append.1 hm with h | h
          · exact HNM.out h
          · rw [List.mem_singleton] at h; exact HXS.out h.symm
        have HNM2 := Lib.hid hnm
        have hdn : ((l.take (i + 1)).any fun y => Ky.lt s y) = (((l.take i).any fun y => Ky.lt s y) || Ky.lt s x) := by rw [HTK.out, List.any_append]; simp
        have HDN := Lib.hid hdn
        clear hxs e4 e5 hnm hdn e6
        have hway : d = true ∨ (d = false ∧ Ky.lt s x = true) ∨ (d = false ∧ Ky.lt s x = false) := by cases d <;> cases Ky.lt s x <;> simp
        rcases hway with rfl | ⟨rfl, hlx⟩ | ⟨rfl, hlx⟩
        · clear e7
          go_wp2_with (at_builtin; refine wpList_append_row (by rfl) _ _ _ (by rfl) 9 i0 _ 1 16 Tryz.underlying27 hi0 hz0 hz1 hz2 rfl (by omega) A' ol.length cap' (ol.map sv) (by rfl) (HRW.out.alloc _) ⟨wr.heap.size, 0, none⟩ 1 1 [.string bx] (by rfl) (by rfl) (World.news_of_block (cs := #[.string bx]) (t := 9) (fr := (0, 0)) (heap_alloc_new wr _)) (by simp [Value.oneCell']) (by omega) (by unfold maxLen; omega) (by omega) ?_; intro g1 of1 cap1 w3 hown hm hat; skip)
          obtain ⟨q1, q2⟩ := acc_more HAT.out HB.out hm hat (of := of1)
          have hz : (ol ++ [x]).length = ol.length + 1 := by rw [List.length_append]; rfl
          have hr3 : Row w3 9 1 (some ⟨g1, of1, none⟩) (ol ++ [x]).length cap1 ((ol ++ [x]).map sv) := by
            rw [hz, List.map_append]; simpa [sv, HE1.out] using hown
          have HZ := Lib.hid hz
          have hd := HD.out
          clear hz
          go_roundw
          case rel => exact ⟨i + 1, true, ol ++ [x], some ⟨g1, of1, none⟩, cap1, by omega, by rw [HZ.out]; omega, by go_num, rfl, by rw [HZ.out], Lib.hid (by rw [HDN.out, ← hd]; rfl), Lib.hid (by rw [if_pos rfl, HTK.out, Ky.ins_in hd.symm, HOL.out, if_pos rfl]), HNM2, Lib.hid hr3, Lib.hid q1, Lib.hid q2⟩
          case measure => simp [intOf]; omega
        · rw [hlx] at e7
          have HLX := Lib.hid hlx
          clear hlx
          go_upto_region 10 with (at_builtin; refine wpList_append_row (by rfl) _ _ _ (by rfl) 9 i0 _ 1 16 Tryz.underlying27 hi0 hz0 hz1 hz2 rfl (by omega) A' ol.length cap' (ol.map sv) (by rfl) (HRW.out.alloc _) ⟨wr.heap.size, 0, none⟩ 1 1 [.string by_] (by rfl) (by rfl) (World.news_of_block (cs := #[.string by_]) (t := 9) (fr := (0, 0)) (heap_alloc_new wr _)) (by simp [Value.oneCell']) (by omega) (by unfold maxLen; omega) (by omega) ?_; intro g1 of1 cap1 w3 hown hm hat; skip)
          obtain ⟨q1, q2⟩ := acc_more HAT.out HB.out hm hat (of := of1)
          have hz : (ol ++ [s]).length = ol.length + 1 := by rw [List.length_append]; rfl
          have hr3 : Row w3 9 1 (some ⟨g1, of1, none⟩) (ol.length + 1) cap1 ((ol ++ [s]).map sv) := by
            rw [List.map_append]; simpa [sv, HBS.out] using hown
          have HR3 := Lib.hid hr3
          have HAT3 := Lib.hid q1
          have HB3 := Lib.hid q2
          have HZ := Lib.hid hz
          have v3 := HCL.out w3 q2
          rw [HE1.out] at v3
          have lg3 : g < w3.heap.size := by have := q2.size; omega
          have hd := HD.out
          have HD2 := Lib.hid hd
          clear hz hown hm hat q1 q2 hr3 v0 lg hd
          go_wp2_with (at_builtin; refine wpList_append_row (by rfl) _ _ _ (by rfl) 9 i0 _ 1 16 Tryz.underlying27 hi0 hz0 hz1 hz2 rfl (by omega) (some ⟨g1, of1, none⟩) (ol.length + 1) cap1 ((ol ++ [s]).map sv) (by rfl) (HR3.out.alloc _) ⟨w3.heap.size, 0, none⟩ 1 1 [.string bx] (by rfl) (by rfl) (World.news_of_block (cs := #[.string bx]) (t := 9) (fr := (0, 0)) (heap_alloc_new w3 _)) (by simp [Value.oneCell']) (by omega) (by unfold maxLen; omega) (by omega) ?_; intro g4 of4 cap4 w4 hown hm hat; skip)
          obtain ⟨q1, q2⟩ := acc_more HAT3.out HB3.out hm hat (of := of4)
          have hz : (ol ++ [s, x]).length = ol.length + 1 + 1 := by rw [List.length_append]; rfl
          have hr4 : Row w4 9 1 (some ⟨g4, of4, none⟩) (ol ++ [s, x]).length cap4 ((ol ++ [s, x]).map sv) := by
            rw [hz, List.map_append]; simpa [sv, HE1.out, HBS.out] using hown
          have hol : ol.length = i := by rw [HOL.out, if_neg (by decide), List.length_take]; omega
          have HZ4 := Lib.hid hz
          clear hz
          go_roundw
          case rel => exact ⟨i + 1, true, ol ++ [s, x], some ⟨g4, of4, none⟩, cap4, by omega, by rw [HZ4.out]; omega, by go_num, rfl, by rw [HZ4.out], Lib.hid (by rw [HDN.out, HLX.out]; simp), Lib.hid (by rw [if_pos rfl, HTK.out, Ky.ins_out HD2.out.symm, HOL.out, if_neg (by decide)]; simp [Ky.ins, HLX.out]), HNM2, Lib.hid hr4, Lib.hid q1, Lib.hid q2⟩
          case measure => simp [intOf]; omega
        · rw [hlx] at e7
          have HLX := Lib.hid hlx
          clear hlx
          go_wp2_with (at_builtin; refine wpList_append_row (by rfl) _ _ _ (by rfl) 9 i0 _ 1 16 Tryz.underlying27 hi0 hz0 hz1 hz2 rfl (by omega) A' ol.length cap' (ol.map sv) (by rfl) (HRW.out.alloc _) ⟨wr.heap.size, 0, none⟩ 1 1 [.string bx] (by rfl) (by rfl) (World.news_of_block (cs := #[.string bx]) (t := 9) (fr := (0, 0)) (heap_alloc_new wr _)) (by simp [Value.oneCell']) (by omega) (by unfold maxLen; omega) (by omega) ?_; intro g1 of1 cap1 w3 hown hm hat; skip)
          obtain ⟨q1, q2⟩ := acc_more HAT.out HB.out hm hat (of := of1)
          have hz : (ol ++ [x]).length = ol.length + 1 := by rw [List.length_append]; rfl
          have hr3 : Row w3 9 1 (some ⟨g1, of1, none⟩) (ol ++ [x]).length cap1 ((ol ++ [x]).map sv) := by
            rw [hz, List.map_append]; simpa [sv, HE1.out] using hown
          have HZ := Lib.hid hz
          have hd := HD.out
          clear hz
          go_roundw
          case rel => exact ⟨i + 1, false, ol ++ [x], some ⟨g1, of1, none⟩, cap1, by omega, by rw [HZ.out]; omega, by go_num, rfl, by rw [HZ.out], Lib.hid (by rw [HDN.out, ← hd, HLX.out]; rfl), Lib.hid (by rw [if_neg (by decide), HTK.out, HOL.out, if_neg (by decide)]), HNM2, Lib.hid hr3, Lib.hid q1, Lib.hid q2⟩
          case measure => simp [intOf]; omega
    · have hall : l.take i = l := List.take_of_length_le (by omega)
      have hd := HD.out
      have ho := HOL.out
      have hn := HNM.out
      rw [hall] at hd ho hn
      have hg : Ky.insG l s = Ky.ins s l := by unfold Ky.insG; rw [if_neg hn]
      have HGG := Lib.hid hg
      have HO := Lib.hid ho
      have HDD := Lib.hid hd
      clear hd ho hn hg hall HD HOL HNM
      cases d with
      | true =>
        go_wp2_with fail
        go_ret
        have ho : ol = Ky.ins s l := by have := HO.out; simpa using this
        rw [HGG.out]
        exact ⟨A', cap', by rw [← ho]; rfl, by rw [← ho]; exact ⟨HRW.out.rd, HRW.out.2.1, HRW.out.2.2.1⟩, HB.out, .inr HAT.out⟩
      | false =>
        go_wp2_with (at_builtin; refine wpList_append_row (by rfl) _ _ _ (by rfl) 9 i0 _ 1 16 Tryz.underlying27 hi0 hz0 hz1 hz2 rfl (by omega) A' ol.length cap' (ol.map sv) (by rfl) (HRW.out.alloc _) ⟨wr.heap.size, 0, none⟩ 1 1 [.string bs] (by rfl) (by rfl) (World.news_of_block (cs := #[.string bs]) (t := 9) (fr := (0, 0)) (heap_alloc_new wr _)) (by simp [Value.oneCell']) (by omega) (by unfold maxLen; omega) (by omega) ?_; intro g1 of1 cap1 w3 hown hm hat; skip)
        obtain ⟨q1, q2⟩ := acc_more HAT.out HB.out hm hat (of := of1)
        have hz : (ol ++ [s]).length = ol.length + 1 := by rw [List.length_append]; rfl
        have hr3 : Row w3 9 1 (some ⟨g1, of1, none⟩) (ol.length + 1) cap1 ((ol ++ [s]).map sv) := by
          rw [List.map_append]; simpa [sv, HBS.out] using hown
        have ho : ol = l := by have := HO.out; simpa using this
        have hins : Ky.ins s l = ol ++ [s] := by
          have := Ky.ins_out HDD.out.symm []
          rw [List.append_nil] at this
          rw [this, ← ho]; rfl
        have HINS := Lib.hid hins
        have HR3 := Lib.hid hr3
        have HB3 := Lib.hid q2
        have HAT3 := Lib.hid q1
        have HZ := Lib.hid hz
        clear hown hm hat q1 q2 hr3 ho hins hz
        go_ret
        rw [HGG.out]
        exact ⟨_, cap1, by rw [HINS.out, HZ.out]; rfl, by rw [HINS.out, HZ.out]; exact ⟨HR3.out.rd, HR3.out.2.1, HR3.out.2.2.1⟩, HB3.out, .inr HAT3.out⟩
end Go.Proofs.YtckdofjpoajblaaGreat
namespace Go.Proofs.YtckdofjpoajblaaGreat
open Go.RowKit
noncomputable abbrev Tryz.keyS : KeyK Tryz.prog 9 ByteArray := keyStr Tryz.underlying9
end Go.Proofs.YtckdofjpoajblaaGreat
