/- Part 8 of the proof of leastTells_holds: what it rests on. -/
import Derived.Test.YtckdofjpoajblaaGreatZk7
namespace Go.Proofs.YtckdofjpoajblaaGreat
open Go.RowKit
set_option linter.unusedVariables false
namespace Pr
def sw : List Int → Nat
  | a :: b :: l => (if a ≠ b then 1 else 0) + sw (b :: l)
  | _ => 0
theorem sw_snoc : ∀ (l : List Int) (y x : Int), sw (l ++ ([y] ++ [x])) = sw (l ++ [y]) + if y ≠ x then 1 else 0
  | [], y, x => by simp [sw]
  | [a], y, x => by simp only [List.cons_append, List.nil_append, sw]; omega
  | a :: b :: l, y, x => by
    have := sw_snoc (b :: l) y x
    simp only [List.cons_append, List.nil_append, sw] at this ⊢
    omega
end Pr
set_option maxRecDepth 100000 in
set_option maxHeartbeats 2000000 in
theorem switches_any (w : World) (A : Option Addr) (cap : Nat) (a : List Int) (ha : Rd w 1 A a.length (a.map iv)) (hl : a.length < 4611686018427387904) :
    Calls Tryz.prog 27 #[.slice A a.length cap] w fun x w' => x = .returned (.int .i64 (Pr.sw a : Nat)) ∧ Below w.heap.size w w' := by
  have HC := Lib.hid (int_cell ha.toB)
  clear ha
  obtain ⟨n, hn⟩ : ∃ n, n = a.length := ⟨_, rfl⟩
  rw [← hn] at hl ⊢
  have HN := Lib.hid hn
  clear hn
  go_enter Tryz.func27, Tryz.ntmps27
  go_wp2_with fail
  go_loopw [2, 3] (fun c v wr => ∃ j r : Nat, (j ≤ n ∨ j = 1) ∧ r + 1 ≤ j ∧ v = .int .i64 (j : Int) ∧ c = .int .i64 (r : Int) ∧ Hid (r = Pr.sw (a.take j)) ∧ Hid (Below w.heap.size w wr)) (fun _ v _ => n + 1 - (intOf v).toNat)
  case atStart => exact ⟨1, 0, Or.inr rfl, Nat.le_refl _, rfl, rfl, Lib.hid (by cases a <;> rfl), Lib.hid (Below.refl _ _)⟩
  case round =>
    obtain ⟨j, r, hk, hrk, rfl, rfl, HR, HBW⟩ := hrel
    obtain ⟨k, hjk⟩ : ∃ k, j = k + 1 := ⟨j - 1, by omega⟩
    by_cases hlt : j < n
    · obtain ⟨x, hx⟩ := get_some (show j < a.length by rw [← HN.out]; exact hlt)
      obtain ⟨y, hy⟩ := get_some (show k < a.length by rw [← HN.out]; omega)
      obtain ⟨g, o, rfl, hg, hcl⟩ := HC.out j x hx
      obtain ⟨g', o', hA', hg', hcl'⟩ := HC.out k y hy
      obtain ⟨rfl, rfl⟩ : g = g' ∧ o = o' := by simpa using hA'
      have v0 := hcl wr HBW.out
      have u0 := hcl' wr HBW.out
      have k1 : (0 : Int) ≤ (k : Int) := Int.natCast_nonneg _
      have k2 : (j : Int) < (n : Int) := by omega
      have k3 : (0 : Int) ≤ (j : Int) := Int.natCast_nonneg _
      have k5 : (k : Int) < (n : Int) := by omega
      have lg : g < wr.heap.size := by have := HBW.out.size; omega
      have htk : a.take (j + 1) = a.take k ++ [y] ++ [x] := by rw [List.take_add_one, hx, hjk, List.take_add_one, hy]; rfl
      have htk' : a.take j = a.take k ++ [y] := by rw [hjk, List.take_add_one, hy]; rfl
      have hsw : Pr.sw (a.take (j + 1)) = Pr.sw (a.take j) + if y ≠ x then 1 else 0 := by rw [htk, htk', List.append_assoc]; exact Pr.sw_snoc _ _ _
      have HSW := Lib.hid hsw
      have e1 : IntKind.i64.wrap ((j : Int) - 1) = (k : Int) := by rw [IntWalk.i64_in _ (by omega)]; omega
      have HJK := Lib.hid hjk
      clear hcl hcl' hx hy htk htk' hsw hA' hg hg' hjk
      by_cases hxy : x = y
      · have e4 : (x != y) = false := by simpa using hxy
        have HXY := Lib.hid hxy
        clear hxy
        go_wp2_with fail
        refine wp_region_planF (by kernel_rfl) (fun u => Mod (fun _ => False) wr u) [] [(0, .pure), (1, .pure), (2, .pure), (3, .load), (4, .pure), (5, .pure), (6, .pure), (7, .pure), (8, .load), (9, .pure)] (by simp only [List.map_cons, List.map_nil, List.getElem?_toArray, List.getElem?_cons_succ, List.getElem?_cons_zero]; rfl) (by kernel_rfl) (fun _ _ d _ _ h => by cases d <;> exact h) ((Mod.refl _ _).drew) ?_
        repeat (first
          | (refine plan_pure (v := ?_) (by rfl) (fun w1 => ?_) ?_
             rotate_left
             · go_simp <;> with_reducible rfl
             simp only [Act.put, List.setIfInBounds_toArray, List.set_cons_zero, List.set_cons_succ])
          | (refine plan_off (by rfl) ?_
             simp only [Act.put, List.setIfInBounds_toArray, List.set_cons_zero, List.set_cons_succ])
          | (refine plan_load_off (by rfl) ?_
             simp only [Act.put, List.setIfInBounds_toArray, List.set_cons_zero, List.set_cons_succ])
          | (refine plan_load (v := ?_) (by rfl) (fun w1 hw1 => ?_) ?_
             rotate_left
             · (have q0 := (hw1.cell g _ lg id).trans v0
                have q1 := (hw1.cell g (o + k) lg id).trans u0
                clear hw1
                go_simp <;> with_reducible rfl)
             simp only [Act.put, List.setIfInBounds_toArray, List.set_cons_zero, List.set_cons_succ]))
        refine plan_end ?_
        clear e1 e4 v0 u0
        go_wp2_with fail
        go_roundw
        case rel => exact ⟨j + 1, r, Or.inl (by omega), by omega, by go_num, by first | rfl | trivial, Lib.hid (by rw [HSW.out, if_neg (by simp [HXY.out]), ← HR.out]; rfl), Lib.hid HBW.out.drew⟩
        case measure => simp [intOf]; omega
      · have e4 : (x != y) = true := by simpa using hxy
        have HXY := Lib.hid hxy
        clear hxy
        go_wp2_with fail
        refine wp_region_planF (by kernel_rfl) (fun u => Mod (fun _ => False) wr u) [] [(0, .pure), (1, .pure), (2, .pure), (3, .load), (4, .pure), (5, .pure), (6, .pure), (7, .pure), (8, .load), (9, .pure)] (by simp only [List.map_cons, List.map_nil, List.getElem?_toArray, List.getElem?_cons_succ, List.getElem?_cons_zero]; rfl) (by kernel_rfl) (fun _ _ d _ _ h => by cases d <;> exact h) ((Mod.refl _ _).drew) ?_
        repeat (first
          | (refine plan_pure (v := ?_) (by rfl) (fun w1 => ?_) ?_
             rotate_left
             · go_simp <;> with_reducible rfl
             simp only [Act.put, List.setIfInBounds_toArray, List.set_cons_zero, List.set_cons_succ])
          | (refine plan_off (by rfl) ?_
             simp only [Act.put, List.setIfInBounds_toArray, List.set_cons_zero, List.set_cons_succ])
          | (refine plan_load_off (by rfl) ?_
             simp only [Act.put, List.setIfInBounds_toArray, List.set_cons_zero, List.set_cons_succ])
          | (refine plan_load (v := ?_) (by rfl) (fun w1 hw1 => ?_) ?_
             rotate_left
             · (have q0 := (hw1.cell g _ lg id).trans v0
                have q1 := (hw1.cell g (o + k) lg id).trans u0
                clear hw1
                go_simp <;> with_reducible rfl)
             simp only [Act.put, List.setIfInBounds_toArray, List.set_cons_zero, List.set_cons_succ]))
        refine plan_end ?_
        clear e1 e4 v0 u0
        go_wp2_with fail
        go_roundw
        case rel => exact ⟨j + 1, r + 1, Or.inl (by omega), by omega, by go_num, by go_num, Lib.hid (by rw [HSW.out, if_pos (fun e => HXY.out e.symm), ← HR.out]), Lib.hid HBW.out.drew⟩
        case measure => simp [intOf]; omega
    · have hr := HR.out
      rw [List.take_of_length_le (show a.length ≤ j by have := HN.out; omega)] at hr
      have HQ := Lib.hid hr
      have k4 : ¬ (j : Int) < (n : Int) := by omega
      clear hjk
      clear hr
      go_wp2_with fail
      go_ret
      exact ⟨by rw [← HQ.out]; rfl, HBW.out⟩
end Go.Proofs.YtckdofjpoajblaaGreat
namespace Go.Proofs.YtckdofjpoajblaaGreat
open Go.RowKit
set_option linter.unusedVariables false
theorem var_any (w : World) (C : Nat → Prop) (S T : Nat) (s : St) (m : Nat) (h : SAt w C S T s) (hm : m < 4) :
    Calls Tryz.prog 33 #[.pointer (some ⟨S, 0, none⟩), .int .i64 (m : Int)] w fun x w' => x = .returned (.int .i64 (s.v m)) ∧ w = w' := by
  obtain ⟨PA, pc, tc, z0, z1, z2, z3, zv, zh, zc⟩ := h.cells
  have zm := zv m hm
  have sl := h.lt.1
  have k1 : (0 : Int) ≤ (m : Int) := Int.natCast_nonneg _
  have k2 : (m : Int) < 4 := by omega
  have k3 : ¬ (m : Int) < 0 := by omega
  have k4 : ¬ (4 : Int) ≤ (m : Int) := by omega
  generalize s.v m = y at *
  clear z0 z1 z2 z3 zv zh zc h
  go_enter Tryz.func33, Tryz.ntmps33
  go_wp2_with fail
  go_ret
  exact ⟨rfl, rfl⟩
end Go.Proofs.YtckdofjpoajblaaGreat
namespace Go.Proofs.YtckdofjpoajblaaGreat
open Go.RowKit
set_option linter.unusedVariables false
set_option maxRecDepth 100000 in
theorem cloneT_any (w : World) (a : Addr) (n cap : Nat) (cs : List Value) (hr : Rd w 4 (some a) n cs) (hn : n ≤ 1000000) :
    Calls Tryz.prog 158 #[.slice (some a) n cap] w (fun x w' => ∃ T cap', x = .returned (.slice (some ⟨T, 0, none⟩) n cap') ∧ Row w' 127 4 (some ⟨T, 0, none⟩) n cap' cs ∧ w.heap.size ≤ T ∧ Below w.heap.size w w') := by
  obtain ⟨i0, hi0, hz0, hz1, hz2⟩ := info_parts Tryz.infoTh
  have qn : ∀ (w : World) (a : Option Addr) (n c n' c' : Nat), (binOp .eql 121 (.slice a n c) (.slice none n' c')).run Tryz.prog w = .ok (.bool a.isNone) w := fun w a n c n' c' => Lib.run_eql_slice_nil w _ _ a n c n' c' Tryz.underlying121
  have hb : Below w.heap.size w (w.alloc (Obj.cells #[] 127)) := (Below.refl _ _).alloc (Nat.le_refl _) _
  have HX := Lib.hid (hr.below hb (Nat.le_refl _))
  have HB := Lib.hid hb
  clear hr hb
  go_enter Tryz.func158, Tryz.ntmps158
  go_wp2_with (at_builtin; refine wpList_append_copy0 (by rfl) _ _ _ (by rfl) 127 i0 _ 4 32 Tryz.underlying121 hi0 hz0 hz1 hz2 rfl (by omega) ⟨w.heap.size, 0, none⟩ 0 [] (by rfl) (row_empty (heap_alloc_new w _)) (some a) n cap cs (by rfl) HX.out (by unfold maxLen; omega) (by omega) ?_; intro g7 o7 cap7 w7 hown hb2 hg7 ho7; obtain rfl : o7 = 0 := by (rcases ho7 with h | h <;> exact h); skip)
  go_ret
  rw [Nat.zero_add] at hown
  refine ⟨g7, cap7, rfl, by simpa using hown, ?_, below_at HB.out hb2⟩
  have := HB.out.size
  rcases hg7 with ⟨_, h⟩ | h
  · exact Nat.le_of_eq h.symm
  · simp at h; omega
def CopyOut (w : World) (C : Nat → Prop) (s : St) (x : Ending) (w' : World) : Prop := ∃ S' T', x = .returned (.pointer (some ⟨S', 0, none⟩)) ∧ SAt w' C S' T' s ∧ w.heap.size ≤ S' ∧ w.heap.size ≤ T' ∧ Below w.heap.size w w'
set_option maxRecDepth 100000 in
set_option maxHeartbeats 2000000 in
theorem copyS_any (w : World) (C : Nat → Prop) (S T : Nat) (s : St) (h : SAt w C S T s) (hC : ∀ k, C k → k < w.heap.size) (hn4 : s.th.length ≤ 4) :
    Calls Tryz.prog 96 #[.pointer (some ⟨S, 0, none⟩)] w (CopyOut w C s) := by
  have hlen := h.len
  have hS0 := h
  obtain ⟨PA, pc, tc, h1, h2, h3, h4, h5, h6, h7⟩ := h
  have c0 : ∀ j, w.cell? ⟨S, j, none⟩ = (stCells s PA pc T tc)[j]? := fun j => cell_blk h1 j
  have g0 := c0 0
  have g1 := c0 1
  have g2 := c0 2
  have g3 := c0 3
  have g4 := c0 4
  have g5 := c0 5
  have g6 := c0 6
  have g7 := c0 7
  have g8 := c0 8
  have g9 := c0 9
  simp only [stCells, List.getElem?_toArray, List.getElem?_cons_succ, List.getElem?_cons_zero] at g0 g1 g2 g3 g4 g5 g6 g7 g8 g9
  have sl := blk_lt h1
  have hcl := fun (u : World) (hu : Below w.heap.size w u) => cloneT_any u ⟨T, 0, none⟩ s.th.length tc (s.th.flatMap encT) (h2.rd.below hu (Nat.le_refl _)) (by omega)
  have HS := Lib.hid (And.intro h1 (And.intro h2.rd (And.intro h3 hlen)))
  have HC := Lib.hid hC
  obtain ⟨n, hn⟩ : ∃ n, n = s.th.length := ⟨_, rfl⟩
  obtain ⟨m, hm⟩ : ∃ m, m = s.p.code.length := ⟨_, rfl⟩
  rw [← hn] at g3 hn4 hcl
  rw [← hm] at g2
  have HN := Lib.hid (And.intro hn hm)
  have HCL := Lib.hid hcl
  clear c0 h1 h2 h3 h4 h5 h6 h7 hlen hC hn hm hcl hS0
  go_enter Tryz.func96, Tryz.ntmps96
  go_upto_region 4 with fail
  obtain ⟨W1, hW1⟩ : ∃ z, z = w.alloc (Obj.cells #[.int .i64 s.p.vars, .int .i64 s.p.mtx, .slice PA m pc, .slice (some ⟨T, 0, none⟩) n tc, .int .i64 (s.v 0), .int .i64 (s.v 1), .int .i64 (s.v 2), .int .i64 (s.v 3), .int .i64 (s.h 0), .int .i64 (s.h 1)] 124) := ⟨_, rfl⟩
  obtain ⟨S1, hS1⟩ : ∃ z, z = w.heap.size := ⟨_, rfl⟩
  rw [← hW1, ← hS1]
  have hk1 : W1.heap[S1]? = some (.cells #[.int .i64 s.p.vars, .int .i64 s.p.mtx, .slice PA m pc, .slice (some ⟨T, 0, none⟩) n tc, .int .i64 (s.v 0), .int .i64 (s.v 1), .int .i64 (s.v 2), .int .i64 (s.v 3), .int .i64 (s.h 0), .int .i64 (s.h 1)] 124 (0, 0)) := by rw [hW1, hS1]; exact heap_alloc_new w _
  have hb1 : Below w.heap.size w W1 := by rw [hW1]; exact (Below.refl _ _).alloc (Nat.le_refl _) _
  have HK1 := Lib.hid hk1
  have HB1 := Lib.hid hb1
  have HSW := Lib.hid (Nat.le_of_eq hS1.symm)
  clear hk1 hb1 hW1 hS1 g0 g1 g2 g4 g5 g6 g7 g8 g9
  have g3 := (World.cell?_of_block (HB1.out.block S sl)).trans g3
  have sl : S < W1.heap.size := Nat.lt_of_lt_of_le sl HB1.out.size
  go_wp2_with fail
  refine (HCL.out W1 HB1.out).mono ?_
  rintro y u ⟨T1, c1, rfl, hrow, hT1, hbu0⟩
  have hk2 := (hbu0.block S1 (blk_lt HK1.out)).trans HK1.out
  have c3 : u.cell? ⟨S1, 3, none⟩ = some (.slice (some ⟨T, 0, none⟩) n tc) := cell_blk hk2 3
  have fz := free_blk hk2 3
  have ll := blk_lt hk2
  have HK2 := Lib.hid hk2
  have HROW := Lib.hid hrow
  have HBU := Lib.hid (below_at HB1.out hbu0)
  have HT1 := Lib.hid (show S1 < T1 by have := blk_lt HK1.out; omega)
  clear hk2 hrow hT1 hbu0 g3 sl HCL
  go_wp2_with fail
  have hm : Mod (fun k => k = S1) u (u.setCell ⟨S1, 3, none⟩ (.slice (some ⟨T1, 0, none⟩) n c1)) := (Mod.refl (fun k => k = S1) u).setCell (p := ⟨S1, 3, none⟩) (fun _ => rfl) _
  have hgS := HT1.out
  have hk3 : (u.setCell ⟨S1, 3, none⟩ (.slice (some ⟨T1, 0, none⟩) n c1)).heap[S1]? = some (.cells (stCells s PA pc T1 c1) 124 (0, 0)) := by
    rw [set_blk HK2.out, HN.out.1, HN.out.2]; simp [stCells]
  have hbz : Below w.heap.size w (u.setCell ⟨S1, 3, none⟩ (.slice (some ⟨T1, 0, none⟩) n c1)) := HBU.out.setCell (p := ⟨S1, 3, none⟩) HSW.out _
  have hrow := HROW.out.mod hm (fun a ha e => by injection ha with ha; subst ha; simp only at e; omega)
  have hrow : Row (u.setCell ⟨S1, 3, none⟩ (.slice (some ⟨T1, 0, none⟩) n c1)) 127 4 (some ⟨T1, 0, none⟩) s.th.length c1 (s.th.flatMap encT) := by rw [← HN.out.1]; exact hrow
  refine bodyPost_ret (v := .pointer (some ⟨S1, 0, none⟩)) (by simp [results, Tryz.results96, go_sem]) rfl ?_
  have hCw : ∀ k, C k → k < w.heap.size := HC.out
  have hsw := HSW.out
  exact ⟨S1, T1, rfl, ⟨PA, pc, c1, hk3, hrow, (HS.out.2.2.1.mod (Mod.of_below_size hbz (fun _ => False)) (fun _ _ h => h)), fun hk => by have := hCw _ hk; omega, fun hk => by have := hCw _ hk; omega, fun e => by omega, HS.out.2.2.2⟩, hsw, by omega, hbz⟩
end Go.Proofs.YtckdofjpoajblaaGreat
namespace Go.Proofs.YtckdofjpoajblaaGreat
open Go.RowKit
set_option linter.unusedVariables false
def CellAt (w : World) (k : Nat) (v : Value) : Prop := ∃ T, w.heap[k]? = some (.cells #[v] T (0, 0))
theorem CellAt.mod {w w' : World} {F : Nat → Prop} {k : Nat} {v : Value} (h : CellAt w k v) (hm : Mod F w w') (hF : ¬ F k) : CellAt w' k v := by
  obtain ⟨T, h⟩ := h
  exact ⟨T, (hm.block k (blk_lt h) hF).trans h⟩
theorem CellAt.below {w w' : World} {k : Nat} {v : Value} (h : CellAt w k v) (hb : Below w.heap.size w w') : CellAt w' k v := h.mod (Mod.of_below_size hb (fun _ => False)) (fun h => h)
theorem CellAt.cell {w : World} {k : Nat} {v : Value} (h : CellAt w k v) : w.cell? ⟨k, 0, none⟩ = some v ∧ k < w.heap.size ∧ w.frozen? ⟨k, 0, none⟩ = false := by
  obtain ⟨T, h⟩ := h
  exact ⟨cell_blk h 0, blk_lt h, free_blk h 0⟩
theorem CellAt.set {w : World} {k : Nat} {v : Value} (h : CellAt w k v) (u : Value) : CellAt (w.setCell ⟨k, 0, none⟩ u) k u ∧ Mod (fun q => q = k) w (w.setCell ⟨k, 0, none⟩ u) := by
  obtain ⟨T, h⟩ := h
  exact ⟨⟨T, by rw [set_blk h]; simp⟩, (Mod.refl (fun q => q = k) w).setCell (p := ⟨k, 0, none⟩) (fun _ => rfl) u⟩
theorem cellAt_new (w : World) (v : Value) (T : TypeId) : CellAt (w.alloc (Obj.cells #[v] T)) w.heap.size v := ⟨T, heap_alloc_new w _⟩
structure AtS {α : Type} (G : Nat) (caps : Array Value) (F : Nat → Prop) (I : α → World → Prop) (at_ : St → List Ev → α → α) : Prop where
  call : ∀ (u : World) (C : Nat → Prop) (S T : Nat) (s : St) (row : List Ev) (A : Option Addr) (cap : Nat) (x : α), SAt u C S T s → Pr.Wf s → Rd u 4 A row.length (row.flatMap encE) → row.length ≤ 100 → (∀ k, F k → k ≠ S ∧ k ≠ T ∧ ¬ C k ∧ (∀ b, A = some b → b.block ≠ k)) → I x u →
    Calls Tryz.prog G (#[.pointer (some ⟨S, 0, none⟩), .slice A row.length cap] ++ caps) u fun y w' => y = .returned (.tuple #[]) ∧ I (at_ s row x) w' ∧ Mod F u w'
  enters : ∀ (args : Array Value) (w : World), (callFunc G args).run Tryz.prog w = .ok (.enter G args) w
  keep : ∀ (x : α) (u u' : World) (H : Nat → Prop), I x u → Mod H u u' → (∀ k, H k → ¬ F k) → I x u'
theorem AtS.below {α : Type} {G : Nat} {caps : Array Value} {F : Nat → Prop} {I : α → World → Prop} {at_ : St → List Ev → α → α} (h : AtS G caps F I at_) {x : α} {u u' : World} (hi : I x u) (hb : Below u.heap.size u u') : I x u' :=
  h.keep x u u' (fun _ => False) hi (Mod.of_below_size hb _) (fun _ h => h.elim)
structure Ov (w : World) (N P Q R : Nat) (c most : Nat) (G : Nat) (caps : Array Value) : Prop where
  n : CellAt w N (.int .i64 c)
  p : CellAt w P (.int .i64 most)
  q : CellAt w Q (.func (.func G) #[] caps)
  r : CellAt w R (.func (.func 159) #[] #[.pointer (some ⟨N, 0, none⟩), .pointer (some ⟨P, 0, none⟩), .pointer (some ⟨Q, 0, none⟩), .pointer (some ⟨R, 0, none⟩)])
  np : N ≠ P
  nq : N ≠ Q
  nr : N ≠ R
theorem Ov.mod {w w' : World} {N P Q R c most G : Nat} {caps : Array Value} {F : Nat → Prop} (h : Ov w N P Q R c most G caps) (hm : Mod F w w') (hN : ¬ F N) (hP : ¬ F P) (hQ : ¬ F Q) (hR : ¬ F R) : Ov w' N P Q R c most G caps :=
  ⟨h.n.mod hm hN, h.p.mod hm hP, h.q.mod hm hQ, h.r.mod hm hR, h.np, h.nq, h.nr⟩
theorem Ov.below {w w' : World} {N P Q R c most G : Nat} {caps : Array Value} (h : Ov w N P Q R c most G caps) (hb : Below w.heap.size w w') : Ov w' N P Q R c most G caps :=
  h.mod (Mod.of_below_size hb (fun _ => False)) (fun h => h) (fun h => h) (fun h => h) (fun h => h)
theorem Ov.set {w : World} {N P Q R c most G : Nat} {caps : Array Value} (h : Ov w N P Q R c most G caps) (c' : Nat) : Ov (w.setCell ⟨N, 0, none⟩ (.int .i64 c')) N P Q R c' most G caps ∧ Mod (fun k => k = N) w (w.setCell ⟨N, 0, none⟩ (.int .i64 c')) := by
  obtain ⟨h1, h2⟩ := h.n.set (.int .i64 c')
  exact ⟨⟨h1, h.p.mod h2 (fun e => h.np e.symm), h.q.mod h2 (fun e => h.nq e.symm), h.r.mod h2 (fun e => h.nr e.symm), h.np, h.nq, h.nr⟩, h2⟩
theorem Row.tight {w : World} {e sz : Nat} {A : Option Addr} {n cap : Nat} {cs : List Value} (h : Row w e sz A n cap cs) (hA : A ≠ none) : Row w e sz A n n cs := by
  obtain ⟨h1, h2, h3, h4, h5⟩ := h
  refine ⟨h1, Nat.le_refl _, Nat.le_trans h2 h3, fun h => (hA h).elim, fun a ha => ?_⟩
  obtain ⟨q1, cur, q2, q3, q4⟩ := h5 a ha
  exact ⟨q1, cur, q2, Nat.le_trans (Nat.add_le_add_left (Nat.mul_le_mul_right sz h2) _) q3, q4⟩
theorem ev_rd {w : World} {Y : Nat} {et ek eo : Int} {ef : Bool} {T : TypeId} (h : w.heap[Y]? = some (.cells #[.int .i64 et, .int .i64 ek, .int .i64 eo, .bool ef] T (0, 0))) : Rd w 4 (some ⟨Y, 0, none⟩) 1 [.int .i64 et, .int .i64 ek, .int .i64 eo, .bool ef] :=
  ⟨rfl, fun _ => ⟨Y, 0, rfl, blk_lt h, fun j hj => by
    rw [cell_blk h]
    rcases (show j = 0 ∨ j = 1 ∨ j = 2 ∨ j = 3 by omega) with rfl | rfl | rfl | rfl <;> rfl⟩⟩
section
variable {α : Type}
def OverC (N P Q R most G : Nat) (caps : Array Value) (F : Nat → Prop) (I : α → World → Prop) (at_ : St → List Ev → α → α) (n : Nat) (s : St) : Prop := ∀ (w : World) (C : Nat → Prop) (S T : Nat) (row : List Ev) (A : Option Addr) (cap c : Nat) (x : α), SAt w C S T s → (∀ k, C k → k < w.heap.size) →
  Row w 51 4 A row.length cap (row.flatMap encE) → row.length + n ≤ 100 → (∀ k, (k = N ∨ F k) → k ≠ S ∧ k ≠ T ∧ ¬ C k ∧ (∀ b, A = some b → b.block ≠ k) ∧ k < w.heap.size) → Ov w N P Q R c most G caps → I x w → c + 4 * n ≤ most + 300 →
  Calls Tryz.prog 159 #[.pointer (some ⟨S, 0, none⟩), .slice A row.length cap, .pointer (some ⟨N, 0, none⟩), .pointer (some ⟨P, 0, none⟩), .pointer (some ⟨Q, 0, none⟩), .pointer (some ⟨R, 0, none⟩)] w fun y w' => y = .returned (.tuple #[]) ∧ Ov w' N P Q R (Pr.over at_ most n s row (c, x)).1 most G caps ∧ I (Pr.over at_ most n s row (c, x)).2 w' ∧ Mod (fun k => k = N ∨ F k) w w'
set_option maxRecDepth 100000 in
set_option maxHeartbeats 8000000 in
theorem over1_full {N P Q R most G : Nat} {caps : Array Value} {F : Nat → Prop} {I : α → World → Prop} {at_ : St → List Ev → α → α} (hat : AtS G caps F I at_) (hFN : ¬ F N) (hFP : ¬ F P) (hFQ : ¬ F Q) (hFR : ¬ F R) (hmost : most ≤ 100000)
    (n : Nat) (s : St) (hw : Pr.Wf s) (w : World) (C : Nat → Prop) (S T : Nat) (row : List Ev) (A : Option Addr) (cap c : Nat) (x : α) (h : SAt w C S T s) (hC : ∀ k, C k → k < w.heap.size)
    (hr : Row w 51 4 A row.length cap (row.flatMap encE)) (hrl : row.length + n ≤ 100) (hap : ∀ k, (k = N ∨ F k) → k ≠ S ∧ k ≠ T ∧ ¬ C k ∧ (∀ b, A = some b → b.block ≠ k) ∧ k < w.heap.size) (hov : Ov w N P Q R c most G caps) (hI : I x w) (hc : c ≤ most + 300) (hf : most < c + 1) :
    Calls Tryz.prog 159 #[.pointer (some ⟨S, 0, none⟩), .slice A row.length cap, .pointer (some ⟨N, 0, none⟩), .pointer (some ⟨P, 0, none⟩), .pointer (some ⟨Q, 0, none⟩), .pointer (some ⟨R, 0, none⟩)] w fun y w' => y = .returned (.tuple #[]) ∧ Ov w' N P Q R (c + 1) most G caps ∧ I x w' ∧ Mod (fun k => k = N ∨ F k) w w' := by
  obtain ⟨m2, ml, f2⟩ := hov.n.cell
  obtain ⟨hov1, hm1⟩ := hov.set (c + 1)
  rw [show ((c + 1 : Nat) : Int) = (c : Int) + 1 by omega] at hov1 hm1
  have hS1 := h.mod hm1 (fun k hk e => (hap N (.inl rfl)).2.2.1 (e ▸ hk)) (fun e => (hap N (.inl rfl)).1 e.symm) (fun e => (hap N (.inl rfl)).2.1 e.symm)
  have hr1 := hr.mod hm1 (fun a ha => (hap N (.inl rfl)).2.2.2.1 a ha)
  have hI1 := hat.keep x _ _ _ hI hm1 (fun k hk => by subst hk; exact hFN)
  have e1 : wrap64 ((c : Int) + 1) = (c : Int) + 1 := IntWalk.wrap64_in _ (by omega)
  have HE1 := Lib.hid e1
  have HMF := Lib.hid (show Mod (fun k => k = N ∨ F k) w (w.setCell ⟨N, 0, none⟩ (.int .i64 ((c : Int) + 1))) from hm1.mono (fun k _ e => .inl e))
  have d1 : decide ((most : Int) < (c : Int) + 1) = true := decide_eq_true (by omega)
  have d2 : (most : Int) < (c : Int) + 1 := by omega
  obtain ⟨W1, hW1⟩ : ∃ z, z = w.setCell ⟨N, 0, none⟩ (.int .i64 ((c : Int) + 1)) := ⟨_, rfl⟩
  rw [← hW1] at hov1 hm1 hI1 HMF
  have HOV := Lib.hid hov1
  have HI1 := Lib.hid hI1
  have HW1 := Lib.hid hW1
  clear h hC hr hw hov hI hov1 hm1 hS1 hr1 hI1 hap e1 hat hFN hFP hFQ hFR hW1
  go_enter Tryz.func159, Tryz.ntmps159
  go_upto_region 1 with fail
  try rw [HE1.out]
  rw [← HW1.out]
  clear m2 ml f2 HW1
  obtain ⟨m2, ml, _⟩ := HOV.out.n.cell
  rw [show ((c + 1 : Nat) : Int) = (c : Int) + 1 by omega] at m2
  obtain ⟨p2, pl, _⟩ := HOV.out.p.cell
  go_wp2_with fail
  refine bodyPost_ret (v := .tuple #[]) (by simp [results, Tryz.results159, go_sem]) rfl ?_
  exact ⟨rfl, HOV.out, HI1.out, HMF.out⟩
set_option maxRecDepth 100000 in
set_option maxHeartbeats 8000000 in
theorem over1_end {N P Q R most G : Nat} {caps : Array Value} {F : Nat → Prop} {I : α → World → Prop} {at_ : St → List Ev → α → α} (hat : AtS G caps F I at_) (hFN : ¬ F N) (hFP : ¬ F P) (hFQ : ¬ F Q) (hFR : ¬ F R) (hmost : most ≤ 100000)
    (n : Nat) (s : St) (hw : Pr.Wf s) (w : World) (C : Nat → Prop) (S T : Nat) (row : List Ev) (A : Option Addr) (cap c : Nat) (x : α) (h : SAt w C S T s) (hC : ∀ k, C k → k < w.heap.size)
    (hr : Row w 51 4 A row.length cap (row.flatMap encE)) (hrl : row.length + n ≤ 100) (hap : ∀ k, (k = N ∨ F k) → k ≠ S ∧ k ≠ T ∧ ¬ C k ∧ (∀ b, A = some b → b.block ≠ k) ∧ k < w.heap.size) (hov : Ov w N P Q R c most G caps) (hI : I x w) (hc : c ≤ most + 300) (hf : ¬ most < c + 1) (ha : Pr.all s = []) :
    Calls Tryz.prog 159 #[.pointer (some ⟨S, 0, none⟩), .slice A row.length cap, .pointer (some ⟨N, 0, none⟩), .pointer (some ⟨P, 0, none⟩), .pointer (some ⟨Q, 0, none⟩), .pointer (some ⟨R, 0, none⟩)] w fun y w' => y = .returned (.tuple #[]) ∧ Ov w' N P Q R (c + 1) most G caps ∧ I (at_ s row x) w' ∧ Mod (fun k => k = N ∨ F k) w w' := by
  obtain ⟨m2, ml, f2⟩ := hov.n.cell
  obtain ⟨hov1, hm1⟩ := hov.set (c + 1)
  rw [show ((c + 1 : Nat) : Int) = (c : Int) + 1 by omega] at hov1 hm1
  have hS1 := h.mod hm1 (fun k hk e => (hap N (.inl rfl)).2.2.1 (e ▸ hk)) (fun e => (hap N (.inl rfl)).1 e.symm) (fun e => (hap N (.inl rfl)).2.1 e.symm)
  have hr1 := hr.mod hm1 (fun a ha => (hap N (.inl rfl)).2.2.2.1 a ha)
  have hI1 := hat.keep x _ _ _ hI hm1 (fun k hk => by subst hk; exact hFN)
  have e1 : wrap64 ((c : Int) + 1) = (c : Int) + 1 := IntWalk.wrap64_in _ (by omega)
  have HE1 := Lib.hid e1
  have HMF := Lib.hid (show Mod (fun k => k = N ∨ F k) w (w.setCell ⟨N, 0, none⟩ (.int .i64 ((c : Int) + 1))) from hm1.mono (fun k _ e => .inl e))
  have d1 : decide ((most : Int) < (c : Int) + 1) = false := decide_eq_false (by omega)
  have d2 : ¬ (most : Int) < (c : Int) + 1 := by omega
  obtain ⟨W1, hW1⟩ : ∃ z, z = w.setCell ⟨N, 0, none⟩ (.int .i64 ((c : Int) + 1)) := ⟨_, rfl⟩
  rw [← hW1] at hov1 hm1 hS1 hr1 hI1 HMF
  have hall := all_any W1 C S T s hS1 hw
  have hlen : ((Pr.all s).map (fun (t : Nat) => (t : Int))).length = (Pr.all s).length := by simp
  rw [hlen] at hall
  rw [ha] at hall
  have hall0 : Calls Tryz.prog 31 #[.pointer (some ⟨S, 0, none⟩)] W1 fun x w' => ∃ A cap, x = .returned (.slice A 0 cap) ∧ Below W1.heap.size W1 w' := hall.mono fun x w' ⟨A, cap, h1, _, h3⟩ => ⟨A, cap, h1, h3⟩
  have HALL := Lib.hid hall0
  have HS1 := Lib.hid hS1
  have HR1 := Lib.hid hr1
  have HOV := Lib.hid hov1
  have HI1 := Lib.hid hI1
  have HW1 := Lib.hid hW1
  have HWF := Lib.hid hw
  have HRL := Lib.hid hrl
  have HAT := Lib.hid hat
  have HAP := Lib.hid (And.intro hap (And.intro hFN (And.intro hFP (And.intro hFQ hFR))))
  clear h hC hr hw hov hI hov1 hm1 hS1 hr1 hI1 hap e1 hat hFN hFP hFQ hFR hW1 hall hall0 ha hlen hrl
  go_enter Tryz.func159, Tryz.ntmps159
  go_upto_region 1 with fail
  try rw [HE1.out]
  rw [← HW1.out]
  clear m2 ml f2
  obtain ⟨m2, ml, _⟩ := HOV.out.n.cell
  rw [show ((c + 1 : Nat) : Int) = (c : Int) + 1 by omega] at m2
  obtain ⟨p2, pl, _⟩ := HOV.out.p.cell
  go_wp2_with fail
  refine HALL.out.mono ?_
  rintro y w2 ⟨A2, c2, rfl, b2⟩
  have hov2 := HOV.out.below b2
  have hcall := HAT.out.call w2 C S T s row A cap x (HS1.out.below b2) HWF.out ((HR1.out.rd).below b2 (Nat.le_refl _)) (by have := HRL.out; omega) (fun k hk => have h9 := HAP.out.1 k (.inr hk); ⟨h9.1, h9.2.1, h9.2.2.1, h9.2.2.2.1⟩) (HAT.out.below HI1.out b2)
  have HCALL := Lib.hid hcall
  have HOV2 := Lib.hid hov2
  have HMO := Lib.hid (show Mod (fun k => k = N ∨ F k) w w2 from HMF.out.trans (Mod.of_below_size b2 _))
  clear m2 ml p2 pl HALL b2 hov2 hcall
  obtain ⟨q2, ql, _⟩ := HOV2.out.q.cell
  go_wp2_with fail
  rw [HAT.out.enters, Oper.upon_enter]
  refine HCALL.out.mono ?_
  rintro y w3 ⟨rfl, hi3, hm3⟩
  have HOV3 := Lib.hid (HOV2.out.mod hm3 HAP.out.2.1 HAP.out.2.2.1 HAP.out.2.2.2.1 HAP.out.2.2.2.2)
  have HI3 := Lib.hid hi3
  have HMO3 := Lib.hid (show Mod (fun k => k = N ∨ F k) w w3 from HMO.out.trans (hm3.mono (fun k _ e => .inr e)))
  clear hi3 hm3 q2 ql HCALL HOV2 HMO
  go_wp2_with fail
  go_loopw [30] (fun v wz => v = .int .i64 0 ∧ wz = w3) (fun v _ => 0)
  case atStart => exact ⟨rfl, rfl⟩
  case round =>
    obtain ⟨rfl, rfl⟩ := hrel
    go_wp2_with fail
    go_end0
    exact ⟨rfl, HOV3.out, HI3.out, HMO3.out⟩
def kidsP (at_ : St → List Ev → α → α) (most n : Nat) (s : St) (row : List Ev) (l : List Nat) (x : Nat × α) : Nat × α := l.foldl (fun y t => Pr.over at_ most n (Pr.stepS s t) (row ++ [Pr.evAt s t]) y) x
theorem kidsP_bound (at_ : St → List Ev → α → α) (most n : Nat) (s : St) (row : List Ev) (hw : Pr.Wf s) : ∀ (l : List Nat) (x : Nat × α), (kidsP at_ most n s row l x).1 ≤ max x.1 (most + 1 + 4 * n) + l.length := by
  intro l
  induction l with
  | nil => intro x; show x.1 ≤ _; omega
  | cons t l ih =>
    intro x
    refine Nat.le_trans (ih _) ?_
    rw [List.length_cons]
    show max (Pr.over at_ most n (Pr.stepS s t) (row ++ [Pr.evAt s t]) x).1 (most + 1 + 4 * n) + l.length ≤ max x.1 (most + 1 + 4 * n) + (l.length + 1)
    by_cases hf : most < x.1 + 1
    · have : Pr.over at_ most n (Pr.stepS s t) (row ++ [Pr.evAt s t]) x = (x.1 + 1, x.2) := by cases n <;> simp only [Pr.over, if_pos hf]
      rw [this]; simp only; omega
    · have := Pr.over_bound at_ most n (Pr.stepS s t) (row ++ [Pr.evAt s t]) x (Pr.stepS_wf t hw).1
      omega
theorem kidsP_snoc {at_ : St → List Ev → α → α} {most n : Nat} {s : St} {row : List Ev} {l : List Nat} {i t : Nat} {x : Nat × α} (h : l[i]? = some t) : kidsP at_ most n s row (l.take (i + 1)) x = Pr.over at_ most n (Pr.stepS s t) (row ++ [Pr.evAt s t]) (kidsP at_ most n s row (l.take i) x) := by
  rw [List.take_add_one, h]
  unfold kidsP
  rw [List.foldl_append]
  rfl
set_option maxRecDepth 100000 in
set_option maxHeartbeats 8000000 in
theorem over1_more {N P Q R most G : Nat} {caps : Array Value} {F : Nat → Prop} {I : α → World → Prop} {at_ : St → List Ev → α → α} (hat : AtS G caps F I at_) (hFN : ¬ F N) (hFP : ¬ F P) (hFQ : ¬ F Q) (hFR : ¬ F R) (hmost : most ≤ 100000)
    (n : Nat) (s : St) (hw : Pr.Wf s) (w : World) (C : Nat → Prop) (S T : Nat) (row : List Ev) (A : Option Addr) (cap c : Nat) (x : α) (h : SAt w C S T s) (hC : ∀ k, C k → k < w.heap.size)
    (hr : Row w 51 4 A row.length cap (row.flatMap encE)) (hrl : row.length + n ≤ 100) (hap : ∀ k, (k = N ∨ F k) → k ≠ S ∧ k ≠ T ∧ ¬ C k ∧ (∀ b, A = some b → b.block ≠ k) ∧ k < w.heap.size) (hov : Ov w N P Q R c most G caps) (hI : I x w) (hc : c ≤ most + 300) (hf : ¬ most < c + 1) (ha : Pr.all s ≠ []) (hn32 : n ≤ 32) (hcn : c + 4 * n ≤ most + 300) (hn0 : 0 < n) (ih : ∀ t ∈ Pr.all s, OverC N P Q R most G caps F I at_ (n - 1) (Pr.stepS s t)) :
    Calls Tryz.prog 159 #[.pointer (some ⟨S, 0, none⟩), .slice A row.length cap, .pointer (some ⟨N, 0, none⟩), .pointer (some ⟨P, 0, none⟩), .pointer (some ⟨Q, 0, none⟩), .pointer (some ⟨R, 0, none⟩)] w fun y w' => y = .returned (.tuple #[]) ∧ Ov w' N P Q R (kidsP at_ most (n - 1) s row (Pr.all s) (c + 1, x)).1 most G caps ∧ I (kidsP at_ most (n - 1) s row (Pr.all s) (c + 1, x)).2 w' ∧ Mod (fun k => k = N ∨ F k) w w' := by
  obtain ⟨m2, ml, f2⟩ := hov.n.cell
  obtain ⟨hov1, hm1⟩ := hov.set (c + 1)
  rw [show ((c + 1 : Nat) : Int) = (c : Int) + 1 by omega] at hov1 hm1
  have hS1 := h.mod hm1 (fun k hk e => (hap N (.inl rfl)).2.2.1 (e ▸ hk)) (fun e => (hap N (.inl rfl)).1 e.symm) (fun e => (hap N (.inl rfl)).2.1 e.symm)
  have hr1 := hr.mod hm1 (fun a ha => (hap N (.inl rfl)).2.2.2.1 a ha)
  have hI1 := hat.keep x _ _ _ hI hm1 (fun k hk => by subst hk; exact hFN)
  have e1 : wrap64 ((c : Int) + 1) = (c : Int) + 1 := IntWalk.wrap64_in _ (by omega)
  have HE1 := Lib.hid e1
  have HMF := Lib.hid (show Mod (fun k => k = N ∨ F k) w (w.setCell ⟨N, 0, none⟩ (.int .i64 ((c : Int) + 1))) from hm1.mono (fun k _ e => .inl e))
  have d1 : decide ((most : Int) < (c : Int) + 1) = false := decide_eq_false (by omega)
  have d2 : ¬ (most : Int) < (c : Int) + 1 := by omega
  obtain ⟨W1, hW1⟩ : ∃ z, z = w.setCell ⟨N, 0, none⟩ (.int .i64 ((c : Int) + 1)) := ⟨_, rfl⟩
  rw [← hW1] at hov1 hm1 hS1 hr1 hI1 HMF
  have hall := all_any W1 C S T s hS1 hw
  have hlen : ((Pr.all s).map (fun (t : Nat) => (t : Int))).length = (Pr.all s).length := by simp
  rw [hlen] at hall
  obtain ⟨na, hna⟩ : ∃ na, na = (Pr.all s).length := ⟨_, rfl⟩
  have hna0 : na ≠ 0 := by rw [hna]; exact fun h => ha (List.eq_nil_of_length_eq_zero h)
  have hna4 : na ≤ 4 := by rw [hna]; exact Pr.all_len hw
  rw [← hna] at hall
  obtain ⟨rl, hrl2⟩ : ∃ rl, rl = row.length := ⟨_, rfl⟩
  rw [← hrl2] at hr1 hrl ⊢
  have HALL := Lib.hid hall
  have HS1 := Lib.hid hS1
  have HR1 := Lib.hid hr1
  have HOV := Lib.hid hov1
  have HI1 := Lib.hid hI1
  have HW1 := Lib.hid hW1
  have HWF := Lib.hid hw
  have HRL := Lib.hid (And.intro hrl hrl2)
  have HAT := Lib.hid hat
  have HAP := Lib.hid (And.intro hap (And.intro hFN (And.intro hFP (And.intro hFQ hFR))))
  have HC := Lib.hid hC
  have HNA := Lib.hid hna
  have HIH := Lib.hid ih
  have HCN := Lib.hid (And.intro hcn (And.intro hn32 hn0))
  have HWS := Lib.hid (show w.heap.size ≤ W1.heap.size from hm1.size)
  have hrl9 : rl ≤ 100 := by omega
  have e0 : ((na : Int) == 0) = false := by simpa using hna0
  clear h hC hr hw hov hI hov1 hm1 hS1 hr1 hI1 hap e1 hat hFN hFP hFQ hFR hW1 hall ha hlen hrl hrl2 hna ih hcn hn32 hn0 hna0
  go_enter Tryz.func159, Tryz.ntmps159
  go_upto_region 1 with fail
  try rw [HE1.out]
  rw [← HW1.out]
  clear m2 ml f2
  obtain ⟨m2, ml, _⟩ := HOV.out.n.cell
  rw [show ((c + 1 : Nat) : Int) = (c : Int) + 1 by omega] at m2
  obtain ⟨p2, pl, _⟩ := HOV.out.p.cell
  go_wp2_with fail
  refine HALL.out.mono ?_
  rintro y w2 ⟨A2, c2, rfl, hints, b2⟩
  have hlen : ((Pr.all s).map (fun (t : Nat) => (t : Int))).length = na := by rw [List.length_map, HNA.out]
  have hrd : RdB w2 w2.heap.size 1 A2 ((Pr.all s).map (fun (t : Nat) => (t : Int))).length (((Pr.all s).map (fun (t : Nat) => (t : Int))).map iv) := hints.1.rd.toB
  have hatA : ∀ b, A2 = some b → W1.heap.size ≤ b.block := hints.2
  have HIC := Lib.hid (int_cell hrd)
  have HATA := Lib.hid hatA
  have HS2 := Lib.hid (HS1.out.below b2)
  have HR2 := Lib.hid (row_stepS HR1.out b2)
  have HOV2 := Lib.hid (HOV.out.below b2)
  have HI2 := Lib.hid (HAT.out.below HI1.out b2)
  have HMO := Lib.hid (show Mod (fun k => k = N ∨ F k) w w2 from HMF.out.trans (Mod.of_below_size b2 _))
  have HW12 := Lib.hid b2.size
  clear m2 ml p2 pl HALL b2 hints hrd hatA hlen HW1 HE1 HOV HI1 HS1 HR1 HMF
  go_wp2_with fail
  obtain ⟨i0, hi0, hz0, hz1, hz2⟩ := info_parts Tryz.infoEv
  go_loopw [30] (fun v wr => ∃ i : Nat, i ≤ na ∧ v = .int .i64 i ∧ Hid (Ov wr N P Q R (kidsP at_ most (n - 1) s row ((Pr.all s).take i) (c + 1, x)).1 most G caps) ∧ Hid (I (kidsP at_ most (n - 1) s row ((Pr.all s).take i) (c + 1, x)).2 wr) ∧ Hid (Mod (fun k => k = N ∨ F k) w2 wr)) (fun v _ => na - (intOf v).toNat)
  case atStart => exact ⟨0, Nat.zero_le _, rfl, HOV2, HI2, Lib.hid (Mod.refl _ _)⟩
  case round =>
    clear HOV2 HI2
    obtain ⟨i, hi, rfl, HOV, HI, HMV0⟩ := hrel
    by_cases hlt : i < na
    · obtain ⟨t, ht⟩ := get_some (show i < (Pr.all s).length by rw [← HNA.out]; exact hlt)
      have hen := (Pr.all_iff (s := s) (t := t)).1 (List.mem_of_getElem? ht)
      obtain ⟨e, ii, hnx, h8, h9⟩ := Pr.enabled_next hen
      clear h8 h9
      have htl := Pr.en_lt hen
      have hti : ((Pr.all s).map (fun (t : Nat) => (t : Int)))[i]? = some (t : Int) := by rw [List.getElem?_map, ht]; rfl
      obtain ⟨g, og, rfl, hgl, hcl⟩ := HIC.out i _ hti
      have hgM : ¬ (g = N ∨ F g) := fun hk => by have h1 : W1.heap.size ≤ g := HATA.out _ rfl; have := (HAP.out.1 g hk).2.2.2.2; have := HWS.out; omega
      have hca := (HMV0.out.cell g (og + i) hgl hgM).trans (hcl w2 (Below.refl _ _))
      have hlg : g < wr.heap.size := Nat.lt_of_lt_of_le hgl HMV0.out.size
      have hSr : SAt wr C S T s := HS2.out.mod HMV0.out (fun k hk e => (HAP.out.1 k e).2.2.1 hk) (fun e => (HAP.out.1 S e).1 rfl) (fun e => (HAP.out.1 T e).2.1 rfl)
      have hRr : Row wr 51 4 A rl cap (row.flatMap encE) := HR2.out.mod HMV0.out (fun a ha e => (HAP.out.1 _ e).2.2.2.1 a ha rfl)
      have hwsz : w.heap.size ≤ wr.heap.size := by have := HWS.out; have := HW12.out; have := HMV0.out.size; omega
      have hcopy := copyS_any wr C S T s hSr (fun k hk => Nat.lt_of_lt_of_le (HC.out k hk) hwsz) HWF.out.n4
      have HCOPY := Lib.hid hcopy
      have HT := Lib.hid (And.intro ht (And.intro hen (And.intro hnx htl)))
      have HWZ := Lib.hid hwsz
      have HRR := Lib.hid hRr
      have k1 : (0 : Int) ≤ (i : Int) := Int.natCast_nonneg _
      have k2 : (i : Int) < (na : Int) := by omega
      clear hcopy ht hen hnx htl hti hcl hgM hgl hSr hwsz hRr
      go_wp2_with fail
      refine HCOPY.out.mono ?_
      rintro y w3 ⟨S', T', rfl, hR3, hS', hT', b3⟩
      obtain ⟨et, ek, eo, ef⟩ := e
      have hstep := step_ok w3 C S' T' s t ⟨et, ek, eo, ef⟩ hR3 HWF.out HT.out.2.2.2 HT.out.2.1 HT.out.2.2.1
      simp only [valE] at hstep
      have HSTEP := Lib.hid hstep
      have HR3 := Lib.hid hR3
      have HB3 := Lib.hid b3
      have HST := Lib.hid (And.intro hS' hT')
      clear hstep hR3 b3 hS' hT' HCOPY hca hlg
      go_wp2_with fail
      refine HSTEP.out.mono ?_
      rintro y w4 ⟨rfl, hR4, hm4⟩
      have hb4 : Below wr.heap.size wr w4 := HB3.out.trans (hm4.below _ HB3.out.size (fun k hk e => by have := HST.out; omega))
      obtain ⟨V0, Z, hV0, hZ, hBz, hZl, hZe⟩ := ev_box w4 ⟨et, ek, eo, ef⟩
      simp only at hV0
      have hb5 : Below wr.heap.size wr V0 := below_at hb4 hBz
      have hR5 := hR4.below hBz
      have HXE := Lib.hid hZe
      have HRD := Lib.hid (fun (u : World) (hu : Below V0.heap.size V0 u) => row_stepS HRR.out (below_at hb5 hu))
      have HOVB := Lib.hid (fun (u : World) (hu : Below V0.heap.size V0 u) => HOV.out.below (below_at hb5 hu))
      have hrec : ∀ (u : World) (g8 o8 cap8 : Nat), Below V0.heap.size V0 u → V0.heap.size ≤ g8 → Row u 51 4 (some ⟨g8, o8, none⟩) (rl + 1) cap8 (row.flatMap encE ++ [.int .i64 et, .int .i64 ek, .int .i64 eo, .bool ef]) →
          Calls Tryz.prog 159 #[.pointer (some ⟨S', 0, none⟩), .slice (some ⟨g8, o8, none⟩) (rl + 1) cap8, .pointer (some ⟨N, 0, none⟩), .pointer (some ⟨P, 0, none⟩), .pointer (some ⟨Q, 0, none⟩), .pointer (some ⟨R, 0, none⟩)] u fun y w' => y = .returned (.tuple #[]) ∧ Ov w' N P Q R (kidsP at_ most (n - 1) s row ((Pr.all s).take (i + 1)) (c + 1, x)).1 most G caps ∧ I (kidsP at_ most (n - 1) s row ((Pr.all s).take (i + 1)) (c + 1, x)).2 w' ∧ Mod (fun k => k = N ∨ F k) u w' := fun u g8 o8 cap8 hu hg8 hrd => by
        obtain ⟨ci, xi, hx⟩ : ∃ ci xi, kidsP at_ most (n - 1) s row ((Pr.all s).take i) (c + 1, x) = (ci, xi) := ⟨_, _, rfl⟩
        have hov := HOVB.out u hu
        have hii := HAT.out.below HI.out (below_at hb5 hu)
        have hbd := kidsP_bound at_ most (n - 1) s row HWF.out ((Pr.all s).take i) (c + 1, x)
        have hev : Pr.evAt s t = ⟨et, ek, eo, ef⟩ := by unfold Pr.evAt; rw [HT.out.2.2.1]; rfl
        rw [hx] at hov hii hbd
        rw [kidsP_snoc HT.out.1, hx, hev]
        have hl2 : (row ++ [(⟨et, ek, eo, ef⟩ : Ev)]).length = rl + 1 := by rw [List.length_append, ← HRL.out.2]; rfl
        have hlt2 : ((Pr.all s).take i).length ≤ 3 := by rw [List.length_take]; omega
        have hcn := HCN.out
        simp only at hbd hov hii
        have hu5 := hu.size
        have hz5 := hb5.size
        have hwz := HWZ.out
        have hst := HST.out
        have hss := hR5.lt
        have hfl : (row ++ [(⟨et, ek, eo, ef⟩ : Ev)]).flatMap encE = row.flatMap encE ++ [.int .i64 et, .int .i64 ek, .int .i64 eo, .bool ef] := by rw [List.flatMap_append]; simp [encE]
        have := HIH.out t (List.mem_of_getElem? HT.out.1) u C S' T' (row ++ [⟨et, ek, eo, ef⟩]) (some ⟨g8, o8, none⟩) cap8 ci xi (hR5.below hu) (fun k hk => by have := HC.out k hk; omega)
          (by rw [hl2, hfl]; exact hrd) (by rw [hl2]; have := HRL.out.1; omega) (fun k hk => by
            have h9 := HAP.out.1 k hk
            exact ⟨by omega, by omega, h9.2.2.1, fun b hb => by injection hb with hb; subst hb; simp only; omega, by omega⟩) hov hii (by omega)
        rw [hl2] at this
        exact this
      have HREC := Lib.hid hrec
      have HMV := Lib.hid (show Mod (fun k => k = N ∨ F k) w2 V0 from HMV0.out.trans (Mod.of_below_size hb5 _))
      have HZN := Lib.hid (show ∀ k, (k = N ∨ F k) → k ≠ Z from fun k hk e => by
        have h1 := (HAP.out.1 k hk).2.2.2.2
        have h2 := hb4.size
        have h3 := HWZ.out
        rw [hZ] at e
        omega)
      clear hrec hR5 hb5 hR4 hm4 hb4 hBz hZl hZe HSTEP HR3 HB3 HI HMV0
      go_upto_region 10 with fail
      rw [← hV0, ← hZ]
      clear hV0 hZ
      refine wp_region_planF (by kernel_rfl) (fun u => Below V0.heap.size V0 u) [11] [(0, .load), (1, .pure), (2, .pure), (3, .pure), (4, .pure), (5, .pure), (6, .pure), (7, .pure), (8, .load), (9, .eff), (10, .eff), (11, .last)] (by simp only [List.map_cons, List.map_nil, List.getElem?_toArray, List.getElem?_cons_succ, List.getElem?_cons_zero]; rfl) (by kernel_rfl) (fun _ _ d _ _ h => by cases d <;> exact h) ((Below.refl _ _).drew) ?_
      obtain ⟨v1, hv1⟩ : ∃ z, z = V0.drew := ⟨_, rfl⟩
      rw [← hv1]
      have hbv : Below V0.heap.size V0 v1 := by rw [hv1]; exact (Below.refl _ _).drew
      have HBV := Lib.hid hbv
      clear hv1 hbv
      cases A with
      | none =>
        obtain rfl : rl = 0 := by have h1 := HRR.out.2.2.2.1 rfl; have h2 := HRR.out.2.1; omega
        have hre : row = [] := List.eq_nil_of_length_eq_zero (by rw [← HRL.out.2])
        obtain rfl : cap = 0 := HRR.out.2.2.2.1 rfl
        subst hre
        repeat (first
          | (refine plan_pure (v := ?_) (by rfl) (fun w1 => ?_) ?_
             rotate_left
             · go_simp <;> with_reducible rfl
             simp only [Act.put, List.setIfInBounds_toArray, List.set_cons_zero, List.set_cons_succ])
          | (refine plan_off (by rfl) ?_
             simp only [Act.put, List.setIfInBounds_toArray, List.set_cons_zero, List.set_cons_succ])
          | (refine plan_load_off (by rfl) ?_
             simp only [Act.put, List.setIfInBounds_toArray, List.set_cons_zero, List.set_cons_succ])
          | (refine plan_load (v := ?_) (by rfl) (fun w1 hw1 => ?_) ?_
             rotate_left
             · (have qr := (HOVB.out w1 hw1).r.cell
                obtain ⟨r0, r1, _⟩ := qr
                have qe := HXE.out w1 hw1
                obtain ⟨⟨z0, z1, z2, z3⟩, zl⟩ := qe
                simp only [Nat.zero_add] at z1 z2 z3
                clear hw1
                go_simp <;> with_reducible rfl)
             simp only [Act.put, List.setIfInBounds_toArray, List.set_cons_zero, List.set_cons_succ]))
        obtain ⟨Y, hY⟩ : ∃ Z, Z = v1.heap.size := ⟨_, rfl⟩
        obtain ⟨v2, hv2⟩ : ∃ u, u = v1.alloc (Obj.cells #[.int .i64 et, .int .i64 ek, .int .i64 eo, .bool ef] 51) := ⟨_, rfl⟩
        have HYK := Lib.hid (show v2.heap[Y]? = some (.cells #[.int .i64 et, .int .i64 ek, .int .i64 eo, .bool ef] 51 (0, 0)) by rw [hv2, hY]; exact heap_alloc_new v1 _)
        have HB2 := Lib.hid (show Below V0.heap.size V0 v2 by rw [hv2]; exact HBV.out.alloc HBV.out.size _)
        refine plan_eff ?_
        go_wp2_with fail
        rw [← hv2, ← hY]
        clear hv2 hY
        refine plan_on (fun _ h => h) HB2.out ?_
        repeat (first
          | (refine plan_pure (v := ?_) (by rfl) (fun w1 => ?_) ?_
             rotate_left
             · go_simp <;> with_reducible rfl
             simp only [Act.put, List.setIfInBounds_toArray, List.set_cons_zero, List.set_cons_succ])
          | (refine plan_off (by rfl) ?_
             simp only [Act.put, List.setIfInBounds_toArray, List.set_cons_zero, List.set_cons_succ])
          | (refine plan_load_off (by rfl) ?_
             simp only [Act.put, List.setIfInBounds_toArray, List.set_cons_zero, List.set_cons_succ])
          | (refine plan_load (v := ?_) (by rfl) (fun w1 hw1 => ?_) ?_
             rotate_left
             · (skip
                clear hw1
                go_simp <;> with_reducible rfl)
             simp only [Act.put, List.setIfInBounds_toArray, List.set_cons_zero, List.set_cons_succ]))
        refine plan_eff ?_
        go_wp2_with (at_builtin; refine wpList_append_row (by rfl) _ _ _ (by rfl) 51 i0 _ 4 32 Tryz.underlying55 hi0 hz0 hz1 hz2 rfl (by omega) none 0 0 [] (by rfl) (Row.nil v2 _ _) ⟨Y, 0, none⟩ 1 1 [.int .i64 et, .int .i64 ek, .int .i64 eo, .bool ef] (by rfl) (by rfl) (World.news_of_block (cs := #[.int .i64 et, .int .i64 ek, .int .i64 eo, .bool ef]) (t := 51) (fr := (0, 0)) HYK.out) (by simp [Value.oneCell']) (by omega) (by unfold maxLen; omega) (by omega) ?_; intro g8 o8 cap8 v3 hown hm hat9; skip)
        have HB3 := Lib.hid (show Below V0.heap.size V0 v3 from HB2.out.trans (hm.below _ HB2.out.size (fun k hk ⟨a, e1, e2⟩ => by cases e1)))
        have HG8 := Lib.hid (show V0.heap.size ≤ g8 by
          rcases hat9 with ⟨a, e1, e2⟩ | h
          · cases e1
          · exact Nat.le_trans HB2.out.size h)
        have hcall := HREC.out v3 g8 o8 cap8 HB3.out HG8.out (by simpa using hown)
        have HCALL := Lib.hid hcall
        clear hown hm hat9 hcall
        refine plan_on (fun _ h => h) HB3.out ?_
        repeat (first
          | (refine plan_pure (v := ?_) (by rfl) (fun w1 => ?_) ?_
             rotate_left
             · go_simp <;> with_reducible rfl
             simp only [Act.put, List.setIfInBounds_toArray, List.set_cons_zero, List.set_cons_succ])
          | (refine plan_off (by rfl) ?_
             simp only [Act.put, List.setIfInBounds_toArray, List.set_cons_zero, List.set_cons_succ])
          | (refine plan_load_off (by rfl) ?_
             simp only [Act.put, List.setIfInBounds_toArray, List.set_cons_zero, List.set_cons_succ])
          | (refine plan_load (v := ?_) (by rfl) (fun w1 hw1 => ?_) ?_
             rotate_left
             · (skip
                clear hw1
                go_simp <;> with_reducible rfl)
             simp only [Act.put, List.setIfInBounds_toArray, List.set_cons_zero, List.set_cons_succ]))
        refine plan_last ?_
        go_wp2_with fail
        refine HCALL.out.mono ?_
        rintro y w9 ⟨rfl, ho9, hi9, hm9⟩
        have HO9 := Lib.hid ho9
        have HI9 := Lib.hid hi9
        have HM9 := Lib.hid ((Mod.of_below_size HB3.out (fun k => k = N ∨ F k)).trans hm9)
        clear ho9 hi9 hm9 HCALL
        go_wp2_with fail
        repeat (first
          | (refine plan_pure (v := ?_) (by rfl) (fun w1 => ?_) ?_
             rotate_left
             · go_simp <;> with_reducible rfl
             simp only [Act.put, List.setIfInBounds_toArray, List.set_cons_zero, List.set_cons_succ])
          | (refine plan_off (by rfl) ?_
             simp only [Act.put, List.setIfInBounds_toArray, List.set_cons_zero, List.set_cons_succ])
          | (refine plan_load_off (by rfl) ?_
             simp only [Act.put, List.setIfInBounds_toArray, List.set_cons_zero, List.set_cons_succ])
          | (refine plan_load (v := ?_) (by rfl) (fun w1 hw1 => ?_) ?_
             rotate_left
             · (skip
                clear hw1
                go_simp <;> with_reducible rfl)
             simp only [Act.put, List.setIfInBounds_toArray, List.set_cons_zero, List.set_cons_succ]))
        refine plan_end ?_
        go_wp2_with fail
        go_roundw
        case rel => exact ⟨i + 1, by omega, by go_num, HO9, HI9, Lib.hid (HMV.out.trans HM9.out)⟩
        case measure => simp [intOf]; omega
      | some a =>
        have hrc : rl ≤ cap := HRR.out.2.1
        have k5 : (0 : Int) ≤ (rl : Int) := Int.natCast_nonneg _
        have k6 : (rl : Int) ≤ (cap : Int) := by omega
        obtain ⟨ga, oa, sa⟩ := a
        obtain rfl : sa = none := (HRR.out.2.2.2.2 _ rfl).1
        repeat (first
          | (refine plan_pure (v := ?_) (by rfl) (fun w1 => ?_) ?_
             rotate_left
             · go_simp <;> with_reducible rfl
             simp only [Act.put, List.setIfInBounds_toArray, List.set_cons_zero, List.set_cons_succ])
          | (refine plan_off (by rfl) ?_
             simp only [Act.put, List.setIfInBounds_toArray, List.set_cons_zero, List.set_cons_succ])
          | (refine plan_load_off (by rfl) ?_
             simp only [Act.put, List.setIfInBounds_toArray, List.set_cons_zero, List.set_cons_succ])
          | (refine plan_load (v := ?_) (by rfl) (fun w1 hw1 => ?_) ?_
             rotate_left
             · (have qr := (HOVB.out w1 hw1).r.cell
                obtain ⟨r0, r1, _⟩ := qr
                have qe := HXE.out w1 hw1
                obtain ⟨⟨z0, z1, z2, z3⟩, zl⟩ := qe
                simp only [Nat.zero_add] at z1 z2 z3
                clear hw1
                go_simp <;> with_reducible rfl)
             simp only [Act.put, List.setIfInBounds_toArray, List.set_cons_zero, List.set_cons_succ]))
        obtain ⟨Y, hY⟩ : ∃ Z, Z = v1.heap.size := ⟨_, rfl⟩
        obtain ⟨v2, hv2⟩ : ∃ u, u = v1.alloc (Obj.cells #[.int .i64 et, .int .i64 ek, .int .i64 eo, .bool ef] 51) := ⟨_, rfl⟩
        have HYK := Lib.hid (show v2.heap[Y]? = some (.cells #[.int .i64 et, .int .i64 ek, .int .i64 eo, .bool ef] 51 (0, 0)) by rw [hv2, hY]; exact heap_alloc_new v1 _)
        have HB2 := Lib.hid (show Below V0.heap.size V0 v2 by rw [hv2]; exact HBV.out.alloc HBV.out.size _)
        have HTR := Lib.hid ((HRD.out v2 HB2.out).tight (fun h => by cases h))
        refine plan_eff ?_
        go_wp2_with fail
        rw [← hv2, ← hY]
        clear hv2 hY
        refine plan_on (fun _ h => h) HB2.out ?_
        repeat (first
          | (refine plan_pure (v := ?_) (by rfl) (fun w1 => ?_) ?_
             rotate_left
             · go_simp <;> with_reducible rfl
             simp only [Act.put, List.setIfInBounds_toArray, List.set_cons_zero, List.set_cons_succ])
          | (refine plan_off (by rfl) ?_
             simp only [Act.put, List.setIfInBounds_toArray, List.set_cons_zero, List.set_cons_succ])
          | (refine plan_load_off (by rfl) ?_
             simp only [Act.put, List.setIfInBounds_toArray, List.set_cons_zero, List.set_cons_succ])
          | (refine plan_load (v := ?_) (by rfl) (fun w1 hw1 => ?_) ?_
             rotate_left
             · (skip
                clear hw1
                go_simp <;> with_reducible rfl)
             simp only [Act.put, List.setIfInBounds_toArray, List.set_cons_zero, List.set_cons_succ]))
        refine plan_eff ?_
        go_wp2_with (at_builtin; refine wpList_append_copy (by rfl) _ _ _ (by rfl) 51 i0 _ 4 32 Tryz.underlying55 hi0 hz0 hz1 hz2 rfl (by omega) ⟨ga, oa, none⟩ rl (row.flatMap encE) (by rfl) HTR.out (some ⟨Y, 0, none⟩) 1 1 [.int .i64 et, .int .i64 ek, .int .i64 eo, .bool ef] (by rfl) (ev_rd HYK.out) (by unfold maxLen; omega) (by omega) ?_; intro g8 o8 cap8 v3 hown hb9 hg9; skip)
        have HB3 := Lib.hid (show Below V0.heap.size V0 v3 from below_at HB2.out hb9)
        have HG8 := Lib.hid (show V0.heap.size ≤ g8 by
          rcases hg9 with ⟨h, _⟩ | h
          · omega
          · exact Nat.le_trans HB2.out.size h)
        have hcall := HREC.out v3 g8 o8 cap8 HB3.out HG8.out hown
        have HCALL := Lib.hid hcall
        clear hown hb9 hg9 hcall HTR
        refine plan_on (fun _ h => h) HB3.out ?_
        repeat (first
          | (refine plan_pure (v := ?_) (by rfl) (fun w1 => ?_) ?_
             rotate_left
             · go_simp <;> with_reducible rfl
             simp only [Act.put, List.setIfInBounds_toArray, List.set_cons_zero, List.set_cons_succ])
          | (refine plan_off (by rfl) ?_
             simp only [Act.put, List.setIfInBounds_toArray, List.set_cons_zero, List.set_cons_succ])
          | (refine plan_load_off (by rfl) ?_
             simp only [Act.put, List.setIfInBounds_toArray, List.set_cons_zero, List.set_cons_succ])
          | (refine plan_load (v := ?_) (by rfl) (fun w1 hw1 => ?_) ?_
             rotate_left
             · (skip
                clear hw1
                go_simp <;> with_reducible rfl)
             simp only [Act.put, List.setIfInBounds_toArray, List.set_cons_zero, List.set_cons_succ]))
        refine plan_last ?_
        go_wp2_with fail
        refine HCALL.out.mono ?_
        rintro y w9 ⟨rfl, ho9, hi9, hm9⟩
        have HO9 := Lib.hid ho9
        have HI9 := Lib.hid hi9
        have HM9 := Lib.hid ((Mod.of_below_size HB3.out (fun k => k = N ∨ F k)).trans hm9)
        clear ho9 hi9 hm9 HCALL
        go_wp2_with fail
        repeat (first
          | (refine plan_pure (v := ?_) (by rfl) (fun w1 => ?_) ?_
             rotate_left
             · go_simp <;> with_reducible rfl
             simp only [Act.put, List.setIfInBounds_toArray, List.set_cons_zero, List.set_cons_succ])
          | (refine plan_off (by rfl) ?_
             simp only [Act.put, List.setIfInBounds_toArray, List.set_cons_zero, List.set_cons_succ])
          | (refine plan_load_off (by rfl) ?_
             simp only [Act.put, List.setIfInBounds_toArray, List.set_cons_zero, List.set_cons_succ])
          | (refine plan_load (v := ?_) (by rfl) (fun w1 hw1 => ?_) ?_
             rotate_left
             · (skip
                clear hw1
                go_simp <;> with_reducible rfl)
             simp only [Act.put, List.setIfInBounds_toArray, List.set_cons_zero, List.set_cons_succ]))
        refine plan_end ?_
        go_wp2_with fail
        go_roundw
        case rel => exact ⟨i + 1, by omega, by go_num, HO9, HI9, Lib.hid (HMV.out.trans HM9.out)⟩
        case measure => simp [intOf]; omega
    · obtain rfl : i = na := by omega
      go_wp2_with fail
      go_end0
      have hs := HOV.out
      have hi9 := HI.out
      rw [List.take_of_length_le (by rw [HNA.out]; exact Nat.le_refl _)] at hs hi9
      exact ⟨rfl, hs, hi9, HMO.out.trans HMV0.out⟩
theorem over1_any {N P Q R most G : Nat} {caps : Array Value} {F : Nat → Prop} {I : α → World → Prop} {at_ : St → List Ev → α → α} (hat : AtS G caps F I at_) (hFN : ¬ F N) (hFP : ¬ F P) (hFQ : ¬ F Q) (hFR : ¬ F R) (hmost : most ≤ 100000) : ∀ (n : Nat) (s : St), Pr.Wf s → Pr.fuels s ≤ n → n ≤ 32 → OverC N P Q R most G caps F I at_ n s := by
  have full : ∀ {n : Nat} {s : St} {row : List Ev} {x : Nat × α}, most < x.1 + 1 → Pr.over at_ most n s row x = (x.1 + 1, x.2) := fun {n s row x} h => by cases n <;> simp only [Pr.over, if_pos h]
  have nilC : ∀ {n : Nat} {s : St} {row : List Ev} {c : Nat} {x : α}, ¬ most < c + 1 → Pr.all s = [] → Pr.over at_ most n s row (c, x) = (c + 1, at_ s row x) := fun {n s row c x} h ha => by
    cases n with
    | zero => simp only [Pr.over, if_neg h]
    | succ n => simp only [Pr.over, if_neg h, if_pos ha]; rw [ha]; rfl
  intro n
  induction n with
  | zero =>
    intro s hw hf _ w C S T row A cap c x h hC hr hrl hap hov hI hc
    by_cases h1 : most < c + 1
    · rw [full (x := (c, x)) h1]
      exact over1_full hat hFN hFP hFQ hFR hmost 0 s hw w C S T row A cap c x h hC hr hrl hap hov hI (by omega) h1
    · have ha := Pr.all_nil_of hw (by omega)
      rw [nilC h1 ha]
      exact over1_end hat hFN hFP hFQ hFR hmost 0 s hw w C S T row A cap c x h hC hr hrl hap hov hI (by omega) h1 ha
  | succ n ih =>
    intro s hw hf hn w C S T row A cap c x h hC hr hrl hap hov hI hc
    by_cases h1 : most < c + 1
    · rw [full (x := (c, x)) h1]
      exact over1_full hat hFN hFP hFQ hFR hmost (n + 1) s hw w C S T row A cap c x h hC hr hrl hap hov hI (by omega) h1
    · by_cases ha : Pr.all s = []
      · rw [nilC h1 ha]
        exact over1_end hat hFN hFP hFQ hFR hmost (n + 1) s hw w C S T row A cap c x h hC hr hrl hap hov hI (by omega) h1 ha
      · have hg : Pr.over at_ most (n + 1) s row (c, x) = kidsP at_ most n s row (Pr.all s) (c + 1, x) := by simp only [Pr.over, if_neg h1, if_neg ha]; rfl
        rw [hg]
        exact over1_more hat hFN hFP hFQ hFR hmost (n + 1) s hw w C S T row A cap c x h hC hr hrl hap hov hI (by omega) h1 ha hn hc (Nat.succ_pos _) (fun t ht => by
          have hen := Pr.all_iff.1 ht
          have := Pr.fuels_step hw hen
          exact ih (Pr.stepS s t) (Pr.stepS_wf t hw).1 (by omega) (by omega))
end
end Go.Proofs.YtckdofjpoajblaaGreat
namespace Go.Proofs.YtckdofjpoajblaaGreat
open Go.RowKit
set_option linter.unusedVariables false
set_option maxRecDepth 100000 in
theorem cloneInt_any (w : World) (A : Option Addr) (n cap : Nat) (cs : List Value) (hr : Rd w 1 A n cs) (hn : n ≤ 1000000) :
    Calls Tryz.prog 97 #[.slice A n cap] w (fun x w' => CloneOut w 3 1 n cs x w') := by
  unfold CloneOut
  obtain ⟨i0, hi0, hz0, hz1, hz2⟩ := info_parts Tryz.infoInt
  have qn : ∀ (w : World) (a : Option Addr) (n c n' c' : Nat), (binOp .eql 32 (.slice a n c) (.slice none n' c')).run Tryz.prog w = .ok (.bool a.isNone) w := fun w a n c n' c' => Lib.run_eql_slice_nil w _ _ a n c n' c' Tryz.underlying32
  cases A with
  | none =>
    have h0 : n = 0 := by
      rcases Nat.eq_zero_or_pos n with h | h
      · exact h
      · obtain ⟨g, o, h1, _⟩ := hr.2 (by omega); cases h1
    subst h0
    have hc : cs = [] := List.eq_nil_of_length_eq_zero (by rw [hr.1])
    subst hc
    clear hr hi0 hz0 hz1 hz2
    go_enter Tryz.func97, Tryz.ntmps97
    go_wp2_with fail
    go_ret
    exact ⟨none, 0, rfl, Row.nil _ _ _, fun a h => (by cases h), Below.refl _ _⟩
  | some a =>
    have hb : Below w.heap.size w (w.alloc (Obj.cells #[] 3)) := (Below.refl _ _).alloc (Nat.le_refl _) _
    have HX := Lib.hid (hr.below hb (Nat.le_refl _))
    have HB := Lib.hid hb
    clear hr hb
    go_enter Tryz.func97, Tryz.ntmps97
    go_wp2_with (at_builtin; refine wpList_append_copy (by rfl) _ _ _ (by rfl) 3 i0 _ 1 8 Tryz.underlying32 hi0 hz0 hz1 hz2 rfl (by omega) ⟨w.heap.size, 0, none⟩ 0 [] (by rfl) (row_empty (heap_alloc_new w _)) (some a) n cap cs (by rfl) HX.out (by unfold maxLen; omega) (by omega) ?_; intro g7 o7 cap7 w2 hown hb2 hg7)
    go_ret
    rw [Nat.zero_add] at hown
    refine ⟨_, cap7, rfl, by simpa using hown, fun a h => ?_, below_at HB.out hb2⟩
    injection h with h
    subst h
    have := HB.out.size
    rcases hg7 with ⟨_, h⟩ | h
    · exact Nat.le_of_eq h.symm
    · simp at h; simp only; omega
def NodeAt (u : World) (B o S : Nat) (WA : Option Addr) (wc : Nat) (d : Pr.Nd) : Prop :=
  u.cell? ⟨B, o, none⟩ = some (.pointer (some ⟨S, 0, none⟩)) ∧ u.cell? ⟨B, o + 1, none⟩ = some (.slice WA d.w.length wc) ∧ u.cell? ⟨B, o + 2, none⟩ = some (.int .i64 d.e.t) ∧ u.cell? ⟨B, o + 3, none⟩ = some (.int .i64 d.e.k) ∧
    u.cell? ⟨B, o + 4, none⟩ = some (.int .i64 d.e.o) ∧ u.cell? ⟨B, o + 5, none⟩ = some (.bool d.e.f) ∧ B < u.heap.size
theorem NodeAt.block {u u' : World} {B o S : Nat} {WA : Option Addr} {wc : Nat} {d : Pr.Nd} (h : NodeAt u B o S WA wc d) (hb : u'.heap[B]? = u.heap[B]?) (hs : u.heap.size ≤ u'.heap.size) : NodeAt u' B o S WA wc d := by
  obtain ⟨h0, h1, h2, h3, h4, h5, h6⟩ := h
  exact ⟨by rw [World.cell?_of_block hb]; exact h0, by rw [World.cell?_of_block hb]; exact h1, by rw [World.cell?_of_block hb]; exact h2, by rw [World.cell?_of_block hb]; exact h3, by rw [World.cell?_of_block hb]; exact h4, by rw [World.cell?_of_block hb]; exact h5, by omega⟩
structure IsS (G : Nat) (caps : Array Value) (W0 : World) (is : Pr.Nd → Bool) : Prop where
  call : ∀ (u : World) (C : Nat → Prop) (S T B o : Nat) (d : Pr.Nd) (WA : Option Addr) (wc : Nat), Below W0.heap.size W0 u → SAt u C S T d.s → Pr.Wf d.s → NodeAt u B o S WA wc d →
    Calls Tryz.prog G (#[.pointer (some ⟨B, o, none⟩)] ++ caps) u fun y w' => y = .returned (.bool (is d)) ∧ Below u.heap.size u w'
  enters : ∀ (args : Array Value) (w : World), (callFunc G args).run Tryz.prog w = .ok (.enter G args) w
namespace Pr
def isFail (d : Nd) : Bool := d.e.f
def isWait (d : Nd) : Bool := decide (all d.s = []) && waits d.s
def isReach (x : Nat) (v : Int) (d : Nd) : Bool := decide (d.s.v x = v)
end Pr
set_option maxRecDepth 100000 in
theorem fail_is (W0 : World) : IsS 55 #[] W0 Pr.isFail where
  enters := Go.Proofs.enters_of Tryz.func55 (by kernel_rfl) rfl
  call := by
    intro u C S T B o d WA wc hb h hw hn
    obtain ⟨h0, h1, h2, h3, h4, h5, h6⟩ := hn
    show Calls Tryz.prog 55 #[.pointer (some ⟨B, o, none⟩)] u _
    obtain ⟨s, w, ⟨et, ek, eo, ef⟩⟩ := d
    simp only at h5
    clear hb h hw h0 h1 h2 h3 h4
    go_enter Tryz.func55, Tryz.ntmps55
    go_wp2_with fail
    go_ret
    exact ⟨rfl, Below.refl _ _⟩
set_option maxRecDepth 100000 in
set_option maxHeartbeats 2000000 in
theorem wait_is (W0 : World) : IsS 56 #[] W0 Pr.isWait where
  enters := Go.Proofs.enters_of Tryz.func56 (by kernel_rfl) rfl
  call := by
    intro u C S T B o d WA wc hb0 h hw hn
    show Calls Tryz.prog 56 #[.pointer (some ⟨B, o, none⟩)] u _
    obtain ⟨s, w, e⟩ := d
    simp only at h hw
    obtain ⟨res, hres⟩ : ∃ r, r = Pr.isWait ⟨s, w, e⟩ := ⟨_, rfl⟩
    rw [← hres]
    have hall := all_any u C S T s h hw
    have hthr : ∀ v, Below u.heap.size u v → _ := fun v hv => threads_any v C S T s (h.below hv)
    have hnx := fun (i : Nat) (hi : i < s.th.length) (v : World) (hu : Below u.heap.size u v) => next_any v C S T s i (h.below hu) hw hi
    obtain ⟨nt, hnt⟩ : ∃ n, n = s.th.length := ⟨_, rfl⟩
    have hn4 := hw.n4
    obtain ⟨na, hna⟩ : ∃ n, n = ((Pr.all s).map (fun (t : Nat) => (t : Int))).length := ⟨_, rfl⟩
    rw [← hna] at hall
    rw [← hnt] at hthr hnx hn4
    have hna4 : na ≤ 4 := by rw [hna, List.length_map]; exact Pr.all_len hw
    have hres2 : res = (decide (na = 0) && (List.range nt).any fun t => (Pr.next s t).isSome) := by
      rw [hres, hnt, hna]
      unfold Pr.isWait Pr.waits
      simp [List.length_eq_zero_iff]
    have hblk : ∀ v, Below u.heap.size u v → v.cell? ⟨B, o, none⟩ = some (.pointer (some ⟨S, 0, none⟩)) ∧ B < v.heap.size := fun v hv => ⟨by rw [World.cell?_of_block (hv.block B hn.2.2.2.2.2.2)]; exact hn.1, Nat.lt_of_lt_of_le hn.2.2.2.2.2.2 hv.size⟩
    have HALL := Lib.hid hall
    have HTHR := Lib.hid hthr
    have HNX := Lib.hid hnx
    have HRES := Lib.hid hres2
    have HBL := Lib.hid hblk
    obtain ⟨b0, bl⟩ := hblk u (Below.refl _ _)
    clear h hw hthr hnx hres hnt hres2 hall hna hblk hn hb0
    go_enter Tryz.func56, Tryz.ntmps56
    go_wp2_with fail
    refine HALL.out.mono ?_
    rintro y w1 ⟨A1, c1, rfl, _, b1⟩
    have HB1 := Lib.hid b1
    clear b1 HALL b0 bl
    obtain ⟨b0, bl⟩ := HBL.out w1 HB1.out
    by_cases h0 : na = 0
    · subst h0
      go_wp2_with fail
      refine (HTHR.out w1 HB1.out).mono ?_
      rintro y w2 ⟨rfl, rfl⟩
      clear b0 bl
      go_wp2_with fail
      go_loopw [18] (fun v wr => ∃ i : Nat, i ≤ nt ∧ v = .int .i64 i ∧ Hid (((List.range i).any fun t => (Pr.next s t).isSome) = false) ∧ Hid (Below u.heap.size u wr)) (fun v _ => nt - (intOf v).toNat)
      case atStart => exact ⟨0, Nat.zero_le _, rfl, Lib.hid rfl, HB1⟩
      case round =>
        obtain ⟨i, hi, rfl, HN, HB⟩ := hrel
        by_cases hlt : i < nt
        · have hc := HNX.out i hlt wr HB.out
          obtain ⟨⟨et, ek, eo, ef⟩, he⟩ : ∃ e, e = (Pr.next s i).getD Pr.zeroE := ⟨_, rfl⟩
          obtain ⟨ok, hok⟩ : ∃ ok, ok = (Pr.next s i).isSome := ⟨_, rfl⟩
          rw [← he, ← hok] at hc
          simp only [valE] at hc
          obtain ⟨b0, bl⟩ := HBL.out wr HB.out
          have HC := Lib.hid hc
          have HOK := Lib.hid hok
          have k1 : (0 : Int) ≤ (i : Int) := Int.natCast_nonneg _
          have k2 : (i : Int) < (nt : Int) := by omega
          clear hc he hok
          go_wp2_with fail
          refine HC.out.mono ?_
          rintro y w2 ⟨rfl, b2⟩
          have HB2 := Lib.hid (below_at HB.out b2)
          clear b2 HC b0 bl
          cases ok with
          | true =>
            have hr : res = true := by rw [HRES.out]; simp only [decide_true, Bool.true_and]; exact List.any_eq_true.2 ⟨i, List.mem_range.2 hlt, HOK.out.symm⟩
            subst hr
            go_wp2_with fail
            go_ret
            exact ⟨rfl, HB2.out.alloc HB2.out.size _⟩
          | false =>
            go_wp2_with fail
            go_roundw
            case rel => exact ⟨i + 1, by omega, by go_num, Lib.hid (by rw [List.range_succ, List.any_append, HN.out]; simp [← HOK.out]), Lib.hid (HB2.out.alloc HB2.out.size _)⟩
            case measure => simp [intOf]; omega
        · obtain rfl : i = nt := by omega
          have hr : res = false := by rw [HRES.out, HN.out]; rfl
          subst hr
          go_wp2_with fail
          go_ret
          exact ⟨rfl, HB.out⟩
    · have k1 : (0 : Int) < (na : Int) := by omega
      have hr : res = false := by rw [HRES.out, decide_eq_false h0]; rfl
      subst hr
      clear h0
      go_wp2_with fail
      go_ret
      exact ⟨rfl, HB1.out⟩
set_option maxRecDepth 100000 in
set_option maxHeartbeats 2000000 in
theorem reach_is (W0 : World) (K1 K2 : Nat) (x : Nat) (v : Int) (hx : x < 4) (h1 : CellAt W0 K1 (.int .i64 (x : Int))) (h2 : CellAt W0 K2 (.int .i64 v)) : IsS 60 #[.pointer (some ⟨K1, 0, none⟩), .pointer (some ⟨K2, 0, none⟩)] W0 (Pr.isReach x v) where
  enters := Go.Proofs.enters_of Tryz.func60 (by kernel_rfl) rfl
  call := by
    intro u C S T B o d WA wc hb h hw hn
    obtain ⟨n0, _, _, _, _, _, nl⟩ := hn
    show Calls Tryz.prog 60 #[.pointer (some ⟨B, o, none⟩), .pointer (some ⟨K1, 0, none⟩), .pointer (some ⟨K2, 0, none⟩)] u _
    obtain ⟨c0, cl, _⟩ := (CellAt.below h1 hb).cell
    obtain ⟨e0, el, _⟩ := (CellAt.below h2 hb).cell
    have hv : ∀ z : World, Below u.heap.size u z → _ := fun z hz => var_any z C S T d.s x (h.below hz) hx
    have HV := Lib.hid hv
    unfold Pr.isReach
    obtain ⟨vx, hvx⟩ : ∃ z, z = d.s.v x := ⟨_, rfl⟩
    rw [← hvx] at HV ⊢
    clear hb h hw hv hvx h1 h2
    go_enter Tryz.func60, Tryz.ntmps60
    go_upto_region 1 with fail
    refine wp_region_planF (by kernel_rfl) (fun z => Below u.heap.size u z) [] [(0, .pure), (1, .pure), (2, .pure), (3, .load), (4, .load), (6, .load), (5, .eff), (7, .pure), (8, .pure)] (by simp only [List.map_cons, List.map_nil, List.getElem?_toArray, List.getElem?_cons_succ, List.getElem?_cons_zero]; rfl) (by kernel_rfl) (fun _ _ d _ _ h => by cases d <;> exact h) ((Below.refl _ _).drew) ?_
    repeat (first
      | (refine plan_pure (v := ?_) (by rfl) (fun w1 => ?_) ?_
         rotate_left
         · go_simp <;> with_reducible rfl
         simp only [Act.put, List.setIfInBounds_toArray, List.set_cons_zero, List.set_cons_succ])
      | (refine plan_off (by rfl) ?_
         simp only [Act.put, List.setIfInBounds_toArray, List.set_cons_zero, List.set_cons_succ])
      | (refine plan_load_off (by rfl) ?_
         simp only [Act.put, List.setIfInBounds_toArray, List.set_cons_zero, List.set_cons_succ])
      | (refine plan_load (v := ?_) (by rfl) (fun w1 hw1 => ?_) ?_
         rotate_left
         · (have q0 := (World.cell?_of_block (hw1.block B nl) : w1.cell? ⟨B, o, none⟩ = _).trans n0
            have q1 := (World.cell?_of_block (hw1.block K1 cl) : w1.cell? ⟨K1, 0, none⟩ = _).trans c0
            have q2 := (World.cell?_of_block (hw1.block K2 el) : w1.cell? ⟨K2, 0, none⟩ = _).trans e0
            have q3 := hw1.size
            clear hw1
            go_simp <;> with_reducible rfl)
         simp only [Act.put, List.setIfInBounds_toArray, List.set_cons_zero, List.set_cons_succ]))
    obtain ⟨Wd, hWd⟩ : ∃ z, z = u.drew := ⟨_, rfl⟩
    have hbd : Below u.heap.size u Wd := by rw [hWd]; exact (Below.refl _ _).drew
    rw [← hWd]
    clear hWd
    refine plan_eff ?_
    go_wp2_with fail
    refine (HV.out Wd hbd).mono ?_
    rintro y w2 ⟨rfl, rfl⟩
    have HB := Lib.hid hbd
    clear hbd n0 nl c0 cl e0 el
    go_wp2_with fail
    refine plan_on (fun _ h => h) HB.out ?_
    repeat (first
      | (refine plan_pure (v := ?_) (by rfl) (fun w1 => ?_) ?_
         rotate_left
         · go_simp <;> with_reducible rfl
         simp only [Act.put, List.setIfInBounds_toArray, List.set_cons_zero, List.set_cons_succ])
      | (refine plan_off (by rfl) ?_
         simp only [Act.put, List.setIfInBounds_toArray, List.set_cons_zero, List.set_cons_succ])
      | (refine plan_load_off (by rfl) ?_
         simp only [Act.put, List.setIfInBounds_toArray, List.set_cons_zero, List.set_cons_succ])
      | (refine plan_load (v := ?_) (by rfl) (fun w1 hw1 => ?_) ?_
         rotate_left
         · (skip
            clear hw1
            go_simp <;> with_reducible rfl)
         simp only [Act.put, List.setIfInBounds_toArray, List.set_cons_zero, List.set_cons_succ]))
    refine plan_end ?_
    go_wp2_with fail
    go_ret
    exact ⟨by first | rfl | (simp; done) | trivial, HB.out⟩
end Go.Proofs.YtckdofjpoajblaaGreat
namespace Go.Proofs.YtckdofjpoajblaaGreat
open Go.RowKit
set_option linter.unusedVariables false
theorem Tryz.infoWay : (Tryz.prog.info? 104).map (fun i => (i.zero, i.size, i.bytes)) = some (some (.agg #[.pointer none, .slice none 0 0, .int .i64 0, .int .i64 0, .int .i64 0, .bool false]), 6, 64) := by kernel_rfl
structure Nc where
  S : Nat
  T : Nat
  wc : Nat
  WA : Option Addr
  d : Pr.Nd
def encNc (x : Nc) : List Value := [.pointer (some ⟨x.S, 0, none⟩), .slice x.WA x.d.w.length x.wc, .int .i64 x.d.e.t, .int .i64 x.d.e.k, .int .i64 x.d.e.o, .bool x.d.e.f]
theorem encNc_len (x : Nc) : (encNc x).length = 6 := rfl
def NcAt (w : World) (C X : Nat → Prop) (x : Nc) : Prop := SAt w C x.S x.T x.d.s ∧ RdC w X 1 x.WA x.d.w.length (x.d.w.map iv) ∧ X x.S ∧ X x.T
theorem NcAt.mod {w w' : World} {F C X : Nat → Prop} {x : Nc} (h : NcAt w C X x) (hm : Mod F w w') (hC : ∀ k, C k → ¬ F k) (hX : ∀ k, X k → ¬ F k) : NcAt w' C X x :=
  ⟨h.1.mod hm hC (hX _ h.2.2.1) (hX _ h.2.2.2), h.2.1.mod hm hX, h.2.2⟩
theorem NcAt.below {w w' : World} {C X : Nat → Prop} {x : Nc} (h : NcAt w C X x) (hb : Below w.heap.size w w') : NcAt w' C X x :=
  ⟨h.1.below hb, h.2.1.below hb, h.2.2⟩
theorem NcAt.re {w : World} {C X Y : Nat → Prop} {x : Nc} (h : NcAt w C X x) (hXY : ∀ k, k < w.heap.size → X k → Y k) : NcAt w C Y x :=
  ⟨h.1, ⟨h.2.1.1, fun h0 => by obtain ⟨g, o, h1, hc, h2, h3⟩ := h.2.1.2 h0; exact ⟨g, o, h1, hXY g h2 hc, h2, h3⟩⟩, hXY _ h.1.lt.1 h.2.2.1, hXY _ h.1.lt.2 h.2.2.2⟩
def offB (B : Option Addr) (k : Nat) : Prop := ∀ a, B = some a → k ≠ a.block
def NodesAt (w : World) (C : Nat → Prop) (B : Option Addr) (cap : Nat) (xs : List Nc) : Prop :=
  Row w 104 6 B xs.length cap (xs.flatMap encNc) ∧ ∀ x ∈ xs, NcAt w C (offB B) x
theorem NodesAt.nil (w : World) (C : Nat → Prop) : NodesAt w C none 0 [] := ⟨Row.nil _ _ _, fun x hx => by cases hx⟩
theorem NodesAt.below {w w' : World} {C : Nat → Prop} {B : Option Addr} {cap : Nat} {xs : List Nc} (h : NodesAt w C B cap xs) (hb : Below w.heap.size w w') : NodesAt w' C B cap xs :=
  ⟨row_stepS h.1 hb, fun x hx => (h.2 x hx).below hb⟩
theorem NodesAt.snoc {w w8 w9 : World} {C : Nat → Prop} {B : Option Addr} {cap cap' g of : Nat} {xs : List Nc} {x : Nc} (h : NodesAt w C B cap xs) (hb : Below w.heap.size w w8) (hx : NcAt w8 C (offB B) x)
    (hr : Row w9 104 6 (some ⟨g, of, none⟩) (xs.length + 1) cap' (xs.flatMap encNc ++ encNc x)) (hm : Mod (fun k => ∃ a, B = some a ∧ k = a.block) w8 w9) (hg : (∃ a, B = some a ∧ g = a.block) ∨ w8.heap.size ≤ g)
    (hC : ∀ k, C k → offB B k) : NodesAt w9 C (some ⟨g, of, none⟩) cap' (xs ++ [x]) := by
  refine ⟨by simpa using hr, fun y hy => ?_⟩
  have hy8 : NcAt w8 C (offB B) y := by
    rcases List.mem_append.1 hy with hy | hy
    · exact (h.2 y hy).below hb
    · rw [List.mem_singleton.1 hy]; exact hx
  have h9 : NcAt w8 C (fun k => offB B k ∧ offB (some ⟨g, of, none⟩) k) y := hy8.re fun k hk hoff => ⟨hoff, fun a ha e => by
    injection ha with ha
    subst ha
    rcases hg with ⟨a, h1, h2⟩ | h1
    · exact hoff a h1 (e.trans h2)
    · simp only at e; omega⟩
  exact (h9.mod hm (fun k hk ⟨a, h1, h2⟩ => hC k hk a h1 h2) (fun k hk ⟨a, h1, h2⟩ => hk.1 a h1 h2)).re fun k _ hk => hk.2
theorem NodesAt.node {V u : World} {C : Nat → Prop} {B : Option Addr} {cap i : Nat} {xs : List Nc} {x : Nc} (h : NodesAt V C B cap xs) (hi : xs[i]? = some x) (hb : Below V.heap.size V u) :
    ∃ g o, B = some ⟨g, o, none⟩ ∧ g < V.heap.size ∧ NodeAt u g (o + i * 6) x.S x.WA x.wc x.d ∧ SAt u C x.S x.T x.d.s ∧ RdB u V.heap.size 1 x.WA x.d.w.length (x.d.w.map iv) := by
  obtain ⟨hl, rfl⟩ := List.getElem?_eq_some_iff.1 hi
  obtain ⟨g, o, rfl⟩ := h.1.some_of_pos (by have := h.1.2.1; omega)
  have hc := h.2 xs[i] (List.getElem_mem hl)
  have hg := h.1.lt
  have cl : ∀ r, r < 6 → u.cell? ⟨g, o + i * 6 + r, none⟩ = (encNc xs[i])[r]? := fun r hr => by
    have := h.1.cell (i * 6 + r) (by omega)
    rw [World.cell?_of_block (hb.block g hg), Nat.add_assoc, this, flat_get (f := encNc) (sz := 6) encNc_len xs i r hl hr]
  refine ⟨g, o, rfl, hg, ⟨cl 0 (by omega), cl 1 (by omega), cl 2 (by omega), cl 3 (by omega), cl 4 (by omega), cl 5 (by omega), Nat.lt_of_lt_of_le hg hb.size⟩, hc.1.below hb, ?_⟩
  have hr := hc.2.1
  refine ⟨hr.1, fun h0 => ?_⟩
  obtain ⟨g2, o2, h1, _, h2, h3⟩ := hr.2 h0
  exact ⟨g2, o2, h1, h2, fun j hj => by rw [World.cell?_of_block (hb.block g2 h2), h3 j hj]⟩
namespace Pr
theorem bfs_nil (is : Nd → Bool) : ∀ n, bfs is n [] = none
  | 0 => rfl
  | n + 1 => by simp only [bfs, List.find?_nil, List.flatMap_nil]; exact bfs_nil is n
structure Lvl (s0 : St) (k : Nat) (L : List Nd) : Prop where
  wf : ∀ d ∈ L, Wf d.s
  way : ∀ d ∈ L, d.w.length = k
  fuel : ∀ d ∈ L, fuels d.s + k = fuels s0
  eq : L = lev_ k [node0 s0]
theorem lev_snoc : ∀ (k : Nat) (L : List Nd), lev_ (k + 1) L = (lev_ k L).flatMap kids_
  | 0, L => rfl
  | k + 1, L => lev_snoc k (L.flatMap kids_)
theorem Lvl.start {s : St} (hw : Wf s) : Lvl s 0 [node0 s] :=
  ⟨fun d hd => by rw [List.mem_singleton.1 hd]; exact hw, fun d hd => by rw [List.mem_singleton.1 hd]; rfl, fun d hd => by rw [List.mem_singleton.1 hd]; rfl, rfl⟩
theorem Lvl.next {s : St} {k : Nat} {L : List Nd} (h : Lvl s k L) : Lvl s (k + 1) (L.flatMap kids_) := by
  refine ⟨fun c hc => ?_, fun c hc => ?_, fun c hc => ?_, ?_⟩
  · obtain ⟨d, hd, hc⟩ := List.mem_flatMap.1 hc
    exact (kid_wf (h.wf d hd) hc).1
  · obtain ⟨d, hd, hc⟩ := List.mem_flatMap.1 hc
    obtain ⟨t, _, rfl⟩ := List.mem_map.1 hc
    simp [kidN, h.way d hd]
  · obtain ⟨d, hd, hc⟩ := List.mem_flatMap.1 hc
    have h1 := (kid_wf (h.wf d hd) hc).2
    have h2 := h.fuel d hd
    omega
  · rw [lev_snoc, h.eq]
theorem Lvl.small {s : St} {k : Nat} {L : List Nd} (h : Lvl s k L) (hf : fuels s ≤ 32) : L.length ≤ cnt 32 s := by
  by_cases hk : k ≤ 32
  · rw [h.eq]
    have := lev_len k 32 [node0 s] hk
    simpa [node0] using this
  · cases L with
    | nil => exact Nat.zero_le _
    | cons d L => have := h.fuel d (List.mem_cons_self ..); omega
end Pr
end Go.Proofs.YtckdofjpoajblaaGreat
namespace Go.Proofs.YtckdofjpoajblaaGreat
open Go.RowKit
set_option linter.unusedVariables false
theorem refWithin_any (w : World) (a lo hi : Int) : Calls Tryz.prog 104 #[.int .i64 a, .int .i64 lo, .int .i64 hi] w fun x w' => x = .returned (.bool (decide (lo ≤ a ∧ a ≤ hi))) ∧ w = w' := by
  by_cases h1 : lo ≤ a
  · by_cases h2 : a ≤ hi
    · go_enter Tryz.func104, Tryz.ntmps104
      go_wp2_with fail
      go_ret
      exact ⟨by rw [decide_eq_true ⟨h1, h2⟩]; rfl, rfl⟩
    · go_enter Tryz.func104, Tryz.ntmps104
      go_wp2_with fail
      go_ret
      exact ⟨by rw [decide_eq_false (show ¬ a ≤ hi by omega)]; rfl, rfl⟩
  · go_enter Tryz.func104, Tryz.ntmps104
    go_wp2_with fail
    go_ret
    exact ⟨by rw [decide_eq_false (show ¬ lo ≤ a by omega)]; rfl, rfl⟩
theorem insOk_ref {vars mtx n k r x m most : Int} (hmost : most = (if k = 1 ∨ k = 2 then vars - 1 else if k = 5 ∨ k = 6 then mtx - 1 else if k = 7 then n else 0)) :
    Pr.InsOk vars mtx n ⟨k, r, x, m⟩ ↔ (1 ≤ k ∧ k ≤ 8) ∧ (0 ≤ x ∧ x ≤ most) ∧ (0 ≤ r ∧ r ≤ 1) ∧ ((k = 5 ∨ k = 6) → r = 0) ∧ ((k = 3 ∨ k = 4) → -128 ≤ m ∧ m ≤ 127) ∧ (¬ (k = 3 ∨ k = 4) → m = 0) := by
  subst hmost
  unfold Pr.InsOk
  constructor
  · rintro ⟨h1, h8, h⟩
    simp only at h1 h8
    rcases (show k = 1 ∨ k = 2 ∨ k = 3 ∨ k = 4 ∨ k = 5 ∨ k = 6 ∨ k = 7 ∨ k = 8 by omega) with rfl | rfl | rfl | rfl | rfl | rfl | rfl | rfl <;> simp at h ⊢ <;> omega
  · rintro ⟨⟨h1, h8⟩, h⟩
    rcases (show k = 1 ∨ k = 2 ∨ k = 3 ∨ k = 4 ∨ k = 5 ∨ k = 6 ∨ k = 7 ∨ k = 8 by omega) with rfl | rfl | rfl | rfl | rfl | rfl | rfl | rfl <;> simp at h ⊢ <;> omega
set_option maxRecDepth 100000 in
set_option maxHeartbeats 4000000 in
theorem refInstr_any (w : World) (p : Pg) (A : Option Addr) (cap : Nat) (n : Int) (i : Ins) (hv : 0 ≤ p.vars ∧ p.vars ≤ 4) (hm : 0 ≤ p.mtx ∧ p.mtx ≤ 2) (hn : 0 ≤ n ∧ n ≤ 8) :
    Calls Tryz.prog 105 #[valP p A cap, .int .i64 n, valI i] w fun x w' => x = .returned (.bool (decide (Pr.InsOk p.vars p.mtx n i))) ∧ Below w.heap.size w w' := by
  obtain ⟨pv, pm, L⟩ := p
  simp only at hv hm
  unfold valP
  simp only
  obtain ⟨Wa, X, hWa, hX, hBa, hXl, hXe⟩ := pg_box w pv pm A L.length cap
  obtain ⟨W, Z, hW, hZ, hB, hZl, hZe⟩ := ins_box Wa i
  obtain ⟨⟨z0, z1, z2, z3⟩, zl⟩ := hZe W (Below.refl _ _)
  obtain ⟨x0, x1, x2, xl⟩ := hXe W hB
  have hZ' : Z = w.heap.size + 1 := by rw [hZ, hWa]; simp
  simp only [Nat.zero_add] at z1 z2 z3
  unfold valI
  have HB := Lib.hid (below_at hBa hB)
  obtain ⟨k, r, x, m⟩ := i
  obtain ⟨b0, hb0⟩ : ∃ b, b = decide (Pr.InsOk pv pm n ⟨k, r, x, m⟩) := ⟨_, rfl⟩
  rw [← hb0]
  have HB0 := Lib.hid hb0
  simp only at hW z0 z1 z2 z3
  clear hB hBa hZe hXe x2 hZ hb0
  go_enter Tryz.func105, Tryz.ntmps105
  go_upto_region 2 with fail
  rw [← hZ', ← hWa, ← hW, ← hX]
  clear hZ' hWa hW hX
  go_upto_block 0 with fail
  go_cut [7] (fun a w2 => w2 = W ∧ ∃ most : Int, a = .int .i64 most ∧ most = (if k = 1 ∨ k = 2 then pv - 1 else if k = 5 ∨ k = 6 then pm - 1 else if k = 7 then n else 0))
  case first =>
    have e1 : IntKind.i64.wrap (pv - 1) = pv - 1 := IntWalk.i64_in _ (by omega)
    have e2 : IntKind.i64.wrap (pm - 1) = pm - 1 := IntWalk.i64_in _ (by omega)
    rcases (show k = 1 ∨ k = 2 ∨ k = 5 ∨ k = 6 ∨ k = 7 ∨ (k ≠ 1 ∧ k ≠ 2 ∧ k ≠ 5 ∧ k ≠ 6 ∧ k ≠ 7) from by omega) with rfl | rfl | rfl | rfl | rfl | ⟨h1, h2, h5, h6, h7⟩
    · go_wp2_with fail
      go_meet
      exact ⟨rfl, pv - 1, by first | rfl | go_num, by simp⟩
    · go_wp2_with fail
      go_meet
      exact ⟨rfl, pv - 1, by first | rfl | go_num, by simp⟩
    · go_wp2_with fail
      go_meet
      exact ⟨rfl, pm - 1, by first | rfl | go_num, by simp⟩
    · go_wp2_with fail
      go_meet
      exact ⟨rfl, pm - 1, by first | rfl | go_num, by simp⟩
    · go_wp2_with fail
      go_meet
      exact ⟨rfl, n, by first | rfl | go_num, by simp⟩
    · go_wp2_with fail
      go_meet
      exact ⟨rfl, 0, rfl, by simp [h1, h2, h5, h6, h7]⟩
  case rest =>
    obtain ⟨hwc, most, rfl, hmost⟩ := hcut
    subst hwc
    have HI := Lib.hid (insOk_ref (r := r) (x := x) (m := m) hmost)
    clear hmost x0 x1 xl
    go_wp2_with fail
    refine (refWithin_any _ k 1 8).mono ?_
    rintro y w1 ⟨rfl, rfl⟩
    by_cases hk : 1 ≤ k ∧ k ≤ 8
    · rw [decide_eq_true hk]
      go_wp2_with fail
      refine (refWithin_any _ x 0 most).mono ?_
      rintro y w1 ⟨rfl, rfl⟩
      by_cases hx : 0 ≤ x ∧ x ≤ most
      · rw [decide_eq_true hx]
        go_wp2_with fail
        refine (refWithin_any _ r 0 1).mono ?_
        rintro y w1 ⟨rfl, rfl⟩
        by_cases hr : 0 ≤ r ∧ r ≤ 1
        · rw [decide_eq_true hr]
          have HKX := Lib.hid (And.intro hk (And.intro hx hr))
          rcases (show k = 1 ∨ k = 2 ∨ k = 3 ∨ k = 4 ∨ k = 5 ∨ k = 6 ∨ k = 7 ∨ k = 8 by omega) with rfl | rfl | rfl | rfl | rfl | rfl | rfl | rfl
          · by_cases h0 : m = 0
            · subst h0
              have HBT := Lib.hid (show b0 = true from by rw [HB0.out]; exact decide_eq_true (HI.out.2 ⟨HKX.out.1, HKX.out.2.1, HKX.out.2.2, fun h => by omega, fun h => by omega, fun h => by omega⟩))
              go_wp2_with fail
              go_ret
              exact ⟨by rw [HBT.out]; rfl, HB.out⟩
            · have e0 : (m == 0) = false := by simpa using h0
              have HBT := Lib.hid (show b0 = false from by rw [HB0.out]; exact decide_eq_false (fun h => by have := (HI.out.1 h).2.2.2.2.2 (by omega); omega))
              go_wp2_with fail
              go_ret
              exact ⟨by rw [HBT.out]; rfl, HB.out⟩
          · by_cases h0 : m = 0
            · subst h0
              have HBT := Lib.hid (show b0 = true from by rw [HB0.out]; exact decide_eq_true (HI.out.2 ⟨HKX.out.1, HKX.out.2.1, HKX.out.2.2, fun h => by omega, fun h => by omega, fun h => by omega⟩))
              go_wp2_with fail
              go_ret
              exact ⟨by rw [HBT.out]; rfl, HB.out⟩
            · have e0 : (m == 0) = false := by simpa using h0
              have HBT := Lib.hid (show b0 = false from by rw [HB0.out]; exact decide_eq_false (fun h => by have := (HI.out.1 h).2.2.2.2.2 (by omega); omega))
              go_wp2_with fail
              go_ret
              exact ⟨by rw [HBT.out]; rfl, HB.out⟩
          · by_cases h0 : -128 ≤ m
            · by_cases h1 : m ≤ 127
              · skip
                have HBT := Lib.hid (show b0 = true from by rw [HB0.out]; exact decide_eq_true (HI.out.2 ⟨HKX.out.1, HKX.out.2.1, HKX.out.2.2, fun h => by omega, fun h => by omega, fun h => by omega⟩))
                go_wp2_with fail
                go_ret
                exact ⟨by rw [HBT.out]; rfl, HB.out⟩
              · have e0 : decide (m ≤ 127) = false := decide_eq_false h1
                have HBT := Lib.hid (show b0 = false from by rw [HB0.out]; exact decide_eq_false (fun h => by have := (HI.out.1 h).2.2.2.2.1 (by omega); omega))
                go_wp2_with fail
                go_ret
                exact ⟨by rw [HBT.out]; rfl, HB.out⟩
            · skip
              have HBT := Lib.hid (show b0 = false from by rw [HB0.out]; exact decide_eq_false (fun h => by have := (HI.out.1 h).2.2.2.2.1 (by omega); omega))
              go_wp2_with fail
              go_ret
              exact ⟨by rw [HBT.out]; rfl, HB.out⟩
          · by_cases h0 : -128 ≤ m
            · by_cases h1 : m ≤ 127
              · skip
                have HBT := Lib.hid (show b0 = true from by rw [HB0.out]; exact decide_eq_true (HI.out.2 ⟨HKX.out.1, HKX.out.2.1, HKX.out.2.2, fun h => by omega, fun h => by omega, fun h => by omega⟩))
                go_wp2_with fail
                go_ret
                exact ⟨by rw [HBT.out]; rfl, HB.out⟩
              · have e0 : decide (m ≤ 127) = false := decide_eq_false h1
                have HBT := Lib.hid (show b0 = false from by rw [HB0.out]; exact decide_eq_false (fun h => by have := (HI.out.1 h).2.2.2.2.1 (by omega); omega))
                go_wp2_with fail
                go_ret
                exact ⟨by rw [HBT.out]; rfl, HB.out⟩
            · skip
              have HBT := Lib.hid (show b0 = false from by rw [HB0.out]; exact decide_eq_false (fun h => by have := (HI.out.1 h).2.2.2.2.1 (by omega); omega))
              go_wp2_with fail
              go_ret
              exact ⟨by rw [HBT.out]; rfl, HB.out⟩
          · by_cases hr0 : r = 0
            · subst hr0
              by_cases h0 : m = 0
              · subst h0
                have HBT := Lib.hid (show b0 = true from by rw [HB0.out]; exact decide_eq_true (HI.out.2 ⟨HKX.out.1, HKX.out.2.1, HKX.out.2.2, fun h => by omega, fun h => by omega, fun h => by omega⟩))
                go_wp2_with fail
                go_ret
                exact ⟨by rw [HBT.out]; rfl, HB.out⟩
              · have e0 : (m == 0) = false := by simpa using h0
                have HBT := Lib.hid (show b0 = false from by rw [HB0.out]; exact decide_eq_false (fun h => by have := (HI.out.1 h).2.2.2.2.2 (by omega); omega))
                go_wp2_with fail
                go_ret
                exact ⟨by rw [HBT.out]; rfl, HB.out⟩
            · have e1 : (r == 0) = false := by simpa using hr0
              have e2 : (r != 0) = true := by simpa using hr0
              have HBT := Lib.hid (show b0 = false from by rw [HB0.out]; exact decide_eq_false (fun h => by have := (HI.out.1 h).2.2.2.1 (by omega); omega))
              go_wp2_with fail
              go_ret
              exact ⟨by rw [HBT.out]; rfl, HB.out⟩
          · by_cases hr0 : r = 0
            · subst hr0
              by_cases h0 : m = 0
              · subst h0
                have HBT := Lib.hid (show b0 = true from by rw [HB0.out]; exact decide_eq_true (HI.out.2 ⟨HKX.out.1, HKX.out.2.1, HKX.out.2.2, fun h => by omega, fun h => by omega, fun h => by omega⟩))
                go_wp2_with fail
                go_ret
                exact ⟨by rw [HBT.out]; rfl, HB.out⟩
              · have e0 : (m == 0) = false := by simpa using h0
                have HBT := Lib.hid (show b0 = false from by rw [HB0.out]; exact decide_eq_false (fun h => by have := (HI.out.1 h).2.2.2.2.2 (by omega); omega))
                go_wp2_with fail
                go_ret
                exact ⟨by rw [HBT.out]; rfl, HB.out⟩
            · have e1 : (r == 0) = false := by simpa using hr0
              have e2 : (r != 0) = true := by simpa using hr0
              have HBT := Lib.hid (show b0 = false from by rw [HB0.out]; exact decide_eq_false (fun h => by have := (HI.out.1 h).2.2.2.1 (by omega); omega))
              go_wp2_with fail
              go_ret
              exact ⟨by rw [HBT.out]; rfl, HB.out⟩
          · by_cases h0 : m = 0
            · subst h0
              have HBT := Lib.hid (show b0 = true from by rw [HB0.out]; exact decide_eq_true (HI.out.2 ⟨HKX.out.1, HKX.out.2.1, HKX.out.2.2, fun h => by omega, fun h => by omega, fun h => by omega⟩))
              go_wp2_with fail
              go_ret
              exact ⟨by rw [HBT.out]; rfl, HB.out⟩
            · have e0 : (m == 0) = false := by simpa using h0
              have HBT := Lib.hid (show b0 = false from by rw [HB0.out]; exact decide_eq_false (fun h => by have := (HI.out.1 h).2.2.2.2.2 (by omega); omega))
              go_wp2_with fail
              go_ret
              exact ⟨by rw [HBT.out]; rfl, HB.out⟩
          · by_cases h0 : m = 0
            · subst h0
              have HBT := Lib.hid (show b0 = true from by rw [HB0.out]; exact decide_eq_true (HI.out.2 ⟨HKX.out.1, HKX.out.2.1, HKX.out.2.2, fun h => by omega, fun h => by omega, fun h => by omega⟩))
              go_wp2_with fail
              go_ret
              exact ⟨by rw [HBT.out]; rfl, HB.out⟩
            · have e0 : (m == 0) = false := by simpa using h0
              have HBT := Lib.hid (show b0 = false from by rw [HB0.out]; exact decide_eq_false (fun h => by have := (HI.out.1 h).2.2.2.2.2 (by omega); omega))
              go_wp2_with fail
              go_ret
              exact ⟨by rw [HBT.out]; rfl, HB.out⟩
        · rw [decide_eq_false hr]
          have HR := Lib.hid hr
          clear hr
          go_wp2_with fail
          go_ret
          exact ⟨by rw [HB0.out, decide_eq_false (fun h => HR.out (HI.out.1 h).2.2.1)]; rfl, HB.out⟩
      · rw [decide_eq_false hx]
        have HX := Lib.hid hx
        clear hx
        go_wp2_with fail
        go_ret
        exact ⟨by rw [HB0.out, decide_eq_false (fun h => HX.out (HI.out.1 h).2.1)]; rfl, HB.out⟩
    · rw [decide_eq_false hk]
      have HK := Lib.hid hk
      clear hk
      go_wp2_with fail
      go_ret
      exact ⟨by rw [HB0.out, decide_eq_false (fun h => HK.out (HI.out.1 h).1)]; rfl, HB.out⟩
end Go.Proofs.YtckdofjpoajblaaGreat
namespace Go.Proofs.YtckdofjpoajblaaGreat
open Go.RowKit
set_option linter.unusedVariables false
theorem ins_takeR {vars mtx n : Int} {q : List Ins} {k : Nat} {i : Ins} (hi : q[k]? = some i) (h : ∀ x ∈ q.take k, Pr.InsOk vars mtx n x) (hok : Pr.InsOk vars mtx n i) : ∀ x ∈ q.take (k + 1), Pr.InsOk vars mtx n x := fun x hx => by
  rw [List.take_add_one, hi] at hx
  rcases List.mem_append.1 hx with h1 | h1
  · exact h x h1
  · simp at h1; subst h1; exact hok
set_option maxRecDepth 100000 in
set_option maxHeartbeats 4000000 in
theorem refPRight_any (w : World) (p : Pg) (A : Option Addr) (cap : Nat) (hin : PgIn w p A) :
    Calls Tryz.prog 65 #[valP p A cap] w fun x w' => x = .returned (.bool (decide (Pr.Ok p))) ∧ Below w.heap.size w w' := by
  obtain ⟨hcd, hl, hq⟩ := hin
  obtain ⟨v, m, L⟩ := p
  unfold valP
  simp only at hcd hl hq ⊢
  have hll : L.length < 9223372036854775808 := by unfold maxLen at hl; omega
  obtain ⟨W, X, hW, hX, hB, hXl, hXe⟩ := pg_box w v m A L.length cap
  have HX := Lib.hid hXe
  obtain ⟨x0, x1, x2, xl⟩ := hXe W (Below.refl _ _)
  have HB := Lib.hid hB
  have HCD := Lib.hid hcd
  have HLQ := Lib.hid hq
  obtain ⟨b1, hb1⟩ : ∃ b, b = decide (0 ≤ v ∧ v ≤ 4) := ⟨_, rfl⟩
  obtain ⟨b2, hb2⟩ : ∃ b, b = decide (0 ≤ m ∧ m ≤ 2) := ⟨_, rfl⟩
  obtain ⟨b3, hb3⟩ : ∃ b, b = decide (1 ≤ (L.length : Int) ∧ (L.length : Int) ≤ 4) := ⟨_, rfl⟩
  have hc1 : ∀ u, Calls Tryz.prog 104 #[.int .i64 v, .int .i64 0, .int .i64 4] u fun x w' => x = .returned (.bool b1) ∧ u = w' := fun u => by rw [hb1]; exact refWithin_any u v 0 4
  have hc2 : ∀ u, Calls Tryz.prog 104 #[.int .i64 m, .int .i64 0, .int .i64 2] u fun x w' => x = .returned (.bool b2) ∧ u = w' := fun u => by rw [hb2]; exact refWithin_any u m 0 2
  have hc3 : ∀ u, Calls Tryz.prog 104 #[.int .i64 (L.length : Int), .int .i64 1, .int .i64 4] u fun x w' => x = .returned (.bool b3) ∧ u = w' := fun u => by rw [hb3]; exact refWithin_any u (L.length : Int) 1 4
  have HC1 := Lib.hid hc1
  have HC2 := Lib.hid hc2
  have HC3 := Lib.hid hc3
  have HB1 := Lib.hid hb1
  have HB2 := Lib.hid hb2
  have HB3 := Lib.hid hb3
  clear hc1 hc2 hc3 hb1 hb2 hb3 hB hXe hcd hq hl
  go_enter Tryz.func65, Tryz.ntmps65
  go_upto_region 1 with fail
  rw [← hW, ← hX]
  clear hW hX
  go_wp2_with fail
  refine (HC1.out _).mono ?_
  rintro x w1 ⟨rfl, rfl⟩
  cases b1 with
  | false =>
    go_wp2_with fail
    go_ret
    exact ⟨by rw [decide_eq_false (fun h => of_decide_eq_false HB1.out.symm ⟨h.1.1, h.1.2.1⟩)]; rfl, HB.out⟩
  | true =>
    have q1 := of_decide_eq_true HB1.out.symm
    go_wp2_with fail
    refine (HC2.out _).mono ?_
    rintro x w1 ⟨rfl, rfl⟩
    cases b2 with
    | false =>
      go_wp2_with fail
      go_ret
      exact ⟨by rw [decide_eq_false (fun h => of_decide_eq_false HB2.out.symm ⟨h.1.2.2.1, h.1.2.2.2.1⟩)]; rfl, HB.out⟩
    | true =>
      have q2 := of_decide_eq_true HB2.out.symm
      go_wp2_with fail
      refine (HC3.out _).mono ?_
      rintro x w1 ⟨rfl, rfl⟩
      cases b3 with
      | false =>
        go_wp2_with fail
        go_ret
        exact ⟨by rw [decide_eq_false (fun h => of_decide_eq_false HB3.out.symm (by have h1 := h.1.2.2.2.2.1; have h2 := h.1.2.2.2.2.2; simp only at h1 h2; omega))]; rfl, HB.out⟩
      | true =>
        have q3 := of_decide_eq_true HB3.out.symm
        have hhd : Pr.HeadOk ⟨v, m, L⟩ := ⟨q1.1, q1.2, q2.1, q2.2, by simp only; omega, by simp only; omega⟩
        have HHD := Lib.hid hhd
        have hinstr : ∀ (u : World) (n : Nat) (i : Ins), n ≤ 8 → Calls Tryz.prog 105 #[.agg #[.int .i64 v, .int .i64 m, .slice A L.length cap], .int .i64 (n : Int), valI i] u fun x w' => x = .returned (.bool (decide (Pr.InsOk v m n i))) ∧ Below u.heap.size u w' := fun u n i hn => refInstr_any u ⟨v, m, L⟩ A cap n i q1 q2 (by omega)
        have HINSTR := Lib.hid hinstr
        clear hhd hinstr
        go_wp2_with fail
        go_loopw [3] (fun x wr => ∃ k : Nat, k ≤ L.length ∧ x = .int .i64 k ∧ Hid (∀ c ∈ L.take k, Pr.CodeOk v m c) ∧ Hid (Below W.heap.size W wr)) (fun x _ => L.length - (intOf x).toNat)
        case atStart => exact ⟨0, Nat.zero_le _, rfl, Lib.hid (fun c h => by simp at h), Lib.hid (Below.refl _ _)⟩
        case round =>
          clear x0 x1 x2 xl
          obtain ⟨k, hk, rfl, HOK, HW⟩ := hrel
          generalize wr = V at *
          obtain ⟨x0, x1, x2, xl⟩ := HX.out V HW.out
          by_cases hlt : k < L.length
          · obtain ⟨q, hq⟩ := get_some hlt
            obtain ⟨g, o, A', c', rfl, hg, hlg, hrq, hqc, hcm, hcell⟩ := HCD.out.get k q hq
            have ca := hcell V (((below_at HB.out HW.out).block g hlg))
            have lg : g < V.heap.size := by have := (below_at HB.out HW.out).size; omega
            have hqm := HLQ.out q (List.mem_of_getElem? hq)
            have hql : q.length < 9223372036854775808 := by unfold maxLen at hqm; omega
            have k1 : (0 : Int) ≤ (k : Int) := Int.natCast_nonneg _
            have k2 : (k : Int) < (L.length : Int) := by omega
            have HRQ := Lib.hid (ins_cell (hrq.below (below_at HB.out HW.out)).rd.toB)
            have HQ := Lib.hid hq
            clear hq hcell hrq hqm
            by_cases h8 : q.length ≤ 8
            · have h8' : ¬ (8 : Int) < (q.length : Int) := by omega
              have hd : decide (8 < q.length) = false := by simp; omega
              go_wp2_with fail
              go_loopw [5] (fun x wr => ∃ j : Nat, j ≤ q.length ∧ x = .int .i64 j ∧ Hid (∀ i ∈ q.take j, Pr.InsOk v m q.length i) ∧ Hid (Below V.heap.size V wr)) (fun x _ => q.length - (intOf x).toNat)
              case atStart => exact ⟨0, Nat.zero_le _, rfl, Lib.hid (fun c h => by simp at h), Lib.hid (Below.refl _ _)⟩
              case round =>
                clear x0 x1 x2 xl
                obtain ⟨j, hj, rfl, HIN, HV⟩ := hrel
                by_cases hltj : j < q.length
                · obtain ⟨i, hi⟩ := get_some hltj
                  obtain ⟨g2, o2, rfl, hg2, hc2⟩ := HRQ.out j hltj
                  have hqi : q[j] = i := (List.getElem?_eq_some_iff.1 hi).2
                  rw [hqi] at hc2
                  have k3 : (0 : Int) ≤ (j : Int) := Int.natCast_nonneg _
                  have k4 : (j : Int) < (q.length : Int) := by omega
                  have HC2' := Lib.hid hc2
                  have HGL := Lib.hid hg2
                  have HI := Lib.hid hi
                  have hcall := fun u => HINSTR.out u q.length i h8
                  obtain ⟨b, hb⟩ : ∃ b, b = decide (Pr.InsOk v m q.length i) := ⟨_, rfl⟩
                  rw [← hb] at hcall
                  obtain ⟨ik, ir, ix, im⟩ := i
                  simp only [valI] at hcall
                  have HCALL := Lib.hid hcall
                  have HBB := Lib.hid hb
                  clear hc2 hg2 hi hcall hb hqi
                  go_upto_region 12 with fail
                  refine wp_region_planF (by kernel_rfl) (fun u => Below V.heap.size V u) [7] [(0, .load), (1, .pure), (2, .pure), (3, .pure), (4, .pure), (5, .pure), (6, .load), (7, .last), (8, .pure)] (by simp only [List.map_cons, List.map_nil, List.getElem?_toArray, List.getElem?_cons_succ, List.getElem?_cons_zero]; rfl) (by kernel_rfl) (fun _ _ d _ _ h => by cases d <;> exact h) (HV.out.drew) ?_
                  obtain ⟨Wd, hWd⟩ : ∃ z, z = wr.drew := ⟨_, rfl⟩
                  rw [← hWd]
                  have hbd : Below V.heap.size V Wd := by rw [hWd]; exact HV.out.drew
                  have HBD := Lib.hid hbd
                  clear hWd hbd
                  repeat (first
                    | (refine plan_pure (v := ?_) (by rfl) (fun w1 => ?_) ?_
                       rotate_left
                       · go_simp <;> with_reducible rfl
                       simp only [Act.put, List.setIfInBounds_toArray, List.set_cons_zero, List.set_cons_succ])
                    | (refine plan_off (by rfl) ?_
                       simp only [Act.put, List.setIfInBounds_toArray, List.set_cons_zero, List.set_cons_succ])
                    | (refine plan_load_off (by rfl) ?_
                       simp only [Act.put, List.setIfInBounds_toArray, List.set_cons_zero, List.set_cons_succ])
                    | (refine plan_load (v := ?_) (by rfl) (fun w1 hw1 => ?_) ?_
                       rotate_left
                       · (obtain ⟨x0, x1, x2, xl⟩ := HX.out w1 (below_at HW.out hw1)
                          have q0 := HC2'.out w1 hw1
                          have a0 := q0.1
                          have a1 := q0.2.1
                          have a2 := q0.2.2.1
                          have a3 := q0.2.2.2
                          clear q0
                          have ql : g2 < w1.heap.size := by have := hw1.size; have := HGL.out; omega
                          clear hw1
                          go_simp <;> with_reducible rfl)
                       simp only [Act.put, List.setIfInBounds_toArray, List.set_cons_zero, List.set_cons_succ]))
                  refine plan_last ?_
                  go_wp2_with fail
                  refine (HCALL.out Wd).mono ?_
                  rintro y w9 ⟨rfl, b9⟩
                  have HV9 := Lib.hid (below_at HBD.out b9)
                  clear b9
                  go_wp2_with fail
                  repeat (first
                    | (refine plan_pure (v := ?_) (by rfl) (fun w1 => ?_) ?_
                       rotate_left
                       · go_simp <;> with_reducible rfl
                       simp only [Act.put, List.setIfInBounds_toArray, List.set_cons_zero, List.set_cons_succ])
                    | (refine plan_off (by rfl) ?_
                       simp only [Act.put, List.setIfInBounds_toArray, List.set_cons_zero, List.set_cons_succ])
                    | (refine plan_load_off (by rfl) ?_
                       simp only [Act.put, List.setIfInBounds_toArray, List.set_cons_zero, List.set_cons_succ])
                    | (refine plan_load (v := ?_) (by rfl) (fun w1 hw1 => ?_) ?_
                       rotate_left
                       · (skip
                          clear hw1
                          go_simp <;> with_reducible rfl)
                       simp only [Act.put, List.setIfInBounds_toArray, List.set_cons_zero, List.set_cons_succ]))
                  refine plan_end ?_
                  cases b with
                  | true =>
                    go_wp2_with fail
                    go_roundw
                    case rel => exact ⟨j + 1, by omega, by go_num, Lib.hid (ins_takeR HI.out HIN.out (of_decide_eq_true HBB.out.symm)), HV9⟩
                    case measure => simp [intOf]; omega
                  | false =>
                    go_wp2_with fail
                    go_ret
                    exact ⟨by rw [decide_eq_false (fun h => of_decide_eq_false HBB.out.symm ((h.2 q (List.mem_of_getElem? HQ.out)).2 _ (List.mem_of_getElem? HI.out)))]; rfl, below_at HB.out (below_at HW.out HV9.out)⟩
                · have hjn : j = q.length := by omega
                  have hin := HIN.out
                  rw [hjn, List.take_length] at hin
                  have HIN2 := Lib.hid hin
                  have HV2 := Lib.hid (below_at HW.out HV.out)
                  clear hin hjn
                  go_wp2_with fail
                  go_roundw
                  case rel => exact ⟨k + 1, by omega, by go_num, Lib.hid (code_take HQ.out HOK.out ⟨h8, HIN2.out⟩), HV2⟩
                  case measure => simp [intOf]; omega
            · have h8' : (8 : Int) < (q.length : Int) := by omega
              have hd : decide (8 < q.length) = true := by simp; omega
              go_wp2_with fail
              go_ret
              exact ⟨by rw [decide_eq_false (fun h => h8 (h.2 q (List.mem_of_getElem? HQ.out)).1)]; rfl, below_at HB.out HW.out⟩
          · have hkn : k = L.length := by omega
            have hok := HOK.out
            rw [hkn, List.take_length] at hok
            have HOK := Lib.hid hok
            clear hok
            go_wp2_with fail
            go_ret
            exact ⟨by rw [decide_eq_true (show Pr.Ok ⟨v, m, L⟩ from ⟨HHD.out, HOK.out⟩)]; rfl, below_at HB.out HW.out⟩
end Go.Proofs.YtckdofjpoajblaaGreat
namespace Go.Proofs.YtckdofjpoajblaaGreat
open Go.RowKit
set_option linter.unusedVariables false
def rfCells (s : St) (PA : Option Addr) (pc T o tc : Nat) : Array Value :=
  #[.int .i64 s.p.vars, .int .i64 s.p.mtx, .slice PA s.p.code.length pc, .slice (some ⟨T, o, none⟩) s.th.length tc, .int .i64 (s.v 0), .int .i64 (s.v 1), .int .i64 (s.v 2), .int .i64 (s.v 3), .int .i64 (s.h 0), .int .i64 (s.h 1)]
def RAt (w : World) (C : Nat → Prop) (S T o : Nat) (s : St) : Prop :=
  ∃ PA pc tc, w.heap[S]? = some (.cells (rfCells s PA pc T o tc) 156 (0, 0)) ∧ Row w 162 4 (some ⟨T, o, none⟩) s.th.length tc (s.th.flatMap encT) ∧ CdAt w C PA s.p.code ∧ ¬ C S ∧ ¬ C T ∧ S ≠ T ∧ s.th.length = s.p.code.length
theorem RAt.lt {w : World} {C : Nat → Prop} {S T o : Nat} {s : St} (h : RAt w C S T o s) : S < w.heap.size ∧ T < w.heap.size := by
  obtain ⟨PA, pc, tc, h1, h2, _⟩ := h
  exact ⟨blk_lt h1, h2.lt⟩
theorem RAt.len {w : World} {C : Nat → Prop} {S T o : Nat} {s : St} (h : RAt w C S T o s) : s.th.length = s.p.code.length := by
  obtain ⟨PA, pc, tc, _, _, _, _, _, _, h⟩ := h
  exact h
theorem RAt.mod {w w' : World} {F C : Nat → Prop} {S T o : Nat} {s : St} (h : RAt w C S T o s) (hm : Mod F w w') (hC : ∀ k, C k → ¬ F k) (hS : ¬ F S) (hT : ¬ F T) : RAt w' C S T o s := by
  obtain ⟨PA, pc, tc, h1, h2, h3, h4⟩ := h
  exact ⟨PA, pc, tc, (hm.block S (blk_lt h1) hS).trans h1, h2.mod hm (fun a ha => by injection ha with ha; subst ha; exact hT), h3.mod hm hC, h4⟩
theorem RAt.below {w w' : World} {C : Nat → Prop} {S T o : Nat} {s : St} (h : RAt w C S T o s) (hb : Below w.heap.size w w') : RAt w' C S T o s := h.mod (F := fun _ => False) (Mod.of_below_size hb _) (fun _ _ h => h) (fun h => h) (fun h => h)
theorem RAt.cells {w : World} {C : Nat → Prop} {S T o : Nat} {s : St} (h : RAt w C S T o s) : ∃ PA pc tc, w.cell? ⟨S, 0, none⟩ = some (.int .i64 s.p.vars) ∧ w.cell? ⟨S, 1, none⟩ = some (.int .i64 s.p.mtx) ∧ w.cell? ⟨S, 2, none⟩ = some (.slice PA s.p.code.length pc) ∧ w.cell? ⟨S, 3, none⟩ = some (.slice (some ⟨T, o, none⟩) s.th.length tc) ∧
    (∀ x, x < 4 → w.cell? ⟨S, 4 + x, none⟩ = some (.int .i64 (s.v x))) ∧ (∀ x, x < 2 → w.cell? ⟨S, 8 + x, none⟩ = some (.int .i64 (s.h x))) ∧ CdAt w C PA s.p.code := by
  obtain ⟨PA, pc, tc, h1, h2, h3, h4⟩ := h
  refine ⟨PA, pc, tc, by rw [cell_blk h1]; rfl, by rw [cell_blk h1]; rfl, by rw [cell_blk h1]; rfl, by rw [cell_blk h1]; rfl, fun x hx => ?_, fun x hx => ?_, h3⟩
  · rw [cell_blk h1]
    rcases (show x = 0 ∨ x = 1 ∨ x = 2 ∨ x = 3 by omega) with rfl | rfl | rfl | rfl <;> rfl
  · rw [cell_blk h1]
    rcases (show x = 0 ∨ x = 1 by omega) with rfl | rfl <;> rfl
theorem RAt.thread {w : World} {C : Nat → Prop} {S T o : Nat} {s : St} (h : RAt w C S T o s) : ∀ (t : Nat) (x : Th), s.th[t]? = some x → w.cell? ⟨T, o + t * 4, none⟩ = some (.int .i64 (x.pc : Nat)) ∧ w.cell? ⟨T, o + t * 4 + 1, none⟩ = some (.int .i64 (x.fuel : Nat)) ∧ (∀ r, r < 2 → w.cell? ⟨T, o + t * 4 + 2 + r, none⟩ = some (.int .i64 (x.r r))) := fun t x hx => by
  obtain ⟨PA, pc, tc, h1, h2, h3⟩ := h
  obtain ⟨ht, rfl⟩ := List.getElem?_eq_some_iff.1 hx
  have hcl : ∀ r, r < 4 → w.cell? ⟨T, o + t * 4 + r, none⟩ = (encT s.th[t])[r]? := fun r hr => by
    have := h2.cell (t * 4 + r) (by omega)
    rw [← Nat.add_assoc] at this
    rw [this, flat_get (f := encT) (sz := 4) encT_len s.th t r ht hr]
  refine ⟨hcl 0 (by omega), hcl 1 (by omega), fun r hr => ?_⟩
  rw [Nat.add_assoc, hcl (2 + r) (by omega)]
  rcases (show r = 0 ∨ r = 1 by omega) with rfl | rfl <;> rfl
theorem RAt.free {w : World} {C : Nat → Prop} {S T o : Nat} {s : St} (h : RAt w C S T o s) : (∀ k, w.frozen? ⟨S, k, none⟩ = false) ∧ (∀ k, w.frozen? ⟨T, k, none⟩ = false) := by
  obtain ⟨PA, pc, tc, h1, h2, h3⟩ := h
  exact ⟨fun k => free_blk h1 k, fun k => h2.free k⟩
theorem RAt.set_th {w : World} {C : Nat → Prop} {S T o : Nat} {s : St} (h : RAt w C S T o s) {t : Nat} {x y : Th} (hx : s.th[t]? = some x) (r : Nat) (hr : r < 4) (v : Value) (hy : encT y = (encT x).set r v) :
    RAt (w.setCell ⟨T, o + t * 4 + r, none⟩ v) C S T o { s with th := s.th.set t y } ∧ Mod (fun k => k = T) w (w.setCell ⟨T, o + t * 4 + r, none⟩ v) := by
  have hm : Mod (fun k => k = T) w (w.setCell ⟨T, o + t * 4 + r, none⟩ v) := (Mod.refl (fun k => k = T) w).setCell (p := ⟨T, o + t * 4 + r, none⟩) (fun _ => rfl) v
  obtain ⟨PA, pc, tc, h1, h2, h3, h4, h5, h6, h7⟩ := h
  have ht := (List.getElem?_eq_some_iff.1 hx).1
  refine ⟨⟨PA, pc, tc, ?_, ?_, h3.mod hm (fun k hk e => h5 (e ▸ hk)), h4, h5, h6, by simp [h7]⟩, hm⟩
  · rw [hm.block S (blk_lt h1) h6, h1]
    simp [rfCells]
  · have := h2.set (t * 4 + r) (by omega) v
    rw [← Nat.add_assoc, flat_set (f := encT) encT_len hr hy s.th t hx] at this
    simpa using this
theorem RAt.set_v {w : World} {C : Nat → Prop} {S T o : Nat} {s : St} (h : RAt w C S T o s) {x : Nat} (hx : x < 4) (n : Int) :
    RAt (w.setCell ⟨S, 4 + x, none⟩ (.int .i64 n)) C S T o { s with v := updI s.v x n } ∧ Mod (fun k => k = S) w (w.setCell ⟨S, 4 + x, none⟩ (.int .i64 n)) := by
  have hm : Mod (fun k => k = S) w (w.setCell ⟨S, 4 + x, none⟩ (.int .i64 n)) := (Mod.refl (fun k => k = S) w).setCell (p := ⟨S, 4 + x, none⟩) (fun _ => rfl) _
  obtain ⟨PA, pc, tc, h1, h2, h3, h4, h5, h6, h7⟩ := h
  refine ⟨⟨PA, pc, tc, ?_, h2.mod hm (fun a ha e => by injection ha with ha; subst ha; exact h6 e.symm), h3.mod hm (fun k hk e => h4 (e ▸ hk)), h4, h5, h6, h7⟩, hm⟩
  rw [set_blk h1]
  rcases (show x = 0 ∨ x = 1 ∨ x = 2 ∨ x = 3 by omega) with rfl | rfl | rfl | rfl <;> simp [rfCells, updI]
theorem RAt.set_h {w : World} {C : Nat → Prop} {S T o : Nat} {s : St} (h : RAt w C S T o s) {x : Nat} (hx : x < 2) (n : Int) :
    RAt (w.setCell ⟨S, 8 + x, none⟩ (.int .i64 n)) C S T o { s with h := updI s.h x n } ∧ Mod (fun k => k = S) w (w.setCell ⟨S, 8 + x, none⟩ (.int .i64 n)) := by
  have hm : Mod (fun k => k = S) w (w.setCell ⟨S, 8 + x, none⟩ (.int .i64 n)) := (Mod.refl (fun k => k = S) w).setCell (p := ⟨S, 8 + x, none⟩) (fun _ => rfl) _
  obtain ⟨PA, pc, tc, h1, h2, h3, h4, h5, h6, h7⟩ := h
  refine ⟨⟨PA, pc, tc, ?_, h2.mod hm (fun a ha e => by injection ha with ha; subst ha; exact h6 e.symm), h3.mod hm (fun k hk e => h4 (e ▸ hk)), h4, h5, h6, h7⟩, hm⟩
  rw [set_blk h1]
  rcases (show x = 0 ∨ x = 1 by omega) with rfl | rfl <;> simp [rfCells, updI]
end Go.Proofs.YtckdofjpoajblaaGreat
