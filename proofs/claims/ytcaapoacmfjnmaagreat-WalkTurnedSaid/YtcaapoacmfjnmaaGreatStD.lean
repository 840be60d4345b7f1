/- prog.Copy: a copy of a program, in blocks of its own. -/
import Derived.Test.YtcaapoacmfjnmaaGreatStC
import Derived.Lib.SliceRun
namespace Go.Proofs.YtcaapoacmfjnmaaGreat
open Go.RowKit
set_option linter.unusedVariables false

theorem Tryz.infoIns : (Tryz.prog.info? 78).map (fun i => (i.zero, i.size, i.bytes)) = some (some (.agg #[.int .i64 0, .int .i64 0, .int .i64 0, .int .i64 0]), 4, 32) := by kernel_rfl
theorem Tryz.infoCd : (Tryz.prog.info? 75).map (fun i => (i.zero, i.size, i.bytes)) = some (some (.slice none 0 0), 1, 24) := by kernel_rfl
/-- a clone: what is made -/
def CloneOut (w : World) (e sz : Nat) (n : Nat) (cs : List Value) (x : Ending) (w' : World) : Prop :=
  ∃ A' cap', x = .returned (.slice A' n cap') ∧ Row w' e sz A' n cap' cs ∧ (∀ a, A' = some a → w.heap.size ≤ a.block) ∧ Below w.heap.size w w'
set_option maxRecDepth 100000 in
theorem cloneI_any (w : World) (A : Option Addr) (n cap : Nat) (cs : List Value) (hr : Rd w 4 A n cs) (hn : n ≤ 1000000) :
    Calls Tryz.prog 119 #[.slice A n cap] w (fun x w' => CloneOut w 78 4 n cs x w') := by
  unfold CloneOut
  obtain ⟨i0, hi0, hz0, hz1, hz2⟩ := info_parts Tryz.infoIns
  have qn : ∀ (w : World) (a : Option Addr) (n c n' c' : Nat), (binOp .eql 75 (.slice a n c) (.slice none n' c')).run Tryz.prog w = .ok (.bool a.isNone) w := fun w a n c n' c' => Lib.run_eql_slice_nil w _ _ a n c n' c' Tryz.underlying75
  cases A with
  | none =>
    have h0 : n = 0 := by
      rcases Nat.eq_zero_or_pos n with h | h
      · exact h
      · obtain ⟨g, o, h1, _⟩ := hr.2 (by omega); cases h1
    subst h0
    have hc : cs = [] := List.eq_nil_of_length_eq_zero (by rw [hr.1])
    subst hc
    clear hr hi0 hz0 hz1 hz2
    go_enter Tryz.func119, Tryz.ntmps119
    go_wp2_with fail
    go_ret
    exact ⟨none, 0, rfl, Row.nil _ _ _, fun a h => (by cases h), Below.refl _ _⟩
  | some a =>
    have hb : Below w.heap.size w (w.alloc (Obj.cells #[] 78)) := (Below.refl _ _).alloc (Nat.le_refl _) _
    have HX := Lib.hid (hr.below hb (Nat.le_refl _))
    have HB := Lib.hid hb
    clear hr hb
    go_enter Tryz.func119, Tryz.ntmps119
    go_wp2_with (at_builtin; refine wpList_append_copy (by rfl) _ _ _ (by rfl) 78 i0 _ 4 32 Tryz.underlying75 hi0 hz0 hz1 hz2 rfl (by omega) ⟨w.heap.size, 0, none⟩ 0 [] (by rfl) (row_empty (heap_alloc_new w _)) (some a) n cap cs (by rfl) HX.out (by unfold maxLen; omega) (by omega) ?_; intro g7 o7 cap7 w2 hown hb2 hg7)
    go_ret
    rw [Nat.zero_add] at hown
    refine ⟨_, cap7, rfl, by simpa using hown, fun a h => ?_, below_at HB.out hb2⟩
    injection h with h
    subst h
    have := HB.out.size
    rcases hg7 with ⟨_, h⟩ | h
    · exact Nat.le_of_eq h.symm
    · simp at h; simp only; omega
set_option maxRecDepth 100000 in
theorem cloneC_any (w : World) (a : Addr) (n cap : Nat) (cs : List Value) (hr : Rd w 1 (some a) n cs) (hn : n ≤ 1000000) :
    Calls Tryz.prog 118 #[.slice (some a) n cap] w (fun x w' => CloneOut w 75 1 n cs x w') := by
  unfold CloneOut
  obtain ⟨i0, hi0, hz0, hz1, hz2⟩ := info_parts Tryz.infoCd
  have qn : ∀ (w : World) (a : Option Addr) (n c n' c' : Nat), (binOp .eql 22 (.slice a n c) (.slice none n' c')).run Tryz.prog w = .ok (.bool a.isNone) w := fun w a n c n' c' => Lib.run_eql_slice_nil w _ _ a n c n' c' Tryz.underlying22
  have hb : Below w.heap.size w (w.alloc (Obj.cells #[] 75)) := (Below.refl _ _).alloc (Nat.le_refl _) _
  have HX := Lib.hid (hr.below hb (Nat.le_refl _))
  have HB := Lib.hid hb
  clear hr hb
  go_enter Tryz.func118, Tryz.ntmps118
  go_wp2_with (at_builtin; refine wpList_append_copy (by rfl) _ _ _ (by rfl) 75 i0 _ 1 24 Tryz.underlying22 hi0 hz0 hz1 hz2 rfl (by omega) ⟨w.heap.size, 0, none⟩ 0 [] (by rfl) (row_empty (heap_alloc_new w _)) (some a) n cap cs (by rfl) HX.out (by unfold maxLen; omega) (by omega) ?_; intro g7 o7 cap7 w2 hown hb2 hg7)
  go_ret
  rw [Nat.zero_add] at hown
  refine ⟨_, cap7, rfl, by simpa using hown, fun a h => ?_, below_at HB.out hb2⟩
  injection h with h
  subst h
  have := HB.out.size
  rcases hg7 with ⟨_, h⟩ | h
  · exact Nat.le_of_eq h.symm
  · simp at h; simp only; omega
/-- what is stored at the end, and what stays -/
theorem pg_exit {w : World} {X : Nat} {a b c : Value} {T : TypeId} (h : w.heap[X]? = some (.cells #[a, b, c] T (0, 0))) (x y z : Value) : ∃ V, V = ((w.setCell ⟨X, 0, none⟩ x).setCell ⟨X, 1, none⟩ y).setCell ⟨X, 2, none⟩ z ∧ V.cell? ⟨X, 0, none⟩ = some x ∧ V.cell? ⟨X, 1, none⟩ = some y ∧ V.cell? ⟨X, 2, none⟩ = some z ∧ Mod (fun k => k = X) w V := by
  have h1 := set_blk h 0 x
  have h2 := set_blk h1 1 y
  have h3 := set_blk h2 2 z
  refine ⟨_, rfl, ?_, ?_, ?_, (((Mod.refl (fun k => k = X) w).setCell (p := ⟨X, 0, none⟩) (fun _ => rfl) _).setCell (p := ⟨X, 1, none⟩) (fun _ => rfl) _).setCell (p := ⟨X, 2, none⟩) (fun _ => rfl) _⟩ <;> (rw [cell_blk h3]; simp)

/-- one list more is copied -/
def CopyRow (w : World) (D C : Nat → Prop) (L : List (List Ins)) (i : Nat) (vs : List Value) : Prop :=
  vs.length = L.length ∧ ∀ (j : Nat) (q : List Ins), L[j]? = some q → ∃ A' c', vs[j]? = some (.slice A' q.length c') ∧ RdC w (if j < i then D else C) 4 A' q.length (q.flatMap encI) ∧ q.length ≤ c' ∧ c' ≤ maxLen
theorem CopyRow.mod {w w' : World} {F D C : Nat → Prop} {L : List (List Ins)} {i : Nat} {vs : List Value} (h : CopyRow w D C L i vs) (hm : Mod F w w') (hD : ∀ k, D k → ¬ F k) (hC : ∀ k, C k → ¬ F k) : CopyRow w' D C L i vs :=
  ⟨h.1, fun j q hq => by
    obtain ⟨A', c', h1, h2, h3⟩ := h.2 j q hq
    exact ⟨A', c', h1, h2.mod hm (by split <;> assumption), h3⟩⟩
theorem CopyRow.below {w w' : World} {D C : Nat → Prop} {L : List (List Ins)} {i : Nat} {vs : List Value} (h : CopyRow w D C L i vs) (hm : Below w.heap.size w w') : CopyRow w' D C L i vs :=
  ⟨h.1, fun j q hq => by
    obtain ⟨A', c', h1, h2, h3⟩ := h.2 j q hq
    exact ⟨A', c', h1, h2.below hm, h3⟩⟩
theorem CopyRow.step {w : World} {D C : Nat → Prop} {L : List (List Ins)} {i : Nat} {vs : List Value} {q : List Ins} {A' : Option Addr} {c' : Nat} (h : CopyRow w D C L i vs) (hq : L[i]? = some q) (hr : RdC w D 4 A' q.length (q.flatMap encI)) (h1 : q.length ≤ c') (h2 : c' ≤ maxLen) : CopyRow w D C L (i + 1) (vs.set i (.slice A' q.length c')) := by
  refine ⟨by rw [List.length_set]; exact h.1, fun j p hp => ?_⟩
  by_cases hj : j = i
  · subst hj
    obtain rfl : q = p := by rw [hq] at hp; injection hp
    refine ⟨A', c', ?_, by rw [if_pos (by omega)]; exact hr, h1, h2⟩
    rw [List.getElem?_set_self (by rw [h.1]; exact (List.getElem?_eq_some_iff.1 hq).1)]
  · obtain ⟨A2, c2, h3, h4, h5⟩ := h.2 j p hp
    refine ⟨A2, c2, by rw [List.getElem?_set_ne (fun e => hj e.symm)]; exact h3, ?_, h5⟩
    by_cases hlt : j < i
    · rw [if_pos hlt] at h4; rw [if_pos (by omega)]; exact h4
    · rw [if_neg hlt] at h4; rw [if_neg (by omega)]; exact h4
/-- the row of the copies, and the box -/
theorem row_toC {w : World} {C : Nat → Prop} {e sz n cap : Nat} {A : Option Addr} {cs : List Value} (h : Row w e sz A n cap cs) (hC : ∀ a, A = some a → C a.block) : RdC w C sz A n cs := by
  obtain ⟨h1, h2⟩ := h.rd
  refine ⟨h1, fun h0 => ?_⟩
  obtain ⟨g, o, hA, hg, hc⟩ := h2 h0
  exact ⟨g, o, hA, hC _ hA, hg, hc⟩
set_option maxRecDepth 100000 in
set_option maxHeartbeats 4000000 in
theorem copy_any (w : World) (p : Pg) (A : Option Addr) (cap : Nat) (hcd : CdAt w (fun k => k < w.heap.size) A p.code) (hl1 : 1 ≤ p.code.length) (hl : p.code.length ≤ 4) (hq : ∀ q ∈ p.code, q.length ≤ 8) :
    Calls Tryz.prog 75 #[valP p A cap] w fun x w' => ∃ A' cap', x = .returned (valP p A' cap') ∧ CdAt w' (fun k => w.heap.size ≤ k) A' p.code ∧ p.code.length ≤ cap' ∧ cap' ≤ maxLen ∧ Below w.heap.size w w' := by
  obtain ⟨v, m, L⟩ := p
  unfold valP
  simp only at hcd hl1 hl hq ⊢
  obtain ⟨vs, hvs, hat⟩ := hcd
  obtain ⟨g0, o0, rfl, hC0, hg0, hcell0⟩ := hvs.2 (by omega)
  obtain ⟨Wa, X, hWa, hX, hBa, hXl, hXe⟩ := pg_box w v m (some ⟨g0, o0, none⟩) L.length cap
  have hXk : Wa.heap[X]? = some (.cells #[.int .i64 v, .int .i64 m, .slice (some ⟨g0, o0, none⟩) L.length cap] 24 (0, 0)) := by rw [hWa, hX]; exact heap_alloc_new w _
  obtain ⟨Wb, Y, hWb, hY, hBb, hYl, hYe⟩ := pg_box Wa 0 0 none 0 0
  have hYk : Wb.heap[Y]? = some (.cells #[.int .i64 0, .int .i64 0, .slice none 0 0] 24 (0, 0)) := by rw [hWb, hY]; exact heap_alloc_new Wa _
  have hY' : Y = w.heap.size + 1 := by rw [hY, hWa]; simp
  have hbb := below_at hBa hBb
  have hcl := cloneC_any Wb ⟨g0, o0, none⟩ L.length cap vs (hvs.rd.below hbb (Nat.le_refl _)) (by omega)
  have hXk' : Wb.heap[X]? = some (.cells #[.int .i64 v, .int .i64 m, .slice (some ⟨g0, o0, none⟩) L.length cap] 24 (0, 0)) := (hBb.block X hXl).trans hXk
  have HCL := Lib.hid hcl
  have HXK := Lib.hid hXk'
  have HYK := Lib.hid hYk
  have HAT := Lib.hid hat
  have HBB := Lib.hid hbb
  have HXE := Lib.hid hX
  have HYE := Lib.hid hY'
  obtain ⟨x0, x1, x2, xl⟩ := hXe Wb hBb
  have yl := hYl
  have HQ := Lib.hid hq
  have HVS := Lib.hid hvs
  clear hcl hXk hXk' hYk hat hbb hBa hBb hXe hYe hXl hYl hq hvs hcell0 hC0 hg0
  go_enter Tryz.func75, Tryz.ntmps75
  go_upto_region 1 with fail
  rw [← hY', ← hWa, ← hWb, ← hX]
  clear hWa hWb hX hY hY'
  go_wp2_with fail
  refine HCL.out.mono ?_
  rintro x w3 ⟨A3, c3, rfl, hr3, ha3, b3⟩
  obtain ⟨g, o, rfl⟩ := hr3.some_of_pos (by have := hr3.2.1; omega)
  have hg : Wb.heap.size ≤ g := ha3 _ rfl
  have hX3 := (b3.block X (blk_lt HXK.out)).trans HXK.out
  have hY3 := (b3.block Y (blk_lt HYK.out)).trans HYK.out
  have f2 : w3.frozen? ⟨X, 2, none⟩ = false := free_blk hX3 2
  have x2 : w3.cell? ⟨X, 2, none⟩ = some (.slice (some ⟨g0, o0, none⟩) L.length cap) := by rw [cell_blk hX3]; rfl
  have xl : X < w3.heap.size := blk_lt hX3
  have HX3 := Lib.hid hX3
  have HY3 := Lib.hid hY3
  have HR3 := Lib.hid hr3
  have HG := Lib.hid hg
  have HB3 := Lib.hid b3
  clear hr3 ha3 b3 hX3 hY3 hg HCL x0 x1
  go_upto_region 2 with fail
  obtain ⟨W4, hW4⟩ : ∃ W4, W4 = w3.setCell ⟨X, 2, none⟩ (.slice (some ⟨g, o, none⟩) L.length c3) := ⟨_, rfl⟩
  rw [← hW4]
  have hXY : X < Y := by have := HXE.out; have := HYE.out; omega
  have hYg : Y < g := by have := blk_lt HYK.out; have := HG.out; omega
  have hm4 : Mod (fun k => k = X) w3 W4 := by rw [hW4]; exact (Mod.refl (fun k => k = X) w3).setCell (p := ⟨X, 2, none⟩) (fun _ => rfl) _
  have hX4 : W4.heap[X]? = some (.cells #[.int .i64 v, .int .i64 m, .slice (some ⟨g, o, none⟩) L.length c3] 24 (0, 0)) := by rw [hW4, set_blk HX3.out]; simp
  have hY4 : W4.heap[Y]? = _ := (hm4.block Y (blk_lt HY3.out) (by omega)).trans HY3.out
  have hr4 : Row W4 75 1 (some ⟨g, o, none⟩) L.length c3 vs := HR3.out.mod hm4 (fun a ha => by injection ha with ha; subst ha; simp only; omega)
  have hc4 : CopyRow W4 (fun k => w.heap.size ≤ k ∧ k ≠ X ∧ k ≠ Y ∧ k ≠ g) (fun k => k < w.heap.size) L 0 vs :=
    ⟨by have := HVS.out.1; omega, fun j q hq => by
      obtain ⟨A', c', h1, h2, h3⟩ := HAT.out j q hq
      exact ⟨A', c', h1, by rw [if_neg (by omega)]; exact ((h2.below HBB.out).mod (Mod.of_below HB3.out) (fun k hk => by have := HBB.out.size; omega)).mod hm4 (fun k hk => by have := HXE.out; omega), h3⟩⟩
  have hb4 : Below w.heap.size w W4 := (below_at HBB.out HB3.out).trans (hm4.below w.heap.size (by have := HBB.out.size; have := HB3.out.size; omega) (fun k hk => by have := HXE.out; omega))
  have HX4 := Lib.hid hX4
  have HY4 := Lib.hid hY4
  have HR4 := Lib.hid hr4
  have HC4 := Lib.hid hc4
  have HB4 := Lib.hid hb4
  have HXY := Lib.hid hXY
  have HYG := Lib.hid hYg
  have x2 : W4.cell? ⟨X, 2, none⟩ = some (.slice (some ⟨g, o, none⟩) L.length c3) := by rw [cell_blk HX4.out]; rfl
  have xl : X < W4.heap.size := blk_lt HX4.out
  have hbd : W4.heap.size < W4.heap.size + 1 := by omega
  clear hW4 hX4 hY4 hr4 hc4 hb4 hXY hYg hm4 f2 HX3 HY3 HR3 HG HB3 hbd
  have HLEN := Lib.hid (show L.length < 9223372036854775808 by omega)
  go_wp2_with fail
  go_loopw [12] (fun x wr => ∃ (i : Nat) (us : List Value), i ≤ L.length ∧ x = .int .i64 i ∧ Hid (Row wr 75 1 (some ⟨g, o, none⟩) L.length c3 us) ∧ Hid (CopyRow wr (fun k => w.heap.size ≤ k ∧ k ≠ X ∧ k ≠ Y ∧ k ≠ g) (fun k => k < w.heap.size) L i us) ∧ Hid (Mod (fun k => k = g) W4 wr)) (fun x _ => L.length - (intOf x).toNat)
  case atStart => exact ⟨0, vs, Nat.zero_le _, rfl, HR4, HC4, Lib.hid (Mod.refl _ _)⟩
  case round =>
    clear x2 xl HR4 HC4
    obtain ⟨i, us, hi, rfl, HR, HC, HMO⟩ := hrel
    have hXr : wr.heap[X]? = _ := (HMO.out.block X (blk_lt HX4.out) (by have := HXY.out; have := HYG.out; omega)).trans HX4.out
    have HXR := Lib.hid hXr
    clear hXr
    by_cases hlt : i < L.length
    · obtain ⟨q, hq⟩ := get_some hlt
      obtain ⟨A', c', hu, hrd, hc1, hc2⟩ := HC.out.2 i q hq
      have ca : wr.cell? ⟨g, o + i, none⟩ = some (.slice A' q.length c') := by rw [HR.out.cell i (by omega), hu]
      have lg : g < wr.heap.size := HR.out.lt
      have hq8 := HQ.out q (List.mem_of_getElem? hq)
      have k1 : (0 : Int) ≤ (i : Int) := Int.natCast_nonneg _
      have k2 : (i : Int) < (L.length : Int) := by omega
      have HRD := Lib.hid hrd.rd
      have HQI := Lib.hid hq
      clear hu hrd hc1 hc2 hq
      go_upto_region 5 with fail
      refine wp_region_planF (by kernel_rfl) (fun u => Below wr.heap.size wr u) [6] [(0, .pure), (1, .load), (2, .pure), (3, .pure), (4, .eff), (5, .pure), (6, .last)] (by simp only [List.map_cons, List.map_nil, List.getElem?_toArray, List.getElem?_cons_succ, List.getElem?_cons_zero]; rfl) (by kernel_rfl) (fun _ _ d _ _ h => by cases d <;> exact h) ((Below.refl _ _).drew) ?_
      repeat (first
        | (refine plan_pure (v := ?_) (by rfl) (fun w1 => ?_) ?_
           rotate_left
           · go_simp <;> with_reducible rfl
           simp only [Act.put, List.setIfInBounds_toArray, List.set_cons_zero, List.set_cons_succ])
        | (refine plan_off (by rfl) ?_
           simp only [Act.put, List.setIfInBounds_toArray, List.set_cons_zero, List.set_cons_succ])
        | (refine plan_load_off (by rfl) ?_
           simp only [Act.put, List.setIfInBounds_toArray, List.set_cons_zero, List.set_cons_succ])
        | (refine plan_load (v := ?_) (by rfl) (fun w1 hw1 => ?_) ?_
           rotate_left
           · (have qx := (World.cell?_of_block (hw1.block X (blk_lt HXR.out)) : w1.cell? ⟨X, 2, none⟩ = _).trans (cell_blk HXR.out 2)
              clear hw1
              go_simp <;> with_reducible rfl)
           simp only [Act.put, List.setIfInBounds_toArray, List.set_cons_zero, List.set_cons_succ]))
      have hS : Below wr.heap.size wr wr.drew := (Below.refl _ _).drew
      refine plan_eff ?_
      go_wp2_with fail
      refine (cloneI_any wr.drew A' q.length c' (q.flatMap encI) (HRD.out.below hS (Nat.le_refl _)) (by omega)).mono ?_
      rintro x w6 ⟨A6, c6, rfl, r6, a6, b6⟩
      have S6 := Lib.hid (below_at hS b6)
      have hr6 : Row w6 75 1 (some ⟨g, o, none⟩) L.length c3 us := HR.out.mod (Mod.of_below_size S6.out (fun _ => False)) (fun a ha h => h)
      have hc6 := HC.out.below S6.out
      have f6 : w6.frozen? ⟨g, o + i, none⟩ = false := hr6.free _
      have d6 : w6.cell? ⟨g, o + i, none⟩ = some (.slice A' q.length c') := (World.cell?_of_block (S6.out.block g lg)).trans ca
      have l6 : g < w6.heap.size := by have := S6.out.size; omega
      have hd6 : RdC w6 (fun k => w.heap.size ≤ k ∧ k ≠ X ∧ k ≠ Y ∧ k ≠ g) 4 A6 q.length (q.flatMap encI) := row_toC r6 (fun a ha => by
        have h1 : wr.heap.size ≤ a.block := a6 a ha
        have h2 := HB4.out.size
        have h3 := HMO.out.size
        have h4 := HXY.out
        have h5 := HYG.out
        exact ⟨by omega, by omega, by omega, by omega⟩)
      have R6 := Lib.hid hr6
      have C6 := Lib.hid hc6
      have D6 := Lib.hid hd6
      have E6 := Lib.hid (And.intro r6.2.1 r6.2.2.1)
      clear r6 a6 b6 hr6 hc6 hd6
      go_wp2_with fail
      refine plan_on (fun _ h => h) S6.out ?_
      repeat (first
        | (refine plan_pure (v := ?_) (by rfl) (fun w1 => ?_) ?_
           rotate_left
           · go_simp <;> with_reducible rfl
           simp only [Act.put, List.setIfInBounds_toArray, List.set_cons_zero, List.set_cons_succ])
        | (refine plan_off (by rfl) ?_
           simp only [Act.put, List.setIfInBounds_toArray, List.set_cons_zero, List.set_cons_succ])
        | (refine plan_load_off (by rfl) ?_
           simp only [Act.put, List.setIfInBounds_toArray, List.set_cons_zero, List.set_cons_succ])
        | (refine plan_load (v := ?_) (by rfl) (fun w1 hw1 => ?_) ?_
           rotate_left
           · (have qx := (World.cell?_of_block (hw1.block X (blk_lt HXR.out)) : w1.cell? ⟨X, 2, none⟩ = _).trans (cell_blk HXR.out 2)
              clear hw1
              go_simp <;> with_reducible rfl)
           simp only [Act.put, List.setIfInBounds_toArray, List.set_cons_zero, List.set_cons_succ]))
      refine plan_last ?_
      go_wp2_with fail
      repeat (first
        | (refine plan_pure (v := ?_) (by rfl) (fun w1 => ?_) ?_
           rotate_left
           · go_simp <;> with_reducible rfl
           simp only [Act.put, List.setIfInBounds_toArray, List.set_cons_zero, List.set_cons_succ])
        | (refine plan_off (by rfl) ?_
           simp only [Act.put, List.setIfInBounds_toArray, List.set_cons_zero, List.set_cons_succ])
        | (refine plan_load_off (by rfl) ?_
           simp only [Act.put, List.setIfInBounds_toArray, List.set_cons_zero, List.set_cons_succ])
        | (refine plan_load (v := ?_) (by rfl) (fun w1 hw1 => ?_) ?_
           rotate_left
           · (skip
              clear hw1
              go_simp <;> with_reducible rfl)
           simp only [Act.put, List.setIfInBounds_toArray, List.set_cons_zero, List.set_cons_succ]))
      refine plan_end ?_
      go_wp2_with fail
      go_roundw
      case rel =>
        have hm := (Mod.refl (fun k => k = g) w6).setCell (p := ⟨g, o + i, none⟩) (fun _ => rfl) (.slice A6 q.length c6)
        refine ⟨i + 1, us.set i (.slice A6 q.length c6), by omega, by go_num, Lib.hid (R6.out.set i (by omega) _), Lib.hid ?_, Lib.hid ?_⟩
        · exact (C6.out.mod hm (fun k hk => hk.2.2.2) (fun k hk e => by have h4 := HXY.out; have h5 := HYG.out; have h6 := HXE.out; omega)).step HQI.out (D6.out.mod hm (fun k hk => hk.2.2.2)) E6.out.1 E6.out.2
        · exact (HMO.out.trans (Mod.of_below_size S6.out _)).trans hm
      case measure => simp [intOf]; omega
    · have hi' : i = L.length := by omega
      have HI := Lib.hid hi'
      clear hi' hi
      have hY5 : wr.heap[Y]? = _ := (HMO.out.block Y (blk_lt HY4.out) (by have := HYG.out; omega)).trans HY4.out
      obtain ⟨V2, hV2, d0, d1, d2, hmv⟩ := pg_exit hY5 (.int .i64 v) (.int .i64 m) (.slice (some ⟨g, o, none⟩) L.length c3)
      have x0 : wr.cell? ⟨X, 0, none⟩ = some (.int .i64 v) := by rw [cell_blk HXR.out]; rfl
      have x1 : wr.cell? ⟨X, 1, none⟩ = some (.int .i64 m) := by rw [cell_blk HXR.out]; rfl
      have x2 : wr.cell? ⟨X, 2, none⟩ = some (.slice (some ⟨g, o, none⟩) L.length c3) := by rw [cell_blk HXR.out]; rfl
      have y0 : wr.cell? ⟨Y, 0, none⟩ = some (.int .i64 0) := by rw [cell_blk hY5]; rfl
      have y1 : wr.cell? ⟨Y, 1, none⟩ = some (.int .i64 0) := by rw [cell_blk hY5]; rfl
      have y2 : wr.cell? ⟨Y, 2, none⟩ = some (.slice none 0 0) := by rw [cell_blk hY5]; rfl
      have f0 : wr.frozen? ⟨Y, 0, none⟩ = false := free_blk hY5 0
      have f1 : wr.frozen? ⟨Y, 1, none⟩ = false := free_blk hY5 1
      have f2 : wr.frozen? ⟨Y, 2, none⟩ = false := free_blk hY5 2
      have lx : X < wr.heap.size := blk_lt HXR.out
      have ly : Y < wr.heap.size := blk_lt hY5
      have HMV := Lib.hid hmv
      have HV2 := Lib.hid hV2
      clear hmv hV2 hY5
      go_wp2_with fail
      rw [← HV2.out]
      refine bodyPost_ret (v := .agg #[.int .i64 v, .int .i64 m, .slice (some ⟨g, o, none⟩) L.length c3]) (by simp [results, Tryz.results75, go_sem, d0, d1, d2]) rfl ?_
      have hr9 := HR.out.mod HMV.out (fun a ha => by injection ha with ha; subst ha; have := HYG.out; simp only; omega)
      have hc9 := HC.out.mod HMV.out (fun k hk => hk.2.2.1) (fun k hk e => by have h4 := HXY.out; have h6 := HXE.out; omega)
      rw [HI.out] at hc9
      refine ⟨some ⟨g, o, none⟩, c3, rfl, ⟨us, row_toC hr9 (fun a ha => by injection ha with ha; subst ha; have h4 := HXY.out; have h5 := HYG.out; have h6 := HXE.out; simp only; omega), fun j q hq => ?_⟩, hr9.2.1, hr9.2.2.1, ?_⟩
      · obtain ⟨A', c', h1, h2, h3⟩ := hc9.2 j q hq
        rw [if_pos (List.getElem?_eq_some_iff.1 hq).1] at h2
        exact ⟨A', c', h1, h2.imp (fun k hk => hk.1), h3⟩
      · exact (HB4.out.trans (HMO.out.below w.heap.size HB4.out.size (fun k hk e => by have h4 := HXY.out; have h5 := HYG.out; have h6 := HXE.out; omega))).trans (HMV.out.below w.heap.size (by have := HB4.out.size; have := HMO.out.size; omega) (fun k hk e => by have h4 := HXY.out; have h6 := HXE.out; omega))
end Go.Proofs.YtcaapoacmfjnmaaGreat
