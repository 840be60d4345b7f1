/- Part 4 of the proof of leastTells_holds: what it rests on. -/
import Derived.Test.YtckdofjpoajblaaGreatZk3
namespace Go.Proofs.YtckdofjpoajblaaGreat
open Go.RowKit
set_option linter.unusedVariables false
namespace Pr
def evOf (s : St) (t : Nat) (i : Ins) : Ev :=
  if i.k = 1 then ⟨t, 2, i.x, false⟩ else if i.k = 2 then ⟨t, 3, i.x, false⟩ else if i.k = 5 then ⟨t, 4, i.x, false⟩
  else if i.k = 6 then (if s.h i.x.toNat = t then ⟨t, 5, i.x, false⟩ else ⟨t, 1, 0, true⟩)
  else if i.k = 8 then ⟨t, 1, 0, decide (((s.th[t]?).map (fun x => x.r i.r.toNat)).getD 0 = 0)⟩ else ⟨t, 1, 0, false⟩
def next (s : St) (t : Nat) : Option Ev := (ins s t).map (evOf s t)
def zeroE : Ev := ⟨0, 0, 0, false⟩
end Pr
def evCells (e : Ev) : Array Value := #[.int .i64 e.t, .int .i64 e.k, .int .i64 e.o, .bool e.f]
set_option maxRecDepth 100000 in
set_option maxHeartbeats 4000000 in
theorem next_any (w : World) (C : Nat → Prop) (S T : Nat) (s : St) (t : Nat) (h : SAt w C S T s) (hw : Pr.Wf s) (ht : t < s.th.length) :
    Calls Tryz.prog 58 #[.pointer (some ⟨S, 0, none⟩), .int .i64 (t : Int)] w fun x w' => x = .returned (.tuple #[valE ((Pr.next s t).getD Pr.zeroE), .bool (Pr.next s t).isSome]) ∧ Below w.heap.size w w' := by
  obtain ⟨Wa, X, hWa, hX, hBa, hXl, hXk⟩ : ∃ Wa X, Wa = w.alloc (Obj.cells #[.int .i64 0, .int .i64 0, .int .i64 0, .bool false] 51) ∧ X = w.heap.size ∧ Below w.heap.size w Wa ∧ X < Wa.heap.size ∧ Wa.heap[X]? = some (.cells #[.int .i64 0, .int .i64 0, .int .i64 0, .bool false] 51 (0, 0)) :=
    ⟨_, _, rfl, rfl, (Below.refl _ _).alloc (Nat.le_refl _) _, by simp, heap_alloc_new w _⟩
  have hS := h.below hBa
  have hcall := instr_any Wa C S T s t hS hw ht
  have hio : ∀ i, Pr.ins s t = some i → ∃ n : Int, 0 ≤ n ∧ n ≤ 8 ∧ Pr.InsOk s.p.vars s.p.mtx n i := fun i hi => hw.insOk hi
  obtain ⟨q, hq⟩ : ∃ q, q = Pr.ins s t := ⟨_, rfl⟩
  have hnx : Pr.next s t = q.map (Pr.evOf s t) := by unfold Pr.next; rw [hq]
  rw [← hq] at hcall hio
  rw [hnx]
  have hxw : w.heap.size ≤ X := Nat.le_of_eq hX.symm
  have HCALL := Lib.hid hcall
  have HIO := Lib.hid hio
  have HS := Lib.hid h
  have HBA := Lib.hid hBa
  have HXK := Lib.hid hXk
  have HXW := Lib.hid hxw
  have HWF := Lib.hid hw
  have HT := Lib.hid ht
  clear hcall hio hS hBa hXk hq hnx h hw hxw ht
  go_enter Tryz.func58, Tryz.ntmps58
  go_upto_region 1 with fail
  rw [← hWa, ← hX]
  clear hWa hX
  go_wp2_with fail
  refine HCALL.out.mono ?_
  rintro y w1 ⟨rfl, b1⟩
  have HB1 := Lib.hid b1
  clear b1 HCALL
  cases q with
  | none =>
    simp only [Option.getD_none, Option.isSome_none, valI, Pr.zeroI] at *
    go_upto_region 2 with fail
    obtain ⟨Wb, hWb⟩ : ∃ Wb, Wb = w1.alloc (Obj.cells #[.int .i64 0, .int .i64 0, .int .i64 0, .int .i64 0] 98) := ⟨_, rfl⟩
    rw [← hWb]
    have hb : Below w1.heap.size w1 Wb := by rw [hWb]; exact (Below.refl _ _).alloc (Nat.le_refl _) _
    have hb2 := below_at HB1.out hb
    have hXb := (hb2.block X hXl).trans HXK.out
    obtain ⟨V2, hV2, ⟨d0, d1, d2, d3⟩, hmv⟩ := in4_exit hXb (.int .i64 0) (.int .i64 0) (.int .i64 0) (.bool false)
    obtain ⟨⟨e0, e1, e2, e3⟩, el, g0, g1, g2, g3⟩ := in4_cells hXb
    have HV2 := Lib.hid hV2
    have HMV := Lib.hid hmv
    have HB2 := Lib.hid (below_at HBA.out hb2)
    clear hV2 hmv hWb hb hb2 hXb
    go_wp2_with fail
    rw [← HV2.out]
    refine bodyPost_ret (v := .tuple #[.agg #[.int .i64 0, .int .i64 0, .int .i64 0, .bool false], .bool false]) (by simp [results, Tryz.results58, go_sem, d0, d1, d2, d3]) rfl ?_
    exact ⟨rfl, HB2.out.trans (HMV.out.below _ HB2.out.size (fun k hk e => by have := HXW.out; omega))⟩
  | some i =>
    simp only [Option.getD_some, Option.isSome_some] at *
    obtain ⟨n, hn0, hn8, hok⟩ := HIO.out i rfl
    obtain ⟨ik, ir, ix, im⟩ := i
    simp only [valI] at *
    go_upto_region 2 with fail
    obtain ⟨Wz, Z, hWz, hZ, hBz, hZl, hZe⟩ := ins_box w1 ⟨ik, ir, ix, im⟩
    simp only at hWz
    rw [← hWz, ← hZ]
    have hb2 := below_at HB1.out hBz
    have hXz := (hb2.block X hXl).trans HXK.out
    have hXZ : X < Z := by rw [hZ]; have := HB1.out.size; omega
    have HBZ := Lib.hid (below_at HBA.out hb2)
    have HXZ := Lib.hid hXz
    have HLT := Lib.hid (And.intro hXZ hZl)
    have HZE := Lib.hid hZe
    have HOK := Lib.hid hok
    have HN := Lib.hid (And.intro hn0 hn8)
    obtain ⟨⟨e0, e1, e2, e3⟩, el, g0, g1, g2, g3⟩ := in4_cells hXz
    clear hWz hZ hBz hb2 hXz hXZ hZe hok HIO hn0 hn8 hZl hXl
    go_upto_region 5 with fail
    obtain ⟨W5, hW5, ⟨d0, d1, d2, d3⟩, hm5⟩ := in4_exit HXZ.out (.int .i64 (t : Int)) (.int .i64 1) (.int .i64 0) (.bool false)
    have hX5 : W5.heap[X]? = some (.cells #[.int .i64 (t : Int), .int .i64 1, .int .i64 0, .bool false] 51 (0, 0)) := by
      rw [hW5, set_blk (set_blk (set_blk (set_blk HXZ.out 0 _) 1 _) 2 _) 3 _]; simp
    rw [← hW5]
    have HM5 := Lib.hid hm5
    have HX5 := Lib.hid hX5
    clear hW5 d0 d1 d2 d3 hm5 hX5 e0 e1 e2 e3 el g0 g1 g2 g3
    obtain ⟨⟨y0, y1, y2, y3⟩, yl⟩ := HZE.out Wz (Below.refl _ _)
    simp only [Nat.zero_add] at y1 y2 y3
    have HY := Lib.hid (And.intro y0 (And.intro y1 (And.intro y2 y3)))
    have z0 : W5.cell? ⟨Z, 0, none⟩ = some (.int .i64 ik) := (HM5.out.cell Z 0 yl (by have := HLT.out.1; omega)).trans y0
    have zl : Z < W5.heap.size := by have := HM5.out.size; omega
    clear y0 y1 y2 y3
    go_upto_block 0 with fail
    clear z0
    go_cut [20] (fun a w2 => Hid (w2.heap[X]? = some (.cells (evCells (Pr.evOf s t ⟨ik, ir, ix, im⟩)) 51 (0, 0))) ∧ Hid (Mod (fun k => k = X) W5 w2))
    case first =>
      have hrange : ∀ x : Int, x < 4 → 0 ≤ x → ∃ m : Nat, x = m ∧ m < 4 := fun x h1 h2 => ⟨x.toNat, by omega, by omega⟩
      have HRANGE := Lib.hid hrange
      clear hrange
      rcases (show ik = 1 ∨ ik = 2 ∨ ik = 3 ∨ ik = 4 ∨ ik = 5 ∨ ik = 6 ∨ ik = 7 ∨ ik = 8 from by have h1 := HOK.out.1; have h8 := HOK.out.2.1; simp only at h1 h8; omega) with rfl | rfl | rfl | rfl | rfl | rfl | rfl | rfl
      · obtain ⟨⟨e0, e1, e2, e3⟩, el, g0, g1, g2, g3⟩ := in4_cells HX5.out
        go_upto_region 7 with fail
        refine wp_region_planF (by kernel_rfl) (fun u => Mod (fun k => k = X) W5 u) [5] [(0, .pure), (1, .load), (2, .pure), (3, .eff), (4, .pure), (5, .last)] (by simp only [List.map_cons, List.map_nil, List.getElem?_toArray, List.getElem?_cons_succ, List.getElem?_cons_zero]; rfl) (by kernel_rfl) (fun _ _ d _ _ h => by cases d <;> exact h) ((Mod.refl _ _).drew) ?_
        obtain ⟨Wd, hWd⟩ : ∃ Wd, Wd = W5.drew := ⟨_, rfl⟩
        rw [← hWd]
        have s0 : Mod (fun k => k = X) W5 Wd := by rw [hWd]; exact (Mod.refl _ _).drew
        have hX6 : Wd.heap[X]? = some (.cells #[.int .i64 (t : Int), .int .i64 1, .int .i64 0, .bool false] 51 (0, 0)) := by rw [hWd]; exact HX5.out
        clear hWd
        clear e0 e1 e2 e3 el g0 g1 g2 g3
        repeat (first
          | (refine plan_pure (v := ?_) (by rfl) (fun w1 => ?_) ?_
             rotate_left
             · go_simp <;> with_reducible rfl
             simp only [Act.put, List.setIfInBounds_toArray, List.set_cons_zero, List.set_cons_succ])
          | (refine plan_off (by rfl) ?_
             simp only [Act.put, List.setIfInBounds_toArray, List.set_cons_zero, List.set_cons_succ])
          | (refine plan_load_off (by rfl) ?_
             simp only [Act.put, List.setIfInBounds_toArray, List.set_cons_zero, List.set_cons_succ])
          | (refine plan_load (v := ?_) (by rfl) (fun w1 hw1 => ?_) ?_
             rotate_left
             · (have q := (hw1.cell Z 2 zl (by have := HLT.out.1; omega)).trans ((HM5.out.cell Z 2 (by have := HLT.out.2; exact this) (by have := HLT.out.1; omega)).trans HY.out.2.2.1)
                clear hw1
                go_simp <;> with_reducible rfl)
             simp only [Act.put, List.setIfInBounds_toArray, List.set_cons_zero, List.set_cons_succ]))
        obtain ⟨⟨e0, e1, e2, e3⟩, el, g0, g1, g2, g3⟩ := in4_cells hX6
        obtain ⟨W6, hW6⟩ : ∃ W6, W6 = Wd.setCell ⟨X, 1, none⟩ (.int .i64 2) := ⟨_, rfl⟩
        have s1 : Mod (fun k => k = X) W5 W6 := by rw [hW6]; exact s0.setCell (p := ⟨X, 1, none⟩) (fun _ => rfl) _
        have hX7 : W6.heap[X]? = some (.cells #[.int .i64 (t : Int), .int .i64 2, .int .i64 0, .bool false] 51 (0, 0)) := by rw [hW6, set_blk hX6 1 _]; simp
        have hX8 := set_blk hX7 2 (.int .i64 ix)
        have s2 := s1.setCell (p := ⟨X, 2, none⟩) (fun _ => rfl) (.int .i64 ix)
        have HS1 := Lib.hid s1
        have HS2 := Lib.hid s2
        have HX7 := Lib.hid hX7
        have HX8 := Lib.hid hX8
        clear s0 s1 s2 hX6 hX7 hX8
        refine plan_eff ?_
        go_wp2_with fail
        rw [← hW6]
        clear hW6
        refine plan_on (fun _ h => h) HS1.out ?_
        clear e0 e1 e2 e3 el g0 g1 g2 g3
        repeat (first
          | (refine plan_pure (v := ?_) (by rfl) (fun w1 => ?_) ?_
             rotate_left
             · go_simp <;> with_reducible rfl
             simp only [Act.put, List.setIfInBounds_toArray, List.set_cons_zero, List.set_cons_succ])
          | (refine plan_off (by rfl) ?_
             simp only [Act.put, List.setIfInBounds_toArray, List.set_cons_zero, List.set_cons_succ])
          | (refine plan_load_off (by rfl) ?_
             simp only [Act.put, List.setIfInBounds_toArray, List.set_cons_zero, List.set_cons_succ])
          | (refine plan_load (v := ?_) (by rfl) (fun w1 hw1 => ?_) ?_
             rotate_left
             · (have q := (hw1.cell Z 2 zl (by have := HLT.out.1; omega)).trans ((HM5.out.cell Z 2 (by have := HLT.out.2; exact this) (by have := HLT.out.1; omega)).trans HY.out.2.2.1)
                clear hw1
                go_simp <;> with_reducible rfl)
             simp only [Act.put, List.setIfInBounds_toArray, List.set_cons_zero, List.set_cons_succ]))
        obtain ⟨⟨e0, e1, e2, e3⟩, el, g0, g1, g2, g3⟩ := in4_cells HX7.out
        refine plan_last ?_
        go_wp2_with fail
        repeat (first
          | (refine plan_pure (v := ?_) (by rfl) (fun w1 => ?_) ?_
             rotate_left
             · go_simp <;> with_reducible rfl
             simp only [Act.put, List.setIfInBounds_toArray, List.set_cons_zero, List.set_cons_succ])
          | (refine plan_off (by rfl) ?_
             simp only [Act.put, List.setIfInBounds_toArray, List.set_cons_zero, List.set_cons_succ])
          | (refine plan_load_off (by rfl) ?_
             simp only [Act.put, List.setIfInBounds_toArray, List.set_cons_zero, List.set_cons_succ])
          | (refine plan_load (v := ?_) (by rfl) (fun w1 hw1 => ?_) ?_
             rotate_left
             · (skip
                clear hw1
                go_simp <;> with_reducible rfl)
             simp only [Act.put, List.setIfInBounds_toArray, List.set_cons_zero, List.set_cons_succ]))
        refine plan_end ?_
        go_wp2_with fail
        go_meet
        exact ⟨Lib.hid (by rw [HX8.out]; simp [evCells, Pr.evOf]), HS2⟩
      · obtain ⟨⟨e0, e1, e2, e3⟩, el, g0, g1, g2, g3⟩ := in4_cells HX5.out
        go_upto_region 9 with fail
        refine wp_region_planF (by kernel_rfl) (fun u => Mod (fun k => k = X) W5 u) [5] [(0, .pure), (1, .load), (2, .pure), (3, .eff), (4, .pure), (5, .last)] (by simp only [List.map_cons, List.map_nil, List.getElem?_toArray, List.getElem?_cons_succ, List.getElem?_cons_zero]; rfl) (by kernel_rfl) (fun _ _ d _ _ h => by cases d <;> exact h) ((Mod.refl _ _).drew) ?_
        obtain ⟨Wd, hWd⟩ : ∃ Wd, Wd = W5.drew := ⟨_, rfl⟩
        rw [← hWd]
        have s0 : Mod (fun k => k = X) W5 Wd := by rw [hWd]; exact (Mod.refl _ _).drew
        have hX6 : Wd.heap[X]? = some (.cells #[.int .i64 (t : Int), .int .i64 1, .int .i64 0, .bool false] 51 (0, 0)) := by rw [hWd]; exact HX5.out
        clear hWd
        clear e0 e1 e2 e3 el g0 g1 g2 g3
        repeat (first
          | (refine plan_pure (v := ?_) (by rfl) (fun w1 => ?_) ?_
             rotate_left
             · go_simp <;> with_reducible rfl
             simp only [Act.put, List.setIfInBounds_toArray, List.set_cons_zero, List.set_cons_succ])
          | (refine plan_off (by rfl) ?_
             simp only [Act.put, List.setIfInBounds_toArray, List.set_cons_zero, List.set_cons_succ])
          | (refine plan_load_off (by rfl) ?_
             simp only [Act.put, List.setIfInBounds_toArray, List.set_cons_zero, List.set_cons_succ])
          | (refine plan_load (v := ?_) (by rfl) (fun w1 hw1 => ?_) ?_
             rotate_left
             · (have q := (hw1.cell Z 2 zl (by have := HLT.out.1; omega)).trans ((HM5.out.cell Z 2 (by have := HLT.out.2; exact this) (by have := HLT.out.1; omega)).trans HY.out.2.2.1)
                clear hw1
                go_simp <;> with_reducible rfl)
             simp only [Act.put, List.setIfInBounds_toArray, List.set_cons_zero, List.set_cons_succ]))
        obtain ⟨⟨e0, e1, e2, e3⟩, el, g0, g1, g2, g3⟩ := in4_cells hX6
        obtain ⟨W6, hW6⟩ : ∃ W6, W6 = Wd.setCell ⟨X, 1, none⟩ (.int .i64 3) := ⟨_, rfl⟩
        have s1 : Mod (fun k => k = X) W5 W6 := by rw [hW6]; exact s0.setCell (p := ⟨X, 1, none⟩) (fun _ => rfl) _
        have hX7 : W6.heap[X]? = some (.cells #[.int .i64 (t : Int), .int .i64 3, .int .i64 0, .bool false] 51 (0, 0)) := by rw [hW6, set_blk hX6 1 _]; simp
        have hX8 := set_blk hX7 2 (.int .i64 ix)
        have s2 := s1.setCell (p := ⟨X, 2, none⟩) (fun _ => rfl) (.int .i64 ix)
        have HS1 := Lib.hid s1
        have HS2 := Lib.hid s2
        have HX7 := Lib.hid hX7
        have HX8 := Lib.hid hX8
        clear s0 s1 s2 hX6 hX7 hX8
        refine plan_eff ?_
        go_wp2_with fail
        rw [← hW6]
        clear hW6
        refine plan_on (fun _ h => h) HS1.out ?_
        clear e0 e1 e2 e3 el g0 g1 g2 g3
        repeat (first
          | (refine plan_pure (v := ?_) (by rfl) (fun w1 => ?_) ?_
             rotate_left
             · go_simp <;> with_reducible rfl
             simp only [Act.put, List.setIfInBounds_toArray, List.set_cons_zero, List.set_cons_succ])
          | (refine plan_off (by rfl) ?_
             simp only [Act.put, List.setIfInBounds_toArray, List.set_cons_zero, List.set_cons_succ])
          | (refine plan_load_off (by rfl) ?_
             simp only [Act.put, List.setIfInBounds_toArray, List.set_cons_zero, List.set_cons_succ])
          | (refine plan_load (v := ?_) (by rfl) (fun w1 hw1 => ?_) ?_
             rotate_left
             · (have q := (hw1.cell Z 2 zl (by have := HLT.out.1; omega)).trans ((HM5.out.cell Z 2 (by have := HLT.out.2; exact this) (by have := HLT.out.1; omega)).trans HY.out.2.2.1)
                clear hw1
                go_simp <;> with_reducible rfl)
             simp only [Act.put, List.setIfInBounds_toArray, List.set_cons_zero, List.set_cons_succ]))
        obtain ⟨⟨e0, e1, e2, e3⟩, el, g0, g1, g2, g3⟩ := in4_cells HX7.out
        refine plan_last ?_
        go_wp2_with fail
        repeat (first
          | (refine plan_pure (v := ?_) (by rfl) (fun w1 => ?_) ?_
             rotate_left
             · go_simp <;> with_reducible rfl
             simp only [Act.put, List.setIfInBounds_toArray, List.set_cons_zero, List.set_cons_succ])
          | (refine plan_off (by rfl) ?_
             simp only [Act.put, List.setIfInBounds_toArray, List.set_cons_zero, List.set_cons_succ])
          | (refine plan_load_off (by rfl) ?_
             simp only [Act.put, List.setIfInBounds_toArray, List.set_cons_zero, List.set_cons_succ])
          | (refine plan_load (v := ?_) (by rfl) (fun w1 hw1 => ?_) ?_
             rotate_left
             · (skip
                clear hw1
                go_simp <;> with_reducible rfl)
             simp only [Act.put, List.setIfInBounds_toArray, List.set_cons_zero, List.set_cons_succ]))
        refine plan_end ?_
        go_wp2_with fail
        go_meet
        exact ⟨Lib.hid (by rw [HX8.out]; simp [evCells, Pr.evOf]), HS2⟩
      · go_wp2_with fail
        go_meet
        exact ⟨Lib.hid (by rw [HX5.out]; simp [evCells, Pr.evOf]), Lib.hid (Mod.refl _ _)⟩
      · go_wp2_with fail
        go_meet
        exact ⟨Lib.hid (by rw [HX5.out]; simp [evCells, Pr.evOf]), Lib.hid (Mod.refl _ _)⟩
      · obtain ⟨⟨e0, e1, e2, e3⟩, el, g0, g1, g2, g3⟩ := in4_cells HX5.out
        go_upto_region 11 with fail
        refine wp_region_planF (by kernel_rfl) (fun u => Mod (fun k => k = X) W5 u) [5] [(0, .pure), (1, .load), (2, .pure), (3, .eff), (4, .pure), (5, .last)] (by simp only [List.map_cons, List.map_nil, List.getElem?_toArray, List.getElem?_cons_succ, List.getElem?_cons_zero]; rfl) (by kernel_rfl) (fun _ _ d _ _ h => by cases d <;> exact h) ((Mod.refl _ _).drew) ?_
        obtain ⟨Wd, hWd⟩ : ∃ Wd, Wd = W5.drew := ⟨_, rfl⟩
        rw [← hWd]
        have s0 : Mod (fun k => k = X) W5 Wd := by rw [hWd]; exact (Mod.refl _ _).drew
        have hX6 : Wd.heap[X]? = some (.cells #[.int .i64 (t : Int), .int .i64 1, .int .i64 0, .bool false] 51 (0, 0)) := by rw [hWd]; exact HX5.out
        clear hWd
        clear e0 e1 e2 e3 el g0 g1 g2 g3
        repeat (first
          | (refine plan_pure (v := ?_) (by rfl) (fun w1 => ?_) ?_
             rotate_left
             · go_simp <;> with_reducible rfl
             simp only [Act.put, List.setIfInBounds_toArray, List.set_cons_zero, List.set_cons_succ])
          | (refine plan_off (by rfl) ?_
             simp only [Act.put, List.setIfInBounds_toArray, List.set_cons_zero, List.set_cons_succ])
          | (refine plan_load_off (by rfl) ?_
             simp only [Act.put, List.setIfInBounds_toArray, List.set_cons_zero, List.set_cons_succ])
          | (refine plan_load (v := ?_) (by rfl) (fun w1 hw1 => ?_) ?_
             rotate_left
             · (have q := (hw1.cell Z 2 zl (by have := HLT.out.1; omega)).trans ((HM5.out.cell Z 2 (by have := HLT.out.2; exact this) (by have := HLT.out.1; omega)).trans HY.out.2.2.1)
                clear hw1
                go_simp <;> with_reducible rfl)
             simp only [Act.put, List.setIfInBounds_toArray, List.set_cons_zero, List.set_cons_succ]))
        obtain ⟨⟨e0, e1, e2, e3⟩, el, g0, g1, g2, g3⟩ := in4_cells hX6
        obtain ⟨W6, hW6⟩ : ∃ W6, W6 = Wd.setCell ⟨X, 1, none⟩ (.int .i64 4) := ⟨_, rfl⟩
        have s1 : Mod (fun k => k = X) W5 W6 := by rw [hW6]; exact s0.setCell (p := ⟨X, 1, none⟩) (fun _ => rfl) _
        have hX7 : W6.heap[X]? = some (.cells #[.int .i64 (t : Int), .int .i64 4, .int .i64 0, .bool false] 51 (0, 0)) := by rw [hW6, set_blk hX6 1 _]; simp
        have hX8 := set_blk hX7 2 (.int .i64 ix)
        have s2 := s1.setCell (p := ⟨X, 2, none⟩) (fun _ => rfl) (.int .i64 ix)
        have HS1 := Lib.hid s1
        have HS2 := Lib.hid s2
        have HX7 := Lib.hid hX7
        have HX8 := Lib.hid hX8
        clear s0 s1 s2 hX6 hX7 hX8
        refine plan_eff ?_
        go_wp2_with fail
        rw [← hW6]
        clear hW6
        refine plan_on (fun _ h => h) HS1.out ?_
        clear e0 e1 e2 e3 el g0 g1 g2 g3
        repeat (first
          | (refine plan_pure (v := ?_) (by rfl) (fun w1 => ?_) ?_
             rotate_left
             · go_simp <;> with_reducible rfl
             simp only [Act.put, List.setIfInBounds_toArray, List.set_cons_zero, List.set_cons_succ])
          | (refine plan_off (by rfl) ?_
             simp only [Act.put, List.setIfInBounds_toArray, List.set_cons_zero, List.set_cons_succ])
          | (refine plan_load_off (by rfl) ?_
             simp only [Act.put, List.setIfInBounds_toArray, List.set_cons_zero, List.set_cons_succ])
          | (refine plan_load (v := ?_) (by rfl) (fun w1 hw1 => ?_) ?_
             rotate_left
             · (have q := (hw1.cell Z 2 zl (by have := HLT.out.1; omega)).trans ((HM5.out.cell Z 2 (by have := HLT.out.2; exact this) (by have := HLT.out.1; omega)).trans HY.out.2.2.1)
                clear hw1
                go_simp <;> with_reducible rfl)
             simp only [Act.put, List.setIfInBounds_toArray, List.set_cons_zero, List.set_cons_succ]))
        obtain ⟨⟨e0, e1, e2, e3⟩, el, g0, g1, g2, g3⟩ := in4_cells HX7.out
        refine plan_last ?_
        go_wp2_with fail
        repeat (first
          | (refine plan_pure (v := ?_) (by rfl) (fun w1 => ?_) ?_
             rotate_left
             · go_simp <;> with_reducible rfl
             simp only [Act.put, List.setIfInBounds_toArray, List.set_cons_zero, List.set_cons_succ])
          | (refine plan_off (by rfl) ?_
             simp only [Act.put, List.setIfInBounds_toArray, List.set_cons_zero, List.set_cons_succ])
          | (refine plan_load_off (by rfl) ?_
             simp only [Act.put, List.setIfInBounds_toArray, List.set_cons_zero, List.set_cons_succ])
          | (refine plan_load (v := ?_) (by rfl) (fun w1 hw1 => ?_) ?_
             rotate_left
             · (skip
                clear hw1
                go_simp <;> with_reducible rfl)
             simp only [Act.put, List.setIfInBounds_toArray, List.set_cons_zero, List.set_cons_succ]))
        refine plan_end ?_
        go_wp2_with fail
        go_meet
        exact ⟨Lib.hid (by rw [HX8.out]; simp [evCells, Pr.evOf]), HS2⟩
      · have hx := HOK.out.2.2.2.2.2.1
        have hxm := HOK.out.2.2.2.2.2.2.2.2.2.2.1 (Or.inr rfl)
        have hmm := HWF.out.ok.1.2.2.2.1
        simp only at hx hxm
        obtain ⟨m, rfl, hm4⟩ := HRANGE.out ix (by omega) hx
        have hm2 : m < 2 := by omega
        clear hx hxm hmm
        go_upto_region 13 with fail
        refine wp_region_planF (by kernel_rfl) (fun u => Mod (fun k => k = X) W5 u) [] [(0, .pure), (1, .pure), (2, .load), (3, .pure), (4, .pure), (5, .pure), (6, .load), (7, .pure), (8, .pure)] (by simp only [List.map_cons, List.map_nil, List.getElem?_toArray, List.getElem?_cons_succ, List.getElem?_cons_zero]; rfl) (by kernel_rfl) (fun _ _ d _ _ h => by cases d <;> exact h) ((Mod.refl _ _).drew) ?_
        have k1 : (0 : Int) ≤ (m : Int) := Int.natCast_nonneg _
        have k2 : (m : Int) < 2 := by omega
        have hb5 : ∀ u, Mod (fun k => k = X) W5 u → Below w.heap.size w u := fun u hu => (HBZ.out.trans (HM5.out.below _ HBZ.out.size (fun k hk e => by have := HXW.out; omega))).trans (hu.below _ (by have := HBZ.out.size; have := HM5.out.size; omega) (fun k hk e => by have := HXW.out; omega))
        have HB5 := Lib.hid hb5
        clear hb5
        obtain ⟨Wd, hWd⟩ : ∃ Wd, Wd = W5.drew := ⟨_, rfl⟩
        rw [← hWd]
        have s0 : Mod (fun k => k = X) W5 Wd := by rw [hWd]; exact (Mod.refl _ _).drew
        have hX6 : Wd.heap[X]? = some (.cells #[.int .i64 (t : Int), .int .i64 1, .int .i64 0, .bool false] 51 (0, 0)) := by rw [hWd]; exact HX5.out
        have HS0 := Lib.hid s0
        have HX6 := Lib.hid hX6
        clear hWd s0 hX6
        repeat (first
          | (refine plan_pure (v := ?_) (by rfl) (fun w1 => ?_) ?_
             rotate_left
             · go_simp <;> with_reducible rfl
             simp only [Act.put, List.setIfInBounds_toArray, List.set_cons_zero, List.set_cons_succ])
          | (refine plan_off (by rfl) ?_
             simp only [Act.put, List.setIfInBounds_toArray, List.set_cons_zero, List.set_cons_succ])
          | (refine plan_load_off (by rfl) ?_
             simp only [Act.put, List.setIfInBounds_toArray, List.set_cons_zero, List.set_cons_succ])
          | (refine plan_load (v := ?_) (by rfl) (fun w1 hw1 => ?_) ?_
             rotate_left
             · (have q := (hw1.cell Z 2 zl (by have := HLT.out.1; omega)).trans ((HM5.out.cell Z 2 (by have := HLT.out.2; exact this) (by have := HLT.out.1; omega)).trans HY.out.2.2.1)
                have q2 := (HS.out.below (HB5.out w1 hw1)).cells
                obtain ⟨PA, pc, tc, _, _, _, _, _, qh, _⟩ := q2
                have q3 := qh m hm2
                clear qh
                clear hw1
                go_simp <;> with_reducible rfl)
             simp only [Act.put, List.setIfInBounds_toArray, List.set_cons_zero, List.set_cons_succ]))
        refine plan_end ?_
        by_cases hh : s.h m = (t : Int)
        · have hd : (s.h m == (t : Int)) = true := by simpa using hh
          obtain ⟨⟨e0, e1, e2, e3⟩, el, g0, g1, g2, g3⟩ := in4_cells HX6.out
          have hev : Pr.evOf s t ⟨6, ir, (m : Int), im⟩ = ⟨t, 5, m, false⟩ := by simp [Pr.evOf, hh]
          have HEV := Lib.hid hev
          have HXX := Lib.hid HX6.out
          clear e0 e1 e2 e3 el g0 g1 g2 g3 hev
          go_upto_region 15 with fail
          refine wp_region_planF (by kernel_rfl) (fun u => Mod (fun k => k = X) W5 u) [5] [(0, .pure), (1, .load), (2, .pure), (3, .eff), (4, .pure), (5, .last)] (by simp only [List.map_cons, List.map_nil, List.getElem?_toArray, List.getElem?_cons_succ, List.getElem?_cons_zero]; rfl) (by kernel_rfl) (fun _ _ d _ _ h => by cases d <;> exact h) (HS0.out.drew) ?_
          obtain ⟨We, hWe⟩ : ∃ We, We = Wd.drew := ⟨_, rfl⟩
          rw [← hWe]
          have s0 : Mod (fun k => k = X) W5 We := by rw [hWe]; exact HS0.out.drew
          have hX6 : We.heap[X]? = some (.cells #[.int .i64 (t : Int), .int .i64 1, .int .i64 0, .bool false] 51 (0, 0)) := by rw [hWe]; exact HX6.out
          clear hWe
          repeat (first
            | (refine plan_pure (v := ?_) (by rfl) (fun w1 => ?_) ?_
               rotate_left
               · go_simp <;> with_reducible rfl
               simp only [Act.put, List.setIfInBounds_toArray, List.set_cons_zero, List.set_cons_succ])
            | (refine plan_off (by rfl) ?_
               simp only [Act.put, List.setIfInBounds_toArray, List.set_cons_zero, List.set_cons_succ])
            | (refine plan_load_off (by rfl) ?_
               simp only [Act.put, List.setIfInBounds_toArray, List.set_cons_zero, List.set_cons_succ])
            | (refine plan_load (v := ?_) (by rfl) (fun w1 hw1 => ?_) ?_
               rotate_left
               · (have q := (hw1.cell Z 2 zl (by have := HLT.out.1; omega)).trans ((HM5.out.cell Z 2 (by have := HLT.out.2; exact this) (by have := HLT.out.1; omega)).trans HY.out.2.2.1)
                  clear hw1
                  go_simp <;> with_reducible rfl)
               simp only [Act.put, List.setIfInBounds_toArray, List.set_cons_zero, List.set_cons_succ]))
          obtain ⟨⟨e0, e1, e2, e3⟩, el, g0, g1, g2, g3⟩ := in4_cells hX6
          obtain ⟨W6, hW6⟩ : ∃ W6, W6 = We.setCell ⟨X, 1, none⟩ (.int .i64 5) := ⟨_, rfl⟩
          have s1 : Mod (fun k => k = X) W5 W6 := by rw [hW6]; exact s0.setCell (p := ⟨X, 1, none⟩) (fun _ => rfl) _
          have hX7 : W6.heap[X]? = some (.cells #[.int .i64 (t : Int), .int .i64 5, .int .i64 0, .bool false] 51 (0, 0)) := by rw [hW6, set_blk hX6 1 _]; simp
          have hX8 := set_blk hX7 2 (.int .i64 (m : Int))
          have s2 := s1.setCell (p := ⟨X, 2, none⟩) (fun _ => rfl) (.int .i64 (m : Int))
          have HS1 := Lib.hid s1
          have HS2 := Lib.hid s2
          have HX7 := Lib.hid hX7
          have HX8 := Lib.hid hX8
          clear s0 s1 s2 hX6 hX7 hX8
          refine plan_eff ?_
          go_wp2_with fail
          rw [← hW6]
          clear hW6
          refine plan_on (fun _ h => h) HS1.out ?_
          clear e0 e1 e2 e3 el g0 g1 g2 g3
          repeat (first
            | (refine plan_pure (v := ?_) (by rfl) (fun w1 => ?_) ?_
               rotate_left
               · go_simp <;> with_reducible rfl
               simp only [Act.put, List.setIfInBounds_toArray, List.set_cons_zero, List.set_cons_succ])
            | (refine plan_off (by rfl) ?_
               simp only [Act.put, List.setIfInBounds_toArray, List.set_cons_zero, List.set_cons_succ])
            | (refine plan_load_off (by rfl) ?_
               simp only [Act.put, List.setIfInBounds_toArray, List.set_cons_zero, List.set_cons_succ])
            | (refine plan_load (v := ?_) (by rfl) (fun w1 hw1 => ?_) ?_
               rotate_left
               · (have q := (hw1.cell Z 2 zl (by have := HLT.out.1; omega)).trans ((HM5.out.cell Z 2 (by have := HLT.out.2; exact this) (by have := HLT.out.1; omega)).trans HY.out.2.2.1)
                  clear hw1
                  go_simp <;> with_reducible rfl)
               simp only [Act.put, List.setIfInBounds_toArray, List.set_cons_zero, List.set_cons_succ]))
          obtain ⟨⟨e0, e1, e2, e3⟩, el, g0, g1, g2, g3⟩ := in4_cells HX7.out
          refine plan_last ?_
          go_wp2_with fail
          repeat (first
            | (refine plan_pure (v := ?_) (by rfl) (fun w1 => ?_) ?_
               rotate_left
               · go_simp <;> with_reducible rfl
               simp only [Act.put, List.setIfInBounds_toArray, List.set_cons_zero, List.set_cons_succ])
            | (refine plan_off (by rfl) ?_
               simp only [Act.put, List.setIfInBounds_toArray, List.set_cons_zero, List.set_cons_succ])
            | (refine plan_load_off (by rfl) ?_
               simp only [Act.put, List.setIfInBounds_toArray, List.set_cons_zero, List.set_cons_succ])
            | (refine plan_load (v := ?_) (by rfl) (fun w1 hw1 => ?_) ?_
               rotate_left
               · (skip
                  clear hw1
                  go_simp <;> with_reducible rfl)
               simp only [Act.put, List.setIfInBounds_toArray, List.set_cons_zero, List.set_cons_succ]))
          refine plan_end ?_
          go_wp2_with fail
          go_meet
          exact ⟨Lib.hid (by rw [HX8.out, HEV.out]; simp [evCells]), HS2⟩
        · have hd : (s.h m == (t : Int)) = false := by simpa using hh
          have hev : Pr.evOf s t ⟨6, ir, (m : Int), im⟩ = ⟨t, 1, 0, true⟩ := by simp [Pr.evOf, hh]
          have HEV := Lib.hid hev
          obtain ⟨⟨e0, e1, e2, e3⟩, el, g0, g1, g2, g3⟩ := in4_cells HX6.out
          have HX8 := Lib.hid (set_blk HX6.out 3 (.bool true))
          have HS2 := Lib.hid (HS0.out.setCell (p := ⟨X, 3, none⟩) (fun _ => rfl) (.bool true))
          clear hev
          go_wp2_with fail
          go_meet
          exact ⟨Lib.hid (by rw [HX8.out, HEV.out]; simp [evCells]), HS2⟩
      · go_wp2_with fail
        go_meet
        exact ⟨Lib.hid (by rw [HX5.out]; simp [evCells, Pr.evOf]), Lib.hid (Mod.refl _ _)⟩
      · have hx := HOK.out.2.2.2.2.2.2.1
        have hxm := HOK.out.2.2.2.2.2.2.2.1
        simp only at hx hxm
        obtain ⟨m, rfl, hm4⟩ := HRANGE.out ir (by omega) hx
        have hm2 : m < 2 := by omega
        clear hx hxm
        obtain ⟨x, hx⟩ := get_some HT.out
        obtain ⟨y, hy⟩ : ∃ y, y = x.r m := ⟨_, rfl⟩
        obtain ⟨nn, hnn⟩ : ∃ n, n = s.th.length := ⟨_, rfl⟩
        have HYR := Lib.hid (And.intro hx hy)
        have HTN := Lib.hid hnn.symm
        have htn : t < nn := by rw [hnn]; exact HT.out
        clear hx hy hnn
        go_upto_region 17 with fail
        refine wp_region_planF (by kernel_rfl) (fun u => Mod (fun k => k = X) W5 u) [13] [(0, .pure), (1, .pure), (2, .pure), (3, .load), (4, .pure), (5, .pure), (6, .load), (7, .pure), (8, .pure), (9, .pure), (10, .load), (11, .pure), (12, .pure), (13, .last)] (by simp only [List.map_cons, List.map_nil, List.getElem?_toArray, List.getElem?_cons_succ, List.getElem?_cons_zero]; rfl) (by kernel_rfl) (fun _ _ d _ _ h => by cases d <;> exact h) ((Mod.refl _ _).drew) ?_
        have k1 : (0 : Int) ≤ (m : Int) := Int.natCast_nonneg _
        have k2 : (m : Int) < 2 := by omega
        have k3 : (0 : Int) ≤ (t : Int) := Int.natCast_nonneg _
        have k4 : (t : Int) < (nn : Int) := by omega
        have hb5 : ∀ u, Mod (fun k => k = X) W5 u → Below w.heap.size w u := fun u hu => (HBZ.out.trans (HM5.out.below _ HBZ.out.size (fun k hk e => by have := HXW.out; omega))).trans (hu.below _ (by have := HBZ.out.size; have := HM5.out.size; omega) (fun k hk e => by have := HXW.out; omega))
        have HB5 := Lib.hid hb5
        clear hb5
        obtain ⟨Wd, hWd⟩ : ∃ Wd, Wd = W5.drew := ⟨_, rfl⟩
        rw [← hWd]
        have s0 : Mod (fun k => k = X) W5 Wd := by rw [hWd]; exact (Mod.refl _ _).drew
        have hX6 : Wd.heap[X]? = some (.cells #[.int .i64 (t : Int), .int .i64 1, .int .i64 0, .bool false] 51 (0, 0)) := by rw [hWd]; exact HX5.out
        have HS0 := Lib.hid s0
        have HX6 := Lib.hid hX6
        clear hWd s0 hX6
        by_cases hy0 : y = 0
        · have hd : (y == 0) = true := by simpa using hy0
          have hev : Pr.evOf s t ⟨8, (m : Int), ix, im⟩ = ⟨t, 1, 0, true⟩ := by simp [Pr.evOf, HYR.out.1, ← HYR.out.2, hy0]
          have HEV := Lib.hid hev
          clear hev
          have HX8 := Lib.hid (set_blk HX6.out 3 (.bool true))
          have HS2 := Lib.hid (HS0.out.setCell (p := ⟨X, 3, none⟩) (fun _ => rfl) (.bool true))
          repeat (first
            | (refine plan_pure (v := ?_) (by rfl) (fun w1 => ?_) ?_
               rotate_left
               · go_simp <;> with_reducible rfl
               simp only [Act.put, List.setIfInBounds_toArray, List.set_cons_zero, List.set_cons_succ])
            | (refine plan_off (by rfl) ?_
               simp only [Act.put, List.setIfInBounds_toArray, List.set_cons_zero, List.set_cons_succ])
            | (refine plan_load_off (by rfl) ?_
               simp only [Act.put, List.setIfInBounds_toArray, List.set_cons_zero, List.set_cons_succ])
            | (refine plan_load (v := ?_) (by rfl) (fun w1 hw1 => ?_) ?_
               rotate_left
               · (have q := (hw1.cell Z 1 zl (by have := HLT.out.1; omega)).trans ((HM5.out.cell Z 1 (by have := HLT.out.2; exact this) (by have := HLT.out.1; omega)).trans HY.out.2.1)
                  have hq := HS.out.below (HB5.out w1 hw1)
                  have z3 := HS.out.z3 (HB5.out w1 hw1)
                  obtain ⟨PA, pc, tc, _, _, _, _, _, _, _⟩ := hq.cells
                  have q3 := (hq.thread t x HYR.out.1).2.2 m hm2
                  rw [← HYR.out.2] at q3
                  rw [HTN.out] at z3
                  have ql := hq.lt.2
                  clear hq
                  clear hw1
                  go_simp <;> with_reducible rfl)
               simp only [Act.put, List.setIfInBounds_toArray, List.set_cons_zero, List.set_cons_succ]))
          obtain ⟨⟨e0, e1, e2, e3⟩, el, g0, g1, g2, g3⟩ := in4_cells HX6.out
          refine plan_last ?_
          go_wp2_with fail
          repeat (first
            | (refine plan_pure (v := ?_) (by rfl) (fun w1 => ?_) ?_
               rotate_left
               · go_simp <;> with_reducible rfl
               simp only [Act.put, List.setIfInBounds_toArray, List.set_cons_zero, List.set_cons_succ])
            | (refine plan_off (by rfl) ?_
               simp only [Act.put, List.setIfInBounds_toArray, List.set_cons_zero, List.set_cons_succ])
            | (refine plan_load_off (by rfl) ?_
               simp only [Act.put, List.setIfInBounds_toArray, List.set_cons_zero, List.set_cons_succ])
            | (refine plan_load (v := ?_) (by rfl) (fun w1 hw1 => ?_) ?_
               rotate_left
               · (skip
                  clear hw1
                  go_simp <;> with_reducible rfl)
               simp only [Act.put, List.setIfInBounds_toArray, List.set_cons_zero, List.set_cons_succ]))
          refine plan_end ?_
          go_wp2_with fail
          go_meet
          exact ⟨Lib.hid (by rw [HX8.out, HEV.out]; simp [evCells]), HS2⟩
        · have hd : (y == 0) = false := by simpa using hy0
          have hev : Pr.evOf s t ⟨8, (m : Int), ix, im⟩ = ⟨t, 1, 0, false⟩ := by simp [Pr.evOf, HYR.out.1, ← HYR.out.2, hy0]
          have HEV := Lib.hid hev
          clear hev
          have HX8 := Lib.hid (set_blk HX6.out 3 (.bool false))
          have HS2 := Lib.hid (HS0.out.setCell (p := ⟨X, 3, none⟩) (fun _ => rfl) (.bool false))
          repeat (first
            | (refine plan_pure (v := ?_) (by rfl) (fun w1 => ?_) ?_
               rotate_left
               · go_simp <;> with_reducible rfl
               simp only [Act.put, List.setIfInBounds_toArray, List.set_cons_zero, List.set_cons_succ])
            | (refine plan_off (by rfl) ?_
               simp only [Act.put, List.setIfInBounds_toArray, List.set_cons_zero, List.set_cons_succ])
            | (refine plan_load_off (by rfl) ?_
               simp only [Act.put, List.setIfInBounds_toArray, List.set_cons_zero, List.set_cons_succ])
            | (refine plan_load (v := ?_) (by rfl) (fun w1 hw1 => ?_) ?_
               rotate_left
               · (have q := (hw1.cell Z 1 zl (by have := HLT.out.1; omega)).trans ((HM5.out.cell Z 1 (by have := HLT.out.2; exact this) (by have := HLT.out.1; omega)).trans HY.out.2.1)
                  have hq := HS.out.below (HB5.out w1 hw1)
                  have z3 := HS.out.z3 (HB5.out w1 hw1)
                  obtain ⟨PA, pc, tc, _, _, _, _, _, _, _⟩ := hq.cells
                  have q3 := (hq.thread t x HYR.out.1).2.2 m hm2
                  rw [← HYR.out.2] at q3
                  rw [HTN.out] at z3
                  have ql := hq.lt.2
                  clear hq
                  clear hw1
                  go_simp <;> with_reducible rfl)
               simp only [Act.put, List.setIfInBounds_toArray, List.set_cons_zero, List.set_cons_succ]))
          obtain ⟨⟨e0, e1, e2, e3⟩, el, g0, g1, g2, g3⟩ := in4_cells HX6.out
          refine plan_last ?_
          go_wp2_with fail
          repeat (first
            | (refine plan_pure (v := ?_) (by rfl) (fun w1 => ?_) ?_
               rotate_left
               · go_simp <;> with_reducible rfl
               simp only [Act.put, List.setIfInBounds_toArray, List.set_cons_zero, List.set_cons_succ])
            | (refine plan_off (by rfl) ?_
               simp only [Act.put, List.setIfInBounds_toArray, List.set_cons_zero, List.set_cons_succ])
            | (refine plan_load_off (by rfl) ?_
               simp only [Act.put, List.setIfInBounds_toArray, List.set_cons_zero, List.set_cons_succ])
            | (refine plan_load (v := ?_) (by rfl) (fun w1 hw1 => ?_) ?_
               rotate_left
               · (skip
                  clear hw1
                  go_simp <;> with_reducible rfl)
               simp only [Act.put, List.setIfInBounds_toArray, List.set_cons_zero, List.set_cons_succ]))
          refine plan_end ?_
          go_wp2_with fail
          go_meet
          exact ⟨Lib.hid (by rw [HX8.out, HEV.out]; simp [evCells]), HS2⟩
    case rest =>
      obtain ⟨HXC, HMC⟩ := hcut
      obtain ⟨e, he⟩ : ∃ e, e = Pr.evOf s t ⟨ik, ir, ix, im⟩ := ⟨_, rfl⟩
      rw [← he] at HXC
      obtain ⟨V2, hV2, ⟨d0, d1, d2, d3⟩, hmv⟩ := in4_exit HXC.out (.int .i64 e.t) (.int .i64 e.k) (.int .i64 e.o) (.bool e.f)
      obtain ⟨⟨e0, e1, e2, e3⟩, el, g0, g1, g2, g3⟩ := in4_cells HXC.out
      have HV2 := Lib.hid hV2
      have HMV := Lib.hid hmv
      have HE := Lib.hid he
      clear hV2 hmv he
      go_wp2_with fail
      rw [← HV2.out]
      refine bodyPost_ret (v := .tuple #[.agg #[.int .i64 e.t, .int .i64 e.k, .int .i64 e.o, .bool e.f], .bool true]) (by simp [results, Tryz.results58, go_sem, d0, d1, d2, d3]) rfl ?_
      refine ⟨by rw [← HE.out]; rfl, ?_⟩
      have h1 := HBZ.out.trans (HM5.out.below _ HBZ.out.size (fun k hk e => by have := HXW.out; omega))
      have h2 := h1.trans (HMC.out.below _ h1.size (fun k hk e => by have := HXW.out; omega))
      exact h2.trans (HMV.out.below _ h2.size (fun k hk e => by have := HXW.out; omega))
end Go.Proofs.YtckdofjpoajblaaGreat
namespace Go.Proofs.YtckdofjpoajblaaGreat
open Go.RowKit
set_option linter.unusedVariables false
namespace Pr
def enabled (s : St) (t : Nat) : Bool :=
  match next s t with
  | none => false
  | some e => decide (e.k ≠ 4) || decide (s.h e.o.toNat < 0)
def all (s : St) : List Nat := (List.range s.th.length).filter (enabled s)
theorem next_lock {s : St} (hw : Wf s) {t : Nat} {e : Ev} (h : next s t = some e) (hk : e.k = 4) : ∃ m : Nat, e.o = m ∧ m < 2 := by
  unfold next at h
  obtain ⟨i, hi, rfl⟩ := Option.map_eq_some_iff.1 h
  obtain ⟨n, _, _, hok⟩ := hw.insOk hi
  have h5 : i.k = 5 := by
    unfold evOf at hk
    by_cases h1 : i.k = 1
    · simp [h1] at hk
    · by_cases h2 : i.k = 2
      · simp [h2] at hk
      · by_cases h5 : i.k = 5
        · exact h5
        · rw [if_neg h1, if_neg h2, if_neg h5] at hk
          by_cases h6 : i.k = 6
          · rw [if_pos h6] at hk
            split at hk <;> simp at hk
          · rw [if_neg h6] at hk
            split at hk <;> simp at hk
  have h2 := hok.2.2.2.2.2.2.2.2.2.2.1 (Or.inl h5)
  have h0 := hok.2.2.2.2.2.1
  have hm := hw.ok.1.2.2.2.1
  have ho : (evOf s t i).o = i.x := by unfold evOf; simp [h5]
  exact ⟨i.x.toNat, by rw [ho]; omega, by omega⟩
end Pr
theorem ev_box (w : World) (e : Ev) : ∃ W X, W = w.alloc (Obj.cells #[.int .i64 e.t, .int .i64 e.k, .int .i64 e.o, .bool e.f] 51) ∧ X = w.heap.size ∧ Below w.heap.size w W ∧ X < W.heap.size ∧ ∀ u, Below W.heap.size W u → EvAt u X 0 e ∧ X < u.heap.size := by
  refine ⟨_, _, rfl, rfl, (Below.refl _ _).alloc (Nat.le_refl _) _, by simp, fun u hu => ?_⟩
  have h1 := heap_alloc_new w (Obj.cells #[.int .i64 e.t, .int .i64 e.k, .int .i64 e.o, .bool e.f] 51)
  have g1 := (hu.block _ (blk_lt h1)).trans h1
  exact ⟨⟨by rw [cell_blk g1]; rfl, by rw [cell_blk g1]; rfl, by rw [cell_blk g1]; rfl, by rw [cell_blk g1]; rfl⟩, blk_lt g1⟩
set_option maxRecDepth 100000 in
set_option maxHeartbeats 2000000 in
theorem enabled_any (w : World) (C : Nat → Prop) (S T : Nat) (s : St) (t : Nat) (h : SAt w C S T s) (hw : Pr.Wf s) (ht : t < s.th.length) :
    Calls Tryz.prog 68 #[.pointer (some ⟨S, 0, none⟩), .int .i64 (t : Int)] w fun x w' => x = .returned (.bool (Pr.enabled s t)) ∧ Below w.heap.size w w' := by
  have hcall := next_any w C S T s t h hw ht
  have hlk : ∀ e, Pr.next s t = some e → e.k = 4 → ∃ m : Nat, e.o = m ∧ m < 2 := fun e he hk => Pr.next_lock hw he hk
  have hen : Pr.enabled s t = match Pr.next s t with | none => false | some e => decide (e.k ≠ 4) || decide (s.h e.o.toNat < 0) := rfl
  obtain ⟨q, hq⟩ : ∃ q, q = Pr.next s t := ⟨_, rfl⟩
  rw [← hq] at hcall hlk hen
  rw [hen]
  have HCALL := Lib.hid hcall
  have HLK := Lib.hid hlk
  have HS := Lib.hid h
  clear hcall hlk hen hq h hw ht
  go_enter Tryz.func68, Tryz.ntmps68
  go_wp2_with fail
  refine HCALL.out.mono ?_
  rintro y w1 ⟨rfl, b1⟩
  have HB1 := Lib.hid b1
  clear b1 HCALL
  obtain ⟨e, he⟩ : ∃ e, e = q.getD Pr.zeroE := ⟨_, rfl⟩
  obtain ⟨Wz, Z, hWz, hZ, hBz, hZl, hZe⟩ := ev_box w1 e
  rw [← he]
  have HZE := Lib.hid hZe
  have HB2 := Lib.hid (below_at HB1.out hBz)
  have HE := Lib.hid he
  unfold valE
  clear hZe hZl hBz he HB1
  cases q with
  | none =>
    simp only [Option.isSome_none]
    go_upto_region 2 with fail
    rw [← hWz, ← hZ]
    clear hWz hZ
    refine wp_region_planF (by kernel_rfl) (fun u => Below Wz.heap.size Wz u) [] [(0, .pure), (1, .pure), (2, .pure), (3, .load), (4, .pure), (5, .pure), (6, .pure), (7, .pure), (8, .load), (9, .pure), (10, .pure), (11, .pure), (12, .load), (13, .pure), (14, .pure), (15, .pure), (16, .pure)] (by simp only [List.map_cons, List.map_nil, List.getElem?_toArray, List.getElem?_cons_succ, List.getElem?_cons_zero]; rfl) (by kernel_rfl) (fun _ _ d _ _ h => by cases d <;> exact h) ((Below.refl _ _).drew) ?_
    repeat (first
      | (refine plan_pure (v := ?_) (by rfl) (fun w1 => ?_) ?_
         rotate_left
         · go_simp <;> with_reducible rfl
         simp only [Act.put, List.setIfInBounds_toArray, List.set_cons_zero, List.set_cons_succ])
      | (refine plan_off (by rfl) ?_
         simp only [Act.put, List.setIfInBounds_toArray, List.set_cons_zero, List.set_cons_succ])
      | (refine plan_load_off (by rfl) ?_
         simp only [Act.put, List.setIfInBounds_toArray, List.set_cons_zero, List.set_cons_succ])
      | (refine plan_load (v := ?_) (by rfl) (fun w1 hw1 => ?_) ?_
         rotate_left
         · (skip
            clear hw1
            go_simp <;> with_reducible rfl)
         simp only [Act.put, List.setIfInBounds_toArray, List.set_cons_zero, List.set_cons_succ]))
    refine plan_end ?_
    go_wp2_with fail
    go_ret
    exact ⟨rfl, HB2.out.drew⟩
  | some e' =>
    have hee : e = e' := HE.out
    subst hee
    have HL := Lib.hid (HLK.out e rfl)
    clear HLK HE
    obtain ⟨et, ek, eo, ef⟩ := e
    simp only [Option.isSome_some] at *
    go_upto_region 2 with fail
    rw [← hWz, ← hZ]
    clear hWz hZ
    by_cases h4 : ek = 4
    · subst h4
      obtain ⟨m, rfl, hm⟩ := HL.out rfl
      obtain ⟨y, hy⟩ : ∃ y, y = s.h m := ⟨_, rfl⟩
      have HY := Lib.hid hy
      have k1 : (0 : Int) ≤ (m : Int) := Int.natCast_nonneg _
      have k2 : (m : Int) < 2 := by omega
      clear hy
      by_cases hy : y < 0
      · have hd : decide (y < 0) = true := decide_eq_true hy
        refine wp_region_planF (by kernel_rfl) (fun u => Below Wz.heap.size Wz u) [] [(0, .pure), (1, .pure), (2, .pure), (3, .load), (4, .pure), (5, .pure), (6, .pure), (7, .pure), (8, .load), (9, .pure), (10, .pure), (11, .pure), (12, .load), (13, .pure), (14, .pure), (15, .pure), (16, .pure)] (by simp only [List.map_cons, List.map_nil, List.getElem?_toArray, List.getElem?_cons_succ, List.getElem?_cons_zero]; rfl) (by kernel_rfl) (fun _ _ d _ _ h => by cases d <;> exact h) ((Below.refl _ _).drew) ?_
        repeat (first
          | (refine plan_pure (v := ?_) (by rfl) (fun w1 => ?_) ?_
             rotate_left
             · go_simp <;> with_reducible rfl
             simp only [Act.put, List.setIfInBounds_toArray, List.set_cons_zero, List.set_cons_succ])
          | (refine plan_off (by rfl) ?_
             simp only [Act.put, List.setIfInBounds_toArray, List.set_cons_zero, List.set_cons_succ])
          | (refine plan_load_off (by rfl) ?_
             simp only [Act.put, List.setIfInBounds_toArray, List.set_cons_zero, List.set_cons_succ])
          | (refine plan_load (v := ?_) (by rfl) (fun w1 hw1 => ?_) ?_
             rotate_left
             · (have q := (HZE.out w1 hw1).1
                have q1 := q.2.1
                have q2 := q.2.2.1
                simp only [Nat.zero_add] at q1 q2
                clear q
                obtain ⟨PA, pc, tc, _, _, _, _, _, qh, _⟩ := (HS.out.below (HB2.out.trans (hw1.mono HB2.out.size))).cells
                have q3 := qh m hm
                rw [← HY.out] at q3
                clear qh
                clear hw1
                go_simp <;> with_reducible rfl)
             simp only [Act.put, List.setIfInBounds_toArray, List.set_cons_zero, List.set_cons_succ]))
        refine plan_end ?_
        go_wp2_with fail
        go_ret
        exact ⟨by simp [← HY.out, hy], HB2.out.drew⟩
      · have hd : decide (y < 0) = false := decide_eq_false hy
        refine wp_region_planF (by kernel_rfl) (fun u => Below Wz.heap.size Wz u) [] [(0, .pure), (1, .pure), (2, .pure), (3, .load), (4, .pure), (5, .pure), (6, .pure), (7, .pure), (8, .load), (9, .pure), (10, .pure), (11, .pure), (12, .load), (13, .pure), (14, .pure), (15, .pure), (16, .pure)] (by simp only [List.map_cons, List.map_nil, List.getElem?_toArray, List.getElem?_cons_succ, List.getElem?_cons_zero]; rfl) (by kernel_rfl) (fun _ _ d _ _ h => by cases d <;> exact h) ((Below.refl _ _).drew) ?_
        repeat (first
          | (refine plan_pure (v := ?_) (by rfl) (fun w1 => ?_) ?_
             rotate_left
             · go_simp <;> with_reducible rfl
             simp only [Act.put, List.setIfInBounds_toArray, List.set_cons_zero, List.set_cons_succ])
          | (refine plan_off (by rfl) ?_
             simp only [Act.put, List.setIfInBounds_toArray, List.set_cons_zero, List.set_cons_succ])
          | (refine plan_load_off (by rfl) ?_
             simp only [Act.put, List.setIfInBounds_toArray, List.set_cons_zero, List.set_cons_succ])
          | (refine plan_load (v := ?_) (by rfl) (fun w1 hw1 => ?_) ?_
             rotate_left
             · (have q := (HZE.out w1 hw1).1
                have q1 := q.2.1
                have q2 := q.2.2.1
                simp only [Nat.zero_add] at q1 q2
                clear q
                obtain ⟨PA, pc, tc, _, _, _, _, _, qh, _⟩ := (HS.out.below (HB2.out.trans (hw1.mono HB2.out.size))).cells
                have q3 := qh m hm
                rw [← HY.out] at q3
                clear qh
                clear hw1
                go_simp <;> with_reducible rfl)
             simp only [Act.put, List.setIfInBounds_toArray, List.set_cons_zero, List.set_cons_succ]))
        refine plan_end ?_
        go_wp2_with fail
        go_ret
        exact ⟨by simp [← HY.out, hy], HB2.out.drew⟩
    · have hd : (ek == 4) = false := by simpa using h4
      have hd2 : (ek != 4) = true := by simpa using h4
      have hd3 : decide (ek = 4) = false := decide_eq_false h4
      refine wp_region_planF (by kernel_rfl) (fun u => Below Wz.heap.size Wz u) [] [(0, .pure), (1, .pure), (2, .pure), (3, .load), (4, .pure), (5, .pure), (6, .pure), (7, .pure), (8, .load), (9, .pure), (10, .pure), (11, .pure), (12, .load), (13, .pure), (14, .pure), (15, .pure), (16, .pure)] (by simp only [List.map_cons, List.map_nil, List.getElem?_toArray, List.getElem?_cons_succ, List.getElem?_cons_zero]; rfl) (by kernel_rfl) (fun _ _ d _ _ h => by cases d <;> exact h) ((Below.refl _ _).drew) ?_
      repeat (first
        | (refine plan_pure (v := ?_) (by rfl) (fun w1 => ?_) ?_
           rotate_left
           · go_simp <;> with_reducible rfl
           simp only [Act.put, List.setIfInBounds_toArray, List.set_cons_zero, List.set_cons_succ])
        | (refine plan_off (by rfl) ?_
           simp only [Act.put, List.setIfInBounds_toArray, List.set_cons_zero, List.set_cons_succ])
        | (refine plan_load_off (by rfl) ?_
           simp only [Act.put, List.setIfInBounds_toArray, List.set_cons_zero, List.set_cons_succ])
        | (refine plan_load (v := ?_) (by rfl) (fun w1 hw1 => ?_) ?_
           rotate_left
           · (have q := (HZE.out w1 hw1).1
              have q1 := q.2.1
              have q2 := q.2.2.1
              simp only [Nat.zero_add] at q1 q2
              clear q
              clear hw1
              go_simp <;> with_reducible rfl)
           simp only [Act.put, List.setIfInBounds_toArray, List.set_cons_zero, List.set_cons_succ]))
      refine plan_end ?_
      go_wp2_with fail
      go_ret
      exact ⟨by simp, HB2.out.drew⟩
end Go.Proofs.YtckdofjpoajblaaGreat
namespace Go.Proofs.YtckdofjpoajblaaGreat
open Go.RowKit
set_option linter.unusedVariables false
theorem Tryz.infoInt : (Tryz.prog.info? 3).map (fun i => (i.zero, i.size, i.bytes)) = some (some (.int .i64 0), 1, 8) := by kernel_rfl
def iv (n : Int) : Value := .int .i64 n
def IntsAt (w w' : World) (A : Option Addr) (cap : Nat) (l : List Int) : Prop := Row w' 3 1 A l.length cap (l.map iv) ∧ ∀ a, A = some a → w.heap.size ≤ a.block
def allI (s : St) (k : Nat) : List Int := ((List.range k).filter (Pr.enabled s)).map (fun (t : Nat) => (t : Int))
theorem allI_step (s : St) (k : Nat) : allI s (k + 1) = if Pr.enabled s k = true then allI s k ++ [(k : Int)] else allI s k := by
  unfold allI
  rw [List.range_succ, List.filter_append]
  by_cases h : Pr.enabled s k = true <;> simp [h]
set_option maxRecDepth 100000 in
set_option maxHeartbeats 2000000 in
theorem all_any (w : World) (C : Nat → Prop) (S T : Nat) (s : St) (h : SAt w C S T s) (hw : Pr.Wf s) :
    Calls Tryz.prog 31 #[.pointer (some ⟨S, 0, none⟩)] w fun x w' => ∃ A cap, x = .returned (.slice A ((Pr.all s).map (fun (t : Nat) => (t : Int))).length cap) ∧ IntsAt w w' A cap ((Pr.all s).map (fun (t : Nat) => (t : Int))) ∧ Below w.heap.size w w' := by
  have hthr := threads_any w C S T s h
  have hen : ∀ u t, Below w.heap.size w u → t < s.th.length → Calls Tryz.prog 68 #[.pointer (some ⟨S, 0, none⟩), .int .i64 (t : Int)] u fun x w' => x = .returned (.bool (Pr.enabled s t)) ∧ Below u.heap.size u w' := fun u t hu ht => enabled_any u C S T s t (h.below hu) hw ht
  have hn4 := hw.n4
  have hall : (Pr.all s).map (fun (t : Nat) => (t : Int)) = allI s s.th.length := rfl
  rw [hall]
  obtain ⟨n, hn⟩ : ∃ n, n = s.th.length := ⟨_, rfl⟩
  rw [← hn] at hthr hen hn4 ⊢
  obtain ⟨i0, hi0, hz0, hz1, hz2⟩ := info_parts Tryz.infoInt
  have HTHR := Lib.hid hthr
  have HEN := Lib.hid hen
  clear hthr hen h hw hall hn
  go_enter Tryz.func31, Tryz.ntmps31
  go_wp2_with fail
  refine HTHR.out.mono ?_
  rintro x w' ⟨rfl, rfl⟩
  go_wp2_with fail
  go_loopw [2, 6] (fun r v wr => ∃ (k : Nat) (A : Option Addr) (cap len : Nat), k ≤ n ∧ v = .int .i64 k ∧ r = .slice A len cap ∧ len ≤ k ∧ Hid (len = (allI s k).length) ∧ Hid (IntsAt w wr A cap (allI s k)) ∧ Hid (Below w.heap.size w wr)) (fun _ v _ => n - (intOf v).toNat)
  case atStart => exact ⟨0, none, 0, 0, Nat.zero_le _, rfl, rfl, Nat.le_refl _, Lib.hid rfl, Lib.hid ⟨Row.nil _ _ _, fun a h => by cases h⟩, Lib.hid (Below.refl _ _)⟩
  case round =>
    obtain ⟨k, A, cap, len, hk, rfl, rfl, hlk, HLEN, HA, HB⟩ := hrel
    by_cases hlt : k < n
    · have hcall := HEN.out wr k HB.out hlt
      have hstep := allI_step s k
      obtain ⟨b, hb⟩ : ∃ b, b = Pr.enabled s k := ⟨_, rfl⟩
      rw [← hb] at hcall hstep
      have k1 : (0 : Int) ≤ (k : Int) := Int.natCast_nonneg _
      have k2 : (k : Int) < (n : Int) := by omega
      have HCALL := Lib.hid hcall
      have HSTEP := Lib.hid hstep
      clear hcall hstep hb
      go_wp2_with fail
      refine HCALL.out.mono ?_
      rintro x w1 ⟨rfl, b1⟩
      have HB1 := Lib.hid (below_at HB.out b1)
      have hr1 : Row w1 3 1 A len cap ((allI s k).map iv) := by
        have := row_stepS HA.out.1 b1
        rw [← HLEN.out] at this
        exact this
      have HR1 := Lib.hid hr1
      clear b1 hr1
      cases b with
      | false =>
        go_wp2_with fail
        go_roundw
        case rel => exact ⟨k + 1, A, cap, len, by omega, by go_num, rfl, by omega, Lib.hid (by rw [HSTEP.out]; exact HLEN.out), Lib.hid ⟨by rw [HSTEP.out]; have := HR1.out; rw [HLEN.out] at this; exact this, HA.out.2⟩, HB1⟩
        case measure => simp [intOf]; omega
      | true =>
        go_wp2_with (at_builtin; refine wpList_append_row (by rfl) _ _ _ (by rfl) 3 i0 _ 1 8 Tryz.underlying32 hi0 hz0 hz1 hz2 rfl (by omega) A len cap ((allI s k).map iv) (by rfl) (HR1.out.alloc _) ⟨w1.heap.size, 0, none⟩ 1 1 [.int .i64 (k : Int)] (by rfl) (by rfl) (World.news_of_block (cs := #[.int .i64 (k : Int)]) (t := 3) (fr := (0, 0)) (heap_alloc_new w1 _)) (by simp [Value.oneCell']) (by omega) (by unfold maxLen; omega) (by omega) ?_; intro g1 of1 cap1 w3 hown hm hat; skip)
        obtain ⟨q1, q2⟩ := acc_more HA.out.2 HB1.out hm hat (of := of1)
        go_roundw
        case rel =>
          have hl : (allI s (k + 1)).length = len + 1 := by rw [HSTEP.out]; simp [HLEN.out]
          refine ⟨k + 1, some ⟨g1, of1, none⟩, cap1, len + 1, by omega, by go_num, rfl, by omega, Lib.hid hl.symm, Lib.hid ⟨?_, q1⟩, Lib.hid q2⟩
          rw [hl, HSTEP.out]
          simpa [iv] using hown
        case measure => simp [intOf]; omega
    · obtain rfl : k = n := by omega
      have hl := HLEN.out
      subst hl
      go_wp2_with fail
      go_ret
      exact ⟨A, cap, rfl, HA.out, HB.out⟩
end Go.Proofs.YtckdofjpoajblaaGreat
namespace Go.Proofs.YtckdofjpoajblaaGreat
open Go.RowKit
set_option linter.unusedVariables false
namespace Pr
def regs (s : St) (t : Nat) (x : Th) (q : Nat) (v : Int) : St := { s with th := s.th.set t { x with r := updI x.r q v } }
end Pr
theorem SAt.set_r {w : World} {C : Nat → Prop} {S T : Nat} {s : St} (h : SAt w C S T s) {t : Nat} {x : Th} (hx : s.th[t]? = some x) {q : Nat} (hq : q < 2) (v : Int) :
    SAt (w.setCell ⟨T, t * 4 + 2 + q, none⟩ (.int .i64 v)) C S T (Pr.regs s t x q v) ∧ Mod (fun k => k = T) w (w.setCell ⟨T, t * 4 + 2 + q, none⟩ (.int .i64 v)) := by
  rw [Nat.add_assoc]
  exact h.set_th hx (2 + q) (by omega) _ (by rcases (show q = 0 ∨ q = 1 by omega) with rfl | rfl <;> simp [encT, updI])
theorem SAt.set_pc {w : World} {C : Nat → Prop} {S T : Nat} {s : St} (h : SAt w C S T s) {t : Nat} {x : Th} (hx : s.th[t]? = some x) (n : Nat) :
    SAt (w.setCell ⟨T, t * 4, none⟩ (.int .i64 (n : Int))) C S T { s with th := s.th.set t { x with pc := n } } ∧ Mod (fun k => k = T) w (w.setCell ⟨T, t * 4, none⟩ (.int .i64 (n : Int))) :=
  h.set_th hx 0 (by omega) _ rfl
theorem SAt.set_fuel {w : World} {C : Nat → Prop} {S T : Nat} {s : St} (h : SAt w C S T s) {t : Nat} {x : Th} (hx : s.th[t]? = some x) (n : Nat) :
    SAt (w.setCell ⟨T, t * 4 + 1, none⟩ (.int .i64 (n : Int))) C S T { s with th := s.th.set t { x with fuel := n } } ∧ Mod (fun k => k = T) w (w.setCell ⟨T, t * 4 + 1, none⟩ (.int .i64 (n : Int))) :=
  h.set_th hx 1 (by omega) _ rfl
set_option maxRecDepth 100000 in
set_option maxHeartbeats 2000000 in
theorem load_any (w : World) (C : Nat → Prop) (S T : Nat) (s : St) (t : Nat) (x : Th) (k n : Int) (q m : Nat) (h : SAt w C S T s) (hx : s.th[t]? = some x) (hn4 : s.th.length ≤ 4) (hq2 : q < 2) (hm4 : m < 4) :
    Calls Tryz.prog 112 #[.pointer (some ⟨S, 0, none⟩), .int .i64 (t : Int), valI ⟨k, (q : Int), (m : Int), n⟩] w fun y w' => y = .returned (.tuple #[]) ∧ SAt w' C S T (Pr.regs s t x q (s.v m)) ∧ Mod (fun k => k = S ∨ k = T) w w' := by
  obtain ⟨Wz, Z, hWz, hZ, hBz, hZl, hZe⟩ := ins_box w ⟨k, (q : Int), (m : Int), n⟩
  have hS := h.below hBz
  obtain ⟨nn, hnn⟩ : ∃ n, n = s.th.length := ⟨_, rfl⟩
  have htn : t < nn := by rw [hnn]; exact (List.getElem?_eq_some_iff.1 hx).1
  have hl4 : nn ≤ 4 := by rw [hnn]; exact hn4
  have HZE := Lib.hid hZe
  have HS := Lib.hid hS
  have HB := Lib.hid hBz
  have HX := Lib.hid hx
  have HTN := Lib.hid hnn.symm
  have k1 : (0 : Int) ≤ (q : Int) := Int.natCast_nonneg _
  have k2 : (q : Int) < 2 := by omega
  have k3 : (0 : Int) ≤ (t : Int) := Int.natCast_nonneg _
  have k4 : (t : Int) < (nn : Int) := by omega
  have k5 : (0 : Int) ≤ (m : Int) := Int.natCast_nonneg _
  have k6 : (m : Int) < 4 := by omega
  simp only at hWz
  unfold valI
  simp only
  clear hZe hS hBz h hx hnn hZl hn4
  go_enter Tryz.func112, Tryz.ntmps112
  go_upto_region 1 with fail
  rw [← hWz, ← hZ]
  clear hWz hZ
  refine wp_region_planF (by kernel_rfl) (fun u => Below Wz.heap.size Wz u) [17] [(0, .pure), (1, .pure), (2, .pure), (3, .load), (4, .pure), (5, .pure), (6, .load), (7, .pure), (8, .pure), (9, .load), (10, .pure), (11, .pure), (12, .pure), (13, .load), (14, .pure), (15, .pure), (16, .pure), (17, .last)] (by simp only [List.map_cons, List.map_nil, List.getElem?_toArray, List.getElem?_cons_succ, List.getElem?_cons_zero]; rfl) (by kernel_rfl) (fun _ _ d _ _ h => by cases d <;> exact h) ((Below.refl _ _).drew) ?_
  obtain ⟨Wd, hWd⟩ : ∃ z, z = Wz.drew := ⟨_, rfl⟩
  rw [← hWd]
  have hbd : Below Wz.heap.size Wz Wd := by rw [hWd]; exact (Below.refl _ _).drew
  have HBD := Lib.hid hbd
  clear hWd hbd
  repeat (first
    | (refine plan_pure (v := ?_) (by rfl) (fun w1 => ?_) ?_
       rotate_left
       · go_simp <;> with_reducible rfl
       simp only [Act.put, List.setIfInBounds_toArray, List.set_cons_zero, List.set_cons_succ])
    | (refine plan_off (by rfl) ?_
       simp only [Act.put, List.setIfInBounds_toArray, List.set_cons_zero, List.set_cons_succ])
    | (refine plan_load_off (by rfl) ?_
       simp only [Act.put, List.setIfInBounds_toArray, List.set_cons_zero, List.set_cons_succ])
    | (refine plan_load (v := ?_) (by rfl) (fun w1 hw1 => ?_) ?_
       rotate_left
       · (have q0 := (HZE.out w1 hw1).1
          have a1 := q0.2.1
          have a2 := q0.2.2.1
          have a3 := q0.2.2.2
          simp only [Nat.zero_add] at a1 a2 a3
          clear q0
          have hq := HS.out.below hw1
          have z3 := HS.out.z3 hw1
          obtain ⟨PA, pc, tc, _, _, _, _, zv, zh, _⟩ := hq.cells
          have b1 := (hq.thread t x HX.out).2.2 q hq2
          rw [HTN.out] at z3
          have ql := hq.lt.2
          have qs := hq.lt.1
          have c1 := zv m hm4
          clear hq zv zh
          clear hw1
          go_simp <;> with_reducible rfl)
       simp only [Act.put, List.setIfInBounds_toArray, List.set_cons_zero, List.set_cons_succ]))
  have hSd := HS.out.below HBD.out
  obtain ⟨hs, hm⟩ := hSd.set_r HX.out hq2 (s.v m)
  have HSS := Lib.hid hs
  have HMM := Lib.hid hm
  have t1 := (hSd.thread t x HX.out).2.2 q hq2
  have f1 := hSd.free.2 (t * 4 + 2 + q)
  have tl := hSd.lt.2
  have sl := hSd.lt.1
  clear hSd hs hm
  refine plan_last ?_
  go_wp2_with fail
  repeat (first
    | (refine plan_pure (v := ?_) (by rfl) (fun w1 => ?_) ?_
       rotate_left
       · go_simp <;> with_reducible rfl
       simp only [Act.put, List.setIfInBounds_toArray, List.set_cons_zero, List.set_cons_succ])
    | (refine plan_off (by rfl) ?_
       simp only [Act.put, List.setIfInBounds_toArray, List.set_cons_zero, List.set_cons_succ])
    | (refine plan_load_off (by rfl) ?_
       simp only [Act.put, List.setIfInBounds_toArray, List.set_cons_zero, List.set_cons_succ])
    | (refine plan_load (v := ?_) (by rfl) (fun w1 hw1 => ?_) ?_
       rotate_left
       · (skip
          clear hw1
          go_simp <;> with_reducible rfl)
       simp only [Act.put, List.setIfInBounds_toArray, List.set_cons_zero, List.set_cons_succ]))
  refine plan_end ?_
  go_wp2_with fail
  go_end0
  exact ⟨rfl, HSS.out, ((Mod.of_below_size HB.out _).trans ((Mod.of_below HBD.out).mono (fun k hk e => by omega))).trans (HMM.out.mono (fun k _ e => Or.inr e))⟩
set_option maxRecDepth 100000 in
set_option maxHeartbeats 2000000 in
theorem store_any (w : World) (C : Nat → Prop) (S T : Nat) (s : St) (t : Nat) (x : Th) (k n : Int) (q m : Nat) (h : SAt w C S T s) (hx : s.th[t]? = some x) (hn4 : s.th.length ≤ 4) (hq2 : q < 2) (hm4 : m < 4) :
    Calls Tryz.prog 113 #[.pointer (some ⟨S, 0, none⟩), .int .i64 (t : Int), valI ⟨k, (q : Int), (m : Int), n⟩] w fun y w' => y = .returned (.tuple #[]) ∧ SAt w' C S T { s with v := updI s.v m (x.r q) } ∧ Mod (fun k => k = S ∨ k = T) w w' := by
  obtain ⟨Wz, Z, hWz, hZ, hBz, hZl, hZe⟩ := ins_box w ⟨k, (q : Int), (m : Int), n⟩
  have hS := h.below hBz
  obtain ⟨nn, hnn⟩ : ∃ n, n = s.th.length := ⟨_, rfl⟩
  have htn : t < nn := by rw [hnn]; exact (List.getElem?_eq_some_iff.1 hx).1
  have hl4 : nn ≤ 4 := by rw [hnn]; exact hn4
  have HZE := Lib.hid hZe
  have HS := Lib.hid hS
  have HB := Lib.hid hBz
  have HX := Lib.hid hx
  have HTN := Lib.hid hnn.symm
  have k1 : (0 : Int) ≤ (q : Int) := Int.natCast_nonneg _
  have k2 : (q : Int) < 2 := by omega
  have k3 : (0 : Int) ≤ (t : Int) := Int.natCast_nonneg _
  have k4 : (t : Int) < (nn : Int) := by omega
  have k5 : (0 : Int) ≤ (m : Int) := Int.natCast_nonneg _
  have k6 : (m : Int) < 4 := by omega
  simp only at hWz
  unfold valI
  simp only
  clear hZe hS hBz h hx hnn hZl hn4
  go_enter Tryz.func113, Tryz.ntmps113
  go_upto_region 1 with fail
  rw [← hWz, ← hZ]
  clear hWz hZ
  refine wp_region_planF (by kernel_rfl) (fun u => Below Wz.heap.size Wz u) [17] [(0, .pure), (1, .pure), (2, .load), (3, .pure), (4, .pure), (5, .pure), (6, .load), (7, .pure), (8, .pure), (9, .load), (10, .pure), (11, .pure), (12, .pure), (13, .load), (14, .pure), (15, .pure), (16, .pure), (17, .last)] (by simp only [List.map_cons, List.map_nil, List.getElem?_toArray, List.getElem?_cons_succ, List.getElem?_cons_zero]; rfl) (by kernel_rfl) (fun _ _ d _ _ h => by cases d <;> exact h) ((Below.refl _ _).drew) ?_
  obtain ⟨Wd, hWd⟩ : ∃ z, z = Wz.drew := ⟨_, rfl⟩
  rw [← hWd]
  have hbd : Below Wz.heap.size Wz Wd := by rw [hWd]; exact (Below.refl _ _).drew
  have HBD := Lib.hid hbd
  clear hWd hbd
  repeat (first
    | (refine plan_pure (v := ?_) (by rfl) (fun w1 => ?_) ?_
       rotate_left
       · go_simp <;> with_reducible rfl
       simp only [Act.put, List.setIfInBounds_toArray, List.set_cons_zero, List.set_cons_succ])
    | (refine plan_off (by rfl) ?_
       simp only [Act.put, List.setIfInBounds_toArray, List.set_cons_zero, List.set_cons_succ])
    | (refine plan_load_off (by rfl) ?_
       simp only [Act.put, List.setIfInBounds_toArray, List.set_cons_zero, List.set_cons_succ])
    | (refine plan_load (v := ?_) (by rfl) (fun w1 hw1 => ?_) ?_
       rotate_left
       · (have q0 := (HZE.out w1 hw1).1
          have a1 := q0.2.1
          have a2 := q0.2.2.1
          have a3 := q0.2.2.2
          simp only [Nat.zero_add] at a1 a2 a3
          clear q0
          have hq := HS.out.below hw1
          have z3 := HS.out.z3 hw1
          obtain ⟨PA, pc, tc, _, _, _, _, zv, zh, _⟩ := hq.cells
          have b1 := (hq.thread t x HX.out).2.2 q hq2
          rw [HTN.out] at z3
          have ql := hq.lt.2
          have qs := hq.lt.1
          have c1 := zv m hm4
          clear hq zv zh
          clear hw1
          go_simp <;> with_reducible rfl)
       simp only [Act.put, List.setIfInBounds_toArray, List.set_cons_zero, List.set_cons_succ]))
  have hSd := HS.out.below HBD.out
  obtain ⟨hs, hm⟩ := hSd.set_v hm4 (x.r q)
  have HSS := Lib.hid hs
  have HMM := Lib.hid hm
  obtain ⟨PA, pc, tc, _, _, _, _, zv, _, _⟩ := hSd.cells
  have c1 := zv m hm4
  have f1 := hSd.free.1 (4 + m)
  clear zv
  have tl := hSd.lt.2
  have sl := hSd.lt.1
  clear hSd hs hm
  refine plan_last ?_
  go_wp2_with fail
  repeat (first
    | (refine plan_pure (v := ?_) (by rfl) (fun w1 => ?_) ?_
       rotate_left
       · go_simp <;> with_reducible rfl
       simp only [Act.put, List.setIfInBounds_toArray, List.set_cons_zero, List.set_cons_succ])
    | (refine plan_off (by rfl) ?_
       simp only [Act.put, List.setIfInBounds_toArray, List.set_cons_zero, List.set_cons_succ])
    | (refine plan_load_off (by rfl) ?_
       simp only [Act.put, List.setIfInBounds_toArray, List.set_cons_zero, List.set_cons_succ])
    | (refine plan_load (v := ?_) (by rfl) (fun w1 hw1 => ?_) ?_
       rotate_left
       · (skip
          clear hw1
          go_simp <;> with_reducible rfl)
       simp only [Act.put, List.setIfInBounds_toArray, List.set_cons_zero, List.set_cons_succ]))
  refine plan_end ?_
  go_wp2_with fail
  go_end0
  exact ⟨rfl, HSS.out, ((Mod.of_below_size HB.out _).trans ((Mod.of_below HBD.out).mono (fun k hk e => by omega))).trans (HMM.out.mono (fun k _ e => Or.inl e))⟩
set_option maxRecDepth 100000 in
set_option maxHeartbeats 2000000 in
theorem set_any (w : World) (C : Nat → Prop) (S T : Nat) (s : St) (t : Nat) (x : Th) (k n : Int) (q m : Nat) (h : SAt w C S T s) (hx : s.th[t]? = some x) (hn4 : s.th.length ≤ 4) (hq2 : q < 2) (hm4 : m < 4) :
    Calls Tryz.prog 114 #[.pointer (some ⟨S, 0, none⟩), .int .i64 (t : Int), valI ⟨k, (q : Int), (m : Int), n⟩] w fun y w' => y = .returned (.tuple #[]) ∧ SAt w' C S T (Pr.regs s t x q n) ∧ Mod (fun k => k = S ∨ k = T) w w' := by
  obtain ⟨Wz, Z, hWz, hZ, hBz, hZl, hZe⟩ := ins_box w ⟨k, (q : Int), (m : Int), n⟩
  have hS := h.below hBz
  obtain ⟨nn, hnn⟩ : ∃ n, n = s.th.length := ⟨_, rfl⟩
  have htn : t < nn := by rw [hnn]; exact (List.getElem?_eq_some_iff.1 hx).1
  have hl4 : nn ≤ 4 := by rw [hnn]; exact hn4
  have HZE := Lib.hid hZe
  have HS := Lib.hid hS
  have HB := Lib.hid hBz
  have HX := Lib.hid hx
  have HTN := Lib.hid hnn.symm
  have k1 : (0 : Int) ≤ (q : Int) := Int.natCast_nonneg _
  have k2 : (q : Int) < 2 := by omega
  have k3 : (0 : Int) ≤ (t : Int) := Int.natCast_nonneg _
  have k4 : (t : Int) < (nn : Int) := by omega
  have k5 : (0 : Int) ≤ (m : Int) := Int.natCast_nonneg _
  have k6 : (m : Int) < 4 := by omega
  simp only at hWz
  unfold valI
  simp only
  clear hZe hS hBz h hx hnn hZl hn4
  go_enter Tryz.func114, Tryz.ntmps114
  go_upto_region 1 with fail
  rw [← hWz, ← hZ]
  clear hWz hZ
  refine wp_region_planF (by kernel_rfl) (fun u => Below Wz.heap.size Wz u) [12] [(0, .pure), (1, .pure), (2, .pure), (3, .load), (4, .pure), (5, .pure), (6, .load), (7, .pure), (8, .load), (9, .pure), (10, .pure), (11, .pure), (12, .last)] (by simp only [List.map_cons, List.map_nil, List.getElem?_toArray, List.getElem?_cons_succ, List.getElem?_cons_zero]; rfl) (by kernel_rfl) (fun _ _ d _ _ h => by cases d <;> exact h) ((Below.refl _ _).drew) ?_
  obtain ⟨Wd, hWd⟩ : ∃ z, z = Wz.drew := ⟨_, rfl⟩
  rw [← hWd]
  have hbd : Below Wz.heap.size Wz Wd := by rw [hWd]; exact (Below.refl _ _).drew
  have HBD := Lib.hid hbd
  clear hWd hbd
  repeat (first
    | (refine plan_pure (v := ?_) (by rfl) (fun w1 => ?_) ?_
       rotate_left
       · go_simp <;> with_reducible rfl
       simp only [Act.put, List.setIfInBounds_toArray, List.set_cons_zero, List.set_cons_succ])
    | (refine plan_off (by rfl) ?_
       simp only [Act.put, List.setIfInBounds_toArray, List.set_cons_zero, List.set_cons_succ])
    | (refine plan_load_off (by rfl) ?_
       simp only [Act.put, List.setIfInBounds_toArray, List.set_cons_zero, List.set_cons_succ])
    | (refine plan_load (v := ?_) (by rfl) (fun w1 hw1 => ?_) ?_
       rotate_left
       · (have q0 := (HZE.out w1 hw1).1
          have a1 := q0.2.1
          have a2 := q0.2.2.1
          have a3 := q0.2.2.2
          simp only [Nat.zero_add] at a1 a2 a3
          clear q0
          have hq := HS.out.below hw1
          have z3 := HS.out.z3 hw1
          obtain ⟨PA, pc, tc, _, _, _, _, zv, zh, _⟩ := hq.cells
          have b1 := (hq.thread t x HX.out).2.2 q hq2
          rw [HTN.out] at z3
          have ql := hq.lt.2
          have qs := hq.lt.1
          have c1 := zv m hm4
          clear hq zv zh
          clear hw1
          go_simp <;> with_reducible rfl)
       simp only [Act.put, List.setIfInBounds_toArray, List.set_cons_zero, List.set_cons_succ]))
  have hSd := HS.out.below HBD.out
  obtain ⟨hs, hm⟩ := hSd.set_r HX.out hq2 n
  have HSS := Lib.hid hs
  have HMM := Lib.hid hm
  have t1 := (hSd.thread t x HX.out).2.2 q hq2
  have f1 := hSd.free.2 (t * 4 + 2 + q)
  have tl := hSd.lt.2
  have sl := hSd.lt.1
  clear hSd hs hm
  refine plan_last ?_
  go_wp2_with fail
  repeat (first
    | (refine plan_pure (v := ?_) (by rfl) (fun w1 => ?_) ?_
       rotate_left
       · go_simp <;> with_reducible rfl
       simp only [Act.put, List.setIfInBounds_toArray, List.set_cons_zero, List.set_cons_succ])
    | (refine plan_off (by rfl) ?_
       simp only [Act.put, List.setIfInBounds_toArray, List.set_cons_zero, List.set_cons_succ])
    | (refine plan_load_off (by rfl) ?_
       simp only [Act.put, List.setIfInBounds_toArray, List.set_cons_zero, List.set_cons_succ])
    | (refine plan_load (v := ?_) (by rfl) (fun w1 hw1 => ?_) ?_
       rotate_left
       · (skip
          clear hw1
          go_simp <;> with_reducible rfl)
       simp only [Act.put, List.setIfInBounds_toArray, List.set_cons_zero, List.set_cons_succ]))
  refine plan_end ?_
  go_wp2_with fail
  go_end0
  exact ⟨rfl, HSS.out, ((Mod.of_below_size HB.out _).trans ((Mod.of_below HBD.out).mono (fun k hk e => by omega))).trans (HMM.out.mono (fun k _ e => Or.inr e))⟩
set_option maxRecDepth 100000 in
set_option maxHeartbeats 2000000 in
theorem add_any (w : World) (C : Nat → Prop) (S T : Nat) (s : St) (t : Nat) (x : Th) (k n : Int) (q m : Nat) (h : SAt w C S T s) (hx : s.th[t]? = some x) (hn4 : s.th.length ≤ 4) (hq2 : q < 2) (hm4 : m < 4) :
    Calls Tryz.prog 115 #[.pointer (some ⟨S, 0, none⟩), .int .i64 (t : Int), valI ⟨k, (q : Int), (m : Int), n⟩] w fun y w' => y = .returned (.tuple #[]) ∧ SAt w' C S T (Pr.regs s t x q (wrap64 (x.r q + n))) ∧ Mod (fun k => k = S ∨ k = T) w w' := by
  obtain ⟨Wz, Z, hWz, hZ, hBz, hZl, hZe⟩ := ins_box w ⟨k, (q : Int), (m : Int), n⟩
  have hS := h.below hBz
  obtain ⟨nn, hnn⟩ : ∃ n, n = s.th.length := ⟨_, rfl⟩
  have htn : t < nn := by rw [hnn]; exact (List.getElem?_eq_some_iff.1 hx).1
  have hl4 : nn ≤ 4 := by rw [hnn]; exact hn4
  have HZE := Lib.hid hZe
  have HS := Lib.hid hS
  have HB := Lib.hid hBz
  have HX := Lib.hid hx
  have HTN := Lib.hid hnn.symm
  have k1 : (0 : Int) ≤ (q : Int) := Int.natCast_nonneg _
  have k2 : (q : Int) < 2 := by omega
  have k3 : (0 : Int) ≤ (t : Int) := Int.natCast_nonneg _
  have k4 : (t : Int) < (nn : Int) := by omega
  have k5 : (0 : Int) ≤ (m : Int) := Int.natCast_nonneg _
  have k6 : (m : Int) < 4 := by omega
  simp only at hWz
  unfold valI
  simp only
  clear hZe hS hBz h hx hnn hZl hn4
  go_enter Tryz.func115, Tryz.ntmps115
  go_upto_region 1 with fail
  rw [← hWz, ← hZ]
  clear hWz hZ
  refine wp_region_planF (by kernel_rfl) (fun u => Below Wz.heap.size Wz u) [17] [(0, .pure), (1, .pure), (2, .pure), (3, .load), (4, .pure), (5, .pure), (6, .load), (7, .pure), (8, .pure), (9, .pure), (10, .load), (11, .pure), (12, .load), (13, .pure), (14, .pure), (15, .pure), (16, .pure), (17, .last)] (by simp only [List.map_cons, List.map_nil, List.getElem?_toArray, List.getElem?_cons_succ, List.getElem?_cons_zero]; rfl) (by kernel_rfl) (fun _ _ d _ _ h => by cases d <;> exact h) ((Below.refl _ _).drew) ?_
  obtain ⟨Wd, hWd⟩ : ∃ z, z = Wz.drew := ⟨_, rfl⟩
  rw [← hWd]
  have hbd : Below Wz.heap.size Wz Wd := by rw [hWd]; exact (Below.refl _ _).drew
  have HBD := Lib.hid hbd
  clear hWd hbd
  repeat (first
    | (refine plan_pure (v := ?_) (by rfl) (fun w1 => ?_) ?_
       rotate_left
       · go_simp <;> with_reducible rfl
       simp only [Act.put, List.setIfInBounds_toArray, List.set_cons_zero, List.set_cons_succ])
    | (refine plan_off (by rfl) ?_
       simp only [Act.put, List.setIfInBounds_toArray, List.set_cons_zero, List.set_cons_succ])
    | (refine plan_load_off (by rfl) ?_
       simp only [Act.put, List.setIfInBounds_toArray, List.set_cons_zero, List.set_cons_succ])
    | (refine plan_load (v := ?_) (by rfl) (fun w1 hw1 => ?_) ?_
       rotate_left
       · (have q0 := (HZE.out w1 hw1).1
          have a1 := q0.2.1
          have a2 := q0.2.2.1
          have a3 := q0.2.2.2
          simp only [Nat.zero_add] at a1 a2 a3
          clear q0
          have hq := HS.out.below hw1
          have z3 := HS.out.z3 hw1
          obtain ⟨PA, pc, tc, _, _, _, _, zv, zh, _⟩ := hq.cells
          have b1 := (hq.thread t x HX.out).2.2 q hq2
          rw [HTN.out] at z3
          have ql := hq.lt.2
          have qs := hq.lt.1
          have c1 := zv m hm4
          clear hq zv zh
          clear hw1
          go_simp <;> with_reducible rfl)
       simp only [Act.put, List.setIfInBounds_toArray, List.set_cons_zero, List.set_cons_succ]))
  have hSd := HS.out.below HBD.out
  obtain ⟨hs, hm⟩ := hSd.set_r HX.out hq2 (wrap64 (x.r q + n))
  have HSS := Lib.hid hs
  have HMM := Lib.hid hm
  have t1 := (hSd.thread t x HX.out).2.2 q hq2
  have f1 := hSd.free.2 (t * 4 + 2 + q)
  have tl := hSd.lt.2
  have sl := hSd.lt.1
  clear hSd hs hm
  refine plan_last ?_
  go_wp2_with fail
  repeat (first
    | (refine plan_pure (v := ?_) (by rfl) (fun w1 => ?_) ?_
       rotate_left
       · go_simp <;> with_reducible rfl
       simp only [Act.put, List.setIfInBounds_toArray, List.set_cons_zero, List.set_cons_succ])
    | (refine plan_off (by rfl) ?_
       simp only [Act.put, List.setIfInBounds_toArray, List.set_cons_zero, List.set_cons_succ])
    | (refine plan_load_off (by rfl) ?_
       simp only [Act.put, List.setIfInBounds_toArray, List.set_cons_zero, List.set_cons_succ])
    | (refine plan_load (v := ?_) (by rfl) (fun w1 hw1 => ?_) ?_
       rotate_left
       · (skip
          clear hw1
          go_simp <;> with_reducible rfl)
       simp only [Act.put, List.setIfInBounds_toArray, List.set_cons_zero, List.set_cons_succ]))
  refine plan_end ?_
  go_wp2_with fail
  go_end0
  exact ⟨rfl, HSS.out, ((Mod.of_below_size HB.out _).trans ((Mod.of_below HBD.out).mono (fun k hk e => by omega))).trans (HMM.out.mono (fun k _ e => Or.inr e))⟩
set_option maxRecDepth 100000 in
set_option maxHeartbeats 2000000 in
theorem lock_any (w : World) (C : Nat → Prop) (S T : Nat) (s : St) (t : Nat) (x : Th) (k n : Int) (q m : Nat) (h : SAt w C S T s) (hx : s.th[t]? = some x) (hn4 : s.th.length ≤ 4) (hq2 : q < 2) (hm4 : m < 2) :
    Calls Tryz.prog 116 #[.pointer (some ⟨S, 0, none⟩), .int .i64 (t : Int), valI ⟨k, (q : Int), (m : Int), n⟩] w fun y w' => y = .returned (.tuple #[]) ∧ SAt w' C S T { s with h := updI s.h m (t : Int) } ∧ Mod (fun k => k = S ∨ k = T) w w' := by
  obtain ⟨Wz, Z, hWz, hZ, hBz, hZl, hZe⟩ := ins_box w ⟨k, (q : Int), (m : Int), n⟩
  have hS := h.below hBz
  obtain ⟨nn, hnn⟩ : ∃ n, n = s.th.length := ⟨_, rfl⟩
  have htn : t < nn := by rw [hnn]; exact (List.getElem?_eq_some_iff.1 hx).1
  have hl4 : nn ≤ 4 := by rw [hnn]; exact hn4
  have HZE := Lib.hid hZe
  have HS := Lib.hid hS
  have HB := Lib.hid hBz
  have HX := Lib.hid hx
  have HTN := Lib.hid hnn.symm
  have k1 : (0 : Int) ≤ (q : Int) := Int.natCast_nonneg _
  have k2 : (q : Int) < 2 := by omega
  have k3 : (0 : Int) ≤ (t : Int) := Int.natCast_nonneg _
  have k4 : (t : Int) < (nn : Int) := by omega
  have k5 : (0 : Int) ≤ (m : Int) := Int.natCast_nonneg _
  have k6 : (m : Int) < 2 := by omega
  simp only at hWz
  unfold valI
  simp only
  clear hZe hS hBz h hx hnn hZl hn4
  go_enter Tryz.func116, Tryz.ntmps116
  go_upto_region 1 with fail
  rw [← hWz, ← hZ]
  clear hWz hZ
  refine wp_region_planF (by kernel_rfl) (fun u => Below Wz.heap.size Wz u) [7] [(0, .pure), (1, .pure), (2, .load), (3, .pure), (4, .pure), (5, .pure), (6, .pure), (7, .last)] (by simp only [List.map_cons, List.map_nil, List.getElem?_toArray, List.getElem?_cons_succ, List.getElem?_cons_zero]; rfl) (by kernel_rfl) (fun _ _ d _ _ h => by cases d <;> exact h) ((Below.refl _ _).drew) ?_
  obtain ⟨Wd, hWd⟩ : ∃ z, z = Wz.drew := ⟨_, rfl⟩
  rw [← hWd]
  have hbd : Below Wz.heap.size Wz Wd := by rw [hWd]; exact (Below.refl _ _).drew
  have HBD := Lib.hid hbd
  clear hWd hbd
  repeat (first
    | (refine plan_pure (v := ?_) (by rfl) (fun w1 => ?_) ?_
       rotate_left
       · go_simp <;> with_reducible rfl
       simp only [Act.put, List.setIfInBounds_toArray, List.set_cons_zero, List.set_cons_succ])
    | (refine plan_off (by rfl) ?_
       simp only [Act.put, List.setIfInBounds_toArray, List.set_cons_zero, List.set_cons_succ])
    | (refine plan_load_off (by rfl) ?_
       simp only [Act.put, List.setIfInBounds_toArray, List.set_cons_zero, List.set_cons_succ])
    | (refine plan_load (v := ?_) (by rfl) (fun w1 hw1 => ?_) ?_
       rotate_left
       · (have q0 := (HZE.out w1 hw1).1
          have a1 := q0.2.1
          have a2 := q0.2.2.1
          have a3 := q0.2.2.2
          simp only [Nat.zero_add] at a1 a2 a3
          clear q0
          have hq := HS.out.below hw1
          have z3 := HS.out.z3 hw1
          obtain ⟨PA, pc, tc, _, _, _, _, zv, zh, _⟩ := hq.cells
          have b1 := (hq.thread t x HX.out).2.2 q hq2
          rw [HTN.out] at z3
          have ql := hq.lt.2
          have qs := hq.lt.1
          have c1 := zh m hm4
          clear hq zv zh
          clear hw1
          go_simp <;> with_reducible rfl)
       simp only [Act.put, List.setIfInBounds_toArray, List.set_cons_zero, List.set_cons_succ]))
  have hSd := HS.out.below HBD.out
  obtain ⟨hs, hm⟩ := hSd.set_h hm4 (t : Int)
  have HSS := Lib.hid hs
  have HMM := Lib.hid hm
  obtain ⟨PA, pc, tc, _, _, _, _, _, zh, _⟩ := hSd.cells
  have c1 := zh m hm4
  have f1 := hSd.free.1 (8 + m)
  clear zh
  have tl := hSd.lt.2
  have sl := hSd.lt.1
  clear hSd hs hm
  refine plan_last ?_
  go_wp2_with fail
  repeat (first
    | (refine plan_pure (v := ?_) (by rfl) (fun w1 => ?_) ?_
       rotate_left
       · go_simp <;> with_reducible rfl
       simp only [Act.put, List.setIfInBounds_toArray, List.set_cons_zero, List.set_cons_succ])
    | (refine plan_off (by rfl) ?_
       simp only [Act.put, List.setIfInBounds_toArray, List.set_cons_zero, List.set_cons_succ])
    | (refine plan_load_off (by rfl) ?_
       simp only [Act.put, List.setIfInBounds_toArray, List.set_cons_zero, List.set_cons_succ])
    | (refine plan_load (v := ?_) (by rfl) (fun w1 hw1 => ?_) ?_
       rotate_left
       · (skip
          clear hw1
          go_simp <;> with_reducible rfl)
       simp only [Act.put, List.setIfInBounds_toArray, List.set_cons_zero, List.set_cons_succ]))
  refine plan_end ?_
  go_wp2_with fail
  go_end0
  exact ⟨rfl, HSS.out, ((Mod.of_below_size HB.out _).trans ((Mod.of_below HBD.out).mono (fun k hk e => by omega))).trans (HMM.out.mono (fun k _ e => Or.inl e))⟩
set_option maxRecDepth 100000 in
set_option maxHeartbeats 2000000 in
theorem unlock_any (w : World) (C : Nat → Prop) (S T : Nat) (s : St) (t : Nat) (x : Th) (k n : Int) (q m : Nat) (h : SAt w C S T s) (hx : s.th[t]? = some x) (hn4 : s.th.length ≤ 4) (hq2 : q < 2) (hm4 : m < 2) (s' : St) (hs' : s' = if s.h m = (t : Int) then { s with h := updI s.h m (-1) } else s) :
    Calls Tryz.prog 117 #[.pointer (some ⟨S, 0, none⟩), .int .i64 (t : Int), valI ⟨k, (q : Int), (m : Int), n⟩] w fun y w' => y = .returned (.tuple #[]) ∧ SAt w' C S T s' ∧ Mod (fun k => k = S ∨ k = T) w w' := by
  have HSP := Lib.hid hs'
  clear hs'
  obtain ⟨Wz, Z, hWz, hZ, hBz, hZl, hZe⟩ := ins_box w ⟨k, (q : Int), (m : Int), n⟩
  have hS := h.below hBz
  obtain ⟨nn, hnn⟩ : ∃ n, n = s.th.length := ⟨_, rfl⟩
  have htn : t < nn := by rw [hnn]; exact (List.getElem?_eq_some_iff.1 hx).1
  have hl4 : nn ≤ 4 := by rw [hnn]; exact hn4
  have HZE := Lib.hid hZe
  have HS := Lib.hid hS
  have HB := Lib.hid hBz
  have HX := Lib.hid hx
  have HTN := Lib.hid hnn.symm
  have k1 : (0 : Int) ≤ (q : Int) := Int.natCast_nonneg _
  have k2 : (q : Int) < 2 := by omega
  have k3 : (0 : Int) ≤ (t : Int) := Int.natCast_nonneg _
  have k4 : (t : Int) < (nn : Int) := by omega
  have k5 : (0 : Int) ≤ (m : Int) := Int.natCast_nonneg _
  have k6 : (m : Int) < 2 := by omega
  simp only at hWz
  unfold valI
  simp only
  clear hZe hS hBz h hx hnn hZl hn4
  go_enter Tryz.func117, Tryz.ntmps117
  go_upto_region 1 with fail
  rw [← hWz, ← hZ]
  clear hWz hZ
  refine wp_region_planF (by kernel_rfl) (fun u => Below Wz.heap.size Wz u) [] [(0, .pure), (1, .pure), (2, .load), (3, .pure), (4, .pure), (5, .pure), (6, .load), (7, .pure), (8, .pure)] (by simp only [List.map_cons, List.map_nil, List.getElem?_toArray, List.getElem?_cons_succ, List.getElem?_cons_zero]; rfl) (by kernel_rfl) (fun _ _ d _ _ h => by cases d <;> exact h) ((Below.refl _ _).drew) ?_
  obtain ⟨Wd, hWd⟩ : ∃ z, z = Wz.drew := ⟨_, rfl⟩
  rw [← hWd]
  have hbd : Below Wz.heap.size Wz Wd := by rw [hWd]; exact (Below.refl _ _).drew
  have HBD := Lib.hid hbd
  clear hWd hbd
  by_cases hh : s.h m = (t : Int)
  · have hd : (s.h m == (t : Int)) = true := by simpa using hh
    have HH := Lib.hid hh
    repeat (first
      | (refine plan_pure (v := ?_) (by rfl) (fun w1 => ?_) ?_
         rotate_left
         · go_simp <;> with_reducible rfl
         simp only [Act.put, List.setIfInBounds_toArray, List.set_cons_zero, List.set_cons_succ])
      | (refine plan_off (by rfl) ?_
         simp only [Act.put, List.setIfInBounds_toArray, List.set_cons_zero, List.set_cons_succ])
      | (refine plan_load_off (by rfl) ?_
         simp only [Act.put, List.setIfInBounds_toArray, List.set_cons_zero, List.set_cons_succ])
      | (refine plan_load (v := ?_) (by rfl) (fun w1 hw1 => ?_) ?_
         rotate_left
         · (have q0 := (HZE.out w1 hw1).1
            have a1 := q0.2.1
            have a2 := q0.2.2.1
            have a3 := q0.2.2.2
            simp only [Nat.zero_add] at a1 a2 a3
            clear q0
            have hq := HS.out.below hw1
            have z3 := HS.out.z3 hw1
            obtain ⟨PA, pc, tc, _, _, _, _, zv, zh, _⟩ := hq.cells
            have b1 := (hq.thread t x HX.out).2.2 q hq2
            rw [HTN.out] at z3
            have ql := hq.lt.2
            have qs := hq.lt.1
            have c1 := zh m hm4
            clear hq zv zh
            clear hw1
            go_simp <;> with_reducible rfl)
         simp only [Act.put, List.setIfInBounds_toArray, List.set_cons_zero, List.set_cons_succ]))
    refine plan_end ?_
    clear hh
    go_upto_region 2 with fail
    refine wp_region_planF (by kernel_rfl) (fun u => Below Wz.heap.size Wz u) [6] [(0, .pure), (1, .pure), (2, .load), (3, .pure), (4, .pure), (5, .pure), (6, .last)] (by simp only [List.map_cons, List.map_nil, List.getElem?_toArray, List.getElem?_cons_succ, List.getElem?_cons_zero]; rfl) (by kernel_rfl) (fun _ _ d _ _ h => by cases d <;> exact h) (HBD.out.drew) ?_
    obtain ⟨We, hWd⟩ : ∃ z, z = Wd.drew := ⟨_, rfl⟩
    rw [← hWd]
    have hbd : Below Wz.heap.size Wz We := by rw [hWd]; exact HBD.out.drew
    have HBE := Lib.hid hbd
    clear hWd hbd
    repeat (first
      | (refine plan_pure (v := ?_) (by rfl) (fun w1 => ?_) ?_
         rotate_left
         · go_simp <;> with_reducible rfl
         simp only [Act.put, List.setIfInBounds_toArray, List.set_cons_zero, List.set_cons_succ])
      | (refine plan_off (by rfl) ?_
         simp only [Act.put, List.setIfInBounds_toArray, List.set_cons_zero, List.set_cons_succ])
      | (refine plan_load_off (by rfl) ?_
         simp only [Act.put, List.setIfInBounds_toArray, List.set_cons_zero, List.set_cons_succ])
      | (refine plan_load (v := ?_) (by rfl) (fun w1 hw1 => ?_) ?_
         rotate_left
         · (have q0 := (HZE.out w1 hw1).1
            have a1 := q0.2.1
            have a2 := q0.2.2.1
            have a3 := q0.2.2.2
            simp only [Nat.zero_add] at a1 a2 a3
            clear q0
            have hq := HS.out.below hw1
            have z3 := HS.out.z3 hw1
            obtain ⟨PA, pc, tc, _, _, _, _, zv, zh, _⟩ := hq.cells
            have b1 := (hq.thread t x HX.out).2.2 q hq2
            rw [HTN.out] at z3
            have ql := hq.lt.2
            have qs := hq.lt.1
            have c1 := zh m hm4
            clear hq zv zh
            clear hw1
            go_simp <;> with_reducible rfl)
         simp only [Act.put, List.setIfInBounds_toArray, List.set_cons_zero, List.set_cons_succ]))
    have hSd := HS.out.below HBE.out
    obtain ⟨hs, hm⟩ := hSd.set_h hm4 (-1)
    have HSS := Lib.hid hs
    have HMM := Lib.hid hm
    obtain ⟨PA, pc, tc, _, _, _, _, _, zh, _⟩ := hSd.cells
    have c1 := zh m hm4
    have f1 := hSd.free.1 (8 + m)
    clear zh
    have tl := hSd.lt.2
    have sl := hSd.lt.1
    clear hSd hs hm
    refine plan_last ?_
    go_wp2_with fail
    repeat (first
      | (refine plan_pure (v := ?_) (by rfl) (fun w1 => ?_) ?_
         rotate_left
         · go_simp <;> with_reducible rfl
         simp only [Act.put, List.setIfInBounds_toArray, List.set_cons_zero, List.set_cons_succ])
      | (refine plan_off (by rfl) ?_
         simp only [Act.put, List.setIfInBounds_toArray, List.set_cons_zero, List.set_cons_succ])
      | (refine plan_load_off (by rfl) ?_
         simp only [Act.put, List.setIfInBounds_toArray, List.set_cons_zero, List.set_cons_succ])
      | (refine plan_load (v := ?_) (by rfl) (fun w1 hw1 => ?_) ?_
         rotate_left
         · (skip
            clear hw1
            go_simp <;> with_reducible rfl)
         simp only [Act.put, List.setIfInBounds_toArray, List.set_cons_zero, List.set_cons_succ]))
    refine plan_end ?_
    go_wp2_with fail
    go_end0
    exact ⟨rfl, by rw [HSP.out, if_pos HH.out]; exact HSS.out, ((Mod.of_below_size HB.out _).trans ((Mod.of_below HBE.out).mono (fun k hk e => by omega))).trans (HMM.out.mono (fun k _ e => Or.inl e))⟩
  · have hd : (s.h m == (t : Int)) = false := by simpa using hh
    have HH := Lib.hid hh
    repeat (first
      | (refine plan_pure (v := ?_) (by rfl) (fun w1 => ?_) ?_
         rotate_left
         · go_simp <;> with_reducible rfl
         simp only [Act.put, List.setIfInBounds_toArray, List.set_cons_zero, List.set_cons_succ])
      | (refine plan_off (by rfl) ?_
         simp only [Act.put, List.setIfInBounds_toArray, List.set_cons_zero, List.set_cons_succ])
      | (refine plan_load_off (by rfl) ?_
         simp only [Act.put, List.setIfInBounds_toArray, List.set_cons_zero, List.set_cons_succ])
      | (refine plan_load (v := ?_) (by rfl) (fun w1 hw1 => ?_) ?_
         rotate_left
         · (have q0 := (HZE.out w1 hw1).1
            have a1 := q0.2.1
            have a2 := q0.2.2.1
            have a3 := q0.2.2.2
            simp only [Nat.zero_add] at a1 a2 a3
            clear q0
            have hq := HS.out.below hw1
            have z3 := HS.out.z3 hw1
            obtain ⟨PA, pc, tc, _, _, _, _, zv, zh, _⟩ := hq.cells
            have b1 := (hq.thread t x HX.out).2.2 q hq2
            rw [HTN.out] at z3
            have ql := hq.lt.2
            have qs := hq.lt.1
            have c1 := zh m hm4
            clear hq zv zh
            clear hw1
            go_simp <;> with_reducible rfl)
         simp only [Act.put, List.setIfInBounds_toArray, List.set_cons_zero, List.set_cons_succ]))
    refine plan_end ?_
    go_wp2_with fail
    go_end0
    exact ⟨rfl, by rw [HSP.out, if_neg HH.out]; exact HS.out.below HBD.out, (Mod.of_below_size HB.out _).trans ((Mod.of_below HBD.out).mono (fun k hk e => by omega))⟩
set_option maxRecDepth 100000 in
set_option maxHeartbeats 2000000 in
theorem jump_any (w : World) (C : Nat → Prop) (S T : Nat) (s : St) (t : Nat) (x : Th) (k n : Int) (q m : Nat) (h : SAt w C S T s) (hx : s.th[t]? = some x) (hn4 : s.th.length ≤ 4) (hq2 : q < 2) (hm4 : m < 9) (s' : St) (hs' : s' = if x.r q = 0 then s else { s with th := s.th.set t { x with pc := m } }) :
    Calls Tryz.prog 118 #[.pointer (some ⟨S, 0, none⟩), .int .i64 (t : Int), valI ⟨k, (q : Int), (m : Int), n⟩] w fun y w' => y = .returned (.tuple #[]) ∧ SAt w' C S T s' ∧ Mod (fun k => k = S ∨ k = T) w w' := by
  have HSP := Lib.hid hs'
  clear hs'
  obtain ⟨Wz, Z, hWz, hZ, hBz, hZl, hZe⟩ := ins_box w ⟨k, (q : Int), (m : Int), n⟩
  have hS := h.below hBz
  obtain ⟨nn, hnn⟩ : ∃ n, n = s.th.length := ⟨_, rfl⟩
  have htn : t < nn := by rw [hnn]; exact (List.getElem?_eq_some_iff.1 hx).1
  have hl4 : nn ≤ 4 := by rw [hnn]; exact hn4
  have HZE := Lib.hid hZe
  have HS := Lib.hid hS
  have HB := Lib.hid hBz
  have HX := Lib.hid hx
  have HTN := Lib.hid hnn.symm
  have k1 : (0 : Int) ≤ (q : Int) := Int.natCast_nonneg _
  have k2 : (q : Int) < 2 := by omega
  have k3 : (0 : Int) ≤ (t : Int) := Int.natCast_nonneg _
  have k4 : (t : Int) < (nn : Int) := by omega
  have k5 : (0 : Int) ≤ (m : Int) := Int.natCast_nonneg _
  have k6 : (m : Int) < 9 := by omega
  simp only at hWz
  unfold valI
  simp only
  clear hZe hS hBz h hx hnn hZl hn4
  go_enter Tryz.func118, Tryz.ntmps118
  go_upto_region 1 with fail
  rw [← hWz, ← hZ]
  clear hWz hZ
  refine wp_region_planF (by kernel_rfl) (fun u => Below Wz.heap.size Wz u) [] [(0, .pure), (1, .pure), (2, .pure), (3, .load), (4, .pure), (5, .pure), (6, .load), (7, .pure), (8, .pure), (9, .pure), (10, .load), (11, .pure)] (by simp only [List.map_cons, List.map_nil, List.getElem?_toArray, List.getElem?_cons_succ, List.getElem?_cons_zero]; rfl) (by kernel_rfl) (fun _ _ d _ _ h => by cases d <;> exact h) ((Below.refl _ _).drew) ?_
  obtain ⟨Wd, hWd⟩ : ∃ z, z = Wz.drew := ⟨_, rfl⟩
  rw [← hWd]
  have hbd : Below Wz.heap.size Wz Wd := by rw [hWd]; exact (Below.refl _ _).drew
  have HBD := Lib.hid hbd
  clear hWd hbd
  by_cases hh : x.r q = 0
  · have hd : (x.r q == 0) = true := by simpa using hh
    have HH := Lib.hid hh
    repeat (first
      | (refine plan_pure (v := ?_) (by rfl) (fun w1 => ?_) ?_
         rotate_left
         · go_simp <;> with_reducible rfl
         simp only [Act.put, List.setIfInBounds_toArray, List.set_cons_zero, List.set_cons_succ])
      | (refine plan_off (by rfl) ?_
         simp only [Act.put, List.setIfInBounds_toArray, List.set_cons_zero, List.set_cons_succ])
      | (refine plan_load_off (by rfl) ?_
         simp only [Act.put, List.setIfInBounds_toArray, List.set_cons_zero, List.set_cons_succ])
      | (refine plan_load (v := ?_) (by rfl) (fun w1 hw1 => ?_) ?_
         rotate_left
         · (have q0 := (HZE.out w1 hw1).1
            have a1 := q0.2.1
            have a2 := q0.2.2.1
            have a3 := q0.2.2.2
            simp only [Nat.zero_add] at a1 a2 a3
            clear q0
            have hq := HS.out.below hw1
            have z3 := HS.out.z3 hw1
            obtain ⟨PA, pc, tc, _, _, _, _, zv, zh, _⟩ := hq.cells
            have b1 := (hq.thread t x HX.out).2.2 q hq2
            rw [HTN.out] at z3
            have ql := hq.lt.2
            have qs := hq.lt.1
            clear hq zv zh
            clear hw1
            go_simp <;> with_reducible rfl)
         simp only [Act.put, List.setIfInBounds_toArray, List.set_cons_zero, List.set_cons_succ]))
    refine plan_end ?_
    go_wp2_with fail
    go_end0
    exact ⟨rfl, by rw [HSP.out, if_pos HH.out]; exact HS.out.below HBD.out, (Mod.of_below_size HB.out _).trans ((Mod.of_below HBD.out).mono (fun k hk e => by omega))⟩
  · have hd : (x.r q == 0) = false := by simpa using hh
    have hd2 : (x.r q != 0) = true := by simpa using hh
    have HH := Lib.hid hh
    repeat (first
      | (refine plan_pure (v := ?_) (by rfl) (fun w1 => ?_) ?_
         rotate_left
         · go_simp <;> with_reducible rfl
         simp only [Act.put, List.setIfInBounds_toArray, List.set_cons_zero, List.set_cons_succ])
      | (refine plan_off (by rfl) ?_
         simp only [Act.put, List.setIfInBounds_toArray, List.set_cons_zero, List.set_cons_succ])
      | (refine plan_load_off (by rfl) ?_
         simp only [Act.put, List.setIfInBounds_toArray, List.set_cons_zero, List.set_cons_succ])
      | (refine plan_load (v := ?_) (by rfl) (fun w1 hw1 => ?_) ?_
         rotate_left
         · (have q0 := (HZE.out w1 hw1).1
            have a1 := q0.2.1
            have a2 := q0.2.2.1
            have a3 := q0.2.2.2
            simp only [Nat.zero_add] at a1 a2 a3
            clear q0
            have hq := HS.out.below hw1
            have z3 := HS.out.z3 hw1
            obtain ⟨PA, pc, tc, _, _, _, _, zv, zh, _⟩ := hq.cells
            have b1 := (hq.thread t x HX.out).2.2 q hq2
            rw [HTN.out] at z3
            have ql := hq.lt.2
            have qs := hq.lt.1
            clear hq zv zh
            clear hw1
            go_simp <;> with_reducible rfl)
         simp only [Act.put, List.setIfInBounds_toArray, List.set_cons_zero, List.set_cons_succ]))
    refine plan_end ?_
    clear hh
    go_upto_region 2 with fail
    refine wp_region_planF (by kernel_rfl) (fun u => Below Wz.heap.size Wz u) [9] [(0, .pure), (1, .pure), (2, .pure), (3, .load), (4, .pure), (5, .pure), (6, .load), (7, .pure), (8, .pure), (9, .last)] (by simp only [List.map_cons, List.map_nil, List.getElem?_toArray, List.getElem?_cons_succ, List.getElem?_cons_zero]; rfl) (by kernel_rfl) (fun _ _ d _ _ h => by cases d <;> exact h) (HBD.out.drew) ?_
    obtain ⟨We, hWd⟩ : ∃ z, z = Wd.drew := ⟨_, rfl⟩
    rw [← hWd]
    have hbd : Below Wz.heap.size Wz We := by rw [hWd]; exact HBD.out.drew
    have HBE := Lib.hid hbd
    clear hWd hbd
    repeat (first
      | (refine plan_pure (v := ?_) (by rfl) (fun w1 => ?_) ?_
         rotate_left
         · go_simp <;> with_reducible rfl
         simp only [Act.put, List.setIfInBounds_toArray, List.set_cons_zero, List.set_cons_succ])
      | (refine plan_off (by rfl) ?_
         simp only [Act.put, List.setIfInBounds_toArray, List.set_cons_zero, List.set_cons_succ])
      | (refine plan_load_off (by rfl) ?_
         simp only [Act.put, List.setIfInBounds_toArray, List.set_cons_zero, List.set_cons_succ])
      | (refine plan_load (v := ?_) (by rfl) (fun w1 hw1 => ?_) ?_
         rotate_left
         · (have q0 := (HZE.out w1 hw1).1
            have a1 := q0.2.1
            have a2 := q0.2.2.1
            have a3 := q0.2.2.2
            simp only [Nat.zero_add] at a1 a2 a3
            clear q0
            have hq := HS.out.below hw1
            have z3 := HS.out.z3 hw1
            obtain ⟨PA, pc, tc, _, _, _, _, zv, zh, _⟩ := hq.cells
            have b1 := (hq.thread t x HX.out).2.2 q hq2
            rw [HTN.out] at z3
            have ql := hq.lt.2
            have qs := hq.lt.1
            clear hq zv zh
            clear hw1
            go_simp <;> with_reducible rfl)
         simp only [Act.put, List.setIfInBounds_toArray, List.set_cons_zero, List.set_cons_succ]))
    have hSd := HS.out.below HBE.out
    obtain ⟨hs, hm⟩ := hSd.set_pc HX.out m
    have HSS := Lib.hid hs
    have HMM := Lib.hid hm
    have t1 := (hSd.thread t x HX.out).1
    have f1 := hSd.free.2 (t * 4)
    have tl := hSd.lt.2
    have sl := hSd.lt.1
    clear hSd hs hm
    refine plan_last ?_
    go_wp2_with fail
    repeat (first
      | (refine plan_pure (v := ?_) (by rfl) (fun w1 => ?_) ?_
         rotate_left
         · go_simp <;> with_reducible rfl
         simp only [Act.put, List.setIfInBounds_toArray, List.set_cons_zero, List.set_cons_succ])
      | (refine plan_off (by rfl) ?_
         simp only [Act.put, List.setIfInBounds_toArray, List.set_cons_zero, List.set_cons_succ])
      | (refine plan_load_off (by rfl) ?_
         simp only [Act.put, List.setIfInBounds_toArray, List.set_cons_zero, List.set_cons_succ])
      | (refine plan_load (v := ?_) (by rfl) (fun w1 hw1 => ?_) ?_
         rotate_left
         · (skip
            clear hw1
            go_simp <;> with_reducible rfl)
         simp only [Act.put, List.setIfInBounds_toArray, List.set_cons_zero, List.set_cons_succ]))
    refine plan_end ?_
    go_wp2_with fail
    go_end0
    exact ⟨rfl, by rw [HSP.out, if_neg HH.out]; exact HSS.out, ((Mod.of_below_size HB.out _).trans ((Mod.of_below HBE.out).mono (fun k hk e => by omega))).trans (HMM.out.mono (fun k _ e => Or.inr e))⟩
set_option maxRecDepth 100000 in
set_option maxHeartbeats 2000000 in
theorem assert_any (w : World) (C : Nat → Prop) (S T : Nat) (s : St) (t : Nat) (x : Th) (k n : Int) (q m : Nat) (h : SAt w C S T s) (hx : s.th[t]? = some x) (hn4 : s.th.length ≤ 4) (hq2 : q < 2) (hm4 : m < 9) :
    Calls Tryz.prog 119 #[.pointer (some ⟨S, 0, none⟩), .int .i64 (t : Int), valI ⟨k, (q : Int), (m : Int), n⟩] w fun y w' => y = .returned (.tuple #[]) ∧ SAt w' C S T s ∧ Mod (fun k => k = S ∨ k = T) w w' := by
  obtain ⟨Wz, Z, hWz, hZ, hBz, hZl, hZe⟩ := ins_box w ⟨k, (q : Int), (m : Int), n⟩
  have hS := h.below hBz
  obtain ⟨nn, hnn⟩ : ∃ n, n = s.th.length := ⟨_, rfl⟩
  have htn : t < nn := by rw [hnn]; exact (List.getElem?_eq_some_iff.1 hx).1
  have hl4 : nn ≤ 4 := by rw [hnn]; exact hn4
  have HZE := Lib.hid hZe
  have HS := Lib.hid hS
  have HB := Lib.hid hBz
  have HX := Lib.hid hx
  have HTN := Lib.hid hnn.symm
  have k1 : (0 : Int) ≤ (q : Int) := Int.natCast_nonneg _
  have k2 : (q : Int) < 2 := by omega
  have k3 : (0 : Int) ≤ (t : Int) := Int.natCast_nonneg _
  have k4 : (t : Int) < (nn : Int) := by omega
  have k5 : (0 : Int) ≤ (m : Int) := Int.natCast_nonneg _
  have k6 : (m : Int) < 9 := by omega
  simp only at hWz
  unfold valI
  simp only
  clear hZe hS hBz h hx hnn hZl hn4
  go_enter Tryz.func119, Tryz.ntmps119
  go_wp2_with fail
  go_end0
  rw [← hWz]
  exact ⟨rfl, HS.out, Mod.of_below_size HB.out _⟩
end Go.Proofs.YtckdofjpoajblaaGreat
