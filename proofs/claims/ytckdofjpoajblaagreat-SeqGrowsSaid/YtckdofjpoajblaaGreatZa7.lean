/- Part 7 of the proof of seqExact_holds: what it rests on. -/
import Derived.Test.YtckdofjpoajblaaGreatZa6
namespace Go.Proofs.YtckdofjpoajblaaGreat
open Go.RowKit
set_option linter.unusedVariables false
namespace Pr
def evOf (s : St) (t : Nat) (i : Ins) : Ev :=
  if i.k = 1 then ⟨t, 2, i.x, false⟩ else if i.k = 2 then ⟨t, 3, i.x, false⟩ else if i.k = 5 then ⟨t, 4, i.x, false⟩
  else if i.k = 6 then (if s.h i.x.toNat = t then ⟨t, 5, i.x, false⟩ else ⟨t, 1, 0, true⟩)
  else if i.k = 8 then ⟨t, 1, 0, decide (((s.th[t]?).map (fun x => x.r i.r.toNat)).getD 0 = 0)⟩ else ⟨t, 1, 0, false⟩
def next (s : St) (t : Nat) : Option Ev := (ins s t).map (evOf s t)
def zeroE : Ev := ⟨0, 0, 0, false⟩
end Pr
def evCells (e : Ev) : Array Value := #[.int .i64 e.t, .int .i64 e.k, .int .i64 e.o, .bool e.f]
set_option maxRecDepth 100000 in
set_option maxHeartbeats 4000000 in
theorem next_any (w : World) (C : Nat → Prop) (S T : Nat) (s : St) (t : Nat) (h : SAt w C S T s) (hw : Pr.Wf s) (ht : t < s.th.length) :
    Calls Tryz.prog 58 #[.pointer (some ⟨S, 0, none⟩), .int .i64 (t : Int)] w fun x w' => x = .returned (.tuple #[valE ((Pr.next s t).getD Pr.zeroE), .bool (Pr.next s t).isSome]) ∧ Below w.heap.size w w' := by
  obtain ⟨Wa, X, hWa, hX, hBa, hXl, hXk⟩ : ∃ Wa X, Wa = w.alloc (Obj.cells #[.int .i64 0, .int .i64 0, .int .i64 0, .bool false] 51) ∧ X = w.heap.size ∧ Below w.heap.size w Wa ∧ X < Wa.heap.size ∧ Wa.heap[X]? = some (.cells #[.int .i64 0, .int .i64 0, .int .i64 0, .bool false] 51 (0, 0)) :=
    ⟨_, _, rfl, rfl, (Below.refl _ _).alloc (Nat.le_refl _) _, by simp, heap_alloc_new w _⟩
  have hS := h.below hBa
  have hcall := instr_any Wa C S T s t hS hw ht
  have hio : ∀ i, Pr.ins s t = some i → ∃ n : Int, 0 ≤ n ∧ n ≤ 8 ∧ Pr.InsOk s.p.vars s.p.mtx n i := fun i hi => hw.insOk hi
  obtain ⟨q, hq⟩ : ∃ q, q = Pr.ins s t := ⟨_, rfl⟩
  have hnx : Pr.next s t = q.map (Pr.evOf s t) := by unfold Pr.next; rw [hq]
  rw [← hq] at hcall hio
  rw [hnx]
  have hxw : w.heap.size ≤ X := Nat.le_of_eq hX.symm
  have HCALL := Lib.hid hcall
  have HIO := Lib.hid hio
  have HS := Lib.hid h
  have HBA := Lib.hid hBa
  have HXK := Lib.hid hXk
  have HXW := Lib.hid hxw
  have HWF := Lib.hid hw
  have HT := Lib.hid ht
  clear hcall hio hS hBa hXk hq hnx h hw hxw ht
  go_enter Tryz.func58, Tryz.ntmps58
  go_upto_region 1 with fail
  rw [← hWa, ← hX]
  clear hWa hX
  go_wp2_with fail
  refine HCALL.out.mono ?_
  rintro y w1 ⟨rfl, b1⟩
  have HB1 := Lib.hid b1
  clear b1 HCALL
  cases q with
  | none =>
    simp only [Option.getD_none, Option.isSome_none, valI, Pr.zeroI] at *
    go_upto_region 2 with fail
    obtain ⟨Wb, hWb⟩ : ∃ Wb, Wb = w1.alloc (Obj.cells #[.int .i64 0, .int .i64 0, .int .i64 0, .int .i64 0] 98) := ⟨_, rfl⟩
    rw [← hWb]
    have hb : Below w1.heap.size w1 Wb := by rw [hWb]; exact (Below.refl _ _).alloc (Nat.le_refl _) _
    have hb2 := below_at HB1.out hb
    have hXb := (hb2.block X hXl).trans HXK.out
    obtain ⟨V2, hV2, ⟨d0, d1, d2, d3⟩, hmv⟩ := in4_exit hXb (.int .i64 0) (.int .i64 0) (.int .i64 0) (.bool false)
    obtain ⟨⟨e0, e1, e2, e3⟩, el, g0, g1, g2, g3⟩ := in4_cells hXb
    have HV2 := Lib.hid hV2
    have HMV := Lib.hid hmv
    have HB2 := Lib.hid (below_at HBA.out hb2)
    clear hV2 hmv hWb hb hb2 hXb
    go_wp2_with fail
    rw [← HV2.out]
    refine bodyPost_ret (v := .tuple #[.agg #[.int .i64 0, .int .i64 0, .int .i64 0, .bool false], .bool false]) (by simp [results, Tryz.results58, go_sem, d0, d1, d2, d3]) rfl ?_
    exact ⟨rfl, HB2.out.trans (HMV.out.below _ HB2.out.size (fun k hk e => by have := HXW.out; omega))⟩
  | some i =>
    simp only [Option.getD_some, Option.isSome_some] at *
    obtain ⟨n, hn0, hn8, hok⟩ := HIO.out i rfl
    obtain ⟨ik, ir, ix, im⟩ := i
    simp only [valI] at *
    go_upto_region 2 with fail
    obtain ⟨Wz, Z, hWz, hZ, hBz, hZl, hZe⟩ := ins_box w1 ⟨ik, ir, ix, im⟩
    simp only at hWz
    rw [← hWz, ← hZ]
    have hb2 := below_at HB1.out hBz
    have hXz := (hb2.block X hXl).trans HXK.out
    have hXZ : X < Z := by rw [hZ]; have := HB1.out.size; omega
    have HBZ := Lib.hid (below_at HBA.out hb2)
    have HXZ := Lib.hid hXz
    have HLT := Lib.hid (And.intro hXZ hZl)
    have HZE := Lib.hid hZe
    have HOK := Lib.hid hok
    have HN := Lib.hid (And.intro hn0 hn8)
    obtain ⟨⟨e0, e1, e2, e3⟩, el, g0, g1, g2, g3⟩ := in4_cells hXz
    clear hWz hZ hBz hb2 hXz hXZ hZe hok HIO hn0 hn8 hZl hXl
    go_upto_region 5 with fail
    obtain ⟨W5, hW5, ⟨d0, d1, d2, d3⟩, hm5⟩ := in4_exit HXZ.out (.int .i64 (t : Int)) (.int .i64 1) (.int .i64 0) (.bool false)
    have hX5 : W5.heap[X]? = some (.cells #[.int .i64 (t : Int), .int .i64 1, .int .i64 0, .bool false] 51 (0, 0)) := by
      rw [hW5, set_blk (set_blk (set_blk (set_blk HXZ.out 0 _) 1 _) 2 _) 3 _]; simp
    rw [← hW5]
    have HM5 := Lib.hid hm5
    have HX5 := Lib.hid hX5
    clear hW5 d0 d1 d2 d3 hm5 hX5 e0 e1 e2 e3 el g0 g1 g2 g3
    obtain ⟨⟨y0, y1, y2, y3⟩, yl⟩ := HZE.out Wz (Below.refl _ _)
    simp only [Nat.zero_add] at y1 y2 y3
    have HY := Lib.hid (And.intro y0 (And.intro y1 (And.intro y2 y3)))
    have z0 : W5.cell? ⟨Z, 0, none⟩ = some (.int .i64 ik) := (HM5.out.cell Z 0 yl (by have := HLT.out.1; omega)).trans y0
    have zl : Z < W5.heap.size := by have := HM5.out.size; omega
    clear y0 y1 y2 y3
    go_upto_block 0 with fail
    clear z0
    go_cut [20] (fun a w2 => Hid (w2.heap[X]? = some (.cells (evCells (Pr.evOf s t ⟨ik, ir, ix, im⟩)) 51 (0, 0))) ∧ Hid (Mod (fun k => k = X) W5 w2))
    case first =>
      have hrange : ∀ x : Int, x < 4 → 0 ≤ x → ∃ m : Nat, x = m ∧ m < 4 := fun x h1 h2 => ⟨x.toNat, by omega, by omega⟩
      have HRANGE := Lib.hid hrange
      clear hrange
      rcases (show ik = 1 ∨ ik = 2 ∨ ik = 3 ∨ ik = 4 ∨ ik = 5 ∨ ik = 6 ∨ ik = 7 ∨ ik = 8 from by have h1 := HOK.out.1; have h8 := HOK.out.2.1; simp only at h1 h8; omega) with rfl | rfl | rfl | rfl | rfl | rfl | rfl | rfl
      · obtain ⟨⟨e0, e1, e2, e3⟩, el, g0, g1, g2, g3⟩ := in4_cells HX5.out
        go_upto_region 7 with fail
        refine wp_region_planF (by kernel_rfl) (fun u => Mod (fun k => k = X) W5 u) [5] [(0, .pure), (1, .load), (2, .pure), (3, .eff), (4, .pure), (5, .last)] (by simp only [List.map_cons, List.map_nil, List.getElem?_toArray, List.getElem?_cons_succ, List.getElem?_cons_zero]; rfl) (by kernel_rfl) (fun _ _ d _ _ h => by cases d <;> exact h) ((Mod.refl _ _).drew) ?_
        obtain ⟨Wd, hWd⟩ : ∃ Wd, Wd = W5.drew := ⟨_, rfl⟩
        rw [← hWd]
        have s0 : Mod (fun k => k = X) W5 Wd := by rw [hWd]; exact (Mod.refl _ _).drew
        have hX6 : Wd.heap[X]? = some (.cells #[.int .i64 (t : Int), .int .i64 1, .int .i64 0, .bool false] 51 (0, 0)) := by rw [hWd]; exact HX5.out
        clear hWd
        clear e0 e1 e2 e3 el g0 g1 g2 g3
        repeat (first
          | (refine plan_pure (v := ?_) (by rfl) (fun w1 => ?_) ?_
             rotate_left
             · go_simp <;> with_reducible rfl
             simp only [Act.put, List.setIfInBounds_toArray, List.set_cons_zero, List.set_cons_succ])
          | (refine plan_off (by rfl) ?_
             simp only [Act.put, List.setIfInBounds_toArray, List.set_cons_zero, List.set_cons_succ])
          | (refine plan_load_off (by rfl) ?_
             simp only [Act.put, List.setIfInBounds_toArray, List.set_cons_zero, List.set_cons_succ])
          | (refine plan_load (v := ?_) (by rfl) (fun w1 hw1 => ?_) ?_
             rotate_left
             · (have q := (hw1.cell Z 2 zl (by have := HLT.out.1; omega)).trans ((HM5.out.cell Z 2 (by have := HLT.out.2; exact this) (by have := HLT.out.1; omega)).trans HY.out.2.2.1)
                clear hw1
                go_simp <;> with_reducible rfl)
             simp only [Act.put, List.setIfInBounds_toArray, List.set_cons_zero, List.set_cons_succ]))
        obtain ⟨⟨e0, e1, e2, e3⟩, el, g0, g1, g2, g3⟩ := in4_cells hX6
        obtain ⟨W6, hW6⟩ : ∃ W6, W6 = Wd.setCell ⟨X, 1, none⟩ (.int .i64 2) := ⟨_, rfl⟩
        have s1 : Mod (fun k => k = X) W5 W6 := by rw [hW6]; exact s0.setCell (p := ⟨X, 1, none⟩) (fun _ => rfl) _
        have hX7 : W6.heap[X]? = some (.cells #[.int .i64 (t : Int), .int .i64 2, .int .i64 0, .bool false] 51 (0, 0)) := by rw [hW6, set_blk hX6 1 _]; simp
        have hX8 := set_blk hX7 2 (.int .i64 ix)
        have s2 := s1.setCell (p := ⟨X, 2, none⟩) (fun _ => rfl) (.int .i64 ix)
        have HS1 := Lib.hid s1
        have HS2 := Lib.hid s2
        have HX7 := Lib.hid hX7
        have HX8 := Lib.hid hX8
        clear s0 s1 s2 hX6 hX7 hX8
        refine plan_eff ?_
        go_wp2_with fail
        rw [← hW6]
        clear hW6
        refine plan_on (fun _ h => h) HS1.out ?_
        clear e0 e1 e2 e3 el g0 g1 g2 g3
        repeat (first
          | (refine plan_pure (v := ?_) (by rfl) (fun w1 => ?_) ?_
             rotate_left
             · go_simp <;> with_reducible rfl
             simp only [Act.put, List.setIfInBounds_toArray, List.set_cons_zero, List.set_cons_succ])
          | (refine plan_off (by rfl) ?_
             simp only [Act.put, List.setIfInBounds_toArray, List.set_cons_zero, List.set_cons_succ])
          | (refine plan_load_off (by rfl) ?_
             simp only [Act.put, List.setIfInBounds_toArray, List.set_cons_zero, List.set_cons_succ])
          | (refine plan_load (v := ?_) (by rfl) (fun w1 hw1 => ?_) ?_
             rotate_left
             · (have q := (hw1.cell Z 2 zl (by have := HLT.out.1; omega)).trans ((HM5.out.cell Z 2 (by have := HLT.out.2; exact this) (by have := HLT.out.1; omega)).trans HY.out.2.2.1)
                clear hw1
                go_simp <;> with_reducible rfl)
             simp only [Act.put, List.setIfInBounds_toArray, List.set_cons_zero, List.set_cons_succ]))
        obtain ⟨⟨e0, e1, e2, e3⟩, el, g0, g1, g2, g3⟩ := in4_cells HX7.out
        refine plan_last ?_
        go_wp2_with fail
        repeat (first
          | (refine plan_pure (v := ?_) (by rfl) (fun w1 => ?_) ?_
             rotate_left
             · go_simp <;> with_reducible rfl
             simp only [Act.put, List.setIfInBounds_toArray, List.set_cons_zero, List.set_cons_succ])
          | (refine plan_off (by rfl) ?_
             simp only [Act.put, List.setIfInBounds_toArray, List.set_cons_zero, List.set_cons_succ])
          | (refine plan_load_off (by rfl) ?_
             simp only [Act.put, List.setIfInBounds_toArray, List.set_cons_zero, List.set_cons_succ])
          | (refine plan_load (v := ?_) (by rfl) (fun w1 hw1 => ?_) ?_
             rotate_left
             · (skip
                clear hw1
                go_simp <;> with_reducible rfl)
             simp only [Act.put, List.setIfInBounds_toArray, List.set_cons_zero, List.set_cons_succ]))
        refine plan_end ?_
        go_wp2_with fail
        go_meet
        exact ⟨Lib.hid (by rw [HX8.out]; simp [evCells, Pr.evOf]), HS2⟩
      · obtain ⟨⟨e0, e1, e2, e3⟩, el, g0, g1, g2, g3⟩ := in4_cells HX5.out
        go_upto_region 9 with fail
        refine wp_region_planF (by kernel_rfl) (fun u => Mod (fun k => k = X) W5 u) [5] [(0, .pure), (1, .load), (2, .pure), (3, .eff), (4, .pure), (5, .last)] (by simp only [List.map_cons, List.map_nil, List.getElem?_toArray, List.getElem?_cons_succ, List.getElem?_cons_zero]; rfl) (by kernel_rfl) (fun _ _ d _ _ h => by cases d <;> exact h) ((Mod.refl _ _).drew) ?_
        obtain ⟨Wd, hWd⟩ : ∃ Wd, Wd = W5.drew := ⟨_, rfl⟩
        rw [← hWd]
        have s0 : Mod (fun k => k = X) W5 Wd := by rw [hWd]; exact (Mod.refl _ _).drew
        have hX6 : Wd.heap[X]? = some (.cells #[.int .i64 (t : Int), .int .i64 1, .int .i64 0, .bool false] 51 (0, 0)) := by rw [hWd]; exact HX5.out
        clear hWd
        clear e0 e1 e2 e3 el g0 g1 g2 g3
        repeat (first
          | (refine plan_pure (v := ?_) (by rfl) (fun w1 => ?_) ?_
             rotate_left
             · go_simp <;> with_reducible rfl
             simp only [Act.put, List.setIfInBounds_toArray, List.set_cons_zero, List.set_cons_succ])
          | (refine plan_off (by rfl) ?_
             simp only [Act.put, List.setIfInBounds_toArray, List.set_cons_zero, List.set_cons_succ])
          | (refine plan_load_off (by rfl) ?_
             simp only [Act.put, List.setIfInBounds_toArray, List.set_cons_zero, List.set_cons_succ])
          | (refine plan_load (v := ?_) (by rfl) (fun w1 hw1 => ?_) ?_
             rotate_left
             · (have q := (hw1.cell Z 2 zl (by have := HLT.out.1; omega)).trans ((HM5.out.cell Z 2 (by have := HLT.out.2; exact this) (by have := HLT.out.1; omega)).trans HY.out.2.2.1)
                clear hw1
                go_simp <;> with_reducible rfl)
             simp only [Act.put, List.setIfInBounds_toArray, List.set_cons_zero, List.set_cons_succ]))
        obtain ⟨⟨e0, e1, e2, e3⟩, el, g0, g1, g2, g3⟩ := in4_cells hX6
        obtain ⟨W6, hW6⟩ : ∃ W6, W6 = Wd.setCell ⟨X, 1, none⟩ (.int .i64 3) := ⟨_, rfl⟩
        have s1 : Mod (fun k => k = X) W5 W6 := by rw [hW6]; exact s0.setCell (p := ⟨X, 1, none⟩) (fun _ => rfl) _
        have hX7 : W6.heap[X]? = some (.cells #[.int .i64 (t : Int), .int .i64 3, .int .i64 0, .bool false] 51 (0, 0)) := by rw [hW6, set_blk hX6 1 _]; simp
        have hX8 := set_blk hX7 2 (.int .i64 ix)
        have s2 := s1.setCell (p := ⟨X, 2, none⟩) (fun _ => rfl) (.int .i64 ix)
        have HS1 := Lib.hid s1
        have HS2 := Lib.hid s2
        have HX7 := Lib.hid hX7
        have HX8 := Lib.hid hX8
        clear s0 s1 s2 hX6 hX7 hX8
        refine plan_eff ?_
        go_wp2_with fail
        rw [← hW6]
        clear hW6
        refine plan_on (fun _ h => h) HS1.out ?_
        clear e0 e1 e2 e3 el g0 g1 g2 g3
        repeat (first
          | (refine plan_pure (v := ?_) (by rfl) (fun w1 => ?_) ?_
             rotate_left
             · go_simp <;> with_reducible rfl
             simp only [Act.put, List.setIfInBounds_toArray, List.set_cons_zero, List.set_cons_succ])
          | (refine plan_off (by rfl) ?_
             simp only [Act.put, List.setIfInBounds_toArray, List.set_cons_zero, List.set_cons_succ])
          | (refine plan_load_off (by rfl) ?_
             simp only [Act.put, List.setIfInBounds_toArray, List.set_cons_zero, List.set_cons_succ])
          | (refine plan_load (v := ?_) (by rfl) (fun w1 hw1 => ?_) ?_
             rotate_left
             · (have q := (hw1.cell Z 2 zl (by have := HLT.out.1; omega)).trans ((HM5.out.cell Z 2 (by have := HLT.out.2; exact this) (by have := HLT.out.1; omega)).trans HY.out.2.2.1)
                clear hw1
                go_simp <;> with_reducible rfl)
             simp only [Act.put, List.setIfInBounds_toArray, List.set_cons_zero, List.set_cons_succ]))
        obtain ⟨⟨e0, e1, e2, e3⟩, el, g0, g1, g2, g3⟩ := in4_cells HX7.out
        refine plan_last ?_
        go_wp2_with fail
        repeat (first
          | (refine plan_pure (v := ?_) (by rfl) (fun w1 => ?_) ?_
             rotate_left
             · go_simp <;> with_reducible rfl
             simp only [Act.put, List.setIfInBounds_toArray, List.set_cons_zero, List.set_cons_succ])
          | (refine plan_off (by rfl) ?_
             simp only [Act.put, List.setIfInBounds_toArray, List.set_cons_zero, List.set_cons_succ])
          | (refine plan_load_off (by rfl) ?_
             simp only [Act.put, List.setIfInBounds_toArray, List.set_cons_zero, List.set_cons_succ])
          | (refine plan_load (v := ?_) (by rfl) (fun w1 hw1 => ?_) ?_
             rotate_left
             · (skip
                clear hw1
                go_simp <;> with_reducible rfl)
             simp only [Act.put, List.setIfInBounds_toArray, List.set_cons_zero, List.set_cons_succ]))
        refine plan_end ?_
        go_wp2_with fail
        go_meet
        exact ⟨Lib.hid (by rw [HX8.out]; simp [evCells, Pr.evOf]), HS2⟩
      · go_wp2_with fail
        go_meet
        exact ⟨Lib.hid (by rw [HX5.out]; simp [evCells, Pr.evOf]), Lib.hid (Mod.refl _ _)⟩
      · go_wp2_with fail
        go_meet
        exact ⟨Lib.hid (by rw [HX5.out]; simp [evCells, Pr.evOf]), Lib.hid (Mod.refl _ _)⟩
      · obtain ⟨⟨e0, e1, e2, e3⟩, el, g0, g1, g2, g3⟩ := in4_cells HX5.out
        go_upto_region 11 with fail
        refine wp_region_planF (by kernel_rfl) (fun u => Mod (fun k => k = X) W5 u) [5] [(0, .pure), (1, .load), (2, .pure), (3, .eff), (4, .pure), (5, .last)] (by simp only [List.map_cons, List.map_nil, List.getElem?_toArray, List.getElem?_cons_succ, List.getElem?_cons_zero]; rfl) (by kernel_rfl) (fun _ _ d _ _ h => by cases d <;> exact h) ((Mod.refl _ _).drew) ?_
        obtain ⟨Wd, hWd⟩ : ∃ Wd, Wd = W5.drew := ⟨_, rfl⟩
        rw [← hWd]
        have s0 : Mod (fun k => k = X) W5 Wd := by rw [hWd]; exact (Mod.refl _ _).drew
        have hX6 : Wd.heap[X]? = some (.cells #[.int .i64 (t : Int), .int .i64 1, .int .i64 0, .bool false] 51 (0, 0)) := by rw [hWd]; exact HX5.out
        clear hWd
        clear e0 e1 e2 e3 el g0 g1 g2 g3
        repeat (first
          | (refine plan_pure (v := ?_) (by rfl) (fun w1 => ?_) ?_
             rotate_left
             · go_simp <;> with_reducible rfl
             simp only [Act.put, List.setIfInBounds_toArray, List.set_cons_zero, List.set_cons_succ])
          | (refine plan_off (by rfl) ?_
             simp only [Act.put, List.setIfInBounds_toArray, List.set_cons_zero, List.set_cons_succ])
          | (refine plan_load_off (by rfl) ?_
             simp only [Act.put, List.setIfInBounds_toArray, List.set_cons_zero, List.set_cons_succ])
          | (refine plan_load (v := ?_) (by rfl) (fun w1 hw1 => ?_) ?_
             rotate_left
             · (have q := (hw1.cell Z 2 zl (by have := HLT.out.1; omega)).trans ((HM5.out.cell Z 2 (by have := HLT.out.2; exact this) (by have := HLT.out.1; omega)).trans HY.out.2.2.1)
                clear hw1
                go_simp <;> with_reducible rfl)
             simp only [Act.put, List.setIfInBounds_toArray, List.set_cons_zero, List.set_cons_succ]))
        obtain ⟨⟨e0, e1, e2, e3⟩, el, g0, g1, g2, g3⟩ := in4_cells hX6
        obtain ⟨W6, hW6⟩ : ∃ W6, W6 = Wd.setCell ⟨X, 1, none⟩ (.int .i64 4) := ⟨_, rfl⟩
        have s1 : Mod (fun k => k = X) W5 W6 := by rw [hW6]; exact s0.setCell (p := ⟨X, 1, none⟩) (fun _ => rfl) _
        have hX7 : W6.heap[X]? = some (.cells #[.int .i64 (t : Int), .int .i64 4, .int .i64 0, .bool false] 51 (0, 0)) := by rw [hW6, set_blk hX6 1 _]; simp
        have hX8 := set_blk hX7 2 (.int .i64 ix)
        have s2 := s1.setCell (p := ⟨X, 2, none⟩) (fun _ => rfl) (.int .i64 ix)
        have HS1 := Lib.hid s1
        have HS2 := Lib.hid s2
        have HX7 := Lib.hid hX7
        have HX8 := Lib.hid hX8
        clear s0 s1 s2 hX6 hX7 hX8
        refine plan_eff ?_
        go_wp2_with fail
        rw [← hW6]
        clear hW6
        refine plan_on (fun _ h => h) HS1.out ?_
        clear e0 e1 e2 e3 el g0 g1 g2 g3
        repeat (first
          | (refine plan_pure (v := ?_) (by rfl) (fun w1 => ?_) ?_
             rotate_left
             · go_simp <;> with_reducible rfl
             simp only [Act.put, List.setIfInBounds_toArray, List.set_cons_zero, List.set_cons_succ])
          | (refine plan_off (by rfl) ?_
             simp only [Act.put, List.setIfInBounds_toArray, List.set_cons_zero, List.set_cons_succ])
          | (refine plan_load_off (by rfl) ?_
             simp only [Act.put, List.setIfInBounds_toArray, List.set_cons_zero, List.set_cons_succ])
          | (refine plan_load (v := ?_) (by rfl) (fun w1 hw1 => ?_) ?_
             rotate_left
             · (have q := (hw1.cell Z 2 zl (by have := HLT.out.1; omega)).trans ((HM5.out.cell Z 2 (by have := HLT.out.2; exact this) (by have := HLT.out.1; omega)).trans HY.out.2.2.1)
                clear hw1
                go_simp <;> with_reducible rfl)
             simp only [Act.put, List.setIfInBounds_toArray, List.set_cons_zero, List.set_cons_succ]))
        obtain ⟨⟨e0, e1, e2, e3⟩, el, g0, g1, g2, g3⟩ := in4_cells HX7.out
        refine plan_last ?_
        go_wp2_with fail
        repeat (first
          | (refine plan_pure (v := ?_) (by rfl) (fun w1 => ?_) ?_
             rotate_left
             · go_simp <;> with_reducible rfl
             simp only [Act.put, List.setIfInBounds_toArray, List.set_cons_zero, List.set_cons_succ])
          | (refine plan_off (by rfl) ?_
             simp only [Act.put, List.setIfInBounds_toArray, List.set_cons_zero, List.set_cons_succ])
          | (refine plan_load_off (by rfl) ?_
             simp only [Act.put, List.setIfInBounds_toArray, List.set_cons_zero, List.set_cons_succ])
          | (refine plan_load (v := ?_) (by rfl) (fun w1 hw1 => ?_) ?_
             rotate_left
             · (skip
                clear hw1
                go_simp <;> with_reducible rfl)
             simp only [Act.put, List.setIfInBounds_toArray, List.set_cons_zero, List.set_cons_succ]))
        refine plan_end ?_
        go_wp2_with fail
        go_meet
        exact ⟨Lib.hid (by rw [HX8.out]; simp [evCells, Pr.evOf]), HS2⟩
      · have hx := HOK.out.2.2.2.2.2.1
        have hxm := HOK.out.2.2.2.2.2.2.2.2.2.2.1 (Or.inr rfl)
        have hmm := HWF.out.ok.1.2.2.2.1
        simp only at hx hxm
        obtain ⟨m, rfl, hm4⟩ := HRANGE.out ix (by omega) hx
        have hm2 : m < 2 := by omega
        clear hx hxm hmm
        go_upto_region 13 with fail
        refine wp_region_planF (by kernel_rfl) (fun u => Mod (fun k => k = X) W5 u) [] [(0, .pure), (1, .pure), (2, .load), (3, .pure), (4, .pure), (5, .pure), (6, .load), (7, .pure), (8, .pure)] (by simp only [List.map_cons, List.map_nil, List.getElem?_toArray, List.getElem?_cons_succ, List.getElem?_cons_zero]; rfl) (by kernel_rfl) (fun _ _ d _ _ h => by cases d <;> exact h) ((Mod.refl _ _).drew) ?_
        have k1 : (0 : Int) ≤ (m : Int) := Int.natCast_nonneg _
        have k2 : (m : Int) < 2 := by omega
        have hb5 : ∀ u, Mod (fun k => k = X) W5 u → Below w.heap.size w u := fun u hu => (HBZ.out.trans (HM5.out.below _ HBZ.out.size (fun k hk e => by have := HXW.out; omega))).trans (hu.below _ (by have := HBZ.out.size; have := HM5.out.size; omega) (fun k hk e => by have := HXW.out; omega))
        have HB5 := Lib.hid hb5
        clear hb5
        obtain ⟨Wd, hWd⟩ : ∃ Wd, Wd = W5.drew := ⟨_, rfl⟩
        rw [← hWd]
        have s0 : Mod (fun k => k = X) W5 Wd := by rw [hWd]; exact (Mod.refl _ _).drew
        have hX6 : Wd.heap[X]? = some (.cells #[.int .i64 (t : Int), .int .i64 1, .int .i64 0, .bool false] 51 (0, 0)) := by rw [hWd]; exact HX5.out
        have HS0 := Lib.hid s0
        have HX6 := Lib.hid hX6
        clear hWd s0 hX6
        repeat (first
          | (refine plan_pure (v := ?_) (by rfl) (fun w1 => ?_) ?_
             rotate_left
             · go_simp <;> with_reducible rfl
             simp only [Act.put, List.setIfInBounds_toArray, List.set_cons_zero, List.set_cons_succ])
          | (refine plan_off (by rfl) ?_
             simp only [Act.put, List.setIfInBounds_toArray, List.set_cons_zero, List.set_cons_succ])
          | (refine plan_load_off (by rfl) ?_
             simp only [Act.put, List.setIfInBounds_toArray, List.set_cons_zero, List.set_cons_succ])
          | (refine plan_load (v := ?_) (by rfl) (fun w1 hw1 => ?_) ?_
             rotate_left
             · (have q := (hw1.cell Z 2 zl (by have := HLT.out.1; omega)).trans ((HM5.out.cell Z 2 (by have := HLT.out.2; exact this) (by have := HLT.out.1; omega)).trans HY.out.2.2.1)
                have q2 := (HS.out.below (HB5.out w1 hw1)).cells
                obtain ⟨PA, pc, tc, _, _, _, _, _, qh, _⟩ := q2
                have q3 := qh m hm2
                clear qh
                clear hw1
                go_simp <;> with_reducible rfl)
             simp only [Act.put, List.setIfInBounds_toArray, List.set_cons_zero, List.set_cons_succ]))
        refine plan_end ?_
        by_cases hh : s.h m = (t : Int)
        · have hd : (s.h m == (t : Int)) = true := by simpa using hh
          obtain ⟨⟨e0, e1, e2, e3⟩, el, g0, g1, g2, g3⟩ := in4_cells HX6.out
          have hev : Pr.evOf s t ⟨6, ir, (m : Int), im⟩ = ⟨t, 5, m, false⟩ := by simp [Pr.evOf, hh]
          have HEV := Lib.hid hev
          have HXX := Lib.hid HX6.out
          clear e0 e1 e2 e3 el g0 g1 g2 g3 hev
          go_upto_region 15 with fail
          refine wp_region_planF (by kernel_rfl) (fun u => Mod (fun k => k = X) W5 u) [5] [(0, .pure), (1, .load), (2, .pure), (3, .eff), (4, .pure), (5, .last)] (by simp only [List.map_cons, List.map_nil, List.getElem?_toArray, List.getElem?_cons_succ, List.getElem?_cons_zero]; rfl) (by kernel_rfl) (fun _ _ d _ _ h => by cases d <;> exact h) (HS0.out.drew) ?_
          obtain ⟨We, hWe⟩ : ∃ We, We = Wd.drew := ⟨_, rfl⟩
          rw [← hWe]
          have s0 : Mod (fun k => k = X) W5 We := by rw [hWe]; exact HS0.out.drew
          have hX6 : We.heap[X]? = some (.cells #[.int .i64 (t : Int), .int .i64 1, .int .i64 0, .bool false] 51 (0, 0)) := by rw [hWe]; exact HX6.out
          clear hWe
          repeat (first
            | (refine plan_pure (v := ?_) (by rfl) (fun w1 => ?_) ?_
               rotate_left
               · go_simp <;> with_reducible rfl
               simp only [Act.put, List.setIfInBounds_toArray, List.set_cons_zero, List.set_cons_succ])
            | (refine plan_off (by rfl) ?_
               simp only [Act.put, List.setIfInBounds_toArray, List.set_cons_zero, List.set_cons_succ])
            | (refine plan_load_off (by rfl) ?_
               simp only [Act.put, List.setIfInBounds_toArray, List.set_cons_zero, List.set_cons_succ])
            | (refine plan_load (v := ?_) (by rfl) (fun w1 hw1 => ?_) ?_
               rotate_left
               · (have q := (hw1.cell Z 2 zl (by have := HLT.out.1; omega)).trans ((HM5.out.cell Z 2 (by have := HLT.out.2; exact this) (by have := HLT.out.1; omega)).trans HY.out.2.2.1)
                  clear hw1
                  go_simp <;> with_reducible rfl)
               simp only [Act.put, List.setIfInBounds_toArray, List.set_cons_zero, List.set_cons_succ]))
          obtain ⟨⟨e0, e1, e2, e3⟩, el, g0, g1, g2, g3⟩ := in4_cells hX6
          obtain ⟨W6, hW6⟩ : ∃ W6, W6 = We.setCell ⟨X, 1, none⟩ (.int .i64 5) := ⟨_, rfl⟩
          have s1 : Mod (fun k => k = X) W5 W6 := by rw [hW6]; exact s0.setCell (p := ⟨X, 1, none⟩) (fun _ => rfl) _
          have hX7 : W6.heap[X]? = some (.cells #[.int .i64 (t : Int), .int .i64 5, .int .i64 0, .bool false] 51 (0, 0)) := by rw [hW6, set_blk hX6 1 _]; simp
          have hX8 := set_blk hX7 2 (.int .i64 (m : Int))
          have s2 := s1.setCell (p := ⟨X, 2, none⟩) (fun _ => rfl) (.int .i64 (m : Int))
          have HS1 := Lib.hid s1
          have HS2 := Lib.hid s2
          have HX7 := Lib.hid hX7
          have HX8 := Lib.hid hX8
          clear s0 s1 s2 hX6 hX7 hX8
          refine plan_eff ?_
          go_wp2_with fail
          rw [← hW6]
          clear hW6
          refine plan_on (fun _ h => h) HS1.out ?_
          clear e0 e1 e2 e3 el g0 g1 g2 g3
          repeat (first
            | (refine plan_pure (v := ?_) (by rfl) (fun w1 => ?_) ?_
               rotate_left
               · go_simp <;> with_reducible rfl
               simp only [Act.put, List.setIfInBounds_toArray, List.set_cons_zero, List.set_cons_succ])
            | (refine plan_off (by rfl) ?_
               simp only [Act.put, List.setIfInBounds_toArray, List.set_cons_zero, List.set_cons_succ])
            | (refine plan_load_off (by rfl) ?_
               simp only [Act.put, List.setIfInBounds_toArray, List.set_cons_zero, List.set_cons_succ])
            | (refine plan_load (v := ?_) (by rfl) (fun w1 hw1 => ?_) ?_
               rotate_left
               · (have q := (hw1.cell Z 2 zl (by have := HLT.out.1; omega)).trans ((HM5.out.cell Z 2 (by have := HLT.out.2; exact this) (by have := HLT.out.1; omega)).trans HY.out.2.2.1)
                  clear hw1
                  go_simp <;> with_reducible rfl)
               simp only [Act.put, List.setIfInBounds_toArray, List.set_cons_zero, List.set_cons_succ]))
          obtain ⟨⟨e0, e1, e2, e3⟩, el, g0, g1, g2, g3⟩ := in4_cells HX7.out
          refine plan_last ?_
          go_wp2_with fail
          repeat (first
            | (refine plan_pure (v := ?_) (by rfl) (fun w1 => ?_) ?_
               rotate_left
               · go_simp <;> with_reducible rfl
               simp only [Act.put, List.setIfInBounds_toArray, List.set_cons_zero, List.set_cons_succ])
            | (refine plan_off (by rfl) ?_
               simp only [Act.put, List.setIfInBounds_toArray, List.set_cons_zero, List.set_cons_succ])
            | (refine plan_load_off (by rfl) ?_
               simp only [Act.put, List.setIfInBounds_toArray, List.set_cons_zero, List.set_cons_succ])
            | (refine plan_load (v := ?_) (by rfl) (fun w1 hw1 => ?_) ?_
               rotate_left
               · (skip
                  clear hw1
                  go_simp <;> with_reducible rfl)
               simp only [Act.put, List.setIfInBounds_toArray, List.set_cons_zero, List.set_cons_succ]))
          refine plan_end ?_
          go_wp2_with fail
          go_meet
          exact ⟨Lib.hid (by rw [HX8.out, HEV.out]; simp [evCells]), HS2⟩
        · have hd : (s.h m == (t : Int)) = false := by simpa using hh
          have hev : Pr.evOf s t ⟨6, ir, (m : Int), im⟩ = ⟨t, 1, 0, true⟩ := by simp [Pr.evOf, hh]
          have HEV := Lib.hid hev
          obtain ⟨⟨e0, e1, e2, e3⟩, el, g0, g1, g2, g3⟩ := in4_cells HX6.out
          have HX8 := Lib.hid (set_blk HX6.out 3 (.bool true))
          have HS2 := Lib.hid (HS0.out.setCell (p := ⟨X, 3, none⟩) (fun _ => rfl) (.bool true))
          clear hev
          go_wp2_with fail
          go_meet
          exact ⟨Lib.hid (by rw [HX8.out, HEV.out]; simp [evCells]), HS2⟩
      · go_wp2_with fail
        go_meet
        exact ⟨Lib.hid (by rw [HX5.out]; simp [evCells, Pr.evOf]), Lib.hid (Mod.refl _ _)⟩
      · have hx := HOK.out.2.2.2.2.2.2.1
        have hxm := HOK.out.2.2.2.2.2.2.2.1
        simp only at hx hxm
        obtain ⟨m, rfl, hm4⟩ := HRANGE.out ir (by omega) hx
        have hm2 : m < 2 := by omega
        clear hx hxm
        obtain ⟨x, hx⟩ := get_some HT.out
        obtain ⟨y, hy⟩ : ∃ y, y = x.r m := ⟨_, rfl⟩
        obtain ⟨nn, hnn⟩ : ∃ n, n = s.th.length := ⟨_, rfl⟩
        have HYR := Lib.hid (And.intro hx hy)
        have HTN := Lib.hid hnn.symm
        have htn : t < nn := by rw [hnn]; exact HT.out
        clear hx hy hnn
        go_upto_region 17 with fail
        refine wp_region_planF (by kernel_rfl) (fun u => Mod (fun k => k = X) W5 u) [13] [(0, .pure), (1, .pure), (2, .pure), (3, .load), (4, .pure), (5, .pure), (6, .load), (7, .pure), (8, .pure), (9, .pure), (10, .load), (11, .pure), (12, .pure), (13, .last)] (by simp only [List.map_cons, List.map_nil, List.getElem?_toArray, List.getElem?_cons_succ, List.getElem?_cons_zero]; rfl) (by kernel_rfl) (fun _ _ d _ _ h => by cases d <;> exact h) ((Mod.refl _ _).drew) ?_
        have k1 : (0 : Int) ≤ (m : Int) := Int.natCast_nonneg _
        have k2 : (m : Int) < 2 := by omega
        have k3 : (0 : Int) ≤ (t : Int) := Int.natCast_nonneg _
        have k4 : (t : Int) < (nn : Int) := by omega
        have hb5 : ∀ u, Mod (fun k => k = X) W5 u → Below w.heap.size w u := fun u hu => (HBZ.out.trans (HM5.out.below _ HBZ.out.size (fun k hk e => by have := HXW.out; omega))).trans (hu.below _ (by have := HBZ.out.size; have := HM5.out.size; omega) (fun k hk e => by have := HXW.out; omega))
        have HB5 := Lib.hid hb5
        clear hb5
        obtain ⟨Wd, hWd⟩ : ∃ Wd, Wd = W5.drew := ⟨_, rfl⟩
        rw [← hWd]
        have s0 : Mod (fun k => k = X) W5 Wd := by rw [hWd]; exact (Mod.refl _ _).drew
        have hX6 : Wd.heap[X]? = some (.cells #[.int .i64 (t : Int), .int .i64 1, .int .i64 0, .bool false] 51 (0, 0)) := by rw [hWd]; exact HX5.out
        have HS0 := Lib.hid s0
        have HX6 := Lib.hid hX6
        clear hWd s0 hX6
        by_cases hy0 : y = 0
        · have hd : (y == 0) = true := by simpa using hy0
          have hev : Pr.evOf s t ⟨8, (m : Int), ix, im⟩ = ⟨t, 1, 0, true⟩ := by simp [Pr.evOf, HYR.out.1, ← HYR.out.2, hy0]
          have HEV := Lib.hid hev
          clear hev
          have HX8 := Lib.hid (set_blk HX6.out 3 (.bool true))
          have HS2 := Lib.hid (HS0.out.setCell (p := ⟨X, 3, none⟩) (fun _ => rfl) (.bool true))
          repeat (first
            | (refine plan_pure (v := ?_) (by rfl) (fun w1 => ?_) ?_
               rotate_left
               · go_simp <;> with_reducible rfl
               simp only [Act.put, List.setIfInBounds_toArray, List.set_cons_zero, List.set_cons_succ])
            | (refine plan_off (by rfl) ?_
               simp only [Act.put, List.setIfInBounds_toArray, List.set_cons_zero, List.set_cons_succ])
            | (refine plan_load_off (by rfl) ?_
               simp only [Act.put, List.setIfInBounds_toArray, List.set_cons_zero, List.set_cons_succ])
            | (refine plan_load (v := ?_) (by rfl) (fun w1 hw1 => ?_) ?_
               rotate_left
               · (have q := (hw1.cell Z 1 zl (by have := HLT.out.1; omega)).trans ((HM5.out.cell Z 1 (by have := HLT.out.2; exact this) (by have := HLT.out.1; omega)).trans HY.out.2.1)
                  have hq := HS.out.below (HB5.out w1 hw1)
                  have z3 := HS.out.z3 (HB5.out w1 hw1)
                  obtain ⟨PA, pc, tc, _, _, _, _, _, _, _⟩ := hq.cells
                  have q3 := (hq.thread t x HYR.out.1).2.2 m hm2
                  rw [← HYR.out.2] at q3
                  rw [HTN.out] at z3
                  have ql := hq.lt.2
                  clear hq
                  clear hw1
                  go_simp <;> with_reducible rfl)
               simp only [Act.put, List.setIfInBounds_toArray, List.set_cons_zero, List.set_cons_succ]))
          obtain ⟨⟨e0, e1, e2, e3⟩, el, g0, g1, g2, g3⟩ := in4_cells HX6.out
          refine plan_last ?_
          go_wp2_with fail
          repeat (first
            | (refine plan_pure (v := ?_) (by rfl) (fun w1 => ?_) ?_
               rotate_left
               · go_simp <;> with_reducible rfl
               simp only [Act.put, List.setIfInBounds_toArray, List.set_cons_zero, List.set_cons_succ])
            | (refine plan_off (by rfl) ?_
               simp only [Act.put, List.setIfInBounds_toArray, List.set_cons_zero, List.set_cons_succ])
            | (refine plan_load_off (by rfl) ?_
               simp only [Act.put, List.setIfInBounds_toArray, List.set_cons_zero, List.set_cons_succ])
            | (refine plan_load (v := ?_) (by rfl) (fun w1 hw1 => ?_) ?_
               rotate_left
               · (skip
                  clear hw1
                  go_simp <;> with_reducible rfl)
               simp only [Act.put, List.setIfInBounds_toArray, List.set_cons_zero, List.set_cons_succ]))
          refine plan_end ?_
          go_wp2_with fail
          go_meet
          exact ⟨Lib.hid (by rw [HX8.out, HEV.out]; simp [evCells]), HS2⟩
        · have hd : (y == 0) = false := by simpa using hy0
          have hev : Pr.evOf s t ⟨8, (m : Int), ix, im⟩ = ⟨t, 1, 0, false⟩ := by simp [Pr.evOf, HYR.out.1, ← HYR.out.2, hy0]
          have HEV := Lib.hid hev
          clear hev
          have HX8 := Lib.hid (set_blk HX6.out 3 (.bool false))
          have HS2 := Lib.hid (HS0.out.setCell (p := ⟨X, 3, none⟩) (fun _ => rfl) (.bool false))
          repeat (first
            | (refine plan_pure (v := ?_) (by rfl) (fun w1 => ?_) ?_
               rotate_left
               · go_simp <;> with_reducible rfl
               simp only [Act.put, List.setIfInBounds_toArray, List.set_cons_zero, List.set_cons_succ])
            | (refine plan_off (by rfl) ?_
               simp only [Act.put, List.setIfInBounds_toArray, List.set_cons_zero, List.set_cons_succ])
            | (refine plan_load_off (by rfl) ?_
               simp only [Act.put, List.setIfInBounds_toArray, List.set_cons_zero, List.set_cons_succ])
            | (refine plan_load (v := ?_) (by rfl) (fun w1 hw1 => ?_) ?_
               rotate_left
               · (have q := (hw1.cell Z 1 zl (by have := HLT.out.1; omega)).trans ((HM5.out.cell Z 1 (by have := HLT.out.2; exact this) (by have := HLT.out.1; omega)).trans HY.out.2.1)
                  have hq := HS.out.below (HB5.out w1 hw1)
                  have z3 := HS.out.z3 (HB5.out w1 hw1)
                  obtain ⟨PA, pc, tc, _, _, _, _, _, _, _⟩ := hq.cells
                  have q3 := (hq.thread t x HYR.out.1).2.2 m hm2
                  rw [← HYR.out.2] at q3
                  rw [HTN.out] at z3
                  have ql := hq.lt.2
                  clear hq
                  clear hw1
                  go_simp <;> with_reducible rfl)
               simp only [Act.put, List.setIfInBounds_toArray, List.set_cons_zero, List.set_cons_succ]))
          obtain ⟨⟨e0, e1, e2, e3⟩, el, g0, g1, g2, g3⟩ := in4_cells HX6.out
          refine plan_last ?_
          go_wp2_with fail
          repeat (first
            | (refine plan_pure (v := ?_) (by rfl) (fun w1 => ?_) ?_
               rotate_left
               · go_simp <;> with_reducible rfl
               simp only [Act.put, List.setIfInBounds_toArray, List.set_cons_zero, List.set_cons_succ])
            | (refine plan_off (by rfl) ?_
               simp only [Act.put, List.setIfInBounds_toArray, List.set_cons_zero, List.set_cons_succ])
            | (refine plan_load_off (by rfl) ?_
               simp only [Act.put, List.setIfInBounds_toArray, List.set_cons_zero, List.set_cons_succ])
            | (refine plan_load (v := ?_) (by rfl) (fun w1 hw1 => ?_) ?_
               rotate_left
               · (skip
                  clear hw1
                  go_simp <;> with_reducible rfl)
               simp only [Act.put, List.setIfInBounds_toArray, List.set_cons_zero, List.set_cons_succ]))
          refine plan_end ?_
          go_wp2_with fail
          go_meet
          exact ⟨Lib.hid (by rw [HX8.out, HEV.out]; simp [evCells]), HS2⟩
    case rest =>
      obtain ⟨HXC, HMC⟩ := hcut
      obtain ⟨e, he⟩ : ∃ e, e = Pr.evOf s t ⟨ik, ir, ix, im⟩ := ⟨_, rfl⟩
      rw [← he] at HXC
      obtain ⟨V2, hV2, ⟨d0, d1, d2, d3⟩, hmv⟩ := in4_exit HXC.out (.int .i64 e.t) (.int .i64 e.k) (.int .i64 e.o) (.bool e.f)
      obtain ⟨⟨e0, e1, e2, e3⟩, el, g0, g1, g2, g3⟩ := in4_cells HXC.out
      have HV2 := Lib.hid hV2
      have HMV := Lib.hid hmv
      have HE := Lib.hid he
      clear hV2 hmv he
      go_wp2_with fail
      rw [← HV2.out]
      refine bodyPost_ret (v := .tuple #[.agg #[.int .i64 e.t, .int .i64 e.k, .int .i64 e.o, .bool e.f], .bool true]) (by simp [results, Tryz.results58, go_sem, d0, d1, d2, d3]) rfl ?_
      refine ⟨by rw [← HE.out]; rfl, ?_⟩
      have h1 := HBZ.out.trans (HM5.out.below _ HBZ.out.size (fun k hk e => by have := HXW.out; omega))
      have h2 := h1.trans (HMC.out.below _ h1.size (fun k hk e => by have := HXW.out; omega))
      exact h2.trans (HMV.out.below _ h2.size (fun k hk e => by have := HXW.out; omega))
end Go.Proofs.YtckdofjpoajblaaGreat
namespace Go.Proofs.YtckdofjpoajblaaGreat
open Go.RowKit
set_option linter.unusedVariables false
namespace Pr
def enabled (s : St) (t : Nat) : Bool :=
  match next s t with
  | none => false
  | some e => decide (e.k ≠ 4) || decide (s.h e.o.toNat < 0)
def all (s : St) : List Nat := (List.range s.th.length).filter (enabled s)
theorem next_lock {s : St} (hw : Wf s) {t : Nat} {e : Ev} (h : next s t = some e) (hk : e.k = 4) : ∃ m : Nat, e.o = m ∧ m < 2 := by
  unfold next at h
  obtain ⟨i, hi, rfl⟩ := Option.map_eq_some_iff.1 h
  obtain ⟨n, _, _, hok⟩ := hw.insOk hi
  have h5 : i.k = 5 := by
    unfold evOf at hk
    by_cases h1 : i.k = 1
    · simp [h1] at hk
    · by_cases h2 : i.k = 2
      · simp [h2] at hk
      · by_cases h5 : i.k = 5
        · exact h5
        · rw [if_neg h1, if_neg h2, if_neg h5] at hk
          by_cases h6 : i.k = 6
          · rw [if_pos h6] at hk
            split at hk <;> simp at hk
          · rw [if_neg h6] at hk
            split at hk <;> simp at hk
  have h2 := hok.2.2.2.2.2.2.2.2.2.2.1 (Or.inl h5)
  have h0 := hok.2.2.2.2.2.1
  have hm := hw.ok.1.2.2.2.1
  have ho : (evOf s t i).o = i.x := by unfold evOf; simp [h5]
  exact ⟨i.x.toNat, by rw [ho]; omega, by omega⟩
end Pr
theorem ev_box (w : World) (e : Ev) : ∃ W X, W = w.alloc (Obj.cells #[.int .i64 e.t, .int .i64 e.k, .int .i64 e.o, .bool e.f] 51) ∧ X = w.heap.size ∧ Below w.heap.size w W ∧ X < W.heap.size ∧ ∀ u, Below W.heap.size W u → EvAt u X 0 e ∧ X < u.heap.size := by
  refine ⟨_, _, rfl, rfl, (Below.refl _ _).alloc (Nat.le_refl _) _, by simp, fun u hu => ?_⟩
  have h1 := heap_alloc_new w (Obj.cells #[.int .i64 e.t, .int .i64 e.k, .int .i64 e.o, .bool e.f] 51)
  have g1 := (hu.block _ (blk_lt h1)).trans h1
  exact ⟨⟨by rw [cell_blk g1]; rfl, by rw [cell_blk g1]; rfl, by rw [cell_blk g1]; rfl, by rw [cell_blk g1]; rfl⟩, blk_lt g1⟩
set_option maxRecDepth 100000 in
set_option maxHeartbeats 2000000 in
theorem enabled_any (w : World) (C : Nat → Prop) (S T : Nat) (s : St) (t : Nat) (h : SAt w C S T s) (hw : Pr.Wf s) (ht : t < s.th.length) :
    Calls Tryz.prog 68 #[.pointer (some ⟨S, 0, none⟩), .int .i64 (t : Int)] w fun x w' => x = .returned (.bool (Pr.enabled s t)) ∧ Below w.heap.size w w' := by
  have hcall := next_any w C S T s t h hw ht
  have hlk : ∀ e, Pr.next s t = some e → e.k = 4 → ∃ m : Nat, e.o = m ∧ m < 2 := fun e he hk => Pr.next_lock hw he hk
  have hen : Pr.enabled s t = match Pr.next s t with | none => false | some e => decide (e.k ≠ 4) || decide (s.h e.o.toNat < 0) := rfl
  obtain ⟨q, hq⟩ : ∃ q, q = Pr.next s t := ⟨_, rfl⟩
  rw [← hq] at hcall hlk hen
  rw [hen]
  have HCALL := Lib.hid hcall
  have HLK := Lib.hid hlk
  have HS := Lib.hid h
  clear hcall hlk hen hq h hw ht
  go_enter Tryz.func68, Tryz.ntmps68
  go_wp2_with fail
  refine HCALL.out.mono ?_
  rintro y w1 ⟨rfl, b1⟩
  have HB1 := Lib.hid b1
  clear b1 HCALL
  obtain ⟨e, he⟩ : ∃ e, e = q.getD Pr.zeroE := ⟨_, rfl⟩
  obtain ⟨Wz, Z, hWz, hZ, hBz, hZl, hZe⟩ := ev_box w1 e
  rw [← he]
  have HZE := Lib.hid hZe
  have HB2 := Lib.hid (below_at HB1.out hBz)
  have HE := Lib.hid he
  unfold valE
  clear hZe hZl hBz he HB1
  cases q with
  | none =>
    simp only [Option.isSome_none]
    go_upto_region 2 with fail
    rw [← hWz, ← hZ]
    clear hWz hZ
    refine wp_region_planF (by kernel_rfl) (fun u => Below Wz.heap.size Wz u) [] [(0, .pure), (1, .pure), (2, .pure), (3, .load), (4, .pure), (5, .pure), (6, .pure), (7, .pure), (8, .load), (9, .pure), (10, .pure), (11, .pure), (12, .load), (13, .pure), (14, .pure), (15, .pure), (16, .pure)] (by simp only [List.map_cons, List.map_nil, List.getElem?_toArray, List.getElem?_cons_succ, List.getElem?_cons_zero]; rfl) (by kernel_rfl) (fun _ _ d _ _ h => by cases d <;> exact h) ((Below.refl _ _).drew) ?_
    repeat (first
      | (refine plan_pure (v := ?_) (by rfl) (fun w1 => ?_) ?_
         rotate_left
         · go_simp <;> with_reducible rfl
         simp only [Act.put, List.setIfInBounds_toArray, List.set_cons_zero, List.set_cons_succ])
      | (refine plan_off (by rfl) ?_
         simp only [Act.put, List.setIfInBounds_toArray, List.set_cons_zero, List.set_cons_succ])
      | (refine plan_load_off (by rfl) ?_
         simp only [Act.put, List.setIfInBounds_toArray, List.set_cons_zero, List.set_cons_succ])
      | (refine plan_load (v := ?_) (by rfl) (fun w1 hw1 => ?_) ?_
         rotate_left
         · (skip
            clear hw1
            go_simp <;> with_reducible rfl)
         simp only [Act.put, List.setIfInBounds_toArray, List.set_cons_zero, List.set_cons_succ]))
    refine plan_end ?_
    go_wp2_with fail
    go_ret
    exact ⟨rfl, HB2.out.drew⟩
  | some e' =>
    have hee : e = e' := HE.out
    subst hee
    have HL := Lib.hid (HLK.out e rfl)
    clear HLK HE
    obtain ⟨et, ek, eo, ef⟩ := e
    simp only [Option.isSome_some] at *
    go_upto_region 2 with fail
    rw [← hWz, ← hZ]
    clear hWz hZ
    by_cases h4 : ek = 4
    · subst h4
      obtain ⟨m, rfl, hm⟩ := HL.out rfl
      obtain ⟨y, hy⟩ : ∃ y, y = s.h m := ⟨_, rfl⟩
      have HY := Lib.hid hy
      have k1 : (0 : Int) ≤ (m : Int) := Int.natCast_nonneg _
      have k2 : (m : Int) < 2 := by omega
      clear hy
      by_cases hy : y < 0
      · have hd : decide (y < 0) = true := decide_eq_true hy
        refine wp_region_planF (by kernel_rfl) (fun u => Below Wz.heap.size Wz u) [] [(0, .pure), (1, .pure), (2, .pure), (3, .load), (4, .pure), (5, .pure), (6, .pure), (7, .pure), (8, .load), (9, .pure), (10, .pure), (11, .pure), (12, .load), (13, .pure), (14, .pure), (15, .pure), (16, .pure)] (by simp only [List.map_cons, List.map_nil, List.getElem?_toArray, List.getElem?_cons_succ, List.getElem?_cons_zero]; rfl) (by kernel_rfl) (fun _ _ d _ _ h => by cases d <;> exact h) ((Below.refl _ _).drew) ?_
        repeat (first
          | (refine plan_pure (v := ?_) (by rfl) (fun w1 => ?_) ?_
             rotate_left
             · go_simp <;> with_reducible rfl
             simp only [Act.put, List.setIfInBounds_toArray, List.set_cons_zero, List.set_cons_succ])
          | (refine plan_off (by rfl) ?_
             simp only [Act.put, List.setIfInBounds_toArray, List.set_cons_zero, List.set_cons_succ])
          | (refine plan_load_off (by rfl) ?_
             simp only [Act.put, List.setIfInBounds_toArray, List.set_cons_zero, List.set_cons_succ])
          | (refine plan_load (v := ?_) (by rfl) (fun w1 hw1 => ?_) ?_
             rotate_left
             · (have q := (HZE.out w1 hw1).1
                have q1 := q.2.1
                have q2 := q.2.2.1
                simp only [Nat.zero_add] at q1 q2
                clear q
                obtain ⟨PA, pc, tc, _, _, _, _, _, qh, _⟩ := (HS.out.below (HB2.out.trans (hw1.mono HB2.out.size))).cells
                have q3 := qh m hm
                rw [← HY.out] at q3
                clear qh
                clear hw1
                go_simp <;> with_reducible rfl)
             simp only [Act.put, List.setIfInBounds_toArray, List.set_cons_zero, List.set_cons_succ]))
        refine plan_end ?_
        go_wp2_with fail
        go_ret
        exact ⟨by simp [← HY.out, hy], HB2.out.drew⟩
      · have hd : decide (y < 0) = false := decide_eq_false hy
        refine wp_region_planF (by kernel_rfl) (fun u => Below Wz.heap.size Wz u) [] [(0, .pure), (1, .pure), (2, .pure), (3, .load), (4, .pure), (5, .pure), (6, .pure), (7, .pure), (8, .load), (9, .pure), (10, .pure), (11, .pure), (12, .load), (13, .pure), (14, .pure), (15, .pure), (16, .pure)] (by simp only [List.map_cons, List.map_nil, List.getElem?_toArray, List.getElem?_cons_succ, List.getElem?_cons_zero]; rfl) (by kernel_rfl) (fun _ _ d _ _ h => by cases d <;> exact h) ((Below.refl _ _).drew) ?_
        repeat (first
          | (refine plan_pure (v := ?_) (by rfl) (fun w1 => ?_) ?_
             rotate_left
             · go_simp <;> with_reducible rfl
             simp only [Act.put, List.setIfInBounds_toArray, List.set_cons_zero, List.set_cons_succ])
          | (refine plan_off (by rfl) ?_
             simp only [Act.put, List.setIfInBounds_toArray, List.set_cons_zero, List.set_cons_succ])
          | (refine plan_load_off (by rfl) ?_
             simp only [Act.put, List.setIfInBounds_toArray, List.set_cons_zero, List.set_cons_succ])
          | (refine plan_load (v := ?_) (by rfl) (fun w1 hw1 => ?_) ?_
             rotate_left
             · (have q := (HZE.out w1 hw1).1
                have q1 := q.2.1
                have q2 := q.2.2.1
                simp only [Nat.zero_add] at q1 q2
                clear q
                obtain ⟨PA, pc, tc, _, _, _, _, _, qh, _⟩ := (HS.out.below (HB2.out.trans (hw1.mono HB2.out.size))).cells
                have q3 := qh m hm
                rw [← HY.out] at q3
                clear qh
                clear hw1
                go_simp <;> with_reducible rfl)
             simp only [Act.put, List.setIfInBounds_toArray, List.set_cons_zero, List.set_cons_succ]))
        refine plan_end ?_
        go_wp2_with fail
        go_ret
        exact ⟨by simp [← HY.out, hy], HB2.out.drew⟩
    · have hd : (ek == 4) = false := by simpa using h4
      have hd2 : (ek != 4) = true := by simpa using h4
      have hd3 : decide (ek = 4) = false := decide_eq_false h4
      refine wp_region_planF (by kernel_rfl) (fun u => Below Wz.heap.size Wz u) [] [(0, .pure), (1, .pure), (2, .pure), (3, .load), (4, .pure), (5, .pure), (6, .pure), (7, .pure), (8, .load), (9, .pure), (10, .pure), (11, .pure), (12, .load), (13, .pure), (14, .pure), (15, .pure), (16, .pure)] (by simp only [List.map_cons, List.map_nil, List.getElem?_toArray, List.getElem?_cons_succ, List.getElem?_cons_zero]; rfl) (by kernel_rfl) (fun _ _ d _ _ h => by cases d <;> exact h) ((Below.refl _ _).drew) ?_
      repeat (first
        | (refine plan_pure (v := ?_) (by rfl) (fun w1 => ?_) ?_
           rotate_left
           · go_simp <;> with_reducible rfl
           simp only [Act.put, List.setIfInBounds_toArray, List.set_cons_zero, List.set_cons_succ])
        | (refine plan_off (by rfl) ?_
           simp only [Act.put, List.setIfInBounds_toArray, List.set_cons_zero, List.set_cons_succ])
        | (refine plan_load_off (by rfl) ?_
           simp only [Act.put, List.setIfInBounds_toArray, List.set_cons_zero, List.set_cons_succ])
        | (refine plan_load (v := ?_) (by rfl) (fun w1 hw1 => ?_) ?_
           rotate_left
           · (have q := (HZE.out w1 hw1).1
              have q1 := q.2.1
              have q2 := q.2.2.1
              simp only [Nat.zero_add] at q1 q2
              clear q
              clear hw1
              go_simp <;> with_reducible rfl)
           simp only [Act.put, List.setIfInBounds_toArray, List.set_cons_zero, List.set_cons_succ]))
      refine plan_end ?_
      go_wp2_with fail
      go_ret
      exact ⟨by simp, HB2.out.drew⟩
end Go.Proofs.YtckdofjpoajblaaGreat
namespace Go.Proofs.YtckdofjpoajblaaGreat
open Go.RowKit
set_option linter.unusedVariables false
theorem Tryz.infoInt : (Tryz.prog.info? 3).map (fun i => (i.zero, i.size, i.bytes)) = some (some (.int .i64 0), 1, 8) := by kernel_rfl
def iv (n : Int) : Value := .int .i64 n
def IntsAt (w w' : World) (A : Option Addr) (cap : Nat) (l : List Int) : Prop := Row w' 3 1 A l.length cap (l.map iv) ∧ ∀ a, A = some a → w.heap.size ≤ a.block
def allI (s : St) (k : Nat) : List Int := ((List.range k).filter (Pr.enabled s)).map (fun (t : Nat) => (t : Int))
theorem allI_step (s : St) (k : Nat) : allI s (k + 1) = if Pr.enabled s k = true then allI s k ++ [(k : Int)] else allI s k := by
  unfold allI
  rw [List.range_succ, List.filter_append]
  by_cases h : Pr.enabled s k = true <;> simp [h]
set_option maxRecDepth 100000 in
set_option maxHeartbeats 2000000 in
theorem all_any (w : World) (C : Nat → Prop) (S T : Nat) (s : St) (h : SAt w C S T s) (hw : Pr.Wf s) :
    Calls Tryz.prog 31 #[.pointer (some ⟨S, 0, none⟩)] w fun x w' => ∃ A cap, x = .returned (.slice A ((Pr.all s).map (fun (t : Nat) => (t : Int))).length cap) ∧ IntsAt w w' A cap ((Pr.all s).map (fun (t : Nat) => (t : Int))) ∧ Below w.heap.size w w' := by
  have hthr := threads_any w C S T s h
  have hen : ∀ u t, Below w.heap.size w u → t < s.th.length → Calls Tryz.prog 68 #[.pointer (some ⟨S, 0, none⟩), .int .i64 (t : Int)] u fun x w' => x = .returned (.bool (Pr.enabled s t)) ∧ Below u.heap.size u w' := fun u t hu ht => enabled_any u C S T s t (h.below hu) hw ht
  have hn4 := hw.n4
  have hall : (Pr.all s).map (fun (t : Nat) => (t : Int)) = allI s s.th.length := rfl
  rw [hall]
  obtain ⟨n, hn⟩ : ∃ n, n = s.th.length := ⟨_, rfl⟩
  rw [← hn] at hthr hen hn4 ⊢
  obtain ⟨i0, hi0, hz0, hz1, hz2⟩ := info_parts Tryz.infoInt
  have HTHR := Lib.hid hthr
  have HEN := Lib.hid hen
  clear hthr hen h hw hall hn
  go_enter Tryz.func31, Tryz.ntmps31
  go_wp2_with fail
  refine HTHR.out.mono ?_
  rintro x w' ⟨rfl, rfl⟩
  go_wp2_with fail
  go_loopw [2, 6] (fun r v wr => ∃ (k : Nat) (A : Option Addr) (cap len : Nat), k ≤ n ∧ v = .int .i64 k ∧ r = .slice A len cap ∧ len ≤ k ∧ Hid (len = (allI s k).length) ∧ Hid (IntsAt w wr A cap (allI s k)) ∧ Hid (Below w.heap.size w wr)) (fun _ v _ => n - (intOf v).toNat)
  case atStart => exact ⟨0, none, 0, 0, Nat.zero_le _, rfl, rfl, Nat.le_refl _, Lib.hid rfl, Lib.hid ⟨Row.nil _ _ _, fun a h => by cases h⟩, Lib.hid (Below.refl _ _)⟩
  case round =>
    obtain ⟨k, A, cap, len, hk, rfl, rfl, hlk, HLEN, HA, HB⟩ := hrel
    by_cases hlt : k < n
    · have hcall := HEN.out wr k HB.out hlt
      have hstep := allI_step s k
      obtain ⟨b, hb⟩ : ∃ b, b = Pr.enabled s k := ⟨_, rfl⟩
      rw [← hb] at hcall hstep
      have k1 : (0 : Int) ≤ (k : Int) := Int.natCast_nonneg _
      have k2 : (k : Int) < (n : Int) := by omega
      have HCALL := Lib.hid hcall
      have HSTEP := Lib.hid hstep
      clear hcall hstep hb
      go_wp2_with fail
      refine HCALL.out.mono ?_
      rintro x w1 ⟨rfl, b1⟩
      have HB1 := Lib.hid (below_at HB.out b1)
      have hr1 : Row w1 3 1 A len cap ((allI s k).map iv) := by
        have := row_stepS HA.out.1 b1
        rw [← HLEN.out] at this
        exact this
      have HR1 := Lib.hid hr1
      clear b1 hr1
      cases b with
      | false =>
        go_wp2_with fail
        go_roundw
        case rel => exact ⟨k + 1, A, cap, len, by omega, by go_num, rfl, by omega, Lib.hid (by rw [HSTEP.out]; exact HLEN.out), Lib.hid ⟨by rw [HSTEP.out]; have := HR1.out; rw [HLEN.out] at this; exact this, HA.out.2⟩, HB1⟩
        case measure => simp [intOf]; omega
      | true =>
        go_wp2_with (at_builtin; refine wpList_append_row (by rfl) _ _ _ (by rfl) 3 i0 _ 1 8 Tryz.underlying32 hi0 hz0 hz1 hz2 rfl (by omega) A len cap ((allI s k).map iv) (by rfl) (HR1.out.alloc _) ⟨w1.heap.size, 0, none⟩ 1 1 [.int .i64 (k : Int)] (by rfl) (by rfl) (World.news_of_block (cs := #[.int .i64 (k : Int)]) (t := 3) (fr := (0, 0)) (heap_alloc_new w1 _)) (by simp [Value.oneCell']) (by omega) (by unfold maxLen; omega) (by omega) ?_; intro g1 of1 cap1 w3 hown hm hat; skip)
        obtain ⟨q1, q2⟩ := acc_more HA.out.2 HB1.out hm hat (of := of1)
        go_roundw
        case rel =>
          have hl : (allI s (k + 1)).length = len + 1 := by rw [HSTEP.out]; simp [HLEN.out]
          refine ⟨k + 1, some ⟨g1, of1, none⟩, cap1, len + 1, by omega, by go_num, rfl, by omega, Lib.hid hl.symm, Lib.hid ⟨?_, q1⟩, Lib.hid q2⟩
          rw [hl, HSTEP.out]
          simpa [iv] using hown
        case measure => simp [intOf]; omega
    · obtain rfl : k = n := by omega
      have hl := HLEN.out
      subst hl
      go_wp2_with fail
      go_ret
      exact ⟨A, cap, rfl, HA.out, HB.out⟩
end Go.Proofs.YtckdofjpoajblaaGreat
namespace Go.Proofs.YtckdofjpoajblaaGreat
open Go.RowKit
set_option linter.unusedVariables false
namespace Bs
def bit (t : Nat) : BitVec 8 := if t < 8 then BitVec.twoPow 8 t else 0#8
def has (s : BitVec 8) (t : Nat) : Bool := s.getLsbD t
def sv8 (s : BitVec 8) : Value := .int .u8 (s.toNat : Int)
theorem of_nat (a : BitVec 8) : BitVec.ofInt 8 (a.toNat : Int) = a := by
  rw [BitVec.ofInt_natCast, BitVec.ofNat_toNat, BitVec.setWidth_eq]
theorem wr (a : BitVec 8) : IntKind.u8.wrap (a.toNat : Int) = (a.toNat : Int) := by
  have := a.isLt
  rw [IntKind.wrap_u8]
  omega
theorem or_u8 (a b : BitVec 8) : bits .or .u8 (a.toNat : Int) (b.toNat : Int) = ((a ||| b).toNat : Int) := by
  show IntKind.u8.wrap ((BitVec.ofInt 8 (a.toNat : Int) ||| BitVec.ofInt 8 (b.toNat : Int)).toNat : Int) = _
  rw [of_nat, of_nat, wr]
theorem and_u8 (a b : BitVec 8) : bits .and .u8 (a.toNat : Int) (b.toNat : Int) = ((a &&& b).toNat : Int) := by
  show IntKind.u8.wrap ((BitVec.ofInt 8 (a.toNat : Int) &&& BitVec.ofInt 8 (b.toNat : Int)).toNat : Int) = _
  rw [of_nat, of_nat, wr]
theorem andNot_u8 (a b : BitVec 8) : bits .andNot .u8 (a.toNat : Int) (b.toNat : Int) = ((a &&& ~~~b).toNat : Int) := by
  show IntKind.u8.wrap ((BitVec.ofInt 8 (a.toNat : Int) &&& ~~~BitVec.ofInt 8 (b.toNat : Int)).toNat : Int) = _
  rw [of_nat, of_nat, wr]
theorem has_bit (t u : Nat) : has (bit t) u = (decide (t < 8) && decide (t = u)) := by
  unfold has bit
  by_cases h : t < 8
  · rw [if_pos h, BitVec.getLsbD_twoPow, decide_eq_true h]
  · rw [if_neg h, decide_eq_false h]; simp
theorem has_or (a b : BitVec 8) (t : Nat) : has (a ||| b) t = (has a t || has b t) := BitVec.getLsbD_or
theorem has_sub (a b : BitVec 8) (t : Nat) : has (a &&& ~~~b) t = (has a t && !has b t) := by
  unfold has
  rw [BitVec.getLsbD_and, BitVec.getLsbD_not]
  by_cases h : t < 8
  · rw [decide_eq_true h, Bool.true_and]
  · rw [BitVec.getLsbD_of_ge a t (by omega)]; rfl
theorem has_big {s : BitVec 8} {t : Nat} (h : 8 ≤ t) : has s t = false := BitVec.getLsbD_of_ge s t h
theorem has_zero (t : Nat) : has 0#8 t = false := by simp [has]
theorem ext {a b : BitVec 8} (h : ∀ t, t < 8 → has a t = has b t) : a = b := BitVec.eq_of_getLsbD_eq h
theorem and_ne (s : BitVec 8) (t : Nat) : (((s &&& bit t).toNat : Int) == 0) = !has s t := by
  cases h : has s t with
  | true =>
    have h8 : t < 8 := Classical.byContradiction fun hc => by rw [has_big (by omega)] at h; cases h
    have hb : has (s &&& bit t) t = true := by
      have h1 := has_bit t t
      unfold has at h h1 ⊢
      rw [BitVec.getLsbD_and, h, h1, decide_eq_true h8]; simp
    have hne : (s &&& bit t).toNat ≠ 0 := fun e => by
      have : s &&& bit t = 0#8 := BitVec.eq_of_toNat_eq e
      rw [this, has_zero] at hb; cases hb
    simp only [Bool.not_true, beq_eq_false_iff_ne, ne_eq]
    omega
  | false =>
    have : s &&& bit t = 0#8 := ext fun u hu => by
      have h1 := has_bit t u
      rw [has_zero]
      unfold has at h h1 ⊢
      rw [BitVec.getLsbD_and, h1]
      by_cases e : t = u
      · rw [← e, h]; rfl
      · rw [decide_eq_false e]; simp
    rw [this]
    rfl
def all (s : BitVec 8) : List Nat := (List.range 8).filter (has s)
def of (l : List Nat) : BitVec 8 := l.foldl (fun s t => s ||| bit t) 0#8
theorem mem_all {s : BitVec 8} {t : Nat} : t ∈ all s ↔ has s t = true := by
  unfold all
  rw [List.mem_filter, List.mem_range]
  exact ⟨fun h => h.2, fun h => ⟨Classical.byContradiction fun hc => (by rw [has_big (by omega)] at h; cases h), h⟩⟩
theorem all_len (s : BitVec 8) : (all s).length ≤ 8 := by
  have := List.length_filter_le (has s) (List.range 8)
  simpa [all] using this
theorem of_snoc (l : List Nat) (t : Nat) : of (l ++ [t]) = of l ||| bit t := by unfold of; rw [List.foldl_append]; rfl
theorem has_of (l : List Nat) (u : Nat) (h : ∀ t ∈ l, t < 8) : has (of l) u = decide (u ∈ l) := by
  have key : ∀ (l : List Nat) (s : BitVec 8), (∀ t ∈ l, t < 8) → has (l.foldl (fun s t => s ||| bit t) s) u = (has s u || decide (u ∈ l)) := by
    intro l
    induction l with
    | nil => intro s _; simp
    | cons t l ih =>
      intro s hl
      rw [List.foldl_cons, ih _ (fun x hx => hl x (List.mem_cons_of_mem _ hx)), has_or, has_bit, decide_eq_true (hl t List.mem_cons_self)]
      have e : decide (u ∈ t :: l) = (decide (t = u) || decide (u ∈ l)) := by
        by_cases h1 : t = u
        · subst h1; simp
        · have h2 : ¬ u = t := fun h => h1 h.symm
          simp [h1, h2]
      rw [e, Bool.true_and, Bool.or_assoc]
  have := key l 0#8 h
  rw [has_zero, Bool.false_or] at this
  exact this
end Bs
open Bs
set_option maxRecDepth 100000 in
theorem bit_any (w : World) (t : Nat) : Calls Tryz.prog 165 #[.int .i64 (t : Int)] w fun x w' => x = .returned (sv8 (bit t)) ∧ w = w' := by
  have h0 : (0 : Int) ≤ (t : Int) := Int.natCast_nonneg _
  unfold bit sv8
  by_cases h : t < 8
  · rw [if_pos h]
    have h1 : (t : Int) < 8 := by omega
    rcases (show t = 0 ∨ t = 1 ∨ t = 2 ∨ t = 3 ∨ t = 4 ∨ t = 5 ∨ t = 6 ∨ t = 7 by omega) with rfl | rfl | rfl | rfl | rfl | rfl | rfl | rfl
    all_goals
      clear h h0 h1
      go_enter Tryz.func165, Tryz.ntmps165
      go_wp2_with fail
      go_ret
      exact ⟨by first | rfl | kernel_rfl | decide, rfl⟩
  · rw [if_neg h]
    have h1 : (8 : Int) ≤ (t : Int) := by omega
    have h2 : ¬ (t : Int) < 0 := by omega
    clear h
    go_enter Tryz.func165, Tryz.ntmps165
    go_wp2_with fail
    go_ret
    exact ⟨rfl, rfl⟩
set_option maxRecDepth 100000 in
theorem has_any (w : World) (s : BitVec 8) (t : Nat) : Calls Tryz.prog 124 #[sv8 s, .int .i64 (t : Int)] w fun x w' => x = .returned (.bool (has s t)) ∧ w = w' := by
  have hb := bit_any w t
  obtain ⟨b, hbb⟩ : ∃ b, b = bit t := ⟨_, rfl⟩
  have hne := and_ne s t
  rw [← hbb] at hb hne
  unfold sv8 at hb ⊢
  obtain ⟨r, hr⟩ : ∃ r, r = has s t := ⟨_, rfl⟩
  rw [← hr] at hne ⊢
  have HB := Lib.hid hb
  have HN := Lib.hid hne
  clear hb hne hbb hr
  go_enter Tryz.func124, Tryz.ntmps124
  go_wp2_with fail
  refine HB.out.mono ?_
  rintro y w1 ⟨rfl, rfl⟩
  go_wp2_with fail
  go_ret
  refine ⟨?_, rfl⟩
  have h1 := HN.out
  rw [and_u8]
  show Ending.returned (.bool (!(((s &&& b).toNat : Int) == 0))) = _
  rw [h1, Bool.not_not]
set_option maxRecDepth 100000 in
theorem with_any (w : World) (s : BitVec 8) (t : Nat) : Calls Tryz.prog 125 #[sv8 s, .int .i64 (t : Int)] w fun x w' => x = .returned (sv8 (s ||| bit t)) ∧ w = w' := by
  have hb := bit_any w t
  obtain ⟨b, hbb⟩ : ∃ b, b = bit t := ⟨_, rfl⟩
  rw [← hbb] at hb ⊢
  unfold sv8 at hb ⊢
  have HB := Lib.hid hb
  clear hb hbb
  go_enter Tryz.func125, Tryz.ntmps125
  go_wp2_with fail
  refine HB.out.mono ?_
  rintro y w1 ⟨rfl, rfl⟩
  go_wp2_with fail
  go_ret
  exact ⟨by rw [or_u8]; rfl, rfl⟩
set_option maxRecDepth 100000 in
theorem without_any (w : World) (s : BitVec 8) (t : Nat) : Calls Tryz.prog 206 #[sv8 s, .int .i64 (t : Int)] w fun x w' => x = .returned (sv8 (s &&& ~~~bit t)) ∧ w = w' := by
  have hb := bit_any w t
  obtain ⟨b, hbb⟩ : ∃ b, b = bit t := ⟨_, rfl⟩
  rw [← hbb] at hb ⊢
  unfold sv8 at hb ⊢
  have HB := Lib.hid hb
  clear hb hbb
  go_enter Tryz.func206, Tryz.ntmps206
  go_wp2_with fail
  refine HB.out.mono ?_
  rintro y w1 ⟨rfl, rfl⟩
  go_wp2_with fail
  go_ret
  exact ⟨by rw [andNot_u8]; rfl, rfl⟩
set_option maxRecDepth 100000 in
theorem union_any (w : World) (s t : BitVec 8) : Calls Tryz.prog 121 #[sv8 s, sv8 t] w fun x w' => x = .returned (sv8 (s ||| t)) ∧ w = w' := by
  unfold sv8
  go_enter Tryz.func121, Tryz.ntmps121
  go_wp2_with fail
  go_ret
  exact ⟨by rw [or_u8]; rfl, rfl⟩
set_option maxRecDepth 100000 in
/-- Of -/
theorem of_any (w : World) (A : Option Addr) (cap : Nat) (l : List Nat) (hr : Rd w 1 A l.length (l.map fun (t : Nat) => .int .i64 (t : Int))) (hl : l.length ≤ 100000) :
    Calls Tryz.prog 122 #[.slice A l.length cap] w fun x w' => x = .returned (sv8 (of l)) ∧ w = w' := by
  obtain ⟨n, hn⟩ : ∃ n, n = l.length := ⟨_, rfl⟩
  have HR := Lib.hid hr
  have HN := Lib.hid hn
  rw [← hn] at hl ⊢
  clear hr hn
  go_enter Tryz.func122, Tryz.ntmps122
  go_wp2_with fail
  go_loopw [7, 2] (fun iv sv wr => ∃ (i : Nat) (s : BitVec 8), i ≤ n ∧ iv = .int .i64 i ∧ sv = .int .u8 (s.toNat : Int) ∧ Hid (s = of (l.take i)) ∧ wr = w) (fun iv _ _ => n - (intOf iv).toNat)
  case atStart => exact ⟨0, 0#8, Nat.zero_le _, rfl, rfl, Lib.hid rfl, rfl⟩
  case round =>
    obtain ⟨i, s, hi, rfl, rfl, HS, rfl⟩ := hrel
    rename World => w
    by_cases hlt : i < n
    · have hln : i < l.length := by rw [← HN.out]; exact hlt
      obtain ⟨t, ht⟩ := get_some hln
      obtain ⟨g, o, rfl, hg, hc⟩ := HR.out.2 (by omega)
      have h1 := hc i (by omega)
      rw [List.getElem?_map, ht] at h1
      simp only [Option.map_some] at h1
      have k1 : (0 : Int) ≤ (i : Int) := Int.natCast_nonneg _
      have k2 : (i : Int) < (n : Int) := by omega
      have hb := bit_any w t
      obtain ⟨b, hbb⟩ : ∃ b, b = bit t := ⟨_, rfl⟩
      rw [← hbb] at hb
      unfold sv8 at hb
      have HB := Lib.hid hb
      have HBB := Lib.hid hbb
      have HT := Lib.hid ht
      clear hb hbb ht hc hln
      go_wp2_with fail
      refine HB.out.mono ?_
      rintro y w1 ⟨rfl, rfl⟩
      go_wp2_with fail
      rw [or_u8]
      go_roundw
      case rel => exact ⟨i + 1, s ||| b, by omega, by go_num, rfl, Lib.hid (by rw [List.take_add_one, HT.out]; simp only [Option.toList_some]; rw [of_snoc, HS.out, HBB.out]), by trivial⟩
      case measure => simp [intOf]; omega
    · obtain rfl : i = n := by omega
      have hs := HS.out
      rw [HN.out, List.take_length] at hs
      have k4 : ¬ (i : Int) < (i : Int) := by omega
      have HS2 := Lib.hid hs
      clear hs
      go_wp2_with fail
      go_ret
      exact ⟨by unfold sv8; rw [← HS2.out]; rfl, rfl⟩
end Go.Proofs.YtckdofjpoajblaaGreat
namespace Go.Proofs.YtckdofjpoajblaaGreat
open Go.RowKit Bs
set_option linter.unusedVariables false
namespace Bs
def natI (l : List Nat) : List Int := l.map fun (t : Nat) => (t : Int)
def allK (s : BitVec 8) (k : Nat) : List Int := natI ((List.range k).filter (has s))
theorem allK_step (s : BitVec 8) (k : Nat) : allK s (k + 1) = if has s k = true then allK s k ++ [(k : Int)] else allK s k := by
  unfold allK natI
  rw [List.range_succ, List.filter_append]
  by_cases h : has s k = true <;> simp [h]
end Bs
set_option maxRecDepth 100000 in
set_option maxHeartbeats 2000000 in
theorem setAll_any (w : World) (s : BitVec 8) :
    Calls Tryz.prog 167 #[sv8 s] w fun x w' => ∃ A cap, x = .returned (.slice A (natI (Bs.all s)).length cap) ∧ IntsAt w w' A cap (natI (Bs.all s)) ∧ Below w.heap.size w w' := by
  have hhas := fun u t => has_any u s t
  have hall : natI (Bs.all s) = allK s 8 := rfl
  rw [hall]
  unfold sv8 at hhas ⊢
  obtain ⟨i0, hi0, hz0, hz1, hz2⟩ := info_parts Tryz.infoInt
  have HHAS := Lib.hid hhas
  clear hhas hall
  go_enter Tryz.func167, Tryz.ntmps167
  go_wp2_with fail
  go_loopw [2, 4] (fun r v wr => ∃ (k : Nat) (A : Option Addr) (cap len : Nat), k ≤ 8 ∧ v = .int .i64 k ∧ r = .slice A len cap ∧ len ≤ k ∧ Hid (len = (allK s k).length) ∧ Hid (IntsAt w wr A cap (allK s k)) ∧ Hid (Below w.heap.size w wr)) (fun _ v _ => 8 - (intOf v).toNat)
  case atStart => exact ⟨0, none, 0, 0, Nat.zero_le _, rfl, rfl, Nat.le_refl _, Lib.hid rfl, Lib.hid ⟨Row.nil _ _ _, fun a h => by cases h⟩, Lib.hid (Below.refl _ _)⟩
  case round =>
    obtain ⟨k, A, cap, len, hk, rfl, rfl, hlk, HLEN, HA, HB⟩ := hrel
    rename World => wr
    by_cases hlt : k < 8
    · have hcall := HHAS.out wr k
      have hstep := allK_step s k
      obtain ⟨b, hb⟩ : ∃ b, b = has s k := ⟨_, rfl⟩
      rw [← hb] at hcall hstep
      have k1 : (0 : Int) ≤ (k : Int) := Int.natCast_nonneg _
      have k2 : (k : Int) < 8 := by omega
      have HCALL := Lib.hid hcall
      have HSTEP := Lib.hid hstep
      clear hcall hstep hb
      go_wp2_with fail
      refine HCALL.out.mono ?_
      rintro x w1 ⟨rfl, rfl⟩
      have hr1 : Row wr 3 1 A len cap ((allK s k).map iv) := by
        have := HA.out.1
        rw [← HLEN.out] at this
        exact this
      have HR1 := Lib.hid hr1
      clear hr1
      cases b with
      | false =>
        go_wp2_with fail
        go_roundw
        case rel => exact ⟨k + 1, A, cap, len, by omega, by go_num, rfl, by omega, Lib.hid (by rw [HSTEP.out]; exact HLEN.out), Lib.hid ⟨by rw [HSTEP.out]; have := HR1.out; rw [HLEN.out] at this; exact this, HA.out.2⟩, HB⟩
        case measure => simp [intOf]; omega
      | true =>
        go_wp2_with (at_builtin; refine wpList_append_row (by rfl) _ _ _ (by rfl) 3 i0 _ 1 8 Tryz.underlying32 hi0 hz0 hz1 hz2 rfl (by omega) A len cap ((allK s k).map iv) (by rfl) (HR1.out.alloc _) ⟨wr.heap.size, 0, none⟩ 1 1 [.int .i64 (k : Int)] (by rfl) (by rfl) (World.news_of_block (cs := #[.int .i64 (k : Int)]) (t := 3) (fr := (0, 0)) (heap_alloc_new wr _)) (by simp [Value.oneCell']) (by omega) (by unfold maxLen; omega) (by omega) ?_; intro g1 of1 cap1 w3 hown hm hat; skip)
        obtain ⟨q1, q2⟩ := acc_more HA.out.2 HB.out hm hat (of := of1)
        go_roundw
        case rel =>
          have hl : (allK s (k + 1)).length = len + 1 := by rw [HSTEP.out]; simp [HLEN.out]
          refine ⟨k + 1, some ⟨g1, of1, none⟩, cap1, len + 1, by omega, by go_num, rfl, by omega, Lib.hid hl.symm, Lib.hid ⟨?_, q1⟩, Lib.hid q2⟩
          rw [hl, HSTEP.out]
          simpa [iv] using hown
        case measure => simp [intOf]; omega
    · obtain rfl : k = 8 := by omega
      have hl := HLEN.out
      subst hl
      go_wp2_with fail
      go_ret
      exact ⟨A, cap, rfl, HA.out, HB.out⟩
namespace Pr
def apartB (s : St) (e : Ev) (u : Nat) : Bool := match next s u with | some y => !Fo.dep y e | none => false
def childOf (s : St) (a d : BitVec 8) (t : Nat) : BitVec 8 :=
  match next s t with
  | none => 0#8
  | some e => of ((Bs.all ((a ||| d) &&& ~~~bit t)).filter (apartB s e))
end Pr
set_option maxRecDepth 100000 in
set_option maxHeartbeats 4000000 in
theorem child_any (w : World) (C : Nat → Prop) (S T : Nat) (s : St) (a d : BitVec 8) (t : Nat) (h : SAt w C S T s) (hw : Pr.Wf s) (ht : t < s.th.length) (had : ∀ u, has (a ||| d) u = true → u < s.th.length) :
    Calls Tryz.prog 168 #[.pointer (some ⟨S, 0, none⟩), sv8 a, sv8 d, .int .i64 (t : Int)] w fun x w' => x = .returned (sv8 (Pr.childOf s a d t)) ∧ Below w.heap.size w w' := by
  have hnx := fun (u : World) (hu : Below w.heap.size w u) (i : Nat) (hi : i < s.th.length) => next_any u C S T s i (h.below hu) hw hi
  have hc0 := hnx w (Below.refl _ _) t ht
  have hun := fun u => union_any u a d
  have hwo := fun u => without_any u (a ||| d) t
  obtain ⟨c, hc⟩ : ∃ c, c = (a ||| d) &&& ~~~bit t := ⟨_, rfl⟩
  have hall := fun u => setAll_any u c
  obtain ⟨b, hb⟩ : ∃ b, b = a ||| d := ⟨_, rfl⟩
  have hmem : ∀ u ∈ Bs.all c, u < s.th.length := fun u hu => by
    refine had u ?_
    have := mem_all.1 hu
    rw [hc, has_sub] at this
    cases hh : has (a ||| d) u with
    | true => rfl
    | false => rw [hh] at this; cases this
  have hlen : (Bs.all c).length ≤ 8 := all_len c
  obtain ⟨L, hL⟩ : ∃ L, L = Bs.all c := ⟨_, rfl⟩
  have hdep := fun (u : World) (x y : Ev) => depends_any u x y
  have hwith := fun (u : World) (s : BitVec 8) (t : Nat) => with_any u s t
  have hchild : Pr.childOf s a d t = match Pr.next s t with | none => 0#8 | some e => of (L.filter (Pr.apartB s e)) := by unfold Pr.childOf; rw [hL, hc]
  rw [← hc] at hwo
  rw [← hb] at hun hwo
  rw [← hL] at hall hmem hlen
  obtain ⟨res, hres⟩ : ∃ r, r = Pr.childOf s a d t := ⟨_, rfl⟩
  rw [← hres] at hchild ⊢
  obtain ⟨q, hq⟩ : ∃ q, q = Pr.next s t := ⟨_, rfl⟩
  rw [← hq] at hchild hc0
  unfold sv8 at hun hwo hall hwith ⊢
  have HNX := Lib.hid hnx
  have HC0 := Lib.hid hc0
  have HUN := Lib.hid hun
  have HWO := Lib.hid hwo
  have HALL := Lib.hid hall
  have HMEM := Lib.hid hmem
  have HDEP := Lib.hid hdep
  have HWITH := Lib.hid hwith
  have HCH := Lib.hid hchild
  have HLEN := Lib.hid hlen
  clear hnx hc0 hun hwo hall hmem hdep hwith hchild hlen hL hb hc hres hq had h hw
  go_enter Tryz.func168, Tryz.ntmps168
  go_wp2_with fail
  refine HC0.out.mono ?_
  rintro y w1 ⟨rfl, b1⟩
  obtain ⟨e, he⟩ : ∃ e, e = q.getD Pr.zeroE := ⟨_, rfl⟩
  obtain ⟨Wz, Z, hWz, hZ, hBz, hZl, hZe⟩ := ev_box w1 e
  rw [← he]
  have HZE := Lib.hid hZe
  have HB2 := Lib.hid (below_at b1 hBz)
  have HE := Lib.hid he
  unfold valE
  clear hZe hZl hBz he b1 HC0
  cases q with
  | none =>
    simp only [Option.isSome_none]
    have hr : res = 0#8 := HCH.out
    subst hr
    go_wp2_with fail
    rw [← hWz]
    go_ret
    exact ⟨rfl, HB2.out⟩
  | some e' =>
    have hee : e = e' := HE.out
    subst hee
    clear HE
    simp only [Option.isSome_some]
    have hr : res = of (L.filter (Pr.apartB s e)) := HCH.out
    have HRES := Lib.hid hr
    clear hr HCH
    obtain ⟨et, ek, eo, ef⟩ := e
    go_upto_region 4 with fail
    rw [← hWz, ← hZ]
    clear hWz hZ
    go_wp2_with fail
    refine (HUN.out _).mono ?_
    rintro y w2 ⟨rfl, rfl⟩
    go_wp2_with fail
    refine (HWO.out _).mono ?_
    rintro y w2 ⟨rfl, rfl⟩
    go_wp2_with fail
    refine (HALL.out _).mono ?_
    rintro y w3 ⟨A, cap, rfl, hA, b3⟩
    obtain ⟨n, hn⟩ : ∃ n, n = (natI L).length := ⟨_, rfl⟩
    have hn2 : n = L.length := by rw [hn]; unfold natI; rw [List.length_map]
    have hn8 : n ≤ 8 := by rw [hn2]; exact HLEN.out
    have hA2 := hA.1
    have HB3 := Lib.hid (below_at HB2.out b3)
    have HBZ := Lib.hid b3
    rw [← hn] at hA2 ⊢
    have HA := Lib.hid hA2
    have HN := Lib.hid (And.intro hn hn2)
    clear hA hA2 hn hn2 b3 HALL HUN HWO
    go_wp2_with fail
    go_loopw [30, 8] (fun iv sv wr => ∃ (i : Nat) (c : BitVec 8), i ≤ n ∧ iv = .int .i64 i ∧ sv = .int .u8 (c.toNat : Int) ∧ Hid (c = of ((L.take i).filter (Pr.apartB s ⟨et, ek, eo, ef⟩))) ∧ Hid (Below w3.heap.size w3 wr)) (fun iv _ _ => n - (intOf iv).toNat)
    case atStart => exact ⟨0, 0#8, Nat.zero_le _, rfl, rfl, Lib.hid rfl, Lib.hid (Below.refl _ _)⟩
    case round =>
      obtain ⟨i, c, hi, rfl, rfl, HC, HB⟩ := hrel
      rename World => V
      by_cases hlt : i < n
      · obtain ⟨u, hu⟩ := get_some (show i < L.length by rw [← HN.out.2]; exact hlt)
        have hrow := row_stepS HA.out HB.out
        obtain ⟨g, o, rfl⟩ := hrow.some_of_pos (by have := hrow.2.1; omega)
        have hcell := hrow.cell i (by omega)
        have hlg := hrow.lt
        have hui : ((natI L).map iv)[i]? = some (.int .i64 (u : Int)) := by unfold natI; rw [List.map_map, List.getElem?_map, hu]; rfl
        rw [hui] at hcell
        have hum := HMEM.out u (List.mem_of_getElem? hu)
        have hcall := HNX.out V (below_at HB3.out HB.out) u hum
        have htk : (L.take (i + 1)).filter (Pr.apartB s ⟨et, ek, eo, ef⟩) = (L.take i).filter (Pr.apartB s ⟨et, ek, eo, ef⟩) ++ (if Pr.apartB s ⟨et, ek, eo, ef⟩ u = true then [u] else []) := by
          rw [List.take_add_one, hu, List.filter_append]
          by_cases hh : Pr.apartB s ⟨et, ek, eo, ef⟩ u = true <;> simp [hh]
        have hap : Pr.apartB s ⟨et, ek, eo, ef⟩ u = (match Pr.next s u with | some y => !Fo.dep y ⟨et, ek, eo, ef⟩ | none => false) := rfl
        rw [hap] at htk
        obtain ⟨r, hr⟩ : ∃ r, r = Pr.next s u := ⟨_, rfl⟩
        rw [← hr] at hcall htk
        have k1 : (0 : Int) ≤ (i : Int) := Int.natCast_nonneg _
        have k2 : (i : Int) < (n : Int) := by omega
        have hlr : ((natI L).map iv).length = n * 1 := hrow.1
        have HCALL := Lib.hid hcall
        have HTK := Lib.hid htk
        have HU := Lib.hid hu
        clear hcall htk hr hap hrow hu hui hum hlr
        go_wp2_with fail
        refine HCALL.out.mono ?_
        rintro y v1 ⟨rfl, b1⟩
        obtain ⟨f, hf⟩ : ∃ f, f = r.getD Pr.zeroE := ⟨_, rfl⟩
        obtain ⟨Vz, Y, hVz, hY, hBy, hYl, hYe⟩ := ev_box v1 f
        rw [← hf]
        have HYE := Lib.hid hYe
        have HBV := Lib.hid (below_at HB.out (below_at b1 hBy))
        have HF := Lib.hid hf
        unfold valE
        clear hYe hYl hBy hf b1 HCALL hcell hlg
        cases r with
        | none =>
          simp only [Option.isSome_none]
          have htk := HTK.out
          simp only [Bool.false_eq_true, if_false, List.append_nil] at htk
          have HTK2 := Lib.hid htk
          clear htk HTK
          go_wp2_with fail
          rw [← hVz]
          go_roundw
          case rel => exact ⟨i + 1, c, by omega, by go_num, rfl, Lib.hid (by rw [HTK2.out]; exact HC.out), HBV⟩
          case measure => simp [intOf]; omega
        | some f' =>
          have hff : f = f' := HF.out
          subst hff
          clear HF
          simp only [Option.isSome_some]
          have hdp := HDEP.out Vz f ⟨et, ek, eo, ef⟩
          obtain ⟨dp, hdpe⟩ : ∃ dp, dp = Fo.dep f ⟨et, ek, eo, ef⟩ := ⟨_, rfl⟩
          have htk : (L.take (i + 1)).filter (Pr.apartB s ⟨et, ek, eo, ef⟩) = (L.take i).filter (Pr.apartB s ⟨et, ek, eo, ef⟩) ++ (if (!dp) = true then [u] else []) := by rw [hdpe]; exact HTK.out
          rw [← hdpe] at hdp
          have HTK2 := Lib.hid htk
          have HDP := Lib.hid hdp
          clear hdpe hdp htk HTK
          obtain ⟨ft, fk, fo, ff⟩ := f
          obtain ⟨⟨z0, z1, z2, z3⟩, zl⟩ := HZE.out Vz (below_at HBZ.out HBV.out)
          obtain ⟨⟨y0, y1, y2, y3⟩, yl⟩ := HYE.out Vz (Below.refl _ _)
          simp only [Nat.zero_add] at z1 z2 z3 y1 y2 y3
          go_upto_region 8 with fail
          simp only [← hVz, ← hY]
          clear hVz hY
          unfold valE at HDP
          go_wp2_with fail
          refine HDP.out.mono ?_
          rintro y v2 ⟨rfl, b2⟩
          have HBW := Lib.hid (below_at HBV.out b2)
          clear b2 z0 z1 z2 z3 zl y0 y1 y2 y3 yl
          cases dp with
          | true =>
            have htk := HTK2.out
            simp only [Bool.not_true, Bool.false_eq_true, if_false, List.append_nil] at htk
            have HTK3 := Lib.hid htk
            clear htk HTK2
            go_wp2_with fail
            go_roundw
            case rel => exact ⟨i + 1, c, by omega, by go_num, rfl, Lib.hid (by rw [HTK3.out]; exact HC.out), HBW⟩
            case measure => simp [intOf]; omega
          | false =>
            have htk := HTK2.out
            simp only [Bool.not_false, if_true] at htk
            have HTK3 := Lib.hid htk
            clear htk HTK2
            go_wp2_with fail
            refine (HWITH.out _ c u).mono ?_
            rintro y v3 ⟨rfl, rfl⟩
            go_wp2_with fail
            go_roundw
            case rel => exact ⟨i + 1, c ||| bit u, by omega, by go_num, rfl, Lib.hid (by rw [HTK3.out, of_snoc, HC.out]), HBW⟩
            case measure => simp [intOf]; omega
      · obtain rfl : i = n := by omega
        have hc := HC.out
        rw [HN.out.2, List.take_length, ← HRES.out] at hc
        subst hc
        have k4 : ¬ (i : Int) < (i : Int) := by omega
        go_wp2_with fail
        go_ret
        exact ⟨rfl, below_at HB3.out HB.out⟩
end Go.Proofs.YtckdofjpoajblaaGreat
namespace Go.Proofs.YtckdofjpoajblaaGreat
open Go.RowKit
set_option linter.unusedVariables false
def agK (f : Nat → Nat) : Value := .agg #[.int .i64 (f 0 : Nat), .int .i64 (f 1 : Nat), .int .i64 (f 2 : Nat), .int .i64 (f 3 : Nat)]
theorem set4_blk {w : World} {X : Nat} {a b c d : Value} {T : TypeId} (h : w.heap[X]? = some (.cells #[a, b, c, d] T (0, 0))) (x y z u : Value) : ∃ V, V = (((w.setCell ⟨X, 0, none⟩ x).setCell ⟨X, 1, none⟩ y).setCell ⟨X, 2, none⟩ z).setCell ⟨X, 3, none⟩ u ∧
    V.heap[X]? = some (.cells #[x, y, z, u] T (0, 0)) ∧ Mod (fun k => k = X) w V := by
  have h1 := set_blk h 0 x
  have h2 := set_blk h1 1 y
  have h3 := set_blk h2 2 z
  have h4 := set_blk h3 3 u
  refine ⟨_, rfl, by rw [h4]; simp, ((((Mod.refl (fun k => k = X) w).setCell (p := ⟨X, 0, none⟩) (fun _ => rfl) _).setCell (p := ⟨X, 1, none⟩) (fun _ => rfl) _).setCell (p := ⟨X, 2, none⟩) (fun _ => rfl) _).setCell (p := ⟨X, 3, none⟩) (fun _ => rfl) _⟩
namespace Fo
theorem ents_keep (m : List Ev) : ∀ (L : List Ent) (i : Nat), i < L.length → (ents_ L m)[i]? = L[i]? := by
  induction m with
  | nil => intro L i h; rfl
  | cons x m ih =>
    intro L i h
    show (ents_ (L ++ [⟨x, clk L x⟩]) m)[i]? = _
    rw [ih _ _ (by simp; omega), List.getElem?_append_left h]
theorem cl_at {l : List Ev} {i : Nat} {e : Ev} (h : l[i]? = some e) : (cl l)[i]? = some ⟨e, clk (cl (l.take i)) e⟩ := by
  obtain ⟨hi, rfl⟩ := List.getElem?_eq_some_iff.1 h
  have e1 : l = (l.take i ++ [l[i]]) ++ l.drop (i + 1) := by
    rw [List.append_assoc, List.singleton_append, ← List.drop_eq_getElem_cons hi, List.take_append_drop]
  have hlt : (l.take i).length = i := by rw [List.length_take]; omega
  conv => lhs; rw [e1]
  rw [cl_append, ents_keep _ _ _ (by rw [cl_len, List.length_append, hlt]; simp), cl_snoc, List.getElem?_append_right (by rw [cl_len, hlt]; exact Nat.le_refl _), cl_len, hlt, Nat.sub_self]
  rfl
theorem lastC_take {l : List Ev} {i : Nat} {e : Ev} (h : l[i]? = some e) (t : Nat) : lastC (l.take (i + 1)) t = if e.t.toNat = t then clk (cl (l.take i)) e else lastC (l.take i) t := by
  rw [List.take_add_one, h]
  exact lastC_snoc _ _ _
end Fo
set_option maxRecDepth 100000 in
set_option maxHeartbeats 4000000 in
theorem last_any (w : World) (A : Option Addr) (cap : Nat) (l : List Ev) (t : Nat) (hr : Rd w 4 A l.length (l.flatMap encE)) (hcap : l.length ≤ cap) (hcm : cap ≤ maxLen) (hl : l.length ≤ 1000) (hR : Fo.rights l = true) (ht : t < 4) :
    Calls Tryz.prog 205 #[.slice A l.length cap, .int .i64 (t : Int)] w fun x w' => x = .returned (agK (Fo.lastC l t)) ∧ Below w.heap.size w w' := by
  obtain ⟨Wa, hWa⟩ : ∃ z, z = w.alloc (Obj.cells #[.int .i64 0, .int .i64 0, .int .i64 0, .int .i64 0] 271) := ⟨_, rfl⟩
  obtain ⟨Y, hY⟩ : ∃ z, z = w.heap.size := ⟨_, rfl⟩
  have hba : Below w.heap.size w Wa := by rw [hWa]; exact (Below.refl _ _).alloc (Nat.le_refl _) _
  have hYk : Wa.heap[Y]? = some (.cells (arr (Fo.lastC (l.take 0) t)).toArray 271 (0, 0)) := by rw [hWa, hY]; exact heap_alloc_new w _
  have hclk := clocks_any Wa A cap l (hr.below hba (Nat.le_refl _)) hcap hcm hl hR
  have hev : ∀ (k : Nat) (e : Ev), l[k]? = some e → ∃ g o, A = some ⟨g, o, none⟩ ∧ g < w.heap.size ∧ ∀ u, Below w.heap.size w u → EvAt u g (o + k * 4) e := fun k e hk => by
    obtain ⟨h1, rfl⟩ := List.getElem?_eq_some_iff.1 hk
    exact evs_cell hr.toB k h1
  have hth : ∀ (k : Nat) (e : Ev), l[k]? = some e → ∃ n : Nat, e.t = (n : Int) ∧ n < 4 := fun k e hk => by
    obtain ⟨h1, h2⟩ := Fo.right_thr (List.all_eq_true.1 hR e (List.mem_of_getElem? hk))
    exact ⟨e.t.toNat, by omega, by omega⟩
  obtain ⟨n, hn⟩ : ∃ n, n = l.length := ⟨_, rfl⟩
  rw [← hn] at hclk hcap hl ⊢
  have HCLK := Lib.hid hclk
  have HEV := Lib.hid hev
  have HTH := Lib.hid hth
  have HN := Lib.hid hn
  have HYK := Lib.hid hYk
  have HBA := Lib.hid hba
  have HYW := Lib.hid (show w.heap.size ≤ Y by rw [hY]; exact Nat.le_refl _)
  have hYl := blk_lt hYk
  have HYL := Lib.hid hYl
  clear hclk hev hth hn hYk hba hr hR hcm hYl
  go_enter Tryz.func205, Tryz.ntmps205
  go_upto_region 1 with fail
  rw [← hWa, ← hY]
  clear hWa hY
  go_wp2_with fail
  refine HCLK.out.mono ?_
  rintro y w1 ⟨A1, c1, rfl, hrow, hfr, b1⟩
  have HROW := Lib.hid hrow
  have HFR := Lib.hid hfr
  have HB1 := Lib.hid (below_at HBA.out b1)
  have HY1 := Lib.hid (blk_step HYK.out b1)
  have HLC : Hid ((Fo.cl l).length = n) := Lib.hid (by rw [Fo.cl_len, HN.out])
  clear hrow hfr b1 HCLK HYK
  go_wp2_with fail
  go_loopw [10] (fun v wr => ∃ i : Nat, i ≤ n ∧ v = .int .i64 i ∧ Hid (wr.heap[Y]? = some (.cells (arr (Fo.lastC (l.take i) t)).toArray 271 (0, 0))) ∧ Hid (Mod (fun q => q = Y) w1 wr)) (fun v _ => n - (intOf v).toNat)
  case atStart => exact ⟨0, Nat.zero_le _, rfl, HY1, Lib.hid (Mod.refl _ _)⟩
  case round =>
    clear HY1
    obtain ⟨i, hi, rfl, HYI, HM⟩ := hrel
    rename World => V
    have hbv : Below w.heap.size w V := HB1.out.trans (HM.out.below _ HB1.out.size (fun q hq e => by have := HYW.out; omega))
    by_cases hlt : i < n
    · obtain ⟨e, he⟩ := get_some (show i < l.length by rw [← HN.out]; exact hlt)
      have hci := Fo.cl_at he
      have hrowV := HROW.out.mod HM.out (fun a ha e => by have := HFR.out a ha; have := HYL.out; omega)
      obtain ⟨gA, oA, rfl, hgA, hcA⟩ := clk_cell hrowV hci HLC.out.symm
      obtain ⟨g, o, rfl, hg, hcl⟩ := HEV.out i e he
      obtain ⟨m, hm, hm4⟩ := HTH.out i e he
      obtain ⟨v0, _, _, _⟩ := hcl V hbv
      have hlk := Fo.lastC_take he t
      obtain ⟨ck, hck⟩ : ∃ c, c = Fo.clk (Fo.cl (l.take i)) e := ⟨_, rfl⟩
      rw [← hck] at hlk hcA
      have hmt : (e.t.toNat = t) ↔ m = t := by rw [hm]; simp
      rw [hm] at v0
      obtain ⟨W3, hW3⟩ : ∃ z, z = V.alloc (Obj.cells #[.int .i64 (ck 0 : Nat), .int .i64 (ck 1 : Nat), .int .i64 (ck 2 : Nat), .int .i64 (ck 3 : Nat)] 271) := ⟨_, rfl⟩
      obtain ⟨Z, hZ⟩ : ∃ z, z = V.heap.size := ⟨_, rfl⟩
      have hb3 : Below V.heap.size V W3 := by rw [hW3]; exact (Below.refl _ _).alloc (Nat.le_refl _) _
      have hZk : W3.heap[Z]? = some (.cells (arr ck).toArray 271 (0, 0)) := by rw [hW3, hZ]; exact heap_alloc_new V _
      have hYV := blk_lt HYI.out
      have hZY : Z ≠ Y := by omega
      have a0 := hcA V rfl 0 (by omega)
      have a1 := hcA V rfl 1 (by omega)
      have a2 := hcA V rfl 2 (by omega)
      have a3 := hcA V rfl 3 (by omega)
      obtain ⟨w0, _, _, _⟩ := hcl W3 (below_at hbv hb3)
      rw [hm] at w0
      have lg := Nat.lt_of_lt_of_le hg (below_at hbv hb3).size
      have lgv := Nat.lt_of_lt_of_le hg hbv.size
      have k1 : (0 : Int) ≤ (i : Int) := Int.natCast_nonneg _
      have k2 : (i : Int) < (n : Int) := by omega
      have HLK := Lib.hid hlk
      have HMT := Lib.hid hmt
      have HY3 := Lib.hid (blk_step HYI.out hb3)
      have HZ3 := Lib.hid hZk
      have HZY := Lib.hid hZY
      have HM3 := Lib.hid (HM.out.trans (Mod.of_below_size hb3 _))
      clear hci hrowV hcA hcl he hm hlk hck hmt hb3 hZk hYV hZY hbv hg
      simp only [Nat.add_zero] at a0
      go_upto_region 4 with fail
      rw [← hW3, ← hZ]
      clear hW3 hZ a0 a1 a2 a3
      by_cases hmt : m = t
      · subst hmt
        have hz0 : W3.cell? ⟨Z, 0, none⟩ = some (.int .i64 (ck 0 : Nat)) := cell_blk HZ3.out 0
        have hz1 : W3.cell? ⟨Z, 1, none⟩ = some (.int .i64 (ck 1 : Nat)) := cell_blk HZ3.out 1
        have hz2 : W3.cell? ⟨Z, 2, none⟩ = some (.int .i64 (ck 2 : Nat)) := cell_blk HZ3.out 2
        have hz3 : W3.cell? ⟨Z, 3, none⟩ = some (.int .i64 (ck 3 : Nat)) := cell_blk HZ3.out 3
        have hzl := blk_lt HZ3.out
        obtain ⟨V2, hV2, hk2, hmv⟩ := set4_blk HY3.out (.int .i64 (ck 0 : Nat)) (.int .i64 (ck 1 : Nat)) (.int .i64 (ck 2 : Nat)) (.int .i64 (ck 3 : Nat))
        obtain ⟨⟨y0, y1, y2, y3⟩, yl, g0, g1, g2, g3⟩ := in4_cells HY3.out
        have HK2 := Lib.hid hk2
        have HMV := Lib.hid hmv
        have HV2 := Lib.hid hV2
        clear hk2 hmv hV2
        go_wp2_with fail
        rw [← HV2.out]
        go_roundw
        case rel => exact ⟨i + 1, by omega, by go_num, Lib.hid (by rw [HLK.out, if_pos (HMT.out.2 rfl)]; exact HK2.out), Lib.hid (HM3.out.trans HMV.out)⟩
        case measure => simp [intOf]; omega
      · have hmi : ¬ (m : Int) = (t : Int) := by omega
        have hmb : ((m : Int) == (t : Int)) = false := beq_eq_false_iff_ne.2 hmi
        go_wp2_with fail
        go_roundw
        case rel => exact ⟨i + 1, by omega, by go_num, Lib.hid (by rw [HLK.out, if_neg (fun h => hmt (HMT.out.1 h))]; exact HY3.out), HM3⟩
        case measure => simp [intOf]; omega
    · obtain rfl : i = n := by omega
      have k4 : ¬ (i : Int) < (i : Int) := by omega
      have hyi := HYI.out
      rw [HN.out, List.take_length] at hyi
      obtain ⟨⟨y0, y1, y2, y3⟩, yl, g0, g1, g2, g3⟩ := in4_cells hyi
      obtain ⟨V2, hV2, hk2, hmv⟩ := set4_blk hyi (.int .i64 (Fo.lastC l t 0 : Nat)) (.int .i64 (Fo.lastC l t 1 : Nat)) (.int .i64 (Fo.lastC l t 2 : Nat)) (.int .i64 (Fo.lastC l t 3 : Nat))
      obtain ⟨⟨e0, e1, e2, e3⟩, el, _⟩ := in4_cells hk2
      have HV2 := Lib.hid hV2
      have HMV := Lib.hid hmv
      have HBV := Lib.hid hbv
      clear hyi hk2 hmv hV2 hbv
      go_wp2_with fail
      rw [← HV2.out]
      unfold agK
      refine bodyPost_ret (v := .agg #[.int .i64 (Fo.lastC l t 0 : Nat), .int .i64 (Fo.lastC l t 1 : Nat), .int .i64 (Fo.lastC l t 2 : Nat), .int .i64 (Fo.lastC l t 3 : Nat)]) (by simp [results, Tryz.results205, go_sem, e0, e1, e2, e3]) rfl ?_
      exact ⟨rfl, HBV.out.trans (HMV.out.below _ HBV.out.size (fun q hq e => by have := HYW.out; omega))⟩
end Go.Proofs.YtckdofjpoajblaaGreat
