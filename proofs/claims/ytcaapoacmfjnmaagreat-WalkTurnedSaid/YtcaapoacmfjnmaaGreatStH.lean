/- The event that comes next. -/
import Derived.Test.YtcaapoacmfjnmaaGreatStG
namespace Go.Proofs.YtcaapoacmfjnmaaGreat
open Go.RowKit
set_option linter.unusedVariables false

namespace Pr
/-- the event of instruction i, done by thread t -/
def evOf (s : St) (t : Nat) (i : Ins) : Ev :=
  if i.k = 1 then ⟨t, 2, i.x, false⟩ else if i.k = 2 then ⟨t, 3, i.x, false⟩ else if i.k = 5 then ⟨t, 4, i.x, false⟩
  else if i.k = 6 then (if s.h i.x.toNat = t then ⟨t, 5, i.x, false⟩ else ⟨t, 1, 0, true⟩)
  else if i.k = 8 then ⟨t, 1, 0, decide (((s.th[t]?).map (fun x => x.r i.r.toNat)).getD 0 = 0)⟩ else ⟨t, 1, 0, false⟩
def next (s : St) (t : Nat) : Option Ev := (ins s t).map (evOf s t)
def zeroE : Ev := ⟨0, 0, 0, false⟩
end Pr
def evCells (e : Ev) : Array Value := #[.int .i64 e.t, .int .i64 e.k, .int .i64 e.o, .bool e.f]

set_option maxRecDepth 100000 in
set_option maxHeartbeats 4000000 in
theorem next_any (w : World) (C : Nat → Prop) (S T : Nat) (s : St) (t : Nat) (h : SAt w C S T s) (hw : Pr.Wf s) (ht : t < s.th.length) :
    Calls Tryz.prog 64 #[.pointer (some ⟨S, 0, none⟩), .int .i64 (t : Int)] w fun x w' => x = .returned (.tuple #[valE ((Pr.next s t).getD Pr.zeroE), .bool (Pr.next s t).isSome]) ∧ Below w.heap.size w w' := by
  obtain ⟨Wa, X, hWa, hX, hBa, hXl, hXk⟩ : ∃ Wa X, Wa = w.alloc (Obj.cells #[.int .i64 0, .int .i64 0, .int .i64 0, .bool false] 57) ∧ X = w.heap.size ∧ Below w.heap.size w Wa ∧ X < Wa.heap.size ∧ Wa.heap[X]? = some (.cells #[.int .i64 0, .int .i64 0, .int .i64 0, .bool false] 57 (0, 0)) :=
    ⟨_, _, rfl, rfl, (Below.refl _ _).alloc (Nat.le_refl _) _, by simp, heap_alloc_new w _⟩
  have hS := h.below hBa
  have hcall := instr_any Wa C S T s t hS hw ht
  have hio : ∀ i, Pr.ins s t = some i → ∃ n : Int, 0 ≤ n ∧ n ≤ 8 ∧ Pr.InsOk s.p.vars s.p.mtx n i := fun i hi => hw.insOk hi
  obtain ⟨q, hq⟩ : ∃ q, q = Pr.ins s t := ⟨_, rfl⟩
  have hnx : Pr.next s t = q.map (Pr.evOf s t) := by unfold Pr.next; rw [hq]
  rw [← hq] at hcall hio
  rw [hnx]
  have hxw : w.heap.size ≤ X := Nat.le_of_eq hX.symm
  have HCALL := Lib.hid hcall
  have HIO := Lib.hid hio
  have HS := Lib.hid h
  have HBA := Lib.hid hBa
  have HXK := Lib.hid hXk
  have HXW := Lib.hid hxw
  have HWF := Lib.hid hw
  have HT := Lib.hid ht
  clear hcall hio hS hBa hXk hq hnx h hw hxw ht
  go_enter Tryz.func64, Tryz.ntmps64
  go_upto_region 1 with fail
  rw [← hWa, ← hX]
  clear hWa hX
  go_wp2_with fail
  refine HCALL.out.mono ?_
  rintro y w1 ⟨rfl, b1⟩
  have HB1 := Lib.hid b1
  clear b1 HCALL
  cases q with
  | none =>
    simp only [Option.getD_none, Option.isSome_none, valI, Pr.zeroI] at *
    go_upto_region 2 with fail
    obtain ⟨Wb, hWb⟩ : ∃ Wb, Wb = w1.alloc (Obj.cells #[.int .i64 0, .int .i64 0, .int .i64 0, .int .i64 0] 78) := ⟨_, rfl⟩
    rw [← hWb]
    have hb : Below w1.heap.size w1 Wb := by rw [hWb]; exact (Below.refl _ _).alloc (Nat.le_refl _) _
    have hb2 := below_at HB1.out hb
    have hXb := (hb2.block X hXl).trans HXK.out
    obtain ⟨V2, hV2, ⟨d0, d1, d2, d3⟩, hmv⟩ := in4_exit hXb (.int .i64 0) (.int .i64 0) (.int .i64 0) (.bool false)
    obtain ⟨⟨e0, e1, e2, e3⟩, el, g0, g1, g2, g3⟩ := in4_cells hXb
    have HV2 := Lib.hid hV2
    have HMV := Lib.hid hmv
    have HB2 := Lib.hid (below_at HBA.out hb2)
    clear hV2 hmv hWb hb hb2 hXb
    go_wp2_with fail
    rw [← HV2.out]
    refine bodyPost_ret (v := .tuple #[.agg #[.int .i64 0, .int .i64 0, .int .i64 0, .bool false], .bool false]) (by simp [results, Tryz.results64, go_sem, d0, d1, d2, d3]) rfl ?_
    exact ⟨rfl, HB2.out.trans (HMV.out.below _ HB2.out.size (fun k hk e => by have := HXW.out; omega))⟩
  | some i =>
    simp only [Option.getD_some, Option.isSome_some] at *
    obtain ⟨n, hn0, hn8, hok⟩ := HIO.out i rfl
    obtain ⟨ik, ir, ix, im⟩ := i
    simp only [valI] at *
    go_upto_region 2 with fail
    obtain ⟨Wz, Z, hWz, hZ, hBz, hZl, hZe⟩ := ins_box w1 ⟨ik, ir, ix, im⟩
    simp only at hWz
    rw [← hWz, ← hZ]
    have hb2 := below_at HB1.out hBz
    have hXz := (hb2.block X hXl).trans HXK.out
    have hXZ : X < Z := by rw [hZ]; have := HB1.out.size; omega
    have HBZ := Lib.hid (below_at HBA.out hb2)
    have HXZ := Lib.hid hXz
    have HLT := Lib.hid (And.intro hXZ hZl)
    have HZE := Lib.hid hZe
    have HOK := Lib.hid hok
    have HN := Lib.hid (And.intro hn0 hn8)
    obtain ⟨⟨e0, e1, e2, e3⟩, el, g0, g1, g2, g3⟩ := in4_cells hXz
    clear hWz hZ hBz hb2 hXz hXZ hZe hok HIO hn0 hn8 hZl hXl
    go_upto_region 5 with fail
    obtain ⟨W5, hW5, ⟨d0, d1, d2, d3⟩, hm5⟩ := in4_exit HXZ.out (.int .i64 (t : Int)) (.int .i64 1) (.int .i64 0) (.bool false)
    have hX5 : W5.heap[X]? = some (.cells #[.int .i64 (t : Int), .int .i64 1, .int .i64 0, .bool false] 57 (0, 0)) := by
      rw [hW5, set_blk (set_blk (set_blk (set_blk HXZ.out 0 _) 1 _) 2 _) 3 _]; simp
    rw [← hW5]
    have HM5 := Lib.hid hm5
    have HX5 := Lib.hid hX5
    clear hW5 d0 d1 d2 d3 hm5 hX5 e0 e1 e2 e3 el g0 g1 g2 g3
    obtain ⟨⟨y0, y1, y2, y3⟩, yl⟩ := HZE.out Wz (Below.refl _ _)
    simp only [Nat.zero_add] at y1 y2 y3
    have HY := Lib.hid (And.intro y0 (And.intro y1 (And.intro y2 y3)))
    have z0 : W5.cell? ⟨Z, 0, none⟩ = some (.int .i64 ik) := (HM5.out.cell Z 0 yl (by have := HLT.out.1; omega)).trans y0
    have zl : Z < W5.heap.size := by have := HM5.out.size; omega
    clear y0 y1 y2 y3
    go_upto_block 0 with fail
    clear z0
    go_cut [20] (fun a w2 => Hid (w2.heap[X]? = some (.cells (evCells (Pr.evOf s t ⟨ik, ir, ix, im⟩)) 57 (0, 0))) ∧ Hid (Mod (fun k => k = X) W5 w2))
    case first =>
      have hrange : ∀ x : Int, x < 4 → 0 ≤ x → ∃ m : Nat, x = m ∧ m < 4 := fun x h1 h2 => ⟨x.toNat, by omega, by omega⟩
      have HRANGE := Lib.hid hrange
      clear hrange
      rcases (show ik = 1 ∨ ik = 2 ∨ ik = 3 ∨ ik = 4 ∨ ik = 5 ∨ ik = 6 ∨ ik = 7 ∨ ik = 8 from by have h1 := HOK.out.1; have h8 := HOK.out.2.1; simp only at h1 h8; omega) with rfl | rfl | rfl | rfl | rfl | rfl | rfl | rfl
      · obtain ⟨⟨e0, e1, e2, e3⟩, el, g0, g1, g2, g3⟩ := in4_cells HX5.out
        go_upto_region 7 with fail
        refine wp_region_planF (by kernel_rfl) (fun u => Mod (fun k => k = X) W5 u) [5] [(0, .pure), (1, .load), (2, .pure), (3, .eff), (4, .pure), (5, .last)] (by simp only [List.map_cons, List.map_nil, List.getElem?_toArray, List.getElem?_cons_succ, List.getElem?_cons_zero]; rfl) (by kernel_rfl) (fun _ _ d _ _ h => by cases d <;> exact h) ((Mod.refl _ _).drew) ?_
        obtain ⟨Wd, hWd⟩ : ∃ Wd, Wd = W5.drew := ⟨_, rfl⟩
        rw [← hWd]
        have s0 : Mod (fun k => k = X) W5 Wd := by rw [hWd]; exact (Mod.refl _ _).drew
        have hX6 : Wd.heap[X]? = some (.cells #[.int .i64 (t : Int), .int .i64 1, .int .i64 0, .bool false] 57 (0, 0)) := by rw [hWd]; exact HX5.out
        clear hWd
        clear e0 e1 e2 e3 el g0 g1 g2 g3
        repeat (first
          | (refine plan_pure (v := ?_) (by rfl) (fun w1 => ?_) ?_
             rotate_left
             · go_simp <;> with_reducible rfl
             simp only [Act.put, List.setIfInBounds_toArray, List.set_cons_zero, List.set_cons_succ])
          | (refine plan_off (by rfl) ?_
             simp only [Act.put, List.setIfInBounds_toArray, List.set_cons_zero, List.set_cons_succ])
          | (refine plan_load_off (by rfl) ?_
             simp only [Act.put, List.setIfInBounds_toArray, List.set_cons_zero, List.set_cons_succ])
          | (refine plan_load (v := ?_) (by rfl) (fun w1 hw1 => ?_) ?_
             rotate_left
             · (have q := (hw1.cell Z 2 zl (by have := HLT.out.1; omega)).trans ((HM5.out.cell Z 2 (by have := HLT.out.2; exact this) (by have := HLT.out.1; omega)).trans HY.out.2.2.1)
                clear hw1
                go_simp <;> with_reducible rfl)
             simp only [Act.put, List.setIfInBounds_toArray, List.set_cons_zero, List.set_cons_succ]))
        obtain ⟨⟨e0, e1, e2, e3⟩, el, g0, g1, g2, g3⟩ := in4_cells hX6
        obtain ⟨W6, hW6⟩ : ∃ W6, W6 = Wd.setCell ⟨X, 1, none⟩ (.int .i64 2) := ⟨_, rfl⟩
        have s1 : Mod (fun k => k = X) W5 W6 := by rw [hW6]; exact s0.setCell (p := ⟨X, 1, none⟩) (fun _ => rfl) _
        have hX7 : W6.heap[X]? = some (.cells #[.int .i64 (t : Int), .int .i64 2, .int .i64 0, .bool false] 57 (0, 0)) := by rw [hW6, set_blk hX6 1 _]; simp
        have hX8 := set_blk hX7 2 (.int .i64 ix)
        have s2 := s1.setCell (p := ⟨X, 2, none⟩) (fun _ => rfl) (.int .i64 ix)
        have HS1 := Lib.hid s1
        have HS2 := Lib.hid s2
        have HX7 := Lib.hid hX7
        have HX8 := Lib.hid hX8
        clear s0 s1 s2 hX6 hX7 hX8
        refine plan_eff ?_
        go_wp2_with fail
        rw [← hW6]
        clear hW6
        refine plan_on (fun _ h => h) HS1.out ?_
        clear e0 e1 e2 e3 el g0 g1 g2 g3
        repeat (first
          | (refine plan_pure (v := ?_) (by rfl) (fun w1 => ?_) ?_
             rotate_left
             · go_simp <;> with_reducible rfl
             simp only [Act.put, List.setIfInBounds_toArray, List.set_cons_zero, List.set_cons_succ])
          | (refine plan_off (by rfl) ?_
             simp only [Act.put, List.setIfInBounds_toArray, List.set_cons_zero, List.set_cons_succ])
          | (refine plan_load_off (by rfl) ?_
             simp only [Act.put, List.setIfInBounds_toArray, List.set_cons_zero, List.set_cons_succ])
          | (refine plan_load (v := ?_) (by rfl) (fun w1 hw1 => ?_) ?_
             rotate_left
             · (have q := (hw1.cell Z 2 zl (by have := HLT.out.1; omega)).trans ((HM5.out.cell Z 2 (by have := HLT.out.2; exact this) (by have := HLT.out.1; omega)).trans HY.out.2.2.1)
                clear hw1
                go_simp <;> with_reducible rfl)
             simp only [Act.put, List.setIfInBounds_toArray, List.set_cons_zero, List.set_cons_succ]))
        obtain ⟨⟨e0, e1, e2, e3⟩, el, g0, g1, g2, g3⟩ := in4_cells HX7.out
        refine plan_last ?_
        go_wp2_with fail
        repeat (first
          | (refine plan_pure (v := ?_) (by rfl) (fun w1 => ?_) ?_
             rotate_left
             · go_simp <;> with_reducible rfl
             simp only [Act.put, List.setIfInBounds_toArray, List.set_cons_zero, List.set_cons_succ])
          | (refine plan_off (by rfl) ?_
             simp only [Act.put, List.setIfInBounds_toArray, List.set_cons_zero, List.set_cons_succ])
          | (refine plan_load_off (by rfl) ?_
             simp only [Act.put, List.setIfInBounds_toArray, List.set_cons_zero, List.set_cons_succ])
          | (refine plan_load (v := ?_) (by rfl) (fun w1 hw1 => ?_) ?_
             rotate_left
             · (skip
                clear hw1
                go_simp <;> with_reducible rfl)
             simp only [Act.put, List.setIfInBounds_toArray, List.set_cons_zero, List.set_cons_succ]))
        refine plan_end ?_
        go_wp2_with fail
        go_meet
        exact ⟨Lib.hid (by rw [HX8.out]; simp [evCells, Pr.evOf]), HS2⟩
      · obtain ⟨⟨e0, e1, e2, e3⟩, el, g0, g1, g2, g3⟩ := in4_cells HX5.out
        go_upto_region 9 with fail
        refine wp_region_planF (by kernel_rfl) (fun u => Mod (fun k => k = X) W5 u) [5] [(0, .pure), (1, .load), (2, .pure), (3, .eff), (4, .pure), (5, .last)] (by simp only [List.map_cons, List.map_nil, List.getElem?_toArray, List.getElem?_cons_succ, List.getElem?_cons_zero]; rfl) (by kernel_rfl) (fun _ _ d _ _ h => by cases d <;> exact h) ((Mod.refl _ _).drew) ?_
        obtain ⟨Wd, hWd⟩ : ∃ Wd, Wd = W5.drew := ⟨_, rfl⟩
        rw [← hWd]
        have s0 : Mod (fun k => k = X) W5 Wd := by rw [hWd]; exact (Mod.refl _ _).drew
        have hX6 : Wd.heap[X]? = some (.cells #[.int .i64 (t : Int), .int .i64 1, .int .i64 0, .bool false] 57 (0, 0)) := by rw [hWd]; exact HX5.out
        clear hWd
        clear e0 e1 e2 e3 el g0 g1 g2 g3
        repeat (first
          | (refine plan_pure (v := ?_) (by rfl) (fun w1 => ?_) ?_
             rotate_left
             · go_simp <;> with_reducible rfl
             simp only [Act.put, List.setIfInBounds_toArray, List.set_cons_zero, List.set_cons_succ])
          | (refine plan_off (by rfl) ?_
             simp only [Act.put, List.setIfInBounds_toArray, List.set_cons_zero, List.set_cons_succ])
          | (refine plan_load_off (by rfl) ?_
             simp only [Act.put, List.setIfInBounds_toArray, List.set_cons_zero, List.set_cons_succ])
          | (refine plan_load (v := ?_) (by rfl) (fun w1 hw1 => ?_) ?_
             rotate_left
             · (have q := (hw1.cell Z 2 zl (by have := HLT.out.1; omega)).trans ((HM5.out.cell Z 2 (by have := HLT.out.2; exact this) (by have := HLT.out.1; omega)).trans HY.out.2.2.1)
                clear hw1
                go_simp <;> with_reducible rfl)
             simp only [Act.put, List.setIfInBounds_toArray, List.set_cons_zero, List.set_cons_succ]))
        obtain ⟨⟨e0, e1, e2, e3⟩, el, g0, g1, g2, g3⟩ := in4_cells hX6
        obtain ⟨W6, hW6⟩ : ∃ W6, W6 = Wd.setCell ⟨X, 1, none⟩ (.int .i64 3) := ⟨_, rfl⟩
        have s1 : Mod (fun k => k = X) W5 W6 := by rw [hW6]; exact s0.setCell (p := ⟨X, 1, none⟩) (fun _ => rfl) _
        have hX7 : W6.heap[X]? = some (.cells #[.int .i64 (t : Int), .int .i64 3, .int .i64 0, .bool false] 57 (0, 0)) := by rw [hW6, set_blk hX6 1 _]; simp
        have hX8 := set_blk hX7 2 (.int .i64 ix)
        have s2 := s1.setCell (p := ⟨X, 2, none⟩) (fun _ => rfl) (.int .i64 ix)
        have HS1 := Lib.hid s1
        have HS2 := Lib.hid s2
        have HX7 := Lib.hid hX7
        have HX8 := Lib.hid hX8
        clear s0 s1 s2 hX6 hX7 hX8
        refine plan_eff ?_
        go_wp2_with fail
        rw [← hW6]
        clear hW6
        refine plan_on (fun _ h => h) HS1.out ?_
        clear e0 e1 e2 e3 el g0 g1 g2 g3
        repeat (first
          | (refine plan_pure (v := ?_) (by rfl) (fun w1 => ?_) ?_
             rotate_left
             · go_simp <;> with_reducible rfl
             simp only [Act.put, List.setIfInBounds_toArray, List.set_cons_zero, List.set_cons_succ])
          | (refine plan_off (by rfl) ?_
             simp only [Act.put, List.setIfInBounds_toArray, List.set_cons_zero, List.set_cons_succ])
          | (refine plan_load_off (by rfl) ?_
             simp only [Act.put, List.setIfInBounds_toArray, List.set_cons_zero, List.set_cons_succ])
          | (refine plan_load (v := ?_) (by rfl) (fun w1 hw1 => ?_) ?_
             rotate_left
             · (have q := (hw1.cell Z 2 zl (by have := HLT.out.1; omega)).trans ((HM5.out.cell Z 2 (by have := HLT.out.2; exact this) (by have := HLT.out.1; omega)).trans HY.out.2.2.1)
                clear hw1
                go_simp <;> with_reducible rfl)
             simp only [Act.put, List.setIfInBounds_toArray, List.set_cons_zero, List.set_cons_succ]))
        obtain ⟨⟨e0, e1, e2, e3⟩, el, g0, g1, g2, g3⟩ := in4_cells HX7.out
        refine plan_last ?_
        go_wp2_with fail
        repeat (first
          | (refine plan_pure (v := ?_) (by rfl) (fun w1 => ?_) ?_
             rotate_left
             · go_simp <;> with_reducible rfl
             simp only [Act.put, List.setIfInBounds_toArray, List.set_cons_zero, List.set_cons_succ])
          | (refine plan_off (by rfl) ?_
             simp only [Act.put, List.setIfInBounds_toArray, List.set_cons_zero, List.set_cons_succ])
          | (refine plan_load_off (by rfl) ?_
             simp only [Act.put, List.setIfInBounds_toArray, List.set_cons_zero, List.set_cons_succ])
          | (refine plan_load (v := ?_) (by rfl) (fun w1 hw1 => ?_) ?_
             rotate_left
             · (skip
                clear hw1
                go_simp <;> with_reducible rfl)
             simp only [Act.put, List.setIfInBounds_toArray, List.set_cons_zero, List.set_cons_succ]))
        refine plan_end ?_
        go_wp2_with fail
        go_meet
        exact ⟨Lib.hid (by rw [HX8.out]; simp [evCells, Pr.evOf]), HS2⟩
      · go_wp2_with fail
        go_meet
        exact ⟨Lib.hid (by rw [HX5.out]; simp [evCells, Pr.evOf]), Lib.hid (Mod.refl _ _)⟩
      · go_wp2_with fail
        go_meet
        exact ⟨Lib.hid (by rw [HX5.out]; simp [evCells, Pr.evOf]), Lib.hid (Mod.refl _ _)⟩
      · obtain ⟨⟨e0, e1, e2, e3⟩, el, g0, g1, g2, g3⟩ := in4_cells HX5.out
        go_upto_region 11 with fail
        refine wp_region_planF (by kernel_rfl) (fun u => Mod (fun k => k = X) W5 u) [5] [(0, .pure), (1, .load), (2, .pure), (3, .eff), (4, .pure), (5, .last)] (by simp only [List.map_cons, List.map_nil, List.getElem?_toArray, List.getElem?_cons_succ, List.getElem?_cons_zero]; rfl) (by kernel_rfl) (fun _ _ d _ _ h => by cases d <;> exact h) ((Mod.refl _ _).drew) ?_
        obtain ⟨Wd, hWd⟩ : ∃ Wd, Wd = W5.drew := ⟨_, rfl⟩
        rw [← hWd]
        have s0 : Mod (fun k => k = X) W5 Wd := by rw [hWd]; exact (Mod.refl _ _).drew
        have hX6 : Wd.heap[X]? = some (.cells #[.int .i64 (t : Int), .int .i64 1, .int .i64 0, .bool false] 57 (0, 0)) := by rw [hWd]; exact HX5.out
        clear hWd
        clear e0 e1 e2 e3 el g0 g1 g2 g3
        repeat (first
          | (refine plan_pure (v := ?_) (by rfl) (fun w1 => ?_) ?_
             rotate_left
             · go_simp <;> with_reducible rfl
             simp only [Act.put, List.setIfInBounds_toArray, List.set_cons_zero, List.set_cons_succ])
          | (refine plan_off (by rfl) ?_
             simp only [Act.put, List.setIfInBounds_toArray, List.set_cons_zero, List.set_cons_succ])
          | (refine plan_load_off (by rfl) ?_
             simp only [Act.put, List.setIfInBounds_toArray, List.set_cons_zero, List.set_cons_succ])
          | (refine plan_load (v := ?_) (by rfl) (fun w1 hw1 => ?_) ?_
             rotate_left
             · (have q := (hw1.cell Z 2 zl (by have := HLT.out.1; omega)).trans ((HM5.out.cell Z 2 (by have := HLT.out.2; exact this) (by have := HLT.out.1; omega)).trans HY.out.2.2.1)
                clear hw1
                go_simp <;> with_reducible rfl)
             simp only [Act.put, List.setIfInBounds_toArray, List.set_cons_zero, List.set_cons_succ]))
        obtain ⟨⟨e0, e1, e2, e3⟩, el, g0, g1, g2, g3⟩ := in4_cells hX6
        obtain ⟨W6, hW6⟩ : ∃ W6, W6 = Wd.setCell ⟨X, 1, none⟩ (.int .i64 4) := ⟨_, rfl⟩
        have s1 : Mod (fun k => k = X) W5 W6 := by rw [hW6]; exact s0.setCell (p := ⟨X, 1, none⟩) (fun _ => rfl) _
        have hX7 : W6.heap[X]? = some (.cells #[.int .i64 (t : Int), .int .i64 4, .int .i64 0, .bool false] 57 (0, 0)) := by rw [hW6, set_blk hX6 1 _]; simp
        have hX8 := set_blk hX7 2 (.int .i64 ix)
        have s2 := s1.setCell (p := ⟨X, 2, none⟩) (fun _ => rfl) (.int .i64 ix)
        have HS1 := Lib.hid s1
        have HS2 := Lib.hid s2
        have HX7 := Lib.hid hX7
        have HX8 := Lib.hid hX8
        clear s0 s1 s2 hX6 hX7 hX8
        refine plan_eff ?_
        go_wp2_with fail
        rw [← hW6]
        clear hW6
        refine plan_on (fun _ h => h) HS1.out ?_
        clear e0 e1 e2 e3 el g0 g1 g2 g3
        repeat (first
          | (refine plan_pure (v := ?_) (by rfl) (fun w1 => ?_) ?_
             rotate_left
             · go_simp <;> with_reducible rfl
             simp only [Act.put, List.setIfInBounds_toArray, List.set_cons_zero, List.set_cons_succ])
          | (refine plan_off (by rfl) ?_
             simp only [Act.put, List.setIfInBounds_toArray, List.set_cons_zero, List.set_cons_succ])
          | (refine plan_load_off (by rfl) ?_
             simp only [Act.put, List.setIfInBounds_toArray, List.set_cons_zero, List.set_cons_succ])
          | (refine plan_load (v := ?_) (by rfl) (fun w1 hw1 => ?_) ?_
             rotate_left
             · (have q := (hw1.cell Z 2 zl (by have := HLT.out.1; omega)).trans ((HM5.out.cell Z 2 (by have := HLT.out.2; exact this) (by have := HLT.out.1; omega)).trans HY.out.2.2.1)
                clear hw1
                go_simp <;> with_reducible rfl)
             simp only [Act.put, List.setIfInBounds_toArray, List.set_cons_zero, List.set_cons_succ]))
        obtain ⟨⟨e0, e1, e2, e3⟩, el, g0, g1, g2, g3⟩ := in4_cells HX7.out
        refine plan_last ?_
        go_wp2_with fail
        repeat (first
          | (refine plan_pure (v := ?_) (by rfl) (fun w1 => ?_) ?_
             rotate_left
             · go_simp <;> with_reducible rfl
             simp only [Act.put, List.setIfInBounds_toArray, List.set_cons_zero, List.set_cons_succ])
          | (refine plan_off (by rfl) ?_
             simp only [Act.put, List.setIfInBounds_toArray, List.set_cons_zero, List.set_cons_succ])
          | (refine plan_load_off (by rfl) ?_
             simp only [Act.put, List.setIfInBounds_toArray, List.set_cons_zero, List.set_cons_succ])
          | (refine plan_load (v := ?_) (by rfl) (fun w1 hw1 => ?_) ?_
             rotate_left
             · (skip
                clear hw1
                go_simp <;> with_reducible rfl)
             simp only [Act.put, List.setIfInBounds_toArray, List.set_cons_zero, List.set_cons_succ]))
        refine plan_end ?_
        go_wp2_with fail
        go_meet
        exact ⟨Lib.hid (by rw [HX8.out]; simp [evCells, Pr.evOf]), HS2⟩
      · have hx := HOK.out.2.2.2.2.2.1
        have hxm := HOK.out.2.2.2.2.2.2.2.2.2.2.1 (Or.inr rfl)
        have hmm := HWF.out.ok.1.2.2.2.1
        simp only at hx hxm
        obtain ⟨m, rfl, hm4⟩ := HRANGE.out ix (by omega) hx
        have hm2 : m < 2 := by omega
        clear hx hxm hmm
        go_upto_region 13 with fail
        refine wp_region_planF (by kernel_rfl) (fun u => Mod (fun k => k = X) W5 u) [] [(0, .pure), (1, .pure), (2, .load), (3, .pure), (4, .pure), (5, .pure), (6, .load), (7, .pure), (8, .pure)] (by simp only [List.map_cons, List.map_nil, List.getElem?_toArray, List.getElem?_cons_succ, List.getElem?_cons_zero]; rfl) (by kernel_rfl) (fun _ _ d _ _ h => by cases d <;> exact h) ((Mod.refl _ _).drew) ?_
        have k1 : (0 : Int) ≤ (m : Int) := Int.natCast_nonneg _
        have k2 : (m : Int) < 2 := by omega
        have hb5 : ∀ u, Mod (fun k => k = X) W5 u → Below w.heap.size w u := fun u hu => (HBZ.out.trans (HM5.out.below _ HBZ.out.size (fun k hk e => by have := HXW.out; omega))).trans (hu.below _ (by have := HBZ.out.size; have := HM5.out.size; omega) (fun k hk e => by have := HXW.out; omega))
        have HB5 := Lib.hid hb5
        clear hb5
        obtain ⟨Wd, hWd⟩ : ∃ Wd, Wd = W5.drew := ⟨_, rfl⟩
        rw [← hWd]
        have s0 : Mod (fun k => k = X) W5 Wd := by rw [hWd]; exact (Mod.refl _ _).drew
        have hX6 : Wd.heap[X]? = some (.cells #[.int .i64 (t : Int), .int .i64 1, .int .i64 0, .bool false] 57 (0, 0)) := by rw [hWd]; exact HX5.out
        have HS0 := Lib.hid s0
        have HX6 := Lib.hid hX6
        clear hWd s0 hX6
        repeat (first
          | (refine plan_pure (v := ?_) (by rfl) (fun w1 => ?_) ?_
             rotate_left
             · go_simp <;> with_reducible rfl
             simp only [Act.put, List.setIfInBounds_toArray, List.set_cons_zero, List.set_cons_succ])
          | (refine plan_off (by rfl) ?_
             simp only [Act.put, List.setIfInBounds_toArray, List.set_cons_zero, List.set_cons_succ])
          | (refine plan_load_off (by rfl) ?_
             simp only [Act.put, List.setIfInBounds_toArray, List.set_cons_zero, List.set_cons_succ])
          | (refine plan_load (v := ?_) (by rfl) (fun w1 hw1 => ?_) ?_
             rotate_left
             · (have q := (hw1.cell Z 2 zl (by have := HLT.out.1; omega)).trans ((HM5.out.cell Z 2 (by have := HLT.out.2; exact this) (by have := HLT.out.1; omega)).trans HY.out.2.2.1)
                have q2 := (HS.out.below (HB5.out w1 hw1)).cells
                obtain ⟨PA, pc, tc, _, _, _, _, _, qh, _⟩ := q2
                have q3 := qh m hm2
                clear qh
                clear hw1
                go_simp <;> with_reducible rfl)
             simp only [Act.put, List.setIfInBounds_toArray, List.set_cons_zero, List.set_cons_succ]))
        refine plan_end ?_
        by_cases hh : s.h m = (t : Int)
        · have hd : (s.h m == (t : Int)) = true := by simpa using hh
          obtain ⟨⟨e0, e1, e2, e3⟩, el, g0, g1, g2, g3⟩ := in4_cells HX6.out
          have hev : Pr.evOf s t ⟨6, ir, (m : Int), im⟩ = ⟨t, 5, m, false⟩ := by simp [Pr.evOf, hh]
          have HEV := Lib.hid hev
          have HXX := Lib.hid HX6.out
          clear e0 e1 e2 e3 el g0 g1 g2 g3 hev
          go_upto_region 15 with fail
          refine wp_region_planF (by kernel_rfl) (fun u => Mod (fun k => k = X) W5 u) [5] [(0, .pure), (1, .load), (2, .pure), (3, .eff), (4, .pure), (5, .last)] (by simp only [List.map_cons, List.map_nil, List.getElem?_toArray, List.getElem?_cons_succ, List.getElem?_cons_zero]; rfl) (by kernel_rfl) (fun _ _ d _ _ h => by cases d <;> exact h) (HS0.out.drew) ?_
          obtain ⟨We, hWe⟩ : ∃ We, We = Wd.drew := ⟨_, rfl⟩
          rw [← hWe]
          have s0 : Mod (fun k => k = X) W5 We := by rw [hWe]; exact HS0.out.drew
          have hX6 : We.heap[X]? = some (.cells #[.int .i64 (t : Int), .int .i64 1, .int .i64 0, .bool false] 57 (0, 0)) := by rw [hWe]; exact HX6.out
          clear hWe
          repeat (first
            | (refine plan_pure (v := ?_) (by rfl) (fun w1 => ?_) ?_
               rotate_left
               · go_simp <;> with_reducible rfl
               simp only [Act.put, List.setIfInBounds_toArray, List.set_cons_zero, List.set_cons_succ])
            | (refine plan_off (by rfl) ?_
               simp only [Act.put, List.setIfInBounds_toArray, List.set_cons_zero, List.set_cons_succ])
            | (refine plan_load_off (by rfl) ?_
               simp only [Act.put, List.setIfInBounds_toArray, List.set_cons_zero, List.set_cons_succ])
            | (refine plan_load (v := ?_) (by rfl) (fun w1 hw1 => ?_) ?_
               rotate_left
               · (have q := (hw1.cell Z 2 zl (by have := HLT.out.1; omega)).trans ((HM5.out.cell Z 2 (by have := HLT.out.2; exact this) (by have := HLT.out.1; omega)).trans HY.out.2.2.1)
                  clear hw1
                  go_simp <;> with_reducible rfl)
               simp only [Act.put, List.setIfInBounds_toArray, List.set_cons_zero, List.set_cons_succ]))
          obtain ⟨⟨e0, e1, e2, e3⟩, el, g0, g1, g2, g3⟩ := in4_cells hX6
          obtain ⟨W6, hW6⟩ : ∃ W6, W6 = We.setCell ⟨X, 1, none⟩ (.int .i64 5) := ⟨_, rfl⟩
          have s1 : Mod (fun k => k = X) W5 W6 := by rw [hW6]; exact s0.setCell (p := ⟨X, 1, none⟩) (fun _ => rfl) _
          have hX7 : W6.heap[X]? = some (.cells #[.int .i64 (t : Int), .int .i64 5, .int .i64 0, .bool false] 57 (0, 0)) := by rw [hW6, set_blk hX6 1 _]; simp
          have hX8 := set_blk hX7 2 (.int .i64 (m : Int))
          have s2 := s1.setCell (p := ⟨X, 2, none⟩) (fun _ => rfl) (.int .i64 (m : Int))
          have HS1 := Lib.hid s1
          have HS2 := Lib.hid s2
          have HX7 := Lib.hid hX7
          have HX8 := Lib.hid hX8
          clear s0 s1 s2 hX6 hX7 hX8
          refine plan_eff ?_
          go_wp2_with fail
          rw [← hW6]
          clear hW6
          refine plan_on (fun _ h => h) HS1.out ?_
          clear e0 e1 e2 e3 el g0 g1 g2 g3
          repeat (first
            | (refine plan_pure (v := ?_) (by rfl) (fun w1 => ?_) ?_
               rotate_left
               · go_simp <;> with_reducible rfl
               simp only [Act.put, List.setIfInBounds_toArray, List.set_cons_zero, List.set_cons_succ])
            | (refine plan_off (by rfl) ?_
               simp only [Act.put, List.setIfInBounds_toArray, List.set_cons_zero, List.set_cons_succ])
            | (refine plan_load_off (by rfl) ?_
               simp only [Act.put, List.setIfInBounds_toArray, List.set_cons_zero, List.set_cons_succ])
            | (refine plan_load (v := ?_) (by rfl) (fun w1 hw1 => ?_) ?_
               rotate_left
               · (have q := (hw1.cell Z 2 zl (by have := HLT.out.1; omega)).trans ((HM5.out.cell Z 2 (by have := HLT.out.2; exact this) (by have := HLT.out.1; omega)).trans HY.out.2.2.1)
                  clear hw1
                  go_simp <;> with_reducible rfl)
               simp only [Act.put, List.setIfInBounds_toArray, List.set_cons_zero, List.set_cons_succ]))
          obtain ⟨⟨e0, e1, e2, e3⟩, el, g0, g1, g2, g3⟩ := in4_cells HX7.out
          refine plan_last ?_
          go_wp2_with fail
          repeat (first
            | (refine plan_pure (v := ?_) (by rfl) (fun w1 => ?_) ?_
               rotate_left
               · go_simp <;> with_reducible rfl
               simp only [Act.put, List.setIfInBounds_toArray, List.set_cons_zero, List.set_cons_succ])
            | (refine plan_off (by rfl) ?_
               simp only [Act.put, List.setIfInBounds_toArray, List.set_cons_zero, List.set_cons_succ])
            | (refine plan_load_off (by rfl) ?_
               simp only [Act.put, List.setIfInBounds_toArray, List.set_cons_zero, List.set_cons_succ])
            | (refine plan_load (v := ?_) (by rfl) (fun w1 hw1 => ?_) ?_
               rotate_left
               · (skip
                  clear hw1
                  go_simp <;> with_reducible rfl)
               simp only [Act.put, List.setIfInBounds_toArray, List.set_cons_zero, List.set_cons_succ]))
          refine plan_end ?_
          go_wp2_with fail
          go_meet
          exact ⟨Lib.hid (by rw [HX8.out, HEV.out]; simp [evCells]), HS2⟩
        · have hd : (s.h m == (t : Int)) = false := by simpa using hh
          have hev : Pr.evOf s t ⟨6, ir, (m : Int), im⟩ = ⟨t, 1, 0, true⟩ := by simp [Pr.evOf, hh]
          have HEV := Lib.hid hev
          obtain ⟨⟨e0, e1, e2, e3⟩, el, g0, g1, g2, g3⟩ := in4_cells HX6.out
          have HX8 := Lib.hid (set_blk HX6.out 3 (.bool true))
          have HS2 := Lib.hid (HS0.out.setCell (p := ⟨X, 3, none⟩) (fun _ => rfl) (.bool true))
          clear hev
          go_wp2_with fail
          go_meet
          exact ⟨Lib.hid (by rw [HX8.out, HEV.out]; simp [evCells]), HS2⟩
      · go_wp2_with fail
        go_meet
        exact ⟨Lib.hid (by rw [HX5.out]; simp [evCells, Pr.evOf]), Lib.hid (Mod.refl _ _)⟩
      · have hx := HOK.out.2.2.2.2.2.2.1
        have hxm := HOK.out.2.2.2.2.2.2.2.1
        simp only at hx hxm
        obtain ⟨m, rfl, hm4⟩ := HRANGE.out ir (by omega) hx
        have hm2 : m < 2 := by omega
        clear hx hxm
        obtain ⟨x, hx⟩ := get_some HT.out
        obtain ⟨y, hy⟩ : ∃ y, y = x.r m := ⟨_, rfl⟩
        obtain ⟨nn, hnn⟩ : ∃ n, n = s.th.length := ⟨_, rfl⟩
        have HYR := Lib.hid (And.intro hx hy)
        have HTN := Lib.hid hnn.symm
        have htn : t < nn := by rw [hnn]; exact HT.out
        clear hx hy hnn
        go_upto_region 17 with fail
        refine wp_region_planF (by kernel_rfl) (fun u => Mod (fun k => k = X) W5 u) [13] [(0, .pure), (1, .pure), (2, .pure), (3, .load), (4, .pure), (5, .pure), (6, .load), (7, .pure), (8, .pure), (9, .pure), (10, .load), (11, .pure), (12, .pure), (13, .last)] (by simp only [List.map_cons, List.map_nil, List.getElem?_toArray, List.getElem?_cons_succ, List.getElem?_cons_zero]; rfl) (by kernel_rfl) (fun _ _ d _ _ h => by cases d <;> exact h) ((Mod.refl _ _).drew) ?_
        have k1 : (0 : Int) ≤ (m : Int) := Int.natCast_nonneg _
        have k2 : (m : Int) < 2 := by omega
        have k3 : (0 : Int) ≤ (t : Int) := Int.natCast_nonneg _
        have k4 : (t : Int) < (nn : Int) := by omega
        have hb5 : ∀ u, Mod (fun k => k = X) W5 u → Below w.heap.size w u := fun u hu => (HBZ.out.trans (HM5.out.below _ HBZ.out.size (fun k hk e => by have := HXW.out; omega))).trans (hu.below _ (by have := HBZ.out.size; have := HM5.out.size; omega) (fun k hk e => by have := HXW.out; omega))
        have HB5 := Lib.hid hb5
        clear hb5
        obtain ⟨Wd, hWd⟩ : ∃ Wd, Wd = W5.drew := ⟨_, rfl⟩
        rw [← hWd]
        have s0 : Mod (fun k => k = X) W5 Wd := by rw [hWd]; exact (Mod.refl _ _).drew
        have hX6 : Wd.heap[X]? = some (.cells #[.int .i64 (t : Int), .int .i64 1, .int .i64 0, .bool false] 57 (0, 0)) := by rw [hWd]; exact HX5.out
        have HS0 := Lib.hid s0
        have HX6 := Lib.hid hX6
        clear hWd s0 hX6
        by_cases hy0 : y = 0
        · have hd : (y == 0) = true := by simpa using hy0
          have hev : Pr.evOf s t ⟨8, (m : Int), ix, im⟩ = ⟨t, 1, 0, true⟩ := by simp [Pr.evOf, HYR.out.1, ← HYR.out.2, hy0]
          have HEV := Lib.hid hev
          clear hev
          have HX8 := Lib.hid (set_blk HX6.out 3 (.bool true))
          have HS2 := Lib.hid (HS0.out.setCell (p := ⟨X, 3, none⟩) (fun _ => rfl) (.bool true))
          repeat (first
            | (refine plan_pure (v := ?_) (by rfl) (fun w1 => ?_) ?_
               rotate_left
               · go_simp <;> with_reducible rfl
               simp only [Act.put, List.setIfInBounds_toArray, List.set_cons_zero, List.set_cons_succ])
            | (refine plan_off (by rfl) ?_
               simp only [Act.put, List.setIfInBounds_toArray, List.set_cons_zero, List.set_cons_succ])
            | (refine plan_load_off (by rfl) ?_
               simp only [Act.put, List.setIfInBounds_toArray, List.set_cons_zero, List.set_cons_succ])
            | (refine plan_load (v := ?_) (by rfl) (fun w1 hw1 => ?_) ?_
               rotate_left
               · (have q := (hw1.cell Z 1 zl (by have := HLT.out.1; omega)).trans ((HM5.out.cell Z 1 (by have := HLT.out.2; exact this) (by have := HLT.out.1; omega)).trans HY.out.2.1)
                  have hq := HS.out.below (HB5.out w1 hw1)
                  have z3 := HS.out.z3 (HB5.out w1 hw1)
                  obtain ⟨PA, pc, tc, _, _, _, _, _, _, _⟩ := hq.cells
                  have q3 := (hq.thread t x HYR.out.1).2.2 m hm2
                  rw [← HYR.out.2] at q3
                  rw [HTN.out] at z3
                  have ql := hq.lt.2
                  clear hq
                  clear hw1
                  go_simp <;> with_reducible rfl)
               simp only [Act.put, List.setIfInBounds_toArray, List.set_cons_zero, List.set_cons_succ]))
          obtain ⟨⟨e0, e1, e2, e3⟩, el, g0, g1, g2, g3⟩ := in4_cells HX6.out
          refine plan_last ?_
          go_wp2_with fail
          repeat (first
            | (refine plan_pure (v := ?_) (by rfl) (fun w1 => ?_) ?_
               rotate_left
               · go_simp <;> with_reducible rfl
               simp only [Act.put, List.setIfInBounds_toArray, List.set_cons_zero, List.set_cons_succ])
            | (refine plan_off (by rfl) ?_
               simp only [Act.put, List.setIfInBounds_toArray, List.set_cons_zero, List.set_cons_succ])
            | (refine plan_load_off (by rfl) ?_
               simp only [Act.put, List.setIfInBounds_toArray, List.set_cons_zero, List.set_cons_succ])
            | (refine plan_load (v := ?_) (by rfl) (fun w1 hw1 => ?_) ?_
               rotate_left
               · (skip
                  clear hw1
                  go_simp <;> with_reducible rfl)
               simp only [Act.put, List.setIfInBounds_toArray, List.set_cons_zero, List.set_cons_succ]))
          refine plan_end ?_
          go_wp2_with fail
          go_meet
          exact ⟨Lib.hid (by rw [HX8.out, HEV.out]; simp [evCells]), HS2⟩
        · have hd : (y == 0) = false := by simpa using hy0
          have hev : Pr.evOf s t ⟨8, (m : Int), ix, im⟩ = ⟨t, 1, 0, false⟩ := by simp [Pr.evOf, HYR.out.1, ← HYR.out.2, hy0]
          have HEV := Lib.hid hev
          clear hev
          have HX8 := Lib.hid (set_blk HX6.out 3 (.bool false))
          have HS2 := Lib.hid (HS0.out.setCell (p := ⟨X, 3, none⟩) (fun _ => rfl) (.bool false))
          repeat (first
            | (refine plan_pure (v := ?_) (by rfl) (fun w1 => ?_) ?_
               rotate_left
               · go_simp <;> with_reducible rfl
               simp only [Act.put, List.setIfInBounds_toArray, List.set_cons_zero, List.set_cons_succ])
            | (refine plan_off (by rfl) ?_
               simp only [Act.put, List.setIfInBounds_toArray, List.set_cons_zero, List.set_cons_succ])
            | (refine plan_load_off (by rfl) ?_
               simp only [Act.put, List.setIfInBounds_toArray, List.set_cons_zero, List.set_cons_succ])
            | (refine plan_load (v := ?_) (by rfl) (fun w1 hw1 => ?_) ?_
               rotate_left
               · (have q := (hw1.cell Z 1 zl (by have := HLT.out.1; omega)).trans ((HM5.out.cell Z 1 (by have := HLT.out.2; exact this) (by have := HLT.out.1; omega)).trans HY.out.2.1)
                  have hq := HS.out.below (HB5.out w1 hw1)
                  have z3 := HS.out.z3 (HB5.out w1 hw1)
                  obtain ⟨PA, pc, tc, _, _, _, _, _, _, _⟩ := hq.cells
                  have q3 := (hq.thread t x HYR.out.1).2.2 m hm2
                  rw [← HYR.out.2] at q3
                  rw [HTN.out] at z3
                  have ql := hq.lt.2
                  clear hq
                  clear hw1
                  go_simp <;> with_reducible rfl)
               simp only [Act.put, List.setIfInBounds_toArray, List.set_cons_zero, List.set_cons_succ]))
          obtain ⟨⟨e0, e1, e2, e3⟩, el, g0, g1, g2, g3⟩ := in4_cells HX6.out
          refine plan_last ?_
          go_wp2_with fail
          repeat (first
            | (refine plan_pure (v := ?_) (by rfl) (fun w1 => ?_) ?_
               rotate_left
               · go_simp <;> with_reducible rfl
               simp only [Act.put, List.setIfInBounds_toArray, List.set_cons_zero, List.set_cons_succ])
            | (refine plan_off (by rfl) ?_
               simp only [Act.put, List.setIfInBounds_toArray, List.set_cons_zero, List.set_cons_succ])
            | (refine plan_load_off (by rfl) ?_
               simp only [Act.put, List.setIfInBounds_toArray, List.set_cons_zero, List.set_cons_succ])
            | (refine plan_load (v := ?_) (by rfl) (fun w1 hw1 => ?_) ?_
               rotate_left
               · (skip
                  clear hw1
                  go_simp <;> with_reducible rfl)
               simp only [Act.put, List.setIfInBounds_toArray, List.set_cons_zero, List.set_cons_succ]))
          refine plan_end ?_
          go_wp2_with fail
          go_meet
          exact ⟨Lib.hid (by rw [HX8.out, HEV.out]; simp [evCells]), HS2⟩
    case rest =>
      obtain ⟨HXC, HMC⟩ := hcut
      obtain ⟨e, he⟩ : ∃ e, e = Pr.evOf s t ⟨ik, ir, ix, im⟩ := ⟨_, rfl⟩
      rw [← he] at HXC
      obtain ⟨V2, hV2, ⟨d0, d1, d2, d3⟩, hmv⟩ := in4_exit HXC.out (.int .i64 e.t) (.int .i64 e.k) (.int .i64 e.o) (.bool e.f)
      obtain ⟨⟨e0, e1, e2, e3⟩, el, g0, g1, g2, g3⟩ := in4_cells HXC.out
      have HV2 := Lib.hid hV2
      have HMV := Lib.hid hmv
      have HE := Lib.hid he
      clear hV2 hmv he
      go_wp2_with fail
      rw [← HV2.out]
      refine bodyPost_ret (v := .tuple #[.agg #[.int .i64 e.t, .int .i64 e.k, .int .i64 e.o, .bool e.f], .bool true]) (by simp [results, Tryz.results64, go_sem, d0, d1, d2, d3]) rfl ?_
      refine ⟨by rw [← HE.out]; rfl, ?_⟩
      have h1 := HBZ.out.trans (HM5.out.below _ HBZ.out.size (fun k hk e => by have := HXW.out; omega))
      have h2 := h1.trans (HMC.out.below _ h1.size (fun k hk e => by have := HXW.out; omega))
      exact h2.trans (HMV.out.below _ h2.size (fun k hk e => by have := HXW.out; omega))
end Go.Proofs.YtcaapoacmfjnmaaGreat
