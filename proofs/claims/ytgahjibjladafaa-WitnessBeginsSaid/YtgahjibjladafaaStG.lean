/- What a thread may do next. -/
import Derived.Test.YtgahjibjladafaaStF
namespace Go.Proofs.Ytgahjibjladafaa
open Go.RowKit
set_option linter.unusedVariables false

namespace Pr
/-- the instruction that thread t is at -/
def ins (s : St) (t : Nat) : Option Ins :=
  match s.th[t]?, s.p.code[t]? with
  | some x, some c => if x.fuel = 0 then none else c[x.pc]?
  | _, _ => none
structure Wf (s : St) : Prop where
  ok : Pr.Ok s.p
  len : s.th.length = s.p.code.length
  bnd : ∀ (t : Nat) (x : Th), s.th[t]? = some x → x.fuel ≤ 8 ∧ x.pc ≤ 8
theorem Wf.n4 {s : St} (h : Wf s) : s.th.length ≤ 4 := by rw [h.len]; exact h.ok.1.2.2.2.2.2
theorem Wf.n1 {s : St} (h : Wf s) : 1 ≤ s.th.length := by rw [h.len]; exact h.ok.1.2.2.2.2.1
theorem Wf.q8 {s : St} (h : Wf s) {t : Nat} {q : List Ins} (hq : s.p.code[t]? = some q) : q.length ≤ 8 := (h.ok.2 q (List.mem_of_getElem? hq)).1
theorem Wf.insOk {s : St} (h : Wf s) {t : Nat} {i : Ins} (hi : ins s t = some i) : ∃ n : Int, 0 ≤ n ∧ n ≤ 8 ∧ InsOk s.p.vars s.p.mtx n i := by
  unfold ins at hi
  split at hi
  · rename_i x c hx hc
    split at hi
    · cases hi
    · have hm := h.ok.2 c (List.mem_of_getElem? hc)
      exact ⟨c.length, by omega, by have := hm.1; omega, hm.2 i (List.mem_of_getElem? hi)⟩
  · cases hi
theorem start_wf {p : Pg} {f : Nat} (h : Ok p) (hf : f ≤ 8) : Wf (start p f) := by
  refine ⟨h, by simp [start], fun t x hx => ?_⟩
  simp only [start, List.getElem?_map] at hx
  obtain ⟨c, _, rfl⟩ := Option.map_eq_some_iff.1 hx
  exact ⟨hf, Nat.zero_le _⟩
def zeroI : Ins := ⟨0, 0, 0, 0⟩
end Pr

theorem threads_any (w : World) (C : Nat → Prop) (S T : Nat) (s : St) (h : SAt w C S T s) :
    Calls Try.prog 77 #[.pointer (some ⟨S, 0, none⟩)] w fun x w' => x = .returned (.int .i64 (s.th.length : Nat)) ∧ w = w' := by
  obtain ⟨PA, pc, z0, z1, z2, z3, zv, zh, zc⟩ := h.cells
  have sl := h.lt.1
  generalize s.th.length = n at *
  clear z0 z1 z2 zv zh zc h
  go_enter Try.func77, Try.ntmps77
  go_wp2_with fail
  go_ret
  exact ⟨rfl, rfl⟩
theorem is_any (w : World) (C : Nat → Prop) (S T : Nat) (s : St) (t : Int) (h : SAt w C S T s) :
    Calls Try.prog 79 #[.pointer (some ⟨S, 0, none⟩), .int .i64 t] w fun x w' => x = .returned (.bool (decide (0 ≤ t ∧ t < (s.th.length : Int)))) ∧ w = w' := by
  have hc := threads_any w C S T s h
  generalize s.th.length = n at *
  have HC := Lib.hid hc
  clear hc h
  by_cases h0 : 0 ≤ t
  · go_enter Try.func79, Try.ntmps79
    go_wp2_with fail
    refine HC.out.mono ?_
    rintro x w' ⟨rfl, rfl⟩
    by_cases h1 : t < (n : Int)
    · go_wp2_with fail
      go_ret
      exact ⟨by rw [decide_eq_true ⟨h0, h1⟩]; rfl, rfl⟩
    · have hd : decide (t < (n : Int)) = false := decide_eq_false h1
      go_wp2_with fail
      go_ret
      exact ⟨by rw [decide_eq_false (show ¬ (0 ≤ t ∧ t < (n : Int)) by omega)]; first | rfl | simp [hd], rfl⟩
  · go_enter Try.func79, Try.ntmps79
    go_wp2_with fail
    go_ret
    exact ⟨by rw [decide_eq_false (show ¬ (0 : Int) ≤ t by omega)]; rfl, rfl⟩

/-- what is stored in a box of four at the end, and what stays -/
theorem in4_exit {w : World} {X : Nat} {a b c d : Value} {T : TypeId} (h : w.heap[X]? = some (.cells #[a, b, c, d] T (0, 0))) (x y z u : Value) : ∃ V, V = (((w.setCell ⟨X, 0, none⟩ x).setCell ⟨X, 1, none⟩ y).setCell ⟨X, 2, none⟩ z).setCell ⟨X, 3, none⟩ u ∧
    (V.cell? ⟨X, 0, none⟩ = some x ∧ V.cell? ⟨X, 1, none⟩ = some y ∧ V.cell? ⟨X, 2, none⟩ = some z ∧ V.cell? ⟨X, 3, none⟩ = some u) ∧ Mod (fun k => k = X) w V := by
  have h1 := set_blk h 0 x
  have h2 := set_blk h1 1 y
  have h3 := set_blk h2 2 z
  have h4 := set_blk h3 3 u
  refine ⟨_, rfl, ⟨?_, ?_, ?_, ?_⟩, ((((Mod.refl (fun k => k = X) w).setCell (p := ⟨X, 0, none⟩) (fun _ => rfl) _).setCell (p := ⟨X, 1, none⟩) (fun _ => rfl) _).setCell (p := ⟨X, 2, none⟩) (fun _ => rfl) _).setCell (p := ⟨X, 3, none⟩) (fun _ => rfl) _⟩ <;> (rw [cell_blk h4]; simp)
theorem in4_cells {w : World} {X : Nat} {a b c d : Value} {T : TypeId} (h : w.heap[X]? = some (.cells #[a, b, c, d] T (0, 0))) : (w.cell? ⟨X, 0, none⟩ = some a ∧ w.cell? ⟨X, 1, none⟩ = some b ∧ w.cell? ⟨X, 2, none⟩ = some c ∧ w.cell? ⟨X, 3, none⟩ = some d) ∧ X < w.heap.size ∧ w.frozen? ⟨X, 0, none⟩ = false ∧ w.frozen? ⟨X, 1, none⟩ = false ∧ w.frozen? ⟨X, 2, none⟩ = false ∧ w.frozen? ⟨X, 3, none⟩ = false :=
  ⟨⟨by rw [cell_blk h]; rfl, by rw [cell_blk h]; rfl, by rw [cell_blk h]; rfl, by rw [cell_blk h]; rfl⟩, blk_lt h, free_blk h _, free_blk h _, free_blk h _, free_blk h _⟩
set_option maxRecDepth 100000 in
set_option maxHeartbeats 2000000 in
theorem instr_any (w : World) (C : Nat → Prop) (S T : Nat) (s : St) (t : Nat) (h : SAt w C S T s) (hw : Pr.Wf s) (ht : t < s.th.length) :
    Calls Try.prog 81 #[.pointer (some ⟨S, 0, none⟩), .int .i64 (t : Int)] w fun x w' => x = .returned (.tuple #[valI ((Pr.ins s t).getD Pr.zeroI), .bool (Pr.ins s t).isSome]) ∧ Below w.heap.size w w' := by
  obtain ⟨W, X, hW, hX, hB, hXl, hXe⟩ := ins_box w Pr.zeroI
  have hXk : W.heap[X]? = some (.cells #[.int .i64 0, .int .i64 0, .int .i64 0, .int .i64 0] 115 (0, 0)) := by rw [hW, hX]; exact heap_alloc_new w _
  have hS := h.below hB
  have hcall := is_any W C S T s t hS
  rw [decide_eq_true (show (0 : Int) ≤ t ∧ (t : Int) < s.th.length by omega)] at hcall
  obtain ⟨x, hx⟩ := get_some ht
  obtain ⟨q, hq⟩ := get_some (show t < s.p.code.length by rw [← hw.len]; exact ht)
  have hn4 := hw.n4
  have hq8 := hw.q8 hq
  obtain ⟨hf8, hp8⟩ := hw.bnd t x hx
  obtain ⟨PA, pc, z0, z1, z2, z3, zv, zh, zc⟩ := hS.cells
  obtain ⟨t0, t1, tr⟩ := hS.thread t x hx
  obtain ⟨g, o, A', c', rfl, hCg, hgl, hrq, hqc, hcm, hcell⟩ := zc.get t q hq
  have hins : Pr.ins s t = if x.fuel = 0 then none else q[x.pc]? := by unfold Pr.ins; rw [hx, hq]
  have hcode : s.p.code.length = s.th.length := hw.len.symm
  have HCALL := Lib.hid hcall
  have HINS := Lib.hid hins
  have HZ := Lib.hid (And.intro z2 (And.intro z3 (And.intro t0 t1)))
  have HCELL := Lib.hid hcell
  have HRQ := Lib.hid hrq
  have HSL := Lib.hid hS.lt
  have HB := Lib.hid hB
  have HXK := Lib.hid hXk
  have HCO := Lib.hid hcode
  have HS := Lib.hid hS
  have HCG := Lib.hid hCg
  obtain ⟨n, hn⟩ : ∃ n, n = s.th.length := ⟨_, rfl⟩
  rw [hcode, ← hn] at HZ
  rw [← hn] at ht hn4
  have HNN := Lib.hid hn
  have HX8 := Lib.hid hX
  clear hcall hins z0 z1 z2 z3 zv zh zc t0 t1 tr hcell hrq hS hB hXk hcode hn hx hq h hXe hCg hX
  go_enter Try.func81, Try.ntmps81
  go_upto_region 1 with fail
  have hW' : W = w.alloc (Obj.cells #[.int .i64 0, .int .i64 0, .int .i64 0, .int .i64 0] 115) := hW
  rw [← hW', ← HX8.out]
  clear hW hW'
  go_wp2_with fail
  refine HCALL.out.mono ?_
  rintro y w1 ⟨rfl, rfl⟩
  go_upto_region 3 with fail
  go_cut [6, 7] (fun a b w2 => a = .pointer (some ⟨T, t * 4, none⟩) ∧ b = .slice A' q.length c' ∧ Hid (Below W.heap.size W w2))
  case first =>
    refine wp_region_planF (by kernel_rfl) (fun u => Below W.heap.size W u) [] [(0, .pure), (1, .pure), (2, .pure), (3, .load), (4, .pure), (5, .pure), (6, .pure), (7, .pure), (8, .pure), (9, .pure), (10, .load), (11, .pure), (12, .pure), (13, .load), (14, .pure), (15, .pure)] (by simp only [List.map_cons, List.map_nil, List.getElem?_toArray, List.getElem?_cons_succ, List.getElem?_cons_zero]; rfl) (by kernel_rfl) (fun _ _ d _ _ h => by cases d <;> exact h) ((Below.refl _ _).drew) ?_
    have k1 : (0 : Int) ≤ (t : Int) := Int.natCast_nonneg _
    have k2 : (t : Int) < (n : Int) := by omega
    repeat (first
      | (refine plan_pure (v := ?_) (by rfl) (fun w1 => ?_) ?_
         rotate_left
         · go_simp <;> with_reducible rfl
         simp only [Act.put, List.setIfInBounds_toArray, List.set_cons_zero, List.set_cons_succ])
      | (refine plan_off (by rfl) ?_
         simp only [Act.put, List.setIfInBounds_toArray, List.set_cons_zero, List.set_cons_succ])
      | (refine plan_load_off (by rfl) ?_
         simp only [Act.put, List.setIfInBounds_toArray, List.set_cons_zero, List.set_cons_succ])
      | (refine plan_load (v := ?_) (by rfl) (fun w1 hw1 => ?_) ?_
         rotate_left
         · (have q3 := (World.cell?_of_block (hw1.block S HSL.out.1)).trans HZ.out.2.1
            have q2 := (World.cell?_of_block (hw1.block S HSL.out.1)).trans HZ.out.1
            have q1 := HCELL.out w1 (hw1.block g hgl)
            clear hw1
            go_simp <;> with_reducible rfl)
         simp only [Act.put, List.setIfInBounds_toArray, List.set_cons_zero, List.set_cons_succ]))
    refine plan_end ?_
    go_wp2_with fail
    go_meet
    exact ⟨by first | rfl | simp, rfl, Lib.hid (Below.refl _ _).drew⟩
  case rest =>
    obtain ⟨rfl, rfl, HBC⟩ := hcut
    have t0 := (World.cell?_of_block (HBC.out.block T HSL.out.2)).trans HZ.out.2.2.1
    have t1 := (World.cell?_of_block (HBC.out.block T HSL.out.2)).trans HZ.out.2.2.2
    have hXc := (HBC.out.block X hXl).trans HXK.out
    have tl : T < wc.heap.size := by have := HBC.out.size; have := HSL.out.2; omega
    have HXC := Lib.hid hXc
    have HXW := Lib.hid (Nat.le_of_eq HX8.out.symm)
    clear hXc
    by_cases hf : x.fuel = 0
    · have q1 : ((x.fuel : Nat) : Int) = 0 := by omega
      have HF := Lib.hid hf
      clear hf
      obtain ⟨V2, hV2, ⟨d0, d1, d2, d3⟩, hmv⟩ := in4_exit HXC.out (.int .i64 0) (.int .i64 0) (.int .i64 0) (.int .i64 0)
      obtain ⟨⟨e0, e1, e2, e3⟩, el, g0, g1, g2, g3⟩ := in4_cells HXC.out
      have HV2 := Lib.hid hV2
      have HMV := Lib.hid hmv
      clear hV2 hmv
      go_wp2_with fail
      rw [← HV2.out]
      refine bodyPost_ret (v := .tuple #[.agg #[.int .i64 0, .int .i64 0, .int .i64 0, .int .i64 0], .bool false]) (by simp [results, Try.results81, go_sem, d0, d1, d2, d3]) rfl ?_
      exact ⟨by rw [show Pr.ins s t = none by rw [HINS.out]; rw [if_pos HF.out]]; rfl, (below_at HB.out HBC.out).trans (HMV.out.below _ (by have := HB.out.size; have := HBC.out.size; omega) (fun k hk e => by have := HXW.out; omega))⟩
    · have q1 : ¬ ((x.fuel : Nat) : Int) = 0 := by omega
      have e1 : (((x.fuel : Nat) : Int) == 0) = false := by simpa using hf
      have HF := Lib.hid hf
      clear hf
      by_cases hpc : x.pc < q.length
      · obtain ⟨i, hi⟩ := get_some hpc
        have q2 : ((x.pc : Nat) : Int) < ((q.length : Nat) : Int) := by omega
        have q3 : (0 : Int) ≤ ((x.pc : Nat) : Int) := by omega
        obtain ⟨g2, o2, rfl, hC2, hg2, hin⟩ := HRQ.out.ins x.pc i hi
        obtain ⟨i0, i1, i2, i3⟩ := hin wc (HBC.out.block g2 hg2)
        have g2l : g2 < wc.heap.size := by have := HBC.out.size; omega
        obtain ⟨V2, hV2, ⟨d0, d1, d2, d3⟩, hmv⟩ := in4_exit HXC.out (.int .i64 i.k) (.int .i64 i.r) (.int .i64 i.x) (.int .i64 i.n)
        obtain ⟨⟨e0, e1, e2, e3⟩, el, g0, g1, g2, g3⟩ := in4_cells HXC.out
        have HV2 := Lib.hid hV2
        have HMV := Lib.hid hmv
        have HI := Lib.hid hi
        clear hV2 hmv hi hin
        go_wp2_with fail
        rw [← HV2.out]
        refine bodyPost_ret (v := .tuple #[.agg #[.int .i64 i.k, .int .i64 i.r, .int .i64 i.x, .int .i64 i.n], .bool true]) (by simp [results, Try.results81, go_sem, d0, d1, d2, d3]) rfl ?_
        exact ⟨by rw [show Pr.ins s t = some i by rw [HINS.out, if_neg HF.out, HI.out]]; rfl, (below_at HB.out HBC.out).trans (HMV.out.below _ (by have := HB.out.size; have := HBC.out.size; omega) (fun k hk e => by have := HXW.out; omega))⟩
      · have q2 : ¬ ((x.pc : Nat) : Int) < ((q.length : Nat) : Int) := by omega
        have HP := Lib.hid hpc
        clear hpc
        obtain ⟨V2, hV2, ⟨d0, d1, d2, d3⟩, hmv⟩ := in4_exit HXC.out (.int .i64 0) (.int .i64 0) (.int .i64 0) (.int .i64 0)
        obtain ⟨⟨e0, e1, e2, e3⟩, el, g0, g1, g2, g3⟩ := in4_cells HXC.out
        have HV2 := Lib.hid hV2
        have HMV := Lib.hid hmv
        clear hV2 hmv
        go_wp2_with fail
        rw [← HV2.out]
        refine bodyPost_ret (v := .tuple #[.agg #[.int .i64 0, .int .i64 0, .int .i64 0, .int .i64 0], .bool false]) (by simp [results, Try.results81, go_sem, d0, d1, d2, d3]) rfl ?_
        exact ⟨by rw [show Pr.ins s t = none by rw [HINS.out]; rw [if_neg HF.out, List.getElem?_eq_none (by have := HP.out; omega)]]; rfl, (below_at HB.out HBC.out).trans (HMV.out.below _ (by have := HB.out.size; have := HBC.out.size; omega) (fun k hk e => by have := HXW.out; omega))⟩
end Go.Proofs.Ytgahjibjladafaa
