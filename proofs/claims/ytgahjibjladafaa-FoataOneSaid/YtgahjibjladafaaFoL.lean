/- Are rows, and levels, the same? -/
import Derived.Test.YtgahjibjladafaaFoG
import Derived.Laws.StructEq
import Derived.Shelf.SlicesE.Kit
namespace Go.Proofs.Ytgahjibjladafaa
open Go.RowKit
set_option linter.unusedVariables false

set_option maxRecDepth 100000 in
theorem evEq (a b : Ev) (w : World) : (Op.equalIn 10000 39 (.agg #[.int .i64 a.t, .int .i64 a.k, .int .i64 a.o, .bool a.f]) (.agg #[.int .i64 b.t, .int .i64 b.k, .int .i64 b.o, .bool b.f])).run Try.prog w = .ok (decide (a = b)) w := by
  have u3 := Try.underlying3
  have u4 := Try.underlying4
  have a3 := Try.isAgg3
  have z3 := Try.sizeOf3
  have a4 := Try.isAgg4
  have z4 := Try.sizeOf4
  have hS : Try.prog.underlying 39 = some (.struct (Try.prog.fieldsOf 39)) := by kernel_rfl
  have hp : Try.prog.stoodInHeld 39 = false := by kernel_rfl
  rw [show (10000 : Nat) = 9999 + 1 from rfl, run_equalIn_agg w 9999 39 _ _ hS hp]
  simp only [Program.fieldsOf, Try.underlying39]
  go_simp
  obtain ⟨t, k, o, f⟩ := a
  obtain ⟨t', k', o', f'⟩ := b
  simp only [Ev.mk.injEq]
  by_cases h1 : t = t' <;> by_cases h2 : k = k' <;> by_cases h3 : o = o' <;> by_cases h4 : f = f' <;> simp [h1, h2, h3, h4]
theorem evGuard (op : BinOp) (x y : Operand) (a b : Array Value) (w : World) : (eqGuard op 39 x y (.agg a) (.agg b)).run Try.prog w = .ok () w := run_eqGuard_agg w op 39 x y _ _ (by kernel_rfl)

set_option maxRecDepth 100000 in
set_option maxHeartbeats 1000000 in
theorem sameEvents_any (w : World) (A : Option Addr) (cap : Nat) (a : List Ev) (B : Option Addr) (cap' : Nat) (b : List Ev) (ha : Rd w 4 A a.length (a.flatMap encE)) (hb : Rd w 4 B b.length (b.flatMap encE)) (hl : a.length < 4611686018427387904) :
    Calls Try.prog 19 #[.slice A a.length cap, .slice B b.length cap'] w fun x w' => x = .returned (.bool (decide (a = b))) ∧ Below w.heap.size w w' := by
  have HC := Lib.hid (evs_cell ha.toB)
  have HD := Lib.hid (evs_cell hb.toB)
  clear ha hb
  by_cases hlen : a.length = b.length
  · have hlen' : b.length = a.length := hlen.symm
    rw [hlen']
    have HL := Lib.hid hlen
    clear hlen hlen'
    go_enter Try.func19, Try.ntmps19
    go_wp2_with fail
    go_loopw [5] (fun v wr => ∃ k : Nat, k ≤ a.length ∧ v = .int .i64 k ∧ Hid (a.take k = b.take k) ∧ Below w.heap.size w wr) (fun v _ => a.length - (intOf v).toNat)
    case atStart => exact ⟨0, Nat.zero_le _, rfl, Lib.hid rfl, Below.refl _ _⟩
    case round =>
      obtain ⟨k, hk, rfl, HRT, hbw⟩ := hrel
      by_cases hlt : k < a.length
      · obtain ⟨g, o, rfl, hg, hcl⟩ := HC.out k hlt
        obtain ⟨g', o', rfl, hg', hcl'⟩ := HD.out k (by have := HL.out; omega)
        obtain ⟨v0, v1, v2, v3⟩ := hcl wr hbw
        obtain ⟨u0, u1, u2, u3⟩ := hcl' wr hbw
        have k1 : (0 : Int) ≤ (k : Int) := Int.natCast_nonneg _
        have k2 : (k : Int) < (a.length : Int) := by omega
        have heq : ∀ w, _ := evEq a[k] (b[k]'(by have := HL.out; omega))
        have htk : a.take (k + 1) = a.take k ++ [a[k]] := by rw [List.take_add_one, List.getElem?_eq_getElem hlt]; rfl
        have htk' : b.take (k + 1) = b.take k ++ [b[k]'(by have := HL.out; omega)] := by rw [List.take_add_one, List.getElem?_eq_getElem (by have := HL.out; omega)]; rfl
        have hne : a[k] ≠ b[k]'(by have := HL.out; omega) → a ≠ b := fun h e => h (by subst e; rfl)
        generalize a[k] = x at *
        generalize b[k]'(by have := HL.out; omega) = y at *
        have lg : g < wr.heap.size := by have := hbw.size; omega
        have lg' : g' < wr.heap.size := by have := hbw.size; omega
        have HTK := Lib.hid htk
        have HTK' := Lib.hid htk'
        have HNE := Lib.hid hne
        have HBW := Lib.hid hbw
        have hgd := evGuard
        clear htk htk' hne hcl hcl' hbw
        go_wp2_with fail
        refine wp_region_plan (by kernel_rfl) (fun u => Mod (fun _ => False) wr u) [] [(0, .pure), (1, .pure), (2, .pure), (3, .load), (4, .pure), (5, .pure), (6, .pure), (7, .load), (8, .pure)] (by simp only [List.map_cons, List.map_nil, List.getElem?_toArray, List.getElem?_cons_succ, List.getElem?_cons_zero]; rfl) (by kernel_rfl) (fun _ _ d _ _ h => by cases d <;> exact h) ((Mod.refl _ _).drew) ?_
        repeat (first
          | (refine plan_pure (v := ?_) (by rfl) (fun w1 => ?_) ?_
             rotate_left
             · go_simp <;> with_reducible rfl
             simp only [Act.put, List.setIfInBounds_toArray, List.set_cons_zero, List.set_cons_succ])
          | (refine plan_off (by rfl) ?_
             simp only [Act.put, List.setIfInBounds_toArray, List.set_cons_zero, List.set_cons_succ])
          | (refine plan_load_off (by rfl) ?_
             simp only [Act.put, List.setIfInBounds_toArray, List.set_cons_zero, List.set_cons_succ])
          | (refine plan_load (v := ?_) (by rfl) (fun w1 hw1 => ?_) ?_
             rotate_left
             · (have q0 := (hw1.cell g (o + k * 4) lg id).trans v0
                have q1 := (hw1.cell g (o + k * 4 + 1) lg id).trans v1
                have q2 := (hw1.cell g (o + k * 4 + 2) lg id).trans v2
                have q3 := (hw1.cell g (o + k * 4 + 3) lg id).trans v3
                have p0 := (hw1.cell g' (o' + k * 4) lg' id).trans u0
                have p1 := (hw1.cell g' (o' + k * 4 + 1) lg' id).trans u1
                have p2 := (hw1.cell g' (o' + k * 4 + 2) lg' id).trans u2
                have p3 := (hw1.cell g' (o' + k * 4 + 3) lg' id).trans u3
                clear hw1
                go_simp <;> with_reducible rfl)
             simp only [Act.put, List.setIfInBounds_toArray, List.set_cons_zero, List.set_cons_succ]))
        refine plan_end ?_
        by_cases hxy : x = y
        · have hd : decide (x = y) = true := decide_eq_true hxy
          rw [hd]
          have HXY := Lib.hid hxy
          clear hxy hd heq
          go_wp2_with fail
          go_roundw
          case rel => exact ⟨k + 1, by omega, by go_num, Lib.hid (by rw [HTK.out, HTK'.out, HRT.out, HXY.out]), HBW.out.trans ⟨rfl, rfl, rfl, Nat.le_refl _, fun _ _ => rfl⟩⟩
          case measure => simp [intOf]; omega
        · have hd : decide (x = y) = false := decide_eq_false hxy
          rw [hd]
          have HXY := Lib.hid hxy
          clear hxy hd heq
          go_wp2_with fail
          go_ret
          exact ⟨by rw [decide_eq_false (HNE.out HXY.out)]; rfl, HBW.out.trans ⟨rfl, rfl, rfl, Nat.le_refl _, fun _ _ => rfl⟩⟩
      · have hkn : k = a.length := by omega
        have HK := Lib.hid hkn
        have HBW := Lib.hid hbw
        clear hkn hbw
        go_wp2_with fail
        go_ret
        have h1 := HRT.out
        rw [HK.out, List.take_length, HL.out, List.take_length] at h1
        exact ⟨by rw [decide_eq_true h1]; rfl, HBW.out⟩
  · have hlen' : ¬ ((a.length : Int) = (b.length : Int)) := by omega
    have e1 : ((a.length : Int) == (b.length : Int)) = false := by simpa using hlen'
    have hne : a ≠ b := fun e => hlen (by rw [e])
    have HNE := Lib.hid hne
    clear hlen hlen' hne
    go_enter Try.func19, Try.ntmps19
    go_wp2_with fail
    go_ret
    exact ⟨by rw [decide_eq_false HNE.out]; rfl, Below.refl _ _⟩
end Go.Proofs.Ytgahjibjladafaa
