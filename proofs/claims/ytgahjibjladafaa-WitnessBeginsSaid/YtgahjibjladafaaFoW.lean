/- slices.Equal, slices.EqualFunc: are levels the same? -/
import Derived.Test.YtgahjibjladafaaFoV
namespace Go.Proofs.Ytgahjibjladafaa
open Go.RowKit
set_option linter.unusedVariables false

set_option maxRecDepth 100000 in
set_option maxHeartbeats 1000000 in
theorem equal_any (w : World) (A : Option Addr) (cap : Nat) (a : List Ev) (B : Option Addr) (cap' : Nat) (b : List Ev) (ha : Rd w 4 A a.length (a.flatMap encE)) (hb : Rd w 4 B b.length (b.flatMap encE)) (hl : a.length < 4611686018427387904) :
    Calls Try.prog 62 #[.slice A a.length cap, .slice B b.length cap'] w fun x w' => x = .returned (.bool (decide (a = b))) ∧ Below w.heap.size w w' := by
  have HC := Lib.hid (evs_cell ha.toB)
  have HD := Lib.hid (evs_cell hb.toB)
  clear ha hb
  by_cases hlen : a.length = b.length
  · have hlen' : b.length = a.length := hlen.symm
    rw [hlen']
    have HL := Lib.hid hlen
    clear hlen hlen'
    go_enter Try.func62, Try.ntmps62
    go_wp2_with fail
    go_loopw [13] (fun v wr => ∃ k : Nat, k ≤ a.length ∧ v = .int .i64 k ∧ Hid (a.take k = b.take k) ∧ Below w.heap.size w wr) (fun v _ => a.length - (intOf v).toNat)
    case atStart => exact ⟨0, Nat.zero_le _, rfl, Lib.hid rfl, Below.refl _ _⟩
    case round =>
      obtain ⟨k, hk, rfl, HRT, hbw⟩ := hrel
      by_cases hlt : k < a.length
      · obtain ⟨g, o, rfl, hg, hcl⟩ := HC.out k hlt
        obtain ⟨g', o', rfl, hg', hcl'⟩ := HD.out k (by have := HL.out; omega)
        obtain ⟨v0, v1, v2, v3⟩ := hcl wr hbw
        obtain ⟨u0, u1, u2, u3⟩ := hcl' wr hbw
        have k1 : (0 : Int) ≤ (k : Int) := Int.natCast_nonneg _
        have k2 : (k : Int) < (a.length : Int) := by omega
        have heq : ∀ w, _ := evEq a[k] (b[k]'(by have := HL.out; omega))
        have htk : a.take (k + 1) = a.take k ++ [a[k]] := by rw [List.take_add_one, List.getElem?_eq_getElem hlt]; rfl
        have htk' : b.take (k + 1) = b.take k ++ [b[k]'(by have := HL.out; omega)] := by rw [List.take_add_one, List.getElem?_eq_getElem (by have := HL.out; omega)]; rfl
        have hne : a[k] ≠ b[k]'(by have := HL.out; omega) → a ≠ b := fun h e => h (by subst e; rfl)
        generalize a[k] = x at *
        generalize b[k]'(by have := HL.out; omega) = y at *
        have lg : g < wr.heap.size := by have := hbw.size; omega
        have lg' : g' < wr.heap.size := by have := hbw.size; omega
        have HTK := Lib.hid htk
        have HTK' := Lib.hid htk'
        have HNE := Lib.hid hne
        have HBW := Lib.hid hbw
        have hgd := evGuard
        clear htk htk' hne hcl hcl' hbw
        go_wp2_with fail
        refine wp_region_plan (by kernel_rfl) (fun u => Mod (fun _ => False) wr u) [] [(0, .pure), (1, .pure), (2, .pure), (3, .load), (4, .pure), (5, .pure), (6, .pure), (7, .load), (8, .pure)] (by simp only [List.map_cons, List.map_nil, List.getElem?_toArray, List.getElem?_cons_succ, List.getElem?_cons_zero]; rfl) (by kernel_rfl) (fun _ _ d _ _ h => by cases d <;> exact h) ((Mod.refl _ _).drew) ?_
        repeat (first
          | (refine plan_pure (v := ?_) (by rfl) (fun w1 => ?_) ?_
             rotate_left
             · go_simp <;> with_reducible rfl
             simp only [Act.put, List.setIfInBounds_toArray, List.set_cons_zero, List.set_cons_succ])
          | (refine plan_off (by rfl) ?_
             simp only [Act.put, List.setIfInBounds_toArray, List.set_cons_zero, List.set_cons_succ])
          | (refine plan_load_off (by rfl) ?_
             simp only [Act.put, List.setIfInBounds_toArray, List.set_cons_zero, List.set_cons_succ])
          | (refine plan_load (v := ?_) (by rfl) (fun w1 hw1 => ?_) ?_
             rotate_left
             · (have q0 := (hw1.cell g (o + k * 4) lg id).trans v0
                have q1 := (hw1.cell g (o + k * 4 + 1) lg id).trans v1
                have q2 := (hw1.cell g (o + k * 4 + 2) lg id).trans v2
                have q3 := (hw1.cell g (o + k * 4 + 3) lg id).trans v3
                have p0 := (hw1.cell g' (o' + k * 4) lg' id).trans u0
                have p1 := (hw1.cell g' (o' + k * 4 + 1) lg' id).trans u1
                have p2 := (hw1.cell g' (o' + k * 4 + 2) lg' id).trans u2
                have p3 := (hw1.cell g' (o' + k * 4 + 3) lg' id).trans u3
                clear hw1
                go_simp <;> with_reducible rfl)
             simp only [Act.put, List.setIfInBounds_toArray, List.set_cons_zero, List.set_cons_succ]))
        refine plan_end ?_
        by_cases hxy : x = y
        · have hd : decide (x = y) = true := decide_eq_true hxy
          rw [hd]
          have HXY := Lib.hid hxy
          clear hxy hd heq
          go_wp2_with fail
          go_roundw
          case rel => exact ⟨k + 1, by omega, by go_num, Lib.hid (by rw [HTK.out, HTK'.out, HRT.out, HXY.out]), HBW.out.trans ⟨rfl, rfl, rfl, Nat.le_refl _, fun _ _ => rfl⟩⟩
          case measure => simp [intOf]; omega
        · have hd : decide (x = y) = false := decide_eq_false hxy
          rw [hd]
          have HXY := Lib.hid hxy
          clear hxy hd heq
          go_wp2_with fail
          go_ret
          exact ⟨by rw [decide_eq_false (HNE.out HXY.out)]; rfl, HBW.out.trans ⟨rfl, rfl, rfl, Nat.le_refl _, fun _ _ => rfl⟩⟩
      · have hkn : k = a.length := by omega
        have HK := Lib.hid hkn
        have HBW := Lib.hid hbw
        clear hkn hbw
        go_wp2_with fail
        go_ret
        have h1 := HRT.out
        rw [HK.out, List.take_length, HL.out, List.take_length] at h1
        exact ⟨by rw [decide_eq_true h1]; rfl, HBW.out⟩
  · have hlen' : ¬ ((a.length : Int) = (b.length : Int)) := by omega
    have e1 : ((a.length : Int) == (b.length : Int)) = false := by simpa using hlen'
    have hne : a ≠ b := fun e => hlen (by rw [e])
    have HNE := Lib.hid hne
    clear hlen hlen' hne
    go_enter Try.func62, Try.ntmps62
    go_wp2_with fail
    go_ret
    exact ⟨by rw [decide_eq_false HNE.out]; rfl, Below.refl _ _⟩

set_option maxRecDepth 100000 in
set_option maxHeartbeats 2000000 in
theorem equalFunc_any (w : World) (A : Option Addr) (cap : Nat) (a : List (List Ev)) (B : Option Addr) (cap' : Nat) (b : List (List Ev)) (ha : LvAt w w.heap.size A a) (hb : LvAt w w.heap.size B b) (hl : a.length < 4611686018427387904) (hq : ∀ q ∈ a, q.length < 4611686018427387904) :
    Calls Try.prog 61 #[.slice A a.length cap, .slice B b.length cap', .func (.func 62) #[] #[]] w fun x w' => x = .returned (.bool (decide (a = b))) ∧ Below w.heap.size w w' := by
  have HC := Lib.hid ha.cell
  have HD := Lib.hid hb.cell
  have HQ := Lib.hid hq
  clear ha hb hq
  by_cases hlen : a.length = b.length
  · have hlen' : b.length = a.length := hlen.symm
    rw [hlen']
    have HL := Lib.hid hlen
    clear hlen hlen'
    go_enter Try.func61, Try.ntmps61
    go_wp2_with fail
    go_loopw [17] (fun v wr => ∃ k : Nat, k ≤ a.length ∧ v = .int .i64 k ∧ Hid (a.take k = b.take k) ∧ Below w.heap.size w wr) (fun v _ => a.length - (intOf v).toNat)
    case atStart => exact ⟨0, Nat.zero_le _, rfl, Lib.hid rfl, Below.refl _ _⟩
    case round =>
      obtain ⟨k, hk, rfl, HRT, hbw⟩ := hrel
      by_cases hlt : k < a.length
      · obtain ⟨g, o, P, pc, rfl, hg, hP, hcl⟩ := HC.out k hlt
        obtain ⟨g', o', Q, qc, rfl, hg', hQ, hcl'⟩ := HD.out k (by have := HL.out; omega)
        have v0 := hcl wr hbw
        have u0 := hcl' wr hbw
        have k1 : (0 : Int) ≤ (k : Int) := Int.natCast_nonneg _
        have k2 : (k : Int) < (a.length : Int) := by omega
        have htk : a.take (k + 1) = a.take k ++ [a[k]] := by rw [List.take_add_one, List.getElem?_eq_getElem hlt]; rfl
        have htk' : b.take (k + 1) = b.take k ++ [b[k]'(by have := HL.out; omega)] := by rw [List.take_add_one, List.getElem?_eq_getElem (by have := HL.out; omega)]; rfl
        have hne : a[k] ≠ b[k]'(by have := HL.out; omega) → a ≠ b := fun h e => h (by subst e; rfl)
        have hxl : a[k].length < 4611686018427387904 := HQ.out _ (List.getElem_mem hlt)
        have hcall := equal_any wr P pc a[k] Q qc (b[k]'(by have := HL.out; omega)) ((hP.below hbw).mono hbw.size) ((hQ.below hbw).mono hbw.size) hxl
        generalize a[k] = x at *
        generalize b[k]'(by have := HL.out; omega) = y at *
        have HTK := Lib.hid htk
        have HTK' := Lib.hid htk'
        have HNE := Lib.hid hne
        have HBW := Lib.hid hbw
        have HCALL := Lib.hid hcall
        clear htk htk' hne hcl hcl' hbw hP hQ hcall
        go_wp2_with fail
        refine HCALL.out.mono ?_
        rintro z w1 ⟨rfl, b1⟩
        have hb2 : Below w.heap.size w w1 := below_at HBW.out b1
        have HB2 := Lib.hid hb2
        clear b1 hb2
        by_cases hxy : x = y
        · have hd : decide (x = y) = true := decide_eq_true hxy
          rw [hd]
          have HXY := Lib.hid hxy
          clear hxy hd HCALL
          go_wp2_with fail
          go_roundw
          case rel => exact ⟨k + 1, by omega, by go_num, Lib.hid (by rw [HTK.out, HTK'.out, HRT.out, HXY.out]), HB2.out⟩
          case measure => simp [intOf]; omega
        · have hd : decide (x = y) = false := decide_eq_false hxy
          rw [hd]
          have HXY := Lib.hid hxy
          clear hxy hd HCALL
          go_wp2_with fail
          go_ret
          exact ⟨by rw [decide_eq_false (HNE.out HXY.out)]; rfl, HB2.out⟩
      · have hkn : k = a.length := by omega
        have HK := Lib.hid hkn
        have HBW := Lib.hid hbw
        clear hkn hbw
        go_wp2_with fail
        go_ret
        have h1 := HRT.out
        rw [HK.out, List.take_length, HL.out, List.take_length] at h1
        exact ⟨by rw [decide_eq_true h1]; rfl, HBW.out⟩
  · have hlen' : ¬ ((a.length : Int) = (b.length : Int)) := by omega
    have e1 : ((a.length : Int) == (b.length : Int)) = false := by simpa using hlen'
    have hne : a ≠ b := fun e => hlen (by rw [e])
    have HNE := Lib.hid hne
    clear hlen hlen' hne
    go_enter Try.func61, Try.ntmps61
    go_wp2_with fail
    go_ret
    exact ⟨by rw [decide_eq_false HNE.out]; rfl, Below.refl _ _⟩
end Go.Proofs.Ytgahjibjladafaa
