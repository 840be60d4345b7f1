/- state.New -/
import Derived.Test.YtgahjibjladafaaStE
namespace Go.Proofs.Ytgahjibjladafaa
open Go.RowKit
set_option linter.unusedVariables false

theorem Try.infoTh : (Try.prog.info? 128).map (fun i => (i.zero, i.size, i.bytes)) = some (some (.agg #[.int .i64 0, .int .i64 0, .int .i64 0, .int .i64 0]), 4, 32) := by kernel_rfl
theorem zeros_flat (n : Nat) : (List.replicate n (⟨0, 0, fun _ => 0⟩ : Th)).flatMap encT = List.replicate (n * 4) (.int .i64 0) := by
  induction n with
  | zero => rfl
  | succ n ih =>
    rw [List.replicate_succ, List.flatMap_cons, ih, Nat.succ_mul]
    rfl
theorem made_zeros (n : Nat) : madeCells #[Value.int .i64 0, .int .i64 0, .int .i64 0, .int .i64 0] n = (List.replicate n (.int .i64 0)).toArray := by
  unfold madeCells
  refine Array.ext (by simp) fun i h1 h2 => ?_
  simp only [Array.getElem_map, Array.getElem_range, List.getElem_toArray, List.getElem_replicate]
  rcases (show i % 4 = 0 ∨ i % 4 = 1 ∨ i % 4 = 2 ∨ i % 4 = 3 by omega) with h | h | h | h <;> (simp only [List.size_toArray, List.length_cons, List.length_nil]; rw [show 0 + 1 + 1 + 1 + 1 = 4 from rfl, h]; rfl)
theorem threads_row (w : World) (n : Nat) (hn : n ≤ 4) : Row (w.alloc (.cells (madeCells #[Value.int .i64 0, .int .i64 0, .int .i64 0, .int .i64 0] (n * 4)) 128)) 128 4 (some ⟨w.heap.size, 0, none⟩) n n ((List.replicate n (⟨0, 0, fun _ => 0⟩ : Th)).flatMap encT) := by
  refine ⟨by rw [zeros_flat]; simp, Nat.le_refl _, by unfold maxLen; omega, fun h => (by cases h), fun a ha => ?_⟩
  injection ha with ha
  subst ha
  refine ⟨rfl, _, heap_alloc_new w _, by simp [size_madeCells], ?_⟩
  rw [made_zeros, zeros_flat]
  simp
theorem row_stepS {v v' : World} {e sz n cap : Nat} {A : Option Addr} {cs : List Value} (h : Row v e sz A n cap cs) (hb : Below v.heap.size v v') : Row v' e sz A n cap cs := h.mod (Mod.of_below_size hb (fun _ => False)) (fun _ _ h => h)
theorem SAt.eqv {w : World} {C : Nat → Prop} {S T : Nat} {s s' : St} (h : SAt w C S T s) (hp : s'.p = s.p) (ht : s'.th = s.th) (hv : ∀ x, x < 4 → s'.v x = s.v x) (hh : ∀ x, x < 2 → s'.h x = s.h x) : SAt w C S T s' := by
  obtain ⟨PA, pc, h1, h2⟩ := h
  refine ⟨PA, pc, ?_, by rw [ht, hp]; exact h2⟩
  rw [h1]
  unfold stCells
  rw [hp, ht, hv 0 (by omega), hv 1 (by omega), hv 2 (by omega), hv 3 (by omega), hh 0 (by omega), hh 1 (by omega)]
def thK (n i f : Nat) : List Th := (List.range n).map fun j => ⟨0, if j < i then f else 0, fun _ => 0⟩
theorem thK_len (n i f : Nat) : (thK n i f).length = n := by simp [thK]
theorem thK_zero (n f : Nat) : thK n 0 f = List.replicate n ⟨0, 0, fun _ => 0⟩ := by
  refine List.ext_getElem? fun j => ?_
  simp only [thK, List.getElem?_map, List.getElem?_replicate]
  by_cases h : j < n <;> simp [h]
theorem thK_get {n i f : Nat} (h : i < n) : (thK n i f)[i]? = some ⟨0, 0, fun _ => 0⟩ := by simp [thK, h]
theorem thK_set {n i f : Nat} (h : i < n) : (thK n i f).set i ⟨0, f, fun _ => 0⟩ = thK n (i + 1) f := by
  refine List.ext_getElem? fun j => ?_
  by_cases hj : j = i
  · subst hj
    rw [List.getElem?_set_self (by rw [thK_len]; exact h)]
    simp [thK, h]
  · rw [List.getElem?_set_ne (fun e => hj e.symm)]
    by_cases hn : j < n
    · simp only [thK, List.getElem?_map, List.getElem?_range hn, Option.map_some]
      congr 2
      by_cases hji : j < i
      · rw [if_pos hji, if_pos (by omega)]
      · rw [if_neg hji, if_neg (by omega)]
    · simp [thK, hn]
theorem thK_all (L : List (List Ins)) (f : Nat) : thK L.length L.length f = L.map (fun _ => ⟨0, f, fun _ => 0⟩) := by
  refine List.ext_getElem? fun j => ?_
  by_cases h : j < L.length <;> simp [thK, h]
theorem CdAt.bound {w : World} {C : Nat → Prop} {A : Option Addr} {L : List (List Ins)} (h : CdAt w C A L) : CdAt w (fun k => C k ∧ k < w.heap.size) A L := by
  have key : ∀ {sz n : Nat} {A : Option Addr} {cs : List Value}, RdC w C sz A n cs → RdC w (fun k => C k ∧ k < w.heap.size) sz A n cs := fun h => ⟨h.1, fun h0 => by obtain ⟨g, o, h1, hc, h2, h3⟩ := h.2 h0; exact ⟨g, o, h1, ⟨hc, h2⟩, h2, h3⟩⟩
  obtain ⟨vs, h1, h2⟩ := h
  refine ⟨vs, key h1, fun i q hi => ?_⟩
  obtain ⟨A', c', h3, h4, h5⟩ := h2 i q hi
  exact ⟨A', c', h3, key h4, h5⟩
set_option maxRecDepth 100000 in
theorem new_bad (w : World) (p : Pg) (A : Option Addr) (cap : Nat) (fuel : Int) (hcd : CdAt w (fun k => k < w.heap.size) A p.code) (hl : p.code.length ≤ maxLen) (hq : ∀ q ∈ p.code, q.length ≤ maxLen) (hbad : ¬ (Pr.Ok p ∧ 0 ≤ fuel ∧ fuel ≤ 8)) :
    Calls Try.prog 31 #[valP p A cap, .int .i64 fuel] w fun x w' => x = .returned (.tuple #[.pointer none, .int .i64 1]) ∧ Below w.heap.size w w' := by
  obtain ⟨Wa, X, hWa, hX, hBa, hXl, hXe⟩ := pg_box w p.vars p.mtx A p.code.length cap
  have hcall := pright_any Wa p A cap ((hcd.below hBa).imp (fun k hk => by have := hBa.size; omega)) hl hq
  obtain ⟨b, hb⟩ : ∃ b, b = decide (Pr.Ok p) := ⟨_, rfl⟩
  rw [← hb] at hcall
  unfold valP at hcall ⊢
  have HCALL := Lib.hid hcall
  have HB := Lib.hid hBa
  have HBB := Lib.hid hb
  have HBAD := Lib.hid hbad
  obtain ⟨x0, x1, x2, xl⟩ := hXe Wa (Below.refl _ _)
  clear hcall hBa hb hbad hcd hl hq hXe
  go_enter Try.func31, Try.ntmps31
  go_upto_region 1 with fail
  rw [← hWa, ← hX]
  clear hWa hX
  go_wp2_with fail
  refine HCALL.out.mono ?_
  rintro x w1 ⟨rfl, b1⟩
  have HB1 := Lib.hid (below_at HB.out b1)
  clear b1
  cases b with
  | false =>
    go_wp2_with fail
    go_ret2
    exact ⟨rfl, HB1.out⟩
  | true =>
    have hok : Pr.Ok p := of_decide_eq_true HBB.out.symm
    by_cases h0 : fuel < 0
    · go_wp2_with fail
      go_ret2
      exact ⟨rfl, HB1.out⟩
    · by_cases h8 : 8 < fuel
      · go_wp2_with fail
        go_ret2
        exact ⟨rfl, HB1.out⟩
      · exact (HBAD.out ⟨hok, by omega, by omega⟩).elim
set_option maxRecDepth 100000 in
set_option maxHeartbeats 4000000 in
theorem new_ok (w : World) (p : Pg) (A : Option Addr) (cap : Nat) (f : Nat) (hcd : CdAt w (fun k => k < w.heap.size) A p.code) (hok : Pr.Ok p) (hf : f ≤ 8) :
    Calls Try.prog 31 #[valP p A cap, .int .i64 (f : Int)] w fun x w' => ∃ (S T : Nat) (C : Nat → Prop), x = .returned (.tuple #[.pointer (some ⟨S, 0, none⟩), .int .i64 0]) ∧ SAt w' C S T (Pr.start p f) ∧ w.heap.size ≤ S ∧ w.heap.size ≤ T ∧ (∀ k, C k → w.heap.size ≤ k) ∧ Below w.heap.size w w' := by
  obtain ⟨pv, pm, L⟩ := p
  have hl1 := hok.1.2.2.2.2.1
  have hl4 := hok.1.2.2.2.2.2
  have hq8 : ∀ q ∈ L, q.length ≤ 8 := fun q hq => (hok.2 q hq).1
  simp only at hl1 hl4 hcd
  obtain ⟨i0, hi0, hz0, hz1, hz2⟩ := info_parts Try.infoTh
  obtain ⟨Wa, X, hWa, hX, hBa, hXl, hXe⟩ := pg_box w pv pm A L.length cap
  have hcdA : CdAt Wa (fun k => k < w.heap.size) A L := hcd.below hBa
  have hcall := pright_any Wa ⟨pv, pm, L⟩ A cap (hcdA.imp (fun k hk => by have := hBa.size; omega)) (by unfold maxLen; simp only; omega) (fun q hq => by unfold maxLen; have := hq8 q hq; omega)
  rw [decide_eq_true hok] at hcall
  have hcp : ∀ u, Below Wa.heap.size Wa u → Calls Try.prog 76 #[valP ⟨pv, pm, L⟩ A cap] u fun x w' => ∃ A' cap', x = .returned (valP ⟨pv, pm, L⟩ A' cap') ∧ CdAt w' (fun k => u.heap.size ≤ k) A' L ∧ L.length ≤ cap' ∧ cap' ≤ maxLen ∧ Below u.heap.size u w' := fun u hu =>
    copy_any u ⟨pv, pm, L⟩ A cap ((hcdA.below hu).imp (fun k hk => by have := hBa.size; have := hu.size; omega)) hl1 hl4 hq8
  unfold valP at hcall hcp ⊢
  simp only at hcall hcp ⊢
  have hmk : ∀ u, _ := fun u => run_make (P := Try.prog) u 121 128 i0 (.agg #[.int .i64 0, .int .i64 0, .int .i64 0, .int .i64 0]) Try.underlying121 hi0 hz0 .i64 .i64 (L.length : Int) (L.length : Int) (by omega) (Int.le_refl _) (by rw [hz2]; omega) (by omega)
  simp only [Int.toNat_natCast, hz1, Value.cells] at hmk
  have HCALL := Lib.hid hcall
  have HCP := Lib.hid hcp
  have HAS := Lib.hid hBa.size
  have HBA := Lib.hid hBa
  have HXE := Lib.hid hXe
  have HOK := Lib.hid hok
  obtain ⟨x0, x1, x2, xl⟩ := hXe Wa (Below.refl _ _)
  clear hcall hcp hBa hcd hcdA hXe hok hq8 hi0 hz0 hz1 hz2
  go_enter Try.func31, Try.ntmps31
  go_upto_region 1 with fail
  rw [← hWa, ← hX]
  clear hWa hX
  go_wp2_with fail
  refine HCALL.out.mono ?_
  rintro x w1 ⟨rfl, b1⟩
  have HB1 := Lib.hid b1
  clear b1 x0 x1 x2 HCALL
  have n0 : ¬ (f : Int) < 0 := by omega
  have n8 : ¬ (8 : Int) < (f : Int) := by omega
  go_upto_region 3 with fail
  go_cut [6] (fun v6 w2 => ∃ (S T : Nat) (C : Nat → Prop), v6 = .pointer (some ⟨S, 0, none⟩) ∧ Hid (SAt w2 C S T ⟨⟨pv, pm, L⟩, List.replicate L.length ⟨0, 0, fun _ => 0⟩, fun _ => 0, fun _ => 0⟩) ∧ Hid (Wa.heap.size ≤ S ∧ Wa.heap.size ≤ T ∧ ∀ k, C k → Wa.heap.size ≤ k) ∧ Hid (Below Wa.heap.size Wa w2))
  case first =>
    refine wp_region_pt (by kernel_rfl) (fun u => u.cell? ⟨X, 0, none⟩ = some (.int .i64 pv) ∧ u.cell? ⟨X, 1, none⟩ = some (.int .i64 pm) ∧ u.cell? ⟨X, 2, none⟩ = some (.slice A L.length cap) ∧ X < u.heap.size) [] (.cons 0 .load (.cons 2 .pure (.cons 3 .load (.cons 4 .pure (.fork 1 (.cons 5 .eff (.cons 6 .pure (.cons 7 .eff (.cons 8 .pure .nil)))) 5 (.cons 1 .eff (.cons 6 .pure (.cons 7 .eff (.cons 8 .pure .nil))))))))) (by simp only [PT.map, List.getElem?_toArray, List.getElem?_cons_succ, List.getElem?_cons_zero]; rfl) (by kernel_rfl) (fun _ _ d _ _ h => by cases d <;> exact h) ((HXE.out _ HB1.out.drew)) ?_
    have HB := Lib.hid HB1.out.drew
    obtain ⟨v, hv⟩ : ∃ v, v = w1.drew := ⟨_, rfl⟩
    rw [← hv] at HB ⊢
    clear hv HB1
    repeat (first
      | (refine pt_pure (v := ?_) (by rfl) (fun w1 => ?_) ?_
         rotate_left
         · go_simp <;> with_reducible rfl
         simp only [Act.put, List.setIfInBounds_toArray, List.set_cons_zero, List.set_cons_succ])
      | (refine pt_off (by rfl) ?_
         simp only [Act.put, List.setIfInBounds_toArray, List.set_cons_zero, List.set_cons_succ])
      | (refine pt_load_off (by rfl) ?_
         simp only [Act.put, List.setIfInBounds_toArray, List.set_cons_zero, List.set_cons_succ])
      | (refine pt_load (v := ?_) (by rfl) (fun w1 hw1 => ?_) ?_
         rotate_left
         · (have q := hw1
            obtain ⟨x0, x1, x2, xl⟩ := q
            clear hw1
            go_simp <;> with_reducible rfl)
         simp only [Act.put, List.setIfInBounds_toArray, List.set_cons_zero, List.set_cons_succ]))
    refine pt_fork ?_ ?_
    · go_wp2_with fail
      refine (HCP.out v HB.out).mono ?_
      rintro x u ⟨PA, pc, rfl, hcd, hp1, hp2, hb⟩
      obtain ⟨B1, hB1⟩ : ∃ B1, B1 = v.heap.size := ⟨_, rfl⟩
      obtain ⟨E1, hE1⟩ : ∃ E1, E1 = u.heap.size := ⟨_, rfl⟩
      rw [← hB1] at hcd
      have HCD := Lib.hid hcd.bound
      rw [← hE1] at HCD
      have HE1 := Lib.hid (Nat.le_of_eq hE1)
      have HBB1 := Lib.hid (show Wa.heap.size ≤ B1 by have h3 := HB.out.size; have h4 := HAS.out; omega)
      (try have HTC := Lib.hid (show T < B1 ∨ E1 ≤ T from Or.inl (by have := HTR.out.lt; simp only at this; omega)))
      (try have HTR := Lib.hid (row_stepS HTR.out hb))
      have HB := Lib.hid (below_at HB.out hb)
      have HPC := Lib.hid (And.intro hp1 hp2)
      clear hcd hp1 hp2 hb hB1 hE1
      go_wp2_with fail
      rename World => v
      refine pt_on (fun u h => h) (HXE.out _ HB.out) ?_
      refine pt_eff ?_
      go_wp2_with fail
      obtain ⟨T, hT⟩ : ∃ T, T = v.heap.size := ⟨_, rfl⟩
      obtain ⟨u, hu⟩ : ∃ u, u = v.alloc (Obj.cells (madeCells #[Value.int .i64 0, .int .i64 0, .int .i64 0, .int .i64 0] (L.length * 4)) 128) := ⟨_, rfl⟩
      rw [← hu, ← hT]
      have hb : Below v.heap.size v u := by rw [hu]; exact (Below.refl _ _).alloc (Nat.le_refl _) _
      have HTR : Hid (Row u 128 4 (some ⟨T, 0, none⟩) L.length L.length ((List.replicate L.length (⟨0, 0, fun _ => 0⟩ : Th)).flatMap encT)) := Lib.hid (by rw [hu, hT]; exact threads_row v L.length (by omega))
      have HTW := Lib.hid (show Wa.heap.size ≤ T by have h3 := HB.out.size; have h4 := HAS.out; omega)
      (try have HTC := Lib.hid (show T < B1 ∨ E1 ≤ T from Or.inr (by have := HE1.out; omega)))
      (try have HCD := Lib.hid (HCD.out.below hb))
      (try have HE1 := Lib.hid (Nat.le_trans HE1.out hb.size))
      have HB := Lib.hid (below_at HB.out hb)
      clear hb hu hT
      rename World => v
      refine pt_on (fun u h => h) (HXE.out _ HB.out) ?_
      repeat (first
        | (refine pt_pure (v := ?_) (by rfl) (fun w1 => ?_) ?_
           rotate_left
           · go_simp <;> with_reducible rfl
           simp only [Act.put, List.setIfInBounds_toArray, List.set_cons_zero, List.set_cons_succ])
        | (refine pt_off (by rfl) ?_
           simp only [Act.put, List.setIfInBounds_toArray, List.set_cons_zero, List.set_cons_succ])
        | (refine pt_load_off (by rfl) ?_
           simp only [Act.put, List.setIfInBounds_toArray, List.set_cons_zero, List.set_cons_succ])
        | (refine pt_load (v := ?_) (by rfl) (fun w1 hw1 => ?_) ?_
           rotate_left
           · (have q := hw1
              obtain ⟨x0, x1, x2, xl⟩ := q
              clear hw1
              go_simp <;> with_reducible rfl)
           simp only [Act.put, List.setIfInBounds_toArray, List.set_cons_zero, List.set_cons_succ]))
      refine pt_eff ?_
      go_wp2_with fail
      obtain ⟨S, hS⟩ : ∃ S, S = v.heap.size := ⟨_, rfl⟩
      obtain ⟨u, hu⟩ : ∃ u, u = v.alloc (Obj.cells (stCells ⟨⟨pv, pm, L⟩, List.replicate L.length ⟨0, 0, fun _ => 0⟩, fun _ => 0, fun _ => 0⟩ PA pc T) 125) := ⟨_, rfl⟩
      have hu' := hu
      simp only [stCells, List.length_replicate] at hu'
      rw [← hu', ← hS]
      clear hu'
      have hb : Below v.heap.size v u := by rw [hu]; exact (Below.refl _ _).alloc (Nat.le_refl _) _
      have HSA : Hid (SAt u (fun k => B1 ≤ k ∧ k < E1) S T ⟨⟨pv, pm, L⟩, List.replicate L.length ⟨0, 0, fun _ => 0⟩, fun _ => 0, fun _ => 0⟩) := Lib.hid ⟨PA, pc, by rw [hu, hS]; exact heap_alloc_new v _, by rw [List.length_replicate]; exact row_stepS HTR.out hb, (HCD.out.below hb).imp (fun k hk => hk), fun hk => by have := HE1.out; omega, fun hk => by have := HTC.out; omega, by have := HTR.out.lt; simp only at this; omega, by simp⟩
      have HB := Lib.hid (below_at HB.out hb)
      have HSW := Lib.hid (show Wa.heap.size ≤ S by have h3 := HTW.out; have := HTR.out.lt; simp only at this; omega)
      clear hb hu hS
      rename World => v
      refine pt_on (fun u h => h) (HXE.out _ HB.out) ?_
      repeat (first
        | (refine pt_pure (v := ?_) (by rfl) (fun w1 => ?_) ?_
           rotate_left
           · go_simp <;> with_reducible rfl
           simp only [Act.put, List.setIfInBounds_toArray, List.set_cons_zero, List.set_cons_succ])
        | (refine pt_off (by rfl) ?_
           simp only [Act.put, List.setIfInBounds_toArray, List.set_cons_zero, List.set_cons_succ])
        | (refine pt_load_off (by rfl) ?_
           simp only [Act.put, List.setIfInBounds_toArray, List.set_cons_zero, List.set_cons_succ])
        | (refine pt_load (v := ?_) (by rfl) (fun w1 hw1 => ?_) ?_
           rotate_left
           · (have q := hw1
              obtain ⟨x0, x1, x2, xl⟩ := q
              clear hw1
              go_simp <;> with_reducible rfl)
           simp only [Act.put, List.setIfInBounds_toArray, List.set_cons_zero, List.set_cons_succ]))
      refine pt_end ?_
      go_wp2_with fail
      go_meet
      exact ⟨S, T, _, rfl, HSA, Lib.hid ⟨HSW.out, HTW.out, fun k hk => by have := HBB1.out; omega⟩, HB⟩
    · go_wp2_with fail
      obtain ⟨T, hT⟩ : ∃ T, T = v.heap.size := ⟨_, rfl⟩
      obtain ⟨u, hu⟩ : ∃ u, u = v.alloc (Obj.cells (madeCells #[Value.int .i64 0, .int .i64 0, .int .i64 0, .int .i64 0] (L.length * 4)) 128) := ⟨_, rfl⟩
      rw [← hu, ← hT]
      have hb : Below v.heap.size v u := by rw [hu]; exact (Below.refl _ _).alloc (Nat.le_refl _) _
      have HTR : Hid (Row u 128 4 (some ⟨T, 0, none⟩) L.length L.length ((List.replicate L.length (⟨0, 0, fun _ => 0⟩ : Th)).flatMap encT)) := Lib.hid (by rw [hu, hT]; exact threads_row v L.length (by omega))
      have HTW := Lib.hid (show Wa.heap.size ≤ T by have h3 := HB.out.size; have h4 := HAS.out; omega)
      (try have HTC := Lib.hid (show T < B1 ∨ E1 ≤ T from Or.inr (by have := HE1.out; omega)))
      (try have HCD := Lib.hid (HCD.out.below hb))
      (try have HE1 := Lib.hid (Nat.le_trans HE1.out hb.size))
      have HB := Lib.hid (below_at HB.out hb)
      clear hb hu hT
      rename World => v
      refine pt_on (fun u h => h) (HXE.out _ HB.out) ?_
      refine pt_eff ?_
      go_wp2_with fail
      refine (HCP.out v HB.out).mono ?_
      rintro x u ⟨PA, pc, rfl, hcd, hp1, hp2, hb⟩
      obtain ⟨B1, hB1⟩ : ∃ B1, B1 = v.heap.size := ⟨_, rfl⟩
      obtain ⟨E1, hE1⟩ : ∃ E1, E1 = u.heap.size := ⟨_, rfl⟩
      rw [← hB1] at hcd
      have HCD := Lib.hid hcd.bound
      rw [← hE1] at HCD
      have HE1 := Lib.hid (Nat.le_of_eq hE1)
      have HBB1 := Lib.hid (show Wa.heap.size ≤ B1 by have h3 := HB.out.size; have h4 := HAS.out; omega)
      (try have HTC := Lib.hid (show T < B1 ∨ E1 ≤ T from Or.inl (by have := HTR.out.lt; simp only at this; omega)))
      (try have HTR := Lib.hid (row_stepS HTR.out hb))
      have HB := Lib.hid (below_at HB.out hb)
      have HPC := Lib.hid (And.intro hp1 hp2)
      clear hcd hp1 hp2 hb hB1 hE1
      go_wp2_with fail
      rename World => v
      refine pt_on (fun u h => h) (HXE.out _ HB.out) ?_
      repeat (first
        | (refine pt_pure (v := ?_) (by rfl) (fun w1 => ?_) ?_
           rotate_left
           · go_simp <;> with_reducible rfl
           simp only [Act.put, List.setIfInBounds_toArray, List.set_cons_zero, List.set_cons_succ])
        | (refine pt_off (by rfl) ?_
           simp only [Act.put, List.setIfInBounds_toArray, List.set_cons_zero, List.set_cons_succ])
        | (refine pt_load_off (by rfl) ?_
           simp only [Act.put, List.setIfInBounds_toArray, List.set_cons_zero, List.set_cons_succ])
        | (refine pt_load (v := ?_) (by rfl) (fun w1 hw1 => ?_) ?_
           rotate_left
           · (have q := hw1
              obtain ⟨x0, x1, x2, xl⟩ := q
              clear hw1
              go_simp <;> with_reducible rfl)
           simp only [Act.put, List.setIfInBounds_toArray, List.set_cons_zero, List.set_cons_succ]))
      refine pt_eff ?_
      go_wp2_with fail
      obtain ⟨S, hS⟩ : ∃ S, S = v.heap.size := ⟨_, rfl⟩
      obtain ⟨u, hu⟩ : ∃ u, u = v.alloc (Obj.cells (stCells ⟨⟨pv, pm, L⟩, List.replicate L.length ⟨0, 0, fun _ => 0⟩, fun _ => 0, fun _ => 0⟩ PA pc T) 125) := ⟨_, rfl⟩
      have hu' := hu
      simp only [stCells, List.length_replicate] at hu'
      rw [← hu', ← hS]
      clear hu'
      have hb : Below v.heap.size v u := by rw [hu]; exact (Below.refl _ _).alloc (Nat.le_refl _) _
      have HSA : Hid (SAt u (fun k => B1 ≤ k ∧ k < E1) S T ⟨⟨pv, pm, L⟩, List.replicate L.length ⟨0, 0, fun _ => 0⟩, fun _ => 0, fun _ => 0⟩) := Lib.hid ⟨PA, pc, by rw [hu, hS]; exact heap_alloc_new v _, by rw [List.length_replicate]; exact row_stepS HTR.out hb, (HCD.out.below hb).imp (fun k hk => hk), fun hk => by have := HE1.out; omega, fun hk => by have := HTC.out; omega, by have := HTR.out.lt; simp only at this; omega, by simp⟩
      have HB := Lib.hid (below_at HB.out hb)
      have HSW := Lib.hid (show Wa.heap.size ≤ S by have h3 := HTW.out; have := HTR.out.lt; simp only at this; omega)
      clear hb hu hS
      rename World => v
      refine pt_on (fun u h => h) (HXE.out _ HB.out) ?_
      repeat (first
        | (refine pt_pure (v := ?_) (by rfl) (fun w1 => ?_) ?_
           rotate_left
           · go_simp <;> with_reducible rfl
           simp only [Act.put, List.setIfInBounds_toArray, List.set_cons_zero, List.set_cons_succ])
        | (refine pt_off (by rfl) ?_
           simp only [Act.put, List.setIfInBounds_toArray, List.set_cons_zero, List.set_cons_succ])
        | (refine pt_load_off (by rfl) ?_
           simp only [Act.put, List.setIfInBounds_toArray, List.set_cons_zero, List.set_cons_succ])
        | (refine pt_load (v := ?_) (by rfl) (fun w1 hw1 => ?_) ?_
           rotate_left
           · (have q := hw1
              obtain ⟨x0, x1, x2, xl⟩ := q
              clear hw1
              go_simp <;> with_reducible rfl)
           simp only [Act.put, List.setIfInBounds_toArray, List.set_cons_zero, List.set_cons_succ]))
      refine pt_end ?_
      go_wp2_with fail
      go_meet
      exact ⟨S, T, _, rfl, HSA, Lib.hid ⟨HSW.out, HTW.out, fun k hk => by have := HBB1.out; omega⟩, HB⟩
  case rest =>
    obtain ⟨S, T, C, rfl, HSA, HW, HB⟩ := hcut
    clear HB1 HOK
    obtain ⟨PA, pc, z0, z1, z2, z3, zv, zh, zc⟩ := HSA.out.cells
    have sl := HSA.out.lt.1
    simp only [List.length_replicate] at z3
    clear z0 z1 z2 zv zh zc
    go_wp2_with fail
    go_loopw [33] (fun x wr => ∃ (i : Nat), i ≤ L.length ∧ x = .int .i64 i ∧ Hid (SAt wr C S T ⟨⟨pv, pm, L⟩, thK L.length i f, fun _ => 0, fun _ => 0⟩) ∧ Hid (Below Wa.heap.size Wa wr)) (fun x _ => L.length - (intOf x).toNat)
    case atStart => exact ⟨0, Nat.zero_le _, rfl, Lib.hid (by rw [thK_zero]; exact HSA.out), HB⟩
    case round =>
      clear HSA HB z3 sl
      obtain ⟨i, hi, rfl, HSA, HB⟩ := hrel
      by_cases hlt : i < L.length
      · obtain ⟨PA', pc', z0, z1, z2, z3, zv, zh, zc⟩ := HSA.out.cells
        have sl := HSA.out.lt.1
        have tl := HSA.out.lt.2
        simp only [thK_len] at z3
        obtain ⟨t0, t1, tr⟩ := HSA.out.thread i _ (thK_get hlt)
        have tf := HSA.out.free.2 (i * 4 + 1)
        obtain ⟨hs, hm⟩ := HSA.out.set_th (thK_get hlt) 1 (by omega) (.int .i64 (f : Nat)) (y := ⟨0, f, fun _ => 0⟩) rfl
        simp only [thK_set hlt] at hs
        have k1 : (0 : Int) ≤ (i : Int) := Int.natCast_nonneg _
        have k2 : (i : Int) < (L.length : Int) := by omega
        have HS := Lib.hid hs
        have HMM := Lib.hid hm
        clear z0 z1 z2 zv zh zc tr t0 hs hm
        go_wp2_with fail
        go_roundw
        case rel => exact ⟨i + 1, by omega, by go_num, HS, Lib.hid (HB.out.trans (HMM.out.below _ HB.out.size (fun k hk e => by have := HW.out.2.1; omega)))⟩
        case measure => simp [intOf]; omega
      · obtain rfl : i = L.length := by omega
        have hall := HSA.out
        rw [thK_all] at hall
        have HSA2 : Hid (SAt wr C S T ⟨⟨pv, pm, L⟩, L.map (fun _ => ⟨0, f, fun _ => 0⟩), fun _ => 0, fun k => if k < 0 then -1 else 0⟩) := Lib.hid (hall.eqv rfl rfl (fun _ _ => rfl) (fun _ _ => rfl))
        clear hall HSA
        go_wp2_with fail
        go_loopw [45] (fun x wr => ∃ (i : Nat), i ≤ 2 ∧ x = .int .i64 i ∧ Hid (SAt wr C S T ⟨⟨pv, pm, L⟩, L.map (fun _ => ⟨0, f, fun _ => 0⟩), fun _ => 0, fun k => if k < i then -1 else 0⟩) ∧ Hid (Below Wa.heap.size Wa wr)) (fun x _ => 2 - (intOf x).toNat)
        case atStart => exact ⟨0, by omega, rfl, HSA2, HB⟩
        case round =>
          clear HSA2 HB
          obtain ⟨i, hi, rfl, HSA, HB⟩ := hrel
          by_cases hlt : i < 2
          · have sl := HSA.out.lt.1
            obtain ⟨PA', pc', z0, z1, z2, z3, zv, zh, zc⟩ := HSA.out.cells
            have hh := zh i hlt
            have sf := HSA.out.free.1 (8 + i)
            obtain ⟨hs, hm⟩ := HSA.out.set_h hlt (-1)
            have k1 : (0 : Int) ≤ (i : Int) := Int.natCast_nonneg _
            have k2 : (i : Int) < 2 := by omega
            have HS := Lib.hid hs
            have HMM := Lib.hid hm
            clear z0 z1 z2 z3 zv zh zc hs hm
            go_wp2_with fail
            go_roundw
            case rel => exact ⟨i + 1, by omega, by go_num, Lib.hid (HS.out.eqv rfl rfl (fun _ _ => rfl) (fun x hx => by
              simp only [updI]
              by_cases hxi : x = i
              · rw [if_pos hxi, if_pos (by omega)]
              · rw [if_neg hxi]
                by_cases h2 : x < i
                · rw [if_pos h2, if_pos (by omega)]
                · rw [if_neg h2, if_neg (by omega)])), Lib.hid (HB.out.trans (HMM.out.below _ HB.out.size (fun k hk e => by have := HW.out.1; omega)))⟩
            case measure => simp [intOf]; omega
          · have hi2 : i = 2 := by omega
            have HI := Lib.hid hi2
            clear hi2
            go_wp2_with fail
            go_ret2
            exact ⟨S, rfl, T, C, HSA.out.eqv rfl rfl (fun _ _ => rfl) (fun x hx => by show (-1 : Int) = if x < i then -1 else 0; rw [if_pos (by have := HI.out; omega)]), by have := HW.out.1; have := HAS.out; omega, by have := HW.out.2.1; have := HAS.out; omega, fun k hk => by have := HW.out.2.2 k hk; have := HAS.out; omega, below_at HBA.out HB.out⟩
end Go.Proofs.Ytgahjibjladafaa
