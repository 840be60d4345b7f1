/- Part 5 of the proof of leastTells_holds: what it rests on. -/
import Derived.Test.YtckdofjpoajblaaGreatZk4
namespace Go.Proofs.YtckdofjpoajblaaGreat
open Go.RowKit
set_option linter.unusedVariables false
namespace Pr
def deed (s : St) (t : Nat) (x : Th) (i : Ins) : St :=
  if i.k = 1 then regs s t x i.r.toNat (s.v i.x.toNat) else if i.k = 2 then { s with v := updI s.v i.x.toNat (x.r i.r.toNat) }
  else if i.k = 3 then regs s t x i.r.toNat i.n else if i.k = 4 then regs s t x i.r.toNat (wrap64 (x.r i.r.toNat + i.n))
  else if i.k = 5 then { s with h := updI s.h i.x.toNat (t : Int) } else if i.k = 6 then (if s.h i.x.toNat = (t : Int) then { s with h := updI s.h i.x.toNat (-1) } else s)
  else if i.k = 7 then (if x.r i.r.toNat = 0 then s else { s with th := s.th.set t { x with pc := i.x.toNat } }) else s
def tick (x : Th) : Th := ⟨x.pc + 1, x.fuel - 1, x.r⟩
def doI (s : St) (t : Nat) (i : Ins) : St :=
  match s.th[t]? with
  | some x => deed { s with th := s.th.set t (tick x) } t (tick x) i
  | none => s
theorem deed1 (s : St) (t : Nat) (x : Th) (q m : Nat) (n : Int) : deed s t x ⟨1, (q : Int), (m : Int), n⟩ = regs s t x q (s.v m) := rfl
theorem deed2 (s : St) (t : Nat) (x : Th) (q m : Nat) (n : Int) : deed s t x ⟨2, (q : Int), (m : Int), n⟩ = { s with v := updI s.v m (x.r q) } := rfl
theorem deed3 (s : St) (t : Nat) (x : Th) (q m : Nat) (n : Int) : deed s t x ⟨3, (q : Int), (m : Int), n⟩ = regs s t x q n := rfl
theorem deed4 (s : St) (t : Nat) (x : Th) (q m : Nat) (n : Int) : deed s t x ⟨4, (q : Int), (m : Int), n⟩ = regs s t x q (wrap64 (x.r q + n)) := rfl
theorem deed5 (s : St) (t : Nat) (x : Th) (q m : Nat) (n : Int) : deed s t x ⟨5, (q : Int), (m : Int), n⟩ = { s with h := updI s.h m (t : Int) } := rfl
theorem deed6 (s : St) (t : Nat) (x : Th) (q m : Nat) (n : Int) : deed s t x ⟨6, (q : Int), (m : Int), n⟩ = (if s.h m = (t : Int) then { s with h := updI s.h m (-1) } else s) := rfl
theorem deed7 (s : St) (t : Nat) (x : Th) (q m : Nat) (n : Int) : deed s t x ⟨7, (q : Int), (m : Int), n⟩ = (if x.r q = 0 then s else { s with th := s.th.set t { x with pc := m } }) := rfl
theorem deed8 (s : St) (t : Nat) (x : Th) (q m : Nat) (n : Int) : deed s t x ⟨8, (q : Int), (m : Int), n⟩ = s := rfl
end Pr
set_option maxRecDepth 100000 in
set_option maxHeartbeats 4000000 in
theorem do_any (w : World) (C : Nat → Prop) (S T : Nat) (s : St) (t : Nat) (i : Ins) (h : SAt w C S T s) (hw : Pr.Wf s) (hi : Pr.ins s t = some i) :
    Calls Tryz.prog 71 #[.pointer (some ⟨S, 0, none⟩), .int .i64 (t : Int), valI i] w fun y w' => y = .returned (.tuple #[]) ∧ SAt w' C S T (Pr.doI s t i) ∧ Mod (fun k => k = S ∨ k = T) w w' := by
  obtain ⟨nI, hn0, hn8, hok⟩ := hw.insOk hi
  obtain ⟨x, hx, hfu⟩ : ∃ x, s.th[t]? = some x ∧ x.fuel ≠ 0 := by
    unfold Pr.ins at hi
    split at hi
    · rename_i x c hx hc
      split at hi
      · cases hi
      · exact ⟨x, hx, by assumption⟩
    · cases hi
  obtain ⟨hf8, hp8⟩ := hw.bnd t x hx
  obtain ⟨f, hf⟩ : ∃ f, x.fuel = f + 1 := ⟨x.fuel - 1, by omega⟩
  have hdo : Pr.doI s t i = Pr.deed { s with th := s.th.set t ⟨x.pc + 1, f, x.r⟩ } t ⟨x.pc + 1, f, x.r⟩ i := by
    unfold Pr.doI
    rw [hx]
    simp only [Pr.tick, hf, Nat.add_sub_cancel]
  obtain ⟨s9, hs9⟩ : ∃ s9, s9 = Pr.doI s t i := ⟨_, rfl⟩
  rw [← hs9] at hdo ⊢
  have hv4 := hw.ok.1.2.1
  have hm2 := hw.ok.1.2.2.2.1
  obtain ⟨k, r, ix, n⟩ := i
  have hk1 := hok.1
  have hk8 := hok.2.1
  have hr0 := hok.2.2.2.2.2.2.1
  have hr1 := hok.2.2.2.2.2.2.2.1
  have hx0 := hok.2.2.2.2.2.1
  simp only at hk1 hk8 hr0 hr1 hx0
  obtain ⟨q, rfl⟩ : ∃ q : Nat, r = q := ⟨r.toNat, by omega⟩
  obtain ⟨m, rfl⟩ : ∃ m : Nat, ix = m := ⟨ix.toNat, by omega⟩
  have hq2 : q < 2 := by omega
  have hmv : k = 1 ∨ k = 2 → m < 4 := fun hk => by have := hok.2.2.2.2.2.2.2.2.2.1 hk; simp only at this; omega
  have hmm : k = 5 ∨ k = 6 → m < 2 := fun hk => by have := hok.2.2.2.2.2.2.2.2.2.2.1 hk; simp only at this; omega
  have hm0 : k = 3 ∨ k = 4 ∨ k = 8 → m = 0 := fun hk => by have := hok.2.2.2.2.2.2.2.2.2.2.2.2 hk; simp only at this; omega
  have hmj : m < 9 := by
    rcases (show k = 1 ∨ k = 2 ∨ k = 3 ∨ k = 4 ∨ k = 5 ∨ k = 6 ∨ k = 7 ∨ k = 8 by omega) with hk | hk | hk | hk | hk | hk | hk | hk
    · have := hmv (.inl hk); omega
    · have := hmv (.inr hk); omega
    · have := hok.2.2.2.2.2.2.2.2.2.2.2.2 (.inl hk); simp only at this; omega
    · have := hok.2.2.2.2.2.2.2.2.2.2.2.2 (.inr (.inl hk)); simp only at this; omega
    · have := hmm (.inl hk); omega
    · have := hmm (.inr hk); omega
    · have := hok.2.2.2.2.2.2.2.2.2.2.2.1 hk; simp only at this; omega
    · have := hok.2.2.2.2.2.2.2.2.2.2.2.2 (.inr (.inr hk)); simp only at this; omega
  obtain ⟨Wz, Z, hWz, hZ, hBz, hZl, hZe⟩ := ins_box w ⟨k, (q : Int), (m : Int), n⟩
  obtain ⟨nn, hnn⟩ : ∃ n, n = s.th.length := ⟨_, rfl⟩
  have htn : t < nn := by rw [hnn]; exact (List.getElem?_eq_some_iff.1 hx).1
  have hl4 : nn ≤ 4 := by rw [hnn]; exact hw.n4
  have HZE := Lib.hid hZe
  have HS := Lib.hid (h.below hBz)
  have HB := Lib.hid hBz
  have HX := Lib.hid hx
  have HTN := Lib.hid hnn.symm
  have HDO := Lib.hid hdo
  have HMV := Lib.hid hmv
  have HMM := Lib.hid hmm
  have HM0 := Lib.hid hm0
  have HF := Lib.hid hf
  have hf7 : f ≤ 7 := by omega
  have HTW := Lib.hid h.lt
  have HZW := Lib.hid (Nat.le_of_eq hZ.symm)
  have HZL := Lib.hid hZl
  have k3 : (0 : Int) ≤ (t : Int) := Int.natCast_nonneg _
  have k4 : (t : Int) < (nn : Int) := by omega
  simp only at hWz
  unfold valI
  simp only
  clear hZe hBz h hx hnn hZl hi hw hfu hdo hs9 hmv hmm hm0 hf hok hv4 hm2 hn0 hn8
  go_enter Tryz.func71, Tryz.ntmps71
  go_upto_region 1 with fail
  rw [← hWz, ← hZ]
  clear hWz hZ
  go_upto_region 2 with fail
  obtain ⟨D, hD⟩ : ∃ D, D = Wz.heap.size := ⟨_, rfl⟩
  obtain ⟨W2, hW2⟩ : ∃ W2, W2 = Wz.alloc (Obj.cells #[.nilFunc, .func (.func 112) #[] #[], .func (.func 113) #[] #[], .func (.func 114) #[] #[], .func (.func 115) #[] #[], .func (.func 116) #[] #[], .func (.func 117) #[] #[], .func (.func 118) #[] #[], .func (.func 119) #[] #[]] 191) := ⟨_, rfl⟩
  rw [← hW2, ← hD]
  have hb2 : Below Wz.heap.size Wz W2 := by rw [hW2]; exact (Below.refl _ _).alloc (Nat.le_refl _) _
  have hDk : W2.heap[D]? = some (.cells #[.nilFunc, .func (.func 112) #[] #[], .func (.func 113) #[] #[], .func (.func 114) #[] #[], .func (.func 115) #[] #[], .func (.func 116) #[] #[], .func (.func 117) #[] #[], .func (.func 118) #[] #[], .func (.func 119) #[] #[]] 191 (0, 0)) := by rw [hW2, hD]; exact heap_alloc_new Wz _
  have HDK := Lib.hid hDk
  have HB2 := Lib.hid hb2
  have hS2 := HS.out.below hb2
  have HS2 := Lib.hid hS2
  have HDW := Lib.hid (Nat.le_of_eq hD.symm)
  clear hD hW2 hb2 hDk hS2 HS
  obtain ⟨PA, pc, tc, _, _, _, z3, _, _, _⟩ := HS2.out.cells
  rw [HTN.out] at z3
  obtain ⟨t0, t1, _⟩ := HS2.out.thread t x HX.out
  rw [HF.out] at t1
  have sl := HS2.out.lt.1
  have tl := HS2.out.lt.2
  have f1 := HS2.out.free.2 (t * 4 + 1)
  obtain ⟨hs3, hm3⟩ := HS2.out.set_fuel HX.out f
  have HS3 := Lib.hid hs3
  have HM3 := Lib.hid hm3
  clear hs3 hm3
  go_upto_region 3 with fail
  have e1 : wrap64 (f : Int) = (f : Int) := IntWalk.wrap64_in _ (by omega)
  try rw [e1]
  obtain ⟨W3, hW3⟩ : ∃ W3, W3 = W2.setCell ⟨T, t * 4 + 1, none⟩ (.int .i64 (f : Int)) := ⟨_, rfl⟩
  rw [← hW3] at HS3 HM3 ⊢
  clear hW3 t0 t1 sl tl f1 e1 z3
  have hx3 : (s.th.set t { x with fuel := f })[t]? = some ⟨x.pc, f, x.r⟩ := by rw [List.getElem?_set_self (List.getElem?_eq_some_iff.1 HX.out).1]
  have HX3 := Lib.hid hx3
  clear hx3
  obtain ⟨PA', pc', tc', _, _, _, z3, _, _, _⟩ := HS3.out.cells
  simp only [List.length_set] at z3
  rw [HTN.out] at z3
  obtain ⟨t0, t1, _⟩ := HS3.out.thread t _ HX3.out
  have sl := HS3.out.lt.1
  have tl := HS3.out.lt.2
  have f1 := HS3.out.free.2 (t * 4)
  obtain ⟨hs4, hm4⟩ := HS3.out.set_pc HX3.out (x.pc + 1)
  simp only [List.set_set] at hs4
  rw [show ((x.pc + 1 : Nat) : Int) = (x.pc : Int) + 1 by omega] at hs4 hm4
  have HS4 := Lib.hid hs4
  have HM4 := Lib.hid hm4
  clear hs4 hm4
  go_upto_region 4 with fail
  have e1 : wrap64 ((x.pc : Int) + 1) = (x.pc : Int) + 1 := IntWalk.wrap64_in _ (by omega)
  try rw [e1]
  obtain ⟨W4, hW4⟩ : ∃ W4, W4 = W3.setCell ⟨T, t * 4, none⟩ (.int .i64 ((x.pc : Int) + 1)) := ⟨_, rfl⟩
  rw [← hW4] at HS4 HM4 ⊢
  clear hW4 t0 t1 sl tl f1 e1 z3
  have hx4 : (s.th.set t ⟨x.pc + 1, f, x.r⟩)[t]? = some ⟨x.pc + 1, f, x.r⟩ := by rw [List.getElem?_set_self (List.getElem?_eq_some_iff.1 HX.out).1]
  have hm24 : Mod (fun k => k = T) W2 W4 := HM3.out.trans HM4.out
  have hzd : ∀ u, Below W4.heap.size W4 u → (∀ j v, W2.cell? ⟨Z, j, none⟩ = some v → u.cell? ⟨Z, j, none⟩ = some v) ∧ (∀ j v, W2.cell? ⟨D, j, none⟩ = some v → u.cell? ⟨D, j, none⟩ = some v) ∧ Z < u.heap.size ∧ D < u.heap.size := fun u hu => by
    have h1 := HTW.out.2
    have h2 := HZW.out
    have h3 := HDW.out
    have h4 := HZL.out
    have h5 := HB2.out.size
    have h6 := hm24.size
    have h7 := hu.size
    have h8 := blk_lt HDK.out
    refine ⟨fun j v hv => ?_, fun j v hv => ?_, by omega, by omega⟩
    · rw [World.cell?_of_block (hu.block Z (by omega)), hm24.cell Z j (by omega) (by omega), hv]
    · rw [World.cell?_of_block (hu.block D (by omega)), hm24.cell D j (by omega) (by omega), hv]
  obtain ⟨y0, y1, y2, y3⟩ := (HZE.out W2 HB2.out).1
  simp only [Nat.zero_add] at y1 y2 y3
  have HZD := Lib.hid hzd
  have HY := Lib.hid (And.intro y0 (And.intro y1 (And.intro y2 y3)))
  have HM24 := Lib.hid hm24
  have HX4 := Lib.hid hx4
  have HL4 := Lib.hid (show (s.th.set t ⟨x.pc + 1, f, x.r⟩).length ≤ 4 by rw [List.length_set, HTN.out]; exact hl4)
  clear hzd y0 y1 y2 y3 hm24 hx4 HX3 HS3 HS2 HX k3 k4 hf8 hp8 htn hl4 hf7
  rcases (show k = 1 ∨ k = 2 ∨ k = 3 ∨ k = 4 ∨ k = 5 ∨ k = 6 ∨ k = 7 ∨ k = 8 by omega) with rfl | rfl | rfl | rfl | rfl | rfl | rfl | rfl
  · refine wp_region_planF (by kernel_rfl) (fun u => Below W4.heap.size W4 u) [7] [(0, .pure), (1, .load), (2, .pure), (3, .load), (4, .pure), (5, .pure), (6, .load), (7, .last)] (by simp only [List.map_cons, List.map_nil, List.getElem?_toArray, List.getElem?_cons_succ, List.getElem?_cons_zero]; rfl) (by kernel_rfl) (fun _ _ d _ _ h => by cases d <;> exact h) ((Below.refl _ _).drew) ?_
    obtain ⟨Wd, hWd⟩ : ∃ z, z = W4.drew := ⟨_, rfl⟩
    rw [← hWd]
    have hbd : Below W4.heap.size W4 Wd := by rw [hWd]; exact (Below.refl _ _).drew
    have HBD := Lib.hid hbd
    clear hWd hbd
    repeat (first
      | (refine plan_pure (v := ?_) (by rfl) (fun w1 => ?_) ?_
         rotate_left
         · go_simp <;> with_reducible rfl
         simp only [Act.put, List.setIfInBounds_toArray, List.set_cons_zero, List.set_cons_succ])
      | (refine plan_off (by rfl) ?_
         simp only [Act.put, List.setIfInBounds_toArray, List.set_cons_zero, List.set_cons_succ])
      | (refine plan_load_off (by rfl) ?_
         simp only [Act.put, List.setIfInBounds_toArray, List.set_cons_zero, List.set_cons_succ])
      | (refine plan_load (v := ?_) (by rfl) (fun w1 hw1 => ?_) ?_
         rotate_left
         · (have q0 := HZD.out w1 hw1
            have a0 := q0.1 _ _ HY.out.1
            have a1 := q0.1 _ _ HY.out.2.1
            have a2 := q0.1 _ _ HY.out.2.2.1
            have a3 := q0.1 _ _ HY.out.2.2.2
            have d0 := q0.2.1 1 _ (cell_blk HDK.out 1)
            have ql := q0.2.2.1
            have qd := q0.2.2.2
            clear q0
            clear hw1
            go_simp <;> with_reducible rfl)
         simp only [Act.put, List.setIfInBounds_toArray, List.set_cons_zero, List.set_cons_succ]))
    have hcall := load_any Wd C S T _ t _ 1 n q m (HS4.out.below HBD.out) HX4.out HL4.out hq2 (HMV.out (.inl rfl))
    have HCALL := Lib.hid hcall
    clear hcall
    refine plan_last ?_
    go_wp2_with fail
    refine HCALL.out.mono ?_
    rintro y w9 ⟨rfl, hsat, hmod⟩
    have HSAT := Lib.hid hsat
    have HMOD := Lib.hid hmod
    clear hsat hmod
    go_wp2_with fail
    repeat (first
      | (refine plan_pure (v := ?_) (by rfl) (fun w1 => ?_) ?_
         rotate_left
         · go_simp <;> with_reducible rfl
         simp only [Act.put, List.setIfInBounds_toArray, List.set_cons_zero, List.set_cons_succ])
      | (refine plan_off (by rfl) ?_
         simp only [Act.put, List.setIfInBounds_toArray, List.set_cons_zero, List.set_cons_succ])
      | (refine plan_load_off (by rfl) ?_
         simp only [Act.put, List.setIfInBounds_toArray, List.set_cons_zero, List.set_cons_succ])
      | (refine plan_load (v := ?_) (by rfl) (fun w1 hw1 => ?_) ?_
         rotate_left
         · (skip
            clear hw1
            go_simp <;> with_reducible rfl)
         simp only [Act.put, List.setIfInBounds_toArray, List.set_cons_zero, List.set_cons_succ]))
    refine plan_end ?_
    go_wp2_with fail
    go_end0
    exact ⟨rfl, by rw [HDO.out, Pr.deed1]; exact HSAT.out, ((((Mod.of_below_size HB.out _).trans (Mod.of_below_size HB2.out _ |>.mono (fun k _ e => e))).trans (HM24.out.mono (fun k _ e => Or.inr e))).trans (Mod.of_below_size HBD.out _)).trans HMOD.out⟩
  · refine wp_region_planF (by kernel_rfl) (fun u => Below W4.heap.size W4 u) [7] [(0, .pure), (1, .load), (2, .pure), (3, .load), (4, .pure), (5, .pure), (6, .load), (7, .last)] (by simp only [List.map_cons, List.map_nil, List.getElem?_toArray, List.getElem?_cons_succ, List.getElem?_cons_zero]; rfl) (by kernel_rfl) (fun _ _ d _ _ h => by cases d <;> exact h) ((Below.refl _ _).drew) ?_
    obtain ⟨Wd, hWd⟩ : ∃ z, z = W4.drew := ⟨_, rfl⟩
    rw [← hWd]
    have hbd : Below W4.heap.size W4 Wd := by rw [hWd]; exact (Below.refl _ _).drew
    have HBD := Lib.hid hbd
    clear hWd hbd
    repeat (first
      | (refine plan_pure (v := ?_) (by rfl) (fun w1 => ?_) ?_
         rotate_left
         · go_simp <;> with_reducible rfl
         simp only [Act.put, List.setIfInBounds_toArray, List.set_cons_zero, List.set_cons_succ])
      | (refine plan_off (by rfl) ?_
         simp only [Act.put, List.setIfInBounds_toArray, List.set_cons_zero, List.set_cons_succ])
      | (refine plan_load_off (by rfl) ?_
         simp only [Act.put, List.setIfInBounds_toArray, List.set_cons_zero, List.set_cons_succ])
      | (refine plan_load (v := ?_) (by rfl) (fun w1 hw1 => ?_) ?_
         rotate_left
         · (have q0 := HZD.out w1 hw1
            have a0 := q0.1 _ _ HY.out.1
            have a1 := q0.1 _ _ HY.out.2.1
            have a2 := q0.1 _ _ HY.out.2.2.1
            have a3 := q0.1 _ _ HY.out.2.2.2
            have d0 := q0.2.1 2 _ (cell_blk HDK.out 2)
            have ql := q0.2.2.1
            have qd := q0.2.2.2
            clear q0
            clear hw1
            go_simp <;> with_reducible rfl)
         simp only [Act.put, List.setIfInBounds_toArray, List.set_cons_zero, List.set_cons_succ]))
    have hcall := store_any Wd C S T _ t _ 2 n q m (HS4.out.below HBD.out) HX4.out HL4.out hq2 (HMV.out (.inr rfl))
    have HCALL := Lib.hid hcall
    clear hcall
    refine plan_last ?_
    go_wp2_with fail
    refine HCALL.out.mono ?_
    rintro y w9 ⟨rfl, hsat, hmod⟩
    have HSAT := Lib.hid hsat
    have HMOD := Lib.hid hmod
    clear hsat hmod
    go_wp2_with fail
    repeat (first
      | (refine plan_pure (v := ?_) (by rfl) (fun w1 => ?_) ?_
         rotate_left
         · go_simp <;> with_reducible rfl
         simp only [Act.put, List.setIfInBounds_toArray, List.set_cons_zero, List.set_cons_succ])
      | (refine plan_off (by rfl) ?_
         simp only [Act.put, List.setIfInBounds_toArray, List.set_cons_zero, List.set_cons_succ])
      | (refine plan_load_off (by rfl) ?_
         simp only [Act.put, List.setIfInBounds_toArray, List.set_cons_zero, List.set_cons_succ])
      | (refine plan_load (v := ?_) (by rfl) (fun w1 hw1 => ?_) ?_
         rotate_left
         · (skip
            clear hw1
            go_simp <;> with_reducible rfl)
         simp only [Act.put, List.setIfInBounds_toArray, List.set_cons_zero, List.set_cons_succ]))
    refine plan_end ?_
    go_wp2_with fail
    go_end0
    exact ⟨rfl, by rw [HDO.out, Pr.deed2]; exact HSAT.out, ((((Mod.of_below_size HB.out _).trans (Mod.of_below_size HB2.out _ |>.mono (fun k _ e => e))).trans (HM24.out.mono (fun k _ e => Or.inr e))).trans (Mod.of_below_size HBD.out _)).trans HMOD.out⟩
  · refine wp_region_planF (by kernel_rfl) (fun u => Below W4.heap.size W4 u) [7] [(0, .pure), (1, .load), (2, .pure), (3, .load), (4, .pure), (5, .pure), (6, .load), (7, .last)] (by simp only [List.map_cons, List.map_nil, List.getElem?_toArray, List.getElem?_cons_succ, List.getElem?_cons_zero]; rfl) (by kernel_rfl) (fun _ _ d _ _ h => by cases d <;> exact h) ((Below.refl _ _).drew) ?_
    obtain ⟨Wd, hWd⟩ : ∃ z, z = W4.drew := ⟨_, rfl⟩
    rw [← hWd]
    have hbd : Below W4.heap.size W4 Wd := by rw [hWd]; exact (Below.refl _ _).drew
    have HBD := Lib.hid hbd
    clear hWd hbd
    repeat (first
      | (refine plan_pure (v := ?_) (by rfl) (fun w1 => ?_) ?_
         rotate_left
         · go_simp <;> with_reducible rfl
         simp only [Act.put, List.setIfInBounds_toArray, List.set_cons_zero, List.set_cons_succ])
      | (refine plan_off (by rfl) ?_
         simp only [Act.put, List.setIfInBounds_toArray, List.set_cons_zero, List.set_cons_succ])
      | (refine plan_load_off (by rfl) ?_
         simp only [Act.put, List.setIfInBounds_toArray, List.set_cons_zero, List.set_cons_succ])
      | (refine plan_load (v := ?_) (by rfl) (fun w1 hw1 => ?_) ?_
         rotate_left
         · (have q0 := HZD.out w1 hw1
            have a0 := q0.1 _ _ HY.out.1
            have a1 := q0.1 _ _ HY.out.2.1
            have a2 := q0.1 _ _ HY.out.2.2.1
            have a3 := q0.1 _ _ HY.out.2.2.2
            have d0 := q0.2.1 3 _ (cell_blk HDK.out 3)
            have ql := q0.2.2.1
            have qd := q0.2.2.2
            clear q0
            clear hw1
            go_simp <;> with_reducible rfl)
         simp only [Act.put, List.setIfInBounds_toArray, List.set_cons_zero, List.set_cons_succ]))
    have hcall := set_any Wd C S T _ t _ 3 n q m (HS4.out.below HBD.out) HX4.out HL4.out hq2 (by have := HM0.out (.inl rfl); omega)
    have HCALL := Lib.hid hcall
    clear hcall
    refine plan_last ?_
    go_wp2_with fail
    refine HCALL.out.mono ?_
    rintro y w9 ⟨rfl, hsat, hmod⟩
    have HSAT := Lib.hid hsat
    have HMOD := Lib.hid hmod
    clear hsat hmod
    go_wp2_with fail
    repeat (first
      | (refine plan_pure (v := ?_) (by rfl) (fun w1 => ?_) ?_
         rotate_left
         · go_simp <;> with_reducible rfl
         simp only [Act.put, List.setIfInBounds_toArray, List.set_cons_zero, List.set_cons_succ])
      | (refine plan_off (by rfl) ?_
         simp only [Act.put, List.setIfInBounds_toArray, List.set_cons_zero, List.set_cons_succ])
      | (refine plan_load_off (by rfl) ?_
         simp only [Act.put, List.setIfInBounds_toArray, List.set_cons_zero, List.set_cons_succ])
      | (refine plan_load (v := ?_) (by rfl) (fun w1 hw1 => ?_) ?_
         rotate_left
         · (skip
            clear hw1
            go_simp <;> with_reducible rfl)
         simp only [Act.put, List.setIfInBounds_toArray, List.set_cons_zero, List.set_cons_succ]))
    refine plan_end ?_
    go_wp2_with fail
    go_end0
    exact ⟨rfl, by rw [HDO.out, Pr.deed3]; exact HSAT.out, ((((Mod.of_below_size HB.out _).trans (Mod.of_below_size HB2.out _ |>.mono (fun k _ e => e))).trans (HM24.out.mono (fun k _ e => Or.inr e))).trans (Mod.of_below_size HBD.out _)).trans HMOD.out⟩
  · refine wp_region_planF (by kernel_rfl) (fun u => Below W4.heap.size W4 u) [7] [(0, .pure), (1, .load), (2, .pure), (3, .load), (4, .pure), (5, .pure), (6, .load), (7, .last)] (by simp only [List.map_cons, List.map_nil, List.getElem?_toArray, List.getElem?_cons_succ, List.getElem?_cons_zero]; rfl) (by kernel_rfl) (fun _ _ d _ _ h => by cases d <;> exact h) ((Below.refl _ _).drew) ?_
    obtain ⟨Wd, hWd⟩ : ∃ z, z = W4.drew := ⟨_, rfl⟩
    rw [← hWd]
    have hbd : Below W4.heap.size W4 Wd := by rw [hWd]; exact (Below.refl _ _).drew
    have HBD := Lib.hid hbd
    clear hWd hbd
    repeat (first
      | (refine plan_pure (v := ?_) (by rfl) (fun w1 => ?_) ?_
         rotate_left
         · go_simp <;> with_reducible rfl
         simp only [Act.put, List.setIfInBounds_toArray, List.set_cons_zero, List.set_cons_succ])
      | (refine plan_off (by rfl) ?_
         simp only [Act.put, List.setIfInBounds_toArray, List.set_cons_zero, List.set_cons_succ])
      | (refine plan_load_off (by rfl) ?_
         simp only [Act.put, List.setIfInBounds_toArray, List.set_cons_zero, List.set_cons_succ])
      | (refine plan_load (v := ?_) (by rfl) (fun w1 hw1 => ?_) ?_
         rotate_left
         · (have q0 := HZD.out w1 hw1
            have a0 := q0.1 _ _ HY.out.1
            have a1 := q0.1 _ _ HY.out.2.1
            have a2 := q0.1 _ _ HY.out.2.2.1
            have a3 := q0.1 _ _ HY.out.2.2.2
            have d0 := q0.2.1 4 _ (cell_blk HDK.out 4)
            have ql := q0.2.2.1
            have qd := q0.2.2.2
            clear q0
            clear hw1
            go_simp <;> with_reducible rfl)
         simp only [Act.put, List.setIfInBounds_toArray, List.set_cons_zero, List.set_cons_succ]))
    have hcall := add_any Wd C S T _ t _ 4 n q m (HS4.out.below HBD.out) HX4.out HL4.out hq2 (by have := HM0.out (.inr (.inl rfl)); omega)
    have HCALL := Lib.hid hcall
    clear hcall
    refine plan_last ?_
    go_wp2_with fail
    refine HCALL.out.mono ?_
    rintro y w9 ⟨rfl, hsat, hmod⟩
    have HSAT := Lib.hid hsat
    have HMOD := Lib.hid hmod
    clear hsat hmod
    go_wp2_with fail
    repeat (first
      | (refine plan_pure (v := ?_) (by rfl) (fun w1 => ?_) ?_
         rotate_left
         · go_simp <;> with_reducible rfl
         simp only [Act.put, List.setIfInBounds_toArray, List.set_cons_zero, List.set_cons_succ])
      | (refine plan_off (by rfl) ?_
         simp only [Act.put, List.setIfInBounds_toArray, List.set_cons_zero, List.set_cons_succ])
      | (refine plan_load_off (by rfl) ?_
         simp only [Act.put, List.setIfInBounds_toArray, List.set_cons_zero, List.set_cons_succ])
      | (refine plan_load (v := ?_) (by rfl) (fun w1 hw1 => ?_) ?_
         rotate_left
         · (skip
            clear hw1
            go_simp <;> with_reducible rfl)
         simp only [Act.put, List.setIfInBounds_toArray, List.set_cons_zero, List.set_cons_succ]))
    refine plan_end ?_
    go_wp2_with fail
    go_end0
    exact ⟨rfl, by rw [HDO.out, Pr.deed4]; exact HSAT.out, ((((Mod.of_below_size HB.out _).trans (Mod.of_below_size HB2.out _ |>.mono (fun k _ e => e))).trans (HM24.out.mono (fun k _ e => Or.inr e))).trans (Mod.of_below_size HBD.out _)).trans HMOD.out⟩
  · refine wp_region_planF (by kernel_rfl) (fun u => Below W4.heap.size W4 u) [7] [(0, .pure), (1, .load), (2, .pure), (3, .load), (4, .pure), (5, .pure), (6, .load), (7, .last)] (by simp only [List.map_cons, List.map_nil, List.getElem?_toArray, List.getElem?_cons_succ, List.getElem?_cons_zero]; rfl) (by kernel_rfl) (fun _ _ d _ _ h => by cases d <;> exact h) ((Below.refl _ _).drew) ?_
    obtain ⟨Wd, hWd⟩ : ∃ z, z = W4.drew := ⟨_, rfl⟩
    rw [← hWd]
    have hbd : Below W4.heap.size W4 Wd := by rw [hWd]; exact (Below.refl _ _).drew
    have HBD := Lib.hid hbd
    clear hWd hbd
    repeat (first
      | (refine plan_pure (v := ?_) (by rfl) (fun w1 => ?_) ?_
         rotate_left
         · go_simp <;> with_reducible rfl
         simp only [Act.put, List.setIfInBounds_toArray, List.set_cons_zero, List.set_cons_succ])
      | (refine plan_off (by rfl) ?_
         simp only [Act.put, List.setIfInBounds_toArray, List.set_cons_zero, List.set_cons_succ])
      | (refine plan_load_off (by rfl) ?_
         simp only [Act.put, List.setIfInBounds_toArray, List.set_cons_zero, List.set_cons_succ])
      | (refine plan_load (v := ?_) (by rfl) (fun w1 hw1 => ?_) ?_
         rotate_left
         · (have q0 := HZD.out w1 hw1
            have a0 := q0.1 _ _ HY.out.1
            have a1 := q0.1 _ _ HY.out.2.1
            have a2 := q0.1 _ _ HY.out.2.2.1
            have a3 := q0.1 _ _ HY.out.2.2.2
            have d0 := q0.2.1 5 _ (cell_blk HDK.out 5)
            have ql := q0.2.2.1
            have qd := q0.2.2.2
            clear q0
            clear hw1
            go_simp <;> with_reducible rfl)
         simp only [Act.put, List.setIfInBounds_toArray, List.set_cons_zero, List.set_cons_succ]))
    have hcall := lock_any Wd C S T _ t _ 5 n q m (HS4.out.below HBD.out) HX4.out HL4.out hq2 (HMM.out (.inl rfl))
    have HCALL := Lib.hid hcall
    clear hcall
    refine plan_last ?_
    go_wp2_with fail
    refine HCALL.out.mono ?_
    rintro y w9 ⟨rfl, hsat, hmod⟩
    have HSAT := Lib.hid hsat
    have HMOD := Lib.hid hmod
    clear hsat hmod
    go_wp2_with fail
    repeat (first
      | (refine plan_pure (v := ?_) (by rfl) (fun w1 => ?_) ?_
         rotate_left
         · go_simp <;> with_reducible rfl
         simp only [Act.put, List.setIfInBounds_toArray, List.set_cons_zero, List.set_cons_succ])
      | (refine plan_off (by rfl) ?_
         simp only [Act.put, List.setIfInBounds_toArray, List.set_cons_zero, List.set_cons_succ])
      | (refine plan_load_off (by rfl) ?_
         simp only [Act.put, List.setIfInBounds_toArray, List.set_cons_zero, List.set_cons_succ])
      | (refine plan_load (v := ?_) (by rfl) (fun w1 hw1 => ?_) ?_
         rotate_left
         · (skip
            clear hw1
            go_simp <;> with_reducible rfl)
         simp only [Act.put, List.setIfInBounds_toArray, List.set_cons_zero, List.set_cons_succ]))
    refine plan_end ?_
    go_wp2_with fail
    go_end0
    exact ⟨rfl, by rw [HDO.out, Pr.deed5]; exact HSAT.out, ((((Mod.of_below_size HB.out _).trans (Mod.of_below_size HB2.out _ |>.mono (fun k _ e => e))).trans (HM24.out.mono (fun k _ e => Or.inr e))).trans (Mod.of_below_size HBD.out _)).trans HMOD.out⟩
  · refine wp_region_planF (by kernel_rfl) (fun u => Below W4.heap.size W4 u) [7] [(0, .pure), (1, .load), (2, .pure), (3, .load), (4, .pure), (5, .pure), (6, .load), (7, .last)] (by simp only [List.map_cons, List.map_nil, List.getElem?_toArray, List.getElem?_cons_succ, List.getElem?_cons_zero]; rfl) (by kernel_rfl) (fun _ _ d _ _ h => by cases d <;> exact h) ((Below.refl _ _).drew) ?_
    obtain ⟨Wd, hWd⟩ : ∃ z, z = W4.drew := ⟨_, rfl⟩
    rw [← hWd]
    have hbd : Below W4.heap.size W4 Wd := by rw [hWd]; exact (Below.refl _ _).drew
    have HBD := Lib.hid hbd
    clear hWd hbd
    repeat (first
      | (refine plan_pure (v := ?_) (by rfl) (fun w1 => ?_) ?_
         rotate_left
         · go_simp <;> with_reducible rfl
         simp only [Act.put, List.setIfInBounds_toArray, List.set_cons_zero, List.set_cons_succ])
      | (refine plan_off (by rfl) ?_
         simp only [Act.put, List.setIfInBounds_toArray, List.set_cons_zero, List.set_cons_succ])
      | (refine plan_load_off (by rfl) ?_
         simp only [Act.put, List.setIfInBounds_toArray, List.set_cons_zero, List.set_cons_succ])
      | (refine plan_load (v := ?_) (by rfl) (fun w1 hw1 => ?_) ?_
         rotate_left
         · (have q0 := HZD.out w1 hw1
            have a0 := q0.1 _ _ HY.out.1
            have a1 := q0.1 _ _ HY.out.2.1
            have a2 := q0.1 _ _ HY.out.2.2.1
            have a3 := q0.1 _ _ HY.out.2.2.2
            have d0 := q0.2.1 6 _ (cell_blk HDK.out 6)
            have ql := q0.2.2.1
            have qd := q0.2.2.2
            clear q0
            clear hw1
            go_simp <;> with_reducible rfl)
         simp only [Act.put, List.setIfInBounds_toArray, List.set_cons_zero, List.set_cons_succ]))
    have hcall := unlock_any Wd C S T _ t _ 6 n q m (HS4.out.below HBD.out) HX4.out HL4.out hq2 (HMM.out (.inr rfl)) _ rfl
    have HCALL := Lib.hid hcall
    clear hcall
    refine plan_last ?_
    go_wp2_with fail
    refine HCALL.out.mono ?_
    rintro y w9 ⟨rfl, hsat, hmod⟩
    have HSAT := Lib.hid hsat
    have HMOD := Lib.hid hmod
    clear hsat hmod
    go_wp2_with fail
    repeat (first
      | (refine plan_pure (v := ?_) (by rfl) (fun w1 => ?_) ?_
         rotate_left
         · go_simp <;> with_reducible rfl
         simp only [Act.put, List.setIfInBounds_toArray, List.set_cons_zero, List.set_cons_succ])
      | (refine plan_off (by rfl) ?_
         simp only [Act.put, List.setIfInBounds_toArray, List.set_cons_zero, List.set_cons_succ])
      | (refine plan_load_off (by rfl) ?_
         simp only [Act.put, List.setIfInBounds_toArray, List.set_cons_zero, List.set_cons_succ])
      | (refine plan_load (v := ?_) (by rfl) (fun w1 hw1 => ?_) ?_
         rotate_left
         · (skip
            clear hw1
            go_simp <;> with_reducible rfl)
         simp only [Act.put, List.setIfInBounds_toArray, List.set_cons_zero, List.set_cons_succ]))
    refine plan_end ?_
    go_wp2_with fail
    go_end0
    exact ⟨rfl, by rw [HDO.out, Pr.deed6]; exact HSAT.out, ((((Mod.of_below_size HB.out _).trans (Mod.of_below_size HB2.out _ |>.mono (fun k _ e => e))).trans (HM24.out.mono (fun k _ e => Or.inr e))).trans (Mod.of_below_size HBD.out _)).trans HMOD.out⟩
  · refine wp_region_planF (by kernel_rfl) (fun u => Below W4.heap.size W4 u) [7] [(0, .pure), (1, .load), (2, .pure), (3, .load), (4, .pure), (5, .pure), (6, .load), (7, .last)] (by simp only [List.map_cons, List.map_nil, List.getElem?_toArray, List.getElem?_cons_succ, List.getElem?_cons_zero]; rfl) (by kernel_rfl) (fun _ _ d _ _ h => by cases d <;> exact h) ((Below.refl _ _).drew) ?_
    obtain ⟨Wd, hWd⟩ : ∃ z, z = W4.drew := ⟨_, rfl⟩
    rw [← hWd]
    have hbd : Below W4.heap.size W4 Wd := by rw [hWd]; exact (Below.refl _ _).drew
    have HBD := Lib.hid hbd
    clear hWd hbd
    repeat (first
      | (refine plan_pure (v := ?_) (by rfl) (fun w1 => ?_) ?_
         rotate_left
         · go_simp <;> with_reducible rfl
         simp only [Act.put, List.setIfInBounds_toArray, List.set_cons_zero, List.set_cons_succ])
      | (refine plan_off (by rfl) ?_
         simp only [Act.put, List.setIfInBounds_toArray, List.set_cons_zero, List.set_cons_succ])
      | (refine plan_load_off (by rfl) ?_
         simp only [Act.put, List.setIfInBounds_toArray, List.set_cons_zero, List.set_cons_succ])
      | (refine plan_load (v := ?_) (by rfl) (fun w1 hw1 => ?_) ?_
         rotate_left
         · (have q0 := HZD.out w1 hw1
            have a0 := q0.1 _ _ HY.out.1
            have a1 := q0.1 _ _ HY.out.2.1
            have a2 := q0.1 _ _ HY.out.2.2.1
            have a3 := q0.1 _ _ HY.out.2.2.2
            have d0 := q0.2.1 7 _ (cell_blk HDK.out 7)
            have ql := q0.2.2.1
            have qd := q0.2.2.2
            clear q0
            clear hw1
            go_simp <;> with_reducible rfl)
         simp only [Act.put, List.setIfInBounds_toArray, List.set_cons_zero, List.set_cons_succ]))
    have hcall := jump_any Wd C S T _ t _ 7 n q m (HS4.out.below HBD.out) HX4.out HL4.out hq2 hmj _ rfl
    have HCALL := Lib.hid hcall
    clear hcall
    refine plan_last ?_
    go_wp2_with fail
    refine HCALL.out.mono ?_
    rintro y w9 ⟨rfl, hsat, hmod⟩
    have HSAT := Lib.hid hsat
    have HMOD := Lib.hid hmod
    clear hsat hmod
    go_wp2_with fail
    repeat (first
      | (refine plan_pure (v := ?_) (by rfl) (fun w1 => ?_) ?_
         rotate_left
         · go_simp <;> with_reducible rfl
         simp only [Act.put, List.setIfInBounds_toArray, List.set_cons_zero, List.set_cons_succ])
      | (refine plan_off (by rfl) ?_
         simp only [Act.put, List.setIfInBounds_toArray, List.set_cons_zero, List.set_cons_succ])
      | (refine plan_load_off (by rfl) ?_
         simp only [Act.put, List.setIfInBounds_toArray, List.set_cons_zero, List.set_cons_succ])
      | (refine plan_load (v := ?_) (by rfl) (fun w1 hw1 => ?_) ?_
         rotate_left
         · (skip
            clear hw1
            go_simp <;> with_reducible rfl)
         simp only [Act.put, List.setIfInBounds_toArray, List.set_cons_zero, List.set_cons_succ]))
    refine plan_end ?_
    go_wp2_with fail
    go_end0
    exact ⟨rfl, by rw [HDO.out, Pr.deed7]; exact HSAT.out, ((((Mod.of_below_size HB.out _).trans (Mod.of_below_size HB2.out _ |>.mono (fun k _ e => e))).trans (HM24.out.mono (fun k _ e => Or.inr e))).trans (Mod.of_below_size HBD.out _)).trans HMOD.out⟩
  · refine wp_region_planF (by kernel_rfl) (fun u => Below W4.heap.size W4 u) [7] [(0, .pure), (1, .load), (2, .pure), (3, .load), (4, .pure), (5, .pure), (6, .load), (7, .last)] (by simp only [List.map_cons, List.map_nil, List.getElem?_toArray, List.getElem?_cons_succ, List.getElem?_cons_zero]; rfl) (by kernel_rfl) (fun _ _ d _ _ h => by cases d <;> exact h) ((Below.refl _ _).drew) ?_
    obtain ⟨Wd, hWd⟩ : ∃ z, z = W4.drew := ⟨_, rfl⟩
    rw [← hWd]
    have hbd : Below W4.heap.size W4 Wd := by rw [hWd]; exact (Below.refl _ _).drew
    have HBD := Lib.hid hbd
    clear hWd hbd
    repeat (first
      | (refine plan_pure (v := ?_) (by rfl) (fun w1 => ?_) ?_
         rotate_left
         · go_simp <;> with_reducible rfl
         simp only [Act.put, List.setIfInBounds_toArray, List.set_cons_zero, List.set_cons_succ])
      | (refine plan_off (by rfl) ?_
         simp only [Act.put, List.setIfInBounds_toArray, List.set_cons_zero, List.set_cons_succ])
      | (refine plan_load_off (by rfl) ?_
         simp only [Act.put, List.setIfInBounds_toArray, List.set_cons_zero, List.set_cons_succ])
      | (refine plan_load (v := ?_) (by rfl) (fun w1 hw1 => ?_) ?_
         rotate_left
         · (have q0 := HZD.out w1 hw1
            have a0 := q0.1 _ _ HY.out.1
            have a1 := q0.1 _ _ HY.out.2.1
            have a2 := q0.1 _ _ HY.out.2.2.1
            have a3 := q0.1 _ _ HY.out.2.2.2
            have d0 := q0.2.1 8 _ (cell_blk HDK.out 8)
            have ql := q0.2.2.1
            have qd := q0.2.2.2
            clear q0
            clear hw1
            go_simp <;> with_reducible rfl)
         simp only [Act.put, List.setIfInBounds_toArray, List.set_cons_zero, List.set_cons_succ]))
    have hcall := assert_any Wd C S T _ t _ 8 n q m (HS4.out.below HBD.out) HX4.out HL4.out hq2 hmj
    have HCALL := Lib.hid hcall
    clear hcall
    refine plan_last ?_
    go_wp2_with fail
    refine HCALL.out.mono ?_
    rintro y w9 ⟨rfl, hsat, hmod⟩
    have HSAT := Lib.hid hsat
    have HMOD := Lib.hid hmod
    clear hsat hmod
    go_wp2_with fail
    repeat (first
      | (refine plan_pure (v := ?_) (by rfl) (fun w1 => ?_) ?_
         rotate_left
         · go_simp <;> with_reducible rfl
         simp only [Act.put, List.setIfInBounds_toArray, List.set_cons_zero, List.set_cons_succ])
      | (refine plan_off (by rfl) ?_
         simp only [Act.put, List.setIfInBounds_toArray, List.set_cons_zero, List.set_cons_succ])
      | (refine plan_load_off (by rfl) ?_
         simp only [Act.put, List.setIfInBounds_toArray, List.set_cons_zero, List.set_cons_succ])
      | (refine plan_load (v := ?_) (by rfl) (fun w1 hw1 => ?_) ?_
         rotate_left
         · (skip
            clear hw1
            go_simp <;> with_reducible rfl)
         simp only [Act.put, List.setIfInBounds_toArray, List.set_cons_zero, List.set_cons_succ]))
    refine plan_end ?_
    go_wp2_with fail
    go_end0
    exact ⟨rfl, by rw [HDO.out, Pr.deed8]; exact HSAT.out, ((((Mod.of_below_size HB.out _).trans (Mod.of_below_size HB2.out _ |>.mono (fun k _ e => e))).trans (HM24.out.mono (fun k _ e => Or.inr e))).trans (Mod.of_below_size HBD.out _)).trans HMOD.out⟩
end Go.Proofs.YtckdofjpoajblaaGreat
namespace Go.Proofs.YtckdofjpoajblaaGreat
open Go.RowKit
set_option linter.unusedVariables false
namespace Pr
def stepE (s : St) (t : Int) : Int := if 0 ≤ t ∧ t < (s.th.length : Int) then (if (next s t.toNat).isNone then 6 else if enabled s t.toNat = false then 9 else 0) else 2
def stepS (s : St) (t : Nat) : St :=
  match ins s t with
  | some i => doI s t i
  | none => s
theorem enabled_next {s : St} {t : Nat} (h : enabled s t = true) : ∃ e i, next s t = some e ∧ ins s t = some i ∧ e = evOf s t i := by
  unfold enabled at h
  cases hn : next s t with
  | none => rw [hn] at h; cases h
  | some e =>
    unfold next at hn
    obtain ⟨i, hi, he⟩ := Option.map_eq_some_iff.1 hn
    exact ⟨e, i, rfl, hi, he.symm⟩
end Pr
theorem SAt.bound {w : World} {C : Nat → Prop} {S T : Nat} {s : St} (h : SAt w C S T s) : SAt w (fun k => C k ∧ k < w.heap.size) S T s := by
  obtain ⟨PA, pc, tc, h1, h2, h3, h4, h5, h6⟩ := h
  exact ⟨PA, pc, tc, h1, h2, h3.bound, fun hk => h4 hk.1, fun hk => h5 hk.1, h6⟩
theorem SAt.widen {w w' : World} {C D : Nat → Prop} {S T : Nat} {s s' : St} (h : SAt w D S T s) (h0 : SAt w' C S T s') (hD : ∀ k, D k → C k) : SAt w C S T s := by
  obtain ⟨PA, pc, tc, h1, h2, h3, h4, h5, h6⟩ := h
  obtain ⟨_, _, _, _, _, _, g4, g5, _⟩ := h0
  exact ⟨PA, pc, tc, h1, h2, h3.imp hD, g4, g5, h6⟩
theorem ev0_box (w : World) : ∃ Wa X, Wa = w.alloc (Obj.cells #[.int .i64 0, .int .i64 0, .int .i64 0, .bool false] 51) ∧ X = w.heap.size ∧ Below w.heap.size w Wa ∧ X < Wa.heap.size ∧ Wa.heap[X]? = some (.cells #[.int .i64 0, .int .i64 0, .int .i64 0, .bool false] 51 (0, 0)) :=
    ⟨_, _, rfl, rfl, (Below.refl _ _).alloc (Nat.le_refl _) _, by simp, heap_alloc_new w _⟩
set_option maxRecDepth 100000 in
set_option maxHeartbeats 2000000 in
theorem step_okB (w : World) (C : Nat → Prop) (S T : Nat) (s : St) (t : Nat) (e : Ev) (h : SAt w C S T s) (hw : Pr.Wf s) (ht : t < s.th.length) (hen : Pr.enabled s t = true) (hnx : Pr.next s t = some e) (hC : ∀ k, C k → k < w.heap.size) :
    Calls Tryz.prog 32 #[.pointer (some ⟨S, 0, none⟩), .int .i64 (t : Int)] w fun x w' => x = .returned (.tuple #[valE e, .int .i64 0]) ∧ SAt w' C S T (Pr.stepS s t) ∧ Mod (fun k => k = S ∨ k = T) w w' := by
  obtain ⟨Wa, X, hWa, hX, hBa, hXl, hXk⟩ := ev0_box w
  have hS := h.below hBa
  have hc1 := is_any Wa C S T s t hS
  rw [decide_eq_true (show (0 : Int) ≤ t ∧ (t : Int) < s.th.length by omega)] at hc1
  have hc2 := next_any Wa C S T s t hS hw ht
  rw [hnx] at hc2
  have hc3 : ∀ u, Below Wa.heap.size Wa u → _ := fun u hu => enabled_any u C S T s t (hS.below hu) hw ht
  rw [hen] at hc3
  obtain ⟨_, i, _, hi, _⟩ := Pr.enabled_next hen
  have hc4 : ∀ u, Below Wa.heap.size Wa u → _ := fun u hu => instr_any u C S T s t (hS.below hu) hw ht
  rw [hi] at hc4
  have hc5 : ∀ u, Below Wa.heap.size Wa u → _ := fun u hu => do_any u C S T s t i (hS.below hu) hw hi
  have hst : Pr.stepS s t = Pr.doI s t i := by unfold Pr.stepS; rw [hi]
  rw [hst]
  simp only [Option.getD_some, Option.isSome_some] at hc2 hc4
  obtain ⟨s', hs'⟩ : ∃ s', s' = Pr.doI s t i := ⟨_, rfl⟩
  rw [← hs'] at hc5 ⊢
  obtain ⟨et, ek, eo, ef⟩ := e
  obtain ⟨ik, ir, ix, im⟩ := i
  simp only [valE, valI] at hc2 hc4 hc5 ⊢
  have HCC := Lib.hid hC
  have HC1 := Lib.hid hc1
  have HC2 := Lib.hid hc2
  have HC3 := Lib.hid hc3
  have HC4 := Lib.hid hc4
  have HC5 := Lib.hid hc5
  have HB := Lib.hid hBa
  have HXK := Lib.hid hXk
  have HXW := Lib.hid (Nat.le_of_eq hX.symm)
  have HST := Lib.hid (And.intro h.lt.1 h.lt.2)
  clear hC hc1 hc2 hc3 hc4 hc5 hBa hXk h hw ht hen hnx hS hi hst hs'
  go_enter Tryz.func32, Tryz.ntmps32
  go_upto_block 0 with fail
  rw [← hWa, ← hX]
  clear hWa hX
  go_wp2_with fail
  refine HC1.out.mono ?_
  rintro y w1 ⟨rfl, rfl⟩
  go_wp2_with fail
  refine HC2.out.mono ?_
  rintro y w2 ⟨rfl, b2⟩
  obtain ⟨Wz, Z, hWz, hZ, hBz, hZl, hZe⟩ := ev_box w2 ⟨et, ek, eo, ef⟩
  simp only at hWz
  have HB2 := Lib.hid (below_at b2 hBz)
  have HZE := Lib.hid hZe
  have HZW := Lib.hid (show Wa.heap.size ≤ Z by rw [hZ]; exact b2.size)
  have HZL := Lib.hid hZl
  clear b2 hBz hZl hZe
  go_upto_block 1 with fail
  rw [← hWz, ← hZ]
  clear hWz hZ
  go_wp2_with fail
  refine (HC3.out Wz HB2.out).mono ?_
  rintro y w3 ⟨rfl, b3⟩
  have HB3 := Lib.hid (below_at HB2.out b3)
  have HZ3 := Lib.hid b3
  clear b3
  go_wp2_with fail
  refine (HC4.out w3 HB3.out).mono ?_
  rintro y w4 ⟨rfl, b4⟩
  obtain ⟨Wy, Y, hWy, hY, hBy, hYl, hYe⟩ := ins_box w4 ⟨ik, ir, ix, im⟩
  simp only at hWy
  have HB4 := Lib.hid (below_at (below_at HB3.out b4) hBy)
  have HZ4 := Lib.hid (below_at (below_at HZ3.out b4) hBy)
  clear b4 hBy
  go_upto_region 11 with fail
  rw [← hWy, ← hY]
  clear hWy hY
  obtain ⟨⟨y0, y1, y2, y3⟩, yl⟩ := hYe Wy (Below.refl _ _)
  simp only [Nat.zero_add] at y1 y2 y3
  clear hYl hYe
  go_wp2_with fail
  refine (HC5.out Wy HB4.out).mono ?_
  rintro y w5 ⟨rfl, hsat, hmod⟩
  obtain ⟨⟨z0, z1, z2, z3⟩, zl⟩ := HZE.out Wy HZ4.out
  simp only [Nat.zero_add] at z1 z2 z3
  have hZF : ¬ (Z = S ∨ Z = T) := by have := HST.out; have := HZW.out; have := HB.out.size; omega
  have hXF : ¬ (X = S ∨ X = T) := by have := HST.out; have := HXW.out; omega
  have z0 := (hmod.cell Z 0 zl hZF).trans z0
  have z1 := (hmod.cell Z 1 zl hZF).trans z1
  have z2 := (hmod.cell Z 2 zl hZF).trans z2
  have z3 := (hmod.cell Z 3 zl hZF).trans z3
  have zl : Z < w5.heap.size := Nat.lt_of_lt_of_le zl hmod.size
  have hX5 := (hmod.block X (by have := HB4.out.size; have := blk_lt HXK.out; omega) hXF).trans ((HB4.out.block X (blk_lt HXK.out)).trans HXK.out)
  obtain ⟨V2, hV2, ⟨d0, d1, d2, d3⟩, hmv⟩ := in4_exit hX5 (.int .i64 et) (.int .i64 ek) (.int .i64 eo) (.bool ef)
  obtain ⟨⟨e0, e1, e2, e3⟩, el, g0, g1, g2, g3⟩ := in4_cells hX5
  have HSAT := Lib.hid hsat
  have HMOD := Lib.hid hmod
  have HV2 := Lib.hid hV2
  have HMV := Lib.hid hmv
  have HXF := Lib.hid hXF
  clear hsat hmod hV2 hmv hX5 hZF hXF y0 y1 y2 y3 yl
  go_wp2_with fail
  rw [← HV2.out]
  refine bodyPost_ret (v := .tuple #[.agg #[.int .i64 et, .int .i64 ek, .int .i64 eo, .bool ef], .int .i64 0]) (by simp [results, Tryz.results32, go_sem, d0, d1, d2, d3]) rfl ?_
  refine ⟨rfl, HSAT.out.mod HMV.out (fun k hk e => by have := HCC.out k hk; have := HXW.out; omega) (fun e => HXF.out (.inl e.symm)) (fun e => HXF.out (.inr e.symm)), ?_⟩
  have m1 : Mod (fun k => k = S ∨ k = T) w Wy := Mod.of_below_size (below_at HB.out HB4.out) _
  exact (m1.trans HMOD.out).then (HMV.out.mono (G := fun k => k = X) (fun k _ e => e)) (fun k hk e => by have := HXW.out; omega)
theorem step_ok (w : World) (C : Nat → Prop) (S T : Nat) (s : St) (t : Nat) (e : Ev) (h : SAt w C S T s) (hw : Pr.Wf s) (ht : t < s.th.length) (hen : Pr.enabled s t = true) (hnx : Pr.next s t = some e) :
    Calls Tryz.prog 32 #[.pointer (some ⟨S, 0, none⟩), .int .i64 (t : Int)] w fun x w' => x = .returned (.tuple #[valE e, .int .i64 0]) ∧ SAt w' C S T (Pr.stepS s t) ∧ Mod (fun k => k = S ∨ k = T) w w' :=
  (step_okB w _ S T s t e h.bound hw ht hen hnx (fun k hk => hk.2)).mono fun x w' hh => ⟨hh.1, hh.2.1.widen h (fun k hk => hk.1), hh.2.2⟩
end Go.Proofs.YtckdofjpoajblaaGreat
namespace Go.Proofs.YtckdofjpoajblaaGreat
open Go.RowKit
set_option linter.unusedVariables false
theorem int_cell {w : World} {B : Nat} {A : Option Addr} {ks : List Int} (h : RdB w B 1 A ks.length (ks.map iv)) : ∀ (k : Nat) (s : Int), ks[k]? = some s → ∃ g o, A = some ⟨g, o, none⟩ ∧ g < B ∧ ∀ u, Below B w u → u.cell? ⟨g, o + k, none⟩ = some (.int .i64 s) := fun k s hs => by
  obtain ⟨hk, rfl⟩ := List.getElem?_eq_some_iff.1 hs
  obtain ⟨g, o, hA, hg, hc⟩ := h.2 (by omega)
  refine ⟨g, o, hA, hg, fun u hu => ?_⟩
  rw [World.cell?_of_block (hu.block g hg), hc k (by omega), List.getElem?_map, List.getElem?_eq_getElem hk]
  rfl
set_option maxRecDepth 100000 in
set_option maxHeartbeats 2000000 in
theorem sameInts_any (w : World) (A : Option Addr) (cap : Nat) (a : List Int) (B : Option Addr) (cap' : Nat) (b : List Int) (ha : Rd w 1 A a.length (a.map iv)) (hb : Rd w 1 B b.length (b.map iv)) (hl : a.length < 4611686018427387904) :
    Calls Tryz.prog 24 #[.slice A a.length cap, .slice B b.length cap'] w fun x w' => x = .returned (.bool (decide (a = b))) ∧ Below w.heap.size w w' := by
  have HC := Lib.hid (int_cell ha.toB)
  have HD := Lib.hid (int_cell hb.toB)
  clear ha hb
  by_cases hlen : a.length = b.length
  · have hlen' : b.length = a.length := hlen.symm
    rw [hlen']
    have HL := Lib.hid hlen
    clear hlen hlen'
    go_enter Tryz.func24, Tryz.ntmps24
    go_wp2_with fail
    go_loopw [5] (fun v wr => ∃ k : Nat, k ≤ a.length ∧ v = .int .i64 k ∧ Hid (a.take k = b.take k) ∧ Below w.heap.size w wr) (fun v _ => a.length - (intOf v).toNat)
    case atStart => exact ⟨0, Nat.zero_le _, rfl, Lib.hid rfl, Below.refl _ _⟩
    case round =>
      obtain ⟨k, hk, rfl, HRT, hbw⟩ := hrel
      by_cases hlt : k < a.length
      · obtain ⟨x, hx⟩ := get_some hlt
        obtain ⟨y, hy⟩ := get_some (show k < b.length by have := HL.out; omega)
        obtain ⟨g, o, rfl, hg, hcl⟩ := HC.out k x hx
        obtain ⟨g', o', rfl, hg', hcl'⟩ := HD.out k y hy
        have v0 := hcl wr hbw
        have u0 := hcl' wr hbw
        have k1 : (0 : Int) ≤ (k : Int) := Int.natCast_nonneg _
        have k2 : (k : Int) < (a.length : Int) := by omega
        have htk : a.take (k + 1) = a.take k ++ [x] := by rw [List.take_add_one, hx]; rfl
        have htk' : b.take (k + 1) = b.take k ++ [y] := by rw [List.take_add_one, hy]; rfl
        have hne : x ≠ y → a ≠ b := fun h e => by subst e; rw [hx] at hy; exact h (Option.some.inj hy)
        have lg : g < wr.heap.size := by have := hbw.size; omega
        have lg' : g' < wr.heap.size := by have := hbw.size; omega
        have HTK := Lib.hid htk
        have HTK' := Lib.hid htk'
        have HNE := Lib.hid hne
        have HBW := Lib.hid hbw
        clear htk htk' hne hcl hcl' hbw hx hy
        by_cases hxy : x = y
        · have e3 : (x == y) = true := by simpa using hxy
          have e4 : (x != y) = false := by simpa using hxy
          have HXY := Lib.hid hxy
          clear hxy
          go_wp2_with fail
          refine wp_region_plan (by kernel_rfl) (fun u => Mod (fun _ => False) wr u) [] [(0, .pure), (1, .pure), (2, .pure), (3, .load), (4, .pure), (5, .pure), (6, .pure), (7, .load), (8, .pure)] (by simp only [List.map_cons, List.map_nil, List.getElem?_toArray, List.getElem?_cons_succ, List.getElem?_cons_zero]; rfl) (by kernel_rfl) (fun _ _ d _ _ h => by cases d <;> exact h) ((Mod.refl _ _).drew) ?_
          repeat (first
            | (refine plan_pure (v := ?_) (by rfl) (fun w1 => ?_) ?_
               rotate_left
               · go_simp <;> with_reducible rfl
               simp only [Act.put, List.setIfInBounds_toArray, List.set_cons_zero, List.set_cons_succ])
            | (refine plan_off (by rfl) ?_
               simp only [Act.put, List.setIfInBounds_toArray, List.set_cons_zero, List.set_cons_succ])
            | (refine plan_load_off (by rfl) ?_
               simp only [Act.put, List.setIfInBounds_toArray, List.set_cons_zero, List.set_cons_succ])
            | (refine plan_load (v := ?_) (by rfl) (fun w1 hw1 => ?_) ?_
               rotate_left
               · (have q0 := (hw1.cell g (o + k) lg id).trans v0
                  have q1 := (hw1.cell g' (o' + k) lg' id).trans u0
                  clear hw1
                  go_simp <;> with_reducible rfl)
               simp only [Act.put, List.setIfInBounds_toArray, List.set_cons_zero, List.set_cons_succ]))
          refine plan_end ?_
          go_wp2_with fail
          go_roundw
          case rel => exact ⟨k + 1, by omega, by go_num, Lib.hid (by rw [HTK.out, HTK'.out, HRT.out, HXY.out]), HBW.out.trans ⟨rfl, rfl, rfl, Nat.le_refl _, fun _ _ => rfl⟩⟩
          case measure => simp [intOf]; omega
        · have e3 : (x == y) = false := by simpa using hxy
          have e4 : (x != y) = true := by simpa using hxy
          have HXY := Lib.hid hxy
          clear hxy
          go_wp2_with fail
          refine wp_region_plan (by kernel_rfl) (fun u => Mod (fun _ => False) wr u) [] [(0, .pure), (1, .pure), (2, .pure), (3, .load), (4, .pure), (5, .pure), (6, .pure), (7, .load), (8, .pure)] (by simp only [List.map_cons, List.map_nil, List.getElem?_toArray, List.getElem?_cons_succ, List.getElem?_cons_zero]; rfl) (by kernel_rfl) (fun _ _ d _ _ h => by cases d <;> exact h) ((Mod.refl _ _).drew) ?_
          repeat (first
            | (refine plan_pure (v := ?_) (by rfl) (fun w1 => ?_) ?_
               rotate_left
               · go_simp <;> with_reducible rfl
               simp only [Act.put, List.setIfInBounds_toArray, List.set_cons_zero, List.set_cons_succ])
            | (refine plan_off (by rfl) ?_
               simp only [Act.put, List.setIfInBounds_toArray, List.set_cons_zero, List.set_cons_succ])
            | (refine plan_load_off (by rfl) ?_
               simp only [Act.put, List.setIfInBounds_toArray, List.set_cons_zero, List.set_cons_succ])
            | (refine plan_load (v := ?_) (by rfl) (fun w1 hw1 => ?_) ?_
               rotate_left
               · (have q0 := (hw1.cell g (o + k) lg id).trans v0
                  have q1 := (hw1.cell g' (o' + k) lg' id).trans u0
                  clear hw1
                  go_simp <;> with_reducible rfl)
               simp only [Act.put, List.setIfInBounds_toArray, List.set_cons_zero, List.set_cons_succ]))
          refine plan_end ?_
          go_wp2_with fail
          go_ret
          exact ⟨by rw [decide_eq_false (HNE.out HXY.out)]; rfl, HBW.out.trans ⟨rfl, rfl, rfl, Nat.le_refl _, fun _ _ => rfl⟩⟩
      · have hkn : k = a.length := by omega
        have HK := Lib.hid hkn
        have HBW := Lib.hid hbw
        clear hkn hbw
        go_wp2_with fail
        go_ret
        have h1 := HRT.out
        rw [HK.out, List.take_length, HL.out, List.take_length] at h1
        exact ⟨by rw [decide_eq_true h1]; rfl, HBW.out⟩
  · have e1 : ((a.length : Int) == (b.length : Int)) = false := by rw [beq_eq_false_iff_ne]; omega
    have hne : a ≠ b := fun e => hlen (by rw [e])
    have HNE := Lib.hid hne
    clear hlen hne
    go_enter Tryz.func24, Tryz.ntmps24
    go_wp2_with fail
    go_ret
    exact ⟨by rw [decide_eq_false HNE.out]; rfl, Below.refl _ _⟩
end Go.Proofs.YtckdofjpoajblaaGreat
namespace Go.Proofs.YtckdofjpoajblaaGreat
open Go.RowKit
set_option linter.unusedVariables false
namespace Pr
theorem deed_th (s : St) (t : Nat) (x : Th) (i : Ins) (hx : s.th[t]? = some x) (hf : x.fuel ≤ 8) (hp : x.pc ≤ 8) (hj : i.k = 7 → i.x ≤ 8) : ∃ y : Th, (deed s t x i).th = s.th.set t y ∧ y.fuel ≤ 8 ∧ y.pc ≤ 8 ∧ (deed s t x i).p = s.p := by
  have hself : s.th = s.th.set t x := by
    refine List.ext_getElem? fun j => ?_
    by_cases h : j = t
    · subst h; rw [List.getElem?_set_self (List.getElem?_eq_some_iff.1 hx).1, hx]
    · rw [List.getElem?_set_ne (fun e => h e.symm)]
  unfold deed
  split
  · exact ⟨_, rfl, hf, hp, rfl⟩
  · split
    · exact ⟨x, hself, hf, hp, rfl⟩
    · split
      · exact ⟨_, rfl, hf, hp, rfl⟩
      · split
        · exact ⟨_, rfl, hf, hp, rfl⟩
        · split
          · exact ⟨x, hself, hf, hp, rfl⟩
          · split
            · split
              · exact ⟨x, hself, hf, hp, rfl⟩
              · exact ⟨x, hself, hf, hp, rfl⟩
            · split
              · split
                · exact ⟨x, hself, hf, hp, rfl⟩
                · rename_i h7 _
                  exact ⟨_, rfl, hf, by have := hj h7; simp only; omega, rfl⟩
              · exact ⟨x, hself, hf, hp, rfl⟩
theorem doI_wf {s : St} {t : Nat} {i : Ins} (hw : Wf s) (hi : ins s t = some i) : Wf (doI s t i) ∧ (doI s t i).p = s.p ∧ (doI s t i).th.length = s.th.length := by
  obtain ⟨n, hn0, hn8, hok⟩ := hw.insOk hi
  have hi' := hi
  unfold ins at hi
  split at hi
  · rename_i x c hx hc
    split at hi
    · cases hi
    · have hpc : x.pc < c.length := (List.getElem?_eq_some_iff.1 hi).1
      have h8 := hw.q8 hc
      obtain ⟨hf, hp⟩ := hw.bnd t x hx
      have hlt := (List.getElem?_eq_some_iff.1 hx).1
      have hx2 : (s.th.set t (tick x))[t]? = some (tick x) := by rw [List.getElem?_set_self hlt]
      obtain ⟨y, h1, h2, h3, h4⟩ := deed_th { s with th := s.th.set t (tick x) } t (tick x) i hx2 (by simp [tick]; omega) (by simp [tick]; omega) (fun h7 => by have := hok.2.2.2.2.2.2.2.2.2.2.2.1 h7; omega)
      have hd : doI s t i = deed { s with th := s.th.set t (tick x) } t (tick x) i := by unfold doI; rw [hx]
      rw [hd]
      simp only [List.set_set] at h1
      refine ⟨⟨by rw [h4]; exact hw.ok, by rw [h1, h4, List.length_set]; exact hw.len, fun t' x' hx' => ?_⟩, h4, by rw [h1, List.length_set]⟩
      rw [h1] at hx'
      by_cases ht : t' = t
      · subst ht
        rw [List.getElem?_set_self hlt] at hx'
        injection hx' with hx'
        subst hx'
        exact ⟨h2, h3⟩
      · rw [List.getElem?_set_ne (fun e => ht e.symm)] at hx'
        exact hw.bnd t' x' hx'
  · cases hi
theorem stepS_wf {s : St} (t : Nat) (hw : Wf s) : Wf (stepS s t) ∧ (stepS s t).p = s.p ∧ (stepS s t).th.length = s.th.length := by
  unfold stepS
  split
  · rename_i i hi; exact doI_wf hw hi
  · exact ⟨hw, rfl, rfl⟩
def run : St → List Int → Except Int (St × List Ev)
  | s, [] => .ok (s, [])
  | s, t :: r => if stepE s t = 0 then (match run (stepS s t.toNat) r with
    | .ok (s', l) => .ok (s', ((next s t.toNat).getD zeroE) :: l)
    | .error e => .error e) else .error (stepE s t)
def few (p : Pg) : Bool := p.code.all (fun q => decide (q.length ≤ 50)) && decide (p.code.length ≤ 20)
end Pr
set_option maxRecDepth 100000 in
set_option maxHeartbeats 2000000 in
theorem fewP_any (w : World) (p : Pg) (A : Option Addr) (cap : Nat) (hcd : CdAt w (fun k => k < w.heap.size) A p.code) (hl : p.code.length ≤ maxLen) (hq : ∀ q ∈ p.code, q.length ≤ maxLen) :
    Calls Tryz.prog 18 #[valP p A cap] w fun x w' => x = .returned (.bool (Pr.few p)) ∧ Below w.heap.size w w' := by
  obtain ⟨pv, pm, L⟩ := p
  unfold valP
  simp only at hcd hl hq ⊢
  have hll : L.length < 9223372036854775808 := by unfold maxLen at hl; omega
  obtain ⟨W, X, hW, hX, hB, hXl, hXe⟩ := pg_box w pv pm A L.length cap
  have HX := Lib.hid hXe
  have HB := Lib.hid hB
  have HCD := Lib.hid hcd
  have HQ := Lib.hid hq
  clear hB hXe hcd hq hl
  go_enter Tryz.func18, Tryz.ntmps18
  go_upto_region 1 with fail
  rw [← hW, ← hX]
  clear hW hX
  go_wp2_with fail
  go_loopw [3] (fun v wr => ∃ k : Nat, k ≤ L.length ∧ v = .int .i64 k ∧ Hid (∀ q ∈ L.take k, q.length ≤ 50) ∧ Hid (Below W.heap.size W wr)) (fun v _ => L.length - (intOf v).toNat)
  case atStart => exact ⟨0, Nat.zero_le _, rfl, Lib.hid (fun q h => by simp at h), Lib.hid (Below.refl _ _)⟩
  case round =>
    obtain ⟨k, hk, rfl, HOK, HW⟩ := hrel
    obtain ⟨x0, x1, x2, xl⟩ := HX.out wr HW.out
    by_cases hlt : k < L.length
    · obtain ⟨q, hq⟩ := get_some hlt
      obtain ⟨g, o, A', c', rfl, hg, hlg, hrq, hqc, hcm, hcell⟩ := HCD.out.get k q hq
      have ca := hcell wr (((below_at HB.out HW.out).block g hlg))
      have lg : g < wr.heap.size := by have := (below_at HB.out HW.out).size; omega
      have hqm := HQ.out q (List.mem_of_getElem? hq)
      have hql : q.length < 9223372036854775808 := by unfold maxLen at hqm; omega
      have k1 : (0 : Int) ≤ (k : Int) := Int.natCast_nonneg _
      have k2 : (k : Int) < (L.length : Int) := by omega
      have HQI := Lib.hid hq
      clear hq hcell hrq hqm
      by_cases h50 : q.length ≤ 50
      · have h1 : ¬ (50 : Int) < (q.length : Int) := by omega
        have h2 : decide (50 < q.length) = false := by simp; omega
        go_wp2_with fail
        go_roundw
        case rel => exact ⟨k + 1, by omega, by go_num, Lib.hid (fun p hp => by
          rw [List.take_add_one, HQI.out] at hp
          rcases List.mem_append.1 hp with h | h
          · exact HOK.out p h
          · simp at h; subst h; exact h50), HW⟩
        case measure => simp [intOf]; omega
      · have h1 : (50 : Int) < (q.length : Int) := by omega
        have h2 : decide (50 < q.length) = true := by simp; omega
        go_wp2_with fail
        go_ret
        have hf : Pr.few ⟨pv, pm, L⟩ = false := by
          unfold Pr.few
          rw [Bool.and_eq_false_iff]
          refine .inl (List.all_eq_false.2 ⟨q, List.mem_of_getElem? HQI.out, by simp; omega⟩)
        exact ⟨by rw [hf]; rfl, below_at HB.out HW.out⟩
    · have hkl : k = L.length := by omega
      have hok := HOK.out
      rw [hkl, List.take_length] at hok
      have hf : Pr.few ⟨pv, pm, L⟩ = decide ((L.length : Int) ≤ 20) := by
        unfold Pr.few
        rw [List.all_eq_true.2 (fun q hq => by simpa using hok q hq), Bool.true_and]
        exact decide_eq_decide.2 (by simp only; omega)
      obtain ⟨b, hb⟩ : ∃ b, b = decide ((L.length : Int) ≤ 20) := ⟨_, rfl⟩
      rw [← hb] at hf
      have HF := Lib.hid hf
      have HBB := Lib.hid hb
      clear hok hf hb hkl
      by_cases h20 : (L.length : Int) ≤ 20
      · have hd : decide (L.length ≤ 20) = true := by simp; omega
        go_wp2_with fail
        go_ret
        exact ⟨by rw [HF.out, HBB.out, decide_eq_true h20]; rfl, below_at HB.out HW.out⟩
      · have hd : decide (L.length ≤ 20) = false := by simp; omega
        go_wp2_with fail
        go_ret
        exact ⟨by rw [HF.out, HBB.out, decide_eq_false (by omega)]; rfl, below_at HB.out HW.out⟩
end Go.Proofs.YtckdofjpoajblaaGreat
namespace Go.Proofs.YtckdofjpoajblaaGreat
open Go.RowKit
set_option linter.unusedVariables false
end Go.Proofs.YtckdofjpoajblaaGreat
namespace Go.Proofs.YtckdofjpoajblaaGreat
open Go.RowKit
set_option linter.unusedVariables false
set_option linter.unusedSimpArgs false
section
variable {K V : Type} [DecidableEq K]
def mget : List (K × V) → K → Option V
  | [], _ => none
  | (a, v) :: m, k => if k = a then some v else mget m k
def mput : List (K × V) → K → V → List (K × V)
  | [], k, x => [(k, x)]
  | (a, v) :: m, k, x => if k = a then (k, x) :: m else (a, v) :: mput m k x
theorem mput_keys (m : List (K × V)) (k : K) (x : V) : ∀ j, j ∈ (mput m k x).map (·.1) ↔ j = k ∨ j ∈ m.map (·.1) := by
  induction m with
  | nil => simp [mput]
  | cons p m ih =>
    obtain ⟨a, v⟩ := p
    intro j
    simp only [mput]
    by_cases h : k = a
    · subst h; simp
    · rw [if_neg h]
      simp only [List.map_cons, List.mem_cons, ih]
      constructor
      · rintro (h | h | h)
        · exact .inr (.inl h)
        · exact .inl h
        · exact .inr (.inr h)
      · rintro (h | h | h)
        · exact .inr (.inl h)
        · exact .inl h
        · exact .inr (.inr h)
theorem mput_nodup {m : List (K × V)} (h : (m.map (·.1)).Nodup) (k : K) (x : V) : ((mput m k x).map (·.1)).Nodup := by
  induction m with
  | nil => simp [mput]
  | cons p m ih =>
    obtain ⟨a, v⟩ := p
    simp only [List.map_cons, List.nodup_cons] at h
    simp only [mput]
    by_cases hk : k = a
    · subst hk
      rw [if_pos rfl]
      simp only [List.map_cons, List.nodup_cons]
      exact h
    · rw [if_neg hk]
      simp only [List.map_cons, List.nodup_cons]
      refine ⟨fun hm => ?_, ih h.2⟩
      rcases (mput_keys m k x a).1 hm with e | e
      · exact hk e.symm
      · exact h.1 e
theorem mget_none {m : List (K × V)} {k : K} : mget m k = none ↔ k ∉ m.map (·.1) := by
  induction m with
  | nil => simp [mget]
  | cons p m ih =>
    obtain ⟨a, v⟩ := p
    simp only [mget, List.map_cons, List.mem_cons]
    by_cases h : k = a
    · simp [h]
    · simp [h, ih]
theorem mput_length (m : List (K × V)) (k : K) (x : V) : (mput m k x).length = m.length + if (mget m k).isSome then 0 else 1 := by
  induction m with
  | nil => simp [mput, mget]
  | cons p m ih =>
    obtain ⟨a, v⟩ := p
    simp only [mput, mget]
    by_cases h : k = a
    · simp [h]
    · simp [h, ih]; omega
end
theorem ba_ext {a b : ByteArray} (h : a.toList = b.toList) : a = b := by
  rw [ByteArray.toList_eq, ByteArray.toList_eq] at h
  obtain ⟨x⟩ := a
  obtain ⟨y⟩ := b
  congr 1
  exact Array.ext' h
theorem ba_beq (a b : ByteArray) : (a == b) = decide (a = b) := by
  rw [beq_toListBytes]
  by_cases h : a = b
  · subst h; simp
  · rw [decide_eq_false h, beq_eq_false_iff_ne]
    exact fun e => h (ba_ext e)
def ents (es : Array MapEntry) : List (Value × Value) := es.toList.map fun e => (e.key, e.val)
section
variable {K : Type} [DecidableEq K]
def mfind : List (K × Value) → K → Nat → Option (Nat × Value)
  | [], _, _ => none
  | (a, v) :: m, k, i => if k = a then some (i, v) else mfind m k (i + 1)
theorem mfind_val (m : List (K × Value)) (k : K) (i : Nat) : (mfind m k i).map (·.2) = mget m k := by
  induction m generalizing i with
  | nil => rfl
  | cons p m ih =>
    obtain ⟨a, v⟩ := p
    simp only [mfind, mget]
    split
    · rfl
    · exact ih (i + 1)
end
structure KeyK (P : Program) (kt : TypeId) (K : Type) [DecidableEq K] where
  kk : K → Value
  inj : ∀ {a b}, kk a = kk b → a = b
  fk : ∀ (w : World) (es : Array MapEntry) (m : List (K × Value)), ents es = m.map (fun p => (kk p.1, p.2)) → ∀ k, (Instr.findKey kt (kk k) es.toList).run P w = .ok (mfind m k 0) w
  bits : ∀ a, Instr.sameBits 10000 (kk a) (kk a) = true
  chk : ∀ (b : Bool) a w, (Instr.checkKey b 10000 kt (kk a)).run P w = .ok () w
theorem findNow_is {K : Type} [DecidableEq K] {kk : K → Value} {desc : TypeDesc} (same : ∀ a b, Instr.sameNow desc (kk a) (kk b) = some (decide (a = b))) (es : List MapEntry) (m : List (K × Value)) (h : es.map (fun e => (e.key, e.val)) = m.map (fun p => (kk p.1, p.2))) (k : K) (i : Nat) : Instr.findNow desc (kk k) es i = some (mfind m k i) := by
  induction m generalizing es i with
  | nil =>
    cases es with
    | nil => rfl
    | cons e es => simp at h
  | cons p m ih =>
    obtain ⟨a, v⟩ := p
    cases es with
    | nil => simp at h
    | cons e es =>
      simp only [List.map_cons, List.cons.injEq, Prod.mk.injEq] at h
      obtain ⟨⟨h1, h2⟩, h3⟩ := h
      simp only [Instr.findNow, h1, same, mfind]
      by_cases hk : k = a
      · simp [hk, h2]
      · simp [hk, ih es h3 (i + 1)]
theorem findKey_now {P : Program} {kt : TypeId} {K : Type} [DecidableEq K] {kk : K → Value} {desc : TypeDesc} (hu : P.underlying kt = some desc) (same : ∀ a b, Instr.sameNow desc (kk a) (kk b) = some (decide (a = b))) (w : World) (es : Array MapEntry) (m : List (K × Value)) (h : ents es = m.map (fun p => (kk p.1, p.2))) (k : K) : (Instr.findKey kt (kk k) es.toList).run P w = .ok (mfind m k 0) w := by
  have := findNow_is same es.toList m h k 0
  simp [Instr.findKey, run_underlying hu, this]
theorem inj_now {K : Type} [DecidableEq K] {kk : K → Value} {desc : TypeDesc} (same : ∀ a b, Instr.sameNow desc (kk a) (kk b) = some (decide (a = b))) {a b : K} (h : kk a = kk b) : a = b := by
  have h1 := same a b
  rw [← h, same a a] at h1
  simpa using h1
theorem same_str (a b : ByteArray) : Instr.sameNow .string (.string a) (.string b) = some (decide (a = b)) := by simp only [Instr.sameNow, ba_beq]
def keyStr {P : Program} {kt : TypeId} (h : P.underlying kt = some .string) : KeyK P kt ByteArray where
  kk := .string
  inj := inj_now same_str
  fk := findKey_now h same_str
  bits := fun a => by rw [show (10000 : Nat) = 9999 + 1 from rfl, Instr.sameBits, ba_beq]; simp
  chk := fun b a w => by rw [show (10000 : Nat) = 9999 + 1 from rfl, Instr.checkKey]; simp [run_underlying h]
section
variable {P : Program} {kt : TypeId} {K : Type} [DecidableEq K] (kd : KeyK P kt K)
def MapAt (kd : KeyK P kt K) (w : World) (r : Nat) (m : List (K × Value)) : Prop :=
  ∃ es clock, w.heap[r]? = some (.map es clock) ∧ ents es = m.map (fun p => (kd.kk p.1, p.2)) ∧ (m.map (·.1)).Nodup ∧ MapKept.Stamped es clock
theorem MapAt.move {kd : KeyK P kt K} {w w' : World} {r : Nat} {m : List (K × Value)} (h : MapAt kd w r m) (hm : w'.heap[r]? = w.heap[r]?) : MapAt kd w' r m := by
  obtain ⟨es, c, h1, h2, h3⟩ := h
  exact ⟨es, c, hm.trans h1, h2, h3⟩
theorem MapAt.lt {kd : KeyK P kt K} {w : World} {r : Nat} {m : List (K × Value)} (h : MapAt kd w r m) : r < w.heap.size := by
  obtain ⟨es, c, h1, _⟩ := h
  exact blk_lt h1
theorem MapAt.size {kd : KeyK P kt K} {w : World} {r : Nat} {m : List (K × Value)} (h : MapAt kd w r m) : ∃ es c, w.heap[r]? = some (.map es c) ∧ es.size = m.length := by
  obtain ⟨es, c, h1, h2, _⟩ := h
  refine ⟨es, c, h1, ?_⟩
  have := congrArg List.length h2
  simpa [ents] using this
theorem findKey_is (w : World) (es : Array MapEntry) (m : List (K × Value)) (h : ents es = m.map (fun p => (kd.kk p.1, p.2))) (k : K) : (Instr.findKey kt (kd.kk k) es.toList).run P w = .ok (mfind m k 0) w := kd.fk w es m h k
theorem mod_setObj (w : World) (r : Nat) (o : Obj) : Mod (fun k => k = r) w { w with heap := w.heap.setIfInBounds r o } :=
  ⟨rfl, rfl, rfl, by simp, fun k hk hn => by
    show (w.heap.setIfInBounds r o)[k]? = _
    rw [Array.getElem?_setIfInBounds_ne (fun e => hn e.symm)]⟩
theorem blk_setObj {w : World} {r : Nat} (o : Obj) (h : r < w.heap.size) : ({ w with heap := w.heap.setIfInBounds r o } : World).heap[r]? = some o := by
  show (w.heap.setIfInBounds r o)[r]? = _
  simp [h]
theorem ents_modify (es : Array MapEntry) (m : List (K × Value)) (h : ents es = m.map (fun p => (kd.kk p.1, p.2))) (k : K) (x : Value) {i : Nat} {v : Value} (hf : mfind m k 0 = some (i, v)) :
    ents (es.modify i fun e => { e with key := kd.kk k, val := x }) = (mput m k x).map (fun p => (kd.kk p.1, p.2)) ∧ (es[i]?).map (·.key) = some (kd.kk k) := by
  have gen : ∀ (m : List (K × Value)) (es : List MapEntry) (i j : Nat), es.map (fun e => (e.key, e.val)) = m.map (fun p => (kd.kk p.1, p.2)) → mfind m k j = some (i + j, v) →
      (es.modify i (fun e => { e with key := kd.kk k, val := x })).map (fun e => (e.key, e.val)) = (mput m k x).map (fun p => (kd.kk p.1, p.2)) ∧ (es[i]?).map (·.key) = some (kd.kk k) := by
    intro m
    induction m with
    | nil => intro es i j h hf; cases hf
    | cons p m ih =>
      obtain ⟨a, u⟩ := p
      intro es i j h hf
      cases es with
      | nil => simp at h
      | cons e es =>
        simp only [List.map_cons, List.cons.injEq, Prod.mk.injEq] at h
        obtain ⟨⟨h1, h2⟩, h3⟩ := h
        simp only [mfind] at hf
        simp only [mput]
        by_cases hk : k = a
        · subst hk
          rw [if_pos rfl] at hf ⊢
          injection hf with hf
          injection hf with hf _
          have hi : i = 0 := by omega
          subst hi
          simp [h1, h3]
        · rw [if_neg hk] at hf ⊢
          cases i with
          | zero =>
            have hge : ∀ (m : List (K × Value)) (j i : Nat) v, mfind m k j = some (i, v) → j ≤ i := by
              intro m
              induction m with
              | nil => intro j i v h; cases h
              | cons q m ih2 =>
                intro j i v h
                obtain ⟨b, u2⟩ := q
                simp only [mfind] at h
                split at h
                · injection h with h; injection h with h _; omega
                · have := ih2 _ _ _ h; omega
            have := hge _ _ _ _ hf
            omega
          | succ i =>
            have := ih es i (j + 1) h3 (by rw [hf]; congr 2; omega)
            simp only [List.modify_succ_cons, List.map_cons, List.getElem?_cons_succ, this.1, h1, h2]
            exact ⟨trivial, this.2⟩
  have := gen m es.toList i 0 h hf
  refine ⟨?_, by simpa using this.2⟩
  unfold ents
  rw [Array.toList_modify]
  exact this.1
theorem ents_push (es : Array MapEntry) (m : List (K × Value)) (h : ents es = m.map (fun p => (kd.kk p.1, p.2))) (k : K) (x : Value) (c : Nat) (hf : mfind m k 0 = none) :
    ents (es.push { key := kd.kk k, val := x, born := c }) = (mput m k x).map (fun p => (kd.kk p.1, p.2)) := by
  have gen : ∀ (m : List (K × Value)) j, mfind m k j = none → mput m k x = m ++ [(k, x)] := by
    intro m
    induction m with
    | nil => intro j _; rfl
    | cons p m ih =>
      obtain ⟨a, u⟩ := p
      intro j hf
      simp only [mfind] at hf
      split at hf
      · cases hf
      · rename_i hk
        simp only [mput]
        rw [if_neg hk, ih _ hf, List.cons_append]
  rw [gen m 0 hf, List.map_append, ← h]
  simp [ents]
theorem run_mapUpdate {w : World} {mt e : TypeId} (ht : P.underlying mt = some (.map kt e)) {r : Nat} {m : List (K × Value)} (h : MapAt kd w r m) (k : K) (x : Value) :
    ∃ w', (Instr.mapUpdate mt (.map (some r)) (kd.kk k) x).run P w = .ok () w' ∧ MapAt kd w' r (mput m k x) ∧ Mod (fun q => q = r) w w' := by
  obtain ⟨es, c, h1, h2, h3⟩ := h
  have hl := blk_lt h1
  have hf := findKey_is kd w es m h2 k
  have hg : (getObj r).run P w = .ok (.map es c) w := by simp [getObj, Sem.run, h1]
  have hs : ∀ o, (setObj r o).run P w = .ok () { w with heap := w.heap.setIfInBounds r o } := fun o => by simp [setObj, Sem.run, h1]
  unfold Instr.mapUpdate
  simp only [Sem.run_bind, run_underlying ht, Result.andThen_ok, hg, Sem.run_pure, kd.chk, hf]
  cases hm : mfind m k 0 with
  | none =>
    refine ⟨_, hs _, ⟨_, _, blk_setObj _ hl, ents_push kd es m h2 k x c hm, mput_nodup h3.1 k x, MapKept.stamped_push h3.2 (fun y hy e => ?_)⟩, mod_setObj _ _ _⟩
    have hin : (y.key, y.val) ∈ ents es := List.mem_map.2 ⟨y, hy, rfl⟩
    rw [h2] at hin
    obtain ⟨q, hq, hqe⟩ := List.mem_map.1 hin
    injection hqe with e1 e2
    have hk : q.1 = k := kd.inj (e1.trans e)
    have hv := mfind_val m k 0
    rw [hm] at hv
    exact mget_none.1 hv.symm (hk ▸ List.mem_map.2 ⟨q, hq, rfl⟩)
  | some p =>
    obtain ⟨i, v⟩ := p
    obtain ⟨q1, q2⟩ := ents_modify kd es m h2 k x hm
    have hk : (Instr.keyThatStays (((es[i]?).map (·.key)).getD (kd.kk k)) (kd.kk k)).run P w = .ok (kd.kk k) w := by
      rw [q2]
      simp [Instr.keyThatStays, kd.bits]
    simp only [Sem.run_bind, hk, Result.andThen_ok]
    exact ⟨_, hs _, ⟨_, _, blk_setObj _ hl, q1, mput_nodup h3.1 k x, MapKept.stamped_modify h3.2 i _ (fun _ _ => rfl) (fun y _ hy => by rw [hy] at q2; simp at q2; exact q2.symm)⟩, mod_setObj _ _ _⟩
theorem MapAt.made (kd : KeyK P kt K) (w : World) (c : Nat) : MapAt kd (w.alloc (.map #[] c)) w.heap.size [] := ⟨#[], c, heap_alloc_new w _, rfl, by simp, MapKept.stamped_empty c⟩
theorem wpList_mapUpdate {w : World} {ops : Array Oper} {rest : List Oper} {o : Oper} {a : Act} {Q : Exit → Act → World → Prop} (hgd : o.guard = none) (ma x v : Operand) (mt e : TypeId) (ho : o.op = Op.mapUpdate mt ma x v)
    (ht : P.underlying mt = some (.map kt e)) (r : Nat) (m : List (K × Value)) (hm : a.eval ma = .map (some r)) (h : MapAt kd w r m) (k : K) (hx : a.eval x = kd.kk k) (val : Value) (hv : a.eval v = val)
    (hK : ∀ w', MapAt kd w' r (mput m k val) → Mod (fun q => q = r) w w' → wpList P ops Q rest (a.put o.dst undef) w') : wpList P ops Q (o :: rest) a w := by
  refine wpList_plain hgd fun K' hK' => ?_
  obtain ⟨w', hr, h1, h2⟩ := run_mapUpdate kd ht h k val
  unfold Oper.wp
  simp [execOp, ho, hm, hx, hv, hr, Result.andThen]
  exact hK' _ _ (hK w' h1 h2)
def MapIt (kd : KeyK P kt K) (w : World) (r it : Nat) (m : List (K × Value)) (cnt : Nat) : Prop :=
  ∃ es clock since seen c0, w.heap[r]? = some (.map es clock) ∧ ents es = m.map (fun p => (kd.kk p.1, p.2)) ∧ MapKept.Stamped es clock ∧ w.heap[it]? = some (.mapIter (some r) since seen c0) ∧ (∀ x ∈ es.toList, x.born < since) ∧ (leftOf es seen).size = cnt ∧ since ≤ c0 ∧ since ≤ clock
theorem MapIt.move {kd : KeyK P kt K} {w w' : World} {r it cnt : Nat} {m : List (K × Value)} (h : MapIt kd w r it m cnt) (h1 : w'.heap[r]? = w.heap[r]?) (h2 : w'.heap[it]? = w.heap[it]?) : MapIt kd w' r it m cnt := by
  obtain ⟨es, clock, since, seen, c0, hb, h, hs, hr, rest⟩ := h
  exact ⟨es, clock, since, seen, c0, h1.trans hb, h, hs, h2.trans hr, rest⟩
theorem MapIt.at {kd : KeyK P kt K} {w : World} {r it cnt : Nat} {m : List (K × Value)} (h : MapIt kd w r it m cnt) (hn : (m.map (·.1)).Nodup) : MapAt kd w r m := by
  obtain ⟨es, clock, since, seen, c0, hb, h, hs, _⟩ := h
  exact ⟨es, clock, hb, h, hn, hs⟩
theorem MapIt.ne {kd : KeyK P kt K} {w : World} {r it cnt : Nat} {m : List (K × Value)} (h : MapIt kd w r it m cnt) : it ≠ r := by
  obtain ⟨es, clock, since, seen, c0, hb, _, _, hr, _⟩ := h
  intro e
  rw [e, hb] at hr
  cases hr
theorem MapIt.lt {kd : KeyK P kt K} {w : World} {r it cnt : Nat} {m : List (K × Value)} (h : MapIt kd w r it m cnt) : r < w.heap.size ∧ it < w.heap.size := by
  obtain ⟨es, clock, since, seen, c0, hb, _, _, hr, _⟩ := h
  exact ⟨blk_lt hb, blk_lt hr⟩
end
end Go.Proofs.YtckdofjpoajblaaGreat
namespace Go.Proofs.YtckdofjpoajblaaGreat
open Go.RowKit
set_option linter.unusedVariables false
def paint (c : Nat → Nat) (n j : Nat) : Nat → Nat := fun k => if k < n then c k else j
theorem paint_old {c : Nat → Nat} {n j k : Nat} (h : k < n) : paint c n j k = c k := if_pos h
theorem paint_new {c : Nat → Nat} {n j k : Nat} (h : n ≤ k) : paint c n j k = j := if_neg (by omega)
def Chg (j : Nat) (c : Nat → Nat) (w : World) (c' : Nat → Nat) (w' : World) : Prop := Mod (fun k => c k = j) w w' ∧ ∀ k, k < w.heap.size → c' k = c k
theorem Chg.trans {j : Nat} {c c' c'' : Nat → Nat} {w w' w'' : World} (h : Chg j c w c' w') (k : Chg j c' w' c'' w'') : Chg j c w c'' w'' :=
  ⟨h.1.then k.1 (fun i hi e => by rw [← h.2 i hi]; exact e), fun i hi => (k.2 i (by have := h.1.size; omega)).trans (h.2 i hi)⟩
theorem Chg.size {j : Nat} {c c' : Nat → Nat} {w w' : World} (h : Chg j c w c' w') : w.heap.size ≤ w'.heap.size := h.1.size
theorem Chg.refl (j : Nat) (c : Nat → Nat) (w : World) : Chg j c w c w := ⟨Mod.refl _ _, fun _ _ => rfl⟩
theorem Chg.mod {j : Nat} {c : Nat → Nat} {w w' : World} (i : Nat) (h : Mod (fun k => c k = j) w w') : Chg j c w (paint c w.heap.size i) w' := ⟨h, fun k hk => paint_old hk⟩
theorem Chg.below {c : Nat → Nat} {w w' : World} (j i : Nat) (h : Below w.heap.size w w') : Chg j c w (paint c w.heap.size i) w' := ⟨Mod.of_below_size h _, fun k hk => paint_old hk⟩
theorem Chg.alloc {c : Nat → Nat} {w : World} (j i : Nat) (o : Obj) : Chg j c w (paint c w.heap.size i) (w.alloc o) := .below j i ((Below.refl _ _).alloc (Nat.le_refl _) _)
theorem Chg.drew {j : Nat} {c c' : Nat → Nat} {w w' : World} (h : Chg j c w c' w') : Chg j c w c' w'.drew := ⟨h.1.drew, h.2⟩
theorem Chg.drewN {j : Nat} {c c' : Nat → Nat} {w w' : World} (h : Chg j c w c' w') (n : Nat) : Chg j c w c' (w'.drewN n) := ⟨h.1.drewN n, h.2⟩
theorem Chg.block {j : Nat} {c c' : Nat → Nat} {w w' : World} (h : Chg j c w c' w') {k : Nat} (hk : k < w.heap.size) (hj : c k ≠ j) : w'.heap[k]? = w.heap[k]? := h.1.block k hk hj
def Fr (base : Nat) (c : Nat → Nat) (W w : World) : Prop := base ≤ w.heap.size ∧ Below base W w ∧ ∀ k, k < base → c k = 0
theorem Fr.start (W : World) : Fr W.heap.size (fun _ => 0) W W := ⟨Nat.le_refl _, Below.refl _ _, fun _ _ => rfl⟩
theorem Fr.step {base j : Nat} {c c' : Nat → Nat} {W w w' : World} (h : Fr base c W w) (k : Chg j c w c' w') (hj : j ≠ 0) : Fr base c' W w' :=
  ⟨Nat.le_trans h.1 k.size, h.2.1.trans (k.1.below base h.1 (fun q hq e => hj (by rw [← e, h.2.2 q hq]))), fun q hq => (k.2 q (by have := h.1; omega)).trans (h.2.2 q hq)⟩
theorem Fr.below {base : Nat} {c : Nat → Nat} {W w : World} (h : Fr base c W w) : Below base W w := h.2.1
def RowC (w : World) (c : Nat → Nat) (j : Nat) (e sz : Nat) (A : Option Addr) (n cap : Nat) (cs : List Value) : Prop := Row w e sz A n cap cs ∧ ∀ a, A = some a → c a.block = j
theorem RowC.stay {i j e sz n cap : Nat} {A : Option Addr} {cs : List Value} {c c' : Nat → Nat} {w w' : World} (h : RowC w c i e sz A n cap cs) (k : Chg j c w c' w') (hij : i ≠ j) : RowC w' c' i e sz A n cap cs :=
  ⟨h.1.mod k.1 (fun a ha hj => hij ((h.2 a ha).symm.trans hj)), fun a ha => by subst ha; rw [k.2 _ h.1.lt]; exact h.2 a rfl⟩
theorem RowC.nil (w : World) (c : Nat → Nat) (j e sz : Nat) : RowC w c j e sz none 0 0 [] := ⟨Row.nil _ _ _, fun a h => (by cases h)⟩
theorem RowC.put {j e sz n cap n' cap' : Nat} {A A' : Option Addr} {cs cs' : List Value} {c : Nat → Nat} {w w' : World} (h : RowC w c j e sz A n cap cs)
    (hr : Row w' e sz A' n' cap' cs') (hm : Mod (fun k => ∃ a, A = some a ∧ k = a.block) w w') (hat : ∀ a', A' = some a' → (∃ a, A = some a ∧ a'.block = a.block) ∨ w.heap.size ≤ a'.block) :
    RowC w' (paint c w.heap.size j) j e sz A' n' cap' cs' ∧ Chg j c w (paint c w.heap.size j) w' :=
  ⟨⟨hr, fun a' ha' => by
    rcases hat a' ha' with ⟨a, h1, h2⟩ | h1
    · rw [h2, paint_old (by subst h1; exact h.1.lt)]; exact h.2 a h1
    · exact paint_new h1⟩, .mod j (hm.mono (fun k _ ⟨a, h1, h2⟩ => h2 ▸ h.2 a h1))⟩
def BlkC (w : World) (c : Nat → Nat) (j k : Nat) (o : Obj) : Prop := w.heap[k]? = some o ∧ c k = j
theorem BlkC.lt {w : World} {c : Nat → Nat} {j k : Nat} {o : Obj} (h : BlkC w c j k o) : k < w.heap.size := (Array.getElem?_eq_some_iff.1 h.1).1
theorem BlkC.stay {i j k : Nat} {o : Obj} {c c' : Nat → Nat} {w w' : World} (h : BlkC w c i k o) (s : Chg j c w c' w') (hij : i ≠ j) : BlkC w' c' i k o :=
  ⟨(s.block h.lt (fun e => hij (h.2.symm.trans e))).trans h.1, (s.2 k h.lt).trans h.2⟩
theorem BlkC.made (w : World) (c : Nat → Nat) (j : Nat) (o : Obj) : BlkC (w.alloc o) (paint c w.heap.size j) j w.heap.size o := ⟨heap_alloc_new w o, paint_new (Nat.le_refl _)⟩
theorem BlkC.cell {w : World} {c : Nat → Nat} {j g : Nat} {cur : Array Value} {e : TypeId} {fr : Nat × Nat} (h : BlkC w c j g (.cells cur e fr)) (o : Nat) : w.cell? ⟨g, o, none⟩ = cur[o]? := cell_blk h.1 o
theorem BlkC.free {w : World} {c : Nat → Nat} {j g : Nat} {cur : Array Value} {e : TypeId} (h : BlkC w c j g (.cells cur e (0, 0))) (o : Nat) : w.frozen? ⟨g, o, none⟩ = false := free_blk h.1 o
theorem BlkC.set {w : World} {c : Nat → Nat} {j g : Nat} {cur : Array Value} {e : TypeId} (h : BlkC w c j g (.cells cur e (0, 0))) (o : Nat) (v : Value) :
    BlkC (w.setCell ⟨g, o, none⟩ v) (paint c w.heap.size j) j g (.cells (cur.setIfInBounds o v) e (0, 0)) ∧ Chg j c w (paint c w.heap.size j) (w.setCell ⟨g, o, none⟩ v) :=
  ⟨⟨set_blk h.1 o v, (paint_old h.lt).trans h.2⟩, .mod j ((Mod.refl _ w).setCell (p := ⟨g, o, none⟩) (fun _ => h.2) v)⟩
section
variable {P : Program} {kt : TypeId} {K : Type} [DecidableEq K]
def MapC (kd : KeyK P kt K) (w : World) (c : Nat → Nat) (j r : Nat) (m : List (K × Value)) : Prop := MapAt kd w r m ∧ c r = j
variable {kd : KeyK P kt K}
theorem MapC.stay {i j r : Nat} {m : List (K × Value)} {c c' : Nat → Nat} {w w' : World} (h : MapC kd w c i r m) (s : Chg j c w c' w') (hij : i ≠ j) : MapC kd w' c' i r m :=
  ⟨h.1.move (s.block h.1.lt (fun e => hij (h.2.symm.trans e))), (s.2 r h.1.lt).trans h.2⟩
theorem MapC.put {j r : Nat} {m m' : List (K × Value)} {c : Nat → Nat} {w w' : World} (h : MapC kd w c j r m) (h' : MapAt kd w' r m') (hm : Mod (fun q => q = r) w w') :
    MapC kd w' (paint c w.heap.size j) j r m' ∧ Chg j c w (paint c w.heap.size j) w' :=
  ⟨⟨h', (paint_old h.1.lt).trans h.2⟩, .mod j (hm.mono (fun k _ e => e ▸ h.2))⟩
theorem MapC.made (kd : KeyK P kt K) (w : World) (c : Nat → Nat) (j n : Nat) : MapC kd (w.alloc (.map #[] n)) (paint c w.heap.size j) j w.heap.size [] := ⟨MapAt.made kd w n, paint_new (Nat.le_refl _)⟩
end
theorem RowC.set {w : World} {c : Nat → Nat} {j e sz g o n cap : Nat} {cs : List Value} (h : RowC w c j e sz (some ⟨g, o, none⟩) n cap cs) (q : Nat) (hq : q < n * sz) (v : Value) :
    RowC (w.setCell ⟨g, o + q, none⟩ v) (paint c w.heap.size j) j e sz (some ⟨g, o, none⟩) n cap (cs.set q v) ∧ Chg j c w (paint c w.heap.size j) (w.setCell ⟨g, o + q, none⟩ v) :=
  ⟨⟨h.1.set q hq v, fun a ha => by injection ha with ha; subst ha; rw [paint_old h.1.lt]; exact h.2 _ rfl⟩, .mod j ((Mod.refl _ w).setCell (p := ⟨g, o + q, none⟩) (fun _ => h.2 _ rfl) v)⟩
end Go.Proofs.YtckdofjpoajblaaGreat
namespace Go.Proofs.YtckdofjpoajblaaGreat
open Go.RowKit
set_option linter.unusedVariables false
def LvC (w : World) (c : Nat → Nat) (A : Option Addr) (cap : Nat) (L : List (List Ev)) : Prop :=
  ∃ vs : List Value, RowC w c 1 55 1 A L.length cap vs ∧ ∀ i, (hi : i < L.length) → ∃ A' c', vs[i]? = some (.slice A' L[i].length c') ∧ RowC w c (10 + i) 51 4 A' L[i].length c' (L[i].flatMap encE)
def LvOut (w : World) (L : List (List Ev)) (x : Ending) (w' : World) : Prop := ∃ A' cap', x = .returned (.slice A' L.length cap') ∧ LvAt w' w'.heap.size A' L ∧ Below w.heap.size w w'
theorem LvOut.nil {w w' : World} (h : Below w.heap.size w w') : LvOut w [] (.returned (.slice none 0 0)) w' := ⟨none, 0, rfl, ⟨[], ⟨rfl, fun h => by simp at h⟩, fun i hi => (by cases hi)⟩, h⟩
theorem LvC.nil (w : World) (c : Nat → Nat) : LvC w c none 0 [] := ⟨[], RowC.nil w c 1 55 1, fun i hi => (by cases hi)⟩
theorem LvC.stay {j cap : Nat} {A : Option Addr} {L : List (List Ev)} {c c' : Nat → Nat} {w w' : World} (h : LvC w c A cap L) (k : Chg j c w c' w') (h1 : j ≠ 1) (h2 : j < 10) : LvC w' c' A cap L := by
  obtain ⟨vs, hv, hin⟩ := h
  refine ⟨vs, hv.stay k (by omega), fun i hi => ?_⟩
  obtain ⟨A', c', e, r⟩ := hin i hi
  exact ⟨A', c', e, r.stay k (by omega)⟩
theorem Chg.heap {j : Nat} {c c' : Nat → Nat} {w w' w2 : World} (h : Chg j c w c' w') (e : w2.heap = w'.heap) (e1 : w2.os = w'.os) (e2 : w2.tape = w'.tape) (e3 : w2.output = w'.output) : Chg j c w c' w2 :=
  ⟨⟨e1.trans h.1.os, e2.trans h.1.tape, e3.trans h.1.output, by rw [e]; exact h.1.size, fun k hk hn => by rw [e]; exact h.1.block k hk hn⟩, h.2⟩
theorem LvC.heap {cap : Nat} {A : Option Addr} {L : List (List Ev)} {c : Nat → Nat} {w w' : World} (h : LvC w c A cap L) (e : w'.heap = w.heap) : LvC w' c A cap L := by
  obtain ⟨vs, hv, hin⟩ := h
  refine ⟨vs, ⟨hv.1.move (fun a _ => by rw [e]), hv.2⟩, fun i hi => ?_⟩
  obtain ⟨A', c', e', r⟩ := hin i hi
  exact ⟨A', c', e', r.1.move (fun a _ => by rw [e]), r.2⟩
theorem LvC.cell {cap : Nat} {A : Option Addr} {L : List (List Ev)} {c : Nat → Nat} {w : World} (h : LvC w c A cap L) (i : Nat) (hi : i < L.length) :
    ∃ g o A' c', A = some ⟨g, o, none⟩ ∧ g < w.heap.size ∧ c g = 1 ∧ w.cell? ⟨g, o + i, none⟩ = some (.slice A' L[i].length c') ∧ (∀ j, w.frozen? ⟨g, j, none⟩ = false) ∧ RowC w c (10 + i) 51 4 A' L[i].length c' (L[i].flatMap encE) ∧
      (∀ w1 c1 q', Chg (10 + i) c w c1 w1 → q'.length = L[i].length → RowC w1 c1 (10 + i) 51 4 A' q'.length c' (q'.flatMap encE) → LvC w1 c1 A cap (L.set i q')) := by
  obtain ⟨vs, hv, hin⟩ := h
  obtain ⟨g, o, rfl⟩ := hv.1.some_of_pos (by have := hv.1.2.1; omega)
  obtain ⟨A', c', e, r⟩ := hin i hi
  refine ⟨g, o, A', c', rfl, hv.1.lt, hv.2 _ rfl, ?_, fun j => hv.1.free j, r, fun w1 c1 q' k hq hr => ?_⟩
  · rw [hv.1.cell i (by omega), e]
  · refine ⟨vs, by rw [List.length_set]; exact hv.stay k (by omega), fun j hj => ?_⟩
    rw [List.length_set] at hj
    by_cases hji : j = i
    · subst hji
      refine ⟨A', c', ?_, ?_⟩
      · rw [e]; simp [hq]
      · simpa using hr
    · obtain ⟨A2, c2, e2, r2⟩ := hin j hj
      refine ⟨A2, c2, ?_, ?_⟩
      · rw [e2, List.getElem_set_ne (Ne.symm hji)]
      · rw [List.getElem_set_ne (Ne.symm hji)]; exact r2.stay k (by omega)
theorem LvC.snoc {cap cap' : Nat} {A A2 : Option Addr} {L : List (List Ev)} {c : Nat → Nat} {w w' : World} {vs : List Value} (hv : RowC w c 1 55 1 A L.length cap vs)
    (hin : ∀ i, (hi : i < L.length) → ∃ A' c', vs[i]? = some (.slice A' L[i].length c') ∧ RowC w c (10 + i) 51 4 A' L[i].length c' (L[i].flatMap encE))
    (hr : Row w' 55 1 A2 (L.length + 1) cap' (vs ++ [.slice none 0 0])) (hm : Mod (fun k => ∃ a, A = some a ∧ k = a.block) w w')
    (hat : ∀ a', A2 = some a' → (∃ a, A = some a ∧ a'.block = a.block) ∨ w.heap.size ≤ a'.block) :
    LvC w' (paint c w.heap.size 1) A2 cap' (L ++ [[]]) ∧ Chg 1 c w (paint c w.heap.size 1) w' := by
  have hl : vs.length = L.length := by have := hv.1.1; omega
  obtain ⟨h1, h2⟩ := RowC.put hv hr hm hat
  refine ⟨⟨vs ++ [.slice none 0 0], by rw [List.length_append]; exact h1, fun i hi => ?_⟩, h2⟩
  rw [List.length_append, List.length_singleton] at hi
  rcases Nat.lt_or_ge i L.length with h3 | h3
  · obtain ⟨A', c', e, r⟩ := hin i h3
    refine ⟨A', c', ?_, ?_⟩
    · rw [List.getElem?_append_left (by omega), e, List.getElem_append_left h3]
    · rw [List.getElem_append_left h3]; exact r.stay h2 (by omega)
  · obtain rfl : i = L.length := by omega
    refine ⟨none, 0, ?_, ?_⟩
    · rw [List.getElem?_append_right (by omega)]; simp [hl]
    · simp only [List.getElem_append_right (Nat.le_refl _), Nat.sub_self, List.getElem_cons_zero]; exact RowC.nil _ _ _ _ _
theorem LvC.put {i c' cap : Nat} {A A' : Option Addr} {L : List (List Ev)} {c c1 : Nat → Nat} {w w1 : World} (h : LvC w c A cap L) (hi : i < L.length) (k : Chg (10 + i) c w c1 w1) (q' : List Ev) (hr : RowC w1 c1 (10 + i) 51 4 A' q'.length c' (q'.flatMap encE)) :
    ∀ g o, A = some ⟨g, o, none⟩ → LvC (w1.setCell ⟨g, o + i, none⟩ (.slice A' q'.length c')) (paint c1 w1.heap.size 1) A cap (L.set i q') ∧ Chg 1 c1 w1 (paint c1 w1.heap.size 1) (w1.setCell ⟨g, o + i, none⟩ (.slice A' q'.length c')) := by
  intro g o hA
  subst hA
  obtain ⟨vs, hv, hin⟩ := h
  have hl : vs.length = L.length := by have := hv.1.1; omega
  obtain ⟨h1, h2⟩ := RowC.set (hv.stay k (by omega)) i (by omega) (.slice A' q'.length c')
  refine ⟨⟨_, by rw [List.length_set]; exact h1, fun j hj => ?_⟩, h2⟩
  rw [List.length_set] at hj
  by_cases hji : j = i
  · subst hji
    refine ⟨A', c', ?_, ?_⟩
    · rw [List.getElem?_set_self (by omega)]; simp
    · simpa using hr.stay h2 (by omega)
  · obtain ⟨A2, c2, e2, r2⟩ := hin j hj
    refine ⟨A2, c2, ?_, ?_⟩
    · rw [List.getElem?_set_ne (Ne.symm hji), e2, List.getElem_set_ne (Ne.symm hji)]
    · rw [List.getElem_set_ne (Ne.symm hji)]; exact (r2.stay k (by omega)).stay h2 (by omega)
theorem LvC.lv {cap : Nat} {A : Option Addr} {L : List (List Ev)} {c : Nat → Nat} {w : World} (h : LvC w c A cap L) : LvAt w w.heap.size A L := by
  obtain ⟨vs, hv, hin⟩ := h
  refine ⟨vs, hv.1.rd.toB, fun i hi => ?_⟩
  obtain ⟨A', c', e, r⟩ := hin i hi
  exact ⟨A', c', e, r.1.rd.toB, r.1.2.1, r.1.2.2.1⟩
namespace Fo
theorem levU_len (l : List Ev) : (levU l).length ≤ l.length :=
  snoc_ind (p := fun l => (levU l).length ≤ l.length) (Nat.le_refl _) (fun l e h => by
    rw [levU_snoc, addL_len (place_le _ _), List.length_append, List.length_singleton]
    split <;> omega) l
theorem mem_len {L : List (List Ev)} {q : List Ev} (h : q ∈ L) : q.length ≤ L.flatten.length := by
  induction L with
  | nil => cases h
  | cons a L ih =>
    rw [List.flatten_cons, List.length_append]
    rcases List.mem_cons.1 h with rfl | h
    · omega
    · have := ih h; omega
theorem levU_in (l : List Ev) (q : List Ev) (h : q ∈ levU l) : q.length ≤ l.length := by
  have := mem_len h
  rwa [(levU_flat l).length_eq] at this
theorem addL_in {L : List (List Ev)} {n : Nat} (e : Ev) (hn : n < L.length) : addL L n e = L.set n (L[n] ++ [e]) := by
  unfold addL
  rw [if_pos hn, List.getD_eq_getElem?_getD, List.getElem?_eq_getElem hn]
  rfl
theorem addL_end {L : List (List Ev)} (e : Ev) : addL L L.length e = (L ++ [[]]).set L.length ([] ++ [e]) := by
  unfold addL
  rw [if_neg (Nat.lt_irrefl _), List.set_append_right _ _ (Nat.le_refl _)]
  simp
theorem placeAt_hit {L : List (List Ev)} {e : Ev} {m : Nat} (hm : m < L.length) (h : (L[m].any fun x => dep x e) = true) : placeAt L e (m + 1) = m + 1 := by
  unfold placeAt
  rw [List.getD_eq_getElem?_getD, List.getElem?_eq_getElem hm, Option.getD_some, if_pos h]
theorem placeAt_miss {L : List (List Ev)} {e : Ev} {m : Nat} (hm : m < L.length) (h : (L[m].any fun x => dep x e) = false) : placeAt L e (m + 1) = placeAt L e m := by
  conv => lhs; unfold placeAt
  rw [List.getD_eq_getElem?_getD, List.getElem?_eq_getElem hm, Option.getD_some, if_neg (by rw [h]; simp)]
def part (L : List (List Ev)) (i : Nat) : List (List Ev) := (L.take i).map sortT ++ L.drop i
theorem part_len (L : List (List Ev)) (i : Nat) : (part L i).length = L.length := by unfold part; simp; omega
theorem part_zero (L : List (List Ev)) : part L 0 = L := by unfold part; simp
theorem part_all (L : List (List Ev)) : part L L.length = L.map sortT := by unfold part; simp
theorem part_get (L : List (List Ev)) (i : Nat) (hi : i < L.length) : (part L i)[i]'(by rw [part_len]; exact hi) = L[i] := by
  unfold part
  rw [List.getElem_append_right (by simp; omega)]
  simp [Nat.min_eq_left (Nat.le_of_lt hi)]
theorem part_set (L : List (List Ev)) (i : Nat) (hi : i < L.length) : (part L i).set i (sortT L[i]) = part L (i + 1) := by
  have h1 : (List.map sortT (L.take i)).length = i := by simp; omega
  unfold part
  rw [List.set_append_right _ _ (by omega), h1, Nat.sub_self, List.take_add_one, List.getElem?_eq_getElem hi, List.drop_eq_getElem_cons hi, List.set_cons_zero, List.map_append, List.append_assoc]
  rfl
theorem four {q : List Ev} (hd : q.Pairwise (fun a b => a.t ≠ b.t)) (hr : ∀ e ∈ q, 0 ≤ e.t ∧ e.t ≤ 3) : q.length ≤ 4 := by
  have hs := sortT_sorted q
  have hp := sortT_perm q
  have hd' : (sortT q).Pairwise (fun a b => a.t ≠ b.t) := (hp.pairwise_iff (fun {a b} h => Ne.symm h)).2 hd
  have hr' : ∀ e ∈ sortT q, 0 ≤ e.t ∧ e.t ≤ 3 := fun e he => hr e (hp.mem_iff.1 he)
  rw [← hp.length_eq]
  generalize sortT q = s at hs hd' hr'
  rcases Nat.lt_or_ge 4 s.length with h | h
  · exfalso
    unfold SortedT at hs
    rw [List.pairwise_iff_getElem] at hs hd'
    have a0 := hr' s[0] (List.getElem_mem _)
    have a4 := hr' s[4] (List.getElem_mem _)
    have b0 := hs 0 1 (by omega) (by omega) (by omega)
    have b1 := hs 1 2 (by omega) (by omega) (by omega)
    have b2 := hs 2 3 (by omega) (by omega) (by omega)
    have b3 := hs 3 4 (by omega) (by omega) (by omega)
    have c0 := hd' 0 1 (by omega) (by omega) (by omega)
    have c1 := hd' 1 2 (by omega) (by omega) (by omega)
    have c2 := hd' 2 3 (by omega) (by omega) (by omega)
    have c3 := hd' 3 4 (by omega) (by omega) (by omega)
    omega
  · exact h
theorem right_thr {e : Ev} (h : right e = true) : 0 ≤ e.t ∧ e.t ≤ 3 := by
  unfold right at h
  simp only [decide_eq_true_eq] at h
  exact ⟨h.1, h.2.1⟩
theorem level_four {l : List Ev} (hr : rights l = true) (i : Nat) (hi : i < (levU l).length) : (levU l)[i].length ≤ 4 := by
  have hap := (levU_lev l).apart i
  rw [List.getD_eq_getElem?_getD, List.getElem?_eq_getElem hi, Option.getD_some] at hap
  refine four (apart_threads hap) (fun e he => right_thr ?_)
  have : e ∈ (levU l).flatten := List.mem_flatten.2 ⟨_, List.getElem_mem hi, he⟩
  rw [(levU_flat l).mem_iff] at this
  exact List.all_eq_true.1 hr e this
theorem level_sort {l : List Ev} (i : Nat) (hi : i < (levU l).length) {q' : List Ev} (hp : q'.Perm (levU l)[i]) (hs : SortedT q') : q' = sortT (levU l)[i] := by
  have hap := lev_apart l i
  rw [lev_getD, List.getD_eq_getElem?_getD, List.getElem?_eq_getElem hi, Option.getD_some] at hap
  exact (sorted_one ((sortT_perm _).trans hp.symm) (sortT_sorted _) hs (apart_threads hap)).symm
theorem level_ne {l : List Ev} (i : Nat) (hi : i < (levU l).length) : 0 < (levU l)[i].length := by
  have := (levU_lev l).ne i hi
  rw [List.getD_eq_getElem?_getD, List.getElem?_eq_getElem hi, Option.getD_some] at this
  exact List.length_pos_iff.2 this
end Fo
end Go.Proofs.YtckdofjpoajblaaGreat
namespace Go.Proofs.YtckdofjpoajblaaGreat
open Go.RowKit
set_option linter.unusedVariables false
namespace Fo
def highN (l : List Ev) (a : List Nat) (e : Ev) (j : Nat) : Nat := ((l.zip a).take j).foldl (fun n p => if dep p.1 e then max n (p.2 + 1) else n) 0
theorem highN_zero (l : List Ev) (a : List Nat) (e : Ev) : highN l a e 0 = 0 := rfl
theorem highN_all (l : List Ev) (a : List Nat) (e : Ev) (h : a.length = l.length) : highN l a e l.length = high l a e := by
  unfold highN high
  rw [List.take_of_length_le (by rw [List.length_zip]; omega)]
theorem highN_succ {l : List Ev} {a : List Nat} {e : Ev} {j : Nat} (hj : j < l.length) (hj' : j < a.length) : highN l a e (j + 1) = if dep l[j] e then max (highN l a e j) (a[j] + 1) else highN l a e j := by
  unfold highN
  have hz : j < (l.zip a).length := by rw [List.length_zip]; omega
  rw [List.take_add_one, List.getElem?_eq_getElem hz, List.foldl_append]
  simp
theorem highN_le {l : List Ev} {a : List Nat} {e : Ev} {B : Nat} (ha : ∀ x ∈ a, x ≤ B) : ∀ j, highN l a e j ≤ B + 1 := by
  intro j
  unfold highN
  refine foldmax_le _ e 0 (B + 1) ⟨Nat.zero_le _, fun p hp _ => ?_⟩
  have := List.of_mem_zip (List.mem_of_mem_take hp)
  have := ha _ this.2
  omega
theorem ats_le (l : List Ev) : ∀ x ∈ ats l, x ≤ l.length :=
  snoc_ind (p := fun l => ∀ x ∈ ats l, x ≤ l.length) (fun x h => by cases h) (fun l e h x hx => by
    rw [ats_snoc] at hx
    rw [List.length_append, List.length_singleton]
    rcases List.mem_append.1 hx with hx | hx
    · have := h x hx; omega
    · rw [List.mem_singleton] at hx
      rw [hx, ← place_high]
      have := place_le (levU l) e
      have := levU_len l
      omega) l
def insA (e : Ev) (q : List Ev) : List Ev × Bool := q.foldl (fun s x => if !s.2 && decide (e.t < x.t) then (s.1 ++ [e, x], true) else (s.1 ++ [x], s.2)) ([], false)
theorem insA_snoc (e : Ev) (q : List Ev) (x : Ev) : insA e (q ++ [x]) = if !(insA e q).2 && decide (e.t < x.t) then ((insA e q).1 ++ [e, x], true) else ((insA e q).1 ++ [x], (insA e q).2) := by
  unfold insA; rw [List.foldl_append]; rfl
theorem insT_snoc (e x : Ev) : ∀ q : List Ev, (∀ y ∈ q, ¬ e.t < y.t) → insT e (q ++ [x]) = if e.t < x.t then q ++ [e, x] else q ++ [x, e]
  | [], _ => by unfold insT insT; rfl
  | y :: q, h => by
    have h1 : ¬ e.t < y.t := h y (List.mem_cons_self ..)
    rw [List.cons_append, insT, if_neg h1, insT_snoc e x q (fun z hz => h z (List.mem_cons_of_mem _ hz))]
    split <;> rfl
theorem insT_more (e x : Ev) : ∀ q : List Ev, (∃ y ∈ q, e.t < y.t) → insT e (q ++ [x]) = insT e q ++ [x]
  | [], h => by obtain ⟨y, hy, _⟩ := h; cases hy
  | y :: q, h => by
    rw [List.cons_append, insT, insT]
    split
    · rfl
    · rename_i hn
      obtain ⟨z, hz, hlt⟩ := h
      rcases List.mem_cons.1 hz with rfl | hz
      · exact (hn hlt).elim
      · rw [insT_more e x q ⟨z, hz, hlt⟩]; rfl
theorem insA_spec (e : Ev) (q : List Ev) : ((insA e q).2 = false → (insA e q).1 = q ∧ ∀ y ∈ q, ¬ e.t < y.t) ∧ ((insA e q).2 = true → (insA e q).1 = insT e q ∧ ∃ y ∈ q, e.t < y.t) :=
  snoc_ind (p := fun q => ((insA e q).2 = false → (insA e q).1 = q ∧ ∀ y ∈ q, ¬ e.t < y.t) ∧ ((insA e q).2 = true → (insA e q).1 = insT e q ∧ ∃ y ∈ q, e.t < y.t))
    ⟨fun _ => ⟨rfl, fun y hy => by cases hy⟩, fun h => by cases h⟩ (fun q x ih => by
      rw [insA_snoc]
      cases hb : (insA e q).2 with
      | true =>
        obtain ⟨h1, y, hy, hlt⟩ := ih.2 hb
        simp only [Bool.not_true, Bool.false_and, Bool.false_eq_true, if_false]
        exact ⟨fun h => (by cases h), fun _ => ⟨by rw [h1, insT_more e x q ⟨y, hy, hlt⟩], y, List.mem_append_left _ hy, hlt⟩⟩
      | false =>
        obtain ⟨h1, h2⟩ := ih.1 hb
        by_cases hx : e.t < x.t
        · rw [decide_eq_true hx]
          simp only [Bool.not_false, Bool.true_and, if_true]
          refine ⟨fun h => (by cases h), fun _ => ⟨?_, x, by simp, hx⟩⟩
          rw [h1, insT_snoc e x q h2, if_pos hx]
        · rw [decide_eq_false hx]
          simp only [Bool.not_false, Bool.true_and, Bool.false_eq_true, if_false]
          refine ⟨fun _ => ⟨by rw [h1], fun y hy => ?_⟩, fun h => by cases h⟩
          rcases List.mem_append.1 hy with hy | hy
          · exact h2 y hy
          · rw [List.mem_singleton] at hy; subst hy; exact hx) q
theorem insT_end (e : Ev) : ∀ q : List Ev, (∀ y ∈ q, ¬ e.t < y.t) → insT e q = q ++ [e]
  | [], _ => rfl
  | y :: q, h => by
    rw [insT, if_neg (h y (List.mem_cons_self ..)), insT_end e q (fun z hz => h z (List.mem_cons_of_mem _ hz))]
    rfl
theorem insA_end (e : Ev) (q : List Ev) : (if (insA e q).2 = true then (insA e q).1 else (insA e q).1 ++ [e]) = insT e q := by
  cases hb : (insA e q).2 with
  | true => rw [if_pos rfl]; exact ((insA_spec e q).2 hb).1
  | false =>
    obtain ⟨h1, h2⟩ := (insA_spec e q).1 hb
    rw [if_neg (by decide), h1, insT_end e q h2]
theorem insA_len (e : Ev) (q : List Ev) : (insA e q).1.length ≤ q.length + 1 := by
  cases hb : (insA e q).2 with
  | true => rw [((insA_spec e q).2 hb).1, (insT_perm e q).length_eq, List.length_cons]; exact Nat.le_refl _
  | false => rw [((insA_spec e q).1 hb).1]; omega
theorem lev_in (l : List Ev) (e : Ev) (h : high l (ats l) e < (lev l).length) : lev (l ++ [e]) = (lev l).set (high l (ats l) e) (insT e ((lev l).getD (high l (ats l) e) [])) := by
  rw [lev_getD]
  rw [lev_len] at h
  unfold lev
  rw [levU_snoc, place_high]
  generalize high l (ats l) e = n at h ⊢
  rw [addL_in e h, List.map_set, sortT_snoc, List.getD_eq_getElem?_getD, List.getElem?_eq_getElem h]
  rfl
theorem lev_end (l : List Ev) (e : Ev) (h : high l (ats l) e = (lev l).length) : lev (l ++ [e]) = (lev l ++ [[]]).set (high l (ats l) e) (insT e ((lev l ++ [[]]).getD (high l (ats l) e) [])) := by
  rw [h]
  have h2 := h
  rw [lev_len] at h2
  have h3 : (lev l ++ [[]]).getD (lev l).length [] = [] := by simp [List.getD_eq_getElem?_getD]
  rw [h3]
  have h4 : lev (l ++ [e]) = (addL (levU l) (levU l).length e).map sortT := by unfold lev; rw [levU_snoc, place_high, h2]
  rw [h4, addL_end, List.map_set, List.map_append, lev_len]
  rfl
theorem high_le (l : List Ev) (e : Ev) : high l (ats l) e ≤ (lev l).length := by
  rw [← place_high, lev_len]; exact place_le _ _
theorem lev_in_len (l : List Ev) (q : List Ev) (h : q ∈ lev l) : q.length ≤ l.length := by
  have := mem_len h
  rwa [(lev_flat l).length_eq] at this
theorem lev_len_le (l : List Ev) : (lev l).length ≤ l.length := by rw [lev_len]; exact levU_len l
end Fo
def repaint (c : Nat → Nat) (i j : Nat) : Nat → Nat := fun k => if c k = i then j else c k
theorem RowC.re {w : World} {c : Nat → Nat} {i e sz n cap : Nat} {A : Option Addr} {cs : List Value} (h : RowC w c i e sz A n cap cs) (j : Nat) : RowC w (repaint c i j) j e sz A n cap cs :=
  ⟨h.1, fun a ha => by unfold repaint; rw [if_pos (h.2 a ha)]⟩
theorem RowC.re_ne {w : World} {c : Nat → Nat} {i k e sz n cap : Nat} {A : Option Addr} {cs : List Value} (h : RowC w c k e sz A n cap cs) (hk : k ≠ i) (j : Nat) : RowC w (repaint c i j) k e sz A n cap cs :=
  ⟨h.1, fun a ha => by unfold repaint; rw [h.2 a ha, if_neg hk]⟩
theorem LvC.re {w : World} {c : Nat → Nat} {cap : Nat} {A : Option Addr} {L : List (List Ev)} (h : LvC w c A cap L) {i : Nat} (h1 : i ≠ 1) (h2 : i < 10) (j : Nat) : LvC w (repaint c i j) A cap L := by
  obtain ⟨vs, hv, hin⟩ := h
  refine ⟨vs, hv.re_ne (Ne.symm h1) j, fun k hk => ?_⟩
  obtain ⟨A', c', e, r⟩ := hin k hk
  exact ⟨A', c', e, r.re_ne (by omega) j⟩
theorem Fr.re {base : Nat} {c : Nat → Nat} {W w : World} (h : Fr base c W w) {i : Nat} (hi : i ≠ 0) (j : Nat) : Fr base (repaint c i j) W w :=
  ⟨h.1, h.2.1, fun k hk => by unfold repaint; rw [h.2.2 k hk, if_neg (Ne.symm hi)]⟩
end Go.Proofs.YtckdofjpoajblaaGreat
