/- Part 9 of the proof of seqExact_holds: what it rests on. -/
import Derived.Test.YtckdofjpoajblaaGreatZa8
namespace Go.Proofs.YtckdofjpoajblaaGreat
open Go.RowKit
set_option linter.unusedVariables false
namespace Pr
def deed (s : St) (t : Nat) (x : Th) (i : Ins) : St :=
  if i.k = 1 then regs s t x i.r.toNat (s.v i.x.toNat) else if i.k = 2 then { s with v := updI s.v i.x.toNat (x.r i.r.toNat) }
  else if i.k = 3 then regs s t x i.r.toNat i.n else if i.k = 4 then regs s t x i.r.toNat (wrap64 (x.r i.r.toNat + i.n))
  else if i.k = 5 then { s with h := updI s.h i.x.toNat (t : Int) } else if i.k = 6 then (if s.h i.x.toNat = (t : Int) then { s with h := updI s.h i.x.toNat (-1) } else s)
  else if i.k = 7 then (if x.r i.r.toNat = 0 then s else { s with th := s.th.set t { x with pc := i.x.toNat } }) else s
def tick (x : Th) : Th := ⟨x.pc + 1, x.fuel - 1, x.r⟩
def doI (s : St) (t : Nat) (i : Ins) : St :=
  match s.th[t]? with
  | some x => deed { s with th := s.th.set t (tick x) } t (tick x) i
  | none => s
theorem deed1 (s : St) (t : Nat) (x : Th) (q m : Nat) (n : Int) : deed s t x ⟨1, (q : Int), (m : Int), n⟩ = regs s t x q (s.v m) := rfl
theorem deed2 (s : St) (t : Nat) (x : Th) (q m : Nat) (n : Int) : deed s t x ⟨2, (q : Int), (m : Int), n⟩ = { s with v := updI s.v m (x.r q) } := rfl
theorem deed3 (s : St) (t : Nat) (x : Th) (q m : Nat) (n : Int) : deed s t x ⟨3, (q : Int), (m : Int), n⟩ = regs s t x q n := rfl
theorem deed4 (s : St) (t : Nat) (x : Th) (q m : Nat) (n : Int) : deed s t x ⟨4, (q : Int), (m : Int), n⟩ = regs s t x q (wrap64 (x.r q + n)) := rfl
theorem deed5 (s : St) (t : Nat) (x : Th) (q m : Nat) (n : Int) : deed s t x ⟨5, (q : Int), (m : Int), n⟩ = { s with h := updI s.h m (t : Int) } := rfl
theorem deed6 (s : St) (t : Nat) (x : Th) (q m : Nat) (n : Int) : deed s t x ⟨6, (q : Int), (m : Int), n⟩ = (if s.h m = (t : Int) then { s with h := updI s.h m (-1) } else s) := rfl
theorem deed7 (s : St) (t : Nat) (x : Th) (q m : Nat) (n : Int) : deed s t x ⟨7, (q : Int), (m : Int), n⟩ = (if x.r q = 0 then s else { s with th := s.th.set t { x with pc := m } }) := rfl
theorem deed8 (s : St) (t : Nat) (x : Th) (q m : Nat) (n : Int) : deed s t x ⟨8, (q : Int), (m : Int), n⟩ = s := rfl
end Pr
set_option maxRecDepth 100000 in
set_option maxHeartbeats 4000000 in
theorem do_any (w : World) (C : Nat → Prop) (S T : Nat) (s : St) (t : Nat) (i : Ins) (h : SAt w C S T s) (hw : Pr.Wf s) (hi : Pr.ins s t = some i) :
    Calls Tryz.prog 71 #[.pointer (some ⟨S, 0, none⟩), .int .i64 (t : Int), valI i] w fun y w' => y = .returned (.tuple #[]) ∧ SAt w' C S T (Pr.doI s t i) ∧ Mod (fun k => k = S ∨ k = T) w w' := by
  obtain ⟨nI, hn0, hn8, hok⟩ := hw.insOk hi
  obtain ⟨x, hx, hfu⟩ : ∃ x, s.th[t]? = some x ∧ x.fuel ≠ 0 := by
    unfold Pr.ins at hi
    split at hi
    · rename_i x c hx hc
      split at hi
      · cases hi
      · exact ⟨x, hx, by assumption⟩
    · cases hi
  obtain ⟨hf8, hp8⟩ := hw.bnd t x hx
  obtain ⟨f, hf⟩ : ∃ f, x.fuel = f + 1 := ⟨x.fuel - 1, by omega⟩
  have hdo : Pr.doI s t i = Pr.deed { s with th := s.th.set t ⟨x.pc + 1, f, x.r⟩ } t ⟨x.pc + 1, f, x.r⟩ i := by
    unfold Pr.doI
    rw [hx]
    simp only [Pr.tick, hf, Nat.add_sub_cancel]
  obtain ⟨s9, hs9⟩ : ∃ s9, s9 = Pr.doI s t i := ⟨_, rfl⟩
  rw [← hs9] at hdo ⊢
  have hv4 := hw.ok.1.2.1
  have hm2 := hw.ok.1.2.2.2.1
  obtain ⟨k, r, ix, n⟩ := i
  have hk1 := hok.1
  have hk8 := hok.2.1
  have hr0 := hok.2.2.2.2.2.2.1
  have hr1 := hok.2.2.2.2.2.2.2.1
  have hx0 := hok.2.2.2.2.2.1
  simp only at hk1 hk8 hr0 hr1 hx0
  obtain ⟨q, rfl⟩ : ∃ q : Nat, r = q := ⟨r.toNat, by omega⟩
  obtain ⟨m, rfl⟩ : ∃ m : Nat, ix = m := ⟨ix.toNat, by omega⟩
  have hq2 : q < 2 := by omega
  have hmv : k = 1 ∨ k = 2 → m < 4 := fun hk => by have := hok.2.2.2.2.2.2.2.2.2.1 hk; simp only at this; omega
  have hmm : k = 5 ∨ k = 6 → m < 2 := fun hk => by have := hok.2.2.2.2.2.2.2.2.2.2.1 hk; simp only at this; omega
  have hm0 : k = 3 ∨ k = 4 ∨ k = 8 → m = 0 := fun hk => by have := hok.2.2.2.2.2.2.2.2.2.2.2.2 hk; simp only at this; omega
  have hmj : m < 9 := by
    rcases (show k = 1 ∨ k = 2 ∨ k = 3 ∨ k = 4 ∨ k = 5 ∨ k = 6 ∨ k = 7 ∨ k = 8 by omega) with hk | hk | hk | hk | hk | hk | hk | hk
    · have := hmv (.inl hk); omega
    · have := hmv (.inr hk); omega
    · have := hok.2.2.2.2.2.2.2.2.2.2.2.2 (.inl hk); simp only at this; omega
    · have := hok.2.2.2.2.2.2.2.2.2.2.2.2 (.inr (.inl hk)); simp only at this; omega
    · have := hmm (.inl hk); omega
    · have := hmm (.inr hk); omega
    · have := hok.2.2.2.2.2.2.2.2.2.2.2.1 hk; simp only at this; omega
    · have := hok.2.2.2.2.2.2.2.2.2.2.2.2 (.inr (.inr hk)); simp only at this; omega
  obtain ⟨Wz, Z, hWz, hZ, hBz, hZl, hZe⟩ := ins_box w ⟨k, (q : Int), (m : Int), n⟩
  obtain ⟨nn, hnn⟩ : ∃ n, n = s.th.length := ⟨_, rfl⟩
  have htn : t < nn := by rw [hnn]; exact (List.getElem?_eq_some_iff.1 hx).1
  have hl4 : nn ≤ 4 := by rw [hnn]; exact hw.n4
  have HZE := Lib.hid hZe
  have HS := Lib.hid (h.below hBz)
  have HB := Lib.hid hBz
  have HX := Lib.hid hx
  have HTN := Lib.hid hnn.symm
  have HDO := Lib.hid hdo
  have HMV := Lib.hid hmv
  have HMM := Lib.hid hmm
  have HM0 := Lib.hid hm0
  have HF := Lib.hid hf
  have hf7 : f ≤ 7 := by omega
  have HTW := Lib.hid h.lt
  have HZW := Lib.hid (Nat.le_of_eq hZ.symm)
  have HZL := Lib.hid hZl
  have k3 : (0 : Int) ≤ (t : Int) := Int.natCast_nonneg _
  have k4 : (t : Int) < (nn : Int) := by omega
  simp only at hWz
  unfold valI
  simp only
  clear hZe hBz h hx hnn hZl hi hw hfu hdo hs9 hmv hmm hm0 hf hok hv4 hm2 hn0 hn8
  go_enter Tryz.func71, Tryz.ntmps71
  go_upto_region 1 with fail
  rw [← hWz, ← hZ]
  clear hWz hZ
  go_upto_region 2 with fail
  obtain ⟨D, hD⟩ : ∃ D, D = Wz.heap.size := ⟨_, rfl⟩
  obtain ⟨W2, hW2⟩ : ∃ W2, W2 = Wz.alloc (Obj.cells #[.nilFunc, .func (.func 112) #[] #[], .func (.func 113) #[] #[], .func (.func 114) #[] #[], .func (.func 115) #[] #[], .func (.func 116) #[] #[], .func (.func 117) #[] #[], .func (.func 118) #[] #[], .func (.func 119) #[] #[]] 191) := ⟨_, rfl⟩
  rw [← hW2, ← hD]
  have hb2 : Below Wz.heap.size Wz W2 := by rw [hW2]; exact (Below.refl _ _).alloc (Nat.le_refl _) _
  have hDk : W2.heap[D]? = some (.cells #[.nilFunc, .func (.func 112) #[] #[], .func (.func 113) #[] #[], .func (.func 114) #[] #[], .func (.func 115) #[] #[], .func (.func 116) #[] #[], .func (.func 117) #[] #[], .func (.func 118) #[] #[], .func (.func 119) #[] #[]] 191 (0, 0)) := by rw [hW2, hD]; exact heap_alloc_new Wz _
  have HDK := Lib.hid hDk
  have HB2 := Lib.hid hb2
  have hS2 := HS.out.below hb2
  have HS2 := Lib.hid hS2
  have HDW := Lib.hid (Nat.le_of_eq hD.symm)
  clear hD hW2 hb2 hDk hS2 HS
  obtain ⟨PA, pc, tc, _, _, _, z3, _, _, _⟩ := HS2.out.cells
  rw [HTN.out] at z3
  obtain ⟨t0, t1, _⟩ := HS2.out.thread t x HX.out
  rw [HF.out] at t1
  have sl := HS2.out.lt.1
  have tl := HS2.out.lt.2
  have f1 := HS2.out.free.2 (t * 4 + 1)
  obtain ⟨hs3, hm3⟩ := HS2.out.set_fuel HX.out f
  have HS3 := Lib.hid hs3
  have HM3 := Lib.hid hm3
  clear hs3 hm3
  go_upto_region 3 with fail
  have e1 : wrap64 (f : Int) = (f : Int) := IntWalk.wrap64_in _ (by omega)
  try rw [e1]
  obtain ⟨W3, hW3⟩ : ∃ W3, W3 = W2.setCell ⟨T, t * 4 + 1, none⟩ (.int .i64 (f : Int)) := ⟨_, rfl⟩
  rw [← hW3] at HS3 HM3 ⊢
  clear hW3 t0 t1 sl tl f1 e1 z3
  have hx3 : (s.th.set t { x with fuel := f })[t]? = some ⟨x.pc, f, x.r⟩ := by rw [List.getElem?_set_self (List.getElem?_eq_some_iff.1 HX.out).1]
  have HX3 := Lib.hid hx3
  clear hx3
  obtain ⟨PA', pc', tc', _, _, _, z3, _, _, _⟩ := HS3.out.cells
  simp only [List.length_set] at z3
  rw [HTN.out] at z3
  obtain ⟨t0, t1, _⟩ := HS3.out.thread t _ HX3.out
  have sl := HS3.out.lt.1
  have tl := HS3.out.lt.2
  have f1 := HS3.out.free.2 (t * 4)
  obtain ⟨hs4, hm4⟩ := HS3.out.set_pc HX3.out (x.pc + 1)
  simp only [List.set_set] at hs4
  rw [show ((x.pc + 1 : Nat) : Int) = (x.pc : Int) + 1 by omega] at hs4 hm4
  have HS4 := Lib.hid hs4
  have HM4 := Lib.hid hm4
  clear hs4 hm4
  go_upto_region 4 with fail
  have e1 : wrap64 ((x.pc : Int) + 1) = (x.pc : Int) + 1 := IntWalk.wrap64_in _ (by omega)
  try rw [e1]
  obtain ⟨W4, hW4⟩ : ∃ W4, W4 = W3.setCell ⟨T, t * 4, none⟩ (.int .i64 ((x.pc : Int) + 1)) := ⟨_, rfl⟩
  rw [← hW4] at HS4 HM4 ⊢
  clear hW4 t0 t1 sl tl f1 e1 z3
  have hx4 : (s.th.set t ⟨x.pc + 1, f, x.r⟩)[t]? = some ⟨x.pc + 1, f, x.r⟩ := by rw [List.getElem?_set_self (List.getElem?_eq_some_iff.1 HX.out).1]
  have hm24 : Mod (fun k => k = T) W2 W4 := HM3.out.trans HM4.out
  have hzd : ∀ u, Below W4.heap.size W4 u → (∀ j v, W2.cell? ⟨Z, j, none⟩ = some v → u.cell? ⟨Z, j, none⟩ = some v) ∧ (∀ j v, W2.cell? ⟨D, j, none⟩ = some v → u.cell? ⟨D, j, none⟩ = some v) ∧ Z < u.heap.size ∧ D < u.heap.size := fun u hu => by
    have h1 := HTW.out.2
    have h2 := HZW.out
    have h3 := HDW.out
    have h4 := HZL.out
    have h5 := HB2.out.size
    have h6 := hm24.size
    have h7 := hu.size
    have h8 := blk_lt HDK.out
    refine ⟨fun j v hv => ?_, fun j v hv => ?_, by omega, by omega⟩
    · rw [World.cell?_of_block (hu.block Z (by omega)), hm24.cell Z j (by omega) (by omega), hv]
    · rw [World.cell?_of_block (hu.block D (by omega)), hm24.cell D j (by omega) (by omega), hv]
  obtain ⟨y0, y1, y2, y3⟩ := (HZE.out W2 HB2.out).1
  simp only [Nat.zero_add] at y1 y2 y3
  have HZD := Lib.hid hzd
  have HY := Lib.hid (And.intro y0 (And.intro y1 (And.intro y2 y3)))
  have HM24 := Lib.hid hm24
  have HX4 := Lib.hid hx4
  have HL4 := Lib.hid (show (s.th.set t ⟨x.pc + 1, f, x.r⟩).length ≤ 4 by rw [List.length_set, HTN.out]; exact hl4)
  clear hzd y0 y1 y2 y3 hm24 hx4 HX3 HS3 HS2 HX k3 k4 hf8 hp8 htn hl4 hf7
  rcases (show k = 1 ∨ k = 2 ∨ k = 3 ∨ k = 4 ∨ k = 5 ∨ k = 6 ∨ k = 7 ∨ k = 8 by omega) with rfl | rfl | rfl | rfl | rfl | rfl | rfl | rfl
  · refine wp_region_planF (by kernel_rfl) (fun u => Below W4.heap.size W4 u) [7] [(0, .pure), (1, .load), (2, .pure), (3, .load), (4, .pure), (5, .pure), (6, .load), (7, .last)] (by simp only [List.map_cons, List.map_nil, List.getElem?_toArray, List.getElem?_cons_succ, List.getElem?_cons_zero]; rfl) (by kernel_rfl) (fun _ _ d _ _ h => by cases d <;> exact h) ((Below.refl _ _).drew) ?_
    obtain ⟨Wd, hWd⟩ : ∃ z, z = W4.drew := ⟨_, rfl⟩
    rw [← hWd]
    have hbd : Below W4.heap.size W4 Wd := by rw [hWd]; exact (Below.refl _ _).drew
    have HBD := Lib.hid hbd
    clear hWd hbd
    repeat (first
      | (refine plan_pure (v := ?_) (by rfl) (fun w1 => ?_) ?_
         rotate_left
         · go_simp <;> with_reducible rfl
         simp only [Act.put, List.setIfInBounds_toArray, List.set_cons_zero, List.set_cons_succ])
      | (refine plan_off (by rfl) ?_
         simp only [Act.put, List.setIfInBounds_toArray, List.set_cons_zero, List.set_cons_succ])
      | (refine plan_load_off (by rfl) ?_
         simp only [Act.put, List.setIfInBounds_toArray, List.set_cons_zero, List.set_cons_succ])
      | (refine plan_load (v := ?_) (by rfl) (fun w1 hw1 => ?_) ?_
         rotate_left
         · (have q0 := HZD.out w1 hw1
            have a0 := q0.1 _ _ HY.out.1
            have a1 := q0.1 _ _ HY.out.2.1
            have a2 := q0.1 _ _ HY.out.2.2.1
            have a3 := q0.1 _ _ HY.out.2.2.2
            have d0 := q0.2.1 1 _ (cell_blk HDK.out 1)
            have ql := q0.2.2.1
            have qd := q0.2.2.2
            clear q0
            clear hw1
            go_simp <;> with_reducible rfl)
         simp only [Act.put, List.setIfInBounds_toArray, List.set_cons_zero, List.set_cons_succ]))
    have hcall := load_any Wd C S T _ t _ 1 n q m (HS4.out.below HBD.out) HX4.out HL4.out hq2 (HMV.out (.inl rfl))
    have HCALL := Lib.hid hcall
    clear hcall
    refine plan_last ?_
    go_wp2_with fail
    refine HCALL.out.mono ?_
    rintro y w9 ⟨rfl, hsat, hmod⟩
    have HSAT := Lib.hid hsat
    have HMOD := Lib.hid hmod
    clear hsat hmod
    go_wp2_with fail
    repeat (first
      | (refine plan_pure (v := ?_) (by rfl) (fun w1 => ?_) ?_
         rotate_left
         · go_simp <;> with_reducible rfl
         simp only [Act.put, List.setIfInBounds_toArray, List.set_cons_zero, List.set_cons_succ])
      | (refine plan_off (by rfl) ?_
         simp only [Act.put, List.setIfInBounds_toArray, List.set_cons_zero, List.set_cons_succ])
      | (refine plan_load_off (by rfl) ?_
         simp only [Act.put, List.setIfInBounds_toArray, List.set_cons_zero, List.set_cons_succ])
      | (refine plan_load (v := ?_) (by rfl) (fun w1 hw1 => ?_) ?_
         rotate_left
         · (skip
            clear hw1
            go_simp <;> with_reducible rfl)
         simp only [Act.put, List.setIfInBounds_toArray, List.set_cons_zero, List.set_cons_succ]))
    refine plan_end ?_
    go_wp2_with fail
    go_end0
    exact ⟨rfl, by rw [HDO.out, Pr.deed1]; exact HSAT.out, ((((Mod.of_below_size HB.out _).trans (Mod.of_below_size HB2.out _ |>.mono (fun k _ e => e))).trans (HM24.out.mono (fun k _ e => Or.inr e))).trans (Mod.of_below_size HBD.out _)).trans HMOD.out⟩
  · refine wp_region_planF (by kernel_rfl) (fun u => Below W4.heap.size W4 u) [7] [(0, .pure), (1, .load), (2, .pure), (3, .load), (4, .pure), (5, .pure), (6, .load), (7, .last)] (by simp only [List.map_cons, List.map_nil, List.getElem?_toArray, List.getElem?_cons_succ, List.getElem?_cons_zero]; rfl) (by kernel_rfl) (fun _ _ d _ _ h => by cases d <;> exact h) ((Below.refl _ _).drew) ?_
    obtain ⟨Wd, hWd⟩ : ∃ z, z = W4.drew := ⟨_, rfl⟩
    rw [← hWd]
    have hbd : Below W4.heap.size W4 Wd := by rw [hWd]; exact (Below.refl _ _).drew
    have HBD := Lib.hid hbd
    clear hWd hbd
    repeat (first
      | (refine plan_pure (v := ?_) (by rfl) (fun w1 => ?_) ?_
         rotate_left
         · go_simp <;> with_reducible rfl
         simp only [Act.put, List.setIfInBounds_toArray, List.set_cons_zero, List.set_cons_succ])
      | (refine plan_off (by rfl) ?_
         simp only [Act.put, List.setIfInBounds_toArray, List.set_cons_zero, List.set_cons_succ])
      | (refine plan_load_off (by rfl) ?_
         simp only [Act.put, List.setIfInBounds_toArray, List.set_cons_zero, List.set_cons_succ])
      | (refine plan_load (v := ?_) (by rfl) (fun w1 hw1 => ?_) ?_
         rotate_left
         · (have q0 := HZD.out w1 hw1
            have a0 := q0.1 _ _ HY.out.1
            have a1 := q0.1 _ _ HY.out.2.1
            have a2 := q0.1 _ _ HY.out.2.2.1
            have a3 := q0.1 _ _ HY.out.2.2.2
            have d0 := q0.2.1 2 _ (cell_blk HDK.out 2)
            have ql := q0.2.2.1
            have qd := q0.2.2.2
            clear q0
            clear hw1
            go_simp <;> with_reducible rfl)
         simp only [Act.put, List.setIfInBounds_toArray, List.set_cons_zero, List.set_cons_succ]))
    have hcall := store_any Wd C S T _ t _ 2 n q m (HS4.out.below HBD.out) HX4.out HL4.out hq2 (HMV.out (.inr rfl))
    have HCALL := Lib.hid hcall
    clear hcall
    refine plan_last ?_
    go_wp2_with fail
    refine HCALL.out.mono ?_
    rintro y w9 ⟨rfl, hsat, hmod⟩
    have HSAT := Lib.hid hsat
    have HMOD := Lib.hid hmod
    clear hsat hmod
    go_wp2_with fail
    repeat (first
      | (refine plan_pure (v := ?_) (by rfl) (fun w1 => ?_) ?_
         rotate_left
         · go_simp <;> with_reducible rfl
         simp only [Act.put, List.setIfInBounds_toArray, List.set_cons_zero, List.set_cons_succ])
      | (refine plan_off (by rfl) ?_
         simp only [Act.put, List.setIfInBounds_toArray, List.set_cons_zero, List.set_cons_succ])
      | (refine plan_load_off (by rfl) ?_
         simp only [Act.put, List.setIfInBounds_toArray, List.set_cons_zero, List.set_cons_succ])
      | (refine plan_load (v := ?_) (by rfl) (fun w1 hw1 => ?_) ?_
         rotate_left
         · (skip
            clear hw1
            go_simp <;> with_reducible rfl)
         simp only [Act.put, List.setIfInBounds_toArray, List.set_cons_zero, List.set_cons_succ]))
    refine plan_end ?_
    go_wp2_with fail
    go_end0
    exact ⟨rfl, by rw [HDO.out, Pr.deed2]; exact HSAT.out, ((((Mod.of_below_size HB.out _).trans (Mod.of_below_size HB2.out _ |>.mono (fun k _ e => e))).trans (HM24.out.mono (fun k _ e => Or.inr e))).trans (Mod.of_below_size HBD.out _)).trans HMOD.out⟩
  · refine wp_region_planF (by kernel_rfl) (fun u => Below W4.heap.size W4 u) [7] [(0, .pure), (1, .load), (2, .pure), (3, .load), (4, .pure), (5, .pure), (6, .load), (7, .last)] (by simp only [List.map_cons, List.map_nil, List.getElem?_toArray, List.getElem?_cons_succ, List.getElem?_cons_zero]; rfl) (by kernel_rfl) (fun _ _ d _ _ h => by cases d <;> exact h) ((Below.refl _ _).drew) ?_
    obtain ⟨Wd, hWd⟩ : ∃ z, z = W4.drew := ⟨_, rfl⟩
    rw [← hWd]
    have hbd : Below W4.heap.size W4 Wd := by rw [hWd]; exact (Below.refl _ _).drew
    have HBD := Lib.hid hbd
    clear hWd hbd
    repeat (first
      | (refine plan_pure (v := ?_) (by rfl) (fun w1 => ?_) ?_
         rotate_left
         · go_simp <;> with_reducible rfl
         simp only [Act.put, List.setIfInBounds_toArray, List.set_cons_zero, List.set_cons_succ])
      | (refine plan_off (by rfl) ?_
         simp only [Act.put, List.setIfInBounds_toArray, List.set_cons_zero, List.set_cons_succ])
      | (refine plan_load_off (by rfl) ?_
         simp only [Act.put, List.setIfInBounds_toArray, List.set_cons_zero, List.set_cons_succ])
      | (refine plan_load (v := ?_) (by rfl) (fun w1 hw1 => ?_) ?_
         rotate_left
         · (have q0 := HZD.out w1 hw1
            have a0 := q0.1 _ _ HY.out.1
            have a1 := q0.1 _ _ HY.out.2.1
            have a2 := q0.1 _ _ HY.out.2.2.1
            have a3 := q0.1 _ _ HY.out.2.2.2
            have d0 := q0.2.1 3 _ (cell_blk HDK.out 3)
            have ql := q0.2.2.1
            have qd := q0.2.2.2
            clear q0
            clear hw1
            go_simp <;> with_reducible rfl)
         simp only [Act.put, List.setIfInBounds_toArray, List.set_cons_zero, List.set_cons_succ]))
    have hcall := set_any Wd C S T _ t _ 3 n q m (HS4.out.below HBD.out) HX4.out HL4.out hq2 (by have := HM0.out (.inl rfl); omega)
    have HCALL := Lib.hid hcall
    clear hcall
    refine plan_last ?_
    go_wp2_with fail
    refine HCALL.out.mono ?_
    rintro y w9 ⟨rfl, hsat, hmod⟩
    have HSAT := Lib.hid hsat
    have HMOD := Lib.hid hmod
    clear hsat hmod
    go_wp2_with fail
    repeat (first
      | (refine plan_pure (v := ?_) (by rfl) (fun w1 => ?_) ?_
         rotate_left
         · go_simp <;> with_reducible rfl
         simp only [Act.put, List.setIfInBounds_toArray, List.set_cons_zero, List.set_cons_succ])
      | (refine plan_off (by rfl) ?_
         simp only [Act.put, List.setIfInBounds_toArray, List.set_cons_zero, List.set_cons_succ])
      | (refine plan_load_off (by rfl) ?_
         simp only [Act.put, List.setIfInBounds_toArray, List.set_cons_zero, List.set_cons_succ])
      | (refine plan_load (v := ?_) (by rfl) (fun w1 hw1 => ?_) ?_
         rotate_left
         · (skip
            clear hw1
            go_simp <;> with_reducible rfl)
         simp only [Act.put, List.setIfInBounds_toArray, List.set_cons_zero, List.set_cons_succ]))
    refine plan_end ?_
    go_wp2_with fail
    go_end0
    exact ⟨rfl, by rw [HDO.out, Pr.deed3]; exact HSAT.out, ((((Mod.of_below_size HB.out _).trans (Mod.of_below_size HB2.out _ |>.mono (fun k _ e => e))).trans (HM24.out.mono (fun k _ e => Or.inr e))).trans (Mod.of_below_size HBD.out _)).trans HMOD.out⟩
  · refine wp_region_planF (by kernel_rfl) (fun u => Below W4.heap.size W4 u) [7] [(0, .pure), (1, .load), (2, .pure), (3, .load), (4, .pure), (5, .pure), (6, .load), (7, .last)] (by simp only [List.map_cons, List.map_nil, List.getElem?_toArray, List.getElem?_cons_succ, List.getElem?_cons_zero]; rfl) (by kernel_rfl) (fun _ _ d _ _ h => by cases d <;> exact h) ((Below.refl _ _).drew) ?_
    obtain ⟨Wd, hWd⟩ : ∃ z, z = W4.drew := ⟨_, rfl⟩
    rw [← hWd]
    have hbd : Below W4.heap.size W4 Wd := by rw [hWd]; exact (Below.refl _ _).drew
    have HBD := Lib.hid hbd
    clear hWd hbd
    repeat (first
      | (refine plan_pure (v := ?_) (by rfl) (fun w1 => ?_) ?_
         rotate_left
         · go_simp <;> with_reducible rfl
         simp only [Act.put, List.setIfInBounds_toArray, List.set_cons_zero, List.set_cons_succ])
      | (refine plan_off (by rfl) ?_
         simp only [Act.put, List.setIfInBounds_toArray, List.set_cons_zero, List.set_cons_succ])
      | (refine plan_load_off (by rfl) ?_
         simp only [Act.put, List.setIfInBounds_toArray, List.set_cons_zero, List.set_cons_succ])
      | (refine plan_load (v := ?_) (by rfl) (fun w1 hw1 => ?_) ?_
         rotate_left
         · (have q0 := HZD.out w1 hw1
            have a0 := q0.1 _ _ HY.out.1
            have a1 := q0.1 _ _ HY.out.2.1
            have a2 := q0.1 _ _ HY.out.2.2.1
            have a3 := q0.1 _ _ HY.out.2.2.2
            have d0 := q0.2.1 4 _ (cell_blk HDK.out 4)
            have ql := q0.2.2.1
            have qd := q0.2.2.2
            clear q0
            clear hw1
            go_simp <;> with_reducible rfl)
         simp only [Act.put, List.setIfInBounds_toArray, List.set_cons_zero, List.set_cons_succ]))
    have hcall := add_any Wd C S T _ t _ 4 n q m (HS4.out.below HBD.out) HX4.out HL4.out hq2 (by have := HM0.out (.inr (.inl rfl)); omega)
    have HCALL := Lib.hid hcall
    clear hcall
    refine plan_last ?_
    go_wp2_with fail
    refine HCALL.out.mono ?_
    rintro y w9 ⟨rfl, hsat, hmod⟩
    have HSAT := Lib.hid hsat
    have HMOD := Lib.hid hmod
    clear hsat hmod
    go_wp2_with fail
    repeat (first
      | (refine plan_pure (v := ?_) (by rfl) (fun w1 => ?_) ?_
         rotate_left
         · go_simp <;> with_reducible rfl
         simp only [Act.put, List.setIfInBounds_toArray, List.set_cons_zero, List.set_cons_succ])
      | (refine plan_off (by rfl) ?_
         simp only [Act.put, List.setIfInBounds_toArray, List.set_cons_zero, List.set_cons_succ])
      | (refine plan_load_off (by rfl) ?_
         simp only [Act.put, List.setIfInBounds_toArray, List.set_cons_zero, List.set_cons_succ])
      | (refine plan_load (v := ?_) (by rfl) (fun w1 hw1 => ?_) ?_
         rotate_left
         · (skip
            clear hw1
            go_simp <;> with_reducible rfl)
         simp only [Act.put, List.setIfInBounds_toArray, List.set_cons_zero, List.set_cons_succ]))
    refine plan_end ?_
    go_wp2_with fail
    go_end0
    exact ⟨rfl, by rw [HDO.out, Pr.deed4]; exact HSAT.out, ((((Mod.of_below_size HB.out _).trans (Mod.of_below_size HB2.out _ |>.mono (fun k _ e => e))).trans (HM24.out.mono (fun k _ e => Or.inr e))).trans (Mod.of_below_size HBD.out _)).trans HMOD.out⟩
  · refine wp_region_planF (by kernel_rfl) (fun u => Below W4.heap.size W4 u) [7] [(0, .pure), (1, .load), (2, .pure), (3, .load), (4, .pure), (5, .pure), (6, .load), (7, .last)] (by simp only [List.map_cons, List.map_nil, List.getElem?_toArray, List.getElem?_cons_succ, List.getElem?_cons_zero]; rfl) (by kernel_rfl) (fun _ _ d _ _ h => by cases d <;> exact h) ((Below.refl _ _).drew) ?_
    obtain ⟨Wd, hWd⟩ : ∃ z, z = W4.drew := ⟨_, rfl⟩
    rw [← hWd]
    have hbd : Below W4.heap.size W4 Wd := by rw [hWd]; exact (Below.refl _ _).drew
    have HBD := Lib.hid hbd
    clear hWd hbd
    repeat (first
      | (refine plan_pure (v := ?_) (by rfl) (fun w1 => ?_) ?_
         rotate_left
         · go_simp <;> with_reducible rfl
         simp only [Act.put, List.setIfInBounds_toArray, List.set_cons_zero, List.set_cons_succ])
      | (refine plan_off (by rfl) ?_
         simp only [Act.put, List.setIfInBounds_toArray, List.set_cons_zero, List.set_cons_succ])
      | (refine plan_load_off (by rfl) ?_
         simp only [Act.put, List.setIfInBounds_toArray, List.set_cons_zero, List.set_cons_succ])
      | (refine plan_load (v := ?_) (by rfl) (fun w1 hw1 => ?_) ?_
         rotate_left
         · (have q0 := HZD.out w1 hw1
            have a0 := q0.1 _ _ HY.out.1
            have a1 := q0.1 _ _ HY.out.2.1
            have a2 := q0.1 _ _ HY.out.2.2.1
            have a3 := q0.1 _ _ HY.out.2.2.2
            have d0 := q0.2.1 5 _ (cell_blk HDK.out 5)
            have ql := q0.2.2.1
            have qd := q0.2.2.2
            clear q0
            clear hw1
            go_simp <;> with_reducible rfl)
         simp only [Act.put, List.setIfInBounds_toArray, List.set_cons_zero, List.set_cons_succ]))
    have hcall := lock_any Wd C S T _ t _ 5 n q m (HS4.out.below HBD.out) HX4.out HL4.out hq2 (HMM.out (.inl rfl))
    have HCALL := Lib.hid hcall
    clear hcall
    refine plan_last ?_
    go_wp2_with fail
    refine HCALL.out.mono ?_
    rintro y w9 ⟨rfl, hsat, hmod⟩
    have HSAT := Lib.hid hsat
    have HMOD := Lib.hid hmod
    clear hsat hmod
    go_wp2_with fail
    repeat (first
      | (refine plan_pure (v := ?_) (by rfl) (fun w1 => ?_) ?_
         rotate_left
         · go_simp <;> with_reducible rfl
         simp only [Act.put, List.setIfInBounds_toArray, List.set_cons_zero, List.set_cons_succ])
      | (refine plan_off (by rfl) ?_
         simp only [Act.put, List.setIfInBounds_toArray, List.set_cons_zero, List.set_cons_succ])
      | (refine plan_load_off (by rfl) ?_
         simp only [Act.put, List.setIfInBounds_toArray, List.set_cons_zero, List.set_cons_succ])
      | (refine plan_load (v := ?_) (by rfl) (fun w1 hw1 => ?_) ?_
         rotate_left
         · (skip
            clear hw1
            go_simp <;> with_reducible rfl)
         simp only [Act.put, List.setIfInBounds_toArray, List.set_cons_zero, List.set_cons_succ]))
    refine plan_end ?_
    go_wp2_with fail
    go_end0
    exact ⟨rfl, by rw [HDO.out, Pr.deed5]; exact HSAT.out, ((((Mod.of_below_size HB.out _).trans (Mod.of_below_size HB2.out _ |>.mono (fun k _ e => e))).trans (HM24.out.mono (fun k _ e => Or.inr e))).trans (Mod.of_below_size HBD.out _)).trans HMOD.out⟩
  · refine wp_region_planF (by kernel_rfl) (fun u => Below W4.heap.size W4 u) [7] [(0, .pure), (1, .load), (2, .pure), (3, .load), (4, .pure), (5, .pure), (6, .load), (7, .last)] (by simp only [List.map_cons, List.map_nil, List.getElem?_toArray, List.getElem?_cons_succ, List.getElem?_cons_zero]; rfl) (by kernel_rfl) (fun _ _ d _ _ h => by cases d <;> exact h) ((Below.refl _ _).drew) ?_
    obtain ⟨Wd, hWd⟩ : ∃ z, z = W4.drew := ⟨_, rfl⟩
    rw [← hWd]
    have hbd : Below W4.heap.size W4 Wd := by rw [hWd]; exact (Below.refl _ _).drew
    have HBD := Lib.hid hbd
    clear hWd hbd
    repeat (first
      | (refine plan_pure (v := ?_) (by rfl) (fun w1 => ?_) ?_
         rotate_left
         · go_simp <;> with_reducible rfl
         simp only [Act.put, List.setIfInBounds_toArray, List.set_cons_zero, List.set_cons_succ])
      | (refine plan_off (by rfl) ?_
         simp only [Act.put, List.setIfInBounds_toArray, List.set_cons_zero, List.set_cons_succ])
      | (refine plan_load_off (by rfl) ?_
         simp only [Act.put, List.setIfInBounds_toArray, List.set_cons_zero, List.set_cons_succ])
      | (refine plan_load (v := ?_) (by rfl) (fun w1 hw1 => ?_) ?_
         rotate_left
         · (have q0 := HZD.out w1 hw1
            have a0 := q0.1 _ _ HY.out.1
            have a1 := q0.1 _ _ HY.out.2.1
            have a2 := q0.1 _ _ HY.out.2.2.1
            have a3 := q0.1 _ _ HY.out.2.2.2
            have d0 := q0.2.1 6 _ (cell_blk HDK.out 6)
            have ql := q0.2.2.1
            have qd := q0.2.2.2
            clear q0
            clear hw1
            go_simp <;> with_reducible rfl)
         simp only [Act.put, List.setIfInBounds_toArray, List.set_cons_zero, List.set_cons_succ]))
    have hcall := unlock_any Wd C S T _ t _ 6 n q m (HS4.out.below HBD.out) HX4.out HL4.out hq2 (HMM.out (.inr rfl)) _ rfl
    have HCALL := Lib.hid hcall
    clear hcall
    refine plan_last ?_
    go_wp2_with fail
    refine HCALL.out.mono ?_
    rintro y w9 ⟨rfl, hsat, hmod⟩
    have HSAT := Lib.hid hsat
    have HMOD := Lib.hid hmod
    clear hsat hmod
    go_wp2_with fail
    repeat (first
      | (refine plan_pure (v := ?_) (by rfl) (fun w1 => ?_) ?_
         rotate_left
         · go_simp <;> with_reducible rfl
         simp only [Act.put, List.setIfInBounds_toArray, List.set_cons_zero, List.set_cons_succ])
      | (refine plan_off (by rfl) ?_
         simp only [Act.put, List.setIfInBounds_toArray, List.set_cons_zero, List.set_cons_succ])
      | (refine plan_load_off (by rfl) ?_
         simp only [Act.put, List.setIfInBounds_toArray, List.set_cons_zero, List.set_cons_succ])
      | (refine plan_load (v := ?_) (by rfl) (fun w1 hw1 => ?_) ?_
         rotate_left
         · (skip
            clear hw1
            go_simp <;> with_reducible rfl)
         simp only [Act.put, List.setIfInBounds_toArray, List.set_cons_zero, List.set_cons_succ]))
    refine plan_end ?_
    go_wp2_with fail
    go_end0
    exact ⟨rfl, by rw [HDO.out, Pr.deed6]; exact HSAT.out, ((((Mod.of_below_size HB.out _).trans (Mod.of_below_size HB2.out _ |>.mono (fun k _ e => e))).trans (HM24.out.mono (fun k _ e => Or.inr e))).trans (Mod.of_below_size HBD.out _)).trans HMOD.out⟩
  · refine wp_region_planF (by kernel_rfl) (fun u => Below W4.heap.size W4 u) [7] [(0, .pure), (1, .load), (2, .pure), (3, .load), (4, .pure), (5, .pure), (6, .load), (7, .last)] (by simp only [List.map_cons, List.map_nil, List.getElem?_toArray, List.getElem?_cons_succ, List.getElem?_cons_zero]; rfl) (by kernel_rfl) (fun _ _ d _ _ h => by cases d <;> exact h) ((Below.refl _ _).drew) ?_
    obtain ⟨Wd, hWd⟩ : ∃ z, z = W4.drew := ⟨_, rfl⟩
    rw [← hWd]
    have hbd : Below W4.heap.size W4 Wd := by rw [hWd]; exact (Below.refl _ _).drew
    have HBD := Lib.hid hbd
    clear hWd hbd
    repeat (first
      | (refine plan_pure (v := ?_) (by rfl) (fun w1 => ?_) ?_
         rotate_left
         · go_simp <;> with_reducible rfl
         simp only [Act.put, List.setIfInBounds_toArray, List.set_cons_zero, List.set_cons_succ])
      | (refine plan_off (by rfl) ?_
         simp only [Act.put, List.setIfInBounds_toArray, List.set_cons_zero, List.set_cons_succ])
      | (refine plan_load_off (by rfl) ?_
         simp only [Act.put, List.setIfInBounds_toArray, List.set_cons_zero, List.set_cons_succ])
      | (refine plan_load (v := ?_) (by rfl) (fun w1 hw1 => ?_) ?_
         rotate_left
         · (have q0 := HZD.out w1 hw1
            have a0 := q0.1 _ _ HY.out.1
            have a1 := q0.1 _ _ HY.out.2.1
            have a2 := q0.1 _ _ HY.out.2.2.1
            have a3 := q0.1 _ _ HY.out.2.2.2
            have d0 := q0.2.1 7 _ (cell_blk HDK.out 7)
            have ql := q0.2.2.1
            have qd := q0.2.2.2
            clear q0
            clear hw1
            go_simp <;> with_reducible rfl)
         simp only [Act.put, List.setIfInBounds_toArray, List.set_cons_zero, List.set_cons_succ]))
    have hcall := jump_any Wd C S T _ t _ 7 n q m (HS4.out.below HBD.out) HX4.out HL4.out hq2 hmj _ rfl
    have HCALL := Lib.hid hcall
    clear hcall
    refine plan_last ?_
    go_wp2_with fail
    refine HCALL.out.mono ?_
    rintro y w9 ⟨rfl, hsat, hmod⟩
    have HSAT := Lib.hid hsat
    have HMOD := Lib.hid hmod
    clear hsat hmod
    go_wp2_with fail
    repeat (first
      | (refine plan_pure (v := ?_) (by rfl) (fun w1 => ?_) ?_
         rotate_left
         · go_simp <;> with_reducible rfl
         simp only [Act.put, List.setIfInBounds_toArray, List.set_cons_zero, List.set_cons_succ])
      | (refine plan_off (by rfl) ?_
         simp only [Act.put, List.setIfInBounds_toArray, List.set_cons_zero, List.set_cons_succ])
      | (refine plan_load_off (by rfl) ?_
         simp only [Act.put, List.setIfInBounds_toArray, List.set_cons_zero, List.set_cons_succ])
      | (refine plan_load (v := ?_) (by rfl) (fun w1 hw1 => ?_) ?_
         rotate_left
         · (skip
            clear hw1
            go_simp <;> with_reducible rfl)
         simp only [Act.put, List.setIfInBounds_toArray, List.set_cons_zero, List.set_cons_succ]))
    refine plan_end ?_
    go_wp2_with fail
    go_end0
    exact ⟨rfl, by rw [HDO.out, Pr.deed7]; exact HSAT.out, ((((Mod.of_below_size HB.out _).trans (Mod.of_below_size HB2.out _ |>.mono (fun k _ e => e))).trans (HM24.out.mono (fun k _ e => Or.inr e))).trans (Mod.of_below_size HBD.out _)).trans HMOD.out⟩
  · refine wp_region_planF (by kernel_rfl) (fun u => Below W4.heap.size W4 u) [7] [(0, .pure), (1, .load), (2, .pure), (3, .load), (4, .pure), (5, .pure), (6, .load), (7, .last)] (by simp only [List.map_cons, List.map_nil, List.getElem?_toArray, List.getElem?_cons_succ, List.getElem?_cons_zero]; rfl) (by kernel_rfl) (fun _ _ d _ _ h => by cases d <;> exact h) ((Below.refl _ _).drew) ?_
    obtain ⟨Wd, hWd⟩ : ∃ z, z = W4.drew := ⟨_, rfl⟩
    rw [← hWd]
    have hbd : Below W4.heap.size W4 Wd := by rw [hWd]; exact (Below.refl _ _).drew
    have HBD := Lib.hid hbd
    clear hWd hbd
    repeat (first
      | (refine plan_pure (v := ?_) (by rfl) (fun w1 => ?_) ?_
         rotate_left
         · go_simp <;> with_reducible rfl
         simp only [Act.put, List.setIfInBounds_toArray, List.set_cons_zero, List.set_cons_succ])
      | (refine plan_off (by rfl) ?_
         simp only [Act.put, List.setIfInBounds_toArray, List.set_cons_zero, List.set_cons_succ])
      | (refine plan_load_off (by rfl) ?_
         simp only [Act.put, List.setIfInBounds_toArray, List.set_cons_zero, List.set_cons_succ])
      | (refine plan_load (v := ?_) (by rfl) (fun w1 hw1 => ?_) ?_
         rotate_left
         · (have q0 := HZD.out w1 hw1
            have a0 := q0.1 _ _ HY.out.1
            have a1 := q0.1 _ _ HY.out.2.1
            have a2 := q0.1 _ _ HY.out.2.2.1
            have a3 := q0.1 _ _ HY.out.2.2.2
            have d0 := q0.2.1 8 _ (cell_blk HDK.out 8)
            have ql := q0.2.2.1
            have qd := q0.2.2.2
            clear q0
            clear hw1
            go_simp <;> with_reducible rfl)
         simp only [Act.put, List.setIfInBounds_toArray, List.set_cons_zero, List.set_cons_succ]))
    have hcall := assert_any Wd C S T _ t _ 8 n q m (HS4.out.below HBD.out) HX4.out HL4.out hq2 hmj
    have HCALL := Lib.hid hcall
    clear hcall
    refine plan_last ?_
    go_wp2_with fail
    refine HCALL.out.mono ?_
    rintro y w9 ⟨rfl, hsat, hmod⟩
    have HSAT := Lib.hid hsat
    have HMOD := Lib.hid hmod
    clear hsat hmod
    go_wp2_with fail
    repeat (first
      | (refine plan_pure (v := ?_) (by rfl) (fun w1 => ?_) ?_
         rotate_left
         · go_simp <;> with_reducible rfl
         simp only [Act.put, List.setIfInBounds_toArray, List.set_cons_zero, List.set_cons_succ])
      | (refine plan_off (by rfl) ?_
         simp only [Act.put, List.setIfInBounds_toArray, List.set_cons_zero, List.set_cons_succ])
      | (refine plan_load_off (by rfl) ?_
         simp only [Act.put, List.setIfInBounds_toArray, List.set_cons_zero, List.set_cons_succ])
      | (refine plan_load (v := ?_) (by rfl) (fun w1 hw1 => ?_) ?_
         rotate_left
         · (skip
            clear hw1
            go_simp <;> with_reducible rfl)
         simp only [Act.put, List.setIfInBounds_toArray, List.set_cons_zero, List.set_cons_succ]))
    refine plan_end ?_
    go_wp2_with fail
    go_end0
    exact ⟨rfl, by rw [HDO.out, Pr.deed8]; exact HSAT.out, ((((Mod.of_below_size HB.out _).trans (Mod.of_below_size HB2.out _ |>.mono (fun k _ e => e))).trans (HM24.out.mono (fun k _ e => Or.inr e))).trans (Mod.of_below_size HBD.out _)).trans HMOD.out⟩
end Go.Proofs.YtckdofjpoajblaaGreat
namespace Go.Proofs.YtckdofjpoajblaaGreat
open Go.RowKit
set_option linter.unusedVariables false
namespace Pr
def stepE (s : St) (t : Int) : Int := if 0 ≤ t ∧ t < (s.th.length : Int) then (if (next s t.toNat).isNone then 6 else if enabled s t.toNat = false then 9 else 0) else 2
def stepS (s : St) (t : Nat) : St :=
  match ins s t with
  | some i => doI s t i
  | none => s
theorem enabled_next {s : St} {t : Nat} (h : enabled s t = true) : ∃ e i, next s t = some e ∧ ins s t = some i ∧ e = evOf s t i := by
  unfold enabled at h
  cases hn : next s t with
  | none => rw [hn] at h; cases h
  | some e =>
    unfold next at hn
    obtain ⟨i, hi, he⟩ := Option.map_eq_some_iff.1 hn
    exact ⟨e, i, rfl, hi, he.symm⟩
end Pr
theorem SAt.bound {w : World} {C : Nat → Prop} {S T : Nat} {s : St} (h : SAt w C S T s) : SAt w (fun k => C k ∧ k < w.heap.size) S T s := by
  obtain ⟨PA, pc, tc, h1, h2, h3, h4, h5, h6⟩ := h
  exact ⟨PA, pc, tc, h1, h2, h3.bound, fun hk => h4 hk.1, fun hk => h5 hk.1, h6⟩
theorem SAt.widen {w w' : World} {C D : Nat → Prop} {S T : Nat} {s s' : St} (h : SAt w D S T s) (h0 : SAt w' C S T s') (hD : ∀ k, D k → C k) : SAt w C S T s := by
  obtain ⟨PA, pc, tc, h1, h2, h3, h4, h5, h6⟩ := h
  obtain ⟨_, _, _, _, _, _, g4, g5, _⟩ := h0
  exact ⟨PA, pc, tc, h1, h2, h3.imp hD, g4, g5, h6⟩
theorem ev0_box (w : World) : ∃ Wa X, Wa = w.alloc (Obj.cells #[.int .i64 0, .int .i64 0, .int .i64 0, .bool false] 51) ∧ X = w.heap.size ∧ Below w.heap.size w Wa ∧ X < Wa.heap.size ∧ Wa.heap[X]? = some (.cells #[.int .i64 0, .int .i64 0, .int .i64 0, .bool false] 51 (0, 0)) :=
    ⟨_, _, rfl, rfl, (Below.refl _ _).alloc (Nat.le_refl _) _, by simp, heap_alloc_new w _⟩
set_option maxRecDepth 100000 in
set_option maxHeartbeats 2000000 in
theorem step_okB (w : World) (C : Nat → Prop) (S T : Nat) (s : St) (t : Nat) (e : Ev) (h : SAt w C S T s) (hw : Pr.Wf s) (ht : t < s.th.length) (hen : Pr.enabled s t = true) (hnx : Pr.next s t = some e) (hC : ∀ k, C k → k < w.heap.size) :
    Calls Tryz.prog 32 #[.pointer (some ⟨S, 0, none⟩), .int .i64 (t : Int)] w fun x w' => x = .returned (.tuple #[valE e, .int .i64 0]) ∧ SAt w' C S T (Pr.stepS s t) ∧ Mod (fun k => k = S ∨ k = T) w w' := by
  obtain ⟨Wa, X, hWa, hX, hBa, hXl, hXk⟩ := ev0_box w
  have hS := h.below hBa
  have hc1 := is_any Wa C S T s t hS
  rw [decide_eq_true (show (0 : Int) ≤ t ∧ (t : Int) < s.th.length by omega)] at hc1
  have hc2 := next_any Wa C S T s t hS hw ht
  rw [hnx] at hc2
  have hc3 : ∀ u, Below Wa.heap.size Wa u → _ := fun u hu => enabled_any u C S T s t (hS.below hu) hw ht
  rw [hen] at hc3
  obtain ⟨_, i, _, hi, _⟩ := Pr.enabled_next hen
  have hc4 : ∀ u, Below Wa.heap.size Wa u → _ := fun u hu => instr_any u C S T s t (hS.below hu) hw ht
  rw [hi] at hc4
  have hc5 : ∀ u, Below Wa.heap.size Wa u → _ := fun u hu => do_any u C S T s t i (hS.below hu) hw hi
  have hst : Pr.stepS s t = Pr.doI s t i := by unfold Pr.stepS; rw [hi]
  rw [hst]
  simp only [Option.getD_some, Option.isSome_some] at hc2 hc4
  obtain ⟨s', hs'⟩ : ∃ s', s' = Pr.doI s t i := ⟨_, rfl⟩
  rw [← hs'] at hc5 ⊢
  obtain ⟨et, ek, eo, ef⟩ := e
  obtain ⟨ik, ir, ix, im⟩ := i
  simp only [valE, valI] at hc2 hc4 hc5 ⊢
  have HCC := Lib.hid hC
  have HC1 := Lib.hid hc1
  have HC2 := Lib.hid hc2
  have HC3 := Lib.hid hc3
  have HC4 := Lib.hid hc4
  have HC5 := Lib.hid hc5
  have HB := Lib.hid hBa
  have HXK := Lib.hid hXk
  have HXW := Lib.hid (Nat.le_of_eq hX.symm)
  have HST := Lib.hid (And.intro h.lt.1 h.lt.2)
  clear hC hc1 hc2 hc3 hc4 hc5 hBa hXk h hw ht hen hnx hS hi hst hs'
  go_enter Tryz.func32, Tryz.ntmps32
  go_upto_block 0 with fail
  rw [← hWa, ← hX]
  clear hWa hX
  go_wp2_with fail
  refine HC1.out.mono ?_
  rintro y w1 ⟨rfl, rfl⟩
  go_wp2_with fail
  refine HC2.out.mono ?_
  rintro y w2 ⟨rfl, b2⟩
  obtain ⟨Wz, Z, hWz, hZ, hBz, hZl, hZe⟩ := ev_box w2 ⟨et, ek, eo, ef⟩
  simp only at hWz
  have HB2 := Lib.hid (below_at b2 hBz)
  have HZE := Lib.hid hZe
  have HZW := Lib.hid (show Wa.heap.size ≤ Z by rw [hZ]; exact b2.size)
  have HZL := Lib.hid hZl
  clear b2 hBz hZl hZe
  go_upto_block 1 with fail
  rw [← hWz, ← hZ]
  clear hWz hZ
  go_wp2_with fail
  refine (HC3.out Wz HB2.out).mono ?_
  rintro y w3 ⟨rfl, b3⟩
  have HB3 := Lib.hid (below_at HB2.out b3)
  have HZ3 := Lib.hid b3
  clear b3
  go_wp2_with fail
  refine (HC4.out w3 HB3.out).mono ?_
  rintro y w4 ⟨rfl, b4⟩
  obtain ⟨Wy, Y, hWy, hY, hBy, hYl, hYe⟩ := ins_box w4 ⟨ik, ir, ix, im⟩
  simp only at hWy
  have HB4 := Lib.hid (below_at (below_at HB3.out b4) hBy)
  have HZ4 := Lib.hid (below_at (below_at HZ3.out b4) hBy)
  clear b4 hBy
  go_upto_region 11 with fail
  rw [← hWy, ← hY]
  clear hWy hY
  obtain ⟨⟨y0, y1, y2, y3⟩, yl⟩ := hYe Wy (Below.refl _ _)
  simp only [Nat.zero_add] at y1 y2 y3
  clear hYl hYe
  go_wp2_with fail
  refine (HC5.out Wy HB4.out).mono ?_
  rintro y w5 ⟨rfl, hsat, hmod⟩
  obtain ⟨⟨z0, z1, z2, z3⟩, zl⟩ := HZE.out Wy HZ4.out
  simp only [Nat.zero_add] at z1 z2 z3
  have hZF : ¬ (Z = S ∨ Z = T) := by have := HST.out; have := HZW.out; have := HB.out.size; omega
  have hXF : ¬ (X = S ∨ X = T) := by have := HST.out; have := HXW.out; omega
  have z0 := (hmod.cell Z 0 zl hZF).trans z0
  have z1 := (hmod.cell Z 1 zl hZF).trans z1
  have z2 := (hmod.cell Z 2 zl hZF).trans z2
  have z3 := (hmod.cell Z 3 zl hZF).trans z3
  have zl : Z < w5.heap.size := Nat.lt_of_lt_of_le zl hmod.size
  have hX5 := (hmod.block X (by have := HB4.out.size; have := blk_lt HXK.out; omega) hXF).trans ((HB4.out.block X (blk_lt HXK.out)).trans HXK.out)
  obtain ⟨V2, hV2, ⟨d0, d1, d2, d3⟩, hmv⟩ := in4_exit hX5 (.int .i64 et) (.int .i64 ek) (.int .i64 eo) (.bool ef)
  obtain ⟨⟨e0, e1, e2, e3⟩, el, g0, g1, g2, g3⟩ := in4_cells hX5
  have HSAT := Lib.hid hsat
  have HMOD := Lib.hid hmod
  have HV2 := Lib.hid hV2
  have HMV := Lib.hid hmv
  have HXF := Lib.hid hXF
  clear hsat hmod hV2 hmv hX5 hZF hXF y0 y1 y2 y3 yl
  go_wp2_with fail
  rw [← HV2.out]
  refine bodyPost_ret (v := .tuple #[.agg #[.int .i64 et, .int .i64 ek, .int .i64 eo, .bool ef], .int .i64 0]) (by simp [results, Tryz.results32, go_sem, d0, d1, d2, d3]) rfl ?_
  refine ⟨rfl, HSAT.out.mod HMV.out (fun k hk e => by have := HCC.out k hk; have := HXW.out; omega) (fun e => HXF.out (.inl e.symm)) (fun e => HXF.out (.inr e.symm)), ?_⟩
  have m1 : Mod (fun k => k = S ∨ k = T) w Wy := Mod.of_below_size (below_at HB.out HB4.out) _
  exact (m1.trans HMOD.out).then (HMV.out.mono (G := fun k => k = X) (fun k _ e => e)) (fun k hk e => by have := HXW.out; omega)
theorem step_ok (w : World) (C : Nat → Prop) (S T : Nat) (s : St) (t : Nat) (e : Ev) (h : SAt w C S T s) (hw : Pr.Wf s) (ht : t < s.th.length) (hen : Pr.enabled s t = true) (hnx : Pr.next s t = some e) :
    Calls Tryz.prog 32 #[.pointer (some ⟨S, 0, none⟩), .int .i64 (t : Int)] w fun x w' => x = .returned (.tuple #[valE e, .int .i64 0]) ∧ SAt w' C S T (Pr.stepS s t) ∧ Mod (fun k => k = S ∨ k = T) w w' :=
  (step_okB w _ S T s t e h.bound hw ht hen hnx (fun k hk => hk.2)).mono fun x w' hh => ⟨hh.1, hh.2.1.widen h (fun k hk => hk.1), hh.2.2⟩
end Go.Proofs.YtckdofjpoajblaaGreat
namespace Go.Proofs.YtckdofjpoajblaaGreat
open Go.RowKit
set_option linter.unusedVariables false
theorem int_cell {w : World} {B : Nat} {A : Option Addr} {ks : List Int} (h : RdB w B 1 A ks.length (ks.map iv)) : ∀ (k : Nat) (s : Int), ks[k]? = some s → ∃ g o, A = some ⟨g, o, none⟩ ∧ g < B ∧ ∀ u, Below B w u → u.cell? ⟨g, o + k, none⟩ = some (.int .i64 s) := fun k s hs => by
  obtain ⟨hk, rfl⟩ := List.getElem?_eq_some_iff.1 hs
  obtain ⟨g, o, hA, hg, hc⟩ := h.2 (by omega)
  refine ⟨g, o, hA, hg, fun u hu => ?_⟩
  rw [World.cell?_of_block (hu.block g hg), hc k (by omega), List.getElem?_map, List.getElem?_eq_getElem hk]
  rfl
end Go.Proofs.YtckdofjpoajblaaGreat
namespace Go.Proofs.YtckdofjpoajblaaGreat
open Go.RowKit
set_option linter.unusedVariables false
namespace Pr
theorem deed_th (s : St) (t : Nat) (x : Th) (i : Ins) (hx : s.th[t]? = some x) (hf : x.fuel ≤ 8) (hp : x.pc ≤ 8) (hj : i.k = 7 → i.x ≤ 8) : ∃ y : Th, (deed s t x i).th = s.th.set t y ∧ y.fuel ≤ 8 ∧ y.pc ≤ 8 ∧ (deed s t x i).p = s.p := by
  have hself : s.th = s.th.set t x := by
    refine List.ext_getElem? fun j => ?_
    by_cases h : j = t
    · subst h; rw [List.getElem?_set_self (List.getElem?_eq_some_iff.1 hx).1, hx]
    · rw [List.getElem?_set_ne (fun e => h e.symm)]
  unfold deed
  split
  · exact ⟨_, rfl, hf, hp, rfl⟩
  · split
    · exact ⟨x, hself, hf, hp, rfl⟩
    · split
      · exact ⟨_, rfl, hf, hp, rfl⟩
      · split
        · exact ⟨_, rfl, hf, hp, rfl⟩
        · split
          · exact ⟨x, hself, hf, hp, rfl⟩
          · split
            · split
              · exact ⟨x, hself, hf, hp, rfl⟩
              · exact ⟨x, hself, hf, hp, rfl⟩
            · split
              · split
                · exact ⟨x, hself, hf, hp, rfl⟩
                · rename_i h7 _
                  exact ⟨_, rfl, hf, by have := hj h7; simp only; omega, rfl⟩
              · exact ⟨x, hself, hf, hp, rfl⟩
theorem doI_wf {s : St} {t : Nat} {i : Ins} (hw : Wf s) (hi : ins s t = some i) : Wf (doI s t i) ∧ (doI s t i).p = s.p ∧ (doI s t i).th.length = s.th.length := by
  obtain ⟨n, hn0, hn8, hok⟩ := hw.insOk hi
  have hi' := hi
  unfold ins at hi
  split at hi
  · rename_i x c hx hc
    split at hi
    · cases hi
    · have hpc : x.pc < c.length := (List.getElem?_eq_some_iff.1 hi).1
      have h8 := hw.q8 hc
      obtain ⟨hf, hp⟩ := hw.bnd t x hx
      have hlt := (List.getElem?_eq_some_iff.1 hx).1
      have hx2 : (s.th.set t (tick x))[t]? = some (tick x) := by rw [List.getElem?_set_self hlt]
      obtain ⟨y, h1, h2, h3, h4⟩ := deed_th { s with th := s.th.set t (tick x) } t (tick x) i hx2 (by simp [tick]; omega) (by simp [tick]; omega) (fun h7 => by have := hok.2.2.2.2.2.2.2.2.2.2.2.1 h7; omega)
      have hd : doI s t i = deed { s with th := s.th.set t (tick x) } t (tick x) i := by unfold doI; rw [hx]
      rw [hd]
      simp only [List.set_set] at h1
      refine ⟨⟨by rw [h4]; exact hw.ok, by rw [h1, h4, List.length_set]; exact hw.len, fun t' x' hx' => ?_⟩, h4, by rw [h1, List.length_set]⟩
      rw [h1] at hx'
      by_cases ht : t' = t
      · subst ht
        rw [List.getElem?_set_self hlt] at hx'
        injection hx' with hx'
        subst hx'
        exact ⟨h2, h3⟩
      · rw [List.getElem?_set_ne (fun e => ht e.symm)] at hx'
        exact hw.bnd t' x' hx'
  · cases hi
theorem stepS_wf {s : St} (t : Nat) (hw : Wf s) : Wf (stepS s t) ∧ (stepS s t).p = s.p ∧ (stepS s t).th.length = s.th.length := by
  unfold stepS
  split
  · rename_i i hi; exact doI_wf hw hi
  · exact ⟨hw, rfl, rfl⟩
def run : St → List Int → Except Int (St × List Ev)
  | s, [] => .ok (s, [])
  | s, t :: r => if stepE s t = 0 then (match run (stepS s t.toNat) r with
    | .ok (s', l) => .ok (s', ((next s t.toNat).getD zeroE) :: l)
    | .error e => .error e) else .error (stepE s t)
def few (p : Pg) : Bool := p.code.all (fun q => decide (q.length ≤ 50)) && decide (p.code.length ≤ 20)
end Pr
set_option maxRecDepth 100000 in
set_option maxHeartbeats 2000000 in
theorem fewP_any (w : World) (p : Pg) (A : Option Addr) (cap : Nat) (hcd : CdAt w (fun k => k < w.heap.size) A p.code) (hl : p.code.length ≤ maxLen) (hq : ∀ q ∈ p.code, q.length ≤ maxLen) :
    Calls Tryz.prog 18 #[valP p A cap] w fun x w' => x = .returned (.bool (Pr.few p)) ∧ Below w.heap.size w w' := by
  obtain ⟨pv, pm, L⟩ := p
  unfold valP
  simp only at hcd hl hq ⊢
  have hll : L.length < 9223372036854775808 := by unfold maxLen at hl; omega
  obtain ⟨W, X, hW, hX, hB, hXl, hXe⟩ := pg_box w pv pm A L.length cap
  have HX := Lib.hid hXe
  have HB := Lib.hid hB
  have HCD := Lib.hid hcd
  have HQ := Lib.hid hq
  clear hB hXe hcd hq hl
  go_enter Tryz.func18, Tryz.ntmps18
  go_upto_region 1 with fail
  rw [← hW, ← hX]
  clear hW hX
  go_wp2_with fail
  go_loopw [3] (fun v wr => ∃ k : Nat, k ≤ L.length ∧ v = .int .i64 k ∧ Hid (∀ q ∈ L.take k, q.length ≤ 50) ∧ Hid (Below W.heap.size W wr)) (fun v _ => L.length - (intOf v).toNat)
  case atStart => exact ⟨0, Nat.zero_le _, rfl, Lib.hid (fun q h => by simp at h), Lib.hid (Below.refl _ _)⟩
  case round =>
    obtain ⟨k, hk, rfl, HOK, HW⟩ := hrel
    obtain ⟨x0, x1, x2, xl⟩ := HX.out wr HW.out
    by_cases hlt : k < L.length
    · obtain ⟨q, hq⟩ := get_some hlt
      obtain ⟨g, o, A', c', rfl, hg, hlg, hrq, hqc, hcm, hcell⟩ := HCD.out.get k q hq
      have ca := hcell wr (((below_at HB.out HW.out).block g hlg))
      have lg : g < wr.heap.size := by have := (below_at HB.out HW.out).size; omega
      have hqm := HQ.out q (List.mem_of_getElem? hq)
      have hql : q.length < 9223372036854775808 := by unfold maxLen at hqm; omega
      have k1 : (0 : Int) ≤ (k : Int) := Int.natCast_nonneg _
      have k2 : (k : Int) < (L.length : Int) := by omega
      have HQI := Lib.hid hq
      clear hq hcell hrq hqm
      by_cases h50 : q.length ≤ 50
      · have h1 : ¬ (50 : Int) < (q.length : Int) := by omega
        have h2 : decide (50 < q.length) = false := by simp; omega
        go_wp2_with fail
        go_roundw
        case rel => exact ⟨k + 1, by omega, by go_num, Lib.hid (fun p hp => by
          rw [List.take_add_one, HQI.out] at hp
          rcases List.mem_append.1 hp with h | h
          · exact HOK.out p h
          · simp at h; subst h; exact h50), HW⟩
        case measure => simp [intOf]; omega
      · have h1 : (50 : Int) < (q.length : Int) := by omega
        have h2 : decide (50 < q.length) = true := by simp; omega
        go_wp2_with fail
        go_ret
        have hf : Pr.few ⟨pv, pm, L⟩ = false := by
          unfold Pr.few
          rw [Bool.and_eq_false_iff]
          refine .inl (List.all_eq_false.2 ⟨q, List.mem_of_getElem? HQI.out, by simp; omega⟩)
        exact ⟨by rw [hf]; rfl, below_at HB.out HW.out⟩
    · have hkl : k = L.length := by omega
      have hok := HOK.out
      rw [hkl, List.take_length] at hok
      have hf : Pr.few ⟨pv, pm, L⟩ = decide ((L.length : Int) ≤ 20) := by
        unfold Pr.few
        rw [List.all_eq_true.2 (fun q hq => by simpa using hok q hq), Bool.true_and]
        exact decide_eq_decide.2 (by simp only; omega)
      obtain ⟨b, hb⟩ : ∃ b, b = decide ((L.length : Int) ≤ 20) := ⟨_, rfl⟩
      rw [← hb] at hf
      have HF := Lib.hid hf
      have HBB := Lib.hid hb
      clear hok hf hb hkl
      by_cases h20 : (L.length : Int) ≤ 20
      · have hd : decide (L.length ≤ 20) = true := by simp; omega
        go_wp2_with fail
        go_ret
        exact ⟨by rw [HF.out, HBB.out, decide_eq_true h20]; rfl, below_at HB.out HW.out⟩
      · have hd : decide (L.length ≤ 20) = false := by simp; omega
        go_wp2_with fail
        go_ret
        exact ⟨by rw [HF.out, HBB.out, decide_eq_false (by omega)]; rfl, below_at HB.out HW.out⟩
end Go.Proofs.YtckdofjpoajblaaGreat
namespace Go.Proofs.YtckdofjpoajblaaGreat
open Go.RowKit
set_option linter.unusedVariables false
end Go.Proofs.YtckdofjpoajblaaGreat
namespace Go.Proofs.YtckdofjpoajblaaGreat
open Go.RowKit
set_option linter.unusedVariables false
set_option maxRecDepth 100000 in
set_option maxHeartbeats 4000000 in
theorem refPrintL_any (w : World) (A : Option Addr) (cap : Nat) (L : List (List Ev)) (h : LvAt w w.heap.size A L) (hl : L.length ≤ 1000000) (ht : L.flatten.length ≤ 1000000) :
    Calls Tryz.prog 156 #[.slice A L.length cap] w fun x w' => x = .returned (.string ⟨(Fo.printL L).toArray⟩) ∧ Below w.heap.size w w' := by
  have hcall := refRightL_any w A cap L h hl ht
  have hno : Fo.okL L = false → Fo.printL L = [] := fun e => by unfold Fo.printL; rw [if_neg (by rw [e]; decide)]
  have hyes : Fo.okL L = true → Fo.printL L = Fo.encP L ++ [0] ∧ ∀ q ∈ L, q.length ≤ 4 ∧ Fo.rights q = true := fun hk => ⟨by unfold Fo.printL; rw [if_pos hk]; rfl, fun q hq => (Fo.okL_mem hk hq).2⟩
  have hel : ∀ k, (Fo.encP (L.take k)).length ≤ 2000000 := fun k => by have := Fo.encP_len (L := L) k; omega
  generalize Fo.okL L = b at *
  generalize Fo.printL L = P at *
  have HL := Lib.hid h
  have HC1 := Lib.hid hcall
  have HNO := Lib.hid hno
  have HYES := Lib.hid hyes
  have HEL := Lib.hid hel
  clear h hcall hno hyes ht hel
  go_enter Tryz.func156, Tryz.ntmps156
  go_wp2_with fail
  refine HC1.out.mono ?_
  rintro x w1 ⟨rfl, b1⟩
  have HB1 := Lib.hid b1
  clear b1
  cases b with
  | false =>
    go_wp2_with fail
    go_ret
    exact ⟨by rw [HNO.out (by trivial)]; rfl, HB1.out⟩
  | true =>
    obtain ⟨h1, h2⟩ := HYES.out (by trivial)
    have HP := Lib.hid h1
    have HQ := Lib.hid h2
    clear h1 h2
    go_wp2_with fail
    go_loopw [3, 4] (fun v3 v wr => ∃ k : Nat, k ≤ L.length ∧ v = .int .i64 k ∧ v3 = .string ⟨(Fo.encP (L.take k)).toArray⟩ ∧ Below w.heap.size w wr) (fun _ v _ => L.length - (intOf v).toNat)
    case atStart => exact ⟨0, Nat.zero_le _, rfl, rfl, HB1.out⟩
    case round =>
      obtain ⟨k, hk, rfl, rfl, hbw⟩ := hrel
      by_cases hlt : k < L.length
      · obtain ⟨g, o, A', c', hA, hg, hP, hcl⟩ := HL.out.cell k hlt
        subst hA
        have v0 := hcl wr hbw
        have k1 : (0 : Int) ≤ (k : Int) := Int.natCast_nonneg _
        have k2 : (k : Int) < (L.length : Int) := by omega
        have hsn := Fo.encP_succ hlt
        obtain ⟨hq4, hqr⟩ := HQ.out L[k] (List.getElem_mem hlt)
        have hpr : ∀ u, Below w.heap.size w u → Calls Tryz.prog 201 #[.slice A' L[k].length c'] u fun x w' => x = .returned (.string ⟨(Fo.bytes L[k]).toArray⟩) ∧ Below u.heap.size u w' := fun u hu => by
          have := refPrint_any u A' c' L[k] ((hP.below hu).mono hu.size) (by omega)
          rwa [prE_right hqr] at this
        have hu8 := u8_conv L[k].length (by omega)
        have hel := HEL.out k
        generalize L[k] = q at v0 hsn hq4 hpr hu8
        generalize Fo.encP (L.take k) = E at hsn hel
        have HPR := Lib.hid hpr
        have HSN := Lib.hid hsn
        have HBW := Lib.hid hbw
        have hwr : IntKind.u8.wrap (q.length : Int) = (q.length : Int) := by unfold IntKind.wrap; simp [IntKind.bits, IntKind.signed]; omega
        have lg : g < wr.heap.size := by have := hbw.size; omega
        have hrow : ∀ V : World, Row (V.alloc (Obj.cells #[.int .u8 (q.length : Int)] 5)) 5 1 (some ⟨V.heap.size, 0, none⟩) 1 1 (byteVs [UInt8.ofNat q.length]) := fun V => by
          rw [hu8]
          exact ⟨rfl, Nat.le_refl _, by unfold maxLen; omega, fun h => (by cases h), fun a ha => by injection ha with ha; subst ha; exact ⟨rfl, _, heap_alloc_new V _, by simp, rfl⟩⟩
        have hconv : ∀ V u : World, Mod (fun _ => False) (V.alloc (Obj.cells #[.int .u8 (q.length : Int)] 5)) u → (convert 43 9 (.slice (some ⟨V.heap.size, 0, none⟩) 1 1)).run Tryz.prog u = .ok (.string ⟨#[UInt8.ofNat q.length]⟩) u := fun V u hu =>
          conv_bytes ((hrow V).mod hu (fun _ _ => id)) 43 9 Tryz.underlying43 Tryz.underlying5 Tryz.underlying9
        have hfin : Value.string (⟨E.toArray⟩ ++ (⟨#[UInt8.ofNat q.length]⟩ ++ ⟨(Fo.bytes q).toArray⟩)) = .string ⟨(E ++ [UInt8.ofNat q.length] ++ Fo.bytes q).toArray⟩ := by
          congr 1
          apply ByteArray.ext
          apply Array.toList_inj.1
          simp [ByteArray.data_append]
        have HCV := Lib.hid hconv
        have HFIN := Lib.hid hfin
        generalize UInt8.ofNat q.length = u8 at HSN HCV HFIN
        have z0 : ByteArray.size ⟨E.toArray⟩ ≤ 2000000 := by simpa [ByteArray.size] using hel
        have z1 : ByteArray.size ⟨#[u8]⟩ = 1 := rfl
        have z2 : ByteArray.size ⟨(Fo.bytes q).toArray⟩ ≤ 4 := by unfold Fo.bytes; simp [ByteArray.size]; omega
        generalize (⟨#[u8]⟩ : ByteArray) = t1 at HCV HFIN z1
        generalize (⟨(Fo.bytes q).toArray⟩ : ByteArray) = t2 at HPR HFIN z2
        generalize (⟨E.toArray⟩ : ByteArray) = t0 at HFIN z0 ⊢
        have s1 : ¬ (9223372036854775807 < t1.size + t2.size) := by omega
        have s2 : ¬ (9223372036854775807 < t0.size + (t1.size + t2.size)) := by omega
        have s3 : ¬ (9223372036854775807 < t0.size + (t1 ++ t2).size) := by rw [ByteArray.size_append]; omega
        clear z0 z1 z2 hel
        clear hpr hsn hbw hcl hP hqr hrow hconv hu8 hfin
        go_wp2_with fail
        refine wp_region_pt (by kernel_rfl) (fun u => Mod (fun _ => False) wr u) [] (.cons 0 .pure (.cons 1 .pure (.cons 2 .pure (.cons 3 .pure (.cons 4 .load (.cons 5 .pure (.cons 6 .pure (.cons 9 .pure (.cons 10 .pure (.cons 11 .pure (.cons 12 .load (.fork 7 (.cons 8 .load (.cons 13 .eff (.cons 14 .pure (.cons 15 .pure (.cons 16 .pure .nil))))) 13 (.cons 7 .eff (.cons 8 .load (.cons 14 .pure (.cons 15 .pure (.cons 16 .pure .nil))))))))))))))))) (by simp only [PT.map, List.getElem?_toArray, List.getElem?_cons_succ, List.getElem?_cons_zero]; rfl) (by kernel_rfl) (fun _ _ d _ _ h => by cases d <;> exact h) ((Mod.refl _ _).drew) ?_
        repeat (first
          | (refine pt_pure (v := ?_) (by rfl) (fun w1 => ?_) ?_
             rotate_left
             · go_simp <;> with_reducible rfl
             simp only [Act.put, List.setIfInBounds_toArray, List.set_cons_zero, List.set_cons_succ])
          | (refine pt_off (by rfl) ?_
             simp only [Act.put, List.setIfInBounds_toArray, List.set_cons_zero, List.set_cons_succ])
          | (refine pt_load_off (by rfl) ?_
             simp only [Act.put, List.setIfInBounds_toArray, List.set_cons_zero, List.set_cons_succ])
          | (refine pt_load (v := ?_) (by rfl) (fun w1 hw1 => ?_) ?_
             rotate_left
             · (have q0 := (hw1.cell g (o + k) lg id).trans v0
                clear hw1
                go_simp <;> with_reducible rfl)
             simp only [Act.put, List.setIfInBounds_toArray, List.set_cons_zero, List.set_cons_succ]))
        refine pt_fork ?_ ?_
        · go_wp2_with fail
          refine pt_on (S' := fun u => Mod (fun _ => False) (wr.alloc (Obj.cells #[.int .u8 (q.length : Int)] 5)) u) (fun u h => ((Mod.refl _ _).alloc _).trans h) (by first | exact Mod.refl _ _ | exact (Mod.refl _ _).drew) ?_
          repeat (first
            | (refine pt_pure (v := ?_) (by rfl) (fun w1 => ?_) ?_
               rotate_left
               · go_simp <;> with_reducible rfl
               simp only [Act.put, List.setIfInBounds_toArray, List.set_cons_zero, List.set_cons_succ])
            | (refine pt_off (by rfl) ?_
               simp only [Act.put, List.setIfInBounds_toArray, List.set_cons_zero, List.set_cons_succ])
            | (refine pt_load_off (by rfl) ?_
               simp only [Act.put, List.setIfInBounds_toArray, List.set_cons_zero, List.set_cons_succ])
            | (refine pt_load (v := ?_) (by rfl) (fun w1 hw1 => ?_) ?_
               rotate_left
               · (have q0 := HCV.out wr w1 hw1
                  clear hw1
                  go_simp <;> with_reducible rfl)
               simp only [Act.put, List.setIfInBounds_toArray, List.set_cons_zero, List.set_cons_succ]))
          refine pt_eff ?_
          go_wp2_with fail
          refine (HPR.out _ (by first | exact (HBW.out.alloc HBW.out.size _).drew | exact (HBW.out.drew).alloc HBW.out.size _)).mono ?_
          rintro x w7 ⟨rfl, b7⟩
          have HB7 := Lib.hid (below_at (w := w) (by first | exact (HBW.out.alloc HBW.out.size _).drew | exact (HBW.out.drew).alloc HBW.out.size _) b7)
          have hm7 : Mod (fun _ => False) (wr.alloc (Obj.cells #[.int .u8 (q.length : Int)] 5)) w7 := (Mod.refl (fun _ => False) (wr.alloc (Obj.cells #[.int .u8 (q.length : Int)] 5))).drew.trans ((Mod.of_below_size b7 (fun _ => False)))
          clear b7
          go_wp2_with fail
          refine pt_on (S' := fun u => Mod (fun _ => False) w7 u) (fun u h => hm7.trans h) (Mod.refl _ _) ?_
          repeat (first
            | (refine pt_pure (v := ?_) (by rfl) (fun w1 => ?_) ?_
               rotate_left
               · go_simp <;> with_reducible rfl
               simp only [Act.put, List.setIfInBounds_toArray, List.set_cons_zero, List.set_cons_succ])
            | (refine pt_off (by rfl) ?_
               simp only [Act.put, List.setIfInBounds_toArray, List.set_cons_zero, List.set_cons_succ])
            | (refine pt_load_off (by rfl) ?_
               simp only [Act.put, List.setIfInBounds_toArray, List.set_cons_zero, List.set_cons_succ])
            | (refine pt_load (v := ?_) (by rfl) (fun w1 hw1 => ?_) ?_
               rotate_left
               · (skip
                  clear hw1
                  go_simp <;> with_reducible rfl)
               simp only [Act.put, List.setIfInBounds_toArray, List.set_cons_zero, List.set_cons_succ]))
          refine pt_end ?_
          go_wp2_with fail
          go_roundw
          case rel => exact ⟨k + 1, by omega, by go_num, by rw [HSN.out]; exact HFIN.out, HB7.out⟩
          case measure => simp [intOf]; omega
        · go_wp2_with fail
          refine (HPR.out _ HBW.out.drew).mono ?_
          rintro x w7 ⟨rfl, b7⟩
          have HB7 := Lib.hid (below_at HBW.out.drew b7)
          have hm7 : Mod (fun _ => False) wr w7 := (Mod.refl (fun _ => False) wr).drew.trans (Mod.of_below_size b7 (fun _ => False))
          have v7 := (World.cell?_of_block (b7.block g lg)).trans v0
          clear b7
          go_wp2_with fail
          refine pt_on (S' := fun u => Mod (fun _ => False) w7 u) (fun u h => hm7.trans h) (Mod.refl _ _) ?_
          refine pt_eff ?_
          go_wp2_with fail
          refine pt_on (S' := fun u => Mod (fun _ => False) (w7.alloc (Obj.cells #[.int .u8 (q.length : Int)] 5)) u) (fun u h => ((Mod.refl _ _).alloc _).trans h) (by first | exact Mod.refl _ _ | exact (Mod.refl _ _).drew) ?_
          repeat (first
            | (refine pt_pure (v := ?_) (by rfl) (fun w1 => ?_) ?_
               rotate_left
               · go_simp <;> with_reducible rfl
               simp only [Act.put, List.setIfInBounds_toArray, List.set_cons_zero, List.set_cons_succ])
            | (refine pt_off (by rfl) ?_
               simp only [Act.put, List.setIfInBounds_toArray, List.set_cons_zero, List.set_cons_succ])
            | (refine pt_load_off (by rfl) ?_
               simp only [Act.put, List.setIfInBounds_toArray, List.set_cons_zero, List.set_cons_succ])
            | (refine pt_load (v := ?_) (by rfl) (fun w1 hw1 => ?_) ?_
               rotate_left
               · (have q0 := HCV.out w7 w1 hw1
                  clear hw1
                  go_simp <;> with_reducible rfl)
               simp only [Act.put, List.setIfInBounds_toArray, List.set_cons_zero, List.set_cons_succ]))
          refine pt_end ?_
          go_wp2_with fail
          go_roundw
          case rel => exact ⟨k + 1, by omega, by go_num, by rw [HSN.out]; exact HFIN.out, by first | exact HB7.out.alloc HB7.out.size _ | exact (HB7.out.alloc HB7.out.size _).drew⟩
          case measure => simp [intOf]; omega
      · have hkn : k = L.length := by omega
        have hel := HEL.out k
        rw [hkn, List.take_length] at hel ⊢
        have hrow : Row (wr.alloc (Obj.cells #[.int .u8 0] 5)) 5 1 (some ⟨wr.heap.size, 0, none⟩) 1 1 (byteVs [0]) :=
          ⟨rfl, Nat.le_refl _, by unfold maxLen; omega, fun h => (by cases h), fun a ha => by injection ha with ha; subst ha; exact ⟨rfl, _, heap_alloc_new wr _, by simp, rfl⟩⟩
        have hconv := conv_bytes hrow 43 9 Tryz.underlying43 Tryz.underlying5 Tryz.underlying9
        have hfin : Value.string (⟨(Fo.encP L).toArray⟩ ++ ⟨[(0 : UInt8)].toArray⟩) = .string ⟨P.toArray⟩ := by
          rw [HP.out]
          refine congrArg Value.string (ByteArray.ext (Array.toList_inj.1 ?_))
          simp [ByteArray.data_append]
        have z0 : ByteArray.size ⟨(Fo.encP L).toArray⟩ ≤ 2000000 := by simpa [ByteArray.size] using hel
        have z1 : ByteArray.size ⟨[(0 : UInt8)].toArray⟩ = 1 := rfl
        have hlt' : ¬ (L.length : Int) < (L.length : Int) := by omega
        generalize (⟨(Fo.encP L).toArray⟩ : ByteArray) = t0 at hfin z0 ⊢
        generalize (⟨[(0 : UInt8)].toArray⟩ : ByteArray) = t1 at hconv hfin z1
        have s1 : ¬ (9223372036854775807 < t0.size + t1.size) := by omega
        have HFIN := Lib.hid hfin
        have HB9 := Lib.hid (hbw.alloc hbw.size (Obj.cells #[.int .u8 0] 5))
        clear hfin hrow hel hkn hbw z0 z1 hlt
        go_wp2_with fail
        go_ret
        exact ⟨by rw [← HFIN.out]; rfl, HB9.out⟩
set_option maxRecDepth 100000 in
theorem refKey_any (w : World) (A : Option Addr) (cap : Nat) (l : List Ev) (hr : Rd w 4 A l.length (l.flatMap encE)) (hl : l.length < 4611686018427387904) :
    Calls Tryz.prog 95 #[.slice A l.length cap] w fun x w' => x = .returned (.string ⟨(Fo.key l).toArray⟩) ∧ Below w.heap.size w w' := by
  have hcall := rows_any w A cap l hr hl
  have hcall2 : ∀ w2, Below w.heap.size w w2 → Calls Tryz.prog 157 #[.slice A l.length cap] w2 (LvOut w2 (Fo.levR l)) := fun w2 hb => refLevels_any w2 A cap l (hr.below hb (Nat.le_refl _)) hl
  have hok : Fo.okRow l = (decide (l.length ≤ 200) && Fo.rights l) := rfl
  have hno : Fo.okRow l = false → Fo.key l = [] := fun e => by unfold Fo.key; rw [if_neg (by rw [e]; decide)]
  have hyes : Fo.okRow l = true → Fo.key l = Fo.printL (Fo.lev l) ∧ Fo.levR l = Fo.lev l := fun e => ⟨by unfold Fo.key; rw [if_pos e], by unfold Fo.levR; rw [if_pos e]⟩
  have hfl := (Fo.lev_flat l).length_eq
  have hle := Fo.lev_len_le l
  generalize Fo.key l = K at *
  generalize Fo.okRow l = ok at *
  generalize Fo.rights l = b at *
  have HC1 := Lib.hid hcall
  have HC2 := Lib.hid hcall2
  have HNO := Lib.hid hno
  have HYES := Lib.hid hyes
  have HFL := Lib.hid hfl
  have HLE := Lib.hid hle
  have HOK := Lib.hid hok
  clear hcall hcall2 hno hyes hfl hle hr hok
  go_enter Tryz.func95, Tryz.ntmps95
  go_wp2_with fail
  refine HC1.out.mono ?_
  rintro x w1 ⟨rfl, b1⟩
  have HB1 := Lib.hid b1
  cases b with
  | false =>
    clear b1
    go_wp2_with fail
    go_ret
    exact ⟨by rw [HNO.out (by rw [HOK.out, Bool.and_false])]; rfl, HB1.out⟩
  | true =>
    by_cases h200 : l.length ≤ 200
    · obtain ⟨h1, h2⟩ := HYES.out (by rw [HOK.out, decide_eq_true h200]; rfl)
      have hcall := HC2.out w1 b1
      rw [h2] at hcall
      have HC3 := Lib.hid hcall
      have HK := Lib.hid h1
      have hn : ¬ (200 : Int) < (l.length : Int) := by omega
      clear b1 hcall h1 h2
      go_wp2_with fail
      refine HC3.out.mono ?_
      rintro x w2 ⟨A2, cap2, rfl, hlv, b2⟩
      have hpr := refPrintL_any w2 A2 cap2 (Fo.lev l) hlv (by have := HLE.out; omega) (by rw [HFL.out]; omega)
      rw [← HK.out] at hpr
      have HP := Lib.hid hpr
      have HB2 := Lib.hid (below_at HB1.out b2)
      clear hlv b2 hpr
      go_wp2_with fail
      refine HP.out.mono ?_
      rintro x w3 ⟨rfl, b3⟩
      have HB3 := Lib.hid (below_at HB2.out b3)
      clear b3
      go_wp2_with fail
      go_ret
      exact ⟨rfl, HB3.out⟩
    · have hn : (200 : Int) < (l.length : Int) := by omega
      have HN := Lib.hid h200
      clear b1 h200
      go_wp2_with fail
      go_ret
      exact ⟨by rw [HNO.out (by rw [HOK.out, decide_eq_false HN.out]; rfl)]; rfl, HB1.out⟩
end Go.Proofs.YtckdofjpoajblaaGreat
namespace Go.Proofs.YtckdofjpoajblaaGreat
open Go.RowKit
set_option linter.unusedVariables false
namespace Fo
end Fo
end Go.Proofs.YtckdofjpoajblaaGreat
namespace Go.Proofs.YtckdofjpoajblaaGreat
open Go.RowKit
set_option linter.unusedVariables false
end Go.Proofs.YtckdofjpoajblaaGreat
namespace Go.Proofs.YtckdofjpoajblaaGreat
open Go.RowKit
set_option linter.unusedVariables false
namespace Pr
def may (p : Pg) (f : Int) : Prop := Ok p ∧ 0 ≤ f ∧ f ≤ 8
instance (p : Pg) (f : Int) : Decidable (may p f) := by unfold may; infer_instance
end Pr
def PgIn (w : World) (p : Pg) (A : Option Addr) : Prop := CdAt w (fun k => k < w.heap.size) A p.code ∧ p.code.length ≤ maxLen ∧ ∀ q ∈ p.code, q.length ≤ maxLen
theorem PgIn.below {w w' : World} {p : Pg} {A : Option Addr} (h : PgIn w p A) (hb : Below w.heap.size w w') : PgIn w' p A := ⟨(h.1.below hb).imp (fun k hk => by have := hb.size; omega), h.2⟩
end Go.Proofs.YtckdofjpoajblaaGreat
namespace Go.Proofs.YtckdofjpoajblaaGreat
set_option linter.unusedVariables false
theorem updI_comm (f : Nat → Int) {a b : Nat} (x y : Int) (h : a ≠ b) : updI (updI f a x) b y = updI (updI f b y) a x := by
  funext j
  unfold updI
  by_cases h1 : j = a
  · subst h1
    rw [if_neg h, if_pos rfl, if_pos rfl]
  · by_cases h2 : j = b
    · subst h2; simp [h1]
    · simp [h1, h2]
namespace Pr
def nth (s : St) (x : Th) (i : Ins) : Th :=
  if i.k = 1 then { tick x with r := updI x.r i.r.toNat (s.v i.x.toNat) } else if i.k = 3 then { tick x with r := updI x.r i.r.toNat i.n }
  else if i.k = 4 then { tick x with r := updI x.r i.r.toNat (RowKit.wrap64 (x.r i.r.toNat + i.n)) } else if i.k = 7 then (if x.r i.r.toNat = 0 then tick x else { tick x with pc := i.x.toNat }) else tick x
def nv (s : St) (x : Th) (i : Ins) : Nat → Int := if i.k = 2 then updI s.v i.x.toNat (x.r i.r.toNat) else s.v
def nh (s : St) (t : Nat) (i : Ins) : Nat → Int := if i.k = 5 then updI s.h i.x.toNat (t : Int) else if i.k = 6 ∧ s.h i.x.toNat = (t : Int) then updI s.h i.x.toNat (-1) else s.h
theorem doI_eq {s : St} {t : Nat} {x : Th} (i : Ins) (hx : s.th[t]? = some x) (hk : 1 ≤ i.k ∧ i.k ≤ 8) : doI s t i = ⟨s.p, s.th.set t (nth s x i), nv s x i, nh s t i⟩ := by
  have hd : doI s t i = deed { s with th := s.th.set t (tick x) } t (tick x) i := by unfold doI; rw [hx]
  rw [hd]
  obtain ⟨k, r, m, n⟩ := i
  simp only at hk
  rcases (show k = 1 ∨ k = 2 ∨ k = 3 ∨ k = 4 ∨ k = 5 ∨ k = 6 ∨ k = 7 ∨ k = 8 by omega) with rfl | rfl | rfl | rfl | rfl | rfl | rfl | rfl
  · simp [deed, regs, nth, nv, nh, tick]
  · simp [deed, nth, nv, nh, tick]
  · simp [deed, regs, nth, nv, nh, tick]
  · simp [deed, regs, nth, nv, nh, tick]
  · simp [deed, nth, nv, nh, tick]
  · simp only [deed, nth, nv, nh]
    by_cases h : s.h m.toNat = (t : Int) <;> simp [h]
  · simp only [deed, nth, nv, nh, tick]
    by_cases h : x.r r.toNat = 0 <;> simp [h]
  · simp [deed, nth, nv, nh]
structure Can (s : St) (t : Nat) (x : Th) (i : Ins) : Prop where
  th : s.th[t]? = some x
  ins : Pr.ins s t = some i
  en : enabled s t = true
theorem can_of {s : St} {t : Nat} (h : enabled s t = true) : ∃ x i, Can s t x i := by
  obtain ⟨e, i, _, hi, _⟩ := enabled_next h
  have hi' := hi
  unfold Pr.ins at hi
  split at hi
  · rename_i x c hx hc
    exact ⟨x, i, hx, hi', h⟩
  · cases hi
theorem ins_other {s : St} {t u : Nat} {y : Th} {v h : Nat → Int} (htu : t ≠ u) : Pr.ins ⟨s.p, s.th.set t y, v, h⟩ u = Pr.ins s u := by
  unfold Pr.ins
  simp only
  rw [List.getElem?_set_ne htu]
theorem en_lock {s : St} {t : Nat} {i : Ins} (hi : Pr.ins s t = some i) (hk : i.k = 5) : enabled s t = decide (s.h i.x.toNat < 0) := by
  unfold enabled next
  rw [hi]
  simp [evOf, hk]
theorem en_other {s : St} {t : Nat} {i : Ins} (hi : Pr.ins s t = some i) (hk : i.k ≠ 5) : enabled s t = true := by
  unfold enabled next
  rw [hi]
  simp only [Option.map_some]
  have : (evOf s t i).k ≠ 4 := by
    unfold evOf
    by_cases h1 : i.k = 1
    · simp [h1]
    · by_cases h2 : i.k = 2
      · simp [h2]
      · rw [if_neg h1, if_neg h2, if_neg hk]
        by_cases h6 : i.k = 6
        · rw [if_pos h6]; split <;> simp
        · rw [if_neg h6]; split <;> simp
  simp [this]
theorem own_stays {s : St} {t u : Nat} {i : Ins} (htu : t ≠ u) (hi : Pr.ins s t = some i) (hen : enabled s t = true) (m : Nat) : (nh s t i m = (u : Int)) ↔ (s.h m = (u : Int)) := by
  unfold nh
  by_cases h5 : i.k = 5
  · rw [if_pos h5]
    rw [en_lock hi h5, decide_eq_true_eq] at hen
    unfold updI
    by_cases hm : m = i.x.toNat
    · subst hm
      rw [if_pos rfl]
      constructor
      · intro h; exact (htu (by omega)).elim
      · intro h; omega
    · rw [if_neg hm]
  · rw [if_neg h5]
    split
    · rename_i h6
      unfold updI
      by_cases hm : m = i.x.toNat
      · subst hm
        rw [if_pos rfl, h6.2]
        constructor
        · intro h; omega
        · intro h; exact (htu (by omega)).elim
      · rw [if_neg hm]
    · rfl
theorem ev_other {s : St} {t u : Nat} {x : Th} {i j : Ins} (htu : t ≠ u) (hc : Can s t x i) (hk : 1 ≤ i.k ∧ i.k ≤ 8) : evOf (doI s t i) u j = evOf s u j := by
  rw [doI_eq i hc.th hk]
  unfold evOf
  simp only
  rw [List.getElem?_set_ne htu]
  by_cases h6 : j.k = 6
  · simp only [h6]
    simp only [own_stays htu hc.ins hc.en]
  · simp only [h6, if_false]
theorem nh_at {s : St} {t : Nat} {i : Ins} {m : Nat} (h : ¬ ((i.k = 5 ∨ (i.k = 6 ∧ s.h i.x.toNat = (t : Int))) ∧ m = i.x.toNat)) : nh s t i m = s.h m := by
  unfold nh
  by_cases h5 : i.k = 5
  · rw [if_pos h5]
    exact updI_ne _ _ (fun e => h ⟨.inl h5, e⟩)
  · rw [if_neg h5]
    split
    · rename_i h6
      exact updI_ne _ _ (fun e => h ⟨.inr h6, e⟩)
    · rfl
theorem ev_mem1 {s : St} {t : Nat} {i : Ins} (h : i.k = 1) : evOf s t i = ⟨t, 2, i.x, false⟩ := by unfold evOf; simp [h]
theorem ev_mem2 {s : St} {t : Nat} {i : Ins} (h : i.k = 2) : evOf s t i = ⟨t, 3, i.x, false⟩ := by unfold evOf; simp [h]
theorem ev_mut {s : St} {t : Nat} {i : Ins} (h : i.k = 5 ∨ (i.k = 6 ∧ s.h i.x.toNat = (t : Int))) : ∃ k : Int, (k = 4 ∨ k = 5) ∧ evOf s t i = ⟨t, k, i.x, false⟩ := by
  rcases h with h | ⟨h, h2⟩
  · exact ⟨4, .inl rfl, by unfold evOf; simp [h]⟩
  · exact ⟨5, .inr rfl, by unfold evOf; simp [h, h2]⟩
theorem ev_t (s : St) (t : Nat) (i : Ins) : (evOf s t i).t = t := by
  unfold evOf
  by_cases h1 : i.k = 1
  · simp [h1]
  · by_cases h2 : i.k = 2
    · simp [h2]
    · by_cases h5 : i.k = 5
      · simp [h5]
      · rw [if_neg h1, if_neg h2, if_neg h5]
        by_cases h6 : i.k = 6
        · rw [if_pos h6]; split <;> rfl
        · rw [if_neg h6]; split <;> rfl
theorem apart_mut {s : St} {t u : Nat} {i j : Ins} (hd : Fo.dep (evOf s t i) (evOf s u j) = false) (hi : i.k = 5 ∨ (i.k = 6 ∧ s.h i.x.toNat = (t : Int))) (hj : j.k = 5 ∨ (j.k = 6 ∧ s.h j.x.toNat = (u : Int))) : i.x ≠ j.x := by
  obtain ⟨k, hk, e⟩ := ev_mut hi
  obtain ⟨k', hk', e'⟩ := ev_mut hj
  rw [e, e'] at hd
  intro hx
  rcases hk with rfl | rfl <;> rcases hk' with rfl | rfl <;> simp [Fo.dep, Fo.mutK, Fo.memK, hx] at hd
theorem apart_mem {s : St} {t u : Nat} {i j : Ins} (hd : Fo.dep (evOf s t i) (evOf s u j) = false) (hi : i.k = 1 ∨ i.k = 2) (hj : j.k = 1 ∨ j.k = 2) (h2 : i.k = 2 ∨ j.k = 2) : i.x ≠ j.x := by
  intro hx
  rcases hi with hi | hi <;> rcases hj with hj | hj
  · omega
  · rw [ev_mem1 hi, ev_mem2 hj] at hd; simp [Fo.dep, Fo.mutK, Fo.memK, hx] at hd
  · rw [ev_mem2 hi, ev_mem1 hj] at hd; simp [Fo.dep, Fo.mutK, Fo.memK, hx] at hd
  · rw [ev_mem2 hi, ev_mem2 hj] at hd; simp [Fo.dep, Fo.mutK, Fo.memK, hx] at hd
theorem nth_far {s : St} {y x : Th} {i j : Ins} {P : Pg} {th : List Th} {h : Nat → Int} (hb : i.k = 1 → j.k = 2 → i.x.toNat ≠ j.x.toNat) : nth ⟨P, th, nv s y j, h⟩ x i = nth s x i := by
  unfold nth nv
  by_cases h1 : i.k = 1
  · simp only [h1, if_true]
    by_cases h2 : j.k = 2
    · rw [if_pos h2, updI_ne _ _ (hb h1 h2)]
    · rw [if_neg h2]
  · simp only [h1, if_false]
theorem diamond {s : St} {t u : Nat} {x : Th} {i j : Ins} (hw : Wf s) (htu : t ≠ u) (hc : Can s t x i) (hj : Pr.ins (doI s t i) u = some j) (hen : enabled (doI s t i) u = true) (hd : Fo.dep (evOf s t i) (evOf (doI s t i) u j) = false) :
    ∃ y, Can s u y j ∧ Can (doI s u j) t x i ∧ evOf (doI s u j) t i = evOf s t i ∧ evOf (doI s t i) u j = evOf s u j ∧ doI (doI s u j) t i = doI (doI s t i) u j := by
  have hki : 1 ≤ i.k ∧ i.k ≤ 8 := by obtain ⟨n, _, _, hok⟩ := hw.insOk hc.ins; exact ⟨hok.1, hok.2.1⟩
  have hxi : 0 ≤ i.x := by obtain ⟨n, _, _, hok⟩ := hw.insOk hc.ins; exact hok.2.2.2.2.2.1
  have hev : evOf (doI s t i) u j = evOf s u j := ev_other htu hc hki
  rw [hev] at hd
  have hd' : Fo.dep (evOf s u j) (evOf s t i) = false := by rw [Fo.dep_comm]; exact hd
  have h1 := doI_eq i hc.th hki
  have hj0 : Pr.ins s u = some j := by rw [h1, ins_other htu] at hj; exact hj
  have hkj : 1 ≤ j.k ∧ j.k ≤ 8 := by obtain ⟨n, _, _, hok⟩ := hw.insOk hj0; exact ⟨hok.1, hok.2.1⟩
  have hxj : 0 ≤ j.x := by obtain ⟨n, _, _, hok⟩ := hw.insOk hj0; exact hok.2.2.2.2.2.1
  have hmut : (i.k = 5 ∨ (i.k = 6 ∧ s.h i.x.toNat = (t : Int))) → (j.k = 5 ∨ (j.k = 6 ∧ s.h j.x.toNat = (u : Int))) → i.x.toNat ≠ j.x.toNat := fun a b e => apart_mut hd a b (by omega)
  have hmem : (i.k = 1 ∨ i.k = 2) → (j.k = 1 ∨ j.k = 2) → (i.k = 2 ∨ j.k = 2) → i.x.toNat ≠ j.x.toNat := fun a b c e => apart_mem hd a b c (by omega)
  -- u may step first
  have henu : enabled s u = true := by
    by_cases h5 : j.k = 5
    · rw [en_lock hj h5, h1, decide_eq_true_eq] at hen
      simp only at hen
      rw [nh_at (fun hh => hmut hh.1 (.inl h5) hh.2.symm)] at hen
      rw [en_lock hj0 h5, decide_eq_true_eq]
      exact hen
    · exact en_other hj0 h5
  obtain ⟨y, j', hcu⟩ := can_of henu
  have hjj : j' = j := by have := hcu.ins; rw [hj0] at this; injection this with this; exact this.symm
  subst hjj
  have h2 := doI_eq j' hcu.th hkj
  have hth : (doI s u j').th[t]? = some x := by rw [h2]; simp only; rw [List.getElem?_set_ne (Ne.symm htu)]; exact hc.th
  have hit : Pr.ins (doI s u j') t = some i := by rw [h2, ins_other (Ne.symm htu)]; exact hc.ins
  have hent : enabled (doI s u j') t = true := by
    by_cases h5 : i.k = 5
    · have he := hc.en
      rw [en_lock hc.ins h5, decide_eq_true_eq] at he
      rw [en_lock hit h5, h2, decide_eq_true_eq]
      simp only
      rw [nh_at (fun hh => hmut (.inl h5) hh.1 hh.2)]
      exact he
    · exact en_other hit h5
  have hev2 : evOf (doI s u j') t i = evOf s t i := ev_other (Ne.symm htu) hcu hkj
  refine ⟨y, hcu, ⟨hth, hit, hent⟩, hev2, hev, ?_⟩
  have hyu : (doI s t i).th[u]? = some y := by rw [h1]; simp only; rw [List.getElem?_set_ne htu]; exact hcu.th
  rw [doI_eq i hth hki, doI_eq j' hyu hkj, h1, h2]
  simp only
  have e1 : nth ⟨s.p, s.th.set u (nth s y j'), nv s y j', nh s u j'⟩ x i = nth s x i := nth_far (fun a b => hmem (.inl a) (.inr b) (.inr b))
  have e2 : nth ⟨s.p, s.th.set t (nth s x i), nv s x i, nh s t i⟩ y j' = nth s y j' := nth_far (fun a b => (hmem (.inr b) (.inl a) (.inl b)).symm)
  rw [e1, e2, List.set_comm _ _ (Ne.symm htu)]
  congr 1
  · unfold nv
    by_cases a : i.k = 2
    · by_cases b : j'.k = 2
      · simp only [a, b, if_true]
        exact (updI_comm _ _ _ (hmem (.inr a) (.inr b) (.inl a))).symm
      · simp only [a, b, if_true, if_false]
    · by_cases b : j'.k = 2
      · simp only [a, b, if_true, if_false]
      · simp only [a, b, if_false]
  · have o1 := own_stays (Ne.symm htu) hcu.ins henu i.x.toNat
    have o2 := own_stays htu hc.ins hc.en j'.x.toNat
    have n2 : nh ⟨s.p, s.th.set u (nth s y j'), nv s y j', nh s u j'⟩ t i = if i.k = 5 then updI (nh s u j') i.x.toNat (t : Int) else if i.k = 6 ∧ s.h i.x.toNat = (t : Int) then updI (nh s u j') i.x.toNat (-1) else nh s u j' := by
      unfold nh at o1 ⊢
      simp only at o1 ⊢
      simp only [o1]
    have n1 : nh ⟨s.p, s.th.set t (nth s x i), nv s x i, nh s t i⟩ u j' = if j'.k = 5 then updI (nh s t i) j'.x.toNat (u : Int) else if j'.k = 6 ∧ s.h j'.x.toNat = (u : Int) then updI (nh s t i) j'.x.toNat (-1) else nh s t i := by
      unfold nh at o2 ⊢
      simp only at o2 ⊢
      simp only [o2]
    rw [n1, n2]
    have s1 : nh s t i = if i.k = 5 then updI s.h i.x.toNat (t : Int) else if i.k = 6 ∧ s.h i.x.toNat = (t : Int) then updI s.h i.x.toNat (-1) else s.h := rfl
    have s2 : nh s u j' = if j'.k = 5 then updI s.h j'.x.toNat (u : Int) else if j'.k = 6 ∧ s.h j'.x.toNat = (u : Int) then updI s.h j'.x.toNat (-1) else s.h := rfl
    rw [s1, s2]
    by_cases a5 : i.k = 5
    · have hm := hmut (.inl a5)
      rw [if_pos a5, if_pos a5]
      by_cases b5 : j'.k = 5
      · rw [if_pos b5, if_pos b5]; exact (updI_comm _ _ _ (hm (.inl b5))).symm
      · rw [if_neg b5, if_neg b5]
        by_cases b6 : j'.k = 6 ∧ s.h j'.x.toNat = (u : Int)
        · rw [if_pos b6, if_pos b6]; exact (updI_comm _ _ _ (hm (.inr b6))).symm
        · rw [if_neg b6, if_neg b6]
    · rw [if_neg a5, if_neg a5]
      by_cases a6 : i.k = 6 ∧ s.h i.x.toNat = (t : Int)
      · have hm := hmut (.inr a6)
        rw [if_pos a6, if_pos a6]
        by_cases b5 : j'.k = 5
        · rw [if_pos b5, if_pos b5]; exact (updI_comm _ _ _ (hm (.inl b5))).symm
        · rw [if_neg b5, if_neg b5]
          by_cases b6 : j'.k = 6 ∧ s.h j'.x.toNat = (u : Int)
          · rw [if_pos b6, if_pos b6]; exact (updI_comm _ _ _ (hm (.inr b6))).symm
          · rw [if_neg b6, if_neg b6]
      · rw [if_neg a6, if_neg a6]
end Pr
end Go.Proofs.YtckdofjpoajblaaGreat
namespace Go.Proofs.YtckdofjpoajblaaGreat
set_option linter.unusedVariables false
namespace Pr
inductive Ex : St → List Ev → St → Prop
  | nil (s : St) : Ex s [] s
  | cons {s s' : St} {l : List Ev} (t : Nat) (e : Ev) : enabled s t = true → next s t = some e → Ex (stepS s t) l s' → Ex s (e :: l) s'
theorem en_lt {s : St} {t : Nat} (h : enabled s t = true) : t < s.th.length := by
  obtain ⟨x, i, hc⟩ := can_of h
  exact (List.getElem?_eq_some_iff.1 hc.th).1
theorem next_t {s : St} {t : Nat} {e : Ev} (h : next s t = some e) : e.t = t := by
  unfold next at h
  obtain ⟨i, _, rfl⟩ := Option.map_eq_some_iff.1 h
  exact ev_t s t i
theorem stepS_can {s : St} {t : Nat} {x : Th} {i : Ins} (h : Can s t x i) : stepS s t = doI s t i := by unfold stepS; rw [h.ins]
theorem next_can {s : St} {t : Nat} {x : Th} {i : Ins} (h : Can s t x i) : next s t = some (evOf s t i) := by unfold next; rw [h.ins]; rfl
theorem ev_right {s : St} {t : Nat} {i : Ins} (hw : Wf s) (hi : Pr.ins s t = some i) (ht : t < 4) : Fo.right (evOf s t i) = true := by
  obtain ⟨n, h0, h8, hok⟩ := hw.insOk hi
  have hv := hw.ok.1.2.1
  have hm := hw.ok.1.2.2.2.1
  have hx := hok.2.2.2.2.2.1
  unfold Fo.right
  rw [decide_eq_true_eq]
  by_cases h1 : i.k = 1
  · rw [ev_mem1 h1]
    have := hok.2.2.2.2.2.2.2.2.2.1 (.inl h1)
    simp only
    refine ⟨by omega, by omega, by omega, by omega, by omega, by omega, fun h => by omega, fun h => ⟨by trivial, by omega⟩⟩
  · by_cases h2 : i.k = 2
    · rw [ev_mem2 h2]
      have := hok.2.2.2.2.2.2.2.2.2.1 (.inr h2)
      simp only
      refine ⟨by omega, by omega, by omega, by omega, by omega, by omega, fun h => by omega, fun h => ⟨by trivial, by omega⟩⟩
    · by_cases h5 : i.k = 5
      · have := hok.2.2.2.2.2.2.2.2.2.2.1 (.inl h5)
        have e : evOf s t i = ⟨t, 4, i.x, false⟩ := by unfold evOf; simp [h5]
        rw [e]
        simp only
        refine ⟨by omega, by omega, by omega, by omega, by omega, by omega, fun h => by omega, fun h => ⟨by trivial, by omega⟩⟩
      · by_cases h6 : i.k = 6
        · have := hok.2.2.2.2.2.2.2.2.2.2.1 (.inr h6)
          by_cases hh : s.h i.x.toNat = (t : Int)
          · have e : evOf s t i = ⟨t, 5, i.x, false⟩ := by unfold evOf; simp [h6, hh]
            rw [e]
            simp only
            refine ⟨by omega, by omega, by omega, by omega, by omega, by omega, fun h => by omega, fun h => ⟨by trivial, by omega⟩⟩
          · have e : evOf s t i = ⟨t, 1, 0, true⟩ := by unfold evOf; simp [h6, hh]
            rw [e]
            simp only
            refine ⟨by omega, by omega, by omega, by omega, by omega, by omega, fun h => by omega, fun h => (h rfl).elim⟩
        · obtain ⟨b, e⟩ : ∃ b, evOf s t i = ⟨t, 1, 0, b⟩ := by
            unfold evOf
            rw [if_neg h1, if_neg h2, if_neg h5, if_neg h6]
            split
            · exact ⟨_, rfl⟩
            · exact ⟨_, rfl⟩
          rw [e]
          simp only
          refine ⟨by omega, by omega, by omega, by omega, by omega, by omega, fun h => by omega, fun h => (h rfl).elim⟩
theorem ex_rights {s s' : St} {l : List Ev} (h : Ex s l s') (hw : Wf s) : ∀ e ∈ l, Fo.right e = true := by
  induction h with
  | nil s => intro e he; cases he
  | cons t e hen hn _ ih =>
    intro a ha
    rcases List.mem_cons.1 ha with rfl | ha
    · obtain ⟨x, i, hc⟩ := can_of hen
      rw [next_can hc] at hn
      injection hn with hn
      rw [← hn]
      exact ev_right hw hc.ins (by have := en_lt hen; have := hw.n4; omega)
    · exact ih (stepS_wf t hw).1 a ha
end Pr
end Go.Proofs.YtckdofjpoajblaaGreat
namespace Go.Proofs.YtckdofjpoajblaaGreat
open Go.RowKit
set_option linter.unusedVariables false
namespace Pr
def raceT (s : St) (l : List Ev) (t : Nat) : List (Nat × Int) := match next s t with | some e => Fo.withR l e l.length | none => []
def racesK (s : St) (l : List Ev) (k : Nat) : List (Nat × Int) := (List.range k).flatMap (raceT s l)
def races (s : St) (l : List Ev) : List (Nat × Int) := racesK s l s.th.length
theorem racesK_step (s : St) (l : List Ev) (k : Nat) : racesK s l (k + 1) = racesK s l k ++ raceT s l k := by unfold racesK; rw [List.range_succ, List.flatMap_append]; simp
theorem raceT_len (s : St) (l : List Ev) (t : Nat) : (raceT s l t).length ≤ l.length := by
  unfold raceT
  cases next s t with
  | none => exact Nat.zero_le _
  | some e => exact Fo.withR_len _ _ _
theorem racesK_len (s : St) (l : List Ev) : ∀ k, (racesK s l k).length ≤ k * l.length
  | 0 => by simp [racesK]
  | k + 1 => by
    have := racesK_len s l k
    have := raceT_len s l k
    rw [racesK_step, List.length_append, Nat.succ_mul]
    omega
theorem mem_races {s : St} {l : List Ev} {i : Nat} {u : Int} : (i, u) ∈ races s l ↔ ∃ t e, t < s.th.length ∧ next s t = some e ∧ Fo.RaceAt l i e ∧ u = e.t := by
  unfold races racesK
  rw [List.mem_flatMap]
  constructor
  · rintro ⟨t, ht, h⟩
    unfold raceT at h
    cases hn : next s t with
    | none => rw [hn] at h; cases h
    | some e =>
      rw [hn] at h
      simp only [Fo.withR, List.mem_map, List.mem_filter, List.mem_range] at h
      obtain ⟨j, ⟨hj, hb⟩, he⟩ := h
      injection he with h1 h2
      subst h1
      exact ⟨t, e, List.mem_range.1 ht, hn, Fo.raceB_at.1 hb, h2.symm⟩
  · rintro ⟨t, e, ht, hn, hr, rfl⟩
    refine ⟨t, List.mem_range.2 ht, ?_⟩
    unfold raceT
    rw [hn]
    simp only [Fo.withR, List.mem_map, List.mem_filter, List.mem_range]
    refine ⟨i, ⟨?_, Fo.raceB_at.2 hr⟩, rfl⟩
    obtain ⟨x, hx, _⟩ := hr
    exact (List.getElem?_eq_some_iff.1 hx).1
end Pr
theorem encR_one (L : List (Nat × Int)) : ∀ u ∈ L.flatMap encR, u.oneCell' = true := fun u hu => by
  obtain ⟨r, _, h⟩ := List.mem_flatMap.1 hu
  simp only [encR, List.mem_cons, List.not_mem_nil, or_false] at h
  rcases h with rfl | rfl <;> rfl
set_option maxRecDepth 100000 in
set_option maxHeartbeats 4000000 in
theorem races_any (w : World) (C : Nat → Prop) (S T : Nat) (s : St) (A : Option Addr) (cap : Nat) (l : List Ev) (h : SAt w C S T s) (hw : Pr.Wf s) (hr : Rd w 4 A l.length (l.flatMap encE)) (hcap : l.length ≤ cap) (hcm : cap ≤ maxLen) (hl : l.length ≤ 1000) (hR : Fo.rights l = true) :
    Calls Tryz.prog 120 #[.pointer (some ⟨S, 0, none⟩), .slice A l.length cap] w fun x w' => ∃ B c, x = .returned (.slice B (Pr.races s l).length c) ∧ Row w' 198 2 B (Pr.races s l).length c ((Pr.races s l).flatMap encR) ∧ (∀ a, B = some a → w.heap.size ≤ a.block) ∧ Below w.heap.size w w' := by
  obtain ⟨i0, hi0, hz0, hz1, hz2⟩ := info_parts Tryz.infoRace
  have hrt := rright_any w A cap l hr (by omega)
  rw [hR] at hrt
  have hth := fun u (hu : Below w.heap.size w u) => threads_any u C S T s (h.below hu)
  have hnx := fun (u : World) (hu : Below w.heap.size w u) (i : Nat) (hi : i < s.th.length) => next_any u C S T s i (h.below hu) hw hi
  have hwr := fun (u : World) (hu : Below w.heap.size w u) (e : Ev) (t : Nat) (he : e.t = (t : Int)) (ht : t < 4) => with_race u A cap l e t (hr.below hu (Nat.le_refl _)) hcap hcm hl hR he ht
  obtain ⟨n, hn⟩ : ∃ n, n = s.th.length := ⟨_, rfl⟩
  have hn4 := hw.n4
  have hres : Pr.races s l = Pr.racesK s l n := by rw [hn]; rfl
  rw [← hn] at hth hnx hn4
  rw [hres]
  have hlen := Pr.racesK_len s l
  obtain ⟨q, hq⟩ : ∃ q, q = l.length := ⟨_, rfl⟩
  rw [← hq] at hlen hrt hl ⊢
  simp only [← hq] at hwr
  have HRT := Lib.hid hrt
  have HTH := Lib.hid hth
  have HNX := Lib.hid hnx
  have HWR := Lib.hid hwr
  have HLEN := Lib.hid hlen
  have HQ := Lib.hid hq
  clear hrt hth hnx hwr hlen hq hres hn h hw hr hR hcap hcm
  go_enter Tryz.func120, Tryz.ntmps120
  go_wp2_with fail
  refine HRT.out.mono ?_
  rintro y w1 ⟨rfl, b1⟩
  have HB1 := Lib.hid b1
  clear b1 HRT
  go_wp2_with fail
  refine (HTH.out w1 HB1.out).mono ?_
  rintro y w2 ⟨rfl, rfl⟩
  go_wp2_with fail
  go_loopw [4, 13] (fun r v wr => ∃ (k m : Nat) (B : Option Addr) (c : Nat), k ≤ n ∧ v = .int .i64 k ∧ r = .slice B m c ∧ m ≤ 4000 ∧ Hid (m = (Pr.racesK s l k).length) ∧ Hid (Row wr 198 2 B m c ((Pr.racesK s l k).flatMap encR)) ∧ Hid (∀ a, B = some a → w.heap.size ≤ a.block) ∧ Hid (Below w.heap.size w wr)) (fun _ v _ => n - (intOf v).toNat)
  case atStart => exact ⟨0, 0, none, 0, Nat.zero_le _, rfl, rfl, Nat.zero_le _, Lib.hid rfl, Lib.hid (Row.nil _ _ _), Lib.hid (fun a h => by cases h), HB1⟩
  case round =>
    obtain ⟨k, m, B, c, hk, rfl, rfl, hm4, HM, HRW, HFR, HB⟩ := hrel
    rename World => V
    by_cases hlt : k < n
    · have hcall := HNX.out V HB.out k hlt
      have hstep := Pr.racesK_step s l k
      have hlk1 : (Pr.racesK s l (k + 1)).length ≤ 4000 := by
        have h1 := HLEN.out (k + 1)
        have h2 : (k + 1) * q ≤ 4 * 1000 := Nat.mul_le_mul (by omega) hl
        omega
      obtain ⟨r, hr⟩ : ∃ r, r = Pr.next s k := ⟨_, rfl⟩
      have hrT : Pr.raceT s l k = match (motive := Option Ev → List (Nat × Int)) r with | some e => Fo.withR l e l.length | none => [] := by rw [hr]; rfl
      have het : ∀ e, r = some e → e.t = (k : Int) := fun e he => Pr.next_t (hr.symm.trans he)
      rw [← hr] at hcall
      have k1 : (0 : Int) ≤ (k : Int) := Int.natCast_nonneg _
      have k2 : (k : Int) < (n : Int) := by omega
      have HCALL := Lib.hid hcall
      have HST := Lib.hid (And.intro hstep hlk1)
      have HRT := Lib.hid hrT
      have HET := Lib.hid het
      clear hcall hr hstep hlk1 hrT het
      go_wp2_with fail
      refine HCALL.out.mono ?_
      rintro y v1 ⟨rfl, b1⟩
      obtain ⟨f, hf⟩ : ∃ f, f = r.getD Pr.zeroE := ⟨_, rfl⟩
      obtain ⟨Vz, Y, hVz, hY, hBy, hYl, hYe⟩ := ev_box v1 f
      rw [← hf]
      have HYE := Lib.hid hYe
      have hbz := below_at b1 hBy
      have HRZ := Lib.hid (row_stepS HRW.out hbz)
      have HBV := Lib.hid (below_at HB.out hbz)
      have HF := Lib.hid hf
      unfold valE
      clear hYe hYl hBy hf b1 hbz HCALL
      cases r with
      | none =>
        simp only [Option.isSome_none]
        have hst := HST.out.1
        rw [HRT.out] at hst
        simp only [List.append_nil] at hst
        have HST2 := Lib.hid hst
        clear hst
        go_wp2_with fail
        rw [← hVz]
        go_roundw
        case rel => exact ⟨k + 1, m, B, c, by omega, by go_num, rfl, hm4, Lib.hid (by rw [HST2.out]; exact HM.out), Lib.hid (by rw [HST2.out]; exact HRZ.out), HFR, HBV⟩
        case measure => simp [intOf]; omega
      | some f' =>
        have hff : f = f' := HF.out
        subst hff
        clear HF
        simp only [Option.isSome_some]
        have hst := HST.out.1
        rw [HRT.out] at hst
        simp only at hst
        have hft := HET.out f rfl
        have hwc := HWR.out Vz HBV.out f k hft (by omega)
        obtain ⟨L, hL⟩ : ∃ L, L = Fo.withR l f q := ⟨_, rfl⟩
        rw [← HQ.out, ← hL] at hst
        rw [← hL] at hwc
        obtain ⟨nl, hnl⟩ : ∃ n, n = L.length := ⟨_, rfl⟩
        rw [← hnl] at hwc
        have hsum : (Pr.racesK s l (k + 1)).length = m + nl := by rw [hst, List.length_append, ← HM.out, hnl]
        have h4k := HST.out.2
        rw [hsum] at h4k
        obtain ⟨⟨y0, y1, y2, y3⟩, yl⟩ := HYE.out Vz (Below.refl _ _)
        simp only [Nat.zero_add] at y1 y2 y3
        obtain ⟨ft, fk, fo, ff⟩ := f
        simp only [valE] at hwc
        simp only at y0 y1 y2 y3
        have HWC := Lib.hid hwc
        have HST2 := Lib.hid (And.intro hst hsum)
        have HNL := Lib.hid hnl
        clear hst hft hwc hL hnl hsum HST HRT HET
        go_upto_region 8 with fail
        rw [← hVz, ← hY]
        clear hVz hY
        go_wp2_with fail
        refine HWC.out.mono ?_
        rintro y v2 ⟨B2, c2, rfl, r2, f2, b2⟩
        have HR2 := Lib.hid (show Rd v2 2 B2 nl (L.flatMap encR) from r2.rd)
        have HRZ2 := Lib.hid (row_stepS HRZ.out b2)
        have HBV2 := Lib.hid (below_at HBV.out b2)
        clear r2 f2 b2 HWC y0 y1 y2 y3 yl
        go_upto_region 9 with (at_builtin; refine wpList_append_rd (by rfl) _ _ _ (by rfl) 198 i0 _ 2 16 Tryz.underlying195 hi0 hz0 hz1 hz2 rfl (by omega) B m c ((Pr.racesK s l k).flatMap encR) (by rfl) HRZ2.out B2 nl c2 (L.flatMap encR) (by rfl) HR2.out (encR_one L) (by unfold maxLen; omega) (by omega) ?_; intro A9 cap9 w9 hown hm hat)
        have hb9 : Below w.heap.size w w9 := HBV2.out.trans (hm.below _ HBV2.out.size (fun j hj ⟨a, q1, q2⟩ => by have := HFR.out a q1; omega))
        have hf9 : ∀ a, A9 = some a → w.heap.size ≤ a.block := fun a ha => by
          rcases hat a ha with ⟨a1, q1, q2⟩ | h
          · have := HFR.out a1 q1; omega
          · have := HBV2.out.size; omega
        have HB9 := Lib.hid hb9
        have HF9 := Lib.hid hf9
        have HO9 := Lib.hid hown
        clear hb9 hf9 hown hm hat
        go_wp2_with fail
        go_roundw
        case rel => exact ⟨k + 1, m + nl, A9, cap9, by omega, by go_num, rfl, h4k, Lib.hid HST2.out.2.symm, Lib.hid (by rw [HST2.out.1, List.flatMap_append]; exact HO9.out), HF9, HB9⟩
        case measure => simp [intOf]; omega
    · obtain rfl : k = n := by omega
      have hm := HM.out
      have k4 : ¬ (k : Int) < (k : Int) := by omega
      go_wp2_with fail
      go_ret
      exact ⟨B, c, by rw [← hm]; rfl, by rw [← hm]; exact HRW.out, HFR.out, HB.out⟩
end Go.Proofs.YtckdofjpoajblaaGreat
namespace Go.Proofs.YtckdofjpoajblaaGreat
open Go.RowKit Bs
set_option linter.unusedVariables false
namespace Pr
def pickI (od : List Nat) (ch n : Nat) : Nat := od.getD ch 0 % n
end Pr
def xCells (v0 v1 : Value) (OA : Option Addr) (on oc ch : Nat) (v4 v5 v6 v7 v8 v9 : Value) : Array Value := #[v0, v1, .slice OA on oc, .int .i64 (ch : Int), v4, v5, v6, v7, v8, v9]
set_option maxRecDepth 100000 in
set_option maxHeartbeats 4000000 in
theorem pick_any (w : World) (X : Nat) (T : TypeId) (v0 v1 v4 v5 v6 v7 v8 v9 : Value) (OA : Option Addr) (oc ch : Nat) (od : List Nat) (LA : Option Addr) (lc : Nat) (L : List Nat) (hX : w.heap[X]? = some (.cells (xCells v0 v1 OA od.length oc ch v4 v5 v6 v7 v8 v9) T (0, 0)))
    (hod : Rd w 1 OA od.length (od.map fun (b : Nat) => Value.int .u8 (b : Int))) (hob : ∀ b ∈ od, b ≤ 255) (hL : Rd w 1 LA L.length (L.map fun (t : Nat) => Value.int .i64 (t : Int))) (hLX : ∀ a, LA = some a → a.block ≠ X) (hl0 : 0 < L.length) (hl8 : L.length ≤ 8) (hch : ch ≤ 1000000) (hol : od.length ≤ 1000000) :
    Calls Tryz.prog 126 #[.pointer (some ⟨X, 0, none⟩), .slice LA L.length lc] w fun y w' => ∃ u, L[Pr.pickI od ch L.length]? = some u ∧ y = .returned (.int .i64 (u : Int)) ∧ w'.heap[X]? = some (.cells (xCells v0 v1 OA od.length oc (ch + 1) v4 v5 v6 v7 v8 v9) T (0, 0)) ∧ Mod (fun q => q = X) w w' := by
  have hc2 : ∀ u : World, u.heap[X]? = some (.cells (xCells v0 v1 OA od.length oc ch v4 v5 v6 v7 v8 v9) T (0, 0)) → u.cell? ⟨X, 2, none⟩ = some (.slice OA od.length oc) ∧ u.cell? ⟨X, 3, none⟩ = some (.int .i64 (ch : Int)) ∧ X < u.heap.size ∧ u.frozen? ⟨X, 3, none⟩ = false := fun u hu => ⟨cell_blk hu 2, cell_blk hu 3, blk_lt hu, free_blk hu 3⟩
  obtain ⟨n, hn⟩ : ∃ n, n = od.length := ⟨_, rfl⟩
  obtain ⟨na, hna⟩ : ∃ n, n = L.length := ⟨_, rfl⟩
  rw [← hn] at hX hc2 hod hol ⊢
  rw [← hna] at hL hl0 hl8 ⊢
  obtain ⟨ix, hix⟩ : ∃ i, i = Pr.pickI od ch na := ⟨_, rfl⟩
  have hixl : ix < na := by rw [hix]; exact Nat.mod_lt _ hl0
  obtain ⟨u, hu⟩ := get_some (show ix < L.length by omega)
  obtain ⟨gl, ol, rfl, hgl, hcl⟩ := hL.2 (by omega)
  have hlc := hcl ix (by omega)
  rw [List.getElem?_map, hu] at hlc
  simp only [Option.map_some] at hlc
  rw [← hix]
  obtain ⟨b, hb⟩ : ∃ b, b = od.getD ch 0 := ⟨_, rfl⟩
  have hbx : ix = b % na := by rw [hix, hb]; rfl
  have hb255 : b ≤ 255 := by
    rw [hb]
    by_cases h : ch < od.length
    · rw [List.getD_eq_getElem?_getD, List.getElem?_eq_getElem h]; exact hob _ (List.getElem_mem h)
    · rw [List.getD_eq_getElem?_getD, List.getElem?_eq_none (by omega)]; simp
  have htm : Int.tmod (b : Int) (na : Int) = (ix : Int) := by rw [Int.tmod_eq_emod_of_nonneg (by omega), hbx]; rfl
  have hna0 : ¬ (na : Int) = 0 := by omega
  have hwb : IntKind.i64.wrap (b : Int) = (b : Int) := by simp [IntKind.wrap, IntKind.signed, IntKind.bits]; omega
  have e1 : wrap64 ((ch : Int) + 1) = (ch : Int) + 1 := IntWalk.wrap64_in _ (by omega)
  obtain ⟨D, hD⟩ : ∃ z, z = w.drew := ⟨_, rfl⟩
  have hbd : Below w.heap.size w D := by rw [hD]; exact (Below.refl _ _).drew
  obtain ⟨D2, hD2⟩ : ∃ z, z = D.drew := ⟨_, rfl⟩
  have hbd2 : Below D.heap.size D D2 := by rw [hD2]; exact (Below.refl _ _).drew
  have k1 : (0 : Int) ≤ (ch : Int) := Int.natCast_nonneg _
  have k3 : (0 : Int) ≤ (ix : Int) := Int.natCast_nonneg _
  have k4 : (ix : Int) < (na : Int) := by omega
  have HX := Lib.hid hX
  have HC2 := Lib.hid hc2
  have HU := Lib.hid hu
  have HBD := Lib.hid hbd
  have HBD2 := Lib.hid hbd2
  have HLC := Lib.hid (And.intro hlc (And.intro hgl (hLX _ rfl)))
  have HOD := Lib.hid hod
  have HB := Lib.hid hb
  have HN := Lib.hid hn
  clear hX hc2 hu hbd hbd2 hlc hgl hLX hod hb hn hL hcl hix hob hbx hna
  go_enter Tryz.func126, Tryz.ntmps126
  go_upto_region 2 with fail
  refine wp_region_planF (by kernel_rfl) (fun u => Below w.heap.size w u) [] [(0, .pure), (1, .pure), (2, .pure), (3, .load), (4, .pure), (5, .pure), (6, .pure), (7, .load), (8, .pure), (9, .pure)] (by simp only [List.map_cons, List.map_nil, List.getElem?_toArray, List.getElem?_cons_succ, List.getElem?_cons_zero]; rfl) (by kernel_rfl) (fun _ _ d _ _ h => by cases d <;> exact h) ((Below.refl _ _).drew) ?_
  rw [← hD]
  clear hD
  repeat (first
    | (refine plan_pure (v := ?_) (by rfl) (fun w1 => ?_) ?_
       rotate_left
       · go_simp <;> with_reducible rfl
       simp only [Act.put, List.setIfInBounds_toArray, List.set_cons_zero, List.set_cons_succ])
    | (refine plan_off (by rfl) ?_
       simp only [Act.put, List.setIfInBounds_toArray, List.set_cons_zero, List.set_cons_succ])
    | (refine plan_load_off (by rfl) ?_
       simp only [Act.put, List.setIfInBounds_toArray, List.set_cons_zero, List.set_cons_succ])
    | (refine plan_load (v := ?_) (by rfl) (fun w1 hw1 => ?_) ?_
       rotate_left
       · (have qq := HC2.out w1 (blk_step HX.out hw1)
          obtain ⟨q0, q1, q2, q3⟩ := qq
          clear hw1
          go_simp <;> with_reducible rfl)
       simp only [Act.put, List.setIfInBounds_toArray, List.set_cons_zero, List.set_cons_succ]))
  refine plan_end ?_
  by_cases hlt : ch < n
  · have k2 : (ch : Int) < (n : Int) := by omega
    obtain ⟨go, oo, hOA, hgo, hco⟩ := HOD.out.2 (by omega)
    have hoc := hco ch (by omega)
    have hbe : od[ch]? = some b := by
      rw [HB.out, List.getD_eq_getElem?_getD, List.getElem?_eq_getElem (by rw [← HN.out]; exact hlt)]; rfl
    rw [List.getElem?_map, hbe] at hoc
    simp only [Option.map_some] at hoc
    subst hOA
    have HOC := Lib.hid (And.intro hoc hgo)
    clear hoc hgo hco hbe HOD
    go_upto_region 3 with fail
    refine wp_region_planF (by kernel_rfl) (fun u => Below D.heap.size D u) [] [(0, .pure), (1, .pure), (2, .pure), (3, .load), (4, .pure), (5, .pure), (6, .pure), (7, .load), (8, .pure), (9, .load), (10, .pure), (11, .pure)] (by simp only [List.map_cons, List.map_nil, List.getElem?_toArray, List.getElem?_cons_succ, List.getElem?_cons_zero]; rfl) (by kernel_rfl) (fun _ _ d _ _ h => by cases d <;> exact h) ((Below.refl _ _).drew) ?_
    rw [← hD2]
    clear hD2
    repeat (first
      | (refine plan_pure (v := ?_) (by rfl) (fun w1 => ?_) ?_
         rotate_left
         · go_simp <;> with_reducible rfl
         simp only [Act.put, List.setIfInBounds_toArray, List.set_cons_zero, List.set_cons_succ])
      | (refine plan_off (by rfl) ?_
         simp only [Act.put, List.setIfInBounds_toArray, List.set_cons_zero, List.set_cons_succ])
      | (refine plan_load_off (by rfl) ?_
         simp only [Act.put, List.setIfInBounds_toArray, List.set_cons_zero, List.set_cons_succ])
      | (refine plan_load (v := ?_) (by rfl) (fun w1 hw1 => ?_) ?_
         rotate_left
         · (have hbw := below_at HBD.out hw1
            have qq := HC2.out w1 (blk_step HX.out hbw)
            obtain ⟨q0, q1, q2, q3⟩ := qq
            have qo := (World.cell?_of_block (hbw.block go HOC.out.2)).trans HOC.out.1
            have qg := Nat.lt_of_lt_of_le HOC.out.2 hbw.size
            clear hbw
            clear hw1
            go_simp <;> with_reducible rfl)
         simp only [Act.put, List.setIfInBounds_toArray, List.set_cons_zero, List.set_cons_succ]))
    refine plan_end ?_
    have HBU := Lib.hid (below_at HBD.out HBD2.out)
    obtain ⟨q0, q1, q2, q3⟩ := HC2.out D2 (blk_step HX.out HBU.out)
    have HXU := Lib.hid (blk_step HX.out HBU.out)
    go_upto_region 5 with fail
    try rw [e1]
    obtain ⟨W5, hW5⟩ : ∃ z, z = D2.setCell ⟨X, 3, none⟩ (.int .i64 ((ch : Int) + 1)) := ⟨_, rfl⟩
    rw [← hW5]
    have hX5 : W5.heap[X]? = some (.cells (xCells v0 v1 (some ⟨go, oo, none⟩) n oc (ch + 1) v4 v5 v6 v7 v8 v9) T (0, 0)) := by rw [hW5, set_blk HXU.out]; simp [xCells]
    have hmw : Mod (fun q => q = X) w W5 := by
      rw [hW5]
      exact Mod.setCell (F := fun q => q = X) (Mod.of_below_size HBU.out _) (p := ⟨X, 3, none⟩) (fun _ => rfl) _
    have hlc5 := (hmw.cell gl (ol + ix) HLC.out.2.1 HLC.out.2.2).trans HLC.out.1
    have hlg5 := Nat.lt_of_lt_of_le HLC.out.2.1 hmw.size
    have HX5 := Lib.hid hX5
    have HM5 := Lib.hid hmw
    clear hW5 hX5 hmw q0 q1 q2 q3 HXU
    go_wp2_with fail
    go_ret
    exact ⟨u, HU.out, rfl, HX5.out, HM5.out⟩
  · have k2 : ¬ (ch : Int) < (n : Int) := by omega
    have hb0 : b = 0 := by rw [HB.out, List.getD_eq_getElem?_getD, List.getElem?_eq_none (by rw [← HN.out]; omega)]; rfl
    clear hD2
    subst hb0
    have htm0 : Int.tmod 0 (na : Int) = (ix : Int) := htm
    have HBU := HBD
    obtain ⟨q0, q1, q2, q3⟩ := HC2.out D (blk_step HX.out HBU.out)
    have HXU := Lib.hid (blk_step HX.out HBU.out)
    go_upto_region 5 with fail
    try rw [e1]
    obtain ⟨W5, hW5⟩ : ∃ z, z = D.setCell ⟨X, 3, none⟩ (.int .i64 ((ch : Int) + 1)) := ⟨_, rfl⟩
    rw [← hW5]
    have hX5 : W5.heap[X]? = some (.cells (xCells v0 v1 OA n oc (ch + 1) v4 v5 v6 v7 v8 v9) T (0, 0)) := by rw [hW5, set_blk HXU.out]; simp [xCells]
    have hmw : Mod (fun q => q = X) w W5 := by
      rw [hW5]
      exact Mod.setCell (F := fun q => q = X) (Mod.of_below_size HBU.out _) (p := ⟨X, 3, none⟩) (fun _ => rfl) _
    have hlc5 := (hmw.cell gl (ol + ix) HLC.out.2.1 HLC.out.2.2).trans HLC.out.1
    have hlg5 := Nat.lt_of_lt_of_le HLC.out.2.1 hmw.size
    have HX5 := Lib.hid hX5
    have HM5 := Lib.hid hmw
    clear hW5 hX5 hmw q0 q1 q2 q3 HXU
    go_wp2_with fail
    go_ret
    exact ⟨u, HU.out, rfl, HX5.out, HM5.out⟩
end Go.Proofs.YtckdofjpoajblaaGreat
