/- An instruction is done. -/
import Derived.Test.YtcaapoacmfjnmaaGreatStK
import Derived.Laws.EntriesVeiled
namespace Go.Proofs.YtcaapoacmfjnmaaGreat
open Go.RowKit
set_option linter.unusedVariables false

namespace Pr
/-- what instruction i of thread t, which is x, does -/
def deed (s : St) (t : Nat) (x : Th) (i : Ins) : St :=
  if i.k = 1 then regs s t x i.r.toNat (s.v i.x.toNat) else if i.k = 2 then { s with v := updI s.v i.x.toNat (x.r i.r.toNat) }
  else if i.k = 3 then regs s t x i.r.toNat i.n else if i.k = 4 then regs s t x i.r.toNat (wrap64 (x.r i.r.toNat + i.n))
  else if i.k = 5 then { s with h := updI s.h i.x.toNat (t : Int) } else if i.k = 6 then (if s.h i.x.toNat = (t : Int) then { s with h := updI s.h i.x.toNat (-1) } else s)
  else if i.k = 7 then (if x.r i.r.toNat = 0 then s else { s with th := s.th.set t { x with pc := i.x.toNat } }) else s
def tick (x : Th) : Th := ⟨x.pc + 1, x.fuel - 1, x.r⟩
def doI (s : St) (t : Nat) (i : Ins) : St :=
  match s.th[t]? with
  | some x => deed { s with th := s.th.set t (tick x) } t (tick x) i
  | none => s
theorem deed1 (s : St) (t : Nat) (x : Th) (q m : Nat) (n : Int) : deed s t x ⟨1, (q : Int), (m : Int), n⟩ = regs s t x q (s.v m) := rfl
theorem deed2 (s : St) (t : Nat) (x : Th) (q m : Nat) (n : Int) : deed s t x ⟨2, (q : Int), (m : Int), n⟩ = { s with v := updI s.v m (x.r q) } := rfl
theorem deed3 (s : St) (t : Nat) (x : Th) (q m : Nat) (n : Int) : deed s t x ⟨3, (q : Int), (m : Int), n⟩ = regs s t x q n := rfl
theorem deed4 (s : St) (t : Nat) (x : Th) (q m : Nat) (n : Int) : deed s t x ⟨4, (q : Int), (m : Int), n⟩ = regs s t x q (wrap64 (x.r q + n)) := rfl
theorem deed5 (s : St) (t : Nat) (x : Th) (q m : Nat) (n : Int) : deed s t x ⟨5, (q : Int), (m : Int), n⟩ = { s with h := updI s.h m (t : Int) } := rfl
theorem deed6 (s : St) (t : Nat) (x : Th) (q m : Nat) (n : Int) : deed s t x ⟨6, (q : Int), (m : Int), n⟩ = (if s.h m = (t : Int) then { s with h := updI s.h m (-1) } else s) := rfl
theorem deed7 (s : St) (t : Nat) (x : Th) (q m : Nat) (n : Int) : deed s t x ⟨7, (q : Int), (m : Int), n⟩ = (if x.r q = 0 then s else { s with th := s.th.set t { x with pc := m } }) := rfl
theorem deed8 (s : St) (t : Nat) (x : Th) (q m : Nat) (n : Int) : deed s t x ⟨8, (q : Int), (m : Int), n⟩ = s := rfl
end Pr
set_option maxRecDepth 100000 in
set_option maxHeartbeats 4000000 in
theorem do_any (w : World) (C : Nat → Prop) (S T : Nat) (s : St) (t : Nat) (i : Ins) (h : SAt w C S T s) (hw : Pr.Wf s) (hi : Pr.ins s t = some i) :
    Calls Tryz.prog 67 #[.pointer (some ⟨S, 0, none⟩), .int .i64 (t : Int), valI i] w fun y w' => y = .returned (.tuple #[]) ∧ SAt w' C S T (Pr.doI s t i) ∧ Mod (fun k => k = S ∨ k = T) w w' := by
  obtain ⟨nI, hn0, hn8, hok⟩ := hw.insOk hi
  obtain ⟨x, hx, hfu⟩ : ∃ x, s.th[t]? = some x ∧ x.fuel ≠ 0 := by
    unfold Pr.ins at hi
    split at hi
    · rename_i x c hx hc
      split at hi
      · cases hi
      · exact ⟨x, hx, by assumption⟩
    · cases hi
  obtain ⟨hf8, hp8⟩ := hw.bnd t x hx
  obtain ⟨f, hf⟩ : ∃ f, x.fuel = f + 1 := ⟨x.fuel - 1, by omega⟩
  have hdo : Pr.doI s t i = Pr.deed { s with th := s.th.set t ⟨x.pc + 1, f, x.r⟩ } t ⟨x.pc + 1, f, x.r⟩ i := by
    unfold Pr.doI
    rw [hx]
    simp only [Pr.tick, hf, Nat.add_sub_cancel]
  obtain ⟨s9, hs9⟩ : ∃ s9, s9 = Pr.doI s t i := ⟨_, rfl⟩
  rw [← hs9] at hdo ⊢
  have hv4 := hw.ok.1.2.1
  have hm2 := hw.ok.1.2.2.2.1
  obtain ⟨k, r, ix, n⟩ := i
  have hk1 := hok.1
  have hk8 := hok.2.1
  have hr0 := hok.2.2.2.2.2.2.1
  have hr1 := hok.2.2.2.2.2.2.2.1
  have hx0 := hok.2.2.2.2.2.1
  simp only at hk1 hk8 hr0 hr1 hx0
  obtain ⟨q, rfl⟩ : ∃ q : Nat, r = q := ⟨r.toNat, by omega⟩
  obtain ⟨m, rfl⟩ : ∃ m : Nat, ix = m := ⟨ix.toNat, by omega⟩
  have hq2 : q < 2 := by omega
  have hmv : k = 1 ∨ k = 2 → m < 4 := fun hk => by have := hok.2.2.2.2.2.2.2.2.2.1 hk; simp only at this; omega
  have hmm : k = 5 ∨ k = 6 → m < 2 := fun hk => by have := hok.2.2.2.2.2.2.2.2.2.2.1 hk; simp only at this; omega
  have hm0 : k = 3 ∨ k = 4 ∨ k = 8 → m = 0 := fun hk => by have := hok.2.2.2.2.2.2.2.2.2.2.2.2 hk; simp only at this; omega
  have hmj : m < 9 := by
    rcases (show k = 1 ∨ k = 2 ∨ k = 3 ∨ k = 4 ∨ k = 5 ∨ k = 6 ∨ k = 7 ∨ k = 8 by omega) with hk | hk | hk | hk | hk | hk | hk | hk
    · have := hmv (.inl hk); omega
    · have := hmv (.inr hk); omega
    · have := hok.2.2.2.2.2.2.2.2.2.2.2.2 (.inl hk); simp only at this; omega
    · have := hok.2.2.2.2.2.2.2.2.2.2.2.2 (.inr (.inl hk)); simp only at this; omega
    · have := hmm (.inl hk); omega
    · have := hmm (.inr hk); omega
    · have := hok.2.2.2.2.2.2.2.2.2.2.2.1 hk; simp only at this; omega
    · have := hok.2.2.2.2.2.2.2.2.2.2.2.2 (.inr (.inr hk)); simp only at this; omega
  obtain ⟨Wz, Z, hWz, hZ, hBz, hZl, hZe⟩ := ins_box w ⟨k, (q : Int), (m : Int), n⟩
  obtain ⟨nn, hnn⟩ : ∃ n, n = s.th.length := ⟨_, rfl⟩
  have htn : t < nn := by rw [hnn]; exact (List.getElem?_eq_some_iff.1 hx).1
  have hl4 : nn ≤ 4 := by rw [hnn]; exact hw.n4
  have HZE := Lib.hid hZe
  have HS := Lib.hid (h.below hBz)
  have HB := Lib.hid hBz
  have HX := Lib.hid hx
  have HTN := Lib.hid hnn.symm
  have HDO := Lib.hid hdo
  have HMV := Lib.hid hmv
  have HMM := Lib.hid hmm
  have HM0 := Lib.hid hm0
  have HF := Lib.hid hf
  have hf7 : f ≤ 7 := by omega
  have HTW := Lib.hid h.lt
  have HZW := Lib.hid (Nat.le_of_eq hZ.symm)
  have HZL := Lib.hid hZl
  have k3 : (0 : Int) ≤ (t : Int) := Int.natCast_nonneg _
  have k4 : (t : Int) < (nn : Int) := by omega
  simp only at hWz
  unfold valI
  simp only
  clear hZe hBz h hx hnn hZl hi hw hfu hdo hs9 hmv hmm hm0 hf hok hv4 hm2 hn0 hn8
  go_enter Tryz.func67, Tryz.ntmps67
  go_upto_region 1 with fail
  rw [← hWz, ← hZ]
  clear hWz hZ
  go_upto_region 2 with fail
  obtain ⟨D, hD⟩ : ∃ D, D = Wz.heap.size := ⟨_, rfl⟩
  obtain ⟨W2, hW2⟩ : ∃ W2, W2 = Wz.alloc (Obj.cells #[.nilFunc, .func (.func 101) #[] #[], .func (.func 102) #[] #[], .func (.func 103) #[] #[], .func (.func 104) #[] #[], .func (.func 105) #[] #[], .func (.func 106) #[] #[], .func (.func 107) #[] #[], .func (.func 108) #[] #[]] 160) := ⟨_, rfl⟩
  rw [← hW2, ← hD]
  have hb2 : Below Wz.heap.size Wz W2 := by rw [hW2]; exact (Below.refl _ _).alloc (Nat.le_refl _) _
  have hDk : W2.heap[D]? = some (.cells #[.nilFunc, .func (.func 101) #[] #[], .func (.func 102) #[] #[], .func (.func 103) #[] #[], .func (.func 104) #[] #[], .func (.func 105) #[] #[], .func (.func 106) #[] #[], .func (.func 107) #[] #[], .func (.func 108) #[] #[]] 160 (0, 0)) := by rw [hW2, hD]; exact heap_alloc_new Wz _
  have HDK := Lib.hid hDk
  have HB2 := Lib.hid hb2
  have hS2 := HS.out.below hb2
  have HS2 := Lib.hid hS2
  have HDW := Lib.hid (Nat.le_of_eq hD.symm)
  clear hD hW2 hb2 hDk hS2 HS
  obtain ⟨PA, pc, tc, _, _, _, z3, _, _, _⟩ := HS2.out.cells
  rw [HTN.out] at z3
  obtain ⟨t0, t1, _⟩ := HS2.out.thread t x HX.out
  rw [HF.out] at t1
  have sl := HS2.out.lt.1
  have tl := HS2.out.lt.2
  have f1 := HS2.out.free.2 (t * 4 + 1)
  obtain ⟨hs3, hm3⟩ := HS2.out.set_fuel HX.out f
  have HS3 := Lib.hid hs3
  have HM3 := Lib.hid hm3
  clear hs3 hm3
  go_upto_region 3 with fail
  have e1 : wrap64 (f : Int) = (f : Int) := IntWalk.wrap64_in _ (by omega)
  try rw [e1]
  obtain ⟨W3, hW3⟩ : ∃ W3, W3 = W2.setCell ⟨T, t * 4 + 1, none⟩ (.int .i64 (f : Int)) := ⟨_, rfl⟩
  rw [← hW3] at HS3 HM3 ⊢
  clear hW3 t0 t1 sl tl f1 e1 z3
  have hx3 : (s.th.set t { x with fuel := f })[t]? = some ⟨x.pc, f, x.r⟩ := by rw [List.getElem?_set_self (List.getElem?_eq_some_iff.1 HX.out).1]
  have HX3 := Lib.hid hx3
  clear hx3
  obtain ⟨PA', pc', tc', _, _, _, z3, _, _, _⟩ := HS3.out.cells
  simp only [List.length_set] at z3
  rw [HTN.out] at z3
  obtain ⟨t0, t1, _⟩ := HS3.out.thread t _ HX3.out
  have sl := HS3.out.lt.1
  have tl := HS3.out.lt.2
  have f1 := HS3.out.free.2 (t * 4)
  obtain ⟨hs4, hm4⟩ := HS3.out.set_pc HX3.out (x.pc + 1)
  simp only [List.set_set] at hs4
  rw [show ((x.pc + 1 : Nat) : Int) = (x.pc : Int) + 1 by omega] at hs4 hm4
  have HS4 := Lib.hid hs4
  have HM4 := Lib.hid hm4
  clear hs4 hm4
  go_upto_region 4 with fail
  have e1 : wrap64 ((x.pc : Int) + 1) = (x.pc : Int) + 1 := IntWalk.wrap64_in _ (by omega)
  try rw [e1]
  obtain ⟨W4, hW4⟩ : ∃ W4, W4 = W3.setCell ⟨T, t * 4, none⟩ (.int .i64 ((x.pc : Int) + 1)) := ⟨_, rfl⟩
  rw [← hW4] at HS4 HM4 ⊢
  clear hW4 t0 t1 sl tl f1 e1 z3
  have hx4 : (s.th.set t ⟨x.pc + 1, f, x.r⟩)[t]? = some ⟨x.pc + 1, f, x.r⟩ := by rw [List.getElem?_set_self (List.getElem?_eq_some_iff.1 HX.out).1]
  have hm24 : Mod (fun k => k = T) W2 W4 := HM3.out.trans HM4.out
  have hzd : ∀ u, Below W4.heap.size W4 u → (∀ j v, W2.cell? ⟨Z, j, none⟩ = some v → u.cell? ⟨Z, j, none⟩ = some v) ∧ (∀ j v, W2.cell? ⟨D, j, none⟩ = some v → u.cell? ⟨D, j, none⟩ = some v) ∧ Z < u.heap.size ∧ D < u.heap.size := fun u hu => by
    have h1 := HTW.out.2
    have h2 := HZW.out
    have h3 := HDW.out
    have h4 := HZL.out
    have h5 := HB2.out.size
    have h6 := hm24.size
    have h7 := hu.size
    have h8 := blk_lt HDK.out
    refine ⟨fun j v hv => ?_, fun j v hv => ?_, by omega, by omega⟩
    · rw [World.cell?_of_block (hu.block Z (by omega)), hm24.cell Z j (by omega) (by omega), hv]
    · rw [World.cell?_of_block (hu.block D (by omega)), hm24.cell D j (by omega) (by omega), hv]
  obtain ⟨y0, y1, y2, y3⟩ := (HZE.out W2 HB2.out).1
  simp only [Nat.zero_add] at y1 y2 y3
  have HZD := Lib.hid hzd
  have HY := Lib.hid (And.intro y0 (And.intro y1 (And.intro y2 y3)))
  have HM24 := Lib.hid hm24
  have HX4 := Lib.hid hx4
  have HL4 := Lib.hid (show (s.th.set t ⟨x.pc + 1, f, x.r⟩).length ≤ 4 by rw [List.length_set, HTN.out]; exact hl4)
  clear hzd y0 y1 y2 y3 hm24 hx4 HX3 HS3 HS2 HX k3 k4 hf8 hp8 htn hl4 hf7
  rcases (show k = 1 ∨ k = 2 ∨ k = 3 ∨ k = 4 ∨ k = 5 ∨ k = 6 ∨ k = 7 ∨ k = 8 by omega) with rfl | rfl | rfl | rfl | rfl | rfl | rfl | rfl
  · refine wp_region_planF (by kernel_rfl) (fun u => Below W4.heap.size W4 u) [7] [(0, .pure), (1, .load), (2, .pure), (3, .load), (4, .pure), (5, .pure), (6, .load), (7, .last)] (by simp only [List.map_cons, List.map_nil, List.getElem?_toArray, List.getElem?_cons_succ, List.getElem?_cons_zero]; rfl) (by kernel_rfl) (fun _ _ d _ _ h => by cases d <;> exact h) ((Below.refl _ _).drew) ?_
    obtain ⟨Wd, hWd⟩ : ∃ z, z = W4.drew := ⟨_, rfl⟩
    rw [← hWd]
    have hbd : Below W4.heap.size W4 Wd := by rw [hWd]; exact (Below.refl _ _).drew
    have HBD := Lib.hid hbd
    clear hWd hbd
    repeat (first
      | (refine plan_pure (v := ?_) (by rfl) (fun w1 => ?_) ?_
         rotate_left
         · go_simp <;> with_reducible rfl
         simp only [Act.put, List.setIfInBounds_toArray, List.set_cons_zero, List.set_cons_succ])
      | (refine plan_off (by rfl) ?_
         simp only [Act.put, List.setIfInBounds_toArray, List.set_cons_zero, List.set_cons_succ])
      | (refine plan_load_off (by rfl) ?_
         simp only [Act.put, List.setIfInBounds_toArray, List.set_cons_zero, List.set_cons_succ])
      | (refine plan_load (v := ?_) (by rfl) (fun w1 hw1 => ?_) ?_
         rotate_left
         · (have q0 := HZD.out w1 hw1
            have a0 := q0.1 _ _ HY.out.1
            have a1 := q0.1 _ _ HY.out.2.1
            have a2 := q0.1 _ _ HY.out.2.2.1
            have a3 := q0.1 _ _ HY.out.2.2.2
            have d0 := q0.2.1 1 _ (cell_blk HDK.out 1)
            have ql := q0.2.2.1
            have qd := q0.2.2.2
            clear q0
            clear hw1
            go_simp <;> with_reducible rfl)
         simp only [Act.put, List.setIfInBounds_toArray, List.set_cons_zero, List.set_cons_succ]))
    have hcall := load_any Wd C S T _ t _ 1 n q m (HS4.out.below HBD.out) HX4.out HL4.out hq2 (HMV.out (.inl rfl))
    have HCALL := Lib.hid hcall
    clear hcall
    refine plan_last ?_
    go_wp2_with fail
    refine HCALL.out.mono ?_
    rintro y w9 ⟨rfl, hsat, hmod⟩
    have HSAT := Lib.hid hsat
    have HMOD := Lib.hid hmod
    clear hsat hmod
    go_wp2_with fail
    repeat (first
      | (refine plan_pure (v := ?_) (by rfl) (fun w1 => ?_) ?_
         rotate_left
         · go_simp <;> with_reducible rfl
         simp only [Act.put, List.setIfInBounds_toArray, List.set_cons_zero, List.set_cons_succ])
      | (refine plan_off (by rfl) ?_
         simp only [Act.put, List.setIfInBounds_toArray, List.set_cons_zero, List.set_cons_succ])
      | (refine plan_load_off (by rfl) ?_
         simp only [Act.put, List.setIfInBounds_toArray, List.set_cons_zero, List.set_cons_succ])
      | (refine plan_load (v := ?_) (by rfl) (fun w1 hw1 => ?_) ?_
         rotate_left
         · (skip
            clear hw1
            go_simp <;> with_reducible rfl)
         simp only [Act.put, List.setIfInBounds_toArray, List.set_cons_zero, List.set_cons_succ]))
    refine plan_end ?_
    go_wp2_with fail
    go_end0
    exact ⟨rfl, by rw [HDO.out, Pr.deed1]; exact HSAT.out, ((((Mod.of_below_size HB.out _).trans (Mod.of_below_size HB2.out _ |>.mono (fun k _ e => e))).trans (HM24.out.mono (fun k _ e => Or.inr e))).trans (Mod.of_below_size HBD.out _)).trans HMOD.out⟩
  · refine wp_region_planF (by kernel_rfl) (fun u => Below W4.heap.size W4 u) [7] [(0, .pure), (1, .load), (2, .pure), (3, .load), (4, .pure), (5, .pure), (6, .load), (7, .last)] (by simp only [List.map_cons, List.map_nil, List.getElem?_toArray, List.getElem?_cons_succ, List.getElem?_cons_zero]; rfl) (by kernel_rfl) (fun _ _ d _ _ h => by cases d <;> exact h) ((Below.refl _ _).drew) ?_
    obtain ⟨Wd, hWd⟩ : ∃ z, z = W4.drew := ⟨_, rfl⟩
    rw [← hWd]
    have hbd : Below W4.heap.size W4 Wd := by rw [hWd]; exact (Below.refl _ _).drew
    have HBD := Lib.hid hbd
    clear hWd hbd
    repeat (first
      | (refine plan_pure (v := ?_) (by rfl) (fun w1 => ?_) ?_
         rotate_left
         · go_simp <;> with_reducible rfl
         simp only [Act.put, List.setIfInBounds_toArray, List.set_cons_zero, List.set_cons_succ])
      | (refine plan_off (by rfl) ?_
         simp only [Act.put, List.setIfInBounds_toArray, List.set_cons_zero, List.set_cons_succ])
      | (refine plan_load_off (by rfl) ?_
         simp only [Act.put, List.setIfInBounds_toArray, List.set_cons_zero, List.set_cons_succ])
      | (refine plan_load (v := ?_) (by rfl) (fun w1 hw1 => ?_) ?_
         rotate_left
         · (have q0 := HZD.out w1 hw1
            have a0 := q0.1 _ _ HY.out.1
            have a1 := q0.1 _ _ HY.out.2.1
            have a2 := q0.1 _ _ HY.out.2.2.1
            have a3 := q0.1 _ _ HY.out.2.2.2
            have d0 := q0.2.1 2 _ (cell_blk HDK.out 2)
            have ql := q0.2.2.1
            have qd := q0.2.2.2
            clear q0
            clear hw1
            go_simp <;> with_reducible rfl)
         simp only [Act.put, List.setIfInBounds_toArray, List.set_cons_zero, List.set_cons_succ]))
    have hcall := store_any Wd C S T _ t _ 2 n q m (HS4.out.below HBD.out) HX4.out HL4.out hq2 (HMV.out (.inr rfl))
    have HCALL := Lib.hid hcall
    clear hcall
    refine plan_last ?_
    go_wp2_with fail
    refine HCALL.out.mono ?_
    rintro y w9 ⟨rfl, hsat, hmod⟩
    have HSAT := Lib.hid hsat
    have HMOD := Lib.hid hmod
    clear hsat hmod
    go_wp2_with fail
    repeat (first
      | (refine plan_pure (v := ?_) (by rfl) (fun w1 => ?_) ?_
         rotate_left
         · go_simp <;> with_reducible rfl
         simp only [Act.put, List.setIfInBounds_toArray, List.set_cons_zero, List.set_cons_succ])
      | (refine plan_off (by rfl) ?_
         simp only [Act.put, List.setIfInBounds_toArray, List.set_cons_zero, List.set_cons_succ])
      | (refine plan_load_off (by rfl) ?_
         simp only [Act.put, List.setIfInBounds_toArray, List.set_cons_zero, List.set_cons_succ])
      | (refine plan_load (v := ?_) (by rfl) (fun w1 hw1 => ?_) ?_
         rotate_left
         · (skip
            clear hw1
            go_simp <;> with_reducible rfl)
         simp only [Act.put, List.setIfInBounds_toArray, List.set_cons_zero, List.set_cons_succ]))
    refine plan_end ?_
    go_wp2_with fail
    go_end0
    exact ⟨rfl, by rw [HDO.out, Pr.deed2]; exact HSAT.out, ((((Mod.of_below_size HB.out _).trans (Mod.of_below_size HB2.out _ |>.mono (fun k _ e => e))).trans (HM24.out.mono (fun k _ e => Or.inr e))).trans (Mod.of_below_size HBD.out _)).trans HMOD.out⟩
  · refine wp_region_planF (by kernel_rfl) (fun u => Below W4.heap.size W4 u) [7] [(0, .pure), (1, .load), (2, .pure), (3, .load), (4, .pure), (5, .pure), (6, .load), (7, .last)] (by simp only [List.map_cons, List.map_nil, List.getElem?_toArray, List.getElem?_cons_succ, List.getElem?_cons_zero]; rfl) (by kernel_rfl) (fun _ _ d _ _ h => by cases d <;> exact h) ((Below.refl _ _).drew) ?_
    obtain ⟨Wd, hWd⟩ : ∃ z, z = W4.drew := ⟨_, rfl⟩
    rw [← hWd]
    have hbd : Below W4.heap.size W4 Wd := by rw [hWd]; exact (Below.refl _ _).drew
    have HBD := Lib.hid hbd
    clear hWd hbd
    repeat (first
      | (refine plan_pure (v := ?_) (by rfl) (fun w1 => ?_) ?_
         rotate_left
         · go_simp <;> with_reducible rfl
         simp only [Act.put, List.setIfInBounds_toArray, List.set_cons_zero, List.set_cons_succ])
      | (refine plan_off (by rfl) ?_
         simp only [Act.put, List.setIfInBounds_toArray, List.set_cons_zero, List.set_cons_succ])
      | (refine plan_load_off (by rfl) ?_
         simp only [Act.put, List.setIfInBounds_toArray, List.set_cons_zero, List.set_cons_succ])
      | (refine plan_load (v := ?_) (by rfl) (fun w1 hw1 => ?_) ?_
         rotate_left
         · (have q0 := HZD.out w1 hw1
            have a0 := q0.1 _ _ HY.out.1
            have a1 := q0.1 _ _ HY.out.2.1
            have a2 := q0.1 _ _ HY.out.2.2.1
            have a3 := q0.1 _ _ HY.out.2.2.2
            have d0 := q0.2.1 3 _ (cell_blk HDK.out 3)
            have ql := q0.2.2.1
            have qd := q0.2.2.2
            clear q0
            clear hw1
            go_simp <;> with_reducible rfl)
         simp only [Act.put, List.setIfInBounds_toArray, List.set_cons_zero, List.set_cons_succ]))
    have hcall := set_any Wd C S T _ t _ 3 n q m (HS4.out.below HBD.out) HX4.out HL4.out hq2 (by have := HM0.out (.inl rfl); omega)
    have HCALL := Lib.hid hcall
    clear hcall
    refine plan_last ?_
    go_wp2_with fail
    refine HCALL.out.mono ?_
    rintro y w9 ⟨rfl, hsat, hmod⟩
    have HSAT := Lib.hid hsat
    have HMOD := Lib.hid hmod
    clear hsat hmod
    go_wp2_with fail
    repeat (first
      | (refine plan_pure (v := ?_) (by rfl) (fun w1 => ?_) ?_
         rotate_left
         · go_simp <;> with_reducible rfl
         simp only [Act.put, List.setIfInBounds_toArray, List.set_cons_zero, List.set_cons_succ])
      | (refine plan_off (by rfl) ?_
         simp only [Act.put, List.setIfInBounds_toArray, List.set_cons_zero, List.set_cons_succ])
      | (refine plan_load_off (by rfl) ?_
         simp only [Act.put, List.setIfInBounds_toArray, List.set_cons_zero, List.set_cons_succ])
      | (refine plan_load (v := ?_) (by rfl) (fun w1 hw1 => ?_) ?_
         rotate_left
         · (skip
            clear hw1
            go_simp <;> with_reducible rfl)
         simp only [Act.put, List.setIfInBounds_toArray, List.set_cons_zero, List.set_cons_succ]))
    refine plan_end ?_
    go_wp2_with fail
    go_end0
    exact ⟨rfl, by rw [HDO.out, Pr.deed3]; exact HSAT.out, ((((Mod.of_below_size HB.out _).trans (Mod.of_below_size HB2.out _ |>.mono (fun k _ e => e))).trans (HM24.out.mono (fun k _ e => Or.inr e))).trans (Mod.of_below_size HBD.out _)).trans HMOD.out⟩
  · refine wp_region_planF (by kernel_rfl) (fun u => Below W4.heap.size W4 u) [7] [(0, .pure), (1, .load), (2, .pure), (3, .load), (4, .pure), (5, .pure), (6, .load), (7, .last)] (by simp only [List.map_cons, List.map_nil, List.getElem?_toArray, List.getElem?_cons_succ, List.getElem?_cons_zero]; rfl) (by kernel_rfl) (fun _ _ d _ _ h => by cases d <;> exact h) ((Below.refl _ _).drew) ?_
    obtain ⟨Wd, hWd⟩ : ∃ z, z = W4.drew := ⟨_, rfl⟩
    rw [← hWd]
    have hbd : Below W4.heap.size W4 Wd := by rw [hWd]; exact (Below.refl _ _).drew
    have HBD := Lib.hid hbd
    clear hWd hbd
    repeat (first
      | (refine plan_pure (v := ?_) (by rfl) (fun w1 => ?_) ?_
         rotate_left
         · go_simp <;> with_reducible rfl
         simp only [Act.put, List.setIfInBounds_toArray, List.set_cons_zero, List.set_cons_succ])
      | (refine plan_off (by rfl) ?_
         simp only [Act.put, List.setIfInBounds_toArray, List.set_cons_zero, List.set_cons_succ])
      | (refine plan_load_off (by rfl) ?_
         simp only [Act.put, List.setIfInBounds_toArray, List.set_cons_zero, List.set_cons_succ])
      | (refine plan_load (v := ?_) (by rfl) (fun w1 hw1 => ?_) ?_
         rotate_left
         · (have q0 := HZD.out w1 hw1
            have a0 := q0.1 _ _ HY.out.1
            have a1 := q0.1 _ _ HY.out.2.1
            have a2 := q0.1 _ _ HY.out.2.2.1
            have a3 := q0.1 _ _ HY.out.2.2.2
            have d0 := q0.2.1 4 _ (cell_blk HDK.out 4)
            have ql := q0.2.2.1
            have qd := q0.2.2.2
            clear q0
            clear hw1
            go_simp <;> with_reducible rfl)
         simp only [Act.put, List.setIfInBounds_toArray, List.set_cons_zero, List.set_cons_succ]))
    have hcall := add_any Wd C S T _ t _ 4 n q m (HS4.out.below HBD.out) HX4.out HL4.out hq2 (by have := HM0.out (.inr (.inl rfl)); omega)
    have HCALL := Lib.hid hcall
    clear hcall
    refine plan_last ?_
    go_wp2_with fail
    refine HCALL.out.mono ?_
    rintro y w9 ⟨rfl, hsat, hmod⟩
    have HSAT := Lib.hid hsat
    have HMOD := Lib.hid hmod
    clear hsat hmod
    go_wp2_with fail
    repeat (first
      | (refine plan_pure (v := ?_) (by rfl) (fun w1 => ?_) ?_
         rotate_left
         · go_simp <;> with_reducible rfl
         simp only [Act.put, List.setIfInBounds_toArray, List.set_cons_zero, List.set_cons_succ])
      | (refine plan_off (by rfl) ?_
         simp only [Act.put, List.setIfInBounds_toArray, List.set_cons_zero, List.set_cons_succ])
      | (refine plan_load_off (by rfl) ?_
         simp only [Act.put, List.setIfInBounds_toArray, List.set_cons_zero, List.set_cons_succ])
      | (refine plan_load (v := ?_) (by rfl) (fun w1 hw1 => ?_) ?_
         rotate_left
         · (skip
            clear hw1
            go_simp <;> with_reducible rfl)
         simp only [Act.put, List.setIfInBounds_toArray, List.set_cons_zero, List.set_cons_succ]))
    refine plan_end ?_
    go_wp2_with fail
    go_end0
    exact ⟨rfl, by rw [HDO.out, Pr.deed4]; exact HSAT.out, ((((Mod.of_below_size HB.out _).trans (Mod.of_below_size HB2.out _ |>.mono (fun k _ e => e))).trans (HM24.out.mono (fun k _ e => Or.inr e))).trans (Mod.of_below_size HBD.out _)).trans HMOD.out⟩
  · refine wp_region_planF (by kernel_rfl) (fun u => Below W4.heap.size W4 u) [7] [(0, .pure), (1, .load), (2, .pure), (3, .load), (4, .pure), (5, .pure), (6, .load), (7, .last)] (by simp only [List.map_cons, List.map_nil, List.getElem?_toArray, List.getElem?_cons_succ, List.getElem?_cons_zero]; rfl) (by kernel_rfl) (fun _ _ d _ _ h => by cases d <;> exact h) ((Below.refl _ _).drew) ?_
    obtain ⟨Wd, hWd⟩ : ∃ z, z = W4.drew := ⟨_, rfl⟩
    rw [← hWd]
    have hbd : Below W4.heap.size W4 Wd := by rw [hWd]; exact (Below.refl _ _).drew
    have HBD := Lib.hid hbd
    clear hWd hbd
    repeat (first
      | (refine plan_pure (v := ?_) (by rfl) (fun w1 => ?_) ?_
         rotate_left
         · go_simp <;> with_reducible rfl
         simp only [Act.put, List.setIfInBounds_toArray, List.set_cons_zero, List.set_cons_succ])
      | (refine plan_off (by rfl) ?_
         simp only [Act.put, List.setIfInBounds_toArray, List.set_cons_zero, List.set_cons_succ])
      | (refine plan_load_off (by rfl) ?_
         simp only [Act.put, List.setIfInBounds_toArray, List.set_cons_zero, List.set_cons_succ])
      | (refine plan_load (v := ?_) (by rfl) (fun w1 hw1 => ?_) ?_
         rotate_left
         · (have q0 := HZD.out w1 hw1
            have a0 := q0.1 _ _ HY.out.1
            have a1 := q0.1 _ _ HY.out.2.1
            have a2 := q0.1 _ _ HY.out.2.2.1
            have a3 := q0.1 _ _ HY.out.2.2.2
            have d0 := q0.2.1 5 _ (cell_blk HDK.out 5)
            have ql := q0.2.2.1
            have qd := q0.2.2.2
            clear q0
            clear hw1
            go_simp <;> with_reducible rfl)
         simp only [Act.put, List.setIfInBounds_toArray, List.set_cons_zero, List.set_cons_succ]))
    have hcall := lock_any Wd C S T _ t _ 5 n q m (HS4.out.below HBD.out) HX4.out HL4.out hq2 (HMM.out (.inl rfl))
    have HCALL := Lib.hid hcall
    clear hcall
    refine plan_last ?_
    go_wp2_with fail
    refine HCALL.out.mono ?_
    rintro y w9 ⟨rfl, hsat, hmod⟩
    have HSAT := Lib.hid hsat
    have HMOD := Lib.hid hmod
    clear hsat hmod
    go_wp2_with fail
    repeat (first
      | (refine plan_pure (v := ?_) (by rfl) (fun w1 => ?_) ?_
         rotate_left
         · go_simp <;> with_reducible rfl
         simp only [Act.put, List.setIfInBounds_toArray, List.set_cons_zero, List.set_cons_succ])
      | (refine plan_off (by rfl) ?_
         simp only [Act.put, List.setIfInBounds_toArray, List.set_cons_zero, List.set_cons_succ])
      | (refine plan_load_off (by rfl) ?_
         simp only [Act.put, List.setIfInBounds_toArray, List.set_cons_zero, List.set_cons_succ])
      | (refine plan_load (v := ?_) (by rfl) (fun w1 hw1 => ?_) ?_
         rotate_left
         · (skip
            clear hw1
            go_simp <;> with_reducible rfl)
         simp only [Act.put, List.setIfInBounds_toArray, List.set_cons_zero, List.set_cons_succ]))
    refine plan_end ?_
    go_wp2_with fail
    go_end0
    exact ⟨rfl, by rw [HDO.out, Pr.deed5]; exact HSAT.out, ((((Mod.of_below_size HB.out _).trans (Mod.of_below_size HB2.out _ |>.mono (fun k _ e => e))).trans (HM24.out.mono (fun k _ e => Or.inr e))).trans (Mod.of_below_size HBD.out _)).trans HMOD.out⟩
  · refine wp_region_planF (by kernel_rfl) (fun u => Below W4.heap.size W4 u) [7] [(0, .pure), (1, .load), (2, .pure), (3, .load), (4, .pure), (5, .pure), (6, .load), (7, .last)] (by simp only [List.map_cons, List.map_nil, List.getElem?_toArray, List.getElem?_cons_succ, List.getElem?_cons_zero]; rfl) (by kernel_rfl) (fun _ _ d _ _ h => by cases d <;> exact h) ((Below.refl _ _).drew) ?_
    obtain ⟨Wd, hWd⟩ : ∃ z, z = W4.drew := ⟨_, rfl⟩
    rw [← hWd]
    have hbd : Below W4.heap.size W4 Wd := by rw [hWd]; exact (Below.refl _ _).drew
    have HBD := Lib.hid hbd
    clear hWd hbd
    repeat (first
      | (refine plan_pure (v := ?_) (by rfl) (fun w1 => ?_) ?_
         rotate_left
         · go_simp <;> with_reducible rfl
         simp only [Act.put, List.setIfInBounds_toArray, List.set_cons_zero, List.set_cons_succ])
      | (refine plan_off (by rfl) ?_
         simp only [Act.put, List.setIfInBounds_toArray, List.set_cons_zero, List.set_cons_succ])
      | (refine plan_load_off (by rfl) ?_
         simp only [Act.put, List.setIfInBounds_toArray, List.set_cons_zero, List.set_cons_succ])
      | (refine plan_load (v := ?_) (by rfl) (fun w1 hw1 => ?_) ?_
         rotate_left
         · (have q0 := HZD.out w1 hw1
            have a0 := q0.1 _ _ HY.out.1
            have a1 := q0.1 _ _ HY.out.2.1
            have a2 := q0.1 _ _ HY.out.2.2.1
            have a3 := q0.1 _ _ HY.out.2.2.2
            have d0 := q0.2.1 6 _ (cell_blk HDK.out 6)
            have ql := q0.2.2.1
            have qd := q0.2.2.2
            clear q0
            clear hw1
            go_simp <;> with_reducible rfl)
         simp only [Act.put, List.setIfInBounds_toArray, List.set_cons_zero, List.set_cons_succ]))
    have hcall := unlock_any Wd C S T _ t _ 6 n q m (HS4.out.below HBD.out) HX4.out HL4.out hq2 (HMM.out (.inr rfl)) _ rfl
    have HCALL := Lib.hid hcall
    clear hcall
    refine plan_last ?_
    go_wp2_with fail
    refine HCALL.out.mono ?_
    rintro y w9 ⟨rfl, hsat, hmod⟩
    have HSAT := Lib.hid hsat
    have HMOD := Lib.hid hmod
    clear hsat hmod
    go_wp2_with fail
    repeat (first
      | (refine plan_pure (v := ?_) (by rfl) (fun w1 => ?_) ?_
         rotate_left
         · go_simp <;> with_reducible rfl
         simp only [Act.put, List.setIfInBounds_toArray, List.set_cons_zero, List.set_cons_succ])
      | (refine plan_off (by rfl) ?_
         simp only [Act.put, List.setIfInBounds_toArray, List.set_cons_zero, List.set_cons_succ])
      | (refine plan_load_off (by rfl) ?_
         simp only [Act.put, List.setIfInBounds_toArray, List.set_cons_zero, List.set_cons_succ])
      | (refine plan_load (v := ?_) (by rfl) (fun w1 hw1 => ?_) ?_
         rotate_left
         · (skip
            clear hw1
            go_simp <;> with_reducible rfl)
         simp only [Act.put, List.setIfInBounds_toArray, List.set_cons_zero, List.set_cons_succ]))
    refine plan_end ?_
    go_wp2_with fail
    go_end0
    exact ⟨rfl, by rw [HDO.out, Pr.deed6]; exact HSAT.out, ((((Mod.of_below_size HB.out _).trans (Mod.of_below_size HB2.out _ |>.mono (fun k _ e => e))).trans (HM24.out.mono (fun k _ e => Or.inr e))).trans (Mod.of_below_size HBD.out _)).trans HMOD.out⟩
  · refine wp_region_planF (by kernel_rfl) (fun u => Below W4.heap.size W4 u) [7] [(0, .pure), (1, .load), (2, .pure), (3, .load), (4, .pure), (5, .pure), (6, .load), (7, .last)] (by simp only [List.map_cons, List.map_nil, List.getElem?_toArray, List.getElem?_cons_succ, List.getElem?_cons_zero]; rfl) (by kernel_rfl) (fun _ _ d _ _ h => by cases d <;> exact h) ((Below.refl _ _).drew) ?_
    obtain ⟨Wd, hWd⟩ : ∃ z, z = W4.drew := ⟨_, rfl⟩
    rw [← hWd]
    have hbd : Below W4.heap.size W4 Wd := by rw [hWd]; exact (Below.refl _ _).drew
    have HBD := Lib.hid hbd
    clear hWd hbd
    repeat (first
      | (refine plan_pure (v := ?_) (by rfl) (fun w1 => ?_) ?_
         rotate_left
         · go_simp <;> with_reducible rfl
         simp only [Act.put, List.setIfInBounds_toArray, List.set_cons_zero, List.set_cons_succ])
      | (refine plan_off (by rfl) ?_
         simp only [Act.put, List.setIfInBounds_toArray, List.set_cons_zero, List.set_cons_succ])
      | (refine plan_load_off (by rfl) ?_
         simp only [Act.put, List.setIfInBounds_toArray, List.set_cons_zero, List.set_cons_succ])
      | (refine plan_load (v := ?_) (by rfl) (fun w1 hw1 => ?_) ?_
         rotate_left
         · (have q0 := HZD.out w1 hw1
            have a0 := q0.1 _ _ HY.out.1
            have a1 := q0.1 _ _ HY.out.2.1
            have a2 := q0.1 _ _ HY.out.2.2.1
            have a3 := q0.1 _ _ HY.out.2.2.2
            have d0 := q0.2.1 7 _ (cell_blk HDK.out 7)
            have ql := q0.2.2.1
            have qd := q0.2.2.2
            clear q0
            clear hw1
            go_simp <;> with_reducible rfl)
         simp only [Act.put, List.setIfInBounds_toArray, List.set_cons_zero, List.set_cons_succ]))
    have hcall := jump_any Wd C S T _ t _ 7 n q m (HS4.out.below HBD.out) HX4.out HL4.out hq2 hmj _ rfl
    have HCALL := Lib.hid hcall
    clear hcall
    refine plan_last ?_
    go_wp2_with fail
    refine HCALL.out.mono ?_
    rintro y w9 ⟨rfl, hsat, hmod⟩
    have HSAT := Lib.hid hsat
    have HMOD := Lib.hid hmod
    clear hsat hmod
    go_wp2_with fail
    repeat (first
      | (refine plan_pure (v := ?_) (by rfl) (fun w1 => ?_) ?_
         rotate_left
         · go_simp <;> with_reducible rfl
         simp only [Act.put, List.setIfInBounds_toArray, List.set_cons_zero, List.set_cons_succ])
      | (refine plan_off (by rfl) ?_
         simp only [Act.put, List.setIfInBounds_toArray, List.set_cons_zero, List.set_cons_succ])
      | (refine plan_load_off (by rfl) ?_
         simp only [Act.put, List.setIfInBounds_toArray, List.set_cons_zero, List.set_cons_succ])
      | (refine plan_load (v := ?_) (by rfl) (fun w1 hw1 => ?_) ?_
         rotate_left
         · (skip
            clear hw1
            go_simp <;> with_reducible rfl)
         simp only [Act.put, List.setIfInBounds_toArray, List.set_cons_zero, List.set_cons_succ]))
    refine plan_end ?_
    go_wp2_with fail
    go_end0
    exact ⟨rfl, by rw [HDO.out, Pr.deed7]; exact HSAT.out, ((((Mod.of_below_size HB.out _).trans (Mod.of_below_size HB2.out _ |>.mono (fun k _ e => e))).trans (HM24.out.mono (fun k _ e => Or.inr e))).trans (Mod.of_below_size HBD.out _)).trans HMOD.out⟩
  · refine wp_region_planF (by kernel_rfl) (fun u => Below W4.heap.size W4 u) [7] [(0, .pure), (1, .load), (2, .pure), (3, .load), (4, .pure), (5, .pure), (6, .load), (7, .last)] (by simp only [List.map_cons, List.map_nil, List.getElem?_toArray, List.getElem?_cons_succ, List.getElem?_cons_zero]; rfl) (by kernel_rfl) (fun _ _ d _ _ h => by cases d <;> exact h) ((Below.refl _ _).drew) ?_
    obtain ⟨Wd, hWd⟩ : ∃ z, z = W4.drew := ⟨_, rfl⟩
    rw [← hWd]
    have hbd : Below W4.heap.size W4 Wd := by rw [hWd]; exact (Below.refl _ _).drew
    have HBD := Lib.hid hbd
    clear hWd hbd
    repeat (first
      | (refine plan_pure (v := ?_) (by rfl) (fun w1 => ?_) ?_
         rotate_left
         · go_simp <;> with_reducible rfl
         simp only [Act.put, List.setIfInBounds_toArray, List.set_cons_zero, List.set_cons_succ])
      | (refine plan_off (by rfl) ?_
         simp only [Act.put, List.setIfInBounds_toArray, List.set_cons_zero, List.set_cons_succ])
      | (refine plan_load_off (by rfl) ?_
         simp only [Act.put, List.setIfInBounds_toArray, List.set_cons_zero, List.set_cons_succ])
      | (refine plan_load (v := ?_) (by rfl) (fun w1 hw1 => ?_) ?_
         rotate_left
         · (have q0 := HZD.out w1 hw1
            have a0 := q0.1 _ _ HY.out.1
            have a1 := q0.1 _ _ HY.out.2.1
            have a2 := q0.1 _ _ HY.out.2.2.1
            have a3 := q0.1 _ _ HY.out.2.2.2
            have d0 := q0.2.1 8 _ (cell_blk HDK.out 8)
            have ql := q0.2.2.1
            have qd := q0.2.2.2
            clear q0
            clear hw1
            go_simp <;> with_reducible rfl)
         simp only [Act.put, List.setIfInBounds_toArray, List.set_cons_zero, List.set_cons_succ]))
    have hcall := assert_any Wd C S T _ t _ 8 n q m (HS4.out.below HBD.out) HX4.out HL4.out hq2 hmj
    have HCALL := Lib.hid hcall
    clear hcall
    refine plan_last ?_
    go_wp2_with fail
    refine HCALL.out.mono ?_
    rintro y w9 ⟨rfl, hsat, hmod⟩
    have HSAT := Lib.hid hsat
    have HMOD := Lib.hid hmod
    clear hsat hmod
    go_wp2_with fail
    repeat (first
      | (refine plan_pure (v := ?_) (by rfl) (fun w1 => ?_) ?_
         rotate_left
         · go_simp <;> with_reducible rfl
         simp only [Act.put, List.setIfInBounds_toArray, List.set_cons_zero, List.set_cons_succ])
      | (refine plan_off (by rfl) ?_
         simp only [Act.put, List.setIfInBounds_toArray, List.set_cons_zero, List.set_cons_succ])
      | (refine plan_load_off (by rfl) ?_
         simp only [Act.put, List.setIfInBounds_toArray, List.set_cons_zero, List.set_cons_succ])
      | (refine plan_load (v := ?_) (by rfl) (fun w1 hw1 => ?_) ?_
         rotate_left
         · (skip
            clear hw1
            go_simp <;> with_reducible rfl)
         simp only [Act.put, List.setIfInBounds_toArray, List.set_cons_zero, List.set_cons_succ]))
    refine plan_end ?_
    go_wp2_with fail
    go_end0
    exact ⟨rfl, by rw [HDO.out, Pr.deed8]; exact HSAT.out, ((((Mod.of_below_size HB.out _).trans (Mod.of_below_size HB2.out _ |>.mono (fun k _ e => e))).trans (HM24.out.mono (fun k _ e => Or.inr e))).trans (Mod.of_below_size HBD.out _)).trans HMOD.out⟩
end Go.Proofs.YtcaapoacmfjnmaaGreat
