/- Work: each call as one sentence, for the work and for the document's. -/
import Derived.Test.YtedogccbndjdpaaWorkT
namespace Go.Proofs.Ytedogccbndjdpaa
open Go.RowKit
set_option linter.unusedVariables false

/-! what the calls do -/
def pushOk (ls : List (List ByteArray)) (i : Int) (s : ByteArray) : Bool := inR ls.length i && !inB s ls.flatten
def pushL (ls : List (List ByteArray)) (i : Int) (s : ByteArray) : List (List ByteArray) := if pushOk ls i s = true then ls.set i.toNat (Hp.putF ahead (rowOf ls i) s) else ls
def popS (ls : List (List ByteArray)) (i : Int) : ByteArray × Bool × List (List ByteArray) :=
  match rowOf ls i with
  | [] => (⟨#[]⟩, false, ls)
  | x :: r => (x, true, ls.set i.toNat r)
def stealS (ls : List (List ByteArray)) (i k : Int) : ByteArray × Bool × List (List ByteArray) :=
  if inR ls.length i = true ∧ i ≠ k then
    match (rowOf ls k).getLast? with
    | none => (⟨#[]⟩, false, ls)
    | some x => (x, true, (ls.set k.toNat (rowOf ls k).dropLast).set i.toNat (Hp.putF ahead (rowOf ls i) x))
  else (⟨#[]⟩, false, ls)

theorem inR_true {n : Nat} {i : Int} (h : inR n i = true) : ∃ k : Nat, i = k ∧ k < n := by
  unfold inR at h
  simp only [Bool.and_eq_true, decide_eq_true_eq] at h
  exact ⟨i.toNat, by omega, by omega⟩
theorem inR_false {n : Nat} {i : Int} (h : inR n i = false) : i < 0 ∨ (n : Int) ≤ i := by
  unfold inR at h
  simp only [Bool.and_eq_false_iff, decide_eq_false_iff_not] at h
  omega
theorem row_le {ls : List (List ByteArray)} {k : Nat} (h : k < ls.length) : ls[k].length ≤ ls.flatten.length := by
  obtain ⟨R, r1, _⟩ := flat_set ls k h
  have := r1.length_eq
  rw [List.length_append] at this
  omega
theorem rowOf_ne {ls : List (List ByteArray)} {i : Int} (h : rowOf ls i ≠ []) : ∃ k : Nat, i = k ∧ ∃ hk : k < ls.length, rowOf ls i = ls[k] := by
  by_cases h0 : i < 0 ∨ (ls.length : Int) ≤ i
  · exact (h (rowOf_out h0)).elim
  · obtain ⟨k, rfl⟩ := Int.eq_ofNat_of_zero_le (show 0 ≤ i by omega)
    exact ⟨k, rfl, by omega, rowOf_in (by omega)⟩

/-! sizes -/
theorem pushL_len (ls : List (List ByteArray)) (i : Int) (s : ByteArray) : (pushL ls i s).length = ls.length := by unfold pushL; split <;> simp
theorem pushL_perm {ls : List (List ByteArray)} {i : Int} {s : ByteArray} (h : pushOk ls i s = true) : (pushL ls i s).flatten.Perm (s :: ls.flatten) := by
  unfold pushL
  rw [if_pos h]
  unfold pushOk at h
  simp only [Bool.and_eq_true] at h
  obtain ⟨k, rfl, hk⟩ := inR_true h.1
  obtain ⟨R, r1, r2⟩ := flat_set ls k hk
  rw [rowOf_in hk, Int.toNat_natCast]
  exact (r2 _).trans (((Hp.putF_perm ahead ls[k] s).append_right R).trans (by simpa using r1.symm.cons s))
theorem pushL_flat (ls : List (List ByteArray)) (i : Int) (s : ByteArray) : (pushL ls i s).flatten.length ≤ ls.flatten.length + 1 := by
  by_cases h : pushOk ls i s = true
  · have := (pushL_perm h).length_eq; simp only [List.length_cons] at this; omega
  · unfold pushL; rw [if_neg h]; omega
theorem popS_len (ls : List (List ByteArray)) (i : Int) : (popS ls i).2.2.length = ls.length := by unfold popS; split <;> simp
theorem popS_perm {ls : List (List ByteArray)} {i : Int} (h : (popS ls i).2.1 = true) : ls.flatten.Perm ((popS ls i).1 :: (popS ls i).2.2.flatten) := by
  unfold popS at h ⊢
  split at h
  · cases h
  · rename_i x r hr
    obtain ⟨k, rfl, hk, e⟩ := rowOf_ne (ls := ls) (i := i) (by rw [hr]; simp)
    obtain ⟨R, r1, r2⟩ := flat_set ls k hk
    rw [← e, hr] at r1
    simp only [Int.toNat_natCast]
    exact r1.trans ((r2 r).symm.cons x)
theorem popS_flat (ls : List (List ByteArray)) (i : Int) : (popS ls i).2.2.flatten.length ≤ ls.flatten.length := by
  by_cases h : (popS ls i).2.1 = true
  · have := (popS_perm h).length_eq; simp only [List.length_cons] at this; omega
  · unfold popS at h ⊢
    split
    · exact Nat.le_refl _
    · rename_i x r hr; rw [hr] at h; simp at h
theorem getLast_split {l : List ByteArray} {x : ByteArray} (h : l.getLast? = some x) : l = l.dropLast ++ [x] := by
  obtain ⟨r, rfl⟩ := List.getLast?_eq_some_iff.1 h
  simp
theorem stealS_len (ls : List (List ByteArray)) (i k : Int) : (stealS ls i k).2.2.length = ls.length := by 
  unfold stealS
  split
  · split <;> simp
  · rfl
theorem stealS_perm (ls : List (List ByteArray)) (i k : Int) : (stealS ls i k).2.2.flatten.Perm ls.flatten := by
  unfold stealS
  split
  · rename_i h
    split
    · exact List.Perm.refl _
    · rename_i x hx
      obtain ⟨i, rfl, hi⟩ := inR_true h.1
      obtain ⟨k, rfl, hk, e⟩ := rowOf_ne (ls := ls) (i := k) (by intro h0; rw [h0] at hx; cases hx)
      have hik : i ≠ k := fun e => h.2 (by rw [e])
      have hsp := getLast_split hx
      obtain ⟨R, r1, r2⟩ := flat_set ls k hk
      obtain ⟨R', r1', r2'⟩ := flat_set (ls.set k (rowOf ls k).dropLast) i (by simpa using hi)
      rw [← e, hsp] at r1
      rw [List.getElem_set_ne (Ne.symm hik)] at r1'
      simp only [Int.toNat_natCast] at *
      rw [rowOf_in hi]
      refine (r2' _).trans (((Hp.putF_perm ahead ls[i] x).append_right R').trans ?_)
      refine (List.Perm.cons x (r1'.symm.trans (r2 _))).trans ?_
      refine List.Perm.trans ?_ r1.symm
      rw [List.append_assoc]
      exact (List.perm_middle (a := x) (l₁ := (rowOf ls k).dropLast) (l₂ := R)).symm
  · exact List.Perm.refl _

/-! the calls -/
theorem Work.keep {w : World} {F : Nat → Prop} {B : Nat} {ls : List (List ByteArray)} (h : Work w F B ls) : Work w (fun k => F k ∨ w.heap.size ≤ k) B ls := h.foot (fun k h _ => .inl h)
theorem RefW.keep {w : World} {F : Nat → Prop} {B : Nat} {ls : List (List ByteArray)} (h : RefW w F B ls) : RefW w (fun k => F k ∨ w.heap.size ≤ k) B ls := h.foot (fun k h _ => .inl h)

theorem work_push_any (w : World) (F : Nat → Prop) (B : Nat) (ls : List (List ByteArray)) (hW : Work w F B ls) (hl : ls.flatten.length < 100000) (i : Int) (s : ByteArray) :
    Calls Try.prog 30 #[ptrV B, .int .i64 i, .string s] w fun e w' => e = .returned (.bool (pushOk ls i s)) ∧ Work w' (fun k => F k ∨ w.heap.size ≤ k) B (pushL ls i s) ∧ Mod F w w' := by
  unfold pushL
  cases hb : pushOk ls i s with
  | false =>
    refine (work_push_no w F B ls hW i s ?_).mono ?_
    · unfold pushOk at hb
      rw [Bool.and_eq_false_iff] at hb
      rcases hb with hb | hb
      · have := inR_false hb; omega
      · exact .inr (.inr (inB_iff.1 (by simpa using hb)))
    · rintro e w' ⟨rfl, rfl⟩; exact ⟨rfl, by simpa using hW.keep, Mod.refl _ _⟩
  | true =>
    unfold pushOk at hb
    simp only [Bool.and_eq_true, Bool.not_eq_true'] at hb
    obtain ⟨k, rfl, hk⟩ := inR_true hb.1
    have := row_le hk
    rw [rowOf_in hk, if_pos rfl, Int.toNat_natCast]
    exact work_push w F B ls hW k hk s (inB_false.1 hb.2) (by omega)
theorem ref_push_any (w : World) (F : Nat → Prop) (B : Nat) (ls : List (List ByteArray)) (hW : RefW w F B ls) (hn : ls.length ≤ 64) (hl : ls.flatten.length < 100000) (i : Int) (s : ByteArray) :
    Calls Try.prog 31 #[ptrV B, .int .i64 i, .string s] w fun e w' => e = .returned (.bool (pushOk ls i s)) ∧ RefW w' (fun k => F k ∨ w.heap.size ≤ k) B (pushL ls i s) ∧ Mod F w w' := by
  unfold pushL
  cases hb : pushOk ls i s with
  | false =>
    refine (ref_push_no w F B ls hW hn (by omega) i s ?_).mono ?_
    · unfold pushOk at hb
      rw [Bool.and_eq_false_iff] at hb
      rcases hb with hb | hb
      · have := inR_false hb; omega
      · exact .inr (.inr (inB_iff.1 (by simpa using hb)))
    · rintro e w' ⟨rfl, rfl⟩; exact ⟨rfl, by simpa using hW.keep, Mod.refl _ _⟩
  | true =>
    unfold pushOk at hb
    simp only [Bool.and_eq_true, Bool.not_eq_true'] at hb
    obtain ⟨k, rfl, hk⟩ := inR_true hb.1
    have := row_le hk
    rw [rowOf_in hk, if_pos rfl, Int.toNat_natCast]
    exact ref_push w F B ls hW hn (by omega) k hk s (inB_false.1 hb.2) (by omega)

theorem work_pop_any (w : World) (F : Nat → Prop) (B : Nat) (ls : List (List ByteArray)) (hW : Work w F B ls) (hl : ls.flatten.length < 100000) (i : Int) :
    Calls Try.prog 32 #[ptrV B, .int .i64 i] w fun e w' => e = .returned (.tuple #[.string (popS ls i).1, .bool (popS ls i).2.1]) ∧ Work w' (fun k => F k ∨ w.heap.size ≤ k) B (popS ls i).2.2 ∧ Mod F w w' := by
  cases hr : rowOf ls i with
  | nil =>
    have e : popS ls i = (⟨#[]⟩, false, ls) := by unfold popS; rw [hr]
    rw [e]
    refine (work_pop_no w F B ls hW i hr).mono ?_
    rintro e w' ⟨rfl, rfl⟩; exact ⟨rfl, hW.keep, Mod.refl _ _⟩
  | cons x r =>
    obtain ⟨k, rfl, hk, e⟩ := rowOf_ne (ls := ls) (i := i) (by rw [hr]; simp)
    have e2 : popS ls k = (x, true, ls.set k r) := by unfold popS; rw [hr]; rfl
    have := row_le hk
    rw [← e, hr] at this
    simp only [List.length_cons] at this
    rw [e2]
    exact work_pop w F B ls hW k hk x r (e.symm.trans hr) (by omega)
theorem ref_pop_any (w : World) (F : Nat → Prop) (B : Nat) (ls : List (List ByteArray)) (hW : RefW w F B ls) (hl : ls.flatten.length < 100000) (i : Int) :
    Calls Try.prog 33 #[ptrV B, .int .i64 i] w fun e w' => e = .returned (.tuple #[.string (popS ls i).1, .bool (popS ls i).2.1]) ∧ RefW w' (fun k => F k ∨ w.heap.size ≤ k) B (popS ls i).2.2 ∧ Mod F w w' := by
  cases hr : rowOf ls i with
  | nil =>
    have e : popS ls i = (⟨#[]⟩, false, ls) := by unfold popS; rw [hr]
    rw [e]
    refine (ref_pop_no w F B ls hW i hr).mono ?_
    rintro e w' ⟨rfl, rfl⟩; exact ⟨rfl, hW.keep, Mod.refl _ _⟩
  | cons x r =>
    obtain ⟨k, rfl, hk, e⟩ := rowOf_ne (ls := ls) (i := i) (by rw [hr]; simp)
    have e2 : popS ls k = (x, true, ls.set k r) := by unfold popS; rw [hr]; rfl
    have := row_le hk
    rw [← e, hr] at this
    simp only [List.length_cons] at this
    rw [e2]
    exact ref_pop w F B ls hW k hk x r (e.symm.trans hr) (by omega)

theorem work_steal_any (w : World) (F : Nat → Prop) (B : Nat) (ls : List (List ByteArray)) (hW : Work w F B ls) (hl : ls.flatten.length < 100000) (i k : Int) :
    Calls Try.prog 34 #[ptrV B, .int .i64 i, .int .i64 k] w fun e w' => e = .returned (.tuple #[.string (stealS ls i k).1, .bool (stealS ls i k).2.1]) ∧ Work w' (fun k => F k ∨ w.heap.size ≤ k) B (stealS ls i k).2.2 ∧ Mod F w w' := by
  by_cases hc : inR ls.length i = true ∧ i ≠ k
  · obtain ⟨i, rfl, hi⟩ := inR_true hc.1
    cases hx : (rowOf ls k).getLast? with
    | none =>
      have e : stealS ls i k = (⟨#[]⟩, false, ls) := by unfold stealS; rw [if_pos hc, hx]
      rw [e]
      refine (work_steal_no w F B ls hW i k (.inr (.inr (.inr (List.getLast?_eq_none_iff.1 hx))))).mono ?_
      rintro e w' ⟨rfl, rfl⟩; exact ⟨rfl, hW.keep, Mod.refl _ _⟩
    | some x =>
      have e : stealS ls i k = (x, true, (ls.set k.toNat (rowOf ls k).dropLast).set i (Hp.putF ahead ls[i] x)) := by unfold stealS; rw [if_pos hc, hx, rowOf_in hi]; rfl
      rw [e]
      obtain ⟨k, rfl, hk, e2⟩ := rowOf_ne (ls := ls) (i := k) (by intro h0; rw [h0] at hx; cases hx)
      have h1 := row_le hk
      have h2 := row_le hi
      rw [e2] at hx ⊢
      rw [Int.toNat_natCast]
      exact work_steal w F B ls hW i k hi hk (fun e => hc.2 (by rw [e])) x _ (getLast_split hx) (by rw [List.length_dropLast]; omega) (by omega)
  · have e : stealS ls i k = (⟨#[]⟩, false, ls) := by unfold stealS; rw [if_neg hc]
    rw [e]
    refine (work_steal_no w F B ls hW i k ?_).mono ?_
    · cases hb : inR ls.length i with
      | false => have := inR_false hb; omega
      | true => exact .inr (.inr (.inl (Classical.byContradiction fun h => hc ⟨hb, h⟩)))
    · rintro e w' ⟨rfl, rfl⟩; exact ⟨rfl, hW.keep, Mod.refl _ _⟩
theorem ref_steal_any (w : World) (F : Nat → Prop) (B : Nat) (ls : List (List ByteArray)) (hW : RefW w F B ls) (hl : ls.flatten.length < 100000) (i k : Int) :
    Calls Try.prog 35 #[ptrV B, .int .i64 i, .int .i64 k] w fun e w' => e = .returned (.tuple #[.string (stealS ls i k).1, .bool (stealS ls i k).2.1]) ∧ RefW w' (fun k => F k ∨ w.heap.size ≤ k) B (stealS ls i k).2.2 ∧ Mod F w w' := by
  by_cases hc : inR ls.length i = true ∧ i ≠ k
  · obtain ⟨i, rfl, hi⟩ := inR_true hc.1
    cases hx : (rowOf ls k).getLast? with
    | none =>
      have e : stealS ls i k = (⟨#[]⟩, false, ls) := by unfold stealS; rw [if_pos hc, hx]
      rw [e]
      refine (ref_steal_no w F B ls hW i k (.inr (.inr (.inr (List.getLast?_eq_none_iff.1 hx))))).mono ?_
      rintro e w' ⟨rfl, rfl⟩; exact ⟨rfl, hW.keep, Mod.refl _ _⟩
    | some x =>
      have e : stealS ls i k = (x, true, (ls.set k.toNat (rowOf ls k).dropLast).set i (Hp.putF ahead ls[i] x)) := by unfold stealS; rw [if_pos hc, hx, rowOf_in hi]; rfl
      rw [e]
      obtain ⟨k, rfl, hk, e2⟩ := rowOf_ne (ls := ls) (i := k) (by intro h0; rw [h0] at hx; cases hx)
      have h1 := row_le hk
      have h2 := row_le hi
      rw [e2] at hx ⊢
      rw [Int.toNat_natCast]
      exact ref_steal w F B ls hW i k hi hk (fun e => hc.2 (by rw [e])) x _ (getLast_split hx) (by rw [List.length_dropLast]; omega) (by omega)
  · have e : stealS ls i k = (⟨#[]⟩, false, ls) := by unfold stealS; rw [if_neg hc]
    rw [e]
    refine (ref_steal_no w F B ls hW i k ?_).mono ?_
    · cases hb : inR ls.length i with
      | false => have := inR_false hb; omega
      | true => exact .inr (.inr (.inl (Classical.byContradiction fun h => hc ⟨hb, h⟩)))
    · rintro e w' ⟨rfl, rfl⟩; exact ⟨rfl, hW.keep, Mod.refl _ _⟩

/-! by colours -/
def WorkC (w : World) (c : Nat → Nat) (j B : Nat) (ls : List (List ByteArray)) : Prop := Work w (fun k => c k = j) B ls
theorem WorkC.stay {i j B : Nat} {ls : List (List ByteArray)} {c c' : Nat → Nat} {w w' : World} (h : WorkC w c i B ls) (s : Chg j c w c' w') (hij : i ≠ j) : WorkC w' c' i B ls := by
  have h1 : Work w (fun k => c k = i ∧ k < w.heap.size) B ls := Work.foot h (fun k h1 h2 => ⟨h1, h2⟩)
  exact (h1.mod s.1 (fun k h e => hij (h.1.symm.trans e))).foot (fun k h _ => (s.2 k h.2).trans h.1)
theorem WorkC.put {j B : Nat} {ls : List (List ByteArray)} {c : Nat → Nat} {w w' : World} (h : Work w' (fun k => c k = j ∨ w.heap.size ≤ k) B ls) (hm : Mod (fun k => c k = j) w w') :
    WorkC w' (paint c w.heap.size j) j B ls ∧ Chg j c w (paint c w.heap.size j) w' :=
  ⟨h.foot (fun k h _ => by
    by_cases hk : k < w.heap.size
    · rw [paint_old hk]; rcases h with h | h
      · exact h
      · omega
    · exact paint_new (by omega)), .mod j hm⟩
def RefC (w : World) (c : Nat → Nat) (j B : Nat) (ls : List (List ByteArray)) : Prop := RefW w (fun k => c k = j) B ls
theorem RefC.stay {i j B : Nat} {ls : List (List ByteArray)} {c c' : Nat → Nat} {w w' : World} (h : RefC w c i B ls) (s : Chg j c w c' w') (hij : i ≠ j) : RefC w' c' i B ls := by
  have h1 : RefW w (fun k => c k = i ∧ k < w.heap.size) B ls := RefW.foot h (fun k h1 h2 => ⟨h1, h2⟩)
  exact (h1.mod s.1 (fun k h e => hij (h.1.symm.trans e))).foot (fun k h _ => (s.2 k h.2).trans h.1)
theorem RefC.put {j B : Nat} {ls : List (List ByteArray)} {c : Nat → Nat} {w w' : World} (h : RefW w' (fun k => c k = j ∨ w.heap.size ≤ k) B ls) (hm : Mod (fun k => c k = j) w w') :
    RefC w' (paint c w.heap.size j) j B ls ∧ Chg j c w (paint c w.heap.size j) w' :=
  ⟨h.foot (fun k h _ => by
    by_cases hk : k < w.heap.size
    · rw [paint_old hk]; rcases h with h | h
      · exact h
      · omega
    · exact paint_new (by omega)), .mod j hm⟩
end Go.Proofs.Ytedogccbndjdpaa
