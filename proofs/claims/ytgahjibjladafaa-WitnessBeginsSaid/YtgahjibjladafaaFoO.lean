/- Rows of rows that are being made: each inner row in a block of its own colour. -/
import Derived.Test.YtgahjibjladafaaFoLv
import Derived.Test.YtgahjibjladafaaColr
namespace Go.Proofs.Ytgahjibjladafaa
open Go.RowKit
set_option linter.unusedVariables false

/-- The levels `L` at `A`: the outer row of colour 1, inner row i of colour 10 + i. -/
def LvC (w : World) (c : Nat → Nat) (A : Option Addr) (cap : Nat) (L : List (List Ev)) : Prop :=
  ∃ vs : List Value, RowC w c 1 22 1 A L.length cap vs ∧ ∀ i, (hi : i < L.length) → ∃ A' c', vs[i]? = some (.slice A' L[i].length c') ∧ RowC w c (10 + i) 39 4 A' L[i].length c' (L[i].flatMap encE)
/-- what a function that makes levels leaves -/
def LvOut (w : World) (L : List (List Ev)) (x : Ending) (w' : World) : Prop := ∃ A' cap', x = .returned (.slice A' L.length cap') ∧ LvAt w' w'.heap.size A' L ∧ Below w.heap.size w w'
theorem LvOut.nil {w w' : World} (h : Below w.heap.size w w') : LvOut w [] (.returned (.slice none 0 0)) w' := ⟨none, 0, rfl, ⟨[], ⟨rfl, fun h => by simp at h⟩, fun i hi => (by cases hi)⟩, h⟩
theorem LvC.nil (w : World) (c : Nat → Nat) : LvC w c none 0 [] := ⟨[], RowC.nil w c 1 22 1, fun i hi => (by cases hi)⟩
theorem LvC.stay {j cap : Nat} {A : Option Addr} {L : List (List Ev)} {c c' : Nat → Nat} {w w' : World} (h : LvC w c A cap L) (k : Chg j c w c' w') (h1 : j ≠ 1) (h2 : j < 10) : LvC w' c' A cap L := by
  obtain ⟨vs, hv, hin⟩ := h
  refine ⟨vs, hv.stay k (by omega), fun i hi => ?_⟩
  obtain ⟨A', c', e, r⟩ := hin i hi
  exact ⟨A', c', e, r.stay k (by omega)⟩
theorem Chg.heap {j : Nat} {c c' : Nat → Nat} {w w' w2 : World} (h : Chg j c w c' w') (e : w2.heap = w'.heap) (e1 : w2.os = w'.os) (e2 : w2.tape = w'.tape) (e3 : w2.output = w'.output) : Chg j c w c' w2 :=
  ⟨⟨e1.trans h.1.os, e2.trans h.1.tape, e3.trans h.1.output, by rw [e]; exact h.1.size, fun k hk hn => by rw [e]; exact h.1.block k hk hn⟩, h.2⟩
theorem LvC.heap {cap : Nat} {A : Option Addr} {L : List (List Ev)} {c : Nat → Nat} {w w' : World} (h : LvC w c A cap L) (e : w'.heap = w.heap) : LvC w' c A cap L := by
  obtain ⟨vs, hv, hin⟩ := h
  refine ⟨vs, ⟨hv.1.move (fun a _ => by rw [e]), hv.2⟩, fun i hi => ?_⟩
  obtain ⟨A', c', e', r⟩ := hin i hi
  exact ⟨A', c', e', r.1.move (fun a _ => by rw [e]), r.2⟩
theorem LvC.cell {cap : Nat} {A : Option Addr} {L : List (List Ev)} {c : Nat → Nat} {w : World} (h : LvC w c A cap L) (i : Nat) (hi : i < L.length) :
    ∃ g o A' c', A = some ⟨g, o, none⟩ ∧ g < w.heap.size ∧ c g = 1 ∧ w.cell? ⟨g, o + i, none⟩ = some (.slice A' L[i].length c') ∧ (∀ j, w.frozen? ⟨g, j, none⟩ = false) ∧ RowC w c (10 + i) 39 4 A' L[i].length c' (L[i].flatMap encE) ∧
      (∀ w1 c1 q', Chg (10 + i) c w c1 w1 → q'.length = L[i].length → RowC w1 c1 (10 + i) 39 4 A' q'.length c' (q'.flatMap encE) → LvC w1 c1 A cap (L.set i q')) := by
  obtain ⟨vs, hv, hin⟩ := h
  obtain ⟨g, o, rfl⟩ := hv.1.some_of_pos (by have := hv.1.2.1; omega)
  obtain ⟨A', c', e, r⟩ := hin i hi
  refine ⟨g, o, A', c', rfl, hv.1.lt, hv.2 _ rfl, ?_, fun j => hv.1.free j, r, fun w1 c1 q' k hq hr => ?_⟩
  · rw [hv.1.cell i (by omega), e]
  · refine ⟨vs, by rw [List.length_set]; exact hv.stay k (by omega), fun j hj => ?_⟩
    rw [List.length_set] at hj
    by_cases hji : j = i
    · subst hji
      refine ⟨A', c', ?_, ?_⟩
      · rw [e]; simp [hq]
      · simpa using hr
    · obtain ⟨A2, c2, e2, r2⟩ := hin j hj
      refine ⟨A2, c2, ?_, ?_⟩
      · rw [e2, List.getElem_set_ne (Ne.symm hji)]
      · rw [List.getElem_set_ne (Ne.symm hji)]; exact r2.stay k (by omega)
/-- a row more, that is none -/
theorem LvC.snoc {cap cap' : Nat} {A A2 : Option Addr} {L : List (List Ev)} {c : Nat → Nat} {w w' : World} {vs : List Value} (hv : RowC w c 1 22 1 A L.length cap vs)
    (hin : ∀ i, (hi : i < L.length) → ∃ A' c', vs[i]? = some (.slice A' L[i].length c') ∧ RowC w c (10 + i) 39 4 A' L[i].length c' (L[i].flatMap encE))
    (hr : Row w' 22 1 A2 (L.length + 1) cap' (vs ++ [.slice none 0 0])) (hm : Mod (fun k => ∃ a, A = some a ∧ k = a.block) w w')
    (hat : ∀ a', A2 = some a' → (∃ a, A = some a ∧ a'.block = a.block) ∨ w.heap.size ≤ a'.block) :
    LvC w' (paint c w.heap.size 1) A2 cap' (L ++ [[]]) ∧ Chg 1 c w (paint c w.heap.size 1) w' := by
  have hl : vs.length = L.length := by have := hv.1.1; omega
  obtain ⟨h1, h2⟩ := RowC.put hv hr hm hat
  refine ⟨⟨vs ++ [.slice none 0 0], by rw [List.length_append]; exact h1, fun i hi => ?_⟩, h2⟩
  rw [List.length_append, List.length_singleton] at hi
  rcases Nat.lt_or_ge i L.length with h3 | h3
  · obtain ⟨A', c', e, r⟩ := hin i h3
    refine ⟨A', c', ?_, ?_⟩
    · rw [List.getElem?_append_left (by omega), e, List.getElem_append_left h3]
    · rw [List.getElem_append_left h3]; exact r.stay h2 (by omega)
  · obtain rfl : i = L.length := by omega
    refine ⟨none, 0, ?_, ?_⟩
    · rw [List.getElem?_append_right (by omega)]; simp [hl]
    · simp only [List.getElem_append_right (Nat.le_refl _), Nat.sub_self, List.getElem_cons_zero]; exact RowC.nil _ _ _ _ _
/-- a row anew -/
theorem LvC.put {i c' cap : Nat} {A A' : Option Addr} {L : List (List Ev)} {c c1 : Nat → Nat} {w w1 : World} (h : LvC w c A cap L) (hi : i < L.length) (k : Chg (10 + i) c w c1 w1) (q' : List Ev) (hr : RowC w1 c1 (10 + i) 39 4 A' q'.length c' (q'.flatMap encE)) :
    ∀ g o, A = some ⟨g, o, none⟩ → LvC (w1.setCell ⟨g, o + i, none⟩ (.slice A' q'.length c')) (paint c1 w1.heap.size 1) A cap (L.set i q') ∧ Chg 1 c1 w1 (paint c1 w1.heap.size 1) (w1.setCell ⟨g, o + i, none⟩ (.slice A' q'.length c')) := by
  intro g o hA
  subst hA
  obtain ⟨vs, hv, hin⟩ := h
  have hl : vs.length = L.length := by have := hv.1.1; omega
  obtain ⟨h1, h2⟩ := RowC.set (hv.stay k (by omega)) i (by omega) (.slice A' q'.length c')
  refine ⟨⟨_, by rw [List.length_set]; exact h1, fun j hj => ?_⟩, h2⟩
  rw [List.length_set] at hj
  by_cases hji : j = i
  · subst hji
    refine ⟨A', c', ?_, ?_⟩
    · rw [List.getElem?_set_self (by omega)]; simp
    · simpa using hr.stay h2 (by omega)
  · obtain ⟨A2, c2, e2, r2⟩ := hin j hj
    refine ⟨A2, c2, ?_, ?_⟩
    · rw [List.getElem?_set_ne (Ne.symm hji), e2, List.getElem_set_ne (Ne.symm hji)]
    · rw [List.getElem_set_ne (Ne.symm hji)]; exact (r2.stay k (by omega)).stay h2 (by omega)
/-- to be read -/
theorem LvC.lv {cap : Nat} {A : Option Addr} {L : List (List Ev)} {c : Nat → Nat} {w : World} (h : LvC w c A cap L) : LvAt w w.heap.size A L := by
  obtain ⟨vs, hv, hin⟩ := h
  refine ⟨vs, hv.1.rd.toB, fun i hi => ?_⟩
  obtain ⟨A', c', e, r⟩ := hin i hi
  exact ⟨A', c', e, r.1.rd.toB, r.1.2.1, r.1.2.2.1⟩

/-! plain: steps of levU -/
namespace Fo
theorem levU_len (l : List Ev) : (levU l).length ≤ l.length :=
  snoc_ind (p := fun l => (levU l).length ≤ l.length) (Nat.le_refl _) (fun l e h => by
    rw [levU_snoc, addL_len (place_le _ _), List.length_append, List.length_singleton]
    split <;> omega) l
theorem mem_len {L : List (List Ev)} {q : List Ev} (h : q ∈ L) : q.length ≤ L.flatten.length := by
  induction L with
  | nil => cases h
  | cons a L ih =>
    rw [List.flatten_cons, List.length_append]
    rcases List.mem_cons.1 h with rfl | h
    · omega
    · have := ih h; omega
theorem levU_in (l : List Ev) (q : List Ev) (h : q ∈ levU l) : q.length ≤ l.length := by
  have := mem_len h
  rwa [(levU_flat l).length_eq] at this
theorem addL_in {L : List (List Ev)} {n : Nat} (e : Ev) (hn : n < L.length) : addL L n e = L.set n (L[n] ++ [e]) := by
  unfold addL
  rw [if_pos hn, List.getD_eq_getElem?_getD, List.getElem?_eq_getElem hn]
  rfl
theorem addL_end {L : List (List Ev)} (e : Ev) : addL L L.length e = (L ++ [[]]).set L.length ([] ++ [e]) := by
  unfold addL
  rw [if_neg (Nat.lt_irrefl _), List.set_append_right _ _ (Nat.le_refl _)]
  simp
theorem placeAt_hit {L : List (List Ev)} {e : Ev} {m : Nat} (hm : m < L.length) (h : (L[m].any fun x => dep x e) = true) : placeAt L e (m + 1) = m + 1 := by
  unfold placeAt
  rw [List.getD_eq_getElem?_getD, List.getElem?_eq_getElem hm, Option.getD_some, if_pos h]
theorem placeAt_miss {L : List (List Ev)} {e : Ev} {m : Nat} (hm : m < L.length) (h : (L[m].any fun x => dep x e) = false) : placeAt L e (m + 1) = placeAt L e m := by
  conv => lhs; unfold placeAt
  rw [List.getD_eq_getElem?_getD, List.getElem?_eq_getElem hm, Option.getD_some, if_neg (by rw [h]; simp)]
/-- the first i are sorted -/
def part (L : List (List Ev)) (i : Nat) : List (List Ev) := (L.take i).map sortT ++ L.drop i
theorem part_len (L : List (List Ev)) (i : Nat) : (part L i).length = L.length := by unfold part; simp; omega
theorem part_zero (L : List (List Ev)) : part L 0 = L := by unfold part; simp
theorem part_all (L : List (List Ev)) : part L L.length = L.map sortT := by unfold part; simp
theorem part_get (L : List (List Ev)) (i : Nat) (hi : i < L.length) : (part L i)[i]'(by rw [part_len]; exact hi) = L[i] := by
  unfold part
  rw [List.getElem_append_right (by simp; omega)]
  simp [Nat.min_eq_left (Nat.le_of_lt hi)]
theorem part_set (L : List (List Ev)) (i : Nat) (hi : i < L.length) : (part L i).set i (sortT L[i]) = part L (i + 1) := by
  have h1 : (List.map sortT (L.take i)).length = i := by simp; omega
  unfold part
  rw [List.set_append_right _ _ (by omega), h1, Nat.sub_self, List.take_add_one, List.getElem?_eq_getElem hi, List.drop_eq_getElem_cons hi, List.set_cons_zero, List.map_append, List.append_assoc]
  rfl
theorem four {q : List Ev} (hd : q.Pairwise (fun a b => a.t ≠ b.t)) (hr : ∀ e ∈ q, 0 ≤ e.t ∧ e.t ≤ 3) : q.length ≤ 4 := by
  have hs := sortT_sorted q
  have hp := sortT_perm q
  have hd' : (sortT q).Pairwise (fun a b => a.t ≠ b.t) := (hp.pairwise_iff (fun {a b} h => Ne.symm h)).2 hd
  have hr' : ∀ e ∈ sortT q, 0 ≤ e.t ∧ e.t ≤ 3 := fun e he => hr e (hp.mem_iff.1 he)
  rw [← hp.length_eq]
  generalize sortT q = s at hs hd' hr'
  rcases Nat.lt_or_ge 4 s.length with h | h
  · exfalso
    unfold SortedT at hs
    rw [List.pairwise_iff_getElem] at hs hd'
    have a0 := hr' s[0] (List.getElem_mem _)
    have a4 := hr' s[4] (List.getElem_mem _)
    have b0 := hs 0 1 (by omega) (by omega) (by omega)
    have b1 := hs 1 2 (by omega) (by omega) (by omega)
    have b2 := hs 2 3 (by omega) (by omega) (by omega)
    have b3 := hs 3 4 (by omega) (by omega) (by omega)
    have c0 := hd' 0 1 (by omega) (by omega) (by omega)
    have c1 := hd' 1 2 (by omega) (by omega) (by omega)
    have c2 := hd' 2 3 (by omega) (by omega) (by omega)
    have c3 := hd' 3 4 (by omega) (by omega) (by omega)
    omega
  · exact h
theorem right_thr {e : Ev} (h : right e = true) : 0 ≤ e.t ∧ e.t ≤ 3 := by
  unfold right at h
  simp only [decide_eq_true_eq] at h
  exact ⟨h.1, h.2.1⟩
theorem level_four {l : List Ev} (hr : rights l = true) (i : Nat) (hi : i < (levU l).length) : (levU l)[i].length ≤ 4 := by
  have hap := (levU_lev l).apart i
  rw [List.getD_eq_getElem?_getD, List.getElem?_eq_getElem hi, Option.getD_some] at hap
  refine four (apart_threads hap) (fun e he => right_thr ?_)
  have : e ∈ (levU l).flatten := List.mem_flatten.2 ⟨_, List.getElem_mem hi, he⟩
  rw [(levU_flat l).mem_iff] at this
  exact List.all_eq_true.1 hr e this
theorem level_sort {l : List Ev} (i : Nat) (hi : i < (levU l).length) {q' : List Ev} (hp : q'.Perm (levU l)[i]) (hs : SortedT q') : q' = sortT (levU l)[i] := by
  have hap := lev_apart l i
  rw [lev_getD, List.getD_eq_getElem?_getD, List.getElem?_eq_getElem hi, Option.getD_some] at hap
  exact (sorted_one ((sortT_perm _).trans hp.symm) (sortT_sorted _) hs (apart_threads hap)).symm
theorem level_ne {l : List Ev} (i : Nat) (hi : i < (levU l).length) : 0 < (levU l)[i].length := by
  have := (levU_lev l).ne i hi
  rw [List.getD_eq_getElem?_getD, List.getElem?_eq_getElem hi, Option.getD_some] at this
  exact List.length_pos_iff.2 this
end Fo
end Go.Proofs.Ytgahjibjladafaa
