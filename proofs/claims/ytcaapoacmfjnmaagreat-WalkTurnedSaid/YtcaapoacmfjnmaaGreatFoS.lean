/- Rows of rows that are being made: each inner row in a block of its own colour. -/
import Derived.Test.YtcaapoacmfjnmaaGreatFoLv
import Derived.Test.YtcaapoacmfjnmaaGreatColr
namespace Go.Proofs.YtcaapoacmfjnmaaGreat
open Go.RowKit
set_option linter.unusedVariables false

/-- The levels `L` at `A`: the outer row of colour 1, inner row i of colour 10 + i. -/
def LvC (w : World) (c : Nat → Nat) (A : Option Addr) (cap : Nat) (L : List (List Ev)) : Prop :=
  ∃ vs : List Value, RowC w c 1 52 1 A L.length cap vs ∧ ∀ i, (hi : i < L.length) → ∃ A' c', vs[i]? = some (.slice A' L[i].length c') ∧ RowC w c (10 + i) 57 4 A' L[i].length c' (L[i].flatMap encE)
/-- what a function that makes levels leaves -/
def LvOut (w : World) (L : List (List Ev)) (x : Ending) (w' : World) : Prop := ∃ A' cap', x = .returned (.slice A' L.length cap') ∧ LvAt w' w'.heap.size A' L ∧ Below w.heap.size w w'
theorem LvOut.nil {w w' : World} (h : Below w.heap.size w w') : LvOut w [] (.returned (.slice none 0 0)) w' := ⟨none, 0, rfl, ⟨[], ⟨rfl, fun h => by simp at h⟩, fun i hi => (by cases hi)⟩, h⟩
theorem LvC.nil (w : World) (c : Nat → Nat) : LvC w c none 0 [] := ⟨[], RowC.nil w c 1 52 1, fun i hi => (by cases hi)⟩
theorem LvC.stay {j cap : Nat} {A : Option Addr} {L : List (List Ev)} {c c' : Nat → Nat} {w w' : World} (h : LvC w c A cap L) (k : Chg j c w c' w') (h1 : j ≠ 1) (h2 : j < 10) : LvC w' c' A cap L := by
  obtain ⟨vs, hv, hin⟩ := h
  refine ⟨vs, hv.stay k (by omega), fun i hi => ?_⟩
  obtain ⟨A', c', e, r⟩ := hin i hi
  exact ⟨A', c', e, r.stay k (by omega)⟩
theorem Chg.heap {j : Nat} {c c' : Nat → Nat} {w w' w2 : World} (h : Chg j c w c' w') (e : w2.heap = w'.heap) (e1 : w2.os = w'.os) (e2 : w2.tape = w'.tape) (e3 : w2.output = w'.output) : Chg j c w c' w2 :=
  ⟨⟨e1.trans h.1.os, e2.trans h.1.tape, e3.trans h.1.output, by rw [e]; exact h.1.size, fun k hk hn => by rw [e]; exact h.1.block k hk hn⟩, h.2⟩
theorem LvC.heap {cap : Nat} {A : Option Addr} {L : List (List Ev)} {c : Nat → Nat} {w w' : World} (h : LvC w c A cap L) (e : w'.heap = w.heap) : LvC w' c A cap L := by
  obtain ⟨vs, hv, hin⟩ := h
  refine ⟨vs, ⟨hv.1.move (fun a _ => by rw [e]), hv.2⟩, fun i hi => ?_⟩
  obtain ⟨A', c', e', r⟩ := hin i hi
  exact ⟨A', c', e', r.1.move (fun a _ => by rw [e]), r.2⟩
theorem LvC.cell {cap : Nat} {A : Option Addr} {L : List (List Ev)} {c : Nat → Nat} {w : World} (h : LvC w c A cap L) (i : Nat) (hi : i < L.length) :
    ∃ g o A' c', A = some ⟨g, o, none⟩ ∧ g < w.heap.size ∧ c g = 1 ∧ w.cell? ⟨g, o + i, none⟩ = some (.slice A' L[i].length c') ∧ (∀ j, w.frozen? ⟨g, j, none⟩ = false) ∧ RowC w c (10 + i) 57 4 A' L[i].length c' (L[i].flatMap encE) ∧
      (∀ w1 c1 q', Chg (10 + i) c w c1 w1 → q'.length = L[i].length → RowC w1 c1 (10 + i) 57 4 A' q'.length c' (q'.flatMap encE) → LvC w1 c1 A cap (L.set i q')) := by
  obtain ⟨vs, hv, hin⟩ := h
  obtain ⟨g, o, rfl⟩ := hv.1.some_of_pos (by have := hv.1.2.1; omega)
  obtain ⟨A', c', e, r⟩ := hin i hi
  refine ⟨g, o, A', c', rfl, hv.1.lt, hv.2 _ rfl, ?_, fun j => hv.1.free j, r, fun w1 c1 q' k hq hr => ?_⟩
  · rw [hv.1.cell i (by omega), e]
  · refine ⟨vs, by rw [List.length_set]; exact hv.stay k (by omega), fun j hj => ?_⟩
    rw [List.length_set] at hj
    by_cases hji : j = i
    · subst hji
      refine ⟨A', c', ?_, ?_⟩
      · rw [e]; simp [hq]
      · simpa using hr
    · obtain ⟨A2, c2, e2, r2⟩ := hin j hj
      refine ⟨A2, c2, ?_, ?_⟩
      · rw [e2, List.getElem_set_ne (Ne.symm hji)]
      · rw [List.getElem_set_ne (Ne.symm hji)]; exact r2.stay k (by omega)
/-- a row more, that is none -/
theorem LvC.snoc {cap cap' : Nat} {A A2 : Option Addr} {L : List (List Ev)} {c : Nat → Nat} {w w' : World} {vs : List Value} (hv : RowC w c 1 52 1 A L.length cap vs)
    (hin : ∀ i, (hi : i < L.length) → ∃ A' c', vs[i]? = some (.slice A' L[i].length c') ∧ RowC w c (10 + i) 57 4 A' L[i].length c' (L[i].flatMap encE))
    (hr : Row w' 52 1 A2 (L.length + 1) cap' (vs ++ [.slice none 0 0])) (hm : Mod (fun k => ∃ a, A = some a ∧ k = a.block) w w')
    (hat : ∀ a', A2 = some a' → (∃ a, A = some a ∧ a'.block = a.block) ∨ w.heap.size ≤ a'.block) :
    LvC w' (paint c w.heap.size 1) A2 cap' (L ++ [[]]) ∧ Chg 1 c w (paint c w.heap.size 1) w' := by
  have hl : vs.length = L.length := by have := hv.1.1; omega
  obtain ⟨h1, h2⟩ := RowC.put hv hr hm hat
  refine ⟨⟨vs ++ [.slice none 0 0], by rw [List.length_append]; exact h1, fun i hi => ?_⟩, h2⟩
  rw [List.length_append, List.length_singleton] at hi
  rcases Nat.lt_or_ge i L.length with h3 | h3
  · obtain ⟨A', c', e, r⟩ := hin i h3
    refine ⟨A', c', ?_, ?_⟩
    · rw [List.getElem?_append_left (by omega), e, List.getElem_append_left h3]
    · rw [List.getElem_append_left h3]; exact r.stay h2 (by omega)
  · obtain rfl : i = L.length := by omega
    refine ⟨none, 0, ?_, ?_⟩
    · rw [List.getElem?_append_right (by omega)]; simp [hl]
    · simp only [List.getElem_append_right (Nat.le_refl _), Nat.sub_self, List.getElem_cons_zero]; exact RowC.nil _ _ _ _ _
/-- a row anew -/
theorem LvC.put {i c' cap : Nat} {A A' : Option Addr} {L : List (List Ev)} {c c1 : Nat → Nat} {w w1 : World} (h : LvC w c A cap L) (hi : i < L.length) (k : Chg (10 + i) c w c1 w1) (q' : List Ev) (hr : RowC w1 c1 (10 + i) 57 4 A' q'.length c' (q'.flatMap encE)) :
    ∀ g o, A = some ⟨g, o, none⟩ → LvC (w1.setCell ⟨g, o + i, none⟩ (.slice A' q'.length c')) (paint c1 w1.heap.size 1) A cap (L.set i q') ∧ Chg 1 c1 w1 (paint c1 w1.heap.size 1) (w1.setCell ⟨g, o + i, none⟩ (.slice A' q'.length c')) := by
  intro g o hA
  subst hA
  obtain ⟨vs, hv, hin⟩ := h
  have hl : vs.length = L.length := by have := hv.1.1; omega
  obtain ⟨h1, h2⟩ := RowC.set (hv.stay k (by omega)) i (by omega) (.slice A' q'.length c')
  refine ⟨⟨_, by rw [List.length_set]; exact h1, fun j hj => ?_⟩, h2⟩
  rw [List.length_set] at hj
  by_cases hji : j = i
  · subst hji
    refine ⟨A', c', ?_, ?_⟩
    · rw [List.getElem?_set_self (by omega)]; simp
    · simpa using hr.stay h2 (by omega)
  · obtain ⟨A2, c2, e2, r2⟩ := hin j hj
    refine ⟨A2, c2, ?_, ?_⟩
    · rw [List.getElem?_set_ne (Ne.symm hji), e2, List.getElem_set_ne (Ne.symm hji)]
    · rw [List.getElem_set_ne (Ne.symm hji)]; exact (r2.stay k (by omega)).stay h2 (by omega)
/-- to be read -/
theorem LvC.lv {cap : Nat} {A : Option Addr} {L : List (List Ev)} {c : Nat → Nat} {w : World} (h : LvC w c A cap L) : LvAt w w.heap.size A L := by
  obtain ⟨vs, hv, hin⟩ := h
  refine ⟨vs, hv.1.rd.toB, fun i hi => ?_⟩
  obtain ⟨A', c', e, r⟩ := hin i hi
  exact ⟨A', c', e, r.1.rd.toB, r.1.2.1, r.1.2.2.1⟩

/-! plain: steps of levU -/
namespace Fo
theorem levU_len (l : List Ev) : (levU l).length ≤ l.length :=
  snoc_ind (p := fun l => (levU l).length ≤ l.length) (Nat.le_refl _) (fun l e h => by
    rw [levU_snoc, addL_len (place_le _ _), List.length_append, List.length_singleton]
    split <;> omega) l
theorem mem_len {L : List (List Ev)} {q : List Ev} (h : q ∈ L) : q.length ≤ L.flatten.length := by
  induction L with
  | nil => cases h
  | cons a L ih =>
    rw [List.flatten_cons, List.length_append]
    rcases List.mem_cons.1 h with rfl | h
    · omega
    · have := ih h; omega
theorem levU_in (l : List Ev) (q : List Ev) (h : q ∈ levU l) : q.length ≤ l.length := by
  have := mem_len h
  rwa [(levU_flat l).length_eq] at this
theorem addL_in {L : List (List Ev)} {n : Nat} (e : Ev) (hn : n < L.length) : addL L n e = L.set n (L[n] ++ [e]) := by
  unfold addL
  rw [if_pos hn, List.getD_eq_getElem?_getD, List.getElem?_eq_getElem hn]
  rfl
theorem addL_end {L : List (List Ev)} (e : Ev) : addL L L.length e = (L ++ [[]]).set L.length ([] ++ [e]) := by
  unfold addL
  rw [if_neg (Nat.lt_irrefl _), List.set_append_right _ _ (Nat.le_refl _)]
  simp
theorem placeAt_hit {L : List (List Ev)} {e : Ev} {m : Nat} (hm : m < L.length) (h : (L[m].any fun x => dep x e) = true) : placeAt L e (m + 1) = m + 1 := by
  unfold placeAt
  rw [List.getD_eq_getElem?_getD, List.getElem?_eq_getElem hm, Option.getD_some, if_pos h]
theorem placeAt_miss {L : List (List Ev)} {e : Ev} {m : Nat} (hm : m < L.length) (h : (L[m].any fun x => dep x e) = false) : placeAt L e (m + 1) = placeAt L e m := by
  conv => lhs; unfold placeAt
  rw [List.getD_eq_getElem?_getD, List.getElem?_eq_getElem hm, Option.getD_some, if_neg (by rw [h]; simp)]
/-- the first i are sorted -/
def part (L : List (List Ev)) (i : Nat) : List (List Ev) := (L.take i).map sortT ++ L.drop i
theorem part_len (L : List (List Ev)) (i : Nat) : (part L i).length = L.length := by unfold part; simp; omega
theorem part_zero (L : List (List Ev)) : part L 0 = L := by unfold part; simp
theorem part_all (L : List (List Ev)) : part L L.length = L.map sortT := by unfold part; simp
theorem part_get (L : List (List Ev)) (i : Nat) (hi : i < L.length) : (part L i)[i]'(by rw [part_len]; exact hi) = L[i] := by
  unfold part
  rw [List.getElem_append_right (by simp; omega)]
  simp [Nat.min_eq_left (Nat.le_of_lt hi)]
theorem part_set (L : List (List Ev)) (i : Nat) (hi : i < L.length) : (part L i).set i (sortT L[i]) = part L (i + 1) := by
  have h1 : (List.map sortT (L.take i)).length = i := by simp; omega
  unfold part
  rw [List.set_append_right _ _ (by omega), h1, Nat.sub_self, List.take_add_one, List.getElem?_eq_getElem hi, List.drop_eq_getElem_cons hi, List.set_cons_zero, List.map_append, List.append_assoc]
  rfl
theorem four {q : List Ev} (hd : q.Pairwise (fun a b => a.t ≠ b.t)) (hr : ∀ e ∈ q, 0 ≤ e.t ∧ e.t ≤ 3) : q.length ≤ 4 := by
  have hs := sortT_sorted q
  have hp := sortT_perm q
  have hd' : (sortT q).Pairwise (fun a b => a.t ≠ b.t) := (hp.pairwise_iff (fun {a b} h => Ne.symm h)).2 hd
  have hr' : ∀ e ∈ sortT q, 0 ≤ e.t ∧ e.t ≤ 3 := fun e he => hr e (hp.mem_iff.1 he)
  rw [← hp.length_eq]
  generalize sortT q = s at hs hd' hr'
  rcases Nat.lt_or_ge 4 s.length with h | h
  · exfalso
    unfold SortedT at hs
    rw [List.pairwise_iff_getElem] at hs hd'
    have a0 := hr' s[0] (List.getElem_mem _)
    have a4 := hr' s[4] (List.getElem_mem _)
    have b0 := hs 0 1 (by omega) (by omega) (by omega)
    have b1 := hs 1 2 (by omega) (by omega) (by omega)
    have b2 := hs 2 3 (by omega) (by omega) (by omega)
    have b3 := hs 3 4 (by omega) (by omega) (by omega)
    have c0 := hd' 0 1 (by omega) (by omega) (by omega)
    have c1 := hd' 1 2 (by omega) (by omega) (by omega)
    have c2 := hd' 2 3 (by omega) (by omega) (by omega)
    have c3 := hd' 3 4 (by omega) (by omega) (by omega)
    omega
  · exact h
theorem right_thr {e : Ev} (h : right e = true) : 0 ≤ e.t ∧ e.t ≤ 3 := by
  unfold right at h
  simp only [decide_eq_true_eq] at h
  exact ⟨h.1, h.2.1⟩
theorem level_four {l : List Ev} (hr : rights l = true) (i : Nat) (hi : i < (levU l).length) : (levU l)[i].length ≤ 4 := by
  have hap := (levU_lev l).apart i
  rw [List.getD_eq_getElem?_getD, List.getElem?_eq_getElem hi, Option.getD_some] at hap
  refine four (apart_threads hap) (fun e he => right_thr ?_)
  have : e ∈ (levU l).flatten := List.mem_flatten.2 ⟨_, List.getElem_mem hi, he⟩
  rw [(levU_flat l).mem_iff] at this
  exact List.all_eq_true.1 hr e this
theorem level_sort {l : List Ev} (i : Nat) (hi : i < (levU l).length) {q' : List Ev} (hp : q'.Perm (levU l)[i]) (hs : SortedT q') : q' = sortT (levU l)[i] := by
  have hap := lev_apart l i
  rw [lev_getD, List.getD_eq_getElem?_getD, List.getElem?_eq_getElem hi, Option.getD_some] at hap
  exact (sorted_one ((sortT_perm _).trans hp.symm) (sortT_sorted _) hs (apart_threads hap)).symm
theorem level_ne {l : List Ev} (i : Nat) (hi : i < (levU l).length) : 0 < (levU l)[i].length := by
  have := (levU_lev l).ne i hi
  rw [List.getD_eq_getElem?_getD, List.getElem?_eq_getElem hi, Option.getD_some] at this
  exact List.length_pos_iff.2 this
end Fo
end Go.Proofs.YtcaapoacmfjnmaaGreat
/- The document's levels: plain steps. -/
namespace Go.Proofs.YtcaapoacmfjnmaaGreat
open Go.RowKit
set_option linter.unusedVariables false
namespace Fo
/-- the height told of the first j -/
def highN (l : List Ev) (a : List Nat) (e : Ev) (j : Nat) : Nat := ((l.zip a).take j).foldl (fun n p => if dep p.1 e then max n (p.2 + 1) else n) 0
theorem highN_zero (l : List Ev) (a : List Nat) (e : Ev) : highN l a e 0 = 0 := rfl
theorem highN_all (l : List Ev) (a : List Nat) (e : Ev) (h : a.length = l.length) : highN l a e l.length = high l a e := by
  unfold highN high
  rw [List.take_of_length_le (by rw [List.length_zip]; omega)]
theorem highN_succ {l : List Ev} {a : List Nat} {e : Ev} {j : Nat} (hj : j < l.length) (hj' : j < a.length) : highN l a e (j + 1) = if dep l[j] e then max (highN l a e j) (a[j] + 1) else highN l a e j := by
  unfold highN
  have hz : j < (l.zip a).length := by rw [List.length_zip]; omega
  rw [List.take_add_one, List.getElem?_eq_getElem hz, List.foldl_append]
  simp
theorem highN_le {l : List Ev} {a : List Nat} {e : Ev} {B : Nat} (ha : ∀ x ∈ a, x ≤ B) : ∀ j, highN l a e j ≤ B + 1 := by
  intro j
  unfold highN
  refine foldmax_le _ e 0 (B + 1) ⟨Nat.zero_le _, fun p hp _ => ?_⟩
  have := List.of_mem_zip (List.mem_of_mem_take hp)
  have := ha _ this.2
  omega
theorem ats_le (l : List Ev) : ∀ x ∈ ats l, x ≤ l.length :=
  snoc_ind (p := fun l => ∀ x ∈ ats l, x ≤ l.length) (fun x h => by cases h) (fun l e h x hx => by
    rw [ats_snoc] at hx
    rw [List.length_append, List.length_singleton]
    rcases List.mem_append.1 hx with hx | hx
    · have := h x hx; omega
    · rw [List.mem_singleton] at hx
      rw [hx, ← place_high]
      have := place_le (levU l) e
      have := levU_len l
      omega) l

/-- putting one between -/
def insA (e : Ev) (q : List Ev) : List Ev × Bool := q.foldl (fun s x => if !s.2 && decide (e.t < x.t) then (s.1 ++ [e, x], true) else (s.1 ++ [x], s.2)) ([], false)
theorem insA_snoc (e : Ev) (q : List Ev) (x : Ev) : insA e (q ++ [x]) = if !(insA e q).2 && decide (e.t < x.t) then ((insA e q).1 ++ [e, x], true) else ((insA e q).1 ++ [x], (insA e q).2) := by
  unfold insA; rw [List.foldl_append]; rfl
theorem insT_snoc (e x : Ev) : ∀ q : List Ev, (∀ y ∈ q, ¬ e.t < y.t) → insT e (q ++ [x]) = if e.t < x.t then q ++ [e, x] else q ++ [x, e]
  | [], _ => by unfold insT insT; rfl
  | y :: q, h => by
    have h1 : ¬ e.t < y.t := h y (List.mem_cons_self ..)
    rw [List.cons_append, insT, if_neg h1, insT_snoc e x q (fun z hz => h z (List.mem_cons_of_mem _ hz))]
    split <;> rfl
theorem insT_more (e x : Ev) : ∀ q : List Ev, (∃ y ∈ q, e.t < y.t) → insT e (q ++ [x]) = insT e q ++ [x]
  | [], h => by obtain ⟨y, hy, _⟩ := h; cases hy
  | y :: q, h => by
    rw [List.cons_append, insT, insT]
    split
    · rfl
    · rename_i hn
      obtain ⟨z, hz, hlt⟩ := h
      rcases List.mem_cons.1 hz with rfl | hz
      · exact (hn hlt).elim
      · rw [insT_more e x q ⟨z, hz, hlt⟩]; rfl
theorem insA_spec (e : Ev) (q : List Ev) : ((insA e q).2 = false → (insA e q).1 = q ∧ ∀ y ∈ q, ¬ e.t < y.t) ∧ ((insA e q).2 = true → (insA e q).1 = insT e q ∧ ∃ y ∈ q, e.t < y.t) :=
  snoc_ind (p := fun q => ((insA e q).2 = false → (insA e q).1 = q ∧ ∀ y ∈ q, ¬ e.t < y.t) ∧ ((insA e q).2 = true → (insA e q).1 = insT e q ∧ ∃ y ∈ q, e.t < y.t))
    ⟨fun _ => ⟨rfl, fun y hy => by cases hy⟩, fun h => by cases h⟩ (fun q x ih => by
      rw [insA_snoc]
      cases hb : (insA e q).2 with
      | true =>
        obtain ⟨h1, y, hy, hlt⟩ := ih.2 hb
        simp only [Bool.not_true, Bool.false_and, Bool.false_eq_true, if_false]
        exact ⟨fun h => (by cases h), fun _ => ⟨by rw [h1, insT_more e x q ⟨y, hy, hlt⟩], y, List.mem_append_left _ hy, hlt⟩⟩
      | false =>
        obtain ⟨h1, h2⟩ := ih.1 hb
        by_cases hx : e.t < x.t
        · rw [decide_eq_true hx]
          simp only [Bool.not_false, Bool.true_and, if_true]
          refine ⟨fun h => (by cases h), fun _ => ⟨?_, x, by simp, hx⟩⟩
          rw [h1, insT_snoc e x q h2, if_pos hx]
        · rw [decide_eq_false hx]
          simp only [Bool.not_false, Bool.true_and, Bool.false_eq_true, if_false]
          refine ⟨fun _ => ⟨by rw [h1], fun y hy => ?_⟩, fun h => by cases h⟩
          rcases List.mem_append.1 hy with hy | hy
          · exact h2 y hy
          · rw [List.mem_singleton] at hy; subst hy; exact hx) q
theorem insT_end (e : Ev) : ∀ q : List Ev, (∀ y ∈ q, ¬ e.t < y.t) → insT e q = q ++ [e]
  | [], _ => rfl
  | y :: q, h => by
    rw [insT, if_neg (h y (List.mem_cons_self ..)), insT_end e q (fun z hz => h z (List.mem_cons_of_mem _ hz))]
    rfl
theorem insA_end (e : Ev) (q : List Ev) : (if (insA e q).2 = true then (insA e q).1 else (insA e q).1 ++ [e]) = insT e q := by
  cases hb : (insA e q).2 with
  | true => rw [if_pos rfl]; exact ((insA_spec e q).2 hb).1
  | false =>
    obtain ⟨h1, h2⟩ := (insA_spec e q).1 hb
    rw [if_neg (by decide), h1, insT_end e q h2]
theorem insA_len (e : Ev) (q : List Ev) : (insA e q).1.length ≤ q.length + 1 := by
  cases hb : (insA e q).2 with
  | true => rw [((insA_spec e q).2 hb).1, (insT_perm e q).length_eq, List.length_cons]; exact Nat.le_refl _
  | false => rw [((insA_spec e q).1 hb).1]; omega

/-- one event more -/
theorem lev_in (l : List Ev) (e : Ev) (h : high l (ats l) e < (lev l).length) : lev (l ++ [e]) = (lev l).set (high l (ats l) e) (insT e ((lev l).getD (high l (ats l) e) [])) := by
  rw [lev_getD]
  rw [lev_len] at h
  unfold lev
  rw [levU_snoc, place_high]
  generalize high l (ats l) e = n at h ⊢
  rw [addL_in e h, List.map_set, sortT_snoc, List.getD_eq_getElem?_getD, List.getElem?_eq_getElem h]
  rfl
theorem lev_end (l : List Ev) (e : Ev) (h : high l (ats l) e = (lev l).length) : lev (l ++ [e]) = (lev l ++ [[]]).set (high l (ats l) e) (insT e ((lev l ++ [[]]).getD (high l (ats l) e) [])) := by
  rw [h]
  have h2 := h
  rw [lev_len] at h2
  have h3 : (lev l ++ [[]]).getD (lev l).length [] = [] := by simp [List.getD_eq_getElem?_getD]
  rw [h3]
  have h4 : lev (l ++ [e]) = (addL (levU l) (levU l).length e).map sortT := by unfold lev; rw [levU_snoc, place_high, h2]
  rw [h4, addL_end, List.map_set, List.map_append, lev_len]
  rfl
theorem high_le (l : List Ev) (e : Ev) : high l (ats l) e ≤ (lev l).length := by
  rw [← place_high, lev_len]; exact place_le _ _
theorem lev_in_len (l : List Ev) (q : List Ev) (h : q ∈ lev l) : q.length ≤ l.length := by
  have := mem_len h
  rwa [(lev_flat l).length_eq] at this
theorem lev_len_le (l : List Ev) : (lev l).length ≤ l.length := by rw [lev_len]; exact levU_len l
end Fo

/-! one colour becomes another -/
def repaint (c : Nat → Nat) (i j : Nat) : Nat → Nat := fun k => if c k = i then j else c k
theorem RowC.re {w : World} {c : Nat → Nat} {i e sz n cap : Nat} {A : Option Addr} {cs : List Value} (h : RowC w c i e sz A n cap cs) (j : Nat) : RowC w (repaint c i j) j e sz A n cap cs :=
  ⟨h.1, fun a ha => by unfold repaint; rw [if_pos (h.2 a ha)]⟩
theorem RowC.re_ne {w : World} {c : Nat → Nat} {i k e sz n cap : Nat} {A : Option Addr} {cs : List Value} (h : RowC w c k e sz A n cap cs) (hk : k ≠ i) (j : Nat) : RowC w (repaint c i j) k e sz A n cap cs :=
  ⟨h.1, fun a ha => by unfold repaint; rw [h.2 a ha, if_neg hk]⟩
theorem LvC.re {w : World} {c : Nat → Nat} {cap : Nat} {A : Option Addr} {L : List (List Ev)} (h : LvC w c A cap L) {i : Nat} (h1 : i ≠ 1) (h2 : i < 10) (j : Nat) : LvC w (repaint c i j) A cap L := by
  obtain ⟨vs, hv, hin⟩ := h
  refine ⟨vs, hv.re_ne (Ne.symm h1) j, fun k hk => ?_⟩
  obtain ⟨A', c', e, r⟩ := hin k hk
  exact ⟨A', c', e, r.re_ne (by omega) j⟩
theorem Fr.re {base : Nat} {c : Nat → Nat} {W w : World} (h : Fr base c W w) {i : Nat} (hi : i ≠ 0) (j : Nat) : Fr base (repaint c i j) W w :=
  ⟨h.1, h.2.1, fun k hk => by unfold repaint; rw [h.2.2 k hk, if_neg (Ne.symm hi)]⟩
end Go.Proofs.YtcaapoacmfjnmaaGreat
