/- The document's levels: plain steps. -/
import Derived.Test.YtgahjibjladafaaFoO
namespace Go.Proofs.Ytgahjibjladafaa
open Go.RowKit
set_option linter.unusedVariables false
namespace Fo
/-- the height told of the first j -/
def highN (l : List Ev) (a : List Nat) (e : Ev) (j : Nat) : Nat := ((l.zip a).take j).foldl (fun n p => if dep p.1 e then max n (p.2 + 1) else n) 0
theorem highN_zero (l : List Ev) (a : List Nat) (e : Ev) : highN l a e 0 = 0 := rfl
theorem highN_all (l : List Ev) (a : List Nat) (e : Ev) (h : a.length = l.length) : highN l a e l.length = high l a e := by
  unfold highN high
  rw [List.take_of_length_le (by rw [List.length_zip]; omega)]
theorem highN_succ {l : List Ev} {a : List Nat} {e : Ev} {j : Nat} (hj : j < l.length) (hj' : j < a.length) : highN l a e (j + 1) = if dep l[j] e then max (highN l a e j) (a[j] + 1) else highN l a e j := by
  unfold highN
  have hz : j < (l.zip a).length := by rw [List.length_zip]; omega
  rw [List.take_add_one, List.getElem?_eq_getElem hz, List.foldl_append]
  simp
theorem highN_le {l : List Ev} {a : List Nat} {e : Ev} {B : Nat} (ha : ∀ x ∈ a, x ≤ B) : ∀ j, highN l a e j ≤ B + 1 := by
  intro j
  unfold highN
  refine foldmax_le _ e 0 (B + 1) ⟨Nat.zero_le _, fun p hp _ => ?_⟩
  have := List.of_mem_zip (List.mem_of_mem_take hp)
  have := ha _ this.2
  omega
theorem ats_le (l : List Ev) : ∀ x ∈ ats l, x ≤ l.length :=
  snoc_ind (p := fun l => ∀ x ∈ ats l, x ≤ l.length) (fun x h => by cases h) (fun l e h x hx => by
    rw [ats_snoc] at hx
    rw [List.length_append, List.length_singleton]
    rcases List.mem_append.1 hx with hx | hx
    · have := h x hx; omega
    · rw [List.mem_singleton] at hx
      rw [hx, ← place_high]
      have := place_le (levU l) e
      have := levU_len l
      omega) l

/-- putting one between -/
def insA (e : Ev) (q : List Ev) : List Ev × Bool := q.foldl (fun s x => if !s.2 && decide (e.t < x.t) then (s.1 ++ [e, x], true) else (s.1 ++ [x], s.2)) ([], false)
theorem insA_snoc (e : Ev) (q : List Ev) (x : Ev) : insA e (q ++ [x]) = if !(insA e q).2 && decide (e.t < x.t) then ((insA e q).1 ++ [e, x], true) else ((insA e q).1 ++ [x], (insA e q).2) := by
  unfold insA; rw [List.foldl_append]; rfl
theorem insT_snoc (e x : Ev) : ∀ q : List Ev, (∀ y ∈ q, ¬ e.t < y.t) → insT e (q ++ [x]) = if e.t < x.t then q ++ [e, x] else q ++ [x, e]
  | [], _ => by unfold insT insT; rfl
  | y :: q, h => by
    have h1 : ¬ e.t < y.t := h y (List.mem_cons_self ..)
    rw [List.cons_append, insT, if_neg h1, insT_snoc e x q (fun z hz => h z (List.mem_cons_of_mem _ hz))]
    split <;> rfl
theorem insT_more (e x : Ev) : ∀ q : List Ev, (∃ y ∈ q, e.t < y.t) → insT e (q ++ [x]) = insT e q ++ [x]
  | [], h => by obtain ⟨y, hy, _⟩ := h; cases hy
  | y :: q, h => by
    rw [List.cons_append, insT, insT]
    split
    · rfl
    · rename_i hn
      obtain ⟨z, hz, hlt⟩ := h
      rcases List.mem_cons.1 hz with rfl | hz
      · exact (hn hlt).elim
      · rw [insT_more e x q ⟨z, hz, hlt⟩]; rfl
theorem insA_spec (e : Ev) (q : List Ev) : ((insA e q).2 = false → (insA e q).1 = q ∧ ∀ y ∈ q, ¬ e.t < y.t) ∧ ((insA e q).2 = true → (insA e q).1 = insT e q ∧ ∃ y ∈ q, e.t < y.t) :=
  snoc_ind (p := fun q => ((insA e q).2 = false → (insA e q).1 = q ∧ ∀ y ∈ q, ¬ e.t < y.t) ∧ ((insA e q).2 = true → (insA e q).1 = insT e q ∧ ∃ y ∈ q, e.t < y.t))
    ⟨fun _ => ⟨rfl, fun y hy => by cases hy⟩, fun h => by cases h⟩ (fun q x ih => by
      rw [insA_snoc]
      cases hb : (insA e q).2 with
      | true =>
        obtain ⟨h1, y, hy, hlt⟩ := ih.2 hb
        simp only [Bool.not_true, Bool.false_and, Bool.false_eq_true, if_false]
        exact ⟨fun h => (by cases h), fun _ => ⟨by rw [h1, insT_more e x q ⟨y, hy, hlt⟩], y, List.mem_append_left _ hy, hlt⟩⟩
      | false =>
        obtain ⟨h1, h2⟩ := ih.1 hb
        by_cases hx : e.t < x.t
        · rw [decide_eq_true hx]
          simp only [Bool.not_false, Bool.true_and, if_true]
          refine ⟨fun h => (by cases h), fun _ => ⟨?_, x, by simp, hx⟩⟩
          rw [h1, insT_snoc e x q h2, if_pos hx]
        · rw [decide_eq_false hx]
          simp only [Bool.not_false, Bool.true_and, Bool.false_eq_true, if_false]
          refine ⟨fun _ => ⟨by rw [h1], fun y hy => ?_⟩, fun h => by cases h⟩
          rcases List.mem_append.1 hy with hy | hy
          · exact h2 y hy
          · rw [List.mem_singleton] at hy; subst hy; exact hx) q
theorem insT_end (e : Ev) : ∀ q : List Ev, (∀ y ∈ q, ¬ e.t < y.t) → insT e q = q ++ [e]
  | [], _ => rfl
  | y :: q, h => by
    rw [insT, if_neg (h y (List.mem_cons_self ..)), insT_end e q (fun z hz => h z (List.mem_cons_of_mem _ hz))]
    rfl
theorem insA_end (e : Ev) (q : List Ev) : (if (insA e q).2 = true then (insA e q).1 else (insA e q).1 ++ [e]) = insT e q := by
  cases hb : (insA e q).2 with
  | true => rw [if_pos rfl]; exact ((insA_spec e q).2 hb).1
  | false =>
    obtain ⟨h1, h2⟩ := (insA_spec e q).1 hb
    rw [if_neg (by decide), h1, insT_end e q h2]
theorem insA_len (e : Ev) (q : List Ev) : (insA e q).1.length ≤ q.length + 1 := by
  cases hb : (insA e q).2 with
  | true => rw [((insA_spec e q).2 hb).1, (insT_perm e q).length_eq, List.length_cons]; exact Nat.le_refl _
  | false => rw [((insA_spec e q).1 hb).1]; omega

/-- one event more -/
theorem lev_in (l : List Ev) (e : Ev) (h : high l (ats l) e < (lev l).length) : lev (l ++ [e]) = (lev l).set (high l (ats l) e) (insT e ((lev l).getD (high l (ats l) e) [])) := by
  rw [lev_getD]
  rw [lev_len] at h
  unfold lev
  rw [levU_snoc, place_high]
  generalize high l (ats l) e = n at h ⊢
  rw [addL_in e h, List.map_set, sortT_snoc, List.getD_eq_getElem?_getD, List.getElem?_eq_getElem h]
  rfl
theorem lev_end (l : List Ev) (e : Ev) (h : high l (ats l) e = (lev l).length) : lev (l ++ [e]) = (lev l ++ [[]]).set (high l (ats l) e) (insT e ((lev l ++ [[]]).getD (high l (ats l) e) [])) := by
  rw [h]
  have h2 := h
  rw [lev_len] at h2
  have h3 : (lev l ++ [[]]).getD (lev l).length [] = [] := by simp [List.getD_eq_getElem?_getD]
  rw [h3]
  have h4 : lev (l ++ [e]) = (addL (levU l) (levU l).length e).map sortT := by unfold lev; rw [levU_snoc, place_high, h2]
  rw [h4, addL_end, List.map_set, List.map_append, lev_len]
  rfl
theorem high_le (l : List Ev) (e : Ev) : high l (ats l) e ≤ (lev l).length := by
  rw [← place_high, lev_len]; exact place_le _ _
theorem lev_in_len (l : List Ev) (q : List Ev) (h : q ∈ lev l) : q.length ≤ l.length := by
  have := mem_len h
  rwa [(lev_flat l).length_eq] at this
theorem lev_len_le (l : List Ev) : (lev l).length ≤ l.length := by rw [lev_len]; exact levU_len l
end Fo

/-! one colour becomes another -/
def repaint (c : Nat → Nat) (i j : Nat) : Nat → Nat := fun k => if c k = i then j else c k
theorem RowC.re {w : World} {c : Nat → Nat} {i e sz n cap : Nat} {A : Option Addr} {cs : List Value} (h : RowC w c i e sz A n cap cs) (j : Nat) : RowC w (repaint c i j) j e sz A n cap cs :=
  ⟨h.1, fun a ha => by unfold repaint; rw [if_pos (h.2 a ha)]⟩
theorem RowC.re_ne {w : World} {c : Nat → Nat} {i k e sz n cap : Nat} {A : Option Addr} {cs : List Value} (h : RowC w c k e sz A n cap cs) (hk : k ≠ i) (j : Nat) : RowC w (repaint c i j) k e sz A n cap cs :=
  ⟨h.1, fun a ha => by unfold repaint; rw [h.2 a ha, if_neg hk]⟩
theorem LvC.re {w : World} {c : Nat → Nat} {cap : Nat} {A : Option Addr} {L : List (List Ev)} (h : LvC w c A cap L) {i : Nat} (h1 : i ≠ 1) (h2 : i < 10) (j : Nat) : LvC w (repaint c i j) A cap L := by
  obtain ⟨vs, hv, hin⟩ := h
  refine ⟨vs, hv.re_ne (Ne.symm h1) j, fun k hk => ?_⟩
  obtain ⟨A', c', e, r⟩ := hin k hk
  exact ⟨A', c', e, r.re_ne (by omega) j⟩
theorem Fr.re {base : Nat} {c : Nat → Nat} {W w : World} (h : Fr base c W w) {i : Nat} (hi : i ≠ 0) (j : Nat) : Fr base (repaint c i j) W w :=
  ⟨h.1, h.2.1, fun k hk => by unfold repaint; rw [h.2.2 k hk, if_neg (Ne.symm hi)]⟩
end Go.Proofs.Ytgahjibjladafaa
