/- Levels of events: plain theory, no program in sight. -/
import Derived.KernelRfl
namespace Go.Proofs.Ytgahjibjladafaa
set_option linter.unusedVariables false

/-- an event -/
structure Ev where
  t : Int
  k : Int
  o : Int
  f : Bool
deriving DecidableEq

namespace Fo
def memK (e : Ev) : Bool := decide (e.k = 2) || decide (e.k = 3)
def mutK (e : Ev) : Bool := decide (e.k = 4) || decide (e.k = 5)
/-- the order of the two matters -/
def dep (a b : Ev) : Bool := decide (a.t = b.t) || (decide (a.o = b.o) && ((memK a && memK b && (decide (a.k = 3) || decide (b.k = 3))) || (mutK a && mutK b)))
theorem dep_comm (a b : Ev) : dep a b = dep b a := by
  unfold dep
  rw [show decide (a.t = b.t) = decide (b.t = a.t) from decide_eq_decide.2 ⟨Eq.symm, Eq.symm⟩, show decide (a.o = b.o) = decide (b.o = a.o) from decide_eq_decide.2 ⟨Eq.symm, Eq.symm⟩,
    Bool.and_comm (memK a), Bool.or_comm (decide (a.k = 3)), Bool.and_comm (mutK a)]
theorem dep_thread {a b : Ev} (h : a.t = b.t) : dep a b = true := by unfold dep; rw [decide_eq_true h, Bool.true_or]
/-- may it be? -/
def right (e : Ev) : Bool := decide (0 ≤ e.t ∧ e.t ≤ 3 ∧ 1 ≤ e.k ∧ e.k ≤ 5 ∧ 0 ≤ e.o ∧ e.o ≤ 3 ∧ (e.k = 1 → e.o = 0) ∧ (e.k ≠ 1 → e.f = false ∧ (e.k < 4 ∨ e.o < 2)))

/-! places and levels -/
def placeAt (L : List (List Ev)) (e : Ev) : Nat → Nat
  | 0 => 0
  | n + 1 => if (L.getD n []).any (fun x => dep x e) then n + 1 else placeAt L e n
def place (L : List (List Ev)) (e : Ev) : Nat := placeAt L e L.length
def addL (L : List (List Ev)) (n : Nat) (e : Ev) : List (List Ev) := if n < L.length then L.set n (L.getD n [] ++ [e]) else L ++ [[e]]
def levU (l : List Ev) : List (List Ev) := l.foldl (fun L e => addL L (place L e) e) []

theorem placeAt_le (L : List (List Ev)) (e : Ev) : ∀ n, placeAt L e n ≤ n
  | 0 => Nat.le_refl _
  | n + 1 => by unfold placeAt; split; exact Nat.le_refl _; exact Nat.le_succ_of_le (placeAt_le L e n)
theorem place_le (L : List (List Ev)) (e : Ev) : place L e ≤ L.length := placeAt_le L e _
theorem placeAt_free (L : List (List Ev)) (e : Ev) : ∀ n j, placeAt L e n ≤ j → j < n → (L.getD j []).any (fun x => dep x e) = false
  | 0, j, _, h => by omega
  | n + 1, j, h, hj => by
    unfold placeAt at h
    split at h
    · omega
    · rename_i hn
      rcases Nat.lt_or_ge j n with h1 | h1
      · exact placeAt_free L e n j h h1
      · rw [show j = n by omega]; simpa using hn
theorem place_free {L : List (List Ev)} {e : Ev} {j : Nat} (h : place L e ≤ j) (x : Ev) (hx : x ∈ L.getD j []) : dep x e = false := by
  rcases Nat.lt_or_ge j L.length with h1 | h1
  · have := placeAt_free L e L.length j h h1
    rw [List.any_eq_false] at this
    simpa using this x hx
  · rw [List.getD_eq_getElem?_getD, List.getElem?_eq_none h1] at hx; simp at hx
theorem placeAt_dep (L : List (List Ev)) (e : Ev) : ∀ n, placeAt L e n ≠ 0 → ∃ x ∈ L.getD (placeAt L e n - 1) [], dep x e = true
  | 0, h => (h rfl).elim
  | n + 1, h => by
    unfold placeAt at h ⊢
    split
    · rename_i hn
      obtain ⟨x, hx, hd⟩ := List.any_eq_true.1 hn
      exact ⟨x, by simpa using hx, hd⟩
    · rename_i hn
      rw [if_neg hn] at h
      exact placeAt_dep L e n h
theorem place_dep {L : List (List Ev)} {e : Ev} (h : place L e ≠ 0) : ∃ x ∈ L.getD (place L e - 1) [], dep x e = true := placeAt_dep L e _ h

theorem addL_getD {L : List (List Ev)} {n : Nat} (hn : n ≤ L.length) (e : Ev) (j : Nat) : (addL L n e).getD j [] = if j = n then L.getD n [] ++ [e] else L.getD j [] := by
  unfold addL
  simp only [List.getD_eq_getElem?_getD]
  by_cases h : n < L.length
  · rw [if_pos h]
    by_cases hj : j = n
    · subst hj; rw [if_pos rfl, List.getElem?_set_self h]; rfl
    · rw [if_neg hj, List.getElem?_set_ne (Ne.symm hj)]
  · rw [if_neg h]
    have hnl : n = L.length := by omega
    by_cases hj : j = n
    · subst hj
      rw [if_pos rfl, hnl, List.getElem?_append_right (Nat.le_refl _), List.getElem?_eq_none (Nat.le_refl _)]
      simp
    · rw [if_neg hj]
      rcases Nat.lt_or_ge j L.length with h1 | h1
      · rw [List.getElem?_append_left h1]
      · rw [List.getElem?_append_right h1, List.getElem?_eq_none h1, List.getElem?_eq_none (by simp; omega)]
theorem addL_len {L : List (List Ev)} {n : Nat} (hn : n ≤ L.length) (e : Ev) : (addL L n e).length = if n = L.length then L.length + 1 else L.length := by
  unfold addL
  by_cases h : n < L.length
  · rw [if_pos h, if_neg (by omega), List.length_set]
  · rw [if_neg h, if_pos (by omega)]; simp
theorem addL_flat {L : List (List Ev)} {n : Nat} (hn : n ≤ L.length) (e : Ev) : (addL L n e).flatten.Perm (e :: L.flatten) := by
  unfold addL
  by_cases h : n < L.length
  · rw [if_pos h]
    have gen : ∀ (L : List (List Ev)) n, n < L.length → (L.set n (L.getD n [] ++ [e])).flatten.Perm (e :: L.flatten) := by
      intro L
      induction L with
      | nil => intro n h; cases h
      | cons l L ih =>
        intro n h
        cases n with
        | zero =>
          simp only [List.set_cons_zero, List.flatten_cons, List.getD_cons_zero]
          rw [List.append_assoc]
          exact List.perm_middle
        | succ n =>
          simp only [List.set_cons_succ, List.flatten_cons, List.getD_cons_succ]
          exact ((ih n (by simpa using h)).append_left l).trans List.perm_middle
    exact gen L n h
  · rw [if_neg h]
    simp only [List.flatten_append, List.flatten_cons, List.flatten_nil, List.append_nil]
    exact List.perm_append_comm

/-! what levels are -/
structure Lev (L : List (List Ev)) : Prop where
  ne : ∀ j, j < L.length → L.getD j [] ≠ []
  apart : ∀ j, (L.getD j []).Pairwise (fun a b => dep a b = false)
  up : ∀ j e, e ∈ L.getD (j + 1) [] → ∃ x ∈ L.getD j [], dep x e = true
theorem Lev.nil : Lev [] := ⟨fun j h => (by cases h), fun j => (by simp), fun j e h => (by simp at h)⟩
theorem Lev.add {L : List (List Ev)} (h : Lev L) (e : Ev) : Lev (addL L (place L e) e) := by
  have hn := place_le L e
  refine ⟨fun j hj => ?_, fun j => ?_, fun j x hx => ?_⟩
  · rw [addL_getD hn]
    split
    · simp
    · rename_i hne
      rw [addL_len hn] at hj
      split at hj
      · exact h.ne j (by omega)
      · exact h.ne j hj
  · rw [addL_getD hn]
    split
    · rename_i hj
      refine List.pairwise_append.2 ⟨h.apart _, by simp, fun a ha b hb => ?_⟩
      rw [List.mem_singleton] at hb
      subst hb
      exact place_free (Nat.le_refl _) a ha
    · exact h.apart j
  · rw [addL_getD hn] at hx ⊢
    have hold : x ∈ L.getD (j + 1) [] → ∃ y ∈ (if j = place L e then L.getD (place L e) [] ++ [e] else L.getD j []), dep y x = true := fun hx => by
      obtain ⟨y, hy, hd⟩ := h.up j x hx
      refine ⟨y, ?_, hd⟩
      split
      · rename_i hj; rw [← hj]; exact List.mem_append_left _ hy
      · exact hy
    split at hx
    · rename_i hj
      rcases List.mem_append.1 hx with hx | hx
      · exact hold (hj ▸ hx)
      · rw [List.mem_singleton] at hx
        subst hx
        obtain ⟨y, hy, hd⟩ := place_dep (L := L) (e := x) (by omega)
        rw [← hj, Nat.add_sub_cancel] at hy
        exact ⟨y, by rw [if_neg (by omega)]; exact hy, hd⟩
    · exact hold hx

theorem levU_snoc (l : List Ev) (e : Ev) : levU (l ++ [e]) = addL (levU l) (place (levU l) e) e := by unfold levU; rw [List.foldl_append]; rfl
theorem snoc_ind {p : List Ev → Prop} (h0 : p []) (h1 : ∀ l e, p l → p (l ++ [e])) (l : List Ev) : p l := by
  have : ∀ n (l : List Ev), l.length = n → p l := by
    intro n
    induction n with
    | zero => intro l h; rw [List.eq_nil_of_length_eq_zero h]; exact h0
    | succ n ih =>
      intro l h
      have hne : l ≠ [] := by intro e; rw [e] at h; cases h
      have := h1 l.dropLast (l.getLast hne) (ih _ (by rw [List.length_dropLast]; omega))
      rwa [List.dropLast_concat_getLast] at this
  exact this _ l rfl
theorem levU_lev (l : List Ev) : Lev (levU l) := snoc_ind (p := fun l => Lev (levU l)) Lev.nil (fun l e h => by rw [levU_snoc]; exact h.add e) l
theorem levU_flat (l : List Ev) : (levU l).flatten.Perm l :=
  snoc_ind (p := fun l => (levU l).flatten.Perm l) (List.Perm.refl _) (fun l e h => by
    rw [levU_snoc]
    exact (addL_flat (place_le _ _) e).trans ((h.cons e).trans (by simpa using (List.perm_append_comm (l₁ := [e]) (l₂ := l))))) l

/-! in order of threads -/
def insT (e : Ev) : List Ev → List Ev
  | [] => [e]
  | x :: xs => if e.t < x.t then e :: x :: xs else x :: insT e xs
def sortT (l : List Ev) : List Ev := l.foldl (fun acc e => insT e acc) []
theorem insT_perm (e : Ev) : ∀ l, (insT e l).Perm (e :: l)
  | [] => List.Perm.refl _
  | x :: xs => by
    unfold insT
    split
    · exact List.Perm.refl _
    · exact ((insT_perm e xs).cons x).trans (List.Perm.swap _ _ _)
def SortedT (l : List Ev) : Prop := l.Pairwise (fun a b => a.t ≤ b.t)
theorem insT_sorted (e : Ev) : ∀ l, SortedT l → SortedT (insT e l)
  | [], _ => by simp [insT, SortedT]
  | x :: xs, h => by
    obtain ⟨h1, h2⟩ := List.pairwise_cons.1 h
    unfold insT
    split
    · rename_i hlt
      refine List.pairwise_cons.2 ⟨fun y hy => ?_, h⟩
      rcases List.mem_cons.1 hy with rfl | hy
      · omega
      · have := h1 y hy; omega
    · rename_i hlt
      refine List.pairwise_cons.2 ⟨fun y hy => ?_, insT_sorted e xs h2⟩
      rcases List.mem_cons.1 ((insT_perm e xs).mem_iff.1 hy) with rfl | hy
      · omega
      · exact h1 y hy
theorem sortT_snoc (l : List Ev) (e : Ev) : sortT (l ++ [e]) = insT e (sortT l) := by unfold sortT; rw [List.foldl_append]; rfl
theorem sortT_perm (l : List Ev) : (sortT l).Perm l :=
  snoc_ind (p := fun l => (sortT l).Perm l) (List.Perm.refl _) (fun l e h => by rw [sortT_snoc]; exact (insT_perm e _).trans ((h.cons e).trans (by simpa using (List.perm_append_comm (l₁ := [e]) (l₂ := l))))) l
theorem sortT_sorted (l : List Ev) : SortedT (sortT l) :=
  snoc_ind (p := fun l => SortedT (sortT l)) (by simp [sortT, SortedT]) (fun l e h => by rw [sortT_snoc]; exact insT_sorted e _ h) l
/-- no thread twice: a sorted order is the only one -/
theorem sorted_one {l r : List Ev} (hp : l.Perm r) (hl : SortedT l) (hr : SortedT r) (hd : l.Pairwise (fun a b => a.t ≠ b.t)) : l = r := by
  have hd' : ∀ a ∈ l, ∀ b ∈ l, a.t = b.t → a = b := by
    intro a ha b hb hab
    clear hp hl hr
    induction l with
    | nil => cases ha
    | cons x xs ih =>
      obtain ⟨h1, h2⟩ := List.pairwise_cons.1 hd
      rcases List.mem_cons.1 ha with ha' | ha' <;> rcases List.mem_cons.1 hb with hb' | hb'
      · rw [ha', hb']
      · subst ha'; exact (h1 b hb' hab).elim
      · subst hb'; exact (h1 a ha' hab.symm).elim
      · exact ih h2 ha' hb'
  exact List.Perm.eq_of_pairwise (le := fun a b : Ev => a.t ≤ b.t) (fun a b ha hb h1 h2 => hd' a ha b (hp.mem_iff.2 hb) (Int.le_antisymm h1 h2)) hl hr hp
theorem apart_threads {l : List Ev} (h : l.Pairwise (fun a b => dep a b = false)) : l.Pairwise (fun a b => a.t ≠ b.t) :=
  h.imp (fun {a b} hab e => by rw [dep_thread e] at hab; cases hab)

/-- the levels -/
def lev (l : List Ev) : List (List Ev) := (levU l).map sortT
theorem lev_len (l : List Ev) : (lev l).length = (levU l).length := by unfold lev; simp
theorem lev_getD (l : List Ev) (j : Nat) : (lev l).getD j [] = sortT ((levU l).getD j []) := by
  unfold lev
  simp only [List.getD_eq_getElem?_getD, List.getElem?_map]
  cases (levU l)[j]? <;> rfl
theorem lev_flat (l : List Ev) : (lev l).flatten.Perm l := by
  refine List.Perm.trans ?_ (levU_flat l)
  unfold lev
  induction levU l with
  | nil => exact List.Perm.refl _
  | cons x xs ih => simp only [List.map_cons, List.flatten_cons]; exact (sortT_perm x).append ih
theorem lev_apart (l : List Ev) (j : Nat) : ((lev l).getD j []).Pairwise (fun a b => dep a b = false) := by
  rw [lev_getD]
  exact ((sortT_perm _).pairwise_iff (fun {a b} h => by rw [dep_comm]; exact h)).2 ((levU_lev l).apart j)
theorem lev_lev (l : List Ev) : Lev (lev l) := by
  refine ⟨fun j hj h => ?_, lev_apart l, fun j e he => ?_⟩
  · rw [lev_getD] at h
    rw [lev_len] at hj
    have := (sortT_perm ((levU l).getD j [])).length_eq
    rw [h] at this
    exact (levU_lev l).ne j hj (List.eq_nil_of_length_eq_zero this.symm)
  · rw [lev_getD] at he ⊢
    obtain ⟨x, hx, hd⟩ := (levU_lev l).up j e ((sortT_perm _).mem_iff.1 he)
    exact ⟨x, (sortT_perm _).mem_iff.2 hx, hd⟩
theorem lev_sorted (l : List Ev) (j : Nat) : SortedT ((lev l).getD j []) := by rw [lev_getD]; exact sortT_sorted _
/-- what one event more does -/
theorem lev_snoc (l : List Ev) (e : Ev) (j : Nat) : (lev (l ++ [e])).getD j [] = if j = place (levU l) e then insT e ((lev l).getD j []) else (lev l).getD j [] := by
  rw [lev_getD, levU_snoc, addL_getD (place_le _ _), lev_getD]
  split
  · rename_i h; rw [sortT_snoc, h]
  · rfl
theorem lev_snoc_len (l : List Ev) (e : Ev) : (lev (l ++ [e])).length = if place (levU l) e = (lev l).length then (lev l).length + 1 else (lev l).length := by
  rw [lev_len, levU_snoc, addL_len (place_le _ _), lev_len]

/-! the document's way: each event's level is one more than the greatest of those that it depends on -/
/-- at: the levels of the events so far -/
def high (l : List Ev) (at_ : List Nat) (e : Ev) : Nat := (l.zip at_).foldl (fun n p => if dep p.1 e then max n (p.2 + 1) else n) 0
def ats (l : List Ev) : List Nat := (l.foldl (fun (s : List Ev × List Nat) e => (s.1 ++ [e], s.2 ++ [high s.1 s.2 e])) ([], [])).2
theorem ats_pair (l : List Ev) : l.foldl (fun (s : List Ev × List Nat) e => (s.1 ++ [e], s.2 ++ [high s.1 s.2 e])) ([], []) = (l, ats l) := by
  refine snoc_ind (p := fun l => l.foldl (fun (s : List Ev × List Nat) e => (s.1 ++ [e], s.2 ++ [high s.1 s.2 e])) ([], []) = (l, ats l)) rfl (fun l e h => ?_) l
  unfold ats
  rw [List.foldl_append, h]
  rfl
theorem ats_snoc (l : List Ev) (e : Ev) : ats (l ++ [e]) = ats l ++ [high l (ats l) e] := by
  have h := ats_pair (l ++ [e])
  rw [List.foldl_append, ats_pair l] at h
  have := congrArg Prod.snd h
  exact this.symm
theorem ats_len (l : List Ev) : (ats l).length = l.length := snoc_ind (p := fun l => (ats l).length = l.length) rfl (fun l e h => by rw [ats_snoc]; simp [h]) l

theorem foldmax_le (q : List (Ev × Nat)) (e : Ev) : ∀ n m, (n ≤ m ∧ ∀ p ∈ q, dep p.1 e = true → p.2 + 1 ≤ m) → q.foldl (fun n p => if dep p.1 e then max n (p.2 + 1) else n) n ≤ m := by
  induction q with
  | nil => intro n m h; exact h.1
  | cons p q ih =>
    intro n m h
    rw [List.foldl_cons]
    refine ih _ m ⟨?_, fun r hr => h.2 r (List.mem_cons_of_mem _ hr)⟩
    split
    · rename_i hd; have := h.2 p List.mem_cons_self hd; omega
    · exact h.1
theorem foldmax_ge (q : List (Ev × Nat)) (e : Ev) : ∀ n, n ≤ q.foldl (fun n p => if dep p.1 e then max n (p.2 + 1) else n) n ∧ ∀ p ∈ q, dep p.1 e = true → p.2 + 1 ≤ q.foldl (fun n p => if dep p.1 e then max n (p.2 + 1) else n) n := by
  induction q with
  | nil => intro n; exact ⟨Nat.le_refl _, fun p h => by cases h⟩
  | cons p q ih =>
    intro n
    rw [List.foldl_cons]
    obtain ⟨h1, h2⟩ := ih (if dep p.1 e then max n (p.2 + 1) else n)
    refine ⟨Nat.le_trans ?_ h1, fun r hr hd => ?_⟩
    · split <;> omega
    · rcases List.mem_cons.1 hr with rfl | hr
      · refine Nat.le_trans ?_ h1
        rw [if_pos hd]; omega
      · exact h2 r hr hd

/-- who stands in a level -/
theorem mem_level (l : List Ev) : ∀ j x, x ∈ (levU l).getD j [] ↔ (x, j) ∈ l.zip (ats l) := by
  refine snoc_ind (p := fun l => ∀ j x, x ∈ (levU l).getD j [] ↔ (x, j) ∈ l.zip (ats l)) (fun j x => by simp [levU, ats]) (fun l e h j x => ?_) l
  have hpl : place (levU l) e = high l (ats l) e := by
    apply Nat.le_antisymm
    · by_cases h0 : place (levU l) e = 0
      · omega
      · obtain ⟨y, hy, hd⟩ := place_dep h0
        have := (foldmax_ge (l.zip (ats l)) e 0).2 (y, place (levU l) e - 1) ((h _ y).1 hy) hd
        unfold high
        simp only at this
        omega
    · refine foldmax_le _ e 0 _ ⟨Nat.zero_le _, fun p hp hd => ?_⟩
      rcases Nat.lt_or_ge p.2 (place (levU l) e) with h1 | h1
      · omega
      · have := place_free h1 p.1 ((h p.2 p.1).2 hp)
        rw [this] at hd
        cases hd
  rw [levU_snoc, addL_getD (place_le _ _), ats_snoc, List.zip_append (by rw [ats_len]), List.mem_append, ← hpl]
  simp only [List.zip_cons_cons, List.zip_nil_right, List.mem_singleton, Prod.mk.injEq]
  split
  · rename_i hj
    subst hj
    rw [List.mem_append, List.mem_singleton, h]
    simp
  · rename_i hj
    rw [h]
    simp [hj]
theorem place_high (l : List Ev) (e : Ev) : place (levU l) e = high l (ats l) e := by
  apply Nat.le_antisymm
  · by_cases h0 : place (levU l) e = 0
    · omega
    · obtain ⟨y, hy, hd⟩ := place_dep h0
      have := (foldmax_ge (l.zip (ats l)) e 0).2 (y, place (levU l) e - 1) ((mem_level l _ y).1 hy) hd
      unfold high
      simp only at this
      omega
  · refine foldmax_le _ e 0 _ ⟨Nat.zero_le _, fun p hp hd => ?_⟩
    rcases Nat.lt_or_ge p.2 (place (levU l) e) with h1 | h1
    · omega
    · have := place_free h1 p.1 ((mem_level l p.2 p.1).2 hp)
      rw [this] at hd
      cases hd
end Fo
end Go.Proofs.Ytgahjibjladafaa
