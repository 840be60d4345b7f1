/- Levels of events: plain theory, no program in sight. -/
import Derived.KernelRfl
namespace Go.Proofs.YtcaapoacmfjnmaaGreat
set_option linter.unusedVariables false

/-- an event -/
structure Ev where
  t : Int
  k : Int
  o : Int
  f : Bool
deriving DecidableEq

namespace Fo
def memK (e : Ev) : Bool := decide (e.k = 2) || decide (e.k = 3)
def mutK (e : Ev) : Bool := decide (e.k = 4) || decide (e.k = 5)
/-- the order of the two matters -/
def dep (a b : Ev) : Bool := decide (a.t = b.t) || (decide (a.o = b.o) && ((memK a && memK b && (decide (a.k = 3) || decide (b.k = 3))) || (mutK a && mutK b)))
theorem dep_comm (a b : Ev) : dep a b = dep b a := by
  unfold dep
  rw [show decide (a.t = b.t) = decide (b.t = a.t) from decide_eq_decide.2 ⟨Eq.symm, Eq.symm⟩, show decide (a.o = b.o) = decide (b.o = a.o) from decide_eq_decide.2 ⟨Eq.symm, Eq.symm⟩,
    Bool.and_comm (memK a), Bool.or_comm (decide (a.k = 3)), Bool.and_comm (mutK a)]
theorem dep_thread {a b : Ev} (h : a.t = b.t) : dep a b = true := by unfold dep; rw [decide_eq_true h, Bool.true_or]
/-- may it be? -/
def right (e : Ev) : Bool := decide (0 ≤ e.t ∧ e.t ≤ 3 ∧ 1 ≤ e.k ∧ e.k ≤ 5 ∧ 0 ≤ e.o ∧ e.o ≤ 3 ∧ (e.k = 1 → e.o = 0) ∧ (e.k ≠ 1 → e.f = false ∧ (e.k < 4 ∨ e.o < 2)))

/-! places and levels -/
def placeAt (L : List (List Ev)) (e : Ev) : Nat → Nat
  | 0 => 0
  | n + 1 => if (L.getD n []).any (fun x => dep x e) then n + 1 else placeAt L e n
def place (L : List (List Ev)) (e : Ev) : Nat := placeAt L e L.length
def addL (L : List (List Ev)) (n : Nat) (e : Ev) : List (List Ev) := if n < L.length then L.set n (L.getD n [] ++ [e]) else L ++ [[e]]
def levU (l : List Ev) : List (List Ev) := l.foldl (fun L e => addL L (place L e) e) []

theorem placeAt_le (L : List (List Ev)) (e : Ev) : ∀ n, placeAt L e n ≤ n
  | 0 => Nat.le_refl _
  | n + 1 => by unfold placeAt; split; exact Nat.le_refl _; exact Nat.le_succ_of_le (placeAt_le L e n)
theorem place_le (L : List (List Ev)) (e : Ev) : place L e ≤ L.length := placeAt_le L e _
theorem placeAt_free (L : List (List Ev)) (e : Ev) : ∀ n j, placeAt L e n ≤ j → j < n → (L.getD j []).any (fun x => dep x e) = false
  | 0, j, _, h => by omega
  | n + 1, j, h, hj => by
    unfold placeAt at h
    split at h
    · omega
    · rename_i hn
      rcases Nat.lt_or_ge j n with h1 | h1
      · exact placeAt_free L e n j h h1
      · rw [show j = n by omega]; simpa using hn
theorem place_free {L : List (List Ev)} {e : Ev} {j : Nat} (h : place L e ≤ j) (x : Ev) (hx : x ∈ L.getD j []) : dep x e = false := by
  rcases Nat.lt_or_ge j L.length with h1 | h1
  · have := placeAt_free L e L.length j h h1
    rw [List.any_eq_false] at this
    simpa using this x hx
  · rw [List.getD_eq_getElem?_getD, List.getElem?_eq_none h1] at hx; simp at hx
theorem placeAt_dep (L : List (List Ev)) (e : Ev) : ∀ n, placeAt L e n ≠ 0 → ∃ x ∈ L.getD (placeAt L e n - 1) [], dep x e = true
  | 0, h => (h rfl).elim
  | n + 1, h => by
    unfold placeAt at h ⊢
    split
    · rename_i hn
      obtain ⟨x, hx, hd⟩ := List.any_eq_true.1 hn
      exact ⟨x, by simpa using hx, hd⟩
    · rename_i hn
      rw [if_neg hn] at h
      exact placeAt_dep L e n h
theorem place_dep {L : List (List Ev)} {e : Ev} (h : place L e ≠ 0) : ∃ x ∈ L.getD (place L e - 1) [], dep x e = true := placeAt_dep L e _ h

theorem addL_getD {L : List (List Ev)} {n : Nat} (hn : n ≤ L.length) (e : Ev) (j : Nat) : (addL L n e).getD j [] = if j = n then L.getD n [] ++ [e] else L.getD j [] := by
  unfold addL
  simp only [List.getD_eq_getElem?_getD]
  by_cases h : n < L.length
  · rw [if_pos h]
    by_cases hj : j = n
    · subst hj; rw [if_pos rfl, List.getElem?_set_self h]; rfl
    · rw [if_neg hj, List.getElem?_set_ne (Ne.symm hj)]
  · rw [if_neg h]
    have hnl : n = L.length := by omega
    by_cases hj : j = n
    · subst hj
      rw [if_pos rfl, hnl, List.getElem?_append_right (Nat.le_refl _), List.getElem?_eq_none (Nat.le_refl _)]
      simp
    · rw [if_neg hj]
      rcases Nat.lt_or_ge j L.length with h1 | h1
      · rw [List.getElem?_append_left h1]
      · rw [List.getElem?_append_right h1, List.getElem?_eq_none h1, List.getElem?_eq_none (by simp; omega)]
theorem addL_len {L : List (List Ev)} {n : Nat} (hn : n ≤ L.length) (e : Ev) : (addL L n e).length = if n = L.length then L.length + 1 else L.length := by
  unfold addL
  by_cases h : n < L.length
  · rw [if_pos h, if_neg (by omega), List.length_set]
  · rw [if_neg h, if_pos (by omega)]; simp
theorem addL_flat {L : List (List Ev)} {n : Nat} (hn : n ≤ L.length) (e : Ev) : (addL L n e).flatten.Perm (e :: L.flatten) := by
  unfold addL
  by_cases h : n < L.length
  · rw [if_pos h]
    have gen : ∀ (L : List (List Ev)) n, n < L.length → (L.set n (L.getD n [] ++ [e])).flatten.Perm (e :: L.flatten) := by
      intro L
      induction L with
      | nil => intro n h; cases h
      | cons l L ih =>
        intro n h
        cases n with
        | zero =>
          simp only [List.set_cons_zero, List.flatten_cons, List.getD_cons_zero]
          rw [List.append_assoc]
          exact List.perm_middle
        | succ n =>
          simp only [List.set_cons_succ, List.flatten_cons, List.getD_cons_succ]
          exact ((ih n (by simpa using h)).append_left l).trans List.perm_middle
    exact gen L n h
  · rw [if_neg h]
    simp only [List.flatten_append, List.flatten_cons, List.flatten_nil, List.append_nil]
    exact List.perm_append_comm

/-! what levels are -/
structure Lev (L : List (List Ev)) : Prop where
  ne : ∀ j, j < L.length → L.getD j [] ≠ []
  apart : ∀ j, (L.getD j []).Pairwise (fun a b => dep a b = false)
  up : ∀ j e, e ∈ L.getD (j + 1) [] → ∃ x ∈ L.getD j [], dep x e = true
theorem Lev.nil : Lev [] := ⟨fun j h => (by cases h), fun j => (by simp), fun j e h => (by simp at h)⟩
theorem Lev.add {L : List (List Ev)} (h : Lev L) (e : Ev) : Lev (addL L (place L e) e) := by
  have hn := place_le L e
  refine ⟨fun j hj => ?_, fun j => ?_, fun j x hx => ?_⟩
  · rw [addL_getD hn]
    split
    · simp
    · rename_i hne
      rw [addL_len hn] at hj
      split at hj
      · exact h.ne j (by omega)
      · exact h.ne j hj
  · rw [addL_getD hn]
    split
    · rename_i hj
      refine List.pairwise_append.2 ⟨h.apart _, by simp, fun a ha b hb => ?_⟩
      rw [List.mem_singleton] at hb
      subst hb
      exact place_free (Nat.le_refl _) a ha
    · exact h.apart j
  · rw [addL_getD hn] at hx ⊢
    have hold : x ∈ L.getD (j + 1) [] → ∃ y ∈ (if j = place L e then L.getD (place L e) [] ++ [e] else L.getD j []), dep y x = true := fun hx => by
      obtain ⟨y, hy, hd⟩ := h.up j x hx
      refine ⟨y, ?_, hd⟩
      split
      · rename_i hj; rw [← hj]; exact List.mem_append_left _ hy
      · exact hy
    split at hx
    · rename_i hj
      rcases List.mem_append.1 hx with hx | hx
      · exact hold (hj ▸ hx)
      · rw [List.mem_singleton] at hx
        subst hx
        obtain ⟨y, hy, hd⟩ := place_dep (L := L) (e := x) (by omega)
        rw [← hj, Nat.add_sub_cancel] at hy
        exact ⟨y, by rw [if_neg (by omega)]; exact hy, hd⟩
    · exact hold hx

theorem levU_snoc (l : List Ev) (e : Ev) : levU (l ++ [e]) = addL (levU l) (place (levU l) e) e := by unfold levU; rw [List.foldl_append]; rfl
theorem snoc_ind {p : List Ev → Prop} (h0 : p []) (h1 : ∀ l e, p l → p (l ++ [e])) (l : List Ev) : p l := by
  have : ∀ n (l : List Ev), l.length = n → p l := by
    intro n
    induction n with
    | zero => intro l h; rw [List.eq_nil_of_length_eq_zero h]; exact h0
    | succ n ih =>
      intro l h
      have hne : l ≠ [] := by intro e; rw [e] at h; cases h
      have := h1 l.dropLast (l.getLast hne) (ih _ (by rw [List.length_dropLast]; omega))
      rwa [List.dropLast_concat_getLast] at this
  exact this _ l rfl
theorem levU_lev (l : List Ev) : Lev (levU l) := snoc_ind (p := fun l => Lev (levU l)) Lev.nil (fun l e h => by rw [levU_snoc]; exact h.add e) l
theorem levU_flat (l : List Ev) : (levU l).flatten.Perm l :=
  snoc_ind (p := fun l => (levU l).flatten.Perm l) (List.Perm.refl _) (fun l e h => by
    rw [levU_snoc]
    exact (addL_flat (place_le _ _) e).trans ((h.cons e).trans (by simpa using (List.perm_append_comm (l₁ := [e]) (l₂ := l))))) l

/-! in order of threads -/
def insT (e : Ev) : List Ev → List Ev
  | [] => [e]
  | x :: xs => if e.t < x.t then e :: x :: xs else x :: insT e xs
def sortT (l : List Ev) : List Ev := l.foldl (fun acc e => insT e acc) []
theorem insT_perm (e : Ev) : ∀ l, (insT e l).Perm (e :: l)
  | [] => List.Perm.refl _
  | x :: xs => by
    unfold insT
    split
    · exact List.Perm.refl _
    · exact ((insT_perm e xs).cons x).trans (List.Perm.swap _ _ _)
def SortedT (l : List Ev) : Prop := l.Pairwise (fun a b => a.t ≤ b.t)
theorem insT_sorted (e : Ev) : ∀ l, SortedT l → SortedT (insT e l)
  | [], _ => by simp [insT, SortedT]
  | x :: xs, h => by
    obtain ⟨h1, h2⟩ := List.pairwise_cons.1 h
    unfold insT
    split
    · rename_i hlt
      refine List.pairwise_cons.2 ⟨fun y hy => ?_, h⟩
      rcases List.mem_cons.1 hy with rfl | hy
      · omega
      · have := h1 y hy; omega
    · rename_i hlt
      refine List.pairwise_cons.2 ⟨fun y hy => ?_, insT_sorted e xs h2⟩
      rcases List.mem_cons.1 ((insT_perm e xs).mem_iff.1 hy) with rfl | hy
      · omega
      · exact h1 y hy
theorem sortT_snoc (l : List Ev) (e : Ev) : sortT (l ++ [e]) = insT e (sortT l) := by unfold sortT; rw [List.foldl_append]; rfl
theorem sortT_perm (l : List Ev) : (sortT l).Perm l :=
  snoc_ind (p := fun l => (sortT l).Perm l) (List.Perm.refl _) (fun l e h => by rw [sortT_snoc]; exact (insT_perm e _).trans ((h.cons e).trans (by simpa using (List.perm_append_comm (l₁ := [e]) (l₂ := l))))) l
theorem sortT_sorted (l : List Ev) : SortedT (sortT l) :=
  snoc_ind (p := fun l => SortedT (sortT l)) (by simp [sortT, SortedT]) (fun l e h => by rw [sortT_snoc]; exact insT_sorted e _ h) l
/-- no thread twice: a sorted order is the only one -/
theorem sorted_one {l r : List Ev} (hp : l.Perm r) (hl : SortedT l) (hr : SortedT r) (hd : l.Pairwise (fun a b => a.t ≠ b.t)) : l = r := by
  have hd' : ∀ a ∈ l, ∀ b ∈ l, a.t = b.t → a = b := by
    intro a ha b hb hab
    clear hp hl hr
    induction l with
    | nil => cases ha
    | cons x xs ih =>
      obtain ⟨h1, h2⟩ := List.pairwise_cons.1 hd
      rcases List.mem_cons.1 ha with ha' | ha' <;> rcases List.mem_cons.1 hb with hb' | hb'
      · rw [ha', hb']
      · subst ha'; exact (h1 b hb' hab).elim
      · subst hb'; exact (h1 a ha' hab.symm).elim
      · exact ih h2 ha' hb'
  exact List.Perm.eq_of_pairwise (le := fun a b : Ev => a.t ≤ b.t) (fun a b ha hb h1 h2 => hd' a ha b (hp.mem_iff.2 hb) (Int.le_antisymm h1 h2)) hl hr hp
theorem apart_threads {l : List Ev} (h : l.Pairwise (fun a b => dep a b = false)) : l.Pairwise (fun a b => a.t ≠ b.t) :=
  h.imp (fun {a b} hab e => by rw [dep_thread e] at hab; cases hab)

/-- the levels -/
def lev (l : List Ev) : List (List Ev) := (levU l).map sortT
theorem lev_len (l : List Ev) : (lev l).length = (levU l).length := by unfold lev; simp
theorem lev_getD (l : List Ev) (j : Nat) : (lev l).getD j [] = sortT ((levU l).getD j []) := by
  unfold lev
  simp only [List.getD_eq_getElem?_getD, List.getElem?_map]
  cases (levU l)[j]? <;> rfl
theorem lev_flat (l : List Ev) : (lev l).flatten.Perm l := by
  refine List.Perm.trans ?_ (levU_flat l)
  unfold lev
  induction levU l with
  | nil => exact List.Perm.refl _
  | cons x xs ih => simp only [List.map_cons, List.flatten_cons]; exact (sortT_perm x).append ih
theorem lev_apart (l : List Ev) (j : Nat) : ((lev l).getD j []).Pairwise (fun a b => dep a b = false) := by
  rw [lev_getD]
  exact ((sortT_perm _).pairwise_iff (fun {a b} h => by rw [dep_comm]; exact h)).2 ((levU_lev l).apart j)
theorem lev_lev (l : List Ev) : Lev (lev l) := by
  refine ⟨fun j hj h => ?_, lev_apart l, fun j e he => ?_⟩
  · rw [lev_getD] at h
    rw [lev_len] at hj
    have := (sortT_perm ((levU l).getD j [])).length_eq
    rw [h] at this
    exact (levU_lev l).ne j hj (List.eq_nil_of_length_eq_zero this.symm)
  · rw [lev_getD] at he ⊢
    obtain ⟨x, hx, hd⟩ := (levU_lev l).up j e ((sortT_perm _).mem_iff.1 he)
    exact ⟨x, (sortT_perm _).mem_iff.2 hx, hd⟩
theorem lev_sorted (l : List Ev) (j : Nat) : SortedT ((lev l).getD j []) := by rw [lev_getD]; exact sortT_sorted _
/-- what one event more does -/
theorem lev_snoc (l : List Ev) (e : Ev) (j : Nat) : (lev (l ++ [e])).getD j [] = if j = place (levU l) e then insT e ((lev l).getD j []) else (lev l).getD j [] := by
  rw [lev_getD, levU_snoc, addL_getD (place_le _ _), lev_getD]
  split
  · rename_i h; rw [sortT_snoc, h]
  · rfl
theorem lev_snoc_len (l : List Ev) (e : Ev) : (lev (l ++ [e])).length = if place (levU l) e = (lev l).length then (lev l).length + 1 else (lev l).length := by
  rw [lev_len, levU_snoc, addL_len (place_le _ _), lev_len]

/-! the document's way: each event's level is one more than the greatest of those that it depends on -/
/-- at: the levels of the events so far -/
def high (l : List Ev) (at_ : List Nat) (e : Ev) : Nat := (l.zip at_).foldl (fun n p => if dep p.1 e then max n (p.2 + 1) else n) 0
def ats (l : List Ev) : List Nat := (l.foldl (fun (s : List Ev × List Nat) e => (s.1 ++ [e], s.2 ++ [high s.1 s.2 e])) ([], [])).2
theorem ats_pair (l : List Ev) : l.foldl (fun (s : List Ev × List Nat) e => (s.1 ++ [e], s.2 ++ [high s.1 s.2 e])) ([], []) = (l, ats l) := by
  refine snoc_ind (p := fun l => l.foldl (fun (s : List Ev × List Nat) e => (s.1 ++ [e], s.2 ++ [high s.1 s.2 e])) ([], []) = (l, ats l)) rfl (fun l e h => ?_) l
  unfold ats
  rw [List.foldl_append, h]
  rfl
theorem ats_snoc (l : List Ev) (e : Ev) : ats (l ++ [e]) = ats l ++ [high l (ats l) e] := by
  have h := ats_pair (l ++ [e])
  rw [List.foldl_append, ats_pair l] at h
  have := congrArg Prod.snd h
  exact this.symm
theorem ats_len (l : List Ev) : (ats l).length = l.length := snoc_ind (p := fun l => (ats l).length = l.length) rfl (fun l e h => by rw [ats_snoc]; simp [h]) l

theorem foldmax_le (q : List (Ev × Nat)) (e : Ev) : ∀ n m, (n ≤ m ∧ ∀ p ∈ q, dep p.1 e = true → p.2 + 1 ≤ m) → q.foldl (fun n p => if dep p.1 e then max n (p.2 + 1) else n) n ≤ m := by
  induction q with
  | nil => intro n m h; exact h.1
  | cons p q ih =>
    intro n m h
    rw [List.foldl_cons]
    refine ih _ m ⟨?_, fun r hr => h.2 r (List.mem_cons_of_mem _ hr)⟩
    split
    · rename_i hd; have := h.2 p List.mem_cons_self hd; omega
    · exact h.1
theorem foldmax_ge (q : List (Ev × Nat)) (e : Ev) : ∀ n, n ≤ q.foldl (fun n p => if dep p.1 e then max n (p.2 + 1) else n) n ∧ ∀ p ∈ q, dep p.1 e = true → p.2 + 1 ≤ q.foldl (fun n p => if dep p.1 e then max n (p.2 + 1) else n) n := by
  induction q with
  | nil => intro n; exact ⟨Nat.le_refl _, fun p h => by cases h⟩
  | cons p q ih =>
    intro n
    rw [List.foldl_cons]
    obtain ⟨h1, h2⟩ := ih (if dep p.1 e then max n (p.2 + 1) else n)
    refine ⟨Nat.le_trans ?_ h1, fun r hr hd => ?_⟩
    · split <;> omega
    · rcases List.mem_cons.1 hr with rfl | hr
      · refine Nat.le_trans ?_ h1
        rw [if_pos hd]; omega
      · exact h2 r hr hd

/-- who stands in a level -/
theorem mem_level (l : List Ev) : ∀ j x, x ∈ (levU l).getD j [] ↔ (x, j) ∈ l.zip (ats l) := by
  refine snoc_ind (p := fun l => ∀ j x, x ∈ (levU l).getD j [] ↔ (x, j) ∈ l.zip (ats l)) (fun j x => by simp [levU, ats]) (fun l e h j x => ?_) l
  have hpl : place (levU l) e = high l (ats l) e := by
    apply Nat.le_antisymm
    · by_cases h0 : place (levU l) e = 0
      · omega
      · obtain ⟨y, hy, hd⟩ := place_dep h0
        have := (foldmax_ge (l.zip (ats l)) e 0).2 (y, place (levU l) e - 1) ((h _ y).1 hy) hd
        unfold high
        simp only at this
        omega
    · refine foldmax_le _ e 0 _ ⟨Nat.zero_le _, fun p hp hd => ?_⟩
      rcases Nat.lt_or_ge p.2 (place (levU l) e) with h1 | h1
      · omega
      · have := place_free h1 p.1 ((h p.2 p.1).2 hp)
        rw [this] at hd
        cases hd
  rw [levU_snoc, addL_getD (place_le _ _), ats_snoc, List.zip_append (by rw [ats_len]), List.mem_append, ← hpl]
  simp only [List.zip_cons_cons, List.zip_nil_right, List.mem_singleton, Prod.mk.injEq]
  split
  · rename_i hj
    subst hj
    rw [List.mem_append, List.mem_singleton, h]
    simp
  · rename_i hj
    rw [h]
    simp [hj]
theorem place_high (l : List Ev) (e : Ev) : place (levU l) e = high l (ats l) e := by
  apply Nat.le_antisymm
  · by_cases h0 : place (levU l) e = 0
    · omega
    · obtain ⟨y, hy, hd⟩ := place_dep h0
      have := (foldmax_ge (l.zip (ats l)) e 0).2 (y, place (levU l) e - 1) ((mem_level l _ y).1 hy) hd
      unfold high
      simp only at this
      omega
  · refine foldmax_le _ e 0 _ ⟨Nat.zero_le _, fun p hp hd => ?_⟩
    rcases Nat.lt_or_ge p.2 (place (levU l) e) with h1 | h1
    · omega
    · have := place_free h1 p.1 ((mem_level l p.2 p.1).2 hp)
      rw [this] at hd
      cases hd
end Fo
end Go.Proofs.YtcaapoacmfjnmaaGreat
/- Bytes of events and of levels: plain theory, no program in sight. -/
namespace Go.Proofs.YtcaapoacmfjnmaaGreat
namespace Fo
set_option linter.unusedVariables false

/-! an event's byte -/
def byteI (e : Ev) : Int := e.t + 4 * e.k + 32 * e.o + (if e.f then 128 else 0)
def byteU (e : Ev) : UInt8 := UInt8.ofNat (byteI e).toNat
def evOf (n : Nat) : Ev := ⟨(n % 4 : Nat), (n / 4 % 8 : Nat), (n / 32 % 4 : Nat), decide (128 ≤ n)⟩
theorem right_spec {e : Ev} (h : right e = true) : 0 ≤ e.t ∧ e.t ≤ 3 ∧ 1 ≤ e.k ∧ e.k ≤ 5 ∧ 0 ≤ e.o ∧ e.o ≤ 3 ∧ (e.k = 1 → e.o = 0) ∧ (e.k ≠ 1 → e.f = false ∧ (e.k < 4 ∨ e.o < 2)) := by
  exact of_decide_eq_true h
theorem byteI_lt {e : Ev} (h : right e = true) : 0 ≤ byteI e ∧ byteI e < 256 := by
  obtain ⟨h1, h2, h3, h4, h5, h6, h7, h8⟩ := right_spec h
  unfold byteI
  cases hf : e.f with
  | false => simp; omega
  | true =>
    have hk : e.k = 1 := Classical.byContradiction fun hk => by have := (h8 hk).1; rw [hf] at this; cases this
    have := h7 hk
    simp; omega
theorem byteU_toNat {e : Ev} (h : right e = true) : ((byteU e).toNat : Int) = byteI e := by
  obtain ⟨h1, h2⟩ := byteI_lt h
  unfold byteU
  rw [UInt8.toNat_ofNat']
  omega
theorem evOf_byte {e : Ev} (h : right e = true) : evOf (byteU e).toNat = e := by
  have hb := byteU_toNat h
  obtain ⟨h1, h2, h3, h4, h5, h6, h7, h8⟩ := right_spec h
  obtain ⟨t, k, o, f⟩ := e
  generalize (byteU ⟨t, k, o, f⟩).toNat = n at hb
  unfold byteI at hb
  simp only at *
  cases f with
  | false =>
    simp only [Bool.false_eq_true, if_false, Int.add_zero] at hb
    unfold evOf
    simp only [Ev.mk.injEq]
    refine ⟨by omega, by omega, by omega, by simp; omega⟩
  | true =>
    have hk : k = 1 := Classical.byContradiction fun hk => by have := (h8 hk).1; cases this
    have ho := h7 hk
    simp only [if_true] at hb
    unfold evOf
    simp only [Ev.mk.injEq]
    refine ⟨by omega, by omega, by omega, by simp; omega⟩
theorem byte_evOf {n : Nat} (h : n < 256) (hr : right (evOf n) = true) : (byteU (evOf n)).toNat = n := by
  have hb := byteU_toNat hr
  have : byteI (evOf n) = n := by
    obtain ⟨h1, h2, h3, h4, h5, h6, h7, h8⟩ := right_spec hr
    unfold byteI evOf
    unfold evOf at h8 h7
    simp only at *
    by_cases hf : 128 ≤ n
    · simp only [decide_eq_true hf, if_true]
      omega
    · simp only [decide_eq_false hf, Bool.false_eq_true, if_false]
      omega
  omega

/-! rows -/
def rights (l : List Ev) : Bool := l.all right
def evs (bs : List UInt8) : Option (List Ev) := if rights (bs.map fun b => evOf b.toNat) = true then some (bs.map fun b => evOf b.toNat) else none
def bytes (l : List Ev) : List UInt8 := l.map byteU
theorem evs_bytes {l : List Ev} (h : rights l = true) : evs (bytes l) = some l := by
  have e : (bytes l).map (fun b => evOf b.toNat) = l := by
    unfold bytes rights at *
    rw [List.map_map]
    conv => rhs; rw [← List.map_id l]
    refine List.map_congr_left (fun x hx => ?_)
    exact evOf_byte (List.all_eq_true.1 h x hx)
  unfold evs
  rw [e, if_pos h]
theorem bytes_evs {bs : List UInt8} {l : List Ev} (h : evs bs = some l) : bytes l = bs ∧ rights l = true := by
  unfold evs at h
  split at h
  · rename_i hr
    injection h with h
    subst h
    refine ⟨?_, hr⟩
    unfold bytes
    rw [List.map_map]
    conv => rhs; rw [← List.map_id bs]
    refine List.map_congr_left (fun b hb => ?_)
    have h1 : right (evOf b.toNat) = true := by
      unfold rights at hr
      rw [List.all_map, List.all_eq_true] at hr
      exact hr b hb
    have := byte_evOf (UInt8.toNat_lt b) h1
    exact UInt8.toNat_inj.1 (by simpa using this)
  · cases h

/-! levels -/
/-- are they a row's levels? -/
def okL (L : List (List Ev)) : Bool := decide (L.flatten.length ≤ 200) && rights L.flatten && decide (lev L.flatten = L)
def enc (L : List (List Ev)) : List UInt8 := L.flatMap (fun l => UInt8.ofNat l.length :: bytes l) ++ [0]
/-- what is written of levels -/
def printL (L : List (List Ev)) : List UInt8 := if okL L = true then enc L else []
/-- may the row be told? -/
def okRow (l : List Ev) : Bool := decide (l.length ≤ 200) && rights l
/-- what the levels of a row are said to be -/
def levR (l : List Ev) : List (List Ev) := if okRow l = true then lev l else []
def key (l : List Ev) : List UInt8 := if okRow l = true then printL (lev l) else []

theorem nodup_sub : ∀ (l m : List Nat), l.Nodup → (∀ x ∈ l, x ∈ m) → l.length ≤ m.length
  | [], _, _, _ => Nat.zero_le _
  | a :: l, m, h, hs => by
    obtain ⟨h1, h2⟩ := List.nodup_cons.1 h
    have ha := hs a List.mem_cons_self
    have := nodup_sub l (m.erase a) h2 (fun x hx => (List.mem_erase_of_ne (fun e : x = a => h1 (by rw [← e]; exact hx))).2 (hs x (List.mem_cons_of_mem _ hx)))
    rw [List.length_erase_of_mem ha] at this
    have := List.length_pos_of_mem ha
    simp only [List.length_cons]
    omega
theorem lev_small {l : List Ev} (h : rights l = true) (j : Nat) : ((lev l).getD j []).length ≤ 4 := by
  have ha := apart_threads (lev_apart l j)
  have hm : ∀ x ∈ (lev l).getD j [], 0 ≤ x.t ∧ x.t ≤ 3 := fun x hx => by
    have hx' : x ∈ l := (lev_flat l).mem_iff.1 (by
      rw [List.getD_eq_getElem?_getD] at hx
      cases hj : (lev l)[j]? with
      | none => rw [hj] at hx; simp at hx
      | some q => rw [hj] at hx; exact List.mem_flatten.2 ⟨q, List.mem_of_getElem? hj, hx⟩)
    have := right_spec (List.all_eq_true.1 h x hx')
    exact ⟨this.1, this.2.1⟩
  generalize (lev l).getD j [] = q at ha hm
  have hs : (q.map fun x => x.t.toNat).Nodup := by
    rw [List.Nodup, List.pairwise_map]
    refine ha.imp_of_mem (fun {a b} ha hb hne e => hne ?_)
    have h1 := hm a ha
    have h2 := hm b hb
    omega
  have hsub : ∀ n ∈ (q.map fun x => x.t.toNat), n ∈ List.range 4 := fun n hn => by
    obtain ⟨x, hx, rfl⟩ := List.mem_map.1 hn
    have := hm x hx
    simp; omega
  have := nodup_sub _ _ hs hsub
  simpa using this
theorem okL_spec {L : List (List Ev)} (h : okL L = true) : L.flatten.length ≤ 200 ∧ rights L.flatten = true ∧ lev L.flatten = L := by
  unfold okL at h
  simp only [Bool.and_eq_true, decide_eq_true_eq] at h
  exact ⟨h.1.1, h.1.2, h.2⟩
theorem okL_mem {L : List (List Ev)} (h : okL L = true) {l : List Ev} (hl : l ∈ L) : 0 < l.length ∧ l.length ≤ 4 ∧ rights l = true := by
  obtain ⟨h1, h2, h3⟩ := okL_spec h
  obtain ⟨j, hj, rfl⟩ := List.getElem_of_mem hl
  have e : L[j] = (lev L.flatten).getD j [] := by rw [h3, List.getD_eq_getElem?_getD, List.getElem?_eq_getElem hj]; rfl
  refine ⟨?_, by rw [e]; exact lev_small h2 j, ?_⟩
  · have := (lev_lev L.flatten).ne j (by rw [h3]; exact hj)
    rw [← e] at this
    exact List.length_pos_iff.2 this
  · unfold rights at h2 ⊢
    rw [List.all_eq_true] at h2 ⊢
    exact fun x hx => h2 x (List.mem_flatten.2 ⟨_, hl, hx⟩)

/-- reading as far as it goes -/
def parse : Nat → List UInt8 → Option (List (List Ev))
  | 0, _ => some []
  | k + 1, [] => some []
  | k + 1, b :: r => if b = 0 then some [] else if r.length < b.toNat then none else (evs (r.take b.toNat)).bind fun l => (parse k (r.drop b.toNat)).map (l :: ·)
def readL (s : List UInt8) : Option (List (List Ev)) := (parse s.length s).bind fun L => if s ≠ [] ∧ printL L = s then some L else none

theorem enc_cons (l : List Ev) (L : List (List Ev)) : enc (l :: L) = UInt8.ofNat l.length :: (bytes l ++ enc L) := by unfold enc; simp
theorem enc_len (L : List (List Ev)) : L.length < (enc L).length := by
  induction L with
  | nil => simp [enc]
  | cons l L ih => rw [enc_cons]; simp; omega
theorem parse_enc : ∀ (L : List (List Ev)), (∀ l ∈ L, 0 < l.length ∧ l.length ≤ 4 ∧ rights l = true) → ∀ k, L.length < k → parse k (enc L) = some L
  | [], _, k, hk => by
    obtain ⟨k, rfl⟩ : ∃ m, k = m + 1 := ⟨k - 1, by omega⟩
    rfl
  | l :: L, h, k, hk => by
    obtain ⟨k, rfl⟩ : ∃ m, k = m + 1 := ⟨k - 1, by omega⟩
    obtain ⟨h1, h2, h3⟩ := h l List.mem_cons_self
    have hn : (UInt8.ofNat l.length).toNat = l.length := by rw [UInt8.toNat_ofNat']; omega
    have h0 : ¬ UInt8.ofNat l.length = 0 := fun e => by rw [e] at hn; simp at hn; omega
    have hb : (bytes l).length = l.length := by unfold bytes; simp
    rw [enc_cons]
    unfold parse
    rw [if_neg h0, hn, if_neg (by simp [hb]), ← hb, List.take_left, List.drop_left, evs_bytes h3, parse_enc L (fun l hl => h l (List.mem_cons_of_mem _ hl)) k (by simp at hk; omega)]
    rfl
theorem parse_more : ∀ (k : Nat) (s : List UInt8), s.length ≤ k → parse k s = parse s.length s := by
  intro k
  induction k with
  | zero => intro s h; obtain rfl : s = [] := List.eq_nil_of_length_eq_zero (by omega); rfl
  | succ k ih =>
    intro s h
    cases s with
    | nil => rfl
    | cons b r =>
      simp only [List.length_cons] at h ⊢
      unfold parse
      have hd : (r.drop b.toNat).length ≤ r.length := by simp
      rw [ih (r.drop b.toNat) (by omega)]
      congr 3
      funext l
      congr 1
      have gen : ∀ (m : Nat) (q : List UInt8), q.length ≤ m → m ≤ k → parse m q = parse q.length q := by
        intro m q h1 h2
        rw [← ih q (by omega)]
        have up : ∀ (m : Nat) (q : List UInt8), q.length ≤ m → parse (m + 1) q = parse m q := by
          intro m
          induction m with
          | zero => intro q h; obtain rfl : q = [] := List.eq_nil_of_length_eq_zero (by omega); rfl
          | succ m ihm =>
            intro q h
            cases q with
            | nil => rfl
            | cons b r =>
              simp only [List.length_cons] at h
              rw [parse, parse, ihm _ (by simp; omega)]
        have go : ∀ d, parse (m + d) q = parse m q := by
          intro d
          induction d with
          | zero => rfl
          | succ d ihd => rw [← Nat.add_assoc, up _ _ (by omega), ihd]
        rw [← go (k - m)]
        congr 1
        omega
      exact (gen r.length _ hd (by omega)).symm
/-- what was written is read -/
theorem readL_enc {L : List (List Ev)} (h : okL L = true) : readL (enc L) = some L := by
  unfold readL
  rw [parse_enc L (fun l hl => okL_mem h hl) _ (enc_len L), Option.bind_some, if_pos]
  refine ⟨fun e => ?_, by unfold printL; rw [if_pos h]⟩
  have := enc_len L
  rw [e] at this
  simp at this
theorem readL_spec {s : List UInt8} {L : List (List Ev)} (h : readL s = some L) : okL L = true ∧ enc L = s := by
  unfold readL at h
  cases hp : parse s.length s with
  | none => rw [hp] at h; cases h
  | some L' =>
    rw [hp, Option.bind_some] at h
    split at h
    · rename_i hc
      injection h with h
      subst h
      unfold printL at hc
      split at hc
      · rename_i ho; exact ⟨ho, hc.2⟩
      · exact (hc.1 hc.2.symm).elim
    · cases h
theorem enc_inj {L M : List (List Ev)} (h : okL L = true) (h' : okL M = true) (e : enc L = enc M) : L = M := by
  have h1 := readL_enc h
  rw [e, readL_enc h'] at h1
  injection h1 with h1
  exact h1.symm
end Fo
end Go.Proofs.YtcaapoacmfjnmaaGreat
/- Rows that are the same but for an order that doesn't matter: plain theory, no program in sight. -/
namespace Go.Proofs.YtcaapoacmfjnmaaGreat
namespace Fo
set_option linter.unusedVariables false

/-- the same, but for an order that doesn't matter -/
inductive Eqv : List Ev → List Ev → Prop
  | refl (l) : Eqv l l
  | symm {l m} : Eqv l m → Eqv m l
  | trans {l m n} : Eqv l m → Eqv m n → Eqv l n
  | swap (l r : List Ev) (x y : Ev) : dep x y = false → Eqv (l ++ x :: y :: r) (l ++ y :: x :: r)

theorem Eqv.ctx {l m : List Ev} (h : Eqv l m) (p s : List Ev) : Eqv (p ++ l ++ s) (p ++ m ++ s) := by
  induction h with
  | refl l => exact .refl _
  | symm _ ih => exact .symm ih
  | trans _ _ ih1 ih2 => exact .trans ih1 ih2
  | swap l r x y h =>
    have := Eqv.swap (p ++ l) (r ++ s) x y h
    simpa using this
theorem Eqv.left {l m : List Ev} (h : Eqv l m) (p : List Ev) : Eqv (p ++ l) (p ++ m) := by simpa using h.ctx p []
theorem Eqv.right {l m : List Ev} (h : Eqv l m) (s : List Ev) : Eqv (l ++ s) (m ++ s) := by simpa using h.ctx [] s
theorem Eqv.perm {l m : List Ev} (h : Eqv l m) : l.Perm m := by
  induction h with
  | refl l => exact .refl _
  | symm _ ih => exact .symm ih
  | trans _ _ ih1 ih2 => exact .trans ih1 ih2
  | swap l r x y h => exact (List.Perm.swap _ _ _).append_left l
/-- over all that it doesn't depend on -/
theorem Eqv.over (e : Ev) : ∀ q : List Ev, (∀ x ∈ q, dep x e = false) → Eqv (q ++ [e]) (e :: q)
  | [], _ => .refl _
  | x :: q, h => by
    have h1 := (Eqv.over e q (fun y hy => h y (List.mem_cons_of_mem _ hy))).left [x]
    have h2 := Eqv.swap [] q x e (h x List.mem_cons_self)
    exact .trans (by simpa using h1) (by simpa using h2)
/-- what is apart may stand in any order -/
theorem Eqv.of_perm {l m : List Ev} (hp : l.Perm m) : l.Pairwise (fun a b => dep a b = false) → Eqv l m := by
  induction hp with
  | nil => intro _; exact .refl _
  | cons x _ ih => intro h; have := (ih (List.pairwise_cons.1 h).2).left [x]; simpa using this
  | swap x y l => intro h; have := Eqv.swap [] l y x ((List.pairwise_cons.1 h).1 x List.mem_cons_self); simpa using this
  | trans p1 _ ih1 ih2 => intro h; exact .trans (ih1 h) (ih2 ((p1.pairwise_iff (fun {a b} h => by rw [dep_comm]; exact h)).1 h))

/-! E2: a row is the same as the row of its levels -/
theorem flat_addL {L : List (List Ev)} {n : Nat} (hn : n ≤ L.length) (e : Ev) : (addL L n e).flatten = (L.take (n + 1)).flatten ++ e :: (L.drop (n + 1)).flatten := by
  unfold addL
  by_cases h : n < L.length
  · rw [if_pos h]
    have gen : ∀ (L : List (List Ev)) n, n < L.length → (L.set n (L.getD n [] ++ [e])).flatten = (L.take (n + 1)).flatten ++ e :: (L.drop (n + 1)).flatten := by
      intro L
      induction L with
      | nil => intro n h; cases h
      | cons l L ih =>
        intro n h
        cases n with
        | zero => simp
        | succ n =>
          have := ih n (by simpa using h)
          simp only [List.set_cons_succ, List.flatten_cons, List.getD_cons_succ, List.take_succ_cons, List.drop_succ_cons]
          rw [this, List.append_assoc]
    exact gen L n h
  · rw [if_neg h, List.take_of_length_le (by omega), List.drop_of_length_le (by omega)]
    simp
theorem mem_drop_level {L : List (List Ev)} {n : Nat} {x : Ev} (h : x ∈ (L.drop n).flatten) : ∃ j, n ≤ j ∧ x ∈ L.getD j [] := by
  obtain ⟨q, hq, hx⟩ := List.mem_flatten.1 h
  obtain ⟨i, hi⟩ := List.getElem?_of_mem hq
  rw [List.getElem?_drop] at hi
  exact ⟨n + i, by omega, by rw [List.getD_eq_getElem?_getD, hi]; exact hx⟩
theorem eqv_levU (l : List Ev) : Eqv l (levU l).flatten :=
  snoc_ind (p := fun l => Eqv l (levU l).flatten) (.refl _) (fun l e h => by
    rw [levU_snoc, flat_addL (place_le _ _)]
    refine .trans (h.right [e]) ?_
    have hs : (levU l).flatten = ((levU l).take (place (levU l) e + 1)).flatten ++ ((levU l).drop (place (levU l) e + 1)).flatten := by rw [← List.flatten_append, List.take_append_drop]
    rw [hs, List.append_assoc]
    refine Eqv.left (Eqv.over e _ (fun x hx => ?_)) _
    obtain ⟨j, hj, hx⟩ := mem_drop_level hx
    exact place_free (by omega) x hx) l
theorem eqv_map_sort : ∀ (L : List (List Ev)), (∀ q ∈ L, q.Pairwise (fun a b => dep a b = false)) → Eqv L.flatten (L.map sortT).flatten
  | [], _ => .refl _
  | q :: L, h => by
    have h1 := (Eqv.of_perm (sortT_perm q).symm (h q List.mem_cons_self)).right L.flatten
    have h2 := (eqv_map_sort L (fun q hq => h q (List.mem_cons_of_mem _ hq))).left (sortT q)
    simpa using h1.trans h2
theorem eqv_lev (l : List Ev) : Eqv l (lev l).flatten :=
  (eqv_levU l).trans (eqv_map_sort _ (fun q hq => by
    obtain ⟨j, hj⟩ := List.getElem?_of_mem hq
    have := (levU_lev l).apart j
    rwa [List.getD_eq_getElem?_getD, hj] at this))

/-! E1: what is the same has the same levels -/
/-- levels, but for an order within them -/
def Lik (L M : List (List Ev)) : Prop := L.length = M.length ∧ ∀ j, (L.getD j []).Perm (M.getD j [])
theorem Lik.refl (L : List (List Ev)) : Lik L L := ⟨rfl, fun _ => .refl _⟩
theorem Lik.symm {L M : List (List Ev)} (h : Lik L M) : Lik M L := ⟨h.1.symm, fun j => (h.2 j).symm⟩
theorem Lik.trans {L M N : List (List Ev)} (h : Lik L M) (k : Lik M N) : Lik L N := ⟨h.1.trans k.1, fun j => (h.2 j).trans (k.2 j)⟩
theorem Lik.placeAt {L M : List (List Ev)} (h : Lik L M) (e : Ev) : ∀ n, placeAt L e n = placeAt M e n
  | 0 => rfl
  | n + 1 => by
    unfold Fo.placeAt
    have : (L.getD n []).any (fun x => dep x e) = (M.getD n []).any (fun x => dep x e) := by
      rw [Bool.eq_iff_iff, List.any_eq_true, List.any_eq_true]
      exact ⟨fun ⟨x, hx, hd⟩ => ⟨x, (h.2 n).mem_iff.1 hx, hd⟩, fun ⟨x, hx, hd⟩ => ⟨x, (h.2 n).mem_iff.2 hx, hd⟩⟩
    rw [this, h.placeAt e n]
theorem Lik.place {L M : List (List Ev)} (h : Lik L M) (e : Ev) : place L e = place M e := by unfold Fo.place; rw [h.1, h.placeAt]
theorem Lik.add {L M : List (List Ev)} (h : Lik L M) {n : Nat} (hn : n ≤ L.length) (e : Ev) : Lik (addL L n e) (addL M n e) := by
  refine ⟨by rw [addL_len hn, addL_len (by rw [← h.1]; exact hn), h.1], fun j => ?_⟩
  rw [addL_getD hn, addL_getD (by rw [← h.1]; exact hn)]
  split
  · exact (h.2 n).append_right [e]
  · exact h.2 j
def grow (L : List (List Ev)) (l : List Ev) : List (List Ev) := l.foldl (fun L e => addL L (place L e) e) L
theorem Lik.grow {L M : List (List Ev)} (h : Lik L M) : ∀ l, Lik (grow L l) (grow M l) := by
  intro l
  induction l generalizing L M with
  | nil => exact h
  | cons e l ih =>
    unfold Fo.grow
    rw [List.foldl_cons, List.foldl_cons]
    refine ih ?_
    rw [← h.place e]
    exact h.add (place_le _ _) e
/-- the least place from which on nothing is depended on -/
theorem place_unique {L : List (List Ev)} {e : Ev} {n : Nat} (h1 : ∀ j x, n ≤ j → x ∈ L.getD j [] → dep x e = false) (h2 : n ≠ 0 → ∃ x ∈ L.getD (n - 1) [], dep x e = true) : place L e = n := by
  apply Nat.le_antisymm
  · rcases Nat.lt_or_ge n (place L e) with h | h
    · obtain ⟨x, hx, hd⟩ := place_dep (L := L) (e := e) (by omega)
      rw [h1 _ x (by omega) hx] at hd
      cases hd
    · exact h
  · rcases Nat.lt_or_ge (place L e) n with h | h
    · obtain ⟨x, hx, hd⟩ := h2 (by omega)
      rw [place_free (by omega) x hx] at hd
      cases hd
    · exact h
theorem place_add {L : List (List Ev)} {n : Nat} (hn : n ≤ L.length) {x y : Ev} (h : dep x y = false) : place (addL L n x) y = place L y := by
  refine place_unique (fun j z hj hz => ?_) (fun h0 => ?_)
  · rw [addL_getD hn] at hz
    split at hz
    · rename_i e
      rcases List.mem_append.1 hz with hz | hz
      · exact place_free (e ▸ hj) z hz
      · rw [List.mem_singleton] at hz; subst hz; exact h
    · exact place_free hj z hz
  · obtain ⟨z, hz, hd⟩ := place_dep h0
    refine ⟨z, ?_, hd⟩
    rw [addL_getD hn]
    split
    · rename_i e; rw [← e]; exact List.mem_append_left _ hz
    · exact hz
theorem swap_lik (L : List (List Ev)) {x y : Ev} (h : dep x y = false) : Lik (grow L [x, y]) (grow L [y, x]) := by
  have hx := place_le L x
  have hy := place_le L y
  have h' : dep y x = false := by rw [dep_comm]; exact h
  have e1 : grow L [x, y] = addL (addL L (place L x) x) (place L y) y := by unfold grow; simp only [List.foldl_cons, List.foldl_nil]; rw [place_add hx h]
  have e2 : grow L [y, x] = addL (addL L (place L y) y) (place L x) x := by unfold grow; simp only [List.foldl_cons, List.foldl_nil]; rw [place_add hy h']
  rw [e1, e2]
  have l1 : place L y ≤ (addL L (place L x) x).length := by rw [addL_len hx]; split <;> omega
  have l2 : place L x ≤ (addL L (place L y) y).length := by rw [addL_len hy]; split <;> omega
  refine ⟨?_, fun j => ?_⟩
  · rw [addL_len l1, addL_len l2, addL_len hx, addL_len hy]
    by_cases a : place L x = L.length <;> by_cases b : place L y = L.length <;> simp [a, b] <;> omega
  · rw [addL_getD l1, addL_getD l2, addL_getD hx, addL_getD hy, addL_getD hx, addL_getD hy]
    by_cases a : j = place L x <;> by_cases b : j = place L y
    · subst a
      rw [if_pos b, if_pos rfl, if_pos b.symm, if_pos b]
      simp only [List.append_assoc]
      rw [← b]
      exact List.perm_append_comm.append_left _
    · subst a
      rw [if_neg b, if_pos rfl, if_pos rfl, if_neg b]
    · subst b
      rw [if_pos rfl, if_neg a, if_neg a, if_pos rfl]
    · rw [if_neg b, if_neg a, if_neg a, if_neg b]
theorem levU_append (l m : List Ev) : levU (l ++ m) = grow (levU l) m := by unfold levU grow; rw [List.foldl_append]
theorem eqv_lik {l m : List Ev} (h : Eqv l m) : Lik (levU l) (levU m) := by
  induction h with
  | refl l => exact .refl _
  | symm _ ih => exact ih.symm
  | trans _ _ ih1 ih2 => exact ih1.trans ih2
  | swap l r x y h =>
    have e1 : l ++ x :: y :: r = (l ++ [x, y]) ++ r := by simp
    have e2 : l ++ y :: x :: r = (l ++ [y, x]) ++ r := by simp
    rw [e1, e2, levU_append (l ++ [x, y]), levU_append (l ++ [y, x]), levU_append l, levU_append l]
    exact (swap_lik (levU l) h).grow r
theorem ext_getD {α : Type} {L M : List α} (d : α) (h1 : L.length = M.length) (h2 : ∀ j, L.getD j d = M.getD j d) : L = M := by
  apply List.ext_getElem h1
  intro j hj hj'
  have := h2 j
  rw [List.getD_eq_getElem?_getD, List.getD_eq_getElem?_getD, List.getElem?_eq_getElem hj, List.getElem?_eq_getElem hj'] at this
  exact this
theorem lik_lev {l m : List Ev} (h : Lik (levU l) (levU m)) : lev l = lev m := by
  refine ext_getD [] (by rw [lev_len, lev_len]; exact h.1) (fun j => ?_)
  have hp : ((lev l).getD j []).Perm ((lev m).getD j []) := by
    rw [lev_getD, lev_getD]
    exact (sortT_perm _).trans ((h.2 j).trans (sortT_perm _).symm)
  exact sorted_one hp (lev_sorted l j) (lev_sorted m j) (apart_threads (lev_apart l j))
theorem eqv_same_lev {l m : List Ev} (h : Eqv l m) : lev l = lev m := lik_lev (eqv_lik h)
theorem lev_again (l : List Ev) : lev (lev l).flatten = lev l := (eqv_same_lev (eqv_lev l)).symm
theorem lev_eqv {l m : List Ev} (h : lev l = lev m) : Eqv l m := (eqv_lev l).trans (h ▸ (eqv_lev m).symm)
theorem rights_perm {l m : List Ev} (h : l.Perm m) : rights l = rights m := by
  unfold rights
  rw [Bool.eq_iff_iff, List.all_eq_true, List.all_eq_true]
  exact ⟨fun g x hx => g x (h.mem_iff.2 hx), fun g x hx => g x (h.mem_iff.1 hx)⟩
theorem okL_lev {l : List Ev} (h : okRow l = true) : okL (lev l) = true := by
  unfold okRow at h
  simp only [Bool.and_eq_true, decide_eq_true_eq] at h
  unfold okL
  rw [lev_again, (lev_flat l).length_eq, rights_perm (lev_flat l)]
  simp [h.1, h.2]
theorem key_enc {l : List Ev} (h : okRow l = true) : key l = enc (lev l) := by unfold key printL; rw [if_pos h, if_pos (okL_lev h)]
theorem key_iff {l m : List Ev} (h : okRow l = true) (h' : okRow m = true) : key l = key m ↔ Eqv l m := by
  rw [key_enc h, key_enc h']
  exact ⟨fun e => lev_eqv (enc_inj (okL_lev h) (okL_lev h') e), fun e => by rw [eqv_same_lev e]⟩
end Fo
end Go.Proofs.YtcaapoacmfjnmaaGreat
/- Clocks: what an event knows of; rows are the same just if all events know the same. Plain theory, no program in sight. -/
namespace Go.Proofs.YtcaapoacmfjnmaaGreat
namespace Fo
set_option linter.unusedVariables false

/-- the greatest of some -/
def sup {α : Type} (q : List α) (p : α → Bool) (f : α → Nat) : Nat := q.foldl (fun n x => if p x then max n (f x) else n) 0
theorem sup_aux {α : Type} (q : List α) (p : α → Bool) (f : α → Nat) : ∀ n, n ≤ q.foldl (fun n x => if p x then max n (f x) else n) n ∧ (∀ x ∈ q, p x = true → f x ≤ q.foldl (fun n x => if p x then max n (f x) else n) n) ∧
    ∀ m, n ≤ m → (∀ x ∈ q, p x = true → f x ≤ m) → q.foldl (fun n x => if p x then max n (f x) else n) n ≤ m := by
  induction q with
  | nil => intro n; exact ⟨Nat.le_refl _, fun x h => (by cases h), fun m h _ => h⟩
  | cons x q ih =>
    intro n
    rw [List.foldl_cons]
    obtain ⟨h1, h2, h3⟩ := ih (if p x then max n (f x) else n)
    refine ⟨Nat.le_trans (by split <;> omega) h1, fun y hy hp => ?_, fun m hm hq => h3 m ?_ (fun y hy => hq y (List.mem_cons_of_mem _ hy))⟩
    · rcases List.mem_cons.1 hy with rfl | hy
      · rw [if_pos hp] at h1 ⊢; exact Nat.le_trans (by omega) h1
      · exact h2 y hy hp
    · split
      · rename_i hp; have := hq x List.mem_cons_self hp; omega
      · exact hm
theorem sup_ge {α : Type} {q : List α} {p : α → Bool} {f : α → Nat} {x : α} (hx : x ∈ q) (hp : p x = true) : f x ≤ sup q p f := (sup_aux q p f 0).2.1 x hx hp
theorem sup_le {α : Type} {q : List α} {p : α → Bool} {f : α → Nat} {m : Nat} (h : ∀ x ∈ q, p x = true → f x ≤ m) : sup q p f ≤ m := (sup_aux q p f 0).2.2 m (Nat.zero_le _) h
theorem sup_pos {α : Type} {q : List α} {p : α → Bool} {f : α → Nat} (h : 0 < sup q p f) : ∃ x ∈ q, p x = true ∧ f x = sup q p f := by
  refine Classical.byContradiction fun hc => ?_
  have : sup q p f ≤ sup q p f - 1 := sup_le (fun x hx hp => by
    have h1 := sup_ge (f := f) hx hp
    have h2 : f x ≠ sup q p f := fun e => hc ⟨x, hx, hp, e⟩
    omega)
  omega
theorem sup_perm {α : Type} {q r : List α} {p : α → Bool} {f : α → Nat} (h : q.Perm r) : sup q p f = sup r p f :=
  Nat.le_antisymm (sup_le fun x hx hp => sup_ge (h.mem_iff.1 hx) hp) (sup_le fun x hx hp => sup_ge (h.mem_iff.2 hx) hp)
theorem sup_snoc {α : Type} (q : List α) (x : α) (p : α → Bool) (f : α → Nat) : sup (q ++ [x]) p f = if p x then max (sup q p f) (f x) else sup q p f := by unfold sup; rw [List.foldl_append]; rfl
theorem sup_congr {α : Type} {q : List α} {p p' : α → Bool} {f f' : α → Nat} (h : ∀ x ∈ q, p x = p' x ∧ (p x = true → f x = f' x)) : sup q p f = sup q p' f' :=
  Nat.le_antisymm (sup_le fun x hx hp => by rw [(h x hx).2 hp]; exact sup_ge hx (by rw [← (h x hx).1]; exact hp))
    (sup_le fun x hx hp => by have := (h x hx).1; rw [hp] at this; rw [← (h x hx).2 this]; exact sup_ge hx this)

/-- an event and its clock -/
structure Ent where
  e : Ev
  c : Nat → Nat
/-- which one of its thread's it is -/
def Ent.num (p : Ent) : Nat := p.c p.e.t.toNat
/-- what a next event knows of -/
def clk (S : List Ent) (e : Ev) : Nat → Nat := fun t => sup S (fun p => dep p.e e) (fun p => p.c t) + if t = e.t.toNat then 1 else 0
def ents_ (S : List Ent) (l : List Ev) : List Ent := l.foldl (fun S e => S ++ [⟨e, clk S e⟩]) S
def cl (l : List Ev) : List Ent := ents_ [] l
theorem cl_snoc (l : List Ev) (e : Ev) : cl (l ++ [e]) = cl l ++ [⟨e, clk (cl l) e⟩] := by unfold cl ents_; rw [List.foldl_append]; rfl
theorem cl_append (l m : List Ev) : cl (l ++ m) = ents_ (cl l) m := by unfold cl ents_; rw [List.foldl_append]
theorem cl_len (l : List Ev) : (cl l).length = l.length := snoc_ind (p := fun l => (cl l).length = l.length) rfl (fun l e h => by rw [cl_snoc]; simp [h]) l
theorem cl_ev (l : List Ev) : (cl l).map Ent.e = l := snoc_ind (p := fun l => (cl l).map Ent.e = l) rfl (fun l e h => by rw [cl_snoc]; simp [h]) l
theorem clk_perm {S T : List Ent} (h : S.Perm T) (e : Ev) : clk S e = clk T e := by unfold clk; funext t; rw [sup_perm h]
theorem clk_skip (S : List Ent) (p : Ent) (e : Ev) (h : dep p.e e = false) : clk (S ++ [p]) e = clk S e := by
  unfold clk
  funext t
  rw [sup_snoc, h]
  rfl
theorem ents_perm {S T : List Ent} (h : S.Perm T) : ∀ l, (ents_ S l).Perm (ents_ T l) := by
  intro l
  induction l generalizing S T with
  | nil => exact h
  | cons e l ih =>
    unfold ents_
    rw [List.foldl_cons, List.foldl_cons]
    refine ih ?_
    rw [clk_perm h]
    exact h.append_right _
/-- E3 -/
theorem eqv_cl {l m : List Ev} (h : Eqv l m) : (cl l).Perm (cl m) := by
  induction h with
  | refl l => exact .refl _
  | symm _ ih => exact ih.symm
  | trans _ _ ih1 ih2 => exact ih1.trans ih2
  | swap l r x y h =>
    have h' : dep y x = false := by rw [dep_comm]; exact h
    have e1 : l ++ x :: y :: r = (l ++ [x, y]) ++ r := by simp
    have e2 : l ++ y :: x :: r = (l ++ [y, x]) ++ r := by simp
    rw [e1, e2, cl_append (l ++ [x, y]), cl_append (l ++ [y, x])]
    refine ents_perm ?_ r
    have f1 : cl (l ++ [x, y]) = cl l ++ [⟨x, clk (cl l) x⟩] ++ [⟨y, clk (cl l) y⟩] := by
      rw [show l ++ [x, y] = (l ++ [x]) ++ [y] by simp, cl_snoc, cl_snoc, clk_skip _ _ _ h]
    have f2 : cl (l ++ [y, x]) = cl l ++ [⟨y, clk (cl l) y⟩] ++ [⟨x, clk (cl l) x⟩] := by
      rw [show l ++ [y, x] = (l ++ [y]) ++ [x] by simp, cl_snoc, cl_snoc, clk_skip _ _ _ h']
    rw [f1, f2, List.append_assoc, List.append_assoc]
    exact (List.Perm.swap _ _ _).append_left _

/-! what clocks say -/
/-- how many of a thread -/
def cnt_ (l : List Ev) (t : Nat) : Nat := (l.filter fun e => decide (e.t.toNat = t)).length
theorem cnt_snoc (l : List Ev) (e : Ev) (t : Nat) : cnt_ (l ++ [e]) t = cnt_ l t + if e.t.toNat = t then 1 else 0 := by
  unfold cnt_
  rw [List.filter_append, List.length_append]
  congr 1
  by_cases h : e.t.toNat = t <;> simp [h]

/-- the facts about the clocks of a row -/
structure ClkOk (l : List Ev) : Prop where
  /-- no clock counts more of a thread than there are -/
  le : ∀ p ∈ cl l, ∀ t, p.c t ≤ cnt_ l t
  /-- the thread's last one counts all -/
  last : ∀ t, 0 < cnt_ l t → ∃ p ∈ cl l, p.e.t.toNat = t ∧ p.num = cnt_ l t
  /-- a thread's event is told by its number -/
  one : (cl l).Pairwise (fun p q => ¬ (p.e.t = q.e.t ∧ p.num = q.num))
  /-- what is known by one that is known is known; what is known that isn't it stands ahead, with less -/
  closed : ∀ p ∈ cl l, ∀ t n, 0 < n → n ≤ p.c t → ∃ q ∈ cl l, q.e.t.toNat = t ∧ q.num = n ∧ ∀ u, q.c u ≤ p.c u
  pos : ∀ p ∈ cl l, 0 < p.num

theorem dep_same {a b : Ev} (ha : 0 ≤ a.t) (hb : 0 ≤ b.t) (h : a.t.toNat = b.t.toNat) : dep a b = true := dep_thread (by omega)

theorem clkOk (l : List Ev) (hr : ∀ e ∈ l, 0 ≤ e.t) : ClkOk l := by
  revert hr
  refine snoc_ind (p := fun l => (∀ e ∈ l, 0 ≤ e.t) → ClkOk l) (fun _ => ⟨fun p h => (by cases h), fun t h => (by simp [cnt_] at h), List.Pairwise.nil, fun p h => (by cases h), fun p h => (by cases h)⟩) (fun l e ih hr => ?_) l
  have h := ih (fun x hx => hr x (by simp [hx]))
  have he := hr e (by simp)
  have hev : ∀ p ∈ cl l, p.e ∈ l := fun p hp => by
    have : p.e ∈ (cl l).map Ent.e := List.mem_map.2 ⟨p, hp, rfl⟩
    rwa [cl_ev] at this
  -- the new event's own number
  have hown : clk (cl l) e e.t.toNat = cnt_ l e.t.toNat + 1 := by
    unfold clk
    rw [if_pos rfl]
    congr 1
    apply Nat.le_antisymm
    · exact sup_le (fun p hp _ => h.le p hp _)
    · rcases Nat.eq_zero_or_pos (cnt_ l e.t.toNat) with h0 | h0
      · omega
      · obtain ⟨p, hp, h1, h2⟩ := h.last _ h0
        have hd : dep p.e e = true := dep_same (hr _ (by simp [hev p hp])) he h1
        have := sup_ge (q := cl l) (p := fun p => dep p.e e) (f := fun p => p.c e.t.toNat) hp hd
        unfold Ent.num at h2
        rw [h1] at h2
        omega
  have hother : ∀ t, t ≠ e.t.toNat → clk (cl l) e t = sup (cl l) (fun p => dep p.e e) (fun p => p.c t) := fun t ht => by unfold clk; rw [if_neg ht, Nat.add_zero]
  have hge : ∀ q ∈ cl l, dep q.e e = true → ∀ u, q.c u ≤ clk (cl l) e u := fun q hq hd u => by
    have := sup_ge (q := cl l) (p := fun p => dep p.e e) (f := fun p => p.c u) hq hd
    unfold clk
    omega
  refine ⟨fun p hp t => ?_, fun t ht => ?_, ?_, fun p hp t n hn hnp => ?_, fun p hp => ?_⟩
  · rw [cl_snoc] at hp
    rw [cnt_snoc]
    rcases List.mem_append.1 hp with hp | hp
    · have := h.le p hp t; omega
    · rw [List.mem_singleton] at hp
      subst hp
      simp only
      by_cases ht : t = e.t.toNat
      · subst ht; rw [hown, if_pos rfl]; omega
      · rw [hother t ht]
        have : sup (cl l) (fun p => dep p.e e) (fun p => p.c t) ≤ cnt_ l t := sup_le (fun p hp _ => h.le p hp t)
        omega
  · rw [cnt_snoc] at ht ⊢
    rw [cl_snoc]
    by_cases hte : e.t.toNat = t
    · rw [if_pos hte]
      exact ⟨⟨e, clk (cl l) e⟩, by simp, hte, by unfold Ent.num; simp only; rw [hown, hte]⟩
    · rw [if_neg hte] at ht ⊢
      obtain ⟨p, hp, h1, h2⟩ := h.last t (by omega)
      exact ⟨p, List.mem_append_left _ hp, h1, by omega⟩
  · rw [cl_snoc]
    refine List.pairwise_append.2 ⟨h.one, by simp, fun p hp q hq => ?_⟩
    rw [List.mem_singleton] at hq
    subst hq
    rintro ⟨h1, h2⟩
    have h3 := h.le p hp p.e.t.toNat
    unfold Ent.num at h2
    simp only at h2 h1
    rw [hown, h1] at h2
    rw [h1] at h3
    omega
  · rw [cl_snoc] at hp ⊢
    rcases List.mem_append.1 hp with hp | hp
    · obtain ⟨q, hq, h1, h2, h3⟩ := h.closed p hp t n hn hnp
      exact ⟨q, List.mem_append_left _ hq, h1, h2, h3⟩
    · rw [List.mem_singleton] at hp
      subst hp
      simp only at hnp
      by_cases hlast : t = e.t.toNat ∧ n = cnt_ l t + 1
      · obtain ⟨rfl, rfl⟩ := hlast
        exact ⟨⟨e, clk (cl l) e⟩, by simp, rfl, by unfold Ent.num; simp only; exact hown, fun u => Nat.le_refl _⟩
      · have hns : n ≤ sup (cl l) (fun p => dep p.e e) (fun p => p.c t) := by
          by_cases ht : t = e.t.toNat
          · have : n ≤ cnt_ l t := by
              rw [ht, hown] at hnp
              have : ¬ n = cnt_ l t + 1 := fun e1 => hlast ⟨ht, e1⟩
              rw [← ht] at hnp
              omega
            have h4 : clk (cl l) e t = sup (cl l) (fun p => dep p.e e) (fun p => p.c t) + 1 := by unfold clk; rw [if_pos ht]
            rw [ht, hown] at h4
            rw [← ht] at h4
            omega
          · rw [hother t ht] at hnp; exact hnp
        obtain ⟨p, hp, hd, hpe⟩ := sup_pos (show 0 < sup (cl l) (fun p => dep p.e e) (fun p => p.c t) by omega)
        obtain ⟨q, hq, h1, h2, h3⟩ := h.closed p hp t n hn (by omega)
        exact ⟨q, List.mem_append_left _ hq, h1, h2, fun u => Nat.le_trans (h3 u) (hge p hp hd u)⟩
  · rw [cl_snoc] at hp
    rcases List.mem_append.1 hp with hp | hp
    · exact h.pos p hp
    · rw [List.mem_singleton] at hp
      subst hp
      unfold Ent.num
      simp only
      rw [hown]
      omega
end Fo
end Go.Proofs.YtcaapoacmfjnmaaGreat
/- Rows in which all events know the same have the same levels. Plain theory, no program in sight. -/
namespace Go.Proofs.YtcaapoacmfjnmaaGreat
namespace Fo
set_option linter.unusedVariables false

/-- events, their clocks, their levels -/
def zl (l : List Ev) : List (Ent × Nat) := (cl l).zip (ats l)
theorem zl_snoc (l : List Ev) (e : Ev) : zl (l ++ [e]) = zl l ++ [(⟨e, clk (cl l) e⟩, high l (ats l) e)] := by
  unfold zl
  rw [cl_snoc, ats_snoc, List.zip_append (by rw [cl_len, ats_len])]
  rfl
theorem zl_cl (l : List Ev) : (zl l).map Prod.fst = cl l := by unfold zl; rw [List.map_fst_zip]; rw [cl_len, ats_len]; exact Nat.le_refl _
theorem zl_mem {l : List Ev} {p : Ent} {n : Nat} (h : (p, n) ∈ zl l) : p ∈ cl l := by rw [← zl_cl]; exact List.mem_map.2 ⟨_, h, rfl⟩
theorem zl_ex {l : List Ev} {p : Ent} (h : p ∈ cl l) : ∃ n, (p, n) ∈ zl l := by
  rw [← zl_cl] at h
  obtain ⟨⟨q, n⟩, hq, rfl⟩ := List.mem_map.1 h
  exact ⟨n, hq⟩
theorem zl_ev (l : List Ev) : l.zip (ats l) = (zl l).map fun p => (p.1.e, p.2) := by
  unfold zl
  conv => lhs; rw [← cl_ev l, cl_ev l]
  have : ∀ (S : List Ent) (A : List Nat), (S.map Ent.e).zip A = (S.zip A).map fun p => (p.1.e, p.2) := by
    intro S
    induction S with
    | nil => intro A; rfl
    | cons p S ih => intro A; cases A with
      | nil => rfl
      | cons n A => simp [ih]
  rw [← this, cl_ev]
theorem high_sup (l : List Ev) (e : Ev) : high l (ats l) e = sup (zl l) (fun p => dep p.1.e e) (fun p => p.2 + 1) := by
  unfold high
  rw [zl_ev, List.foldl_map]
  rfl
/-- a point stands once -/
theorem pairwise_eq {α : Type} {R : α → α → Prop} {l : List α} (h : l.Pairwise R) (hs : ∀ a b, R a b → R b a) {a b : α} (ha : a ∈ l) (hb : b ∈ l) (hn : ¬ R a b) : a = b := by
  induction l with
  | nil => cases ha
  | cons x l ih =>
    obtain ⟨h1, h2⟩ := List.pairwise_cons.1 h
    rcases List.mem_cons.1 ha with ha' | ha' <;> rcases List.mem_cons.1 hb with hb' | hb'
    · rw [ha', hb']
    · subst ha'; exact (hn (h1 b hb')).elim
    · subst hb'; exact (hn (hs _ _ (h1 a ha'))).elim
    · exact ih h2 ha' hb'
def Pt (p q : Ent) : Prop := p.e.t = q.e.t ∧ p.num = q.num
theorem cl_one {l : List Ev} (hr : ∀ e ∈ l, 0 ≤ e.t) {p q : Ent} (hp : p ∈ cl l) (hq : q ∈ cl l) (h : Pt p q) : p = q :=
  pairwise_eq (clkOk l hr).one (fun a b hab h => hab ⟨h.1.symm, h.2.symm⟩) hp hq (fun hn => hn h)
theorem zl_one {l : List Ev} (hr : ∀ e ∈ l, 0 ≤ e.t) {p q : Ent × Nat} (hp : p ∈ zl l) (hq : q ∈ zl l) (h : Pt p.1 q.1) : p = q := by
  have h1 := (clkOk l hr).one
  rw [← zl_cl, List.pairwise_map] at h1
  exact pairwise_eq h1 (fun a b hab h => hab ⟨h.1.symm, h.2.symm⟩) hp hq (fun hn => hn h)
theorem cl_t {l : List Ev} (hr : ∀ e ∈ l, 0 ≤ e.t) {p : Ent} (hp : p ∈ cl l) : 0 ≤ p.e.t := by
  have : p.e ∈ (cl l).map Ent.e := List.mem_map.2 ⟨p, hp, rfl⟩
  rw [cl_ev] at this
  exact hr _ this
/-- known, and not itself: it stands lower -/
theorem zl_low (l : List Ev) (hr : ∀ e ∈ l, 0 ≤ e.t) : ∀ p ∈ zl l, ∀ q ∈ zl l, p.1.num ≤ q.1.c p.1.e.t.toNat → ¬ Pt p.1 q.1 → p.2 < q.2 := by
  revert hr
  refine snoc_ind (p := fun l => (∀ e ∈ l, 0 ≤ e.t) → ∀ p ∈ zl l, ∀ q ∈ zl l, p.1.num ≤ q.1.c p.1.e.t.toNat → ¬ Pt p.1 q.1 → p.2 < q.2) (fun _ p hp => (by cases hp)) (fun l e ih hr p hp q hq hpq hne => ?_) l
  have hr' : ∀ x ∈ l, 0 ≤ x.t := fun x hx => hr x (by simp [hx])
  have ok := clkOk l hr'
  have ok2 := clkOk (l ++ [e]) hr
  have ih := ih hr'
  rw [zl_snoc] at hp hq
  have pin : p.1 ∈ cl (l ++ [e]) := by rw [← zl_cl, zl_snoc]; exact List.mem_map.2 ⟨p, hp, rfl⟩
  rcases List.mem_append.1 hq with hq | hq
  · rcases List.mem_append.1 hp with hp | hp
    · exact ih p hp q hq hpq hne
    · -- the last one is known by none ahead of it
      rw [List.mem_singleton] at hp
      subst hp
      exfalso
      have h1 := ok.le q.1 (zl_mem hq) e.t.toNat
      simp only at hpq
      have hl := ok2.last e.t.toNat (by rw [cnt_snoc, if_pos rfl]; omega)
      obtain ⟨r, hr1, hr2, hr3⟩ := hl
      rw [cnt_snoc, if_pos rfl] at hr3
      rw [cl_snoc] at hr1
      rcases List.mem_append.1 hr1 with hr1 | hr1
      · have := ok.le r hr1 e.t.toNat
        unfold Ent.num at hr3
        rw [hr2] at hr3
        omega
      · rw [List.mem_singleton] at hr1
        rw [← hr1] at hpq
        have he : r.e.t.toNat = e.t.toNat := hr2
        omega
  · rw [List.mem_singleton] at hq
    subst hq
    simp only at hpq ⊢
    rcases List.mem_append.1 hp with hp | hp
    · have h1 : p.1.num ≤ sup (cl l) (fun r => dep r.e e) (fun r => r.c p.1.e.t.toNat) := by
        unfold clk at hpq
        by_cases ht : p.1.e.t.toNat = e.t.toNat
        · rw [if_pos ht] at hpq
          have h2 := ok.le p.1 (zl_mem hp) p.1.e.t.toNat
          have h3 : p.1.num ≤ cnt_ l p.1.e.t.toNat := h2
          obtain ⟨r, hr1, hr2, hr3⟩ := ok.last p.1.e.t.toNat (by have := ok.pos p.1 (zl_mem hp); omega)
          have hd : dep r.e e = true := dep_same (cl_t hr' hr1) (hr e (by simp)) (hr2.trans ht)
          have := sup_ge (q := cl l) (p := fun r => dep r.e e) (f := fun r => r.c p.1.e.t.toNat) hr1 hd
          unfold Ent.num at hr3
          rw [hr2] at hr3
          omega
        · rw [if_neg ht] at hpq; omega
      have h0 := ok.pos p.1 (zl_mem hp)
      obtain ⟨r, hr1, hd, hre⟩ := sup_pos (show 0 < sup (cl l) (fun r => dep r.e e) (fun r => r.c p.1.e.t.toNat) by omega)
      obtain ⟨n, hn⟩ := zl_ex hr1
      have hh : n + 1 ≤ high l (ats l) e := by
        rw [high_sup]
        exact sup_ge (q := zl l) (p := fun p => dep p.1.e e) (f := fun p => p.2 + 1) (x := (r, n)) hn hd
      by_cases hpr : Pt p.1 r
      · have := zl_one hr' hp hn hpr
        subst this
        exact hh
      · have := ih p hp (r, n) hn (by simp only; omega) hpr
        simp only at this
        omega
    · rw [List.mem_singleton] at hp
      subst hp
      exact (hne ⟨rfl, rfl⟩).elim
/-- what stands higher knows of one just below -/
theorem zl_up (l : List Ev) (hr : ∀ e ∈ l, 0 ≤ e.t) : ∀ q ∈ zl l, q.2 ≠ 0 → ∃ p ∈ zl l, p.1.num ≤ q.1.c p.1.e.t.toNat ∧ ¬ Pt p.1 q.1 ∧ p.2 + 1 = q.2 := by
  revert hr
  refine snoc_ind (p := fun l => (∀ e ∈ l, 0 ≤ e.t) → ∀ q ∈ zl l, q.2 ≠ 0 → ∃ p ∈ zl l, p.1.num ≤ q.1.c p.1.e.t.toNat ∧ ¬ Pt p.1 q.1 ∧ p.2 + 1 = q.2) (fun _ q hq => (by cases hq)) (fun l e ih hr q hq h0 => ?_) l
  have hr' : ∀ x ∈ l, 0 ≤ x.t := fun x hx => hr x (by simp [hx])
  have ok2 := clkOk (l ++ [e]) hr
  have hzz := zl_snoc l e
  rw [zl_snoc] at hq
  rcases List.mem_append.1 hq with hq | hq
  · obtain ⟨p, hp, h1, h2, h3⟩ := ih hr' q hq h0
    exact ⟨p, by rw [zl_snoc]; exact List.mem_append_left _ hp, h1, h2, h3⟩
  · rw [List.mem_singleton] at hq
    subst hq
    simp only at h0 ⊢
    rw [high_sup] at h0 ⊢
    obtain ⟨p, hp, hd, hpe⟩ := sup_pos (Nat.pos_of_ne_zero h0)
    refine ⟨p, by rw [zl_snoc]; exact List.mem_append_left _ hp, ?_, ?_, hpe⟩
    · have := sup_ge (q := cl l) (p := fun r => dep r.e e) (f := fun r => r.c p.1.e.t.toNat) (zl_mem hp) hd
      unfold clk
      unfold Ent.num
      omega
    · intro hpt
      -- the last one isn't among those ahead
      have hone := ok2.one
      rw [cl_snoc] at hone
      exact (List.pairwise_append.1 hone).2.2 p.1 (zl_mem hp) _ (List.mem_singleton.2 rfl) hpt

theorem zl_sub {a b : List Ev} (ha : ∀ e ∈ a, 0 ≤ e.t) (hb : ∀ e ∈ b, 0 ≤ e.t) (h : ∀ p, p ∈ cl a ↔ p ∈ cl b) : ∀ n p, (p, n) ∈ zl a → (p, n) ∈ zl b := by
  intro n
  induction n using Nat.strongRecOn with
  | ind n ih =>
    intro p hp
    obtain ⟨m, hm⟩ := zl_ex ((h p).1 (zl_mem hp))
    have h1 : m ≤ n := by
      by_cases h0 : m = 0
      · omega
      · obtain ⟨q, hq, g1, g2, g3⟩ := zl_up b hb (p, m) hm h0
        obtain ⟨k, hk⟩ := zl_ex ((h q.1).2 (zl_mem (p := q.1) (n := q.2) hq))
        have hkn := zl_low a ha (q.1, k) hk (p, n) hp g1 g2
        simp only at hkn g3
        have := zl_one hb (ih k hkn q.1 hk) hq ⟨rfl, rfl⟩
        have : k = q.2 := congrArg Prod.snd this
        omega
    have h2 : n ≤ m := by
      by_cases h0 : n = 0
      · omega
      · obtain ⟨q, hq, g1, g2, g3⟩ := zl_up a ha (p, n) hp h0
        simp only at g3
        have hq' := ih q.2 (by omega) q.1 hq
        have := zl_low b hb (q.1, q.2) hq' (p, m) hm g1 g2
        simp only at this
        omega
    rw [show n = m by omega]
    exact hm

theorem levels_same {a b : List Ev} (ha : ∀ e ∈ a, 0 ≤ e.t) (hb : ∀ e ∈ b, 0 ≤ e.t) (h : ∀ p, p ∈ cl a ↔ p ∈ cl b) : lev a = lev b := by
  have hz : ∀ x : Ent × Nat, x ∈ zl a ↔ x ∈ zl b := fun x => ⟨zl_sub ha hb h x.2 x.1, zl_sub hb ha (fun p => (h p).symm) x.2 x.1⟩
  have hm : ∀ j x, x ∈ (levU a).getD j [] ↔ x ∈ (levU b).getD j [] := fun j x => by
    rw [mem_level, mem_level, zl_ev, zl_ev, List.mem_map, List.mem_map]
    exact ⟨fun ⟨p, hp, e⟩ => ⟨p, (hz p).1 hp, e⟩, fun ⟨p, hp, e⟩ => ⟨p, (hz p).2 hp, e⟩⟩
  have hnd : ∀ (l : List Ev) j, ((levU l).getD j []).Nodup := fun l j => (apart_threads ((levU_lev l).apart j)).imp (fun {a b} h e => h (by rw [e]))
  have hlen : ∀ (a b : List Ev), (∀ j x, x ∈ (levU a).getD j [] ↔ x ∈ (levU b).getD j []) → (levU a).length ≤ (levU b).length := fun a b hm => by
    rcases Nat.lt_or_ge (levU b).length (levU a).length with hlt | hge
    · have hne := (levU_lev a).ne (levU b).length hlt
      obtain ⟨x, hx⟩ := List.exists_mem_of_ne_nil _ hne
      have := (hm _ x).1 hx
      rw [List.getD_eq_getElem?_getD, List.getElem?_eq_none (Nat.le_refl _)] at this
      simp at this
    · exact hge
  exact lik_lev ⟨Nat.le_antisymm (hlen a b hm) (hlen b a (fun j x => (hm j x).symm)), fun j => (List.perm_ext_iff_of_nodup (hnd a j) (hnd b j)).2 (hm j)⟩

/-- what the clocks' test says -/
def SameC (a b : List Ev) : Prop := a.length = b.length ∧ ∀ p ∈ cl a, p ∈ cl b
theorem sameC_iff {a b : List Ev} (ha : ∀ e ∈ a, 0 ≤ e.t) (hb : ∀ e ∈ b, 0 ≤ e.t) : SameC a b ↔ lev a = lev b := by
  constructor
  · rintro ⟨h1, h2⟩
    refine levels_same ha hb (fun p => ⟨h2 p, fun hp => ?_⟩)
    -- as many points: so each one of b's is one of a's
    have key : ∀ (l : List Ev), (∀ e ∈ l, 0 ≤ e.t) → ((cl l).map fun p => (p.e.t, p.num)).Nodup := fun l hl => by
      rw [List.Nodup, List.pairwise_map]
      exact (clkOk l hl).one.imp (fun {a b} h e => h ⟨congrArg Prod.fst e, congrArg Prod.snd e⟩)
    have all : ∀ (l m : List (Int × Nat)), l.Nodup → (∀ x ∈ l, x ∈ m) → m.length ≤ l.length → ∀ x ∈ m, x ∈ l := by
      intro l
      induction l with
      | nil => intro m _ _ hl x hx; rw [List.eq_nil_of_length_eq_zero (show m.length = 0 by simpa using hl)] at hx; exact hx
      | cons y l ih =>
        intro m hn hs hl x hx
        obtain ⟨n1, n2⟩ := List.nodup_cons.1 hn
        by_cases hxy : x = y
        · rw [hxy]; exact List.mem_cons_self
        · have hy := hs y List.mem_cons_self
          refine List.mem_cons_of_mem _ (ih (m.erase y) n2 (fun z hz => (List.mem_erase_of_ne (fun e : z = y => n1 (by rw [← e]; exact hz))).2 (hs z (List.mem_cons_of_mem _ hz))) ?_ x ((List.mem_erase_of_ne hxy).2 hx))
          rw [List.length_erase_of_mem hy]
          simp only [List.length_cons] at hl
          omega
    have hx := all _ _ (key a ha) (fun x hx => by
      obtain ⟨q, hq, rfl⟩ := List.mem_map.1 hx
      exact List.mem_map.2 ⟨q, h2 q hq, rfl⟩) (by rw [List.length_map, List.length_map, cl_len, cl_len, h1]; exact Nat.le_refl _) (p.e.t, p.num) (List.mem_map.2 ⟨p, hp, rfl⟩)
    obtain ⟨q, hq, e⟩ := List.mem_map.1 hx
    have := cl_one hb (h2 q hq) hp ⟨congrArg Prod.fst e, congrArg Prod.snd e⟩
    rw [← this]
    exact hq
  · intro h
    have hp := eqv_cl (lev_eqv h)
    exact ⟨(lev_eqv h).perm.length_eq, fun p hp' => hp.mem_iff.1 hp'⟩
end Fo
end Go.Proofs.YtcaapoacmfjnmaaGreat
/- Plain laws behind FoataTells, FoataApart and FoataMore. No program in sight. -/
namespace Go.Proofs.YtcaapoacmfjnmaaGreat
set_option linter.unusedVariables false
namespace Fo

theorem get_getD {L : List (List Ev)} {i : Nat} (hi : i < L.length) : L.getD i [] = L[i] := by simp [List.getD_eq_getElem?_getD, List.getElem?_eq_getElem hi]
theorem apart_no {l : List Ev} {i : Nat} (hi : i < (lev l).length) {j k : Nat} (hjk : j < k) (hk : k < (lev l)[i].length) : dep ((lev l)[i][j]'(by omega)) (lev l)[i][k] = false := by
  have := lev_apart l i
  rw [get_getD hi] at this
  exact List.pairwise_iff_getElem.1 this j k (by omega) hk hjk
theorem apart_up {l : List Ev} {i : Nat} (hi : i + 1 < (lev l).length) {e : Ev} (he : e ∈ (lev l)[i + 1]) : ((lev l)[i]'(by omega)).any (fun x => dep x e) = true := by
  obtain ⟨x, hx, hd⟩ := (lev_lev l).up i e (by rw [get_getD hi]; exact he)
  rw [get_getD (show i < (lev l).length by omega)] at hx
  exact List.any_eq_true.2 ⟨x, hx, hd⟩

/-! one event more -/
theorem more_len (l : List Ev) (e : Ev) : ((lev (l ++ [e])).length = (lev l).length ∨ (lev (l ++ [e])).length = (lev l).length + 1) ∧ place (levU l) e < (lev (l ++ [e])).length := by
  have h := place_le (levU l) e
  rw [← lev_len] at h
  rw [lev_snoc_len]
  split
  · exact ⟨.inr rfl, by omega⟩
  · exact ⟨.inl rfl, by omega⟩
theorem more_at (l : List Ev) (e : Ev) {i : Nat} (hi : i < (lev (l ++ [e])).length) : (lev (l ++ [e]))[i] = if i = place (levU l) e then insT e ((lev l).getD i []) else (lev l).getD i [] := by
  rw [← get_getD hi, lev_snoc]
theorem insT_len (e : Ev) (q : List Ev) : (insT e q).length = q.length + 1 := by rw [(insT_perm e q).length_eq]; rfl
theorem insT_filter {e : Ev} : ∀ {q : List Ev}, e ∉ q → (insT e q).filter (fun x => decide (x ≠ e)) = q
  | [], _ => by simp [insT]
  | y :: q, h => by
    have hy : y ≠ e := fun he => h (by rw [he]; exact List.mem_cons_self)
    have hq : e ∉ q := fun hm => h (List.mem_cons_of_mem _ hm)
    have hf : (y :: q).filter (fun x => decide (x ≠ e)) = y :: q := List.filter_eq_self.2 (fun x hx => by
      rw [decide_eq_true_eq]
      rintro rfl
      exact h hx)
    unfold insT
    split
    · rw [List.filter_cons, if_neg (by simp), hf]
    · rw [List.filter_cons, if_pos (by simpa using hy), insT_filter hq]
theorem more_fresh (l : List Ev) (e : Ev) : e ∉ (lev l).getD (place (levU l) e) [] := fun h => by
  rw [lev_getD] at h
  have := place_free (Nat.le_refl _) e ((sortT_perm _).mem_iff.1 h)
  rw [dep_thread rfl] at this
  cases this

/-! what is read of a key -/
theorem key_none {l : List Ev} (h : okRow l = false) : key l = [] := by unfold key; rw [if_neg (by rw [h]; decide)]
theorem key_read {l : List Ev} (h : okRow l = true) : key l ≠ [] ∧ readL (key l) = some (lev l) ∧ printL (lev l) = key l := by
  have hk := okL_lev h
  rw [key_enc h]
  refine ⟨fun he => ?_, readL_enc hk, by unfold printL; rw [if_pos hk]⟩
  have := congrArg List.length he
  unfold enc at this
  simp at this
end Fo
end Go.Proofs.YtcaapoacmfjnmaaGreat
