/- Part 2 of the proof of seqExact_holds: what it rests on. -/
import Derived.Test.YtckdofjpoajblaaGreatZa1
namespace Go.Proofs.YtckdofjpoajblaaGreat
set_option linter.unusedVariables false
structure Ev where
  t : Int
  k : Int
  o : Int
  f : Bool
deriving DecidableEq
namespace Fo
def memK (e : Ev) : Bool := decide (e.k = 2) || decide (e.k = 3)
def mutK (e : Ev) : Bool := decide (e.k = 4) || decide (e.k = 5)
def dep (a b : Ev) : Bool := decide (a.t = b.t) || (decide (a.o = b.o) && ((memK a && memK b && (decide (a.k = 3) || decide (b.k = 3))) || (mutK a && mutK b)))
theorem dep_comm (a b : Ev) : dep a b = dep b a := by
  unfold dep
  rw [show decide (a.t = b.t) = decide (b.t = a.t) from decide_eq_decide.2 ⟨Eq.symm, Eq.symm⟩, show decide (a.o = b.o) = decide (b.o = a.o) from decide_eq_decide.2 ⟨Eq.symm, Eq.symm⟩,
    Bool.and_comm (memK a), Bool.or_comm (decide (a.k = 3)), Bool.and_comm (mutK a)]
theorem dep_thread {a b : Ev} (h : a.t = b.t) : dep a b = true := by unfold dep; rw [decide_eq_true h, Bool.true_or]
def right (e : Ev) : Bool := decide (0 ≤ e.t ∧ e.t ≤ 3 ∧ 1 ≤ e.k ∧ e.k ≤ 5 ∧ 0 ≤ e.o ∧ e.o ≤ 3 ∧ (e.k = 1 → e.o = 0) ∧ (e.k ≠ 1 → e.f = false ∧ (e.k < 4 ∨ e.o < 2)))
def placeAt (L : List (List Ev)) (e : Ev) : Nat → Nat
  | 0 => 0
  | n + 1 => if (L.getD n []).any (fun x => dep x e) then n + 1 else placeAt L e n
def place (L : List (List Ev)) (e : Ev) : Nat := placeAt L e L.length
def addL (L : List (List Ev)) (n : Nat) (e : Ev) : List (List Ev) := if n < L.length then L.set n (L.getD n [] ++ [e]) else L ++ [[e]]
def levU (l : List Ev) : List (List Ev) := l.foldl (fun L e => addL L (place L e) e) []
theorem placeAt_le (L : List (List Ev)) (e : Ev) : ∀ n, placeAt L e n ≤ n
  | 0 => Nat.le_refl _
  | n + 1 => by unfold placeAt; split; exact Nat.le_refl _; exact Nat.le_succ_of_le (placeAt_le L e n)
theorem place_le (L : List (List Ev)) (e : Ev) : place L e ≤ L.length := placeAt_le L e _
theorem placeAt_free (L : List (List Ev)) (e : Ev) : ∀ n j, placeAt L e n ≤ j → j < n → (L.getD j []).any (fun x => dep x e) = false
  | 0, j, _, h => by omega
  | n + 1, j, h, hj => by
    unfold placeAt at h
    split at h
    · omega
    · rename_i hn
      rcases Nat.lt_or_ge j n with h1 | h1
      · exact placeAt_free L e n j h h1
      · rw [show j = n by omega]; simpa using hn
theorem place_free {L : List (List Ev)} {e : Ev} {j : Nat} (h : place L e ≤ j) (x : Ev) (hx : x ∈ L.getD j []) : dep x e = false := by
  rcases Nat.lt_or_ge j L.length with h1 | h1
  · have := placeAt_free L e L.length j h h1
    rw [List.any_eq_false] at this
    simpa using this x hx
  · rw [List.getD_eq_getElem?_getD, List.getElem?_eq_none h1] at hx; simp at hx
theorem placeAt_dep (L : List (List Ev)) (e : Ev) : ∀ n, placeAt L e n ≠ 0 → ∃ x ∈ L.getD (placeAt L e n - 1) [], dep x e = true
  | 0, h => (h rfl).elim
  | n + 1, h => by
    unfold placeAt at h ⊢
    split
    · rename_i hn
      obtain ⟨x, hx, hd⟩ := List.any_eq_true.1 hn
      exact ⟨x, by simpa using hx, hd⟩
    · rename_i hn
      rw [if_neg hn] at h
      exact placeAt_dep L e n h
theorem place_dep {L : List (List Ev)} {e : Ev} (h : place L e ≠ 0) : ∃ x ∈ L.getD (place L e - 1) [], dep x e = true := placeAt_dep L e _ h
theorem addL_getD {L : List (List Ev)} {n : Nat} (hn : n ≤ L.length) (e : Ev) (j : Nat) : (addL L n e).getD j [] = if j = n then L.getD n [] ++ [e] else L.getD j [] := by
  unfold addL
  simp only [List.getD_eq_getElem?_getD]
  by_cases h : n < L.length
  · rw [if_pos h]
    by_cases hj : j = n
    · subst hj; rw [if_pos rfl, List.getElem?_set_self h]; rfl
    · rw [if_neg hj, List.getElem?_set_ne (Ne.symm hj)]
  · rw [if_neg h]
    have hnl : n = L.length := by omega
    by_cases hj : j = n
    · subst hj
      rw [if_pos rfl, hnl, List.getElem?_append_right (Nat.le_refl _), List.getElem?_eq_none (Nat.le_refl _)]
      simp
    · rw [if_neg hj]
      rcases Nat.lt_or_ge j L.length with h1 | h1
      · rw [List.getElem?_append_left h1]
      · rw [List.getElem?_append_right h1, List.getElem?_eq_none h1, List.getElem?_eq_none (by simp; omega)]
theorem addL_len {L : List (List Ev)} {n : Nat} (hn : n ≤ L.length) (e : Ev) : (addL L n e).length = if n = L.length then L.length + 1 else L.length := by
  unfold addL
  by_cases h : n < L.length
  · rw [if_pos h, if_neg (by omega), List.length_set]
  · rw [if_neg h, if_pos (by omega)]; simp
theorem addL_flat {L : List (List Ev)} {n : Nat} (hn : n ≤ L.length) (e : Ev) : (addL L n e).flatten.Perm (e :: L.flatten) := by
  unfold addL
  by_cases h : n < L.length
  · rw [if_pos h]
    have gen : ∀ (L : List (List Ev)) n, n < L.length → (L.set n (L.getD n [] ++ [e])).flatten.Perm (e :: L.flatten) := by
      intro L
      induction L with
      | nil => intro n h; cases h
      | cons l L ih =>
        intro n h
        cases n with
        | zero =>
          simp only [List.set_cons_zero, List.flatten_cons, List.getD_cons_zero]
          rw [List.append_assoc]
          exact List.perm_middle
        | succ n =>
          simp only [List.set_cons_succ, List.flatten_cons, List.getD_cons_succ]
          exact ((ih n (by simpa using h)).append_left l).trans List.perm_middle
    exact gen L n h
  · rw [if_neg h]
    simp only [List.flatten_append, List.flatten_cons, List.flatten_nil, List.append_nil]
    exact List.perm_append_comm
structure Lev (L : List (List Ev)) : Prop where
  ne : ∀ j, j < L.length → L.getD j [] ≠ []
  apart : ∀ j, (L.getD j []).Pairwise (fun a b => dep a b = false)
  up : ∀ j e, e ∈ L.getD (j + 1) [] → ∃ x ∈ L.getD j [], dep x e = true
theorem Lev.nil : Lev [] := ⟨fun j h => (by cases h), fun j => (by simp), fun j e h => (by simp at h)⟩
theorem Lev.add {L : List (List Ev)} (h : Lev L) (e : Ev) : Lev (addL L (place L e) e) := by
  have hn := place_le L e
  refine ⟨fun j hj => ?_, fun j => ?_, fun j x hx => ?_⟩
  · rw [addL_getD hn]
    split
    · simp
    · rename_i hne
      rw [addL_len hn] at hj
      split at hj
      · exact h.ne j (by omega)
      · exact h.ne j hj
  · rw [addL_getD hn]
    split
    · rename_i hj
      refine List.pairwise_append.2 ⟨h.apart _, by simp, fun a ha b hb => ?_⟩
      rw [List.mem_singleton] at hb
      subst hb
      exact place_free (Nat.le_refl _) a ha
    · exact h.apart j
  · rw [addL_getD hn] at hx ⊢
    have hold : x ∈ L.getD (j + 1) [] → ∃ y ∈ (if j = place L e then L.getD (place L e) [] ++ [e] else L.getD j []), dep y x = true := fun hx => by
      obtain ⟨y, hy, hd⟩ := h.up j x hx
      refine ⟨y, ?_, hd⟩
      split
      · rename_i hj; rw [← hj]; exact List.mem_append_left _ hy
      · exact hy
    split at hx
    · rename_i hj
      rcases List.mem_append.1 hx with hx | hx
      · exact hold (hj ▸ hx)
      · rw [List.mem_singleton] at hx
        subst hx
        obtain ⟨y, hy, hd⟩ := place_dep (L := L) (e := x) (by omega)
        rw [← hj, Nat.add_sub_cancel] at hy
        exact ⟨y, by rw [if_neg (by omega)]; exact hy, hd⟩
    · exact hold hx
theorem levU_snoc (l : List Ev) (e : Ev) : levU (l ++ [e]) = addL (levU l) (place (levU l) e) e := by unfold levU; rw [List.foldl_append]; rfl
theorem snoc_ind {p : List Ev → Prop} (h0 : p []) (h1 : ∀ l e, p l → p (l ++ [e])) (l : List Ev) : p l := by
  have : ∀ n (l : List Ev), l.length = n → p l := by
    intro n
    induction n with
    | zero => intro l h; rw [List.eq_nil_of_length_eq_zero h]; exact h0
    | succ n ih =>
      intro l h
      have hne : l ≠ [] := by intro e; rw [e] at h; cases h
      have := h1 l.dropLast (l.getLast hne) (ih _ (by rw [List.length_dropLast]; omega))
      rwa [List.dropLast_concat_getLast] at this
  exact this _ l rfl
theorem levU_lev (l : List Ev) : Lev (levU l) := snoc_ind (p := fun l => Lev (levU l)) Lev.nil (fun l e h => by rw [levU_snoc]; exact h.add e) l
theorem levU_flat (l : List Ev) : (levU l).flatten.Perm l :=
  snoc_ind (p := fun l => (levU l).flatten.Perm l) (List.Perm.refl _) (fun l e h => by
    rw [levU_snoc]
    exact (addL_flat (place_le _ _) e).trans ((h.cons e).trans (by simpa using (List.perm_append_comm (l₁ := [e]) (l₂ := l))))) l
def insT (e : Ev) : List Ev → List Ev
  | [] => [e]
  | x :: xs => if e.t < x.t then e :: x :: xs else x :: insT e xs
def sortT (l : List Ev) : List Ev := l.foldl (fun acc e => insT e acc) []
theorem insT_perm (e : Ev) : ∀ l, (insT e l).Perm (e :: l)
  | [] => List.Perm.refl _
  | x :: xs => by
    unfold insT
    split
    · exact List.Perm.refl _
    · exact ((insT_perm e xs).cons x).trans (List.Perm.swap _ _ _)
def SortedT (l : List Ev) : Prop := l.Pairwise (fun a b => a.t ≤ b.t)
theorem insT_sorted (e : Ev) : ∀ l, SortedT l → SortedT (insT e l)
  | [], _ => by simp [insT, SortedT]
  | x :: xs, h => by
    obtain ⟨h1, h2⟩ := List.pairwise_cons.1 h
    unfold insT
    split
    · rename_i hlt
      refine List.pairwise_cons.2 ⟨fun y hy => ?_, h⟩
      rcases List.mem_cons.1 hy with rfl | hy
      · omega
      · have := h1 y hy; omega
    · rename_i hlt
      refine List.pairwise_cons.2 ⟨fun y hy => ?_, insT_sorted e xs h2⟩
      rcases List.mem_cons.1 ((insT_perm e xs).mem_iff.1 hy) with rfl | hy
      · omega
      · exact h1 y hy
theorem sortT_snoc (l : List Ev) (e : Ev) : sortT (l ++ [e]) = insT e (sortT l) := by unfold sortT; rw [List.foldl_append]; rfl
theorem sortT_perm (l : List Ev) : (sortT l).Perm l :=
  snoc_ind (p := fun l => (sortT l).Perm l) (List.Perm.refl _) (fun l e h => by rw [sortT_snoc]; exact (insT_perm e _).trans ((h.cons e).trans (by simpa using (List.perm_append_comm (l₁ := [e]) (l₂ := l))))) l
theorem sortT_sorted (l : List Ev) : SortedT (sortT l) :=
  snoc_ind (p := fun l => SortedT (sortT l)) (by simp [sortT, SortedT]) (fun l e h => by rw [sortT_snoc]; exact insT_sorted e _ h) l
theorem sorted_one {l r : List Ev} (hp : l.Perm r) (hl : SortedT l) (hr : SortedT r) (hd : l.Pairwise (fun a b => a.t ≠ b.t)) : l = r := by
  have hd' : ∀ a ∈ l, ∀ b ∈ l, a.t = b.t → a = b := by
    intro a ha b hb hab
    clear hp hl hr
    induction l with
    | nil => cases ha
    | cons x xs ih =>
      obtain ⟨h1, h2⟩ := List.pairwise_cons.1 hd
      rcases List.mem_cons.1 ha with ha' | ha' <;> rcases List.mem_cons.1 hb with hb' | hb'
      · rw [ha', hb']
      · subst ha'; exact (h1 b hb' hab).elim
      · subst hb'; exact (h1 a ha' hab.symm).elim
      · exact ih h2 ha' hb'
  exact List.Perm.eq_of_pairwise (le := fun a b : Ev => a.t ≤ b.t) (fun a b ha hb h1 h2 => hd' a ha b (hp.mem_iff.2 hb) (Int.le_antisymm h1 h2)) hl hr hp
theorem apart_threads {l : List Ev} (h : l.Pairwise (fun a b => dep a b = false)) : l.Pairwise (fun a b => a.t ≠ b.t) :=
  h.imp (fun {a b} hab e => by rw [dep_thread e] at hab; cases hab)
def lev (l : List Ev) : List (List Ev) := (levU l).map sortT
theorem lev_len (l : List Ev) : (lev l).length = (levU l).length := by unfold lev; simp
theorem lev_getD (l : List Ev) (j : Nat) : (lev l).getD j [] = sortT ((levU l).getD j []) := by
  unfold lev
  simp only [List.getD_eq_getElem?_getD, List.getElem?_map]
  cases (levU l)[j]? <;> rfl
theorem lev_flat (l : List Ev) : (lev l).flatten.Perm l := by
  refine List.Perm.trans ?_ (levU_flat l)
  unfold lev
  induction levU l with
  | nil => exact List.Perm.refl _
  | cons x xs ih => simp only [List.map_cons, List.flatten_cons]; exact (sortT_perm x).append ih
theorem lev_apart (l : List Ev) (j : Nat) : ((lev l).getD j []).Pairwise (fun a b => dep a b = false) := by
  rw [lev_getD]
  exact ((sortT_perm _).pairwise_iff (fun {a b} h => by rw [dep_comm]; exact h)).2 ((levU_lev l).apart j)
theorem lev_lev (l : List Ev) : Lev (lev l) := by
  refine ⟨fun j hj h => ?_, lev_apart l, fun j e he => ?_⟩
  · rw [lev_getD] at h
    rw [lev_len] at hj
    have := (sortT_perm ((levU l).getD j [])).length_eq
    rw [h] at this
    exact (levU_lev l).ne j hj (List.eq_nil_of_length_eq_zero this.symm)
  · rw [lev_getD] at he ⊢
    obtain ⟨x, hx, hd⟩ := (levU_lev l).up j e ((sortT_perm _).mem_iff.1 he)
    exact ⟨x, (sortT_perm _).mem_iff.2 hx, hd⟩
theorem lev_sorted (l : List Ev) (j : Nat) : SortedT ((lev l).getD j []) := by rw [lev_getD]; exact sortT_sorted _
def high (l : List Ev) (at_ : List Nat) (e : Ev) : Nat := (l.zip at_).foldl (fun n p => if dep p.1 e then max n (p.2 + 1) else n) 0
def ats (l : List Ev) : List Nat := (l.foldl (fun (s : List Ev × List Nat) e => (s.1 ++ [e], s.2 ++ [high s.1 s.2 e])) ([], [])).2
theorem ats_pair (l : List Ev) : l.foldl (fun (s : List Ev × List Nat) e => (s.1 ++ [e], s.2 ++ [high s.1 s.2 e])) ([], []) = (l, ats l) := by
  refine snoc_ind (p := fun l => l.foldl (fun (s : List Ev × List Nat) e => (s.1 ++ [e], s.2 ++ [high s.1 s.2 e])) ([], []) = (l, ats l)) rfl (fun l e h => ?_) l
  unfold ats
  rw [List.foldl_append, h]
  rfl
theorem ats_snoc (l : List Ev) (e : Ev) : ats (l ++ [e]) = ats l ++ [high l (ats l) e] := by
  have h := ats_pair (l ++ [e])
  rw [List.foldl_append, ats_pair l] at h
  have := congrArg Prod.snd h
  exact this.symm
theorem ats_len (l : List Ev) : (ats l).length = l.length := snoc_ind (p := fun l => (ats l).length = l.length) rfl (fun l e h => by rw [ats_snoc]; simp [h]) l
theorem foldmax_le (q : List (Ev × Nat)) (e : Ev) : ∀ n m, (n ≤ m ∧ ∀ p ∈ q, dep p.1 e = true → p.2 + 1 ≤ m) → q.foldl (fun n p => if dep p.1 e then max n (p.2 + 1) else n) n ≤ m := by
  induction q with
  | nil => intro n m h; exact h.1
  | cons p q ih =>
    intro n m h
    rw [List.foldl_cons]
    refine ih _ m ⟨?_, fun r hr => h.2 r (List.mem_cons_of_mem _ hr)⟩
    split
    · rename_i hd; have := h.2 p List.mem_cons_self hd; omega
    · exact h.1
theorem foldmax_ge (q : List (Ev × Nat)) (e : Ev) : ∀ n, n ≤ q.foldl (fun n p => if dep p.1 e then max n (p.2 + 1) else n) n ∧ ∀ p ∈ q, dep p.1 e = true → p.2 + 1 ≤ q.foldl (fun n p => if dep p.1 e then max n (p.2 + 1) else n) n := by
  induction q with
  | nil => intro n; exact ⟨Nat.le_refl _, fun p h => by cases h⟩
  | cons p q ih =>
    intro n
    rw [List.foldl_cons]
    obtain ⟨h1, h2⟩ := ih (if dep p.1 e then max n (p.2 + 1) else n)
    refine ⟨Nat.le_trans ?_ h1, fun r hr hd => ?_⟩
    · split <;> omega
    · rcases List.mem_cons.1 hr with rfl | hr
      · refine Nat.le_trans ?_ h1
        rw [if_pos hd]; omega
      · exact h2 r hr hd
theorem mem_level (l : List Ev) : ∀ j x, x ∈ (levU l).getD j [] ↔ (x, j) ∈ l.zip (ats l) := by
  refine snoc_ind (p := fun l => ∀ j x, x ∈ (levU l).getD j [] ↔ (x, j) ∈ l.zip (ats l)) (fun j x => by simp [levU, ats]) (fun l e h j x => ?_) l
  have hpl : place (levU l) e = high l (ats l) e := by
    apply Nat.le_antisymm
    · by_cases h0 : place (levU l) e = 0
      · omega
      · obtain ⟨y, hy, hd⟩ := place_dep h0
        have := (foldmax_ge (l.zip (ats l)) e 0).2 (y, place (levU l) e - 1) ((h _ y).1 hy) hd
        unfold high
        simp only at this
        omega
    · refine foldmax_le _ e 0 _ ⟨Nat.zero_le _, fun p hp hd => ?_⟩
      rcases Nat.lt_or_ge p.2 (place (levU l) e) with h1 | h1
      · omega
      · have := place_free h1 p.1 ((h p.2 p.1).2 hp)
        rw [this] at hd
        cases hd
  rw [levU_snoc, addL_getD (place_le _ _), ats_snoc, List.zip_append (by rw [ats_len]), List.mem_append, ← hpl]
  simp only [List.zip_cons_cons, List.zip_nil_right, List.mem_singleton, Prod.mk.injEq]
  split
  · rename_i hj
    subst hj
    rw [List.mem_append, List.mem_singleton, h]
    simp
  · rename_i hj
    rw [h]
    simp [hj]
theorem place_high (l : List Ev) (e : Ev) : place (levU l) e = high l (ats l) e := by
  apply Nat.le_antisymm
  · by_cases h0 : place (levU l) e = 0
    · omega
    · obtain ⟨y, hy, hd⟩ := place_dep h0
      have := (foldmax_ge (l.zip (ats l)) e 0).2 (y, place (levU l) e - 1) ((mem_level l _ y).1 hy) hd
      unfold high
      simp only at this
      omega
  · refine foldmax_le _ e 0 _ ⟨Nat.zero_le _, fun p hp hd => ?_⟩
    rcases Nat.lt_or_ge p.2 (place (levU l) e) with h1 | h1
    · omega
    · have := place_free h1 p.1 ((mem_level l p.2 p.1).2 hp)
      rw [this] at hd
      cases hd
end Fo
end Go.Proofs.YtckdofjpoajblaaGreat
namespace Go.Proofs.YtckdofjpoajblaaGreat
namespace Fo
set_option linter.unusedVariables false
def byteI (e : Ev) : Int := e.t + 4 * e.k + 32 * e.o + (if e.f then 128 else 0)
def byteU (e : Ev) : UInt8 := UInt8.ofNat (byteI e).toNat
def evOf (n : Nat) : Ev := ⟨(n % 4 : Nat), (n / 4 % 8 : Nat), (n / 32 % 4 : Nat), decide (128 ≤ n)⟩
theorem right_spec {e : Ev} (h : right e = true) : 0 ≤ e.t ∧ e.t ≤ 3 ∧ 1 ≤ e.k ∧ e.k ≤ 5 ∧ 0 ≤ e.o ∧ e.o ≤ 3 ∧ (e.k = 1 → e.o = 0) ∧ (e.k ≠ 1 → e.f = false ∧ (e.k < 4 ∨ e.o < 2)) := by
  exact of_decide_eq_true h
theorem byteI_lt {e : Ev} (h : right e = true) : 0 ≤ byteI e ∧ byteI e < 256 := by
  obtain ⟨h1, h2, h3, h4, h5, h6, h7, h8⟩ := right_spec h
  unfold byteI
  cases hf : e.f with
  | false => simp; omega
  | true =>
    have hk : e.k = 1 := Classical.byContradiction fun hk => by have := (h8 hk).1; rw [hf] at this; cases this
    have := h7 hk
    simp; omega
theorem byteU_toNat {e : Ev} (h : right e = true) : ((byteU e).toNat : Int) = byteI e := by
  obtain ⟨h1, h2⟩ := byteI_lt h
  unfold byteU
  rw [UInt8.toNat_ofNat']
  omega
theorem evOf_byte {e : Ev} (h : right e = true) : evOf (byteU e).toNat = e := by
  have hb := byteU_toNat h
  obtain ⟨h1, h2, h3, h4, h5, h6, h7, h8⟩ := right_spec h
  obtain ⟨t, k, o, f⟩ := e
  generalize (byteU ⟨t, k, o, f⟩).toNat = n at hb
  unfold byteI at hb
  simp only at *
  cases f with
  | false =>
    simp only [Bool.false_eq_true, if_false, Int.add_zero] at hb
    unfold evOf
    simp only [Ev.mk.injEq]
    refine ⟨by omega, by omega, by omega, by simp; omega⟩
  | true =>
    have hk : k = 1 := Classical.byContradiction fun hk => by have := (h8 hk).1; cases this
    have ho := h7 hk
    simp only [if_true] at hb
    unfold evOf
    simp only [Ev.mk.injEq]
    refine ⟨by omega, by omega, by omega, by simp; omega⟩
def rights (l : List Ev) : Bool := l.all right
def evs (bs : List UInt8) : Option (List Ev) := if rights (bs.map fun b => evOf b.toNat) = true then some (bs.map fun b => evOf b.toNat) else none
def bytes (l : List Ev) : List UInt8 := l.map byteU
theorem evs_bytes {l : List Ev} (h : rights l = true) : evs (bytes l) = some l := by
  have e : (bytes l).map (fun b => evOf b.toNat) = l := by
    unfold bytes rights at *
    rw [List.map_map]
    conv => rhs; rw [← List.map_id l]
    refine List.map_congr_left (fun x hx => ?_)
    exact evOf_byte (List.all_eq_true.1 h x hx)
  unfold evs
  rw [e, if_pos h]
def okL (L : List (List Ev)) : Bool := decide (L.flatten.length ≤ 200) && rights L.flatten && decide (lev L.flatten = L)
def enc (L : List (List Ev)) : List UInt8 := L.flatMap (fun l => UInt8.ofNat l.length :: bytes l) ++ [0]
def printL (L : List (List Ev)) : List UInt8 := if okL L = true then enc L else []
def okRow (l : List Ev) : Bool := decide (l.length ≤ 200) && rights l
def levR (l : List Ev) : List (List Ev) := if okRow l = true then lev l else []
def key (l : List Ev) : List UInt8 := if okRow l = true then printL (lev l) else []
theorem nodup_sub : ∀ (l m : List Nat), l.Nodup → (∀ x ∈ l, x ∈ m) → l.length ≤ m.length
  | [], _, _, _ => Nat.zero_le _
  | a :: l, m, h, hs => by
    obtain ⟨h1, h2⟩ := List.nodup_cons.1 h
    have ha := hs a List.mem_cons_self
    have := nodup_sub l (m.erase a) h2 (fun x hx => (List.mem_erase_of_ne (fun e : x = a => h1 (by rw [← e]; exact hx))).2 (hs x (List.mem_cons_of_mem _ hx)))
    rw [List.length_erase_of_mem ha] at this
    have := List.length_pos_of_mem ha
    simp only [List.length_cons]
    omega
theorem lev_small {l : List Ev} (h : rights l = true) (j : Nat) : ((lev l).getD j []).length ≤ 4 := by
  have ha := apart_threads (lev_apart l j)
  have hm : ∀ x ∈ (lev l).getD j [], 0 ≤ x.t ∧ x.t ≤ 3 := fun x hx => by
    have hx' : x ∈ l := (lev_flat l).mem_iff.1 (by
      rw [List.getD_eq_getElem?_getD] at hx
      cases hj : (lev l)[j]? with
      | none => rw [hj] at hx; simp at hx
      | some q => rw [hj] at hx; exact List.mem_flatten.2 ⟨q, List.mem_of_getElem? hj, hx⟩)
    have := right_spec (List.all_eq_true.1 h x hx')
    exact ⟨this.1, this.2.1⟩
  generalize (lev l).getD j [] = q at ha hm
  have hs : (q.map fun x => x.t.toNat).Nodup := by
    rw [List.Nodup, List.pairwise_map]
    refine ha.imp_of_mem (fun {a b} ha hb hne e => hne ?_)
    have h1 := hm a ha
    have h2 := hm b hb
    omega
  have hsub : ∀ n ∈ (q.map fun x => x.t.toNat), n ∈ List.range 4 := fun n hn => by
    obtain ⟨x, hx, rfl⟩ := List.mem_map.1 hn
    have := hm x hx
    simp; omega
  have := nodup_sub _ _ hs hsub
  simpa using this
theorem okL_spec {L : List (List Ev)} (h : okL L = true) : L.flatten.length ≤ 200 ∧ rights L.flatten = true ∧ lev L.flatten = L := by
  unfold okL at h
  simp only [Bool.and_eq_true, decide_eq_true_eq] at h
  exact ⟨h.1.1, h.1.2, h.2⟩
theorem okL_mem {L : List (List Ev)} (h : okL L = true) {l : List Ev} (hl : l ∈ L) : 0 < l.length ∧ l.length ≤ 4 ∧ rights l = true := by
  obtain ⟨h1, h2, h3⟩ := okL_spec h
  obtain ⟨j, hj, rfl⟩ := List.getElem_of_mem hl
  have e : L[j] = (lev L.flatten).getD j [] := by rw [h3, List.getD_eq_getElem?_getD, List.getElem?_eq_getElem hj]; rfl
  refine ⟨?_, by rw [e]; exact lev_small h2 j, ?_⟩
  · have := (lev_lev L.flatten).ne j (by rw [h3]; exact hj)
    rw [← e] at this
    exact List.length_pos_iff.2 this
  · unfold rights at h2 ⊢
    rw [List.all_eq_true] at h2 ⊢
    exact fun x hx => h2 x (List.mem_flatten.2 ⟨_, hl, hx⟩)
def parse : Nat → List UInt8 → Option (List (List Ev))
  | 0, _ => some []
  | k + 1, [] => some []
  | k + 1, b :: r => if b = 0 then some [] else if r.length < b.toNat then none else (evs (r.take b.toNat)).bind fun l => (parse k (r.drop b.toNat)).map (l :: ·)
def readL (s : List UInt8) : Option (List (List Ev)) := (parse s.length s).bind fun L => if s ≠ [] ∧ printL L = s then some L else none
theorem enc_cons (l : List Ev) (L : List (List Ev)) : enc (l :: L) = UInt8.ofNat l.length :: (bytes l ++ enc L) := by unfold enc; simp
theorem enc_len (L : List (List Ev)) : L.length < (enc L).length := by
  induction L with
  | nil => simp [enc]
  | cons l L ih => rw [enc_cons]; simp; omega
theorem parse_enc : ∀ (L : List (List Ev)), (∀ l ∈ L, 0 < l.length ∧ l.length ≤ 4 ∧ rights l = true) → ∀ k, L.length < k → parse k (enc L) = some L
  | [], _, k, hk => by
    obtain ⟨k, rfl⟩ : ∃ m, k = m + 1 := ⟨k - 1, by omega⟩
    rfl
  | l :: L, h, k, hk => by
    obtain ⟨k, rfl⟩ : ∃ m, k = m + 1 := ⟨k - 1, by omega⟩
    obtain ⟨h1, h2, h3⟩ := h l List.mem_cons_self
    have hn : (UInt8.ofNat l.length).toNat = l.length := by rw [UInt8.toNat_ofNat']; omega
    have h0 : ¬ UInt8.ofNat l.length = 0 := fun e => by rw [e] at hn; simp at hn; omega
    have hb : (bytes l).length = l.length := by unfold bytes; simp
    rw [enc_cons]
    unfold parse
    rw [if_neg h0, hn, if_neg (by simp [hb]), ← hb, List.take_left, List.drop_left, evs_bytes h3, parse_enc L (fun l hl => h l (List.mem_cons_of_mem _ hl)) k (by simp at hk; omega)]
    rfl
theorem readL_enc {L : List (List Ev)} (h : okL L = true) : readL (enc L) = some L := by
  unfold readL
  rw [parse_enc L (fun l hl => okL_mem h hl) _ (enc_len L), Option.bind_some, if_pos]
  refine ⟨fun e => ?_, by unfold printL; rw [if_pos h]⟩
  have := enc_len L
  rw [e] at this
  simp at this
theorem enc_inj {L M : List (List Ev)} (h : okL L = true) (h' : okL M = true) (e : enc L = enc M) : L = M := by
  have h1 := readL_enc h
  rw [e, readL_enc h'] at h1
  injection h1 with h1
  exact h1.symm
end Fo
end Go.Proofs.YtckdofjpoajblaaGreat
namespace Go.Proofs.YtckdofjpoajblaaGreat
namespace Fo
set_option linter.unusedVariables false
inductive Eqv : List Ev → List Ev → Prop
  | refl (l) : Eqv l l
  | symm {l m} : Eqv l m → Eqv m l
  | trans {l m n} : Eqv l m → Eqv m n → Eqv l n
  | swap (l r : List Ev) (x y : Ev) : dep x y = false → Eqv (l ++ x :: y :: r) (l ++ y :: x :: r)
theorem Eqv.ctx {l m : List Ev} (h : Eqv l m) (p s : List Ev) : Eqv (p ++ l ++ s) (p ++ m ++ s) := by
  induction h with
  | refl l => exact .refl _
  | symm _ ih => exact .symm ih
  | trans _ _ ih1 ih2 => exact .trans ih1 ih2
  | swap l r x y h =>
    have := Eqv.swap (p ++ l) (r ++ s) x y h
    simpa using this
theorem Eqv.left {l m : List Ev} (h : Eqv l m) (p : List Ev) : Eqv (p ++ l) (p ++ m) := by simpa using h.ctx p []
theorem Eqv.right {l m : List Ev} (h : Eqv l m) (s : List Ev) : Eqv (l ++ s) (m ++ s) := by simpa using h.ctx [] s
theorem Eqv.perm {l m : List Ev} (h : Eqv l m) : l.Perm m := by
  induction h with
  | refl l => exact .refl _
  | symm _ ih => exact .symm ih
  | trans _ _ ih1 ih2 => exact .trans ih1 ih2
  | swap l r x y h => exact (List.Perm.swap _ _ _).append_left l
theorem Eqv.over (e : Ev) : ∀ q : List Ev, (∀ x ∈ q, dep x e = false) → Eqv (q ++ [e]) (e :: q)
  | [], _ => .refl _
  | x :: q, h => by
    have h1 := (Eqv.over e q (fun y hy => h y (List.mem_cons_of_mem _ hy))).left [x]
    have h2 := Eqv.swap [] q x e (h x List.mem_cons_self)
    exact .trans (by simpa using h1) (by simpa using h2)
theorem Eqv.of_perm {l m : List Ev} (hp : l.Perm m) : l.Pairwise (fun a b => dep a b = false) → Eqv l m := by
  induction hp with
  | nil => intro _; exact .refl _
  | cons x _ ih => intro h; have := (ih (List.pairwise_cons.1 h).2).left [x]; simpa using this
  | swap x y l => intro h; have := Eqv.swap [] l y x ((List.pairwise_cons.1 h).1 x List.mem_cons_self); simpa using this
  | trans p1 _ ih1 ih2 => intro h; exact .trans (ih1 h) (ih2 ((p1.pairwise_iff (fun {a b} h => by rw [dep_comm]; exact h)).1 h))
theorem flat_addL {L : List (List Ev)} {n : Nat} (hn : n ≤ L.length) (e : Ev) : (addL L n e).flatten = (L.take (n + 1)).flatten ++ e :: (L.drop (n + 1)).flatten := by
  unfold addL
  by_cases h : n < L.length
  · rw [if_pos h]
    have gen : ∀ (L : List (List Ev)) n, n < L.length → (L.set n (L.getD n [] ++ [e])).flatten = (L.take (n + 1)).flatten ++ e :: (L.drop (n + 1)).flatten := by
      intro L
      induction L with
      | nil => intro n h; cases h
      | cons l L ih =>
        intro n h
        cases n with
        | zero => simp
        | succ n =>
          have := ih n (by simpa using h)
          simp only [List.set_cons_succ, List.flatten_cons, List.getD_cons_succ, List.take_succ_cons, List.drop_succ_cons]
          rw [this, List.append_assoc]
    exact gen L n h
  · rw [if_neg h, List.take_of_length_le (by omega), List.drop_of_length_le (by omega)]
    simp
theorem mem_drop_level {L : List (List Ev)} {n : Nat} {x : Ev} (h : x ∈ (L.drop n).flatten) : ∃ j, n ≤ j ∧ x ∈ L.getD j [] := by
  obtain ⟨q, hq, hx⟩ := List.mem_flatten.1 h
  obtain ⟨i, hi⟩ := List.getElem?_of_mem hq
  rw [List.getElem?_drop] at hi
  exact ⟨n + i, by omega, by rw [List.getD_eq_getElem?_getD, hi]; exact hx⟩
theorem eqv_levU (l : List Ev) : Eqv l (levU l).flatten :=
  snoc_ind (p := fun l => Eqv l (levU l).flatten) (.refl _) (fun l e h => by
    rw [levU_snoc, flat_addL (place_le _ _)]
    refine .trans (h.right [e]) ?_
    have hs : (levU l).flatten = ((levU l).take (place (levU l) e + 1)).flatten ++ ((levU l).drop (place (levU l) e + 1)).flatten := by rw [← List.flatten_append, List.take_append_drop]
    rw [hs, List.append_assoc]
    refine Eqv.left (Eqv.over e _ (fun x hx => ?_)) _
    obtain ⟨j, hj, hx⟩ := mem_drop_level hx
    exact place_free (by omega) x hx) l
theorem eqv_map_sort : ∀ (L : List (List Ev)), (∀ q ∈ L, q.Pairwise (fun a b => dep a b = false)) → Eqv L.flatten (L.map sortT).flatten
  | [], _ => .refl _
  | q :: L, h => by
    have h1 := (Eqv.of_perm (sortT_perm q).symm (h q List.mem_cons_self)).right L.flatten
    have h2 := (eqv_map_sort L (fun q hq => h q (List.mem_cons_of_mem _ hq))).left (sortT q)
    simpa using h1.trans h2
theorem eqv_lev (l : List Ev) : Eqv l (lev l).flatten :=
  (eqv_levU l).trans (eqv_map_sort _ (fun q hq => by
    obtain ⟨j, hj⟩ := List.getElem?_of_mem hq
    have := (levU_lev l).apart j
    rwa [List.getD_eq_getElem?_getD, hj] at this))
def Lik (L M : List (List Ev)) : Prop := L.length = M.length ∧ ∀ j, (L.getD j []).Perm (M.getD j [])
theorem Lik.refl (L : List (List Ev)) : Lik L L := ⟨rfl, fun _ => .refl _⟩
theorem Lik.symm {L M : List (List Ev)} (h : Lik L M) : Lik M L := ⟨h.1.symm, fun j => (h.2 j).symm⟩
theorem Lik.trans {L M N : List (List Ev)} (h : Lik L M) (k : Lik M N) : Lik L N := ⟨h.1.trans k.1, fun j => (h.2 j).trans (k.2 j)⟩
theorem Lik.placeAt {L M : List (List Ev)} (h : Lik L M) (e : Ev) : ∀ n, placeAt L e n = placeAt M e n
  | 0 => rfl
  | n + 1 => by
    unfold Fo.placeAt
    have : (L.getD n []).any (fun x => dep x e) = (M.getD n []).any (fun x => dep x e) := by
      rw [Bool.eq_iff_iff, List.any_eq_true, List.any_eq_true]
      exact ⟨fun ⟨x, hx, hd⟩ => ⟨x, (h.2 n).mem_iff.1 hx, hd⟩, fun ⟨x, hx, hd⟩ => ⟨x, (h.2 n).mem_iff.2 hx, hd⟩⟩
    rw [this, h.placeAt e n]
theorem Lik.place {L M : List (List Ev)} (h : Lik L M) (e : Ev) : place L e = place M e := by unfold Fo.place; rw [h.1, h.placeAt]
theorem Lik.add {L M : List (List Ev)} (h : Lik L M) {n : Nat} (hn : n ≤ L.length) (e : Ev) : Lik (addL L n e) (addL M n e) := by
  refine ⟨by rw [addL_len hn, addL_len (by rw [← h.1]; exact hn), h.1], fun j => ?_⟩
  rw [addL_getD hn, addL_getD (by rw [← h.1]; exact hn)]
  split
  · exact (h.2 n).append_right [e]
  · exact h.2 j
def grow (L : List (List Ev)) (l : List Ev) : List (List Ev) := l.foldl (fun L e => addL L (place L e) e) L
theorem Lik.grow {L M : List (List Ev)} (h : Lik L M) : ∀ l, Lik (grow L l) (grow M l) := by
  intro l
  induction l generalizing L M with
  | nil => exact h
  | cons e l ih =>
    unfold Fo.grow
    rw [List.foldl_cons, List.foldl_cons]
    refine ih ?_
    rw [← h.place e]
    exact h.add (place_le _ _) e
theorem place_unique {L : List (List Ev)} {e : Ev} {n : Nat} (h1 : ∀ j x, n ≤ j → x ∈ L.getD j [] → dep x e = false) (h2 : n ≠ 0 → ∃ x ∈ L.getD (n - 1) [], dep x e = true) : place L e = n := by
  apply Nat.le_antisymm
  · rcases Nat.lt_or_ge n (place L e) with h | h
    · obtain ⟨x, hx, hd⟩ := place_dep (L := L) (e := e) (by omega)
      rw [h1 _ x (by omega) hx] at hd
      cases hd
    · exact h
  · rcases Nat.lt_or_ge (place L e) n with h | h
    · obtain ⟨x, hx, hd⟩ := h2 (by omega)
      rw [place_free (by omega) x hx] at hd
      cases hd
    · exact h
theorem place_add {L : List (List Ev)} {n : Nat} (hn : n ≤ L.length) {x y : Ev} (h : dep x y = false) : place (addL L n x) y = place L y := by
  refine place_unique (fun j z hj hz => ?_) (fun h0 => ?_)
  · rw [addL_getD hn] at hz
    split at hz
    · rename_i e
      rcases List.mem_append.1 hz with hz | hz
      · exact place_free (e ▸ hj) z hz
      · rw [List.mem_singleton] at hz; subst hz; exact h
    · exact place_free hj z hz
  · obtain ⟨z, hz, hd⟩ := place_dep h0
    refine ⟨z, ?_, hd⟩
    rw [addL_getD hn]
    split
    · rename_i e; rw [← e]; exact List.mem_append_left _ hz
    · exact hz
theorem swap_lik (L : List (List Ev)) {x y : Ev} (h : dep x y = false) : Lik (grow L [x, y]) (grow L [y, x]) := by
  have hx := place_le L x
  have hy := place_le L y
  have h' : dep y x = false := by rw [dep_comm]; exact h
  have e1 : grow L [x, y] = addL (addL L (place L x) x) (place L y) y := by unfold grow; simp only [List.foldl_cons, List.foldl_nil]; rw [place_add hx h]
  have e2 : grow L [y, x] = addL (addL L (place L y) y) (place L x) x := by unfold grow; simp only [List.foldl_cons, List.foldl_nil]; rw [place_add hy h']
  rw [e1, e2]
  have l1 : place L y ≤ (addL L (place L x) x).length := by rw [addL_len hx]; split <;> omega
  have l2 : place L x ≤ (addL L (place L y) y).length := by rw [addL_len hy]; split <;> omega
  refine ⟨?_, fun j => ?_⟩
  · rw [addL_len l1, addL_len l2, addL_len hx, addL_len hy]
    by_cases a : place L x = L.length <;> by_cases b : place L y = L.length <;> simp [a, b] <;> omega
  · rw [addL_getD l1, addL_getD l2, addL_getD hx, addL_getD hy, addL_getD hx, addL_getD hy]
    by_cases a : j = place L x <;> by_cases b : j = place L y
    · subst a
      rw [if_pos b, if_pos rfl, if_pos b.symm, if_pos b]
      simp only [List.append_assoc]
      rw [← b]
      exact List.perm_append_comm.append_left _
    · subst a
      rw [if_neg b, if_pos rfl, if_pos rfl, if_neg b]
    · subst b
      rw [if_pos rfl, if_neg a, if_neg a, if_pos rfl]
    · rw [if_neg b, if_neg a, if_neg a, if_neg b]
theorem levU_append (l m : List Ev) : levU (l ++ m) = grow (levU l) m := by unfold levU grow; rw [List.foldl_append]
theorem eqv_lik {l m : List Ev} (h : Eqv l m) : Lik (levU l) (levU m) := by
  induction h with
  | refl l => exact .refl _
  | symm _ ih => exact ih.symm
  | trans _ _ ih1 ih2 => exact ih1.trans ih2
  | swap l r x y h =>
    have e1 : l ++ x :: y :: r = (l ++ [x, y]) ++ r := by simp
    have e2 : l ++ y :: x :: r = (l ++ [y, x]) ++ r := by simp
    rw [e1, e2, levU_append (l ++ [x, y]), levU_append (l ++ [y, x]), levU_append l, levU_append l]
    exact (swap_lik (levU l) h).grow r
theorem ext_getD {α : Type} {L M : List α} (d : α) (h1 : L.length = M.length) (h2 : ∀ j, L.getD j d = M.getD j d) : L = M := by
  apply List.ext_getElem h1
  intro j hj hj'
  have := h2 j
  rw [List.getD_eq_getElem?_getD, List.getD_eq_getElem?_getD, List.getElem?_eq_getElem hj, List.getElem?_eq_getElem hj'] at this
  exact this
theorem lik_lev {l m : List Ev} (h : Lik (levU l) (levU m)) : lev l = lev m := by
  refine ext_getD [] (by rw [lev_len, lev_len]; exact h.1) (fun j => ?_)
  have hp : ((lev l).getD j []).Perm ((lev m).getD j []) := by
    rw [lev_getD, lev_getD]
    exact (sortT_perm _).trans ((h.2 j).trans (sortT_perm _).symm)
  exact sorted_one hp (lev_sorted l j) (lev_sorted m j) (apart_threads (lev_apart l j))
theorem eqv_same_lev {l m : List Ev} (h : Eqv l m) : lev l = lev m := lik_lev (eqv_lik h)
theorem lev_again (l : List Ev) : lev (lev l).flatten = lev l := (eqv_same_lev (eqv_lev l)).symm
theorem lev_eqv {l m : List Ev} (h : lev l = lev m) : Eqv l m := (eqv_lev l).trans (h ▸ (eqv_lev m).symm)
theorem rights_perm {l m : List Ev} (h : l.Perm m) : rights l = rights m := by
  unfold rights
  rw [Bool.eq_iff_iff, List.all_eq_true, List.all_eq_true]
  exact ⟨fun g x hx => g x (h.mem_iff.2 hx), fun g x hx => g x (h.mem_iff.1 hx)⟩
theorem okL_lev {l : List Ev} (h : okRow l = true) : okL (lev l) = true := by
  unfold okRow at h
  simp only [Bool.and_eq_true, decide_eq_true_eq] at h
  unfold okL
  rw [lev_again, (lev_flat l).length_eq, rights_perm (lev_flat l)]
  simp [h.1, h.2]
theorem key_enc {l : List Ev} (h : okRow l = true) : key l = enc (lev l) := by unfold key printL; rw [if_pos h, if_pos (okL_lev h)]
theorem key_iff {l m : List Ev} (h : okRow l = true) (h' : okRow m = true) : key l = key m ↔ Eqv l m := by
  rw [key_enc h, key_enc h']
  exact ⟨fun e => lev_eqv (enc_inj (okL_lev h) (okL_lev h') e), fun e => by rw [eqv_same_lev e]⟩
end Fo
end Go.Proofs.YtckdofjpoajblaaGreat
namespace Go.Proofs.YtckdofjpoajblaaGreat
namespace Fo
set_option linter.unusedVariables false
def sup {α : Type} (q : List α) (p : α → Bool) (f : α → Nat) : Nat := q.foldl (fun n x => if p x then max n (f x) else n) 0
theorem sup_aux {α : Type} (q : List α) (p : α → Bool) (f : α → Nat) : ∀ n, n ≤ q.foldl (fun n x => if p x then max n (f x) else n) n ∧ (∀ x ∈ q, p x = true → f x ≤ q.foldl (fun n x => if p x then max n (f x) else n) n) ∧
    ∀ m, n ≤ m → (∀ x ∈ q, p x = true → f x ≤ m) → q.foldl (fun n x => if p x then max n (f x) else n) n ≤ m := by
  induction q with
  | nil => intro n; exact ⟨Nat.le_refl _, fun x h => (by cases h), fun m h _ => h⟩
  | cons x q ih =>
    intro n
    rw [List.foldl_cons]
    obtain ⟨h1, h2, h3⟩ := ih (if p x then max n (f x) else n)
    refine ⟨Nat.le_trans (by split <;> omega) h1, fun y hy hp => ?_, fun m hm hq => h3 m ?_ (fun y hy => hq y (List.mem_cons_of_mem _ hy))⟩
    · rcases List.mem_cons.1 hy with rfl | hy
      · rw [if_pos hp] at h1 ⊢; exact Nat.le_trans (by omega) h1
      · exact h2 y hy hp
    · split
      · rename_i hp; have := hq x List.mem_cons_self hp; omega
      · exact hm
theorem sup_ge {α : Type} {q : List α} {p : α → Bool} {f : α → Nat} {x : α} (hx : x ∈ q) (hp : p x = true) : f x ≤ sup q p f := (sup_aux q p f 0).2.1 x hx hp
theorem sup_le {α : Type} {q : List α} {p : α → Bool} {f : α → Nat} {m : Nat} (h : ∀ x ∈ q, p x = true → f x ≤ m) : sup q p f ≤ m := (sup_aux q p f 0).2.2 m (Nat.zero_le _) h
theorem sup_pos {α : Type} {q : List α} {p : α → Bool} {f : α → Nat} (h : 0 < sup q p f) : ∃ x ∈ q, p x = true ∧ f x = sup q p f := by
  refine Classical.byContradiction fun hc => ?_
  have : sup q p f ≤ sup q p f - 1 := sup_le (fun x hx hp => by
    have h1 := sup_ge (f := f) hx hp
    have h2 : f x ≠ sup q p f := fun e => hc ⟨x, hx, hp, e⟩
    omega)
  omega
theorem sup_perm {α : Type} {q r : List α} {p : α → Bool} {f : α → Nat} (h : q.Perm r) : sup q p f = sup r p f :=
  Nat.le_antisymm (sup_le fun x hx hp => sup_ge (h.mem_iff.1 hx) hp) (sup_le fun x hx hp => sup_ge (h.mem_iff.2 hx) hp)
theorem sup_snoc {α : Type} (q : List α) (x : α) (p : α → Bool) (f : α → Nat) : sup (q ++ [x]) p f = if p x then max (sup q p f) (f x) else sup q p f := by unfold sup; rw [List.foldl_append]; rfl
structure Ent where
  e : Ev
  c : Nat → Nat
def Ent.num (p : Ent) : Nat := p.c p.e.t.toNat
def clk (S : List Ent) (e : Ev) : Nat → Nat := fun t => sup S (fun p => dep p.e e) (fun p => p.c t) + if t = e.t.toNat then 1 else 0
def ents_ (S : List Ent) (l : List Ev) : List Ent := l.foldl (fun S e => S ++ [⟨e, clk S e⟩]) S
def cl (l : List Ev) : List Ent := ents_ [] l
theorem cl_snoc (l : List Ev) (e : Ev) : cl (l ++ [e]) = cl l ++ [⟨e, clk (cl l) e⟩] := by unfold cl ents_; rw [List.foldl_append]; rfl
theorem cl_append (l m : List Ev) : cl (l ++ m) = ents_ (cl l) m := by unfold cl ents_; rw [List.foldl_append]
theorem cl_len (l : List Ev) : (cl l).length = l.length := snoc_ind (p := fun l => (cl l).length = l.length) rfl (fun l e h => by rw [cl_snoc]; simp [h]) l
theorem cl_ev (l : List Ev) : (cl l).map Ent.e = l := snoc_ind (p := fun l => (cl l).map Ent.e = l) rfl (fun l e h => by rw [cl_snoc]; simp [h]) l
theorem clk_perm {S T : List Ent} (h : S.Perm T) (e : Ev) : clk S e = clk T e := by unfold clk; funext t; rw [sup_perm h]
theorem clk_skip (S : List Ent) (p : Ent) (e : Ev) (h : dep p.e e = false) : clk (S ++ [p]) e = clk S e := by
  unfold clk
  funext t
  rw [sup_snoc, h]
  rfl
theorem ents_perm {S T : List Ent} (h : S.Perm T) : ∀ l, (ents_ S l).Perm (ents_ T l) := by
  intro l
  induction l generalizing S T with
  | nil => exact h
  | cons e l ih =>
    unfold ents_
    rw [List.foldl_cons, List.foldl_cons]
    refine ih ?_
    rw [clk_perm h]
    exact h.append_right _
theorem eqv_cl {l m : List Ev} (h : Eqv l m) : (cl l).Perm (cl m) := by
  induction h with
  | refl l => exact .refl _
  | symm _ ih => exact ih.symm
  | trans _ _ ih1 ih2 => exact ih1.trans ih2
  | swap l r x y h =>
    have h' : dep y x = false := by rw [dep_comm]; exact h
    have e1 : l ++ x :: y :: r = (l ++ [x, y]) ++ r := by simp
    have e2 : l ++ y :: x :: r = (l ++ [y, x]) ++ r := by simp
    rw [e1, e2, cl_append (l ++ [x, y]), cl_append (l ++ [y, x])]
    refine ents_perm ?_ r
    have f1 : cl (l ++ [x, y]) = cl l ++ [⟨x, clk (cl l) x⟩] ++ [⟨y, clk (cl l) y⟩] := by
      rw [show l ++ [x, y] = (l ++ [x]) ++ [y] by simp, cl_snoc, cl_snoc, clk_skip _ _ _ h]
    have f2 : cl (l ++ [y, x]) = cl l ++ [⟨y, clk (cl l) y⟩] ++ [⟨x, clk (cl l) x⟩] := by
      rw [show l ++ [y, x] = (l ++ [y]) ++ [x] by simp, cl_snoc, cl_snoc, clk_skip _ _ _ h']
    rw [f1, f2, List.append_assoc, List.append_assoc]
    exact (List.Perm.swap _ _ _).append_left _
def cnt_ (l : List Ev) (t : Nat) : Nat := (l.filter fun e => decide (e.t.toNat = t)).length
theorem cnt_snoc (l : List Ev) (e : Ev) (t : Nat) : cnt_ (l ++ [e]) t = cnt_ l t + if e.t.toNat = t then 1 else 0 := by
  unfold cnt_
  rw [List.filter_append, List.length_append]
  congr 1
  by_cases h : e.t.toNat = t <;> simp [h]
structure ClkOk (l : List Ev) : Prop where
  /-- no clock counts more of a thread than there are -/
  le : ∀ p ∈ cl l, ∀ t, p.c t ≤ cnt_ l t
  /-- the thread's last one counts all -/
  last : ∀ t, 0 < cnt_ l t → ∃ p ∈ cl l, p.e.t.toNat = t ∧ p.num = cnt_ l t
  /-- a thread's event is told by its number -/
  one : (cl l).Pairwise (fun p q => ¬ (p.e.t = q.e.t ∧ p.num = q.num))
  /-- what is known by one that is known is known; what is known that isn't it stands ahead, with less -/
  closed : ∀ p ∈ cl l, ∀ t n, 0 < n → n ≤ p.c t → ∃ q ∈ cl l, q.e.t.toNat = t ∧ q.num = n ∧ ∀ u, q.c u ≤ p.c u
  pos : ∀ p ∈ cl l, 0 < p.num
theorem dep_same {a b : Ev} (ha : 0 ≤ a.t) (hb : 0 ≤ b.t) (h : a.t.toNat = b.t.toNat) : dep a b = true := dep_thread (by omega)
theorem clkOk (l : List Ev) (hr : ∀ e ∈ l, 0 ≤ e.t) : ClkOk l := by
  revert hr
  refine snoc_ind (p := fun l => (∀ e ∈ l, 0 ≤ e.t) → ClkOk l) (fun _ => ⟨fun p h => (by cases h), fun t h => (by simp [cnt_] at h), List.Pairwise.nil, fun p h => (by cases h), fun p h => (by cases h)⟩) (fun l e ih hr => ?_) l
  have h := ih (fun x hx => hr x (by simp [hx]))
  have he := hr e (by simp)
  have hev : ∀ p ∈ cl l, p.e ∈ l := fun p hp => by
    have : p.e ∈ (cl l).map Ent.e := List.mem_map.2 ⟨p, hp, rfl⟩
    rwa [cl_ev] at this
  -- the new event's own number
  have hown : clk (cl l) e e.t.toNat = cnt_ l e.t.toNat + 1 := by
    unfold clk
    rw [if_pos rfl]
    congr 1
    apply Nat.le_antisymm
    · exact sup_le (fun p hp _ => h.le p hp _)
    · rcases Nat.eq_zero_or_pos (cnt_ l e.t.toNat) with h0 | h0
      · omega
      · obtain ⟨p, hp, h1, h2⟩ := h.last _ h0
        have hd : dep p.e e = true := dep_same (hr _ (by simp [hev p hp])) he h1
        have := sup_ge (q := cl l) (p := fun p => dep p.e e) (f := fun p => p.c e.t.toNat) hp hd
        unfold Ent.num at h2
        rw [h1] at h2
        omega
  have hother : ∀ t, t ≠ e.t.toNat → clk (cl l) e t = sup (cl l) (fun p => dep p.e e) (fun p => p.c t) := fun t ht => by unfold clk; rw [if_neg ht, Nat.add_zero]
  have hge : ∀ q ∈ cl l, dep q.e e = true → ∀ u, q.c u ≤ clk (cl l) e u := fun q hq hd u => by
    have := sup_ge (q := cl l) (p := fun p => dep p.e e) (f := fun p => p.c u) hq hd
    unfold clk
    omega
  refine ⟨fun p hp t => ?_, fun t ht => ?_, ?_, fun p hp t n hn hnp => ?_, fun p hp => ?_⟩
  · rw [cl_snoc] at hp
    rw [cnt_snoc]
    rcases List.mem_append.1 hp with hp | hp
    · have := h.le p hp t; omega
    · rw [List.mem_singleton] at hp
      subst hp
      simp only
      by_cases ht : t = e.t.toNat
      · subst ht; rw [hown, if_pos rfl]; omega
      · rw [hother t ht]
        have : sup (cl l) (fun p => dep p.e e) (fun p => p.c t) ≤ cnt_ l t := sup_le (fun p hp _ => h.le p hp t)
        omega
  · rw [cnt_snoc] at ht ⊢
    rw [cl_snoc]
    by_cases hte : e.t.toNat = t
    · rw [if_pos hte]
      exact ⟨⟨e, clk (cl l) e⟩, by simp, hte, by unfold Ent.num; simp only; rw [hown, hte]⟩
    · rw [if_neg hte] at ht ⊢
      obtain ⟨p, hp, h1, h2⟩ := h.last t (by omega)
      exact ⟨p, List.mem_append_left _ hp, h1, by omega⟩
  · rw [cl_snoc]
    refine List.pairwise_append.2 ⟨h.one, by simp, fun p hp q hq => ?_⟩
    rw [List.mem_singleton] at hq
    subst hq
    rintro ⟨h1, h2⟩
    have h3 := h.le p hp p.e.t.toNat
    unfold Ent.num at h2
    simp only at h2 h1
    rw [hown, h1] at h2
    rw [h1] at h3
    omega
  · rw [cl_snoc] at hp ⊢
    rcases List.mem_append.1 hp with hp | hp
    · obtain ⟨q, hq, h1, h2, h3⟩ := h.closed p hp t n hn hnp
      exact ⟨q, List.mem_append_left _ hq, h1, h2, h3⟩
    · rw [List.mem_singleton] at hp
      subst hp
      simp only at hnp
      by_cases hlast : t = e.t.toNat ∧ n = cnt_ l t + 1
      · obtain ⟨rfl, rfl⟩ := hlast
        exact ⟨⟨e, clk (cl l) e⟩, by simp, rfl, by unfold Ent.num; simp only; exact hown, fun u => Nat.le_refl _⟩
      · have hns : n ≤ sup (cl l) (fun p => dep p.e e) (fun p => p.c t) := by
          by_cases ht : t = e.t.toNat
          · have : n ≤ cnt_ l t := by
              rw [ht, hown] at hnp
              have : ¬ n = cnt_ l t + 1 := fun e1 => hlast ⟨ht, e1⟩
              rw [← ht] at hnp
              omega
            have h4 : clk (cl l) e t = sup (cl l) (fun p => dep p.e e) (fun p => p.c t) + 1 := by unfold clk; rw [if_pos ht]
            rw [ht, hown] at h4
            rw [← ht] at h4
            omega
          · rw [hother t ht] at hnp; exact hnp
        obtain ⟨p, hp, hd, hpe⟩ := sup_pos (show 0 < sup (cl l) (fun p => dep p.e e) (fun p => p.c t) by omega)
        obtain ⟨q, hq, h1, h2, h3⟩ := h.closed p hp t n hn (by omega)
        exact ⟨q, List.mem_append_left _ hq, h1, h2, fun u => Nat.le_trans (h3 u) (hge p hp hd u)⟩
  · rw [cl_snoc] at hp
    rcases List.mem_append.1 hp with hp | hp
    · exact h.pos p hp
    · rw [List.mem_singleton] at hp
      subst hp
      unfold Ent.num
      simp only
      rw [hown]
      omega
end Fo
end Go.Proofs.YtckdofjpoajblaaGreat
namespace Go.Proofs.YtckdofjpoajblaaGreat
namespace Fo
set_option linter.unusedVariables false
def zl (l : List Ev) : List (Ent × Nat) := (cl l).zip (ats l)
theorem pairwise_eq {α : Type} {R : α → α → Prop} {l : List α} (h : l.Pairwise R) (hs : ∀ a b, R a b → R b a) {a b : α} (ha : a ∈ l) (hb : b ∈ l) (hn : ¬ R a b) : a = b := by
  induction l with
  | nil => cases ha
  | cons x l ih =>
    obtain ⟨h1, h2⟩ := List.pairwise_cons.1 h
    rcases List.mem_cons.1 ha with ha' | ha' <;> rcases List.mem_cons.1 hb with hb' | hb'
    · rw [ha', hb']
    · subst ha'; exact (hn (h1 b hb')).elim
    · subst hb'; exact (hn (hs _ _ (h1 a ha'))).elim
    · exact ih h2 ha' hb'
def Pt (p q : Ent) : Prop := p.e.t = q.e.t ∧ p.num = q.num
theorem cl_one {l : List Ev} (hr : ∀ e ∈ l, 0 ≤ e.t) {p q : Ent} (hp : p ∈ cl l) (hq : q ∈ cl l) (h : Pt p q) : p = q :=
  pairwise_eq (clkOk l hr).one (fun a b hab h => hab ⟨h.1.symm, h.2.symm⟩) hp hq (fun hn => hn h)
theorem cl_t {l : List Ev} (hr : ∀ e ∈ l, 0 ≤ e.t) {p : Ent} (hp : p ∈ cl l) : 0 ≤ p.e.t := by
  have : p.e ∈ (cl l).map Ent.e := List.mem_map.2 ⟨p, hp, rfl⟩
  rw [cl_ev] at this
  exact hr _ this
end Fo
end Go.Proofs.YtckdofjpoajblaaGreat
namespace Go.Proofs.YtckdofjpoajblaaGreat
set_option linter.unusedVariables false
namespace Fo
end Fo
end Go.Proofs.YtckdofjpoajblaaGreat
namespace Go.Proofs.YtckdofjpoajblaaGreat
open Go.ChangeShapes Go.WideShapes Go.ChangeAt Go.RowKit
set_option linter.unusedVariables false
theorem pick_list {α : Type} {P : Nat → α → Prop} : ∀ n, (∀ j, j < n → ∃ x, P j x) → ∃ xs : List α, xs.length = n ∧ ∀ j x, xs[j]? = some x → P j x
  | 0, _ => ⟨[], rfl, fun j x h => by simp at h⟩
  | n + 1, h => by
    obtain ⟨xs, hl, hx⟩ := pick_list n (fun j hj => h j (by omega))
    obtain ⟨x, hp⟩ := h n (by omega)
    refine ⟨xs ++ [x], by simp [hl], fun j y hy => ?_⟩
    rcases Nat.lt_or_ge j xs.length with hj | hj
    · rw [List.getElem?_append_left hj] at hy
      exact hx j y hy
    · rw [List.getElem?_append_right hj] at hy
      have : j - xs.length = 0 := by
        rcases Nat.eq_zero_or_pos (j - xs.length) with h0 | h0
        · exact h0
        · rw [List.getElem?_eq_none (by simp; omega)] at hy; cases hy
      rw [this] at hy
      simp at hy
      subst hy
      have : j = n := by omega
      subst this
      exact hp
theorem mapM_some {α β : Type} {f : α → Option β} : ∀ {l : List α} {ys : List β}, l.mapM f = some ys → ∀ x ∈ l, ∃ y, f x = some y
  | [], _, _, x, hx => by cases hx
  | a :: l, ys, h, x, hx => by
    rw [List.mapM_cons] at h
    cases ha : f a with
    | none => rw [ha] at h; cases h
    | some b =>
      rw [ha] at h
      cases hl : l.mapM f with
      | none => rw [hl] at h; cases h
      | some bs =>
        rcases List.mem_cons.1 hx with rfl | hx
        · exact ⟨b, ha⟩
        · exact mapM_some hl x hx
theorem mapM_get {α β : Type} {f : α → Option β} : ∀ {l : List α} {ys : List β}, l.mapM f = some ys → ys.length = l.length ∧ ∀ (i : Nat) x, l[i]? = some x → ys[i]? = f x
  | [], ys, h => by
    rw [List.mapM_nil] at h
    cases h
    exact ⟨rfl, fun i x h => by simp at h⟩
  | a :: l, ys, h => by
    rw [List.mapM_cons] at h
    cases ha : f a with
    | none => rw [ha] at h; cases h
    | some b =>
      rw [ha] at h
      cases hl : l.mapM f with
      | none => rw [hl] at h; cases h
      | some bs =>
        rw [hl] at h
        cases h
        obtain ⟨h1, h2⟩ := mapM_get hl
        refine ⟨by simp [h1], fun i x hx => ?_⟩
        cases i with
        | zero => simp at hx; subst hx; simp [ha]
        | succ i => simpa using h2 i x (by simpa using hx)
section
variable {H : Type} {enc : TypeId × Value → H} {P : Program} {w : World} {base : Nat} {spare : Nat → Bool} {held : Bool} {fuel : Nat} {t e : TypeId} {cs : List Value} {y : DataW H × List MemPlace}
theorem tr_int {k : IntKind} (ht : P.underlying t = some (.int k)) (h : DataW.trod enc P w base spare held fuel t cs = some y) : ∃ n, cs = [.int k n] ∧ (Lit.int k n).wf = true := by
  cases fuel with
  | zero => simp [DataW.trod] at h
  | succ fuel =>
    unfold DataW.trod at h
    rw [ht] at h
    split at h <;> simp_all
theorem tr_struct {fs : Array Field} (ht : P.underlying t = some (.struct fs)) (h : DataW.trod enc P w base spare held fuel t cs = some y) :
    cs.length = P.cellsOf t ∧ ∃ fuel', ∀ f ∈ fs.toList, ∃ y', DataW.trod enc P w base spare held fuel' f.type ((cs.drop f.offset).take (P.cellsOf f.type)) = some y' := by
  cases fuel with
  | zero => simp [DataW.trod] at h
  | succ fuel =>
    unfold DataW.trod at h
    rw [ht] at h
    split at h <;> simp_all
    obtain ⟨hl, ys, hm, _⟩ := h
    exact ⟨fuel, fun f hf => by obtain ⟨⟨a, b⟩, h⟩ := mapM_some hm f (by simpa using hf); exact ⟨a, b, h⟩⟩
theorem tr_slice (ht : P.underlying t = some (.slice e)) {A : Option Addr} {n cap : Nat} (h : DataW.trod enc P w base spare held fuel t [.slice A n cap] = some y) :
    n ≤ cap ∧ cap ≤ maxLen ∧ (A = none → n = 0 ∧ cap = 0) ∧ ∃ fuel', ∀ j, j < n → ∃ a, A = some a ∧ ∃ c y', (w.cells? base (a.add (j * P.cellsOf e)) (P.cellsOf e)) = some c ∧ DataW.trod enc P w base spare held fuel' e c = some y' := by
  cases fuel with
  | zero => simp [DataW.trod] at h
  | succ fuel =>
    unfold DataW.trod at h
    rw [ht] at h
    cases A with
    | none =>
      cases n with
      | succ n => simp at h
      | zero =>
        cases cap with
        | succ n => simp at h
        | zero => exact ⟨by omega, by simp [maxLen], fun _ => ⟨rfl, rfl⟩, fuel, fun j hj => by omega⟩
    | some a =>
      simp only at h
      split at h
      · rename_i hh
        obtain ⟨hb, h1, h2⟩ := hh
        rw [Option.bind_eq_some_iff] at h
        obtain ⟨elems, hm, _⟩ := h
        refine ⟨h1, h2, fun h => (by cases h), fuel, fun j hj => ⟨a, rfl, ?_⟩⟩
        obtain ⟨y', hy⟩ := mapM_some hm j (by simpa using hj)
        cases hc : w.cells? base (a.add (j * P.cellsOf e)) (P.cellsOf e) with
        | none => rw [hc] at hy; cases hy
        | some c => rw [hc] at hy; exact ⟨c, _, rfl, hy⟩
      · cases h
end
theorem Rd.below {w w' : World} {sz : Nat} {A : Option Addr} {n : Nat} {cs : List Value} (h : Rd w sz A n cs) {B : Nat} (hb : Below B w w') (hB : w.heap.size ≤ B) : Rd w' sz A n cs := by
  refine ⟨h.1, fun h0 => ?_⟩
  obtain ⟨g, o, hA, hg, hc⟩ := h.2 h0
  exact ⟨g, o, hA, Nat.lt_of_lt_of_le hg hb.size, fun j hj => (World.cell?_of_block (hb.block g (by omega))).trans (hc j hj)⟩
def RdB (w : World) (B sz : Nat) (A : Option Addr) (n : Nat) (cs : List Value) : Prop :=
  cs.length = n * sz ∧ (0 < n * sz → ∃ g o, A = some ⟨g, o, none⟩ ∧ g < B ∧ ∀ j, j < n * sz → w.cell? ⟨g, o + j, none⟩ = cs[j]?)
theorem Rd.toB {w : World} {sz : Nat} {A : Option Addr} {n : Nat} {cs : List Value} (h : Rd w sz A n cs) : RdB w w.heap.size sz A n cs := h
theorem RdB.below {w w' : World} {B sz : Nat} {A : Option Addr} {n : Nat} {cs : List Value} (h : RdB w B sz A n cs) (hb : Below B w w') : RdB w' B sz A n cs := by
  refine ⟨h.1, fun h0 => ?_⟩
  obtain ⟨g, o, hA, hg, hc⟩ := h.2 h0
  exact ⟨g, o, hA, hg, fun j hj => (World.cell?_of_block (hb.block g hg)).trans (hc j hj)⟩
section
variable {H : Type} {enc : TypeId × Value → H} {P : Program} {w : World} {base : Nat} {spare : Nat → Bool} {held : Bool} {fuel : Nat} {t e : TypeId} {cs : List Value} {y : DataW H × List MemPlace}
theorem cells_of {w : World} {base n : Nat} {a : Addr} {c : List Value} (h : w.cells? base a n = some c) : c.length = n ∧ ∀ i, i < n → w.cell? (a.add i) = c[i]? := by
  unfold World.cells? at h
  split at h
  · obtain ⟨h1, h2⟩ := mapM_get h
    refine ⟨by simpa using h1, fun i hi => ?_⟩
    exact (h2 i i (by simp [hi])).symm
  · cases h
theorem tr_list {α : Type} {f : α → List Value} {good : α → Prop} {sz : Nat} (hsz : 0 < sz) (ht : P.underlying t = some (.slice e)) (hcs : P.cellsOf e = sz)
    (hel : ∀ fuel c y, c.length = sz → DataW.trod enc P w base spare held fuel e c = some y → ∃ x, c = f x ∧ good x)
    {A : Option Addr} {n cap : Nat} (h : DataW.trod enc P w base spare held fuel t [.slice A n cap] = some y) :
    ∃ xs : List α, xs.length = n ∧ (∀ x ∈ xs, good x) ∧ Rd w sz A n (xs.flatMap f) ∧ n ≤ cap ∧ cap ≤ maxLen := by
  obtain ⟨h1, h2, h3, fuel', h4⟩ := tr_slice ht h
  rw [hcs] at h4
  obtain ⟨xs, hl, hx⟩ := pick_list (P := fun j x => ∃ a, A = some a ∧ (f x).length = sz ∧ good x ∧ ∀ i, i < sz → w.cell? ((a.add (j * sz)).add i) = (f x)[i]?) n (fun j hj => by
    obtain ⟨a, hA, c, y', hc, hy⟩ := h4 j hj
    obtain ⟨hcl, hci⟩ := cells_of hc
    obtain ⟨x, rfl, hg⟩ := hel fuel' c y' hcl hy
    exact ⟨x, a, hA, hcl, hg, hci⟩)
  have hlen : ∀ x ∈ xs, (f x).length = sz := fun x hm => by
    obtain ⟨j, hj⟩ := List.getElem?_of_mem hm
    obtain ⟨a, _, h, _⟩ := hx j x hj
    exact h
  have hfl : (xs.flatMap f).length = n * sz := by
    rw [← hl]
    clear h4 hx hl
    induction xs with
    | nil => simp
    | cons x xs ih =>
      rw [List.flatMap_cons, List.length_append, hlen x (by simp), ih (fun z hz => hlen z (by simp [hz])), List.length_cons, Nat.add_mul]
      omega
  refine ⟨xs, hl, fun x hm => ?_, ⟨hfl, fun h0 => ?_⟩, h1, h2⟩
  · obtain ⟨j, hj⟩ := List.getElem?_of_mem hm
    obtain ⟨a, _, _, h, _⟩ := hx j x hj
    exact h
  · have hn : 0 < n := by
      rcases Nat.eq_zero_or_pos n with h | h
      · rw [h] at h0; simp at h0
      · exact h
    obtain ⟨a, hA, _, _, hc0⟩ := hx 0 _ (List.getElem?_eq_getElem (by omega))
    obtain ⟨g, o, s⟩ := a
    have hs : s = none := by
      have h5 := hc0 0 hsz
      have h6 : ((⟨g, o, s⟩ : Addr).add (0 * sz)).add 0 = ⟨g, o, s⟩ := by simp [Addr.add]
      rw [h6] at h5
      cases s with
      | none => rfl
      | some s =>
        have hl0 := hlen _ (List.getElem_mem (show 0 < xs.length by omega))
        rw [List.getElem?_eq_getElem (by omega)] at h5
        unfold World.cell? at h5
        split at h5 <;> simp at h5
    subst hs
    refine ⟨g, o, hA, ?_, fun j hj => ?_⟩
    · have h5 := hc0 0 hsz
      have hl0 := hlen _ (List.getElem_mem (show 0 < xs.length by omega))
      rw [List.getElem?_eq_getElem (by omega)] at h5
      have := World.block_lt_of_cell? w _ h5
      simpa [addr_add] using this
    · -- cell j is cell j % sz of element j / sz
      have hq : j / sz < xs.length := by rw [hl]; exact (Nat.div_lt_iff_lt_mul hsz).2 hj
      obtain ⟨a', hA', _, _, hcj⟩ := hx (j / sz) _ (List.getElem?_eq_getElem hq)
      rw [hA] at hA'
      injection hA' with hA'
      subst hA'
      have h5 := hcj (j % sz) (Nat.mod_lt _ hsz)
      rw [addr_add, addr_add] at h5
      have hdm : o + j / sz * sz + j % sz = o + j := by
        have := Nat.div_add_mod j sz
        rw [Nat.mul_comm] at this
        omega
      rw [hdm] at h5
      rw [h5]
      clear h5 hcj hc0 h4 hfl
      have key : ∀ (xs : List α) (hlen : ∀ x ∈ xs, (f x).length = sz) (q r : Nat) (hq : q < xs.length) (hr : r < sz), (f xs[q])[r]? = (xs.flatMap f)[q * sz + r]? := by
        intro xs
        induction xs with
        | nil => intro _ q r hq; cases hq
        | cons x xs ih =>
          intro hlen q r hq hr
          have hx0 := hlen x (by simp)
          cases q with
          | zero =>
            rw [List.flatMap_cons, List.getElem?_append_left (by omega)]
            simp
          | succ q =>
            rw [List.flatMap_cons, List.getElem?_append_right (by rw [hx0, Nat.add_mul]; omega)]
            have : (q + 1) * sz + r - (f x).length = q * sz + r := by rw [hx0, Nat.add_mul]; omega
            rw [this]
            simpa using ih (fun z hz => hlen z (by simp [hz])) q r (by simpa using hq) hr
      rw [key xs hlen (j / sz) (j % sz) hq (Nat.mod_lt _ hsz)]
      congr 1
      have := Nat.div_add_mod j sz
      rw [Nat.mul_comm] at this
      omega
end
theorem flat_get {α : Type} {f : α → List Value} {sz : Nat} (hf : ∀ x, (f x).length = sz) : ∀ (xs : List α) (q r : Nat) (hq : q < xs.length) (hr : r < sz), (xs.flatMap f)[q * sz + r]? = (f xs[q])[r]? := by
  intro xs
  induction xs with
  | nil => intro q r hq; cases hq
  | cons x xs ih =>
    intro q r hq hr
    cases q with
    | zero =>
      rw [List.flatMap_cons, List.getElem?_append_left (by rw [hf]; omega)]
      simp
    | succ q =>
      rw [List.flatMap_cons, List.getElem?_append_right (by rw [hf, Nat.add_mul]; omega)]
      have : (q + 1) * sz + r - (f x).length = q * sz + r := by rw [hf, Nat.add_mul]; omega
      rw [this]
      simpa using ih q r (by simpa using hq) hr
theorem flat_len {α : Type} {f : α → List Value} {sz : Nat} (hf : ∀ x, (f x).length = sz) (xs : List α) : (xs.flatMap f).length = xs.length * sz := by
  induction xs with
  | nil => simp
  | cons x xs ih => rw [List.flatMap_cons, List.length_append, hf, ih, List.length_cons, Nat.add_mul]; omega
theorem Row.rd {w : World} {e sz : Nat} {A : Option Addr} {n cap : Nat} {cs : List Value} (h : Row w e sz A n cap cs) : Rd w sz A n cs := by
  refine ⟨h.1, fun h0 => ?_⟩
  have hn : 0 < n := by
    rcases Nat.eq_zero_or_pos n with h1 | h1
    · rw [h1] at h0; simp at h0
    · exact h1
  obtain ⟨g, o, hA⟩ := h.some_of_pos (by have := h.2.1; omega)
  subst hA
  exact ⟨g, o, rfl, h.lt, fun j hj => h.cell j hj⟩
theorem u8_bounds {n : Int} (h : (Lit.int .u8 n).wf = true) : ∃ m : Nat, n = m ∧ m ≤ 255 := by
  have hx : 0 ≤ n ∧ n ≤ 255 := by simpa [Lit.wf, IntKind.min, IntKind.max, IntKind.signed, IntKind.bits] using h
  exact ⟨n.toNat, by omega, by omega⟩
theorem i64_bounds {n : Int} (h : (Lit.int .i64 n).wf = true) : -9223372036854775808 ≤ n ∧ n ≤ 9223372036854775807 := by
  simpa [Lit.wf, IntKind.min, IntKind.max, IntKind.signed, IntKind.bits] using h
end Go.Proofs.YtckdofjpoajblaaGreat
namespace Go.Proofs.YtckdofjpoajblaaGreat
open Go.RowKit
set_option linter.unusedVariables false
def encE (e : Ev) : List Value := [.int .i64 e.t, .int .i64 e.k, .int .i64 e.o, .bool e.f]
def valE (e : Ev) : Value := .agg #[.int .i64 e.t, .int .i64 e.k, .int .i64 e.o, .bool e.f]
def cls (e : Ev) : Int := if e.k = 2 ∨ e.k = 3 then 1 else if e.k = 4 ∨ e.k = 5 then 2 else 0
theorem cls_cases (e : Ev) : (cls e = 1 ∧ (e.k = 2 ∨ e.k = 3)) ∨ (cls e = 2 ∧ (e.k = 4 ∨ e.k = 5)) ∨ (cls e = 0 ∧ e.k ≠ 2 ∧ e.k ≠ 3 ∧ e.k ≠ 4 ∧ e.k ≠ 5) := by
  unfold cls
  by_cases h : e.k = 2 ∨ e.k = 3
  · rw [if_pos h]; exact .inl ⟨rfl, h⟩
  · by_cases h' : e.k = 4 ∨ e.k = 5
    · rw [if_neg h, if_pos h']; exact .inr (.inl ⟨rfl, h'⟩)
    · rw [if_neg h, if_neg h']; exact .inr (.inr ⟨rfl, by omega, by omega, by omega, by omega⟩)
theorem class_any (w : World) (e : Ev) : Calls Tryz.prog 186 #[valE e] w fun x w' => x = .returned (.int .i64 (cls e)) ∧ Below w.heap.size w w' := by
  obtain ⟨t, k, o, f⟩ := e
  have hb : ∀ O, Below w.heap.size w (w.alloc O) := fun O => (Below.refl _ _).alloc (Nat.le_refl _) _
  unfold valE cls
  simp only
  by_cases h2 : k = 2
  · subst h2
    go_enter Tryz.func186, Tryz.ntmps186
    go_wp2
    go_ret
    exact ⟨rfl, hb _⟩
  · by_cases h3 : k = 3
    · subst h3
      go_enter Tryz.func186, Tryz.ntmps186
      go_wp2
      go_ret
      exact ⟨rfl, hb _⟩
    · by_cases h4 : k = 4
      · subst h4
        go_enter Tryz.func186, Tryz.ntmps186
        go_wp2
        go_ret
        exact ⟨rfl, hb _⟩
      · by_cases h5 : k = 5
        · subst h5
          go_enter Tryz.func186, Tryz.ntmps186
          go_wp2
          go_ret
          exact ⟨rfl, hb _⟩
        · have e2 : (k == 2) = false := by simpa using h2
          have e3 : (k == 3) = false := by simpa using h3
          have e4 : (k == 4) = false := by simpa using h4
          have e5 : (k == 5) = false := by simpa using h5
          have hc : (if k = 2 ∨ k = 3 then (1 : Int) else if k = 4 ∨ k = 5 then 2 else 0) = 0 := by rw [if_neg (by omega), if_neg (by omega)]
          rw [hc]
          clear h2 h3 h4 h5 hc
          go_enter Tryz.func186, Tryz.ntmps186
          go_wp2
          go_ret
          exact ⟨rfl, hb _⟩
set_option maxHeartbeats 1000000 in
theorem right_any (w : World) (e : Ev) : Calls Tryz.prog 139 #[valE e] w fun x w' => x = .returned (.bool (Fo.right e)) ∧ Below w.heap.size w w' := by
  have hc := cls_cases e
  obtain ⟨w0, hw0⟩ : ∃ w0, w0 = w.alloc (Obj.cells #[.int .i64 e.t, .int .i64 e.k, .int .i64 e.o, .bool e.f] 51) := ⟨_, rfl⟩
  obtain ⟨X, hX⟩ : ∃ X, X = w.heap.size := ⟨_, rfl⟩
  have hk : w0.heap[X]? = some (.cells #[.int .i64 e.t, .int .i64 e.k, .int .i64 e.o, .bool e.f] 51 (0, 0)) := by rw [hw0, hX]; exact heap_alloc_new w _
  have hb0 : Below w.heap.size w w0 := by rw [hw0]; exact (Below.refl _ _).alloc (Nat.le_refl _) _
  have hcl := class_any w0 e
  unfold valE at hcl ⊢
  generalize cls e = c at *
  have c0 : w0.cell? ⟨X, 0, none⟩ = some (.int .i64 e.t) := by rw [cell_blk hk]; rfl
  have c1 : w0.cell? ⟨X, 1, none⟩ = some (.int .i64 e.k) := by rw [cell_blk hk]; rfl
  have c2 : w0.cell? ⟨X, 2, none⟩ = some (.int .i64 e.o) := by rw [cell_blk hk]; rfl
  have c3 : w0.cell? ⟨X, 3, none⟩ = some (.bool e.f) := by rw [cell_blk hk]; rfl
  have HCL := Lib.hid hcl
  have HK := Lib.hid hk
  have HB0 := Lib.hid hb0
  clear hcl hk hb0
  go_enter Tryz.func139, Tryz.ntmps139
  go_upto_region 2 with fail
  rw [← hw0, ← hX]
  have HX := Lib.hid hX
  clear hw0 hX
  go_wp2_with fail
  refine HCL.out.mono ?_
  rintro x w1 ⟨rfl, b1⟩
  have hk1 := (b1.block X (blk_lt HK.out)).trans HK.out
  have d0 : w1.cell? ⟨X, 0, none⟩ = some (.int .i64 e.t) := by rw [cell_blk hk1]; rfl
  have d1 : w1.cell? ⟨X, 1, none⟩ = some (.int .i64 e.k) := by rw [cell_blk hk1]; rfl
  have d2 : w1.cell? ⟨X, 2, none⟩ = some (.int .i64 e.o) := by rw [cell_blk hk1]; rfl
  have d3 : w1.cell? ⟨X, 3, none⟩ = some (.bool e.f) := by rw [cell_blk hk1]; rfl
  have hfin : Below w.heap.size w w1 := HB0.out.trans ⟨b1.os, b1.tape, b1.output, b1.size, fun i hi => b1.block i (by have := HB0.out.size; omega)⟩
  have HFIN := Lib.hid hfin
  clear b1 hk1 hfin c0 c1 c2 c3
  have HC := Lib.hid hc
  clear hc
  have fin : ∀ b : Bool, b = Fo.right e → Ending.returned (.bool b) = Ending.returned (.bool (Fo.right e)) ∧ Below w.heap.size w w1 := fun b hb => ⟨by rw [hb], HFIN.out⟩
  have FIN := Lib.hid fin
  clear fin
  rcases HC.out with ⟨rfl, hk⟩ | ⟨rfl, hk⟩ | ⟨rfl, hk⟩
  all_goals (have HKK := Lib.hid hk; clear hk)
  all_goals (go_wp2_with fail)
  all_goals (go_ret)
  all_goals (refine FIN.out _ ?_; have hkk := HKK.out; clear FIN HKK HFIN HC HB0 HK HCL HX d0 d1 d2 d3; unfold Fo.right; rw [Bool.eq_iff_iff, decide_eq_true_iff]; cases hf : e.f <;> simp [hf] at * <;> omega)
end Go.Proofs.YtckdofjpoajblaaGreat
namespace Go.Proofs.YtckdofjpoajblaaGreat
open Go.RowKit
set_option linter.unusedVariables false
theorem box2 (w : World) (a b : Ev) : ∃ W X Y, W = (w.alloc (Obj.cells #[.int .i64 a.t, .int .i64 a.k, .int .i64 a.o, .bool a.f] 51)).alloc (Obj.cells #[.int .i64 b.t, .int .i64 b.k, .int .i64 b.o, .bool b.f] 51) ∧ X = w.heap.size ∧ Y = w.heap.size + 1 ∧ Below w.heap.size w W ∧
    (∀ u, Below W.heap.size W u → (u.cell? ⟨X, 0, none⟩ = some (.int .i64 a.t) ∧ u.cell? ⟨X, 1, none⟩ = some (.int .i64 a.k) ∧ u.cell? ⟨X, 2, none⟩ = some (.int .i64 a.o) ∧ u.cell? ⟨X, 3, none⟩ = some (.bool a.f)) ∧
      (u.cell? ⟨Y, 0, none⟩ = some (.int .i64 b.t) ∧ u.cell? ⟨Y, 1, none⟩ = some (.int .i64 b.k) ∧ u.cell? ⟨Y, 2, none⟩ = some (.int .i64 b.o) ∧ u.cell? ⟨Y, 3, none⟩ = some (.bool b.f)) ∧ Below w.heap.size w u) := by
  refine ⟨_, _, _, rfl, rfl, rfl, ?_, fun u hu => ?_⟩
  · exact ((Below.refl _ _).alloc (Nat.le_refl _) _).alloc (by simp) _
  · have h1 : ((w.alloc (Obj.cells #[.int .i64 a.t, .int .i64 a.k, .int .i64 a.o, .bool a.f] 51)).alloc (Obj.cells #[.int .i64 b.t, .int .i64 b.k, .int .i64 b.o, .bool b.f] 51)).heap[w.heap.size]? = some (.cells #[.int .i64 a.t, .int .i64 a.k, .int .i64 a.o, .bool a.f] 51 (0, 0)) := by
      rw [heap_alloc_old _ _ (by simp), heap_alloc_new]
    have h2 : ((w.alloc (Obj.cells #[.int .i64 a.t, .int .i64 a.k, .int .i64 a.o, .bool a.f] 51)).alloc (Obj.cells #[.int .i64 b.t, .int .i64 b.k, .int .i64 b.o, .bool b.f] 51)).heap[w.heap.size + 1]? = some (.cells #[.int .i64 b.t, .int .i64 b.k, .int .i64 b.o, .bool b.f] 51 (0, 0)) := by
      have := heap_alloc_new (w.alloc (Obj.cells #[.int .i64 a.t, .int .i64 a.k, .int .i64 a.o, .bool a.f] 51)) (Obj.cells #[.int .i64 b.t, .int .i64 b.k, .int .i64 b.o, .bool b.f] 51)
      simpa using this
    have g1 := (hu.block _ (blk_lt h1)).trans h1
    have g2 := (hu.block _ (blk_lt h2)).trans h2
    refine ⟨⟨by rw [cell_blk g1]; rfl, by rw [cell_blk g1]; rfl, by rw [cell_blk g1]; rfl, by rw [cell_blk g1]; rfl⟩, ⟨by rw [cell_blk g2]; rfl, by rw [cell_blk g2]; rfl, by rw [cell_blk g2]; rfl, by rw [cell_blk g2]; rfl⟩, ?_⟩
    have hb : Below w.heap.size w ((w.alloc (Obj.cells #[.int .i64 a.t, .int .i64 a.k, .int .i64 a.o, .bool a.f] 51)).alloc (Obj.cells #[.int .i64 b.t, .int .i64 b.k, .int .i64 b.o, .bool b.f] 51)) := ((Below.refl _ _).alloc (Nat.le_refl _) _).alloc (by simp) _
    exact hb.trans ⟨hu.os, hu.tape, hu.output, hu.size, fun i hi => hu.block i (by have := hb.size; omega)⟩
theorem below2 {a b c : World} (h : Below a.heap.size a b) (k : Below b.heap.size b c) : Below a.heap.size a c := h.trans ⟨k.os, k.tape, k.output, k.size, fun i hi => k.block i (by have := h.size; omega)⟩
set_option maxHeartbeats 1000000 in
theorem depends_any (w : World) (a b : Ev) : Calls Tryz.prog 148 #[valE a, valE b] w fun x w' => x = .returned (.bool (Fo.dep a b)) ∧ Below w.heap.size w w' := by
  have ha := cls_cases a
  have hb := cls_cases b
  have HCA : Hid (∀ u, Calls Tryz.prog 186 #[valE a] u fun x w' => x = .returned (.int .i64 (cls a)) ∧ Below u.heap.size u w') := Lib.hid (fun u => class_any u a)
  have HCB : Hid (∀ u, Calls Tryz.prog 186 #[valE b] u fun x w' => x = .returned (.int .i64 (cls b)) ∧ Below u.heap.size u w') := Lib.hid (fun u => class_any u b)
  generalize cls a = ca at *
  generalize cls b = cb at *
  obtain ⟨W, X, Y, hW, hX, hY, hB, hcell⟩ := box2 w a b
  have hu := hcell W (Below.refl _ _)
  obtain ⟨⟨c0, c1, c2, c3⟩, ⟨d0, d1, d2, d3⟩, hw⟩ := hu
  unfold valE at HCA HCB ⊢
  go_enter Tryz.func148, Tryz.ntmps148
  go_upto_region 1 with fail
  rw [← hW, ← hY, ← hX]
  have HX := Lib.hid hX
  have HY := Lib.hid hY
  have HCELL := Lib.hid hcell
  have HA := Lib.hid ha
  have HB := Lib.hid hb
  clear hW hX hY hB hcell hw ha hb
  go_wp2_with fail
  refine (HCA.out _).mono ?_
  rintro x w1 ⟨rfl, b1⟩
  obtain ⟨⟨c0', c1', c2', c3'⟩, ⟨d0', d1', d2', d3'⟩, hw1⟩ := HCELL.out _ b1
  have HB1 := Lib.hid b1
  have HW1 := Lib.hid hw1
  clear c0 c1 c2 c3 d0 d1 d2 d3 b1 hw1
  have hcb := HCB.out w1
  have HCBW := Lib.hid hcb
  clear hcb
  have step : ∀ v, Below w1.heap.size w1 v → (v.cell? ⟨X, 1, none⟩ = some (.int .i64 a.k) ∧ v.cell? ⟨X, 2, none⟩ = some (.int .i64 a.o)) ∧ (v.cell? ⟨Y, 1, none⟩ = some (.int .i64 b.k) ∧ v.cell? ⟨Y, 2, none⟩ = some (.int .i64 b.o)) ∧ Below w.heap.size w v := fun v hv => by
    obtain ⟨⟨_, q1, q2, _⟩, ⟨_, r1, r2, _⟩, h⟩ := HCELL.out v (below2 HB1.out hv)
    exact ⟨⟨q1, q2⟩, ⟨r1, r2⟩, h⟩
  have STEP := Lib.hid step
  clear step
  have fin : ∀ (b' : Bool) v, b' = Fo.dep a b → Below w.heap.size w v → Ending.returned (.bool b') = Ending.returned (.bool (Fo.dep a b)) ∧ Below w.heap.size w v := fun b' v hb hv => ⟨by rw [hb], hv⟩
  have FIN := Lib.hid fin
  clear fin
  by_cases ht : a.t = b.t
  · have e1 : (a.t == b.t) = true := by simpa using ht
    have HT := Lib.hid ht
    clear ht
    go_wp2_with fail
    go_ret
    exact FIN.out _ _ (Fo.dep_thread HT.out).symm HW1.out
  · have e1 : (a.t == b.t) = false := by simpa using ht
    have HT := Lib.hid ht
    clear ht
    rcases HA.out with ⟨rfl, ha⟩ | ⟨rfl, ha⟩ | ⟨rfl, ha⟩
    rotate_left 2
    · have HA' := Lib.hid ha
      clear ha
      go_wp2_with fail
      go_ret
      refine FIN.out _ _ ?_ HW1.out
      have := HA'.out
      unfold Fo.dep Fo.memK Fo.mutK
      rw [decide_eq_false HT.out]
      simp [this.1, this.2.1, this.2.2.1, this.2.2.2]
    all_goals (have HA' := Lib.hid ha; clear ha)
    all_goals (go_wp2_with fail)
    all_goals (refine HCBW.out.mono ?_; rintro x w2 ⟨rfl, b2⟩; obtain ⟨⟨q1, q2⟩, ⟨r1, r2⟩, hw2⟩ := STEP.out w2 b2; have HW2 := Lib.hid hw2; clear b2 hw2 c1' c2' d1' d2')
    all_goals (rcases HB.out with ⟨rfl, hb⟩ | ⟨rfl, hb⟩ | ⟨rfl, hb⟩)
    all_goals (have HB' := Lib.hid hb; clear hb)
    all_goals (go_wp2_with fail)
    all_goals (go_ret)
    all_goals (refine FIN.out _ _ ?_ HW2.out; have ha := HA'.out; have hb := HB'.out; have ht := HT.out; clear FIN HA' HB' HT HA HB HCA HCB HCBW HCELL HB1 HW1 HW2 STEP HX HY q1 q2 r1 r2; unfold Fo.dep Fo.memK Fo.mutK; rw [decide_eq_false ht, Bool.eq_iff_iff]; simp at * <;> omega)
set_option maxHeartbeats 1000000 in
theorem refDepends_any (w : World) (a b : Ev) : Calls Tryz.prog 202 #[valE a, valE b] w fun x w' => x = .returned (.bool (Fo.dep a b)) ∧ Below w.heap.size w w' := by
  obtain ⟨W, X, Y, hW, hX, hY, hB, hcell⟩ := box2 w a b
  have hu := hcell W (Below.refl _ _)
  obtain ⟨⟨c0, c1, c2, c3⟩, ⟨d0, d1, d2, d3⟩, hw⟩ := hu
  unfold valE
  have fin : ∀ (b' : Bool), b' = Fo.dep a b → Ending.returned (.bool b') = Ending.returned (.bool (Fo.dep a b)) ∧ Below w.heap.size w W := fun b' hb => ⟨by rw [hb], hw⟩
  have FIN := Lib.hid fin
  clear fin hw
  go_enter Tryz.func202, Tryz.ntmps202
  go_upto_region 1 with fail
  rw [← hW, ← hY, ← hX]
  clear hW hX hY hB hcell
  by_cases ht : a.t = b.t
  · have e1 : (a.t == b.t) = true := by simpa using ht
    have HT := Lib.hid ht
    clear ht
    go_wp2_with fail
    go_ret
    exact FIN.out _ (Fo.dep_thread HT.out).symm
  · have e1 : (a.t == b.t) = false := by simpa using ht
    have HT := Lib.hid ht
    clear ht
    by_cases ho : a.o = b.o
    · have e2 : (a.o == b.o) = true := by simpa using ho
      have HO := Lib.hid ho
      clear ho
      go_wp2_with fail
      all_goals (go_ret)
      all_goals (refine FIN.out _ ?_; have ho := HO.out; have ht := HT.out; clear FIN HO HT c0 c1 c2 c3 d0 d1 d2 d3; unfold Fo.dep Fo.memK Fo.mutK; rw [decide_eq_false ht, decide_eq_true ho, Bool.eq_iff_iff]; simp at * <;> omega)
    · have e2 : (a.o == b.o) = false := by simpa using ho
      have HO := Lib.hid ho
      clear ho
      go_wp2_with fail
      go_ret
      refine FIN.out _ ?_
      unfold Fo.dep
      rw [decide_eq_false HT.out, decide_eq_false HO.out]
      rfl
end Go.Proofs.YtckdofjpoajblaaGreat
namespace Go.Proofs.YtckdofjpoajblaaGreat
open Go.RowKit
set_option linter.unusedVariables false
theorem encE_len (e : Ev) : (encE e).length = 4 := rfl
def EvAt (u : World) (g o : Nat) (e : Ev) : Prop := u.cell? ⟨g, o, none⟩ = some (.int .i64 e.t) ∧ u.cell? ⟨g, o + 1, none⟩ = some (.int .i64 e.k) ∧ u.cell? ⟨g, o + 2, none⟩ = some (.int .i64 e.o) ∧ u.cell? ⟨g, o + 3, none⟩ = some (.bool e.f)
theorem evs_cell {w : World} {B : Nat} {A : Option Addr} {l : List Ev} (h : RdB w B 4 A l.length (l.flatMap encE)) : ∀ k, (hk : k < l.length) → ∃ g o, A = some ⟨g, o, none⟩ ∧ g < B ∧ ∀ u, Below B w u → EvAt u g (o + k * 4) l[k] := fun k hk => by
  obtain ⟨g, o, hA, hg, hc⟩ := h.2 (by omega)
  refine ⟨g, o, hA, hg, fun u hu => ?_⟩
  have hcl : ∀ r, r < 4 → u.cell? ⟨g, o + k * 4 + r, none⟩ = (encE l[k])[r]? := fun r hr => by
    rw [Nat.add_assoc, World.cell?_of_block (hu.block g hg), hc (k * 4 + r) (by omega), flat_get (f := encE) (sz := 4) encE_len l k r hk hr]
  have v0 := hcl 0 (by omega)
  have v1 := hcl 1 (by omega)
  have v2 := hcl 2 (by omega)
  have v3 := hcl 3 (by omega)
  simp only [encE, List.getElem?_cons_succ, List.getElem?_cons_zero, Nat.add_zero] at v0 v1 v2 v3
  exact ⟨v0, v1, v2, v3⟩
set_option maxHeartbeats 1000000 in
theorem refRight_any (w : World) (e : Ev) : Calls Tryz.prog 199 #[valE e] w fun x w' => x = .returned (.bool (Fo.right e)) ∧ Below w.heap.size w w' := by
  have hb : ∀ O, Below w.heap.size w (w.alloc O) := fun O => (Below.refl _ _).alloc (Nat.le_refl _) _
  obtain ⟨w0, hw0⟩ : ∃ w0, w0 = w.alloc (Obj.cells #[.int .i64 e.t, .int .i64 e.k, .int .i64 e.o, .bool e.f] 51) := ⟨_, rfl⟩
  obtain ⟨X, hX⟩ : ∃ X, X = w.heap.size := ⟨_, rfl⟩
  have hk : w0.heap[X]? = some (.cells #[.int .i64 e.t, .int .i64 e.k, .int .i64 e.o, .bool e.f] 51 (0, 0)) := by rw [hw0, hX]; exact heap_alloc_new w _
  have hb0 : Below w.heap.size w w0 := by rw [hw0]; exact hb _
  have c0 : w0.cell? ⟨X, 0, none⟩ = some (.int .i64 e.t) := by rw [cell_blk hk]; rfl
  have c1 : w0.cell? ⟨X, 1, none⟩ = some (.int .i64 e.k) := by rw [cell_blk hk]; rfl
  have c2 : w0.cell? ⟨X, 2, none⟩ = some (.int .i64 e.o) := by rw [cell_blk hk]; rfl
  have c3 : w0.cell? ⟨X, 3, none⟩ = some (.bool e.f) := by rw [cell_blk hk]; rfl
  unfold valE
  have fin : ∀ b : Bool, b = Fo.right e → Ending.returned (.bool b) = Ending.returned (.bool (Fo.right e)) ∧ Below w.heap.size w w0 := fun b hb => ⟨by rw [hb], hb0⟩
  have FIN := Lib.hid fin
  clear fin hb0 hk hb
  go_enter Tryz.func199, Tryz.ntmps199
  go_upto_region 1 with fail
  rw [← hw0, ← hX]
  clear hw0 hX
  by_cases h1 : e.k = 1
  · have e1 : (e.k == 1) = true := by simpa using h1
    have H1 := Lib.hid h1
    clear h1
    go_wp2_with fail
    all_goals (go_ret)
    all_goals (refine FIN.out _ ?_; have h1 := H1.out; clear FIN H1 c0 c1 c2 c3; unfold Fo.right; rw [Bool.eq_iff_iff, decide_eq_true_iff]; cases hf : e.f <;> simp [hf] at * <;> omega)
  · have e1 : (e.k == 1) = false := by simpa using h1
    have H1 := Lib.hid h1
    clear h1
    go_wp2_with fail
    all_goals (go_ret)
    all_goals (refine FIN.out _ ?_; have h1 := H1.out; clear FIN H1 c0 c1 c2 c3; unfold Fo.right; rw [Bool.eq_iff_iff, decide_eq_true_iff]; cases hf : e.f <;> simp [hf] at * <;> omega)
theorem rights_take {l : List Ev} {k : Nat} (hk : k < l.length) : Fo.rights (l.take (k + 1)) = (Fo.rights (l.take k) && Fo.right l[k]) := by
  unfold Fo.rights
  rw [List.take_add_one, List.getElem?_eq_getElem hk, List.all_append]
  simp
theorem rights_false {l : List Ev} {k : Nat} (hk : k < l.length) (h : Fo.right l[k] = false) : Fo.rights l = false := by
  unfold Fo.rights
  rw [List.all_eq_false]
  exact ⟨l[k], List.getElem_mem hk, by simp [h]⟩
theorem rows_any (w : World) (A : Option Addr) (cap : Nat) (l : List Ev) (hr : Rd w 4 A l.length (l.flatMap encE)) (hl : l.length < 4611686018427387904) :
    Calls Tryz.prog 155 #[.slice A l.length cap] w fun x w' => x = .returned (.bool (Fo.rights l)) ∧ Below w.heap.size w w' := by
  have HC := Lib.hid (evs_cell hr.toB)
  clear hr
  go_enter Tryz.func155, Tryz.ntmps155
  go_wp2_with fail
  go_loopw [3] (fun v wr => ∃ k : Nat, k ≤ l.length ∧ v = .int .i64 k ∧ Hid (Fo.rights (l.take k) = true) ∧ Below w.heap.size w wr) (fun v _ => l.length - (intOf v).toNat)
  case atStart => exact ⟨0, Nat.zero_le _, rfl, Lib.hid rfl, Below.refl _ _⟩
  case round =>
    obtain ⟨k, hk, rfl, HRT, hb⟩ := hrel
    by_cases hlt : k < l.length
    · obtain ⟨g, o, rfl, hg, hcl⟩ := HC.out k hlt
      obtain ⟨v0, v1, v2, v3⟩ := hcl wr hb
      have k1 : (0 : Int) ≤ (k : Int) := Int.natCast_nonneg _
      have k2 : (k : Int) < (l.length : Int) := by omega
      have hcall := refRight_any wr l[k]
      have htk := rights_take hlt
      have hrf := rights_false hlt
      obtain ⟨b, hbb⟩ : ∃ b, b = Fo.right l[k] := ⟨_, rfl⟩
      rw [← hbb] at hcall htk hrf
      unfold valE at hcall
      have HCALL := Lib.hid hcall
      have HTK := Lib.hid htk
      have HRF := Lib.hid hrf
      have HB := Lib.hid hb
      clear hcall htk hrf hcl hbb hb
      go_wp2_with fail
      refine HCALL.out.mono ?_
      rintro x w1 ⟨rfl, b1⟩
      have hb2 : Below w.heap.size w w1 := HB.out.trans ⟨b1.os, b1.tape, b1.output, b1.size, fun i hi => b1.block i (by have := HB.out.size; omega)⟩
      have HB2 := Lib.hid hb2
      clear b1 hb2
      cases b with
      | true =>
        go_wp2_with fail
        go_roundw
        case rel => exact ⟨k + 1, by omega, by go_num, Lib.hid (by rw [HTK.out, HRT.out]; rfl), HB2.out⟩
        case measure => simp [intOf]; omega
      | false =>
        go_wp2_with fail
        go_ret
        exact ⟨by rw [HRF.out (by trivial)]; rfl, HB2.out⟩
    · have hkn : k = l.length := by omega
      have HK := Lib.hid hkn
      have HB := Lib.hid hb
      clear hkn hb
      go_wp2_with fail
      go_ret
      have := HRT.out
      rw [HK.out, List.take_length] at this
      exact ⟨by rw [this]; rfl, HB.out⟩
theorem any_take {l : List Ev} {p : Ev → Bool} {k : Nat} (hk : k < l.length) : (l.take (k + 1)).any p = ((l.take k).any p || p l[k]) := by
  rw [List.take_add_one, List.getElem?_eq_getElem hk, List.any_append]
  simp
theorem indexFunc_right1 (w : World) (A : Option Addr) (cap : Nat) (l : List Ev) (hr : Rd w 4 A l.length (l.flatMap encE)) (hl : l.length < 4611686018427387904) (p : Ev → Bool)
    (hf : ∀ u e, Below w.heap.size w u → Calls Tryz.prog 138 #[valE e] u fun x w' => x = .returned (.bool (p e)) ∧ Below u.heap.size u w') :
    Calls Tryz.prog 185 #[.slice A l.length cap, .func (.func 138) #[] #[]] w fun x w' => ∃ n : Int, x = .returned (.int .i64 n) ∧ ((0 ≤ n) ↔ l.any p = true) ∧ Below w.heap.size w w' := by
  have HC := Lib.hid (evs_cell hr.toB)
  have HF := Lib.hid hf
  clear hr hf
  go_enter Tryz.func185, Tryz.ntmps185
  go_wp2_with fail
  go_loopw [8] (fun v wr => ∃ k : Nat, k ≤ l.length ∧ v = .int .i64 k ∧ Hid ((l.take k).any p = false) ∧ Below w.heap.size w wr) (fun v _ => l.length - (intOf v).toNat)
  case atStart => exact ⟨0, Nat.zero_le _, rfl, Lib.hid rfl, Below.refl _ _⟩
  case round =>
    obtain ⟨k, hk, rfl, HRT, hb⟩ := hrel
    by_cases hlt : k < l.length
    · obtain ⟨g, o, rfl, hg, hcl⟩ := HC.out k hlt
      obtain ⟨v0, v1, v2, v3⟩ := hcl wr hb
      have k1 : (0 : Int) ≤ (k : Int) := Int.natCast_nonneg _
      have k2 : (k : Int) < (l.length : Int) := by omega
      have hcall := HF.out wr l[k] hb
      have htk := any_take (p := p) hlt
      obtain ⟨b, hbb⟩ : ∃ b, b = p l[k] := ⟨_, rfl⟩
      have hin : b = true → l.any p = true := fun h => List.any_eq_true.2 ⟨l[k], List.getElem_mem hlt, by rw [← hbb, h]⟩
      rw [← hbb] at hcall htk
      unfold valE at hcall
      have HCALL := Lib.hid hcall
      have HTK := Lib.hid htk
      have HIN := Lib.hid hin
      have HB := Lib.hid hb
      clear hcall htk hin hcl hbb hb
      go_wp2_with fail
      refine HCALL.out.mono ?_
      rintro x w1 ⟨rfl, b1⟩
      have hb2 : Below w.heap.size w w1 := HB.out.trans ⟨b1.os, b1.tape, b1.output, b1.size, fun i hi => b1.block i (by have := HB.out.size; omega)⟩
      have HB2 := Lib.hid hb2
      clear b1 hb2
      cases b with
      | true =>
        go_wp2_with fail
        go_ret
        exact ⟨k, rfl, ⟨fun _ => HIN.out (by trivial), fun _ => k1⟩, HB2.out⟩
      | false =>
        go_wp2_with fail
        go_roundw
        case rel => exact ⟨k + 1, by omega, by go_num, Lib.hid (by rw [HTK.out, HRT.out]; rfl), HB2.out⟩
        case measure => simp [intOf]; omega
    · have hkn : k = l.length := by omega
      have HK := Lib.hid hkn
      have HB := Lib.hid hb
      clear hkn hb
      go_wp2_with fail
      go_ret
      have := HRT.out
      rw [HK.out, List.take_length] at this
      exact ⟨-1, rfl, ⟨fun h => by omega, fun h => by rw [this] at h; cases h⟩, HB.out⟩
theorem containsFunc_right1 (w : World) (A : Option Addr) (cap : Nat) (l : List Ev) (hr : Rd w 4 A l.length (l.flatMap encE)) (hl : l.length < 4611686018427387904) (p : Ev → Bool)
    (hf : ∀ u e, Below w.heap.size w u → Calls Tryz.prog 138 #[valE e] u fun x w' => x = .returned (.bool (p e)) ∧ Below u.heap.size u w') :
    Calls Tryz.prog 137 #[.slice A l.length cap, .func (.func 138) #[] #[]] w fun x w' => x = .returned (.bool (l.any p)) ∧ Below w.heap.size w w' := by
  have H := Lib.hid (indexFunc_right1 w A cap l hr hl p hf)
  clear hr hf
  go_enter Tryz.func137, Tryz.ntmps137
  go_wp2_with fail
  refine H.out.mono ?_
  rintro x w1 ⟨n, rfl, hn, b1⟩
  have HN := Lib.hid hn
  have HB := Lib.hid b1
  clear hn b1
  go_wp2_with fail
  go_ret
  refine ⟨?_, HB.out⟩
  have : decide (0 ≤ n) = l.any p := by
    rw [Bool.eq_iff_iff, decide_eq_true_iff]; exact HN.out
  rw [← this]
  rfl
theorem indexFunc_lev1 (w : World) (X : Nat) (A : Option Addr) (cap : Nat) (l : List Ev) (hr : Rd w 4 A l.length (l.flatMap encE)) (hl : l.length < 4611686018427387904) (p : Ev → Bool)
    (hf : ∀ u e, Below w.heap.size w u → Calls Tryz.prog 147 #[valE e, .pointer (some ⟨X, 0, none⟩)] u fun x w' => x = .returned (.bool (p e)) ∧ Below u.heap.size u w') :
    Calls Tryz.prog 185 #[.slice A l.length cap, .func (.func 147) #[] #[.pointer (some ⟨X, 0, none⟩)]] w fun x w' => ∃ n : Int, x = .returned (.int .i64 n) ∧ ((0 ≤ n) ↔ l.any p = true) ∧ Below w.heap.size w w' := by
  have HC := Lib.hid (evs_cell hr.toB)
  have HF := Lib.hid hf
  clear hr hf
  go_enter Tryz.func185, Tryz.ntmps185
  go_wp2_with fail
  go_loopw [8] (fun v wr => ∃ k : Nat, k ≤ l.length ∧ v = .int .i64 k ∧ Hid ((l.take k).any p = false) ∧ Below w.heap.size w wr) (fun v _ => l.length - (intOf v).toNat)
  case atStart => exact ⟨0, Nat.zero_le _, rfl, Lib.hid rfl, Below.refl _ _⟩
  case round =>
    obtain ⟨k, hk, rfl, HRT, hb⟩ := hrel
    by_cases hlt : k < l.length
    · obtain ⟨g, o, rfl, hg, hcl⟩ := HC.out k hlt
      obtain ⟨v0, v1, v2, v3⟩ := hcl wr hb
      have k1 : (0 : Int) ≤ (k : Int) := Int.natCast_nonneg _
      have k2 : (k : Int) < (l.length : Int) := by omega
      have hcall := HF.out wr l[k] hb
      have htk := any_take (p := p) hlt
      obtain ⟨b, hbb⟩ : ∃ b, b = p l[k] := ⟨_, rfl⟩
      have hin : b = true → l.any p = true := fun h => List.any_eq_true.2 ⟨l[k], List.getElem_mem hlt, by rw [← hbb, h]⟩
      rw [← hbb] at hcall htk
      unfold valE at hcall
      have HCALL := Lib.hid hcall
      have HTK := Lib.hid htk
      have HIN := Lib.hid hin
      have HB := Lib.hid hb
      clear hcall htk hin hcl hbb hb
      go_wp2_with fail
      refine HCALL.out.mono ?_
      rintro x w1 ⟨rfl, b1⟩
      have hb2 : Below w.heap.size w w1 := HB.out.trans ⟨b1.os, b1.tape, b1.output, b1.size, fun i hi => b1.block i (by have := HB.out.size; omega)⟩
      have HB2 := Lib.hid hb2
      clear b1 hb2
      cases b with
      | true =>
        go_wp2_with fail
        go_ret
        exact ⟨k, rfl, ⟨fun _ => HIN.out (by trivial), fun _ => k1⟩, HB2.out⟩
      | false =>
        go_wp2_with fail
        go_roundw
        case rel => exact ⟨k + 1, by omega, by go_num, Lib.hid (by rw [HTK.out, HRT.out]; rfl), HB2.out⟩
        case measure => simp [intOf]; omega
    · have hkn : k = l.length := by omega
      have HK := Lib.hid hkn
      have HB := Lib.hid hb
      clear hkn hb
      go_wp2_with fail
      go_ret
      have := HRT.out
      rw [HK.out, List.take_length] at this
      exact ⟨-1, rfl, ⟨fun h => by omega, fun h => by rw [this] at h; cases h⟩, HB.out⟩
theorem containsFunc_lev1 (w : World) (X : Nat) (A : Option Addr) (cap : Nat) (l : List Ev) (hr : Rd w 4 A l.length (l.flatMap encE)) (hl : l.length < 4611686018427387904) (p : Ev → Bool)
    (hf : ∀ u e, Below w.heap.size w u → Calls Tryz.prog 147 #[valE e, .pointer (some ⟨X, 0, none⟩)] u fun x w' => x = .returned (.bool (p e)) ∧ Below u.heap.size u w') :
    Calls Tryz.prog 137 #[.slice A l.length cap, .func (.func 147) #[] #[.pointer (some ⟨X, 0, none⟩)]] w fun x w' => x = .returned (.bool (l.any p)) ∧ Below w.heap.size w w' := by
  have H := Lib.hid (indexFunc_lev1 w X A cap l hr hl p hf)
  clear hr hf
  go_enter Tryz.func137, Tryz.ntmps137
  go_wp2_with fail
  refine H.out.mono ?_
  rintro x w1 ⟨n, rfl, hn, b1⟩
  have HN := Lib.hid hn
  have HB := Lib.hid b1
  clear hn b1
  go_wp2_with fail
  go_ret
  refine ⟨?_, HB.out⟩
  have : decide (0 ≤ n) = l.any p := by
    rw [Bool.eq_iff_iff, decide_eq_true_iff]; exact HN.out
  rw [← this]
  rfl
end Go.Proofs.YtckdofjpoajblaaGreat
namespace Go.Proofs.YtckdofjpoajblaaGreat
open Go.RowKit
set_option linter.unusedVariables false
theorem one_box (w : World) (e : Ev) : ∃ W X, W = w.alloc (Obj.cells #[.int .i64 e.t, .int .i64 e.k, .int .i64 e.o, .bool e.f] 51) ∧ X = w.heap.size ∧ Below w.heap.size w W ∧
    W.cell? ⟨X, 0, none⟩ = some (.int .i64 e.t) ∧ W.cell? ⟨X, 1, none⟩ = some (.int .i64 e.k) ∧ W.cell? ⟨X, 2, none⟩ = some (.int .i64 e.o) ∧ W.cell? ⟨X, 3, none⟩ = some (.bool e.f) := by
  refine ⟨_, _, rfl, rfl, (Below.refl _ _).alloc (Nat.le_refl _) _, ?_, ?_, ?_, ?_⟩ <;> (rw [cell_blk (heap_alloc_new w _)]; rfl)
theorem right1_any (w : World) (e : Ev) : Calls Tryz.prog 138 #[valE e] w fun x w' => x = .returned (.bool (!Fo.right e)) ∧ Below w.heap.size w w' := by
  obtain ⟨W, X, hW, hX, hB, c0, c1, c2, c3⟩ := one_box w e
  have hcall : ∀ u, Calls Tryz.prog 139 #[valE e] u fun x w' => x = .returned (.bool (Fo.right e)) ∧ Below u.heap.size u w' := fun u => right_any u e
  obtain ⟨b, hb⟩ : ∃ b, b = Fo.right e := ⟨_, rfl⟩
  rw [← hb] at hcall ⊢
  unfold valE at hcall ⊢
  have HCALL := Lib.hid hcall
  have HB := Lib.hid hB
  have HX := Lib.hid hX
  clear hcall hB hb
  go_enter Tryz.func138, Tryz.ntmps138
  go_upto_region 1 with fail
  rw [← hW, ← hX]
  clear hW hX
  go_wp2_with fail
  refine (HCALL.out _).mono ?_
  rintro x w1 ⟨rfl, b1⟩
  have hb2 : Below w.heap.size w w1 := below2 HB.out b1
  go_wp2_with fail
  go_ret
  exact ⟨rfl, hb2⟩
theorem any_not {l : List Ev} {p : Ev → Bool} : (l.any fun e => !p e) = !(l.all p) := by
  induction l with
  | nil => rfl
  | cons x l ih => rw [List.any_cons, List.all_cons, ih, Bool.not_and]
theorem fright_any (w : World) (A : Option Addr) (cap : Nat) (l : List Ev) (hr : Rd w 4 A l.length (l.flatMap encE)) (hl : l.length < 4611686018427387904) :
    Calls Tryz.prog 80 #[.slice A l.length cap] w fun x w' => x = .returned (.bool (Fo.okRow l)) ∧ Below w.heap.size w w' := by
  have h := containsFunc_right1 w A cap l hr hl (fun e => !Fo.right e) (fun u e _ => right1_any u e)
  rw [any_not] at h
  obtain ⟨b, hb⟩ : ∃ b, b = Fo.rights l := ⟨_, rfl⟩
  have hb' : l.all Fo.right = b := by rw [hb]; rfl
  rw [hb'] at h
  have hok : Fo.okRow l = (decide (l.length ≤ 200) && b) := by rw [hb]; rfl
  rw [hok]
  have H := Lib.hid h
  clear h hb hb' hr hok
  by_cases hn : l.length ≤ 200
  · have e1 : decide (l.length ≤ 200) = true := decide_eq_true hn
    have hn' : (l.length : Int) ≤ 200 := by omega
    rw [e1]
    clear hn e1
    go_enter Tryz.func80, Tryz.ntmps80
    go_wp2_with fail
    refine H.out.mono ?_
    rintro x w1 ⟨rfl, b1⟩
    have HB := Lib.hid b1
    clear b1
    go_wp2_with fail
    go_ret
    exact ⟨by simp, HB.out⟩
  · have e1 : decide (l.length ≤ 200) = false := decide_eq_false hn
    have hn' : ¬ (l.length : Int) ≤ 200 := by omega
    rw [e1]
    clear hn e1
    go_enter Tryz.func80, Tryz.ntmps80
    go_wp2_with fail
    go_ret
    exact ⟨by simp, Below.refl _ _⟩
theorem lev1_any (w : World) (X : Nat) (e e' : Ev) (hX : ∃ cur t fr, w.heap[X]? = some (.cells cur t fr)) (h : EvAt w X 0 e) :
    Calls Tryz.prog 147 #[valE e', .pointer (some ⟨X, 0, none⟩)] w fun x w' => x = .returned (.bool (Fo.dep e' e)) ∧ Below w.heap.size w w' := by
  obtain ⟨cur, t, fr, hc⟩ := hX
  have lX := blk_lt hc
  obtain ⟨W, Y, hW, hY, hB, c0, c1, c2, c3⟩ := one_box w e'
  obtain ⟨d0, d1, d2, d3⟩ := h
  have mv : ∀ o v, w.cell? ⟨X, o, none⟩ = some v → W.cell? ⟨X, o, none⟩ = some v := fun o v hv => (World.cell?_of_block (hB.block X lX)).trans hv
  replace d0 := mv _ _ d0
  replace d1 := mv _ _ d1
  replace d2 := mv _ _ d2
  replace d3 := mv _ _ d3
  simp only [Nat.zero_add] at d1 d2 d3
  have hcall : ∀ u, Calls Tryz.prog 148 #[valE e', valE e] u fun x w' => x = .returned (.bool (Fo.dep e' e)) ∧ Below u.heap.size u w' := fun u => depends_any u e' e
  obtain ⟨b, hb⟩ : ∃ b, b = Fo.dep e' e := ⟨_, rfl⟩
  rw [← hb] at hcall ⊢
  unfold valE at hcall ⊢
  have HCALL := Lib.hid hcall
  have HB := Lib.hid hB
  have HY := Lib.hid hY
  clear hcall hB hb mv hc lX
  go_enter Tryz.func147, Tryz.ntmps147
  go_upto_region 1 with fail
  rw [← hW, ← hY]
  clear hW hY
  go_wp2_with fail
  refine (HCALL.out _).mono ?_
  rintro x w1 ⟨rfl, b1⟩
  have hb2 : Below w.heap.size w w1 := below2 HB.out b1
  go_wp2_with fail
  go_ret
  exact ⟨rfl, hb2⟩
end Go.Proofs.YtckdofjpoajblaaGreat
namespace Go.Proofs.YtckdofjpoajblaaGreat
open Go.RowKit
set_option linter.unusedVariables false
theorem indexFunc_cright1 (w : World) (A : Option Addr) (cap : Nat) (l : List Ev) (hr : Rd w 4 A l.length (l.flatMap encE)) (hl : l.length < 4611686018427387904) (p : Ev → Bool)
    (hf : ∀ u e, Below w.heap.size w u → Calls Tryz.prog 239 #[valE e] u fun x w' => x = .returned (.bool (p e)) ∧ Below u.heap.size u w') :
    Calls Tryz.prog 185 #[.slice A l.length cap, .func (.func 239) #[] #[]] w fun x w' => ∃ n : Int, x = .returned (.int .i64 n) ∧ ((0 ≤ n) ↔ l.any p = true) ∧ Below w.heap.size w w' := by
  have HC := Lib.hid (evs_cell hr.toB)
  have HF := Lib.hid hf
  clear hr hf
  go_enter Tryz.func185, Tryz.ntmps185
  go_wp2_with fail
  go_loopw [8] (fun v wr => ∃ k : Nat, k ≤ l.length ∧ v = .int .i64 k ∧ Hid ((l.take k).any p = false) ∧ Below w.heap.size w wr) (fun v _ => l.length - (intOf v).toNat)
  case atStart => exact ⟨0, Nat.zero_le _, rfl, Lib.hid rfl, Below.refl _ _⟩
  case round =>
    obtain ⟨k, hk, rfl, HRT, hb⟩ := hrel
    by_cases hlt : k < l.length
    · obtain ⟨g, o, rfl, hg, hcl⟩ := HC.out k hlt
      obtain ⟨v0, v1, v2, v3⟩ := hcl wr hb
      have k1 : (0 : Int) ≤ (k : Int) := Int.natCast_nonneg _
      have k2 : (k : Int) < (l.length : Int) := by omega
      have hcall := HF.out wr l[k] hb
      have htk := any_take (p := p) hlt
      obtain ⟨b, hbb⟩ : ∃ b, b = p l[k] := ⟨_, rfl⟩
      have hin : b = true → l.any p = true := fun h => List.any_eq_true.2 ⟨l[k], List.getElem_mem hlt, by rw [← hbb, h]⟩
      rw [← hbb] at hcall htk
      unfold valE at hcall
      have HCALL := Lib.hid hcall
      have HTK := Lib.hid htk
      have HIN := Lib.hid hin
      have HB := Lib.hid hb
      clear hcall htk hin hcl hbb hb
      go_wp2_with fail
      refine HCALL.out.mono ?_
      rintro x w1 ⟨rfl, b1⟩
      have hb2 : Below w.heap.size w w1 := HB.out.trans ⟨b1.os, b1.tape, b1.output, b1.size, fun i hi => b1.block i (by have := HB.out.size; omega)⟩
      have HB2 := Lib.hid hb2
      clear b1 hb2
      cases b with
      | true =>
        go_wp2_with fail
        go_ret
        exact ⟨k, rfl, ⟨fun _ => HIN.out (by trivial), fun _ => k1⟩, HB2.out⟩
      | false =>
        go_wp2_with fail
        go_roundw
        case rel => exact ⟨k + 1, by omega, by go_num, Lib.hid (by rw [HTK.out, HRT.out]; rfl), HB2.out⟩
        case measure => simp [intOf]; omega
    · have hkn : k = l.length := by omega
      have HK := Lib.hid hkn
      have HB := Lib.hid hb
      clear hkn hb
      go_wp2_with fail
      go_ret
      have := HRT.out
      rw [HK.out, List.take_length] at this
      exact ⟨-1, rfl, ⟨fun h => by omega, fun h => by rw [this] at h; cases h⟩, HB.out⟩
theorem containsFunc_cright1 (w : World) (A : Option Addr) (cap : Nat) (l : List Ev) (hr : Rd w 4 A l.length (l.flatMap encE)) (hl : l.length < 4611686018427387904) (p : Ev → Bool)
    (hf : ∀ u e, Below w.heap.size w u → Calls Tryz.prog 239 #[valE e] u fun x w' => x = .returned (.bool (p e)) ∧ Below u.heap.size u w') :
    Calls Tryz.prog 137 #[.slice A l.length cap, .func (.func 239) #[] #[]] w fun x w' => x = .returned (.bool (l.any p)) ∧ Below w.heap.size w w' := by
  have H := Lib.hid (indexFunc_cright1 w A cap l hr hl p hf)
  clear hr hf
  go_enter Tryz.func137, Tryz.ntmps137
  go_wp2_with fail
  refine H.out.mono ?_
  rintro x w1 ⟨n, rfl, hn, b1⟩
  have HN := Lib.hid hn
  have HB := Lib.hid b1
  clear hn b1
  go_wp2_with fail
  go_ret
  refine ⟨?_, HB.out⟩
  have : decide (0 ≤ n) = l.any p := by
    rw [Bool.eq_iff_iff, decide_eq_true_iff]; exact HN.out
  rw [← this]
  rfl
theorem cright1_any (w : World) (e : Ev) : Calls Tryz.prog 239 #[valE e] w fun x w' => x = .returned (.bool (!Fo.right e)) ∧ Below w.heap.size w w' := by
  obtain ⟨W, X, hW, hX, hB, c0, c1, c2, c3⟩ := one_box w e
  have hcall : ∀ u, Calls Tryz.prog 139 #[valE e] u fun x w' => x = .returned (.bool (Fo.right e)) ∧ Below u.heap.size u w' := fun u => right_any u e
  obtain ⟨b, hb⟩ : ∃ b, b = Fo.right e := ⟨_, rfl⟩
  rw [← hb] at hcall ⊢
  unfold valE at hcall ⊢
  have HCALL := Lib.hid hcall
  have HB := Lib.hid hB
  have HX := Lib.hid hX
  clear hcall hB hb
  go_enter Tryz.func239, Tryz.ntmps239
  go_upto_region 1 with fail
  rw [← hW, ← hX]
  clear hW hX
  go_wp2_with fail
  refine (HCALL.out _).mono ?_
  rintro x w1 ⟨rfl, b1⟩
  have hb2 : Below w.heap.size w w1 := below2 HB.out b1
  go_wp2_with fail
  go_ret
  exact ⟨rfl, hb2⟩
theorem cright_any (w : World) (A : Option Addr) (cap : Nat) (l : List Ev) (hr : Rd w 4 A l.length (l.flatMap encE)) (hl : l.length < 4611686018427387904) :
    Calls Tryz.prog 236 #[.slice A l.length cap] w fun x w' => x = .returned (.bool (Fo.rights l)) ∧ Below w.heap.size w w' := by
  have h := containsFunc_cright1 w A cap l hr hl (fun e => !Fo.right e) (fun u e _ => cright1_any u e)
  rw [any_not] at h
  obtain ⟨b, hb⟩ : ∃ b, b = Fo.rights l := ⟨_, rfl⟩
  have hb' : l.all Fo.right = b := by rw [hb]; rfl
  rw [hb'] at h
  rw [← hb]
  have H := Lib.hid h
  clear h hb hb' hr
  go_enter Tryz.func236, Tryz.ntmps236
  go_wp2_with fail
  refine H.out.mono ?_
  rintro x w1 ⟨rfl, b1⟩
  have HB := Lib.hid b1
  clear b1
  go_wp2_with fail
  go_ret
  exact ⟨by simp, HB.out⟩
end Go.Proofs.YtckdofjpoajblaaGreat
namespace Go.Proofs.YtckdofjpoajblaaGreat
open Go.RowKit
set_option linter.unusedVariables false
def arr (f : Nat → Nat) : List Value := [.int .i64 (f 0 : Nat), .int .i64 (f 1 : Nat), .int .i64 (f 2 : Nat), .int .i64 (f 3 : Nat)]
theorem arr_get (f : Nat → Nat) {t : Nat} (h : t < 4) : (arr f)[t]? = some (.int .i64 (f t : Nat)) := by
  rcases (show t = 0 ∨ t = 1 ∨ t = 2 ∨ t = 3 by omega) with rfl | rfl | rfl | rfl <;> rfl
theorem arr_set (f : Nat → Nat) {t : Nat} (h : t < 4) (n : Nat) : (arr f).toArray.setIfInBounds t (.int .i64 (n : Nat)) = (arr fun i => if i = t then n else f i).toArray := by
  rcases (show t = 0 ∨ t = 1 ∨ t = 2 ∨ t = 3 by omega) with rfl | rfl | rfl | rfl <;> simp [arr]
theorem arr_ext {f g : Nat → Nat} (h : ∀ t, t < 4 → f t = g t) : arr f = arr g := by
  unfold arr
  rw [h 0 (by omega), h 1 (by omega), h 2 (by omega), h 3 (by omega)]
set_option maxRecDepth 100000 in
set_option maxHeartbeats 2000000 in
theorem join_any (w : World) (g : Nat) (f d : Nat → Nat) (T : TypeId) (h : w.heap[g]? = some (.cells (arr f).toArray T (0, 0))) (hf : ∀ t, f t ≤ 1000000) (hd : ∀ t, d t ≤ 1000000) :
    Calls Tryz.prog 237 #[.pointer (some ⟨g, 0, none⟩), .agg (arr d).toArray] w fun x w' => x = .returned (.tuple #[]) ∧ w'.heap[g]? = some (.cells (arr fun t => max (f t) (d t)).toArray T (0, 0)) ∧ Mod (fun k => k = g) w w' := by
  obtain ⟨W1, hW1⟩ : ∃ W1, W1 = w.alloc (Obj.cells (arr d).toArray 271) := ⟨_, rfl⟩
  obtain ⟨X, hX⟩ : ∃ X, X = w.heap.size := ⟨_, rfl⟩
  have hk : W1.heap[X]? = some (.cells (arr d).toArray 271 (0, 0)) := by rw [hW1, hX]; exact heap_alloc_new w _
  have hg : W1.heap[g]? = some (.cells (arr f).toArray T (0, 0)) := by rw [hW1]; exact (heap_alloc_old w _ (blk_lt h)).trans h
  have hgX : g ≠ X := by have := blk_lt h; omega
  have hm : Mod (fun k => k = g) w W1 := by rw [hW1]; exact (Mod.refl _ _).alloc _
  have HK := Lib.hid hk
  have HG := Lib.hid hg
  have HM := Lib.hid hm
  have HGX := Lib.hid hgX
  have HF := Lib.hid hf
  have HD := Lib.hid hd
  clear hk hg hm hgX hf hd h
  go_enter Tryz.func237, Tryz.ntmps237
  go_upto_region 1 with fail
  rw [← hW1, ← hX]
  clear hW1 hX
  go_wp2_with fail
  go_loopw [5] (fun v wr => ∃ t : Nat, t ≤ 4 ∧ v = .int .i64 t ∧ Hid (wr.heap[g]? = some (.cells (arr fun i => if i < t then max (f i) (d i) else f i).toArray T (0, 0))) ∧ Hid (Mod (fun k => k = g) W1 wr)) (fun v _ => 4 - (intOf v).toNat)
  case atStart => exact ⟨0, Nat.zero_le _, rfl, Lib.hid (by rw [HG.out, arr_ext (f := f) (g := fun i => if i < 0 then max (f i) (d i) else f i) (fun t _ => by simp)]), Lib.hid (Mod.refl _ _)⟩
  case round =>
    obtain ⟨t, ht, rfl, HC, HW⟩ := hrel
    by_cases hlt : t < 4
    · have k1 : (0 : Int) ≤ (t : Int) := Int.natCast_nonneg _
      have k2 : (t : Int) < 4 := by omega
      have hc1 : ∀ u : World, u.heap[g]? = wr.heap[g]? → u.cell? ⟨g, t, none⟩ = some (.int .i64 (f t : Nat)) := fun u hu => by
        rw [cell_blk (hu.trans HC.out), List.getElem?_toArray, arr_get _ hlt, if_neg (by omega)]
      have hc2 : ∀ u : World, u.heap[X]? = wr.heap[X]? → u.cell? ⟨X, t, none⟩ = some (.int .i64 (d t : Nat)) := fun u hu => by
        rw [cell_blk ((hu.trans (HW.out.block X (blk_lt HK.out) (fun e => HGX.out e.symm))).trans HK.out), List.getElem?_toArray, arr_get _ hlt]
      have hfz : wr.frozen? ⟨g, t, none⟩ = false := free_blk HC.out _
      have hcg := hc1 wr rfl
      have hlg : g < wr.heap.size := blk_lt HC.out
      have hlx : X < wr.heap.size := by have := blk_lt HK.out; have := HW.out.size; omega
      have b1 := HF.out t
      have b2 := HD.out t
      have hset := set_blk HC.out t (.int .i64 ((max (f t) (d t) : Nat) : Int))
      rw [arr_set _ hlt] at hset
      have hnx : (arr fun i => if i = t then max (f t) (d t) else if i < t then max (f i) (d i) else f i) = arr fun i => if i < t + 1 then max (f i) (d i) else f i := arr_ext fun i _ => by
        by_cases h1 : i = t
        · subst h1; simp
        · simp only [if_neg h1]
          by_cases h2 : i < t
          · rw [if_pos h2, if_pos (by omega)]
          · rw [if_neg h2, if_neg (by omega)]
      rw [hnx] at hset
      have hmx : max (f t : Int) (d t : Int) = ((max (f t) (d t) : Nat) : Int) := by omega
      have HSET := Lib.hid hset
      have HC1 := Lib.hid hc1
      have HC2 := Lib.hid hc2
      generalize hft : f t = ft at *
      generalize hdt : d t = dt at *
      generalize hm : max ft dt = mx at *
      clear hset hnx hc1 hc2 hft hdt hmx
      have h7 : max (ft : Int) (dt : Int) = (mx : Int) := by omega
      have H3 : (ft < dt ∧ mx = dt) ∨ (ft = dt ∧ mx = dt) ∨ (dt < ft ∧ mx = ft) := by omega
      clear hm
      rcases H3 with ⟨h5, rfl⟩ | ⟨rfl, rfl⟩ | ⟨h5, rfl⟩
      all_goals
        go_wp2_with fail
        refine wp_region_plan (by kernel_rfl) (fun u => u.heap[g]? = wr.heap[g]? ∧ u.heap[X]? = wr.heap[X]?) [10, 13] [(0, .pure), (1, .pure), (2, .pure), (3, .pure), (4, .pure), (5, .pure), (6, .load), (7, .pure), (8, .pure), (9, .load), (11, .pure), (10, .last), (12, .pure), (13, .last)] (by simp only [List.map_cons, List.map_nil, List.getElem?_toArray, List.getElem?_cons_succ, List.getElem?_cons_zero]; rfl) (by kernel_rfl) (fun _ _ d _ _ h => by cases d <;> exact h) (⟨rfl, rfl⟩) ?_
        repeat (first
          | (refine plan_pure (v := ?_) (by rfl) (fun w1 => ?_) ?_
             rotate_left
             · go_simp <;> with_reducible rfl
             simp only [Act.put, List.setIfInBounds_toArray, List.set_cons_zero, List.set_cons_succ])
          | (refine plan_off (by rfl) ?_
             simp only [Act.put, List.setIfInBounds_toArray, List.set_cons_zero, List.set_cons_succ])
          | (refine plan_load_off (by rfl) ?_
             simp only [Act.put, List.setIfInBounds_toArray, List.set_cons_zero, List.set_cons_succ])
          | (refine plan_load (v := ?_) (by rfl) (fun w1 hw1 => ?_) ?_
             rotate_left
             · (have q0 := HC1.out w1 hw1.1
                have q1 := HC2.out w1 hw1.2
                clear hw1
                go_simp <;> with_reducible rfl)
             simp only [Act.put, List.setIfInBounds_toArray, List.set_cons_zero, List.set_cons_succ]))
        refine plan_last ?_
        go_wp2_with fail
        repeat (first
          | (refine plan_pure (v := ?_) (by rfl) (fun w1 => ?_) ?_
             rotate_left
             · go_simp <;> with_reducible rfl
             simp only [Act.put, List.setIfInBounds_toArray, List.set_cons_zero, List.set_cons_succ])
          | (refine plan_off (by rfl) ?_
             simp only [Act.put, List.setIfInBounds_toArray, List.set_cons_zero, List.set_cons_succ])
          | (refine plan_load_off (by rfl) ?_
             simp only [Act.put, List.setIfInBounds_toArray, List.set_cons_zero, List.set_cons_succ])
          | (refine plan_load (v := ?_) (by rfl) (fun w1 hw1 => ?_) ?_
             rotate_left
             · (skip
                clear hw1
                go_simp <;> with_reducible rfl)
             simp only [Act.put, List.setIfInBounds_toArray, List.set_cons_zero, List.set_cons_succ]))
        refine plan_last ?_
        go_wp2_with fail
        refine plan_end ?_
        go_wp2_with fail
        go_roundw
        case rel => exact ⟨t + 1, by omega, by go_num, Lib.hid HSET.out, Lib.hid (Mod.trans HW.out ((Mod.refl (fun k => k = g) wr).drew.setCell (p := ⟨g, t, none⟩) (fun _ => rfl) _))⟩
        case measure => simp [intOf]; omega
    · have ht4 : t = 4 := by omega
      have hfin : (arr fun i => if i < t then max (f i) (d i) else f i) = arr fun i => max (f i) (d i) := arr_ext fun i hi => by rw [if_pos (by omega)]
      have HFIN := Lib.hid hfin
      have HT := Lib.hid ht4
      clear hfin ht4
      go_wp2_with fail
      go_end0
      exact ⟨rfl, by rw [HC.out, HFIN.out], HM.out.trans HW.out⟩
end Go.Proofs.YtckdofjpoajblaaGreat
namespace Go.Proofs.YtckdofjpoajblaaGreat
open Go.RowKit
set_option linter.unusedVariables false
theorem blk_step {v v' : World} {Z : Nat} {o : Obj} (h : v.heap[Z]? = some o) (hb : Below v.heap.size v v') : v'.heap[Z]? = some o := (hb.block _ (blk_lt h)).trans h
theorem row_step {v v' : World} {e sz n cap : Nat} {A : Option Addr} {cs : List Value} (h : Row v e sz A n cap cs) (hb : Below v.heap.size v v') : Row v' e sz A n cap cs := h.mod (Mod.of_below_size hb (fun _ => False)) (fun _ _ h => h)
theorem below_chain {w a b : World} {B : Nat} (h : Below B w a) (k : Below a.heap.size a b) (hB : B ≤ w.heap.size) : Below B w b := h.trans ⟨k.os, k.tape, k.output, k.size, fun i hi => k.block i (by have := h.size; omega)⟩
theorem box_ev (w : World) (e : Ev) : ∃ W X, W = w.alloc (Obj.cells #[.int .i64 e.t, .int .i64 e.k, .int .i64 e.o, .bool e.f] 51) ∧ X = w.heap.size ∧ Below w.heap.size w W ∧ X < W.heap.size ∧ ∀ u, Below W.heap.size W u → EvAt u X 0 e := by
  refine ⟨_, _, rfl, rfl, (Below.refl _ _).alloc (Nat.le_refl _) _, by simp, fun u hu => ?_⟩
  have h1 := heap_alloc_new w (Obj.cells #[.int .i64 e.t, .int .i64 e.k, .int .i64 e.o, .bool e.f] 51)
  have g1 := (hu.block _ (blk_lt h1)).trans h1
  exact ⟨by rw [cell_blk g1]; rfl, by rw [cell_blk g1]; rfl, by rw [cell_blk g1]; rfl, by rw [cell_blk g1]; rfl⟩
end Go.Proofs.YtckdofjpoajblaaGreat
