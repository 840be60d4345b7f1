/- Clocks: what an event knows of; rows are the same just if all events know the same. Plain theory, no program in sight. -/
import Derived.Test.YtgahjibjladafaaFoE
namespace Go.Proofs.Ytgahjibjladafaa
namespace Fo
set_option linter.unusedVariables false

/-- the greatest of some -/
def sup {α : Type} (q : List α) (p : α → Bool) (f : α → Nat) : Nat := q.foldl (fun n x => if p x then max n (f x) else n) 0
theorem sup_aux {α : Type} (q : List α) (p : α → Bool) (f : α → Nat) : ∀ n, n ≤ q.foldl (fun n x => if p x then max n (f x) else n) n ∧ (∀ x ∈ q, p x = true → f x ≤ q.foldl (fun n x => if p x then max n (f x) else n) n) ∧
    ∀ m, n ≤ m → (∀ x ∈ q, p x = true → f x ≤ m) → q.foldl (fun n x => if p x then max n (f x) else n) n ≤ m := by
  induction q with
  | nil => intro n; exact ⟨Nat.le_refl _, fun x h => (by cases h), fun m h _ => h⟩
  | cons x q ih =>
    intro n
    rw [List.foldl_cons]
    obtain ⟨h1, h2, h3⟩ := ih (if p x then max n (f x) else n)
    refine ⟨Nat.le_trans (by split <;> omega) h1, fun y hy hp => ?_, fun m hm hq => h3 m ?_ (fun y hy => hq y (List.mem_cons_of_mem _ hy))⟩
    · rcases List.mem_cons.1 hy with rfl | hy
      · rw [if_pos hp] at h1 ⊢; exact Nat.le_trans (by omega) h1
      · exact h2 y hy hp
    · split
      · rename_i hp; have := hq x List.mem_cons_self hp; omega
      · exact hm
theorem sup_ge {α : Type} {q : List α} {p : α → Bool} {f : α → Nat} {x : α} (hx : x ∈ q) (hp : p x = true) : f x ≤ sup q p f := (sup_aux q p f 0).2.1 x hx hp
theorem sup_le {α : Type} {q : List α} {p : α → Bool} {f : α → Nat} {m : Nat} (h : ∀ x ∈ q, p x = true → f x ≤ m) : sup q p f ≤ m := (sup_aux q p f 0).2.2 m (Nat.zero_le _) h
theorem sup_pos {α : Type} {q : List α} {p : α → Bool} {f : α → Nat} (h : 0 < sup q p f) : ∃ x ∈ q, p x = true ∧ f x = sup q p f := by
  refine Classical.byContradiction fun hc => ?_
  have : sup q p f ≤ sup q p f - 1 := sup_le (fun x hx hp => by
    have h1 := sup_ge (f := f) hx hp
    have h2 : f x ≠ sup q p f := fun e => hc ⟨x, hx, hp, e⟩
    omega)
  omega
theorem sup_perm {α : Type} {q r : List α} {p : α → Bool} {f : α → Nat} (h : q.Perm r) : sup q p f = sup r p f :=
  Nat.le_antisymm (sup_le fun x hx hp => sup_ge (h.mem_iff.1 hx) hp) (sup_le fun x hx hp => sup_ge (h.mem_iff.2 hx) hp)
theorem sup_snoc {α : Type} (q : List α) (x : α) (p : α → Bool) (f : α → Nat) : sup (q ++ [x]) p f = if p x then max (sup q p f) (f x) else sup q p f := by unfold sup; rw [List.foldl_append]; rfl
theorem sup_congr {α : Type} {q : List α} {p p' : α → Bool} {f f' : α → Nat} (h : ∀ x ∈ q, p x = p' x ∧ (p x = true → f x = f' x)) : sup q p f = sup q p' f' :=
  Nat.le_antisymm (sup_le fun x hx hp => by rw [(h x hx).2 hp]; exact sup_ge hx (by rw [← (h x hx).1]; exact hp))
    (sup_le fun x hx hp => by have := (h x hx).1; rw [hp] at this; rw [← (h x hx).2 this]; exact sup_ge hx this)

/-- an event and its clock -/
structure Ent where
  e : Ev
  c : Nat → Nat
/-- which one of its thread's it is -/
def Ent.num (p : Ent) : Nat := p.c p.e.t.toNat
/-- what a next event knows of -/
def clk (S : List Ent) (e : Ev) : Nat → Nat := fun t => sup S (fun p => dep p.e e) (fun p => p.c t) + if t = e.t.toNat then 1 else 0
def ents_ (S : List Ent) (l : List Ev) : List Ent := l.foldl (fun S e => S ++ [⟨e, clk S e⟩]) S
def cl (l : List Ev) : List Ent := ents_ [] l
theorem cl_snoc (l : List Ev) (e : Ev) : cl (l ++ [e]) = cl l ++ [⟨e, clk (cl l) e⟩] := by unfold cl ents_; rw [List.foldl_append]; rfl
theorem cl_append (l m : List Ev) : cl (l ++ m) = ents_ (cl l) m := by unfold cl ents_; rw [List.foldl_append]
theorem cl_len (l : List Ev) : (cl l).length = l.length := snoc_ind (p := fun l => (cl l).length = l.length) rfl (fun l e h => by rw [cl_snoc]; simp [h]) l
theorem cl_ev (l : List Ev) : (cl l).map Ent.e = l := snoc_ind (p := fun l => (cl l).map Ent.e = l) rfl (fun l e h => by rw [cl_snoc]; simp [h]) l
theorem clk_perm {S T : List Ent} (h : S.Perm T) (e : Ev) : clk S e = clk T e := by unfold clk; funext t; rw [sup_perm h]
theorem clk_skip (S : List Ent) (p : Ent) (e : Ev) (h : dep p.e e = false) : clk (S ++ [p]) e = clk S e := by
  unfold clk
  funext t
  rw [sup_snoc, h]
  rfl
theorem ents_perm {S T : List Ent} (h : S.Perm T) : ∀ l, (ents_ S l).Perm (ents_ T l) := by
  intro l
  induction l generalizing S T with
  | nil => exact h
  | cons e l ih =>
    unfold ents_
    rw [List.foldl_cons, List.foldl_cons]
    refine ih ?_
    rw [clk_perm h]
    exact h.append_right _
/-- E3 -/
theorem eqv_cl {l m : List Ev} (h : Eqv l m) : (cl l).Perm (cl m) := by
  induction h with
  | refl l => exact .refl _
  | symm _ ih => exact ih.symm
  | trans _ _ ih1 ih2 => exact ih1.trans ih2
  | swap l r x y h =>
    have h' : dep y x = false := by rw [dep_comm]; exact h
    have e1 : l ++ x :: y :: r = (l ++ [x, y]) ++ r := by simp
    have e2 : l ++ y :: x :: r = (l ++ [y, x]) ++ r := by simp
    rw [e1, e2, cl_append (l ++ [x, y]), cl_append (l ++ [y, x])]
    refine ents_perm ?_ r
    have f1 : cl (l ++ [x, y]) = cl l ++ [⟨x, clk (cl l) x⟩] ++ [⟨y, clk (cl l) y⟩] := by
      rw [show l ++ [x, y] = (l ++ [x]) ++ [y] by simp, cl_snoc, cl_snoc, clk_skip _ _ _ h]
    have f2 : cl (l ++ [y, x]) = cl l ++ [⟨y, clk (cl l) y⟩] ++ [⟨x, clk (cl l) x⟩] := by
      rw [show l ++ [y, x] = (l ++ [y]) ++ [x] by simp, cl_snoc, cl_snoc, clk_skip _ _ _ h']
    rw [f1, f2, List.append_assoc, List.append_assoc]
    exact (List.Perm.swap _ _ _).append_left _

/-! what clocks say -/
/-- how many of a thread -/
def cnt_ (l : List Ev) (t : Nat) : Nat := (l.filter fun e => decide (e.t.toNat = t)).length
theorem cnt_snoc (l : List Ev) (e : Ev) (t : Nat) : cnt_ (l ++ [e]) t = cnt_ l t + if e.t.toNat = t then 1 else 0 := by
  unfold cnt_
  rw [List.filter_append, List.length_append]
  congr 1
  by_cases h : e.t.toNat = t <;> simp [h]

/-- the facts about the clocks of a row -/
structure ClkOk (l : List Ev) : Prop where
  /-- no clock counts more of a thread than there are -/
  le : ∀ p ∈ cl l, ∀ t, p.c t ≤ cnt_ l t
  /-- the thread's last one counts all -/
  last : ∀ t, 0 < cnt_ l t → ∃ p ∈ cl l, p.e.t.toNat = t ∧ p.num = cnt_ l t
  /-- a thread's event is told by its number -/
  one : (cl l).Pairwise (fun p q => ¬ (p.e.t = q.e.t ∧ p.num = q.num))
  /-- what is known by one that is known is known; what is known that isn't it stands ahead, with less -/
  closed : ∀ p ∈ cl l, ∀ t n, 0 < n → n ≤ p.c t → ∃ q ∈ cl l, q.e.t.toNat = t ∧ q.num = n ∧ ∀ u, q.c u ≤ p.c u
  pos : ∀ p ∈ cl l, 0 < p.num

theorem dep_same {a b : Ev} (ha : 0 ≤ a.t) (hb : 0 ≤ b.t) (h : a.t.toNat = b.t.toNat) : dep a b = true := dep_thread (by omega)

theorem clkOk (l : List Ev) (hr : ∀ e ∈ l, 0 ≤ e.t) : ClkOk l := by
  revert hr
  refine snoc_ind (p := fun l => (∀ e ∈ l, 0 ≤ e.t) → ClkOk l) (fun _ => ⟨fun p h => (by cases h), fun t h => (by simp [cnt_] at h), List.Pairwise.nil, fun p h => (by cases h), fun p h => (by cases h)⟩) (fun l e ih hr => ?_) l
  have h := ih (fun x hx => hr x (by simp [hx]))
  have he := hr e (by simp)
  have hev : ∀ p ∈ cl l, p.e ∈ l := fun p hp => by
    have : p.e ∈ (cl l).map Ent.e := List.mem_map.2 ⟨p, hp, rfl⟩
    rwa [cl_ev] at this
  -- the new event's own number
  have hown : clk (cl l) e e.t.toNat = cnt_ l e.t.toNat + 1 := by
    unfold clk
    rw [if_pos rfl]
    congr 1
    apply Nat.le_antisymm
    · exact sup_le (fun p hp _ => h.le p hp _)
    · rcases Nat.eq_zero_or_pos (cnt_ l e.t.toNat) with h0 | h0
      · omega
      · obtain ⟨p, hp, h1, h2⟩ := h.last _ h0
        have hd : dep p.e e = true := dep_same (hr _ (by simp [hev p hp])) he h1
        have := sup_ge (q := cl l) (p := fun p => dep p.e e) (f := fun p => p.c e.t.toNat) hp hd
        unfold Ent.num at h2
        rw [h1] at h2
        omega
  have hother : ∀ t, t ≠ e.t.toNat → clk (cl l) e t = sup (cl l) (fun p => dep p.e e) (fun p => p.c t) := fun t ht => by unfold clk; rw [if_neg ht, Nat.add_zero]
  have hge : ∀ q ∈ cl l, dep q.e e = true → ∀ u, q.c u ≤ clk (cl l) e u := fun q hq hd u => by
    have := sup_ge (q := cl l) (p := fun p => dep p.e e) (f := fun p => p.c u) hq hd
    unfold clk
    omega
  refine ⟨fun p hp t => ?_, fun t ht => ?_, ?_, fun p hp t n hn hnp => ?_, fun p hp => ?_⟩
  · rw [cl_snoc] at hp
    rw [cnt_snoc]
    rcases List.mem_append.1 hp with hp | hp
    · have := h.le p hp t; omega
    · rw [List.mem_singleton] at hp
      subst hp
      simp only
      by_cases ht : t = e.t.toNat
      · subst ht; rw [hown, if_pos rfl]; omega
      · rw [hother t ht]
        have : sup (cl l) (fun p => dep p.e e) (fun p => p.c t) ≤ cnt_ l t := sup_le (fun p hp _ => h.le p hp t)
        omega
  · rw [cnt_snoc] at ht ⊢
    rw [cl_snoc]
    by_cases hte : e.t.toNat = t
    · rw [if_pos hte]
      exact ⟨⟨e, clk (cl l) e⟩, by simp, hte, by unfold Ent.num; simp only; rw [hown, hte]⟩
    · rw [if_neg hte] at ht ⊢
      obtain ⟨p, hp, h1, h2⟩ := h.last t (by omega)
      exact ⟨p, List.mem_append_left _ hp, h1, by omega⟩
  · rw [cl_snoc]
    refine List.pairwise_append.2 ⟨h.one, by simp, fun p hp q hq => ?_⟩
    rw [List.mem_singleton] at hq
    subst hq
    rintro ⟨h1, h2⟩
    have h3 := h.le p hp p.e.t.toNat
    unfold Ent.num at h2
    simp only at h2 h1
    rw [hown, h1] at h2
    rw [h1] at h3
    omega
  · rw [cl_snoc] at hp ⊢
    rcases List.mem_append.1 hp with hp | hp
    · obtain ⟨q, hq, h1, h2, h3⟩ := h.closed p hp t n hn hnp
      exact ⟨q, List.mem_append_left _ hq, h1, h2, h3⟩
    · rw [List.mem_singleton] at hp
      subst hp
      simp only at hnp
      by_cases hlast : t = e.t.toNat ∧ n = cnt_ l t + 1
      · obtain ⟨rfl, rfl⟩ := hlast
        exact ⟨⟨e, clk (cl l) e⟩, by simp, rfl, by unfold Ent.num; simp only; exact hown, fun u => Nat.le_refl _⟩
      · have hns : n ≤ sup (cl l) (fun p => dep p.e e) (fun p => p.c t) := by
          by_cases ht : t = e.t.toNat
          · have : n ≤ cnt_ l t := by
              rw [ht, hown] at hnp
              have : ¬ n = cnt_ l t + 1 := fun e1 => hlast ⟨ht, e1⟩
              rw [← ht] at hnp
              omega
            have h4 : clk (cl l) e t = sup (cl l) (fun p => dep p.e e) (fun p => p.c t) + 1 := by unfold clk; rw [if_pos ht]
            rw [ht, hown] at h4
            rw [← ht] at h4
            omega
          · rw [hother t ht] at hnp; exact hnp
        obtain ⟨p, hp, hd, hpe⟩ := sup_pos (show 0 < sup (cl l) (fun p => dep p.e e) (fun p => p.c t) by omega)
        obtain ⟨q, hq, h1, h2, h3⟩ := h.closed p hp t n hn (by omega)
        exact ⟨q, List.mem_append_left _ hq, h1, h2, fun u => Nat.le_trans (h3 u) (hge p hp hd u)⟩
  · rw [cl_snoc] at hp
    rcases List.mem_append.1 hp with hp | hp
    · exact h.pos p hp
    · rw [List.mem_singleton] at hp
      subst hp
      unfold Ent.num
      simp only
      rw [hown]
      omega
end Fo
end Go.Proofs.Ytgahjibjladafaa
