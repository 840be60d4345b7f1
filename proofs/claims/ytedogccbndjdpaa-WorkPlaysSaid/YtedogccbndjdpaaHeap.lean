/- Binary heaps as container/heap makes them, over lists; sorted lists. Plain theory, no program in sight. -/
namespace Go.Proofs.Ytedogccbndjdpaa.Hp
set_option linter.unusedVariables false
set_option linter.unusedSimpArgs false

/-- a strict total order -/
structure Tot {α : Type} (lt : α → α → Bool) : Prop where
  irr : ∀ a, lt a a = false
  tr : ∀ a b c, lt a b = true → lt b c = true → lt a c = true
  tri : ∀ a b, lt a b = false → lt b a = false → a = b

section
variable {α : Type} (lt : α → α → Bool)
def le (a b : α) : Prop := lt b a = false
theorem Tot.refl {lt : α → α → Bool} (H : Tot lt) (a : α) : le lt a a := H.irr a
theorem Tot.le_tr {lt : α → α → Bool} (H : Tot lt) {a b c : α} (h1 : le lt a b) (h2 : le lt b c) : le lt a c := by
  unfold le at *
  cases hca : lt c a with
  | false => rfl
  | true =>
    cases hab : lt a b with
    | true => rw [H.tr c a b hca hab] at h2; cases h2
    | false => have := H.tri a b hab h1; subst this; rw [hca] at h2; cases h2
theorem Tot.le_of_lt {lt : α → α → Bool} (H : Tot lt) {a b : α} (h : lt a b = true) : le lt a b := by
  unfold le
  cases hba : lt b a with
  | false => rfl
  | true => have := H.tr a b a h hba; rw [H.irr] at this; cases this
theorem Tot.antisymm {lt : α → α → Bool} (H : Tot lt) {a b : α} (h1 : le lt a b) (h2 : le lt b a) : a = b := H.tri a b h2 h1

/-- two places swapped -/
def swp (h : List α) (i k : Nat) : List α := match h[i]?, h[k]? with | some x, some y => (h.set i y).set k x | _, _ => h
def lss (h : List α) (i k : Nat) : Bool := match h[i]?, h[k]? with | some x, some y => lt x y | _, _ => false
theorem swp_at {h : List α} {i k : Nat} (hi : i < h.length) (hk : k < h.length) : swp h i k = (h.set i h[k]).set k h[i] := by
  simp [swp, List.getElem?_eq_getElem hi, List.getElem?_eq_getElem hk]
theorem lss_at {h : List α} {i k : Nat} (hi : i < h.length) (hk : k < h.length) : lss lt h i k = lt h[i] h[k] := by
  simp [lss, List.getElem?_eq_getElem hi, List.getElem?_eq_getElem hk]
theorem swp_len (h : List α) (i k : Nat) : (swp h i k).length = h.length := by
  unfold swp; split <;> simp
theorem swp_get {h : List α} {i k : Nat} (hi : i < h.length) (hk : k < h.length) (m : Nat) : (swp h i k)[m]? = if m = k then h[i]? else if m = i then h[k]? else h[m]? := by
  rw [swp_at hi hk, List.getElem?_set, List.getElem?_set, List.getElem?_eq_getElem hi, List.getElem?_eq_getElem hk]
  by_cases h1 : k = m
  · subst h1; simp [hk]
  · by_cases h2 : i = m
    · subst h2; simp [hi, h1, Ne.symm h1]
    · simp [h1, h2, Ne.symm h1, Ne.symm h2]
theorem swp_perm (h : List α) (i k : Nat) : (swp h i k).Perm h := by
  by_cases hi : i < h.length
  · by_cases hk : k < h.length
    · rw [swp_at hi hk]; exact List.set_set_perm hi hk
    · simp [swp, List.getElem?_eq_none (Nat.le_of_not_lt hk)]
  · simp [swp, List.getElem?_eq_none (Nat.le_of_not_lt hi)]

/-- le of two places -/
def lep (h : List α) (i k : Nat) : Prop := ∀ x y, h[i]? = some x → h[k]? = some y → le lt x y
theorem lep_of {h : List α} {i k : Nat} (e : lss lt h k i = false) : lep lt h i k := by
  intro x y hx hy
  simp only [lss, hx, hy] at e
  exact e
theorem lep_of_lss {lt : α → α → Bool} (H : Tot lt) {h : List α} {i k : Nat} (e : lss lt h i k = true) : lep lt h i k := by
  intro x y hx hy
  simp only [lss, hx, hy] at e
  exact H.le_of_lt e
theorem lep_tr {lt : α → α → Bool} (H : Tot lt) {h : List α} {i j k : Nat} (hj : j < h.length) (h1 : lep lt h i j) (h2 : lep lt h j k) : lep lt h i k := by
  intro x y hx hy
  exact H.le_tr (h1 x _ hx (List.getElem?_eq_getElem hj)) (h2 _ y (List.getElem?_eq_getElem hj) hy)
theorem lep_refl {lt : α → α → Bool} (H : Tot lt) (h : List α) (i : Nat) : lep lt h i i := by
  intro x y hx hy
  rw [hx] at hy
  injection hy with hy
  subst hy
  exact H.refl x
theorem lep_congr {h g : List α} {i k i' k' : Nat} (h1 : g[i']? = h[i]?) (h2 : g[k']? = h[k]?) (h3 : lep lt h i k) : lep lt g i' k' := by
  intro x y hx hy
  exact h3 x y (h1 ▸ hx) (h2 ▸ hy)

/-- the first n are a heap -/
def Heap (h : List α) (n : Nat) : Prop := ∀ k, 0 < k → k < n → lep lt h ((k - 1) / 2) k
/-- a heap but for the edge above j -/
def HeapUp (h : List α) (n j : Nat) : Prop := (∀ k, 0 < k → k < n → k ≠ j → lep lt h ((k - 1) / 2) k) ∧ ∀ k, 0 < k → k < n → (k - 1) / 2 = j → 0 < j → lep lt h ((j - 1) / 2) k
/-- a heap but for the edges at i -/
def Bad (h : List α) (n i : Nat) : Prop := (∀ k, 0 < k → k < n → k ≠ i → (k - 1) / 2 ≠ i → lep lt h ((k - 1) / 2) k) ∧ ∀ k, 0 < k → k < n → (k - 1) / 2 = i → 0 < i → lep lt h ((i - 1) / 2) k

def upF (h : List α) (j : Nat) : List α :=
  if hj : 0 < j then (if lss lt h j ((j - 1) / 2) then upF (swp h ((j - 1) / 2) j) ((j - 1) / 2) else h) else h
termination_by j
decreasing_by omega
theorem upF_zero (h : List α) : upF lt h 0 = h := by rw [upF]; simp
theorem upF_stop {h : List α} {j : Nat} (e : lss lt h j ((j - 1) / 2) = false) : upF lt h j = h := by rw [upF]; simp [e]
theorem upF_step {h : List α} {j : Nat} (hj : 0 < j) (e : lss lt h j ((j - 1) / 2) = true) : upF lt h j = upF lt (swp h ((j - 1) / 2) j) ((j - 1) / 2) := by
  conv => lhs; rw [upF]
  simp [e, hj]

/-- the child that comes ahead -/
def kid (h : List α) (i n : Nat) : Nat := if 2 * i + 2 < n ∧ lss lt h (2 * i + 2) (2 * i + 1) = true then 2 * i + 2 else 2 * i + 1
theorem kid_cases (h : List α) (i n : Nat) : kid lt h i n = 2 * i + 1 ∨ kid lt h i n = 2 * i + 2 := by unfold kid; split <;> simp
theorem kid_lt {h : List α} {i n : Nat} (hn : 2 * i + 1 < n) : kid lt h i n < n := by unfold kid; split <;> omega
def downF (h : List α) (i n : Nat) : List α × Nat :=
  if h1 : 2 * i + 1 < n then (if lss lt h (kid lt h i n) i then downF (swp h i (kid lt h i n)) (kid lt h i n) n else (h, i)) else (h, i)
termination_by n - i
decreasing_by have := kid_cases lt h i n; omega
theorem downF_end {h : List α} {i n : Nat} (h1 : ¬ 2 * i + 1 < n) : downF lt h i n = (h, i) := by rw [downF]; simp [h1]
theorem downF_stop {h : List α} {i n : Nat} (e : lss lt h (kid lt h i n) i = false) : downF lt h i n = (h, i) := by rw [downF]; simp [e]
theorem downF_step {h : List α} {i n : Nat} (h1 : 2 * i + 1 < n) (e : lss lt h (kid lt h i n) i = true) : downF lt h i n = downF lt (swp h i (kid lt h i n)) (kid lt h i n) n := by
  conv => lhs; rw [downF]
  simp [e, h1]

theorem upF_len (j : Nat) : ∀ h : List α, (upF lt h j).length = h.length := by
  induction j using Nat.strongRecOn with
  | _ j ih =>
    intro h
    by_cases hj : 0 < j
    · cases e : lss lt h j ((j - 1) / 2) with
      | true => rw [upF_step lt hj e, ih _ (by omega), swp_len]
      | false => rw [upF_stop lt e]
    · rw [show j = 0 by omega, upF_zero]
theorem upF_perm (j : Nat) : ∀ h : List α, (upF lt h j).Perm h := by
  induction j using Nat.strongRecOn with
  | _ j ih =>
    intro h
    by_cases hj : 0 < j
    · cases e : lss lt h j ((j - 1) / 2) with
      | true => rw [upF_step lt hj e]; exact (ih _ (by omega) _).trans (swp_perm _ _ _)
      | false => rw [upF_stop lt e]
    · rw [show j = 0 by omega, upF_zero]
theorem upF_far (j : Nat) : ∀ (h : List α), j < h.length → ∀ m, j < m → (upF lt h j)[m]? = h[m]? := by
  induction j using Nat.strongRecOn with
  | _ j ih =>
    intro h hl m hm
    by_cases hj : 0 < j
    · cases e : lss lt h j ((j - 1) / 2) with
      | true => rw [upF_step lt hj e, ih _ (by omega) _ (by rw [swp_len]; omega) m (by omega), swp_get (by omega) hl, if_neg (by omega), if_neg (by omega)]
      | false => rw [upF_stop lt e]
    · rw [show j = 0 by omega, upF_zero]
theorem upF_heap {lt : α → α → Bool} (H : Tot lt) {n : Nat} (j : Nat) : ∀ (h : List α), n ≤ h.length → j < n → HeapUp lt h n j → Heap lt (upF lt h j) n := by
  induction j using Nat.strongRecOn with
  | _ j ih =>
    intro h hl hjn hu
    by_cases hj : 0 < j
    · cases e : lss lt h j ((j - 1) / 2) with
      | true =>
        rw [upF_step lt hj e]
        have hp : (j - 1) / 2 < j := by omega
        have g := swp_get (h := h) (i := (j - 1) / 2) (k := j) (by omega) (by omega)
        have hjp := lep_of_lss H e
        refine ih _ hp _ (by rw [swp_len]; exact hl) (by omega) ⟨fun k hk0 hkn hk => ?_, fun k hk0 hkn hkp hp0 => ?_⟩
        · -- k is not the parent p
          by_cases hkj : k = j
          · subst hkj
            refine lep_congr lt (h := h) (i := k) (k := (k - 1) / 2) ?_ ?_ hjp
            · rw [g, if_neg (by omega), if_pos rfl]
            · rw [g, if_pos rfl]
          · by_cases h1 : (k - 1) / 2 = j
            · -- its parent is j, which holds p's old one
              refine lep_congr lt (h := h) (i := (j - 1) / 2) (k := k) ?_ ?_ (hu.2 k hk0 hkn h1 hj)
              · rw [g, if_pos h1]
              · rw [g, if_neg hkj, if_neg hk]
            · by_cases h2 : (k - 1) / 2 = (j - 1) / 2
              · refine lep_congr lt (h := h) (i := j) (k := k) ?_ ?_ (lep_tr H (j := (j - 1) / 2) (by omega) hjp ?_)
                · rw [g, if_neg h1, if_pos h2]
                · rw [g, if_neg hkj, if_neg hk]
                · have := hu.1 k hk0 hkn hkj
                  rwa [h2] at this
              · refine lep_congr lt (h := h) (i := (k - 1) / 2) (k := k) ?_ ?_ (hu.1 k hk0 hkn hkj)
                · rw [g, if_neg h1, if_neg h2]
                · rw [g, if_neg hkj, if_neg hk]
        · have hpp := hu.1 ((j - 1) / 2) hp0 (by omega) (by omega)
          by_cases hkj : k = j
          · subst hkj
            refine lep_congr lt (h := h) (i := ((k - 1) / 2 - 1) / 2) (k := (k - 1) / 2) ?_ ?_ hpp
            · rw [g, if_neg (by omega), if_neg (by omega)]
            · rw [g, if_pos rfl]
          · refine lep_congr lt (h := h) (i := ((j - 1) / 2 - 1) / 2) (k := k) ?_ ?_ (lep_tr H (j := (j - 1) / 2) (by omega) hpp ?_)
            · rw [g, if_neg (by omega), if_neg (by omega)]
            · rw [g, if_neg hkj, if_neg (by omega)]
            · have := hu.1 k hk0 hkn hkj
              rwa [hkp] at this
      | false =>
        rw [upF_stop lt e]
        intro k hk0 hkn
        by_cases hkj : k = j
        · subst hkj; exact lep_of lt e
        · exact hu.1 k hk0 hkn hkj
    · have hj0 : j = 0 := by omega
      subst hj0
      rw [upF_zero]
      exact fun k hk0 hkn => hu.1 k hk0 hkn (by omega)

theorem downF_ge (n : Nat) (d : Nat) : ∀ (i : Nat) (h : List α), n - i = d → i ≤ (downF lt h i n).2 ∧ ((downF lt h i n).2 = i → (downF lt h i n).1 = h) ∧ (downF lt h i n).1.length = h.length ∧ (downF lt h i n).1.Perm h := by
  induction d using Nat.strongRecOn with
  | _ d ih =>
    intro i h hd
    by_cases h1 : 2 * i + 1 < n
    · cases e : lss lt h (kid lt h i n) i with
      | true =>
        rw [downF_step lt h1 e]
        have hc := kid_cases lt h i n
        have hk := kid_lt lt (h := h) h1
        obtain ⟨a, b, c, d⟩ := ih (n - kid lt h i n) (by omega) (kid lt h i n) (swp h i (kid lt h i n)) rfl
        refine ⟨by omega, fun hx => by omega, by rw [c, swp_len], d.trans (swp_perm _ _ _)⟩
      | false => rw [downF_stop lt e]; exact ⟨Nat.le_refl _, fun _ => rfl, rfl, List.Perm.refl _⟩
    · rw [downF_end lt h1]; exact ⟨Nat.le_refl _, fun _ => rfl, rfl, List.Perm.refl _⟩
theorem downF_far (n : Nat) (d : Nat) : ∀ (i : Nat) (h : List α), n - i = d → n ≤ h.length → i < n → ∀ m, n ≤ m → (downF lt h i n).1[m]? = h[m]? := by
  induction d using Nat.strongRecOn with
  | _ d ih =>
    intro i h hd hl hi m hm
    by_cases h1 : 2 * i + 1 < n
    · cases e : lss lt h (kid lt h i n) i with
      | true =>
        rw [downF_step lt h1 e]
        have hc := kid_cases lt h i n
        have hk := kid_lt lt (h := h) h1
        rw [ih (n - kid lt h i n) (by omega) (kid lt h i n) _ rfl (by rw [swp_len]; exact hl) hk m hm, swp_get (by omega) (by omega), if_neg (by omega), if_neg (by omega)]
      | false => rw [downF_stop lt e]
    · rw [downF_end lt h1]
/-- What down leaves: a heap, or, where it moved nothing, one but for the edge above. -/
theorem downF_heap {lt : α → α → Bool} (H : Tot lt) {n : Nat} (d : Nat) : ∀ (i : Nat) (h : List α), n - i = d → n ≤ h.length → i < n → Bad lt h n i →
    HeapUp lt (downF lt h i n).1 n i ∧ (i < (downF lt h i n).2 → 0 < i → lep lt (downF lt h i n).1 ((i - 1) / 2) i) := by
  induction d using Nat.strongRecOn with
  | _ d ih =>
    intro i h hd hl hin hb
    have stop : (∀ k, 0 < k → k < n → (k - 1) / 2 = i → lep lt h i k) → HeapUp lt h n i := fun hs => by
      refine ⟨fun k hk0 hkn hki => ?_, hb.2⟩
      by_cases hp : (k - 1) / 2 = i
      · rw [hp]; exact hs k hk0 hkn hp
      · exact hb.1 k hk0 hkn hki hp
    by_cases h1 : 2 * i + 1 < n
    · -- the child chosen is no later than either
      have hc := kid_cases lt h i n
      have hk := kid_lt lt (h := h) h1
      obtain ⟨c, hcd⟩ : ∃ c, c = kid lt h i n := ⟨_, rfl⟩
      have hmin : ∀ k, 0 < k → k < n → (k - 1) / 2 = i → lep lt h c k := by
        intro k hk0 hkn hkp
        have hkc : k = 2 * i + 1 ∨ k = 2 * i + 2 := by omega
        subst hcd
        unfold kid
        split
        · rename_i hh
          rcases hkc with h2 | h2
          · subst h2; exact lep_of_lss H hh.2
          · subst h2; exact lep_refl H _ _
        · rename_i hh
          rcases hkc with h2 | h2
          · subst h2; exact lep_refl H _ _
          · subst h2
            refine lep_of lt ?_
            cases e2 : lss lt h (2 * i + 2) (2 * i + 1) with
            | false => rfl
            | true => exact absurd ⟨hkn, e2⟩ hh
      cases e : lss lt h (kid lt h i n) i with
      | true =>
        rw [downF_step lt h1 e]
        rw [← hcd] at hc hk e ⊢
        have hci := lep_of_lss H e
        have g := swp_get (h := h) (i := i) (k := c) (by omega) (by omega)
        have hb' : Bad lt (swp h i c) n c := by
          refine ⟨fun k hk0 hkn hkc hkp => ?_, fun k hk0 hkn hkp hc0 => ?_⟩
          · by_cases hki : k = i
            · subst hki
              refine lep_congr lt (h := h) (i := (k - 1) / 2) (k := c) ?_ ?_ (hb.2 c (by omega) hk (by omega) hk0)
              · rw [g, if_neg hkp, if_neg (by omega)]
              · rw [g, if_neg hkc, if_pos rfl]
            · by_cases hpi : (k - 1) / 2 = i
              · refine lep_congr lt (h := h) (i := c) (k := k) ?_ ?_ (hmin k hk0 hkn hpi)
                · rw [g, if_neg hkp, if_pos hpi]
                · rw [g, if_neg hkc, if_neg hki]
              · refine lep_congr lt (h := h) (i := (k - 1) / 2) (k := k) ?_ ?_ (hb.1 k hk0 hkn hki hpi)
                · rw [g, if_neg hkp, if_neg hpi]
                · rw [g, if_neg hkc, if_neg hki]
          · have hcp : (c - 1) / 2 = i := by omega
            refine lep_congr lt (h := h) (i := c) (k := k) ?_ ?_ ?_
            · rw [g, hcp, if_neg (by omega), if_pos rfl]
            · rw [g, if_neg (by omega), if_neg (by omega)]
            · have := hb.1 k hk0 hkn (by omega) (by omega)
              rwa [hkp] at this
        obtain ⟨a, b⟩ := ih (n - c) (by omega) c (swp h i c) rfl (by rw [swp_len]; exact hl) hk hb'
        have hge := (downF_ge lt n _ c (swp h i c) rfl)
        -- the edge above c
        have hcp : (c - 1) / 2 = i := by omega
        have hedge : lep lt (downF lt (swp h i c) c n).1 i c := by
          by_cases hmv : c < (downF lt (swp h i c) c n).2
          · have := b hmv (by omega)
            rwa [hcp] at this
          · have := hge.2.1 (by omega)
            rw [this]
            refine lep_congr lt (h := h) (i := c) (k := i) ?_ ?_ hci
            · rw [g, if_neg (by omega), if_pos rfl]
            · rw [g, if_pos rfl]
        have hheap : Heap lt (downF lt (swp h i c) c n).1 n := by
          intro k hk0 hkn
          by_cases hkc : k = c
          · subst hkc; rw [hcp]; exact hedge
          · exact a.1 k hk0 hkn hkc
        refine ⟨⟨fun k hk0 hkn _ => hheap k hk0 hkn, fun k hk0 hkn hkp hi0 => ?_⟩, fun _ hi0 => hheap i hi0 hin⟩
        have e1 := hheap i hi0 hin
        have e2 := hheap k hk0 hkn
        rw [hkp] at e2
        exact lep_tr H (by rw [hge.2.2.1, swp_len]; omega) e1 e2
      | false =>
        rw [downF_stop lt e]
        refine ⟨stop fun k hk0 hkn hkp => ?_, fun h _ => absurd h (Nat.lt_irrefl _)⟩
        have hci := lep_of lt e
        rw [← hcd] at hci hk
        exact lep_tr H (by omega) hci (hmin k hk0 hkn hkp)
    · rw [downF_end lt h1]
      exact ⟨stop fun k hk0 hkn hkp => by omega, fun h _ => absurd h (Nat.lt_irrefl _)⟩

/-- heap.Push -/
def pushF (h : List α) (s : α) : List α := upF lt (h ++ [s]) h.length
theorem pushF_heap {lt : α → α → Bool} (H : Tot lt) {h : List α} (hh : Heap lt h h.length) (s : α) : Heap lt (pushF lt h s) (pushF lt h s).length ∧ (pushF lt h s).Perm (s :: h) := by
  refine ⟨?_, (upF_perm lt _ _).trans (List.perm_append_comm)⟩
  have hl : (pushF lt h s).length = h.length + 1 := by unfold pushF; rw [upF_len]; simp
  rw [hl]
  refine upF_heap H _ _ (by simp) (by omega) ⟨fun k hk0 hkn hk => ?_, fun k hk0 hkn hkp _ => by omega⟩
  exact lep_congr lt (by rw [List.getElem?_append_left (by omega)]) (by rw [List.getElem?_append_left (by omega)]) (hh k hk0 (by omega))
/-- heap.Remove, ahead of the pile's own Pop -/
def remF (h : List α) (i : Nat) : List α :=
  if h.length - 1 = i then h else
    if i < (downF lt (swp h i (h.length - 1)) i (h.length - 1)).2 then (downF lt (swp h i (h.length - 1)) i (h.length - 1)).1
    else upF lt (downF lt (swp h i (h.length - 1)) i (h.length - 1)).1 i
theorem remF_len (h : List α) (i : Nat) : (remF lt h i).length = h.length := by
  unfold remF
  have := (downF_ge lt (h.length - 1) _ i (swp h i (h.length - 1)) rfl).2.2.1
  split
  · rfl
  · split
    · rw [this, swp_len]
    · rw [upF_len, this, swp_len]
theorem remF_heap {lt : α → α → Bool} (H : Tot lt) {h : List α} (hh : Heap lt h h.length) {i : Nat} (hi : i < h.length) :
    Heap lt (remF lt h i) (h.length - 1) ∧ (remF lt h i).Perm h ∧ (remF lt h i)[h.length - 1]? = h[i]? := by
  unfold remF
  by_cases hl : h.length - 1 = i
  · rw [if_pos hl, hl]
    exact ⟨fun k hk0 hkn => hh k hk0 (by omega), List.Perm.refl _, rfl⟩
  · rw [if_neg hl]
    have hlen := swp_len h i (h.length - 1)
    have g := swp_get (h := h) (i := i) (k := h.length - 1) (by omega) (by omega)
    have hb : Bad lt (swp h i (h.length - 1)) (h.length - 1) i := by
      refine ⟨fun k hk0 hkn hki hkp => ?_, fun k hk0 hkn hkp hi0 => ?_⟩
      · refine lep_congr lt ?_ ?_ (hh k hk0 (by omega))
        · rw [g, if_neg (by omega), if_neg hkp]
        · rw [g, if_neg (by omega), if_neg hki]
      · refine lep_congr lt (h := h) (i := (i - 1) / 2) (k := k) ?_ ?_ (lep_tr H (j := i) (by omega) (hh i hi0 (by omega)) ?_)
        · rw [g, if_neg (by omega), if_neg (by omega)]
        · rw [g, if_neg (by omega), if_neg (by omega)]
        · have := hh k hk0 (by omega)
          rwa [hkp] at this
    obtain ⟨a, b⟩ := downF_heap H _ i (swp h i (h.length - 1)) rfl (by omega) (by omega) hb
    obtain ⟨c1, c2, c3, c4⟩ := downF_ge lt (h.length - 1) _ i (swp h i (h.length - 1)) rfl
    have hf := downF_far lt (h.length - 1) _ i (swp h i (h.length - 1)) rfl (by omega) (by omega) (h.length - 1) (Nat.le_refl _)
    have hlast : (swp h i (h.length - 1))[h.length - 1]? = h[i]? := by rw [g, if_pos rfl]
    split
    · rename_i hmv
      refine ⟨fun k hk0 hkn => ?_, c4.trans (swp_perm _ _ _), hf.trans hlast⟩
      by_cases hki : k = i
      · subst hki; exact b hmv hk0
      · exact a.1 k hk0 hkn hki
    · refine ⟨upF_heap H _ _ (by omega) (by omega) a, (upF_perm lt _ _).trans (c4.trans (swp_perm _ _ _)), ?_⟩
      rw [upF_far lt i _ (by omega) _ (by omega), hf, hlast]

/-- the first one of a heap comes ahead of all -/
theorem heap_top {lt : α → α → Bool} (H : Tot lt) {h : List α} {n : Nat} (hn : n ≤ h.length) (hh : Heap lt h n) (k : Nat) : k < n → lep lt h 0 k := by
  induction k using Nat.strongRecOn with
  | _ k ih =>
    intro hk
    by_cases h0 : k = 0
    · subst h0; exact lep_refl H _ _
    · exact lep_tr H (j := (k - 1) / 2) (by omega) (ih _ (by omega) (by omega)) (hh k (by omega) hk)

def Sorted (l : List α) : Prop := l.Pairwise (le lt)
/-- the document's Put -/
def putF : List α → α → List α
  | [], s => [s]
  | x :: l, s => if lt s x then s :: x :: l else x :: putF l s
theorem putF_perm (l : List α) (s : α) : (putF lt l s).Perm (s :: l) := by
  induction l with
  | nil => exact List.Perm.refl _
  | cons x l ih =>
    unfold putF
    split
    · exact List.Perm.refl _
    · exact (ih.cons x).trans (List.Perm.swap s x l)
theorem putF_sorted {lt : α → α → Bool} (H : Tot lt) {l : List α} (h : Sorted lt l) (s : α) : Sorted lt (putF lt l s) := by
  induction l with
  | nil => simp [putF, Sorted]
  | cons x l ih =>
    unfold Sorted at h
    rw [List.pairwise_cons] at h
    unfold putF
    split
    · rename_i hs
      unfold Sorted
      rw [List.pairwise_cons]
      refine ⟨fun y hy => ?_, List.pairwise_cons.2 h⟩
      rcases List.mem_cons.1 hy with e | e
      · subst e; exact H.le_of_lt hs
      · exact H.le_tr (H.le_of_lt hs) (h.1 y e)
    · rename_i hs
      unfold Sorted
      rw [List.pairwise_cons]
      refine ⟨fun y hy => ?_, ih h.2⟩
      rcases List.mem_cons.1 ((putF_perm lt l s).mem_iff.1 hy) with e | e
      · subst e; unfold le; simpa using hs
      · exact h.1 y e
theorem putF_len (l : List α) (s : α) : (putF lt l s).length = l.length + 1 := by
  have := (putF_perm lt l s).length_eq
  simpa using this

/-- h is a heap of the sorted l -/
def Holds (h l : List α) : Prop := Heap lt h h.length ∧ h.Perm l ∧ Sorted lt l
theorem Holds.nil : Holds lt [] [] := ⟨fun k h1 h2 => by simp at h2, List.Perm.refl _, List.Pairwise.nil⟩
theorem Holds.len {h l : List α} (H : Holds lt h l) : h.length = l.length := H.2.1.length_eq
theorem Holds.push {lt : α → α → Bool} (H : Tot lt) {h l : List α} (hh : Holds lt h l) (s : α) : Holds lt (pushF lt h s) (putF lt l s) := by
  obtain ⟨a, b⟩ := pushF_heap H hh.1 s
  exact ⟨a, b.trans ((hh.2.1.cons s).trans (putF_perm lt l s).symm), putF_sorted H hh.2.2 s⟩
theorem Holds.rem {lt : α → α → Bool} (H : Tot lt) {h l : List α} (hh : Holds lt h l) {i : Nat} (hi : i < h.length) {x : α} {l' : List α} (hx : h[i]? = some x) (hl : l.Perm (x :: l')) (hs : Sorted lt l') :
    Holds lt (remF lt h i).dropLast l' ∧ (remF lt h i)[h.length - 1]? = some x := by
  obtain ⟨a, b, c⟩ := remF_heap H hh.1 hi
  have hlen := remF_len lt h i
  have hsplit : remF lt h i = (remF lt h i).dropLast ++ [x] := by
    have hne : remF lt h i ≠ [] := fun e => by rw [e] at hlen; simp at hlen; omega
    have := List.dropLast_concat_getLast hne
    have hg : (remF lt h i).getLast hne = x := by
      rw [List.getLast_eq_getElem]
      have h2 : (remF lt h i)[(remF lt h i).length - 1]? = some x := by rw [hlen, c]; exact hx
      rw [List.getElem?_eq_getElem (by omega)] at h2
      injection h2
    rw [hg] at this
    exact this.symm
  refine ⟨⟨fun k hk0 hkn => ?_, ?_, hs⟩, c.trans hx⟩
  · rw [List.length_dropLast, hlen] at hkn
    refine lep_congr lt ?_ ?_ (a k hk0 hkn)
    · rw [List.getElem?_dropLast, if_pos (by rw [hlen]; omega)]
    · rw [List.getElem?_dropLast, if_pos (by rw [hlen]; omega)]
  · have p1 : (remF lt h i).Perm (x :: l') := b.trans (hh.2.1.trans hl)
    rw [hsplit] at p1
    exact ((List.perm_append_comm).trans p1).cons_inv
theorem Holds.first {lt : α → α → Bool} (H : Tot lt) {h : List α} {x : α} {l : List α} (hh : Holds lt h (x :: l)) : h[0]? = some x := by
  have hlen := hh.len
  simp only [List.length_cons] at hlen
  have h0 : h[0]? = some (h[0]'(by omega)) := List.getElem?_eq_getElem (by omega)
  rw [h0]
  congr 1
  have hx : x ∈ h := hh.2.1.mem_iff.2 (by simp)
  obtain ⟨k, hk, hkx⟩ := List.getElem_of_mem hx
  have e1 : le lt h[0] x := heap_top H (Nat.le_refl _) hh.1 k hk _ _ h0 (by rw [List.getElem?_eq_getElem hk, hkx])
  have hm : h[0] ∈ x :: l := hh.2.1.mem_iff.1 (List.getElem_mem _)
  have e2 : le lt x h[0] := by
    rcases List.mem_cons.1 hm with e | e
    · rw [e]; exact H.refl x
    · exact (List.pairwise_cons.1 hh.2.2).1 _ e
  exact H.antisymm e1 e2
theorem Holds.pop {lt : α → α → Bool} (H : Tot lt) {h : List α} {x : α} {l : List α} (hh : Holds lt h (x :: l)) : Holds lt (remF lt h 0).dropLast l ∧ (remF lt h 0)[h.length - 1]? = some x :=
  hh.rem H (by have := hh.len; simp only [List.length_cons] at this; omega) (hh.first H) (List.Perm.refl _) (List.pairwise_cons.1 hh.2.2).2
/-- whoever is last of all -/
theorem Holds.last {lt : α → α → Bool} (H : Tot lt) {h : List α} {x y : α} {l : List α} (hh : Holds lt h (l ++ [x])) (hy : y ∈ h) (hm : ∀ z ∈ h, le lt z y) : y = x := by
  have e1 : le lt x y := hm x (hh.2.1.mem_iff.2 (by simp))
  have hy' : y ∈ l ++ [x] := hh.2.1.mem_iff.1 hy
  have hp := List.pairwise_append.1 hh.2.2
  have e2 : le lt y x := by
    rcases List.mem_append.1 hy' with e | e
    · exact hp.2.2 y e x (by simp)
    · rw [List.mem_singleton.1 e]; exact H.refl x
  exact H.antisymm e2 e1
theorem Holds.steal {lt : α → α → Bool} (H : Tot lt) {h : List α} {x : α} {l : List α} (hh : Holds lt h (l ++ [x])) {i : Nat} (hi : i < h.length) (hm : ∀ z ∈ h, le lt z h[i]) : Holds lt (remF lt h i).dropLast l ∧ (remF lt h i)[h.length - 1]? = some x := by
  have hx := hh.last H (List.getElem_mem hi) hm
  exact hh.rem H hi (by rw [List.getElem?_eq_getElem hi, hx]) List.perm_append_comm (List.pairwise_append.1 hh.2.2).1

/-- where the last one of all is, by the code's own search -/
def endF (h : List α) : Nat → Nat
  | 0 => 0
  | n + 1 => if lss lt h (endF h n) n then n else endF h n
theorem endF_lt (h : List α) (n : Nat) : endF lt h n < n ∨ endF lt h n = 0 := by
  induction n with
  | zero => right; rfl
  | succ n ih =>
    unfold endF
    split
    · left; omega
    · omega
theorem endF_max {lt : α → α → Bool} (H : Tot lt) {h : List α} (n : Nat) (hn : n ≤ h.length) (h0 : 0 < h.length) : endF lt h n < h.length ∧ ∀ k, k < n → lep lt h k (endF lt h n) := by
  induction n with
  | zero => exact ⟨h0, fun k hk => by omega⟩
  | succ n ih =>
    obtain ⟨a, b⟩ := ih (by omega)
    unfold endF
    cases e : lss lt h (endF lt h n) n with
    | true =>
      rw [if_pos rfl]
      refine ⟨by omega, fun k hk => ?_⟩
      by_cases hkn : k = n
      · subst hkn; exact lep_refl H _ _
      · exact lep_tr H a (b k (by omega)) (lep_of_lss H e)
    | false =>
      rw [if_neg (by simp)]
      refine ⟨a, fun k hk => ?_⟩
      by_cases hkn : k = n
      · subst hkn; exact lep_of lt e
      · exact b k (by omega)
end
end Go.Proofs.Ytedogccbndjdpaa.Hp
