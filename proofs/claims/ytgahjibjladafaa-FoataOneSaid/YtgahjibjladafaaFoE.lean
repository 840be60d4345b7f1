/- Rows that are the same but for an order that doesn't matter: plain theory, no program in sight. -/
import Derived.Test.YtgahjibjladafaaFoP
namespace Go.Proofs.Ytgahjibjladafaa
namespace Fo
set_option linter.unusedVariables false

/-- the same, but for an order that doesn't matter -/
inductive Eqv : List Ev → List Ev → Prop
  | refl (l) : Eqv l l
  | symm {l m} : Eqv l m → Eqv m l
  | trans {l m n} : Eqv l m → Eqv m n → Eqv l n
  | swap (l r : List Ev) (x y : Ev) : dep x y = false → Eqv (l ++ x :: y :: r) (l ++ y :: x :: r)

theorem Eqv.ctx {l m : List Ev} (h : Eqv l m) (p s : List Ev) : Eqv (p ++ l ++ s) (p ++ m ++ s) := by
  induction h with
  | refl l => exact .refl _
  | symm _ ih => exact .symm ih
  | trans _ _ ih1 ih2 => exact .trans ih1 ih2
  | swap l r x y h =>
    have := Eqv.swap (p ++ l) (r ++ s) x y h
    simpa using this
theorem Eqv.left {l m : List Ev} (h : Eqv l m) (p : List Ev) : Eqv (p ++ l) (p ++ m) := by simpa using h.ctx p []
theorem Eqv.right {l m : List Ev} (h : Eqv l m) (s : List Ev) : Eqv (l ++ s) (m ++ s) := by simpa using h.ctx [] s
theorem Eqv.perm {l m : List Ev} (h : Eqv l m) : l.Perm m := by
  induction h with
  | refl l => exact .refl _
  | symm _ ih => exact .symm ih
  | trans _ _ ih1 ih2 => exact .trans ih1 ih2
  | swap l r x y h => exact (List.Perm.swap _ _ _).append_left l
/-- over all that it doesn't depend on -/
theorem Eqv.over (e : Ev) : ∀ q : List Ev, (∀ x ∈ q, dep x e = false) → Eqv (q ++ [e]) (e :: q)
  | [], _ => .refl _
  | x :: q, h => by
    have h1 := (Eqv.over e q (fun y hy => h y (List.mem_cons_of_mem _ hy))).left [x]
    have h2 := Eqv.swap [] q x e (h x List.mem_cons_self)
    exact .trans (by simpa using h1) (by simpa using h2)
/-- what is apart may stand in any order -/
theorem Eqv.of_perm {l m : List Ev} (hp : l.Perm m) : l.Pairwise (fun a b => dep a b = false) → Eqv l m := by
  induction hp with
  | nil => intro _; exact .refl _
  | cons x _ ih => intro h; have := (ih (List.pairwise_cons.1 h).2).left [x]; simpa using this
  | swap x y l => intro h; have := Eqv.swap [] l y x ((List.pairwise_cons.1 h).1 x List.mem_cons_self); simpa using this
  | trans p1 _ ih1 ih2 => intro h; exact .trans (ih1 h) (ih2 ((p1.pairwise_iff (fun {a b} h => by rw [dep_comm]; exact h)).1 h))

/-! E2: a row is the same as the row of its levels -/
theorem flat_addL {L : List (List Ev)} {n : Nat} (hn : n ≤ L.length) (e : Ev) : (addL L n e).flatten = (L.take (n + 1)).flatten ++ e :: (L.drop (n + 1)).flatten := by
  unfold addL
  by_cases h : n < L.length
  · rw [if_pos h]
    have gen : ∀ (L : List (List Ev)) n, n < L.length → (L.set n (L.getD n [] ++ [e])).flatten = (L.take (n + 1)).flatten ++ e :: (L.drop (n + 1)).flatten := by
      intro L
      induction L with
      | nil => intro n h; cases h
      | cons l L ih =>
        intro n h
        cases n with
        | zero => simp
        | succ n =>
          have := ih n (by simpa using h)
          simp only [List.set_cons_succ, List.flatten_cons, List.getD_cons_succ, List.take_succ_cons, List.drop_succ_cons]
          rw [this, List.append_assoc]
    exact gen L n h
  · rw [if_neg h, List.take_of_length_le (by omega), List.drop_of_length_le (by omega)]
    simp
theorem mem_drop_level {L : List (List Ev)} {n : Nat} {x : Ev} (h : x ∈ (L.drop n).flatten) : ∃ j, n ≤ j ∧ x ∈ L.getD j [] := by
  obtain ⟨q, hq, hx⟩ := List.mem_flatten.1 h
  obtain ⟨i, hi⟩ := List.getElem?_of_mem hq
  rw [List.getElem?_drop] at hi
  exact ⟨n + i, by omega, by rw [List.getD_eq_getElem?_getD, hi]; exact hx⟩
theorem eqv_levU (l : List Ev) : Eqv l (levU l).flatten :=
  snoc_ind (p := fun l => Eqv l (levU l).flatten) (.refl _) (fun l e h => by
    rw [levU_snoc, flat_addL (place_le _ _)]
    refine .trans (h.right [e]) ?_
    have hs : (levU l).flatten = ((levU l).take (place (levU l) e + 1)).flatten ++ ((levU l).drop (place (levU l) e + 1)).flatten := by rw [← List.flatten_append, List.take_append_drop]
    rw [hs, List.append_assoc]
    refine Eqv.left (Eqv.over e _ (fun x hx => ?_)) _
    obtain ⟨j, hj, hx⟩ := mem_drop_level hx
    exact place_free (by omega) x hx) l
theorem eqv_map_sort : ∀ (L : List (List Ev)), (∀ q ∈ L, q.Pairwise (fun a b => dep a b = false)) → Eqv L.flatten (L.map sortT).flatten
  | [], _ => .refl _
  | q :: L, h => by
    have h1 := (Eqv.of_perm (sortT_perm q).symm (h q List.mem_cons_self)).right L.flatten
    have h2 := (eqv_map_sort L (fun q hq => h q (List.mem_cons_of_mem _ hq))).left (sortT q)
    simpa using h1.trans h2
theorem eqv_lev (l : List Ev) : Eqv l (lev l).flatten :=
  (eqv_levU l).trans (eqv_map_sort _ (fun q hq => by
    obtain ⟨j, hj⟩ := List.getElem?_of_mem hq
    have := (levU_lev l).apart j
    rwa [List.getD_eq_getElem?_getD, hj] at this))

/-! E1: what is the same has the same levels -/
/-- levels, but for an order within them -/
def Lik (L M : List (List Ev)) : Prop := L.length = M.length ∧ ∀ j, (L.getD j []).Perm (M.getD j [])
theorem Lik.refl (L : List (List Ev)) : Lik L L := ⟨rfl, fun _ => .refl _⟩
theorem Lik.symm {L M : List (List Ev)} (h : Lik L M) : Lik M L := ⟨h.1.symm, fun j => (h.2 j).symm⟩
theorem Lik.trans {L M N : List (List Ev)} (h : Lik L M) (k : Lik M N) : Lik L N := ⟨h.1.trans k.1, fun j => (h.2 j).trans (k.2 j)⟩
theorem Lik.placeAt {L M : List (List Ev)} (h : Lik L M) (e : Ev) : ∀ n, placeAt L e n = placeAt M e n
  | 0 => rfl
  | n + 1 => by
    unfold Fo.placeAt
    have : (L.getD n []).any (fun x => dep x e) = (M.getD n []).any (fun x => dep x e) := by
      rw [Bool.eq_iff_iff, List.any_eq_true, List.any_eq_true]
      exact ⟨fun ⟨x, hx, hd⟩ => ⟨x, (h.2 n).mem_iff.1 hx, hd⟩, fun ⟨x, hx, hd⟩ => ⟨x, (h.2 n).mem_iff.2 hx, hd⟩⟩
    rw [this, h.placeAt e n]
theorem Lik.place {L M : List (List Ev)} (h : Lik L M) (e : Ev) : place L e = place M e := by unfold Fo.place; rw [h.1, h.placeAt]
theorem Lik.add {L M : List (List Ev)} (h : Lik L M) {n : Nat} (hn : n ≤ L.length) (e : Ev) : Lik (addL L n e) (addL M n e) := by
  refine ⟨by rw [addL_len hn, addL_len (by rw [← h.1]; exact hn), h.1], fun j => ?_⟩
  rw [addL_getD hn, addL_getD (by rw [← h.1]; exact hn)]
  split
  · exact (h.2 n).append_right [e]
  · exact h.2 j
def grow (L : List (List Ev)) (l : List Ev) : List (List Ev) := l.foldl (fun L e => addL L (place L e) e) L
theorem Lik.grow {L M : List (List Ev)} (h : Lik L M) : ∀ l, Lik (grow L l) (grow M l) := by
  intro l
  induction l generalizing L M with
  | nil => exact h
  | cons e l ih =>
    unfold Fo.grow
    rw [List.foldl_cons, List.foldl_cons]
    refine ih ?_
    rw [← h.place e]
    exact h.add (place_le _ _) e
/-- the least place from which on nothing is depended on -/
theorem place_unique {L : List (List Ev)} {e : Ev} {n : Nat} (h1 : ∀ j x, n ≤ j → x ∈ L.getD j [] → dep x e = false) (h2 : n ≠ 0 → ∃ x ∈ L.getD (n - 1) [], dep x e = true) : place L e = n := by
  apply Nat.le_antisymm
  · rcases Nat.lt_or_ge n (place L e) with h | h
    · obtain ⟨x, hx, hd⟩ := place_dep (L := L) (e := e) (by omega)
      rw [h1 _ x (by omega) hx] at hd
      cases hd
    · exact h
  · rcases Nat.lt_or_ge (place L e) n with h | h
    · obtain ⟨x, hx, hd⟩ := h2 (by omega)
      rw [place_free (by omega) x hx] at hd
      cases hd
    · exact h
theorem place_add {L : List (List Ev)} {n : Nat} (hn : n ≤ L.length) {x y : Ev} (h : dep x y = false) : place (addL L n x) y = place L y := by
  refine place_unique (fun j z hj hz => ?_) (fun h0 => ?_)
  · rw [addL_getD hn] at hz
    split at hz
    · rename_i e
      rcases List.mem_append.1 hz with hz | hz
      · exact place_free (e ▸ hj) z hz
      · rw [List.mem_singleton] at hz; subst hz; exact h
    · exact place_free hj z hz
  · obtain ⟨z, hz, hd⟩ := place_dep h0
    refine ⟨z, ?_, hd⟩
    rw [addL_getD hn]
    split
    · rename_i e; rw [← e]; exact List.mem_append_left _ hz
    · exact hz
theorem swap_lik (L : List (List Ev)) {x y : Ev} (h : dep x y = false) : Lik (grow L [x, y]) (grow L [y, x]) := by
  have hx := place_le L x
  have hy := place_le L y
  have h' : dep y x = false := by rw [dep_comm]; exact h
  have e1 : grow L [x, y] = addL (addL L (place L x) x) (place L y) y := by unfold grow; simp only [List.foldl_cons, List.foldl_nil]; rw [place_add hx h]
  have e2 : grow L [y, x] = addL (addL L (place L y) y) (place L x) x := by unfold grow; simp only [List.foldl_cons, List.foldl_nil]; rw [place_add hy h']
  rw [e1, e2]
  have l1 : place L y ≤ (addL L (place L x) x).length := by rw [addL_len hx]; split <;> omega
  have l2 : place L x ≤ (addL L (place L y) y).length := by rw [addL_len hy]; split <;> omega
  refine ⟨?_, fun j => ?_⟩
  · rw [addL_len l1, addL_len l2, addL_len hx, addL_len hy]
    by_cases a : place L x = L.length <;> by_cases b : place L y = L.length <;> simp [a, b] <;> omega
  · rw [addL_getD l1, addL_getD l2, addL_getD hx, addL_getD hy, addL_getD hx, addL_getD hy]
    by_cases a : j = place L x <;> by_cases b : j = place L y
    · subst a
      rw [if_pos b, if_pos rfl, if_pos b.symm, if_pos b]
      simp only [List.append_assoc]
      rw [← b]
      exact List.perm_append_comm.append_left _
    · subst a
      rw [if_neg b, if_pos rfl, if_pos rfl, if_neg b]
    · subst b
      rw [if_pos rfl, if_neg a, if_neg a, if_pos rfl]
    · rw [if_neg b, if_neg a, if_neg a, if_neg b]
theorem levU_append (l m : List Ev) : levU (l ++ m) = grow (levU l) m := by unfold levU grow; rw [List.foldl_append]
theorem eqv_lik {l m : List Ev} (h : Eqv l m) : Lik (levU l) (levU m) := by
  induction h with
  | refl l => exact .refl _
  | symm _ ih => exact ih.symm
  | trans _ _ ih1 ih2 => exact ih1.trans ih2
  | swap l r x y h =>
    have e1 : l ++ x :: y :: r = (l ++ [x, y]) ++ r := by simp
    have e2 : l ++ y :: x :: r = (l ++ [y, x]) ++ r := by simp
    rw [e1, e2, levU_append (l ++ [x, y]), levU_append (l ++ [y, x]), levU_append l, levU_append l]
    exact (swap_lik (levU l) h).grow r
theorem ext_getD {α : Type} {L M : List α} (d : α) (h1 : L.length = M.length) (h2 : ∀ j, L.getD j d = M.getD j d) : L = M := by
  apply List.ext_getElem h1
  intro j hj hj'
  have := h2 j
  rw [List.getD_eq_getElem?_getD, List.getD_eq_getElem?_getD, List.getElem?_eq_getElem hj, List.getElem?_eq_getElem hj'] at this
  exact this
theorem lik_lev {l m : List Ev} (h : Lik (levU l) (levU m)) : lev l = lev m := by
  refine ext_getD [] (by rw [lev_len, lev_len]; exact h.1) (fun j => ?_)
  have hp : ((lev l).getD j []).Perm ((lev m).getD j []) := by
    rw [lev_getD, lev_getD]
    exact (sortT_perm _).trans ((h.2 j).trans (sortT_perm _).symm)
  exact sorted_one hp (lev_sorted l j) (lev_sorted m j) (apart_threads (lev_apart l j))
theorem eqv_same_lev {l m : List Ev} (h : Eqv l m) : lev l = lev m := lik_lev (eqv_lik h)
theorem lev_again (l : List Ev) : lev (lev l).flatten = lev l := (eqv_same_lev (eqv_lev l)).symm
theorem lev_eqv {l m : List Ev} (h : lev l = lev m) : Eqv l m := (eqv_lev l).trans (h ▸ (eqv_lev m).symm)
theorem rights_perm {l m : List Ev} (h : l.Perm m) : rights l = rights m := by
  unfold rights
  rw [Bool.eq_iff_iff, List.all_eq_true, List.all_eq_true]
  exact ⟨fun g x hx => g x (h.mem_iff.2 hx), fun g x hx => g x (h.mem_iff.1 hx)⟩
theorem okL_lev {l : List Ev} (h : okRow l = true) : okL (lev l) = true := by
  unfold okRow at h
  simp only [Bool.and_eq_true, decide_eq_true_eq] at h
  unfold okL
  rw [lev_again, (lev_flat l).length_eq, rights_perm (lev_flat l)]
  simp [h.1, h.2]
theorem key_enc {l : List Ev} (h : okRow l = true) : key l = enc (lev l) := by unfold key printL; rw [if_pos h, if_pos (okL_lev h)]
theorem key_iff {l m : List Ev} (h : okRow l = true) (h' : okRow m = true) : key l = key m ↔ Eqv l m := by
  rw [key_enc h, key_enc h']
  exact ⟨fun e => lev_eqv (enc_inj (okL_lev h) (okL_lev h') e), fun e => by rw [eqv_same_lev e]⟩
end Fo
end Go.Proofs.Ytgahjibjladafaa
