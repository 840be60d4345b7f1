/- Plain laws behind FoataTells, FoataApart and FoataMore. No program in sight. -/
import Derived.Test.YtgahjibjladafaaFoD
namespace Go.Proofs.Ytgahjibjladafaa
set_option linter.unusedVariables false
namespace Fo

theorem get_getD {L : List (List Ev)} {i : Nat} (hi : i < L.length) : L.getD i [] = L[i] := by simp [List.getD_eq_getElem?_getD, List.getElem?_eq_getElem hi]
theorem apart_no {l : List Ev} {i : Nat} (hi : i < (lev l).length) {j k : Nat} (hjk : j < k) (hk : k < (lev l)[i].length) : dep ((lev l)[i][j]'(by omega)) (lev l)[i][k] = false := by
  have := lev_apart l i
  rw [get_getD hi] at this
  exact List.pairwise_iff_getElem.1 this j k (by omega) hk hjk
theorem apart_up {l : List Ev} {i : Nat} (hi : i + 1 < (lev l).length) {e : Ev} (he : e ∈ (lev l)[i + 1]) : ((lev l)[i]'(by omega)).any (fun x => dep x e) = true := by
  obtain ⟨x, hx, hd⟩ := (lev_lev l).up i e (by rw [get_getD hi]; exact he)
  rw [get_getD (show i < (lev l).length by omega)] at hx
  exact List.any_eq_true.2 ⟨x, hx, hd⟩

/-! one event more -/
theorem more_len (l : List Ev) (e : Ev) : ((lev (l ++ [e])).length = (lev l).length ∨ (lev (l ++ [e])).length = (lev l).length + 1) ∧ place (levU l) e < (lev (l ++ [e])).length := by
  have h := place_le (levU l) e
  rw [← lev_len] at h
  rw [lev_snoc_len]
  split
  · exact ⟨.inr rfl, by omega⟩
  · exact ⟨.inl rfl, by omega⟩
theorem more_at (l : List Ev) (e : Ev) {i : Nat} (hi : i < (lev (l ++ [e])).length) : (lev (l ++ [e]))[i] = if i = place (levU l) e then insT e ((lev l).getD i []) else (lev l).getD i [] := by
  rw [← get_getD hi, lev_snoc]
theorem insT_len (e : Ev) (q : List Ev) : (insT e q).length = q.length + 1 := by rw [(insT_perm e q).length_eq]; rfl
theorem insT_filter {e : Ev} : ∀ {q : List Ev}, e ∉ q → (insT e q).filter (fun x => decide (x ≠ e)) = q
  | [], _ => by simp [insT]
  | y :: q, h => by
    have hy : y ≠ e := fun he => h (by rw [he]; exact List.mem_cons_self)
    have hq : e ∉ q := fun hm => h (List.mem_cons_of_mem _ hm)
    have hf : (y :: q).filter (fun x => decide (x ≠ e)) = y :: q := List.filter_eq_self.2 (fun x hx => by
      rw [decide_eq_true_eq]
      rintro rfl
      exact h hx)
    unfold insT
    split
    · rw [List.filter_cons, if_neg (by simp), hf]
    · rw [List.filter_cons, if_pos (by simpa using hy), insT_filter hq]
theorem more_fresh (l : List Ev) (e : Ev) : e ∉ (lev l).getD (place (levU l) e) [] := fun h => by
  rw [lev_getD] at h
  have := place_free (Nat.le_refl _) e ((sortT_perm _).mem_iff.1 h)
  rw [dep_thread rfl] at this
  cases this

/-! what is read of a key -/
theorem key_none {l : List Ev} (h : okRow l = false) : key l = [] := by unfold key; rw [if_neg (by rw [h]; decide)]
theorem key_read {l : List Ev} (h : okRow l = true) : key l ≠ [] ∧ readL (key l) = some (lev l) ∧ printL (lev l) = key l := by
  have hk := okL_lev h
  rw [key_enc h]
  refine ⟨fun he => ?_, readL_enc hk, by unfold printL; rw [if_pos hk]⟩
  have := congrArg List.length he
  unfold enc at this
  simp at this
end Fo
end Go.Proofs.Ytgahjibjladafaa
