/- The plain law of mailboxes: each worker's box is what the document's list has for it. -/
import Derived.Test.YtedogccbndjdpaaMailR
namespace Go.Proofs.Ytedogccbndjdpaa
set_option linter.unusedVariables false

def ofW (l : WLtr) : Ltr := (l.2.2, l.2.1)
def Rel (n : Nat) (ls : List (List Ltr)) (ws : List WLtr) : Prop :=
  ls.length = n ∧ totL ls = ws.length ∧ (∀ l ∈ ws, 0 ≤ l.1 ∧ l.1 < n) ∧ ∀ (i : Nat) (h : i < ls.length), ls[i] = (ws.filter (fun l => l.1 == (i : Int))).map ofW

theorem Rel.start (n : Nat) : Rel n (List.replicate n []) [] :=
  ⟨by simp, by simp [totL], fun l h => (by cases h), fun i h => (by simp)⟩

theorem Rel.send {n : Nat} {ls : List (List Ltr)} {ws : List WLtr} (h : Rel n ls ws) (to : Nat) (hto : to < ls.length) (p : ByteArray) (s : Nat) : Rel n (ls.set to (ls[to] ++ [(p, s)])) (ws ++ [((to : Int), s, p)]) := by
  obtain ⟨h1, h2, h3, h4⟩ := h
  refine ⟨by simp [h1], ?_, fun l hl => ?_, fun i hi => ?_⟩
  · have := totL_set hto (ls[to] ++ [(p, s)])
    simp only [List.length_append, List.length_singleton] at this ⊢
    omega
  · rcases List.mem_append.1 hl with hl | hl
    · exact h3 l hl
    · simp only [List.mem_singleton] at hl
      subst hl
      exact ⟨by simp, by simp; omega⟩
  · rw [List.length_set] at hi
    rw [List.filter_append, List.map_append]
    by_cases hit : to = i
    · subst hit
      rw [List.getElem_set_self, h4 to hto]
      simp [ofW]
    · rw [List.getElem_set_ne hit, h4 i hi]
      have : ((to : Int) == (i : Int)) = false := by rw [beq_eq_false_iff_ne]; omega
      simp [this]

theorem filter_erase {α : Type} (f : α → Bool) : ∀ (ws : List α) (k : Nat) (hk : k < ws.length), f ws[k] = true → (∀ q, q < k → ∀ hq : q < ws.length, f ws[q] = false) →
    ws.filter f = ws[k] :: (ws.take k ++ ws.drop (k + 1)).filter f
  | [], k, hk, _, _ => by cases hk
  | w :: ws, 0, hk, h, _ => by simp at h; simp [h]
  | w :: ws, k + 1, hk, h, hno => by
    have h0 := hno 0 (by omega) (by simp)
    simp at h0
    have := filter_erase f ws k (by simpa using hk) (by simpa using h) (fun q hq hq' => by have h1 := hno (q + 1) (by omega) (by simpa using hq'); rwa [List.getElem_cons_succ] at h1)
    simp [h0]
    simpa using this

theorem Rel.take {n : Nat} {ls : List (List Ltr)} {ws : List WLtr} (h : Rel n ls ws) (k i : Nat) (hk : k < ws.length) (hi : i < ls.length) (he : ws[k].1 = (i : Int)) (hno : ∀ q, q < k → ∀ hq' : q < ws.length, ws[q].1 ≠ (i : Int)) :
    ∃ r, ls[i] = ofW ws[k] :: r ∧ Rel n (ls.set i r) (ws.take k ++ ws.drop (k + 1)) := by
  obtain ⟨h1, h2, h3, h4⟩ := h
  have hf := filter_erase (fun l : WLtr => l.1 == (i : Int)) ws k hk (by simpa using he) (fun q hq hq' => by simpa using hno q hq hq')
  have hli := h4 i hi
  rw [hf, List.map_cons] at hli
  refine ⟨_, hli, by simp [h1], ?_, fun l hl => h3 l ?_, fun j hj => ?_⟩
  · have := totL_set hi (((ws.take k ++ ws.drop (k + 1)).filter (fun l : WLtr => l.1 == (i : Int))).map ofW)
    rw [hli] at this
    simp only [List.length_cons, List.length_append, List.length_take, List.length_drop] at this ⊢
    omega
  · rcases List.mem_append.1 hl with hl | hl
    · exact List.mem_of_mem_take hl
    · exact List.mem_of_mem_drop hl
  · rw [List.length_set] at hj
    by_cases hij : i = j
    · subst hij
      rw [List.getElem_set_self]
    · rw [List.getElem_set_ne hij, h4 j hj]
      congr 1
      have hsplit : ws = ws.take k ++ (ws[k] :: ws.drop (k + 1)) := by rw [List.getElem_cons_drop, List.take_append_drop]
      have hne : (ws[k].1 == (j : Int)) = false := by rw [beq_eq_false_iff_ne]; omega
      conv => lhs; rw [hsplit]
      rw [List.filter_append, List.filter_cons, List.filter_append]
      simp [hne]

theorem Rel.len {n : Nat} {ls : List (List Ltr)} {ws : List WLtr} (h : Rel n ls ws) (i : Int) : boxLen ls i = countW ws i := by
  obtain ⟨h1, h2, h3, h4⟩ := h
  unfold boxLen countW
  by_cases hi : 0 ≤ i ∧ i < n
  · obtain ⟨k, rfl⟩ := Int.eq_ofNat_of_zero_le hi.1
    have hk : k < ls.length := by omega
    rw [if_pos (by omega), List.getD_eq_getElem?_getD]
    simp only [Int.toNat_natCast]
    rw [List.getElem?_eq_getElem hk, Option.getD_some, h4 k hk, List.length_map]
  · have hz : (ws.filter (fun l => l.1 == i)) = [] := by
      rw [List.filter_eq_nil_iff]
      intro l hl
      have := h3 l hl
      simp
      omega
    rw [hz]
    split
    · rw [List.getD_eq_getElem?_getD, List.getElem?_eq_none (by omega)]
      rfl
    · rfl

/-- either nobody's letter, or the first one's place -/
theorem first_cases (ws : List WLtr) (i : Int) : (countW ws i = 0 ∧ firstVal ws i = -1) ∨ ∃ k, ∃ hk : k < ws.length, ws[k].1 = i ∧ firstVal ws i = k ∧ 0 < countW ws i ∧ ∀ q, q < k → ∀ hq' : q < ws.length, ws[q].1 ≠ i := by
  cases hf : firstW ws i with
  | none =>
    left
    unfold firstW at hf
    rw [List.findIdx?_eq_none_iff] at hf
    refine ⟨?_, firstVal_none (fun q hq => by simpa using hf _ (List.getElem_mem hq))⟩
    unfold countW
    rw [List.length_eq_zero_iff, List.filter_eq_nil_iff]
    intro l hl
    simpa using hf l hl
  | some k =>
    right
    unfold firstW at hf
    rw [List.findIdx?_eq_some_iff_getElem] at hf
    obtain ⟨hk, he, hno⟩ := hf
    have he' : ws[k].1 = i := by simpa using he
    have hno' : ∀ q, q < k → ∀ hq' : q < ws.length, ws[q].1 ≠ i := fun q hq hq' => by simpa using hno q hq
    refine ⟨k, hk, he', firstVal_at hk he' hno', ?_, hno'⟩
    unfold countW
    rw [List.length_pos_iff_exists_mem]
    exact ⟨ws[k], by rw [List.mem_filter]; exact ⟨List.getElem_mem hk, by simpa using he'⟩⟩
theorem Rel.count_range {n : Nat} {ls : List (List Ltr)} {ws : List WLtr} (h : Rel n ls ws) {i : Int} (hc : 0 < countW ws i) : 0 ≤ i ∧ i < n := by
  unfold countW at hc
  rw [List.length_pos_iff_exists_mem] at hc
  obtain ⟨l, hl⟩ := hc
  rw [List.mem_filter] at hl
  have := h.2.2.1 l hl.1
  have h2 : l.1 = i := by simpa using hl.2
  omega
end Go.Proofs.Ytedogccbndjdpaa
