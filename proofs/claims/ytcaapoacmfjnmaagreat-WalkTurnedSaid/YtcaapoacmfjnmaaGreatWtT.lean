/- Plain law: a program's classes, and their witnesses. -/
import Derived.Test.YtcaapoacmfjnmaaGreatWkC
namespace Go.Proofs.YtcaapoacmfjnmaaGreat
set_option linter.unusedVariables false

namespace Pr
/-- a program's class -/
def Cls (p : Pg) (m : Nat) (k : List UInt8) : Prop := ∃ s l, Ex (start p m) l s ∧ all s = [] ∧ Fo.key l = k
def sumOf (L : List (St × List Ev)) : Sm := L.foldl (fun a z => at6 z.1 z.2 a) sm0
theorem sumOf_at (L : List (St × List Ev)) : ∀ a : Sm, (L.foldl (fun a z => at6 z.1 z.2 a) a) = ⟨(L.map fun z => Fo.key z.2).foldl Ky.insG a.keys, a.runs + L.length, a.stuck + (L.filter fun z => waits z.1).length⟩ := by
  induction L with
  | nil => intro a; rfl
  | cons z L ih =>
    intro a
    rw [List.foldl_cons, ih]
    unfold at6
    by_cases h : waits z.1 = true
    · simp [h]; omega
    · simp [h]; omega
theorem sumOf_eq (L : List (St × List Ev)) : sumOf L = ⟨Ky.gather (L.map fun z => Fo.key z.2), L.length, (L.filter fun z => waits z.1).length⟩ := by
  unfold sumOf
  rw [sumOf_at]
  simp [sm0, Ky.gather]
/-- what a small program is -/
theorem small_spec {p : Pg} {f : Int} (h : small p f = true) : ∃ m : Nat, f = m ∧ m ≤ 8 ∧ Ok p ∧ few p = true ∧ cnt 32 (start p m) ≤ 600 ∧ all6 p f 600 = ((cnt 32 (start p m), sumOf (ends 32 (start p m) [])), 0) := by
  unfold small at h
  simp only [Bool.and_eq_true, decide_eq_true_eq, beq_iff_eq] at h
  obtain ⟨⟨⟨h1, h2⟩, h3⟩, h4⟩ := h
  obtain ⟨m, rfl⟩ : ∃ m : Nat, f = m := ⟨f.toNat, by omega⟩
  refine ⟨m, rfl, by omega, h2, h1, ?_⟩
  have hm : may p m := ⟨h2, h3.1, h3.2⟩
  unfold all6 at h4 ⊢
  rw [if_pos hm, Int.toNat_natCast] at h4 ⊢
  by_cases hc : 0 + cnt 32 (start p m) ≤ 600
  · refine ⟨by omega, ?_⟩
    rw [over_eq at6 600 32 (start p m) [] (0, sm0) hc]
    simp only [Nat.zero_add]
    rw [if_neg (by omega)]
    rfl
  · have := over_full at6 600 32 (start p m) [] (0, sm0) (by simp only; omega)
    simp only at h4
    rw [if_pos this] at h4
    cases h4
theorem ends_ne : ∀ (n : Nat) (s : St) (row : List Ev), ends n s row ≠ [] := by
  intro n
  induction n with
  | zero => intro s row; simp [ends]
  | succ n ih =>
    intro s row
    simp only [ends]
    by_cases ha : all s = []
    · simp [ha]
    · rw [if_neg ha]
      obtain ⟨t, l, e⟩ : ∃ t l, all s = t :: l := by cases h : all s with
        | nil => exact absurd h ha
        | cons t l => exact ⟨t, l, rfl⟩
      rw [e, List.flatMap_cons]
      intro h
      exact ih _ _ (List.append_eq_nil_iff.1 h).1
theorem keys_cls {p : Pg} {m : Nat} (h : Ok p) (hm : m ≤ 8) (k : List UInt8) : k ∈ (sumOf (ends 32 (start p m) [])).keys ↔ Cls p m k := by
  rw [sumOf_eq]
  simp only
  rw [Ky.gather_mem, List.mem_map]
  have hw := start_wf h hm
  have hf := fuels_start h hm
  constructor
  · rintro ⟨⟨s, l⟩, hin, rfl⟩
    obtain ⟨l', e, hex, ha⟩ := (mem_ends 32 _ [] hw hf s l).1 hin
    rw [List.nil_append] at e
    subst e
    exact ⟨s, l, hex, ha, rfl⟩
  · rintro ⟨s, l, hex, ha, rfl⟩
    exact ⟨(s, l), (mem_ends 32 _ [] hw hf s l).2 ⟨l, rfl, hex, ha⟩, rfl⟩
theorem keys_ne {p : Pg} {m : Nat} (h : Ok p) (hm : m ≤ 8) : (sumOf (ends 32 (start p m) [])).keys ≠ [] := by
  intro e
  obtain ⟨⟨s, l⟩, L, he⟩ : ∃ z L, ends 32 (start p m) [] = z :: L := by cases h : ends 32 (start p m) [] with
    | nil => exact absurd h (ends_ne _ _ _)
    | cons z L => exact ⟨z, L, rfl⟩
  have : Fo.key l ∈ (sumOf (ends 32 (start p m) [])).keys := by
    rw [sumOf_eq]
    simp only
    rw [Ky.gather_mem, he]
    simp
  rw [e] at this
  cases this
theorem keys_len {p : Pg} {m : Nat} : (sumOf (ends 32 (start p m) [])).keys.length ≤ (ends 32 (start p m) []).length := by
  have h := kids_good 0 0 (start p m) [] [] (0, sm0) ⟨Nat.le_refl _, Nat.le_refl _, Nat.le_refl _⟩
  have : ∀ (L : List (St × List Ev)) (a : Sm), a.keys.length ≤ a.runs → (L.foldl (fun a z => at6 z.1 z.2 a) a).keys.length ≤ (L.foldl (fun a z => at6 z.1 z.2 a) a).runs := by
    intro L
    induction L with
    | nil => intro a h; exact h
    | cons z L ih =>
      intro a h
      rw [List.foldl_cons]
      refine ih _ ?_
      unfold at6
      simp only
      rw [Ky.insG_len]
      split <;> omega
  have h2 := this (ends 32 (start p m) []) sm0 (Nat.le_refl _)
  have h3 := sumOf_eq (ends 32 (start p m) [])
  unfold sumOf at h3 ⊢
  rw [h3] at h2 ⊢
  exact h2
theorem ends_len : ∀ (n : Nat) (s : St) (row : List Ev), (ends n s row).length ≤ cnt n s := by
  intro n
  induction n with
  | zero => intro s row; simp [ends, cnt]
  | succ n ih =>
    intro s row
    simp only [ends, cnt]
    by_cases ha : all s = []
    · simp [ha]
    · rw [if_neg ha, List.length_flatMap]
      have : ∀ l : List Nat, (l.map fun t => (ends n (stepS s t) (row ++ [evAt s t])).length).sum ≤ (l.map fun t => cnt n (stepS s t)).sum := by
        intro l
        induction l with
        | nil => simp
        | cons t l ih2 => simp only [List.map_cons, List.sum_cons]; have := ih (stepS s t) (row ++ [evAt s t]); omega
      have := this (all s)
      omega
/-- a key's length -/
theorem key_small {l : List Ev} (h : Fo.okRow l = true) : (Fo.key l).length ≤ 2 * l.length + 1 := by
  have h1 := (Fo.lev_flat l).length_eq
  have h2 : (Fo.lev l).length ≤ l.length := by rw [Fo.lev_len]; exact Fo.levU_len l
  have h3 := Fo.encP_len (L := Fo.lev l) (Fo.lev l).length
  rw [List.take_length] at h3
  rw [Fo.key_enc h, Fo.enc_eq, List.length_append, List.length_singleton]
  omega
/-- an execution's length -/
theorem ex_short {p : Pg} {m : Nat} (h : Ok p) (hm : m ≤ 8) {l : List Ev} {s : St} (hex : Ex (start p m) l s) : l.length ≤ 32 := by
  have := ex_len hex (start_wf h hm)
  have := fuels_start h hm
  omega
theorem replay_ex {p : Pg} {m : Nat} (h : Ok p) (hm : m ≤ 8) {l : List Ev} {s : St} (hex : Ex (start p m) l s) : replay p m (l.map Ev.t) = .ok (s, l) := by
  unfold replay
  rw [if_pos ⟨h, by omega, by omega⟩, Int.toNat_natCast]
  exact run_of_ex hex
/-- a class has a witness -/
theorem cls_of {p : Pg} {m : Nat} (h : Ok p) (hm : m ≤ 8) {k : List UInt8} (hc : Cls p m k) : ∃ row s l, ofW p m k = .ok row ∧ replay p m row = .ok (s, l) ∧ Fo.key l = k ∧ all s = [] ∧ row.length ≤ 32 := by
  obtain ⟨s, l, hex, ha, rfl⟩ := hc
  have hl := ex_short h hm hex
  have hrep := replay_ex h hm hex
  obtain ⟨l', h1, h2, h3, h4, _⟩ := witness_law hrep (by rw [List.length_map]; omega)
  rw [List.length_map] at h4
  refine ⟨l'.map Ev.t, s, l', ?_, h2, h3, ha, by rw [List.length_map]; omega⟩
  have hb : beginsW p m (l'.map Ev.t) = .ok (Fo.key l) := by unfold beginsW; rw [h2, ← h3]
  have he : endsW p m (l'.map Ev.t) = true := by unfold endsW; rw [h2]; simp [ha]
  unfold ofW
  rw [if_pos (show may p m from ⟨h, by omega, by omega⟩), h1]
  simp only
  rw [hb]
  simp only
  rw [if_pos ⟨by trivial, he⟩]
theorem is_cls {p : Pg} {m : Nat} (h : Ok p) (hm : m ≤ 8) (k : List UInt8) : isW p m k = true ↔ Cls p m k := by
  constructor
  · intro hi
    unfold isW at hi
    split at hi
    · rename_i row hof
      unfold ofW at hof
      split at hof
      · split at hof
        · cases hof
        · rename_i row' hrow
          split at hof
          · cases hof
          · rename_i k' hb
            split at hof
            · rename_i hk
              obtain ⟨hk, he⟩ := hk
              subst hk
              unfold beginsW at hb
              split at hb
              · rename_i s l hrep
                injection hb with hb
                unfold endsW at he
                rw [hrep] at he
                unfold replay at hrep
                rw [if_pos ⟨h, by omega, by omega⟩, Int.toNat_natCast] at hrep
                obtain ⟨_, hex⟩ := ex_of_run _ _ _ _ hrep
                exact ⟨s, l, hex, by simpa using he, hb⟩
              · cases hb
            · cases hof
      · cases hof
    · cases hi
  · intro hc
    obtain ⟨row, s, l, hof, _⟩ := cls_of h hm hc
    unfold isW
    rw [hof]
/-- a beginning of an execution is no end -/
theorem cut_short {p : Pg} {m : Nat} (h : Ok p) (hm : m ≤ 8) {row : List Int} {s : St} {l : List Ev} (hrep : replay p m row = .ok (s, l)) {c : Nat} (hc : c < row.length) : ∃ s' l', replay p m (row.take c) = .ok (s', l') ∧ all s' ≠ [] := by
  unfold replay at hrep ⊢
  rw [if_pos ⟨h, by omega, by omega⟩, Int.toNat_natCast] at hrep
  rw [if_pos ⟨h, by omega, by omega⟩, Int.toNat_natCast]
  obtain ⟨e, hex⟩ := ex_of_run _ _ _ _ hrep
  have hl : l.length = row.length := by rw [e, List.length_map]
  obtain ⟨x, hx⟩ : ∃ x, l.drop c = x :: l.drop (c + 1) := ⟨_, List.drop_eq_getElem_cons (by omega)⟩
  have hsp : l = l.take c ++ x :: l.drop (c + 1) := by rw [← hx, List.take_append_drop]
  rw [hsp] at hex
  obtain ⟨s', h1, h2⟩ := ex_append.1 hex
  refine ⟨s', l.take c, ?_, fun ha => ?_⟩
  · rw [e, ← List.map_take]
    exact run_of_ex h1
  · cases h2 with
    | cons t _ hen _ _ => have := all_iff.2 hen; rw [ha] at this; cases this
theorem end_stuck {s : St} (ha : all s = []) (t : Int) : stepE s t ≠ 0 := fun h0 => by
  obtain ⟨m, rfl, _, hen, _⟩ := step_good h0
  have := all_iff.2 hen
  rw [ha] at this
  cases this
end Pr
end Go.Proofs.YtcaapoacmfjnmaaGreat
