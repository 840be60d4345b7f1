/- The statement's own map: of each worker the letters that are wanted. -/
import Derived.Test.YtedogccbndjdpaaMailC
import Derived.Test.YtedogccbndjdpaaMap
import Derived.Test.YtedogccbndjdpaaRead
namespace Go.Proofs.Ytedogccbndjdpaa
open Go.RowKit
set_option linter.unusedVariables false

section
variable {K V : Type} [DecidableEq K]
def kidx : List K → K → Option Nat
  | [], _ => none
  | a :: m, k => if k = a then some 0 else (kidx m k).map (· + 1)
theorem kidx_lt : ∀ {m : List K} {k : K} {i : Nat}, kidx m k = some i → ∃ h : i < m.length, m[i] = k
  | [], k, i, h => by cases h
  | a :: m, k, i, h => by
    simp only [kidx] at h
    split at h
    · injection h with h; subst h; exact ⟨by simp, by simp; rename_i e; exact e.symm⟩
    · cases hk : kidx m k with
      | none => rw [hk] at h; cases h
      | some j =>
        rw [hk] at h
        injection h with h
        subst h
        obtain ⟨h1, h2⟩ := kidx_lt hk
        exact ⟨by simp; omega, by simpa using h2⟩
theorem mput_idx : ∀ (m : List (K × V)) (k : K) (x : V), mput m k x = match kidx (m.map (·.1)) k with | none => m ++ [(k, x)] | some i => m.set i (k, x)
  | [], k, x => rfl
  | (a, v) :: m, k, x => by
    simp only [mput, List.map_cons, kidx]
    by_cases h : k = a
    · simp [h]
    · rw [if_neg h, if_neg h, mput_idx m k x]
      cases kidx (m.map (·.1)) k <;> simp
theorem mget_idx : ∀ (m : List (K × V)) (k : K), mget m k = match kidx (m.map (·.1)) k with | none => none | some i => (m[i]?).map (·.2)
  | [], k => rfl
  | (a, v) :: m, k => by
    simp only [mget, List.map_cons, kidx]
    by_cases h : k = a
    · simp [h]
    · rw [if_neg h, if_neg h, mget_idx m k]
      cases kidx (m.map (·.1)) k <;> simp
end

theorem Nest.push {α : Type} {w w' : World} {F F' : Nat → Prop} {e sz : Nat} {enc : α → List Value} {vals : List Value} {ls : List (List α)} (h : Nest w F e sz enc vals ls) (l' : List α) (A' : Option Addr) (c' : Nat)
    (hrow : Row w' e sz A' l'.length c' (l'.flatMap enc)) (hmove : ∀ (j : Nat) (a : Addr) (n c : Nat), vals[j]? = some (.slice (some a) n c) → a.block < w.heap.size → w'.heap[a.block]? = w.heap[a.block]?)
    (hF : ∀ k, F k → F' k) (hA' : ∀ a, A' = some a → F' a.block) (hne : ∀ (j : Nat) (a b : Addr) (n c : Nat), A' = some a → vals[j]? = some (.slice (some b) n c) → a.block ≠ b.block) :
    Nest w' F' e sz enc (vals ++ [.slice A' l'.length c']) (ls ++ [l']) := by
  obtain ⟨h1, h2, h3⟩ := h
  refine ⟨by simp [h1], fun j l hj => ?_, fun j k a b n c n' c2 hjk hj hk => ?_⟩
  · rcases Nat.lt_or_ge j ls.length with hlt | hge
    · rw [List.getElem?_append_left hlt] at hj
      obtain ⟨A, c, hv, hr, hFA⟩ := h2 j l hj
      refine ⟨A, c, by rw [List.getElem?_append_left (by omega)]; exact hv, hr.move (fun a ha => ?_), fun a ha => hF _ (hFA a ha)⟩
      subst ha
      exact hmove j a _ _ hv hr.lt
    · rw [List.getElem?_append_right hge] at hj
      have h0 : j - ls.length = 0 := by
        rcases Nat.eq_zero_or_pos (j - ls.length) with h0 | h0
        · exact h0
        · rw [List.getElem?_eq_none (by simp; omega)] at hj; cases hj
      rw [h0] at hj
      simp at hj
      subst hj
      exact ⟨A', c', by rw [List.getElem?_append_right (by omega), h1, h0]; rfl, hrow, hA'⟩
  · have last : ∀ q, (vals ++ [Value.slice A' l'.length c'])[q]? = if q < vals.length then vals[q]? else if q = vals.length then some (Value.slice A' l'.length c') else none := fun q => by
      rw [List.getElem?_append]
      split
      · rfl
      · split
        · rename_i e; rw [e]; simp
        · rw [List.getElem?_eq_none (by simp; omega)]
    rw [last] at hj
    rw [last] at hk
    split at hj
    · split at hk
      · exact h3 j k a b n c n' _ hjk hj hk
      · split at hk
        · injection hk with hk
          injection hk with hk _ _
          exact (hne j b a _ _ hk hj).symm
        · cases hk
    · split at hj
      · injection hj with hj
        injection hj with hj _ _
        split at hk
        · exact hne k a b _ _ hj hk
        · split at hk
          · omega
          · cases hk
      · cases hj

abbrev Try.keyI : KeyK Try.prog 3 Int := keyInt .i64 Try.underlying3

def Want (w : World) (F : Nat → Prop) (r : Nat) (m : List (Int × Value)) (lm : List (Int × List Ltr)) : Prop :=
  m.map (·.1) = lm.map (·.1) ∧ Nest w F 34 2 encL (m.map (·.2)) (lm.map (·.2)) ∧ MapAt Try.keyI w r m ∧ F r

theorem Want.get {w : World} {F : Nat → Prop} {r : Nat} {m : List (Int × Value)} {lm : List (Int × List Ltr)} (h : Want w F r m lm) (k : Int) :
    ∃ A c, (mget m k).getD (.slice none 0 0) = .slice A ((mget lm k).getD []).length c ∧ Row w 34 2 A ((mget lm k).getD []).length c (((mget lm k).getD []).flatMap encL) ∧ ∀ a, A = some a → F a.block := by
  obtain ⟨h1, h2, h3, h4⟩ := h
  rw [mget_idx m, mget_idx lm, ← h1]
  cases hk : kidx (m.map (·.1)) k with
  | none => exact ⟨none, 0, rfl, by simpa using Row.nil w _ _, fun a ha => (by cases ha)⟩
  | some i =>
    obtain ⟨hi, _⟩ := kidx_lt hk
    have hlm : i < lm.length := by have := congrArg List.length h1; simp at this hi; omega
    obtain ⟨A, c, hv, hr, hF⟩ := h2.2.1 i lm[i].2 (by simp [hlm])
    refine ⟨A, c, ?_, ?_, hF⟩
    · simp only [List.getElem?_map] at hv
      simp only [List.getElem?_eq_getElem hlm, Option.map_some, Option.getD_some]
      rw [hv]
      rfl
    · simpa [List.getElem?_eq_getElem hlm] using hr

theorem Want.put {w w1 w2 : World} {F F' : Nat → Prop} {r : Nat} {m : List (Int × Value)} {lm : List (Int × List Ltr)} (h : Want w F r m lm) (k : Int) {A A' : Option Addr} {c c' : Nat} {l' : List Ltr}
    (hA : (mget m k).getD (.slice none 0 0) = .slice A ((mget lm k).getD []).length c) (hm1 : Mod (fun q => ∃ a, A = some a ∧ q = a.block) w w1) (hrow : Row w1 34 2 A' l'.length c' (l'.flatMap encL))
    (hat : ∀ a', A' = some a' → (∃ a, A = some a ∧ a'.block = a.block) ∨ w.heap.size ≤ a'.block) (hm2 : Mod (fun q => q = r) w1 w2) (hmap : MapAt Try.keyI w2 r (mput m k (.slice A' l'.length c')))
    (hFF : ∀ q, F q → F' q) (hF' : ∀ a', A' = some a' → w.heap.size ≤ a'.block → F' a'.block) : Want w2 F' r (mput m k (.slice A' l'.length c')) (mput lm k l') := by
  obtain ⟨h1, h2, h3, h4⟩ := h
  have hlr := h3.lt
  have notr : ∀ {u : World} {a : Addr} {n cp : Nat} {cs : List Value}, u.heap[r]? = w.heap[r]? → Row u 34 2 (some a) n cp cs → a.block ≠ r := by
    intro u a n cp cs hu hr e
    obtain ⟨_, cur, hc, _⟩ := hr.2.2.2.2 _ rfl
    obtain ⟨es, ck, hb, _⟩ := h3
    rw [e, hu, hb] at hc
    injection hc with hc
    cases hc
  have hmr1 : w1.heap[r]? = w.heap[r]? := by
    refine hm1.block r hlr ?_
    rintro ⟨a, ha, e⟩
    subst ha
    -- r is a map's block, a's is a row's
    cases hk : kidx (m.map (·.1)) k with
    | none => rw [mget_idx m, hk] at hA; simp at hA
    | some i =>
      obtain ⟨hi, _⟩ := kidx_lt hk
      have hml : i < m.length := by simpa using hi
      have hlm : i < lm.length := by have := congrArg List.length h1; simp at this; omega
      obtain ⟨A2, c2, hv, hr, _⟩ := h2.2.1 i lm[i].2 (by simp [hlm])
      rw [mget_idx m, hk] at hA
      simp only [List.getElem?_map] at hv
      simp only [hv, Option.getD_some] at hA
      injection hA with hA _ _
      subst hA
      exact notr rfl hr e.symm
  have hrow2 : Row w2 34 2 A' l'.length c' (l'.flatMap encL) := hrow.mod hm2 (fun a ha => by subst ha; exact notr hmr1 hrow)
  -- rows of others are not touched
  have others : ∀ (j : Nat) (a : Addr) (n cp : Nat), (∀ i, kidx (m.map (·.1)) k = some i → j ≠ i) → (m.map (·.2))[j]? = some (.slice (some a) n cp) → a.block < w.heap.size → w2.heap[a.block]? = w.heap[a.block]? ∧ ∀ a', A' = some a' → a'.block ≠ a.block := by
    intro j a n cp hj hv hlt
    have hjl : j < lm.length := by have := (List.getElem?_eq_some_iff.1 hv).1; have h5 := congrArg List.length h1; simp at this h5; omega
    obtain ⟨A2, c2, hv2, hr2, _⟩ := h2.2.1 j lm[j].2 (by simp [hjl])
    rw [hv] at hv2
    injection hv2 with hv2
    injection hv2 with hv2 _ _
    subst hv2
    have nA : ∀ b, A = some b → b.block ≠ a.block := by
      intro b hb
      subst hb
      cases hk : kidx (m.map (·.1)) k with
      | none => rw [mget_idx m, hk] at hA; simp at hA
      | some i =>
        obtain ⟨hi, _⟩ := kidx_lt hk
        have hml : i < m.length := by simpa using hi
        rw [mget_idx m, hk] at hA
        simp only [List.getElem?_eq_getElem hml, Option.map_some, Option.getD_some] at hA
        exact h2.2.2 i j b a _ _ _ _ (fun e => hj i hk e.symm) (by rw [List.getElem?_map, List.getElem?_eq_getElem hml, Option.map_some, hA]) hv
    refine ⟨?_, fun a' ha' => ?_⟩
    · rw [hm2.block _ (by have := hm1.size; omega) (notr rfl hr2)]
      refine hm1.block _ hlt ?_
      rintro ⟨b, hb, e⟩
      exact nA b hb e.symm
    · rcases hat a' ha' with ⟨b, hb, e⟩ | e
      · rw [e]; exact nA b hb
      · omega
  have lts : ∀ (j : Nat) (a : Addr) (n cp : Nat), (m.map (·.2))[j]? = some (.slice (some a) n cp) → a.block < w.heap.size := by
    intro j a n cp hv
    have hjl : j < lm.length := by have := (List.getElem?_eq_some_iff.1 hv).1; have h5 := congrArg List.length h1; simp at this h5; omega
    obtain ⟨A2, c2, hv2, hr2, _⟩ := h2.2.1 j lm[j].2 (by simp [hjl])
    rw [hv] at hv2
    injection hv2 with hv2
    injection hv2 with hv2 _ _
    subst hv2
    exact hr2.lt
  cases hk : kidx (m.map (·.1)) k with
  | none =>
    have hk2 : kidx (lm.map (·.1)) k = none := by rw [← h1]; exact hk
    have e1 : mput m k (.slice A' l'.length c') = m ++ [(k, .slice A' l'.length c')] := by rw [mput_idx, hk]
    have e2 : mput lm k l' = lm ++ [(k, l')] := by rw [mput_idx, hk2]
    rw [e1] at hmap ⊢
    rw [e2]
    have hA0 : A = none := by rw [mget_idx m, hk] at hA; simp at hA; exact hA.1.symm
    refine ⟨by simp [h1], ?_, hmap, hFF _ h4⟩
    simp only [List.map_append, List.map_cons, List.map_nil]
    refine h2.push l' A' c' hrow2 (fun j a n cp hv hlt => (others j a n cp (fun i hi => by rw [hk] at hi; cases hi) hv hlt).1) hFF (fun a ha => ?_) (fun j a b n cp ha hv => (others j b n cp (fun i hi => by rw [hk] at hi; cases hi) hv (lts j b n cp hv)).2 a ha)
    rcases hat a ha with ⟨b, hb, _⟩ | e
    · rw [hA0] at hb; cases hb
    · exact hF' a ha e
  | some i =>
    have hk2 : kidx (lm.map (·.1)) k = some i := by rw [← h1]; exact hk
    obtain ⟨hi, _⟩ := kidx_lt hk
    have hml : i < m.length := by simpa using hi
    have hlm : i < lm.length := by have := congrArg List.length h1; simp at this; omega
    have e1 : mput m k (.slice A' l'.length c') = m.set i (k, .slice A' l'.length c') := by rw [mput_idx, hk]
    have e2 : mput lm k l' = lm.set i (k, l') := by rw [mput_idx, hk2]
    rw [e1] at hmap ⊢
    rw [e2]
    refine ⟨by rw [List.map_set, List.map_set, h1], ?_, hmap, hFF _ h4⟩
    rw [List.map_set, List.map_set]
    refine h2.put i (by simp [hlm]) l' A' c' hrow2 (fun j a n cp hj hv hlt => (others j a n cp (fun q hq => by rw [hk] at hq; injection hq with hq; omega) hv hlt).1) hFF (fun a ha => ?_)
      (fun j a b n cp hj ha hv => (others j b n cp (fun q hq => by rw [hk] at hq; injection hq with hq; omega) hv (lts j b n cp hv)).2 a ha)
    rcases hat a ha with ⟨b, hb, e⟩ | e
    · rw [e]
      obtain ⟨A2, c2, hv, _, hFA⟩ := h2.2.1 i lm[i].2 (by simp [hlm])
      rw [mget_idx m, hk] at hA
      simp only [List.getElem?_map] at hv
      simp only [hv, Option.getD_some] at hA
      injection hA with hA _ _
      subst hA
      exact hFF _ (hFA b hb)
    · exact hF' a ha e
theorem Want.mod {w w' : World} {F G : Nat → Prop} {r : Nat} {m : List (Int × Value)} {lm : List (Int × List Ltr)} (h : Want w F r m lm) (hm : Mod G w w') (hG : ∀ q, F q → q < w.heap.size → ¬ G q) : Want w' F r m lm := by
  obtain ⟨h1, ⟨h2, h2', h2''⟩, h3, h4⟩ := h
  refine ⟨h1, ⟨h2, fun i l hi => ?_, h2''⟩, h3.move (hm.block r h3.lt (hG r h4 h3.lt)), h4⟩
  obtain ⟨A, c, hv, hr, hFA⟩ := h2' i l hi
  exact ⟨A, c, hv, hr.mod hm (fun a ha => hG _ (hFA a ha) (by subst ha; exact hr.lt)), hFA⟩
theorem Want.foot {w : World} {F G : Nat → Prop} {r : Nat} {m : List (Int × Value)} {lm : List (Int × List Ltr)} (h : Want w F r m lm) (hG : ∀ k, F k → k < w.heap.size → G k) : Want w G r m lm := by
  obtain ⟨h1, ⟨h2, h2', h2''⟩, h3, h4⟩ := h
  refine ⟨h1, ⟨h2, fun i l hi => ?_, h2''⟩, h3, hG _ h4 h3.lt⟩
  obtain ⟨A, c, hv, hr, hFA⟩ := h2' i l hi
  exact ⟨A, c, hv, hr, fun a ha => hG _ (hFA a ha) (by subst ha; exact hr.lt)⟩
end Go.Proofs.Ytedogccbndjdpaa
