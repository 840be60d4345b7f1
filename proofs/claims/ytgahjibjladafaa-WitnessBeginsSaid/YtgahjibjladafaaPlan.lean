/- A region that draws its order, walked along one plan: what only reads is taken first, each writing operation when it alone may come up. -/
import Derived.OrdersHeld
import Derived.Deep.RegionHeld3
import Derived.WalkKit
import Derived.KernelRfl
namespace Go.Proofs.Ytgahjibjladafaa
set_option linter.unusedVariables false

inductive Stp where
  | pure | load | eff | last

/-- goes the reading of memory on behind it? -/
def Stp.on : Stp → Bool
  | .last => false
  | _ => true

section
variable {P : Program} {md : Region.Mode} {ops : Array Oper} {Q : Exit → Act → World → Prop} {S : World → Prop} {ds : List Nat}

/-- whatever comes up; S holds behind each operation, till one of ds has come up -/
def wpAnyS (P : Program) (md : Region.Mode) (ops : Array Oper) (Q : Exit → Act → World → Prop) (S : World → Prop) (ds : List Nat) : Nat → Bool → Array Bool → Act → World → Prop
  | 0, _, l, a, w => Region.ready md ops l = [] ∧ Q .normal a w
  | n + 1, b, l, a, w => (Region.ready md ops l = [] → Q .normal a w) ∧ ∀ i ∈ Region.ready md ops l, wpOp P ops Q i (fun a' w' => ((b && !ds.contains i) = true → S w') ∧ wpAnyS P md ops Q S ds n (b && !ds.contains i) (l.setIfInBounds i true) a' w') a w

theorem wpAnyS_any : ∀ (n : Nat) (b : Bool) (l : Array Bool) (a : Act) (w : World), wpAnyS P md ops Q S ds n b l a w → wpAny P md ops Q n l a w
  | 0, _, _, _, _, h => h
  | n + 1, _, _, _, _, h => ⟨h.1, fun i hi => wpOp_mono (fun a' w' h' => wpAnyS_any n _ _ a' w' h'.2) (h.2 i hi)⟩

theorem wpAnyS_mono {S' : World → Prop} (hs : ∀ u, S' u → S u) : ∀ (n : Nat) (b : Bool) (l : Array Bool) (a : Act) (w : World), wpAnyS P md ops Q S' ds n b l a w → wpAnyS P md ops Q S ds n b l a w
  | 0, _, _, _, _, h => h
  | n + 1, _, _, _, _, h => ⟨h.1, fun i hi => wpOp_mono (fun a' w' h' => ⟨fun hn => hs _ (h'.1 hn), wpAnyS_mono hs n _ _ a' w' h'.2⟩) (h.2 i hi)⟩

/-- d waits for i, by a chain of at most n edges -/
def waitsB (md : Region.Mode) (ops : Array Oper) (i : Nat) : Nat → Nat → Bool
  | 0, _ => false
  | n + 1, d => match ops[d]? with
    | some o => o.after.any fun e => Region.binds md e && (e.on == i || waitsB md ops i n e.on)
    | none => false

def Down (md : Region.Mode) (ops : Array Oper) (l : Array Bool) : Prop := ∀ d o, ops[d]? = some o → l.getD d false = true → ∀ e ∈ o.after, Region.binds md e = true → l.getD e.on false = true

theorem Down.set {l : Array Bool} {i : Nat} (h : Down md ops l) (hi : i ∈ Region.ready md ops l) : Down md ops (l.setIfInBounds i true) := by
  intro d o hd hl e he hb
  by_cases hdi : d = i
  · subst hdi
    obtain ⟨_, o', ho', hall⟩ := mem_ready.1 hi
    rw [hd] at ho'
    injection ho' with ho'
    subst ho'
    exact getD_set_true (hall e he hb)
  · have : l.getD d false = true := by
      simpa [Array.getElem?_setIfInBounds_ne (Ne.symm hdi)] using hl
    exact getD_set_true (h d o hd this e he hb)

theorem waits_listed {l : Array Bool} {i : Nat} (hc : Down md ops l) : ∀ (n d : Nat), waitsB md ops i n d = true → l.getD d false = true → l.getD i false = true
  | 0, _, h, _ => by cases h
  | n + 1, d, h, hl => by
    unfold waitsB at h
    cases ho : ops[d]? with
    | none => rw [ho] at h; cases h
    | some o =>
      rw [ho] at h
      obtain ⟨e, he, h⟩ := Array.any_eq_true'.1 h
      simp only [Bool.and_eq_true, Bool.or_eq_true, beq_iff_eq] at h
      have h1 := hc d o ho hl e he h.1
      rcases h.2 with h2 | h2
      · rw [← h2]; exact h1
      · exact waits_listed hc n e.on h2 h1

theorem waits_not_ready {l : Array Bool} {i d n : Nat} (hc : Down md ops l) (h : waitsB md ops i n d = true) (hi : l.getD i true = false) : d ∉ Region.ready md ops l := by
  intro hd
  obtain ⟨_, o, ho, hall⟩ := mem_ready.1 hd
  have hif : l.getD i false = false := by
    rcases Nat.lt_or_ge i l.size with h' | h'
    · simpa [h'] using hi
    · simp [Array.getElem?_eq_none h'] at hi
  cases n with
  | zero => cases h
  | succ n =>
    unfold waitsB at h
    rw [ho] at h
    obtain ⟨e, he, h⟩ := Array.any_eq_true'.1 h
    simp only [Bool.and_eq_true, Bool.or_eq_true, beq_iff_eq] at h
    have h1 := hall e he h.1
    rcases h.2 with h2 | h2
    · rw [h2, hif] at h1; cases h1
    · have := waits_listed hc n e.on h2 h1
      rw [hif] at this; cases this

/-- taken first: i yields v in whatever world, or in every world that meets S, and those of ds wait for it -/
theorem wpAnyS_first {S' : World → Prop} {i : Nat} {oi : Oper} {v : Value} (hi : ops[i]? = some oi) (hsel : ∀ (j : Nat) (o : Oper) cs b, ops[j]? = some o → o.op ≠ .select cs b)
    (hQ : ∀ c a w, Q (.panic c) (a.put oi.dst v) w → Q (.panic c) a w) (hids : ds.contains i = false) (n : Nat) :
    ∀ (fuel : Nat) (b : Bool) (l : Array Bool) (a : Act) (w : World),
      (∀ j oj, ops[j]? = some oj → j ≠ i → l.getD j true = false → (∀ e ∈ oj.after, Region.binds md e = true → e.on ≠ i) → oi.apart ops oj = true) →
      Down md ops l → ((∀ u, S' u) ∨ (b = true ∧ (∀ u, S u → S' u) ∧ ∀ d, ds.contains d = true → l.getD d true = false → waitsB md ops i n d = true)) →
      i ∈ Region.ready md ops l → YieldsIf P ops S' oi v a → S' w → (b = true → S w) →
      wpAnyS P md ops Q S ds fuel b (l.setIfInBounds i true) (a.put oi.dst v) w → wpAnyS P md ops Q S ds (fuel + 1) b l a w := by
  intro fuel
  induction fuel with
  | zero =>
    intro b l a w _ _ _ hr hy hS hSi H
    refine ⟨fun h => (by rw [h] at hr; cases hr), fun j hj => ?_⟩
    by_cases hji : j = i
    · subst hji; exact hy.wpOp hi hS ⟨fun h => hSi (by revert h; cases b <;> simp), by rw [hids]; simpa using H⟩
    · have := ready_mono hj hji
      rw [H.1] at this
      cases this
  | succ fuel ih =>
    intro b l a w hfree hc hd hr hy hS hSi H
    refine ⟨fun h => (by rw [h] at hr; cases hr), fun j hj => ?_⟩
    by_cases hji : j = i
    · subst hji; exact hy.wpOp hi hS ⟨fun h => hSi (by revert h; cases b <;> simp), by rw [hids]; simpa using H⟩
    · have h1 := H.2 j (ready_mono hj hji)
      obtain ⟨hjun, oj, hoj, hall⟩ := mem_ready.1 hj
      have hiun := (mem_ready.1 hr).1
      have hnot : ∀ e ∈ oj.after, Region.binds md e = true → e.on ≠ i := fun e he hb heq => by
        have h1 := hall e he hb
        rw [heq] at h1
        rcases Nat.lt_or_ge i l.size with h' | h'
        · simp [h'] at hiun h1; rw [hiun] at h1; cases h1
        · simp [Array.getElem?_eq_none h'] at h1
      have h2 := wpOp_putIf hoj (hfree j oj hoj hji hjun hnot) (fun cs b => hsel i oi cs b hi) (fun cs b => hsel j oj cs b hoj) hQ hy h1
      have hfree' : ∀ k ok, ops[k]? = some ok → k ≠ i → (l.setIfInBounds j true).getD k true = false →
          (∀ e ∈ ok.after, Region.binds md e = true → e.on ≠ i) → oi.apart ops ok = true := fun k ok hk hki hun hno => by
        refine hfree k ok hk hki ?_ hno
        by_cases hjk : j = k
        · subst hjk; exact hjun
        · rw [getD_set_ne true hjk] at hun; exact hun
      refine wpOp_mono (fun a' w' h3 => ⟨h3.2.1, ?_⟩) h2
      have hjd : (∀ u, S' u) ∨ ds.contains j = false := by
        rcases hd with h | ⟨_, hss, h⟩
        · exact .inl h
        · right
          cases hcj : ds.contains j with
          | false => rfl
          | true => exact absurd hj (waits_not_ready hc (h j hcj hjun) hiun)
      have hS' : S' w' := by
        rcases hd with h | ⟨hb, hss, h⟩
        · exact h w'
        · rcases hjd with h' | h'
          · exact h' w'
          · exact hss _ (h3.2.1 (by rw [hb, h']; rfl))
      have hd' : (∀ u, S' u) ∨ ((b && !ds.contains j) = true ∧ (∀ u, S u → S' u) ∧ ∀ d, ds.contains d = true → (l.setIfInBounds j true).getD d true = false → waitsB md ops i n d = true) := by
        rcases hd with h | ⟨hb, hss, h⟩
        · exact .inl h
        · rcases hjd with h' | h'
          · exact .inl h'
          · refine .inr ⟨by rw [hb, h']; rfl, hss, fun d hm hu => h d hm ?_⟩
            by_cases hjd : j = d
            · subst hjd; exact hjun
            · rw [getD_set_ne true hjd] at hu; exact hu
      refine ih _ (l.setIfInBounds j true) a' w' hfree' (hc.set hj) hd' (ready_mono hr (Ne.symm hji)) h3.1 hS' h3.2.1 ?_
      rw [Array.setIfInBounds_comm _ _ hji]
      exact h3.2.2

/-! the plan -/
def wpPlan (P : Program) (ops : Array Oper) (Q : Exit → Act → World → Prop) : List (Option Oper × Stp) → (World → Prop) → Act → World → Prop
  | [], _, a, w => Q .normal a w
  | (none, _) :: _, _, _, _ => False
  | (some o, .pure) :: r, S, a, w => ∃ v, Yields P ops o v a ∧ wpPlan P ops Q r S (a.put o.dst v) w
  | (some o, .load) :: r, S, a, w => ∃ v, YieldsIf P ops S o v a ∧ wpPlan P ops Q r S (a.put o.dst v) w
  | (some o, .eff) :: r, S, a, w => wpList P ops (Exit.then (fun a' w' => ∃ S' : World → Prop, (∀ u, S' u → S u) ∧ S' w' ∧ wpPlan P ops Q r S' a' w') Q) [o] a w
  | (some o, .last) :: r, S, a, w => wpList P ops (Exit.then (fun a' w' => wpPlan P ops Q r S a' w') Q) [o] a w

/-- may the plan be gone by? b: no 'last' has come up -/
def planOk (md : Region.Mode) (ops : Array Oper) (ds : List Nat) : Bool → List (Nat × Stp) → Array Bool → Bool
  | _, [], l => (Region.ready md ops l).isEmpty
  | b, (i, k) :: r, l =>
    (match k with
      | .pure => Region.free md ops l i && (Region.ready md ops l).contains i && !ds.contains i
      | .load => b && Region.free md ops l i && (Region.ready md ops l).contains i && !ds.contains i && ds.all (fun d => l.getD d true || waitsB md ops i ops.size d)
      | .eff => (Region.ready md ops l == [i]) && !ds.contains i
      | .last => (Region.ready md ops l == [i]) && ds.contains i) &&
    planOk md ops ds (b && k.on) r (l.setIfInBounds i true)

theorem wpList_one {K : Act → World → Prop} {o : Oper} {i : Nat} (hi : ops[i]? = some o) {a : Act} {w : World} (h : wpList P ops (Exit.then K Q) [o] a w) : wpOp P ops Q i K a w := by
  unfold wpOp
  simp only [hi]
  unfold wpList at h
  split at h
  · rename_i hw
    rw [if_pos hw]
    rcases h with h | ⟨h1, a', w', h2⟩
    · refine .inl ?_
      have e1 : (wpList P ops (Exit.then K Q) []) = K := by funext a w; rfl
      rw [e1] at h
      unfold Oper.wp at *
      generalize (execOp a.eval o).run P w = r at *
      cases r with
      | ok n w' =>
        cases n <;> simp only [Oper.upon] at h ⊢
        case value => exact h
        case skip => exact h
        case defer => exact h
        case enter =>
          refine Calls.mono h fun e w'' he => ?_
          cases e with
          | returned u => exact he
          | panicked c => exact he
          | outgrown => obtain ⟨a1, w1, h1⟩ := he; exact ⟨a1, w1, h1⟩
        case row => exact h
      | halt x w' =>
        cases x <;> simp only [Oper.upon] at h ⊢
        case panic => exact h
    · exact .inr ⟨h1, a', w', h2⟩
  · rename_i hw
    rw [if_neg hw]
    exact h

theorem plan_sound (hs : Region.noSelect ops = true) (hQ : ∀ c a d v w, Q (.panic c) (a.put d v) w → Q (.panic c) a w) : ∀ (plan : List (Nat × Stp)) (S : World → Prop) (b : Bool) (l : Array Bool) (a : Act) (w : World),
    planOk md ops ds b plan l = true → Down md ops l → (b = true → S w) → wpPlan P ops Q (plan.map fun p => (ops[p.1]?, p.2)) S a w → wpAnyS P md ops Q S ds plan.length b l a w
  | [], S, b, l, a, w, hok, _, _, h => ⟨by simpa [planOk] using hok, h⟩
  | (i, k) :: r, S, b, l, a, w, hok, hc, hS, h => by
    simp only [List.map_cons] at h
    simp only [planOk, Bool.and_eq_true] at hok
    obtain ⟨h1, hok⟩ := hok
    cases hi : ops[i]? with
    | none => rw [hi] at h; simp [wpPlan] at h
    | some o =>
      rw [hi] at h
      have hsel := Region.noSelect_spec hs
      have IH := plan_sound hs hQ r
      cases k with
      | pure =>
        simp only [Bool.and_eq_true, Bool.not_eq_true', List.contains_iff_mem] at h1
        obtain ⟨⟨hf, hr⟩, hd⟩ := h1
        obtain ⟨v, hy, h⟩ := h
        refine wpAnyS_first (S' := fun _ => True) hi hsel (fun c a w => hQ c a _ _ w) hd 0 _ b l a w (Region.free_spec hi hf) hc (.inl fun _ => trivial) hr (hy.yieldsIf) trivial hS ?_
        exact IH S b _ _ w (by simpa [Stp.on] using hok) (hc.set hr) hS h
      | load =>
        simp only [Bool.and_eq_true, Bool.not_eq_true', List.contains_iff_mem] at h1
        obtain ⟨⟨⟨⟨hb, hf⟩, hr⟩, hd⟩, hall⟩ := h1
        obtain ⟨v, hy, h⟩ := h
        refine wpAnyS_first (S' := S) hi hsel (fun c a w => hQ c a _ _ w) hd ops.size _ b l a w (Region.free_spec hi hf) hc (.inr ⟨hb, fun _ h => h, fun d hm hu => ?_⟩) hr hy (hS hb) hS ?_
        · have := List.all_eq_true.1 hall d (by simpa using hm)
          rw [hu] at this
          simpa using this
        · exact IH S b _ _ w (by simpa [Stp.on] using hok) (hc.set hr) hS h
      | eff =>
        simp only [Bool.and_eq_true, Bool.not_eq_true', beq_iff_eq] at h1
        obtain ⟨hr, hd⟩ := h1
        refine ⟨fun h0 => (by rw [h0] at hr; cases hr), fun j hj => ?_⟩
        have hj0 := hj
        rw [hr] at hj
        have hji : j = i := by simpa using hj
        subst hji
        refine wpOp_mono (fun a' w' h3 => ?_) (wpList_one hi h)
        obtain ⟨S', hs', hw', h3⟩ := h3
        rw [hd]
        refine ⟨fun _ => hs' _ hw', wpAnyS_mono hs' _ _ _ _ _ (IH S' _ _ _ w' (by simpa [Stp.on] using hok) (hc.set hj0) (fun _ => hw') h3)⟩
      | last =>
        simp only [Bool.and_eq_true, beq_iff_eq] at h1
        obtain ⟨hr, hd⟩ := h1
        refine ⟨fun h0 => (by rw [h0] at hr; cases hr), fun j hj => ?_⟩
        have hj0 := hj
        rw [hr] at hj
        have hji : j = i := by simpa using hj
        subst hji
        refine wpOp_mono (fun a' w' h3 => ?_) (wpList_one hi h)
        rw [hd]
        have hbf : (b && !true) = false := by cases b <;> rfl
        rw [hbf]
        refine ⟨fun h => (by cases h), IH S _ _ _ w' ?_ (hc.set hj0) (fun h => (by cases h)) h3⟩
        have : (b && Stp.last.on) = false := by cases b <;> rfl
        rw [this] at hok
        exact hok

theorem plan_pure {r : List (Option Oper × Stp)} {o : Oper} {v : Value} {a : Act} {w : World} (hw : Region.wanted o (yielded ops a.tmps) = true) (hy : ∀ w1, (execOp a.eval o).run P w1 = .ok (.value v) w1)
    (h : wpPlan P ops Q r S (a.put o.dst v) w) : wpPlan P ops Q ((some o, .pure) :: r) S a w := ⟨v, .inl ⟨hw, hy⟩, h⟩
theorem plan_off {r : List (Option Oper × Stp)} {o : Oper} {a : Act} {w : World} (hw : Region.wanted o (yielded ops a.tmps) = false)
    (h : wpPlan P ops Q r S (a.put o.dst undef) w) : wpPlan P ops Q ((some o, .pure) :: r) S a w := ⟨undef, .inr ⟨hw, rfl⟩, h⟩
theorem plan_load {r : List (Option Oper × Stp)} {o : Oper} {v : Value} {a : Act} {w : World} (hw : Region.wanted o (yielded ops a.tmps) = true) (hy : ∀ w1, S w1 → (execOp a.eval o).run P w1 = .ok (.value v) w1)
    (h : wpPlan P ops Q r S (a.put o.dst v) w) : wpPlan P ops Q ((some o, .load) :: r) S a w := ⟨v, .inl ⟨hw, hy⟩, h⟩
theorem plan_load_off {r : List (Option Oper × Stp)} {o : Oper} {a : Act} {w : World} (hw : Region.wanted o (yielded ops a.tmps) = false)
    (h : wpPlan P ops Q r S (a.put o.dst undef) w) : wpPlan P ops Q ((some o, .load) :: r) S a w := ⟨undef, .inr ⟨hw, rfl⟩, h⟩
theorem plan_eff {r : List (Option Oper × Stp)} {o : Oper} {a : Act} {w : World} (h : wpList P ops (Exit.then (fun a' w' => ∃ S' : World → Prop, (∀ u, S' u → S u) ∧ S' w' ∧ wpPlan P ops Q r S' a' w') Q) [o] a w) : wpPlan P ops Q ((some o, .eff) :: r) S a w := h
theorem plan_last {r : List (Option Oper × Stp)} {o : Oper} {a : Act} {w : World} (h : wpList P ops (Exit.then (fun a' w' => wpPlan P ops Q r S a' w') Q) [o] a w) : wpPlan P ops Q ((some o, .last) :: r) S a w := h
/-- what is behind a writing operation: S is shown anew -/
theorem plan_on {r : List (Option Oper × Stp)} {S' : World → Prop} {a : Act} {w : World} (hs : ∀ u, S' u → S u) (hw : S' w) (h : wpPlan P ops Q r S' a w) : ∃ S' : World → Prop, (∀ u, S' u → S u) ∧ S' w ∧ wpPlan P ops Q r S' a w := ⟨S', hs, hw, h⟩

theorem plan_end {a : Act} {w : World} (h : Q .normal a w) : wpPlan P ops Q [] S a w := h

/-- a region that draws, by a plan -/
theorem wp_region_plan {id : Nat} {a : Act} {w : World} (hm : P.follows .mixedOrders = true) (S : World → Prop) (ds : List Nat) (plan : List (Nat × Stp)) {L : List (Option Oper × Stp)}
    (hL : plan.map (fun p => (ops[p.1]?, p.2)) = L) (hok : (Region.noSelect ops && decide (plan.length = ops.size) && planOk .any ops ds true plan (Array.replicate ops.size false)) = true)
    (hQ : ∀ c a d v w, Q (.panic c) (a.put d v) w → Q (.panic c) a w) (hS : S w.drew) (h : wpPlan P ops Q L S a w.drew) : (Code.region id ops true).wp P Q a w := by
  subst hL
  simp only [Bool.and_eq_true, decide_eq_true_eq] at hok
  obtain ⟨⟨h1, h2⟩, h3⟩ := hok
  refine wp_region_any hm (wpAnyS_any (S := S) (ds := ds) _ true _ _ _ ?_)
  rw [← h2]
  rw [← h2] at h3
  refine plan_sound h1 hQ plan S true _ a _ h3 (fun d o _ hl => ?_) (fun _ => hS) h
  exfalso
  revert hl
  simp [Array.getElem?_replicate]
  split <;> simp
end
end Go.Proofs.Ytgahjibjladafaa
