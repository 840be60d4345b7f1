/- A region that draws its order, walked along one plan: what only reads is taken first, each writing operation when it alone may come up. -/
import Derived.OrdersHeld
import Derived.Deep.RegionHeld3
import Derived.WalkKit
import Derived.KernelRfl
namespace Go.Proofs.YtcaapoacmfjnmaaGreat
set_option linter.unusedVariables false

inductive Stp where
  | pure | load | eff | last

/-- goes the reading of memory on behind it? -/
def Stp.on : Stp → Bool
  | .last => false
  | _ => true

section
variable {P : Program} {md : Region.Mode} {ops : Array Oper} {Q : Exit → Act → World → Prop} {S : World → Prop} {ds : List Nat}

/-- whatever comes up; S holds behind each operation, till one of ds has come up -/
def wpAnyS (P : Program) (md : Region.Mode) (ops : Array Oper) (Q : Exit → Act → World → Prop) (S : World → Prop) (ds : List Nat) : Nat → Bool → Array Bool → Act → World → Prop
  | 0, _, l, a, w => Region.ready md ops l = [] ∧ Q .normal a w
  | n + 1, b, l, a, w => (Region.ready md ops l = [] → Q .normal a w) ∧ ∀ i ∈ Region.ready md ops l, wpOp P ops Q i (fun a' w' => ((b && !ds.contains i) = true → S w') ∧ wpAnyS P md ops Q S ds n (b && !ds.contains i) (l.setIfInBounds i true) a' w') a w

theorem wpAnyS_any : ∀ (n : Nat) (b : Bool) (l : Array Bool) (a : Act) (w : World), wpAnyS P md ops Q S ds n b l a w → wpAny P md ops Q n l a w
  | 0, _, _, _, _, h => h
  | n + 1, _, _, _, _, h => ⟨h.1, fun i hi => wpOp_mono (fun a' w' h' => wpAnyS_any n _ _ a' w' h'.2) (h.2 i hi)⟩

theorem wpAnyS_mono {S' : World → Prop} (hs : ∀ u, S' u → S u) : ∀ (n : Nat) (b : Bool) (l : Array Bool) (a : Act) (w : World), wpAnyS P md ops Q S' ds n b l a w → wpAnyS P md ops Q S ds n b l a w
  | 0, _, _, _, _, h => h
  | n + 1, _, _, _, _, h => ⟨h.1, fun i hi => wpOp_mono (fun a' w' h' => ⟨fun hn => hs _ (h'.1 hn), wpAnyS_mono hs n _ _ a' w' h'.2⟩) (h.2 i hi)⟩

/-- d waits for i, by a chain of at most n edges -/
def waitsB (md : Region.Mode) (ops : Array Oper) (i : Nat) : Nat → Nat → Bool
  | 0, _ => false
  | n + 1, d => match ops[d]? with
    | some o => o.after.any fun e => Region.binds md e && (e.on == i || waitsB md ops i n e.on)
    | none => false

def Down (md : Region.Mode) (ops : Array Oper) (l : Array Bool) : Prop := ∀ d o, ops[d]? = some o → l.getD d false = true → ∀ e ∈ o.after, Region.binds md e = true → l.getD e.on false = true

theorem Down.set {l : Array Bool} {i : Nat} (h : Down md ops l) (hi : i ∈ Region.ready md ops l) : Down md ops (l.setIfInBounds i true) := by
  intro d o hd hl e he hb
  by_cases hdi : d = i
  · subst hdi
    obtain ⟨_, o', ho', hall⟩ := mem_ready.1 hi
    rw [hd] at ho'
    injection ho' with ho'
    subst ho'
    exact getD_set_true (hall e he hb)
  · have : l.getD d false = true := by
      simpa [Array.getElem?_setIfInBounds_ne (Ne.symm hdi)] using hl
    exact getD_set_true (h d o hd this e he hb)

theorem waits_listed {l : Array Bool} {i : Nat} (hc : Down md ops l) : ∀ (n d : Nat), waitsB md ops i n d = true → l.getD d false = true → l.getD i false = true
  | 0, _, h, _ => by cases h
  | n + 1, d, h, hl => by
    unfold waitsB at h
    cases ho : ops[d]? with
    | none => rw [ho] at h; cases h
    | some o =>
      rw [ho] at h
      obtain ⟨e, he, h⟩ := Array.any_eq_true'.1 h
      simp only [Bool.and_eq_true, Bool.or_eq_true, beq_iff_eq] at h
      have h1 := hc d o ho hl e he h.1
      rcases h.2 with h2 | h2
      · rw [← h2]; exact h1
      · exact waits_listed hc n e.on h2 h1

theorem waits_not_ready {l : Array Bool} {i d n : Nat} (hc : Down md ops l) (h : waitsB md ops i n d = true) (hi : l.getD i true = false) : d ∉ Region.ready md ops l := by
  intro hd
  obtain ⟨_, o, ho, hall⟩ := mem_ready.1 hd
  have hif : l.getD i false = false := by
    rcases Nat.lt_or_ge i l.size with h' | h'
    · simpa [h'] using hi
    · simp [Array.getElem?_eq_none h'] at hi
  cases n with
  | zero => cases h
  | succ n =>
    unfold waitsB at h
    rw [ho] at h
    obtain ⟨e, he, h⟩ := Array.any_eq_true'.1 h
    simp only [Bool.and_eq_true, Bool.or_eq_true, beq_iff_eq] at h
    have h1 := hall e he h.1
    rcases h.2 with h2 | h2
    · rw [h2, hif] at h1; cases h1
    · have := waits_listed hc n e.on h2 h1
      rw [hif] at this; cases this

/-- taken first: i yields v in whatever world, or in every world that meets S, and those of ds wait for it -/
theorem wpAnyS_first {S' : World → Prop} {i : Nat} {oi : Oper} {v : Value} (hi : ops[i]? = some oi) (hsel : ∀ (j : Nat) (o : Oper) cs b, ops[j]? = some o → o.op ≠ .select cs b)
    (hQ : ∀ c a w, Q (.panic c) (a.put oi.dst v) w → Q (.panic c) a w) (hids : ds.contains i = false) (n : Nat) :
    ∀ (fuel : Nat) (b : Bool) (l : Array Bool) (a : Act) (w : World),
      (∀ j oj, ops[j]? = some oj → j ≠ i → l.getD j true = false → (∀ e ∈ oj.after, Region.binds md e = true → e.on ≠ i) → oi.apart ops oj = true) →
      Down md ops l → ((∀ u, S' u) ∨ (b = true ∧ (∀ u, S u → S' u) ∧ ∀ d, ds.contains d = true → l.getD d true = false → waitsB md ops i n d = true)) →
      i ∈ Region.ready md ops l → YieldsIf P ops S' oi v a → S' w → (b = true → S w) →
      wpAnyS P md ops Q S ds fuel b (l.setIfInBounds i true) (a.put oi.dst v) w → wpAnyS P md ops Q S ds (fuel + 1) b l a w := by
  intro fuel
  induction fuel with
  | zero =>
    intro b l a w _ _ _ hr hy hS hSi H
    refine ⟨fun h => (by rw [h] at hr; cases hr), fun j hj => ?_⟩
    by_cases hji : j = i
    · subst hji; exact hy.wpOp hi hS ⟨fun h => hSi (by revert h; cases b <;> simp), by rw [hids]; simpa using H⟩
    · have := ready_mono hj hji
      rw [H.1] at this
      cases this
  | succ fuel ih =>
    intro b l a w hfree hc hd hr hy hS hSi H
    refine ⟨fun h => (by rw [h] at hr; cases hr), fun j hj => ?_⟩
    by_cases hji : j = i
    · subst hji; exact hy.wpOp hi hS ⟨fun h => hSi (by revert h; cases b <;> simp), by rw [hids]; simpa using H⟩
    · have h1 := H.2 j (ready_mono hj hji)
      obtain ⟨hjun, oj, hoj, hall⟩ := mem_ready.1 hj
      have hiun := (mem_ready.1 hr).1
      have hnot : ∀ e ∈ oj.after, Region.binds md e = true → e.on ≠ i := fun e he hb heq => by
        have h1 := hall e he hb
        rw [heq] at h1
        rcases Nat.lt_or_ge i l.size with h' | h'
        · simp [h'] at hiun h1; rw [hiun] at h1; cases h1
        · simp [Array.getElem?_eq_none h'] at h1
      have h2 := wpOp_putIf hoj (hfree j oj hoj hji hjun hnot) (fun cs b => hsel i oi cs b hi) (fun cs b => hsel j oj cs b hoj) hQ hy h1
      have hfree' : ∀ k ok, ops[k]? = some ok → k ≠ i → (l.setIfInBounds j true).getD k true = false →
          (∀ e ∈ ok.after, Region.binds md e = true → e.on ≠ i) → oi.apart ops ok = true := fun k ok hk hki hun hno => by
        refine hfree k ok hk hki ?_ hno
        by_cases hjk : j = k
        · subst hjk; exact hjun
        · rw [getD_set_ne true hjk] at hun; exact hun
      refine wpOp_mono (fun a' w' h3 => ⟨h3.2.1, ?_⟩) h2
      have hjd : (∀ u, S' u) ∨ ds.contains j = false := by
        rcases hd with h | ⟨_, hss, h⟩
        · exact .inl h
        · right
          cases hcj : ds.contains j with
          | false => rfl
          | true => exact absurd hj (waits_not_ready hc (h j hcj hjun) hiun)
      have hS' : S' w' := by
        rcases hd with h | ⟨hb, hss, h⟩
        · exact h w'
        · rcases hjd with h' | h'
          · exact h' w'
          · exact hss _ (h3.2.1 (by rw [hb, h']; rfl))
      have hd' : (∀ u, S' u) ∨ ((b && !ds.contains j) = true ∧ (∀ u, S u → S' u) ∧ ∀ d, ds.contains d = true → (l.setIfInBounds j true).getD d true = false → waitsB md ops i n d = true) := by
        rcases hd with h | ⟨hb, hss, h⟩
        · exact .inl h
        · rcases hjd with h' | h'
          · exact .inl h'
          · refine .inr ⟨by rw [hb, h']; rfl, hss, fun d hm hu => h d hm ?_⟩
            by_cases hjd : j = d
            · subst hjd; exact hjun
            · rw [getD_set_ne true hjd] at hu; exact hu
      refine ih _ (l.setIfInBounds j true) a' w' hfree' (hc.set hj) hd' (ready_mono hr (Ne.symm hji)) h3.1 hS' h3.2.1 ?_
      rw [Array.setIfInBounds_comm _ _ hji]
      exact h3.2.2

/-! the plan -/
def wpPlan (P : Program) (ops : Array Oper) (Q : Exit → Act → World → Prop) : List (Option Oper × Stp) → (World → Prop) → Act → World → Prop
  | [], _, a, w => Q .normal a w
  | (none, _) :: _, _, _, _ => False
  | (some o, .pure) :: r, S, a, w => ∃ v, Yields P ops o v a ∧ wpPlan P ops Q r S (a.put o.dst v) w
  | (some o, .load) :: r, S, a, w => ∃ v, YieldsIf P ops S o v a ∧ wpPlan P ops Q r S (a.put o.dst v) w
  | (some o, .eff) :: r, S, a, w => wpList P ops (Exit.then (fun a' w' => ∃ S' : World → Prop, (∀ u, S' u → S u) ∧ S' w' ∧ wpPlan P ops Q r S' a' w') Q) [o] a w
  | (some o, .last) :: r, S, a, w => wpList P ops (Exit.then (fun a' w' => wpPlan P ops Q r S a' w') Q) [o] a w

/-- may the plan be gone by? b: no 'last' has come up -/
def planOk (md : Region.Mode) (ops : Array Oper) (ds : List Nat) : Bool → List (Nat × Stp) → Array Bool → Bool
  | _, [], l => (Region.ready md ops l).isEmpty
  | b, (i, k) :: r, l =>
    (match k with
      | .pure => Region.free md ops l i && (Region.ready md ops l).contains i && !ds.contains i
      | .load => b && Region.free md ops l i && (Region.ready md ops l).contains i && !ds.contains i && ds.all (fun d => l.getD d true || waitsB md ops i ops.size d)
      | .eff => (Region.ready md ops l == [i]) && !ds.contains i
      | .last => (Region.ready md ops l == [i]) && ds.contains i) &&
    planOk md ops ds (b && k.on) r (l.setIfInBounds i true)

theorem wpList_one {K : Act → World → Prop} {o : Oper} {i : Nat} (hi : ops[i]? = some o) {a : Act} {w : World} (h : wpList P ops (Exit.then K Q) [o] a w) : wpOp P ops Q i K a w := by
  unfold wpOp
  simp only [hi]
  unfold wpList at h
  split at h
  · rename_i hw
    rw [if_pos hw]
    rcases h with h | ⟨h1, a', w', h2⟩
    · refine .inl ?_
      have e1 : (wpList P ops (Exit.then K Q) []) = K := by funext a w; rfl
      rw [e1] at h
      unfold Oper.wp at *
      generalize (execOp a.eval o).run P w = r at *
      cases r with
      | ok n w' =>
        cases n <;> simp only [Oper.upon] at h ⊢
        case value => exact h
        case skip => exact h
        case defer => exact h
        case enter =>
          refine Calls.mono h fun e w'' he => ?_
          cases e with
          | returned u => exact he
          | panicked c => exact he
          | outgrown => obtain ⟨a1, w1, h1⟩ := he; exact ⟨a1, w1, h1⟩
        case row => exact h
      | halt x w' =>
        cases x <;> simp only [Oper.upon] at h ⊢
        case panic => exact h
    · exact .inr ⟨h1, a', w', h2⟩
  · rename_i hw
    rw [if_neg hw]
    exact h

theorem plan_sound (hs : Region.noSelect ops = true) (hQ : ∀ c a d v w, Q (.panic c) (a.put d v) w → Q (.panic c) a w) : ∀ (plan : List (Nat × Stp)) (S : World → Prop) (b : Bool) (l : Array Bool) (a : Act) (w : World),
    planOk md ops ds b plan l = true → Down md ops l → (b = true → S w) → wpPlan P ops Q (plan.map fun p => (ops[p.1]?, p.2)) S a w → wpAnyS P md ops Q S ds plan.length b l a w
  | [], S, b, l, a, w, hok, _, _, h => ⟨by simpa [planOk] using hok, h⟩
  | (i, k) :: r, S, b, l, a, w, hok, hc, hS, h => by
    simp only [List.map_cons] at h
    simp only [planOk, Bool.and_eq_true] at hok
    obtain ⟨h1, hok⟩ := hok
    cases hi : ops[i]? with
    | none => rw [hi] at h; simp [wpPlan] at h
    | some o =>
      rw [hi] at h
      have hsel := Region.noSelect_spec hs
      have IH := plan_sound hs hQ r
      cases k with
      | pure =>
        simp only [Bool.and_eq_true, Bool.not_eq_true', List.contains_iff_mem] at h1
        obtain ⟨⟨hf, hr⟩, hd⟩ := h1
        obtain ⟨v, hy, h⟩ := h
        refine wpAnyS_first (S' := fun _ => True) hi hsel (fun c a w => hQ c a _ _ w) hd 0 _ b l a w (Region.free_spec hi hf) hc (.inl fun _ => trivial) hr (hy.yieldsIf) trivial hS ?_
        exact IH S b _ _ w (by simpa [Stp.on] using hok) (hc.set hr) hS h
      | load =>
        simp only [Bool.and_eq_true, Bool.not_eq_true', List.contains_iff_mem] at h1
        obtain ⟨⟨⟨⟨hb, hf⟩, hr⟩, hd⟩, hall⟩ := h1
        obtain ⟨v, hy, h⟩ := h
        refine wpAnyS_first (S' := S) hi hsel (fun c a w => hQ c a _ _ w) hd ops.size _ b l a w (Region.free_spec hi hf) hc (.inr ⟨hb, fun _ h => h, fun d hm hu => ?_⟩) hr hy (hS hb) hS ?_
        · have := List.all_eq_true.1 hall d (by simpa using hm)
          rw [hu] at this
          simpa using this
        · exact IH S b _ _ w (by simpa [Stp.on] using hok) (hc.set hr) hS h
      | eff =>
        simp only [Bool.and_eq_true, Bool.not_eq_true', beq_iff_eq] at h1
        obtain ⟨hr, hd⟩ := h1
        refine ⟨fun h0 => (by rw [h0] at hr; cases hr), fun j hj => ?_⟩
        have hj0 := hj
        rw [hr] at hj
        have hji : j = i := by simpa using hj
        subst hji
        refine wpOp_mono (fun a' w' h3 => ?_) (wpList_one hi h)
        obtain ⟨S', hs', hw', h3⟩ := h3
        rw [hd]
        refine ⟨fun _ => hs' _ hw', wpAnyS_mono hs' _ _ _ _ _ (IH S' _ _ _ w' (by simpa [Stp.on] using hok) (hc.set hj0) (fun _ => hw') h3)⟩
      | last =>
        simp only [Bool.and_eq_true, beq_iff_eq] at h1
        obtain ⟨hr, hd⟩ := h1
        refine ⟨fun h0 => (by rw [h0] at hr; cases hr), fun j hj => ?_⟩
        have hj0 := hj
        rw [hr] at hj
        have hji : j = i := by simpa using hj
        subst hji
        refine wpOp_mono (fun a' w' h3 => ?_) (wpList_one hi h)
        rw [hd]
        have hbf : (b && !true) = false := by cases b <;> rfl
        rw [hbf]
        refine ⟨fun h => (by cases h), IH S _ _ _ w' ?_ (hc.set hj0) (fun h => (by cases h)) h3⟩
        have : (b && Stp.last.on) = false := by cases b <;> rfl
        rw [this] at hok
        exact hok

theorem plan_pure {r : List (Option Oper × Stp)} {o : Oper} {v : Value} {a : Act} {w : World} (hw : Region.wanted o (yielded ops a.tmps) = true) (hy : ∀ w1, (execOp a.eval o).run P w1 = .ok (.value v) w1)
    (h : wpPlan P ops Q r S (a.put o.dst v) w) : wpPlan P ops Q ((some o, .pure) :: r) S a w := ⟨v, .inl ⟨hw, hy⟩, h⟩
theorem plan_off {r : List (Option Oper × Stp)} {o : Oper} {a : Act} {w : World} (hw : Region.wanted o (yielded ops a.tmps) = false)
    (h : wpPlan P ops Q r S (a.put o.dst undef) w) : wpPlan P ops Q ((some o, .pure) :: r) S a w := ⟨undef, .inr ⟨hw, rfl⟩, h⟩
theorem plan_load {r : List (Option Oper × Stp)} {o : Oper} {v : Value} {a : Act} {w : World} (hw : Region.wanted o (yielded ops a.tmps) = true) (hy : ∀ w1, S w1 → (execOp a.eval o).run P w1 = .ok (.value v) w1)
    (h : wpPlan P ops Q r S (a.put o.dst v) w) : wpPlan P ops Q ((some o, .load) :: r) S a w := ⟨v, .inl ⟨hw, hy⟩, h⟩
theorem plan_load_off {r : List (Option Oper × Stp)} {o : Oper} {a : Act} {w : World} (hw : Region.wanted o (yielded ops a.tmps) = false)
    (h : wpPlan P ops Q r S (a.put o.dst undef) w) : wpPlan P ops Q ((some o, .load) :: r) S a w := ⟨undef, .inr ⟨hw, rfl⟩, h⟩
theorem plan_eff {r : List (Option Oper × Stp)} {o : Oper} {a : Act} {w : World} (h : wpList P ops (Exit.then (fun a' w' => ∃ S' : World → Prop, (∀ u, S' u → S u) ∧ S' w' ∧ wpPlan P ops Q r S' a' w') Q) [o] a w) : wpPlan P ops Q ((some o, .eff) :: r) S a w := h
theorem plan_last {r : List (Option Oper × Stp)} {o : Oper} {a : Act} {w : World} (h : wpList P ops (Exit.then (fun a' w' => wpPlan P ops Q r S a' w') Q) [o] a w) : wpPlan P ops Q ((some o, .last) :: r) S a w := h
/-- what is behind a writing operation: S is shown anew -/
theorem plan_on {r : List (Option Oper × Stp)} {S' : World → Prop} {a : Act} {w : World} (hs : ∀ u, S' u → S u) (hw : S' w) (h : wpPlan P ops Q r S' a w) : ∃ S' : World → Prop, (∀ u, S' u → S u) ∧ S' w ∧ wpPlan P ops Q r S' a w := ⟨S', hs, hw, h⟩

theorem plan_end {a : Act} {w : World} (h : Q .normal a w) : wpPlan P ops Q [] S a w := h

/-- a region that draws, by a plan -/
theorem wp_region_plan {id : Nat} {a : Act} {w : World} (hm : P.follows .mixedOrders = true) (S : World → Prop) (ds : List Nat) (plan : List (Nat × Stp)) {L : List (Option Oper × Stp)}
    (hL : plan.map (fun p => (ops[p.1]?, p.2)) = L) (hok : (Region.noSelect ops && decide (plan.length = ops.size) && planOk .any ops ds true plan (Array.replicate ops.size false)) = true)
    (hQ : ∀ c a d v w, Q (.panic c) (a.put d v) w → Q (.panic c) a w) (hS : S w.drew) (h : wpPlan P ops Q L S a w.drew) : (Code.region id ops true).wp P Q a w := by
  subst hL
  simp only [Bool.and_eq_true, decide_eq_true_eq] at hok
  obtain ⟨⟨h1, h2⟩, h3⟩ := hok
  refine wp_region_any hm (wpAnyS_any (S := S) (ds := ds) _ true _ _ _ ?_)
  rw [← h2]
  rw [← h2] at h3
  refine plan_sound h1 hQ plan S true _ a _ h3 (fun d o _ hl => ?_) (fun _ => hS) h
  exfalso
  revert hl
  simp [Array.getElem?_replicate]
  split <;> simp
end
end Go.Proofs.YtcaapoacmfjnmaaGreat
/- A region that draws its order, in which two writing operations may come up at once: a plan that forks. -/
namespace Go.Proofs.YtcaapoacmfjnmaaGreat
set_option linter.unusedVariables false

inductive PT (α : Type) where
  | nil
  | cons (x : α) (k : Stp) (t : PT α)
  | fork (x : α) (t : PT α) (y : α) (u : PT α)
  | fork3 (x : α) (t : PT α) (y : α) (u : PT α) (z : α) (v : PT α)
def PT.map {α β : Type} (f : α → β) : PT α → PT β
  | .nil => .nil
  | .cons x k t => .cons (f x) k (t.map f)
  | .fork x t y u => .fork (f x) (t.map f) (f y) (u.map f)
  | .fork3 x t y u z v => .fork3 (f x) (t.map f) (f y) (u.map f) (f z) (v.map f)
def PT.len {α : Type} : PT α → Nat
  | .nil => 0
  | .cons _ _ t => t.len + 1
  | .fork _ t _ _ => t.len + 1
  | .fork3 _ t _ _ _ _ => t.len + 1
/-- a row of steps, then t -/
def PT.row {α : Type} : List (α × Stp) → PT α → PT α
  | [], t => t
  | (x, k) :: r, t => .cons x k (PT.row r t)

section
variable {P : Program} {md : Region.Mode} {ops : Array Oper} {Q : Exit → Act → World → Prop} {S : World → Prop} {ds : List Nat}

def wpPT (P : Program) (ops : Array Oper) (Q : Exit → Act → World → Prop) : PT (Option Oper) → (World → Prop) → Act → World → Prop
  | .nil, _, a, w => Q .normal a w
  | .cons none _ _, _, _, _ => False
  | .cons (some o) .pure r, S, a, w => ∃ v, Yields P ops o v a ∧ wpPT P ops Q r S (a.put o.dst v) w
  | .cons (some o) .load r, S, a, w => ∃ v, YieldsIf P ops S o v a ∧ wpPT P ops Q r S (a.put o.dst v) w
  | .cons (some o) .eff r, S, a, w => wpList P ops (Exit.then (fun a' w' => ∃ S' : World → Prop, (∀ u, S' u → S u) ∧ S' w' ∧ wpPT P ops Q r S' a' w') Q) [o] a w
  | .cons (some o) .last r, S, a, w => wpList P ops (Exit.then (fun a' w' => wpPT P ops Q r S a' w') Q) [o] a w
  | .fork none _ _ _, _, _, _ => False
  | .fork (some _) _ none _, _, _, _ => False
  | .fork (some o) r (some p) q, S, a, w =>
    wpList P ops (Exit.then (fun a' w' => ∃ S' : World → Prop, (∀ u, S' u → S u) ∧ S' w' ∧ wpPT P ops Q r S' a' w') Q) [o] a w ∧
    wpList P ops (Exit.then (fun a' w' => ∃ S' : World → Prop, (∀ u, S' u → S u) ∧ S' w' ∧ wpPT P ops Q q S' a' w') Q) [p] a w
  | .fork3 x r y q z u, S, a, w => ∃ o p s, x = some o ∧ y = some p ∧ z = some s ∧
    wpList P ops (Exit.then (fun a' w' => ∃ S' : World → Prop, (∀ u, S' u → S u) ∧ S' w' ∧ wpPT P ops Q r S' a' w') Q) [o] a w ∧
    wpList P ops (Exit.then (fun a' w' => ∃ S' : World → Prop, (∀ u, S' u → S u) ∧ S' w' ∧ wpPT P ops Q q S' a' w') Q) [p] a w ∧
    wpList P ops (Exit.then (fun a' w' => ∃ S' : World → Prop, (∀ u, S' u → S u) ∧ S' w' ∧ wpPT P ops Q u S' a' w') Q) [s] a w

def ptOk (md : Region.Mode) (ops : Array Oper) (ds : List Nat) : Bool → PT Nat → Array Bool → Bool
  | _, .nil, l => (Region.ready md ops l).isEmpty
  | b, .cons i k r, l =>
    (match k with
      | .pure => Region.free md ops l i && (Region.ready md ops l).contains i && !ds.contains i
      | .load => b && Region.free md ops l i && (Region.ready md ops l).contains i && !ds.contains i && ds.all (fun d => l.getD d true || waitsB md ops i ops.size d)
      | .eff => (Region.ready md ops l == [i]) && !ds.contains i
      | .last => (Region.ready md ops l == [i]) && ds.contains i) &&
    ptOk md ops ds (b && k.on) r (l.setIfInBounds i true)
  | b, .fork i r j q, l => (Region.ready md ops l == [i, j]) && !ds.contains i && !ds.contains j && decide (r.len = q.len) && ptOk md ops ds b r (l.setIfInBounds i true) && ptOk md ops ds b q (l.setIfInBounds j true)
  | b, .fork3 i r j q k u, l => (Region.ready md ops l == [i, j, k]) && !ds.contains i && !ds.contains j && !ds.contains k && decide (r.len = q.len) && decide (r.len = u.len) && ptOk md ops ds b r (l.setIfInBounds i true) && ptOk md ops ds b q (l.setIfInBounds j true) && ptOk md ops ds b u (l.setIfInBounds k true)

theorem pt_sound (hs : Region.noSelect ops = true) (hQ : ∀ c a d v w, Q (.panic c) (a.put d v) w → Q (.panic c) a w) : ∀ (plan : PT Nat) (S : World → Prop) (b : Bool) (l : Array Bool) (a : Act) (w : World),
    ptOk md ops ds b plan l = true → Down md ops l → (b = true → S w) → wpPT P ops Q (plan.map fun p => ops[p]?) S a w → wpAnyS P md ops Q S ds plan.len b l a w
  | .nil, S, b, l, a, w, hok, _, _, h => ⟨by simpa [ptOk] using hok, h⟩
  | .cons i k r, S, b, l, a, w, hok, hc, hS, h => by
    simp only [PT.map] at h
    simp only [ptOk, Bool.and_eq_true] at hok
    obtain ⟨h1, hok⟩ := hok
    cases hi : ops[i]? with
    | none => rw [hi] at h; simp [wpPT] at h
    | some o =>
      rw [hi] at h
      have hsel := Region.noSelect_spec hs
      have IH := pt_sound hs hQ r
      cases k with
      | pure =>
        simp only [Bool.and_eq_true, Bool.not_eq_true', List.contains_iff_mem] at h1
        obtain ⟨⟨hf, hr⟩, hd⟩ := h1
        obtain ⟨v, hy, h⟩ := h
        refine wpAnyS_first (S' := fun _ => True) hi hsel (fun c a w => hQ c a _ _ w) hd 0 _ b l a w (Region.free_spec hi hf) hc (.inl fun _ => trivial) hr (hy.yieldsIf) trivial hS ?_
        exact IH S b _ _ w (by simpa [Stp.on] using hok) (hc.set hr) hS h
      | load =>
        simp only [Bool.and_eq_true, Bool.not_eq_true', List.contains_iff_mem] at h1
        obtain ⟨⟨⟨⟨hb, hf⟩, hr⟩, hd⟩, hall⟩ := h1
        obtain ⟨v, hy, h⟩ := h
        refine wpAnyS_first (S' := S) hi hsel (fun c a w => hQ c a _ _ w) hd ops.size _ b l a w (Region.free_spec hi hf) hc (.inr ⟨hb, fun _ h => h, fun d hm hu => ?_⟩) hr hy (hS hb) hS ?_
        · have := List.all_eq_true.1 hall d (by simpa using hm)
          rw [hu] at this
          simpa using this
        · exact IH S b _ _ w (by simpa [Stp.on] using hok) (hc.set hr) hS h
      | eff =>
        simp only [Bool.and_eq_true, Bool.not_eq_true', beq_iff_eq] at h1
        obtain ⟨hr, hd⟩ := h1
        refine ⟨fun h0 => (by rw [h0] at hr; cases hr), fun j hj => ?_⟩
        have hj0 := hj
        rw [hr] at hj
        have hji : j = i := by simpa using hj
        subst hji
        refine wpOp_mono (fun a' w' h3 => ?_) (wpList_one hi h)
        obtain ⟨S', hs', hw', h3⟩ := h3
        rw [hd]
        refine ⟨fun _ => hs' _ hw', wpAnyS_mono hs' _ _ _ _ _ (IH S' _ _ _ w' (by simpa [Stp.on] using hok) (hc.set hj0) (fun _ => hw') h3)⟩
      | last =>
        simp only [Bool.and_eq_true, beq_iff_eq] at h1
        obtain ⟨hr, hd⟩ := h1
        refine ⟨fun h0 => (by rw [h0] at hr; cases hr), fun j hj => ?_⟩
        have hj0 := hj
        rw [hr] at hj
        have hji : j = i := by simpa using hj
        subst hji
        refine wpOp_mono (fun a' w' h3 => ?_) (wpList_one hi h)
        rw [hd]
        have hbf : (b && !true) = false := by cases b <;> rfl
        rw [hbf]
        refine ⟨fun h => (by cases h), IH S _ _ _ w' ?_ (hc.set hj0) (fun h => (by cases h)) h3⟩
        have : (b && Stp.last.on) = false := by cases b <;> rfl
        rw [this] at hok
        exact hok
  | .fork i r j q, S, b, l, a, w, hok, hc, hS, h => by
    simp only [PT.map] at h
    simp only [ptOk, Bool.and_eq_true, Bool.not_eq_true', beq_iff_eq, decide_eq_true_eq] at hok
    obtain ⟨⟨⟨⟨⟨hr, hdi⟩, hdj⟩, hlen⟩, hoki⟩, hokj⟩ := hok
    cases hi : ops[i]? with
    | none => rw [hi] at h; simp [wpPT] at h
    | some o =>
      cases hj : ops[j]? with
      | none => rw [hi, hj] at h; simp [wpPT] at h
      | some p =>
        rw [hi, hj] at h
        obtain ⟨h1, h2⟩ := h
        refine ⟨fun h0 => (by rw [h0] at hr; cases hr), fun m hm => ?_⟩
        have hm0 := hm
        rw [hr] at hm
        rcases List.mem_cons.1 hm with rfl | hm
        · refine wpOp_mono (fun a' w' h3 => ?_) (wpList_one hi h1)
          obtain ⟨S', hs', hw', h3⟩ := h3
          rw [hdi]
          refine ⟨fun _ => hs' _ hw', wpAnyS_mono hs' _ _ _ _ _ (pt_sound hs hQ r S' _ _ _ w' (by simpa using hoki) (hc.set hm0) (fun _ => hw') h3)⟩
        · have hmj : m = j := by simpa using hm
          subst hmj
          refine wpOp_mono (fun a' w' h3 => ?_) (wpList_one hj h2)
          obtain ⟨S', hs', hw', h3⟩ := h3
          rw [hdj]
          show _ ∧ wpAnyS P md ops Q S ds r.len _ _ _ _
          rw [hlen]
          refine ⟨fun _ => hs' _ hw', wpAnyS_mono hs' _ _ _ _ _ (pt_sound hs hQ q S' _ _ _ w' (by simpa using hokj) (hc.set hm0) (fun _ => hw') h3)⟩
  | .fork3 i r j q k u, S, b, l, a, w, hok, hc, hS, h => by
    simp only [PT.map] at h
    simp only [ptOk, Bool.and_eq_true, Bool.not_eq_true', beq_iff_eq, decide_eq_true_eq] at hok
    obtain ⟨⟨⟨⟨⟨⟨⟨⟨hr, hdi⟩, hdj⟩, hdk⟩, hlen⟩, hlen2⟩, hoki⟩, hokj⟩, hokk⟩ := hok
    obtain ⟨o, p, s, hi, hj, hk, h1, h2, h3'⟩ := h
    refine ⟨fun h0 => (by rw [h0] at hr; cases hr), fun m hm => ?_⟩
    have hm0 := hm
    rw [hr] at hm
    rcases List.mem_cons.1 hm with rfl | hm
    · refine wpOp_mono (fun a' w' h3 => ?_) (wpList_one hi h1)
      obtain ⟨S', hs', hw', h3⟩ := h3
      rw [hdi]
      refine ⟨fun _ => hs' _ hw', wpAnyS_mono hs' _ _ _ _ _ (pt_sound hs hQ r S' _ _ _ w' (by simpa using hoki) (hc.set hm0) (fun _ => hw') h3)⟩
    rcases List.mem_cons.1 hm with rfl | hm
    · refine wpOp_mono (fun a' w' h3 => ?_) (wpList_one hj h2)
      obtain ⟨S', hs', hw', h3⟩ := h3
      rw [hdj]
      show _ ∧ wpAnyS P md ops Q S ds r.len _ _ _ _
      rw [hlen]
      refine ⟨fun _ => hs' _ hw', wpAnyS_mono hs' _ _ _ _ _ (pt_sound hs hQ q S' _ _ _ w' (by simpa using hokj) (hc.set hm0) (fun _ => hw') h3)⟩
    · have hmj : m = k := by simpa using hm
      subst hmj
      refine wpOp_mono (fun a' w' h3 => ?_) (wpList_one hk h3')
      obtain ⟨S', hs', hw', h3⟩ := h3
      rw [hdk]
      show _ ∧ wpAnyS P md ops Q S ds r.len _ _ _ _
      rw [hlen2]
      refine ⟨fun _ => hs' _ hw', wpAnyS_mono hs' _ _ _ _ _ (pt_sound hs hQ u S' _ _ _ w' (by simpa using hokk) (hc.set hm0) (fun _ => hw') h3)⟩

theorem pt_pure {r : PT (Option Oper)} {o : Oper} {v : Value} {a : Act} {w : World} (hw : Region.wanted o (yielded ops a.tmps) = true) (hy : ∀ w1, (execOp a.eval o).run P w1 = .ok (.value v) w1)
    (h : wpPT P ops Q r S (a.put o.dst v) w) : wpPT P ops Q (.cons (some o) .pure r) S a w := ⟨v, .inl ⟨hw, hy⟩, h⟩
theorem pt_off {r : PT (Option Oper)} {o : Oper} {a : Act} {w : World} (hw : Region.wanted o (yielded ops a.tmps) = false)
    (h : wpPT P ops Q r S (a.put o.dst undef) w) : wpPT P ops Q (.cons (some o) .pure r) S a w := ⟨undef, .inr ⟨hw, rfl⟩, h⟩
theorem pt_load {r : PT (Option Oper)} {o : Oper} {v : Value} {a : Act} {w : World} (hw : Region.wanted o (yielded ops a.tmps) = true) (hy : ∀ w1, S w1 → (execOp a.eval o).run P w1 = .ok (.value v) w1)
    (h : wpPT P ops Q r S (a.put o.dst v) w) : wpPT P ops Q (.cons (some o) .load r) S a w := ⟨v, .inl ⟨hw, hy⟩, h⟩
theorem pt_load_off {r : PT (Option Oper)} {o : Oper} {a : Act} {w : World} (hw : Region.wanted o (yielded ops a.tmps) = false)
    (h : wpPT P ops Q r S (a.put o.dst undef) w) : wpPT P ops Q (.cons (some o) .load r) S a w := ⟨undef, .inr ⟨hw, rfl⟩, h⟩
theorem pt_eff {r : PT (Option Oper)} {o : Oper} {a : Act} {w : World} (h : wpList P ops (Exit.then (fun a' w' => ∃ S' : World → Prop, (∀ u, S' u → S u) ∧ S' w' ∧ wpPT P ops Q r S' a' w') Q) [o] a w) : wpPT P ops Q (.cons (some o) .eff r) S a w := h
theorem pt_last {r : PT (Option Oper)} {o : Oper} {a : Act} {w : World} (h : wpList P ops (Exit.then (fun a' w' => wpPT P ops Q r S a' w') Q) [o] a w) : wpPT P ops Q (.cons (some o) .last r) S a w := h
theorem pt_fork {r q : PT (Option Oper)} {o p : Oper} {a : Act} {w : World}
    (h1 : wpList P ops (Exit.then (fun a' w' => ∃ S' : World → Prop, (∀ u, S' u → S u) ∧ S' w' ∧ wpPT P ops Q r S' a' w') Q) [o] a w)
    (h2 : wpList P ops (Exit.then (fun a' w' => ∃ S' : World → Prop, (∀ u, S' u → S u) ∧ S' w' ∧ wpPT P ops Q q S' a' w') Q) [p] a w) : wpPT P ops Q (.fork (some o) r (some p) q) S a w := ⟨h1, h2⟩
theorem pt_fork3 {r q u : PT (Option Oper)} {o p s : Oper} {a : Act} {w : World}
    (h1 : wpList P ops (Exit.then (fun a' w' => ∃ S' : World → Prop, (∀ u, S' u → S u) ∧ S' w' ∧ wpPT P ops Q r S' a' w') Q) [o] a w)
    (h2 : wpList P ops (Exit.then (fun a' w' => ∃ S' : World → Prop, (∀ u, S' u → S u) ∧ S' w' ∧ wpPT P ops Q q S' a' w') Q) [p] a w)
    (h3 : wpList P ops (Exit.then (fun a' w' => ∃ S' : World → Prop, (∀ u, S' u → S u) ∧ S' w' ∧ wpPT P ops Q u S' a' w') Q) [s] a w) : wpPT P ops Q (.fork3 (some o) r (some p) q (some s) u) S a w := ⟨o, p, s, rfl, rfl, rfl, h1, h2, h3⟩
/-- the world is given a name -/
theorem pt_name {r : PT (Option Oper)} {a : Act} {w : World} (hw : S w) (h : ∀ v, v = w → wpPT P ops Q r S a v) : ∃ S' : World → Prop, (∀ u, S' u → S u) ∧ S' w ∧ wpPT P ops Q r S' a w := ⟨S, fun _ h => h, hw, h w rfl⟩
theorem pt_on {r : PT (Option Oper)} {S' : World → Prop} {a : Act} {w : World} (hs : ∀ u, S' u → S u) (hw : S' w) (h : wpPT P ops Q r S' a w) : ∃ S' : World → Prop, (∀ u, S' u → S u) ∧ S' w ∧ wpPT P ops Q r S' a w := ⟨S', hs, hw, h⟩
theorem pt_end {a : Act} {w : World} (h : Q .normal a w) : wpPT P ops Q .nil S a w := h

theorem wp_region_pt {id : Nat} {a : Act} {w : World} (hm : P.follows .mixedOrders = true) (S : World → Prop) (ds : List Nat) (plan : PT Nat) {L : PT (Option Oper)}
    (hL : plan.map (fun p => ops[p]?) = L) (hok : (Region.noSelect ops && decide (plan.len = ops.size) && ptOk .any ops ds true plan (Array.replicate ops.size false)) = true)
    (hQ : ∀ c a d v w, Q (.panic c) (a.put d v) w → Q (.panic c) a w) (hS : S w.drew) (h : wpPT P ops Q L S a w.drew) : (Code.region id ops true).wp P Q a w := by
  subst hL
  simp only [Bool.and_eq_true, decide_eq_true_eq] at hok
  obtain ⟨⟨h1, h2⟩, h3⟩ := hok
  refine wp_region_any hm (wpAnyS_any (S := S) (ds := ds) _ true _ _ _ ?_)
  rw [← h2]
  rw [← h2] at h3
  refine pt_sound h1 hQ plan S true _ a _ h3 (fun d o _ hl => ?_) (fun _ => hS) h
  exfalso
  revert hl
  simp [Array.getElem?_replicate]
  split <;> simp
end
end Go.Proofs.YtcaapoacmfjnmaaGreat
/- The check of a plan, by bits: what the kernel has to reckon is small. -/
namespace Go.Proofs.YtcaapoacmfjnmaaGreat
set_option linter.unusedVariables false

def needOf (o : Oper) : Nat := o.after.toList.foldr (fun e s => if Region.binds .any e then 2 ^ e.on ||| s else s) 0
theorem needOf_bit (o : Oper) (k : Nat) : (needOf o).testBit k = true ↔ ∃ e ∈ o.after, Region.binds .any e = true ∧ e.on = k := by
  unfold needOf
  rw [show (∃ e ∈ o.after, Region.binds .any e = true ∧ e.on = k) ↔ ∃ e ∈ o.after.toList, Region.binds .any e = true ∧ e.on = k by simp]
  generalize o.after.toList = l
  induction l with
  | nil => simp
  | cons e l ih =>
    simp only [List.foldr_cons, List.mem_cons]
    by_cases hb : Region.binds .any e = true
    · rw [if_pos hb, Nat.testBit_or, Bool.or_eq_true, ih, Nat.testBit_two_pow, decide_eq_true_eq]
      constructor
      · rintro (h | ⟨x, h1, h2⟩)
        · exact ⟨e, .inl rfl, hb, h⟩
        · exact ⟨x, .inr h1, h2⟩
      · rintro ⟨x, rfl | h1, h2⟩
        · exact .inl h2.2
        · exact .inr ⟨x, h1, h2⟩
    · rw [if_neg hb, ih]
      constructor
      · rintro ⟨x, h1, h2⟩
        exact ⟨x, .inr h1, h2⟩
      · rintro ⟨x, rfl | h1, h2⟩
        · exact (hb h2.1).elim
        · exact ⟨x, h1, h2⟩
theorem land_all (n s : Nat) : (n &&& s == n) = true ↔ ∀ k, n.testBit k = true → s.testBit k = true := by
  rw [beq_iff_eq]
  constructor
  · intro h k hk
    rw [← h, Nat.testBit_and, Bool.and_eq_true] at hk
    exact hk.2
  · intro h
    refine Nat.eq_of_testBit_eq fun k => ?_
    rw [Nat.testBit_and]
    cases hk : n.testBit k with
    | false => rfl
    | true => rw [h k hk]; rfl
def readyFrom (s : Nat) : Nat → List Nat → List Nat
  | _, [] => []
  | i, n :: r => if !s.testBit i && (n &&& s == n) then i :: readyFrom s (i + 1) r else readyFrom s (i + 1) r
theorem readyFrom_is (s : Nat) (p : Nat → Bool) : ∀ (os : List Oper) (k : Nat), (∀ i o, os[i]? = some o → p (k + i) = (!s.testBit (k + i) && (needOf o &&& s == needOf o))) → readyFrom s k (os.map needOf) = (List.range' k os.length).filter p := by
  intro os
  induction os with
  | nil => intro k _; rfl
  | cons o os ih =>
    intro k h
    simp only [List.map_cons, readyFrom, List.length_cons, List.range'_succ, List.filter_cons]
    have h0 := h 0 o rfl
    rw [Nat.add_zero] at h0
    rw [← h0, ih (k + 1) (fun i x hx => by rw [Nat.add_assoc, Nat.add_comm 1 i]; exact h (i + 1) x (by simpa using hx))]
/-- the bits are the marks -/
structure Bits (ops : Array Oper) (l : Array Bool) (s : Nat) : Prop where
  size : l.size = ops.size
  bit : ∀ j, j < ops.size → l[j]? = some (s.testBit j)
  off : ∀ j, ops.size ≤ j → s.testBit j = false
theorem Bits.getF {ops : Array Oper} {l : Array Bool} {s : Nat} (h : Bits ops l s) (j : Nat) : l.getD j false = s.testBit j := by
  by_cases hj : j < ops.size
  · rw [Array.getD_eq_getD_getElem?, h.bit j hj]; rfl
  · rw [Array.getD_eq_getD_getElem?, Array.getElem?_eq_none (by have := h.size; omega), h.off j (by omega)]; rfl
theorem Bits.getT {ops : Array Oper} {l : Array Bool} {s : Nat} (h : Bits ops l s) {j : Nat} (hj : j < ops.size) : l.getD j true = s.testBit j := by
  rw [Array.getD_eq_getD_getElem?, h.bit j hj]; rfl
theorem Bits.gets {ops : Array Oper} {l : Array Bool} {s : Nat} (h : Bits ops l s) {j : Nat} (hj : s.testBit j = true) : l.getD j true = true := by
  by_cases hl : j < ops.size
  · rw [h.getT hl, hj]
  · rw [h.off j (by omega)] at hj; cases hj
theorem Bits.set {ops : Array Oper} {l : Array Bool} {s : Nat} (h : Bits ops l s) {i : Nat} (hi : i < ops.size) : Bits ops (l.setIfInBounds i true) (s ||| 2 ^ i) := by
  refine ⟨by simp [h.size], fun j hj => ?_, fun j hj => ?_⟩
  · rw [Nat.testBit_or, Nat.testBit_two_pow]
    by_cases hij : i = j
    · subst hij
      rw [Array.getElem?_setIfInBounds_self_of_lt (by have := h.size; omega)]
      simp
    · rw [Array.getElem?_setIfInBounds_ne hij, h.bit j hj]
      simp [hij]
  · rw [Nat.testBit_or, Nat.testBit_two_pow, h.off j hj]
    simp; omega
theorem Bits.start (ops : Array Oper) : Bits ops (Array.replicate ops.size false) 0 :=
  ⟨by simp, fun j hj => by simp [hj], fun j _ => by simp⟩
theorem Bits.ready {ops : Array Oper} {l : Array Bool} {s : Nat} (h : Bits ops l s) : Region.ready .any ops l = readyFrom s 0 (ops.toList.map needOf) := by
  unfold Region.ready
  rw [readyFrom_is s _ ops.toList 0 fun i o ho => ?_, List.range_eq_range', Array.length_toList]
  rw [Nat.zero_add]
  have ho' : ops[i]? = some o := by simpa using ho
  rw [ho', h.getT (Array.getElem?_eq_some_iff.1 ho').1]
  congr 1
  show (o.after.all fun e => !Region.binds .any e || l.getD e.on false) = _
  rw [Bool.eq_iff_iff, land_all, Array.all_eq_true_iff_forall_mem]
  constructor
  · intro hh k hk
    obtain ⟨e, he, hb, rfl⟩ := (needOf_bit o k).1 hk
    have := hh e he
    rw [hb, h.getF] at this
    simpa using this
  · intro hh e he
    rw [h.getF]
    cases hb : Region.binds .any e with
    | false => rfl
    | true => rw [hh e.on ((needOf_bit o _).2 ⟨e, he, hb, rfl⟩)]; rfl
def freeF (ops : Array Oper) (oi : Oper) (i s : Nat) : Nat → List Oper → List Nat → Bool
  | j, o :: os, n :: ns => (j == i || s.testBit j || n.testBit i || oi.apart ops o) && freeF ops oi i s (j + 1) os ns
  | _, _, _ => true
theorem freeF_spec {ops : Array Oper} {oi : Oper} {i s : Nat} : ∀ (os : List Oper) (k : Nat), freeF ops oi i s k os (os.map needOf) = true → ∀ j o, os[j]? = some o → (k + j = i ∨ s.testBit (k + j) = true ∨ (needOf o).testBit i = true ∨ oi.apart ops o = true) := by
  intro os
  induction os with
  | nil => intro k _ j o h; simp at h
  | cons x os ih =>
    intro k h j o ho
    simp only [List.map_cons, freeF, Bool.and_eq_true, Bool.or_eq_true, beq_iff_eq] at h
    cases j with
    | zero =>
      simp at ho
      subst ho
      rw [Nat.add_zero]
      rcases h.1 with ((h | h) | h) | h
      · exact .inl h
      · exact .inr (.inl h)
      · exact .inr (.inr (.inl h))
      · exact .inr (.inr (.inr h))
    | succ j =>
      have := ih (k + 1) h.2 j o (by simpa using ho)
      rw [show k + (j + 1) = k + 1 + j by omega]
      exact this
theorem Bits.free {ops : Array Oper} {l : Array Bool} {s i : Nat} (h : Bits ops l s) {oi : Oper} (hi : ops[i]? = some oi) (hf : freeF ops oi i s 0 ops.toList (ops.toList.map needOf) = true) : Region.free .any ops l i = true := by
  unfold Region.free
  rw [hi]
  simp only [List.all_eq_true, List.mem_range]
  intro j hj
  have hoj : ops[j]? = some ops[j] := by simp [hj]
  have := freeF_spec _ 0 hf j ops[j] (by simp)
  rw [Nat.zero_add] at this
  rw [hoj]
  rcases this with h1 | h1 | h1 | h1
  · simp [h1]
  · simp [h.gets h1]
  · obtain ⟨e, he, hb, h2⟩ := (needOf_bit _ _).1 h1
    have : (ops[j].after.any fun e => Region.binds .any e && e.on == i) = true := Array.any_eq_true'.2 ⟨e, he, by simp [hb, h2]⟩
    simp [this]
  · simp [h1]
/-- all that are waited for -/
def reach : List Nat → Nat → Nat
  | [], m => m
  | n :: r, m => reach r (if m.testBit r.length then m ||| n else m)
theorem waits_more {md : Region.Mode} {ops : Array Oper} {i : Nat} : ∀ (n d : Nat), waitsB md ops i n d = true → waitsB md ops i (n + 1) d = true
  | 0, _, h => by cases h
  | n + 1, d, h => by
    unfold waitsB at h ⊢
    cases ho : ops[d]? with
    | none => rw [ho] at h; cases h
    | some o =>
      rw [ho] at h
      obtain ⟨e, he, h⟩ := Array.any_eq_true'.1 h
      refine Array.any_eq_true'.2 ⟨e, he, ?_⟩
      simp only [Bool.and_eq_true, Bool.or_eq_true, beq_iff_eq] at h ⊢
      exact ⟨h.1, h.2.imp id (waits_more n _)⟩
theorem waits_one {md : Region.Mode} {ops : Array Oper} {d k : Nat} {o : Oper} {e : Edge} (n : Nat) (ho : ops[d]? = some o) (he : e ∈ o.after) (hb : Region.binds md e = true) (hk : e.on = k) : waitsB md ops k (n + 1) d = true := by
  unfold waitsB
  rw [ho]
  exact Array.any_eq_true'.2 ⟨e, he, by simp [hb, hk]⟩
theorem waits_chain {md : Region.Mode} {ops : Array Oper} {j k : Nat} {o : Oper} {e : Edge} (ho : ops[j]? = some o) (he : e ∈ o.after) (hb : Region.binds md e = true) (hk : e.on = k) : ∀ (n d : Nat), waitsB md ops j n d = true → waitsB md ops k (n + 1) d = true
  | 0, _, h => by cases h
  | n + 1, d, h => by
    unfold waitsB at h ⊢
    cases hod : ops[d]? with
    | none => rw [hod] at h; cases h
    | some x =>
      rw [hod] at h
      obtain ⟨e', he', h⟩ := Array.any_eq_true'.1 h
      refine Array.any_eq_true'.2 ⟨e', he', ?_⟩
      simp only [Bool.and_eq_true, Bool.or_eq_true, beq_iff_eq] at h ⊢
      refine ⟨h.1, .inr ?_⟩
      rcases h.2 with h2 | h2
      · rw [h2]; exact waits_one n ho he hb hk
      · exact waits_chain ho he hb hk n _ h2
theorem reach_spec (ops : Array Oper) (d : Nat) : ∀ (L m t : Nat), L ≤ ops.size → (∀ k, m.testBit k = true → k = d ∨ waitsB .any ops k t d = true) →
    ∀ k, (reach ((ops.toList.take L).map needOf).reverse m).testBit k = true → k = d ∨ waitsB .any ops k (t + L) d = true := by
  intro L
  induction L with
  | zero => intro m t _ h k hk; simp [reach] at hk; exact h k hk
  | succ L ih =>
    intro m t hL h k hk
    have hoL : ops[L]? = some ops[L] := by simp
    rw [List.take_add_one, show ops.toList[L]? = some ops[L] by simp] at hk
    simp only [Option.toList, List.map_append, List.map_cons, List.map_nil, List.reverse_append, List.reverse_cons, List.reverse_nil, List.nil_append, List.singleton_append, reach, List.length_reverse, List.length_map, List.length_take, Array.length_toList, Nat.min_eq_left (show L ≤ ops.size by omega)] at hk
    rw [show t + (L + 1) = t + 1 + L by omega]
    refine ih _ (t + 1) (by omega) (fun k hk => ?_) k hk
    by_cases hm : m.testBit L = true
    · rw [if_pos hm, Nat.testBit_or, Bool.or_eq_true] at hk
      rcases hk with hk | hk
      · exact (h k hk).imp id (waits_more t d)
      · obtain ⟨e, he, hb, h2⟩ := (needOf_bit _ _).1 hk
        rcases h L hm with rfl | hw
        · exact .inr (waits_one t hoL he hb h2)
        · exact .inr (waits_chain hoL he hb h2 t d hw)
    · rw [if_neg hm] at hk
      exact (h k hk).imp id (waits_more t d)
def waitsF (rs : List Nat) (i d : Nat) : Bool := i != d && (reach rs (2 ^ d)).testBit i
theorem waitsF_spec {ops : Array Oper} {i d : Nat} (h : waitsF (ops.toList.map needOf).reverse i d = true) : waitsB .any ops i ops.size d = true := by
  unfold waitsF at h
  simp only [Bool.and_eq_true, bne_iff_ne] at h
  have := reach_spec ops d ops.size (2 ^ d) 0 (Nat.le_refl _) (fun k hk => by rw [Nat.testBit_two_pow, decide_eq_true_eq] at hk; exact .inl hk.symm) i
    (by rw [List.take_of_length_le (by simp)]; exact h.2)
  rw [Nat.zero_add] at this
  exact this.resolve_left h.1
def stepF (ops : Array Oper) (os : List Oper) (ns rs ds : List Nat) (b : Bool) (i : Nat) (k : Stp) (s : Nat) : Bool :=
  match k with
  | .pure => (match os[i]? with | some oi => freeF ops oi i s 0 os ns | none => false) && (readyFrom s 0 ns).contains i && !ds.contains i
  | .load => b && (match os[i]? with | some oi => freeF ops oi i s 0 os ns | none => false) && (readyFrom s 0 ns).contains i && !ds.contains i && ds.all (fun d => s.testBit d || waitsF rs i d)
  | .eff => (readyFrom s 0 ns == [i]) && !ds.contains i
  | .last => (readyFrom s 0 ns == [i]) && ds.contains i
def planOkF (ops : Array Oper) (os : List Oper) (ns rs ds : List Nat) : Bool → List (Nat × Stp) → Nat → Bool
  | _, [], s => (readyFrom s 0 ns).isEmpty
  | b, (i, k) :: r, s => stepF ops os ns rs ds b i k s && planOkF ops os ns rs ds (b && k.on) r (s ||| 2 ^ i)
theorem ready_lt {ops : Array Oper} {l : Array Bool} {i : Nat} (h : i ∈ Region.ready .any ops l) : i < ops.size := by
  unfold Region.ready at h
  exact List.mem_range.1 (List.mem_filter.1 h).1
def stepOk (ops : Array Oper) (ds : List Nat) (b : Bool) (i : Nat) (k : Stp) (l : Array Bool) : Bool :=
  match k with
  | .pure => Region.free .any ops l i && (Region.ready .any ops l).contains i && !ds.contains i
  | .load => b && Region.free .any ops l i && (Region.ready .any ops l).contains i && !ds.contains i && ds.all (fun d => l.getD d true || waitsB .any ops i ops.size d)
  | .eff => (Region.ready .any ops l == [i]) && !ds.contains i
  | .last => (Region.ready .any ops l == [i]) && ds.contains i
theorem stepF_spec {ops : Array Oper} {ds : List Nat} {b : Bool} {i : Nat} {k : Stp} {s : Nat} {l : Array Bool} (hB : Bits ops l s) (h : stepF ops ops.toList (ops.toList.map needOf) (ops.toList.map needOf).reverse ds b i k s = true) :
    stepOk ops ds b i k l = true ∧ i < ops.size := by
  have hfree : (match ops.toList[i]? with | some oi => freeF ops oi i s 0 ops.toList (ops.toList.map needOf) | none => false) = true → Region.free .any ops l i = true := fun h => by
    cases ho : ops.toList[i]? with
    | none => rw [ho] at h; cases h
    | some o => rw [ho] at h; exact hB.free (by simpa using ho) h
  unfold stepOk
  rw [hB.ready]
  cases k with
  | pure =>
    simp only [stepF, Bool.and_eq_true] at h
    have hr : i ∈ Region.ready .any ops l := by rw [hB.ready]; simpa using h.1.2
    exact ⟨by simp only [Bool.and_eq_true]; exact ⟨⟨hfree h.1.1, h.1.2⟩, h.2⟩, ready_lt hr⟩
  | load =>
    simp only [stepF, Bool.and_eq_true] at h
    have hr : i ∈ Region.ready .any ops l := by rw [hB.ready]; simpa using h.1.1.2
    refine ⟨by
      simp only [Bool.and_eq_true]
      refine ⟨⟨⟨⟨h.1.1.1.1, hfree h.1.1.1.2⟩, h.1.1.2⟩, h.1.2⟩, ?_⟩
      rw [List.all_eq_true] at h ⊢
      intro d hd
      have := h.2 d hd
      simp only [Bool.or_eq_true] at this ⊢
      exact this.imp hB.gets waitsF_spec, ready_lt hr⟩
  | eff =>
    simp only [stepF, Bool.and_eq_true] at h
    have hr : i ∈ Region.ready .any ops l := by rw [hB.ready, beq_iff_eq.1 h.1]; simp
    exact ⟨by simp only [Bool.and_eq_true]; exact h, ready_lt hr⟩
  | last =>
    simp only [stepF, Bool.and_eq_true] at h
    have hr : i ∈ Region.ready .any ops l := by rw [hB.ready, beq_iff_eq.1 h.1]; simp
    exact ⟨by simp only [Bool.and_eq_true]; exact h, ready_lt hr⟩
theorem planOkF_spec {ops : Array Oper} {ds : List Nat} : ∀ (plan : List (Nat × Stp)) (b : Bool) (s : Nat) (l : Array Bool), Bits ops l s → planOkF ops ops.toList (ops.toList.map needOf) (ops.toList.map needOf).reverse ds b plan s = true → planOk .any ops ds b plan l = true
  | [], b, s, l, hB, h => by
    unfold planOk
    rw [hB.ready]
    exact h
  | (i, k) :: r, b, s, l, hB, h => by
    unfold planOkF at h
    rw [Bool.and_eq_true] at h
    obtain ⟨h1, h2⟩ := stepF_spec hB h.1
    rw [show planOk .any ops ds b ((i, k) :: r) l = (stepOk ops ds b i k l && planOk .any ops ds (b && k.on) r (l.setIfInBounds i true)) by cases k <;> rfl, Bool.and_eq_true]
    exact ⟨h1, planOkF_spec r _ _ _ (hB.set h2) h.2⟩
/-- a region that draws, by a plan; the check is by bits -/
theorem wp_region_planF {P : Program} {ops : Array Oper} {Q : Exit → Act → World → Prop} {id : Nat} {a : Act} {w : World} (hm : P.follows .mixedOrders = true) (S : World → Prop) (ds : List Nat) (plan : List (Nat × Stp)) {L : List (Option Oper × Stp)}
    (hL : plan.map (fun p => (ops[p.1]?, p.2)) = L) (hok : (Region.noSelect ops && decide (plan.length = ops.size) && planOkF ops ops.toList (ops.toList.map needOf) (ops.toList.map needOf).reverse ds true plan 0) = true)
    (hQ : ∀ c a d v w, Q (.panic c) (a.put d v) w → Q (.panic c) a w) (hS : S w.drew) (h : wpPlan P ops Q L S a w.drew) : (Code.region id ops true).wp P Q a w := by
  refine wp_region_plan hm S ds plan hL ?_ hQ hS h
  simp only [Bool.and_eq_true] at hok ⊢
  exact ⟨hok.1, planOkF_spec plan true 0 _ (Bits.start ops) hok.2⟩
end Go.Proofs.YtcaapoacmfjnmaaGreat
