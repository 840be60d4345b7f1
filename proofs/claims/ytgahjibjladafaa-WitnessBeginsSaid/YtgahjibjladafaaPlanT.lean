/- A region that draws its order, in which two writing operations may come up at once: a plan that forks. -/
import Derived.Test.YtgahjibjladafaaPlan
namespace Go.Proofs.Ytgahjibjladafaa
set_option linter.unusedVariables false

inductive PT (α : Type) where
  | nil
  | cons (x : α) (k : Stp) (t : PT α)
  | fork (x : α) (t : PT α) (y : α) (u : PT α)
  | fork3 (x : α) (t : PT α) (y : α) (u : PT α) (z : α) (v : PT α)
def PT.map {α β : Type} (f : α → β) : PT α → PT β
  | .nil => .nil
  | .cons x k t => .cons (f x) k (t.map f)
  | .fork x t y u => .fork (f x) (t.map f) (f y) (u.map f)
  | .fork3 x t y u z v => .fork3 (f x) (t.map f) (f y) (u.map f) (f z) (v.map f)
def PT.len {α : Type} : PT α → Nat
  | .nil => 0
  | .cons _ _ t => t.len + 1
  | .fork _ t _ _ => t.len + 1
  | .fork3 _ t _ _ _ _ => t.len + 1
/-- a row of steps, then t -/
def PT.row {α : Type} : List (α × Stp) → PT α → PT α
  | [], t => t
  | (x, k) :: r, t => .cons x k (PT.row r t)

section
variable {P : Program} {md : Region.Mode} {ops : Array Oper} {Q : Exit → Act → World → Prop} {S : World → Prop} {ds : List Nat}

def wpPT (P : Program) (ops : Array Oper) (Q : Exit → Act → World → Prop) : PT (Option Oper) → (World → Prop) → Act → World → Prop
  | .nil, _, a, w => Q .normal a w
  | .cons none _ _, _, _, _ => False
  | .cons (some o) .pure r, S, a, w => ∃ v, Yields P ops o v a ∧ wpPT P ops Q r S (a.put o.dst v) w
  | .cons (some o) .load r, S, a, w => ∃ v, YieldsIf P ops S o v a ∧ wpPT P ops Q r S (a.put o.dst v) w
  | .cons (some o) .eff r, S, a, w => wpList P ops (Exit.then (fun a' w' => ∃ S' : World → Prop, (∀ u, S' u → S u) ∧ S' w' ∧ wpPT P ops Q r S' a' w') Q) [o] a w
  | .cons (some o) .last r, S, a, w => wpList P ops (Exit.then (fun a' w' => wpPT P ops Q r S a' w') Q) [o] a w
  | .fork none _ _ _, _, _, _ => False
  | .fork (some _) _ none _, _, _, _ => False
  | .fork (some o) r (some p) q, S, a, w =>
    wpList P ops (Exit.then (fun a' w' => ∃ S' : World → Prop, (∀ u, S' u → S u) ∧ S' w' ∧ wpPT P ops Q r S' a' w') Q) [o] a w ∧
    wpList P ops (Exit.then (fun a' w' => ∃ S' : World → Prop, (∀ u, S' u → S u) ∧ S' w' ∧ wpPT P ops Q q S' a' w') Q) [p] a w
  | .fork3 x r y q z u, S, a, w => ∃ o p s, x = some o ∧ y = some p ∧ z = some s ∧
    wpList P ops (Exit.then (fun a' w' => ∃ S' : World → Prop, (∀ u, S' u → S u) ∧ S' w' ∧ wpPT P ops Q r S' a' w') Q) [o] a w ∧
    wpList P ops (Exit.then (fun a' w' => ∃ S' : World → Prop, (∀ u, S' u → S u) ∧ S' w' ∧ wpPT P ops Q q S' a' w') Q) [p] a w ∧
    wpList P ops (Exit.then (fun a' w' => ∃ S' : World → Prop, (∀ u, S' u → S u) ∧ S' w' ∧ wpPT P ops Q u S' a' w') Q) [s] a w

def ptOk (md : Region.Mode) (ops : Array Oper) (ds : List Nat) : Bool → PT Nat → Array Bool → Bool
  | _, .nil, l => (Region.ready md ops l).isEmpty
  | b, .cons i k r, l =>
    (match k with
      | .pure => Region.free md ops l i && (Region.ready md ops l).contains i && !ds.contains i
      | .load => b && Region.free md ops l i && (Region.ready md ops l).contains i && !ds.contains i && ds.all (fun d => l.getD d true || waitsB md ops i ops.size d)
      | .eff => (Region.ready md ops l == [i]) && !ds.contains i
      | .last => (Region.ready md ops l == [i]) && ds.contains i) &&
    ptOk md ops ds (b && k.on) r (l.setIfInBounds i true)
  | b, .fork i r j q, l => (Region.ready md ops l == [i, j]) && !ds.contains i && !ds.contains j && decide (r.len = q.len) && ptOk md ops ds b r (l.setIfInBounds i true) && ptOk md ops ds b q (l.setIfInBounds j true)
  | b, .fork3 i r j q k u, l => (Region.ready md ops l == [i, j, k]) && !ds.contains i && !ds.contains j && !ds.contains k && decide (r.len = q.len) && decide (r.len = u.len) && ptOk md ops ds b r (l.setIfInBounds i true) && ptOk md ops ds b q (l.setIfInBounds j true) && ptOk md ops ds b u (l.setIfInBounds k true)

theorem pt_sound (hs : Region.noSelect ops = true) (hQ : ∀ c a d v w, Q (.panic c) (a.put d v) w → Q (.panic c) a w) : ∀ (plan : PT Nat) (S : World → Prop) (b : Bool) (l : Array Bool) (a : Act) (w : World),
    ptOk md ops ds b plan l = true → Down md ops l → (b = true → S w) → wpPT P ops Q (plan.map fun p => ops[p]?) S a w → wpAnyS P md ops Q S ds plan.len b l a w
  | .nil, S, b, l, a, w, hok, _, _, h => ⟨by simpa [ptOk] using hok, h⟩
  | .cons i k r, S, b, l, a, w, hok, hc, hS, h => by
    simp only [PT.map] at h
    simp only [ptOk, Bool.and_eq_true] at hok
    obtain ⟨h1, hok⟩ := hok
    cases hi : ops[i]? with
    | none => rw [hi] at h; simp [wpPT] at h
    | some o =>
      rw [hi] at h
      have hsel := Region.noSelect_spec hs
      have IH := pt_sound hs hQ r
      cases k with
      | pure =>
        simp only [Bool.and_eq_true, Bool.not_eq_true', List.contains_iff_mem] at h1
        obtain ⟨⟨hf, hr⟩, hd⟩ := h1
        obtain ⟨v, hy, h⟩ := h
        refine wpAnyS_first (S' := fun _ => True) hi hsel (fun c a w => hQ c a _ _ w) hd 0 _ b l a w (Region.free_spec hi hf) hc (.inl fun _ => trivial) hr (hy.yieldsIf) trivial hS ?_
        exact IH S b _ _ w (by simpa [Stp.on] using hok) (hc.set hr) hS h
      | load =>
        simp only [Bool.and_eq_true, Bool.not_eq_true', List.contains_iff_mem] at h1
        obtain ⟨⟨⟨⟨hb, hf⟩, hr⟩, hd⟩, hall⟩ := h1
        obtain ⟨v, hy, h⟩ := h
        refine wpAnyS_first (S' := S) hi hsel (fun c a w => hQ c a _ _ w) hd ops.size _ b l a w (Region.free_spec hi hf) hc (.inr ⟨hb, fun _ h => h, fun d hm hu => ?_⟩) hr hy (hS hb) hS ?_
        · have := List.all_eq_true.1 hall d (by simpa using hm)
          rw [hu] at this
          simpa using this
        · exact IH S b _ _ w (by simpa [Stp.on] using hok) (hc.set hr) hS h
      | eff =>
        simp only [Bool.and_eq_true, Bool.not_eq_true', beq_iff_eq] at h1
        obtain ⟨hr, hd⟩ := h1
        refine ⟨fun h0 => (by rw [h0] at hr; cases hr), fun j hj => ?_⟩
        have hj0 := hj
        rw [hr] at hj
        have hji : j = i := by simpa using hj
        subst hji
        refine wpOp_mono (fun a' w' h3 => ?_) (wpList_one hi h)
        obtain ⟨S', hs', hw', h3⟩ := h3
        rw [hd]
        refine ⟨fun _ => hs' _ hw', wpAnyS_mono hs' _ _ _ _ _ (IH S' _ _ _ w' (by simpa [Stp.on] using hok) (hc.set hj0) (fun _ => hw') h3)⟩
      | last =>
        simp only [Bool.and_eq_true, beq_iff_eq] at h1
        obtain ⟨hr, hd⟩ := h1
        refine ⟨fun h0 => (by rw [h0] at hr; cases hr), fun j hj => ?_⟩
        have hj0 := hj
        rw [hr] at hj
        have hji : j = i := by simpa using hj
        subst hji
        refine wpOp_mono (fun a' w' h3 => ?_) (wpList_one hi h)
        rw [hd]
        have hbf : (b && !true) = false := by cases b <;> rfl
        rw [hbf]
        refine ⟨fun h => (by cases h), IH S _ _ _ w' ?_ (hc.set hj0) (fun h => (by cases h)) h3⟩
        have : (b && Stp.last.on) = false := by cases b <;> rfl
        rw [this] at hok
        exact hok
  | .fork i r j q, S, b, l, a, w, hok, hc, hS, h => by
    simp only [PT.map] at h
    simp only [ptOk, Bool.and_eq_true, Bool.not_eq_true', beq_iff_eq, decide_eq_true_eq] at hok
    obtain ⟨⟨⟨⟨⟨hr, hdi⟩, hdj⟩, hlen⟩, hoki⟩, hokj⟩ := hok
    cases hi : ops[i]? with
    | none => rw [hi] at h; simp [wpPT] at h
    | some o =>
      cases hj : ops[j]? with
      | none => rw [hi, hj] at h; simp [wpPT] at h
      | some p =>
        rw [hi, hj] at h
        obtain ⟨h1, h2⟩ := h
        refine ⟨fun h0 => (by rw [h0] at hr; cases hr), fun m hm => ?_⟩
        have hm0 := hm
        rw [hr] at hm
        rcases List.mem_cons.1 hm with rfl | hm
        · refine wpOp_mono (fun a' w' h3 => ?_) (wpList_one hi h1)
          obtain ⟨S', hs', hw', h3⟩ := h3
          rw [hdi]
          refine ⟨fun _ => hs' _ hw', wpAnyS_mono hs' _ _ _ _ _ (pt_sound hs hQ r S' _ _ _ w' (by simpa using hoki) (hc.set hm0) (fun _ => hw') h3)⟩
        · have hmj : m = j := by simpa using hm
          subst hmj
          refine wpOp_mono (fun a' w' h3 => ?_) (wpList_one hj h2)
          obtain ⟨S', hs', hw', h3⟩ := h3
          rw [hdj]
          show _ ∧ wpAnyS P md ops Q S ds r.len _ _ _ _
          rw [hlen]
          refine ⟨fun _ => hs' _ hw', wpAnyS_mono hs' _ _ _ _ _ (pt_sound hs hQ q S' _ _ _ w' (by simpa using hokj) (hc.set hm0) (fun _ => hw') h3)⟩
  | .fork3 i r j q k u, S, b, l, a, w, hok, hc, hS, h => by
    simp only [PT.map] at h
    simp only [ptOk, Bool.and_eq_true, Bool.not_eq_true', beq_iff_eq, decide_eq_true_eq] at hok
    obtain ⟨⟨⟨⟨⟨⟨⟨⟨hr, hdi⟩, hdj⟩, hdk⟩, hlen⟩, hlen2⟩, hoki⟩, hokj⟩, hokk⟩ := hok
    obtain ⟨o, p, s, hi, hj, hk, h1, h2, h3'⟩ := h
    refine ⟨fun h0 => (by rw [h0] at hr; cases hr), fun m hm => ?_⟩
    have hm0 := hm
    rw [hr] at hm
    rcases List.mem_cons.1 hm with rfl | hm
    · refine wpOp_mono (fun a' w' h3 => ?_) (wpList_one hi h1)
      obtain ⟨S', hs', hw', h3⟩ := h3
      rw [hdi]
      refine ⟨fun _ => hs' _ hw', wpAnyS_mono hs' _ _ _ _ _ (pt_sound hs hQ r S' _ _ _ w' (by simpa using hoki) (hc.set hm0) (fun _ => hw') h3)⟩
    rcases List.mem_cons.1 hm with rfl | hm
    · refine wpOp_mono (fun a' w' h3 => ?_) (wpList_one hj h2)
      obtain ⟨S', hs', hw', h3⟩ := h3
      rw [hdj]
      show _ ∧ wpAnyS P md ops Q S ds r.len _ _ _ _
      rw [hlen]
      refine ⟨fun _ => hs' _ hw', wpAnyS_mono hs' _ _ _ _ _ (pt_sound hs hQ q S' _ _ _ w' (by simpa using hokj) (hc.set hm0) (fun _ => hw') h3)⟩
    · have hmj : m = k := by simpa using hm
      subst hmj
      refine wpOp_mono (fun a' w' h3 => ?_) (wpList_one hk h3')
      obtain ⟨S', hs', hw', h3⟩ := h3
      rw [hdk]
      show _ ∧ wpAnyS P md ops Q S ds r.len _ _ _ _
      rw [hlen2]
      refine ⟨fun _ => hs' _ hw', wpAnyS_mono hs' _ _ _ _ _ (pt_sound hs hQ u S' _ _ _ w' (by simpa using hokk) (hc.set hm0) (fun _ => hw') h3)⟩

theorem pt_pure {r : PT (Option Oper)} {o : Oper} {v : Value} {a : Act} {w : World} (hw : Region.wanted o (yielded ops a.tmps) = true) (hy : ∀ w1, (execOp a.eval o).run P w1 = .ok (.value v) w1)
    (h : wpPT P ops Q r S (a.put o.dst v) w) : wpPT P ops Q (.cons (some o) .pure r) S a w := ⟨v, .inl ⟨hw, hy⟩, h⟩
theorem pt_off {r : PT (Option Oper)} {o : Oper} {a : Act} {w : World} (hw : Region.wanted o (yielded ops a.tmps) = false)
    (h : wpPT P ops Q r S (a.put o.dst undef) w) : wpPT P ops Q (.cons (some o) .pure r) S a w := ⟨undef, .inr ⟨hw, rfl⟩, h⟩
theorem pt_load {r : PT (Option Oper)} {o : Oper} {v : Value} {a : Act} {w : World} (hw : Region.wanted o (yielded ops a.tmps) = true) (hy : ∀ w1, S w1 → (execOp a.eval o).run P w1 = .ok (.value v) w1)
    (h : wpPT P ops Q r S (a.put o.dst v) w) : wpPT P ops Q (.cons (some o) .load r) S a w := ⟨v, .inl ⟨hw, hy⟩, h⟩
theorem pt_load_off {r : PT (Option Oper)} {o : Oper} {a : Act} {w : World} (hw : Region.wanted o (yielded ops a.tmps) = false)
    (h : wpPT P ops Q r S (a.put o.dst undef) w) : wpPT P ops Q (.cons (some o) .load r) S a w := ⟨undef, .inr ⟨hw, rfl⟩, h⟩
theorem pt_eff {r : PT (Option Oper)} {o : Oper} {a : Act} {w : World} (h : wpList P ops (Exit.then (fun a' w' => ∃ S' : World → Prop, (∀ u, S' u → S u) ∧ S' w' ∧ wpPT P ops Q r S' a' w') Q) [o] a w) : wpPT P ops Q (.cons (some o) .eff r) S a w := h
theorem pt_last {r : PT (Option Oper)} {o : Oper} {a : Act} {w : World} (h : wpList P ops (Exit.then (fun a' w' => wpPT P ops Q r S a' w') Q) [o] a w) : wpPT P ops Q (.cons (some o) .last r) S a w := h
theorem pt_fork {r q : PT (Option Oper)} {o p : Oper} {a : Act} {w : World}
    (h1 : wpList P ops (Exit.then (fun a' w' => ∃ S' : World → Prop, (∀ u, S' u → S u) ∧ S' w' ∧ wpPT P ops Q r S' a' w') Q) [o] a w)
    (h2 : wpList P ops (Exit.then (fun a' w' => ∃ S' : World → Prop, (∀ u, S' u → S u) ∧ S' w' ∧ wpPT P ops Q q S' a' w') Q) [p] a w) : wpPT P ops Q (.fork (some o) r (some p) q) S a w := ⟨h1, h2⟩
theorem pt_fork3 {r q u : PT (Option Oper)} {o p s : Oper} {a : Act} {w : World}
    (h1 : wpList P ops (Exit.then (fun a' w' => ∃ S' : World → Prop, (∀ u, S' u → S u) ∧ S' w' ∧ wpPT P ops Q r S' a' w') Q) [o] a w)
    (h2 : wpList P ops (Exit.then (fun a' w' => ∃ S' : World → Prop, (∀ u, S' u → S u) ∧ S' w' ∧ wpPT P ops Q q S' a' w') Q) [p] a w)
    (h3 : wpList P ops (Exit.then (fun a' w' => ∃ S' : World → Prop, (∀ u, S' u → S u) ∧ S' w' ∧ wpPT P ops Q u S' a' w') Q) [s] a w) : wpPT P ops Q (.fork3 (some o) r (some p) q (some s) u) S a w := ⟨o, p, s, rfl, rfl, rfl, h1, h2, h3⟩
/-- the world is given a name -/
theorem pt_name {r : PT (Option Oper)} {a : Act} {w : World} (hw : S w) (h : ∀ v, v = w → wpPT P ops Q r S a v) : ∃ S' : World → Prop, (∀ u, S' u → S u) ∧ S' w ∧ wpPT P ops Q r S' a w := ⟨S, fun _ h => h, hw, h w rfl⟩
theorem pt_on {r : PT (Option Oper)} {S' : World → Prop} {a : Act} {w : World} (hs : ∀ u, S' u → S u) (hw : S' w) (h : wpPT P ops Q r S' a w) : ∃ S' : World → Prop, (∀ u, S' u → S u) ∧ S' w ∧ wpPT P ops Q r S' a w := ⟨S', hs, hw, h⟩
theorem pt_end {a : Act} {w : World} (h : Q .normal a w) : wpPT P ops Q .nil S a w := h

theorem wp_region_pt {id : Nat} {a : Act} {w : World} (hm : P.follows .mixedOrders = true) (S : World → Prop) (ds : List Nat) (plan : PT Nat) {L : PT (Option Oper)}
    (hL : plan.map (fun p => ops[p]?) = L) (hok : (Region.noSelect ops && decide (plan.len = ops.size) && ptOk .any ops ds true plan (Array.replicate ops.size false)) = true)
    (hQ : ∀ c a d v w, Q (.panic c) (a.put d v) w → Q (.panic c) a w) (hS : S w.drew) (h : wpPT P ops Q L S a w.drew) : (Code.region id ops true).wp P Q a w := by
  subst hL
  simp only [Bool.and_eq_true, decide_eq_true_eq] at hok
  obtain ⟨⟨h1, h2⟩, h3⟩ := hok
  refine wp_region_any hm (wpAnyS_any (S := S) (ds := ds) _ true _ _ _ ?_)
  rw [← h2]
  rw [← h2] at h3
  refine pt_sound h1 hQ plan S true _ a _ h3 (fun d o _ hl => ?_) (fun _ => hS) h
  exfalso
  revert hl
  simp [Array.getElem?_replicate]
  split <;> simp
end
end Go.Proofs.Ytgahjibjladafaa
