/- The check of a plan, by bits: what the kernel has to reckon is small. -/
import Derived.Test.YtgahjibjladafaaPlan
import Derived.Test.YtgahjibjladafaaPlanT
namespace Go.Proofs.Ytgahjibjladafaa
set_option linter.unusedVariables false

def needOf (o : Oper) : Nat := o.after.toList.foldr (fun e s => if Region.binds .any e then 2 ^ e.on ||| s else s) 0
theorem needOf_bit (o : Oper) (k : Nat) : (needOf o).testBit k = true ↔ ∃ e ∈ o.after, Region.binds .any e = true ∧ e.on = k := by
  unfold needOf
  rw [show (∃ e ∈ o.after, Region.binds .any e = true ∧ e.on = k) ↔ ∃ e ∈ o.after.toList, Region.binds .any e = true ∧ e.on = k by simp]
  generalize o.after.toList = l
  induction l with
  | nil => simp
  | cons e l ih =>
    simp only [List.foldr_cons, List.mem_cons]
    by_cases hb : Region.binds .any e = true
    · rw [if_pos hb, Nat.testBit_or, Bool.or_eq_true, ih, Nat.testBit_two_pow, decide_eq_true_eq]
      constructor
      · rintro (h | ⟨x, h1, h2⟩)
        · exact ⟨e, .inl rfl, hb, h⟩
        · exact ⟨x, .inr h1, h2⟩
      · rintro ⟨x, rfl | h1, h2⟩
        · exact .inl h2.2
        · exact .inr ⟨x, h1, h2⟩
    · rw [if_neg hb, ih]
      constructor
      · rintro ⟨x, h1, h2⟩
        exact ⟨x, .inr h1, h2⟩
      · rintro ⟨x, rfl | h1, h2⟩
        · exact (hb h2.1).elim
        · exact ⟨x, h1, h2⟩
theorem land_all (n s : Nat) : (n &&& s == n) = true ↔ ∀ k, n.testBit k = true → s.testBit k = true := by
  rw [beq_iff_eq]
  constructor
  · intro h k hk
    rw [← h, Nat.testBit_and, Bool.and_eq_true] at hk
    exact hk.2
  · intro h
    refine Nat.eq_of_testBit_eq fun k => ?_
    rw [Nat.testBit_and]
    cases hk : n.testBit k with
    | false => rfl
    | true => rw [h k hk]; rfl
def readyFrom (s : Nat) : Nat → List Nat → List Nat
  | _, [] => []
  | i, n :: r => if !s.testBit i && (n &&& s == n) then i :: readyFrom s (i + 1) r else readyFrom s (i + 1) r
theorem readyFrom_is (s : Nat) (p : Nat → Bool) : ∀ (os : List Oper) (k : Nat), (∀ i o, os[i]? = some o → p (k + i) = (!s.testBit (k + i) && (needOf o &&& s == needOf o))) → readyFrom s k (os.map needOf) = (List.range' k os.length).filter p := by
  intro os
  induction os with
  | nil => intro k _; rfl
  | cons o os ih =>
    intro k h
    simp only [List.map_cons, readyFrom, List.length_cons, List.range'_succ, List.filter_cons]
    have h0 := h 0 o rfl
    rw [Nat.add_zero] at h0
    rw [← h0, ih (k + 1) (fun i x hx => by rw [Nat.add_assoc, Nat.add_comm 1 i]; exact h (i + 1) x (by simpa using hx))]
/-- the bits are the marks -/
structure Bits (ops : Array Oper) (l : Array Bool) (s : Nat) : Prop where
  size : l.size = ops.size
  bit : ∀ j, j < ops.size → l[j]? = some (s.testBit j)
  off : ∀ j, ops.size ≤ j → s.testBit j = false
theorem Bits.getF {ops : Array Oper} {l : Array Bool} {s : Nat} (h : Bits ops l s) (j : Nat) : l.getD j false = s.testBit j := by
  by_cases hj : j < ops.size
  · rw [Array.getD_eq_getD_getElem?, h.bit j hj]; rfl
  · rw [Array.getD_eq_getD_getElem?, Array.getElem?_eq_none (by have := h.size; omega), h.off j (by omega)]; rfl
theorem Bits.getT {ops : Array Oper} {l : Array Bool} {s : Nat} (h : Bits ops l s) {j : Nat} (hj : j < ops.size) : l.getD j true = s.testBit j := by
  rw [Array.getD_eq_getD_getElem?, h.bit j hj]; rfl
theorem Bits.gets {ops : Array Oper} {l : Array Bool} {s : Nat} (h : Bits ops l s) {j : Nat} (hj : s.testBit j = true) : l.getD j true = true := by
  by_cases hl : j < ops.size
  · rw [h.getT hl, hj]
  · rw [h.off j (by omega)] at hj; cases hj
theorem Bits.set {ops : Array Oper} {l : Array Bool} {s : Nat} (h : Bits ops l s) {i : Nat} (hi : i < ops.size) : Bits ops (l.setIfInBounds i true) (s ||| 2 ^ i) := by
  refine ⟨by simp [h.size], fun j hj => ?_, fun j hj => ?_⟩
  · rw [Nat.testBit_or, Nat.testBit_two_pow]
    by_cases hij : i = j
    · subst hij
      rw [Array.getElem?_setIfInBounds_self_of_lt (by have := h.size; omega)]
      simp
    · rw [Array.getElem?_setIfInBounds_ne hij, h.bit j hj]
      simp [hij]
  · rw [Nat.testBit_or, Nat.testBit_two_pow, h.off j hj]
    simp; omega
theorem Bits.start (ops : Array Oper) : Bits ops (Array.replicate ops.size false) 0 :=
  ⟨by simp, fun j hj => by simp [hj], fun j _ => by simp⟩
theorem Bits.ready {ops : Array Oper} {l : Array Bool} {s : Nat} (h : Bits ops l s) : Region.ready .any ops l = readyFrom s 0 (ops.toList.map needOf) := by
  unfold Region.ready
  rw [readyFrom_is s _ ops.toList 0 fun i o ho => ?_, List.range_eq_range', Array.length_toList]
  rw [Nat.zero_add]
  have ho' : ops[i]? = some o := by simpa using ho
  rw [ho', h.getT (Array.getElem?_eq_some_iff.1 ho').1]
  congr 1
  show (o.after.all fun e => !Region.binds .any e || l.getD e.on false) = _
  rw [Bool.eq_iff_iff, land_all, Array.all_eq_true_iff_forall_mem]
  constructor
  · intro hh k hk
    obtain ⟨e, he, hb, rfl⟩ := (needOf_bit o k).1 hk
    have := hh e he
    rw [hb, h.getF] at this
    simpa using this
  · intro hh e he
    rw [h.getF]
    cases hb : Region.binds .any e with
    | false => rfl
    | true => rw [hh e.on ((needOf_bit o _).2 ⟨e, he, hb, rfl⟩)]; rfl
def freeF (ops : Array Oper) (oi : Oper) (i s : Nat) : Nat → List Oper → List Nat → Bool
  | j, o :: os, n :: ns => (j == i || s.testBit j || n.testBit i || oi.apart ops o) && freeF ops oi i s (j + 1) os ns
  | _, _, _ => true
theorem freeF_spec {ops : Array Oper} {oi : Oper} {i s : Nat} : ∀ (os : List Oper) (k : Nat), freeF ops oi i s k os (os.map needOf) = true → ∀ j o, os[j]? = some o → (k + j = i ∨ s.testBit (k + j) = true ∨ (needOf o).testBit i = true ∨ oi.apart ops o = true) := by
  intro os
  induction os with
  | nil => intro k _ j o h; simp at h
  | cons x os ih =>
    intro k h j o ho
    simp only [List.map_cons, freeF, Bool.and_eq_true, Bool.or_eq_true, beq_iff_eq] at h
    cases j with
    | zero =>
      simp at ho
      subst ho
      rw [Nat.add_zero]
      rcases h.1 with ((h | h) | h) | h
      · exact .inl h
      · exact .inr (.inl h)
      · exact .inr (.inr (.inl h))
      · exact .inr (.inr (.inr h))
    | succ j =>
      have := ih (k + 1) h.2 j o (by simpa using ho)
      rw [show k + (j + 1) = k + 1 + j by omega]
      exact this
theorem Bits.free {ops : Array Oper} {l : Array Bool} {s i : Nat} (h : Bits ops l s) {oi : Oper} (hi : ops[i]? = some oi) (hf : freeF ops oi i s 0 ops.toList (ops.toList.map needOf) = true) : Region.free .any ops l i = true := by
  unfold Region.free
  rw [hi]
  simp only [List.all_eq_true, List.mem_range]
  intro j hj
  have hoj : ops[j]? = some ops[j] := by simp [hj]
  have := freeF_spec _ 0 hf j ops[j] (by simp)
  rw [Nat.zero_add] at this
  rw [hoj]
  rcases this with h1 | h1 | h1 | h1
  · simp [h1]
  · simp [h.gets h1]
  · obtain ⟨e, he, hb, h2⟩ := (needOf_bit _ _).1 h1
    have : (ops[j].after.any fun e => Region.binds .any e && e.on == i) = true := Array.any_eq_true'.2 ⟨e, he, by simp [hb, h2]⟩
    simp [this]
  · simp [h1]
/-- all that are waited for -/
def reach : List Nat → Nat → Nat
  | [], m => m
  | n :: r, m => reach r (if m.testBit r.length then m ||| n else m)
theorem waits_more {md : Region.Mode} {ops : Array Oper} {i : Nat} : ∀ (n d : Nat), waitsB md ops i n d = true → waitsB md ops i (n + 1) d = true
  | 0, _, h => by cases h
  | n + 1, d, h => by
    unfold waitsB at h ⊢
    cases ho : ops[d]? with
    | none => rw [ho] at h; cases h
    | some o =>
      rw [ho] at h
      obtain ⟨e, he, h⟩ := Array.any_eq_true'.1 h
      refine Array.any_eq_true'.2 ⟨e, he, ?_⟩
      simp only [Bool.and_eq_true, Bool.or_eq_true, beq_iff_eq] at h ⊢
      exact ⟨h.1, h.2.imp id (waits_more n _)⟩
theorem waits_one {md : Region.Mode} {ops : Array Oper} {d k : Nat} {o : Oper} {e : Edge} (n : Nat) (ho : ops[d]? = some o) (he : e ∈ o.after) (hb : Region.binds md e = true) (hk : e.on = k) : waitsB md ops k (n + 1) d = true := by
  unfold waitsB
  rw [ho]
  exact Array.any_eq_true'.2 ⟨e, he, by simp [hb, hk]⟩
theorem waits_chain {md : Region.Mode} {ops : Array Oper} {j k : Nat} {o : Oper} {e : Edge} (ho : ops[j]? = some o) (he : e ∈ o.after) (hb : Region.binds md e = true) (hk : e.on = k) : ∀ (n d : Nat), waitsB md ops j n d = true → waitsB md ops k (n + 1) d = true
  | 0, _, h => by cases h
  | n + 1, d, h => by
    unfold waitsB at h ⊢
    cases hod : ops[d]? with
    | none => rw [hod] at h; cases h
    | some x =>
      rw [hod] at h
      obtain ⟨e', he', h⟩ := Array.any_eq_true'.1 h
      refine Array.any_eq_true'.2 ⟨e', he', ?_⟩
      simp only [Bool.and_eq_true, Bool.or_eq_true, beq_iff_eq] at h ⊢
      refine ⟨h.1, .inr ?_⟩
      rcases h.2 with h2 | h2
      · rw [h2]; exact waits_one n ho he hb hk
      · exact waits_chain ho he hb hk n _ h2
theorem reach_spec (ops : Array Oper) (d : Nat) : ∀ (L m t : Nat), L ≤ ops.size → (∀ k, m.testBit k = true → k = d ∨ waitsB .any ops k t d = true) →
    ∀ k, (reach ((ops.toList.take L).map needOf).reverse m).testBit k = true → k = d ∨ waitsB .any ops k (t + L) d = true := by
  intro L
  induction L with
  | zero => intro m t _ h k hk; simp [reach] at hk; exact h k hk
  | succ L ih =>
    intro m t hL h k hk
    have hoL : ops[L]? = some ops[L] := by simp
    rw [List.take_add_one, show ops.toList[L]? = some ops[L] by simp] at hk
    simp only [Option.toList, List.map_append, List.map_cons, List.map_nil, List.reverse_append, List.reverse_cons, List.reverse_nil, List.nil_append, List.singleton_append, reach, List.length_reverse, List.length_map, List.length_take, Array.length_toList, Nat.min_eq_left (show L ≤ ops.size by omega)] at hk
    rw [show t + (L + 1) = t + 1 + L by omega]
    refine ih _ (t + 1) (by omega) (fun k hk => ?_) k hk
    by_cases hm : m.testBit L = true
    · rw [if_pos hm, Nat.testBit_or, Bool.or_eq_true] at hk
      rcases hk with hk | hk
      · exact (h k hk).imp id (waits_more t d)
      · obtain ⟨e, he, hb, h2⟩ := (needOf_bit _ _).1 hk
        rcases h L hm with rfl | hw
        · exact .inr (waits_one t hoL he hb h2)
        · exact .inr (waits_chain hoL he hb h2 t d hw)
    · rw [if_neg hm] at hk
      exact (h k hk).imp id (waits_more t d)
def waitsF (rs : List Nat) (i d : Nat) : Bool := i != d && (reach rs (2 ^ d)).testBit i
theorem waitsF_spec {ops : Array Oper} {i d : Nat} (h : waitsF (ops.toList.map needOf).reverse i d = true) : waitsB .any ops i ops.size d = true := by
  unfold waitsF at h
  simp only [Bool.and_eq_true, bne_iff_ne] at h
  have := reach_spec ops d ops.size (2 ^ d) 0 (Nat.le_refl _) (fun k hk => by rw [Nat.testBit_two_pow, decide_eq_true_eq] at hk; exact .inl hk.symm) i
    (by rw [List.take_of_length_le (by simp)]; exact h.2)
  rw [Nat.zero_add] at this
  exact this.resolve_left h.1
def stepF (ops : Array Oper) (os : List Oper) (ns rs ds : List Nat) (b : Bool) (i : Nat) (k : Stp) (s : Nat) : Bool :=
  match k with
  | .pure => (match os[i]? with | some oi => freeF ops oi i s 0 os ns | none => false) && (readyFrom s 0 ns).contains i && !ds.contains i
  | .load => b && (match os[i]? with | some oi => freeF ops oi i s 0 os ns | none => false) && (readyFrom s 0 ns).contains i && !ds.contains i && ds.all (fun d => s.testBit d || waitsF rs i d)
  | .eff => (readyFrom s 0 ns == [i]) && !ds.contains i
  | .last => (readyFrom s 0 ns == [i]) && ds.contains i
def planOkF (ops : Array Oper) (os : List Oper) (ns rs ds : List Nat) : Bool → List (Nat × Stp) → Nat → Bool
  | _, [], s => (readyFrom s 0 ns).isEmpty
  | b, (i, k) :: r, s => stepF ops os ns rs ds b i k s && planOkF ops os ns rs ds (b && k.on) r (s ||| 2 ^ i)
theorem ready_lt {ops : Array Oper} {l : Array Bool} {i : Nat} (h : i ∈ Region.ready .any ops l) : i < ops.size := by
  unfold Region.ready at h
  exact List.mem_range.1 (List.mem_filter.1 h).1
def stepOk (ops : Array Oper) (ds : List Nat) (b : Bool) (i : Nat) (k : Stp) (l : Array Bool) : Bool :=
  match k with
  | .pure => Region.free .any ops l i && (Region.ready .any ops l).contains i && !ds.contains i
  | .load => b && Region.free .any ops l i && (Region.ready .any ops l).contains i && !ds.contains i && ds.all (fun d => l.getD d true || waitsB .any ops i ops.size d)
  | .eff => (Region.ready .any ops l == [i]) && !ds.contains i
  | .last => (Region.ready .any ops l == [i]) && ds.contains i
theorem stepF_spec {ops : Array Oper} {ds : List Nat} {b : Bool} {i : Nat} {k : Stp} {s : Nat} {l : Array Bool} (hB : Bits ops l s) (h : stepF ops ops.toList (ops.toList.map needOf) (ops.toList.map needOf).reverse ds b i k s = true) :
    stepOk ops ds b i k l = true ∧ i < ops.size := by
  have hfree : (match ops.toList[i]? with | some oi => freeF ops oi i s 0 ops.toList (ops.toList.map needOf) | none => false) = true → Region.free .any ops l i = true := fun h => by
    cases ho : ops.toList[i]? with
    | none => rw [ho] at h; cases h
    | some o => rw [ho] at h; exact hB.free (by simpa using ho) h
  unfold stepOk
  rw [hB.ready]
  cases k with
  | pure =>
    simp only [stepF, Bool.and_eq_true] at h
    have hr : i ∈ Region.ready .any ops l := by rw [hB.ready]; simpa using h.1.2
    exact ⟨by simp only [Bool.and_eq_true]; exact ⟨⟨hfree h.1.1, h.1.2⟩, h.2⟩, ready_lt hr⟩
  | load =>
    simp only [stepF, Bool.and_eq_true] at h
    have hr : i ∈ Region.ready .any ops l := by rw [hB.ready]; simpa using h.1.1.2
    refine ⟨by
      simp only [Bool.and_eq_true]
      refine ⟨⟨⟨⟨h.1.1.1.1, hfree h.1.1.1.2⟩, h.1.1.2⟩, h.1.2⟩, ?_⟩
      rw [List.all_eq_true] at h ⊢
      intro d hd
      have := h.2 d hd
      simp only [Bool.or_eq_true] at this ⊢
      exact this.imp hB.gets waitsF_spec, ready_lt hr⟩
  | eff =>
    simp only [stepF, Bool.and_eq_true] at h
    have hr : i ∈ Region.ready .any ops l := by rw [hB.ready, beq_iff_eq.1 h.1]; simp
    exact ⟨by simp only [Bool.and_eq_true]; exact h, ready_lt hr⟩
  | last =>
    simp only [stepF, Bool.and_eq_true] at h
    have hr : i ∈ Region.ready .any ops l := by rw [hB.ready, beq_iff_eq.1 h.1]; simp
    exact ⟨by simp only [Bool.and_eq_true]; exact h, ready_lt hr⟩
theorem planOkF_spec {ops : Array Oper} {ds : List Nat} : ∀ (plan : List (Nat × Stp)) (b : Bool) (s : Nat) (l : Array Bool), Bits ops l s → planOkF ops ops.toList (ops.toList.map needOf) (ops.toList.map needOf).reverse ds b plan s = true → planOk .any ops ds b plan l = true
  | [], b, s, l, hB, h => by
    unfold planOk
    rw [hB.ready]
    exact h
  | (i, k) :: r, b, s, l, hB, h => by
    unfold planOkF at h
    rw [Bool.and_eq_true] at h
    obtain ⟨h1, h2⟩ := stepF_spec hB h.1
    rw [show planOk .any ops ds b ((i, k) :: r) l = (stepOk ops ds b i k l && planOk .any ops ds (b && k.on) r (l.setIfInBounds i true)) by cases k <;> rfl, Bool.and_eq_true]
    exact ⟨h1, planOkF_spec r _ _ _ (hB.set h2) h.2⟩
/-- a region that draws, by a plan; the check is by bits -/
theorem wp_region_planF {P : Program} {ops : Array Oper} {Q : Exit → Act → World → Prop} {id : Nat} {a : Act} {w : World} (hm : P.follows .mixedOrders = true) (S : World → Prop) (ds : List Nat) (plan : List (Nat × Stp)) {L : List (Option Oper × Stp)}
    (hL : plan.map (fun p => (ops[p.1]?, p.2)) = L) (hok : (Region.noSelect ops && decide (plan.length = ops.size) && planOkF ops ops.toList (ops.toList.map needOf) (ops.toList.map needOf).reverse ds true plan 0) = true)
    (hQ : ∀ c a d v w, Q (.panic c) (a.put d v) w → Q (.panic c) a w) (hS : S w.drew) (h : wpPlan P ops Q L S a w.drew) : (Code.region id ops true).wp P Q a w := by
  refine wp_region_plan hm S ds plan hL ?_ hQ hS h
  simp only [Bool.and_eq_true] at hok ⊢
  exact ⟨hok.1, planOkF_spec plan true 0 _ (Bits.start ops) hok.2⟩
end Go.Proofs.Ytgahjibjladafaa
