/- Maps with keys of whole numbers or strings: what look-up, update and delete do, over association lists. No program in sight. -/
import Derived.Test.YtcaapoacmfjnmaaGreatBase
import Derived.Maps.RangeWalk
namespace Go.Proofs.YtcaapoacmfjnmaaGreat
open Go.RowKit
set_option linter.unusedVariables false
set_option linter.unusedSimpArgs false

section
variable {K V : Type} [DecidableEq K]
def mget : List (K × V) → K → Option V
  | [], _ => none
  | (a, v) :: m, k => if k = a then some v else mget m k
def mput : List (K × V) → K → V → List (K × V)
  | [], k, x => [(k, x)]
  | (a, v) :: m, k, x => if k = a then (k, x) :: m else (a, v) :: mput m k x
def mdel : List (K × V) → K → List (K × V)
  | [], _ => []
  | (a, v) :: m, k => if k = a then m else (a, v) :: mdel m k
theorem mget_mput (m : List (K × V)) (k j : K) (x : V) : mget (mput m k x) j = if j = k then some x else mget m j := by
  induction m with
  | nil => simp [mput, mget]
  | cons p m ih =>
    obtain ⟨a, v⟩ := p
    simp only [mput]
    by_cases h : k = a
    · subst h
      rw [if_pos rfl]
      simp only [mget]
      by_cases h2 : j = k <;> simp [h2]
    · rw [if_neg h]
      simp only [mget]
      by_cases h2 : j = a
      · subst h2
        rw [if_pos rfl, if_neg (fun e => h e.symm), if_pos rfl]
      · rw [if_neg h2, ih, if_neg h2]
theorem mput_keys (m : List (K × V)) (k : K) (x : V) : ∀ j, j ∈ (mput m k x).map (·.1) ↔ j = k ∨ j ∈ m.map (·.1) := by
  induction m with
  | nil => simp [mput]
  | cons p m ih =>
    obtain ⟨a, v⟩ := p
    intro j
    simp only [mput]
    by_cases h : k = a
    · subst h; simp
    · rw [if_neg h]
      simp only [List.map_cons, List.mem_cons, ih]
      constructor
      · rintro (h | h | h)
        · exact .inr (.inl h)
        · exact .inl h
        · exact .inr (.inr h)
      · rintro (h | h | h)
        · exact .inr (.inl h)
        · exact .inl h
        · exact .inr (.inr h)
theorem mput_nodup {m : List (K × V)} (h : (m.map (·.1)).Nodup) (k : K) (x : V) : ((mput m k x).map (·.1)).Nodup := by
  induction m with
  | nil => simp [mput]
  | cons p m ih =>
    obtain ⟨a, v⟩ := p
    simp only [List.map_cons, List.nodup_cons] at h
    simp only [mput]
    by_cases hk : k = a
    · subst hk
      rw [if_pos rfl]
      simp only [List.map_cons, List.nodup_cons]
      exact h
    · rw [if_neg hk]
      simp only [List.map_cons, List.nodup_cons]
      refine ⟨fun hm => ?_, ih h.2⟩
      rcases (mput_keys m k x a).1 hm with e | e
      · exact hk e.symm
      · exact h.1 e
theorem mget_none {m : List (K × V)} {k : K} : mget m k = none ↔ k ∉ m.map (·.1) := by
  induction m with
  | nil => simp [mget]
  | cons p m ih =>
    obtain ⟨a, v⟩ := p
    simp only [mget, List.map_cons, List.mem_cons]
    by_cases h : k = a
    · simp [h]
    · simp [h, ih]
theorem mdel_sub (m : List (K × V)) (k : K) : ∀ p, p ∈ mdel m k → p ∈ m := by
  induction m with
  | nil => intro p h; cases h
  | cons q m ih =>
    obtain ⟨a, v⟩ := q
    intro p hp
    simp only [mdel] at hp
    split at hp
    · exact List.mem_cons_of_mem _ hp
    · rcases List.mem_cons.1 hp with h | h
      · exact h ▸ List.mem_cons_self
      · exact List.mem_cons_of_mem _ (ih p h)
theorem mdel_nodup {m : List (K × V)} (h : (m.map (·.1)).Nodup) (k : K) : ((mdel m k).map (·.1)).Nodup := by
  induction m with
  | nil => simp [mdel]
  | cons p m ih =>
    obtain ⟨a, v⟩ := p
    simp only [List.map_cons, List.nodup_cons] at h
    simp only [mdel]
    split
    · exact h.2
    · simp only [List.map_cons, List.nodup_cons]
      refine ⟨fun hm => h.1 ?_, ih h.2⟩
      obtain ⟨q, hq, he⟩ := List.mem_map.1 hm
      exact List.mem_map.2 ⟨q, mdel_sub m k q hq, he⟩
theorem mget_mdel {m : List (K × V)} (h : (m.map (·.1)).Nodup) (k j : K) : mget (mdel m k) j = if j = k then none else mget m j := by
  induction m with
  | nil => simp [mdel, mget]
  | cons p m ih =>
    obtain ⟨a, v⟩ := p
    simp only [List.map_cons, List.nodup_cons] at h
    simp only [mdel]
    by_cases hk : k = a
    · subst hk
      rw [if_pos rfl]
      by_cases hj : j = k
      · subst hj
        rw [if_pos rfl]
        exact mget_none.2 h.1
      · simp [mget, hj]
    · rw [if_neg hk]
      simp only [mget]
      by_cases hj : j = a
      · subst hj
        rw [if_pos rfl, if_neg (fun e => hk e.symm), if_pos rfl]
      · rw [if_neg hj, ih h.2, if_neg hj]
theorem mput_length (m : List (K × V)) (k : K) (x : V) : (mput m k x).length = m.length + if (mget m k).isSome then 0 else 1 := by
  induction m with
  | nil => simp [mput, mget]
  | cons p m ih =>
    obtain ⟨a, v⟩ := p
    simp only [mput, mget]
    by_cases h : k = a
    · simp [h]
    · simp [h, ih]; omega
theorem mdel_length (m : List (K × V)) (k : K) : (mdel m k).length + (if (mget m k).isSome then 1 else 0) = m.length := by
  induction m with
  | nil => simp [mdel, mget]
  | cons p m ih =>
    obtain ⟨a, v⟩ := p
    simp only [mdel, mget]
    by_cases h : k = a
    · simp [h]
    · simp [h]; omega
end

theorem ba_ext {a b : ByteArray} (h : a.toList = b.toList) : a = b := by
  rw [ByteArray.toList_eq, ByteArray.toList_eq] at h
  obtain ⟨x⟩ := a
  obtain ⟨y⟩ := b
  congr 1
  exact Array.ext' h
theorem ba_beq (a b : ByteArray) : (a == b) = decide (a = b) := by
  rw [beq_toListBytes]
  by_cases h : a = b
  · subst h; simp
  · rw [decide_eq_false h, beq_eq_false_iff_ne]
    exact fun e => h (ba_ext e)
theorem ba_tl (a b : ByteArray) : (a.toList == b.toList) = decide (a = b) := by rw [← beq_toListBytes, ba_beq]

def ents (es : Array MapEntry) : List (Value × Value) := es.toList.map fun e => (e.key, e.val)
section
variable {K : Type} [DecidableEq K]
/-- the first entry of a key: its place and value -/
def mfind : List (K × Value) → K → Nat → Option (Nat × Value)
  | [], _, _ => none
  | (a, v) :: m, k, i => if k = a then some (i, v) else mfind m k (i + 1)
theorem mfind_val (m : List (K × Value)) (k : K) (i : Nat) : (mfind m k i).map (·.2) = mget m k := by
  induction m generalizing i with
  | nil => rfl
  | cons p m ih =>
    obtain ⟨a, v⟩ := p
    simp only [mfind, mget]
    split
    · rfl
    · exact ih (i + 1)
end
/-- keys that are told apart: whole numbers, strings, structs of such -/
structure KeyK (P : Program) (kt : TypeId) (K : Type) [DecidableEq K] where
  kk : K → Value
  inj : ∀ {a b}, kk a = kk b → a = b
  fk : ∀ (w : World) (es : Array MapEntry) (m : List (K × Value)), ents es = m.map (fun p => (kk p.1, p.2)) → ∀ k, (Instr.findKey kt (kk k) es.toList).run P w = .ok (mfind m k 0) w
  bits : ∀ a, Instr.sameBits 10000 (kk a) (kk a) = true
  chk : ∀ (b : Bool) a w, (Instr.checkKey b 10000 kt (kk a)).run P w = .ok () w

theorem findNow_is {K : Type} [DecidableEq K] {kk : K → Value} {desc : TypeDesc} (same : ∀ a b, Instr.sameNow desc (kk a) (kk b) = some (decide (a = b))) (es : List MapEntry) (m : List (K × Value)) (h : es.map (fun e => (e.key, e.val)) = m.map (fun p => (kk p.1, p.2))) (k : K) (i : Nat) : Instr.findNow desc (kk k) es i = some (mfind m k i) := by
  induction m generalizing es i with
  | nil =>
    cases es with
    | nil => rfl
    | cons e es => simp at h
  | cons p m ih =>
    obtain ⟨a, v⟩ := p
    cases es with
    | nil => simp at h
    | cons e es =>
      simp only [List.map_cons, List.cons.injEq, Prod.mk.injEq] at h
      obtain ⟨⟨h1, h2⟩, h3⟩ := h
      simp only [Instr.findNow, h1, same, mfind]
      by_cases hk : k = a
      · simp [hk, h2]
      · simp [hk, ih es h3 (i + 1)]
theorem findAsking_is {P : Program} {kt : TypeId} {K : Type} [DecidableEq K] {kk : K → Value} (w : World) (hEq : ∀ a b, (Op.equal kt (kk a) (kk b)).run P w = .ok (decide (a = b)) w) (es : List MapEntry) (m : List (K × Value)) (h : es.map (fun e => (e.key, e.val)) = m.map (fun p => (kk p.1, p.2))) (k : K) (i : Nat) : (Instr.findAsking kt (kk k) es i).run P w = .ok (mfind m k i) w := by
  induction m generalizing es i with
  | nil =>
    cases es with
    | nil => rfl
    | cons e es => simp at h
  | cons p m ih =>
    obtain ⟨a, v⟩ := p
    cases es with
    | nil => simp at h
    | cons e es =>
      simp only [List.map_cons, List.cons.injEq, Prod.mk.injEq] at h
      obtain ⟨⟨h1, h2⟩, h3⟩ := h
      simp only [Instr.findAsking, h1, Sem.run_bind, hEq, Result.andThen_ok, mfind]
      by_cases hk : k = a
      · simp [hk, h2]
      · simp [hk, ih es h3 (i + 1)]
theorem findKey_now {P : Program} {kt : TypeId} {K : Type} [DecidableEq K] {kk : K → Value} {desc : TypeDesc} (hu : P.underlying kt = some desc) (same : ∀ a b, Instr.sameNow desc (kk a) (kk b) = some (decide (a = b))) (w : World) (es : Array MapEntry) (m : List (K × Value)) (h : ents es = m.map (fun p => (kk p.1, p.2))) (k : K) : (Instr.findKey kt (kk k) es.toList).run P w = .ok (mfind m k 0) w := by
  have := findNow_is same es.toList m h k 0
  simp [Instr.findKey, run_underlying hu, this]
theorem inj_now {K : Type} [DecidableEq K] {kk : K → Value} {desc : TypeDesc} (same : ∀ a b, Instr.sameNow desc (kk a) (kk b) = some (decide (a = b))) {a b : K} (h : kk a = kk b) : a = b := by
  have h1 := same a b
  rw [← h, same a a] at h1
  simpa using h1
theorem same_int (k : IntKind) (a b : Int) : Instr.sameNow (.int k) (.int k a) (.int k b) = some (decide (a = b)) := by simp [Instr.sameNow]; exact (Bool.beq_eq_decide_eq a b)
theorem same_str (a b : ByteArray) : Instr.sameNow .string (.string a) (.string b) = some (decide (a = b)) := by simp only [Instr.sameNow, ba_beq]
def keyInt {P : Program} {kt : TypeId} (k : IntKind) (h : P.underlying kt = some (.int k)) : KeyK P kt Int where
  kk := .int k
  inj := inj_now (same_int k)
  fk := findKey_now h (same_int k)
  bits := fun a => by simp [Instr.sameBits]
  chk := fun b a w => by rw [show (10000 : Nat) = 9999 + 1 from rfl, Instr.checkKey]; simp [run_underlying h]
def keyStr {P : Program} {kt : TypeId} (h : P.underlying kt = some .string) : KeyK P kt ByteArray where
  kk := .string
  inj := inj_now same_str
  fk := findKey_now h same_str
  bits := fun a => by rw [show (10000 : Nat) = 9999 + 1 from rfl, Instr.sameBits, ba_beq]; simp
  chk := fun b a w => by rw [show (10000 : Nat) = 9999 + 1 from rfl, Instr.checkKey]; simp [run_underlying h]

section
variable {P : Program} {kt : TypeId} {K : Type} [DecidableEq K] (kd : KeyK P kt K)

/-- block r holds the map m -/
def MapAt (kd : KeyK P kt K) (w : World) (r : Nat) (m : List (K × Value)) : Prop :=
  ∃ es clock, w.heap[r]? = some (.map es clock) ∧ ents es = m.map (fun p => (kd.kk p.1, p.2)) ∧ (m.map (·.1)).Nodup ∧ MapKept.Stamped es clock

theorem MapAt.move {kd : KeyK P kt K} {w w' : World} {r : Nat} {m : List (K × Value)} (h : MapAt kd w r m) (hm : w'.heap[r]? = w.heap[r]?) : MapAt kd w' r m := by
  obtain ⟨es, c, h1, h2, h3⟩ := h
  exact ⟨es, c, hm.trans h1, h2, h3⟩
theorem MapAt.lt {kd : KeyK P kt K} {w : World} {r : Nat} {m : List (K × Value)} (h : MapAt kd w r m) : r < w.heap.size := by
  obtain ⟨es, c, h1, _⟩ := h
  exact blk_lt h1
theorem MapAt.size {kd : KeyK P kt K} {w : World} {r : Nat} {m : List (K × Value)} (h : MapAt kd w r m) : ∃ es c, w.heap[r]? = some (.map es c) ∧ es.size = m.length := by
  obtain ⟨es, c, h1, h2, _⟩ := h
  refine ⟨es, c, h1, ?_⟩
  have := congrArg List.length h2
  simpa [ents] using this

theorem findKey_is (w : World) (es : Array MapEntry) (m : List (K × Value)) (h : ents es = m.map (fun p => (kd.kk p.1, p.2))) (k : K) : (Instr.findKey kt (kd.kk k) es.toList).run P w = .ok (mfind m k 0) w := kd.fk w es m h k

theorem run_lookup {w : World} {mt e : TypeId} (ht : P.underlying mt = some (.map kt e)) {z : Value} (hz : ∀ w, (zeroValue e).run P w = .ok z w) {r : Nat} {m : List (K × Value)} (h : MapAt kd w r m) (k : K) (ok : Bool) :
    (Instr.lookup mt (.map (some r)) (kd.kk k) ok).run P w = .ok (if ok then .tuple #[(mget m k).getD z, .bool (mget m k).isSome] else (mget m k).getD z) w := by
  obtain ⟨es, c, h1, h2, h3⟩ := h
  have hf := findKey_is kd w es m h2 k
  have hv := mfind_val m k 0
  have hg : (getObj r).run P w = .ok (.map es c) w := by simp [getObj, Sem.run, h1]
  unfold Instr.lookup
  simp only [Sem.run_bind, run_underlying ht, Result.andThen_ok, hg, Sem.run_pure, kd.chk, hf]
  cases hm : mfind m k 0 with
  | none =>
    rw [hm] at hv
    simp only [Option.map_none] at hv
    rw [← hv]
    simp [hz, Result.andThen]
  | some p =>
    rw [hm] at hv
    simp only [Option.map_some] at hv
    rw [← hv]
    simp

theorem mod_setObj (w : World) (r : Nat) (o : Obj) : Mod (fun k => k = r) w { w with heap := w.heap.setIfInBounds r o } :=
  ⟨rfl, rfl, rfl, by simp, fun k hk hn => by
    show (w.heap.setIfInBounds r o)[k]? = _
    rw [Array.getElem?_setIfInBounds_ne (fun e => hn e.symm)]⟩
theorem blk_setObj {w : World} {r : Nat} (o : Obj) (h : r < w.heap.size) : ({ w with heap := w.heap.setIfInBounds r o } : World).heap[r]? = some o := by
  show (w.heap.setIfInBounds r o)[r]? = _
  simp [h]

theorem ents_modify (es : Array MapEntry) (m : List (K × Value)) (h : ents es = m.map (fun p => (kd.kk p.1, p.2))) (k : K) (x : Value) {i : Nat} {v : Value} (hf : mfind m k 0 = some (i, v)) :
    ents (es.modify i fun e => { e with key := kd.kk k, val := x }) = (mput m k x).map (fun p => (kd.kk p.1, p.2)) ∧ (es[i]?).map (·.key) = some (kd.kk k) := by
  have gen : ∀ (m : List (K × Value)) (es : List MapEntry) (i j : Nat), es.map (fun e => (e.key, e.val)) = m.map (fun p => (kd.kk p.1, p.2)) → mfind m k j = some (i + j, v) →
      (es.modify i (fun e => { e with key := kd.kk k, val := x })).map (fun e => (e.key, e.val)) = (mput m k x).map (fun p => (kd.kk p.1, p.2)) ∧ (es[i]?).map (·.key) = some (kd.kk k) := by
    intro m
    induction m with
    | nil => intro es i j h hf; cases hf
    | cons p m ih =>
      obtain ⟨a, u⟩ := p
      intro es i j h hf
      cases es with
      | nil => simp at h
      | cons e es =>
        simp only [List.map_cons, List.cons.injEq, Prod.mk.injEq] at h
        obtain ⟨⟨h1, h2⟩, h3⟩ := h
        simp only [mfind] at hf
        simp only [mput]
        by_cases hk : k = a
        · subst hk
          rw [if_pos rfl] at hf ⊢
          injection hf with hf
          injection hf with hf _
          have hi : i = 0 := by omega
          subst hi
          simp [h1, h3]
        · rw [if_neg hk] at hf ⊢
          cases i with
          | zero =>
            have hge : ∀ (m : List (K × Value)) (j i : Nat) v, mfind m k j = some (i, v) → j ≤ i := by
              intro m
              induction m with
              | nil => intro j i v h; cases h
              | cons q m ih2 =>
                intro j i v h
                obtain ⟨b, u2⟩ := q
                simp only [mfind] at h
                split at h
                · injection h with h; injection h with h _; omega
                · have := ih2 _ _ _ h; omega
            have := hge _ _ _ _ hf
            omega
          | succ i =>
            have := ih es i (j + 1) h3 (by rw [hf]; congr 2; omega)
            simp only [List.modify_succ_cons, List.map_cons, List.getElem?_cons_succ, this.1, h1, h2]
            exact ⟨trivial, this.2⟩
  have := gen m es.toList i 0 h hf
  refine ⟨?_, by simpa using this.2⟩
  unfold ents
  rw [Array.toList_modify]
  exact this.1
theorem ents_push (es : Array MapEntry) (m : List (K × Value)) (h : ents es = m.map (fun p => (kd.kk p.1, p.2))) (k : K) (x : Value) (c : Nat) (hf : mfind m k 0 = none) :
    ents (es.push { key := kd.kk k, val := x, born := c }) = (mput m k x).map (fun p => (kd.kk p.1, p.2)) := by
  have gen : ∀ (m : List (K × Value)) j, mfind m k j = none → mput m k x = m ++ [(k, x)] := by
    intro m
    induction m with
    | nil => intro j _; rfl
    | cons p m ih =>
      obtain ⟨a, u⟩ := p
      intro j hf
      simp only [mfind] at hf
      split at hf
      · cases hf
      · rename_i hk
        simp only [mput]
        rw [if_neg hk, ih _ hf, List.cons_append]
  rw [gen m 0 hf, List.map_append, ← h]
  simp [ents]
theorem ents_erase (es : Array MapEntry) (m : List (K × Value)) (h : ents es = m.map (fun p => (kd.kk p.1, p.2))) (k : K) {i : Nat} {v : Value} (hf : mfind m k 0 = some (i, v)) :
    ents (es.eraseIdxIfInBounds i) = (mdel m k).map (fun p => (kd.kk p.1, p.2)) := by
  have gen : ∀ (m : List (K × Value)) (i j : Nat), mfind m k j = some (i + j, v) → mdel m k = m.eraseIdx i ∧ i < m.length := by
    intro m
    induction m with
    | nil => intro i j hf; cases hf
    | cons p m ih =>
      obtain ⟨a, u⟩ := p
      intro i j hf
      simp only [mfind] at hf
      simp only [mdel]
      by_cases hk : k = a
      · rw [if_pos hk] at hf ⊢
        injection hf with hf
        injection hf with hf _
        have hi : i = 0 := by omega
        subst hi
        exact ⟨rfl, by simp⟩
      · rw [if_neg hk] at hf ⊢
        cases i with
        | zero =>
          have hge : ∀ (m : List (K × Value)) (j i : Nat) v, mfind m k j = some (i, v) → j ≤ i := by
            intro m
            induction m with
            | nil => intro j i v h; cases h
            | cons q m ih2 =>
              intro j i v h
              obtain ⟨b, u2⟩ := q
              simp only [mfind] at h
              split at h
              · injection h with h; injection h with h _; omega
              · have := ih2 _ _ _ h; omega
          have := hge _ _ _ _ hf
          omega
        | succ i =>
          have := ih i (j + 1) (by rw [hf]; congr 2; omega)
          exact ⟨by rw [this.1, List.eraseIdx_cons_succ], by simp; omega⟩
  obtain ⟨h1, h2⟩ := gen m i 0 hf
  have hlen : es.size = m.length := by have := congrArg List.length h; simpa [ents] using this
  rw [h1]
  unfold ents at *
  have : (es.eraseIdxIfInBounds i).toList = es.toList.eraseIdx i := by
    unfold Array.eraseIdxIfInBounds
    rw [dif_pos (by omega)]
    simp
  have em : ∀ {α β : Type} (f : α → β) (l : List α) (i : Nat), (l.eraseIdx i).map f = (l.map f).eraseIdx i := by
    intro α β f l
    induction l with
    | nil => intro i; simp
    | cons a l ih =>
      intro i
      cases i with
      | zero => simp
      | succ i => simp [ih]
  rw [this, em, h, em]

theorem run_mapUpdate {w : World} {mt e : TypeId} (ht : P.underlying mt = some (.map kt e)) {r : Nat} {m : List (K × Value)} (h : MapAt kd w r m) (k : K) (x : Value) :
    ∃ w', (Instr.mapUpdate mt (.map (some r)) (kd.kk k) x).run P w = .ok () w' ∧ MapAt kd w' r (mput m k x) ∧ Mod (fun q => q = r) w w' := by
  obtain ⟨es, c, h1, h2, h3⟩ := h
  have hl := blk_lt h1
  have hf := findKey_is kd w es m h2 k
  have hg : (getObj r).run P w = .ok (.map es c) w := by simp [getObj, Sem.run, h1]
  have hs : ∀ o, (setObj r o).run P w = .ok () { w with heap := w.heap.setIfInBounds r o } := fun o => by simp [setObj, Sem.run, h1]
  unfold Instr.mapUpdate
  simp only [Sem.run_bind, run_underlying ht, Result.andThen_ok, hg, Sem.run_pure, kd.chk, hf]
  cases hm : mfind m k 0 with
  | none =>
    refine ⟨_, hs _, ⟨_, _, blk_setObj _ hl, ents_push kd es m h2 k x c hm, mput_nodup h3.1 k x, MapKept.stamped_push h3.2 (fun y hy e => ?_)⟩, mod_setObj _ _ _⟩
    have hin : (y.key, y.val) ∈ ents es := List.mem_map.2 ⟨y, hy, rfl⟩
    rw [h2] at hin
    obtain ⟨q, hq, hqe⟩ := List.mem_map.1 hin
    injection hqe with e1 e2
    have hk : q.1 = k := kd.inj (e1.trans e)
    have hv := mfind_val m k 0
    rw [hm] at hv
    exact mget_none.1 hv.symm (hk ▸ List.mem_map.2 ⟨q, hq, rfl⟩)
  | some p =>
    obtain ⟨i, v⟩ := p
    obtain ⟨q1, q2⟩ := ents_modify kd es m h2 k x hm
    have hk : (Instr.keyThatStays (((es[i]?).map (·.key)).getD (kd.kk k)) (kd.kk k)).run P w = .ok (kd.kk k) w := by
      rw [q2]
      simp [Instr.keyThatStays, kd.bits]
    simp only [Sem.run_bind, hk, Result.andThen_ok]
    exact ⟨_, hs _, ⟨_, _, blk_setObj _ hl, q1, mput_nodup h3.1 k x, MapKept.stamped_modify h3.2 i _ (fun _ _ => rfl) (fun y _ hy => by rw [hy] at q2; simp at q2; exact q2.symm)⟩, mod_setObj _ _ _⟩

theorem run_mapDelete {w : World} {mt e ty : TypeId} (ht : P.underlying mt = some (.map kt e)) {r : Nat} {m : List (K × Value)} (h : MapAt kd w r m) (k : K) (ts : Array TypeId) (hts : ts[0]? = some mt) :
    ∃ w', (Builtin.delete_ ts ty #[.map (some r), kd.kk k]).run P w = .ok (.tuple #[]) w' ∧ MapAt kd w' r (mdel m k) ∧ Mod (fun q => q = r) w w' := by
  obtain ⟨es, c, h1, h2, h3⟩ := h
  have hl := blk_lt h1
  have hf := findKey_is kd w es m h2 k
  have hg : (getObj r).run P w = .ok (.map es c) w := by simp [getObj, Sem.run, h1]
  have hs : ∀ o, (setObj r o).run P w = .ok () { w with heap := w.heap.setIfInBounds r o } := fun o => by simp [setObj, Sem.run, h1]
  unfold Builtin.delete_
  simp only [hts, List.getElem?_toArray, List.getElem?_cons_zero, List.getElem?_cons_succ, Sem.run_bind, run_underlying ht, Result.andThen_ok, hg, Sem.run_pure, kd.chk, hf]
  have hv := mfind_val m k 0
  cases hm : mfind m k 0 with
  | none =>
    rw [hm] at hv
    have hd : mdel m k = m := by
      have hn := mget_none.1 hv.symm
      clear hm hv hf h2 h3
      induction m with
      | nil => rfl
      | cons p m ih =>
        obtain ⟨a, u⟩ := p
        simp only [List.map_cons, List.mem_cons, not_or] at hn
        simp only [mdel]
        rw [if_neg hn.1, ih hn.2]
    simp only [Sem.run_bind, hs, Result.andThen_ok, Sem.run_pure]
    exact ⟨_, rfl, ⟨_, _, blk_setObj _ hl, by rw [hd]; exact h2, by rw [hd]; exact h3⟩, mod_setObj _ _ _⟩
  | some p =>
    obtain ⟨i, v⟩ := p
    simp only [Sem.run_bind, hs, Result.andThen_ok, Sem.run_pure]
    exact ⟨_, rfl, ⟨_, _, blk_setObj _ hl, ents_erase kd es m h2 k hm, mdel_nodup h3.1 k, MapKept.stamped_erase h3.2 i⟩, mod_setObj _ _ _⟩
theorem MapAt.made (kd : KeyK P kt K) (w : World) (c : Nat) : MapAt kd (w.alloc (.map #[] c)) w.heap.size [] := ⟨#[], c, heap_alloc_new w _, rfl, by simp, MapKept.stamped_empty c⟩

/-- at the list of a region's operations -/
theorem wpList_mapUpdate {w : World} {ops : Array Oper} {rest : List Oper} {o : Oper} {a : Act} {Q : Exit → Act → World → Prop} (hgd : o.guard = none) (ma x v : Operand) (mt e : TypeId) (ho : o.op = Op.mapUpdate mt ma x v)
    (ht : P.underlying mt = some (.map kt e)) (r : Nat) (m : List (K × Value)) (hm : a.eval ma = .map (some r)) (h : MapAt kd w r m) (k : K) (hx : a.eval x = kd.kk k) (val : Value) (hv : a.eval v = val)
    (hK : ∀ w', MapAt kd w' r (mput m k val) → Mod (fun q => q = r) w w' → wpList P ops Q rest (a.put o.dst undef) w') : wpList P ops Q (o :: rest) a w := by
  refine wpList_plain hgd fun K' hK' => ?_
  obtain ⟨w', hr, h1, h2⟩ := run_mapUpdate kd ht h k val
  unfold Oper.wp
  simp [execOp, ho, hm, hx, hv, hr, Result.andThen]
  exact hK' _ _ (hK w' h1 h2)

/-! a loop over a map that isn't changed in it -/
/-- block it is an iterator over the map in block r; cnt entries are still to come -/
def MapIt (kd : KeyK P kt K) (w : World) (r it : Nat) (m : List (K × Value)) (cnt : Nat) : Prop :=
  ∃ es clock since seen c0, w.heap[r]? = some (.map es clock) ∧ ents es = m.map (fun p => (kd.kk p.1, p.2)) ∧ MapKept.Stamped es clock ∧ w.heap[it]? = some (.mapIter (some r) since seen c0) ∧ (∀ x ∈ es.toList, x.born < since) ∧ (leftOf es seen).size = cnt ∧ since ≤ c0 ∧ since ≤ clock
theorem MapIt.left_eq {kd : KeyK P kt K} {w : World} {r it cnt : Nat} {m : List (K × Value)} (h : MapIt kd w r it m cnt) : w.rangeLeft r it = cnt := by
  obtain ⟨es, clock, since, seen, c0, hb, _, _, hr, _, hc, _⟩ := h
  simp only [World.rangeLeft, hb, hr]
  exact hc
theorem MapIt.move {kd : KeyK P kt K} {w w' : World} {r it cnt : Nat} {m : List (K × Value)} (h : MapIt kd w r it m cnt) (h1 : w'.heap[r]? = w.heap[r]?) (h2 : w'.heap[it]? = w.heap[it]?) : MapIt kd w' r it m cnt := by
  obtain ⟨es, clock, since, seen, c0, hb, h, hs, hr, rest⟩ := h
  exact ⟨es, clock, since, seen, c0, h1.trans hb, h, hs, h2.trans hr, rest⟩
theorem MapIt.at {kd : KeyK P kt K} {w : World} {r it cnt : Nat} {m : List (K × Value)} (h : MapIt kd w r it m cnt) (hn : (m.map (·.1)).Nodup) : MapAt kd w r m := by
  obtain ⟨es, clock, since, seen, c0, hb, h, hs, _⟩ := h
  exact ⟨es, clock, hb, h, hn, hs⟩
theorem MapIt.ne {kd : KeyK P kt K} {w : World} {r it cnt : Nat} {m : List (K × Value)} (h : MapIt kd w r it m cnt) : it ≠ r := by
  obtain ⟨es, clock, since, seen, c0, hb, _, _, hr, _⟩ := h
  intro e
  rw [e, hb] at hr
  cases hr
theorem MapIt.lt {kd : KeyK P kt K} {w : World} {r it cnt : Nat} {m : List (K × Value)} (h : MapIt kd w r it m cnt) : r < w.heap.size ∧ it < w.heap.size := by
  obtain ⟨es, clock, since, seen, c0, hb, _, _, hr, _⟩ := h
  exact ⟨blk_lt hb, blk_lt hr⟩

theorem wpList_mapRange {w : World} {ops : Array Oper} {rest : List Oper} {o : Oper} {a : Act} {Q : Exit → Act → World → Prop} (hgd : o.guard = none) (ma : Operand) (mt e : TypeId) (ho : o.op = Op.range mt ma)
    (ht : P.underlying mt = some (.map kt e)) (r : Nat) (m : List (K × Value)) (hm : a.eval ma = .map (some r)) (h : MapAt kd w r m)
    (hK : ∀ w', MapIt kd w' r w.heap.size m m.length → Below w.heap.size w w' → w'.heap.size = w.heap.size + 1 → wpList P ops Q rest (a.put o.dst (.pointer (some ⟨w.heap.size, 0, none⟩))) w') : wpList P ops Q (o :: rest) a w := by
  obtain ⟨es, c, h1, h2, h3, h4⟩ := h
  refine wpList_plain hgd fun K' hK' => ?_
  unfold Oper.wp
  simp [execOp, ho, hm, run_range_map w mt kt e r es c ht h1, Result.andThen]
  refine hK' _ _ (hK _ ⟨es, c, c, #[], c, (heap_alloc_old w _ (blk_lt h1)).trans h1, h2, h4, heap_alloc_new w _, h4.1, ?_, Nat.le_refl _, Nat.le_refl _⟩ ((Below.refl _ _).alloc (Nat.le_refl _) _) (by simp))
  have := congrArg List.length h2
  simp [ents] at this
  rw [← this]; simp [leftOf]

theorem wpList_mapNext {w : World} {ops : Array Oper} {rest : List Oper} {o : Oper} {a : Act} {Q : Exit → Act → World → Prop} (hgd : o.guard = none) (ia : Operand) (ho : o.op = Op.next ia false)
    (r it : Nat) (m : List (K × Value)) (cnt : Nat) (hi : a.eval ia = .pointer (some ⟨it, 0, none⟩)) (h : MapIt kd w r it m cnt)
    (hDone : cnt = 0 → wpList P ops Q rest (a.put o.dst (.tuple #[.bool false])) w)
    (hMore : ∀ k v w' cnt', (k, v) ∈ m → MapIt kd w' r it m cnt' → cnt' < cnt → Mod (fun q => q = it) w w' → w'.heap.size = w.heap.size → (Instr.entry (.pointer (some ⟨it, 0, none⟩))).run P w' = .ok (.tuple #[kd.kk k, v]) w' →
      wpList P ops Q rest (a.put o.dst (.tuple #[.bool true, kd.kk k, v])) w') : wpList P ops Q (o :: rest) a w := by
  have hne := h.ne
  obtain ⟨es, clock, since, seen, c0, hb, he, hs, hr, hold, rfl, hsc, hsk⟩ := h
  refine wpList_plain hgd fun K' hK' => ?_
  unfold Oper.wp
  rcases run_next_at (P := P) w o.type it r since c0 seen es clock hr hb hold hsc with ⟨h0, hrun⟩ | ⟨e, hel, w1, hal, hrun⟩
  · simp [execOp, ho, hi, hrun, Result.andThen]
    exact hK' _ _ (hDone h0)
  · obtain ⟨hem, hes⟩ := mem_left hel
    have hin : (e.key, e.val) ∈ ents es := List.mem_map.2 ⟨e, hem, rfl⟩
    rw [he] at hin
    obtain ⟨q, hq, hqe⟩ := List.mem_map.1 hin
    injection hqe with e1 e2
    have hr1 : w1.heap[it]? = some (.mapIter (some r) since seen c0) := by rcases hal with rfl | rfl <;> exact hr
    have hb1 : w1.heap[r]? = some (.map es clock) := by rcases hal with rfl | rfl <;> exact hb
    have hset := MapKept.heap_set (o' := .mapIter (some r) since (seen.push e.born) clock) hr1
    have hb' : (Go.ChangeMaps.setBlock w1 it (.mapIter (some r) since (seen.push e.born) clock)).heap[r]? = some (.map es clock) := (hset.2 r (fun e1 => hne e1.symm)).trans hb1
    have hen := run_entry_at (P := P) _ it r since seen es clock e hset.1 hb' hem ((MapKept.stamped_iff es clock).1 hs).2.1
    simp [execOp, ho, hi, hrun, Result.andThen]
    rw [← e1, ← e2] at hen ⊢
    refine hK' _ _ (hMore q.1 q.2 _ _ (by simpa using hq) ⟨es, clock, since, seen.push e.born, clock, hb', he, hs, hset.1, hold, rfl, hsk, hsk⟩ (left_shrinks es seen e hel) ?_ ?_ hen)
    · rcases hal with rfl | rfl <;> exact ⟨rfl, rfl, rfl, by simp [Go.ChangeMaps.setBlock], fun i _ hi => hset.2 i (fun e1 => hi e1)⟩
    · rcases hal with rfl | rfl <;> simp [Go.ChangeMaps.setBlock]
end
end Go.Proofs.YtcaapoacmfjnmaaGreat
