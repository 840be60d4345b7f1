/- Part 5 of the proof of leastOrder_holds: what it rests on. -/
import Derived.Test.YtckdofjpoajblaaGreatZo4
namespace Go.Proofs.YtckdofjpoajblaaGreat
open Go.RowKit
set_option linter.unusedVariables false
set_option linter.unusedSimpArgs false
section
variable {K V : Type} [DecidableEq K]
def mget : List (K × V) → K → Option V
  | [], _ => none
  | (a, v) :: m, k => if k = a then some v else mget m k
def mput : List (K × V) → K → V → List (K × V)
  | [], k, x => [(k, x)]
  | (a, v) :: m, k, x => if k = a then (k, x) :: m else (a, v) :: mput m k x
theorem mput_keys (m : List (K × V)) (k : K) (x : V) : ∀ j, j ∈ (mput m k x).map (·.1) ↔ j = k ∨ j ∈ m.map (·.1) := by
  induction m with
  | nil => simp [mput]
  | cons p m ih =>
    obtain ⟨a, v⟩ := p
    intro j
    simp only [mput]
    by_cases h : k = a
    · subst h; simp
    · rw [if_neg h]
      simp only [List.map_cons, List.mem_cons, ih]
      constructor
      · rintro (h | h | h)
        · exact .inr (.inl h)
        · exact .inl h
        · exact .inr (.inr h)
      · rintro (h | h | h)
        · exact .inr (.inl h)
        · exact .inl h
        · exact .inr (.inr h)
theorem mput_nodup {m : List (K × V)} (h : (m.map (·.1)).Nodup) (k : K) (x : V) : ((mput m k x).map (·.1)).Nodup := by
  induction m with
  | nil => simp [mput]
  | cons p m ih =>
    obtain ⟨a, v⟩ := p
    simp only [List.map_cons, List.nodup_cons] at h
    simp only [mput]
    by_cases hk : k = a
    · subst hk
      rw [if_pos rfl]
      simp only [List.map_cons, List.nodup_cons]
      exact h
    · rw [if_neg hk]
      simp only [List.map_cons, List.nodup_cons]
      refine ⟨fun hm => ?_, ih h.2⟩
      rcases (mput_keys m k x a).1 hm with e | e
      · exact hk e.symm
      · exact h.1 e
theorem mget_none {m : List (K × V)} {k : K} : mget m k = none ↔ k ∉ m.map (·.1) := by
  induction m with
  | nil => simp [mget]
  | cons p m ih =>
    obtain ⟨a, v⟩ := p
    simp only [mget, List.map_cons, List.mem_cons]
    by_cases h : k = a
    · simp [h]
    · simp [h, ih]
theorem mput_length (m : List (K × V)) (k : K) (x : V) : (mput m k x).length = m.length + if (mget m k).isSome then 0 else 1 := by
  induction m with
  | nil => simp [mput, mget]
  | cons p m ih =>
    obtain ⟨a, v⟩ := p
    simp only [mput, mget]
    by_cases h : k = a
    · simp [h]
    · simp [h, ih]; omega
end
theorem ba_ext {a b : ByteArray} (h : a.toList = b.toList) : a = b := by
  rw [ByteArray.toList_eq, ByteArray.toList_eq] at h
  obtain ⟨x⟩ := a
  obtain ⟨y⟩ := b
  congr 1
  exact Array.ext' h
theorem ba_beq (a b : ByteArray) : (a == b) = decide (a = b) := by
  rw [beq_toListBytes]
  by_cases h : a = b
  · subst h; simp
  · rw [decide_eq_false h, beq_eq_false_iff_ne]
    exact fun e => h (ba_ext e)
def ents (es : Array MapEntry) : List (Value × Value) := es.toList.map fun e => (e.key, e.val)
section
variable {K : Type} [DecidableEq K]
def mfind : List (K × Value) → K → Nat → Option (Nat × Value)
  | [], _, _ => none
  | (a, v) :: m, k, i => if k = a then some (i, v) else mfind m k (i + 1)
theorem mfind_val (m : List (K × Value)) (k : K) (i : Nat) : (mfind m k i).map (·.2) = mget m k := by
  induction m generalizing i with
  | nil => rfl
  | cons p m ih =>
    obtain ⟨a, v⟩ := p
    simp only [mfind, mget]
    split
    · rfl
    · exact ih (i + 1)
end
structure KeyK (P : Program) (kt : TypeId) (K : Type) [DecidableEq K] where
  kk : K → Value
  inj : ∀ {a b}, kk a = kk b → a = b
  fk : ∀ (w : World) (es : Array MapEntry) (m : List (K × Value)), ents es = m.map (fun p => (kk p.1, p.2)) → ∀ k, (Instr.findKey kt (kk k) es.toList).run P w = .ok (mfind m k 0) w
  bits : ∀ a, Instr.sameBits 10000 (kk a) (kk a) = true
  chk : ∀ (b : Bool) a w, (Instr.checkKey b 10000 kt (kk a)).run P w = .ok () w
theorem findNow_is {K : Type} [DecidableEq K] {kk : K → Value} {desc : TypeDesc} (same : ∀ a b, Instr.sameNow desc (kk a) (kk b) = some (decide (a = b))) (es : List MapEntry) (m : List (K × Value)) (h : es.map (fun e => (e.key, e.val)) = m.map (fun p => (kk p.1, p.2))) (k : K) (i : Nat) : Instr.findNow desc (kk k) es i = some (mfind m k i) := by
  induction m generalizing es i with
  | nil =>
    cases es with
    | nil => rfl
    | cons e es => simp at h
  | cons p m ih =>
    obtain ⟨a, v⟩ := p
    cases es with
    | nil => simp at h
    | cons e es =>
      simp only [List.map_cons, List.cons.injEq, Prod.mk.injEq] at h
      obtain ⟨⟨h1, h2⟩, h3⟩ := h
      simp only [Instr.findNow, h1, same, mfind]
      by_cases hk : k = a
      · simp [hk, h2]
      · simp [hk, ih es h3 (i + 1)]
theorem findKey_now {P : Program} {kt : TypeId} {K : Type} [DecidableEq K] {kk : K → Value} {desc : TypeDesc} (hu : P.underlying kt = some desc) (same : ∀ a b, Instr.sameNow desc (kk a) (kk b) = some (decide (a = b))) (w : World) (es : Array MapEntry) (m : List (K × Value)) (h : ents es = m.map (fun p => (kk p.1, p.2))) (k : K) : (Instr.findKey kt (kk k) es.toList).run P w = .ok (mfind m k 0) w := by
  have := findNow_is same es.toList m h k 0
  simp [Instr.findKey, run_underlying hu, this]
theorem inj_now {K : Type} [DecidableEq K] {kk : K → Value} {desc : TypeDesc} (same : ∀ a b, Instr.sameNow desc (kk a) (kk b) = some (decide (a = b))) {a b : K} (h : kk a = kk b) : a = b := by
  have h1 := same a b
  rw [← h, same a a] at h1
  simpa using h1
theorem same_str (a b : ByteArray) : Instr.sameNow .string (.string a) (.string b) = some (decide (a = b)) := by simp only [Instr.sameNow, ba_beq]
def keyStr {P : Program} {kt : TypeId} (h : P.underlying kt = some .string) : KeyK P kt ByteArray where
  kk := .string
  inj := inj_now same_str
  fk := findKey_now h same_str
  bits := fun a => by rw [show (10000 : Nat) = 9999 + 1 from rfl, Instr.sameBits, ba_beq]; simp
  chk := fun b a w => by rw [show (10000 : Nat) = 9999 + 1 from rfl, Instr.checkKey]; simp [run_underlying h]
section
variable {P : Program} {kt : TypeId} {K : Type} [DecidableEq K] (kd : KeyK P kt K)
def MapAt (kd : KeyK P kt K) (w : World) (r : Nat) (m : List (K × Value)) : Prop :=
  ∃ es clock, w.heap[r]? = some (.map es clock) ∧ ents es = m.map (fun p => (kd.kk p.1, p.2)) ∧ (m.map (·.1)).Nodup ∧ MapKept.Stamped es clock
theorem MapAt.move {kd : KeyK P kt K} {w w' : World} {r : Nat} {m : List (K × Value)} (h : MapAt kd w r m) (hm : w'.heap[r]? = w.heap[r]?) : MapAt kd w' r m := by
  obtain ⟨es, c, h1, h2, h3⟩ := h
  exact ⟨es, c, hm.trans h1, h2, h3⟩
theorem MapAt.lt {kd : KeyK P kt K} {w : World} {r : Nat} {m : List (K × Value)} (h : MapAt kd w r m) : r < w.heap.size := by
  obtain ⟨es, c, h1, _⟩ := h
  exact blk_lt h1
theorem MapAt.size {kd : KeyK P kt K} {w : World} {r : Nat} {m : List (K × Value)} (h : MapAt kd w r m) : ∃ es c, w.heap[r]? = some (.map es c) ∧ es.size = m.length := by
  obtain ⟨es, c, h1, h2, _⟩ := h
  refine ⟨es, c, h1, ?_⟩
  have := congrArg List.length h2
  simpa [ents] using this
theorem findKey_is (w : World) (es : Array MapEntry) (m : List (K × Value)) (h : ents es = m.map (fun p => (kd.kk p.1, p.2))) (k : K) : (Instr.findKey kt (kd.kk k) es.toList).run P w = .ok (mfind m k 0) w := kd.fk w es m h k
theorem mod_setObj (w : World) (r : Nat) (o : Obj) : Mod (fun k => k = r) w { w with heap := w.heap.setIfInBounds r o } :=
  ⟨rfl, rfl, rfl, by simp, fun k hk hn => by
    show (w.heap.setIfInBounds r o)[k]? = _
    rw [Array.getElem?_setIfInBounds_ne (fun e => hn e.symm)]⟩
theorem blk_setObj {w : World} {r : Nat} (o : Obj) (h : r < w.heap.size) : ({ w with heap := w.heap.setIfInBounds r o } : World).heap[r]? = some o := by
  show (w.heap.setIfInBounds r o)[r]? = _
  simp [h]
theorem ents_modify (es : Array MapEntry) (m : List (K × Value)) (h : ents es = m.map (fun p => (kd.kk p.1, p.2))) (k : K) (x : Value) {i : Nat} {v : Value} (hf : mfind m k 0 = some (i, v)) :
    ents (es.modify i fun e => { e with key := kd.kk k, val := x }) = (mput m k x).map (fun p => (kd.kk p.1, p.2)) ∧ (es[i]?).map (·.key) = some (kd.kk k) := by
  have gen : ∀ (m : List (K × Value)) (es : List MapEntry) (i j : Nat), es.map (fun e => (e.key, e.val)) = m.map (fun p => (kd.kk p.1, p.2)) → mfind m k j = some (i + j, v) →
      (es.modify i (fun e => { e with key := kd.kk k, val := x })).map (fun e => (e.key, e.val)) = (mput m k x).map (fun p => (kd.kk p.1, p.2)) ∧ (es[i]?).map (·.key) = some (kd.kk k) := by
    intro m
    induction m with
    | nil => intro es i j h hf; cases hf
    | cons p m ih =>
      obtain ⟨a, u⟩ := p
      intro es i j h hf
      cases es with
      | nil => simp at h
      | cons e es =>
        simp only [List.map_cons, List.cons.injEq, Prod.mk.injEq] at h
        obtain ⟨⟨h1, h2⟩, h3⟩ := h
        simp only [mfind] at hf
        simp only [mput]
        by_cases hk : k = a
        · subst hk
          rw [if_pos rfl] at hf ⊢
          injection hf with hf
          injection hf with hf _
          have hi : i = 0 := by omega
          subst hi
          simp [h1, h3]
        · rw [if_neg hk] at hf ⊢
          cases i with
          | zero =>
            have hge : ∀ (m : List (K × Value)) (j i : Nat) v, mfind m k j = some (i, v) → j ≤ i := by
              intro m
              induction m with
              | nil => intro j i v h; cases h
              | cons q m ih2 =>
                intro j i v h
                obtain ⟨b, u2⟩ := q
                simp only [mfind] at h
                split at h
                · injection h with h; injection h with h _; omega
                · have := ih2 _ _ _ h; omega
            have := hge _ _ _ _ hf
            omega
          | succ i =>
            have := ih es i (j + 1) h3 (by rw [hf]; congr 2; omega)
            simp only [List.modify_succ_cons, List.map_cons, List.getElem?_cons_succ, this.1, h1, h2]
            exact ⟨trivial, this.2⟩
  have := gen m es.toList i 0 h hf
  refine ⟨?_, by simpa using this.2⟩
  unfold ents
  rw [Array.toList_modify]
  exact this.1
theorem ents_push (es : Array MapEntry) (m : List (K × Value)) (h : ents es = m.map (fun p => (kd.kk p.1, p.2))) (k : K) (x : Value) (c : Nat) (hf : mfind m k 0 = none) :
    ents (es.push { key := kd.kk k, val := x, born := c }) = (mput m k x).map (fun p => (kd.kk p.1, p.2)) := by
  have gen : ∀ (m : List (K × Value)) j, mfind m k j = none → mput m k x = m ++ [(k, x)] := by
    intro m
    induction m with
    | nil => intro j _; rfl
    | cons p m ih =>
      obtain ⟨a, u⟩ := p
      intro j hf
      simp only [mfind] at hf
      split at hf
      · cases hf
      · rename_i hk
        simp only [mput]
        rw [if_neg hk, ih _ hf, List.cons_append]
  rw [gen m 0 hf, List.map_append, ← h]
  simp [ents]
theorem run_mapUpdate {w : World} {mt e : TypeId} (ht : P.underlying mt = some (.map kt e)) {r : Nat} {m : List (K × Value)} (h : MapAt kd w r m) (k : K) (x : Value) :
    ∃ w', (Instr.mapUpdate mt (.map (some r)) (kd.kk k) x).run P w = .ok () w' ∧ MapAt kd w' r (mput m k x) ∧ Mod (fun q => q = r) w w' := by
  obtain ⟨es, c, h1, h2, h3⟩ := h
  have hl := blk_lt h1
  have hf := findKey_is kd w es m h2 k
  have hg : (getObj r).run P w = .ok (.map es c) w := by simp [getObj, Sem.run, h1]
  have hs : ∀ o, (setObj r o).run P w = .ok () { w with heap := w.heap.setIfInBounds r o } := fun o => by simp [setObj, Sem.run, h1]
  unfold Instr.mapUpdate
  simp only [Sem.run_bind, run_underlying ht, Result.andThen_ok, hg, Sem.run_pure, kd.chk, hf]
  cases hm : mfind m k 0 with
  | none =>
    refine ⟨_, hs _, ⟨_, _, blk_setObj _ hl, ents_push kd es m h2 k x c hm, mput_nodup h3.1 k x, MapKept.stamped_push h3.2 (fun y hy e => ?_)⟩, mod_setObj _ _ _⟩
    have hin : (y.key, y.val) ∈ ents es := List.mem_map.2 ⟨y, hy, rfl⟩
    rw [h2] at hin
    obtain ⟨q, hq, hqe⟩ := List.mem_map.1 hin
    injection hqe with e1 e2
    have hk : q.1 = k := kd.inj (e1.trans e)
    have hv := mfind_val m k 0
    rw [hm] at hv
    exact mget_none.1 hv.symm (hk ▸ List.mem_map.2 ⟨q, hq, rfl⟩)
  | some p =>
    obtain ⟨i, v⟩ := p
    obtain ⟨q1, q2⟩ := ents_modify kd es m h2 k x hm
    have hk : (Instr.keyThatStays (((es[i]?).map (·.key)).getD (kd.kk k)) (kd.kk k)).run P w = .ok (kd.kk k) w := by
      rw [q2]
      simp [Instr.keyThatStays, kd.bits]
    simp only [Sem.run_bind, hk, Result.andThen_ok]
    exact ⟨_, hs _, ⟨_, _, blk_setObj _ hl, q1, mput_nodup h3.1 k x, MapKept.stamped_modify h3.2 i _ (fun _ _ => rfl) (fun y _ hy => by rw [hy] at q2; simp at q2; exact q2.symm)⟩, mod_setObj _ _ _⟩
theorem MapAt.made (kd : KeyK P kt K) (w : World) (c : Nat) : MapAt kd (w.alloc (.map #[] c)) w.heap.size [] := ⟨#[], c, heap_alloc_new w _, rfl, by simp, MapKept.stamped_empty c⟩
theorem wpList_mapUpdate {w : World} {ops : Array Oper} {rest : List Oper} {o : Oper} {a : Act} {Q : Exit → Act → World → Prop} (hgd : o.guard = none) (ma x v : Operand) (mt e : TypeId) (ho : o.op = Op.mapUpdate mt ma x v)
    (ht : P.underlying mt = some (.map kt e)) (r : Nat) (m : List (K × Value)) (hm : a.eval ma = .map (some r)) (h : MapAt kd w r m) (k : K) (hx : a.eval x = kd.kk k) (val : Value) (hv : a.eval v = val)
    (hK : ∀ w', MapAt kd w' r (mput m k val) → Mod (fun q => q = r) w w' → wpList P ops Q rest (a.put o.dst undef) w') : wpList P ops Q (o :: rest) a w := by
  refine wpList_plain hgd fun K' hK' => ?_
  obtain ⟨w', hr, h1, h2⟩ := run_mapUpdate kd ht h k val
  unfold Oper.wp
  simp [execOp, ho, hm, hx, hv, hr, Result.andThen]
  exact hK' _ _ (hK w' h1 h2)
def MapIt (kd : KeyK P kt K) (w : World) (r it : Nat) (m : List (K × Value)) (cnt : Nat) : Prop :=
  ∃ es clock since seen c0, w.heap[r]? = some (.map es clock) ∧ ents es = m.map (fun p => (kd.kk p.1, p.2)) ∧ MapKept.Stamped es clock ∧ w.heap[it]? = some (.mapIter (some r) since seen c0) ∧ (∀ x ∈ es.toList, x.born < since) ∧ (leftOf es seen).size = cnt ∧ since ≤ c0 ∧ since ≤ clock
theorem MapIt.move {kd : KeyK P kt K} {w w' : World} {r it cnt : Nat} {m : List (K × Value)} (h : MapIt kd w r it m cnt) (h1 : w'.heap[r]? = w.heap[r]?) (h2 : w'.heap[it]? = w.heap[it]?) : MapIt kd w' r it m cnt := by
  obtain ⟨es, clock, since, seen, c0, hb, h, hs, hr, rest⟩ := h
  exact ⟨es, clock, since, seen, c0, h1.trans hb, h, hs, h2.trans hr, rest⟩
theorem MapIt.at {kd : KeyK P kt K} {w : World} {r it cnt : Nat} {m : List (K × Value)} (h : MapIt kd w r it m cnt) (hn : (m.map (·.1)).Nodup) : MapAt kd w r m := by
  obtain ⟨es, clock, since, seen, c0, hb, h, hs, _⟩ := h
  exact ⟨es, clock, hb, h, hn, hs⟩
theorem MapIt.ne {kd : KeyK P kt K} {w : World} {r it cnt : Nat} {m : List (K × Value)} (h : MapIt kd w r it m cnt) : it ≠ r := by
  obtain ⟨es, clock, since, seen, c0, hb, _, _, hr, _⟩ := h
  intro e
  rw [e, hb] at hr
  cases hr
theorem MapIt.lt {kd : KeyK P kt K} {w : World} {r it cnt : Nat} {m : List (K × Value)} (h : MapIt kd w r it m cnt) : r < w.heap.size ∧ it < w.heap.size := by
  obtain ⟨es, clock, since, seen, c0, hb, _, _, hr, _⟩ := h
  exact ⟨blk_lt hb, blk_lt hr⟩
end
end Go.Proofs.YtckdofjpoajblaaGreat
namespace Go.Proofs.YtckdofjpoajblaaGreat
open Go.RowKit
set_option linter.unusedVariables false
def paint (c : Nat → Nat) (n j : Nat) : Nat → Nat := fun k => if k < n then c k else j
theorem paint_old {c : Nat → Nat} {n j k : Nat} (h : k < n) : paint c n j k = c k := if_pos h
theorem paint_new {c : Nat → Nat} {n j k : Nat} (h : n ≤ k) : paint c n j k = j := if_neg (by omega)
def Chg (j : Nat) (c : Nat → Nat) (w : World) (c' : Nat → Nat) (w' : World) : Prop := Mod (fun k => c k = j) w w' ∧ ∀ k, k < w.heap.size → c' k = c k
theorem Chg.trans {j : Nat} {c c' c'' : Nat → Nat} {w w' w'' : World} (h : Chg j c w c' w') (k : Chg j c' w' c'' w'') : Chg j c w c'' w'' :=
  ⟨h.1.then k.1 (fun i hi e => by rw [← h.2 i hi]; exact e), fun i hi => (k.2 i (by have := h.1.size; omega)).trans (h.2 i hi)⟩
theorem Chg.size {j : Nat} {c c' : Nat → Nat} {w w' : World} (h : Chg j c w c' w') : w.heap.size ≤ w'.heap.size := h.1.size
theorem Chg.refl (j : Nat) (c : Nat → Nat) (w : World) : Chg j c w c w := ⟨Mod.refl _ _, fun _ _ => rfl⟩
theorem Chg.mod {j : Nat} {c : Nat → Nat} {w w' : World} (i : Nat) (h : Mod (fun k => c k = j) w w') : Chg j c w (paint c w.heap.size i) w' := ⟨h, fun k hk => paint_old hk⟩
theorem Chg.below {c : Nat → Nat} {w w' : World} (j i : Nat) (h : Below w.heap.size w w') : Chg j c w (paint c w.heap.size i) w' := ⟨Mod.of_below_size h _, fun k hk => paint_old hk⟩
theorem Chg.alloc {c : Nat → Nat} {w : World} (j i : Nat) (o : Obj) : Chg j c w (paint c w.heap.size i) (w.alloc o) := .below j i ((Below.refl _ _).alloc (Nat.le_refl _) _)
theorem Chg.drew {j : Nat} {c c' : Nat → Nat} {w w' : World} (h : Chg j c w c' w') : Chg j c w c' w'.drew := ⟨h.1.drew, h.2⟩
theorem Chg.drewN {j : Nat} {c c' : Nat → Nat} {w w' : World} (h : Chg j c w c' w') (n : Nat) : Chg j c w c' (w'.drewN n) := ⟨h.1.drewN n, h.2⟩
theorem Chg.block {j : Nat} {c c' : Nat → Nat} {w w' : World} (h : Chg j c w c' w') {k : Nat} (hk : k < w.heap.size) (hj : c k ≠ j) : w'.heap[k]? = w.heap[k]? := h.1.block k hk hj
def Fr (base : Nat) (c : Nat → Nat) (W w : World) : Prop := base ≤ w.heap.size ∧ Below base W w ∧ ∀ k, k < base → c k = 0
theorem Fr.start (W : World) : Fr W.heap.size (fun _ => 0) W W := ⟨Nat.le_refl _, Below.refl _ _, fun _ _ => rfl⟩
theorem Fr.step {base j : Nat} {c c' : Nat → Nat} {W w w' : World} (h : Fr base c W w) (k : Chg j c w c' w') (hj : j ≠ 0) : Fr base c' W w' :=
  ⟨Nat.le_trans h.1 k.size, h.2.1.trans (k.1.below base h.1 (fun q hq e => hj (by rw [← e, h.2.2 q hq]))), fun q hq => (k.2 q (by have := h.1; omega)).trans (h.2.2 q hq)⟩
theorem Fr.below {base : Nat} {c : Nat → Nat} {W w : World} (h : Fr base c W w) : Below base W w := h.2.1
def RowC (w : World) (c : Nat → Nat) (j : Nat) (e sz : Nat) (A : Option Addr) (n cap : Nat) (cs : List Value) : Prop := Row w e sz A n cap cs ∧ ∀ a, A = some a → c a.block = j
theorem RowC.stay {i j e sz n cap : Nat} {A : Option Addr} {cs : List Value} {c c' : Nat → Nat} {w w' : World} (h : RowC w c i e sz A n cap cs) (k : Chg j c w c' w') (hij : i ≠ j) : RowC w' c' i e sz A n cap cs :=
  ⟨h.1.mod k.1 (fun a ha hj => hij ((h.2 a ha).symm.trans hj)), fun a ha => by subst ha; rw [k.2 _ h.1.lt]; exact h.2 a rfl⟩
theorem RowC.nil (w : World) (c : Nat → Nat) (j e sz : Nat) : RowC w c j e sz none 0 0 [] := ⟨Row.nil _ _ _, fun a h => (by cases h)⟩
theorem RowC.put {j e sz n cap n' cap' : Nat} {A A' : Option Addr} {cs cs' : List Value} {c : Nat → Nat} {w w' : World} (h : RowC w c j e sz A n cap cs)
    (hr : Row w' e sz A' n' cap' cs') (hm : Mod (fun k => ∃ a, A = some a ∧ k = a.block) w w') (hat : ∀ a', A' = some a' → (∃ a, A = some a ∧ a'.block = a.block) ∨ w.heap.size ≤ a'.block) :
    RowC w' (paint c w.heap.size j) j e sz A' n' cap' cs' ∧ Chg j c w (paint c w.heap.size j) w' :=
  ⟨⟨hr, fun a' ha' => by
    rcases hat a' ha' with ⟨a, h1, h2⟩ | h1
    · rw [h2, paint_old (by subst h1; exact h.1.lt)]; exact h.2 a h1
    · exact paint_new h1⟩, .mod j (hm.mono (fun k _ ⟨a, h1, h2⟩ => h2 ▸ h.2 a h1))⟩
def BlkC (w : World) (c : Nat → Nat) (j k : Nat) (o : Obj) : Prop := w.heap[k]? = some o ∧ c k = j
theorem BlkC.lt {w : World} {c : Nat → Nat} {j k : Nat} {o : Obj} (h : BlkC w c j k o) : k < w.heap.size := (Array.getElem?_eq_some_iff.1 h.1).1
theorem BlkC.stay {i j k : Nat} {o : Obj} {c c' : Nat → Nat} {w w' : World} (h : BlkC w c i k o) (s : Chg j c w c' w') (hij : i ≠ j) : BlkC w' c' i k o :=
  ⟨(s.block h.lt (fun e => hij (h.2.symm.trans e))).trans h.1, (s.2 k h.lt).trans h.2⟩
theorem BlkC.made (w : World) (c : Nat → Nat) (j : Nat) (o : Obj) : BlkC (w.alloc o) (paint c w.heap.size j) j w.heap.size o := ⟨heap_alloc_new w o, paint_new (Nat.le_refl _)⟩
theorem BlkC.cell {w : World} {c : Nat → Nat} {j g : Nat} {cur : Array Value} {e : TypeId} {fr : Nat × Nat} (h : BlkC w c j g (.cells cur e fr)) (o : Nat) : w.cell? ⟨g, o, none⟩ = cur[o]? := cell_blk h.1 o
theorem BlkC.free {w : World} {c : Nat → Nat} {j g : Nat} {cur : Array Value} {e : TypeId} (h : BlkC w c j g (.cells cur e (0, 0))) (o : Nat) : w.frozen? ⟨g, o, none⟩ = false := free_blk h.1 o
theorem BlkC.set {w : World} {c : Nat → Nat} {j g : Nat} {cur : Array Value} {e : TypeId} (h : BlkC w c j g (.cells cur e (0, 0))) (o : Nat) (v : Value) :
    BlkC (w.setCell ⟨g, o, none⟩ v) (paint c w.heap.size j) j g (.cells (cur.setIfInBounds o v) e (0, 0)) ∧ Chg j c w (paint c w.heap.size j) (w.setCell ⟨g, o, none⟩ v) :=
  ⟨⟨set_blk h.1 o v, (paint_old h.lt).trans h.2⟩, .mod j ((Mod.refl _ w).setCell (p := ⟨g, o, none⟩) (fun _ => h.2) v)⟩
section
variable {P : Program} {kt : TypeId} {K : Type} [DecidableEq K]
def MapC (kd : KeyK P kt K) (w : World) (c : Nat → Nat) (j r : Nat) (m : List (K × Value)) : Prop := MapAt kd w r m ∧ c r = j
variable {kd : KeyK P kt K}
theorem MapC.stay {i j r : Nat} {m : List (K × Value)} {c c' : Nat → Nat} {w w' : World} (h : MapC kd w c i r m) (s : Chg j c w c' w') (hij : i ≠ j) : MapC kd w' c' i r m :=
  ⟨h.1.move (s.block h.1.lt (fun e => hij (h.2.symm.trans e))), (s.2 r h.1.lt).trans h.2⟩
theorem MapC.put {j r : Nat} {m m' : List (K × Value)} {c : Nat → Nat} {w w' : World} (h : MapC kd w c j r m) (h' : MapAt kd w' r m') (hm : Mod (fun q => q = r) w w') :
    MapC kd w' (paint c w.heap.size j) j r m' ∧ Chg j c w (paint c w.heap.size j) w' :=
  ⟨⟨h', (paint_old h.1.lt).trans h.2⟩, .mod j (hm.mono (fun k _ e => e ▸ h.2))⟩
theorem MapC.made (kd : KeyK P kt K) (w : World) (c : Nat → Nat) (j n : Nat) : MapC kd (w.alloc (.map #[] n)) (paint c w.heap.size j) j w.heap.size [] := ⟨MapAt.made kd w n, paint_new (Nat.le_refl _)⟩
end
theorem RowC.set {w : World} {c : Nat → Nat} {j e sz g o n cap : Nat} {cs : List Value} (h : RowC w c j e sz (some ⟨g, o, none⟩) n cap cs) (q : Nat) (hq : q < n * sz) (v : Value) :
    RowC (w.setCell ⟨g, o + q, none⟩ v) (paint c w.heap.size j) j e sz (some ⟨g, o, none⟩) n cap (cs.set q v) ∧ Chg j c w (paint c w.heap.size j) (w.setCell ⟨g, o + q, none⟩ v) :=
  ⟨⟨h.1.set q hq v, fun a ha => by injection ha with ha; subst ha; rw [paint_old h.1.lt]; exact h.2 _ rfl⟩, .mod j ((Mod.refl _ w).setCell (p := ⟨g, o + q, none⟩) (fun _ => h.2 _ rfl) v)⟩
end Go.Proofs.YtckdofjpoajblaaGreat
namespace Go.Proofs.YtckdofjpoajblaaGreat
open Go.RowKit
set_option linter.unusedVariables false
def LvC (w : World) (c : Nat → Nat) (A : Option Addr) (cap : Nat) (L : List (List Ev)) : Prop :=
  ∃ vs : List Value, RowC w c 1 55 1 A L.length cap vs ∧ ∀ i, (hi : i < L.length) → ∃ A' c', vs[i]? = some (.slice A' L[i].length c') ∧ RowC w c (10 + i) 51 4 A' L[i].length c' (L[i].flatMap encE)
def LvOut (w : World) (L : List (List Ev)) (x : Ending) (w' : World) : Prop := ∃ A' cap', x = .returned (.slice A' L.length cap') ∧ LvAt w' w'.heap.size A' L ∧ Below w.heap.size w w'
theorem LvOut.nil {w w' : World} (h : Below w.heap.size w w') : LvOut w [] (.returned (.slice none 0 0)) w' := ⟨none, 0, rfl, ⟨[], ⟨rfl, fun h => by simp at h⟩, fun i hi => (by cases hi)⟩, h⟩
theorem LvC.nil (w : World) (c : Nat → Nat) : LvC w c none 0 [] := ⟨[], RowC.nil w c 1 55 1, fun i hi => (by cases hi)⟩
theorem LvC.stay {j cap : Nat} {A : Option Addr} {L : List (List Ev)} {c c' : Nat → Nat} {w w' : World} (h : LvC w c A cap L) (k : Chg j c w c' w') (h1 : j ≠ 1) (h2 : j < 10) : LvC w' c' A cap L := by
  obtain ⟨vs, hv, hin⟩ := h
  refine ⟨vs, hv.stay k (by omega), fun i hi => ?_⟩
  obtain ⟨A', c', e, r⟩ := hin i hi
  exact ⟨A', c', e, r.stay k (by omega)⟩
theorem Chg.heap {j : Nat} {c c' : Nat → Nat} {w w' w2 : World} (h : Chg j c w c' w') (e : w2.heap = w'.heap) (e1 : w2.os = w'.os) (e2 : w2.tape = w'.tape) (e3 : w2.output = w'.output) : Chg j c w c' w2 :=
  ⟨⟨e1.trans h.1.os, e2.trans h.1.tape, e3.trans h.1.output, by rw [e]; exact h.1.size, fun k hk hn => by rw [e]; exact h.1.block k hk hn⟩, h.2⟩
theorem LvC.heap {cap : Nat} {A : Option Addr} {L : List (List Ev)} {c : Nat → Nat} {w w' : World} (h : LvC w c A cap L) (e : w'.heap = w.heap) : LvC w' c A cap L := by
  obtain ⟨vs, hv, hin⟩ := h
  refine ⟨vs, ⟨hv.1.move (fun a _ => by rw [e]), hv.2⟩, fun i hi => ?_⟩
  obtain ⟨A', c', e', r⟩ := hin i hi
  exact ⟨A', c', e', r.1.move (fun a _ => by rw [e]), r.2⟩
theorem LvC.cell {cap : Nat} {A : Option Addr} {L : List (List Ev)} {c : Nat → Nat} {w : World} (h : LvC w c A cap L) (i : Nat) (hi : i < L.length) :
    ∃ g o A' c', A = some ⟨g, o, none⟩ ∧ g < w.heap.size ∧ c g = 1 ∧ w.cell? ⟨g, o + i, none⟩ = some (.slice A' L[i].length c') ∧ (∀ j, w.frozen? ⟨g, j, none⟩ = false) ∧ RowC w c (10 + i) 51 4 A' L[i].length c' (L[i].flatMap encE) ∧
      (∀ w1 c1 q', Chg (10 + i) c w c1 w1 → q'.length = L[i].length → RowC w1 c1 (10 + i) 51 4 A' q'.length c' (q'.flatMap encE) → LvC w1 c1 A cap (L.set i q')) := by
  obtain ⟨vs, hv, hin⟩ := h
  obtain ⟨g, o, rfl⟩ := hv.1.some_of_pos (by have := hv.1.2.1; omega)
  obtain ⟨A', c', e, r⟩ := hin i hi
  refine ⟨g, o, A', c', rfl, hv.1.lt, hv.2 _ rfl, ?_, fun j => hv.1.free j, r, fun w1 c1 q' k hq hr => ?_⟩
  · rw [hv.1.cell i (by omega), e]
  · refine ⟨vs, by rw [List.length_set]; exact hv.stay k (by omega), fun j hj => ?_⟩
    rw [List.length_set] at hj
    by_cases hji : j = i
    · subst hji
      refine ⟨A', c', ?_, ?_⟩
      · rw [e]; simp [hq]
      · simpa using hr
    · obtain ⟨A2, c2, e2, r2⟩ := hin j hj
      refine ⟨A2, c2, ?_, ?_⟩
      · rw [e2, List.getElem_set_ne (Ne.symm hji)]
      · rw [List.getElem_set_ne (Ne.symm hji)]; exact r2.stay k (by omega)
theorem LvC.snoc {cap cap' : Nat} {A A2 : Option Addr} {L : List (List Ev)} {c : Nat → Nat} {w w' : World} {vs : List Value} (hv : RowC w c 1 55 1 A L.length cap vs)
    (hin : ∀ i, (hi : i < L.length) → ∃ A' c', vs[i]? = some (.slice A' L[i].length c') ∧ RowC w c (10 + i) 51 4 A' L[i].length c' (L[i].flatMap encE))
    (hr : Row w' 55 1 A2 (L.length + 1) cap' (vs ++ [.slice none 0 0])) (hm : Mod (fun k => ∃ a, A = some a ∧ k = a.block) w w')
    (hat : ∀ a', A2 = some a' → (∃ a, A = some a ∧ a'.block = a.block) ∨ w.heap.size ≤ a'.block) :
    LvC w' (paint c w.heap.size 1) A2 cap' (L ++ [[]]) ∧ Chg 1 c w (paint c w.heap.size 1) w' := by
  have hl : vs.length = L.length := by have := hv.1.1; omega
  obtain ⟨h1, h2⟩ := RowC.put hv hr hm hat
  refine ⟨⟨vs ++ [.slice none 0 0], by rw [List.length_append]; exact h1, fun i hi => ?_⟩, h2⟩
  rw [List.length_append, List.length_singleton] at hi
  rcases Nat.lt_or_ge i L.length with h3 | h3
  · obtain ⟨A', c', e, r⟩ := hin i h3
    refine ⟨A', c', ?_, ?_⟩
    · rw [List.getElem?_append_left (by omega), e, List.getElem_append_left h3]
    · rw [List.getElem_append_left h3]; exact r.stay h2 (by omega)
  · obtain rfl : i = L.length := by omega
    refine ⟨none, 0, ?_, ?_⟩
    · rw [List.getElem?_append_right (by omega)]; simp [hl]
    · simp only [List.getElem_append_right (Nat.le_refl _), Nat.sub_self, List.getElem_cons_zero]; exact RowC.nil _ _ _ _ _
theorem LvC.put {i c' cap : Nat} {A A' : Option Addr} {L : List (List Ev)} {c c1 : Nat → Nat} {w w1 : World} (h : LvC w c A cap L) (hi : i < L.length) (k : Chg (10 + i) c w c1 w1) (q' : List Ev) (hr : RowC w1 c1 (10 + i) 51 4 A' q'.length c' (q'.flatMap encE)) :
    ∀ g o, A = some ⟨g, o, none⟩ → LvC (w1.setCell ⟨g, o + i, none⟩ (.slice A' q'.length c')) (paint c1 w1.heap.size 1) A cap (L.set i q') ∧ Chg 1 c1 w1 (paint c1 w1.heap.size 1) (w1.setCell ⟨g, o + i, none⟩ (.slice A' q'.length c')) := by
  intro g o hA
  subst hA
  obtain ⟨vs, hv, hin⟩ := h
  have hl : vs.length = L.length := by have := hv.1.1; omega
  obtain ⟨h1, h2⟩ := RowC.set (hv.stay k (by omega)) i (by omega) (.slice A' q'.length c')
  refine ⟨⟨_, by rw [List.length_set]; exact h1, fun j hj => ?_⟩, h2⟩
  rw [List.length_set] at hj
  by_cases hji : j = i
  · subst hji
    refine ⟨A', c', ?_, ?_⟩
    · rw [List.getElem?_set_self (by omega)]; simp
    · simpa using hr.stay h2 (by omega)
  · obtain ⟨A2, c2, e2, r2⟩ := hin j hj
    refine ⟨A2, c2, ?_, ?_⟩
    · rw [List.getElem?_set_ne (Ne.symm hji), e2, List.getElem_set_ne (Ne.symm hji)]
    · rw [List.getElem_set_ne (Ne.symm hji)]; exact (r2.stay k (by omega)).stay h2 (by omega)
theorem LvC.lv {cap : Nat} {A : Option Addr} {L : List (List Ev)} {c : Nat → Nat} {w : World} (h : LvC w c A cap L) : LvAt w w.heap.size A L := by
  obtain ⟨vs, hv, hin⟩ := h
  refine ⟨vs, hv.1.rd.toB, fun i hi => ?_⟩
  obtain ⟨A', c', e, r⟩ := hin i hi
  exact ⟨A', c', e, r.1.rd.toB, r.1.2.1, r.1.2.2.1⟩
namespace Fo
theorem levU_len (l : List Ev) : (levU l).length ≤ l.length :=
  snoc_ind (p := fun l => (levU l).length ≤ l.length) (Nat.le_refl _) (fun l e h => by
    rw [levU_snoc, addL_len (place_le _ _), List.length_append, List.length_singleton]
    split <;> omega) l
theorem mem_len {L : List (List Ev)} {q : List Ev} (h : q ∈ L) : q.length ≤ L.flatten.length := by
  induction L with
  | nil => cases h
  | cons a L ih =>
    rw [List.flatten_cons, List.length_append]
    rcases List.mem_cons.1 h with rfl | h
    · omega
    · have := ih h; omega
theorem levU_in (l : List Ev) (q : List Ev) (h : q ∈ levU l) : q.length ≤ l.length := by
  have := mem_len h
  rwa [(levU_flat l).length_eq] at this
theorem addL_in {L : List (List Ev)} {n : Nat} (e : Ev) (hn : n < L.length) : addL L n e = L.set n (L[n] ++ [e]) := by
  unfold addL
  rw [if_pos hn, List.getD_eq_getElem?_getD, List.getElem?_eq_getElem hn]
  rfl
theorem addL_end {L : List (List Ev)} (e : Ev) : addL L L.length e = (L ++ [[]]).set L.length ([] ++ [e]) := by
  unfold addL
  rw [if_neg (Nat.lt_irrefl _), List.set_append_right _ _ (Nat.le_refl _)]
  simp
theorem placeAt_hit {L : List (List Ev)} {e : Ev} {m : Nat} (hm : m < L.length) (h : (L[m].any fun x => dep x e) = true) : placeAt L e (m + 1) = m + 1 := by
  unfold placeAt
  rw [List.getD_eq_getElem?_getD, List.getElem?_eq_getElem hm, Option.getD_some, if_pos h]
theorem placeAt_miss {L : List (List Ev)} {e : Ev} {m : Nat} (hm : m < L.length) (h : (L[m].any fun x => dep x e) = false) : placeAt L e (m + 1) = placeAt L e m := by
  conv => lhs; unfold placeAt
  rw [List.getD_eq_getElem?_getD, List.getElem?_eq_getElem hm, Option.getD_some, if_neg (by rw [h]; simp)]
def part (L : List (List Ev)) (i : Nat) : List (List Ev) := (L.take i).map sortT ++ L.drop i
theorem part_len (L : List (List Ev)) (i : Nat) : (part L i).length = L.length := by unfold part; simp; omega
theorem part_zero (L : List (List Ev)) : part L 0 = L := by unfold part; simp
theorem part_all (L : List (List Ev)) : part L L.length = L.map sortT := by unfold part; simp
theorem part_get (L : List (List Ev)) (i : Nat) (hi : i < L.length) : (part L i)[i]'(by rw [part_len]; exact hi) = L[i] := by
  unfold part
  rw [List.getElem_append_right (by simp; omega)]
  simp [Nat.min_eq_left (Nat.le_of_lt hi)]
theorem part_set (L : List (List Ev)) (i : Nat) (hi : i < L.length) : (part L i).set i (sortT L[i]) = part L (i + 1) := by
  have h1 : (List.map sortT (L.take i)).length = i := by simp; omega
  unfold part
  rw [List.set_append_right _ _ (by omega), h1, Nat.sub_self, List.take_add_one, List.getElem?_eq_getElem hi, List.drop_eq_getElem_cons hi, List.set_cons_zero, List.map_append, List.append_assoc]
  rfl
theorem four {q : List Ev} (hd : q.Pairwise (fun a b => a.t ≠ b.t)) (hr : ∀ e ∈ q, 0 ≤ e.t ∧ e.t ≤ 3) : q.length ≤ 4 := by
  have hs := sortT_sorted q
  have hp := sortT_perm q
  have hd' : (sortT q).Pairwise (fun a b => a.t ≠ b.t) := (hp.pairwise_iff (fun {a b} h => Ne.symm h)).2 hd
  have hr' : ∀ e ∈ sortT q, 0 ≤ e.t ∧ e.t ≤ 3 := fun e he => hr e (hp.mem_iff.1 he)
  rw [← hp.length_eq]
  generalize sortT q = s at hs hd' hr'
  rcases Nat.lt_or_ge 4 s.length with h | h
  · exfalso
    unfold SortedT at hs
    rw [List.pairwise_iff_getElem] at hs hd'
    have a0 := hr' s[0] (List.getElem_mem _)
    have a4 := hr' s[4] (List.getElem_mem _)
    have b0 := hs 0 1 (by omega) (by omega) (by omega)
    have b1 := hs 1 2 (by omega) (by omega) (by omega)
    have b2 := hs 2 3 (by omega) (by omega) (by omega)
    have b3 := hs 3 4 (by omega) (by omega) (by omega)
    have c0 := hd' 0 1 (by omega) (by omega) (by omega)
    have c1 := hd' 1 2 (by omega) (by omega) (by omega)
    have c2 := hd' 2 3 (by omega) (by omega) (by omega)
    have c3 := hd' 3 4 (by omega) (by omega) (by omega)
    omega
  · exact h
theorem right_thr {e : Ev} (h : right e = true) : 0 ≤ e.t ∧ e.t ≤ 3 := by
  unfold right at h
  simp only [decide_eq_true_eq] at h
  exact ⟨h.1, h.2.1⟩
theorem level_four {l : List Ev} (hr : rights l = true) (i : Nat) (hi : i < (levU l).length) : (levU l)[i].length ≤ 4 := by
  have hap := (levU_lev l).apart i
  rw [List.getD_eq_getElem?_getD, List.getElem?_eq_getElem hi, Option.getD_some] at hap
  refine four (apart_threads hap) (fun e he => right_thr ?_)
  have : e ∈ (levU l).flatten := List.mem_flatten.2 ⟨_, List.getElem_mem hi, he⟩
  rw [(levU_flat l).mem_iff] at this
  exact List.all_eq_true.1 hr e this
theorem level_sort {l : List Ev} (i : Nat) (hi : i < (levU l).length) {q' : List Ev} (hp : q'.Perm (levU l)[i]) (hs : SortedT q') : q' = sortT (levU l)[i] := by
  have hap := lev_apart l i
  rw [lev_getD, List.getD_eq_getElem?_getD, List.getElem?_eq_getElem hi, Option.getD_some] at hap
  exact (sorted_one ((sortT_perm _).trans hp.symm) (sortT_sorted _) hs (apart_threads hap)).symm
theorem level_ne {l : List Ev} (i : Nat) (hi : i < (levU l).length) : 0 < (levU l)[i].length := by
  have := (levU_lev l).ne i hi
  rw [List.getD_eq_getElem?_getD, List.getElem?_eq_getElem hi, Option.getD_some] at this
  exact List.length_pos_iff.2 this
end Fo
end Go.Proofs.YtckdofjpoajblaaGreat
namespace Go.Proofs.YtckdofjpoajblaaGreat
open Go.RowKit
set_option linter.unusedVariables false
namespace Fo
theorem lev_in_len (l : List Ev) (q : List Ev) (h : q ∈ lev l) : q.length ≤ l.length := by
  have := mem_len h
  rwa [(lev_flat l).length_eq] at this
theorem lev_len_le (l : List Ev) : (lev l).length ≤ l.length := by rw [lev_len]; exact levU_len l
end Fo
def repaint (c : Nat → Nat) (i j : Nat) : Nat → Nat := fun k => if c k = i then j else c k
theorem RowC.re {w : World} {c : Nat → Nat} {i e sz n cap : Nat} {A : Option Addr} {cs : List Value} (h : RowC w c i e sz A n cap cs) (j : Nat) : RowC w (repaint c i j) j e sz A n cap cs :=
  ⟨h.1, fun a ha => by unfold repaint; rw [if_pos (h.2 a ha)]⟩
theorem RowC.re_ne {w : World} {c : Nat → Nat} {i k e sz n cap : Nat} {A : Option Addr} {cs : List Value} (h : RowC w c k e sz A n cap cs) (hk : k ≠ i) (j : Nat) : RowC w (repaint c i j) k e sz A n cap cs :=
  ⟨h.1, fun a ha => by unfold repaint; rw [h.2 a ha, if_neg hk]⟩
theorem LvC.re {w : World} {c : Nat → Nat} {cap : Nat} {A : Option Addr} {L : List (List Ev)} (h : LvC w c A cap L) {i : Nat} (h1 : i ≠ 1) (h2 : i < 10) (j : Nat) : LvC w (repaint c i j) A cap L := by
  obtain ⟨vs, hv, hin⟩ := h
  refine ⟨vs, hv.re_ne (Ne.symm h1) j, fun k hk => ?_⟩
  obtain ⟨A', c', e, r⟩ := hin k hk
  exact ⟨A', c', e, r.re_ne (by omega) j⟩
theorem Fr.re {base : Nat} {c : Nat → Nat} {W w : World} (h : Fr base c W w) {i : Nat} (hi : i ≠ 0) (j : Nat) : Fr base (repaint c i j) W w :=
  ⟨h.1, h.2.1, fun k hk => by unfold repaint; rw [h.2.2 k hk, if_neg (Ne.symm hi)]⟩
end Go.Proofs.YtckdofjpoajblaaGreat
namespace Go.Proofs.YtckdofjpoajblaaGreat
open Go.RowKit
set_option linter.unusedVariables false
end Go.Proofs.YtckdofjpoajblaaGreat
namespace Go.Proofs.YtckdofjpoajblaaGreat
open Go.RowKit
set_option linter.unusedVariables false
theorem grow_any (n : Nat) (w : World) (hlim : n ≤ 1000000) :
    Calls Tryz.prog 215 #[.slice none 0 0, .int .i64 n] w fun x w' => ∃ A cap, x = .returned (.slice A 0 cap) ∧ Row w' 51 4 A 0 cap [] ∧ Below w.heap.size w w' ∧ ∀ a, A = some a → w.heap.size ≤ a.block := by
  obtain ⟨i0, hi0, hz0, hz1, hz2⟩ := info_parts Tryz.infoEv
  have k1 : ¬ ((n : Int) < 0) := by omega
  rcases Nat.eq_zero_or_pos n with h0 | h0
  · subst h0
    clear k1
    go_enter Tryz.func215, Tryz.ntmps215
    go_wp2_with fail
    go_ret
    exact ⟨none, 0, rfl, Row.nil _ _ _, Below.refl _ _, fun a h => (by cases h)⟩
  · have k2 : (0 : Int) < (n : Int) := by omega
    have happ := fun ty => Lib.run_append_nil_zeros (P := Tryz.prog) w 55 3 ty 51 i0 _ .i64 .i64 Tryz.underlying55 Tryz.underlying3 hi0 hz0 n h0 (by omega) (by omega) (by rw [hz2]; omega)
    have hcapge : n ≤ grownCap w n 0 51 := grownCap_ge w _ 0 _
    have hcaple : grownCap w n 0 51 ≤ maxLen := grownCap_le_maxLen w _ 0 _ (by unfold maxLen; omega)
    generalize grownCap w n 0 51 = cap2 at happ hcapge hcaple
    have hZs : (Builtin.zeroCells (Value.agg #[Value.int .i64 0, Value.int .i64 0, Value.int .i64 0, Value.bool false]).cells n ++ Builtin.zeroCells (Value.agg #[Value.int .i64 0, Value.int .i64 0, Value.int .i64 0, Value.bool false]).cells (cap2 - n)).size = cap2 * 4 := by
      simp [size_zeroCells, Value.cells]; omega
    generalize (Builtin.zeroCells (Value.agg #[Value.int .i64 0, Value.int .i64 0, Value.int .i64 0, Value.bool false]).cells n ++ Builtin.zeroCells (Value.agg #[Value.int .i64 0, Value.int .i64 0, Value.int .i64 0, Value.bool false]).cells (cap2 - n)) = Z at happ hZs
    go_enter Tryz.func215, Tryz.ntmps215
    go_wp2_with (at_builtin; refine Lib.wpList_append_run _ rfl _ _ _ _ rfl _ _ rfl rfl _ _ (happ _) ?_)
    go_ret
    exact ⟨some ⟨w.heap.size, 0, none⟩, cap2, rfl, ⟨rfl, Nat.zero_le _, hcaple, fun h => (by cases h), fun a ha => by injection ha with ha; subst ha; exact ⟨rfl, Z, heap_alloc_new w.drew _, by simp; omega, by simp⟩⟩, ⟨rfl, rfl, rfl, by simp, fun k hk => Below.heap_alloc w _ k hk⟩, fun a ha => by injection ha with ha; subst ha; exact Nat.le_refl _⟩
def RowOut (w : World) (l : List Ev) (x : Ending) (w' : World) : Prop := ∃ A' cap', x = .returned (.slice A' l.length cap') ∧ (Rd w' 4 A' l.length (l.flatMap encE) ∧ l.length ≤ cap' ∧ cap' ≤ maxLen) ∧ Below w.heap.size w w'
def sumN (L : List (List Ev)) (k : Nat) : Nat := (L.take k).flatten.length
theorem sumN_zero (L : List (List Ev)) : sumN L 0 = 0 := rfl
theorem sumN_succ {L : List (List Ev)} {k : Nat} (hk : k < L.length) : sumN L (k + 1) = sumN L k + L[k].length := by
  unfold sumN
  rw [List.take_add_one, List.getElem?_eq_getElem hk, List.flatten_append, List.length_append]
  simp
theorem sumN_le (L : List (List Ev)) (k : Nat) : sumN L k ≤ L.flatten.length := by
  unfold sumN
  conv => rhs; rw [← List.take_append_drop k L, List.flatten_append, List.length_append]
  omega
def rowN (L : List (List Ev)) (k : Nat) : List Ev := (L.take k).flatten
theorem rowN_succ {L : List (List Ev)} {k : Nat} (hk : k < L.length) : rowN L (k + 1) = rowN L k ++ L[k] := by
  unfold rowN
  rw [List.take_add_one, List.getElem?_eq_getElem hk, List.flatten_append]
  simp
theorem rowN_all (L : List (List Ev)) : rowN L L.length = L.flatten := by unfold rowN; rw [List.take_length]
theorem rowN_len (L : List (List Ev)) (k : Nat) : (rowN L k).length = sumN L k := rfl
theorem enc_one (l : List Ev) : ∀ u ∈ l.flatMap encE, u.oneCell' = true := fun u hu => by
  obtain ⟨e, _, he⟩ := List.mem_flatMap.1 hu
  simp only [encE, List.mem_cons, List.not_mem_nil, or_false] at he
  rcases he with rfl | rfl | rfl | rfl <;> rfl
theorem acc_rd {w wr w1 : World} {A A' : Option Addr} (hA : ∀ a, A = some a → w.heap.size ≤ a.block) (hb : Below w.heap.size w wr)
    (hm : Mod (fun k => ∃ a, A = some a ∧ k = a.block) wr w1) (hat : ∀ a', A' = some a' → (∃ a, A = some a ∧ a'.block = a.block) ∨ wr.heap.size ≤ a'.block) :
    (∀ a, A' = some a → w.heap.size ≤ a.block) ∧ Below w.heap.size w w1 := by
  have z := hb.size
  refine ⟨fun a ha => ?_, hb.trans (hm.below _ z (fun k hk ⟨a, h1, h2⟩ => by have := hA a h1; omega))⟩
  rcases hat a ha with ⟨b, h1, h2⟩ | h
  · rw [h2]; exact hA b h1
  · omega
set_option maxRecDepth 100000 in
set_option maxHeartbeats 2000000 in
theorem concat_any (w : World) (A : Option Addr) (cap : Nat) (L : List (List Ev)) (h : LvAt w w.heap.size A L) (hl : L.length ≤ 1000000) (ht : L.flatten.length ≤ 1000000) :
    Calls Tryz.prog 187 #[.slice A L.length cap] w (RowOut w L.flatten) := by
  obtain ⟨i0, hi0, hz0, hz1, hz2⟩ := info_parts Tryz.infoEv
  have HC := Lib.hid h.cell
  have hS : ∀ k, sumN L k ≤ 1000000 := fun k => Nat.le_trans (sumN_le L k) ht
  have hs0 := sumN_zero L
  have hs1 : ∀ k, (hk : k < L.length) → sumN L (k + 1) = sumN L k + L[k].length := fun k hk => sumN_succ hk
  have hr1 : ∀ k, (hk : k < L.length) → rowN L (k + 1) = rowN L k ++ L[k] := fun k hk => rowN_succ hk
  have hrl : ∀ k, (rowN L k).length = sumN L k := fun k => rowN_len L k
  have hr0 : rowN L 0 = [] := rfl
  have hra := rowN_all L
  generalize L.flatten = R at *
  generalize sumN L = S at *
  generalize rowN L = T at *
  have HS := Lib.hid hS
  have HS0 := Lib.hid hs0
  have HS1 := Lib.hid hs1
  have HR1 := Lib.hid hr1
  have HRL := Lib.hid hrl
  have HR0 := Lib.hid hr0
  have HRA := Lib.hid hra
  clear h hS hs0 hs1 hr1 hrl hr0 hra ht
  go_enter Tryz.func187, Tryz.ntmps187
  go_wp2_with fail
  go_loopw [3, 11] (fun v3 v11 wr => ∃ k : Nat, k ≤ L.length ∧ v11 = .int .i64 k ∧ v3 = .int .i64 (S k) ∧ w = wr) (fun _ v11 _ => L.length - (intOf v11).toNat)
  case atStart => exact ⟨0, Nat.zero_le _, rfl, by rw [HS0.out]; rfl, rfl⟩
  case round =>
    obtain ⟨k, hk, rfl, rfl, rfl⟩ := hrel
    by_cases hlt : k < L.length
    · obtain ⟨g, o, A', c', rfl, hg, _, hcl⟩ := HC.out k hlt
      have q0 := hcl w (Below.refl _ _)
      have k1 : (0 : Int) ≤ (k : Int) := Int.natCast_nonneg _
      have k2 : (k : Int) < (L.length : Int) := by omega
      have hs := HS1.out k hlt
      have hle := HS.out (k + 1)
      rw [hs] at hle
      generalize L[k].length = m at q0 hs hle
      generalize S k = sk at hs hle
      have k3 : ¬ ((sk : Int) + (m : Int) < 0) := by omega
      have HS2 := Lib.hid hs
      clear hcl hs
      go_wp2_with fail
      go_roundw
      case rel => exact ⟨k + 1, by omega, by go_num, by rw [HS2.out]; go_num, by trivial⟩
      case measure => simp [intOf]; omega
    · have hkn : k = L.length := by omega
      have HK := Lib.hid hkn
      have hgrow := grow_any (S k) w (HS.out k)
      generalize S k = sk at *
      have HG := Lib.hid hgrow
      clear hkn hgrow
      go_wp2_with fail
      refine HG.out.mono ?_
      rintro x w1 ⟨A6, cap6, rfl, hrow, hb, hfr⟩
      have HROW := Lib.hid hrow
      have HB := Lib.hid hb
      have HFR := Lib.hid hfr
      clear hrow hb hfr
      go_wp2_with fail
      go_loopw [6, 27] (fun v6 v27 wr => ∃ (k : Nat) (A' : Option Addr) (cap' : Nat), k ≤ L.length ∧ v27 = .int .i64 k ∧ v6 = .slice A' (T k).length cap' ∧ Hid (Row wr 51 4 A' (T k).length cap' ((T k).flatMap encE)) ∧ Hid (∀ a, A' = some a → w.heap.size ≤ a.block) ∧ Below w.heap.size w wr) (fun _ v27 _ => L.length - (intOf v27).toNat)
      case atStart => exact ⟨0, A6, cap6, Nat.zero_le _, rfl, by rw [HR0.out]; rfl, by rw [HR0.out]; exact HROW, HFR, HB.out⟩
      case round =>
        obtain ⟨k, A7, cap7, hk, rfl, rfl, HRW, HAT, hbw⟩ := hrel
        by_cases hlt : k < L.length
        · obtain ⟨g, o, A', c', rfl, hg, hrd, hcl⟩ := HC.out k hlt
          have q0 := hcl wr hbw
          have k1 : (0 : Int) ≤ (k : Int) := Int.natCast_nonneg _
          have k2 : (k : Int) < (L.length : Int) := by omega
          have hr := HR1.out k hlt
          have hle := HS.out (k + 1)
          rw [← HRL.out, hr, List.length_append] at hle
          have hrd2 : Rd wr 4 A' L[k].length (L[k].flatMap encE) := (hrd.below hbw).mono hbw.size
          generalize L[k] = q at q0 hr hle hrd2
          generalize T k = t at *
          have HR2 := Lib.hid hr
          have HRD := Lib.hid hrd2
          have HBW := Lib.hid hbw
          clear hcl hr hrd hrd2 hbw
          go_wp2_with (at_builtin; refine wpList_append_rd (by rfl) _ _ _ (by rfl) 51 i0 _ 4 32 Tryz.underlying55 hi0 hz0 hz1 hz2 rfl (by omega) A7 t.length cap7 (t.flatMap encE) (by rfl) HRW.out A' q.length c' (q.flatMap encE) (by rfl) HRD.out (enc_one q) (by unfold maxLen; omega) (by omega) ?_; intro A8 cap8 w8 hown hm hat; skip)
          obtain ⟨z1, z2⟩ := acc_rd HAT.out HBW.out hm hat
          have hz : (t ++ q).length = t.length + q.length := List.length_append
          have hown2 : Row w8 51 4 A8 (t ++ q).length cap8 ((t ++ q).flatMap encE) := by rw [hz, List.flatMap_append]; exact hown
          have HZ := Lib.hid hz
          clear hz
          go_roundw
          case rel => exact ⟨k + 1, A8, cap8, by omega, by go_num, by rw [HR2.out, HZ.out], by rw [HR2.out]; exact Lib.hid hown2, Lib.hid z1, z2⟩
          case measure => simp [intOf]; omega
        · have hkn : k = L.length := by omega
          have HK2 := Lib.hid hkn
          have HBW := Lib.hid hbw
          clear hkn hbw
          go_wp2_with fail
          go_ret
          refine ⟨A7, cap7, by rw [HK2.out, HRA.out]; rfl, ?_, HBW.out⟩
          have := (⟨HRW.out.rd, HRW.out.2.1, HRW.out.2.2.1⟩ : _ ∧ _ ∧ _)
          rw [HK2.out, HRA.out] at this
          exact this
theorem frow_any (w : World) (A : Option Addr) (cap : Nat) (L : List (List Ev)) (h : LvAt w w.heap.size A L) (hl : L.length ≤ 1000000) (ht : L.flatten.length ≤ 1000000) :
    Calls Tryz.prog 140 #[.slice A L.length cap] w (RowOut w L.flatten) := by
  have hc := concat_any w A cap L h hl ht
  generalize L.flatten = R at *
  have HC := Lib.hid hc
  clear h hc ht
  go_enter Tryz.func140, Tryz.ntmps140
  go_wp2_with fail
  refine HC.out.mono ?_
  rintro x w1 ⟨A', cap', rfl, hr, hb⟩
  have HR := Lib.hid hr
  have HB := Lib.hid hb
  clear hr hb
  go_wp2_with fail
  go_ret
  exact ⟨A', cap', rfl, HR.out, HB.out⟩
end Go.Proofs.YtckdofjpoajblaaGreat
namespace Go.Proofs.YtckdofjpoajblaaGreat
open Go.RowKit
set_option linter.unusedVariables false
set_option maxRecDepth 100000 in
set_option maxHeartbeats 1000000 in
theorem equal_any (w : World) (A : Option Addr) (cap : Nat) (a : List Ev) (B : Option Addr) (cap' : Nat) (b : List Ev) (ha : Rd w 4 A a.length (a.flatMap encE)) (hb : Rd w 4 B b.length (b.flatMap encE)) (hl : a.length < 4611686018427387904) :
    Calls Tryz.prog 142 #[.slice A a.length cap, .slice B b.length cap'] w fun x w' => x = .returned (.bool (decide (a = b))) ∧ Below w.heap.size w w' := by
  have HC := Lib.hid (evs_cell ha.toB)
  have HD := Lib.hid (evs_cell hb.toB)
  clear ha hb
  by_cases hlen : a.length = b.length
  · have hlen' : b.length = a.length := hlen.symm
    rw [hlen']
    have HL := Lib.hid hlen
    clear hlen hlen'
    go_enter Tryz.func142, Tryz.ntmps142
    go_wp2_with fail
    go_loopw [13] (fun v wr => ∃ k : Nat, k ≤ a.length ∧ v = .int .i64 k ∧ Hid (a.take k = b.take k) ∧ Below w.heap.size w wr) (fun v _ => a.length - (intOf v).toNat)
    case atStart => exact ⟨0, Nat.zero_le _, rfl, Lib.hid rfl, Below.refl _ _⟩
    case round =>
      obtain ⟨k, hk, rfl, HRT, hbw⟩ := hrel
      by_cases hlt : k < a.length
      · obtain ⟨g, o, rfl, hg, hcl⟩ := HC.out k hlt
        obtain ⟨g', o', rfl, hg', hcl'⟩ := HD.out k (by have := HL.out; omega)
        obtain ⟨v0, v1, v2, v3⟩ := hcl wr hbw
        obtain ⟨u0, u1, u2, u3⟩ := hcl' wr hbw
        have k1 : (0 : Int) ≤ (k : Int) := Int.natCast_nonneg _
        have k2 : (k : Int) < (a.length : Int) := by omega
        have heq : ∀ w, _ := evEq a[k] (b[k]'(by have := HL.out; omega))
        have htk : a.take (k + 1) = a.take k ++ [a[k]] := by rw [List.take_add_one, List.getElem?_eq_getElem hlt]; rfl
        have htk' : b.take (k + 1) = b.take k ++ [b[k]'(by have := HL.out; omega)] := by rw [List.take_add_one, List.getElem?_eq_getElem (by have := HL.out; omega)]; rfl
        have hne : a[k] ≠ b[k]'(by have := HL.out; omega) → a ≠ b := fun h e => h (by subst e; rfl)
        generalize a[k] = x at *
        generalize b[k]'(by have := HL.out; omega) = y at *
        have lg : g < wr.heap.size := by have := hbw.size; omega
        have lg' : g' < wr.heap.size := by have := hbw.size; omega
        have HTK := Lib.hid htk
        have HTK' := Lib.hid htk'
        have HNE := Lib.hid hne
        have HBW := Lib.hid hbw
        have hgd := evGuard
        clear htk htk' hne hcl hcl' hbw
        go_wp2_with fail
        refine wp_region_plan (by kernel_rfl) (fun u => Mod (fun _ => False) wr u) [] [(0, .pure), (1, .pure), (2, .pure), (3, .load), (4, .pure), (5, .pure), (6, .pure), (7, .load), (8, .pure)] (by simp only [List.map_cons, List.map_nil, List.getElem?_toArray, List.getElem?_cons_succ, List.getElem?_cons_zero]; rfl) (by kernel_rfl) (fun _ _ d _ _ h => by cases d <;> exact h) ((Mod.refl _ _).drew) ?_
        repeat (first
          | (refine plan_pure (v := ?_) (by rfl) (fun w1 => ?_) ?_
             rotate_left
             · go_simp <;> with_reducible rfl
             simp only [Act.put, List.setIfInBounds_toArray, List.set_cons_zero, List.set_cons_succ])
          | (refine plan_off (by rfl) ?_
             simp only [Act.put, List.setIfInBounds_toArray, List.set_cons_zero, List.set_cons_succ])
          | (refine plan_load_off (by rfl) ?_
             simp only [Act.put, List.setIfInBounds_toArray, List.set_cons_zero, List.set_cons_succ])
          | (refine plan_load (v := ?_) (by rfl) (fun w1 hw1 => ?_) ?_
             rotate_left
             · (have q0 := (hw1.cell g (o + k * 4) lg id).trans v0
                have q1 := (hw1.cell g (o + k * 4 + 1) lg id).trans v1
                have q2 := (hw1.cell g (o + k * 4 + 2) lg id).trans v2
                have q3 := (hw1.cell g (o + k * 4 + 3) lg id).trans v3
                have p0 := (hw1.cell g' (o' + k * 4) lg' id).trans u0
                have p1 := (hw1.cell g' (o' + k * 4 + 1) lg' id).trans u1
                have p2 := (hw1.cell g' (o' + k * 4 + 2) lg' id).trans u2
                have p3 := (hw1.cell g' (o' + k * 4 + 3) lg' id).trans u3
                clear hw1
                go_simp <;> with_reducible rfl)
             simp only [Act.put, List.setIfInBounds_toArray, List.set_cons_zero, List.set_cons_succ]))
        refine plan_end ?_
        by_cases hxy : x = y
        · have hd : decide (x = y) = true := decide_eq_true hxy
          rw [hd]
          have HXY := Lib.hid hxy
          clear hxy hd heq
          go_wp2_with fail
          go_roundw
          case rel => exact ⟨k + 1, by omega, by go_num, Lib.hid (by rw [HTK.out, HTK'.out, HRT.out, HXY.out]), HBW.out.trans ⟨rfl, rfl, rfl, Nat.le_refl _, fun _ _ => rfl⟩⟩
          case measure => simp [intOf]; omega
        · have hd : decide (x = y) = false := decide_eq_false hxy
          rw [hd]
          have HXY := Lib.hid hxy
          clear hxy hd heq
          go_wp2_with fail
          go_ret
          exact ⟨by rw [decide_eq_false (HNE.out HXY.out)]; rfl, HBW.out.trans ⟨rfl, rfl, rfl, Nat.le_refl _, fun _ _ => rfl⟩⟩
      · have hkn : k = a.length := by omega
        have HK := Lib.hid hkn
        have HBW := Lib.hid hbw
        clear hkn hbw
        go_wp2_with fail
        go_ret
        have h1 := HRT.out
        rw [HK.out, List.take_length, HL.out, List.take_length] at h1
        exact ⟨by rw [decide_eq_true h1]; rfl, HBW.out⟩
  · have hlen' : ¬ ((a.length : Int) = (b.length : Int)) := by omega
    have e1 : ((a.length : Int) == (b.length : Int)) = false := by simpa using hlen'
    have hne : a ≠ b := fun e => hlen (by rw [e])
    have HNE := Lib.hid hne
    clear hlen hlen' hne
    go_enter Tryz.func142, Tryz.ntmps142
    go_wp2_with fail
    go_ret
    exact ⟨by rw [decide_eq_false HNE.out]; rfl, Below.refl _ _⟩
set_option maxRecDepth 100000 in
set_option maxHeartbeats 2000000 in
theorem equalFunc_any (w : World) (A : Option Addr) (cap : Nat) (a : List (List Ev)) (B : Option Addr) (cap' : Nat) (b : List (List Ev)) (ha : LvAt w w.heap.size A a) (hb : LvAt w w.heap.size B b) (hl : a.length < 4611686018427387904) (hq : ∀ q ∈ a, q.length < 4611686018427387904) :
    Calls Tryz.prog 141 #[.slice A a.length cap, .slice B b.length cap', .func (.func 142) #[] #[]] w fun x w' => x = .returned (.bool (decide (a = b))) ∧ Below w.heap.size w w' := by
  have HC := Lib.hid ha.cell
  have HD := Lib.hid hb.cell
  have HQ := Lib.hid hq
  clear ha hb hq
  by_cases hlen : a.length = b.length
  · have hlen' : b.length = a.length := hlen.symm
    rw [hlen']
    have HL := Lib.hid hlen
    clear hlen hlen'
    go_enter Tryz.func141, Tryz.ntmps141
    go_wp2_with fail
    go_loopw [17] (fun v wr => ∃ k : Nat, k ≤ a.length ∧ v = .int .i64 k ∧ Hid (a.take k = b.take k) ∧ Below w.heap.size w wr) (fun v _ => a.length - (intOf v).toNat)
    case atStart => exact ⟨0, Nat.zero_le _, rfl, Lib.hid rfl, Below.refl _ _⟩
    case round =>
      obtain ⟨k, hk, rfl, HRT, hbw⟩ := hrel
      by_cases hlt : k < a.length
      · obtain ⟨g, o, P, pc, rfl, hg, hP, hcl⟩ := HC.out k hlt
        obtain ⟨g', o', Q, qc, rfl, hg', hQ, hcl'⟩ := HD.out k (by have := HL.out; omega)
        have v0 := hcl wr hbw
        have u0 := hcl' wr hbw
        have k1 : (0 : Int) ≤ (k : Int) := Int.natCast_nonneg _
        have k2 : (k : Int) < (a.length : Int) := by omega
        have htk : a.take (k + 1) = a.take k ++ [a[k]] := by rw [List.take_add_one, List.getElem?_eq_getElem hlt]; rfl
        have htk' : b.take (k + 1) = b.take k ++ [b[k]'(by have := HL.out; omega)] := by rw [List.take_add_one, List.getElem?_eq_getElem (by have := HL.out; omega)]; rfl
        have hne : a[k] ≠ b[k]'(by have := HL.out; omega) → a ≠ b := fun h e => h (by subst e; rfl)
        have hxl : a[k].length < 4611686018427387904 := HQ.out _ (List.getElem_mem hlt)
        have hcall := equal_any wr P pc a[k] Q qc (b[k]'(by have := HL.out; omega)) ((hP.below hbw).mono hbw.size) ((hQ.below hbw).mono hbw.size) hxl
        generalize a[k] = x at *
        generalize b[k]'(by have := HL.out; omega) = y at *
        have HTK := Lib.hid htk
        have HTK' := Lib.hid htk'
        have HNE := Lib.hid hne
        have HBW := Lib.hid hbw
        have HCALL := Lib.hid hcall
        clear htk htk' hne hcl hcl' hbw hP hQ hcall
        go_wp2_with fail
        refine HCALL.out.mono ?_
        rintro z w1 ⟨rfl, b1⟩
        have hb2 : Below w.heap.size w w1 := below_at HBW.out b1
        have HB2 := Lib.hid hb2
        clear b1 hb2
        by_cases hxy : x = y
        · have hd : decide (x = y) = true := decide_eq_true hxy
          rw [hd]
          have HXY := Lib.hid hxy
          clear hxy hd HCALL
          go_wp2_with fail
          go_roundw
          case rel => exact ⟨k + 1, by omega, by go_num, Lib.hid (by rw [HTK.out, HTK'.out, HRT.out, HXY.out]), HB2.out⟩
          case measure => simp [intOf]; omega
        · have hd : decide (x = y) = false := decide_eq_false hxy
          rw [hd]
          have HXY := Lib.hid hxy
          clear hxy hd HCALL
          go_wp2_with fail
          go_ret
          exact ⟨by rw [decide_eq_false (HNE.out HXY.out)]; rfl, HB2.out⟩
      · have hkn : k = a.length := by omega
        have HK := Lib.hid hkn
        have HBW := Lib.hid hbw
        clear hkn hbw
        go_wp2_with fail
        go_ret
        have h1 := HRT.out
        rw [HK.out, List.take_length, HL.out, List.take_length] at h1
        exact ⟨by rw [decide_eq_true h1]; rfl, HBW.out⟩
  · have hlen' : ¬ ((a.length : Int) = (b.length : Int)) := by omega
    have e1 : ((a.length : Int) == (b.length : Int)) = false := by simpa using hlen'
    have hne : a ≠ b := fun e => hlen (by rw [e])
    have HNE := Lib.hid hne
    clear hlen hlen' hne
    go_enter Tryz.func141, Tryz.ntmps141
    go_wp2_with fail
    go_ret
    exact ⟨by rw [decide_eq_false HNE.out]; rfl, Below.refl _ _⟩
end Go.Proofs.YtckdofjpoajblaaGreat
namespace Go.Proofs
open Go.Shelf
def Tryz.lays169_ren : Go.Shelf.Ren := ⟨fun | 169 => 146 | n => n, fun | 70 => 218 | 9 => 9 | 0 => 0 | 72 => 220 | 37 => 43 | 127 => 261 | 3 => 3 | 5 => 5 | n => n, fun | n => n⟩
theorem Tryz.lays169 : Go.Proofs.Lays.n169 Tryz.prog Tryz.lays169_ren := {
  mixed := by kernel_rfl
  f169 := Tryz.func146.trans (congrArg some (by kernel_rfl))
  t0 := Tryz.underlying0
  a0 := Tryz.isAgg0
  z0 := Tryz.sizeOf0
  v0 := Tryz.zeroValue0
  t3 := Tryz.underlying3
  a3 := Tryz.isAgg3
  z3 := Tryz.sizeOf3
  v3 := Tryz.zeroValue3
  t9 := Tryz.underlying9
  a9 := Tryz.isAgg9
  z9 := Tryz.sizeOf9
  v9 := Tryz.zeroValue9
  t37 := Tryz.underlying43
  a37 := Tryz.isAgg43
  z37 := Tryz.sizeOf43
  v37 := Tryz.zeroValue43
  t70 := Tryz.underlying218
  a70 := Tryz.isAgg218
  z70 := Tryz.sizeOf218
  v70 := Tryz.zeroValue218
  t72 := Tryz.underlying220
  a72 := Tryz.isAgg220
  z72 := Tryz.sizeOf220
  v72 := Tryz.zeroValue220
  t127 := Tryz.underlying261
  a127 := Tryz.isAgg261
  z127 := Tryz.sizeOf261
  v127 := Tryz.zeroValue261 }
theorem Tryz.Builder_Extra_169 : Builder.Extra Tryz.prog Tryz.lays169_ren := {
  sizeBuilder := by kernel_rfl
  liesBuilder := by kernel_rfl
  t5 := Tryz.underlying5
  a5 := Tryz.isAgg5
  z5 := Tryz.sizeOf5
  v5 := Tryz.zeroValue5
  infoByte := by kernel_rfl
  cellsByte := by kernel_rfl
  sizeByte := by kernel_rfl
  neB5 := by decide }
open Go.RowKit in
/-- (*strings.Builder).String: "String returns the accumulated string.": WHATEVER THE BUILDER HOLDS. (LAID: no walk: one application.) -/
theorem Tryz.Builder_String_any (B b : Nat) (l : List UInt8) (w : World) (h : Lib.IsBuilder 220 5 B b (Lib.byteCells l) w) (hBw : B ≤ w.heap.size) :
    Calls Tryz.prog 146 #[.pointer (some ⟨b, 0, none⟩)] w fun e w' => e = .returned (.string ⟨l.toArray⟩) ∧ Below B w w' := Any.Builder_String_any Tryz.lays169 Tryz.Builder_Extra_169 B b l w h hBw
def Tryz.lays125_ren : Go.Shelf.Ren := ⟨fun | 125 => 130 | 128 => 178 | 129 => 179 | n => n, fun | 46 => 45 | 3 => 3 | 51 => 250 | 53 => 252 | 4 => 4 | 5 => 5 | 9 => 9 | n => n, fun | n => n⟩
theorem Tryz.lays125 : Go.Proofs.Lays.n125 Tryz.prog Tryz.lays125_ren := {
  mixed := by kernel_rfl
  f125 := Tryz.func130.trans (congrArg some (by kernel_rfl))
  f128 := Tryz.func178.trans (congrArg some (by kernel_rfl))
  f129 := Tryz.func179.trans (congrArg some (by kernel_rfl))
  t3 := Tryz.underlying3
  a3 := Tryz.isAgg3
  z3 := Tryz.sizeOf3
  v3 := Tryz.zeroValue3
  t4 := Tryz.underlying4
  a4 := Tryz.isAgg4
  z4 := Tryz.sizeOf4
  v4 := Tryz.zeroValue4
  t5 := Tryz.underlying5
  a5 := Tryz.isAgg5
  z5 := Tryz.sizeOf5
  v5 := Tryz.zeroValue5
  t9 := Tryz.underlying9
  a9 := Tryz.isAgg9
  z9 := Tryz.sizeOf9
  v9 := Tryz.zeroValue9
  t46 := Tryz.underlying45
  a46 := Tryz.isAgg45
  z46 := Tryz.sizeOf45
  v46 := Tryz.zeroValue45
  t51 := Tryz.underlying250
  a51 := Tryz.isAgg250
  z51 := Tryz.sizeOf250
  v51 := Tryz.zeroValue250
  t53 := Tryz.underlying252
  a53 := Tryz.isAgg252
  z53 := Tryz.sizeOf252
  v53 := Tryz.zeroValue252 }
theorem Tryz.bits_Len (x : Int) (w : World) (h0 : 0 ≤ x) (h1 : x ≤ 18446744073709551615) :
    Calls Tryz.prog 130 #[.int .u64 x] w fun e w' => e = .returned (.int .i64 (Lib.bitLen x.toNat)) ∧ w' = w := Any.bits_Len Tryz.lays125 x w h0 h1
def Tryz.lays122_ren : Go.Shelf.Ren := ⟨fun | 122 => 63 | 215 => 103 | n => n, fun | 3 => 3 | 4 => 4 | n => n, fun | n => n⟩
theorem Tryz.lays122 : Go.Proofs.Lays.n122 Tryz.prog Tryz.lays122_ren := {
  mixed := by kernel_rfl
  f122 := Tryz.func63.trans (congrArg some (by kernel_rfl))
  f215 := Tryz.func103.trans (congrArg some (by kernel_rfl))
  t3 := Tryz.underlying3
  a3 := Tryz.isAgg3
  z3 := Tryz.sizeOf3
  v3 := Tryz.zeroValue3
  t4 := Tryz.underlying4
  a4 := Tryz.isAgg4
  z4 := Tryz.sizeOf4
  v4 := Tryz.zeroValue4 }
open Go.RowKit in
/-- cmp.Compare at int: "Compare returns -1 if x is less than y, 0 if x equals y, +1 if x is greater than y.": IT RETURNS 'Lib.compareInt x y'; the world is as it was. (LAID: no walk: one application.) -/
theorem Tryz.cmp_Compare_int (x y : Int) (w : World) :
    Calls Tryz.prog 63 #[.int .i64 x, .int .i64 y] w fun e w' => e = .returned (.int .i64 (Lib.compareInt x y)) ∧ w' = w := Any.cmp_Compare_int Tryz.lays122 x y w
def Tryz.lays190_ren : Go.Shelf.Ren := ⟨fun | 190 => 74 | 125 => 130 | 258 => 129 | 128 => 178 | 129 => 179 | 302 => 169 | 303 => 170 | 304 => 171 | 305 => 172 | 306 => 173 | 307 => 174 | 308 => 175 | 309 => 176 | 310 => 177 | 333 => 207 | 329 => 208 | 330 => 209 | 334 => 210 | 335 => 211 | 336 => 212 | 344 => 231 | n => n, fun | 31 => 27 | 9 => 9 | 3 => 3 | 46 => 45 | 0 => 0 | 51 => 250 | 53 => 252 | 4 => 4 | 183 => 242 | 182 => 241 | 131 => 247 | 5 => 5 | 218 => 273 | 222 => 277 | 228 => 296 | 229 => 297 | n => n, fun | n => n⟩
theorem Tryz.lays190 : Go.Proofs.Lays.n190 Tryz.prog Tryz.lays190_ren := {
  mixed := by kernel_rfl
  f125 := Tryz.func130.trans (congrArg some (by kernel_rfl))
  f128 := Tryz.func178.trans (congrArg some (by kernel_rfl))
  f129 := Tryz.func179.trans (congrArg some (by kernel_rfl))
  f190 := Tryz.func74.trans (congrArg some (by kernel_rfl))
  f258 := Tryz.func129.trans (congrArg some (by kernel_rfl))
  f302 := Tryz.func169.trans (congrArg some (by kernel_rfl))
  f303 := Tryz.func170.trans (congrArg some (by kernel_rfl))
  f304 := Tryz.func171.trans (congrArg some (by kernel_rfl))
  f305 := Tryz.func172.trans (congrArg some (by kernel_rfl))
  f306 := Tryz.func173.trans (congrArg some (by kernel_rfl))
  f307 := Tryz.func174.trans (congrArg some (by kernel_rfl))
  f308 := Tryz.func175.trans (congrArg some (by kernel_rfl))
  f309 := Tryz.func176.trans (congrArg some (by kernel_rfl))
  f310 := Tryz.func177.trans (congrArg some (by kernel_rfl))
  f329 := Tryz.func208.trans (congrArg some (by kernel_rfl))
  f330 := Tryz.func209.trans (congrArg some (by kernel_rfl))
  f333 := Tryz.func207.trans (congrArg some (by kernel_rfl))
  f334 := Tryz.func210.trans (congrArg some (by kernel_rfl))
  f335 := Tryz.func211.trans (congrArg some (by kernel_rfl))
  f336 := Tryz.func212.trans (congrArg some (by kernel_rfl))
  f344 := Tryz.func231.trans (congrArg some (by kernel_rfl))
  t0 := Tryz.underlying0
  a0 := Tryz.isAgg0
  z0 := Tryz.sizeOf0
  v0 := Tryz.zeroValue0
  t3 := Tryz.underlying3
  a3 := Tryz.isAgg3
  z3 := Tryz.sizeOf3
  v3 := Tryz.zeroValue3
  t4 := Tryz.underlying4
  a4 := Tryz.isAgg4
  z4 := Tryz.sizeOf4
  v4 := Tryz.zeroValue4
  t5 := Tryz.underlying5
  a5 := Tryz.isAgg5
  z5 := Tryz.sizeOf5
  v5 := Tryz.zeroValue5
  t9 := Tryz.underlying9
  a9 := Tryz.isAgg9
  z9 := Tryz.sizeOf9
  v9 := Tryz.zeroValue9
  t31 := Tryz.underlying27
  a31 := Tryz.isAgg27
  z31 := Tryz.sizeOf27
  v31 := Tryz.zeroValue27
  t46 := Tryz.underlying45
  a46 := Tryz.isAgg45
  z46 := Tryz.sizeOf45
  v46 := Tryz.zeroValue45
  t51 := Tryz.underlying250
  a51 := Tryz.isAgg250
  z51 := Tryz.sizeOf250
  v51 := Tryz.zeroValue250
  t53 := Tryz.underlying252
  a53 := Tryz.isAgg252
  z53 := Tryz.sizeOf252
  v53 := Tryz.zeroValue252
  t131 := Tryz.underlying247
  a131 := Tryz.isAgg247
  z131 := Tryz.sizeOf247
  v131 := Tryz.zeroValue247
  t182 := Tryz.underlying241
  a182 := Tryz.isAgg241
  z182 := Tryz.sizeOf241
  v182 := Tryz.zeroValue241
  t183 := Tryz.underlying242
  a183 := Tryz.isAgg242
  z183 := Tryz.sizeOf242
  v183 := Tryz.zeroValue242
  t218 := Tryz.underlying273
  a218 := Tryz.isAgg273
  z218 := Tryz.sizeOf273
  v218 := Tryz.zeroValue273
  t222 := Tryz.underlying277
  a222 := Tryz.isAgg277
  z222 := Tryz.sizeOf277
  v222 := Tryz.zeroValue277
  t228 := Tryz.underlying296
  a228 := Tryz.isAgg296
  z228 := Tryz.sizeOf296
  v228 := Tryz.zeroValue296
  t229 := Tryz.underlying297
  a229 := Tryz.isAgg297
  z229 := Tryz.sizeOf297
  v229 := Tryz.zeroValue297 }
open Go.Sort Go.RowKit in
theorem Tryz.slices_Sort_string (blk off cap : Nat) (ss : List (List UInt8)) (w : World) (hH : Holds encStr w blk off ss.toArray) (hblk : blk < w.heap.size) (hsz : ss.length < 4611686018427387904) :
    Calls Tryz.prog 74 #[.slice (some ⟨blk, off, none⟩) ss.length cap] w fun e w' =>
      e = .returned (.tuple #[]) ∧ ∃ n os, w' = grow (putRow encStr (Sort.ahead w n) blk off (ss.mergeSort fun x y => decide (x ≤ y)).toArray) os := Any.slices_Sort_string Tryz.lays190 blk off cap ss w hH hblk hsz
open Go.RowKit Go.Sort in
/-- .. and plain. (LAID: no walk: one application.) -/
theorem Tryz.slices_Sort_string_none (p : Option Addr) (cap : Nat) (w : World) :
    Calls Tryz.prog 74 #[.slice p 0 cap] w fun e w' => e = .returned (.tuple #[]) ∧ w' = w := Any.slices_Sort_string_none Tryz.lays190 p cap w
def Tryz.laysSlF06_f89_ren : Go.Shelf.Ren := ⟨fun | 6 => 89 | 15 => 130 | 14 => 153 | 28 => 178 | 29 => 179 | 20 => 190 | 21 => 191 | 22 => 192 | 23 => 193 | 24 => 194 | 25 => 195 | 26 => 196 | 27 => 197 | 46 => 225 | 47 => 208 | 48 => 209 | 49 => 226 | 50 => 227 | 57 => 235 | n => n, fun | 22 => 86 | 24 => 70 | 25 => 166 | 3 => 3 | 39 => 45 | 0 => 0 | 53 => 250 | 55 => 252 | 4 => 4 | 46 => 242 | 45 => 241 | 50 => 247 | 5 => 5 | 9 => 9 | 66 => 273 | 70 => 277 | 76 => 296 | 77 => 297 | n => n, fun | n => n⟩
theorem Tryz.laysSlF06_f89 : Go.Proofs.SlLaysF0.n6 Tryz.prog Tryz.laysSlF06_f89_ren := {
  mixed := by kernel_rfl
  f6 := ⟨Tryz.f89.name, by decide, Tryz.func89.trans (congrArg some (by kernel_rfl))⟩
  f14 := ⟨Tryz.f153.name, by decide, Tryz.func153.trans (congrArg some (by kernel_rfl))⟩
  f15 := Tryz.func130.trans (congrArg some (by kernel_rfl))
  f20 := ⟨Tryz.f190.name, by decide, Tryz.func190.trans (congrArg some (by kernel_rfl))⟩
  f21 := ⟨Tryz.f191.name, by decide, Tryz.func191.trans (congrArg some (by kernel_rfl))⟩
  f22 := ⟨Tryz.f192.name, by decide, Tryz.func192.trans (congrArg some (by kernel_rfl))⟩
  f23 := ⟨Tryz.f193.name, by decide, Tryz.func193.trans (congrArg some (by kernel_rfl))⟩
  f24 := ⟨Tryz.f194.name, by decide, Tryz.func194.trans (congrArg some (by kernel_rfl))⟩
  f25 := ⟨Tryz.f195.name, by decide, Tryz.func195.trans (congrArg some (by kernel_rfl))⟩
  f26 := ⟨Tryz.f196.name, by decide, Tryz.func196.trans (congrArg some (by kernel_rfl))⟩
  f27 := ⟨Tryz.f197.name, by decide, Tryz.func197.trans (congrArg some (by kernel_rfl))⟩
  f28 := Tryz.func178.trans (congrArg some (by kernel_rfl))
  f29 := Tryz.func179.trans (congrArg some (by kernel_rfl))
  f46 := ⟨Tryz.f225.name, by decide, Tryz.func225.trans (congrArg some (by kernel_rfl))⟩
  f47 := Tryz.func208.trans (congrArg some (by kernel_rfl))
  f48 := Tryz.func209.trans (congrArg some (by kernel_rfl))
  f49 := ⟨Tryz.f226.name, by decide, Tryz.func226.trans (congrArg some (by kernel_rfl))⟩
  f50 := ⟨Tryz.f227.name, by decide, Tryz.func227.trans (congrArg some (by kernel_rfl))⟩
  f57 := ⟨Tryz.f235.name, by decide, Tryz.func235.trans (congrArg some (by kernel_rfl))⟩
  t0 := Tryz.underlying0
  a0 := Tryz.isAgg0
  z0 := Tryz.sizeOf0
  v0 := Tryz.zeroValue0
  t3 := Tryz.underlying3
  a3 := Tryz.isAgg3
  z3 := Tryz.sizeOf3
  v3 := Tryz.zeroValue3
  t4 := Tryz.underlying4
  a4 := Tryz.isAgg4
  z4 := Tryz.sizeOf4
  v4 := Tryz.zeroValue4
  t5 := Tryz.underlying5
  a5 := Tryz.isAgg5
  z5 := Tryz.sizeOf5
  v5 := Tryz.zeroValue5
  t9 := Tryz.underlying9
  a9 := Tryz.isAgg9
  z9 := Tryz.sizeOf9
  v9 := Tryz.zeroValue9
  t22 := Tryz.underlying86
  a22 := Tryz.isAgg86
  z22 := Tryz.sizeOf86
  v22 := Tryz.zeroValue86
  t25 := Tryz.underlying166
  a25 := Tryz.isAgg166
  z25 := Tryz.sizeOf166
  v25 := Tryz.zeroValue166
  t39 := Tryz.underlying45
  a39 := Tryz.isAgg45
  z39 := Tryz.sizeOf45
  v39 := Tryz.zeroValue45
  t45 := Tryz.underlying241
  a45 := Tryz.isAgg241
  z45 := Tryz.sizeOf241
  v45 := Tryz.zeroValue241
  t46 := Tryz.underlying242
  a46 := Tryz.isAgg242
  z46 := Tryz.sizeOf242
  v46 := Tryz.zeroValue242
  t50 := Tryz.underlying247
  a50 := Tryz.isAgg247
  z50 := Tryz.sizeOf247
  v50 := Tryz.zeroValue247
  t53 := Tryz.underlying250
  a53 := Tryz.isAgg250
  z53 := Tryz.sizeOf250
  v53 := Tryz.zeroValue250
  t55 := Tryz.underlying252
  a55 := Tryz.isAgg252
  z55 := Tryz.sizeOf252
  v55 := Tryz.zeroValue252
  t66 := Tryz.underlying273
  a66 := Tryz.isAgg273
  z66 := Tryz.sizeOf273
  v66 := Tryz.zeroValue273
  t70 := Tryz.underlying277
  a70 := Tryz.isAgg277
  z70 := Tryz.sizeOf277
  v70 := Tryz.zeroValue277
  t76 := Tryz.underlying296
  a76 := Tryz.isAgg296
  z76 := Tryz.sizeOf296
  v76 := Tryz.zeroValue296
  t77 := Tryz.underlying297
  a77 := Tryz.isAgg297
  z77 := Tryz.sizeOf297
  v77 := Tryz.zeroValue297 }
open Go.RowKit Go.Lib Go.Sort in
/-- THE SAME IN THE DOCUMENTATION's OWN TERMS: where 'cmp(a, b) < 0' is a strict weak order the row holds a permutation of what it held, sorted by it. (LAID AT THE INSTANCE 'slices.SortFunc[[][4]int64,[4]int64]': no walk: one application.) -/
theorem Tryz.slices_SortFunc_small_sorted {α : Type} [Inhabited α] (k : Nat) (aE : ∀ w, (isAgg 70).run Tryz.prog w = .ok true w) (zE : ∀ w, (Go.sizeOf 70).run Tryz.prog w = .ok k w) (enc : α → List Value) (hk : ∀ x, (enc x).length = k) (h1 : ∀ x, ∀ v ∈ enc x, v.oneCell' = true) (cf : α → α → Int) (g : Nat) (cb : Array Value) (hS : SWO (ltOf cf)) (blk off cap : Nat) (d : Array α) (w : World) (eg : ∀ args w, (callFunc g args).run Tryz.prog w = .ok (.enter g args) w) (hcmp : CmpLays Tryz.prog g cb enc k cf blk off d.size w) (hH : HoldsK enc k w blk off d) (hblk : blk < w.heap.size) (h12 : d.size ≤ 12) (hlen : ∀ (n : Nat) (W : World), n ≤ 12 → Calls Tryz.prog 130 #[.int .u64 n] W fun e w' => (∃ l : Int, e = .returned (.int .i64 l)) ∧ w' = W) :
    Calls Tryz.prog 89 #[.slice (some ⟨blk, off, none⟩) d.size cap, .func (.func g) #[] cb] w fun e w' => e = .returned (.tuple #[]) ∧ ∃ d' n os, PermIn 0 d.size d d' ∧ SortedIn (ltOf cf) 0 d.size d' ∧ w' = sortWorldK enc k w blk off n d' os := AnyQ.slices_SortFunc_small_sorted Tryz.laysSlF06_f89 k aE zE enc hk h1 cf g cb hS blk off cap d w eg hcmp hH hblk h12 hlen
end Go.Proofs
namespace Go.Proofs.YtckdofjpoajblaaGreat
open Go.RowKit
set_option linter.unusedVariables false
theorem Tryz.sizeBld : (Tryz.prog.info? 220).map (·.size) = some 2 := by kernel_rfl
theorem Tryz.liesBld : liesAt Tryz.prog Tryz.prog.depth 220 (2 / Tryz.prog.cellsOf 220) 0 220 1 = true := by kernel_rfl
theorem Tryz.infoByte5 : (Tryz.prog.info? 5).map (fun i => (i.zero, i.size, i.bytes)) = some (some (.int .u8 0), 1, 1) := by kernel_rfl
abbrev Bld (B b : Nat) (bs : List Value) (w : World) : Prop := Lib.IsBuilder 220 5 B b bs w
set_option maxRecDepth 100000 in
set_option maxHeartbeats 1000000 in
theorem bld_used (b : Nat) (w : World) (h0 : w.cell? ⟨b, 0, none⟩ = some (.pointer (some ⟨b, 0, none⟩))) :
    Calls Tryz.prog 188 #[.pointer (some ⟨b, 0, none⟩)] w fun e w' => e = .returned (.tuple #[]) ∧ w' = w := by
  obtain ⟨j, hj, _⟩ := Option.map_eq_some_iff.1 Tryz.sizeBld
  go_enter Tryz.func188, Tryz.ntmps188
  go_wp2_with fail
  rw [Lib.run_neq_ptr_same w _ Tryz.underlying218 hj]
  go_wp2_with fail
  go_end0
  exact ⟨rfl, rfl⟩
set_option maxRecDepth 100000 in
set_option maxHeartbeats 1000000 in
theorem bld_fresh (b : Nat) (w : World) (h0 : w.cell? ⟨b, 0, none⟩ = some (.pointer none)) (hsh : w.shape? b = some (220, 2)) (hfz : w.frozen? ⟨b, 0, none⟩ = false) :
    Calls Tryz.prog 188 #[.pointer (some ⟨b, 0, none⟩)] w fun e w' => e = .returned (.tuple #[]) ∧ w' = w.setCell ⟨b, 0, none⟩ (.pointer (some ⟨b, 0, none⟩)) := by
  obtain ⟨j, hj, hjs⟩ := Option.map_eq_some_iff.1 Tryz.sizeBld
  go_enter Tryz.func188, Tryz.ntmps188
  go_wp2_with fail
  rw [Lib.run_to_unsafe w ⟨b, 0, none⟩ Tryz.underlying218 Tryz.underlying284 hj (by rw [hjs]; decide) hsh (Nat.zero_lt_succ 1)]
  simp only [Result.andThen]
  rw [Oper.upon_value]
  go_wp2_with fail
  rw [run_callFunc_extern Tryz.func216 (by kernel_rfl) (by kernel_rfl) (by kernel_rfl) (e := Extern.AbiNoEscape.same) (by kernel_rfl)]
  rw [Lib.run_noEscape]
  simp only [Result.andThen]
  rw [Oper.upon_value]
  go_wp2_with fail
  rw [Lib.run_from_unsafe w ⟨b, 0, none⟩ Tryz.underlying284 Tryz.underlying218 hj hsh Tryz.liesBld]
  simp only [Result.andThen]
  rw [Oper.upon_value]
  go_wp2_with fail
  go_end0
  exact ⟨rfl, rfl⟩
theorem bld_check (B b : Nat) (bs : List Value) (w : World) (h : Bld B b bs w) :
    Calls Tryz.prog 188 #[.pointer (some ⟨b, 0, none⟩)] w fun e w' => e = .returned (.tuple #[]) ∧ Lib.BuilderAt 220 5 B b (.pointer (some ⟨b, 0, none⟩)) bs w' ∧ Below B w w' := by
  rcases h with h | h
  · refine (bld_fresh b w h.cell0 h.shape h.frozen0).mono ?_
    rintro e w' ⟨rfl, rfl⟩
    exact ⟨rfl, h.used _, (Below.refl B w).setCell (p := ⟨b, 0, none⟩) h.1 _⟩
  · refine (bld_used b w h.cell0).mono ?_
    rintro e w' ⟨rfl, rfl⟩
    exact ⟨rfl, h, Below.refl B _⟩
set_option maxHeartbeats 2000000 in
set_option maxRecDepth 100000 in
theorem bld_byte (B b : Nat) (bs : List Value) (c : Int) (w : World) (h : Bld B b bs w) (hlen : bs.length + 1 ≤ 140737488355328) (hBw : B ≤ w.heap.size) :
    Calls Tryz.prog 143 #[.pointer (some ⟨b, 0, none⟩), .int .u8 c] w fun e w' => e = .returned .nilIface ∧ Bld B b (bs ++ [.int .u8 c]) w' ∧ Below B w w' := by
  obtain ⟨i0, hi, hz0, hz1, hz2⟩ := info_parts Tryz.infoByte5
  have HCK := Lib.hid (bld_check B b bs w h)
  clear h
  go_enter Tryz.func143, Tryz.ntmps143
  go_wp2_with fail
  refine HCK.out.mono ?_
  rintro e w1 ⟨rfl, h1, hb1⟩
  obtain ⟨hB, v, hbk, hown, hne⟩ := h1
  have c0 : w1.cell? ⟨b, 0, none⟩ = some (.pointer (some ⟨b, 0, none⟩)) := by rw [Lib.cell_of_heap hbk]; rfl
  have c1 : w1.cell? ⟨b, 1, none⟩ = some v := by rw [Lib.cell_of_heap hbk]; rfl
  go_wp2_with (at_builtin; refine wpList_append_own _ rfl _ _ 43 rfl B 5 i0 (.int .u8 0) 1 1 Tryz.underlying43 hi hz0 hz1 hz2 rfl (by decide) _ _ _ rfl (hown.alloc _) ⟨w1.heap.size, 0, none⟩ 1 1 [.int .u8 c] rfl rfl ?c1 ?c2 ?c3 ?c4 ?c5 ?_)
  case c1 =>
    intro j u hj
    match j, hj with
    | 0, hj => simp at hj; subst hj; simp [Addr.add]
  case c2 => intro u hu; simp at hu; subst hu; rfl
  case c3 => unfold maxLen; omega
  case c4 => omega
  case c5 => have := hb1.size; simp; omega
  intro v' w2 hown' hgrow _
  have hlt : b < w1.heap.size := blk_lt hbk
  have hb2 : w2.heap[b]? = some (.cells #[.pointer (some ⟨b, 0, none⟩), v] 220 (0, 0)) := by
    rw [hgrow.block b (by simp; omega) (fun e => hne e.symm), heap_alloc_old w1 _ hlt]
    exact hbk
  have d0 : w2.cell? ⟨b, 0, none⟩ = some (.pointer (some ⟨b, 0, none⟩)) := by rw [Lib.cell_of_heap hb2]; rfl
  have d1 : w2.cell? ⟨b, 1, none⟩ = some v := by rw [Lib.cell_of_heap hb2]; rfl
  have f1 : w2.frozen? ⟨b, 1, none⟩ = false := Lib.frozen_of_heap hb2 1
  obtain ⟨g, cap, rfl⟩ : ∃ g cap, v' = .slice (some ⟨g, 0, none⟩) (bs.length + 1) cap := by
    rcases hown'.2 with ⟨_, h0⟩ | ⟨g, cap, cur, hv, _⟩
    · omega
    · exact ⟨g, cap, hv⟩
  go_wp2_with fail
  go_ret
  refine ⟨rfl, .inr ?_, ?_⟩
  · exact Lib.BuilderAt.put (T := 220) (e := 5) hB hb2 (bs' := bs ++ [.int .u8 c]) (by simpa using hown') (by decide)
  · exact ((hb1.alloc (by have := hb1.size; omega) _).grown hgrow (by have := hb1.size; simp; omega) (fun k hk => (hown.lt k hk).1)).setCell (p := ⟨b, 1, none⟩) hB _
set_option maxHeartbeats 2000000 in
set_option maxRecDepth 100000 in
theorem bld_str (B b : Nat) (bs : List Value) (s : ByteArray) (w : World) (h : Bld B b bs w) (hlen : bs.length + s.size ≤ 140737488355328) (hBw : B ≤ w.heap.size) :
    Calls Tryz.prog 144 #[.pointer (some ⟨b, 0, none⟩), .string s] w fun e w' => e = .returned (.tuple #[.int .i64 s.size, .nilIface]) ∧ Bld B b (bs ++ Lib.strCells s) w' ∧ Below B w w' := by
  obtain ⟨i0, hi, hz0, hz1, hz2⟩ := info_parts Tryz.infoByte5
  have HCK := Lib.hid (bld_check B b bs w h)
  clear h
  go_enter Tryz.func144, Tryz.ntmps144
  go_wp2_with fail
  refine HCK.out.mono ?_
  rintro e w1 ⟨rfl, h1, hb1⟩
  obtain ⟨hB, v, hbk, hown, hne⟩ := h1
  have c0 : w1.cell? ⟨b, 0, none⟩ = some (.pointer (some ⟨b, 0, none⟩)) := by rw [Lib.cell_of_heap hbk]; rfl
  have c1 : w1.cell? ⟨b, 1, none⟩ = some v := by rw [Lib.cell_of_heap hbk]; rfl
  go_wp2_with (at_builtin; refine Lib.wpList_append_own_string _ rfl _ _ 43 9 rfl B 5 i0 Tryz.underlying43 Tryz.underlying9 hi hz0 hz1 hz2 _ _ _ rfl hown s rfl ?c3 ?c4 ?c5 ?_)
  case c3 => unfold maxLen; omega
  case c4 => omega
  case c5 => have := hb1.size; omega
  intro v' w2 hown' hgrow _
  have hlt : b < w1.heap.size := blk_lt hbk
  have hb2 : w2.heap[b]? = some (.cells #[.pointer (some ⟨b, 0, none⟩), v] 220 (0, 0)) := by
    rw [hgrow.block b hlt (fun e => hne e.symm)]
    exact hbk
  have d0 : w2.cell? ⟨b, 0, none⟩ = some (.pointer (some ⟨b, 0, none⟩)) := by rw [Lib.cell_of_heap hb2]; rfl
  have d1 : w2.cell? ⟨b, 1, none⟩ = some v := by rw [Lib.cell_of_heap hb2]; rfl
  have f1 : w2.frozen? ⟨b, 1, none⟩ = false := Lib.frozen_of_heap hb2 1
  obtain ⟨ao, n', cap, rfl⟩ : ∃ ao n' cap, v' = .slice ao n' cap := by
    rcases hown'.2 with ⟨hv, _⟩ | ⟨g, cap, cur, hv, _⟩
    · exact ⟨_, _, _, hv⟩
    · exact ⟨_, _, _, hv⟩
  go_wp2_with fail
  go_ret2
  refine ⟨rfl, .inr ?_, ?_⟩
  · exact Lib.BuilderAt.put (T := 220) (e := 5) hB hb2 (bs' := bs ++ Lib.strCells s) (by simpa [Lib.strCells_length] using hown') (by decide)
  · exact (hb1.grown hgrow (by have := hb1.size; omega) (fun k hk => (hown.lt k hk).1)).setCell (p := ⟨b, 1, none⟩) hB _
end Go.Proofs.YtckdofjpoajblaaGreat
namespace Go.Proofs
open Go.Shelf
def Tryz.sortEv_ren : Go.Shelf.Ren := ⟨fun | 6 => 149 | 15 => 130 | 14 => 189 | 28 => 178 | 29 => 179 | 20 => 217 | 21 => 218 | 22 => 219 | 23 => 220 | 24 => 221 | 25 => 222 | 26 => 223 | 27 => 224 | 46 => 232 | 47 => 208 | 48 => 209 | 49 => 233 | 50 => 234 | 57 => 238 | n => n, fun | 22 => 55 | 24 => 51 | 25 => 229 | 3 => 3 | 39 => 45 | 0 => 0 | 53 => 250 | 55 => 252 | 4 => 4 | 46 => 242 | 45 => 241 | 50 => 247 | 5 => 5 | 9 => 9 | 66 => 273 | 70 => 277 | 76 => 296 | 77 => 297 | n => n, fun | n => n⟩
theorem Tryz.sortEv : Go.Proofs.SlLaysF0.n6 Tryz.prog Tryz.sortEv_ren := {
  mixed := by kernel_rfl
  f6 := ⟨Tryz.f149.name, by decide, Tryz.func149.trans (congrArg some (by kernel_rfl))⟩
  f14 := ⟨Tryz.f189.name, by decide, Tryz.func189.trans (congrArg some (by kernel_rfl))⟩
  f15 := Tryz.func130.trans (congrArg some (by kernel_rfl))
  f20 := ⟨Tryz.f217.name, by decide, Tryz.func217.trans (congrArg some (by kernel_rfl))⟩
  f21 := ⟨Tryz.f218.name, by decide, Tryz.func218.trans (congrArg some (by kernel_rfl))⟩
  f22 := ⟨Tryz.f219.name, by decide, Tryz.func219.trans (congrArg some (by kernel_rfl))⟩
  f23 := ⟨Tryz.f220.name, by decide, Tryz.func220.trans (congrArg some (by kernel_rfl))⟩
  f24 := ⟨Tryz.f221.name, by decide, Tryz.func221.trans (congrArg some (by kernel_rfl))⟩
  f25 := ⟨Tryz.f222.name, by decide, Tryz.func222.trans (congrArg some (by kernel_rfl))⟩
  f26 := ⟨Tryz.f223.name, by decide, Tryz.func223.trans (congrArg some (by kernel_rfl))⟩
  f27 := ⟨Tryz.f224.name, by decide, Tryz.func224.trans (congrArg some (by kernel_rfl))⟩
  f28 := Tryz.func178.trans (congrArg some (by kernel_rfl))
  f29 := Tryz.func179.trans (congrArg some (by kernel_rfl))
  f46 := ⟨Tryz.f232.name, by decide, Tryz.func232.trans (congrArg some (by kernel_rfl))⟩
  f47 := Tryz.func208.trans (congrArg some (by kernel_rfl))
  f48 := Tryz.func209.trans (congrArg some (by kernel_rfl))
  f49 := ⟨Tryz.f233.name, by decide, Tryz.func233.trans (congrArg some (by kernel_rfl))⟩
  f50 := ⟨Tryz.f234.name, by decide, Tryz.func234.trans (congrArg some (by kernel_rfl))⟩
  f57 := ⟨Tryz.f238.name, by decide, Tryz.func238.trans (congrArg some (by kernel_rfl))⟩
  t0 := Tryz.underlying0
  a0 := Tryz.isAgg0
  z0 := Tryz.sizeOf0
  v0 := Tryz.zeroValue0
  t3 := Tryz.underlying3
  a3 := Tryz.isAgg3
  z3 := Tryz.sizeOf3
  v3 := Tryz.zeroValue3
  t4 := Tryz.underlying4
  a4 := Tryz.isAgg4
  z4 := Tryz.sizeOf4
  v4 := Tryz.zeroValue4
  t5 := Tryz.underlying5
  a5 := Tryz.isAgg5
  z5 := Tryz.sizeOf5
  v5 := Tryz.zeroValue5
  t9 := Tryz.underlying9
  a9 := Tryz.isAgg9
  z9 := Tryz.sizeOf9
  v9 := Tryz.zeroValue9
  t22 := Tryz.underlying55
  a22 := Tryz.isAgg55
  z22 := Tryz.sizeOf55
  v22 := Tryz.zeroValue55
  t25 := Tryz.underlying229
  a25 := Tryz.isAgg229
  z25 := Tryz.sizeOf229
  v25 := Tryz.zeroValue229
  t39 := Tryz.underlying45
  a39 := Tryz.isAgg45
  z39 := Tryz.sizeOf45
  v39 := Tryz.zeroValue45
  t45 := Tryz.underlying241
  a45 := Tryz.isAgg241
  z45 := Tryz.sizeOf241
  v45 := Tryz.zeroValue241
  t46 := Tryz.underlying242
  a46 := Tryz.isAgg242
  z46 := Tryz.sizeOf242
  v46 := Tryz.zeroValue242
  t50 := Tryz.underlying247
  a50 := Tryz.isAgg247
  z50 := Tryz.sizeOf247
  v50 := Tryz.zeroValue247
  t53 := Tryz.underlying250
  a53 := Tryz.isAgg250
  z53 := Tryz.sizeOf250
  v53 := Tryz.zeroValue250
  t55 := Tryz.underlying252
  a55 := Tryz.isAgg252
  z55 := Tryz.sizeOf252
  v55 := Tryz.zeroValue252
  t66 := Tryz.underlying273
  a66 := Tryz.isAgg273
  z66 := Tryz.sizeOf273
  v66 := Tryz.zeroValue273
  t70 := Tryz.underlying277
  a70 := Tryz.isAgg277
  z70 := Tryz.sizeOf277
  v70 := Tryz.zeroValue277
  t76 := Tryz.underlying296
  a76 := Tryz.isAgg296
  z76 := Tryz.sizeOf296
  v76 := Tryz.zeroValue296
  t77 := Tryz.underlying297
  a77 := Tryz.isAgg297
  z77 := Tryz.sizeOf297
  v77 := Tryz.zeroValue297 }
end Go.Proofs
namespace Go.Proofs.YtckdofjpoajblaaGreat
open Go.RowKit Go.Lib Go.Sort
set_option linter.unusedVariables false
instance : Inhabited Ev := ⟨⟨0, 0, 0, false⟩⟩
def cmpT (x y : Ev) : Int := Lib.compareInt x.t y.t
theorem ltT (x y : Ev) : ltOf cmpT x y = decide (x.t < y.t) := by
  unfold ltOf cmpT Lib.compareInt
  split
  · simp; omega
  · split <;> simp <;> omega
theorem swoT : SWO (ltOf cmpT) where
  irrefl x := by rw [ltT]; simp
  trans x y z h1 h2 := by rw [ltT] at *; simp at *; omega
  ntrans x y z h1 h2 := by rw [ltT] at *; simp at *; omega
set_option maxHeartbeats 1000000 in
theorem cmp_any (x y : Ev) (W : World) : Calls Tryz.prog 150 #[valE x, valE y] W fun e w' => e = .returned (.int .i64 (cmpT x y)) ∧ ∃ q os', w' = grow (W.drewN q) os' := by
  have hcon := fun W' => Tryz.cmp_Compare_int x.t y.t W'
  unfold cmpT valE
  change ∀ W', Calls Tryz.prog 63 _ _ _ at hcon
  generalize Lib.compareInt x.t y.t = r at hcon ⊢
  go_enter Tryz.func150, Tryz.ntmps150
  go_wp2_with (go_at_call 63; refine (hcon _).mono ?_; rintro e w' ⟨rfl, rfl⟩)
  go_ret
  exact ⟨rfl, 0, _, by rw [alloc_eq_grow, alloc_eq_grow, grow_grow]; rfl⟩
theorem flatT (q : List Ev) (j : Nat) (hj : j < q.length * 4) : (q.flatMap encE)[j]? = some ((flatK encE 4 q.toArray)[j]!) := by
  have h1 : j / 4 < q.length := by omega
  have h2 : j % 4 < 4 := by omega
  rw [get_flatK _ _ _ _ (by simpa using hj)]
  have h3 : j = j / 4 * 4 + j % 4 := by omega
  conv => lhs; rw [h3]
  rw [flat_get (f := encE) (sz := 4) encE_len q _ _ h1 h2]
  have h4 : (q.toArray)[j / 4]! = q[j / 4] := by
    rw [getElem!_pos q.toArray (j / 4) (by simpa using h1)]
    simp
  rw [h4]
  have h5 : j % 4 < (encE q[j / 4]).length := h2
  rw [List.getElem?_eq_getElem h5]
  congr 1
  exact (getElem!_pos (encE q[j / 4]) (j % 4) h5).symm
theorem Row.holdsK {w : World} {g o cap : Nat} {q : List Ev} (h : Row w 51 4 (some ⟨g, o, none⟩) q.length cap (q.flatMap encE)) : HoldsK encE 4 w g o q.toArray := by
  intro j hj
  rw [size_flatK] at hj
  have hj' : j < q.length * 4 := by simpa using hj
  refine ⟨?_, h.free _⟩
  rw [h.cell j hj', flatT q j hj']
  rfl
theorem sortW_row {w : World} {g o cap m : Nat} {q : List Ev} (h : Row w 51 4 (some ⟨g, o, none⟩) q.length cap (q.flatMap encE)) (q' : List Ev) (hq : q'.length = q.length) (os : Array Obj) :
    Row (sortWorldK encE 4 w g o m q'.toArray os) 51 4 (some ⟨g, o, none⟩) q'.length cap (q'.flatMap encE) ∧ Mod (fun k => k = g) w (sortWorldK encE 4 w g o m q'.toArray os) := by
  have lg : g < w.heap.size := h.lt
  obtain ⟨h1, h2, h3, h4, h5⟩ := h
  obtain ⟨_, cur, hc, hsz, ht⟩ := h5 _ rfl
  simp only at hc hsz ht
  have hblk : (sortWorldK encE 4 w g o m q'.toArray os).heap[g]? = some (.cells (putCells id o (flatK encE 4 q'.toArray) cur) 51 (0, 0)) := by
    unfold sortWorldK putRowK putRow mapBlock grow Sort.ahead
    simp only
    rw [Array.getElem?_append_left (by simpa using lg), Array.getElem?_modify, if_pos rfl, hc]
    rfl
  have hold : ∀ k, k < w.heap.size → k ≠ g → (sortWorldK encE 4 w g o m q'.toArray os).heap[k]? = w.heap[k]? := fun k hk hn => by
    unfold sortWorldK putRowK putRow mapBlock grow Sort.ahead
    simp only
    rw [Array.getElem?_append_left (by simpa using hk), Array.getElem?_modify, if_neg (Ne.symm hn)]
  refine ⟨⟨flat_len encE_len q', by omega, h3, fun h => (by cases h), fun a ha => ?_⟩, ⟨rfl, rfl, rfl, ?_, fun k hk hn => hold k hk hn⟩⟩
  · injection ha with ha
    subst ha
    refine ⟨rfl, _, hblk, by simp [putCells]; exact hsz, ?_⟩
    apply List.ext_getElem?
    intro j
    by_cases hj : j < q'.length * 4
    · rw [List.getElem?_take_of_lt hj, List.getElem?_drop, flatT q' j hj]
      simp only [Array.getElem?_toList]
      unfold putCells
      have hj2 : o + j < cur.size := by
        have : q'.length * 4 ≤ cap * 4 := Nat.mul_le_mul_right _ (by omega)
        omega
      have hfs : (flatK encE 4 q'.toArray).size = q'.length * 4 := by simp
      generalize flatK encE 4 q'.toArray = F at hfs ⊢
      simp only [Array.getElem?_mapIdx, Array.getElem?_eq_getElem hj2, Option.map_some]
      rw [if_pos (by omega), Nat.add_sub_cancel_left]
      rfl
    · rw [List.getElem?_eq_none (by rw [List.length_take]; omega), List.getElem?_eq_none (by rw [flat_len encE_len q']; omega)]
  · unfold sortWorldK putRowK putRow mapBlock grow Sort.ahead
    simp
theorem sort_any (w : World) (g o cap : Nat) (q : List Ev) (hr : Row w 51 4 (some ⟨g, o, none⟩) q.length cap (q.flatMap encE)) (h12 : q.length ≤ 12) :
    Calls Tryz.prog 149 #[.slice (some ⟨g, o, none⟩) q.length cap, .func (.func 150) #[] #[]] w fun x w' => x = .returned (.tuple #[]) ∧
      ∃ q', q'.Perm q ∧ Fo.SortedT q' ∧ q'.length = q.length ∧ Row w' 51 4 (some ⟨g, o, none⟩) q'.length cap (q'.flatMap encE) ∧ Mod (fun k => k = g) w w' := by
  have eg : ∀ args w, (callFunc 150 args).run Tryz.prog w = .ok (.enter 150 args) w := enters_of Tryz.func150 (by kernel_rfl) rfl
  have hlen : ∀ (n : Nat) (W : World), n ≤ 12 → Calls Tryz.prog 130 #[.int .u64 n] W fun e w' => (∃ l : Int, e = .returned (.int .i64 l)) ∧ w' = W := fun n W hn =>
    (Tryz.bits_Len n W (by omega) (by omega)).mono fun _ _ ⟨he, hw⟩ => ⟨⟨_, he⟩, hw⟩
  have hcon := AnyQ.slices_SortFunc_small_sorted Tryz.sortEv 4 Tryz.isAgg51 Tryz.sizeOf51 encE encE_len (fun x v hv => by simp [encE] at hv; rcases hv with rfl | rfl | rfl | rfl <;> rfl) cmpT 150 #[] swoT g o cap q.toArray w eg
    (fun _ _ _ _ x y => cmp_any x y _) hr.holdsK hr.lt (by simpa using h12) hlen
  change Calls Tryz.prog 149 _ _ _ at hcon
  simp only [List.size_toArray] at hcon
  refine hcon.mono ?_
  rintro x w' ⟨rfl, d', m, os, hp, hs, rfl⟩
  obtain ⟨l', rfl⟩ : ∃ l' : List Ev, d' = l'.toArray := ⟨d'.toList, rfl⟩
  have hsz : l'.length = q.length := by simpa using hp.1
  have hperm : l'.Perm q := by
    have := hp.2.2
    have ht : List.take q.length l' = l' := by rw [← hsz]; exact List.take_length
    simpa [hsz, ht] using this
  have hsort : Fo.SortedT l' := by
    unfold Fo.SortedT
    rw [List.pairwise_iff_getElem]
    intro i j hi hj hij
    have := hs i j (Nat.zero_le _) hij (by omega)
    rw [ltT, getElem!_pos l'.toArray i (by simpa using hi), getElem!_pos l'.toArray j (by simpa using hj)] at this
    simpa using this
  obtain ⟨h1, h2⟩ := sortW_row (m := m) hr l' hsz os
  exact ⟨rfl, l', hperm, hsort, hsz, h1, h2⟩
end Go.Proofs.YtckdofjpoajblaaGreat
namespace Go.Proofs.YtckdofjpoajblaaGreat
open Go.RowKit
set_option linter.unusedVariables false
theorem one_box (w : World) (e : Ev) : ∃ W X, W = w.alloc (Obj.cells #[.int .i64 e.t, .int .i64 e.k, .int .i64 e.o, .bool e.f] 51) ∧ X = w.heap.size ∧ Below w.heap.size w W ∧
    W.cell? ⟨X, 0, none⟩ = some (.int .i64 e.t) ∧ W.cell? ⟨X, 1, none⟩ = some (.int .i64 e.k) ∧ W.cell? ⟨X, 2, none⟩ = some (.int .i64 e.o) ∧ W.cell? ⟨X, 3, none⟩ = some (.bool e.f) := by
  refine ⟨_, _, rfl, rfl, (Below.refl _ _).alloc (Nat.le_refl _) _, ?_, ?_, ?_, ?_⟩ <;> (rw [cell_blk (heap_alloc_new w _)]; rfl)
theorem right1_any (w : World) (e : Ev) : Calls Tryz.prog 138 #[valE e] w fun x w' => x = .returned (.bool (!Fo.right e)) ∧ Below w.heap.size w w' := by
  obtain ⟨W, X, hW, hX, hB, c0, c1, c2, c3⟩ := one_box w e
  have hcall : ∀ u, Calls Tryz.prog 139 #[valE e] u fun x w' => x = .returned (.bool (Fo.right e)) ∧ Below u.heap.size u w' := fun u => right_any u e
  obtain ⟨b, hb⟩ : ∃ b, b = Fo.right e := ⟨_, rfl⟩
  rw [← hb] at hcall ⊢
  unfold valE at hcall ⊢
  have HCALL := Lib.hid hcall
  have HB := Lib.hid hB
  have HX := Lib.hid hX
  clear hcall hB hb
  go_enter Tryz.func138, Tryz.ntmps138
  go_upto_region 1 with fail
  rw [← hW, ← hX]
  clear hW hX
  go_wp2_with fail
  refine (HCALL.out _).mono ?_
  rintro x w1 ⟨rfl, b1⟩
  have hb2 : Below w.heap.size w w1 := below2 HB.out b1
  go_wp2_with fail
  go_ret
  exact ⟨rfl, hb2⟩
theorem any_not {l : List Ev} {p : Ev → Bool} : (l.any fun e => !p e) = !(l.all p) := by
  induction l with
  | nil => rfl
  | cons x l ih => rw [List.any_cons, List.all_cons, ih, Bool.not_and]
theorem fright_any (w : World) (A : Option Addr) (cap : Nat) (l : List Ev) (hr : Rd w 4 A l.length (l.flatMap encE)) (hl : l.length < 4611686018427387904) :
    Calls Tryz.prog 80 #[.slice A l.length cap] w fun x w' => x = .returned (.bool (Fo.okRow l)) ∧ Below w.heap.size w w' := by
  have h := containsFunc_right1 w A cap l hr hl (fun e => !Fo.right e) (fun u e _ => right1_any u e)
  rw [any_not] at h
  obtain ⟨b, hb⟩ : ∃ b, b = Fo.rights l := ⟨_, rfl⟩
  have hb' : l.all Fo.right = b := by rw [hb]; rfl
  rw [hb'] at h
  have hok : Fo.okRow l = (decide (l.length ≤ 200) && b) := by rw [hb]; rfl
  rw [hok]
  have H := Lib.hid h
  clear h hb hb' hr hok
  by_cases hn : l.length ≤ 200
  · have e1 : decide (l.length ≤ 200) = true := decide_eq_true hn
    have hn' : (l.length : Int) ≤ 200 := by omega
    rw [e1]
    clear hn e1
    go_enter Tryz.func80, Tryz.ntmps80
    go_wp2_with fail
    refine H.out.mono ?_
    rintro x w1 ⟨rfl, b1⟩
    have HB := Lib.hid b1
    clear b1
    go_wp2_with fail
    go_ret
    exact ⟨by simp, HB.out⟩
  · have e1 : decide (l.length ≤ 200) = false := decide_eq_false hn
    have hn' : ¬ (l.length : Int) ≤ 200 := by omega
    rw [e1]
    clear hn e1
    go_enter Tryz.func80, Tryz.ntmps80
    go_wp2_with fail
    go_ret
    exact ⟨by simp, Below.refl _ _⟩
theorem lev1_any (w : World) (X : Nat) (e e' : Ev) (hX : ∃ cur t fr, w.heap[X]? = some (.cells cur t fr)) (h : EvAt w X 0 e) :
    Calls Tryz.prog 147 #[valE e', .pointer (some ⟨X, 0, none⟩)] w fun x w' => x = .returned (.bool (Fo.dep e' e)) ∧ Below w.heap.size w w' := by
  obtain ⟨cur, t, fr, hc⟩ := hX
  have lX := blk_lt hc
  obtain ⟨W, Y, hW, hY, hB, c0, c1, c2, c3⟩ := one_box w e'
  obtain ⟨d0, d1, d2, d3⟩ := h
  have mv : ∀ o v, w.cell? ⟨X, o, none⟩ = some v → W.cell? ⟨X, o, none⟩ = some v := fun o v hv => (World.cell?_of_block (hB.block X lX)).trans hv
  replace d0 := mv _ _ d0
  replace d1 := mv _ _ d1
  replace d2 := mv _ _ d2
  replace d3 := mv _ _ d3
  simp only [Nat.zero_add] at d1 d2 d3
  have hcall : ∀ u, Calls Tryz.prog 148 #[valE e', valE e] u fun x w' => x = .returned (.bool (Fo.dep e' e)) ∧ Below u.heap.size u w' := fun u => depends_any u e' e
  obtain ⟨b, hb⟩ : ∃ b, b = Fo.dep e' e := ⟨_, rfl⟩
  rw [← hb] at hcall ⊢
  unfold valE at hcall ⊢
  have HCALL := Lib.hid hcall
  have HB := Lib.hid hB
  have HY := Lib.hid hY
  clear hcall hB hb mv hc lX
  go_enter Tryz.func147, Tryz.ntmps147
  go_upto_region 1 with fail
  rw [← hW, ← hY]
  clear hW hY
  go_wp2_with fail
  refine (HCALL.out _).mono ?_
  rintro x w1 ⟨rfl, b1⟩
  have hb2 : Below w.heap.size w w1 := below2 HB.out b1
  go_wp2_with fail
  go_ret
  exact ⟨rfl, hb2⟩
end Go.Proofs.YtckdofjpoajblaaGreat
