/- Part 1 of the proof of seqGrows_holds: what it rests on. -/
import Derived.WalkKit
import Derived.WalkSpells
import Derived.WalkLawsBesides
import Derived.ArgAppend
import Derived.Deep.AppendLies
import Derived.Deep.RegionHeld3
import Derived.KernelRfl
import Derived.OrdersHeld
import Derived.ProofKit
import Derived.OpenShut
import Derived.ShutString
import Derived.ChangeOld
import Derived.Below
import Derived.SizedLaws
import Derived.Lib.Hide
import Derived.Test.YtckdofjpoajblaaGreatRows
import Derived.Outline
import Derived.Deep.CutBlock
import Derived.IntWalk
import Derived.Lib.MinMax
import Derived.Laws.StructEq
import Derived.Shelf.SlicesE.Kit
import Derived.Maps.RangeWalk
import Derived.Laws.BytesArg
import Derived.Lib.ConvBytes
import Derived.Deep.DeepCutAuto
import Derived.Lib.AppendZeros
import Derived.Lib.Walk
import Derived.Lib.SliceRun
import Derived.Shelf.Strings.Builder1
import Derived.Shelf.Small.Bits
import Derived.Shelf.Small.Wraps
import Derived.Shelf.Strings.BuilderF
import Derived.Shelf.Strings.BuilderK
import Derived.Shelf.Strconv.Itoa0
import Derived.Shelf.Sort.Plain
import Derived.Shelf.Slices.CompactS
import Derived.Ground.Names2Prog
import Derived.Shelf.Slices.SearchI
import Derived.Shelf.Slices.Cells
import Derived.Shelf.Slices.In.SortNone
import Derived.Ground.SlsfProg
import Derived.Shelf.SlSortCmp.InsertionK
import Derived.Shelf.SlSortCmp.SmallK
import Derived.Test.YtckdofjpoajblaaGreatProg
import Derived.Lib.AppendIntMem
import Derived.Laws.Bits64b
import Derived.Laws.EntriesVeiled
import Derived.Lib.SlicesCompact
import Derived.Sort.Walk0
import Derived.Deep.LoopGhost
import Derived.JoinedTies
import GoSem.Claim
import Derived.Test.YtckdofjpoajblaaGreatZa14
namespace Go.Proofs.YtckdofjpoajblaaGreat
open Go.RowKit
set_option linter.unusedVariables false
set_option linter.unusedSimpArgs false
section
variable {K V : Type} [DecidableEq K]
def mget : List (K × V) → K → Option V
  | [], _ => none
  | (a, v) :: m, k => if k = a then some v else mget m k
def mput : List (K × V) → K → V → List (K × V)
  | [], k, x => [(k, x)]
  | (a, v) :: m, k, x => if k = a then (k, x) :: m else (a, v) :: mput m k x
theorem mget_mput (m : List (K × V)) (k j : K) (x : V) : mget (mput m k x) j = if j = k then some x else mget m j := by
  induction m with
  | nil => simp [mput, mget]
  | cons p m ih =>
    obtain ⟨a, v⟩ := p
    simp only [mput]
    by_cases h : k = a
    · subst h
      rw [if_pos rfl]
      simp only [mget]
      by_cases h2 : j = k <;> simp [h2]
    · rw [if_neg h]
      simp only [mget]
      by_cases h2 : j = a
      · subst h2
        rw [if_pos rfl, if_neg (fun e => h e.symm), if_pos rfl]
      · rw [if_neg h2, ih, if_neg h2]
theorem mput_keys (m : List (K × V)) (k : K) (x : V) : ∀ j, j ∈ (mput m k x).map (·.1) ↔ j = k ∨ j ∈ m.map (·.1) := by
  induction m with
  | nil => simp [mput]
  | cons p m ih =>
    obtain ⟨a, v⟩ := p
    intro j
    simp only [mput]
    by_cases h : k = a
    · subst h; simp
    · rw [if_neg h]
      simp only [List.map_cons, List.mem_cons, ih]
      constructor
      · rintro (h | h | h)
        · exact .inr (.inl h)
        · exact .inl h
        · exact .inr (.inr h)
      · rintro (h | h | h)
        · exact .inr (.inl h)
        · exact .inl h
        · exact .inr (.inr h)
theorem mput_nodup {m : List (K × V)} (h : (m.map (·.1)).Nodup) (k : K) (x : V) : ((mput m k x).map (·.1)).Nodup := by
  induction m with
  | nil => simp [mput]
  | cons p m ih =>
    obtain ⟨a, v⟩ := p
    simp only [List.map_cons, List.nodup_cons] at h
    simp only [mput]
    by_cases hk : k = a
    · subst hk
      rw [if_pos rfl]
      simp only [List.map_cons, List.nodup_cons]
      exact h
    · rw [if_neg hk]
      simp only [List.map_cons, List.nodup_cons]
      refine ⟨fun hm => ?_, ih h.2⟩
      rcases (mput_keys m k x a).1 hm with e | e
      · exact hk e.symm
      · exact h.1 e
theorem mget_none {m : List (K × V)} {k : K} : mget m k = none ↔ k ∉ m.map (·.1) := by
  induction m with
  | nil => simp [mget]
  | cons p m ih =>
    obtain ⟨a, v⟩ := p
    simp only [mget, List.map_cons, List.mem_cons]
    by_cases h : k = a
    · simp [h]
    · simp [h, ih]
end
theorem ba_ext {a b : ByteArray} (h : a.toList = b.toList) : a = b := by
  rw [ByteArray.toList_eq, ByteArray.toList_eq] at h
  obtain ⟨x⟩ := a
  obtain ⟨y⟩ := b
  congr 1
  exact Array.ext' h
theorem ba_beq (a b : ByteArray) : (a == b) = decide (a = b) := by
  rw [beq_toListBytes]
  by_cases h : a = b
  · subst h; simp
  · rw [decide_eq_false h, beq_eq_false_iff_ne]
    exact fun e => h (ba_ext e)
section
variable {K : Type} [DecidableEq K]
theorem mfind_val (m : List (K × Value)) (k : K) (i : Nat) : (mfind m k i).map (·.2) = mget m k := by
  induction m generalizing i with
  | nil => rfl
  | cons p m ih =>
    obtain ⟨a, v⟩ := p
    simp only [mfind, mget]
    split
    · rfl
    · exact ih (i + 1)
end
theorem findNow_is {K : Type} [DecidableEq K] {kk : K → Value} {desc : TypeDesc} (same : ∀ a b, Instr.sameNow desc (kk a) (kk b) = some (decide (a = b))) (es : List MapEntry) (m : List (K × Value)) (h : es.map (fun e => (e.key, e.val)) = m.map (fun p => (kk p.1, p.2))) (k : K) (i : Nat) : Instr.findNow desc (kk k) es i = some (mfind m k i) := by
  induction m generalizing es i with
  | nil =>
    cases es with
    | nil => rfl
    | cons e es => simp at h
  | cons p m ih =>
    obtain ⟨a, v⟩ := p
    cases es with
    | nil => simp at h
    | cons e es =>
      simp only [List.map_cons, List.cons.injEq, Prod.mk.injEq] at h
      obtain ⟨⟨h1, h2⟩, h3⟩ := h
      simp only [Instr.findNow, h1, same, mfind]
      by_cases hk : k = a
      · simp [hk, h2]
      · simp [hk, ih es h3 (i + 1)]
theorem findKey_now {P : Program} {kt : TypeId} {K : Type} [DecidableEq K] {kk : K → Value} {desc : TypeDesc} (hu : P.underlying kt = some desc) (same : ∀ a b, Instr.sameNow desc (kk a) (kk b) = some (decide (a = b))) (w : World) (es : Array MapEntry) (m : List (K × Value)) (h : ents es = m.map (fun p => (kk p.1, p.2))) (k : K) : (Instr.findKey kt (kk k) es.toList).run P w = .ok (mfind m k 0) w := by
  have := findNow_is same es.toList m h k 0
  simp [Instr.findKey, run_underlying hu, this]
theorem inj_now {K : Type} [DecidableEq K] {kk : K → Value} {desc : TypeDesc} (same : ∀ a b, Instr.sameNow desc (kk a) (kk b) = some (decide (a = b))) {a b : K} (h : kk a = kk b) : a = b := by
  have h1 := same a b
  rw [← h, same a a] at h1
  simpa using h1
theorem same_str (a b : ByteArray) : Instr.sameNow .string (.string a) (.string b) = some (decide (a = b)) := by simp only [Instr.sameNow, ba_beq]
def keyStr {P : Program} {kt : TypeId} (h : P.underlying kt = some .string) : KeyK P kt ByteArray where
  kk := .string
  inj := inj_now same_str
  fk := findKey_now h same_str
  bits := fun a => by rw [show (10000 : Nat) = 9999 + 1 from rfl, Instr.sameBits, ba_beq]; simp
  chk := fun b a w => by rw [show (10000 : Nat) = 9999 + 1 from rfl, Instr.checkKey]; simp [run_underlying h]
section
variable {P : Program} {kt : TypeId} {K : Type} [DecidableEq K] (kd : KeyK P kt K)
theorem findKey_is (w : World) (es : Array MapEntry) (m : List (K × Value)) (h : ents es = m.map (fun p => (kd.kk p.1, p.2))) (k : K) : (Instr.findKey kt (kd.kk k) es.toList).run P w = .ok (mfind m k 0) w := kd.fk w es m h k
theorem run_lookup {w : World} {mt e : TypeId} (ht : P.underlying mt = some (.map kt e)) {z : Value} (hz : ∀ w, (zeroValue e).run P w = .ok z w) {r : Nat} {m : List (K × Value)} (h : MapAt kd w r m) (k : K) (ok : Bool) :
    (Instr.lookup mt (.map (some r)) (kd.kk k) ok).run P w = .ok (if ok then .tuple #[(mget m k).getD z, .bool (mget m k).isSome] else (mget m k).getD z) w := by
  obtain ⟨es, c, h1, h2, h3⟩ := h
  have hf := findKey_is kd w es m h2 k
  have hv := mfind_val m k 0
  have hg : (getObj r).run P w = .ok (.map es c) w := by simp [getObj, Sem.run, h1]
  unfold Instr.lookup
  simp only [Sem.run_bind, run_underlying ht, Result.andThen_ok, hg, Sem.run_pure, kd.chk, hf]
  cases hm : mfind m k 0 with
  | none =>
    rw [hm] at hv
    simp only [Option.map_none] at hv
    rw [← hv]
    simp [hz, Result.andThen]
  | some p =>
    rw [hm] at hv
    simp only [Option.map_some] at hv
    rw [← hv]
    simp
theorem mod_setObj (w : World) (r : Nat) (o : Obj) : Mod (fun k => k = r) w { w with heap := w.heap.setIfInBounds r o } :=
  ⟨rfl, rfl, rfl, by simp, fun k hk hn => by
    show (w.heap.setIfInBounds r o)[k]? = _
    rw [Array.getElem?_setIfInBounds_ne (fun e => hn e.symm)]⟩
theorem blk_setObj {w : World} {r : Nat} (o : Obj) (h : r < w.heap.size) : ({ w with heap := w.heap.setIfInBounds r o } : World).heap[r]? = some o := by
  show (w.heap.setIfInBounds r o)[r]? = _
  simp [h]
theorem ents_modify (es : Array MapEntry) (m : List (K × Value)) (h : ents es = m.map (fun p => (kd.kk p.1, p.2))) (k : K) (x : Value) {i : Nat} {v : Value} (hf : mfind m k 0 = some (i, v)) :
    ents (es.modify i fun e => { e with key := kd.kk k, val := x }) = (mput m k x).map (fun p => (kd.kk p.1, p.2)) ∧ (es[i]?).map (·.key) = some (kd.kk k) := by
  have gen : ∀ (m : List (K × Value)) (es : List MapEntry) (i j : Nat), es.map (fun e => (e.key, e.val)) = m.map (fun p => (kd.kk p.1, p.2)) → mfind m k j = some (i + j, v) →
      (es.modify i (fun e => { e with key := kd.kk k, val := x })).map (fun e => (e.key, e.val)) = (mput m k x).map (fun p => (kd.kk p.1, p.2)) ∧ (es[i]?).map (·.key) = some (kd.kk k) := by
    intro m
    induction m with
    | nil => intro es i j h hf; cases hf
    | cons p m ih =>
      obtain ⟨a, u⟩ := p
      intro es i j h hf
      cases es with
      | nil => simp at h
      | cons e es =>
        simp only [List.map_cons, List.cons.injEq, Prod.mk.injEq] at h
        obtain ⟨⟨h1, h2⟩, h3⟩ := h
        simp only [mfind] at hf
        simp only [mput]
        by_cases hk : k = a
        · subst hk
          rw [if_pos rfl] at hf ⊢
          injection hf with hf
          injection hf with hf _
          have hi : i = 0 := by omega
          subst hi
          simp [h1, h3]
        · rw [if_neg hk] at hf ⊢
          cases i with
          | zero =>
            have hge : ∀ (m : List (K × Value)) (j i : Nat) v, mfind m k j = some (i, v) → j ≤ i := by
              intro m
              induction m with
              | nil => intro j i v h; cases h
              | cons q m ih2 =>
                intro j i v h
                obtain ⟨b, u2⟩ := q
                simp only [mfind] at h
                split at h
                · injection h with h; injection h with h _; omega
                · have := ih2 _ _ _ h; omega
            have := hge _ _ _ _ hf
            omega
          | succ i =>
            have := ih es i (j + 1) h3 (by rw [hf]; congr 2; omega)
            simp only [List.modify_succ_cons, List.map_cons, List.getElem?_cons_succ, this.1, h1, h2]
            exact ⟨trivial, this.2⟩
  have := gen m es.toList i 0 h hf
  refine ⟨?_, by simpa using this.2⟩
  unfold ents
  rw [Array.toList_modify]
  exact this.1
theorem ents_push (es : Array MapEntry) (m : List (K × Value)) (h : ents es = m.map (fun p => (kd.kk p.1, p.2))) (k : K) (x : Value) (c : Nat) (hf : mfind m k 0 = none) :
    ents (es.push { key := kd.kk k, val := x, born := c }) = (mput m k x).map (fun p => (kd.kk p.1, p.2)) := by
  have gen : ∀ (m : List (K × Value)) j, mfind m k j = none → mput m k x = m ++ [(k, x)] := by
    intro m
    induction m with
    | nil => intro j _; rfl
    | cons p m ih =>
      obtain ⟨a, u⟩ := p
      intro j hf
      simp only [mfind] at hf
      split at hf
      · cases hf
      · rename_i hk
        simp only [mput]
        rw [if_neg hk, ih _ hf, List.cons_append]
  rw [gen m 0 hf, List.map_append, ← h]
  simp [ents]
theorem run_mapUpdate {w : World} {mt e : TypeId} (ht : P.underlying mt = some (.map kt e)) {r : Nat} {m : List (K × Value)} (h : MapAt kd w r m) (k : K) (x : Value) :
    ∃ w', (Instr.mapUpdate mt (.map (some r)) (kd.kk k) x).run P w = .ok () w' ∧ MapAt kd w' r (mput m k x) ∧ Mod (fun q => q = r) w w' := by
  obtain ⟨es, c, h1, h2, h3⟩ := h
  have hl := blk_lt h1
  have hf := findKey_is kd w es m h2 k
  have hg : (getObj r).run P w = .ok (.map es c) w := by simp [getObj, Sem.run, h1]
  have hs : ∀ o, (setObj r o).run P w = .ok () { w with heap := w.heap.setIfInBounds r o } := fun o => by simp [setObj, Sem.run, h1]
  unfold Instr.mapUpdate
  simp only [Sem.run_bind, run_underlying ht, Result.andThen_ok, hg, Sem.run_pure, kd.chk, hf]
  cases hm : mfind m k 0 with
  | none =>
    refine ⟨_, hs _, ⟨_, _, blk_setObj _ hl, ents_push kd es m h2 k x c hm, mput_nodup h3.1 k x, MapKept.stamped_push h3.2 (fun y hy e => ?_)⟩, mod_setObj _ _ _⟩
    have hin : (y.key, y.val) ∈ ents es := List.mem_map.2 ⟨y, hy, rfl⟩
    rw [h2] at hin
    obtain ⟨q, hq, hqe⟩ := List.mem_map.1 hin
    injection hqe with e1 e2
    have hk : q.1 = k := kd.inj (e1.trans e)
    have hv := mfind_val m k 0
    rw [hm] at hv
    exact mget_none.1 hv.symm (hk ▸ List.mem_map.2 ⟨q, hq, rfl⟩)
  | some p =>
    obtain ⟨i, v⟩ := p
    obtain ⟨q1, q2⟩ := ents_modify kd es m h2 k x hm
    have hk : (Instr.keyThatStays (((es[i]?).map (·.key)).getD (kd.kk k)) (kd.kk k)).run P w = .ok (kd.kk k) w := by
      rw [q2]
      simp [Instr.keyThatStays, kd.bits]
    simp only [Sem.run_bind, hk, Result.andThen_ok]
    exact ⟨_, hs _, ⟨_, _, blk_setObj _ hl, q1, mput_nodup h3.1 k x, MapKept.stamped_modify h3.2 i _ (fun _ _ => rfl) (fun y _ hy => by rw [hy] at q2; simp at q2; exact q2.symm)⟩, mod_setObj _ _ _⟩
theorem wpList_mapUpdate {w : World} {ops : Array Oper} {rest : List Oper} {o : Oper} {a : Act} {Q : Exit → Act → World → Prop} (hgd : o.guard = none) (ma x v : Operand) (mt e : TypeId) (ho : o.op = Op.mapUpdate mt ma x v)
    (ht : P.underlying mt = some (.map kt e)) (r : Nat) (m : List (K × Value)) (hm : a.eval ma = .map (some r)) (h : MapAt kd w r m) (k : K) (hx : a.eval x = kd.kk k) (val : Value) (hv : a.eval v = val)
    (hK : ∀ w', MapAt kd w' r (mput m k val) → Mod (fun q => q = r) w w' → wpList P ops Q rest (a.put o.dst undef) w') : wpList P ops Q (o :: rest) a w := by
  refine wpList_plain hgd fun K' hK' => ?_
  obtain ⟨w', hr, h1, h2⟩ := run_mapUpdate kd ht h k val
  unfold Oper.wp
  simp [execOp, ho, hm, hx, hv, hr, Result.andThen]
  exact hK' _ _ (hK w' h1 h2)
end
end Go.Proofs.YtckdofjpoajblaaGreat
namespace Go.Proofs.YtckdofjpoajblaaGreat
set_option linter.unusedVariables false
namespace Ky
end Ky
end Go.Proofs.YtckdofjpoajblaaGreat
namespace Go.Proofs.YtckdofjpoajblaaGreat
set_option linter.unusedVariables false
namespace Ky
def b8 (n : Nat) : UInt8 := UInt8.ofNat n
end Ky
end Go.Proofs.YtckdofjpoajblaaGreat
namespace Go.Proofs.YtckdofjpoajblaaGreat
open Bs
set_option linter.unusedVariables false
namespace Pr
theorem openX_more (od : List Nat) (x : Sx) (s : St) (a : BitVec 8) : More x (openX od x s a) := by
  unfold openX
  simp only
  split
  · exact ⟨List.prefix_append _ _, Nat.le_succ _, Nat.le_succ _⟩
  · split
    · exact ⟨List.prefix_refl _, Nat.le_succ _, Nat.le_refl _⟩
    · exact ⟨List.prefix_refl _, Nat.le_succ _, Nat.le_refl _⟩
theorem intoX_more (od : List Nat) (x : Sx) (n : XNd) (u : Nat) : More x (intoX od x n u) := by
  have h := openX_more od { x with path := x.path.modify (x.path.length - 1) (goneD u), ev := x.ev ++ [evAt n.s u] } (stepS n.s u) (childOf n.s n.a n.d u)
  exact ⟨h.keys, h.nodes, h.runs⟩
theorem runX_more (od : List Nat) (bg : Nat) : ∀ (k : Nat) (x : Sx), More x (runX od bg k x).1
  | 0, x => More.refl x
  | k + 1, x => by
    unfold runX
    split
    · exact More.refl x
    · split
      · have h := runX_more od bg k (popX x)
        exact ⟨h.keys, h.nodes, h.runs⟩
      · split
        · exact More.refl x
        · rename_i n _ _ _
          have h1 := intoX_more od { x with ch := x.ch + 1 } n ((Bs.left n.a n.d n.t).getD (pickI od x.ch (Bs.left n.a n.d n.t).length) 0)
          have h2 := runX_more od bg k (intoX od { x with ch := x.ch + 1 } n ((Bs.left n.a n.d n.t).getD (pickI od x.ch (Bs.left n.a n.d n.t).length) 0))
          have h3 : More x { x with ch := x.ch + 1 } := ⟨List.prefix_refl _, Nat.le_refl _, Nat.le_refl _⟩
          exact h3.trans (h1.trans h2)
theorem run_grow (od : List Nat) {bg bg' : Nat} (hb : bg ≤ bg') : ∀ (k k' : Nat) (x : Sx), k ≤ k' → ((runX od bg k x).2 = true → (runX od bg k x).1.path = [] → runX od bg' k' x = runX od bg k x) ∧ ((runX od bg k x).2 = false → ∃ j, runX od bg' k' x = runX od bg' j (runX od bg k x).1)
  | 0, k', x, _ => ⟨fun _ hp => (by have hp' : x.path = [] := hp; rw [run_done hp', run_done hp']), fun h => (by cases h)⟩
  | k + 1, 0, x, h => by omega
  | k + 1, k' + 1, x, h => by
    cases hl : x.path.getLast? with
    | none =>
      have e1 : ∀ b m, runX od b (m + 1) x = (x, true) := fun b m => by unfold runX; rw [hl]
      rw [e1, e1]
      exact ⟨fun _ _ => rfl, fun h => by cases h⟩
    | some n =>
      have e1 : ∀ b m, runX od b (m + 1) x = if Bs.left n.a n.d n.t = [] then runX od b m (popX x) else if b ≤ x.nodes then (x, false) else runX od b m (intoX od { x with ch := x.ch + 1 } n ((Bs.left n.a n.d n.t).getD (pickI od x.ch (Bs.left n.a n.d n.t).length) 0)) := fun b m => by
        conv => lhs; unfold runX
        rw [hl]
      rw [e1 bg k]
      by_cases h0 : Bs.left n.a n.d n.t = []
      · rw [e1 bg' k', if_pos h0, if_pos h0]
        exact run_grow od hb k k' (popX x) (by omega)
      · rw [if_neg h0]
        by_cases h1 : bg ≤ x.nodes
        · rw [if_pos h1]
          exact ⟨fun h => (by cases h), fun _ => ⟨k' + 1, rfl⟩⟩
        · rw [if_neg h1, e1 bg' k', if_neg h0, if_neg (by omega)]
          exact run_grow od hb k k' _ (by omega)
theorem expl_grow {s0 : St} (hs : Wf s0) {bg bg' : Nat} (h1 : 1 ≤ bg) (hb : bg ≤ bg') (od : List Nat) : More (explX s0 bg od).1 (explX s0 bg' od).1 ∧ ((explX s0 bg od).2 = true → explX s0 bg' od = explX s0 bg od) := by
  have hg := run_grow od hb (2 * bg + 2) (2 * bg' + 2) (openX od x0 s0 0#8) (by omega)
  cases hr : (explX s0 bg od).2 with
  | true =>
    obtain ⟨g, _, _, hp⟩ := (expl_law hs bg od h1).1 hr
    have he : explX s0 bg' od = explX s0 bg od := hg.1 hr hp
    exact ⟨by rw [he]; exact More.refl _, fun _ => he⟩
  | false =>
    obtain ⟨j, hj⟩ := hg.2 hr
    refine ⟨?_, fun h => by cases h⟩
    have he : explX s0 bg' od = runX od bg' j (explX s0 bg od).1 := hj
    rw [he]
    exact runX_more od bg' j _
end Pr
end Go.Proofs.YtckdofjpoajblaaGreat
namespace Go.Proofs.YtckdofjpoajblaaGreat
open Bs
set_option linter.unusedVariables false
namespace Pr
theorem expl_more {s0 : St} (hs : Wf s0) {b c : Nat} (h1 : 1 ≤ b) (hb : b ≤ c) (od : List Nat) : (∀ k ∈ ksE s0 b od, k ∈ ksE s0 c od) ∧ (explX s0 b od).1.nodes ≤ (explX s0 c od).1.nodes ∧ (explX s0 b od).1.runs ≤ (explX s0 c od).1.runs ∧ ((explX s0 b od).2 = true → (explX s0 c od).2 = true ∧ (explX s0 b od).1.nodes = (explX s0 c od).1.nodes) := by
  obtain ⟨hm, he⟩ := expl_grow hs h1 hb od
  refine ⟨fun k hk => ?_, hm.nodes, hm.runs, fun h => ?_⟩
  · unfold ksE at hk ⊢
    rw [Ky.gather_mem] at hk ⊢
    exact hm.keys.subset hk
  · rw [he h]
    exact ⟨h, rfl⟩
end Pr
end Go.Proofs.YtckdofjpoajblaaGreat
namespace Go.Proofs.YtckdofjpoajblaaGreat
open Go.RowKit Bs
set_option linter.unusedVariables false
set_option maxRecDepth 100000 in
set_option maxHeartbeats 4000000 in
theorem explore_bad (w : World) (p : Pg) (A : Option Addr) (cap : Nat) (f b : Int) (OA : Option Addr) (on oc : Nat) (hp : PgIn w p A) (hbad : ¬ (Pr.Ok p ∧ 0 ≤ f ∧ f ≤ 8)) :
    Calls Tryz.prog 36 #[valP p A cap, .int .i64 f, .int .i64 b, .slice OA on oc] w fun x w' => x = .returned (.tuple #[.agg #[.slice none 0 0, .int .i64 0, .int .i64 0, .int .i64 0, .bool false], .int .i64 1]) ∧ Below w.heap.size w w' := by
  obtain ⟨X0, hX0⟩ : ∃ z, z = w.heap.size := ⟨_, rfl⟩
  obtain ⟨W1, hW1⟩ : ∃ z, z = w.alloc (Obj.cells #[.int .i64 p.vars, .int .i64 p.mtx, .slice A p.code.length cap] 24) := ⟨_, rfl⟩
  obtain ⟨W2, hW2⟩ : ∃ z, z = W1.alloc (Obj.cells #[.slice none 0 0, .int .i64 0, .int .i64 0, .int .i64 0, .bool false] 60) := ⟨_, rfl⟩
  have z1 : W1.heap.size = X0 + 1 := by rw [hW1, World.size_alloc, hX0]
  have b1 : Below w.heap.size w W1 := by rw [hW1]; exact (Below.refl _ _).alloc (Nat.le_refl _) _
  have b2 : Below W1.heap.size W1 W2 := by rw [hW2]; exact (Below.refl _ _).alloc (Nat.le_refl _) _
  have b12 := below_at b1 b2
  have hXk : W2.heap[X0]? = some (.cells #[.int .i64 p.vars, .int .i64 p.mtx, .slice A p.code.length cap] 24 (0, 0)) := by
    refine (b2.block _ (by omega)).trans ?_
    rw [hW1, hX0]; exact heap_alloc_new w _
  have hZk : W2.heap[X0 + 1]? = some (.cells #[.slice none 0 0, .int .i64 0, .int .i64 0, .int .i64 0, .bool false] 60 (0, 0)) := by rw [hW2, ← z1]; exact heap_alloc_new W1 _
  have hp2 := hp.below b12
  have hnew := new_bad W2 p A cap f hp2.1 hp2.2.1 hp2.2.2 hbad
  unfold valP at hnew ⊢
  have x0 : W2.cell? ⟨X0, 0, none⟩ = some (.int .i64 p.vars) := cell_blk hXk 0
  have x1 : W2.cell? ⟨X0, 1, none⟩ = some (.int .i64 p.mtx) := cell_blk hXk 1
  have x2 : W2.cell? ⟨X0, 2, none⟩ = some (.slice A p.code.length cap) := cell_blk hXk 2
  have xl := blk_lt hXk
  have HNEW := Lib.hid hnew
  have HB := Lib.hid b12
  have HZ := Lib.hid hZk
  have HX0 := Lib.hid hX0
  clear hp hp2 hbad b1 b2 b12 z1 hXk hZk hnew
  go_enter Tryz.func36, Tryz.ntmps36
  go_upto_region 1 with fail
  rw [← hX0, ← hW1, ← hW2]
  clear hX0 hW1 hW2
  go_wp2_with fail
  refine HNEW.out.mono ?_
  rintro y w3 ⟨rfl, b3⟩
  have hZ3 := blk_stepW HZ.out b3
  have z0 : w3.cell? ⟨X0 + 1, 0, none⟩ = some (.slice none 0 0) := cell_blk hZ3 0
  have z1 : w3.cell? ⟨X0 + 1, 1, none⟩ = some (.int .i64 0) := cell_blk hZ3 1
  have z2 : w3.cell? ⟨X0 + 1, 2, none⟩ = some (.int .i64 0) := cell_blk hZ3 2
  have z3 : w3.cell? ⟨X0 + 1, 3, none⟩ = some (.int .i64 0) := cell_blk hZ3 3
  have z4 : w3.cell? ⟨X0 + 1, 4, none⟩ = some (.bool false) := cell_blk hZ3 4
  have zl := blk_lt hZ3
  have g0 := free_blk hZ3 0
  have g1 := free_blk hZ3 1
  have g2 := free_blk hZ3 2
  have g3 := free_blk hZ3 3
  have g4 := free_blk hZ3 4
  obtain ⟨V2, hV2, d0, d1, d2, d3, d4, hmv⟩ := five_exit hZ3 (.slice none 0 0) (.int .i64 0) (.int .i64 0) (.int .i64 0) (.bool false)
  have HV2 := Lib.hid hV2
  have HMV := Lib.hid hmv
  have HB3 := Lib.hid (below_at HB.out b3)
  clear hV2 hmv hZ3 b3 x0 x1 x2 xl HNEW
  go_wp2_with fail
  rw [← HV2.out]
  refine bodyPost_ret (v := .tuple #[.agg #[.slice none 0 0, .int .i64 0, .int .i64 0, .int .i64 0, .bool false], .int .i64 1]) (by simp [results, Tryz.results36, go_sem, d0, d1, d2, d3, d4]) rfl ?_
  exact ⟨rfl, HB3.out.trans (HMV.out.below _ HB3.out.size (fun k hk e => by have := HX0.out; omega))⟩
namespace Aw9
def ld : Ins := ⟨1, 0, 0, 0⟩
def st : Ins := ⟨2, 0, 0, 0⟩
def pg (i : Ins) : Pg := ⟨1, 0, [[i], [i]]⟩
theorem a1 : (Pr.explX (Pr.start (pg ld) 1) 100 []).1.nodes = 3 := by kernel_rfl
theorem a2 : (Pr.explX (Pr.start (pg ld) 1) 100 []).1.runs = 1 := by kernel_rfl
theorem a3 : (Pr.explX (Pr.start (pg ld) 1) 100 []).2 = true := by kernel_rfl
theorem b1 : (Pr.explX (Pr.start (pg st) 1) 100 []).1.runs = 2 := by kernel_rfl
theorem b2 : (Pr.explX (Pr.start (pg st) 1) 100 []).2 = true := by kernel_rfl
theorem c1 : (Pr.explX (Pr.start (pg st) 1) 2 []).2 = false := by kernel_rfl
theorem c2 : (Pr.explX (Pr.start (pg st) 1) 2 []).1.nodes = 2 := by kernel_rfl
theorem okL : Pr.Ok (pg ld) := by decide
theorem okS : Pr.Ok (pg st) := by decide
end Aw9
theorem aw_exp (u : World) (i : Ins) (A : Option Addr) (hr : Rd u 4 A 1 ([i].flatMap encI)) (b : Nat) (hb1 : 1 ≤ b) (hb : b ≤ 1000) (hok : Pr.Ok (Aw9.pg i)) :
    Calls Tryz.prog 36 #[.agg #[.int .i64 1, .int .i64 0, .slice (some ⟨u.heap.size, 0, none⟩) 2 2], .int .i64 1, .int .i64 (b : Int), .slice none 0 0] (u.alloc (Obj.cells #[.slice A 1 1, .slice A 1 1] 67)) fun x w' =>
      (∃ KA kc, ∃ n3 : Int, x = .returned (.tuple #[.agg #[.slice KA (Pr.explX (Pr.start (Aw9.pg i) 1) b []).1.runs kc, .int .i64 ((Pr.explX (Pr.start (Aw9.pg i) 1) b []).1.nodes : Int), .int .i64 ((Pr.explX (Pr.start (Aw9.pg i) 1) b []).1.runs : Int), .int .i64 n3, .bool (Pr.explX (Pr.start (Aw9.pg i) 1) b []).2], .int .i64 0])) ∧ Below u.heap.size u w' := by
  have hp := pgin_two u 1 0 [i] [i] A A 1 1 hr hr (Nat.le_refl _) (Nat.le_refl _) (by simp [maxLen]) (by simp [maxLen])
  have h := explore_ok _ (Aw9.pg i) _ 2 1 b none 0 [] hp (by decide) hok hb ⟨rfl, fun h => by simp at h⟩ (fun b hb => by cases hb) (by simp)
  rw [show max b 1 = b by omega] at h
  refine h.mono ?_
  rintro x w' ⟨KA, kc, rfl, _, _, hb'⟩
  have hr' := (Pr.expl_ok (Pr.start_wf hok (by decide : 1 ≤ 8)) (Pr.fuels_start hok (by decide : 1 ≤ 8)) b [] hb1).runs
  refine ⟨⟨KA, kc, _, by rw [← hr']⟩, ?_⟩
  exact ((Below.refl u.heap.size u).alloc (Nat.le_refl _) _).trans (hb'.mono (by simp))
theorem aw_row (u : World) (i : Ins) : Rd (u.alloc (Obj.cells #[.int .i64 i.k, .int .i64 i.r, .int .i64 i.x, .int .i64 i.n] 98)) 4 (some ⟨u.heap.size, 0, none⟩) 1 ([i].flatMap encI) := by
  have hk := heap_alloc_new u (Obj.cells #[.int .i64 i.k, .int .i64 i.r, .int .i64 i.x, .int .i64 i.n] 98)
  refine ⟨rfl, fun _ => ⟨_, 0, rfl, blk_lt hk, fun j hj => ?_⟩⟩
  rw [cell_blk hk]
  rcases (show j = 0 ∨ j = 1 ∨ j = 2 ∨ j = 3 by omega) with rfl | rfl | rfl | rfl <;> rfl
theorem rep_box (u : World) (a0 a1 a2 a3 a4 : Value) : ∃ W X, W = u.alloc (Obj.cells #[a0, a1, a2, a3, a4] 60) ∧ X = u.heap.size ∧ Below u.heap.size u W ∧ ∀ v, Below W.heap.size W v → (v.cell? ⟨X, 0, none⟩ = some a0 ∧ v.cell? ⟨X, 1, none⟩ = some a1 ∧ v.cell? ⟨X, 2, none⟩ = some a2 ∧ v.cell? ⟨X, 3, none⟩ = some a3 ∧ v.cell? ⟨X, 4, none⟩ = some a4) ∧ X < v.heap.size := by
  refine ⟨_, _, rfl, rfl, (Below.refl _ _).alloc (Nat.le_refl _) _, fun v hv => ?_⟩
  have hk := heap_alloc_new u (Obj.cells #[a0, a1, a2, a3, a4] 60)
  have hk' := (hv.block _ (blk_lt hk)).trans hk
  exact ⟨⟨cell_blk hk' 0, cell_blk hk' 1, cell_blk hk' 2, cell_blk hk' 3, cell_blk hk' 4⟩, blk_lt hk'⟩
set_option maxRecDepth 100000 in
set_option maxHeartbeats 8000000 in
theorem awake09 (w : World) : Calls Tryz.prog 35 #[] w fun x w' => x = .returned (.bool true) ∧ Below w.heap.size w w' := by
  obtain ⟨V0, hV0⟩ : ∃ z, z = w.alloc (Obj.cells #[.int .i64 1, .int .i64 0, .int .i64 0, .int .i64 0] 98) := ⟨_, rfl⟩
  obtain ⟨V, hV⟩ : ∃ z, z = V0.alloc (Obj.cells #[.int .i64 2, .int .i64 0, .int .i64 0, .int .i64 0] 98) := ⟨_, rfl⟩
  obtain ⟨L, hL⟩ : ∃ z, z = w.heap.size := ⟨_, rfl⟩
  have z0 : V0.heap.size = L + 1 := by rw [hV0, World.size_alloc, hL]
  have bV0 : Below w.heap.size w V0 := by rw [hV0]; exact (Below.refl _ _).alloc (Nat.le_refl _) _
  have bV1 : Below V0.heap.size V0 V := by rw [hV]; exact (Below.refl _ _).alloc (Nat.le_refl _) _
  have bV := below_at bV0 bV1
  have r1 : Rd V 4 (some ⟨L, 0, none⟩) 1 ([Aw9.ld].flatMap encI) := by
    refine Rd.below ?_ bV1 (Nat.le_refl _)
    rw [hV0, hL]
    exact aw_row w Aw9.ld
  have r2 : Rd V 4 (some ⟨L + 1, 0, none⟩) 1 ([Aw9.st].flatMap encI) := by
    rw [hV, ← z0]
    exact aw_row V0 Aw9.st
  have eL := fun (u : World) (hu : Below V.heap.size V u) => aw_exp u Aw9.ld _ (r1.below hu (Nat.le_refl _)) 100 (by omega) (by omega) Aw9.okL
  rw [Aw9.a1, Aw9.a2, Aw9.a3] at eL
  have eS := fun (u : World) (hu : Below V.heap.size V u) => aw_exp u Aw9.st _ (r2.below hu (Nat.le_refl _)) 100 (by omega) (by omega) Aw9.okS
  rw [Aw9.b1, Aw9.b2] at eS
  have eT := fun (u : World) (hu : Below V.heap.size V u) => aw_exp u Aw9.st _ (r2.below hu (Nat.le_refl _)) 2 (by omega) (by omega) Aw9.okS
  rw [Aw9.c1, Aw9.c2] at eT
  obtain ⟨n4, hn4⟩ : ∃ z, z = (Pr.explX (Pr.start (Aw9.pg Aw9.st) 1) 100 []).1.nodes := ⟨_, rfl⟩
  obtain ⟨n5, hn5⟩ : ∃ z, z = (Pr.explX (Pr.start (Aw9.pg Aw9.st) 1) 2 []).1.runs := ⟨_, rfl⟩
  rw [← hn4] at eS
  rw [← hn5] at eT
  have eZ := fun (u : World) => explore_bad u ⟨0, 0, []⟩ none 0 1 100 none 0 0 ⟨⟨[], ⟨rfl, fun h => by simp at h⟩, fun i q hi => by simp at hi⟩, by simp [maxLen], fun q hq => by simp at hq⟩ (by decide)
  unfold valP at eZ
  have HE1 := Lib.hid eL
  have HE2 := Lib.hid eS
  have HE3 := Lib.hid eZ
  have HE4 := Lib.hid eT
  have HBV := Lib.hid bV
  clear eL eS eT eZ bV bV0 bV1 r1 r2 z0 hn4 hn5
  go_enter Tryz.func35, Tryz.ntmps35
  go_upto_region 2 with fail
  rw [← hL, ← hV0, ← hV]
  clear hL hV0 hV
  go_wp2_with fail
  refine (HE1.out V (Below.refl _ _)).mono ?_
  rintro y w1 ⟨⟨K1, c1, m1, rfl⟩, b1⟩
  obtain ⟨W1, X1, hW1, hX1, hb1, hl1⟩ := rep_box w1 (.slice K1 1 c1) (.int .i64 3) (.int .i64 1) (.int .i64 m1) (.bool true)
  have HB1 := Lib.hid (below_at b1 hb1)
  have HL1 := Lib.hid hl1
  clear b1 hb1 hl1 HE1
  go_upto_region 3 with fail
  rw [← hW1, ← hX1]
  clear hW1 hX1
  go_wp2_with fail
  refine (HE2.out W1 HB1.out).mono ?_
  rintro y w2 ⟨⟨K2, c2, m2, rfl⟩, b2⟩
  obtain ⟨W2, X2, hW2, hX2, hb2, hl2⟩ := rep_box w2 (.slice K2 2 c2) (.int .i64 (n4 : Int)) (.int .i64 2) (.int .i64 m2) (.bool true)
  have HB2 := Lib.hid (below_at b2 hb2)
  have HL2 := Lib.hid hl2
  clear b2 hb2 hl2 HE2
  go_upto_region 4 with fail
  rw [← hW2, ← hX2]
  clear hW2 hX2
  go_wp2_with fail
  refine (HE3.out W2).mono ?_
  rintro y w3 ⟨rfl, b3⟩
  obtain ⟨W3, X3, hW3, hX3, hb3, hl3⟩ := rep_box w3 (.slice none 0 0) (.int .i64 0) (.int .i64 0) (.int .i64 0) (.bool false)
  have HB3 := Lib.hid (below_at b3 hb3)
  clear b3 hb3 hl3 HE3
  go_upto_region 5 with fail
  rw [← hW3, ← hX3]
  clear hW3 hX3
  go_wp2_with fail
  refine (HE4.out W3 (below_at (below_at HB1.out HB2.out) HB3.out)).mono ?_
  rintro y w4 ⟨⟨K4, c4, m4, rfl⟩, b4⟩
  obtain ⟨W4, X4, hW4, hX4, hb4, hl4⟩ := rep_box w4 (.slice K4 n5 c4) (.int .i64 2) (.int .i64 (n5 : Int)) (.int .i64 m4) (.bool false)
  have HB4 := Lib.hid (below_at b4 hb4)
  have HL4 := Lib.hid hl4
  clear b4 hb4 hl4 HE4
  go_upto_region 6 with fail
  rw [← hW4, ← hX4]
  clear hW4 hX4
  obtain ⟨⟨p0, p1, p2, p3, p4⟩, pl⟩ := HL1.out W4 (below_at (below_at HB2.out HB3.out) HB4.out)
  obtain ⟨⟨q0, q1, q2, q3, q4⟩, ql⟩ := HL2.out W4 (below_at HB3.out HB4.out)
  obtain ⟨⟨s0, s1, s2, s3, s4⟩, sl⟩ := HL4.out W4 (Below.refl _ _)
  go_wp2_with fail
  go_ret
  exact ⟨rfl, below_at HBV.out (below_at (below_at (below_at HB1.out HB2.out) HB3.out) HB4.out)⟩
end Go.Proofs.YtckdofjpoajblaaGreat
namespace Go.Proofs.YtckdofjpoajblaaGreat
open Go.RowKit
set_option linter.unusedVariables false
noncomputable abbrev Tryz.keySq : KeyK Tryz.prog 9 ByteArray := keyStr Tryz.underlying9
def HasSq (m : List (ByteArray × Value)) (l : List Ky.K) : Prop := ∀ x : Ky.K, mget m ⟨x.toArray⟩ = if x ∈ l then some (.bool true) else none
theorem hasSq_put {m : List (ByteArray × Value)} {U : List Ky.K} {i : Nat} {s : Ky.K} (hs : U[i]? = some s) (h : HasSq m (U.take i)) : HasSq (mput m ⟨s.toArray⟩ (.bool true)) (U.take (i + 1)) := fun x => by
  rw [mget_mput, h x, List.take_add_one, hs]
  have e : ((⟨x.toArray⟩ : ByteArray) = ⟨s.toArray⟩) ↔ x = s := ⟨fun e => by injection e with e; simpa using congrArg Array.toList e, fun e => by rw [e]⟩
  by_cases hx : x = s
  · subst hx
    rw [if_pos rfl, if_pos (by simp)]
  · rw [if_neg (fun h => hx (e.1 h))]
    simp [hx]
theorem HasSq.look {w : World} {K : Nat} {m : List (ByteArray × Value)} {l : List Ky.K} (hm : MapAt Tryz.keySq w K m) (h : HasSq m l) {s : Ky.K} (hs : s ∈ l) : (Instr.lookup 140 (.map (some K)) (.string ⟨s.toArray⟩) false).run Tryz.prog w = .ok (.bool true) w := by
  have := run_lookup Tryz.keySq (w := w) Tryz.underlying140 (z := .bool false) (fun w => by kernel_rfl) hm ⟨s.toArray⟩ false
  rw [h s, if_pos hs] at this
  exact this
set_option maxRecDepth 100000 in
set_option maxHeartbeats 4000000 in
theorem in_any (w : World) (A : Option Addr) (cap : Nat) (a : List Ky.K) (B : Option Addr) (cap' : Nat) (b : List Ky.K) (ha : Rd w 1 A a.length (a.map sv)) (hb : Rd w 1 B b.length (b.map sv)) (hla : a.length ≤ 100000) (hlb : b.length ≤ 100000) (hsub : ∀ k ∈ a, k ∈ b) (hst : Ky.Strict a) :
    Calls Tryz.prog 38 #[.slice A a.length cap, .slice B b.length cap'] w fun x w' => x = .returned (.bool true) ∧ Below w.heap.size w w' := by
  have hmk := @run_makeMap Tryz.prog
  obtain ⟨V, hV⟩ : ∃ V, V = w.alloc (Obj.map #[] 0) := ⟨_, rfl⟩
  obtain ⟨M, hM⟩ : ∃ M, M = w.heap.size := ⟨_, rfl⟩
  have hmade := MapAt.made Tryz.keySq w 0
  rw [← hV, ← hM] at hmade
  have hbV : Below w.heap.size w V := by rw [hV]; exact (Below.refl _ _).alloc (Nat.le_refl _) _
  have hca := str_cell ha.toB
  have hcb := str_cell hb.toB
  obtain ⟨na, hna⟩ : ∃ n, n = a.length := ⟨_, rfl⟩
  obtain ⟨nb, hnb⟩ : ∃ n, n = b.length := ⟨_, rfl⟩
  rw [← hna] at hla
  rw [← hnb] at hlb
  rw [← hna, ← hnb]
  have HMADE := Lib.hid hmade
  have HBV := Lib.hid hbV
  have HCA := Lib.hid hca
  have HCB := Lib.hid hcb
  have HNA := Lib.hid hna
  have HNB := Lib.hid hnb
  have HSUB := Lib.hid hsub
  have HST := Lib.hid hst
  have HM := Lib.hid hM
  clear hmade hbV hca hcb hna hnb hsub hst ha hb
  go_enter Tryz.func38, Tryz.ntmps38
  go_upto_region 2 with fail
  rw [← hV, ← hM]
  clear hV hM hmk
  go_wp2_with fail
  go_loopw [13] (fun v wr => ∃ (i : Nat) (m : List (ByteArray × Value)), i ≤ nb ∧ v = .int .i64 i ∧ Hid (MapAt Tryz.keySq wr M m) ∧ Hid (HasSq m (b.take i)) ∧ Hid (Below w.heap.size w wr)) (fun v _ => nb - (intOf v).toNat)
  case atStart => exact ⟨0, [], Nat.zero_le _, rfl, HMADE, Lib.hid (fun x => by simp [mget]), HBV⟩
  case round =>
    clear HMADE HBV
    obtain ⟨i, m, hi, rfl, HMP, HHAS, HB⟩ := hrel
    by_cases hlt : i < nb
    · obtain ⟨s, hs⟩ := get_some (show i < b.length by rw [← HNB.out]; exact hlt)
      obtain ⟨g, o, rfl, hg, hc⟩ := HCB.out i s hs
      have ca := hc wr HB.out
      have lg : g < wr.heap.size := by have := HB.out.size; omega
      have HS := Lib.hid hs
      have k1 : (0 : Int) ≤ (i : Int) := Int.natCast_nonneg _
      have k2 : (i : Int) < (nb : Int) := by omega
      clear hs hc
      go_wp2_with (at_mapUpdate; refine wpList_mapUpdate Tryz.keySq (by rfl) _ _ _ 140 4 (by rfl) Tryz.underlying140 M m (by rfl) HMP.out ⟨s.toArray⟩ (by rfl) (.bool true) (by rfl) ?_; intro w8 mp8 m8)
      go_roundw
      case rel =>
        exact ⟨i + 1, _, by omega, by go_num, Lib.hid mp8, Lib.hid (hasSq_put HS.out HHAS.out), Lib.hid (HB.out.trans (m8.below w.heap.size HB.out.size (fun q hq h => by have := HM.out; omega)))⟩
      case measure => simp [intOf]; omega
    · obtain rfl : i = nb := by omega
      have hall := HHAS.out
      rw [List.take_of_length_le (by rw [← HNB.out]; exact Nat.le_refl _)] at hall
      have hlook : ∀ s ∈ a, (Instr.lookup 140 (.map (some M)) (.string ⟨s.toArray⟩) false).run Tryz.prog wr = .ok (.bool true) wr := fun s hs => HasSq.look HMP.out hall (HSUB.out s hs)
      have HLK := Lib.hid hlook
      obtain ⟨w5, hw5⟩ : ∃ z, z = wr := ⟨_, rfl⟩
      rw [← hw5] at HLK HB
      rw [← hw5]
      clear hall HHAS HMP hlook hw5
      have k4 : ¬ (i : Int) < (i : Int) := by omega
      go_wp2_with fail
      go_loopw [22] (fun v wz => ∃ j : Nat, j ≤ na ∧ v = .int .i64 j ∧ wz = w5) (fun v _ => na - (intOf v).toNat)
      case atStart => exact ⟨0, Nat.zero_le _, rfl, rfl⟩
      case round =>
        obtain ⟨j, hj, rfl, rfl⟩ := hrel
        rename World => w5
        by_cases hlt2 : j < na
        · obtain ⟨s, hs⟩ := get_some (show j < a.length by rw [← HNA.out]; exact hlt2)
          obtain ⟨g, o, rfl, hg, hc⟩ := HCA.out j s hs
          have ca := hc w5 HB.out
          have lg : g < w5.heap.size := by have := HB.out.size; omega
          have hlk := HLK.out s (List.mem_of_getElem? hs)
          have k1 : (0 : Int) ≤ (j : Int) := Int.natCast_nonneg _
          have k2 : (j : Int) < (na : Int) := by omega
          rcases Nat.eq_zero_or_pos j with h0 | h0
          · subst h0
            rw [Nat.add_zero] at ca
            clear hs hc
            go_wp2_with fail
            go_roundw
            case rel => exact ⟨0 + 1, by omega, by go_num, by first | rfl | trivial⟩
            case measure => simp [intOf]; omega
          · obtain ⟨s1, hs1⟩ := get_some (show j - 1 < a.length by rw [← HNA.out]; omega)
            obtain ⟨g', o', hA', hg', hc'⟩ := HCA.out (j - 1) s1 hs1
            obtain ⟨rfl, rfl⟩ : g = g' ∧ o = o' := by simpa using hA'
            have cb := hc' w5 HB.out
            have hlt3 : Ky.lt s1 s = true := by
              have h1 := List.pairwise_iff_getElem.1 HST.out (j - 1) j (by rw [← HNA.out]; omega) (by rw [← HNA.out]; exact hlt2) (by omega)
              rw [(List.getElem?_eq_some_iff.1 hs1).2, (List.getElem?_eq_some_iff.1 hs).2] at h1
              exact h1
            obtain ⟨bx, by_, e1, e2, _, _, _, e6, e7⟩ := sv_way s1 s
            rw [hlt3] at e6
            rw [Ky.lt_asym hlt3] at e7
            rw [e1] at cb
            rw [e2] at ca hlk
            have k3 : (0 : Int) < (j : Int) := by omega
            have k5 : (0 : Int) ≤ (j : Int) - 1 := by omega
            have k6 : (j : Int) - 1 < (na : Int) := by omega
            have e8 : ((j : Int) - 1).toNat = j - 1 := by omega
            clear hs hc hs1 hc' hA' hg' e1 e2
            go_wp2_with fail
            go_roundw
            case rel => exact ⟨j + 1, by omega, by go_num, by first | rfl | trivial⟩
            case measure => simp [intOf]; omega
        · obtain rfl : j = na := by omega
          have k5 : ¬ (j : Int) < (j : Int) := by omega
          go_wp2_with fail
          go_ret
          exact ⟨rfl, HB.out⟩
end Go.Proofs.YtckdofjpoajblaaGreat
namespace Go.Proofs.YtckdofjpoajblaaGreat
open Go.RowKit
set_option linter.unusedVariables false
open Go.ChangeShapes Go.WideShapes Go.ChangeAt
set_option maxRecDepth 100000 in
/-- a program, handed in as an argument -/
theorem prog_arg {H : Type} {enc : TypeId × Value → H} {W : World} {base : Nat} {v : Value} {d : DataW H} {q : List MemPlace}
    (o : Value.okWide Tryz.prog W .any base 24 v) (h : DataW.Trod enc Tryz.prog W 0 (fun _ => true) true 24 v d q) : ∃ (p : Pg) (A : Option Addr) (cap : Nat), v = valP p A cap ∧ PgIn W p A := by
  obtain ⟨cs, rfl, hsz⟩ := okWide_struct Tryz.underlying24 o
  obtain ⟨fuel, hf⟩ := h
  obtain ⟨p, A, cap, hcs, hcd, h1, h2, h3, _⟩ := prog_read fuel cs.toList _ (by simpa [Value.cells] using hf)
  obtain rfl : cs = #[.int .i64 p.vars, .int .i64 p.mtx, .slice A p.code.length cap] := by
    apply Array.ext'
    simpa using hcs
  exact ⟨p, A, cap, rfl, hcd, Nat.le_trans h1 h2, h3⟩
end Go.Proofs.YtckdofjpoajblaaGreat
namespace Go.Proofs.YtckdofjpoajblaaGreat
open Go.RowKit
set_option linter.unusedVariables false
open Go.ChangeShapes Go.WideShapes Go.ChangeAt
set_option maxRecDepth 100000 in
theorem u8_readW {H : Type} {enc : TypeId × Value → H} {w : World} {base : Nat} {spare : Nat → Bool} {held : Bool} (fuel : Nat) (cs : List Value) (y : DataW H × List MemPlace) (hl : cs.length = 1)
    (h : DataW.trod enc Tryz.prog w base spare held fuel 5 cs = some y) : ∃ x : Nat, cs = [.int .u8 x] ∧ x ≤ 255 := by
  obtain ⟨p, e, w⟩ := tr_int Tryz.underlying5 h
  obtain ⟨m, rfl, h⟩ := u8_bounds w
  exact ⟨m, e, h⟩
theorem flat_u8sW (xs : List Nat) : xs.flatMap (fun (s : Nat) => [Value.int .u8 (s : Int)]) = xs.map (fun (t : Nat) => Value.int .u8 (t : Int)) := by induction xs <;> simp_all
set_option maxRecDepth 100000 in
/-- a row of bytes, handed in as an argument -/
theorem u8s_arg {H : Type} {enc : TypeId × Value → H} {W : World} {base : Nat} {v : Value} {d : DataW H} {q : List MemPlace}
    (o : Value.okWide Tryz.prog W .any base 43 v) (h : DataW.Trod enc Tryz.prog W 0 (fun _ => true) true 43 v d q) : ∃ (ts : List Nat) (A : Option Addr) (cap : Nat), v = .slice A ts.length cap ∧ Rd W 1 A ts.length (ts.map (fun (t : Nat) => Value.int .u8 (t : Int))) ∧ ts.length ≤ maxLen ∧ ∀ t ∈ ts, t ≤ 255 := by
  obtain ⟨f2, hf2⟩ := h
  obtain ⟨C, len2, cap2, rfl⟩ := okWide_slice Tryz.underlying43 o
  obtain ⟨ss, hl, hg, hr2, h5, h6⟩ := tr_list (f := fun (s : Nat) => [Value.int .u8 (s : Int)]) (sz := 1) (by omega) Tryz.underlying43 (by kernel_rfl) u8_readW (by simpa [Value.cells] using hf2)
  subst hl
  exact ⟨ss, C, cap2, rfl, flat_u8sW ss ▸ hr2, Nat.le_trans h5 h6, hg⟩
end Go.Proofs.YtckdofjpoajblaaGreat
namespace Go.Proofs.YtckdofjpoajblaaGreat
open Go.RowKit
set_option linter.unusedVariables false
theorem rep_store {V : World} {Y : Nat} {T : TypeId} {a0 a1 a2 a3 a4 : Value} (hk : V.heap[Y]? = some (.cells #[a0, a1, a2, a3, a4] T (0, 0))) (v0 v1 v2 v3 v4 : Value) :
    ∃ V2, V2 = ((((V.setCell ⟨Y, 0, none⟩ v0).setCell ⟨Y, 1, none⟩ v1).setCell ⟨Y, 2, none⟩ v2).setCell ⟨Y, 3, none⟩ v3).setCell ⟨Y, 4, none⟩ v4 ∧ V2.heap[Y]? = some (.cells #[v0, v1, v2, v3, v4] T (0, 0)) ∧ Mod (fun q => q = Y) V V2 := by
  have hk2 := set_blk (set_blk (set_blk (set_blk (set_blk hk 0 v0) 1 v1) 2 v2) 3 v3) 4 v4
  refine ⟨_, rfl, by simpa using hk2, ?_⟩
  exact (((((Mod.refl (fun q => q = Y) V).setCell (p := ⟨Y, 0, none⟩) (fun _ => rfl) _).setCell (p := ⟨Y, 1, none⟩) (fun _ => rfl) _).setCell (p := ⟨Y, 2, none⟩) (fun _ => rfl) _).setCell (p := ⟨Y, 3, none⟩) (fun _ => rfl) _).setCell (p := ⟨Y, 4, none⟩) (fun _ => rfl) _
theorem mod_nat (n : Int) (q : Nat) (h1 : 1 ≤ q) (h2 : q ≤ 1000) : ∃ m : Nat, m < q ∧ wrap64 ((IntKind.u64.wrap n).tmod (q : Int)) = (m : Int) := by
  have h0 : 0 ≤ IntKind.u64.wrap n := by simp [IntKind.wrap, IntKind.signed, IntKind.bits]; omega
  generalize IntKind.u64.wrap n = u at h0
  have e1 : u.tmod (q : Int) = u % (q : Int) := Int.tmod_eq_emod_of_nonneg h0
  have e2 : 0 ≤ u % (q : Int) := Int.emod_nonneg _ (by omega)
  have e3 : u % (q : Int) < (q : Int) := Int.emod_lt_of_pos _ (by omega)
  refine ⟨(u % (q : Int)).toNat, by omega, ?_⟩
  rw [e1, IntWalk.wrap64_in _ (by omega)]
  omega
theorem rd_store {w w' : World} {A : Option Addr} {n : Nat} {ks : List Ky.K} {Y : Nat} {T : TypeId} (h : Rd w 1 A n (ks.map sv)) (hY : w.heap[Y]? = some (.cells #[.slice none 0 0, .int .i64 0, .int .i64 0, .int .i64 0, .bool false] T (0, 0))) (hm : Mod (fun q => q = Y) w w') : Rd w' 1 A n (ks.map sv) := by
  refine ⟨h.1, fun hp => ?_⟩
  obtain ⟨g, o, hA, hg, hc⟩ := h.2 hp
  have hl := h.1
  rw [List.length_map] at hl
  have hn : 0 < ks.length := by omega
  have hne : g ≠ Y := by
    intro e
    subst e
    have h0 := hc 0 (by omega)
    rw [cell_blk hY, List.getElem?_map, List.getElem?_eq_getElem hn] at h0
    rcases (show o + 0 = 0 ∨ o + 0 = 1 ∨ o + 0 = 2 ∨ o + 0 = 3 ∨ o + 0 = 4 ∨ 5 ≤ o + 0 by omega) with e | e | e | e | e | e
    · rw [e] at h0; simp [sv] at h0
    · rw [e] at h0; simp [sv] at h0
    · rw [e] at h0; simp [sv] at h0
    · rw [e] at h0; simp [sv] at h0
    · rw [e] at h0; simp [sv] at h0
    · rw [Array.getElem?_eq_none (by simpa using e)] at h0
      cases h0
  exact ⟨g, o, hA, Nat.lt_of_lt_of_le hg hm.size, fun j hj => (hm.cell g (o + j) hg hne).trans (hc j hj)⟩
theorem explore_law (W : World) (p : Pg) (A : Option Addr) (cap m b : Nat) (od : List Nat) (hp : PgIn W p A) (hm8 : m ≤ 8) (hok : Pr.Ok p) (hb : b ≤ 1000) (h255 : ∀ b ∈ od, b ≤ 255) (hol : od.length ≤ 1000) :
    ∀ u, Below W.heap.size W u → ∀ (OA : Option Addr) (oc : Nat), Rd u 1 OA od.length (od.map fun (b : Nat) => Value.int .u8 (b : Int)) → Calls Tryz.prog 36 #[valP p A cap, .int .i64 (m : Int), .int .i64 (b : Int), .slice OA od.length oc] u fun x w' =>
      (∃ KA kc, x = .returned (.tuple #[.agg #[.slice KA (Pr.ksE (Pr.start p m) (max b 1) od).length kc, .int .i64 ((Pr.explX (Pr.start p m) (max b 1) od).1.nodes : Int), .int .i64 ((Pr.explX (Pr.start p m) (max b 1) od).1.runs : Int), .int .i64 ((Pr.explX (Pr.start p m) (max b 1) od).1.blk : Int), .bool (Pr.explX (Pr.start p m) (max b 1) od).2], .int .i64 0]) ∧ Rd w' 1 KA (Pr.ksE (Pr.start p m) (max b 1) od).length ((Pr.ksE (Pr.start p m) (max b 1) od).map sv)) ∧ Below u.heap.size u w' := fun u hu OA oc hr => by
  refine (explore_ok u p A cap m b OA oc od (hp.below hu) hm8 hok hb hr h255 hol).mono ?_
  rintro x w' ⟨KA, kc, rfl, h1, _, h3⟩
  exact ⟨⟨KA, kc, rfl, h1⟩, h3⟩
end Go.Proofs.YtckdofjpoajblaaGreat
