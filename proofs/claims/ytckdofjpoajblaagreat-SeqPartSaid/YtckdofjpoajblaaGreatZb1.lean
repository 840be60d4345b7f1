/- Part 1 of the proof of seqPart_holds: what it rests on. -/
import Derived.WalkKit
import Derived.WalkSpells
import Derived.WalkLawsBesides
import Derived.ArgAppend
import Derived.Deep.AppendLies
import Derived.Deep.RegionHeld3
import Derived.KernelRfl
import Derived.OrdersHeld
import Derived.ProofKit
import Derived.OpenShut
import Derived.ShutString
import Derived.ChangeOld
import Derived.Below
import Derived.SizedLaws
import Derived.Lib.Hide
import Derived.Test.YtckdofjpoajblaaGreatRows
import Derived.Outline
import Derived.Deep.CutBlock
import Derived.IntWalk
import Derived.Lib.MinMax
import Derived.Laws.StructEq
import Derived.Shelf.SlicesE.Kit
import Derived.Maps.RangeWalk
import Derived.Laws.BytesArg
import Derived.Lib.ConvBytes
import Derived.Deep.DeepCutAuto
import Derived.Lib.AppendZeros
import Derived.Lib.Walk
import Derived.Lib.SliceRun
import Derived.Shelf.Strings.Builder1
import Derived.Shelf.Small.Bits
import Derived.Shelf.Small.Wraps
import Derived.Shelf.Strings.BuilderF
import Derived.Shelf.Strings.BuilderK
import Derived.Shelf.Strconv.Itoa0
import Derived.Shelf.Sort.Plain
import Derived.Shelf.Slices.CompactS
import Derived.Ground.Names2Prog
import Derived.Shelf.Slices.SearchI
import Derived.Shelf.Slices.Cells
import Derived.Shelf.Slices.In.SortNone
import Derived.Ground.SlsfProg
import Derived.Shelf.SlSortCmp.InsertionK
import Derived.Shelf.SlSortCmp.SmallK
import Derived.Test.YtckdofjpoajblaaGreatProg
import Derived.Lib.AppendIntMem
import Derived.Laws.Bits64b
import Derived.Laws.EntriesVeiled
import Derived.Lib.SlicesCompact
import Derived.Sort.Walk0
import Derived.Deep.LoopGhost
import Derived.JoinedTies
import GoSem.Claim
import Derived.Test.YtckdofjpoajblaaGreatZa15
namespace Go.Proofs.YtckdofjpoajblaaGreat
open Go.RowKit
set_option linter.unusedVariables false
set_option linter.unusedSimpArgs false
section
variable {K V : Type} [DecidableEq K]
def mget : List (K × V) → K → Option V
  | [], _ => none
  | (a, v) :: m, k => if k = a then some v else mget m k
def mput : List (K × V) → K → V → List (K × V)
  | [], k, x => [(k, x)]
  | (a, v) :: m, k, x => if k = a then (k, x) :: m else (a, v) :: mput m k x
theorem mget_mput (m : List (K × V)) (k j : K) (x : V) : mget (mput m k x) j = if j = k then some x else mget m j := by
  induction m with
  | nil => simp [mput, mget]
  | cons p m ih =>
    obtain ⟨a, v⟩ := p
    simp only [mput]
    by_cases h : k = a
    · subst h
      rw [if_pos rfl]
      simp only [mget]
      by_cases h2 : j = k <;> simp [h2]
    · rw [if_neg h]
      simp only [mget]
      by_cases h2 : j = a
      · subst h2
        rw [if_pos rfl, if_neg (fun e => h e.symm), if_pos rfl]
      · rw [if_neg h2, ih, if_neg h2]
theorem mput_keys (m : List (K × V)) (k : K) (x : V) : ∀ j, j ∈ (mput m k x).map (·.1) ↔ j = k ∨ j ∈ m.map (·.1) := by
  induction m with
  | nil => simp [mput]
  | cons p m ih =>
    obtain ⟨a, v⟩ := p
    intro j
    simp only [mput]
    by_cases h : k = a
    · subst h; simp
    · rw [if_neg h]
      simp only [List.map_cons, List.mem_cons, ih]
      constructor
      · rintro (h | h | h)
        · exact .inr (.inl h)
        · exact .inl h
        · exact .inr (.inr h)
      · rintro (h | h | h)
        · exact .inr (.inl h)
        · exact .inl h
        · exact .inr (.inr h)
theorem mput_nodup {m : List (K × V)} (h : (m.map (·.1)).Nodup) (k : K) (x : V) : ((mput m k x).map (·.1)).Nodup := by
  induction m with
  | nil => simp [mput]
  | cons p m ih =>
    obtain ⟨a, v⟩ := p
    simp only [List.map_cons, List.nodup_cons] at h
    simp only [mput]
    by_cases hk : k = a
    · subst hk
      rw [if_pos rfl]
      simp only [List.map_cons, List.nodup_cons]
      exact h
    · rw [if_neg hk]
      simp only [List.map_cons, List.nodup_cons]
      refine ⟨fun hm => ?_, ih h.2⟩
      rcases (mput_keys m k x a).1 hm with e | e
      · exact hk e.symm
      · exact h.1 e
theorem mget_none {m : List (K × V)} {k : K} : mget m k = none ↔ k ∉ m.map (·.1) := by
  induction m with
  | nil => simp [mget]
  | cons p m ih =>
    obtain ⟨a, v⟩ := p
    simp only [mget, List.map_cons, List.mem_cons]
    by_cases h : k = a
    · simp [h]
    · simp [h, ih]
end
theorem ba_ext {a b : ByteArray} (h : a.toList = b.toList) : a = b := by
  rw [ByteArray.toList_eq, ByteArray.toList_eq] at h
  obtain ⟨x⟩ := a
  obtain ⟨y⟩ := b
  congr 1
  exact Array.ext' h
theorem ba_beq (a b : ByteArray) : (a == b) = decide (a = b) := by
  rw [beq_toListBytes]
  by_cases h : a = b
  · subst h; simp
  · rw [decide_eq_false h, beq_eq_false_iff_ne]
    exact fun e => h (ba_ext e)
section
variable {K : Type} [DecidableEq K]
theorem mfind_val (m : List (K × Value)) (k : K) (i : Nat) : (mfind m k i).map (·.2) = mget m k := by
  induction m generalizing i with
  | nil => rfl
  | cons p m ih =>
    obtain ⟨a, v⟩ := p
    simp only [mfind, mget]
    split
    · rfl
    · exact ih (i + 1)
end
theorem findNow_is {K : Type} [DecidableEq K] {kk : K → Value} {desc : TypeDesc} (same : ∀ a b, Instr.sameNow desc (kk a) (kk b) = some (decide (a = b))) (es : List MapEntry) (m : List (K × Value)) (h : es.map (fun e => (e.key, e.val)) = m.map (fun p => (kk p.1, p.2))) (k : K) (i : Nat) : Instr.findNow desc (kk k) es i = some (mfind m k i) := by
  induction m generalizing es i with
  | nil =>
    cases es with
    | nil => rfl
    | cons e es => simp at h
  | cons p m ih =>
    obtain ⟨a, v⟩ := p
    cases es with
    | nil => simp at h
    | cons e es =>
      simp only [List.map_cons, List.cons.injEq, Prod.mk.injEq] at h
      obtain ⟨⟨h1, h2⟩, h3⟩ := h
      simp only [Instr.findNow, h1, same, mfind]
      by_cases hk : k = a
      · simp [hk, h2]
      · simp [hk, ih es h3 (i + 1)]
theorem findKey_now {P : Program} {kt : TypeId} {K : Type} [DecidableEq K] {kk : K → Value} {desc : TypeDesc} (hu : P.underlying kt = some desc) (same : ∀ a b, Instr.sameNow desc (kk a) (kk b) = some (decide (a = b))) (w : World) (es : Array MapEntry) (m : List (K × Value)) (h : ents es = m.map (fun p => (kk p.1, p.2))) (k : K) : (Instr.findKey kt (kk k) es.toList).run P w = .ok (mfind m k 0) w := by
  have := findNow_is same es.toList m h k 0
  simp [Instr.findKey, run_underlying hu, this]
theorem inj_now {K : Type} [DecidableEq K] {kk : K → Value} {desc : TypeDesc} (same : ∀ a b, Instr.sameNow desc (kk a) (kk b) = some (decide (a = b))) {a b : K} (h : kk a = kk b) : a = b := by
  have h1 := same a b
  rw [← h, same a a] at h1
  simpa using h1
theorem same_str (a b : ByteArray) : Instr.sameNow .string (.string a) (.string b) = some (decide (a = b)) := by simp only [Instr.sameNow, ba_beq]
def keyStr {P : Program} {kt : TypeId} (h : P.underlying kt = some .string) : KeyK P kt ByteArray where
  kk := .string
  inj := inj_now same_str
  fk := findKey_now h same_str
  bits := fun a => by rw [show (10000 : Nat) = 9999 + 1 from rfl, Instr.sameBits, ba_beq]; simp
  chk := fun b a w => by rw [show (10000 : Nat) = 9999 + 1 from rfl, Instr.checkKey]; simp [run_underlying h]
section
variable {P : Program} {kt : TypeId} {K : Type} [DecidableEq K] (kd : KeyK P kt K)
theorem findKey_is (w : World) (es : Array MapEntry) (m : List (K × Value)) (h : ents es = m.map (fun p => (kd.kk p.1, p.2))) (k : K) : (Instr.findKey kt (kd.kk k) es.toList).run P w = .ok (mfind m k 0) w := kd.fk w es m h k
theorem run_lookup {w : World} {mt e : TypeId} (ht : P.underlying mt = some (.map kt e)) {z : Value} (hz : ∀ w, (zeroValue e).run P w = .ok z w) {r : Nat} {m : List (K × Value)} (h : MapAt kd w r m) (k : K) (ok : Bool) :
    (Instr.lookup mt (.map (some r)) (kd.kk k) ok).run P w = .ok (if ok then .tuple #[(mget m k).getD z, .bool (mget m k).isSome] else (mget m k).getD z) w := by
  obtain ⟨es, c, h1, h2, h3⟩ := h
  have hf := findKey_is kd w es m h2 k
  have hv := mfind_val m k 0
  have hg : (getObj r).run P w = .ok (.map es c) w := by simp [getObj, Sem.run, h1]
  unfold Instr.lookup
  simp only [Sem.run_bind, run_underlying ht, Result.andThen_ok, hg, Sem.run_pure, kd.chk, hf]
  cases hm : mfind m k 0 with
  | none =>
    rw [hm] at hv
    simp only [Option.map_none] at hv
    rw [← hv]
    simp [hz, Result.andThen]
  | some p =>
    rw [hm] at hv
    simp only [Option.map_some] at hv
    rw [← hv]
    simp
theorem mod_setObj (w : World) (r : Nat) (o : Obj) : Mod (fun k => k = r) w { w with heap := w.heap.setIfInBounds r o } :=
  ⟨rfl, rfl, rfl, by simp, fun k hk hn => by
    show (w.heap.setIfInBounds r o)[k]? = _
    rw [Array.getElem?_setIfInBounds_ne (fun e => hn e.symm)]⟩
theorem blk_setObj {w : World} {r : Nat} (o : Obj) (h : r < w.heap.size) : ({ w with heap := w.heap.setIfInBounds r o } : World).heap[r]? = some o := by
  show (w.heap.setIfInBounds r o)[r]? = _
  simp [h]
theorem ents_modify (es : Array MapEntry) (m : List (K × Value)) (h : ents es = m.map (fun p => (kd.kk p.1, p.2))) (k : K) (x : Value) {i : Nat} {v : Value} (hf : mfind m k 0 = some (i, v)) :
    ents (es.modify i fun e => { e with key := kd.kk k, val := x }) = (mput m k x).map (fun p => (kd.kk p.1, p.2)) ∧ (es[i]?).map (·.key) = some (kd.kk k) := by
  have gen : ∀ (m : List (K × Value)) (es : List MapEntry) (i j : Nat), es.map (fun e => (e.key, e.val)) = m.map (fun p => (kd.kk p.1, p.2)) → mfind m k j = some (i + j, v) →
      (es.modify i (fun e => { e with key := kd.kk k, val := x })).map (fun e => (e.key, e.val)) = (mput m k x).map (fun p => (kd.kk p.1, p.2)) ∧ (es[i]?).map (·.key) = some (kd.kk k) := by
    intro m
    induction m with
    | nil => intro es i j h hf; cases hf
    | cons p m ih =>
      obtain ⟨a, u⟩ := p
      intro es i j h hf
      cases es with
      | nil => simp at h
      | cons e es =>
        simp only [List.map_cons, List.cons.injEq, Prod.mk.injEq] at h
        obtain ⟨⟨h1, h2⟩, h3⟩ := h
        simp only [mfind] at hf
        simp only [mput]
        by_cases hk : k = a
        · subst hk
          rw [if_pos rfl] at hf ⊢
          injection hf with hf
          injection hf with hf _
          have hi : i = 0 := by omega
          subst hi
          simp [h1, h3]
        · rw [if_neg hk] at hf ⊢
          cases i with
          | zero =>
            have hge : ∀ (m : List (K × Value)) (j i : Nat) v, mfind m k j = some (i, v) → j ≤ i := by
              intro m
              induction m with
              | nil => intro j i v h; cases h
              | cons q m ih2 =>
                intro j i v h
                obtain ⟨b, u2⟩ := q
                simp only [mfind] at h
                split at h
                · injection h with h; injection h with h _; omega
                · have := ih2 _ _ _ h; omega
            have := hge _ _ _ _ hf
            omega
          | succ i =>
            have := ih es i (j + 1) h3 (by rw [hf]; congr 2; omega)
            simp only [List.modify_succ_cons, List.map_cons, List.getElem?_cons_succ, this.1, h1, h2]
            exact ⟨trivial, this.2⟩
  have := gen m es.toList i 0 h hf
  refine ⟨?_, by simpa using this.2⟩
  unfold ents
  rw [Array.toList_modify]
  exact this.1
theorem ents_push (es : Array MapEntry) (m : List (K × Value)) (h : ents es = m.map (fun p => (kd.kk p.1, p.2))) (k : K) (x : Value) (c : Nat) (hf : mfind m k 0 = none) :
    ents (es.push { key := kd.kk k, val := x, born := c }) = (mput m k x).map (fun p => (kd.kk p.1, p.2)) := by
  have gen : ∀ (m : List (K × Value)) j, mfind m k j = none → mput m k x = m ++ [(k, x)] := by
    intro m
    induction m with
    | nil => intro j _; rfl
    | cons p m ih =>
      obtain ⟨a, u⟩ := p
      intro j hf
      simp only [mfind] at hf
      split at hf
      · cases hf
      · rename_i hk
        simp only [mput]
        rw [if_neg hk, ih _ hf, List.cons_append]
  rw [gen m 0 hf, List.map_append, ← h]
  simp [ents]
theorem run_mapUpdate {w : World} {mt e : TypeId} (ht : P.underlying mt = some (.map kt e)) {r : Nat} {m : List (K × Value)} (h : MapAt kd w r m) (k : K) (x : Value) :
    ∃ w', (Instr.mapUpdate mt (.map (some r)) (kd.kk k) x).run P w = .ok () w' ∧ MapAt kd w' r (mput m k x) ∧ Mod (fun q => q = r) w w' := by
  obtain ⟨es, c, h1, h2, h3⟩ := h
  have hl := blk_lt h1
  have hf := findKey_is kd w es m h2 k
  have hg : (getObj r).run P w = .ok (.map es c) w := by simp [getObj, Sem.run, h1]
  have hs : ∀ o, (setObj r o).run P w = .ok () { w with heap := w.heap.setIfInBounds r o } := fun o => by simp [setObj, Sem.run, h1]
  unfold Instr.mapUpdate
  simp only [Sem.run_bind, run_underlying ht, Result.andThen_ok, hg, Sem.run_pure, kd.chk, hf]
  cases hm : mfind m k 0 with
  | none =>
    refine ⟨_, hs _, ⟨_, _, blk_setObj _ hl, ents_push kd es m h2 k x c hm, mput_nodup h3.1 k x, MapKept.stamped_push h3.2 (fun y hy e => ?_)⟩, mod_setObj _ _ _⟩
    have hin : (y.key, y.val) ∈ ents es := List.mem_map.2 ⟨y, hy, rfl⟩
    rw [h2] at hin
    obtain ⟨q, hq, hqe⟩ := List.mem_map.1 hin
    injection hqe with e1 e2
    have hk : q.1 = k := kd.inj (e1.trans e)
    have hv := mfind_val m k 0
    rw [hm] at hv
    exact mget_none.1 hv.symm (hk ▸ List.mem_map.2 ⟨q, hq, rfl⟩)
  | some p =>
    obtain ⟨i, v⟩ := p
    obtain ⟨q1, q2⟩ := ents_modify kd es m h2 k x hm
    have hk : (Instr.keyThatStays (((es[i]?).map (·.key)).getD (kd.kk k)) (kd.kk k)).run P w = .ok (kd.kk k) w := by
      rw [q2]
      simp [Instr.keyThatStays, kd.bits]
    simp only [Sem.run_bind, hk, Result.andThen_ok]
    exact ⟨_, hs _, ⟨_, _, blk_setObj _ hl, q1, mput_nodup h3.1 k x, MapKept.stamped_modify h3.2 i _ (fun _ _ => rfl) (fun y _ hy => by rw [hy] at q2; simp at q2; exact q2.symm)⟩, mod_setObj _ _ _⟩
theorem wpList_mapUpdate {w : World} {ops : Array Oper} {rest : List Oper} {o : Oper} {a : Act} {Q : Exit → Act → World → Prop} (hgd : o.guard = none) (ma x v : Operand) (mt e : TypeId) (ho : o.op = Op.mapUpdate mt ma x v)
    (ht : P.underlying mt = some (.map kt e)) (r : Nat) (m : List (K × Value)) (hm : a.eval ma = .map (some r)) (h : MapAt kd w r m) (k : K) (hx : a.eval x = kd.kk k) (val : Value) (hv : a.eval v = val)
    (hK : ∀ w', MapAt kd w' r (mput m k val) → Mod (fun q => q = r) w w' → wpList P ops Q rest (a.put o.dst undef) w') : wpList P ops Q (o :: rest) a w := by
  refine wpList_plain hgd fun K' hK' => ?_
  obtain ⟨w', hr, h1, h2⟩ := run_mapUpdate kd ht h k val
  unfold Oper.wp
  simp [execOp, ho, hm, hx, hv, hr, Result.andThen]
  exact hK' _ _ (hK w' h1 h2)
end
end Go.Proofs.YtckdofjpoajblaaGreat
namespace Go.Proofs.YtckdofjpoajblaaGreat
open Go.RowKit
set_option linter.unusedVariables false
theorem fits_any (w : World) (a b : Nat) : Calls Tryz.prog 39 #[.int .i64 (a : Int), .int .i64 (b : Int)] w fun x w' => x = .returned (.bool (decide (a ≤ b))) ∧ w = w' := by
  go_enter Tryz.func39, Tryz.ntmps39
  go_wp2_with fail
  go_ret
  exact ⟨by first | rfl | trivial | simp, by first | rfl | trivial⟩
noncomputable abbrev Tryz.keySq : KeyK Tryz.prog 9 ByteArray := keyStr Tryz.underlying9
def HasSq (m : List (ByteArray × Value)) (l : List Ky.K) : Prop := ∀ x : Ky.K, mget m ⟨x.toArray⟩ = if x ∈ l then some (.bool true) else none
theorem hasSq_put {m : List (ByteArray × Value)} {U : List Ky.K} {i : Nat} {s : Ky.K} (hs : U[i]? = some s) (h : HasSq m (U.take i)) : HasSq (mput m ⟨s.toArray⟩ (.bool true)) (U.take (i + 1)) := fun x => by
  rw [mget_mput, h x, List.take_add_one, hs]
  have e : ((⟨x.toArray⟩ : ByteArray) = ⟨s.toArray⟩) ↔ x = s := ⟨fun e => by injection e with e; simpa using congrArg Array.toList e, fun e => by rw [e]⟩
  by_cases hx : x = s
  · subst hx
    rw [if_pos rfl, if_pos (by simp)]
  · rw [if_neg (fun h => hx (e.1 h))]
    simp [hx]
theorem HasSq.look {w : World} {K : Nat} {m : List (ByteArray × Value)} {l : List Ky.K} (hm : MapAt Tryz.keySq w K m) (h : HasSq m l) {s : Ky.K} (hs : s ∈ l) : (Instr.lookup 140 (.map (some K)) (.string ⟨s.toArray⟩) false).run Tryz.prog w = .ok (.bool true) w := by
  have := run_lookup Tryz.keySq (w := w) Tryz.underlying140 (z := .bool false) (fun w => by kernel_rfl) hm ⟨s.toArray⟩ false
  rw [h s, if_pos hs] at this
  exact this
set_option maxRecDepth 100000 in
set_option maxHeartbeats 4000000 in
theorem in_any (w : World) (A : Option Addr) (cap : Nat) (a : List Ky.K) (B : Option Addr) (cap' : Nat) (b : List Ky.K) (ha : Rd w 1 A a.length (a.map sv)) (hb : Rd w 1 B b.length (b.map sv)) (hla : a.length ≤ 100000) (hlb : b.length ≤ 100000) (hsub : ∀ k ∈ a, k ∈ b) (hst : Ky.Strict a) :
    Calls Tryz.prog 38 #[.slice A a.length cap, .slice B b.length cap'] w fun x w' => x = .returned (.bool true) ∧ Below w.heap.size w w' := by
  have hmk := @run_makeMap Tryz.prog
  obtain ⟨V, hV⟩ : ∃ V, V = w.alloc (Obj.map #[] 0) := ⟨_, rfl⟩
  obtain ⟨M, hM⟩ : ∃ M, M = w.heap.size := ⟨_, rfl⟩
  have hmade := MapAt.made Tryz.keySq w 0
  rw [← hV, ← hM] at hmade
  have hbV : Below w.heap.size w V := by rw [hV]; exact (Below.refl _ _).alloc (Nat.le_refl _) _
  have hca := str_cell ha.toB
  have hcb := str_cell hb.toB
  obtain ⟨na, hna⟩ : ∃ n, n = a.length := ⟨_, rfl⟩
  obtain ⟨nb, hnb⟩ : ∃ n, n = b.length := ⟨_, rfl⟩
  rw [← hna] at hla
  rw [← hnb] at hlb
  rw [← hna, ← hnb]
  have HMADE := Lib.hid hmade
  have HBV := Lib.hid hbV
  have HCA := Lib.hid hca
  have HCB := Lib.hid hcb
  have HNA := Lib.hid hna
  have HNB := Lib.hid hnb
  have HSUB := Lib.hid hsub
  have HST := Lib.hid hst
  have HM := Lib.hid hM
  clear hmade hbV hca hcb hna hnb hsub hst ha hb
  go_enter Tryz.func38, Tryz.ntmps38
  go_upto_region 2 with fail
  rw [← hV, ← hM]
  clear hV hM hmk
  go_wp2_with fail
  go_loopw [13] (fun v wr => ∃ (i : Nat) (m : List (ByteArray × Value)), i ≤ nb ∧ v = .int .i64 i ∧ Hid (MapAt Tryz.keySq wr M m) ∧ Hid (HasSq m (b.take i)) ∧ Hid (Below w.heap.size w wr)) (fun v _ => nb - (intOf v).toNat)
  case atStart => exact ⟨0, [], Nat.zero_le _, rfl, HMADE, Lib.hid (fun x => by simp [mget]), HBV⟩
  case round =>
    clear HMADE HBV
    obtain ⟨i, m, hi, rfl, HMP, HHAS, HB⟩ := hrel
    by_cases hlt : i < nb
    · obtain ⟨s, hs⟩ := get_some (show i < b.length by rw [← HNB.out]; exact hlt)
      obtain ⟨g, o, rfl, hg, hc⟩ := HCB.out i s hs
      have ca := hc wr HB.out
      have lg : g < wr.heap.size := by have := HB.out.size; omega
      have HS := Lib.hid hs
      have k1 : (0 : Int) ≤ (i : Int) := Int.natCast_nonneg _
      have k2 : (i : Int) < (nb : Int) := by omega
      clear hs hc
      go_wp2_with (at_mapUpdate; refine wpList_mapUpdate Tryz.keySq (by rfl) _ _ _ 140 4 (by rfl) Tryz.underlying140 M m (by rfl) HMP.out ⟨s.toArray⟩ (by rfl) (.bool true) (by rfl) ?_; intro w8 mp8 m8)
      go_roundw
      case rel =>
        exact ⟨i + 1, _, by omega, by go_num, Lib.hid mp8, Lib.hid (hasSq_put HS.out HHAS.out), Lib.hid (HB.out.trans (m8.below w.heap.size HB.out.size (fun q hq h => by have := HM.out; omega)))⟩
      case measure => simp [intOf]; omega
    · obtain rfl : i = nb := by omega
      have hall := HHAS.out
      rw [List.take_of_length_le (by rw [← HNB.out]; exact Nat.le_refl _)] at hall
      have hlook : ∀ s ∈ a, (Instr.lookup 140 (.map (some M)) (.string ⟨s.toArray⟩) false).run Tryz.prog wr = .ok (.bool true) wr := fun s hs => HasSq.look HMP.out hall (HSUB.out s hs)
      have HLK := Lib.hid hlook
      obtain ⟨w5, hw5⟩ : ∃ z, z = wr := ⟨_, rfl⟩
      rw [← hw5] at HLK HB
      rw [← hw5]
      clear hall HHAS HMP hlook hw5
      have k4 : ¬ (i : Int) < (i : Int) := by omega
      go_wp2_with fail
      go_loopw [22] (fun v wz => ∃ j : Nat, j ≤ na ∧ v = .int .i64 j ∧ wz = w5) (fun v _ => na - (intOf v).toNat)
      case atStart => exact ⟨0, Nat.zero_le _, rfl, rfl⟩
      case round =>
        obtain ⟨j, hj, rfl, rfl⟩ := hrel
        rename World => w5
        by_cases hlt2 : j < na
        · obtain ⟨s, hs⟩ := get_some (show j < a.length by rw [← HNA.out]; exact hlt2)
          obtain ⟨g, o, rfl, hg, hc⟩ := HCA.out j s hs
          have ca := hc w5 HB.out
          have lg : g < w5.heap.size := by have := HB.out.size; omega
          have hlk := HLK.out s (List.mem_of_getElem? hs)
          have k1 : (0 : Int) ≤ (j : Int) := Int.natCast_nonneg _
          have k2 : (j : Int) < (na : Int) := by omega
          rcases Nat.eq_zero_or_pos j with h0 | h0
          · subst h0
            rw [Nat.add_zero] at ca
            clear hs hc
            go_wp2_with fail
            go_roundw
            case rel => exact ⟨0 + 1, by omega, by go_num, by first | rfl | trivial⟩
            case measure => simp [intOf]; omega
          · obtain ⟨s1, hs1⟩ := get_some (show j - 1 < a.length by rw [← HNA.out]; omega)
            obtain ⟨g', o', hA', hg', hc'⟩ := HCA.out (j - 1) s1 hs1
            obtain ⟨rfl, rfl⟩ : g = g' ∧ o = o' := by simpa using hA'
            have cb := hc' w5 HB.out
            have hlt3 : Ky.lt s1 s = true := by
              have h1 := List.pairwise_iff_getElem.1 HST.out (j - 1) j (by rw [← HNA.out]; omega) (by rw [← HNA.out]; exact hlt2) (by omega)
              rw [(List.getElem?_eq_some_iff.1 hs1).2, (List.getElem?_eq_some_iff.1 hs).2] at h1
              exact h1
            obtain ⟨bx, by_, e1, e2, _, _, _, e6, e7⟩ := sv_way s1 s
            rw [hlt3] at e6
            rw [Ky.lt_asym hlt3] at e7
            rw [e1] at cb
            rw [e2] at ca hlk
            have k3 : (0 : Int) < (j : Int) := by omega
            have k5 : (0 : Int) ≤ (j : Int) - 1 := by omega
            have k6 : (j : Int) - 1 < (na : Int) := by omega
            have e8 : ((j : Int) - 1).toNat = j - 1 := by omega
            clear hs hc hs1 hc' hA' hg' e1 e2
            go_wp2_with fail
            go_roundw
            case rel => exact ⟨j + 1, by omega, by go_num, by first | rfl | trivial⟩
            case measure => simp [intOf]; omega
        · obtain rfl : j = na := by omega
          have k5 : ¬ (j : Int) < (j : Int) := by omega
          go_wp2_with fail
          go_ret
          exact ⟨rfl, HB.out⟩
end Go.Proofs.YtckdofjpoajblaaGreat
namespace Go.Proofs.YtckdofjpoajblaaGreat
open Go.RowKit
set_option linter.unusedVariables false
theorem mod_nat (n : Int) (q : Nat) (h1 : 1 ≤ q) (h2 : q ≤ 1000) : ∃ m : Nat, m < q ∧ wrap64 ((IntKind.u64.wrap n).tmod (q : Int)) = (m : Int) := by
  have h0 : 0 ≤ IntKind.u64.wrap n := by simp [IntKind.wrap, IntKind.signed, IntKind.bits]; omega
  generalize IntKind.u64.wrap n = u at h0
  have e1 : u.tmod (q : Int) = u % (q : Int) := Int.tmod_eq_emod_of_nonneg h0
  have e2 : 0 ≤ u % (q : Int) := Int.emod_nonneg _ (by omega)
  have e3 : u % (q : Int) < (q : Int) := Int.emod_lt_of_pos _ (by omega)
  refine ⟨(u % (q : Int)).toNat, by omega, ?_⟩
  rw [e1, IntWalk.wrap64_in _ (by omega)]
  omega
end Go.Proofs.YtckdofjpoajblaaGreat
namespace Go.Proofs.YtckdofjpoajblaaGreat
open Go.RowKit
set_option linter.unusedVariables false
set_option maxRecDepth 100000 in
set_option maxHeartbeats 16000000 in
theorem seqPart_any (W : World) (p : Pg) (A : Option Addr) (cap : Nat) (f bb : Int) (B : Option Addr) (cap2 : Nat) (ts : List Nat) (hp : PgIn W p A)
    (hr : Rd W 1 B ts.length (ts.map (fun (t : Nat) => Value.int .u8 (t : Int)))) (hg : ∀ t ∈ ts, t ≤ 255) (ht : ts.length ≤ maxLen) :
    Calls Tryz.prog 7 #[valP p A cap, .int .i64 f, .int .i64 bb, .slice B ts.length cap2] W fun e w' => e = .returned (.bool true) ∧ Below W.heap.size W w' := by
  obtain ⟨i8, hi8, h80, h81, h82⟩ := info_parts Tryz.infoU8
  obtain ⟨b, hb6, hbe⟩ := mod_nat bb 600 (by omega) (by omega)
  have HBE := Lib.hid (show wrap64 ((IntKind.u64.wrap bb).tmod 600) = (b : Int) from hbe)
  clear hbe
  obtain ⟨Wa, X, hWa, hX, hBa, hXl, hXe⟩ := pg_box W p.vars p.mtx A p.code.length cap
  have hpa := hp.below hBa
  have hsmall : ∀ u, Below Wa.heap.size Wa u → _ := fun u hu => small_any u p A cap f (hpa.below hu)
  obtain ⟨sm, hsm⟩ : ∃ b, b = Pr.small p f := ⟨_, rfl⟩
  rw [← hsm] at hsmall
  obtain ⟨nt, hnt⟩ : ∃ n, n = ts.length := ⟨_, rfl⟩
  have hm1 : nt < 9223372036854775808 := by rw [hnt]; unfold maxLen at ht; omega
  have HXE := Lib.hid hXe
  have HB := Lib.hid hBa
  have HPA := Lib.hid hpa
  have HSM := Lib.hid hsm
  have HR := Lib.hid hr
  have HG := Lib.hid hg
  have HNT := Lib.hid hnt
  rw [← hnt]
  unfold valP at hsmall ⊢
  have HSMALL := Lib.hid hsmall
  obtain ⟨x0, x1, x2, xl⟩ := hXe Wa (Below.refl _ _)
  clear hXe hBa hsmall hpa hp hsm hr hg ht hnt
  go_enter Tryz.func7, Tryz.ntmps7
  go_upto_region 1 with fail
  rw [← hWa, ← hX]
  clear hWa hX
  go_upto_region 2 with fail
  rw [HBE.out]
  go_cut [29] (fun v w2 => Below Wa.heap.size Wa w2 ∧ ∃ z, v = .bool z ∧ (z = false → sm = true ∧ nt ≤ 500))
  case first =>
    go_wp2_with fail
    refine (awake09 _).mono ?_
    rintro x w1 ⟨rfl, b1⟩
    have HB1 := Lib.hid b1
    clear b1 x0 x1 x2 xl
    obtain ⟨x0, x1, x2, xl⟩ := HXE.out w1 HB1.out
    go_wp2_with fail
    refine (HSMALL.out w1 HB1.out).mono ?_
    rintro x w2 ⟨rfl, b2⟩
    have HB2 := Lib.hid (below_at HB1.out b2)
    clear b2
    cases sm with
    | false =>
      go_wp2_with fail
      go_meet
      exact ⟨HB2.out, _, rfl, fun h => by cases h⟩
    | true =>
      go_wp2_with fail
      all_goals (go_meet)
      all_goals (exact ⟨HB2.out, _, rfl, fun h => by first | (cases h; done) | (simp at h; exact ⟨trivial, by omega⟩) | exact ⟨rfl, by omega⟩⟩)
  case rest =>
    obtain ⟨b1, z, rfl, hz⟩ := hcut
    have HB1 := Lib.hid b1
    clear b1 x0 x1 x2 xl
    cases z with
    | true =>
      go_wp2_with fail
      refine (awake09 _).mono ?_
      rintro e w2 ⟨rfl, b2⟩
      go_wp2_with fail
      go_ret
      exact ⟨rfl, below_at HB.out (below_at HB1.out b2)⟩
    | false =>
      obtain ⟨hs1, hn500⟩ := hz rfl
      subst hs1
      clear hz HSMALL hm1
      obtain ⟨m, rfl, hm8, hok, _, hcnt, hall6⟩ := Pr.small_spec HSM.out.symm
      have hwf := Pr.start_wf hok hm8
      have hfu := Pr.fuels_start hok hm8
      have hel := Pr.ends_len 32 (Pr.start p m) []
      have hkl1 := Pr.keys_len (p := p) (m := m)
      obtain ⟨c, hc⟩ : ∃ c, c = Pr.cnt 32 (Pr.start p m) := ⟨_, rfl⟩
      have hc1 : 1 ≤ c := by rw [hc]; exact Pr.cnt_pos _ _
      rw [← hc] at hcnt hall6 hel
      obtain ⟨bg, hbg⟩ : ∃ z, z = max b 1 := ⟨_, rfl⟩
      have hbgm : max (b : Int) 1 = (bg : Int) := by omega
      have okx := Pr.expl_ok hwf hfu bg ts (by omega)
      have hcm : c ≤ b → (Pr.explX (Pr.start p m) bg ts).2 = true := fun h => okx.compl (by rw [← hc]; omega)
      have hfull := okx.full
      have hrn := okx.runs
      have hnn := okx.nodes
      have hbk := okx.blk
      have hmem := okx.mem
      have hstr := Pr.ksE_strict (Pr.start p m) bg ts
      have hex := explore_law Wa p A cap m b ts HPA.out hm8 hok (by omega) HG.out (by rw [← HNT.out]; omega)
      rw [← hbg] at hex
      obtain ⟨E1, hE1⟩ : ∃ z, z = Pr.explX (Pr.start p m) bg ts := ⟨_, rfl⟩
      rw [← hE1] at hex hcm hfull hrn hnn hbk
      obtain ⟨en, hen⟩ : ∃ n, n = E1.1.nodes := ⟨_, rfl⟩
      obtain ⟨eb, heb⟩ : ∃ n, n = E1.1.blk := ⟨_, rfl⟩
      obtain ⟨er, her⟩ : ∃ n, n = E1.1.runs := ⟨_, rfl⟩
      obtain ⟨cm, hcme⟩ : ∃ n, n = E1.2 := ⟨_, rfl⟩
      obtain ⟨ke, hke⟩ : ∃ n, n = Pr.ksE (Pr.start p m) bg ts := ⟨_, rfl⟩
      rw [← hen, ← heb, ← her, ← hcme, ← hke, ← HNT.out] at hex
      rw [← hcme] at hcm hfull
      rw [← hke] at hfull hrn hmem hstr
      rw [← her] at hrn hbk
      rw [← hen] at hnn hbk
      rw [← heb] at hbk
      obtain ⟨ne, hne⟩ : ∃ n, n = ke.length := ⟨_, rfl⟩
      rw [← hne] at hex hrn
      obtain rfl : ne = er := hrn.symm
      have hks0 : Pr.ksA (Pr.start p m) = (Pr.sumOf (Pr.ends 32 (Pr.start p m) [])).keys := rfl
      rw [hks0] at hfull hmem
      obtain ⟨⟨ks, rn, sk⟩, hsum⟩ : ∃ a, a = Pr.sumOf (Pr.ends 32 (Pr.start p m) []) := ⟨_, rfl⟩
      rw [← hsum] at hall6 hkl1 hfull hmem
      simp only at hkl1 hfull hmem
      obtain ⟨nk, hnk⟩ : ∃ n, n = ks.length := ⟨_, rfl⟩
      rw [← hnk] at hkl1
      have hwall := refAll6_any wc p A cap m 600 (HPA.out.below HB1.out) (by omega)
      rw [hall6] at hwall
      unfold All6Out at hwall
      simp only at hwall
      rw [← hnk] at hwall
      have hnkc : nk ≤ 600 := by omega
      unfold valP at hwall
      have HWA := Lib.hid hwall
      have HNK := Lib.hid hnk
      have hc9 : c ≤ 600 := hcnt
      unfold valP at hex
      have HEX0 := Lib.hid hex
      have HCM := Lib.hid (And.intro hcm hfull)
      have HME := Lib.hid (And.intro hmem hstr)
      have HNE := Lib.hid hne
      clear hsum hall6 hcnt hc hnk hwall hwf hok hm8 HSM hex hcm okx hen heb her hcme hke hne hE1 hel hkl1 hfu hks0 hfull hmem hstr hbg
      obtain ⟨x0, x1, x2, xl⟩ := HXE.out wc HB1.out
      go_wp2_with fail
      refine HWA.out.mono ?_
      rintro y w1 ⟨KA, kc, rfl, hkr, _, _, b1⟩
      obtain ⟨Z1, hZ1⟩ : ∃ z, z = w1.heap.size := ⟨_, rfl⟩
      obtain ⟨W2, hW2⟩ : ∃ z, z = w1.alloc (Obj.cells #[.slice KA nk kc, .int .i64 rn, .int .i64 c, .int .i64 sk] 29) := ⟨_, rfl⟩
      have hZk : W2.heap[Z1]? = some (.cells #[.slice KA nk kc, .int .i64 rn, .int .i64 c, .int .i64 sk] 29 (0, 0)) := by rw [hW2, hZ1]; exact heap_alloc_new w1 _
      have hb2 : Below w1.heap.size w1 W2 := by rw [hW2]; exact (Below.refl _ _).alloc (Nat.le_refl _) _
      have hbA : Below Wa.heap.size Wa W2 := below_at HB1.out (below_at b1 hb2)
      have HKR := Lib.hid (hkr.below hb2 (Nat.le_refl _))
      have HSS := Lib.hid (show ∀ u, Below W2.heap.size W2 u → (u.cell? ⟨X, 0, none⟩ = some (.int .i64 p.vars) ∧ u.cell? ⟨X, 1, none⟩ = some (.int .i64 p.mtx) ∧ u.cell? ⟨X, 2, none⟩ = some (.slice A p.code.length cap) ∧ X < u.heap.size) ∧ (u.cell? ⟨Z1, 0, none⟩ = some (.slice KA nk kc) ∧ u.cell? ⟨Z1, 1, none⟩ = some (.int .i64 rn) ∧ u.cell? ⟨Z1, 2, none⟩ = some (.int .i64 c) ∧ Z1 < u.heap.size) from fun u hu => by
        have hk := (hu.block _ (blk_lt hZk)).trans hZk
        exact ⟨HXE.out u (below_at hbA hu), cell_blk hk 0, cell_blk hk 1, cell_blk hk 2, blk_lt hk⟩)
      have HORD := Lib.hid (show ∀ u, Below W2.heap.size W2 u → Rd u 1 B nt (ts.map fun (b : Nat) => Value.int .u8 (b : Int)) from fun u hu => by
        have := HR.out.below (below_at HB.out (below_at hbA hu)) (Nat.le_refl _)
        rw [← HNT.out] at this
        exact this)
      have HEX := Lib.hid (fun u (hu : Below W2.heap.size W2 u) => HEX0.out u (below_at hbA hu))
      have HB2 := Lib.hid hbA
      clear b1 hb2 hZk hkr hbA x0 x1 x2 xl HB1 HWA HEX0
      go_upto_region 5 with fail
      rw [← hW2, ← hZ1]
      clear hW2 hZ1
      go_cut [11, 12] (fun v9 v10 wz => Below W2.heap.size W2 wz ∧ ∃ Y KA' kc', v9 = .pointer (some ⟨Y, 0, none⟩) ∧ v10 = .int .i64 0 ∧ wz.heap[Y]? = some (.cells #[.slice KA' ne kc', .int .i64 (en : Int), .int .i64 (ne : Int), .int .i64 (eb : Int), .bool cm] 60 (0, 0)) ∧ Rd wz 1 KA' ne (ke.map sv))
      case first =>
        refine wp_region_pt (by kernel_rfl) (fun u => (u.cell? ⟨X, 0, none⟩ = some (.int .i64 p.vars) ∧ u.cell? ⟨X, 1, none⟩ = some (.int .i64 p.mtx) ∧ u.cell? ⟨X, 2, none⟩ = some (.slice A p.code.length cap) ∧ X < u.heap.size) ∧ (u.cell? ⟨Z1, 0, none⟩ = some (.slice KA nk kc) ∧ u.cell? ⟨Z1, 1, none⟩ = some (.int .i64 rn) ∧ u.cell? ⟨Z1, 2, none⟩ = some (.int .i64 c) ∧ Z1 < u.heap.size)) [] (.cons 0 .load (.cons 1 .pure (.cons 2 .pure (.cons 4 .pure (.fork 3 (.fork 5 (.fork 6 (.cons 7 .pure (.cons 8 .pure (.cons 9 .pure (.cons 10 .eff (.cons 11 .eff (.cons 12 .pure .nil)))))) 10 (.cons 6 .eff (.cons 7 .pure (.cons 8 .pure (.cons 9 .pure (.cons 11 .eff (.cons 12 .pure .nil))))))) 10 (.cons 5 .eff (.cons 6 .eff (.cons 7 .pure (.cons 8 .pure (.cons 9 .pure (.cons 11 .eff (.cons 12 .pure .nil)))))))) 10 (.cons 3 .eff (.cons 5 .eff (.cons 6 .eff (.cons 7 .pure (.cons 8 .pure (.cons 9 .pure (.cons 11 .eff (.cons 12 .pure .nil))))))))))))) (by simp only [PT.map, List.getElem?_toArray, List.getElem?_cons_succ, List.getElem?_cons_zero]; rfl) (by kernel_rfl) (fun _ _ d _ _ h => by cases d <;> exact h) (HSS.out W2.drew (Below.refl W2.heap.size W2).drew) ?_
        have HB := Lib.hid (Below.refl W2.heap.size W2).drew
        obtain ⟨vw, hv⟩ : ∃ vw, vw = W2.drew := ⟨_, rfl⟩
        rw [← hv] at HB ⊢
        clear hv
        repeat (first
          | (refine pt_pure (v := ?_) (by rfl) (fun w1 => ?_) ?_
             rotate_left
             · go_simp <;> with_reducible rfl
             simp only [Act.put, List.setIfInBounds_toArray, List.set_cons_zero, List.set_cons_succ])
          | (refine pt_off (by rfl) ?_
             simp only [Act.put, List.setIfInBounds_toArray, List.set_cons_zero, List.set_cons_succ])
          | (refine pt_load_off (by rfl) ?_
             simp only [Act.put, List.setIfInBounds_toArray, List.set_cons_zero, List.set_cons_succ])
          | (refine pt_load (v := ?_) (by rfl) (fun w1 hw1 => ?_) ?_
             rotate_left
             · (have qq := hw1
                obtain ⟨⟨x0, x1, x2, xl⟩, z0, z1, z2, zl⟩ := qq
                clear hw1
                go_simp <;> with_reducible rfl)
             simp only [Act.put, List.setIfInBounds_toArray, List.set_cons_zero, List.set_cons_succ]))
        refine pt_fork ?_ ?_
        · go_wp2_with fail
          obtain ⟨E, hE⟩ : ∃ Z, Z = vw.heap.size := ⟨_, rfl⟩
          obtain ⟨u, hu⟩ : ∃ u, u = vw.alloc (Obj.cells #[] 5) := ⟨_, rfl⟩
          rw [← hu, ← hE]
          have hb : Below vw.heap.size vw u := by rw [hu]; exact (Below.refl _ _).alloc (Nat.le_refl _) _
          have hk : u.heap[E]? = some (.cells #[] 5 (0, 0)) := by rw [hu, hE]; exact heap_alloc_new vw _
          have HC := Lib.hid hk
          have HB := Lib.hid (below_at HB.out hb)
          (try have HZ := Lib.hid (blk_stepW HZ.out hb))
          clear hb hk hu hE
          rename World => vw
          refine pt_on (fun u h => h) (HSS.out _ HB.out) ?_
          refine pt_fork ?_ ?_
          · have HR := Lib.hid (HORD.out vw HB.out)
            have HE := Lib.hid (row_empty (sz := 1) HC.out)
            go_wp2_with (at_builtin; refine wpList_append_copy (by rfl) _ _ _ (by rfl) 5 i8 _ 1 1 Tryz.underlying43 hi8 h80 h81 h82 rfl (by omega) ⟨E, 0, none⟩ 0 [] (by rfl) HE.out B nt cap2 (ts.map fun (b : Nat) => Value.int .u8 (b : Int)) (by rfl) HR.out (by unfold maxLen; omega) (by omega) ?_; intro g7 o7 cap7 u hown hb hgz)
            rw [Nat.zero_add, List.nil_append] at hown
            have HA := Lib.hid hown.rd
            have HB := Lib.hid (below_at HB.out hb)
            (try have HZ := Lib.hid (blk_stepW HZ.out hb))
            clear hown hb hgz HR HE
            rename World => vw
            refine pt_on (fun u h => h) (HSS.out _ HB.out) ?_
            refine pt_fork ?_ ?_
            · go_wp2_with fail
              refine (HEX.out _ HB.out _ _ HA.out).mono ?_
              rintro y u ⟨⟨KZ, kz, rfl, hrk⟩, hb⟩
              have HK := Lib.hid hrk
              have HB := Lib.hid (below_at HB.out hb)
              (try have HZ := Lib.hid (blk_stepW HZ.out hb))
              clear hrk hb
              rename World => vw
              go_wp2_with fail
              refine pt_on (fun u h => h) (HSS.out _ HB.out) ?_
              repeat (first
                | (refine pt_pure (v := ?_) (by rfl) (fun w1 => ?_) ?_
                   rotate_left
                   · go_simp <;> with_reducible rfl
                   simp only [Act.put, List.setIfInBounds_toArray, List.set_cons_zero, List.set_cons_succ])
                | (refine pt_off (by rfl) ?_
                   simp only [Act.put, List.setIfInBounds_toArray, List.set_cons_zero, List.set_cons_succ])
                | (refine pt_load_off (by rfl) ?_
                   simp only [Act.put, List.setIfInBounds_toArray, List.set_cons_zero, List.set_cons_succ])
                | (refine pt_load (v := ?_) (by rfl) (fun w1 hw1 => ?_) ?_
                   rotate_left
                   · (skip
                      clear hw1
                      go_simp <;> with_reducible rfl)
                   simp only [Act.put, List.setIfInBounds_toArray, List.set_cons_zero, List.set_cons_succ]))
              refine pt_eff ?_
              go_wp2_with fail
              obtain ⟨Y, hY⟩ : ∃ Z, Z = vw.heap.size := ⟨_, rfl⟩
              obtain ⟨u, hu⟩ : ∃ u, u = vw.alloc (Obj.cells #[.slice none 0 0, .int .i64 0, .int .i64 0, .int .i64 0, .bool false] 60) := ⟨_, rfl⟩
              rw [← hu, ← hY]
              have hb : Below vw.heap.size vw u := by rw [hu]; exact (Below.refl _ _).alloc (Nat.le_refl _) _
              have hk : u.heap[Y]? = some (.cells #[.slice none 0 0, .int .i64 0, .int .i64 0, .int .i64 0, .bool false] 60 (0, 0)) := by rw [hu, hY]; exact heap_alloc_new vw _
              have HYW : Hid (W2.heap.size ≤ Y) := Lib.hid (by rw [hY]; exact HB.out.size)
              have HZ := Lib.hid hk
              have HB := Lib.hid (below_at HB.out hb)
              (try have HC := Lib.hid (blk_stepW HC.out hb))
              (try have HA := Lib.hid (HA.out.below hb (Nat.le_refl _)))
              (try have HK := Lib.hid (HK.out.below hb (Nat.le_refl _)))
              clear hb hk hu hY
              rename World => vw
              refine pt_on (fun u h => h) (HSS.out _ HB.out) ?_
              refine pt_eff ?_
              have e0 := cell_blk HZ.out 0
              have e1 := cell_blk HZ.out 1
              have e2 := cell_blk HZ.out 2
              have e3 := cell_blk HZ.out 3
              have e4 := cell_blk HZ.out 4
              simp only [List.getElem?_toArray, List.getElem?_cons_zero, List.getElem?_cons_succ] at e0 e1 e2 e3 e4
              have g0 := free_blk HZ.out 0
              have g1 := free_blk HZ.out 1
              have g2 := free_blk HZ.out 2
              have g3 := free_blk HZ.out 3
              have g4 := free_blk HZ.out 4
              have zl := blk_lt HZ.out
              obtain ⟨V2, hV2, hk2, hm2⟩ := rep_store HZ.out (.slice KZ ne kz) (.int .i64 (en : Int)) (.int .i64 (ne : Int)) (.int .i64 (eb : Int)) (.bool cm)
              have HV2 := Lib.hid hV2
              have HREP := Lib.hid hk2
              have HRK := Lib.hid (rd_store HK.out HZ.out hm2)
              have HB := Lib.hid (HB.out.trans (hm2.below W2.heap.size HB.out.size (fun k hk e => by have := HYW.out; omega)))
              clear hV2 hk2 hm2
              go_wp2_with fail
              rw [← HV2.out]
              clear e0 e1 e2 e3 e4 g0 g1 g2 g3 g4 zl
              refine pt_on (fun u h => h) (HSS.out _ HB.out) ?_
              repeat (first
                | (refine pt_pure (v := ?_) (by rfl) (fun w1 => ?_) ?_
                   rotate_left
                   · go_simp <;> with_reducible rfl
                   simp only [Act.put, List.setIfInBounds_toArray, List.set_cons_zero, List.set_cons_succ])
                | (refine pt_off (by rfl) ?_
                   simp only [Act.put, List.setIfInBounds_toArray, List.set_cons_zero, List.set_cons_succ])
                | (refine pt_load_off (by rfl) ?_
                   simp only [Act.put, List.setIfInBounds_toArray, List.set_cons_zero, List.set_cons_succ])
                | (refine pt_load (v := ?_) (by rfl) (fun w1 hw1 => ?_) ?_
                   rotate_left
                   · (skip
                      clear hw1
                      go_simp <;> with_reducible rfl)
                   simp only [Act.put, List.setIfInBounds_toArray, List.set_cons_zero, List.set_cons_succ]))
              refine pt_end ?_
              go_wp2_with fail
              go_meet
              exact ⟨HB.out, _, _, _, rfl, rfl, HREP.out, HRK.out⟩
            · go_wp2_with fail
              obtain ⟨Y, hY⟩ : ∃ Z, Z = vw.heap.size := ⟨_, rfl⟩
              obtain ⟨u, hu⟩ : ∃ u, u = vw.alloc (Obj.cells #[.slice none 0 0, .int .i64 0, .int .i64 0, .int .i64 0, .bool false] 60) := ⟨_, rfl⟩
              rw [← hu, ← hY]
              have hb : Below vw.heap.size vw u := by rw [hu]; exact (Below.refl _ _).alloc (Nat.le_refl _) _
              have hk : u.heap[Y]? = some (.cells #[.slice none 0 0, .int .i64 0, .int .i64 0, .int .i64 0, .bool false] 60 (0, 0)) := by rw [hu, hY]; exact heap_alloc_new vw _
              have HYW : Hid (W2.heap.size ≤ Y) := Lib.hid (by rw [hY]; exact HB.out.size)
              have HZ := Lib.hid hk
              have HB := Lib.hid (below_at HB.out hb)
              (try have HC := Lib.hid (blk_stepW HC.out hb))
              (try have HA := Lib.hid (HA.out.below hb (Nat.le_refl _)))
              (try have HK := Lib.hid (HK.out.below hb (Nat.le_refl _)))
              clear hb hk hu hY
              rename World => vw
              refine pt_on (fun u h => h) (HSS.out _ HB.out) ?_
              refine pt_eff ?_
              go_wp2_with fail
              refine (HEX.out _ HB.out _ _ HA.out).mono ?_
              rintro y u ⟨⟨KZ, kz, rfl, hrk⟩, hb⟩
              have HK := Lib.hid hrk
              have HB := Lib.hid (below_at HB.out hb)
              (try have HZ := Lib.hid (blk_stepW HZ.out hb))
              clear hrk hb
              rename World => vw
              go_wp2_with fail
              refine pt_on (fun u h => h) (HSS.out _ HB.out) ?_
              repeat (first
                | (refine pt_pure (v := ?_) (by rfl) (fun w1 => ?_) ?_
                   rotate_left
                   · go_simp <;> with_reducible rfl
                   simp only [Act.put, List.setIfInBounds_toArray, List.set_cons_zero, List.set_cons_succ])
                | (refine pt_off (by rfl) ?_
                   simp only [Act.put, List.setIfInBounds_toArray, List.set_cons_zero, List.set_cons_succ])
                | (refine pt_load_off (by rfl) ?_
                   simp only [Act.put, List.setIfInBounds_toArray, List.set_cons_zero, List.set_cons_succ])
                | (refine pt_load (v := ?_) (by rfl) (fun w1 hw1 => ?_) ?_
                   rotate_left
                   · (skip
                      clear hw1
                      go_simp <;> with_reducible rfl)
                   simp only [Act.put, List.setIfInBounds_toArray, List.set_cons_zero, List.set_cons_succ]))
              refine pt_eff ?_
              have e0 := cell_blk HZ.out 0
              have e1 := cell_blk HZ.out 1
              have e2 := cell_blk HZ.out 2
              have e3 := cell_blk HZ.out 3
              have e4 := cell_blk HZ.out 4
              simp only [List.getElem?_toArray, List.getElem?_cons_zero, List.getElem?_cons_succ] at e0 e1 e2 e3 e4
              have g0 := free_blk HZ.out 0
              have g1 := free_blk HZ.out 1
              have g2 := free_blk HZ.out 2
              have g3 := free_blk HZ.out 3
              have g4 := free_blk HZ.out 4
              have zl := blk_lt HZ.out
              obtain ⟨V2, hV2, hk2, hm2⟩ := rep_store HZ.out (.slice KZ ne kz) (.int .i64 (en : Int)) (.int .i64 (ne : Int)) (.int .i64 (eb : Int)) (.bool cm)
              have HV2 := Lib.hid hV2
              have HREP := Lib.hid hk2
              have HRK := Lib.hid (rd_store HK.out HZ.out hm2)
              have HB := Lib.hid (HB.out.trans (hm2.below W2.heap.size HB.out.size (fun k hk e => by have := HYW.out; omega)))
              clear hV2 hk2 hm2
              go_wp2_with fail
              rw [← HV2.out]
              clear e0 e1 e2 e3 e4 g0 g1 g2 g3 g4 zl
              refine pt_on (fun u h => h) (HSS.out _ HB.out) ?_
              repeat (first
                | (refine pt_pure (v := ?_) (by rfl) (fun w1 => ?_) ?_
                   rotate_left
                   · go_simp <;> with_reducible rfl
                   simp only [Act.put, List.setIfInBounds_toArray, List.set_cons_zero, List.set_cons_succ])
                | (refine pt_off (by rfl) ?_
                   simp only [Act.put, List.setIfInBounds_toArray, List.set_cons_zero, List.set_cons_succ])
                | (refine pt_load_off (by rfl) ?_
                   simp only [Act.put, List.setIfInBounds_toArray, List.set_cons_zero, List.set_cons_succ])
                | (refine pt_load (v := ?_) (by rfl) (fun w1 hw1 => ?_) ?_
                   rotate_left
                   · (skip
                      clear hw1
                      go_simp <;> with_reducible rfl)
                   simp only [Act.put, List.setIfInBounds_toArray, List.set_cons_zero, List.set_cons_succ]))
              refine pt_end ?_
              go_wp2_with fail
              go_meet
              exact ⟨HB.out, _, _, _, rfl, rfl, HREP.out, HRK.out⟩
          · go_wp2_with fail
            obtain ⟨Y, hY⟩ : ∃ Z, Z = vw.heap.size := ⟨_, rfl⟩
            obtain ⟨u, hu⟩ : ∃ u, u = vw.alloc (Obj.cells #[.slice none 0 0, .int .i64 0, .int .i64 0, .int .i64 0, .bool false] 60) := ⟨_, rfl⟩
            rw [← hu, ← hY]
            have hb : Below vw.heap.size vw u := by rw [hu]; exact (Below.refl _ _).alloc (Nat.le_refl _) _
            have hk : u.heap[Y]? = some (.cells #[.slice none 0 0, .int .i64 0, .int .i64 0, .int .i64 0, .bool false] 60 (0, 0)) := by rw [hu, hY]; exact heap_alloc_new vw _
            have HYW : Hid (W2.heap.size ≤ Y) := Lib.hid (by rw [hY]; exact HB.out.size)
            have HZ := Lib.hid hk
            have HB := Lib.hid (below_at HB.out hb)
            (try have HC := Lib.hid (blk_stepW HC.out hb))
            (try have HA := Lib.hid (HA.out.below hb (Nat.le_refl _)))
            (try have HK := Lib.hid (HK.out.below hb (Nat.le_refl _)))
            clear hb hk hu hY
            rename World => vw
            refine pt_on (fun u h => h) (HSS.out _ HB.out) ?_
            refine pt_eff ?_
            have HR := Lib.hid (HORD.out vw HB.out)
            have HE := Lib.hid (row_empty (sz := 1) HC.out)
            go_wp2_with (at_builtin; refine wpList_append_copy (by rfl) _ _ _ (by rfl) 5 i8 _ 1 1 Tryz.underlying43 hi8 h80 h81 h82 rfl (by omega) ⟨E, 0, none⟩ 0 [] (by rfl) HE.out B nt cap2 (ts.map fun (b : Nat) => Value.int .u8 (b : Int)) (by rfl) HR.out (by unfold maxLen; omega) (by omega) ?_; intro g7 o7 cap7 u hown hb hgz)
            rw [Nat.zero_add, List.nil_append] at hown
            have HA := Lib.hid hown.rd
            have HB := Lib.hid (below_at HB.out hb)
            (try have HZ := Lib.hid (blk_stepW HZ.out hb))
            clear hown hb hgz HR HE
            rename World => vw
            refine pt_on (fun u h => h) (HSS.out _ HB.out) ?_
            refine pt_eff ?_
            go_wp2_with fail
            refine (HEX.out _ HB.out _ _ HA.out).mono ?_
            rintro y u ⟨⟨KZ, kz, rfl, hrk⟩, hb⟩
            have HK := Lib.hid hrk
            have HB := Lib.hid (below_at HB.out hb)
            (try have HZ := Lib.hid (blk_stepW HZ.out hb))
            clear hrk hb
            rename World => vw
            go_wp2_with fail
            refine pt_on (fun u h => h) (HSS.out _ HB.out) ?_
            repeat (first
              | (refine pt_pure (v := ?_) (by rfl) (fun w1 => ?_) ?_
                 rotate_left
                 · go_simp <;> with_reducible rfl
                 simp only [Act.put, List.setIfInBounds_toArray, List.set_cons_zero, List.set_cons_succ])
              | (refine pt_off (by rfl) ?_
                 simp only [Act.put, List.setIfInBounds_toArray, List.set_cons_zero, List.set_cons_succ])
              | (refine pt_load_off (by rfl) ?_
                 simp only [Act.put, List.setIfInBounds_toArray, List.set_cons_zero, List.set_cons_succ])
              | (refine pt_load (v := ?_) (by rfl) (fun w1 hw1 => ?_) ?_
                 rotate_left
                 · (skip
                    clear hw1
                    go_simp <;> with_reducible rfl)
                 simp only [Act.put, List.setIfInBounds_toArray, List.set_cons_zero, List.set_cons_succ]))
            refine pt_eff ?_
            have e0 := cell_blk HZ.out 0
            have e1 := cell_blk HZ.out 1
            have e2 := cell_blk HZ.out 2
            have e3 := cell_blk HZ.out 3
            have e4 := cell_blk HZ.out 4
            simp only [List.getElem?_toArray, List.getElem?_cons_zero, List.getElem?_cons_succ] at e0 e1 e2 e3 e4
            have g0 := free_blk HZ.out 0
            have g1 := free_blk HZ.out 1
            have g2 := free_blk HZ.out 2
            have g3 := free_blk HZ.out 3
            have g4 := free_blk HZ.out 4
            have zl := blk_lt HZ.out
            obtain ⟨V2, hV2, hk2, hm2⟩ := rep_store HZ.out (.slice KZ ne kz) (.int .i64 (en : Int)) (.int .i64 (ne : Int)) (.int .i64 (eb : Int)) (.bool cm)
            have HV2 := Lib.hid hV2
            have HREP := Lib.hid hk2
            have HRK := Lib.hid (rd_store HK.out HZ.out hm2)
            have HB := Lib.hid (HB.out.trans (hm2.below W2.heap.size HB.out.size (fun k hk e => by have := HYW.out; omega)))
            clear hV2 hk2 hm2
            go_wp2_with fail
            rw [← HV2.out]
            clear e0 e1 e2 e3 e4 g0 g1 g2 g3 g4 zl
            refine pt_on (fun u h => h) (HSS.out _ HB.out) ?_
            repeat (first
              | (refine pt_pure (v := ?_) (by rfl) (fun w1 => ?_) ?_
                 rotate_left
                 · go_simp <;> with_reducible rfl
                 simp only [Act.put, List.setIfInBounds_toArray, List.set_cons_zero, List.set_cons_succ])
              | (refine pt_off (by rfl) ?_
                 simp only [Act.put, List.setIfInBounds_toArray, List.set_cons_zero, List.set_cons_succ])
              | (refine pt_load_off (by rfl) ?_
                 simp only [Act.put, List.setIfInBounds_toArray, List.set_cons_zero, List.set_cons_succ])
              | (refine pt_load (v := ?_) (by rfl) (fun w1 hw1 => ?_) ?_
                 rotate_left
                 · (skip
                    clear hw1
                    go_simp <;> with_reducible rfl)
                 simp only [Act.put, List.setIfInBounds_toArray, List.set_cons_zero, List.set_cons_succ]))
            refine pt_end ?_
            go_wp2_with fail
            go_meet
            exact ⟨HB.out, _, _, _, rfl, rfl, HREP.out, HRK.out⟩
        · go_wp2_with fail
          obtain ⟨Y, hY⟩ : ∃ Z, Z = vw.heap.size := ⟨_, rfl⟩
          obtain ⟨u, hu⟩ : ∃ u, u = vw.alloc (Obj.cells #[.slice none 0 0, .int .i64 0, .int .i64 0, .int .i64 0, .bool false] 60) := ⟨_, rfl⟩
          rw [← hu, ← hY]
          have hb : Below vw.heap.size vw u := by rw [hu]; exact (Below.refl _ _).alloc (Nat.le_refl _) _
          have hk : u.heap[Y]? = some (.cells #[.slice none 0 0, .int .i64 0, .int .i64 0, .int .i64 0, .bool false] 60 (0, 0)) := by rw [hu, hY]; exact heap_alloc_new vw _
          have HYW : Hid (W2.heap.size ≤ Y) := Lib.hid (by rw [hY]; exact HB.out.size)
          have HZ := Lib.hid hk
          have HB := Lib.hid (below_at HB.out hb)
          (try have HC := Lib.hid (blk_stepW HC.out hb))
          (try have HA := Lib.hid (HA.out.below hb (Nat.le_refl _)))
          (try have HK := Lib.hid (HK.out.below hb (Nat.le_refl _)))
          clear hb hk hu hY
          rename World => vw
          refine pt_on (fun u h => h) (HSS.out _ HB.out) ?_
          refine pt_eff ?_
          go_wp2_with fail
          obtain ⟨E, hE⟩ : ∃ Z, Z = vw.heap.size := ⟨_, rfl⟩
          obtain ⟨u, hu⟩ : ∃ u, u = vw.alloc (Obj.cells #[] 5) := ⟨_, rfl⟩
          rw [← hu, ← hE]
          have hb : Below vw.heap.size vw u := by rw [hu]; exact (Below.refl _ _).alloc (Nat.le_refl _) _
          have hk : u.heap[E]? = some (.cells #[] 5 (0, 0)) := by rw [hu, hE]; exact heap_alloc_new vw _
          have HC := Lib.hid hk
          have HB := Lib.hid (below_at HB.out hb)
          (try have HZ := Lib.hid (blk_stepW HZ.out hb))
          clear hb hk hu hE
          rename World => vw
          refine pt_on (fun u h => h) (HSS.out _ HB.out) ?_
          refine pt_eff ?_
          have HR := Lib.hid (HORD.out vw HB.out)
          have HE := Lib.hid (row_empty (sz := 1) HC.out)
          go_wp2_with (at_builtin; refine wpList_append_copy (by rfl) _ _ _ (by rfl) 5 i8 _ 1 1 Tryz.underlying43 hi8 h80 h81 h82 rfl (by omega) ⟨E, 0, none⟩ 0 [] (by rfl) HE.out B nt cap2 (ts.map fun (b : Nat) => Value.int .u8 (b : Int)) (by rfl) HR.out (by unfold maxLen; omega) (by omega) ?_; intro g7 o7 cap7 u hown hb hgz)
          rw [Nat.zero_add, List.nil_append] at hown
          have HA := Lib.hid hown.rd
          have HB := Lib.hid (below_at HB.out hb)
          (try have HZ := Lib.hid (blk_stepW HZ.out hb))
          clear hown hb hgz HR HE
          rename World => vw
          refine pt_on (fun u h => h) (HSS.out _ HB.out) ?_
          refine pt_eff ?_
          go_wp2_with fail
          refine (HEX.out _ HB.out _ _ HA.out).mono ?_
          rintro y u ⟨⟨KZ, kz, rfl, hrk⟩, hb⟩
          have HK := Lib.hid hrk
          have HB := Lib.hid (below_at HB.out hb)
          (try have HZ := Lib.hid (blk_stepW HZ.out hb))
          clear hrk hb
          rename World => vw
          go_wp2_with fail
          refine pt_on (fun u h => h) (HSS.out _ HB.out) ?_
          repeat (first
            | (refine pt_pure (v := ?_) (by rfl) (fun w1 => ?_) ?_
               rotate_left
               · go_simp <;> with_reducible rfl
               simp only [Act.put, List.setIfInBounds_toArray, List.set_cons_zero, List.set_cons_succ])
            | (refine pt_off (by rfl) ?_
               simp only [Act.put, List.setIfInBounds_toArray, List.set_cons_zero, List.set_cons_succ])
            | (refine pt_load_off (by rfl) ?_
               simp only [Act.put, List.setIfInBounds_toArray, List.set_cons_zero, List.set_cons_succ])
            | (refine pt_load (v := ?_) (by rfl) (fun w1 hw1 => ?_) ?_
               rotate_left
               · (skip
                  clear hw1
                  go_simp <;> with_reducible rfl)
               simp only [Act.put, List.setIfInBounds_toArray, List.set_cons_zero, List.set_cons_succ]))
          refine pt_eff ?_
          have e0 := cell_blk HZ.out 0
          have e1 := cell_blk HZ.out 1
          have e2 := cell_blk HZ.out 2
          have e3 := cell_blk HZ.out 3
          have e4 := cell_blk HZ.out 4
          simp only [List.getElem?_toArray, List.getElem?_cons_zero, List.getElem?_cons_succ] at e0 e1 e2 e3 e4
          have g0 := free_blk HZ.out 0
          have g1 := free_blk HZ.out 1
          have g2 := free_blk HZ.out 2
          have g3 := free_blk HZ.out 3
          have g4 := free_blk HZ.out 4
          have zl := blk_lt HZ.out
          obtain ⟨V2, hV2, hk2, hm2⟩ := rep_store HZ.out (.slice KZ ne kz) (.int .i64 (en : Int)) (.int .i64 (ne : Int)) (.int .i64 (eb : Int)) (.bool cm)
          have HV2 := Lib.hid hV2
          have HREP := Lib.hid hk2
          have HRK := Lib.hid (rd_store HK.out HZ.out hm2)
          have HB := Lib.hid (HB.out.trans (hm2.below W2.heap.size HB.out.size (fun k hk e => by have := HYW.out; omega)))
          clear hV2 hk2 hm2
          go_wp2_with fail
          rw [← HV2.out]
          clear e0 e1 e2 e3 e4 g0 g1 g2 g3 g4 zl
          refine pt_on (fun u h => h) (HSS.out _ HB.out) ?_
          repeat (first
            | (refine pt_pure (v := ?_) (by rfl) (fun w1 => ?_) ?_
               rotate_left
               · go_simp <;> with_reducible rfl
               simp only [Act.put, List.setIfInBounds_toArray, List.set_cons_zero, List.set_cons_succ])
            | (refine pt_off (by rfl) ?_
               simp only [Act.put, List.setIfInBounds_toArray, List.set_cons_zero, List.set_cons_succ])
            | (refine pt_load_off (by rfl) ?_
               simp only [Act.put, List.setIfInBounds_toArray, List.set_cons_zero, List.set_cons_succ])
            | (refine pt_load (v := ?_) (by rfl) (fun w1 hw1 => ?_) ?_
               rotate_left
               · (skip
                  clear hw1
                  go_simp <;> with_reducible rfl)
               simp only [Act.put, List.setIfInBounds_toArray, List.set_cons_zero, List.set_cons_succ]))
          refine pt_end ?_
          go_wp2_with fail
          go_meet
          exact ⟨HB.out, _, _, _, rfl, rfl, HREP.out, HRK.out⟩
      case rest =>
        obtain ⟨bz, Y, KA2, kc2, rfl, rfl, hrep, hrk⟩ := hcut
        obtain ⟨⟨x0, x1, x2, xl⟩, z0, z1, z2, zl⟩ := HSS.out wc bz
        have hin := in_any wc KA2 kc2 ke KA kc ks (by rw [← HNE.out]; exact hrk) (by rw [← HNK.out]; exact HKR.out.below bz (Nat.le_refl _)) (by rw [← HNE.out]; omega) (by rw [← HNK.out]; omega) HME.out.1 HME.out.2
        rw [← HNK.out, ← HNE.out] at hin
        have y0 : wc.cell? ⟨Y, 0, none⟩ = some (.slice KA2 ne kc2) := cell_blk hrep 0
        have y1 : wc.cell? ⟨Y, 1, none⟩ = some (.int .i64 (en : Int)) := cell_blk hrep 1
        have y2 : wc.cell? ⟨Y, 2, none⟩ = some (.int .i64 (ne : Int)) := cell_blk hrep 2
        have yl := blk_lt hrep
        have HIN := Lib.hid hin
        have HREP := Lib.hid hrep
        have HRK := Lib.hid hrk
        have HBZ := Lib.hid bz
        have d1 : ¬ (bg : Int) < (en : Int) := by omega
        have d2 : ¬ (en : Int) < (ne : Int) + (eb : Int) := by omega
        clear hin hrep bz hrk HEX HORD
        go_wp2_with fail
        refine HIN.out.mono ?_
        rintro x w3 ⟨rfl, b3⟩
        have hrep := blk_stepW HREP.out b3
        have q0 : w3.cell? ⟨Y, 0, none⟩ = some (.slice KA2 ne kc2) := cell_blk hrep 0
        have q1 : w3.cell? ⟨Y, 1, none⟩ = some (.int .i64 (en : Int)) := cell_blk hrep 1
        have q2 : w3.cell? ⟨Y, 2, none⟩ = some (.int .i64 (ne : Int)) := cell_blk hrep 2
        have q3 : w3.cell? ⟨Y, 3, none⟩ = some (.int .i64 (eb : Int)) := cell_blk hrep 3
        have q4 : w3.cell? ⟨Y, 4, none⟩ = some (.bool cm) := cell_blk hrep 4
        have ql := blk_lt hrep
        obtain ⟨s0, _, s2, sl⟩ := (HSS.out w3 (below_at HBZ.out b3)).2
        have HB3 := Lib.hid (below_at HB2.out (below_at HBZ.out b3))
        have HREP3 := Lib.hid hrep
        have HK3 := Lib.hid (And.intro (HRK.out.below b3 (Nat.le_refl _)) (HKR.out.below (below_at HBZ.out b3) (Nat.le_refl _)))
        have HBW := Lib.hid (below_at HBZ.out b3)
        clear hrep b3 HIN HREP x0 x1 x2 xl z0 z1 z2 zl y0 y1 y2 yl HRK
        cases cm with
        | true =>
          have hkk := HCM.out.2 rfl
          have hsame := same6_any w3 KA2 kc2 ke KA kc ks (by rw [← HNE.out]; exact HK3.out.1) (by rw [← HNK.out]; exact HK3.out.2) (by rw [← HNE.out]; omega)
          rw [decide_eq_true hkk, ← HNK.out, ← HNE.out] at hsame
          have HSAME := Lib.hid hsame
          clear hkk hsame
          go_wp2_with fail
          refine HSAME.out.mono ?_
          rintro x w4 ⟨rfl, b4⟩
          have q4 : w4.cell? ⟨Y, 4, none⟩ = some (.bool true) := cell_blk (blk_stepW HREP3.out b4) 4
          have ql4 := blk_lt (blk_stepW HREP3.out b4)
          have HB4 := Lib.hid (below_at HB3.out b4)
          clear b4
          go_wp2_with fail
          go_ret
          exact ⟨by first | rfl | simp, below_at HB.out HB4.out⟩
        | false =>
          have hfit := fits_any w3 c b
          have hcb : ¬ c ≤ b := fun h => by have := HCM.out.1 h; cases this
          rw [decide_eq_false hcb] at hfit
          have HFIT := Lib.hid hfit
          clear hfit hcb
          go_wp2_with fail
          refine HFIT.out.mono ?_
          rintro x w4 ⟨rfl, rfl⟩
          go_wp2_with fail
          go_ret
          exact ⟨by first | rfl | simp, below_at HB.out HB3.out⟩
open Go.ChangeShapes Go.WideShapes Go.ChangeAt
set_option maxRecDepth 100000 in
theorem SeqPart_walk {H : Type} {enc : TypeId × Value → H} (W : World) {base : Nat} {v0 v1 v2 v3 : Value} {d0 d1 d2 d3 : DataW H} {p0 p1 p2 p3 : List MemPlace}
    (o0 : Value.okWide Tryz.prog W .any base 24 v0) (h0 : DataW.Trod enc Tryz.prog W 0 (fun _ => true) true 24 v0 d0 p0)
    (o1 : Value.okWide Tryz.prog W .any base 3 v1) (h1 : DataW.Trod enc Tryz.prog W 0 (fun _ => true) true 3 v1 d1 p1)
    (o2 : Value.okWide Tryz.prog W .any base 3 v2) (h2 : DataW.Trod enc Tryz.prog W 0 (fun _ => true) true 3 v2 d2 p2)
    (o3 : Value.okWide Tryz.prog W .any base 43 v3) (h3 : DataW.Trod enc Tryz.prog W 0 (fun _ => true) true 43 v3 d3 p3) :
    Calls Tryz.prog 7 #[v0, v1, v2, v3] W fun e w' => e = .returned (.bool true) ∧ Below W.heap.size W w' := by
  obtain ⟨p, A, cap, rfl, hin⟩ := prog_arg o0 h0
  obtain ⟨f, rfl, rfl, rfl, _⟩ := open_int Tryz.underlying3 o1 h1
  obtain ⟨bb, rfl, rfl, rfl, _⟩ := open_int Tryz.underlying3 o2 h2
  obtain ⟨ts, B, cap2, rfl, hr, hl, hg⟩ := u8s_arg o3 h3
  exact seqPart_any W p A cap f bb B cap2 ts hin hr hg hl
end Go.Proofs.YtckdofjpoajblaaGreat
