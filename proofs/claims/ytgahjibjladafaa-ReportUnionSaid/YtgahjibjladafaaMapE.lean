/- Maps: an entry that is made ahead of its value (mapEntry, entryStore); keys that are structs. No program in sight. -/
import Derived.Test.YtgahjibjladafaaMap
import Derived.WideKeyRuns
namespace Go.Proofs.Ytgahjibjladafaa
open Go.RowKit
set_option linter.unusedVariables false
set_option linter.unusedSimpArgs false

/-- keys whose type is a struct or an array -/
def keyAsk {P : Program} {kt : TypeId} {K : Type} [DecidableEq K] (kk : K → Value) (inj : ∀ {a b}, kk a = kk b → a = b) (hwide : (match P.underlying kt with | some (.array _ _) | some (.struct _) => true | _ => false) = true)
    (hEq : ∀ (w : World) a b, (Op.equal kt (kk a) (kk b)).run P w = .ok (decide (a = b)) w) (bits : ∀ a, Instr.sameBits 10000 (kk a) (kk a) = true) (chk : ∀ (b : Bool) a w, (Instr.checkKey b 10000 kt (kk a)).run P w = .ok () w) : KeyK P kt K where
  kk := kk
  inj := inj
  fk := fun w es m h k => by rw [run_findKey_eq w hwide]; exact findAsking_is w (hEq w) es.toList m h k 0
  bits := bits
  chk := chk

theorem modify_same {α : Type} {es : Array α} {i : Nat} {f : α → α} (h : ∀ x, es[i]? = some x → f x = x) : es.modify i f = es := by
  apply Array.ext
  · simp
  · intro j h1 h2
    rw [Array.getElem_modify]
    split
    · rename_i hij; subst hij; exact h _ (Array.getElem?_eq_getElem h2)
    · rfl
theorem modify_congr {α : Type} {es : Array α} {i : Nat} {f g : α → α} (h : ∀ x, es[i]? = some x → f x = g x) : es.modify i f = es.modify i g := by
  apply Array.ext
  · simp
  · intro j h1 h2
    rw [Array.getElem_modify, Array.getElem_modify]
    split
    · rename_i hij; subst hij; exact h _ (Array.getElem?_eq_getElem (by simpa using h1))
    · rfl

section
variable {P : Program} {kt : TypeId} {K : Type} [DecidableEq K] (kd : KeyK P kt K)
theorem mfind_at : ∀ (m : List (K × Value)) (k : K) (j i : Nat) (v : Value), mfind m k j = some (i, v) → j ≤ i ∧ m[i - j]? = some (k, v)
  | [], _, _, _, _, h => by cases h
  | (a, u) :: m, k, j, i, v, h => by
    simp only [mfind] at h
    split at h
    · rename_i hk
      injection h with h
      injection h with h1 h2
      subst h1; subst h2; subst hk
      exact ⟨Nat.le_refl _, by simp⟩
    · obtain ⟨h1, h2⟩ := mfind_at m k (j + 1) i v h
      refine ⟨by omega, ?_⟩
      rw [show i - j = (i - (j + 1)) + 1 by omega, List.getElem?_cons_succ]
      exact h2
theorem mput_same : ∀ (m : List (K × Value)) (k : K) (v : Value), mget m k = some v → mput m k v = m
  | [], _, _, h => by cases h
  | (a, u) :: m, k, v, h => by
    simp only [mget] at h
    simp only [mput]
    split at h
    · rename_i hk; injection h with h; subst h; subst hk; rw [if_pos rfl]
    · rename_i hk; rw [if_neg hk, mput_same m k v h]
theorem mput_new : ∀ (m : List (K × Value)) (k : K) (v : Value), mget m k = none → mput m k v = m ++ [(k, v)]
  | [], _, _, _ => rfl
  | (a, u) :: m, k, v, h => by
    simp only [mget] at h
    simp only [mput]
    split at h
    · cases h
    · rename_i hk; rw [if_neg hk, mput_new m k v h, List.cons_append]
theorem mput_again (m : List (K × Value)) (k : K) (v x : Value) : mput (mput m k v) k x = mput m k x := by
  induction m with
  | nil => simp [mput]
  | cons p m ih =>
    obtain ⟨a, u⟩ := p
    by_cases hk : k = a
    · subst hk; simp [mput]
    · simp only [mput, if_neg hk, ih]
/-- block r holds m; the entry of k, in it, bears the stamp -/
def EntAt (kd : KeyK P kt K) (w : World) (r : Nat) (m : List (K × Value)) (k : K) (stamp : Int) : Prop :=
  ∃ es c i v, w.heap[r]? = some (.map es c) ∧ ents es = m.map (fun p => (kd.kk p.1, p.2)) ∧ (m.map (·.1)).Nodup ∧ MapKept.Stamped es c ∧ es.findIdx? (fun e => (e.born : Int) == stamp) = some i ∧ mfind m k 0 = some (i, v)
theorem EntAt.move {w w' : World} {r : Nat} {m : List (K × Value)} {k : K} {stamp : Int} (h : EntAt kd w r m k stamp) (hm : w'.heap[r]? = w.heap[r]?) : EntAt kd w' r m k stamp := by
  obtain ⟨es, c, i, v, h1, h2⟩ := h
  exact ⟨es, c, i, v, hm.trans h1, h2⟩
theorem find_born {es : Array MapEntry} {i : Nat} {x : MapEntry} (hd : (es.toList.map (·.born)).Nodup) (hx : es[i]? = some x) : es.findIdx? (fun e => (e.born : Int) == (x.born : Int)) = some i := by
  obtain ⟨hi, rfl⟩ := Array.getElem?_eq_some_iff.1 hx
  rw [Array.findIdx?_eq_some_iff_getElem]
  refine ⟨hi, by simp, fun j hj => ?_⟩
  intro hb
  have hb' : es[j].born = es[i].born := Int.ofNat_inj.1 (by simpa using hb)
  rw [List.nodup_iff_pairwise_ne, List.pairwise_iff_getElem] at hd
  have := hd j i (by simp; omega) (by simp; exact hi) hj
  simp at this
  exact this hb'

theorem run_mapEntry {w : World} {mt e : TypeId} (ht : P.underlying mt = some (.map kt e)) {z : Value} (hz : ∀ w, (zeroValue e).run P w = .ok z w) {r : Nat} {m : List (K × Value)} (h : MapAt kd w r m) (k : K) :
    ∃ w' stamp, (Instr.mapEntry mt (.map (some r)) (kd.kk k)).run P w = .ok (.tuple #[(mget m k).getD z, .int .i64 stamp]) w' ∧ EntAt kd w' r (mput m k ((mget m k).getD z)) k stamp ∧ Mod (fun q => q = r) w w' := by
  obtain ⟨es, c, h1, h2, h3, h4⟩ := h
  have hl := blk_lt h1
  have hf := findKey_is kd w es m h2 k
  have hg : (getObj r).run P w = .ok (.map es c) w := by simp [getObj, Sem.run, h1]
  have hs : ∀ o, (setObj r o).run P w = .ok () { w with heap := w.heap.setIfInBounds r o } := fun o => by simp [setObj, Sem.run, h1]
  have hv := mfind_val m k 0
  unfold Instr.mapEntry
  simp only [Sem.run_bind, run_underlying ht, Result.andThen_ok, hg, Sem.run_pure, kd.chk, hf]
  cases hm : mfind m k 0 with
  | none =>
    rw [hm] at hv
    simp only [Option.map_none] at hv
    rw [← hv]
    have hnew := mput_new m k z hv.symm
    have hkey : ∀ y ∈ es.toList, y.key ≠ kd.kk k := fun y hy e => by
      have hin : (y.key, y.val) ∈ ents es := List.mem_map.2 ⟨y, hy, rfl⟩
      rw [h2] at hin
      obtain ⟨q, hq, hqe⟩ := List.mem_map.1 hin
      injection hqe with e1 e2
      have hk : q.1 = k := kd.inj (e1.trans e)
      exact mget_none.1 hv.symm (hk ▸ List.mem_map.2 ⟨q, hq, rfl⟩)
    have hst := MapKept.stamped_push h4 (val := z) hkey
    have hsz : es.size = m.length := by have := congrArg List.length h2; simpa [ents] using this
    refine ⟨{ w with heap := w.heap.setIfInBounds r (.map (es.push { key := kd.kk k, val := z, born := c }) (c + 1)) }, (c : Int), ?_, ⟨_, _, es.size, z, blk_setObj _ hl, ents_push kd es m h2 k z c hm, mput_nodup h3 k z, hst, ?_, ?_⟩, mod_setObj _ _ _⟩
    · simp only [Sem.run_bind, hz, hs, Result.andThen_ok, Sem.run_pure, Option.getD_none, goInt]
    · exact find_born (x := { key := kd.kk k, val := z, born := c }) hst.2.1 (by simp)
    · have fa : ∀ (m : List (K × Value)) j, mget m k = none → mfind (m ++ [(k, z)]) k j = some (j + m.length, z) := by
        intro m
        induction m with
        | nil => intro j _; simp [mfind]
        | cons p m ih =>
          obtain ⟨a, u⟩ := p
          intro j hn
          simp only [mget] at hn
          split at hn
          · cases hn
          · rename_i hk
            simp only [List.cons_append, mfind, if_neg hk, ih (j + 1) hn, List.length_cons]
            congr 2; omega
      simp only [Option.getD_none, hnew]
      rw [fa m 0 hv.symm, hsz, Nat.zero_add]
  | some p =>
    obtain ⟨i, v⟩ := p
    rw [hm] at hv
    simp only [Option.map_some] at hv
    rw [← hv]
    obtain ⟨q1, q2⟩ := ents_modify kd es m h2 k v hm
    have hk : (Instr.keyThatStays (((es[i]?).map (·.key)).getD (kd.kk k)) (kd.kk k)).run P w = .ok (kd.kk k) w := by
      rw [q2]
      simp [Instr.keyThatStays, kd.bits]
    simp only [Sem.run_bind, hk, hs, Result.andThen_ok, Sem.run_pure, Option.getD_some]
    have hsame : (es.modify i fun e => { e with key := kd.kk k }) = es := modify_same fun x hx => by
      rw [hx] at q2
      have : x.key = kd.kk k := by simpa using q2
      rw [← this]
    cases hx : es[i]? with
    | none => rw [hx] at q2; cases q2
    | some x =>
      rw [hsame]
      refine ⟨{ w with heap := w.heap.setIfInBounds r (.map es c) }, (x.born : Int), by simp [goInt], ⟨es, c, i, v, blk_setObj _ hl, ?_, ?_, h4, find_born h4.2.1 hx, ?_⟩, mod_setObj _ _ _⟩
      · rw [mput_same m k v hv.symm]; exact h2
      · rw [mput_same m k v hv.symm]; exact h3
      · rw [mput_same m k v hv.symm]; exact hm
theorem run_entryStore {w : World} {mt : TypeId} {r : Nat} {m : List (K × Value)} {k : K} {stamp : Int} (h : EntAt kd w r m k stamp) (x : Value) :
    ∃ w', (Instr.entryStore mt (.map (some r)) (.int .i64 stamp) x).run P w = .ok () w' ∧ MapAt kd w' r (mput m k x) ∧ Mod (fun q => q = r) w w' := by
  obtain ⟨es, c, i, v, h1, h2, h3, h4, h5, h6⟩ := h
  have hl := blk_lt h1
  have hg : (getObj r).run P w = .ok (.map es c) w := by simp [getObj, Sem.run, h1]
  have hs : ∀ o, (setObj r o).run P w = .ok () { w with heap := w.heap.setIfInBounds r o } := fun o => by simp [setObj, Sem.run, h1]
  obtain ⟨q1, q2⟩ := ents_modify kd es m h2 k x h6
  have hsame : (es.modify i fun e => { e with val := x }) = es.modify i fun e => { e with key := kd.kk k, val := x } := modify_congr fun y hy => by
    rw [hy] at q2
    have : y.key = kd.kk k := by simpa using q2
    rw [← this]
  refine ⟨_, ?_, ⟨_, c, blk_setObj (.map (es.modify i fun e => { e with val := x }) c) hl, by rw [hsame]; exact q1, mput_nodup h3 k x, MapKept.stamped_modify h4 i _ (fun _ _ => rfl) (fun _ _ _ => rfl)⟩, mod_setObj _ _ _⟩
  unfold Instr.entryStore
  simp [Sem.run_bind, hg, asInt, asIntOf, h5, hs, Result.andThen]

theorem wpList_mapEntry {w : World} {ops : Array Oper} {rest : List Oper} {o : Oper} {a : Act} {Q : Exit → Act → World → Prop} (hgd : o.guard = none) (ma x : Operand) (mt e : TypeId) (ho : o.op = Op.mapEntry mt ma x)
    (ht : P.underlying mt = some (.map kt e)) {z : Value} (hz : ∀ w, (zeroValue e).run P w = .ok z w) (r : Nat) (m : List (K × Value)) (hm : a.eval ma = .map (some r)) (h : MapAt kd w r m) (k : K) (hx : a.eval x = kd.kk k)
    (hK : ∀ w' stamp, EntAt kd w' r (mput m k ((mget m k).getD z)) k stamp → Mod (fun q => q = r) w w' → wpList P ops Q rest (a.put o.dst (.tuple #[(mget m k).getD z, .int .i64 stamp])) w') : wpList P ops Q (o :: rest) a w := by
  refine wpList_plain hgd fun K' hK' => ?_
  obtain ⟨w', stamp, hr, h1, h2⟩ := run_mapEntry kd ht hz h k
  unfold Oper.wp
  simp [execOp, ho, hm, hx, hr, Result.andThen]
  exact hK' _ _ (hK w' stamp h1 h2)
theorem wpList_entryStore {w : World} {ops : Array Oper} {rest : List Oper} {o : Oper} {a : Act} {Q : Exit → Act → World → Prop} (hgd : o.guard = none) (ma s x : Operand) (mt : TypeId) (ho : o.op = Op.entryStore mt ma s x)
    (r : Nat) (m : List (K × Value)) (k : K) (stamp : Int) (hm : a.eval ma = .map (some r)) (hst : a.eval s = .int .i64 stamp) (h : EntAt kd w r m k stamp) (val : Value) (hx : a.eval x = val)
    (hK : ∀ w', MapAt kd w' r (mput m k val) → Mod (fun q => q = r) w w' → wpList P ops Q rest (a.put o.dst undef) w') : wpList P ops Q (o :: rest) a w := by
  refine wpList_plain hgd fun K' hK' => ?_
  obtain ⟨w', hr, h1, h2⟩ := run_entryStore kd (mt := mt) h val
  unfold Oper.wp
  simp [execOp, ho, hm, hst, hx, hr, Result.andThen]
  exact hK' _ _ (hK w' h1 h2)
end
end Go.Proofs.Ytgahjibjladafaa
