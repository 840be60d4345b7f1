/- Part 1 of the proof of seqExact_holds: what it rests on. -/
import Derived.WalkKit
import Derived.WalkSpells
import Derived.WalkLawsBesides
import Derived.ArgAppend
import Derived.Deep.AppendLies
import Derived.Deep.RegionHeld3
import Derived.KernelRfl
import Derived.OrdersHeld
import Derived.ProofKit
import Derived.OpenShut
import Derived.ShutString
import Derived.ChangeOld
import Derived.Below
import Derived.SizedLaws
import Derived.Lib.Hide
import Derived.Test.YtckdofjpoajblaaGreatRows
import Derived.Outline
import Derived.Deep.CutBlock
import Derived.IntWalk
import Derived.Lib.MinMax
import Derived.Laws.StructEq
import Derived.Shelf.SlicesE.Kit
import Derived.Maps.RangeWalk
import Derived.Laws.BytesArg
import Derived.Lib.ConvBytes
import Derived.Deep.DeepCutAuto
import Derived.Lib.AppendZeros
import Derived.Lib.Walk
import Derived.Lib.SliceRun
import Derived.Shelf.Strings.Builder1
import Derived.Shelf.Small.Bits
import Derived.Shelf.Small.Wraps
import Derived.Shelf.Strings.BuilderF
import Derived.Shelf.Strings.BuilderK
import Derived.Shelf.Strconv.Itoa0
import Derived.Shelf.Sort.Plain
import Derived.Shelf.Slices.CompactS
import Derived.Ground.Names2Prog
import Derived.Shelf.Slices.SearchI
import Derived.Shelf.Slices.Cells
import Derived.Shelf.Slices.In.SortNone
import Derived.Ground.SlsfProg
import Derived.Shelf.SlSortCmp.InsertionK
import Derived.Shelf.SlSortCmp.SmallK
import Derived.Test.YtckdofjpoajblaaGreatProg
import Derived.Lib.AppendIntMem
import Derived.Laws.Bits64b
import Derived.Laws.EntriesVeiled
import Derived.Lib.SlicesCompact
import Derived.Sort.Walk0
import Derived.Deep.LoopGhost
import Derived.JoinedTies
import GoSem.Claim
namespace Go.Proofs.YtckdofjpoajblaaGreat
open Go.RowKit
set_option linter.unusedVariables false
set_option linter.unusedSimpArgs false
structure Mod (F : Nat → Prop) (w w' : World) : Prop where
  os : w'.os = w.os
  tape : w'.tape = w.tape
  output : w'.output = w.output
  size : w.heap.size ≤ w'.heap.size
  block : ∀ k, k < w.heap.size → ¬ F k → w'.heap[k]? = w.heap[k]?
theorem Mod.refl (F : Nat → Prop) (w : World) : Mod F w w := ⟨rfl, rfl, rfl, Nat.le_refl _, fun _ _ _ => rfl⟩
theorem Mod.mono {F G : Nat → Prop} {w w' : World} (h : Mod F w w') (hf : ∀ k, k < w.heap.size → F k → G k) : Mod G w w' :=
  ⟨h.os, h.tape, h.output, h.size, fun k hk hn => h.block k hk (fun hF => hn (hf k hk hF))⟩
theorem Mod.trans {F : Nat → Prop} {a b c : World} (h : Mod F a b) (k : Mod F b c) : Mod F a c :=
  ⟨k.os.trans h.os, k.tape.trans h.tape, k.output.trans h.output, Nat.le_trans h.size k.size, fun i hi hn => (k.block i (Nat.lt_of_lt_of_le hi h.size) hn).trans (h.block i hi hn)⟩
theorem Mod.then {F G : Nat → Prop} {a b c : World} (h : Mod F a b) (k : Mod G b c) (hG : ∀ i, i < a.heap.size → G i → F i) : Mod F a c :=
  ⟨k.os.trans h.os, k.tape.trans h.tape, k.output.trans h.output, Nat.le_trans h.size k.size, fun i hi hn => (k.block i (Nat.lt_of_lt_of_le hi h.size) (fun g => hn (hG i hi g))).trans (h.block i hi hn)⟩
theorem Mod.drew {F : Nat → Prop} {a b : World} (h : Mod F a b) : Mod F a b.drew := ⟨h.os, h.tape, h.output, h.size, h.block⟩
theorem Mod.drewN {F : Nat → Prop} {a b : World} (h : Mod F a b) (n : Nat) : Mod F a (b.drewN n) := ⟨h.os, h.tape, h.output, h.size, h.block⟩
theorem Mod.alloc {F : Nat → Prop} {a b : World} (h : Mod F a b) (o : Obj) : Mod F a (b.alloc o) :=
  h.then (G := fun _ => False) ⟨rfl, rfl, rfl, by simp, fun k hk _ => heap_alloc_old b o hk⟩ (fun _ _ h => h.elim)
theorem Mod.setCell {F : Nat → Prop} {a b : World} (h : Mod F a b) {p : Addr} (hp : p.block < a.heap.size → F p.block) (v : Value) : Mod F a (b.setCell p v) :=
  h.then (G := fun k => k = p.block) ⟨rfl, rfl, rfl, by simp [World.setCell], fun k hk hn => Below.heap_setCell b p v k hn⟩ (fun i hi e => by subst e; exact hp hi)
theorem Mod.of_below {B : Nat} {w w' : World} (h : Below B w w') : Mod (fun k => B ≤ k) w w' := ⟨h.os, h.tape, h.output, h.size, fun k hk hn => h.block k (by omega)⟩
theorem Mod.of_below_size {w w' : World} (h : Below w.heap.size w w') (F : Nat → Prop) : Mod F w w' := ⟨h.os, h.tape, h.output, h.size, fun k hk hn => h.block k hk⟩
theorem Mod.of_grown {row : Option Nat} {w w' : World} (h : w.grownBy w' row) : Mod (fun k => some k = row) w w' := ⟨h.os, h.tape, h.output, h.size, fun k hk hn => h.block k hk hn⟩
theorem Mod.below {F : Nat → Prop} {w w' : World} (h : Mod F w w') (B : Nat) (hB : B ≤ w.heap.size) (hF : ∀ k, k < B → ¬ F k) : Below B w w' :=
  ⟨h.os, h.tape, h.output, h.size, fun k hk => h.block k (by omega) (hF k hk)⟩
theorem Mod.cell {F : Nat → Prop} {w w' : World} (h : Mod F w w') (b o : Nat) (hb : b < w.heap.size) (hn : ¬ F b) : w'.cell? ⟨b, o, none⟩ = w.cell? ⟨b, o, none⟩ := World.cell?_of_block (h.block b hb hn)
theorem Mod.frozen {F : Nat → Prop} {w w' : World} (h : Mod F w w') (b o : Nat) (hb : b < w.heap.size) (hn : ¬ F b) : w'.frozen? ⟨b, o, none⟩ = w.frozen? ⟨b, o, none⟩ := World.frozen?_of_block (h.block b hb hn)
theorem blk_lt {w : World} {k : Nat} {o : Obj} (h : w.heap[k]? = some o) : k < w.heap.size := (Array.getElem?_eq_some_iff.1 h).1
theorem addr_add (g o j : Nat) : (⟨g, o, none⟩ : Addr).add j = ⟨g, o + j, none⟩ := by unfold Addr.add; split <;> simp_all
theorem cell_blk {w : World} {g : Nat} {cur : Array Value} {e : TypeId} {fr : Nat × Nat} (h : w.heap[g]? = some (.cells cur e fr)) (o : Nat) : w.cell? ⟨g, o, none⟩ = cur[o]? := by simp [World.cell?, h]
theorem free_blk {w : World} {g : Nat} {cur : Array Value} {e : TypeId} (h : w.heap[g]? = some (.cells cur e (0, 0))) (o : Nat) : w.frozen? ⟨g, o, none⟩ = false := by simp [World.frozen?, h]
theorem set_blk {w : World} {g : Nat} {cur : Array Value} {e : TypeId} {fr : Nat × Nat} (h : w.heap[g]? = some (.cells cur e fr)) (o : Nat) (v : Value) : (w.setCell ⟨g, o, none⟩ v).heap[g]? = some (.cells (cur.setIfInBounds o v) e fr) := by
  have hl := blk_lt h
  simp [World.setCell, Array.getElem?_modify, h]
def Row (w : World) (e sz : Nat) (A : Option Addr) (n cap : Nat) (cs : List Value) : Prop :=
  cs.length = n * sz ∧ n ≤ cap ∧ cap ≤ maxLen ∧ (A = none → cap = 0) ∧
  ∀ a, A = some a → a.spot = none ∧ ∃ cur, w.heap[a.block]? = some (.cells cur e (0, 0)) ∧ a.off + cap * sz ≤ cur.size ∧ (cur.toList.drop a.off).take (n * sz) = cs
theorem Row.nil (w : World) (e sz : Nat) : Row w e sz none 0 0 [] := ⟨by simp, Nat.le_refl _, Nat.zero_le _, fun _ => rfl, fun a h => by cases h⟩
theorem Row.move {w w' : World} {e sz : Nat} {A : Option Addr} {n cap : Nat} {cs : List Value} (h : Row w e sz A n cap cs) (hm : ∀ a, A = some a → w'.heap[a.block]? = w.heap[a.block]?) : Row w' e sz A n cap cs := by
  obtain ⟨h1, h2, h3, h4, h5⟩ := h
  refine ⟨h1, h2, h3, h4, fun a ha => ?_⟩
  obtain ⟨hs, cur, hc, r⟩ := h5 a ha
  exact ⟨hs, cur, (hm a ha).trans hc, r⟩
theorem Row.lt {w : World} {e sz : Nat} {a : Addr} {n cap : Nat} {cs : List Value} (h : Row w e sz (some a) n cap cs) : a.block < w.heap.size := by
  obtain ⟨_, cur, hc, _⟩ := h.2.2.2.2 a rfl
  exact blk_lt hc
theorem Row.mod {F : Nat → Prop} {w w' : World} {e sz : Nat} {A : Option Addr} {n cap : Nat} {cs : List Value} (h : Row w e sz A n cap cs) (hm : Mod F w w') (hF : ∀ a, A = some a → ¬ F a.block) : Row w' e sz A n cap cs :=
  h.move (fun a ha => by subst ha; exact hm.block _ h.lt (hF a rfl))
theorem Row.len {w : World} {e sz : Nat} {A : Option Addr} {n cap : Nat} {cs : List Value} (h : Row w e sz A n cap cs) : cs.length = n * sz := h.1
theorem Row.some_of_pos {w : World} {e sz : Nat} {A : Option Addr} {n cap : Nat} {cs : List Value} (h : Row w e sz A n cap cs) (hn : 0 < cap) : ∃ g o, A = some ⟨g, o, none⟩ := by
  cases A with
  | none => have := h.2.2.2.1 rfl; omega
  | some a =>
    obtain ⟨hs, _⟩ := h.2.2.2.2 a rfl
    obtain ⟨b, o, s⟩ := a
    simp at hs
    subst hs
    exact ⟨b, o, rfl⟩
theorem Row.cells {w : World} {e sz : Nat} {a : Addr} {n cap : Nat} {cs : List Value} (h : Row w e sz (some a) n cap cs) : ∀ j u, cs[j]? = some u → w.cell? (a.add j) = some u := by
  intro j u hu
  obtain ⟨hs, cur, hc, hsz, ht⟩ := h.2.2.2.2 a rfl
  obtain ⟨b, o, s⟩ := a
  simp at hs hc ht
  subst hs
  rw [addr_add, cell_blk hc, ← Array.getElem?_toList]
  rw [← ht, List.getElem?_take] at hu
  split at hu
  · rw [List.getElem?_drop] at hu; exact hu
  · cases hu
theorem Row.cell {w : World} {e sz g o : Nat} {n cap : Nat} {cs : List Value} (h : Row w e sz (some ⟨g, o, none⟩) n cap cs) (j : Nat) (hj : j < n * sz) : w.cell? ⟨g, o + j, none⟩ = cs[j]? := by
  have hl := h.1
  have := h.cells j (cs[j]'(by omega)) (List.getElem?_eq_getElem (by omega))
  rw [addr_add] at this
  rw [this, List.getElem?_eq_getElem (by omega)]
theorem Row.free {w : World} {e sz g o : Nat} {n cap : Nat} {cs : List Value} (h : Row w e sz (some ⟨g, o, none⟩) n cap cs) (j : Nat) : w.frozen? ⟨g, j, none⟩ = false := by
  obtain ⟨_, cur, hc, _⟩ := h.2.2.2.2 _ rfl
  exact free_blk hc j
def Rd (w : World) (sz : Nat) (A : Option Addr) (n : Nat) (cs : List Value) : Prop :=
  cs.length = n * sz ∧ (0 < n * sz → ∃ g o, A = some ⟨g, o, none⟩ ∧ g < w.heap.size ∧ ∀ j, j < n * sz → w.cell? ⟨g, o + j, none⟩ = cs[j]?)
theorem setCells_mod (g : Nat) : ∀ (vs : List Value) (o : Nat) (w : World), Mod (fun k => k = g) w (w.setCells g o vs)
  | [], _, w => Mod.refl _ w
  | v :: r, o, w => by
    rw [World.setCells]
    exact Mod.trans (F := fun k => k = g) ((Mod.refl (fun k => k = g) w).setCell (p := ⟨g, o, none⟩) (fun _ => rfl) v) (setCells_mod g r (o + 1) _)
theorem setCells_blk {g : Nat} {e : TypeId} : ∀ (vs : List Value) (o : Nat) (w : World) (cur : Array Value), w.heap[g]? = some (.cells cur e (0, 0)) → o + vs.length ≤ cur.size →
    ∃ cur', (w.setCells g o vs).heap[g]? = some (.cells cur' e (0, 0)) ∧ cur'.size = cur.size ∧ ∀ j, cur'.toList[j]? = if o ≤ j ∧ j < o + vs.length then vs[j - o]? else cur.toList[j]?
  | [], o, w, cur, h, _ => ⟨cur, h, rfl, fun j => by rw [if_neg (by simp only [List.length_nil]; omega)]⟩
  | v :: r, o, w, cur, h, hl => by
    simp only [List.length_cons] at hl
    obtain ⟨cur', h3, h4, h5⟩ := setCells_blk r (o + 1) (w.setCell ⟨g, o, none⟩ v) _ (set_blk h o v) (by simp; omega)
    refine ⟨cur', h3, by rw [h4]; simp, fun j => ?_⟩
    rw [h5]
    simp only [List.length_cons, Array.toList_setIfInBounds]
    by_cases h1 : o + 1 ≤ j ∧ j < o + 1 + r.length
    · rw [if_pos h1, if_pos (by omega), show j - o = (j - (o + 1)) + 1 by omega, List.getElem?_cons_succ]
    · rw [if_neg h1]
      by_cases h2 : j = o
      · subst h2
        rw [if_pos (by omega), List.getElem?_set_self (by rw [Array.length_toList]; omega)]
        simp
      · rw [if_neg (by omega), List.getElem?_set_ne (by omega)]
section
variable {P : Program}
theorem run_append_row (w : World) (t ty e : TypeId) (i : TypeInfo) (z : Value) (sz bytes : Nat) (ht : P.underlying t = some (.slice e)) (hi : P.info? e = some i) (hz : i.zero = some z)
    (hsize : i.size = sz) (hby : i.bytes = bytes) (hzs : z.cells.size = sz) (hsz : 0 < sz)
    (A : Option Addr) (n cap : Nat) (cs : List Value) (hown : Row w e sz A n cap cs)
    (a : Addr) (m c : Nat) (news : List Value) (hl : news.length = m * sz) (hnews : ∀ j u, news[j]? = some u → w.cell? (a.add j) = some u) (h1 : ∀ u ∈ news, u.oneCell' = true) (hm : 0 < m)
    (h63 : n + m ≤ maxLen) (hbytes : (n + m) * bytes ≤ 140737488355328) :
    ∃ g o cap' w', (Builtin.append_ #[t, t] ty #[.slice A n cap, .slice (some a) m c]).run P w = .ok (.slice (some ⟨g, o, none⟩) (n + m) cap') w' ∧ Row w' e sz (some ⟨g, o, none⟩) (n + m) cap' (cs ++ news) ∧
      Mod (fun k => ∃ a, A = some a ∧ k = a.block) w w' ∧ ((∃ a, A = some a ∧ g = a.block) ∨ w.heap.size ≤ g) := by
  have hcs := hown.1
  have big : n + m ≤ 9223372036854775807 := by simp only [maxLen] at h63; omega
  have grows : ∀ b : Addr, A = some b → cap < n + m → ∃ g o cap' w', (Builtin.append_ #[t, t] ty #[.slice A n cap, .slice (some a) m c]).run P w = .ok (.slice (some ⟨g, o, none⟩) (n + m) cap') w' ∧ Row w' e sz (some ⟨g, o, none⟩) (n + m) cap' (cs ++ news) ∧
      Mod (fun k => ∃ a, A = some a ∧ k = a.block) w w' ∧ ((∃ a, A = some a ∧ g = a.block) ∨ w.heap.size ≤ g) := by
    intro b hA hcap
    subst hA
    obtain ⟨v', w', hr, ho, hg⟩ := run_append_arg_grows (P := P) (w := w) t ty e i z sz bytes ht hi hz hsize hby hzs hsz b n cap cs hcs hown.cells a m c news hl hnews hcap h63 hbytes
    rcases ho.2 with ⟨_, h0⟩ | ⟨g, cap', cur, rfl, hb, hgh, hnc, hcm, hcsz, htk⟩
    · omega
    · refine ⟨g, 0, cap', w', hr, ⟨ho.1, hnc, hcm, fun h => (by cases h), fun a' ha' => ?_⟩, (Mod.of_grown hg).mono (fun k _ hk => by cases hk), .inr hb⟩
      injection ha' with ha'
      subst ha'
      exact ⟨rfl, cur, hgh, by simp only; omega, by simpa using htk⟩
  cases A with
  | none =>
    have hc0 := hown.2.2.2.1 rfl
    have hn0 : n = 0 := by have := hown.2.1; omega
    subst hc0; subst hn0
    have hcs0 : cs = [] := List.eq_nil_of_length_eq_zero (by rw [hcs]; simp)
    subst hcs0
    subst hsize; subst hby
    simp only [Nat.zero_add, List.nil_append] at h63 hbytes big ⊢
    have hr := run_append_nil (P := P) w t ty e i z ht hi hz a m c news hl hnews hm (by omega) (by omega)
    refine ⟨w.heap.size, 0, _, _, hr, ⟨hl, grownCap_ge w m 0 e, grownCap_le_maxLen w m 0 e h63, fun h => (by cases h), fun a' ha' => ?_⟩, ((Mod.refl _ _).drew).alloc _, .inr (Nat.le_refl _)⟩
    injection ha' with ha'
    subst ha'
    refine ⟨rfl, _, heap_alloc_new w.drew _, ?_, ?_⟩
    · have hge := grownCap_ge w m 0 e
      simp only [Array.size_append, List.size_toArray, size_zeroCells, hzs, hl, Nat.zero_add]
      rw [← Nat.add_mul]
      exact Nat.mul_le_mul_right _ (by omega)
    · simp only [List.drop_zero, Array.toList_append, ← hl]
      exact List.take_left
  | some b =>
    by_cases hroom : n + m ≤ cap
    · obtain ⟨hs, cur, hc, hsz', htk⟩ := hown.2.2.2.2 b rfl
      obtain ⟨g, off, s⟩ := b
      simp at hs
      subst hs
      simp only at hc hsz' htk
      have hmul : (n + m) * sz ≤ cap * sz := Nat.mul_le_mul_right _ hroom
      rw [Nat.add_mul] at hmul
      subst hsize
      have hr := run_append_room_cells (P := P) (w := w) t ty e i ht hi g off n cap a m c news hl hnews h1 hroom
        (fun j hj => by rw [cell_blk hc]; simp; omega) (fun j _ => free_blk hc _)
      obtain ⟨cur', h3, h4, h5⟩ := setCells_blk news (off + n * i.size) w cur hc (by omega)
      refine ⟨g, off, cap, _, hr, ⟨by rw [List.length_append, hcs, hl, Nat.add_mul], hroom, hown.2.2.1, fun h => (by cases h), fun a' ha' => ?_⟩, (setCells_mod g news _ w).mono (fun k _ hk => ⟨_, rfl, hk⟩), .inl ⟨_, rfl, rfl⟩⟩
      injection ha' with ha'
      subst ha'
      refine ⟨rfl, cur', h3, by rw [h4]; exact hsz', ?_⟩
      apply List.ext_getElem?
      intro j
      simp only
      rw [List.getElem?_take]
      have hap : ∀ q, (cs ++ news)[q]? = if q < n * i.size then cs[q]? else news[q - n * i.size]? := fun q => by
        rw [List.getElem?_append, hcs]
      rw [hap]
      by_cases hj : j < (n + m) * i.size
      · rw [if_pos hj, List.getElem?_drop, h5]
        rw [Nat.add_mul] at hj
        by_cases hj2 : j < n * i.size
        · rw [if_neg (by omega), if_pos hj2, ← htk, List.getElem?_take, if_pos hj2, List.getElem?_drop]
        · rw [if_pos (by omega), if_neg hj2, show off + j - (off + n * i.size) = j - n * i.size by omega]
      · rw [if_neg hj]
        rw [Nat.add_mul] at hj
        rw [if_neg (by omega), List.getElem?_eq_none (by omega)]
    · exact grows b rfl (by omega)
theorem run_append_none (w : World) (t ty e : TypeId) (i : TypeInfo) (ht : P.underlying t = some (.slice e)) (hi : P.info? e = some i)
    (A : Option Addr) (n cap : Nat) (cs : List Value) (hown : Row w e i.size A n cap cs) (X : Option Addr) (c : Nat) :
    (Builtin.append_ #[t, t] ty #[.slice A n cap, .slice X 0 c]).run P w = .ok (.slice A n cap) w := by
  have h2 := hown.2.1
  cases A <;> cases X <;> simp [Builtin.append_, run_underlying ht, sizeOf, typeInfo, hi, Builtin.lenOf, h2, Builtin.firstCells, loadCells, loadCellsFrom, storeCells, Result.andThen]
theorem run_append_rd (w : World) (t ty e : TypeId) (i : TypeInfo) (z : Value) (sz bytes : Nat) (ht : P.underlying t = some (.slice e)) (hi : P.info? e = some i) (hz : i.zero = some z)
    (hsize : i.size = sz) (hby : i.bytes = bytes) (hzs : z.cells.size = sz) (hsz : 0 < sz)
    (A : Option Addr) (n cap : Nat) (cs : List Value) (hown : Row w e sz A n cap cs)
    (X : Option Addr) (m c : Nat) (news : List Value) (hx : Rd w sz X m news) (h1 : ∀ u ∈ news, u.oneCell' = true)
    (h63 : n + m ≤ maxLen) (hbytes : (n + m) * bytes ≤ 140737488355328) :
    ∃ A' cap' w', (Builtin.append_ #[t, t] ty #[.slice A n cap, .slice X m c]).run P w = .ok (.slice A' (n + m) cap') w' ∧ Row w' e sz A' (n + m) cap' (cs ++ news) ∧
      Mod (fun k => ∃ a, A = some a ∧ k = a.block) w w' ∧ (∀ a', A' = some a' → (∃ a, A = some a ∧ a'.block = a.block) ∨ w.heap.size ≤ a'.block) := by
  rcases Nat.eq_zero_or_pos m with hm | hm
  · subst hm
    have hn : news = [] := List.eq_nil_of_length_eq_zero (by rw [hx.1]; simp)
    subst hn
    subst hsize
    refine ⟨A, cap, w, run_append_none w t ty e i ht hi A n cap cs hown X c, by simpa using hown, Mod.refl _ _, fun a' h => .inl ⟨a', h, rfl⟩⟩
  · obtain ⟨g, o, rfl, hg, hc⟩ := hx.2 (Nat.mul_pos hm hsz)
    obtain ⟨g', o', cap', w', hr, h2, h3, h4⟩ := run_append_row (P := P) w t ty e i z sz bytes ht hi hz hsize hby hzs hsz A n cap cs hown ⟨g, o, none⟩ m c news hx.1
      (fun j u hu => by rw [addr_add, hc j (by rw [← hx.1]; exact (List.getElem?_eq_some_iff.1 hu).1)]; exact hu) h1 hm h63 hbytes
    refine ⟨_, cap', w', hr, h2, h3, fun a' ha' => ?_⟩
    injection ha' with ha'
    subst ha'
    exact h4
theorem wpList_append_rd {w : World} {ops : Array Oper} {rest : List Oper} {o : Oper} {a : Act} {Q : Exit → Act → World → Prop} (hgd : o.guard = none) (s x : Operand) (t : TypeId)
    (ho : o.op = .call { callee := .builtin .append, args := #[s, x], argTypes := #[t, t] })
    (e : TypeId) (i : TypeInfo) (z : Value) (sz bytes : Nat) (ht : P.underlying t = some (.slice e)) (hi : P.info? e = some i) (hz : i.zero = some z)
    (hsize : i.size = sz) (hby : i.bytes = bytes) (hzs : z.cells.size = sz) (hsz : 0 < sz)
    (A : Option Addr) (n cap : Nat) (cs : List Value) (hs : a.eval s = .slice A n cap) (hown : Row w e sz A n cap cs)
    (X : Option Addr) (m c : Nat) (news : List Value) (hx : a.eval x = .slice X m c) (hrd : Rd w sz X m news) (h1 : ∀ u ∈ news, u.oneCell' = true)
    (h63 : n + m ≤ maxLen) (hbytes : (n + m) * bytes ≤ 140737488355328)
    (h : ∀ A' cap' w', Row w' e sz A' (n + m) cap' (cs ++ news) → Mod (fun k => ∃ a, A = some a ∧ k = a.block) w w' → (∀ a', A' = some a' → (∃ a, A = some a ∧ a'.block = a.block) ∨ w.heap.size ≤ a'.block) → wpList P ops Q rest (a.put o.dst (.slice A' (n + m) cap')) w') : wpList P ops Q (o :: rest) a w := by
  refine wpList_plain hgd fun _ hK => ?_
  obtain ⟨A', cap', w', hr, h2, h3, h4⟩ := run_append_rd (P := P) w t o.type e i z sz bytes ht hi hz hsize hby hzs hsz A n cap cs hown X m c news hrd h1 h63 hbytes
  unfold Oper.wp execOp
  simp only [ho, resolve, invoke, builtin, Sem.run_bind, Sem.run_pure, Result.andThen_ok, List.map_toArray, List.map_cons, List.map_nil, hs, hx, hr]
  exact hK _ _ (h A' cap' w' h2 h3 h4)
theorem wp_append_row {w : World} {o : Oper} {a : Act} {K : Act → World → Prop} {Q : Exit → Act → World → Prop} (s x : Operand) (t : TypeId)
    (ho : o.op = .call { callee := .builtin .append, args := #[s, x], argTypes := #[t, t] })
    (e : TypeId) (i : TypeInfo) (z : Value) (sz bytes : Nat) (ht : P.underlying t = some (.slice e)) (hi : P.info? e = some i) (hz : i.zero = some z)
    (hsize : i.size = sz) (hby : i.bytes = bytes) (hzs : z.cells.size = sz) (hsz : 0 < sz)
    (A : Option Addr) (n cap : Nat) (cs : List Value) (hs : a.eval s = .slice A n cap) (hown : Row w e sz A n cap cs)
    (ad : Addr) (m c : Nat) (news : List Value) (hx : a.eval x = .slice (some ad) m c) (hl : news.length = m * sz) (hnews : ∀ j u, news[j]? = some u → w.cell? (ad.add j) = some u) (h1 : ∀ u ∈ news, u.oneCell' = true)
    (hm : 0 < m) (h63 : n + m ≤ maxLen) (hbytes : (n + m) * bytes ≤ 140737488355328)
    (h : ∀ g of cap' w', Row w' e sz (some ⟨g, of, none⟩) (n + m) cap' (cs ++ news) → Mod (fun k => ∃ a, A = some a ∧ k = a.block) w w' → ((∃ a, A = some a ∧ g = a.block) ∨ w.heap.size ≤ g) → K (a.put o.dst (.slice (some ⟨g, of, none⟩) (n + m) cap')) w') : o.wp P a w K Q := by
  obtain ⟨g, of, cap', w', hr, h2, h3, h4⟩ := run_append_row (P := P) w t o.type e i z sz bytes ht hi hz hsize hby hzs hsz A n cap cs hown ad m c news hl hnews h1 hm h63 hbytes
  unfold Oper.wp execOp
  simp only [ho, resolve, invoke, builtin, Sem.run_bind, Sem.run_pure, Result.andThen_ok, List.map_toArray, List.map_cons, List.map_nil, hs, hx, hr]
  exact h g of cap' w' h2 h3 h4
theorem wpList_append_row {w : World} {ops : Array Oper} {rest : List Oper} {o : Oper} {a : Act} {Q : Exit → Act → World → Prop} (hgd : o.guard = none) (s x : Operand) (t : TypeId)
    (ho : o.op = .call { callee := .builtin .append, args := #[s, x], argTypes := #[t, t] })
    (e : TypeId) (i : TypeInfo) (z : Value) (sz bytes : Nat) (ht : P.underlying t = some (.slice e)) (hi : P.info? e = some i) (hz : i.zero = some z)
    (hsize : i.size = sz) (hby : i.bytes = bytes) (hzs : z.cells.size = sz) (hsz : 0 < sz)
    (A : Option Addr) (n cap : Nat) (cs : List Value) (hs : a.eval s = .slice A n cap) (hown : Row w e sz A n cap cs)
    (ad : Addr) (m c : Nat) (news : List Value) (hx : a.eval x = .slice (some ad) m c) (hl : news.length = m * sz) (hnews : ∀ j u, news[j]? = some u → w.cell? (ad.add j) = some u) (h1 : ∀ u ∈ news, u.oneCell' = true)
    (hm : 0 < m) (h63 : n + m ≤ maxLen) (hbytes : (n + m) * bytes ≤ 140737488355328)
    (h : ∀ g of cap' w', Row w' e sz (some ⟨g, of, none⟩) (n + m) cap' (cs ++ news) → Mod (fun k => ∃ a, A = some a ∧ k = a.block) w w' → ((∃ a, A = some a ∧ g = a.block) ∨ w.heap.size ≤ g) → wpList P ops Q rest (a.put o.dst (.slice (some ⟨g, of, none⟩) (n + m) cap')) w') : wpList P ops Q (o :: rest) a w :=
  wpList_plain hgd fun _ hK => wp_append_row s x t ho e i z sz bytes ht hi hz hsize hby hzs hsz A n cap cs hs hown ad m c news hx hl hnews h1 hm h63 hbytes fun g of cap' w' h2 h3 h4 => hK _ _ (h g of cap' w' h2 h3 h4)
end
theorem Row.drop {w : World} {e sz : Nat} {A : Option Addr} {n cap k : Nat} {cs : List Value} (h : Row w e sz A n cap cs) (hk : k ≤ n) : Row w e sz (if cap = k then A else A.map (·.add (k * sz))) (n - k) (cap - k) (cs.drop (k * sz)) := by
  obtain ⟨h1, h2, h3, h4, h5⟩ := h
  refine ⟨by rw [List.length_drop, h1, Nat.sub_mul], by omega, by omega, fun hA => ?_, fun a ha => ?_⟩
  · split at hA
    · omega
    · cases A with
      | none => have := h4 rfl; omega
      | some a => cases hA
  · split at ha
    · subst ha
      obtain ⟨hs, cur, hc, hsz, ht⟩ := h5 a rfl
      refine ⟨hs, cur, hc, ?_, ?_⟩
      · rw [show cap - k = 0 by omega]; omega
      · rw [show n - k = 0 by omega, ← ht]
        simp only [Nat.zero_mul, List.take_zero]
        rw [List.drop_eq_nil_of_le]
        rw [show n = k by omega]; simp; omega
    · cases A with
      | none => cases ha
      | some b =>
        obtain ⟨hs, cur, hc, hsz, ht⟩ := h5 b rfl
        obtain ⟨g, o, s⟩ := b
        simp only at hs hc hsz ht
        subst hs
        simp only [Option.map_some, Option.some.injEq] at ha
        subst ha
        rw [addr_add]
        have hkc : k * sz ≤ cap * sz := Nat.mul_le_mul_right _ (by omega)
        have hkn : k * sz ≤ n * sz := Nat.mul_le_mul_right _ (by omega)
        refine ⟨rfl, cur, hc, ?_, ?_⟩
        · simp only [Nat.sub_mul]; omega
        · simp only
          rw [← ht, List.drop_take, List.drop_drop, Nat.sub_mul]
theorem Row.take {w : World} {e sz : Nat} {A : Option Addr} {n cap k : Nat} {cs : List Value} (h : Row w e sz A n cap cs) (hk : k ≤ n) : Row w e sz A k cap (cs.take (k * sz)) := by
  obtain ⟨h1, h2, h3, h4, h5⟩ := h
  have hkn : k * sz ≤ n * sz := Nat.mul_le_mul_right _ (by omega)
  refine ⟨by rw [List.length_take, h1]; omega, by omega, h3, h4, fun a ha => ?_⟩
  obtain ⟨hs, cur, hc, hsz, ht⟩ := h5 a ha
  refine ⟨hs, cur, hc, hsz, ?_⟩
  rw [← ht, List.take_take, Nat.min_eq_left hkn]
section
variable {P : Program}
end
theorem Row.set {w : World} {e sz g o : Nat} {n cap : Nat} {cs : List Value} (h : Row w e sz (some ⟨g, o, none⟩) n cap cs) (j : Nat) (hj : j < n * sz) (v : Value) : Row (w.setCell ⟨g, o + j, none⟩ v) e sz (some ⟨g, o, none⟩) n cap (cs.set j v) := by
  obtain ⟨h1, h2, h3, h4, h5⟩ := h
  refine ⟨by rw [List.length_set, h1], h2, h3, h4, fun a ha => ?_⟩
  injection ha with ha
  subst ha
  obtain ⟨hs, cur, hc, hsz, ht⟩ := h5 _ rfl
  simp only at hs hc hsz ht
  refine ⟨rfl, _, set_blk hc _ _, by simpa using hsz, ?_⟩
  simp only [Array.toList_setIfInBounds]
  rw [← ht]
  apply List.ext_getElem?
  intro q
  have hln : n * sz ≤ cap * sz := Nat.mul_le_mul_right _ h2
  have hlen : cur.toList.length = cur.size := Array.length_toList
  simp only [List.getElem?_take, List.getElem?_drop, List.getElem?_set, List.length_take, List.length_drop]
  by_cases hq : q < n * sz
  · simp only [if_pos hq]
    by_cases hqj : o + j = o + q
    · rw [if_pos hqj, if_pos (show j = q by omega), if_pos (by omega), if_pos (by omega)]
    · rw [if_neg hqj, if_neg (show ¬ j = q by omega)]
  · simp only [if_neg hq]
    rw [if_neg (by omega)]
end Go.Proofs.YtckdofjpoajblaaGreat
namespace Go.Proofs.YtckdofjpoajblaaGreat
set_option linter.unusedVariables false
inductive Stp where
  | pure | load | eff | last
def Stp.on : Stp → Bool
  | .last => false
  | _ => true
section
variable {P : Program} {md : Region.Mode} {ops : Array Oper} {Q : Exit → Act → World → Prop} {S : World → Prop} {ds : List Nat}
def wpAnyS (P : Program) (md : Region.Mode) (ops : Array Oper) (Q : Exit → Act → World → Prop) (S : World → Prop) (ds : List Nat) : Nat → Bool → Array Bool → Act → World → Prop
  | 0, _, l, a, w => Region.ready md ops l = [] ∧ Q .normal a w
  | n + 1, b, l, a, w => (Region.ready md ops l = [] → Q .normal a w) ∧ ∀ i ∈ Region.ready md ops l, wpOp P ops Q i (fun a' w' => ((b && !ds.contains i) = true → S w') ∧ wpAnyS P md ops Q S ds n (b && !ds.contains i) (l.setIfInBounds i true) a' w') a w
theorem wpAnyS_any : ∀ (n : Nat) (b : Bool) (l : Array Bool) (a : Act) (w : World), wpAnyS P md ops Q S ds n b l a w → wpAny P md ops Q n l a w
  | 0, _, _, _, _, h => h
  | n + 1, _, _, _, _, h => ⟨h.1, fun i hi => wpOp_mono (fun a' w' h' => wpAnyS_any n _ _ a' w' h'.2) (h.2 i hi)⟩
theorem wpAnyS_mono {S' : World → Prop} (hs : ∀ u, S' u → S u) : ∀ (n : Nat) (b : Bool) (l : Array Bool) (a : Act) (w : World), wpAnyS P md ops Q S' ds n b l a w → wpAnyS P md ops Q S ds n b l a w
  | 0, _, _, _, _, h => h
  | n + 1, _, _, _, _, h => ⟨h.1, fun i hi => wpOp_mono (fun a' w' h' => ⟨fun hn => hs _ (h'.1 hn), wpAnyS_mono hs n _ _ a' w' h'.2⟩) (h.2 i hi)⟩
def waitsB (md : Region.Mode) (ops : Array Oper) (i : Nat) : Nat → Nat → Bool
  | 0, _ => false
  | n + 1, d => match ops[d]? with
    | some o => o.after.any fun e => Region.binds md e && (e.on == i || waitsB md ops i n e.on)
    | none => false
def Down (md : Region.Mode) (ops : Array Oper) (l : Array Bool) : Prop := ∀ d o, ops[d]? = some o → l.getD d false = true → ∀ e ∈ o.after, Region.binds md e = true → l.getD e.on false = true
theorem Down.set {l : Array Bool} {i : Nat} (h : Down md ops l) (hi : i ∈ Region.ready md ops l) : Down md ops (l.setIfInBounds i true) := by
  intro d o hd hl e he hb
  by_cases hdi : d = i
  · subst hdi
    obtain ⟨_, o', ho', hall⟩ := mem_ready.1 hi
    rw [hd] at ho'
    injection ho' with ho'
    subst ho'
    exact getD_set_true (hall e he hb)
  · have : l.getD d false = true := by
      simpa [Array.getElem?_setIfInBounds_ne (Ne.symm hdi)] using hl
    exact getD_set_true (h d o hd this e he hb)
theorem waits_listed {l : Array Bool} {i : Nat} (hc : Down md ops l) : ∀ (n d : Nat), waitsB md ops i n d = true → l.getD d false = true → l.getD i false = true
  | 0, _, h, _ => by cases h
  | n + 1, d, h, hl => by
    unfold waitsB at h
    cases ho : ops[d]? with
    | none => rw [ho] at h; cases h
    | some o =>
      rw [ho] at h
      obtain ⟨e, he, h⟩ := Array.any_eq_true'.1 h
      simp only [Bool.and_eq_true, Bool.or_eq_true, beq_iff_eq] at h
      have h1 := hc d o ho hl e he h.1
      rcases h.2 with h2 | h2
      · rw [← h2]; exact h1
      · exact waits_listed hc n e.on h2 h1
theorem waits_not_ready {l : Array Bool} {i d n : Nat} (hc : Down md ops l) (h : waitsB md ops i n d = true) (hi : l.getD i true = false) : d ∉ Region.ready md ops l := by
  intro hd
  obtain ⟨_, o, ho, hall⟩ := mem_ready.1 hd
  have hif : l.getD i false = false := by
    rcases Nat.lt_or_ge i l.size with h' | h'
    · simpa [h'] using hi
    · simp [Array.getElem?_eq_none h'] at hi
  cases n with
  | zero => cases h
  | succ n =>
    unfold waitsB at h
    rw [ho] at h
    obtain ⟨e, he, h⟩ := Array.any_eq_true'.1 h
    simp only [Bool.and_eq_true, Bool.or_eq_true, beq_iff_eq] at h
    have h1 := hall e he h.1
    rcases h.2 with h2 | h2
    · rw [h2, hif] at h1; cases h1
    · have := waits_listed hc n e.on h2 h1
      rw [hif] at this; cases this
theorem wpAnyS_first {S' : World → Prop} {i : Nat} {oi : Oper} {v : Value} (hi : ops[i]? = some oi) (hsel : ∀ (j : Nat) (o : Oper) cs b, ops[j]? = some o → o.op ≠ .select cs b)
    (hQ : ∀ c a w, Q (.panic c) (a.put oi.dst v) w → Q (.panic c) a w) (hids : ds.contains i = false) (n : Nat) :
    ∀ (fuel : Nat) (b : Bool) (l : Array Bool) (a : Act) (w : World),
      (∀ j oj, ops[j]? = some oj → j ≠ i → l.getD j true = false → (∀ e ∈ oj.after, Region.binds md e = true → e.on ≠ i) → oi.apart ops oj = true) →
      Down md ops l → ((∀ u, S' u) ∨ (b = true ∧ (∀ u, S u → S' u) ∧ ∀ d, ds.contains d = true → l.getD d true = false → waitsB md ops i n d = true)) →
      i ∈ Region.ready md ops l → YieldsIf P ops S' oi v a → S' w → (b = true → S w) →
      wpAnyS P md ops Q S ds fuel b (l.setIfInBounds i true) (a.put oi.dst v) w → wpAnyS P md ops Q S ds (fuel + 1) b l a w := by
  intro fuel
  induction fuel with
  | zero =>
    intro b l a w _ _ _ hr hy hS hSi H
    refine ⟨fun h => (by rw [h] at hr; cases hr), fun j hj => ?_⟩
    by_cases hji : j = i
    · subst hji; exact hy.wpOp hi hS ⟨fun h => hSi (by revert h; cases b <;> simp), by rw [hids]; simpa using H⟩
    · have := ready_mono hj hji
      rw [H.1] at this
      cases this
  | succ fuel ih =>
    intro b l a w hfree hc hd hr hy hS hSi H
    refine ⟨fun h => (by rw [h] at hr; cases hr), fun j hj => ?_⟩
    by_cases hji : j = i
    · subst hji; exact hy.wpOp hi hS ⟨fun h => hSi (by revert h; cases b <;> simp), by rw [hids]; simpa using H⟩
    · have h1 := H.2 j (ready_mono hj hji)
      obtain ⟨hjun, oj, hoj, hall⟩ := mem_ready.1 hj
      have hiun := (mem_ready.1 hr).1
      have hnot : ∀ e ∈ oj.after, Region.binds md e = true → e.on ≠ i := fun e he hb heq => by
        have h1 := hall e he hb
        rw [heq] at h1
        rcases Nat.lt_or_ge i l.size with h' | h'
        · simp [h'] at hiun h1; rw [hiun] at h1; cases h1
        · simp [Array.getElem?_eq_none h'] at h1
      have h2 := wpOp_putIf hoj (hfree j oj hoj hji hjun hnot) (fun cs b => hsel i oi cs b hi) (fun cs b => hsel j oj cs b hoj) hQ hy h1
      have hfree' : ∀ k ok, ops[k]? = some ok → k ≠ i → (l.setIfInBounds j true).getD k true = false →
          (∀ e ∈ ok.after, Region.binds md e = true → e.on ≠ i) → oi.apart ops ok = true := fun k ok hk hki hun hno => by
        refine hfree k ok hk hki ?_ hno
        by_cases hjk : j = k
        · subst hjk; exact hjun
        · rw [getD_set_ne true hjk] at hun; exact hun
      refine wpOp_mono (fun a' w' h3 => ⟨h3.2.1, ?_⟩) h2
      have hjd : (∀ u, S' u) ∨ ds.contains j = false := by
        rcases hd with h | ⟨_, hss, h⟩
        · exact .inl h
        · right
          cases hcj : ds.contains j with
          | false => rfl
          | true => exact absurd hj (waits_not_ready hc (h j hcj hjun) hiun)
      have hS' : S' w' := by
        rcases hd with h | ⟨hb, hss, h⟩
        · exact h w'
        · rcases hjd with h' | h'
          · exact h' w'
          · exact hss _ (h3.2.1 (by rw [hb, h']; rfl))
      have hd' : (∀ u, S' u) ∨ ((b && !ds.contains j) = true ∧ (∀ u, S u → S' u) ∧ ∀ d, ds.contains d = true → (l.setIfInBounds j true).getD d true = false → waitsB md ops i n d = true) := by
        rcases hd with h | ⟨hb, hss, h⟩
        · exact .inl h
        · rcases hjd with h' | h'
          · exact .inl h'
          · refine .inr ⟨by rw [hb, h']; rfl, hss, fun d hm hu => h d hm ?_⟩
            by_cases hjd : j = d
            · subst hjd; exact hjun
            · rw [getD_set_ne true hjd] at hu; exact hu
      refine ih _ (l.setIfInBounds j true) a' w' hfree' (hc.set hj) hd' (ready_mono hr (Ne.symm hji)) h3.1 hS' h3.2.1 ?_
      rw [Array.setIfInBounds_comm _ _ hji]
      exact h3.2.2
def wpPlan (P : Program) (ops : Array Oper) (Q : Exit → Act → World → Prop) : List (Option Oper × Stp) → (World → Prop) → Act → World → Prop
  | [], _, a, w => Q .normal a w
  | (none, _) :: _, _, _, _ => False
  | (some o, .pure) :: r, S, a, w => ∃ v, Yields P ops o v a ∧ wpPlan P ops Q r S (a.put o.dst v) w
  | (some o, .load) :: r, S, a, w => ∃ v, YieldsIf P ops S o v a ∧ wpPlan P ops Q r S (a.put o.dst v) w
  | (some o, .eff) :: r, S, a, w => wpList P ops (Exit.then (fun a' w' => ∃ S' : World → Prop, (∀ u, S' u → S u) ∧ S' w' ∧ wpPlan P ops Q r S' a' w') Q) [o] a w
  | (some o, .last) :: r, S, a, w => wpList P ops (Exit.then (fun a' w' => wpPlan P ops Q r S a' w') Q) [o] a w
def planOk (md : Region.Mode) (ops : Array Oper) (ds : List Nat) : Bool → List (Nat × Stp) → Array Bool → Bool
  | _, [], l => (Region.ready md ops l).isEmpty
  | b, (i, k) :: r, l =>
    (match k with
      | .pure => Region.free md ops l i && (Region.ready md ops l).contains i && !ds.contains i
      | .load => b && Region.free md ops l i && (Region.ready md ops l).contains i && !ds.contains i && ds.all (fun d => l.getD d true || waitsB md ops i ops.size d)
      | .eff => (Region.ready md ops l == [i]) && !ds.contains i
      | .last => (Region.ready md ops l == [i]) && ds.contains i) &&
    planOk md ops ds (b && k.on) r (l.setIfInBounds i true)
theorem wpList_one {K : Act → World → Prop} {o : Oper} {i : Nat} (hi : ops[i]? = some o) {a : Act} {w : World} (h : wpList P ops (Exit.then K Q) [o] a w) : wpOp P ops Q i K a w := by
  unfold wpOp
  simp only [hi]
  unfold wpList at h
  split at h
  · rename_i hw
    rw [if_pos hw]
    rcases h with h | ⟨h1, a', w', h2⟩
    · refine .inl ?_
      have e1 : (wpList P ops (Exit.then K Q) []) = K := by funext a w; rfl
      rw [e1] at h
      unfold Oper.wp at *
      generalize (execOp a.eval o).run P w = r at *
      cases r with
      | ok n w' =>
        cases n <;> simp only [Oper.upon] at h ⊢
        case value => exact h
        case skip => exact h
        case defer => exact h
        case enter =>
          refine Calls.mono h fun e w'' he => ?_
          cases e with
          | returned u => exact he
          | panicked c => exact he
          | outgrown => obtain ⟨a1, w1, h1⟩ := he; exact ⟨a1, w1, h1⟩
        case row => exact h
      | halt x w' =>
        cases x <;> simp only [Oper.upon] at h ⊢
        case panic => exact h
    · exact .inr ⟨h1, a', w', h2⟩
  · rename_i hw
    rw [if_neg hw]
    exact h
theorem plan_sound (hs : Region.noSelect ops = true) (hQ : ∀ c a d v w, Q (.panic c) (a.put d v) w → Q (.panic c) a w) : ∀ (plan : List (Nat × Stp)) (S : World → Prop) (b : Bool) (l : Array Bool) (a : Act) (w : World),
    planOk md ops ds b plan l = true → Down md ops l → (b = true → S w) → wpPlan P ops Q (plan.map fun p => (ops[p.1]?, p.2)) S a w → wpAnyS P md ops Q S ds plan.length b l a w
  | [], S, b, l, a, w, hok, _, _, h => ⟨by simpa [planOk] using hok, h⟩
  | (i, k) :: r, S, b, l, a, w, hok, hc, hS, h => by
    simp only [List.map_cons] at h
    simp only [planOk, Bool.and_eq_true] at hok
    obtain ⟨h1, hok⟩ := hok
    cases hi : ops[i]? with
    | none => rw [hi] at h; simp [wpPlan] at h
    | some o =>
      rw [hi] at h
      have hsel := Region.noSelect_spec hs
      have IH := plan_sound hs hQ r
      cases k with
      | pure =>
        simp only [Bool.and_eq_true, Bool.not_eq_true', List.contains_iff_mem] at h1
        obtain ⟨⟨hf, hr⟩, hd⟩ := h1
        obtain ⟨v, hy, h⟩ := h
        refine wpAnyS_first (S' := fun _ => True) hi hsel (fun c a w => hQ c a _ _ w) hd 0 _ b l a w (Region.free_spec hi hf) hc (.inl fun _ => trivial) hr (hy.yieldsIf) trivial hS ?_
        exact IH S b _ _ w (by simpa [Stp.on] using hok) (hc.set hr) hS h
      | load =>
        simp only [Bool.and_eq_true, Bool.not_eq_true', List.contains_iff_mem] at h1
        obtain ⟨⟨⟨⟨hb, hf⟩, hr⟩, hd⟩, hall⟩ := h1
        obtain ⟨v, hy, h⟩ := h
        refine wpAnyS_first (S' := S) hi hsel (fun c a w => hQ c a _ _ w) hd ops.size _ b l a w (Region.free_spec hi hf) hc (.inr ⟨hb, fun _ h => h, fun d hm hu => ?_⟩) hr hy (hS hb) hS ?_
        · have := List.all_eq_true.1 hall d (by simpa using hm)
          rw [hu] at this
          simpa using this
        · exact IH S b _ _ w (by simpa [Stp.on] using hok) (hc.set hr) hS h
      | eff =>
        simp only [Bool.and_eq_true, Bool.not_eq_true', beq_iff_eq] at h1
        obtain ⟨hr, hd⟩ := h1
        refine ⟨fun h0 => (by rw [h0] at hr; cases hr), fun j hj => ?_⟩
        have hj0 := hj
        rw [hr] at hj
        have hji : j = i := by simpa using hj
        subst hji
        refine wpOp_mono (fun a' w' h3 => ?_) (wpList_one hi h)
        obtain ⟨S', hs', hw', h3⟩ := h3
        rw [hd]
        refine ⟨fun _ => hs' _ hw', wpAnyS_mono hs' _ _ _ _ _ (IH S' _ _ _ w' (by simpa [Stp.on] using hok) (hc.set hj0) (fun _ => hw') h3)⟩
      | last =>
        simp only [Bool.and_eq_true, beq_iff_eq] at h1
        obtain ⟨hr, hd⟩ := h1
        refine ⟨fun h0 => (by rw [h0] at hr; cases hr), fun j hj => ?_⟩
        have hj0 := hj
        rw [hr] at hj
        have hji : j = i := by simpa using hj
        subst hji
        refine wpOp_mono (fun a' w' h3 => ?_) (wpList_one hi h)
        rw [hd]
        have hbf : (b && !true) = false := by cases b <;> rfl
        rw [hbf]
        refine ⟨fun h => (by cases h), IH S _ _ _ w' ?_ (hc.set hj0) (fun h => (by cases h)) h3⟩
        have : (b && Stp.last.on) = false := by cases b <;> rfl
        rw [this] at hok
        exact hok
theorem plan_pure {r : List (Option Oper × Stp)} {o : Oper} {v : Value} {a : Act} {w : World} (hw : Region.wanted o (yielded ops a.tmps) = true) (hy : ∀ w1, (execOp a.eval o).run P w1 = .ok (.value v) w1)
    (h : wpPlan P ops Q r S (a.put o.dst v) w) : wpPlan P ops Q ((some o, .pure) :: r) S a w := ⟨v, .inl ⟨hw, hy⟩, h⟩
theorem plan_off {r : List (Option Oper × Stp)} {o : Oper} {a : Act} {w : World} (hw : Region.wanted o (yielded ops a.tmps) = false)
    (h : wpPlan P ops Q r S (a.put o.dst undef) w) : wpPlan P ops Q ((some o, .pure) :: r) S a w := ⟨undef, .inr ⟨hw, rfl⟩, h⟩
theorem plan_load {r : List (Option Oper × Stp)} {o : Oper} {v : Value} {a : Act} {w : World} (hw : Region.wanted o (yielded ops a.tmps) = true) (hy : ∀ w1, S w1 → (execOp a.eval o).run P w1 = .ok (.value v) w1)
    (h : wpPlan P ops Q r S (a.put o.dst v) w) : wpPlan P ops Q ((some o, .load) :: r) S a w := ⟨v, .inl ⟨hw, hy⟩, h⟩
theorem plan_load_off {r : List (Option Oper × Stp)} {o : Oper} {a : Act} {w : World} (hw : Region.wanted o (yielded ops a.tmps) = false)
    (h : wpPlan P ops Q r S (a.put o.dst undef) w) : wpPlan P ops Q ((some o, .load) :: r) S a w := ⟨undef, .inr ⟨hw, rfl⟩, h⟩
theorem plan_eff {r : List (Option Oper × Stp)} {o : Oper} {a : Act} {w : World} (h : wpList P ops (Exit.then (fun a' w' => ∃ S' : World → Prop, (∀ u, S' u → S u) ∧ S' w' ∧ wpPlan P ops Q r S' a' w') Q) [o] a w) : wpPlan P ops Q ((some o, .eff) :: r) S a w := h
theorem plan_last {r : List (Option Oper × Stp)} {o : Oper} {a : Act} {w : World} (h : wpList P ops (Exit.then (fun a' w' => wpPlan P ops Q r S a' w') Q) [o] a w) : wpPlan P ops Q ((some o, .last) :: r) S a w := h
theorem plan_on {r : List (Option Oper × Stp)} {S' : World → Prop} {a : Act} {w : World} (hs : ∀ u, S' u → S u) (hw : S' w) (h : wpPlan P ops Q r S' a w) : ∃ S' : World → Prop, (∀ u, S' u → S u) ∧ S' w ∧ wpPlan P ops Q r S' a w := ⟨S', hs, hw, h⟩
theorem plan_end {a : Act} {w : World} (h : Q .normal a w) : wpPlan P ops Q [] S a w := h
theorem wp_region_plan {id : Nat} {a : Act} {w : World} (hm : P.follows .mixedOrders = true) (S : World → Prop) (ds : List Nat) (plan : List (Nat × Stp)) {L : List (Option Oper × Stp)}
    (hL : plan.map (fun p => (ops[p.1]?, p.2)) = L) (hok : (Region.noSelect ops && decide (plan.length = ops.size) && planOk .any ops ds true plan (Array.replicate ops.size false)) = true)
    (hQ : ∀ c a d v w, Q (.panic c) (a.put d v) w → Q (.panic c) a w) (hS : S w.drew) (h : wpPlan P ops Q L S a w.drew) : (Code.region id ops true).wp P Q a w := by
  subst hL
  simp only [Bool.and_eq_true, decide_eq_true_eq] at hok
  obtain ⟨⟨h1, h2⟩, h3⟩ := hok
  refine wp_region_any hm (wpAnyS_any (S := S) (ds := ds) _ true _ _ _ ?_)
  rw [← h2]
  rw [← h2] at h3
  refine plan_sound h1 hQ plan S true _ a _ h3 (fun d o _ hl => ?_) (fun _ => hS) h
  exfalso
  revert hl
  simp [Array.getElem?_replicate]
  split <;> simp
end
end Go.Proofs.YtckdofjpoajblaaGreat
namespace Go.Proofs.YtckdofjpoajblaaGreat
set_option linter.unusedVariables false
inductive PT (α : Type) where
  | nil
  | cons (x : α) (k : Stp) (t : PT α)
  | fork (x : α) (t : PT α) (y : α) (u : PT α)
  | fork3 (x : α) (t : PT α) (y : α) (u : PT α) (z : α) (v : PT α)
def PT.map {α β : Type} (f : α → β) : PT α → PT β
  | .nil => .nil
  | .cons x k t => .cons (f x) k (t.map f)
  | .fork x t y u => .fork (f x) (t.map f) (f y) (u.map f)
  | .fork3 x t y u z v => .fork3 (f x) (t.map f) (f y) (u.map f) (f z) (v.map f)
def PT.len {α : Type} : PT α → Nat
  | .nil => 0
  | .cons _ _ t => t.len + 1
  | .fork _ t _ _ => t.len + 1
  | .fork3 _ t _ _ _ _ => t.len + 1
def PT.row {α : Type} : List (α × Stp) → PT α → PT α
  | [], t => t
  | (x, k) :: r, t => .cons x k (PT.row r t)
section
variable {P : Program} {md : Region.Mode} {ops : Array Oper} {Q : Exit → Act → World → Prop} {S : World → Prop} {ds : List Nat}
def wpPT (P : Program) (ops : Array Oper) (Q : Exit → Act → World → Prop) : PT (Option Oper) → (World → Prop) → Act → World → Prop
  | .nil, _, a, w => Q .normal a w
  | .cons none _ _, _, _, _ => False
  | .cons (some o) .pure r, S, a, w => ∃ v, Yields P ops o v a ∧ wpPT P ops Q r S (a.put o.dst v) w
  | .cons (some o) .load r, S, a, w => ∃ v, YieldsIf P ops S o v a ∧ wpPT P ops Q r S (a.put o.dst v) w
  | .cons (some o) .eff r, S, a, w => wpList P ops (Exit.then (fun a' w' => ∃ S' : World → Prop, (∀ u, S' u → S u) ∧ S' w' ∧ wpPT P ops Q r S' a' w') Q) [o] a w
  | .cons (some o) .last r, S, a, w => wpList P ops (Exit.then (fun a' w' => wpPT P ops Q r S a' w') Q) [o] a w
  | .fork none _ _ _, _, _, _ => False
  | .fork (some _) _ none _, _, _, _ => False
  | .fork (some o) r (some p) q, S, a, w =>
    wpList P ops (Exit.then (fun a' w' => ∃ S' : World → Prop, (∀ u, S' u → S u) ∧ S' w' ∧ wpPT P ops Q r S' a' w') Q) [o] a w ∧
    wpList P ops (Exit.then (fun a' w' => ∃ S' : World → Prop, (∀ u, S' u → S u) ∧ S' w' ∧ wpPT P ops Q q S' a' w') Q) [p] a w
  | .fork3 x r y q z u, S, a, w => ∃ o p s, x = some o ∧ y = some p ∧ z = some s ∧
    wpList P ops (Exit.then (fun a' w' => ∃ S' : World → Prop, (∀ u, S' u → S u) ∧ S' w' ∧ wpPT P ops Q r S' a' w') Q) [o] a w ∧
    wpList P ops (Exit.then (fun a' w' => ∃ S' : World → Prop, (∀ u, S' u → S u) ∧ S' w' ∧ wpPT P ops Q q S' a' w') Q) [p] a w ∧
    wpList P ops (Exit.then (fun a' w' => ∃ S' : World → Prop, (∀ u, S' u → S u) ∧ S' w' ∧ wpPT P ops Q u S' a' w') Q) [s] a w
def ptOk (md : Region.Mode) (ops : Array Oper) (ds : List Nat) : Bool → PT Nat → Array Bool → Bool
  | _, .nil, l => (Region.ready md ops l).isEmpty
  | b, .cons i k r, l =>
    (match k with
      | .pure => Region.free md ops l i && (Region.ready md ops l).contains i && !ds.contains i
      | .load => b && Region.free md ops l i && (Region.ready md ops l).contains i && !ds.contains i && ds.all (fun d => l.getD d true || waitsB md ops i ops.size d)
      | .eff => (Region.ready md ops l == [i]) && !ds.contains i
      | .last => (Region.ready md ops l == [i]) && ds.contains i) &&
    ptOk md ops ds (b && k.on) r (l.setIfInBounds i true)
  | b, .fork i r j q, l => (Region.ready md ops l == [i, j]) && !ds.contains i && !ds.contains j && decide (r.len = q.len) && ptOk md ops ds b r (l.setIfInBounds i true) && ptOk md ops ds b q (l.setIfInBounds j true)
  | b, .fork3 i r j q k u, l => (Region.ready md ops l == [i, j, k]) && !ds.contains i && !ds.contains j && !ds.contains k && decide (r.len = q.len) && decide (r.len = u.len) && ptOk md ops ds b r (l.setIfInBounds i true) && ptOk md ops ds b q (l.setIfInBounds j true) && ptOk md ops ds b u (l.setIfInBounds k true)
theorem pt_sound (hs : Region.noSelect ops = true) (hQ : ∀ c a d v w, Q (.panic c) (a.put d v) w → Q (.panic c) a w) : ∀ (plan : PT Nat) (S : World → Prop) (b : Bool) (l : Array Bool) (a : Act) (w : World),
    ptOk md ops ds b plan l = true → Down md ops l → (b = true → S w) → wpPT P ops Q (plan.map fun p => ops[p]?) S a w → wpAnyS P md ops Q S ds plan.len b l a w
  | .nil, S, b, l, a, w, hok, _, _, h => ⟨by simpa [ptOk] using hok, h⟩
  | .cons i k r, S, b, l, a, w, hok, hc, hS, h => by
    simp only [PT.map] at h
    simp only [ptOk, Bool.and_eq_true] at hok
    obtain ⟨h1, hok⟩ := hok
    cases hi : ops[i]? with
    | none => rw [hi] at h; simp [wpPT] at h
    | some o =>
      rw [hi] at h
      have hsel := Region.noSelect_spec hs
      have IH := pt_sound hs hQ r
      cases k with
      | pure =>
        simp only [Bool.and_eq_true, Bool.not_eq_true', List.contains_iff_mem] at h1
        obtain ⟨⟨hf, hr⟩, hd⟩ := h1
        obtain ⟨v, hy, h⟩ := h
        refine wpAnyS_first (S' := fun _ => True) hi hsel (fun c a w => hQ c a _ _ w) hd 0 _ b l a w (Region.free_spec hi hf) hc (.inl fun _ => trivial) hr (hy.yieldsIf) trivial hS ?_
        exact IH S b _ _ w (by simpa [Stp.on] using hok) (hc.set hr) hS h
      | load =>
        simp only [Bool.and_eq_true, Bool.not_eq_true', List.contains_iff_mem] at h1
        obtain ⟨⟨⟨⟨hb, hf⟩, hr⟩, hd⟩, hall⟩ := h1
        obtain ⟨v, hy, h⟩ := h
        refine wpAnyS_first (S' := S) hi hsel (fun c a w => hQ c a _ _ w) hd ops.size _ b l a w (Region.free_spec hi hf) hc (.inr ⟨hb, fun _ h => h, fun d hm hu => ?_⟩) hr hy (hS hb) hS ?_
        · have := List.all_eq_true.1 hall d (by simpa using hm)
          rw [hu] at this
          simpa using this
        · exact IH S b _ _ w (by simpa [Stp.on] using hok) (hc.set hr) hS h
      | eff =>
        simp only [Bool.and_eq_true, Bool.not_eq_true', beq_iff_eq] at h1
        obtain ⟨hr, hd⟩ := h1
        refine ⟨fun h0 => (by rw [h0] at hr; cases hr), fun j hj => ?_⟩
        have hj0 := hj
        rw [hr] at hj
        have hji : j = i := by simpa using hj
        subst hji
        refine wpOp_mono (fun a' w' h3 => ?_) (wpList_one hi h)
        obtain ⟨S', hs', hw', h3⟩ := h3
        rw [hd]
        refine ⟨fun _ => hs' _ hw', wpAnyS_mono hs' _ _ _ _ _ (IH S' _ _ _ w' (by simpa [Stp.on] using hok) (hc.set hj0) (fun _ => hw') h3)⟩
      | last =>
        simp only [Bool.and_eq_true, beq_iff_eq] at h1
        obtain ⟨hr, hd⟩ := h1
        refine ⟨fun h0 => (by rw [h0] at hr; cases hr), fun j hj => ?_⟩
        have hj0 := hj
        rw [hr] at hj
        have hji : j = i := by simpa using hj
        subst hji
        refine wpOp_mono (fun a' w' h3 => ?_) (wpList_one hi h)
        rw [hd]
        have hbf : (b && !true) = false := by cases b <;> rfl
        rw [hbf]
        refine ⟨fun h => (by cases h), IH S _ _ _ w' ?_ (hc.set hj0) (fun h => (by cases h)) h3⟩
        have : (b && Stp.last.on) = false := by cases b <;> rfl
        rw [this] at hok
        exact hok
  | .fork i r j q, S, b, l, a, w, hok, hc, hS, h => by
    simp only [PT.map] at h
    simp only [ptOk, Bool.and_eq_true, Bool.not_eq_true', beq_iff_eq, decide_eq_true_eq] at hok
    obtain ⟨⟨⟨⟨⟨hr, hdi⟩, hdj⟩, hlen⟩, hoki⟩, hokj⟩ := hok
    cases hi : ops[i]? with
    | none => rw [hi] at h; simp [wpPT] at h
    | some o =>
      cases hj : ops[j]? with
      | none => rw [hi, hj] at h; simp [wpPT] at h
      | some p =>
        rw [hi, hj] at h
        obtain ⟨h1, h2⟩ := h
        refine ⟨fun h0 => (by rw [h0] at hr; cases hr), fun m hm => ?_⟩
        have hm0 := hm
        rw [hr] at hm
        rcases List.mem_cons.1 hm with rfl | hm
        · refine wpOp_mono (fun a' w' h3 => ?_) (wpList_one hi h1)
          obtain ⟨S', hs', hw', h3⟩ := h3
          rw [hdi]
          refine ⟨fun _ => hs' _ hw', wpAnyS_mono hs' _ _ _ _ _ (pt_sound hs hQ r S' _ _ _ w' (by simpa using hoki) (hc.set hm0) (fun _ => hw') h3)⟩
        · have hmj : m = j := by simpa using hm
          subst hmj
          refine wpOp_mono (fun a' w' h3 => ?_) (wpList_one hj h2)
          obtain ⟨S', hs', hw', h3⟩ := h3
          rw [hdj]
          show _ ∧ wpAnyS P md ops Q S ds r.len _ _ _ _
          rw [hlen]
          refine ⟨fun _ => hs' _ hw', wpAnyS_mono hs' _ _ _ _ _ (pt_sound hs hQ q S' _ _ _ w' (by simpa using hokj) (hc.set hm0) (fun _ => hw') h3)⟩
  | .fork3 i r j q k u, S, b, l, a, w, hok, hc, hS, h => by
    simp only [PT.map] at h
    simp only [ptOk, Bool.and_eq_true, Bool.not_eq_true', beq_iff_eq, decide_eq_true_eq] at hok
    obtain ⟨⟨⟨⟨⟨⟨⟨⟨hr, hdi⟩, hdj⟩, hdk⟩, hlen⟩, hlen2⟩, hoki⟩, hokj⟩, hokk⟩ := hok
    obtain ⟨o, p, s, hi, hj, hk, h1, h2, h3'⟩ := h
    refine ⟨fun h0 => (by rw [h0] at hr; cases hr), fun m hm => ?_⟩
    have hm0 := hm
    rw [hr] at hm
    rcases List.mem_cons.1 hm with rfl | hm
    · refine wpOp_mono (fun a' w' h3 => ?_) (wpList_one hi h1)
      obtain ⟨S', hs', hw', h3⟩ := h3
      rw [hdi]
      refine ⟨fun _ => hs' _ hw', wpAnyS_mono hs' _ _ _ _ _ (pt_sound hs hQ r S' _ _ _ w' (by simpa using hoki) (hc.set hm0) (fun _ => hw') h3)⟩
    rcases List.mem_cons.1 hm with rfl | hm
    · refine wpOp_mono (fun a' w' h3 => ?_) (wpList_one hj h2)
      obtain ⟨S', hs', hw', h3⟩ := h3
      rw [hdj]
      show _ ∧ wpAnyS P md ops Q S ds r.len _ _ _ _
      rw [hlen]
      refine ⟨fun _ => hs' _ hw', wpAnyS_mono hs' _ _ _ _ _ (pt_sound hs hQ q S' _ _ _ w' (by simpa using hokj) (hc.set hm0) (fun _ => hw') h3)⟩
    · have hmj : m = k := by simpa using hm
      subst hmj
      refine wpOp_mono (fun a' w' h3 => ?_) (wpList_one hk h3')
      obtain ⟨S', hs', hw', h3⟩ := h3
      rw [hdk]
      show _ ∧ wpAnyS P md ops Q S ds r.len _ _ _ _
      rw [hlen2]
      refine ⟨fun _ => hs' _ hw', wpAnyS_mono hs' _ _ _ _ _ (pt_sound hs hQ u S' _ _ _ w' (by simpa using hokk) (hc.set hm0) (fun _ => hw') h3)⟩
theorem pt_pure {r : PT (Option Oper)} {o : Oper} {v : Value} {a : Act} {w : World} (hw : Region.wanted o (yielded ops a.tmps) = true) (hy : ∀ w1, (execOp a.eval o).run P w1 = .ok (.value v) w1)
    (h : wpPT P ops Q r S (a.put o.dst v) w) : wpPT P ops Q (.cons (some o) .pure r) S a w := ⟨v, .inl ⟨hw, hy⟩, h⟩
theorem pt_off {r : PT (Option Oper)} {o : Oper} {a : Act} {w : World} (hw : Region.wanted o (yielded ops a.tmps) = false)
    (h : wpPT P ops Q r S (a.put o.dst undef) w) : wpPT P ops Q (.cons (some o) .pure r) S a w := ⟨undef, .inr ⟨hw, rfl⟩, h⟩
theorem pt_load {r : PT (Option Oper)} {o : Oper} {v : Value} {a : Act} {w : World} (hw : Region.wanted o (yielded ops a.tmps) = true) (hy : ∀ w1, S w1 → (execOp a.eval o).run P w1 = .ok (.value v) w1)
    (h : wpPT P ops Q r S (a.put o.dst v) w) : wpPT P ops Q (.cons (some o) .load r) S a w := ⟨v, .inl ⟨hw, hy⟩, h⟩
theorem pt_load_off {r : PT (Option Oper)} {o : Oper} {a : Act} {w : World} (hw : Region.wanted o (yielded ops a.tmps) = false)
    (h : wpPT P ops Q r S (a.put o.dst undef) w) : wpPT P ops Q (.cons (some o) .load r) S a w := ⟨undef, .inr ⟨hw, rfl⟩, h⟩
theorem pt_eff {r : PT (Option Oper)} {o : Oper} {a : Act} {w : World} (h : wpList P ops (Exit.then (fun a' w' => ∃ S' : World → Prop, (∀ u, S' u → S u) ∧ S' w' ∧ wpPT P ops Q r S' a' w') Q) [o] a w) : wpPT P ops Q (.cons (some o) .eff r) S a w := h
theorem pt_fork {r q : PT (Option Oper)} {o p : Oper} {a : Act} {w : World}
    (h1 : wpList P ops (Exit.then (fun a' w' => ∃ S' : World → Prop, (∀ u, S' u → S u) ∧ S' w' ∧ wpPT P ops Q r S' a' w') Q) [o] a w)
    (h2 : wpList P ops (Exit.then (fun a' w' => ∃ S' : World → Prop, (∀ u, S' u → S u) ∧ S' w' ∧ wpPT P ops Q q S' a' w') Q) [p] a w) : wpPT P ops Q (.fork (some o) r (some p) q) S a w := ⟨h1, h2⟩
theorem pt_on {r : PT (Option Oper)} {S' : World → Prop} {a : Act} {w : World} (hs : ∀ u, S' u → S u) (hw : S' w) (h : wpPT P ops Q r S' a w) : ∃ S' : World → Prop, (∀ u, S' u → S u) ∧ S' w ∧ wpPT P ops Q r S' a w := ⟨S', hs, hw, h⟩
theorem pt_end {a : Act} {w : World} (h : Q .normal a w) : wpPT P ops Q .nil S a w := h
theorem wp_region_pt {id : Nat} {a : Act} {w : World} (hm : P.follows .mixedOrders = true) (S : World → Prop) (ds : List Nat) (plan : PT Nat) {L : PT (Option Oper)}
    (hL : plan.map (fun p => ops[p]?) = L) (hok : (Region.noSelect ops && decide (plan.len = ops.size) && ptOk .any ops ds true plan (Array.replicate ops.size false)) = true)
    (hQ : ∀ c a d v w, Q (.panic c) (a.put d v) w → Q (.panic c) a w) (hS : S w.drew) (h : wpPT P ops Q L S a w.drew) : (Code.region id ops true).wp P Q a w := by
  subst hL
  simp only [Bool.and_eq_true, decide_eq_true_eq] at hok
  obtain ⟨⟨h1, h2⟩, h3⟩ := hok
  refine wp_region_any hm (wpAnyS_any (S := S) (ds := ds) _ true _ _ _ ?_)
  rw [← h2]
  rw [← h2] at h3
  refine pt_sound h1 hQ plan S true _ a _ h3 (fun d o _ hl => ?_) (fun _ => hS) h
  exfalso
  revert hl
  simp [Array.getElem?_replicate]
  split <;> simp
end
end Go.Proofs.YtckdofjpoajblaaGreat
namespace Go.Proofs.YtckdofjpoajblaaGreat
set_option linter.unusedVariables false
def needOf (o : Oper) : Nat := o.after.toList.foldr (fun e s => if Region.binds .any e then 2 ^ e.on ||| s else s) 0
theorem needOf_bit (o : Oper) (k : Nat) : (needOf o).testBit k = true ↔ ∃ e ∈ o.after, Region.binds .any e = true ∧ e.on = k := by
  unfold needOf
  rw [show (∃ e ∈ o.after, Region.binds .any e = true ∧ e.on = k) ↔ ∃ e ∈ o.after.toList, Region.binds .any e = true ∧ e.on = k by simp]
  generalize o.after.toList = l
  induction l with
  | nil => simp
  | cons e l ih =>
    simp only [List.foldr_cons, List.mem_cons]
    by_cases hb : Region.binds .any e = true
    · rw [if_pos hb, Nat.testBit_or, Bool.or_eq_true, ih, Nat.testBit_two_pow, decide_eq_true_eq]
      constructor
      · rintro (h | ⟨x, h1, h2⟩)
        · exact ⟨e, .inl rfl, hb, h⟩
        · exact ⟨x, .inr h1, h2⟩
      · rintro ⟨x, rfl | h1, h2⟩
        · exact .inl h2.2
        · exact .inr ⟨x, h1, h2⟩
    · rw [if_neg hb, ih]
      constructor
      · rintro ⟨x, h1, h2⟩
        exact ⟨x, .inr h1, h2⟩
      · rintro ⟨x, rfl | h1, h2⟩
        · exact (hb h2.1).elim
        · exact ⟨x, h1, h2⟩
theorem land_all (n s : Nat) : (n &&& s == n) = true ↔ ∀ k, n.testBit k = true → s.testBit k = true := by
  rw [beq_iff_eq]
  constructor
  · intro h k hk
    rw [← h, Nat.testBit_and, Bool.and_eq_true] at hk
    exact hk.2
  · intro h
    refine Nat.eq_of_testBit_eq fun k => ?_
    rw [Nat.testBit_and]
    cases hk : n.testBit k with
    | false => rfl
    | true => rw [h k hk]; rfl
def readyFrom (s : Nat) : Nat → List Nat → List Nat
  | _, [] => []
  | i, n :: r => if !s.testBit i && (n &&& s == n) then i :: readyFrom s (i + 1) r else readyFrom s (i + 1) r
theorem readyFrom_is (s : Nat) (p : Nat → Bool) : ∀ (os : List Oper) (k : Nat), (∀ i o, os[i]? = some o → p (k + i) = (!s.testBit (k + i) && (needOf o &&& s == needOf o))) → readyFrom s k (os.map needOf) = (List.range' k os.length).filter p := by
  intro os
  induction os with
  | nil => intro k _; rfl
  | cons o os ih =>
    intro k h
    simp only [List.map_cons, readyFrom, List.length_cons, List.range'_succ, List.filter_cons]
    have h0 := h 0 o rfl
    rw [Nat.add_zero] at h0
    rw [← h0, ih (k + 1) (fun i x hx => by rw [Nat.add_assoc, Nat.add_comm 1 i]; exact h (i + 1) x (by simpa using hx))]
structure Bits (ops : Array Oper) (l : Array Bool) (s : Nat) : Prop where
  size : l.size = ops.size
  bit : ∀ j, j < ops.size → l[j]? = some (s.testBit j)
  off : ∀ j, ops.size ≤ j → s.testBit j = false
theorem Bits.getF {ops : Array Oper} {l : Array Bool} {s : Nat} (h : Bits ops l s) (j : Nat) : l.getD j false = s.testBit j := by
  by_cases hj : j < ops.size
  · rw [Array.getD_eq_getD_getElem?, h.bit j hj]; rfl
  · rw [Array.getD_eq_getD_getElem?, Array.getElem?_eq_none (by have := h.size; omega), h.off j (by omega)]; rfl
theorem Bits.getT {ops : Array Oper} {l : Array Bool} {s : Nat} (h : Bits ops l s) {j : Nat} (hj : j < ops.size) : l.getD j true = s.testBit j := by
  rw [Array.getD_eq_getD_getElem?, h.bit j hj]; rfl
theorem Bits.gets {ops : Array Oper} {l : Array Bool} {s : Nat} (h : Bits ops l s) {j : Nat} (hj : s.testBit j = true) : l.getD j true = true := by
  by_cases hl : j < ops.size
  · rw [h.getT hl, hj]
  · rw [h.off j (by omega)] at hj; cases hj
theorem Bits.set {ops : Array Oper} {l : Array Bool} {s : Nat} (h : Bits ops l s) {i : Nat} (hi : i < ops.size) : Bits ops (l.setIfInBounds i true) (s ||| 2 ^ i) := by
  refine ⟨by simp [h.size], fun j hj => ?_, fun j hj => ?_⟩
  · rw [Nat.testBit_or, Nat.testBit_two_pow]
    by_cases hij : i = j
    · subst hij
      rw [Array.getElem?_setIfInBounds_self_of_lt (by have := h.size; omega)]
      simp
    · rw [Array.getElem?_setIfInBounds_ne hij, h.bit j hj]
      simp [hij]
  · rw [Nat.testBit_or, Nat.testBit_two_pow, h.off j hj]
    simp; omega
theorem Bits.start (ops : Array Oper) : Bits ops (Array.replicate ops.size false) 0 :=
  ⟨by simp, fun j hj => by simp [hj], fun j _ => by simp⟩
theorem Bits.ready {ops : Array Oper} {l : Array Bool} {s : Nat} (h : Bits ops l s) : Region.ready .any ops l = readyFrom s 0 (ops.toList.map needOf) := by
  unfold Region.ready
  rw [readyFrom_is s _ ops.toList 0 fun i o ho => ?_, List.range_eq_range', Array.length_toList]
  rw [Nat.zero_add]
  have ho' : ops[i]? = some o := by simpa using ho
  rw [ho', h.getT (Array.getElem?_eq_some_iff.1 ho').1]
  congr 1
  show (o.after.all fun e => !Region.binds .any e || l.getD e.on false) = _
  rw [Bool.eq_iff_iff, land_all, Array.all_eq_true_iff_forall_mem]
  constructor
  · intro hh k hk
    obtain ⟨e, he, hb, rfl⟩ := (needOf_bit o k).1 hk
    have := hh e he
    rw [hb, h.getF] at this
    simpa using this
  · intro hh e he
    rw [h.getF]
    cases hb : Region.binds .any e with
    | false => rfl
    | true => rw [hh e.on ((needOf_bit o _).2 ⟨e, he, hb, rfl⟩)]; rfl
def freeF (ops : Array Oper) (oi : Oper) (i s : Nat) : Nat → List Oper → List Nat → Bool
  | j, o :: os, n :: ns => (j == i || s.testBit j || n.testBit i || oi.apart ops o) && freeF ops oi i s (j + 1) os ns
  | _, _, _ => true
theorem freeF_spec {ops : Array Oper} {oi : Oper} {i s : Nat} : ∀ (os : List Oper) (k : Nat), freeF ops oi i s k os (os.map needOf) = true → ∀ j o, os[j]? = some o → (k + j = i ∨ s.testBit (k + j) = true ∨ (needOf o).testBit i = true ∨ oi.apart ops o = true) := by
  intro os
  induction os with
  | nil => intro k _ j o h; simp at h
  | cons x os ih =>
    intro k h j o ho
    simp only [List.map_cons, freeF, Bool.and_eq_true, Bool.or_eq_true, beq_iff_eq] at h
    cases j with
    | zero =>
      simp at ho
      subst ho
      rw [Nat.add_zero]
      rcases h.1 with ((h | h) | h) | h
      · exact .inl h
      · exact .inr (.inl h)
      · exact .inr (.inr (.inl h))
      · exact .inr (.inr (.inr h))
    | succ j =>
      have := ih (k + 1) h.2 j o (by simpa using ho)
      rw [show k + (j + 1) = k + 1 + j by omega]
      exact this
theorem Bits.free {ops : Array Oper} {l : Array Bool} {s i : Nat} (h : Bits ops l s) {oi : Oper} (hi : ops[i]? = some oi) (hf : freeF ops oi i s 0 ops.toList (ops.toList.map needOf) = true) : Region.free .any ops l i = true := by
  unfold Region.free
  rw [hi]
  simp only [List.all_eq_true, List.mem_range]
  intro j hj
  have hoj : ops[j]? = some ops[j] := by simp [hj]
  have := freeF_spec _ 0 hf j ops[j] (by simp)
  rw [Nat.zero_add] at this
  rw [hoj]
  rcases this with h1 | h1 | h1 | h1
  · simp [h1]
  · simp [h.gets h1]
  · obtain ⟨e, he, hb, h2⟩ := (needOf_bit _ _).1 h1
    have : (ops[j].after.any fun e => Region.binds .any e && e.on == i) = true := Array.any_eq_true'.2 ⟨e, he, by simp [hb, h2]⟩
    simp [this]
  · simp [h1]
def reach : List Nat → Nat → Nat
  | [], m => m
  | n :: r, m => reach r (if m.testBit r.length then m ||| n else m)
theorem waits_more {md : Region.Mode} {ops : Array Oper} {i : Nat} : ∀ (n d : Nat), waitsB md ops i n d = true → waitsB md ops i (n + 1) d = true
  | 0, _, h => by cases h
  | n + 1, d, h => by
    unfold waitsB at h ⊢
    cases ho : ops[d]? with
    | none => rw [ho] at h; cases h
    | some o =>
      rw [ho] at h
      obtain ⟨e, he, h⟩ := Array.any_eq_true'.1 h
      refine Array.any_eq_true'.2 ⟨e, he, ?_⟩
      simp only [Bool.and_eq_true, Bool.or_eq_true, beq_iff_eq] at h ⊢
      exact ⟨h.1, h.2.imp id (waits_more n _)⟩
theorem waits_one {md : Region.Mode} {ops : Array Oper} {d k : Nat} {o : Oper} {e : Edge} (n : Nat) (ho : ops[d]? = some o) (he : e ∈ o.after) (hb : Region.binds md e = true) (hk : e.on = k) : waitsB md ops k (n + 1) d = true := by
  unfold waitsB
  rw [ho]
  exact Array.any_eq_true'.2 ⟨e, he, by simp [hb, hk]⟩
theorem waits_chain {md : Region.Mode} {ops : Array Oper} {j k : Nat} {o : Oper} {e : Edge} (ho : ops[j]? = some o) (he : e ∈ o.after) (hb : Region.binds md e = true) (hk : e.on = k) : ∀ (n d : Nat), waitsB md ops j n d = true → waitsB md ops k (n + 1) d = true
  | 0, _, h => by cases h
  | n + 1, d, h => by
    unfold waitsB at h ⊢
    cases hod : ops[d]? with
    | none => rw [hod] at h; cases h
    | some x =>
      rw [hod] at h
      obtain ⟨e', he', h⟩ := Array.any_eq_true'.1 h
      refine Array.any_eq_true'.2 ⟨e', he', ?_⟩
      simp only [Bool.and_eq_true, Bool.or_eq_true, beq_iff_eq] at h ⊢
      refine ⟨h.1, .inr ?_⟩
      rcases h.2 with h2 | h2
      · rw [h2]; exact waits_one n ho he hb hk
      · exact waits_chain ho he hb hk n _ h2
theorem reach_spec (ops : Array Oper) (d : Nat) : ∀ (L m t : Nat), L ≤ ops.size → (∀ k, m.testBit k = true → k = d ∨ waitsB .any ops k t d = true) →
    ∀ k, (reach ((ops.toList.take L).map needOf).reverse m).testBit k = true → k = d ∨ waitsB .any ops k (t + L) d = true := by
  intro L
  induction L with
  | zero => intro m t _ h k hk; simp [reach] at hk; exact h k hk
  | succ L ih =>
    intro m t hL h k hk
    have hoL : ops[L]? = some ops[L] := by simp
    rw [List.take_add_one, show ops.toList[L]? = some ops[L] by simp] at hk
    simp only [Option.toList, List.map_append, List.map_cons, List.map_nil, List.reverse_append, List.reverse_cons, List.reverse_nil, List.nil_append, List.singleton_append, reach, List.length_reverse, List.length_map, List.length_take, Array.length_toList, Nat.min_eq_left (show L ≤ ops.size by omega)] at hk
    rw [show t + (L + 1) = t + 1 + L by omega]
    refine ih _ (t + 1) (by omega) (fun k hk => ?_) k hk
    by_cases hm : m.testBit L = true
    · rw [if_pos hm, Nat.testBit_or, Bool.or_eq_true] at hk
      rcases hk with hk | hk
      · exact (h k hk).imp id (waits_more t d)
      · obtain ⟨e, he, hb, h2⟩ := (needOf_bit _ _).1 hk
        rcases h L hm with rfl | hw
        · exact .inr (waits_one t hoL he hb h2)
        · exact .inr (waits_chain hoL he hb h2 t d hw)
    · rw [if_neg hm] at hk
      exact (h k hk).imp id (waits_more t d)
def waitsF (rs : List Nat) (i d : Nat) : Bool := i != d && (reach rs (2 ^ d)).testBit i
theorem waitsF_spec {ops : Array Oper} {i d : Nat} (h : waitsF (ops.toList.map needOf).reverse i d = true) : waitsB .any ops i ops.size d = true := by
  unfold waitsF at h
  simp only [Bool.and_eq_true, bne_iff_ne] at h
  have := reach_spec ops d ops.size (2 ^ d) 0 (Nat.le_refl _) (fun k hk => by rw [Nat.testBit_two_pow, decide_eq_true_eq] at hk; exact .inl hk.symm) i
    (by rw [List.take_of_length_le (by simp)]; exact h.2)
  rw [Nat.zero_add] at this
  exact this.resolve_left h.1
def stepF (ops : Array Oper) (os : List Oper) (ns rs ds : List Nat) (b : Bool) (i : Nat) (k : Stp) (s : Nat) : Bool :=
  match k with
  | .pure => (match os[i]? with | some oi => freeF ops oi i s 0 os ns | none => false) && (readyFrom s 0 ns).contains i && !ds.contains i
  | .load => b && (match os[i]? with | some oi => freeF ops oi i s 0 os ns | none => false) && (readyFrom s 0 ns).contains i && !ds.contains i && ds.all (fun d => s.testBit d || waitsF rs i d)
  | .eff => (readyFrom s 0 ns == [i]) && !ds.contains i
  | .last => (readyFrom s 0 ns == [i]) && ds.contains i
def planOkF (ops : Array Oper) (os : List Oper) (ns rs ds : List Nat) : Bool → List (Nat × Stp) → Nat → Bool
  | _, [], s => (readyFrom s 0 ns).isEmpty
  | b, (i, k) :: r, s => stepF ops os ns rs ds b i k s && planOkF ops os ns rs ds (b && k.on) r (s ||| 2 ^ i)
theorem ready_lt {ops : Array Oper} {l : Array Bool} {i : Nat} (h : i ∈ Region.ready .any ops l) : i < ops.size := by
  unfold Region.ready at h
  exact List.mem_range.1 (List.mem_filter.1 h).1
def stepOk (ops : Array Oper) (ds : List Nat) (b : Bool) (i : Nat) (k : Stp) (l : Array Bool) : Bool :=
  match k with
  | .pure => Region.free .any ops l i && (Region.ready .any ops l).contains i && !ds.contains i
  | .load => b && Region.free .any ops l i && (Region.ready .any ops l).contains i && !ds.contains i && ds.all (fun d => l.getD d true || waitsB .any ops i ops.size d)
  | .eff => (Region.ready .any ops l == [i]) && !ds.contains i
  | .last => (Region.ready .any ops l == [i]) && ds.contains i
theorem stepF_spec {ops : Array Oper} {ds : List Nat} {b : Bool} {i : Nat} {k : Stp} {s : Nat} {l : Array Bool} (hB : Bits ops l s) (h : stepF ops ops.toList (ops.toList.map needOf) (ops.toList.map needOf).reverse ds b i k s = true) :
    stepOk ops ds b i k l = true ∧ i < ops.size := by
  have hfree : (match ops.toList[i]? with | some oi => freeF ops oi i s 0 ops.toList (ops.toList.map needOf) | none => false) = true → Region.free .any ops l i = true := fun h => by
    cases ho : ops.toList[i]? with
    | none => rw [ho] at h; cases h
    | some o => rw [ho] at h; exact hB.free (by simpa using ho) h
  unfold stepOk
  rw [hB.ready]
  cases k with
  | pure =>
    simp only [stepF, Bool.and_eq_true] at h
    have hr : i ∈ Region.ready .any ops l := by rw [hB.ready]; simpa using h.1.2
    exact ⟨by simp only [Bool.and_eq_true]; exact ⟨⟨hfree h.1.1, h.1.2⟩, h.2⟩, ready_lt hr⟩
  | load =>
    simp only [stepF, Bool.and_eq_true] at h
    have hr : i ∈ Region.ready .any ops l := by rw [hB.ready]; simpa using h.1.1.2
    refine ⟨by
      simp only [Bool.and_eq_true]
      refine ⟨⟨⟨⟨h.1.1.1.1, hfree h.1.1.1.2⟩, h.1.1.2⟩, h.1.2⟩, ?_⟩
      rw [List.all_eq_true] at h ⊢
      intro d hd
      have := h.2 d hd
      simp only [Bool.or_eq_true] at this ⊢
      exact this.imp hB.gets waitsF_spec, ready_lt hr⟩
  | eff =>
    simp only [stepF, Bool.and_eq_true] at h
    have hr : i ∈ Region.ready .any ops l := by rw [hB.ready, beq_iff_eq.1 h.1]; simp
    exact ⟨by simp only [Bool.and_eq_true]; exact h, ready_lt hr⟩
  | last =>
    simp only [stepF, Bool.and_eq_true] at h
    have hr : i ∈ Region.ready .any ops l := by rw [hB.ready, beq_iff_eq.1 h.1]; simp
    exact ⟨by simp only [Bool.and_eq_true]; exact h, ready_lt hr⟩
theorem planOkF_spec {ops : Array Oper} {ds : List Nat} : ∀ (plan : List (Nat × Stp)) (b : Bool) (s : Nat) (l : Array Bool), Bits ops l s → planOkF ops ops.toList (ops.toList.map needOf) (ops.toList.map needOf).reverse ds b plan s = true → planOk .any ops ds b plan l = true
  | [], b, s, l, hB, h => by
    unfold planOk
    rw [hB.ready]
    exact h
  | (i, k) :: r, b, s, l, hB, h => by
    unfold planOkF at h
    rw [Bool.and_eq_true] at h
    obtain ⟨h1, h2⟩ := stepF_spec hB h.1
    rw [show planOk .any ops ds b ((i, k) :: r) l = (stepOk ops ds b i k l && planOk .any ops ds (b && k.on) r (l.setIfInBounds i true)) by cases k <;> rfl, Bool.and_eq_true]
    exact ⟨h1, planOkF_spec r _ _ _ (hB.set h2) h.2⟩
theorem wp_region_planF {P : Program} {ops : Array Oper} {Q : Exit → Act → World → Prop} {id : Nat} {a : Act} {w : World} (hm : P.follows .mixedOrders = true) (S : World → Prop) (ds : List Nat) (plan : List (Nat × Stp)) {L : List (Option Oper × Stp)}
    (hL : plan.map (fun p => (ops[p.1]?, p.2)) = L) (hok : (Region.noSelect ops && decide (plan.length = ops.size) && planOkF ops ops.toList (ops.toList.map needOf) (ops.toList.map needOf).reverse ds true plan 0) = true)
    (hQ : ∀ c a d v w, Q (.panic c) (a.put d v) w → Q (.panic c) a w) (hS : S w.drew) (h : wpPlan P ops Q L S a w.drew) : (Code.region id ops true).wp P Q a w := by
  refine wp_region_plan hm S ds plan hL ?_ hQ hS h
  simp only [Bool.and_eq_true] at hok ⊢
  exact ⟨hok.1, planOkF_spec plan true 0 _ (Bits.start ops) hok.2⟩
end Go.Proofs.YtckdofjpoajblaaGreat
