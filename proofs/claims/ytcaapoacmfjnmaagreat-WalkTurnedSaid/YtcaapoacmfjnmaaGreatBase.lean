/- Own theory, no program in sight: frames by blocks, rows of cells that may begin inside their block, what append, slicing and stores do to them. -/
import Derived.WalkKit
import Derived.WalkSpells
import Derived.WalkLawsBesides
import Derived.ArgAppend
import Derived.Deep.AppendLies
import Derived.Deep.RegionHeld3
import Derived.KernelRfl
namespace Go.Proofs.YtcaapoacmfjnmaaGreat
open Go.RowKit
set_option linter.unusedVariables false
set_option linter.unusedSimpArgs false

/-- w' is w but for the blocks of F and new ones. -/
structure Mod (F : Nat → Prop) (w w' : World) : Prop where
  os : w'.os = w.os
  tape : w'.tape = w.tape
  output : w'.output = w.output
  size : w.heap.size ≤ w'.heap.size
  block : ∀ k, k < w.heap.size → ¬ F k → w'.heap[k]? = w.heap[k]?

theorem Mod.refl (F : Nat → Prop) (w : World) : Mod F w w := ⟨rfl, rfl, rfl, Nat.le_refl _, fun _ _ _ => rfl⟩
theorem Mod.mono {F G : Nat → Prop} {w w' : World} (h : Mod F w w') (hf : ∀ k, k < w.heap.size → F k → G k) : Mod G w w' :=
  ⟨h.os, h.tape, h.output, h.size, fun k hk hn => h.block k hk (fun hF => hn (hf k hk hF))⟩
theorem Mod.trans {F : Nat → Prop} {a b c : World} (h : Mod F a b) (k : Mod F b c) : Mod F a c :=
  ⟨k.os.trans h.os, k.tape.trans h.tape, k.output.trans h.output, Nat.le_trans h.size k.size, fun i hi hn => (k.block i (Nat.lt_of_lt_of_le hi h.size) hn).trans (h.block i hi hn)⟩
/-- The second step may write what the first one made. -/
theorem Mod.then {F G : Nat → Prop} {a b c : World} (h : Mod F a b) (k : Mod G b c) (hG : ∀ i, i < a.heap.size → G i → F i) : Mod F a c :=
  ⟨k.os.trans h.os, k.tape.trans h.tape, k.output.trans h.output, Nat.le_trans h.size k.size, fun i hi hn => (k.block i (Nat.lt_of_lt_of_le hi h.size) (fun g => hn (hG i hi g))).trans (h.block i hi hn)⟩
theorem Mod.drew {F : Nat → Prop} {a b : World} (h : Mod F a b) : Mod F a b.drew := ⟨h.os, h.tape, h.output, h.size, h.block⟩
theorem Mod.drewN {F : Nat → Prop} {a b : World} (h : Mod F a b) (n : Nat) : Mod F a (b.drewN n) := ⟨h.os, h.tape, h.output, h.size, h.block⟩
theorem Mod.alloc {F : Nat → Prop} {a b : World} (h : Mod F a b) (o : Obj) : Mod F a (b.alloc o) :=
  h.then (G := fun _ => False) ⟨rfl, rfl, rfl, by simp, fun k hk _ => heap_alloc_old b o hk⟩ (fun _ _ h => h.elim)
theorem Mod.setCell {F : Nat → Prop} {a b : World} (h : Mod F a b) {p : Addr} (hp : p.block < a.heap.size → F p.block) (v : Value) : Mod F a (b.setCell p v) :=
  h.then (G := fun k => k = p.block) ⟨rfl, rfl, rfl, by simp [World.setCell], fun k hk hn => Below.heap_setCell b p v k hn⟩ (fun i hi e => by subst e; exact hp hi)
theorem Mod.of_below {B : Nat} {w w' : World} (h : Below B w w') : Mod (fun k => B ≤ k) w w' := ⟨h.os, h.tape, h.output, h.size, fun k hk hn => h.block k (by omega)⟩
theorem Mod.of_below_size {w w' : World} (h : Below w.heap.size w w') (F : Nat → Prop) : Mod F w w' := ⟨h.os, h.tape, h.output, h.size, fun k hk hn => h.block k hk⟩
theorem Mod.of_grown {row : Option Nat} {w w' : World} (h : w.grownBy w' row) : Mod (fun k => some k = row) w w' := ⟨h.os, h.tape, h.output, h.size, fun k hk hn => h.block k hk hn⟩
theorem Mod.below {F : Nat → Prop} {w w' : World} (h : Mod F w w') (B : Nat) (hB : B ≤ w.heap.size) (hF : ∀ k, k < B → ¬ F k) : Below B w w' :=
  ⟨h.os, h.tape, h.output, h.size, fun k hk => h.block k (by omega) (hF k hk)⟩
theorem Mod.cell {F : Nat → Prop} {w w' : World} (h : Mod F w w') (b o : Nat) (hb : b < w.heap.size) (hn : ¬ F b) : w'.cell? ⟨b, o, none⟩ = w.cell? ⟨b, o, none⟩ := World.cell?_of_block (h.block b hb hn)
theorem Mod.frozen {F : Nat → Prop} {w w' : World} (h : Mod F w w') (b o : Nat) (hb : b < w.heap.size) (hn : ¬ F b) : w'.frozen? ⟨b, o, none⟩ = w.frozen? ⟨b, o, none⟩ := World.frozen?_of_block (h.block b hb hn)

theorem blk_lt {w : World} {k : Nat} {o : Obj} (h : w.heap[k]? = some o) : k < w.heap.size := (Array.getElem?_eq_some_iff.1 h).1
theorem addr_add (g o j : Nat) : (⟨g, o, none⟩ : Addr).add j = ⟨g, o + j, none⟩ := by unfold Addr.add; split <;> simp_all
theorem cell_blk {w : World} {g : Nat} {cur : Array Value} {e : TypeId} {fr : Nat × Nat} (h : w.heap[g]? = some (.cells cur e fr)) (o : Nat) : w.cell? ⟨g, o, none⟩ = cur[o]? := by simp [World.cell?, h]
theorem free_blk {w : World} {g : Nat} {cur : Array Value} {e : TypeId} (h : w.heap[g]? = some (.cells cur e (0, 0))) (o : Nat) : w.frozen? ⟨g, o, none⟩ = false := by simp [World.frozen?, h]
theorem set_blk {w : World} {g : Nat} {cur : Array Value} {e : TypeId} {fr : Nat × Nat} (h : w.heap[g]? = some (.cells cur e fr)) (o : Nat) (v : Value) : (w.setCell ⟨g, o, none⟩ v).heap[g]? = some (.cells (cur.setIfInBounds o v) e fr) := by
  have hl := blk_lt h
  simp [World.setCell, Array.getElem?_modify, h]

/-- n elements of sz cells each, from address A on, with room for cap: in a block of elements e, where nothing is frozen. -/
def Row (w : World) (e sz : Nat) (A : Option Addr) (n cap : Nat) (cs : List Value) : Prop :=
  cs.length = n * sz ∧ n ≤ cap ∧ cap ≤ maxLen ∧ (A = none → cap = 0) ∧
  ∀ a, A = some a → a.spot = none ∧ ∃ cur, w.heap[a.block]? = some (.cells cur e (0, 0)) ∧ a.off + cap * sz ≤ cur.size ∧ (cur.toList.drop a.off).take (n * sz) = cs

theorem Row.nil (w : World) (e sz : Nat) : Row w e sz none 0 0 [] := ⟨by simp, Nat.le_refl _, Nat.zero_le _, fun _ => rfl, fun a h => by cases h⟩
theorem Row.move {w w' : World} {e sz : Nat} {A : Option Addr} {n cap : Nat} {cs : List Value} (h : Row w e sz A n cap cs) (hm : ∀ a, A = some a → w'.heap[a.block]? = w.heap[a.block]?) : Row w' e sz A n cap cs := by
  obtain ⟨h1, h2, h3, h4, h5⟩ := h
  refine ⟨h1, h2, h3, h4, fun a ha => ?_⟩
  obtain ⟨hs, cur, hc, r⟩ := h5 a ha
  exact ⟨hs, cur, (hm a ha).trans hc, r⟩
theorem Row.lt {w : World} {e sz : Nat} {a : Addr} {n cap : Nat} {cs : List Value} (h : Row w e sz (some a) n cap cs) : a.block < w.heap.size := by
  obtain ⟨_, cur, hc, _⟩ := h.2.2.2.2 a rfl
  exact blk_lt hc
theorem Row.mod {F : Nat → Prop} {w w' : World} {e sz : Nat} {A : Option Addr} {n cap : Nat} {cs : List Value} (h : Row w e sz A n cap cs) (hm : Mod F w w') (hF : ∀ a, A = some a → ¬ F a.block) : Row w' e sz A n cap cs :=
  h.move (fun a ha => by subst ha; exact hm.block _ h.lt (hF a rfl))
theorem Row.len {w : World} {e sz : Nat} {A : Option Addr} {n cap : Nat} {cs : List Value} (h : Row w e sz A n cap cs) : cs.length = n * sz := h.1
theorem Row.some_of_pos {w : World} {e sz : Nat} {A : Option Addr} {n cap : Nat} {cs : List Value} (h : Row w e sz A n cap cs) (hn : 0 < cap) : ∃ g o, A = some ⟨g, o, none⟩ := by
  cases A with
  | none => have := h.2.2.2.1 rfl; omega
  | some a =>
    obtain ⟨hs, _⟩ := h.2.2.2.2 a rfl
    obtain ⟨b, o, s⟩ := a
    simp at hs
    subst hs
    exact ⟨b, o, rfl⟩
theorem Row.cells {w : World} {e sz : Nat} {a : Addr} {n cap : Nat} {cs : List Value} (h : Row w e sz (some a) n cap cs) : ∀ j u, cs[j]? = some u → w.cell? (a.add j) = some u := by
  intro j u hu
  obtain ⟨hs, cur, hc, hsz, ht⟩ := h.2.2.2.2 a rfl
  obtain ⟨b, o, s⟩ := a
  simp at hs hc ht
  subst hs
  rw [addr_add, cell_blk hc, ← Array.getElem?_toList]
  rw [← ht, List.getElem?_take] at hu
  split at hu
  · rw [List.getElem?_drop] at hu; exact hu
  · cases hu
theorem Row.cell {w : World} {e sz g o : Nat} {n cap : Nat} {cs : List Value} (h : Row w e sz (some ⟨g, o, none⟩) n cap cs) (j : Nat) (hj : j < n * sz) : w.cell? ⟨g, o + j, none⟩ = cs[j]? := by
  have hl := h.1
  have := h.cells j (cs[j]'(by omega)) (List.getElem?_eq_getElem (by omega))
  rw [addr_add] at this
  rw [this, List.getElem?_eq_getElem (by omega)]
theorem Row.free {w : World} {e sz g o : Nat} {n cap : Nat} {cs : List Value} (h : Row w e sz (some ⟨g, o, none⟩) n cap cs) (j : Nat) : w.frozen? ⟨g, j, none⟩ = false := by
  obtain ⟨_, cur, hc, _⟩ := h.2.2.2.2 _ rfl
  exact free_blk hc j

/-- n elements of sz cells each may be read from A on. -/
def Rd (w : World) (sz : Nat) (A : Option Addr) (n : Nat) (cs : List Value) : Prop :=
  cs.length = n * sz ∧ (0 < n * sz → ∃ g o, A = some ⟨g, o, none⟩ ∧ g < w.heap.size ∧ ∀ j, j < n * sz → w.cell? ⟨g, o + j, none⟩ = cs[j]?)

theorem setCells_far {g : Nat} : ∀ (vs : List Value) (o : Nat) {w : World} (k : Nat), k ≠ g → (w.setCells g o vs).heap[k]? = w.heap[k]?
  | [], _, _, _, _ => rfl
  | v :: r, o, w, k, hk => by
    rw [World.setCells, setCells_far r (o + 1) k hk]
    exact Below.heap_setCell w ⟨g, o, none⟩ v k hk
theorem setCells_mod (g : Nat) : ∀ (vs : List Value) (o : Nat) (w : World), Mod (fun k => k = g) w (w.setCells g o vs)
  | [], _, w => Mod.refl _ w
  | v :: r, o, w => by
    rw [World.setCells]
    exact Mod.trans (F := fun k => k = g) ((Mod.refl (fun k => k = g) w).setCell (p := ⟨g, o, none⟩) (fun _ => rfl) v) (setCells_mod g r (o + 1) _)
theorem setCells_blk {g : Nat} {e : TypeId} : ∀ (vs : List Value) (o : Nat) (w : World) (cur : Array Value), w.heap[g]? = some (.cells cur e (0, 0)) → o + vs.length ≤ cur.size →
    ∃ cur', (w.setCells g o vs).heap[g]? = some (.cells cur' e (0, 0)) ∧ cur'.size = cur.size ∧ ∀ j, cur'.toList[j]? = if o ≤ j ∧ j < o + vs.length then vs[j - o]? else cur.toList[j]?
  | [], o, w, cur, h, _ => ⟨cur, h, rfl, fun j => by rw [if_neg (by simp only [List.length_nil]; omega)]⟩
  | v :: r, o, w, cur, h, hl => by
    simp only [List.length_cons] at hl
    obtain ⟨cur', h3, h4, h5⟩ := setCells_blk r (o + 1) (w.setCell ⟨g, o, none⟩ v) _ (set_blk h o v) (by simp; omega)
    refine ⟨cur', h3, by rw [h4]; simp, fun j => ?_⟩
    rw [h5]
    simp only [List.length_cons, Array.toList_setIfInBounds]
    by_cases h1 : o + 1 ≤ j ∧ j < o + 1 + r.length
    · rw [if_pos h1, if_pos (by omega), show j - o = (j - (o + 1)) + 1 by omega, List.getElem?_cons_succ]
    · rw [if_neg h1]
      by_cases h2 : j = o
      · subst h2
        rw [if_pos (by omega), List.getElem?_set_self (by rw [Array.length_toList]; omega)]
        simp
      · rw [if_neg (by omega), List.getElem?_set_ne (by omega)]

section
variable {P : Program}
/-- append of m > 0 elements that lie in memory: in place, or in a new block. -/
theorem run_append_row (w : World) (t ty e : TypeId) (i : TypeInfo) (z : Value) (sz bytes : Nat) (ht : P.underlying t = some (.slice e)) (hi : P.info? e = some i) (hz : i.zero = some z)
    (hsize : i.size = sz) (hby : i.bytes = bytes) (hzs : z.cells.size = sz) (hsz : 0 < sz)
    (A : Option Addr) (n cap : Nat) (cs : List Value) (hown : Row w e sz A n cap cs)
    (a : Addr) (m c : Nat) (news : List Value) (hl : news.length = m * sz) (hnews : ∀ j u, news[j]? = some u → w.cell? (a.add j) = some u) (h1 : ∀ u ∈ news, u.oneCell' = true) (hm : 0 < m)
    (h63 : n + m ≤ maxLen) (hbytes : (n + m) * bytes ≤ 140737488355328) :
    ∃ g o cap' w', (Builtin.append_ #[t, t] ty #[.slice A n cap, .slice (some a) m c]).run P w = .ok (.slice (some ⟨g, o, none⟩) (n + m) cap') w' ∧ Row w' e sz (some ⟨g, o, none⟩) (n + m) cap' (cs ++ news) ∧
      Mod (fun k => ∃ a, A = some a ∧ k = a.block) w w' ∧ ((∃ a, A = some a ∧ g = a.block) ∨ w.heap.size ≤ g) := by
  have hcs := hown.1
  have big : n + m ≤ 9223372036854775807 := by simp only [maxLen] at h63; omega
  have grows : ∀ b : Addr, A = some b → cap < n + m → ∃ g o cap' w', (Builtin.append_ #[t, t] ty #[.slice A n cap, .slice (some a) m c]).run P w = .ok (.slice (some ⟨g, o, none⟩) (n + m) cap') w' ∧ Row w' e sz (some ⟨g, o, none⟩) (n + m) cap' (cs ++ news) ∧
      Mod (fun k => ∃ a, A = some a ∧ k = a.block) w w' ∧ ((∃ a, A = some a ∧ g = a.block) ∨ w.heap.size ≤ g) := by
    intro b hA hcap
    subst hA
    obtain ⟨v', w', hr, ho, hg⟩ := run_append_arg_grows (P := P) (w := w) t ty e i z sz bytes ht hi hz hsize hby hzs hsz b n cap cs hcs hown.cells a m c news hl hnews hcap h63 hbytes
    rcases ho.2 with ⟨_, h0⟩ | ⟨g, cap', cur, rfl, hb, hgh, hnc, hcm, hcsz, htk⟩
    · omega
    · refine ⟨g, 0, cap', w', hr, ⟨ho.1, hnc, hcm, fun h => (by cases h), fun a' ha' => ?_⟩, (Mod.of_grown hg).mono (fun k _ hk => by cases hk), .inr hb⟩
      injection ha' with ha'
      subst ha'
      exact ⟨rfl, cur, hgh, by simp only; omega, by simpa using htk⟩
  cases A with
  | none =>
    have hc0 := hown.2.2.2.1 rfl
    have hn0 : n = 0 := by have := hown.2.1; omega
    subst hc0; subst hn0
    have hcs0 : cs = [] := List.eq_nil_of_length_eq_zero (by rw [hcs]; simp)
    subst hcs0
    subst hsize; subst hby
    simp only [Nat.zero_add, List.nil_append] at h63 hbytes big ⊢
    have hr := run_append_nil (P := P) w t ty e i z ht hi hz a m c news hl hnews hm (by omega) (by omega)
    refine ⟨w.heap.size, 0, _, _, hr, ⟨hl, grownCap_ge w m 0 e, grownCap_le_maxLen w m 0 e h63, fun h => (by cases h), fun a' ha' => ?_⟩, ((Mod.refl _ _).drew).alloc _, .inr (Nat.le_refl _)⟩
    injection ha' with ha'
    subst ha'
    refine ⟨rfl, _, heap_alloc_new w.drew _, ?_, ?_⟩
    · have hge := grownCap_ge w m 0 e
      simp only [Array.size_append, List.size_toArray, size_zeroCells, hzs, hl, Nat.zero_add]
      rw [← Nat.add_mul]
      exact Nat.mul_le_mul_right _ (by omega)
    · simp only [List.drop_zero, Array.toList_append, ← hl]
      exact List.take_left
  | some b =>
    by_cases hroom : n + m ≤ cap
    · obtain ⟨hs, cur, hc, hsz', htk⟩ := hown.2.2.2.2 b rfl
      obtain ⟨g, off, s⟩ := b
      simp at hs
      subst hs
      simp only at hc hsz' htk
      have hmul : (n + m) * sz ≤ cap * sz := Nat.mul_le_mul_right _ hroom
      rw [Nat.add_mul] at hmul
      subst hsize
      have hr := run_append_room_cells (P := P) (w := w) t ty e i ht hi g off n cap a m c news hl hnews h1 hroom
        (fun j hj => by rw [cell_blk hc]; simp; omega) (fun j _ => free_blk hc _)
      obtain ⟨cur', h3, h4, h5⟩ := setCells_blk news (off + n * i.size) w cur hc (by omega)
      refine ⟨g, off, cap, _, hr, ⟨by rw [List.length_append, hcs, hl, Nat.add_mul], hroom, hown.2.2.1, fun h => (by cases h), fun a' ha' => ?_⟩, (setCells_mod g news _ w).mono (fun k _ hk => ⟨_, rfl, hk⟩), .inl ⟨_, rfl, rfl⟩⟩
      injection ha' with ha'
      subst ha'
      refine ⟨rfl, cur', h3, by rw [h4]; exact hsz', ?_⟩
      apply List.ext_getElem?
      intro j
      simp only
      rw [List.getElem?_take]
      have hap : ∀ q, (cs ++ news)[q]? = if q < n * i.size then cs[q]? else news[q - n * i.size]? := fun q => by
        rw [List.getElem?_append, hcs]
      rw [hap]
      by_cases hj : j < (n + m) * i.size
      · rw [if_pos hj, List.getElem?_drop, h5]
        rw [Nat.add_mul] at hj
        by_cases hj2 : j < n * i.size
        · rw [if_neg (by omega), if_pos hj2, ← htk, List.getElem?_take, if_pos hj2, List.getElem?_drop]
        · rw [if_pos (by omega), if_neg hj2, show off + j - (off + n * i.size) = j - n * i.size by omega]
      · rw [if_neg hj]
        rw [Nat.add_mul] at hj
        rw [if_neg (by omega), List.getElem?_eq_none (by omega)]
    · exact grows b rfl (by omega)

/-- append of nothing -/
theorem run_append_none (w : World) (t ty e : TypeId) (i : TypeInfo) (ht : P.underlying t = some (.slice e)) (hi : P.info? e = some i)
    (A : Option Addr) (n cap : Nat) (cs : List Value) (hown : Row w e i.size A n cap cs) (X : Option Addr) (c : Nat) :
    (Builtin.append_ #[t, t] ty #[.slice A n cap, .slice X 0 c]).run P w = .ok (.slice A n cap) w := by
  have h2 := hown.2.1
  cases A <;> cases X <;> simp [Builtin.append_, run_underlying ht, sizeOf, typeInfo, hi, Builtin.lenOf, h2, Builtin.firstCells, loadCells, loadCellsFrom, storeCells, Result.andThen]

/-- append of whatever may be read. -/
theorem run_append_rd (w : World) (t ty e : TypeId) (i : TypeInfo) (z : Value) (sz bytes : Nat) (ht : P.underlying t = some (.slice e)) (hi : P.info? e = some i) (hz : i.zero = some z)
    (hsize : i.size = sz) (hby : i.bytes = bytes) (hzs : z.cells.size = sz) (hsz : 0 < sz)
    (A : Option Addr) (n cap : Nat) (cs : List Value) (hown : Row w e sz A n cap cs)
    (X : Option Addr) (m c : Nat) (news : List Value) (hx : Rd w sz X m news) (h1 : ∀ u ∈ news, u.oneCell' = true)
    (h63 : n + m ≤ maxLen) (hbytes : (n + m) * bytes ≤ 140737488355328) :
    ∃ A' cap' w', (Builtin.append_ #[t, t] ty #[.slice A n cap, .slice X m c]).run P w = .ok (.slice A' (n + m) cap') w' ∧ Row w' e sz A' (n + m) cap' (cs ++ news) ∧
      Mod (fun k => ∃ a, A = some a ∧ k = a.block) w w' ∧ (∀ a', A' = some a' → (∃ a, A = some a ∧ a'.block = a.block) ∨ w.heap.size ≤ a'.block) := by
  rcases Nat.eq_zero_or_pos m with hm | hm
  · subst hm
    have hn : news = [] := List.eq_nil_of_length_eq_zero (by rw [hx.1]; simp)
    subst hn
    subst hsize
    refine ⟨A, cap, w, run_append_none w t ty e i ht hi A n cap cs hown X c, by simpa using hown, Mod.refl _ _, fun a' h => .inl ⟨a', h, rfl⟩⟩
  · obtain ⟨g, o, rfl, hg, hc⟩ := hx.2 (Nat.mul_pos hm hsz)
    obtain ⟨g', o', cap', w', hr, h2, h3, h4⟩ := run_append_row (P := P) w t ty e i z sz bytes ht hi hz hsize hby hzs hsz A n cap cs hown ⟨g, o, none⟩ m c news hx.1
      (fun j u hu => by rw [addr_add, hc j (by rw [← hx.1]; exact (List.getElem?_eq_some_iff.1 hu).1)]; exact hu) h1 hm h63 hbytes
    refine ⟨_, cap', w', hr, h2, h3, fun a' ha' => ?_⟩
    injection ha' with ha'
    subst ha'
    exact h4

theorem wpList_append_rd {w : World} {ops : Array Oper} {rest : List Oper} {o : Oper} {a : Act} {Q : Exit → Act → World → Prop} (hgd : o.guard = none) (s x : Operand) (t : TypeId)
    (ho : o.op = .call { callee := .builtin .append, args := #[s, x], argTypes := #[t, t] })
    (e : TypeId) (i : TypeInfo) (z : Value) (sz bytes : Nat) (ht : P.underlying t = some (.slice e)) (hi : P.info? e = some i) (hz : i.zero = some z)
    (hsize : i.size = sz) (hby : i.bytes = bytes) (hzs : z.cells.size = sz) (hsz : 0 < sz)
    (A : Option Addr) (n cap : Nat) (cs : List Value) (hs : a.eval s = .slice A n cap) (hown : Row w e sz A n cap cs)
    (X : Option Addr) (m c : Nat) (news : List Value) (hx : a.eval x = .slice X m c) (hrd : Rd w sz X m news) (h1 : ∀ u ∈ news, u.oneCell' = true)
    (h63 : n + m ≤ maxLen) (hbytes : (n + m) * bytes ≤ 140737488355328)
    (h : ∀ A' cap' w', Row w' e sz A' (n + m) cap' (cs ++ news) → Mod (fun k => ∃ a, A = some a ∧ k = a.block) w w' → (∀ a', A' = some a' → (∃ a, A = some a ∧ a'.block = a.block) ∨ w.heap.size ≤ a'.block) → wpList P ops Q rest (a.put o.dst (.slice A' (n + m) cap')) w') : wpList P ops Q (o :: rest) a w := by
  refine wpList_plain hgd fun _ hK => ?_
  obtain ⟨A', cap', w', hr, h2, h3, h4⟩ := run_append_rd (P := P) w t o.type e i z sz bytes ht hi hz hsize hby hzs hsz A n cap cs hown X m c news hrd h1 h63 hbytes
  unfold Oper.wp execOp
  simp only [ho, resolve, invoke, builtin, Sem.run_bind, Sem.run_pure, Result.andThen_ok, List.map_toArray, List.map_cons, List.map_nil, hs, hx, hr]
  exact hK _ _ (h A' cap' w' h2 h3 h4)

theorem wp_append_row {w : World} {o : Oper} {a : Act} {K : Act → World → Prop} {Q : Exit → Act → World → Prop} (s x : Operand) (t : TypeId)
    (ho : o.op = .call { callee := .builtin .append, args := #[s, x], argTypes := #[t, t] })
    (e : TypeId) (i : TypeInfo) (z : Value) (sz bytes : Nat) (ht : P.underlying t = some (.slice e)) (hi : P.info? e = some i) (hz : i.zero = some z)
    (hsize : i.size = sz) (hby : i.bytes = bytes) (hzs : z.cells.size = sz) (hsz : 0 < sz)
    (A : Option Addr) (n cap : Nat) (cs : List Value) (hs : a.eval s = .slice A n cap) (hown : Row w e sz A n cap cs)
    (ad : Addr) (m c : Nat) (news : List Value) (hx : a.eval x = .slice (some ad) m c) (hl : news.length = m * sz) (hnews : ∀ j u, news[j]? = some u → w.cell? (ad.add j) = some u) (h1 : ∀ u ∈ news, u.oneCell' = true)
    (hm : 0 < m) (h63 : n + m ≤ maxLen) (hbytes : (n + m) * bytes ≤ 140737488355328)
    (h : ∀ g of cap' w', Row w' e sz (some ⟨g, of, none⟩) (n + m) cap' (cs ++ news) → Mod (fun k => ∃ a, A = some a ∧ k = a.block) w w' → ((∃ a, A = some a ∧ g = a.block) ∨ w.heap.size ≤ g) → K (a.put o.dst (.slice (some ⟨g, of, none⟩) (n + m) cap')) w') : o.wp P a w K Q := by
  obtain ⟨g, of, cap', w', hr, h2, h3, h4⟩ := run_append_row (P := P) w t o.type e i z sz bytes ht hi hz hsize hby hzs hsz A n cap cs hown ad m c news hl hnews h1 hm h63 hbytes
  unfold Oper.wp execOp
  simp only [ho, resolve, invoke, builtin, Sem.run_bind, Sem.run_pure, Result.andThen_ok, List.map_toArray, List.map_cons, List.map_nil, hs, hx, hr]
  exact h g of cap' w' h2 h3 h4

theorem wpList_append_row {w : World} {ops : Array Oper} {rest : List Oper} {o : Oper} {a : Act} {Q : Exit → Act → World → Prop} (hgd : o.guard = none) (s x : Operand) (t : TypeId)
    (ho : o.op = .call { callee := .builtin .append, args := #[s, x], argTypes := #[t, t] })
    (e : TypeId) (i : TypeInfo) (z : Value) (sz bytes : Nat) (ht : P.underlying t = some (.slice e)) (hi : P.info? e = some i) (hz : i.zero = some z)
    (hsize : i.size = sz) (hby : i.bytes = bytes) (hzs : z.cells.size = sz) (hsz : 0 < sz)
    (A : Option Addr) (n cap : Nat) (cs : List Value) (hs : a.eval s = .slice A n cap) (hown : Row w e sz A n cap cs)
    (ad : Addr) (m c : Nat) (news : List Value) (hx : a.eval x = .slice (some ad) m c) (hl : news.length = m * sz) (hnews : ∀ j u, news[j]? = some u → w.cell? (ad.add j) = some u) (h1 : ∀ u ∈ news, u.oneCell' = true)
    (hm : 0 < m) (h63 : n + m ≤ maxLen) (hbytes : (n + m) * bytes ≤ 140737488355328)
    (h : ∀ g of cap' w', Row w' e sz (some ⟨g, of, none⟩) (n + m) cap' (cs ++ news) → Mod (fun k => ∃ a, A = some a ∧ k = a.block) w w' → ((∃ a, A = some a ∧ g = a.block) ∨ w.heap.size ≤ g) → wpList P ops Q rest (a.put o.dst (.slice (some ⟨g, of, none⟩) (n + m) cap')) w') : wpList P ops Q (o :: rest) a w :=
  wpList_plain hgd fun _ hK => wp_append_row s x t ho e i z sz bytes ht hi hz hsize hby hzs hsz A n cap cs hs hown ad m c news hx hl hnews h1 hm h63 hbytes fun g of cap' w' h2 h3 h4 => hK _ _ (h g of cap' w' h2 h3 h4)

/-- At a step of a region that draws its order. -/
theorem step_append_row {w : World} {ops : Array Oper} {o : Oper} {a : Act} {K : Act → World → Prop} {Q : Exit → Act → World → Prop} {E : Prop} (hgd : o.guard = none) (s x : Operand) (t : TypeId)
    (ho : o.op = .call { callee := .builtin .append, args := #[s, x], argTypes := #[t, t] })
    (e : TypeId) (i : TypeInfo) (z : Value) (sz bytes : Nat) (ht : P.underlying t = some (.slice e)) (hi : P.info? e = some i) (hz : i.zero = some z)
    (hsize : i.size = sz) (hby : i.bytes = bytes) (hzs : z.cells.size = sz) (hsz : 0 < sz)
    (A : Option Addr) (n cap : Nat) (cs : List Value) (hs : a.eval s = .slice A n cap) (hown : Row w e sz A n cap cs)
    (ad : Addr) (m c : Nat) (news : List Value) (hx : a.eval x = .slice (some ad) m c) (hl : news.length = m * sz) (hnews : ∀ j u, news[j]? = some u → w.cell? (ad.add j) = some u) (h1 : ∀ u ∈ news, u.oneCell' = true)
    (hm : 0 < m) (h63 : n + m ≤ maxLen) (hbytes : (n + m) * bytes ≤ 140737488355328)
    (h : ∀ g of cap' w', Row w' e sz (some ⟨g, of, none⟩) (n + m) cap' (cs ++ news) → Mod (fun k => ∃ a, A = some a ∧ k = a.block) w w' → ((∃ a, A = some a ∧ g = a.block) ∨ w.heap.size ≤ g) → K (a.put o.dst (.slice (some ⟨g, of, none⟩) (n + m) cap')) w') :
    if Region.wanted o (yielded ops a.tmps) = true then Oper.wp P o a w K Q else E := by
  have hw : Region.wanted o (yielded ops a.tmps) = true := by simp [Region.wanted, hgd]
  rw [if_pos hw]
  exact wp_append_row s x t ho e i z sz bytes ht hi hz hsize hby hzs hsz A n cap cs hs hown ad m c news hx hl hnews h1 hm h63 hbytes h
end

/-- s[k:] of a row. -/
theorem Row.drop {w : World} {e sz : Nat} {A : Option Addr} {n cap k : Nat} {cs : List Value} (h : Row w e sz A n cap cs) (hk : k ≤ n) : Row w e sz (if cap = k then A else A.map (·.add (k * sz))) (n - k) (cap - k) (cs.drop (k * sz)) := by
  obtain ⟨h1, h2, h3, h4, h5⟩ := h
  refine ⟨by rw [List.length_drop, h1, Nat.sub_mul], by omega, by omega, fun hA => ?_, fun a ha => ?_⟩
  · split at hA
    · omega
    · cases A with
      | none => have := h4 rfl; omega
      | some a => cases hA
  · split at ha
    · subst ha
      obtain ⟨hs, cur, hc, hsz, ht⟩ := h5 a rfl
      refine ⟨hs, cur, hc, ?_, ?_⟩
      · rw [show cap - k = 0 by omega]; omega
      · rw [show n - k = 0 by omega, ← ht]
        simp only [Nat.zero_mul, List.take_zero]
        rw [List.drop_eq_nil_of_le]
        rw [show n = k by omega]; simp; omega
    · cases A with
      | none => cases ha
      | some b =>
        obtain ⟨hs, cur, hc, hsz, ht⟩ := h5 b rfl
        obtain ⟨g, o, s⟩ := b
        simp only at hs hc hsz ht
        subst hs
        simp only [Option.map_some, Option.some.injEq] at ha
        subst ha
        rw [addr_add]
        have hkc : k * sz ≤ cap * sz := Nat.mul_le_mul_right _ (by omega)
        have hkn : k * sz ≤ n * sz := Nat.mul_le_mul_right _ (by omega)
        refine ⟨rfl, cur, hc, ?_, ?_⟩
        · simp only [Nat.sub_mul]; omega
        · simp only
          rw [← ht, List.drop_take, List.drop_drop, Nat.sub_mul]
theorem Row.take {w : World} {e sz : Nat} {A : Option Addr} {n cap k : Nat} {cs : List Value} (h : Row w e sz A n cap cs) (hk : k ≤ n) : Row w e sz A k cap (cs.take (k * sz)) := by
  obtain ⟨h1, h2, h3, h4, h5⟩ := h
  have hkn : k * sz ≤ n * sz := Nat.mul_le_mul_right _ (by omega)
  refine ⟨by rw [List.length_take, h1]; omega, by omega, h3, h4, fun a ha => ?_⟩
  obtain ⟨hs, cur, hc, hsz, ht⟩ := h5 a ha
  refine ⟨hs, cur, hc, hsz, ?_⟩
  rw [← ht, List.take_take, Nat.min_eq_left hkn]
section
variable {P : Program}
/-- the operation s[k:] -/
theorem Row.cut_from {w : World} {e sz : Nat} {A : Option Addr} {n cap : Nat} {cs : List Value} (h : Row w e sz A n cap cs) (t : TypeId) {i : TypeInfo} (ht : P.underlying t = some (.slice e)) (hi : P.info? e = some i) (hsz : i.size = sz) (kl : IntKind) (k : Nat) (hk : k ≤ n) :
    ∃ A' c', (∀ W : World, (Instr.slice t (.slice A n cap) (some (.int kl k)) none none).run P W = .ok (.slice A' (n - k) c') W) ∧ Row w e sz A' (n - k) c' (cs.drop (k * sz)) ∧ (∀ a', A' = some a' → ∃ a, A = some a ∧ a'.block = a.block) := by
  refine ⟨_, _, fun W => ?_, h.drop hk, fun a' ha' => ?_⟩
  · have hel : P.elem t = e := by simp [Program.elem, ht]
    have hu : P.underlying t = some (.slice (P.elem t)) := by rw [hel]; exact ht
    rw [run_slice_l W t A n cap hu kl k (by omega) (by omega), hel]
    simp [sizeOf, typeInfo, hi, hsz, sliced, Result.andThen]
  · split at ha'
    · exact ⟨a', ha', rfl⟩
    · cases A with
      | none => cases ha'
      | some b =>
        simp only [Option.map_some, Option.some.injEq] at ha'
        subst ha'
        refine ⟨b, rfl, ?_⟩
        unfold Addr.add
        split <;> rfl
/-- the operation s[:k] -/
theorem cut_to {A : Option Addr} {n cap : Nat} (t e : TypeId) {i : TypeInfo} (ht : P.underlying t = some (.slice e)) (hi : P.info? e = some i) (kh : IntKind) (k : Nat) (hk : k ≤ cap) :
    ∀ W : World, (Instr.slice t (.slice A n cap) none (some (.int kh k)) none).run P W = .ok (.slice A k cap) W := by
  intro W
  have hel : P.elem t = e := by simp [Program.elem, ht]
  have hu : P.underlying t = some (.slice (P.elem t)) := by rw [hel]; exact ht
  have ha : (A.map fun x => x.add 0) = A := by cases A <;> simp [Addr.add]
  rw [run_slice_h W t A n cap hu kh k (by omega) (by omega), hel]
  simp [sizeOf, typeInfo, hi, sliced, Result.andThen, ha]
end
/-- A store into one of its cells. -/
theorem Row.set {w : World} {e sz g o : Nat} {n cap : Nat} {cs : List Value} (h : Row w e sz (some ⟨g, o, none⟩) n cap cs) (j : Nat) (hj : j < n * sz) (v : Value) : Row (w.setCell ⟨g, o + j, none⟩ v) e sz (some ⟨g, o, none⟩) n cap (cs.set j v) := by
  obtain ⟨h1, h2, h3, h4, h5⟩ := h
  refine ⟨by rw [List.length_set, h1], h2, h3, h4, fun a ha => ?_⟩
  injection ha with ha
  subst ha
  obtain ⟨hs, cur, hc, hsz, ht⟩ := h5 _ rfl
  simp only at hs hc hsz ht
  refine ⟨rfl, _, set_blk hc _ _, by simpa using hsz, ?_⟩
  simp only [Array.toList_setIfInBounds]
  rw [← ht]
  apply List.ext_getElem?
  intro q
  have hln : n * sz ≤ cap * sz := Nat.mul_le_mul_right _ h2
  have hlen : cur.toList.length = cur.size := Array.length_toList
  simp only [List.getElem?_take, List.getElem?_drop, List.getElem?_set, List.length_take, List.length_drop]
  by_cases hq : q < n * sz
  · simp only [if_pos hq]
    by_cases hqj : o + j = o + q
    · rw [if_pos hqj, if_pos (show j = q by omega), if_pos (by omega), if_pos (by omega)]
    · rw [if_neg hqj, if_neg (show ¬ j = q by omega)]
  · simp only [if_neg hq]
    rw [if_neg (by omega)]
end Go.Proofs.YtcaapoacmfjnmaaGreat
