/- Programs: what may be, and what they look like in memory. -/
import Derived.Test.YtgahjibjladafaaFoLv
import Derived.Test.YtgahjibjladafaaApp
import Derived.Test.YtgahjibjladafaaPlanF
namespace Go.Proofs.Ytgahjibjladafaa
open Go.RowKit
set_option linter.unusedVariables false

structure Ins where
  k : Int
  r : Int
  x : Int
  n : Int
deriving DecidableEq
structure Pg where
  vars : Int
  mtx : Int
  code : List (List Ins)
deriving DecidableEq
namespace Pr
/-- may an instruction of n be? -/
def InsOk (vars mtx n : Int) (i : Ins) : Prop :=
  1 ≤ i.k ∧ i.k ≤ 8 ∧ (i.k = 3 ∨ i.k = 4 ∨ i.n = 0) ∧ -128 ≤ i.n ∧ i.n ≤ 127 ∧ 0 ≤ i.x ∧ 0 ≤ i.r ∧ i.r ≤ 1 ∧ ((i.k = 5 ∨ i.k = 6) → i.r = 0) ∧ ((i.k = 1 ∨ i.k = 2) → i.x < vars) ∧ ((i.k = 5 ∨ i.k = 6) → i.x < mtx) ∧ (i.k = 7 → i.x ≤ n) ∧ ((i.k = 3 ∨ i.k = 4 ∨ i.k = 8) → i.x = 0)
instance (vars mtx n : Int) (i : Ins) : Decidable (InsOk vars mtx n i) := by unfold InsOk; infer_instance
def CodeOk (vars mtx : Int) (c : List Ins) : Prop := c.length ≤ 8 ∧ ∀ i ∈ c, InsOk vars mtx c.length i
instance (vars mtx : Int) (c : List Ins) : Decidable (CodeOk vars mtx c) := by unfold CodeOk; infer_instance
def HeadOk (p : Pg) : Prop := 0 ≤ p.vars ∧ p.vars ≤ 4 ∧ 0 ≤ p.mtx ∧ p.mtx ≤ 2 ∧ 1 ≤ p.code.length ∧ p.code.length ≤ 4
instance (p : Pg) : Decidable (HeadOk p) := by unfold HeadOk; infer_instance
/-- may a program be? -/
def Ok (p : Pg) : Prop := HeadOk p ∧ ∀ c ∈ p.code, CodeOk p.vars p.mtx c
instance (p : Pg) : Decidable (Ok p) := by unfold Ok; infer_instance
end Pr

def encI (i : Ins) : List Value := [.int .i64 i.k, .int .i64 i.r, .int .i64 i.x, .int .i64 i.n]
def valI (i : Ins) : Value := .agg #[.int .i64 i.k, .int .i64 i.r, .int .i64 i.x, .int .i64 i.n]
theorem encI_len (i : Ins) : (encI i).length = 4 := rfl
def InAt (u : World) (g o : Nat) (i : Ins) : Prop := u.cell? ⟨g, o, none⟩ = some (.int .i64 i.k) ∧ u.cell? ⟨g, o + 1, none⟩ = some (.int .i64 i.r) ∧ u.cell? ⟨g, o + 2, none⟩ = some (.int .i64 i.x) ∧ u.cell? ⟨g, o + 3, none⟩ = some (.int .i64 i.n)

/-! what lies in blocks of C -/
/-- n things of sz cells each lie at A, in a block of C -/
def RdC (w : World) (C : Nat → Prop) (sz : Nat) (A : Option Addr) (n : Nat) (cs : List Value) : Prop :=
  cs.length = n * sz ∧ (0 < n * sz → ∃ g o, A = some ⟨g, o, none⟩ ∧ C g ∧ g < w.heap.size ∧ ∀ j, j < n * sz → w.cell? ⟨g, o + j, none⟩ = cs[j]?)
theorem RdB.toC {w : World} {B sz : Nat} {A : Option Addr} {n : Nat} {cs : List Value} (h : RdB w B sz A n cs) (hB : B ≤ w.heap.size) : RdC w (fun k => k < B) sz A n cs :=
  ⟨h.1, fun h0 => by obtain ⟨g, o, h1, h2, h3⟩ := h.2 h0; exact ⟨g, o, h1, h2, by omega, h3⟩⟩
theorem RdC.rd {w : World} {C : Nat → Prop} {sz : Nat} {A : Option Addr} {n : Nat} {cs : List Value} (h : RdC w C sz A n cs) : Rd w sz A n cs :=
  ⟨h.1, fun h0 => by obtain ⟨g, o, h1, _, h2, h3⟩ := h.2 h0; exact ⟨g, o, h1, h2, h3⟩⟩
theorem RdC.mod {w w' : World} {F C : Nat → Prop} {sz : Nat} {A : Option Addr} {n : Nat} {cs : List Value} (h : RdC w C sz A n cs) (hm : Mod F w w') (hF : ∀ k, C k → ¬ F k) : RdC w' C sz A n cs :=
  ⟨h.1, fun h0 => by
    obtain ⟨g, o, h1, hc, h2, h3⟩ := h.2 h0
    exact ⟨g, o, h1, hc, Nat.lt_of_lt_of_le h2 hm.size, fun j hj => (hm.cell g (o + j) h2 (hF g hc)).trans (h3 j hj)⟩⟩
theorem RdC.below {w w' : World} {C : Nat → Prop} {sz : Nat} {A : Option Addr} {n : Nat} {cs : List Value} (h : RdC w C sz A n cs) (hb : Below w.heap.size w w') : RdC w' C sz A n cs :=
  ⟨h.1, fun h0 => by
    obtain ⟨g, o, h1, hc, h2, h3⟩ := h.2 h0
    exact ⟨g, o, h1, hc, Nat.lt_of_lt_of_le h2 hb.size, fun j hj => by rw [World.cell?_of_block (hb.block g h2), h3 j hj]⟩⟩
theorem RdC.imp {w : World} {C D : Nat → Prop} {sz : Nat} {A : Option Addr} {n : Nat} {cs : List Value} (h : RdC w C sz A n cs) (hCD : ∀ k, C k → D k) : RdC w D sz A n cs :=
  ⟨h.1, fun h0 => by obtain ⟨g, o, h1, hc, h2, h3⟩ := h.2 h0; exact ⟨g, o, h1, hCD g hc, h2, h3⟩⟩
/-- a row of instructions: one of them -/
theorem RdC.ins {w : World} {C : Nat → Prop} {A : Option Addr} {l : List Ins} (h : RdC w C 4 A l.length (l.flatMap encI)) : ∀ (k : Nat) (i : Ins), l[k]? = some i → ∃ g o, A = some ⟨g, o, none⟩ ∧ C g ∧ g < w.heap.size ∧ ∀ u : World, u.heap[g]? = w.heap[g]? → InAt u g (o + k * 4) i := fun k i hi => by
  obtain ⟨hk, rfl⟩ := List.getElem?_eq_some_iff.1 hi
  obtain ⟨g, o, hA, hg, hlt, hc⟩ := h.2 (by omega)
  refine ⟨g, o, hA, hg, hlt, fun u hu => ?_⟩
  have hcl : ∀ r, r < 4 → u.cell? ⟨g, o + k * 4 + r, none⟩ = (encI l[k])[r]? := fun r hr => by
    rw [Nat.add_assoc, World.cell?_of_block hu, hc (k * 4 + r) (by omega), flat_get (f := encI) (sz := 4) encI_len l k r hk hr]
  have v0 := hcl 0 (by omega)
  have v1 := hcl 1 (by omega)
  have v2 := hcl 2 (by omega)
  have v3 := hcl 3 (by omega)
  simp only [encI, List.getElem?_cons_succ, List.getElem?_cons_zero, Nat.add_zero] at v0 v1 v2 v3
  exact ⟨v0, v1, v2, v3⟩
/-- the code of all threads, in blocks of C -/
def CdAt (w : World) (C : Nat → Prop) (A : Option Addr) (L : List (List Ins)) : Prop :=
  ∃ vs : List Value, RdC w C 1 A L.length vs ∧ ∀ (i : Nat) (q : List Ins), L[i]? = some q → ∃ A' c', vs[i]? = some (.slice A' q.length c') ∧ RdC w C 4 A' q.length (q.flatMap encI) ∧ q.length ≤ c' ∧ c' ≤ maxLen
theorem CdAt.mod {w w' : World} {F C : Nat → Prop} {A : Option Addr} {L : List (List Ins)} (h : CdAt w C A L) (hm : Mod F w w') (hF : ∀ k, C k → ¬ F k) : CdAt w' C A L := by
  obtain ⟨vs, h1, h2⟩ := h
  refine ⟨vs, h1.mod hm hF, fun i q hi => ?_⟩
  obtain ⟨A', c', h3, h4, h5⟩ := h2 i q hi
  exact ⟨A', c', h3, h4.mod hm hF, h5⟩
theorem CdAt.below {w w' : World} {C : Nat → Prop} {A : Option Addr} {L : List (List Ins)} (h : CdAt w C A L) (hb : Below w.heap.size w w') : CdAt w' C A L := by
  obtain ⟨vs, h1, h2⟩ := h
  refine ⟨vs, h1.below hb, fun i q hi => ?_⟩
  obtain ⟨A', c', h3, h4, h5⟩ := h2 i q hi
  exact ⟨A', c', h3, h4.below hb, h5⟩
theorem CdAt.imp {w : World} {C D : Nat → Prop} {A : Option Addr} {L : List (List Ins)} (h : CdAt w C A L) (hCD : ∀ k, C k → D k) : CdAt w D A L := by
  obtain ⟨vs, h1, h2⟩ := h
  refine ⟨vs, h1.imp hCD, fun i q hi => ?_⟩
  obtain ⟨A', c', h3, h4, h5⟩ := h2 i q hi
  exact ⟨A', c', h3, h4.imp hCD, h5⟩
/-- the code of one thread -/
theorem CdAt.get {w : World} {C : Nat → Prop} {A : Option Addr} {L : List (List Ins)} (h : CdAt w C A L) : ∀ (k : Nat) (q : List Ins), L[k]? = some q → ∃ g o A' c', A = some ⟨g, o, none⟩ ∧ C g ∧ g < w.heap.size ∧ RdC w C 4 A' q.length (q.flatMap encI) ∧ q.length ≤ c' ∧ c' ≤ maxLen ∧ ∀ u : World, u.heap[g]? = w.heap[g]? → u.cell? ⟨g, o + k, none⟩ = some (.slice A' q.length c') := fun k q hq => by
  obtain ⟨vs, h1, h2⟩ := h
  have hk := (List.getElem?_eq_some_iff.1 hq).1
  obtain ⟨g, o, hA, hg, hlt, hc⟩ := h1.2 (by omega)
  obtain ⟨A', c', h3, h4, h5, h6⟩ := h2 k q hq
  exact ⟨g, o, A', c', hA, hg, hlt, h4, h5, h6, fun u hu => by rw [World.cell?_of_block hu, hc k (by omega), h3]⟩
open Go.ChangeShapes Go.WideShapes Go.ChangeAt
set_option maxRecDepth 100000 in
theorem ins_read {H : Type} {enc : TypeId × Value → H} {w : World} {base : Nat} {spare : Nat → Bool} {held : Bool} (fuel : Nat) (cs : List Value) (y : DataW H × List MemPlace) (_ : cs.length = 4)
    (h : DataW.trod enc Try.prog w base spare held fuel 115 cs = some y) : ∃ i : Ins, cs = encI i ∧ True := by
  obtain ⟨hl, fuel', hf⟩ := tr_struct Try.underlying115 h
  have hl4 : cs.length = 4 := hl.trans (by kernel_rfl)
  match cs, hl4 with
  | [a, b, c, d], _ =>
    simp only [List.mem_cons, List.not_mem_nil, or_false, forall_eq_or_imp, forall_eq] at hf
    rw [show Try.prog.cellsOf 3 = 1 by kernel_rfl, show Try.prog.cellsOf 2 = 1 by kernel_rfl] at hf
    obtain ⟨⟨_, h1⟩, ⟨_, h2⟩, ⟨_, h3⟩, ⟨_, h4⟩⟩ := hf
    obtain ⟨t, e1, w1⟩ := tr_int Try.underlying3 h1
    obtain ⟨k, e2, w2⟩ := tr_int Try.underlying3 h2
    obtain ⟨o, e3, w3⟩ := tr_int Try.underlying3 h3
    obtain ⟨f, e4, w4⟩ := tr_int Try.underlying2 h4
    simp at e1 e2 e3 e4
    subst e1 e2 e3 e4
    exact ⟨⟨t, k, o, f⟩, rfl, trivial⟩
set_option maxRecDepth 100000 in
/-- a row of instructions -/
theorem irow_read {H : Type} {enc : TypeId × Value → H} {w : World} {base : Nat} {spare : Nat → Bool} {held : Bool} {fuel : Nat} {A : Option Addr} {n cap : Nat} {y : DataW H × List MemPlace}
    (h : DataW.trod enc Try.prog w base spare held fuel 116 [.slice A n cap] = some y) : ∃ l : List Ins, l.length = n ∧ Rd w 4 A n (l.flatMap encI) ∧ n ≤ cap ∧ cap ≤ maxLen := by
  obtain ⟨l, hl, _, hr, h1, h2⟩ := tr_list (f := encI) (sz := 4) (by omega) Try.underlying116 (by kernel_rfl) ins_read h
  exact ⟨l, hl, hr, h1, h2⟩
structure SlI where
  A : Option Addr
  cap : Nat
  l : List Ins
def encSI (x : SlI) : List Value := [.slice x.A x.l.length x.cap]
set_option maxRecDepth 100000 in
/-- the code of all threads -/
theorem code_read {H : Type} {enc : TypeId × Value → H} {w : World} {base : Nat} {spare : Nat → Bool} {held : Bool} {fuel : Nat} {A : Option Addr} {n cap : Nat} {y : DataW H × List MemPlace}
    (h : DataW.trod enc Try.prog w base spare held fuel 45 [.slice A n cap] = some y) : ∃ L : List (List Ins), L.length = n ∧ CdAt w (fun k => k < w.heap.size) A L ∧ n ≤ cap ∧ cap ≤ maxLen ∧ ∀ q ∈ L, q.length ≤ maxLen := by
  obtain ⟨xs, hl, hg, hr, h1, h2⟩ := tr_list (f := encSI) (sz := 1) (good := fun x => Rd w 4 x.A x.l.length (x.l.flatMap encI) ∧ x.l.length ≤ x.cap ∧ x.cap ≤ maxLen) (by omega) Try.underlying45 (by kernel_rfl) (fun fuel c y hc h => by
    obtain ⟨A, n, cap, rfl⟩ := tr_slice0 Try.underlying116 h
    obtain ⟨l, rfl, hr, hm⟩ := irow_read h
    exact ⟨⟨A, cap, l⟩, rfl, hr, hm⟩) h
  subst hl
  have hlen : (xs.map SlI.l).length = xs.length := by simp
  have hat : ∀ i, (hi : i < xs.length) → (xs.flatMap encSI)[i]? = some (.slice xs[i].A xs[i].l.length xs[i].cap) := fun i hi => by
    have := flat_get (f := encSI) (sz := 1) (fun x => rfl) xs i 0 hi (by omega)
    rw [Nat.mul_one, Nat.add_zero] at this
    rw [this]; rfl
  refine ⟨xs.map SlI.l, hlen, ⟨xs.flatMap encSI, hlen ▸ hr.toB.toC (Nat.le_refl _), fun i q hi => ?_⟩, h1, h2, fun q hq => ?_⟩
  · rw [List.getElem?_map] at hi
    obtain ⟨x, hx, rfl⟩ := Option.map_eq_some_iff.1 hi
    obtain ⟨hi', rfl⟩ := List.getElem?_eq_some_iff.1 hx
    have g := hg _ (List.getElem_mem hi')
    exact ⟨xs[i].A, xs[i].cap, hat i hi', g.1.toB.toC (Nat.le_refl _), g.2⟩
  · obtain ⟨x, hx, rfl⟩ := List.mem_map.1 hq
    have g := hg x hx
    exact Nat.le_trans g.2.1 g.2.2
set_option maxRecDepth 100000 in
/-- a program -/
theorem prog_read {H : Type} {enc : TypeId × Value → H} {w : World} {base : Nat} {spare : Nat → Bool} {held : Bool} (fuel : Nat) (cs : List Value) (y : DataW H × List MemPlace)
    (h : DataW.trod enc Try.prog w base spare held fuel 47 cs = some y) : ∃ (p : Pg) (A : Option Addr) (cap : Nat), cs = [.int .i64 p.vars, .int .i64 p.mtx, .slice A p.code.length cap] ∧ CdAt w (fun k => k < w.heap.size) A p.code ∧ p.code.length ≤ cap ∧ cap ≤ maxLen ∧ (∀ q ∈ p.code, q.length ≤ maxLen) ∧
      (-9223372036854775808 ≤ p.vars ∧ p.vars ≤ 9223372036854775807) ∧ (-9223372036854775808 ≤ p.mtx ∧ p.mtx ≤ 9223372036854775807) := by
  obtain ⟨hl, fuel', hf⟩ := tr_struct Try.underlying47 h
  have hl4 : cs.length = 3 := hl.trans (by kernel_rfl)
  match cs, hl4 with
  | [a, b, c], _ =>
    simp only [List.mem_cons, List.not_mem_nil, or_false, forall_eq_or_imp, forall_eq] at hf
    rw [show Try.prog.cellsOf 3 = 1 by kernel_rfl, show Try.prog.cellsOf 45 = 1 by kernel_rfl] at hf
    obtain ⟨⟨_, h1⟩, ⟨_, h2⟩, ⟨_, h3⟩⟩ := hf
    obtain ⟨v, e1, w1⟩ := tr_int Try.underlying3 h1
    obtain ⟨m, e2, w2⟩ := tr_int Try.underlying3 h2
    simp at e1 e2 h3
    obtain ⟨A, n, cap, e3⟩ := tr_slice0 Try.underlying45 h3
    simp at e3
    subst e1 e2 e3
    obtain ⟨L, rfl, hc, h5, h6, h7⟩ := code_read h3
    exact ⟨⟨v, m, L⟩, A, cap, rfl, hc, h5, h6, h7, i64_bounds w1, i64_bounds w2⟩
end Go.Proofs.Ytgahjibjladafaa
