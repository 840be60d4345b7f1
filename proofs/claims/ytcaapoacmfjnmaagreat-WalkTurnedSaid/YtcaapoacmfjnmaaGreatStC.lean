/- Programs: what may be, and what they look like in memory. -/
import Derived.Test.YtcaapoacmfjnmaaGreatFoLv
import Derived.Test.YtcaapoacmfjnmaaGreatApp
import Derived.Test.YtcaapoacmfjnmaaGreatPlan
import Derived.Deep.DeepCutAuto
import Derived.Deep.CutBlock
import Derived.IntWalk
import Derived.Test.YtcaapoacmfjnmaaGreatFoEv
namespace Go.Proofs.YtcaapoacmfjnmaaGreat
open Go.RowKit
set_option linter.unusedVariables false

structure Ins where
  k : Int
  r : Int
  x : Int
  n : Int
deriving DecidableEq
structure Pg where
  vars : Int
  mtx : Int
  code : List (List Ins)
deriving DecidableEq
namespace Pr
/-- may an instruction of n be? -/
def InsOk (vars mtx n : Int) (i : Ins) : Prop :=
  1 ≤ i.k ∧ i.k ≤ 8 ∧ (i.k = 3 ∨ i.k = 4 ∨ i.n = 0) ∧ -128 ≤ i.n ∧ i.n ≤ 127 ∧ 0 ≤ i.x ∧ 0 ≤ i.r ∧ i.r ≤ 1 ∧ ((i.k = 5 ∨ i.k = 6) → i.r = 0) ∧ ((i.k = 1 ∨ i.k = 2) → i.x < vars) ∧ ((i.k = 5 ∨ i.k = 6) → i.x < mtx) ∧ (i.k = 7 → i.x ≤ n) ∧ ((i.k = 3 ∨ i.k = 4 ∨ i.k = 8) → i.x = 0)
instance (vars mtx n : Int) (i : Ins) : Decidable (InsOk vars mtx n i) := by unfold InsOk; infer_instance
def CodeOk (vars mtx : Int) (c : List Ins) : Prop := c.length ≤ 8 ∧ ∀ i ∈ c, InsOk vars mtx c.length i
instance (vars mtx : Int) (c : List Ins) : Decidable (CodeOk vars mtx c) := by unfold CodeOk; infer_instance
def HeadOk (p : Pg) : Prop := 0 ≤ p.vars ∧ p.vars ≤ 4 ∧ 0 ≤ p.mtx ∧ p.mtx ≤ 2 ∧ 1 ≤ p.code.length ∧ p.code.length ≤ 4
instance (p : Pg) : Decidable (HeadOk p) := by unfold HeadOk; infer_instance
/-- may a program be? -/
def Ok (p : Pg) : Prop := HeadOk p ∧ ∀ c ∈ p.code, CodeOk p.vars p.mtx c
instance (p : Pg) : Decidable (Ok p) := by unfold Ok; infer_instance
end Pr

def encI (i : Ins) : List Value := [.int .i64 i.k, .int .i64 i.r, .int .i64 i.x, .int .i64 i.n]
def valI (i : Ins) : Value := .agg #[.int .i64 i.k, .int .i64 i.r, .int .i64 i.x, .int .i64 i.n]
theorem encI_len (i : Ins) : (encI i).length = 4 := rfl
def InAt (u : World) (g o : Nat) (i : Ins) : Prop := u.cell? ⟨g, o, none⟩ = some (.int .i64 i.k) ∧ u.cell? ⟨g, o + 1, none⟩ = some (.int .i64 i.r) ∧ u.cell? ⟨g, o + 2, none⟩ = some (.int .i64 i.x) ∧ u.cell? ⟨g, o + 3, none⟩ = some (.int .i64 i.n)

/-! what lies in blocks of C -/
/-- n things of sz cells each lie at A, in a block of C -/
def RdC (w : World) (C : Nat → Prop) (sz : Nat) (A : Option Addr) (n : Nat) (cs : List Value) : Prop :=
  cs.length = n * sz ∧ (0 < n * sz → ∃ g o, A = some ⟨g, o, none⟩ ∧ C g ∧ g < w.heap.size ∧ ∀ j, j < n * sz → w.cell? ⟨g, o + j, none⟩ = cs[j]?)
theorem RdB.toC {w : World} {B sz : Nat} {A : Option Addr} {n : Nat} {cs : List Value} (h : RdB w B sz A n cs) (hB : B ≤ w.heap.size) : RdC w (fun k => k < B) sz A n cs :=
  ⟨h.1, fun h0 => by obtain ⟨g, o, h1, h2, h3⟩ := h.2 h0; exact ⟨g, o, h1, h2, by omega, h3⟩⟩
theorem RdC.rd {w : World} {C : Nat → Prop} {sz : Nat} {A : Option Addr} {n : Nat} {cs : List Value} (h : RdC w C sz A n cs) : Rd w sz A n cs :=
  ⟨h.1, fun h0 => by obtain ⟨g, o, h1, _, h2, h3⟩ := h.2 h0; exact ⟨g, o, h1, h2, h3⟩⟩
theorem RdC.mod {w w' : World} {F C : Nat → Prop} {sz : Nat} {A : Option Addr} {n : Nat} {cs : List Value} (h : RdC w C sz A n cs) (hm : Mod F w w') (hF : ∀ k, C k → ¬ F k) : RdC w' C sz A n cs :=
  ⟨h.1, fun h0 => by
    obtain ⟨g, o, h1, hc, h2, h3⟩ := h.2 h0
    exact ⟨g, o, h1, hc, Nat.lt_of_lt_of_le h2 hm.size, fun j hj => (hm.cell g (o + j) h2 (hF g hc)).trans (h3 j hj)⟩⟩
theorem RdC.below {w w' : World} {C : Nat → Prop} {sz : Nat} {A : Option Addr} {n : Nat} {cs : List Value} (h : RdC w C sz A n cs) (hb : Below w.heap.size w w') : RdC w' C sz A n cs :=
  ⟨h.1, fun h0 => by
    obtain ⟨g, o, h1, hc, h2, h3⟩ := h.2 h0
    exact ⟨g, o, h1, hc, Nat.lt_of_lt_of_le h2 hb.size, fun j hj => by rw [World.cell?_of_block (hb.block g h2), h3 j hj]⟩⟩
theorem RdC.imp {w : World} {C D : Nat → Prop} {sz : Nat} {A : Option Addr} {n : Nat} {cs : List Value} (h : RdC w C sz A n cs) (hCD : ∀ k, C k → D k) : RdC w D sz A n cs :=
  ⟨h.1, fun h0 => by obtain ⟨g, o, h1, hc, h2, h3⟩ := h.2 h0; exact ⟨g, o, h1, hCD g hc, h2, h3⟩⟩
/-- a row of instructions: one of them -/
theorem RdC.ins {w : World} {C : Nat → Prop} {A : Option Addr} {l : List Ins} (h : RdC w C 4 A l.length (l.flatMap encI)) : ∀ (k : Nat) (i : Ins), l[k]? = some i → ∃ g o, A = some ⟨g, o, none⟩ ∧ C g ∧ g < w.heap.size ∧ ∀ u : World, u.heap[g]? = w.heap[g]? → InAt u g (o + k * 4) i := fun k i hi => by
  obtain ⟨hk, rfl⟩ := List.getElem?_eq_some_iff.1 hi
  obtain ⟨g, o, hA, hg, hlt, hc⟩ := h.2 (by omega)
  refine ⟨g, o, hA, hg, hlt, fun u hu => ?_⟩
  have hcl : ∀ r, r < 4 → u.cell? ⟨g, o + k * 4 + r, none⟩ = (encI l[k])[r]? := fun r hr => by
    rw [Nat.add_assoc, World.cell?_of_block hu, hc (k * 4 + r) (by omega), flat_get (f := encI) (sz := 4) encI_len l k r hk hr]
  have v0 := hcl 0 (by omega)
  have v1 := hcl 1 (by omega)
  have v2 := hcl 2 (by omega)
  have v3 := hcl 3 (by omega)
  simp only [encI, List.getElem?_cons_succ, List.getElem?_cons_zero, Nat.add_zero] at v0 v1 v2 v3
  exact ⟨v0, v1, v2, v3⟩
/-- the code of all threads, in blocks of C -/
def CdAt (w : World) (C : Nat → Prop) (A : Option Addr) (L : List (List Ins)) : Prop :=
  ∃ vs : List Value, RdC w C 1 A L.length vs ∧ ∀ (i : Nat) (q : List Ins), L[i]? = some q → ∃ A' c', vs[i]? = some (.slice A' q.length c') ∧ RdC w C 4 A' q.length (q.flatMap encI) ∧ q.length ≤ c' ∧ c' ≤ maxLen
theorem CdAt.mod {w w' : World} {F C : Nat → Prop} {A : Option Addr} {L : List (List Ins)} (h : CdAt w C A L) (hm : Mod F w w') (hF : ∀ k, C k → ¬ F k) : CdAt w' C A L := by
  obtain ⟨vs, h1, h2⟩ := h
  refine ⟨vs, h1.mod hm hF, fun i q hi => ?_⟩
  obtain ⟨A', c', h3, h4, h5⟩ := h2 i q hi
  exact ⟨A', c', h3, h4.mod hm hF, h5⟩
theorem CdAt.below {w w' : World} {C : Nat → Prop} {A : Option Addr} {L : List (List Ins)} (h : CdAt w C A L) (hb : Below w.heap.size w w') : CdAt w' C A L := by
  obtain ⟨vs, h1, h2⟩ := h
  refine ⟨vs, h1.below hb, fun i q hi => ?_⟩
  obtain ⟨A', c', h3, h4, h5⟩ := h2 i q hi
  exact ⟨A', c', h3, h4.below hb, h5⟩
theorem CdAt.imp {w : World} {C D : Nat → Prop} {A : Option Addr} {L : List (List Ins)} (h : CdAt w C A L) (hCD : ∀ k, C k → D k) : CdAt w D A L := by
  obtain ⟨vs, h1, h2⟩ := h
  refine ⟨vs, h1.imp hCD, fun i q hi => ?_⟩
  obtain ⟨A', c', h3, h4, h5⟩ := h2 i q hi
  exact ⟨A', c', h3, h4.imp hCD, h5⟩
/-- the code of one thread -/
theorem CdAt.get {w : World} {C : Nat → Prop} {A : Option Addr} {L : List (List Ins)} (h : CdAt w C A L) : ∀ (k : Nat) (q : List Ins), L[k]? = some q → ∃ g o A' c', A = some ⟨g, o, none⟩ ∧ C g ∧ g < w.heap.size ∧ RdC w C 4 A' q.length (q.flatMap encI) ∧ q.length ≤ c' ∧ c' ≤ maxLen ∧ ∀ u : World, u.heap[g]? = w.heap[g]? → u.cell? ⟨g, o + k, none⟩ = some (.slice A' q.length c') := fun k q hq => by
  obtain ⟨vs, h1, h2⟩ := h
  have hk := (List.getElem?_eq_some_iff.1 hq).1
  obtain ⟨g, o, hA, hg, hlt, hc⟩ := h1.2 (by omega)
  obtain ⟨A', c', h3, h4, h5, h6⟩ := h2 k q hq
  exact ⟨g, o, A', c', hA, hg, hlt, h4, h5, h6, fun u hu => by rw [World.cell?_of_block hu, hc k (by omega), h3]⟩
open Go.ChangeShapes Go.WideShapes Go.ChangeAt
set_option maxRecDepth 100000 in
theorem ins_read {H : Type} {enc : TypeId × Value → H} {w : World} {base : Nat} {spare : Nat → Bool} {held : Bool} (fuel : Nat) (cs : List Value) (y : DataW H × List MemPlace) (_ : cs.length = 4)
    (h : DataW.trod enc Tryz.prog w base spare held fuel 78 cs = some y) : ∃ i : Ins, cs = encI i ∧ True := by
  obtain ⟨hl, fuel', hf⟩ := tr_struct Tryz.underlying78 h
  have hl4 : cs.length = 4 := hl.trans (by kernel_rfl)
  match cs, hl4 with
  | [a, b, c, d], _ =>
    simp only [List.mem_cons, List.not_mem_nil, or_false, forall_eq_or_imp, forall_eq] at hf
    rw [show Tryz.prog.cellsOf 3 = 1 by kernel_rfl, show Tryz.prog.cellsOf 2 = 1 by kernel_rfl] at hf
    obtain ⟨⟨_, h1⟩, ⟨_, h2⟩, ⟨_, h3⟩, ⟨_, h4⟩⟩ := hf
    obtain ⟨t, e1, w1⟩ := tr_int Tryz.underlying3 h1
    obtain ⟨k, e2, w2⟩ := tr_int Tryz.underlying3 h2
    obtain ⟨o, e3, w3⟩ := tr_int Tryz.underlying3 h3
    obtain ⟨f, e4, w4⟩ := tr_int Tryz.underlying2 h4
    simp at e1 e2 e3 e4
    subst e1 e2 e3 e4
    exact ⟨⟨t, k, o, f⟩, rfl, trivial⟩
set_option maxRecDepth 100000 in
/-- a row of instructions -/
theorem irow_read {H : Type} {enc : TypeId × Value → H} {w : World} {base : Nat} {spare : Nat → Bool} {held : Bool} {fuel : Nat} {A : Option Addr} {n cap : Nat} {y : DataW H × List MemPlace}
    (h : DataW.trod enc Tryz.prog w base spare held fuel 75 [.slice A n cap] = some y) : ∃ l : List Ins, l.length = n ∧ Rd w 4 A n (l.flatMap encI) ∧ n ≤ cap ∧ cap ≤ maxLen := by
  obtain ⟨l, hl, _, hr, h1, h2⟩ := tr_list (f := encI) (sz := 4) (by omega) Tryz.underlying75 (by kernel_rfl) ins_read h
  exact ⟨l, hl, hr, h1, h2⟩
structure SlI where
  A : Option Addr
  cap : Nat
  l : List Ins
def encSI (x : SlI) : List Value := [.slice x.A x.l.length x.cap]
set_option maxRecDepth 100000 in
/-- the code of all threads -/
theorem code_read {H : Type} {enc : TypeId × Value → H} {w : World} {base : Nat} {spare : Nat → Bool} {held : Bool} {fuel : Nat} {A : Option Addr} {n cap : Nat} {y : DataW H × List MemPlace}
    (h : DataW.trod enc Tryz.prog w base spare held fuel 22 [.slice A n cap] = some y) : ∃ L : List (List Ins), L.length = n ∧ CdAt w (fun k => k < w.heap.size) A L ∧ n ≤ cap ∧ cap ≤ maxLen ∧ ∀ q ∈ L, q.length ≤ maxLen := by
  obtain ⟨xs, hl, hg, hr, h1, h2⟩ := tr_list (f := encSI) (sz := 1) (good := fun x => Rd w 4 x.A x.l.length (x.l.flatMap encI) ∧ x.l.length ≤ x.cap ∧ x.cap ≤ maxLen) (by omega) Tryz.underlying22 (by kernel_rfl) (fun fuel c y hc h => by
    obtain ⟨A, n, cap, rfl⟩ := tr_slice0 Tryz.underlying75 h
    obtain ⟨l, rfl, hr, hm⟩ := irow_read h
    exact ⟨⟨A, cap, l⟩, rfl, hr, hm⟩) h
  subst hl
  have hlen : (xs.map SlI.l).length = xs.length := by simp
  have hat : ∀ i, (hi : i < xs.length) → (xs.flatMap encSI)[i]? = some (.slice xs[i].A xs[i].l.length xs[i].cap) := fun i hi => by
    have := flat_get (f := encSI) (sz := 1) (fun x => rfl) xs i 0 hi (by omega)
    rw [Nat.mul_one, Nat.add_zero] at this
    rw [this]; rfl
  refine ⟨xs.map SlI.l, hlen, ⟨xs.flatMap encSI, hlen ▸ hr.toB.toC (Nat.le_refl _), fun i q hi => ?_⟩, h1, h2, fun q hq => ?_⟩
  · rw [List.getElem?_map] at hi
    obtain ⟨x, hx, rfl⟩ := Option.map_eq_some_iff.1 hi
    obtain ⟨hi', rfl⟩ := List.getElem?_eq_some_iff.1 hx
    have g := hg _ (List.getElem_mem hi')
    exact ⟨xs[i].A, xs[i].cap, hat i hi', g.1.toB.toC (Nat.le_refl _), g.2⟩
  · obtain ⟨x, hx, rfl⟩ := List.mem_map.1 hq
    have g := hg x hx
    exact Nat.le_trans g.2.1 g.2.2
set_option maxRecDepth 100000 in
/-- a program -/
theorem prog_read {H : Type} {enc : TypeId × Value → H} {w : World} {base : Nat} {spare : Nat → Bool} {held : Bool} (fuel : Nat) (cs : List Value) (y : DataW H × List MemPlace)
    (h : DataW.trod enc Tryz.prog w base spare held fuel 24 cs = some y) : ∃ (p : Pg) (A : Option Addr) (cap : Nat), cs = [.int .i64 p.vars, .int .i64 p.mtx, .slice A p.code.length cap] ∧ CdAt w (fun k => k < w.heap.size) A p.code ∧ p.code.length ≤ cap ∧ cap ≤ maxLen ∧ (∀ q ∈ p.code, q.length ≤ maxLen) ∧
      (-9223372036854775808 ≤ p.vars ∧ p.vars ≤ 9223372036854775807) ∧ (-9223372036854775808 ≤ p.mtx ∧ p.mtx ≤ 9223372036854775807) := by
  obtain ⟨hl, fuel', hf⟩ := tr_struct Tryz.underlying24 h
  have hl4 : cs.length = 3 := hl.trans (by kernel_rfl)
  match cs, hl4 with
  | [a, b, c], _ =>
    simp only [List.mem_cons, List.not_mem_nil, or_false, forall_eq_or_imp, forall_eq] at hf
    rw [show Tryz.prog.cellsOf 3 = 1 by kernel_rfl, show Tryz.prog.cellsOf 22 = 1 by kernel_rfl] at hf
    obtain ⟨⟨_, h1⟩, ⟨_, h2⟩, ⟨_, h3⟩⟩ := hf
    obtain ⟨v, e1, w1⟩ := tr_int Tryz.underlying3 h1
    obtain ⟨m, e2, w2⟩ := tr_int Tryz.underlying3 h2
    simp at e1 e2 h3
    obtain ⟨A, n, cap, e3⟩ := tr_slice0 Tryz.underlying22 h3
    simp at e3
    subst e1 e2 e3
    obtain ⟨L, rfl, hc, h5, h6, h7⟩ := code_read h3
    exact ⟨⟨v, m, L⟩, A, cap, rfl, hc, h5, h6, h7, i64_bounds w1, i64_bounds w2⟩
end Go.Proofs.YtcaapoacmfjnmaaGreat
/- prog.Right: may a program be? -/
namespace Go.Proofs.YtcaapoacmfjnmaaGreat
open Go.RowKit
set_option linter.unusedVariables false

theorem within_any (w : World) (a lo hi : Int) : Calls Tryz.prog 114 #[.int .i64 a, .int .i64 lo, .int .i64 hi] w fun x w' => x = .returned (.bool (decide (lo ≤ a ∧ a ≤ hi))) ∧ w = w' := by
  by_cases h1 : lo ≤ a
  · by_cases h2 : a ≤ hi
    · go_enter Tryz.func114, Tryz.ntmps114
      go_wp2_with fail
      go_ret
      exact ⟨by rw [decide_eq_true ⟨h1, h2⟩]; rfl, rfl⟩
    · go_enter Tryz.func114, Tryz.ntmps114
      go_wp2_with fail
      go_ret
      exact ⟨by rw [decide_eq_false (show ¬ a ≤ hi by omega)]; rfl, rfl⟩
  · go_enter Tryz.func114, Tryz.ntmps114
    go_wp2_with fail
    go_ret
    exact ⟨by rw [decide_eq_false (show ¬ lo ≤ a by omega)]; rfl, rfl⟩

theorem ins_box (w : World) (i : Ins) : ∃ W X, W = w.alloc (Obj.cells #[.int .i64 i.k, .int .i64 i.r, .int .i64 i.x, .int .i64 i.n] 78) ∧ X = w.heap.size ∧ Below w.heap.size w W ∧ X < W.heap.size ∧ ∀ u, Below W.heap.size W u → InAt u X 0 i ∧ X < u.heap.size := by
  refine ⟨_, _, rfl, rfl, (Below.refl _ _).alloc (Nat.le_refl _) _, by simp, fun u hu => ?_⟩
  have h1 := heap_alloc_new w (Obj.cells #[.int .i64 i.k, .int .i64 i.r, .int .i64 i.x, .int .i64 i.n] 78)
  have g1 := (hu.block _ (blk_lt h1)).trans h1
  exact ⟨⟨by rw [cell_blk g1]; rfl, by rw [cell_blk g1]; rfl, by rw [cell_blk g1]; rfl, by rw [cell_blk g1]; rfl⟩, blk_lt g1⟩

theorem insOk_iff {vars mtx n k r x m up reg : Int} {num : Bool} (hk1 : 1 ≤ k) (hk8 : k ≤ 8) (hnum : num = true ↔ (k = 3 ∨ k = 4)) (hreg : reg = (if k = 5 ∨ k = 6 then 0 else 1)) (hup : up = (if k = 1 ∨ k = 2 then vars else if k = 5 ∨ k = 6 then mtx else if k = 7 then n + 1 else 1)) :
    Pr.InsOk vars mtx n ⟨k, r, x, m⟩ ↔ (num = true ∨ m = 0) ∧ -128 ≤ m ∧ m ≤ 127 ∧ (0 ≤ x ∧ x ≤ up - 1) ∧ (0 ≤ r ∧ r ≤ reg) := by
  subst hreg hup
  rw [hnum]
  unfold Pr.InsOk
  rcases (show k = 1 ∨ k = 2 ∨ k = 3 ∨ k = 4 ∨ k = 5 ∨ k = 6 ∨ k = 7 ∨ k = 8 by omega) with rfl | rfl | rfl | rfl | rfl | rfl | rfl | rfl <;> simp <;> omega

set_option maxRecDepth 100000 in
set_option maxHeartbeats 4000000 in
theorem instrOk_any (w : World) (X : Nat) (vars mtx n : Int) (i : Ins) (c0 : w.cell? ⟨X, 0, none⟩ = some (.int .i64 vars)) (c1 : w.cell? ⟨X, 1, none⟩ = some (.int .i64 mtx)) (hX : X < w.heap.size) (hv : 0 ≤ vars ∧ vars ≤ 4) (hm : 0 ≤ mtx ∧ mtx ≤ 2) (hn : 0 ≤ n ∧ n ≤ 8) :
    Calls Tryz.prog 116 #[.pointer (some ⟨X, 0, none⟩), .int .i64 n, valI i] w fun x w' => x = .returned (.bool (decide (Pr.InsOk vars mtx n i))) ∧ Below w.heap.size w w' := by
  obtain ⟨W, Z, hW, hZ, hB, hZl, hZe⟩ := ins_box w i
  obtain ⟨⟨z0, z1, z2, z3⟩, zl⟩ := hZe W (Below.refl _ _)
  have x0 : W.cell? ⟨X, 0, none⟩ = some (.int .i64 vars) := (World.cell?_of_block (hB.block X hX)).trans c0
  have x1 : W.cell? ⟨X, 1, none⟩ = some (.int .i64 mtx) := (World.cell?_of_block (hB.block X hX)).trans c1
  have xl : X < W.heap.size := by have := hB.size; omega
  simp only [Nat.zero_add] at z1 z2 z3
  unfold valI
  have HB := Lib.hid hB
  have HW := Lib.hid hW
  have HZ := Lib.hid hZ
  obtain ⟨k, r, x, m⟩ := i
  simp only at HW z0 z1 z2 z3
  clear hB hW hZ hZe c0 c1 hX
  go_enter Tryz.func116, Tryz.ntmps116
  go_upto_region 2 with fail
  rw [← HW.out, ← HZ.out]
  go_upto_block 0 with fail
  go_cut [7, 8, 9] (fun a b c w2 => w2 = W ∧ 1 ≤ k ∧ k ≤ 8 ∧ ∃ (up reg : Int) (num : Bool), a = .int .i64 up ∧ b = .int .i64 reg ∧ c = .bool num ∧ (num = true ↔ (k = 3 ∨ k = 4)) ∧ 0 ≤ up ∧ up ≤ 9 ∧ reg = (if k = 5 ∨ k = 6 then 0 else 1) ∧ up = (if k = 1 ∨ k = 2 then vars else if k = 5 ∨ k = 6 then mtx else if k = 7 then n + 1 else 1))
  case first =>
    rcases (show k = 1 ∨ k = 2 ∨ k = 3 ∨ k = 4 ∨ k = 5 ∨ k = 6 ∨ k = 7 ∨ k = 8 ∨ (k ≠ 1 ∧ k ≠ 2 ∧ k ≠ 3 ∧ k ≠ 4 ∧ k ≠ 5 ∧ k ≠ 6 ∧ k ≠ 7 ∧ k ≠ 8) from by omega) with rfl | rfl | rfl | rfl | rfl | rfl | rfl | rfl | ⟨h1, h2, h3, h4, h5, h6, h7, h8⟩
    · go_wp2_with fail
      go_meet
      exact ⟨rfl, by omega, by omega, _, _, _, rfl, rfl, rfl, by simp, by omega, by omega, rfl, rfl⟩
    · go_wp2_with fail
      go_meet
      exact ⟨rfl, by omega, by omega, _, _, _, rfl, rfl, rfl, by simp, by omega, by omega, rfl, rfl⟩
    · go_wp2_with fail
      go_meet
      exact ⟨rfl, by omega, by omega, _, _, _, rfl, rfl, rfl, by simp, by omega, by omega, rfl, rfl⟩
    · go_wp2_with fail
      go_meet
      exact ⟨rfl, by omega, by omega, _, _, _, rfl, rfl, rfl, by simp, by omega, by omega, rfl, rfl⟩
    · go_wp2_with fail
      go_meet
      exact ⟨rfl, by omega, by omega, _, _, _, rfl, rfl, rfl, by simp, by omega, by omega, rfl, rfl⟩
    · go_wp2_with fail
      go_meet
      exact ⟨rfl, by omega, by omega, _, _, _, rfl, rfl, rfl, by simp, by omega, by omega, rfl, rfl⟩
    · go_wp2_with fail
      go_meet
      exact ⟨rfl, by omega, by omega, n + 1, _, _, by go_num, rfl, rfl, by simp, by omega, by omega, rfl, rfl⟩
    · go_wp2_with fail
      go_meet
      exact ⟨rfl, by omega, by omega, _, _, _, rfl, rfl, rfl, by simp, by omega, by omega, rfl, rfl⟩
    · go_wp2_with fail
      go_ret
      exact ⟨by rw [decide_eq_false (by unfold Pr.InsOk; simp only; omega)]; rfl, HB.out⟩
  case rest =>
    obtain ⟨hwc, hk1, hk8, up, reg, num, rfl, rfl, rfl, hnum, hu0, hu9, hreg, hup⟩ := hcut
    subst hwc
    have HNUM := Lib.hid hnum
    have HUP := Lib.hid hup
    have HREG := Lib.hid hreg
    clear hnum hup hreg
    have hw : IntKind.i64.wrap (up - 1) = up - 1 := IntWalk.i64_in _ (by omega)
    cases num with
    | false =>
      by_cases h0 : m = 0
      · subst h0
        go_wp2_with fail
        refine (within_any _ x 0 (up - 1)).mono ?_
        rintro y w1 ⟨rfl, rfl⟩
        obtain ⟨b, hb⟩ : ∃ b, b = decide (0 ≤ x ∧ x ≤ up - 1) := ⟨_, rfl⟩
        rw [← hb]
        have HBB := Lib.hid hb
        clear hb
        cases b with
        | false =>
          go_wp2_with fail
          go_ret
          exact ⟨by rw [decide_eq_false (fun h => of_decide_eq_false HBB.out.symm ((insOk_iff hk1 hk8 (num := false) (by simpa using HNUM.out) HREG.out HUP.out).1 h).2.2.2.1)]; rfl, HB.out⟩
        | true =>
          go_wp2_with fail
          refine (within_any _ r 0 reg).mono ?_
          rintro y w1 ⟨rfl, rfl⟩
          obtain ⟨b, hb⟩ : ∃ b, b = decide (0 ≤ r ∧ r ≤ reg) := ⟨_, rfl⟩
          rw [← hb]
          have HBC := Lib.hid hb
          clear hb
          go_wp2_with fail
          go_ret
          refine ⟨?_, HB.out⟩
          rw [show decide (Pr.InsOk vars mtx n ⟨k, r, x, 0⟩) = b by
            rw [HBC.out]
            exact decide_eq_decide.2 ((insOk_iff hk1 hk8 (num := false) (by simpa using HNUM.out) HREG.out HUP.out).trans ⟨fun h => h.2.2.2.2, fun h => ⟨.inr rfl, by omega, by omega, of_decide_eq_true HBB.out.symm, h⟩⟩)]
          rfl
      · go_wp2_with fail
        go_ret
        exact ⟨by rw [decide_eq_false (fun h => by rcases ((insOk_iff hk1 hk8 (num := false) (by simpa using HNUM.out) HREG.out HUP.out).1 h).1 with h3 | h3; (· cases h3); exact h0 h3)]; rfl, HB.out⟩
    | true =>
      by_cases h1 : m < -128
      · go_wp2_with fail
        go_ret
        exact ⟨by rw [decide_eq_false (fun h => by have := ((insOk_iff hk1 hk8 (num := true) (by simpa using HNUM.out) HREG.out HUP.out).1 h).2.1; omega)]; rfl, HB.out⟩
      · by_cases h2 : 127 < m
        · go_wp2_with fail
          go_ret
          exact ⟨by rw [decide_eq_false (fun h => by have := ((insOk_iff hk1 hk8 (num := true) (by simpa using HNUM.out) HREG.out HUP.out).1 h).2.2.1; omega)]; rfl, HB.out⟩
        · go_wp2_with fail
          refine (within_any _ x 0 (up - 1)).mono ?_
          rintro y w1 ⟨rfl, rfl⟩
          obtain ⟨b, hb⟩ : ∃ b, b = decide (0 ≤ x ∧ x ≤ up - 1) := ⟨_, rfl⟩
          rw [← hb]
          have HBB := Lib.hid hb
          clear hb
          cases b with
          | false =>
            go_wp2_with fail
            go_ret
            exact ⟨by rw [decide_eq_false (fun h => of_decide_eq_false HBB.out.symm ((insOk_iff hk1 hk8 (num := true) (by simpa using HNUM.out) HREG.out HUP.out).1 h).2.2.2.1)]; rfl, HB.out⟩
          | true =>
            go_wp2_with fail
            refine (within_any _ r 0 reg).mono ?_
            rintro y w1 ⟨rfl, rfl⟩
            obtain ⟨b, hb⟩ : ∃ b, b = decide (0 ≤ r ∧ r ≤ reg) := ⟨_, rfl⟩
            rw [← hb]
            have HBC := Lib.hid hb
            clear hb
            go_wp2_with fail
            go_ret
            refine ⟨?_, HB.out⟩
            rw [show decide (Pr.InsOk vars mtx n ⟨k, r, x, m⟩) = b by
              rw [HBC.out]
              exact decide_eq_decide.2 ((insOk_iff hk1 hk8 (num := true) (by simpa using HNUM.out) HREG.out HUP.out).trans ⟨fun h => h.2.2.2.2, fun h => ⟨.inl rfl, by omega, by omega, of_decide_eq_true HBB.out.symm, h⟩⟩)]
            rfl
end Go.Proofs.YtcaapoacmfjnmaaGreat
/- prog.Right: the whole of it. -/
namespace Go.Proofs.YtcaapoacmfjnmaaGreat
open Go.RowKit
set_option linter.unusedVariables false

theorem ins_cell {w : World} {B : Nat} {A : Option Addr} {l : List Ins} (h : RdB w B 4 A l.length (l.flatMap encI)) : ∀ k, (hk : k < l.length) → ∃ g o, A = some ⟨g, o, none⟩ ∧ g < B ∧ ∀ u, Below B w u → InAt u g (o + k * 4) l[k] := fun k hk => by
  obtain ⟨g, o, hA, hg, hc⟩ := h.2 (by omega)
  refine ⟨g, o, hA, hg, fun u hu => ?_⟩
  have hcl : ∀ r, r < 4 → u.cell? ⟨g, o + k * 4 + r, none⟩ = (encI l[k])[r]? := fun r hr => by
    rw [Nat.add_assoc, World.cell?_of_block (hu.block g hg), hc (k * 4 + r) (by omega), flat_get (f := encI) (sz := 4) encI_len l k r hk hr]
  have v0 := hcl 0 (by omega)
  have v1 := hcl 1 (by omega)
  have v2 := hcl 2 (by omega)
  have v3 := hcl 3 (by omega)
  simp only [encI, List.getElem?_cons_succ, List.getElem?_cons_zero, Nat.add_zero] at v0 v1 v2 v3
  exact ⟨v0, v1, v2, v3⟩
theorem any_takeI {l : List Ins} {p : Ins → Bool} {k : Nat} (hk : k < l.length) : (l.take (k + 1)).any p = ((l.take k).any p || p l[k]) := by
  rw [List.take_add_one, List.getElem?_eq_getElem hk, List.any_append]
  simp
theorem indexFunc_pright1 (w : World) (X Y : Nat) (A : Option Addr) (cap : Nat) (l : List Ins) (hr : Rd w 4 A l.length (l.flatMap encI)) (hl : l.length < 4611686018427387904) (p : Ins → Bool)
    (hf : ∀ u e, Below w.heap.size w u → Calls Tryz.prog 115 #[valI e, .pointer (some ⟨X, 0, none⟩), .pointer (some ⟨Y, 0, none⟩)] u fun x w' => x = .returned (.bool (p e)) ∧ Below u.heap.size u w') :
    Calls Tryz.prog 144 #[.slice A l.length cap, .func (.func 115) #[] #[.pointer (some ⟨X, 0, none⟩), .pointer (some ⟨Y, 0, none⟩)]] w fun x w' => ∃ n : Int, x = .returned (.int .i64 n) ∧ ((0 ≤ n) ↔ l.any p = true) ∧ Below w.heap.size w w' := by
  have HC := Lib.hid (ins_cell hr.toB)
  have HF := Lib.hid hf
  clear hr hf
  go_enter Tryz.func144, Tryz.ntmps144
  go_wp2_with fail
  go_loopw [8] (fun v wr => ∃ k : Nat, k ≤ l.length ∧ v = .int .i64 k ∧ Hid ((l.take k).any p = false) ∧ Below w.heap.size w wr) (fun v _ => l.length - (intOf v).toNat)
  case atStart => exact ⟨0, Nat.zero_le _, rfl, Lib.hid rfl, Below.refl _ _⟩
  case round =>
    obtain ⟨k, hk, rfl, HRT, hb⟩ := hrel
    by_cases hlt : k < l.length
    · obtain ⟨g, o, rfl, hg, hcl⟩ := HC.out k hlt
      obtain ⟨v0, v1, v2, v3⟩ := hcl wr hb
      have k1 : (0 : Int) ≤ (k : Int) := Int.natCast_nonneg _
      have k2 : (k : Int) < (l.length : Int) := by omega
      have hcall := HF.out wr l[k] hb
      have htk := any_takeI (p := p) hlt
      obtain ⟨b, hbb⟩ : ∃ b, b = p l[k] := ⟨_, rfl⟩
      have hin : b = true → l.any p = true := fun h => List.any_eq_true.2 ⟨l[k], List.getElem_mem hlt, by rw [← hbb, h]⟩
      rw [← hbb] at hcall htk
      unfold valI at hcall
      have HCALL := Lib.hid hcall
      have HTK := Lib.hid htk
      have HIN := Lib.hid hin
      have HB := Lib.hid hb
      clear hcall htk hin hcl hbb hb
      go_wp2_with fail
      refine HCALL.out.mono ?_
      rintro x w1 ⟨rfl, b1⟩
      have hb2 : Below w.heap.size w w1 := HB.out.trans ⟨b1.os, b1.tape, b1.output, b1.size, fun i hi => b1.block i (by have := HB.out.size; omega)⟩
      have HB2 := Lib.hid hb2
      clear b1 hb2
      cases b with
      | true =>
        go_wp2_with fail
        go_ret
        exact ⟨k, rfl, ⟨fun _ => HIN.out (by trivial), fun _ => k1⟩, HB2.out⟩
      | false =>
        go_wp2_with fail
        go_roundw
        case rel => exact ⟨k + 1, by omega, by go_num, Lib.hid (by rw [HTK.out, HRT.out]; rfl), HB2.out⟩
        case measure => simp [intOf]; omega
    · have hkn : k = l.length := by omega
      have HK := Lib.hid hkn
      have HB := Lib.hid hb
      clear hkn hb
      go_wp2_with fail
      go_ret
      have := HRT.out
      rw [HK.out, List.take_length] at this
      exact ⟨-1, rfl, ⟨fun h => by omega, fun h => by rw [this] at h; cases h⟩, HB.out⟩

theorem containsFunc_pright1 (w : World) (X Y : Nat) (A : Option Addr) (cap : Nat) (l : List Ins) (hr : Rd w 4 A l.length (l.flatMap encI)) (hl : l.length < 4611686018427387904) (p : Ins → Bool)
    (hf : ∀ u e, Below w.heap.size w u → Calls Tryz.prog 115 #[valI e, .pointer (some ⟨X, 0, none⟩), .pointer (some ⟨Y, 0, none⟩)] u fun x w' => x = .returned (.bool (p e)) ∧ Below u.heap.size u w') :
    Calls Tryz.prog 117 #[.slice A l.length cap, .func (.func 115) #[] #[.pointer (some ⟨X, 0, none⟩), .pointer (some ⟨Y, 0, none⟩)]] w fun x w' => x = .returned (.bool (l.any p)) ∧ Below w.heap.size w w' := by
  have H := Lib.hid (indexFunc_pright1 w X Y A cap l hr hl p hf)
  clear hr hf
  go_enter Tryz.func117, Tryz.ntmps117
  go_wp2_with fail
  refine H.out.mono ?_
  rintro x w1 ⟨n, rfl, hn, b1⟩
  have HN := Lib.hid hn
  have HB := Lib.hid b1
  clear hn b1
  go_wp2_with fail
  go_ret
  refine ⟨?_, HB.out⟩
  have : decide (0 ≤ n) = l.any p := by
    rw [Bool.eq_iff_iff, decide_eq_true_iff]; exact HN.out
  rw [← this]
  rfl


theorem pright1_any (w : World) (X Y : Nat) (vars mtx : Int) (A : Option Addr) (n cap : Nat) (i : Ins) (c0 : w.cell? ⟨X, 0, none⟩ = some (.int .i64 vars)) (c1 : w.cell? ⟨X, 1, none⟩ = some (.int .i64 mtx)) (hX : X < w.heap.size)
    (y0 : w.cell? ⟨Y, 0, none⟩ = some (.slice A n cap)) (hY : Y < w.heap.size) (hv : 0 ≤ vars ∧ vars ≤ 4) (hm : 0 ≤ mtx ∧ mtx ≤ 2) (hn : n ≤ 8) :
    Calls Tryz.prog 115 #[valI i, .pointer (some ⟨X, 0, none⟩), .pointer (some ⟨Y, 0, none⟩)] w fun x w' => x = .returned (.bool (!decide (Pr.InsOk vars mtx n i))) ∧ Below w.heap.size w w' := by
  obtain ⟨W, Z, hW, hZ, hB, hZl, hZe⟩ := ins_box w i
  have hb := hB
  have hcall := instrOk_any W X vars mtx (n : Int) i ((World.cell?_of_block (hB.block X hX)).trans c0) ((World.cell?_of_block (hB.block X hX)).trans c1) (by have := hB.size; omega) hv hm (by omega)
  obtain ⟨b, hbb⟩ : ∃ b, b = decide (Pr.InsOk vars mtx n i) := ⟨_, rfl⟩
  rw [← hbb] at hcall ⊢
  obtain ⟨⟨z0, z1, z2, z3⟩, zl⟩ := hZe W (Below.refl _ _)
  simp only [Nat.zero_add] at z1 z2 z3
  have y0' : W.cell? ⟨Y, 0, none⟩ = some (.slice A n cap) := (World.cell?_of_block (hB.block Y hY)).trans y0
  have yl : Y < W.heap.size := by have := hB.size; omega
  unfold valI at hcall ⊢
  have HCALL := Lib.hid hcall
  have HB := Lib.hid hB
  have HZ := Lib.hid hZ
  clear hcall hB hbb hb hZ hZe c0 c1 y0
  go_enter Tryz.func115, Tryz.ntmps115
  go_upto_region 1 with fail
  rw [← hW, ← HZ.out]
  clear hW
  go_wp2_with fail
  refine HCALL.out.mono ?_
  rintro x w1 ⟨rfl, b1⟩
  have hb2 : Below w.heap.size w w1 := below2 HB.out b1
  go_wp2_with fail
  go_ret
  exact ⟨rfl, hb2⟩
/-- a program's box -/
theorem pg_box (w : World) (v m : Int) (A : Option Addr) (n cap : Nat) : ∃ W X, W = w.alloc (Obj.cells #[.int .i64 v, .int .i64 m, .slice A n cap] 24) ∧ X = w.heap.size ∧ Below w.heap.size w W ∧ X < W.heap.size ∧ ∀ u, Below W.heap.size W u → u.cell? ⟨X, 0, none⟩ = some (.int .i64 v) ∧ u.cell? ⟨X, 1, none⟩ = some (.int .i64 m) ∧ u.cell? ⟨X, 2, none⟩ = some (.slice A n cap) ∧ X < u.heap.size := by
  refine ⟨_, _, rfl, rfl, (Below.refl _ _).alloc (Nat.le_refl _) _, by simp, fun u hu => ?_⟩
  have h1 := heap_alloc_new w (Obj.cells #[.int .i64 v, .int .i64 m, .slice A n cap] 24)
  have g1 := (hu.block _ (blk_lt h1)).trans h1
  exact ⟨by rw [cell_blk g1]; rfl, by rw [cell_blk g1]; rfl, by rw [cell_blk g1]; rfl, blk_lt g1⟩
theorem sl_box (w : World) (T : TypeId) (A : Option Addr) (n cap : Nat) : ∃ W X, W = w.alloc (Obj.cells #[.slice A n cap] T) ∧ X = w.heap.size ∧ Below w.heap.size w W ∧ X < W.heap.size ∧ ∀ u, Below W.heap.size W u → u.cell? ⟨X, 0, none⟩ = some (.slice A n cap) ∧ X < u.heap.size := by
  refine ⟨_, _, rfl, rfl, (Below.refl _ _).alloc (Nat.le_refl _) _, by simp, fun u hu => ?_⟩
  have h1 := heap_alloc_new w (Obj.cells #[.slice A n cap] T)
  have g1 := (hu.block _ (blk_lt h1)).trans h1
  exact ⟨by rw [cell_blk g1]; rfl, blk_lt g1⟩
def valP (p : Pg) (A : Option Addr) (cap : Nat) : Value := .agg #[.int .i64 p.vars, .int .i64 p.mtx, .slice A p.code.length cap]
theorem not_any {vars mtx : Int} {q : List Ins} : (q.any fun i => !decide (Pr.InsOk vars mtx q.length i)) = !decide (∀ i ∈ q, Pr.InsOk vars mtx q.length i) := by
  rw [Bool.eq_iff_iff]
  simp
theorem code_take {vars mtx : Int} {L : List (List Ins)} {k : Nat} {q : List Ins} (hq : L[k]? = some q) (h : ∀ c ∈ L.take k, Pr.CodeOk vars mtx c) (hc : Pr.CodeOk vars mtx q) : ∀ c ∈ L.take (k + 1), Pr.CodeOk vars mtx c := fun c hm => by
  rw [List.take_add_one, hq] at hm
  rcases List.mem_append.1 hm with h1 | h1
  · exact h c h1
  · simp at h1; subst h1; exact hc
set_option maxRecDepth 100000 in
set_option maxHeartbeats 4000000 in
theorem pright_any (w : World) (p : Pg) (A : Option Addr) (cap : Nat) (hcd : CdAt w (fun k => k < w.heap.size) A p.code) (hl : p.code.length ≤ maxLen) (hq : ∀ q ∈ p.code, q.length ≤ maxLen) :
    Calls Tryz.prog 74 #[valP p A cap] w fun x w' => x = .returned (.bool (decide (Pr.Ok p))) ∧ Below w.heap.size w w' := by
  obtain ⟨v, m, L⟩ := p
  unfold valP
  simp only at hcd hl hq ⊢
  have hll : L.length < 9223372036854775808 := by unfold maxLen at hl; omega
  obtain ⟨W, X, hW, hX, hB, hXl, hXe⟩ := pg_box w v m A L.length cap
  have HX := Lib.hid hXe
  obtain ⟨x0, x1, x2, xl⟩ := hXe W (Below.refl _ _)
  have HB := Lib.hid hB
  have HCD := Lib.hid hcd
  have HLQ := Lib.hid hq
  obtain ⟨b1, hb1⟩ : ∃ b, b = decide (0 ≤ v ∧ v ≤ 4) := ⟨_, rfl⟩
  obtain ⟨b2, hb2⟩ : ∃ b, b = decide (0 ≤ m ∧ m ≤ 2) := ⟨_, rfl⟩
  obtain ⟨b3, hb3⟩ : ∃ b, b = decide (1 ≤ (L.length : Int) ∧ (L.length : Int) ≤ 4) := ⟨_, rfl⟩
  have hc1 : ∀ u, Calls Tryz.prog 114 #[.int .i64 v, .int .i64 0, .int .i64 4] u fun x w' => x = .returned (.bool b1) ∧ u = w' := fun u => by rw [hb1]; exact within_any u v 0 4
  have hc2 : ∀ u, Calls Tryz.prog 114 #[.int .i64 m, .int .i64 0, .int .i64 2] u fun x w' => x = .returned (.bool b2) ∧ u = w' := fun u => by rw [hb2]; exact within_any u m 0 2
  have hc3 : ∀ u, Calls Tryz.prog 114 #[.int .i64 (L.length : Int), .int .i64 1, .int .i64 4] u fun x w' => x = .returned (.bool b3) ∧ u = w' := fun u => by rw [hb3]; exact within_any u (L.length : Int) 1 4
  have HC1 := Lib.hid hc1
  have HC2 := Lib.hid hc2
  have HC3 := Lib.hid hc3
  have HB1 := Lib.hid hb1
  have HB2 := Lib.hid hb2
  have HB3 := Lib.hid hb3
  clear hc1 hc2 hc3 hb1 hb2 hb3 hB hXe hcd hq hl
  go_enter Tryz.func74, Tryz.ntmps74
  go_upto_region 1 with fail
  rw [← hW, ← hX]
  clear hW hX
  go_wp2_with fail
  refine (HC1.out _).mono ?_
  rintro x w1 ⟨rfl, rfl⟩
  cases b1 with
  | false =>
    go_wp2_with fail
    go_ret
    exact ⟨by rw [decide_eq_false (fun h => of_decide_eq_false HB1.out.symm ⟨h.1.1, h.1.2.1⟩)]; rfl, HB.out⟩
  | true =>
    have q1 := of_decide_eq_true HB1.out.symm
    go_wp2_with fail
    refine (HC2.out _).mono ?_
    rintro x w1 ⟨rfl, rfl⟩
    cases b2 with
    | false =>
      go_wp2_with fail
      go_ret
      exact ⟨by rw [decide_eq_false (fun h => of_decide_eq_false HB2.out.symm ⟨h.1.2.2.1, h.1.2.2.2.1⟩)]; rfl, HB.out⟩
    | true =>
      have q2 := of_decide_eq_true HB2.out.symm
      go_wp2_with fail
      refine (HC3.out _).mono ?_
      rintro x w1 ⟨rfl, rfl⟩
      cases b3 with
      | false =>
        go_wp2_with fail
        go_ret
        exact ⟨by rw [decide_eq_false (fun h => of_decide_eq_false HB3.out.symm (by have h1 := h.1.2.2.2.2.1; have h2 := h.1.2.2.2.2.2; simp only at h1 h2; omega))]; rfl, HB.out⟩
      | true =>
        have q3 := of_decide_eq_true HB3.out.symm
        have hhd : Pr.HeadOk ⟨v, m, L⟩ := ⟨q1.1, q1.2, q2.1, q2.2, by simp only; omega, by simp only; omega⟩
        have HHD := Lib.hid hhd
        clear hhd
        go_wp2_with fail
        go_loopw [26] (fun x wr => ∃ k : Nat, k ≤ L.length ∧ x = .int .i64 k ∧ Hid (∀ c ∈ L.take k, Pr.CodeOk v m c) ∧ Hid (Below W.heap.size W wr)) (fun x _ => L.length - (intOf x).toNat)
        case atStart => exact ⟨0, Nat.zero_le _, rfl, Lib.hid (fun c h => by simp at h), Lib.hid (Below.refl _ _)⟩
        case round =>
          clear x0 x1 x2
          obtain ⟨k, hk, rfl, HOK, HW⟩ := hrel
          by_cases hlt : k < L.length
          · obtain ⟨q, hq⟩ := get_some hlt
            obtain ⟨g, o, A', c', rfl, hg, hlg, hrq, hqc, hcm, hcell⟩ := HCD.out.get k q hq
            have ca := hcell wr (((below_at HB.out HW.out).block g hlg))
            have lg : g < wr.heap.size := by have := (below_at HB.out HW.out).size; omega
            have hqm := HLQ.out q (List.mem_of_getElem? hq)
            have hql : q.length < 9223372036854775808 := by unfold maxLen at hqm; omega
            have k1 : (0 : Int) ≤ (k : Int) := Int.natCast_nonneg _
            have k2 : (k : Int) < (L.length : Int) := by omega
            have HRQ := Lib.hid (hrq.below (below_at HB.out HW.out))
            have HQ := Lib.hid hq
            clear hq hcell hrq hqm
            obtain ⟨W2, Y, hW2, hY, hB2, hYl, hYe⟩ := sl_box wr 75 A' q.length c'
            go_upto_region 6 with fail
            rw [← hW2, ← hY]
            have HW2 := Lib.hid (below_at HW.out hB2)
            obtain ⟨y0, yl⟩ := hYe W2 (Below.refl _ _)
            have HY := Lib.hid hYe
            have HRQ := Lib.hid ((HRQ.out.below hB2).rd)
            clear hW2 hY hB2 hYl hYe ca lg
            by_cases h8 : q.length ≤ 8
            · have h8' : ¬ (8 : Int) < (q.length : Int) := by omega
              have hd : decide (8 < q.length) = false := by simp; omega
              have hcall := containsFunc_pright1 W2 X Y A' c' q HRQ.out (by omega) (fun i => !decide (Pr.InsOk v m q.length i)) (fun u e hu => by
                obtain ⟨c0, c1, _, cl⟩ := HX.out u (below_at HW2.out hu)
                obtain ⟨d0, dl⟩ := HY.out u hu
                exact pright1_any u X Y v m A' q.length c' e c0 c1 cl d0 dl q1 q2 h8)
              obtain ⟨b, hb⟩ : ∃ b, b = q.any (fun i => !decide (Pr.InsOk v m q.length i)) := ⟨_, rfl⟩
              rw [← hb] at hcall
              rw [not_any] at hb
              have HCALL := Lib.hid hcall
              have HBB := Lib.hid hb
              clear hcall hb
              go_wp2_with fail
              refine HCALL.out.mono ?_
              rintro x w3 ⟨rfl, b3⟩
              have HW3 := Lib.hid (below_at HW2.out b3)
              clear b3
              cases b with
              | false =>
                go_wp2_with fail
                go_roundw
                case rel =>
                  exact ⟨k + 1, by omega, by go_num, Lib.hid (code_take HQ.out HOK.out ⟨h8, of_decide_eq_true (by have := HBB.out; simpa using this)⟩), HW3.out |> Lib.hid⟩
                case measure => simp [intOf]; omega
              | true =>
                go_wp2_with fail
                go_ret
                exact ⟨by rw [decide_eq_false (fun h => by have h1 := (h.2 q (List.mem_of_getElem? HQ.out)).2; have h2 := HBB.out; simp only [decide_eq_true h1] at h2; cases h2)]; rfl, below_at HB.out HW3.out⟩
            · have h8' : (8 : Int) < (q.length : Int) := by omega
              have hd : decide (8 < q.length) = true := by simp; omega
              go_wp2_with fail
              go_ret
              exact ⟨by rw [decide_eq_false (fun h => h8 (h.2 q (List.mem_of_getElem? HQ.out)).1)]; rfl, below_at HB.out HW2.out⟩
          · have hkn : k = L.length := by omega
            have hok := HOK.out
            rw [hkn, List.take_length] at hok
            have HOK := Lib.hid hok
            clear hok
            go_wp2_with fail
            go_ret
            exact ⟨by rw [decide_eq_true (show Pr.Ok ⟨v, m, L⟩ from ⟨HHD.out, HOK.out⟩)]; rfl, below_at HB.out HW.out⟩
end Go.Proofs.YtcaapoacmfjnmaaGreat
