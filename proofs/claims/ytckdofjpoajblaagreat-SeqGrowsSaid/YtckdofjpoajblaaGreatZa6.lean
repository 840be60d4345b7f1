/- Part 6 of the proof of seqExact_holds: what it rests on. -/
import Derived.Test.YtckdofjpoajblaaGreatZa5
namespace Go.Proofs.YtckdofjpoajblaaGreat
open Go.RowKit
set_option linter.unusedVariables false
structure Ins where
  k : Int
  r : Int
  x : Int
  n : Int
deriving DecidableEq
structure Pg where
  vars : Int
  mtx : Int
  code : List (List Ins)
deriving DecidableEq
namespace Pr
def InsOk (vars mtx n : Int) (i : Ins) : Prop :=
  1 ≤ i.k ∧ i.k ≤ 8 ∧ (i.k = 3 ∨ i.k = 4 ∨ i.n = 0) ∧ -128 ≤ i.n ∧ i.n ≤ 127 ∧ 0 ≤ i.x ∧ 0 ≤ i.r ∧ i.r ≤ 1 ∧ ((i.k = 5 ∨ i.k = 6) → i.r = 0) ∧ ((i.k = 1 ∨ i.k = 2) → i.x < vars) ∧ ((i.k = 5 ∨ i.k = 6) → i.x < mtx) ∧ (i.k = 7 → i.x ≤ n) ∧ ((i.k = 3 ∨ i.k = 4 ∨ i.k = 8) → i.x = 0)
instance (vars mtx n : Int) (i : Ins) : Decidable (InsOk vars mtx n i) := by unfold InsOk; infer_instance
def CodeOk (vars mtx : Int) (c : List Ins) : Prop := c.length ≤ 8 ∧ ∀ i ∈ c, InsOk vars mtx c.length i
instance (vars mtx : Int) (c : List Ins) : Decidable (CodeOk vars mtx c) := by unfold CodeOk; infer_instance
def HeadOk (p : Pg) : Prop := 0 ≤ p.vars ∧ p.vars ≤ 4 ∧ 0 ≤ p.mtx ∧ p.mtx ≤ 2 ∧ 1 ≤ p.code.length ∧ p.code.length ≤ 4
instance (p : Pg) : Decidable (HeadOk p) := by unfold HeadOk; infer_instance
def Ok (p : Pg) : Prop := HeadOk p ∧ ∀ c ∈ p.code, CodeOk p.vars p.mtx c
instance (p : Pg) : Decidable (Ok p) := by unfold Ok; infer_instance
end Pr
def encI (i : Ins) : List Value := [.int .i64 i.k, .int .i64 i.r, .int .i64 i.x, .int .i64 i.n]
def valI (i : Ins) : Value := .agg #[.int .i64 i.k, .int .i64 i.r, .int .i64 i.x, .int .i64 i.n]
theorem encI_len (i : Ins) : (encI i).length = 4 := rfl
def InAt (u : World) (g o : Nat) (i : Ins) : Prop := u.cell? ⟨g, o, none⟩ = some (.int .i64 i.k) ∧ u.cell? ⟨g, o + 1, none⟩ = some (.int .i64 i.r) ∧ u.cell? ⟨g, o + 2, none⟩ = some (.int .i64 i.x) ∧ u.cell? ⟨g, o + 3, none⟩ = some (.int .i64 i.n)
def RdC (w : World) (C : Nat → Prop) (sz : Nat) (A : Option Addr) (n : Nat) (cs : List Value) : Prop :=
  cs.length = n * sz ∧ (0 < n * sz → ∃ g o, A = some ⟨g, o, none⟩ ∧ C g ∧ g < w.heap.size ∧ ∀ j, j < n * sz → w.cell? ⟨g, o + j, none⟩ = cs[j]?)
theorem RdB.toC {w : World} {B sz : Nat} {A : Option Addr} {n : Nat} {cs : List Value} (h : RdB w B sz A n cs) (hB : B ≤ w.heap.size) : RdC w (fun k => k < B) sz A n cs :=
  ⟨h.1, fun h0 => by obtain ⟨g, o, h1, h2, h3⟩ := h.2 h0; exact ⟨g, o, h1, h2, by omega, h3⟩⟩
theorem RdC.rd {w : World} {C : Nat → Prop} {sz : Nat} {A : Option Addr} {n : Nat} {cs : List Value} (h : RdC w C sz A n cs) : Rd w sz A n cs :=
  ⟨h.1, fun h0 => by obtain ⟨g, o, h1, _, h2, h3⟩ := h.2 h0; exact ⟨g, o, h1, h2, h3⟩⟩
theorem RdC.mod {w w' : World} {F C : Nat → Prop} {sz : Nat} {A : Option Addr} {n : Nat} {cs : List Value} (h : RdC w C sz A n cs) (hm : Mod F w w') (hF : ∀ k, C k → ¬ F k) : RdC w' C sz A n cs :=
  ⟨h.1, fun h0 => by
    obtain ⟨g, o, h1, hc, h2, h3⟩ := h.2 h0
    exact ⟨g, o, h1, hc, Nat.lt_of_lt_of_le h2 hm.size, fun j hj => (hm.cell g (o + j) h2 (hF g hc)).trans (h3 j hj)⟩⟩
theorem RdC.below {w w' : World} {C : Nat → Prop} {sz : Nat} {A : Option Addr} {n : Nat} {cs : List Value} (h : RdC w C sz A n cs) (hb : Below w.heap.size w w') : RdC w' C sz A n cs :=
  ⟨h.1, fun h0 => by
    obtain ⟨g, o, h1, hc, h2, h3⟩ := h.2 h0
    exact ⟨g, o, h1, hc, Nat.lt_of_lt_of_le h2 hb.size, fun j hj => by rw [World.cell?_of_block (hb.block g h2), h3 j hj]⟩⟩
theorem RdC.imp {w : World} {C D : Nat → Prop} {sz : Nat} {A : Option Addr} {n : Nat} {cs : List Value} (h : RdC w C sz A n cs) (hCD : ∀ k, C k → D k) : RdC w D sz A n cs :=
  ⟨h.1, fun h0 => by obtain ⟨g, o, h1, hc, h2, h3⟩ := h.2 h0; exact ⟨g, o, h1, hCD g hc, h2, h3⟩⟩
theorem RdC.ins {w : World} {C : Nat → Prop} {A : Option Addr} {l : List Ins} (h : RdC w C 4 A l.length (l.flatMap encI)) : ∀ (k : Nat) (i : Ins), l[k]? = some i → ∃ g o, A = some ⟨g, o, none⟩ ∧ C g ∧ g < w.heap.size ∧ ∀ u : World, u.heap[g]? = w.heap[g]? → InAt u g (o + k * 4) i := fun k i hi => by
  obtain ⟨hk, rfl⟩ := List.getElem?_eq_some_iff.1 hi
  obtain ⟨g, o, hA, hg, hlt, hc⟩ := h.2 (by omega)
  refine ⟨g, o, hA, hg, hlt, fun u hu => ?_⟩
  have hcl : ∀ r, r < 4 → u.cell? ⟨g, o + k * 4 + r, none⟩ = (encI l[k])[r]? := fun r hr => by
    rw [Nat.add_assoc, World.cell?_of_block hu, hc (k * 4 + r) (by omega), flat_get (f := encI) (sz := 4) encI_len l k r hk hr]
  have v0 := hcl 0 (by omega)
  have v1 := hcl 1 (by omega)
  have v2 := hcl 2 (by omega)
  have v3 := hcl 3 (by omega)
  simp only [encI, List.getElem?_cons_succ, List.getElem?_cons_zero, Nat.add_zero] at v0 v1 v2 v3
  exact ⟨v0, v1, v2, v3⟩
def CdAt (w : World) (C : Nat → Prop) (A : Option Addr) (L : List (List Ins)) : Prop :=
  ∃ vs : List Value, RdC w C 1 A L.length vs ∧ ∀ (i : Nat) (q : List Ins), L[i]? = some q → ∃ A' c', vs[i]? = some (.slice A' q.length c') ∧ RdC w C 4 A' q.length (q.flatMap encI) ∧ q.length ≤ c' ∧ c' ≤ maxLen
theorem CdAt.mod {w w' : World} {F C : Nat → Prop} {A : Option Addr} {L : List (List Ins)} (h : CdAt w C A L) (hm : Mod F w w') (hF : ∀ k, C k → ¬ F k) : CdAt w' C A L := by
  obtain ⟨vs, h1, h2⟩ := h
  refine ⟨vs, h1.mod hm hF, fun i q hi => ?_⟩
  obtain ⟨A', c', h3, h4, h5⟩ := h2 i q hi
  exact ⟨A', c', h3, h4.mod hm hF, h5⟩
theorem CdAt.below {w w' : World} {C : Nat → Prop} {A : Option Addr} {L : List (List Ins)} (h : CdAt w C A L) (hb : Below w.heap.size w w') : CdAt w' C A L := by
  obtain ⟨vs, h1, h2⟩ := h
  refine ⟨vs, h1.below hb, fun i q hi => ?_⟩
  obtain ⟨A', c', h3, h4, h5⟩ := h2 i q hi
  exact ⟨A', c', h3, h4.below hb, h5⟩
theorem CdAt.imp {w : World} {C D : Nat → Prop} {A : Option Addr} {L : List (List Ins)} (h : CdAt w C A L) (hCD : ∀ k, C k → D k) : CdAt w D A L := by
  obtain ⟨vs, h1, h2⟩ := h
  refine ⟨vs, h1.imp hCD, fun i q hi => ?_⟩
  obtain ⟨A', c', h3, h4, h5⟩ := h2 i q hi
  exact ⟨A', c', h3, h4.imp hCD, h5⟩
theorem CdAt.get {w : World} {C : Nat → Prop} {A : Option Addr} {L : List (List Ins)} (h : CdAt w C A L) : ∀ (k : Nat) (q : List Ins), L[k]? = some q → ∃ g o A' c', A = some ⟨g, o, none⟩ ∧ C g ∧ g < w.heap.size ∧ RdC w C 4 A' q.length (q.flatMap encI) ∧ q.length ≤ c' ∧ c' ≤ maxLen ∧ ∀ u : World, u.heap[g]? = w.heap[g]? → u.cell? ⟨g, o + k, none⟩ = some (.slice A' q.length c') := fun k q hq => by
  obtain ⟨vs, h1, h2⟩ := h
  have hk := (List.getElem?_eq_some_iff.1 hq).1
  obtain ⟨g, o, hA, hg, hlt, hc⟩ := h1.2 (by omega)
  obtain ⟨A', c', h3, h4, h5, h6⟩ := h2 k q hq
  exact ⟨g, o, A', c', hA, hg, hlt, h4, h5, h6, fun u hu => by rw [World.cell?_of_block hu, hc k (by omega), h3]⟩
open Go.ChangeShapes Go.WideShapes Go.ChangeAt
set_option maxRecDepth 100000 in
theorem ins_read {H : Type} {enc : TypeId × Value → H} {w : World} {base : Nat} {spare : Nat → Bool} {held : Bool} (fuel : Nat) (cs : List Value) (y : DataW H × List MemPlace) (_ : cs.length = 4)
    (h : DataW.trod enc Tryz.prog w base spare held fuel 98 cs = some y) : ∃ i : Ins, cs = encI i ∧ True := by
  obtain ⟨hl, fuel', hf⟩ := tr_struct Tryz.underlying98 h
  have hl4 : cs.length = 4 := hl.trans (by kernel_rfl)
  match cs, hl4 with
  | [a, b, c, d], _ =>
    simp only [List.mem_cons, List.not_mem_nil, or_false, forall_eq_or_imp, forall_eq] at hf
    rw [show Tryz.prog.cellsOf 3 = 1 by kernel_rfl, show Tryz.prog.cellsOf 2 = 1 by kernel_rfl] at hf
    obtain ⟨⟨_, h1⟩, ⟨_, h2⟩, ⟨_, h3⟩, ⟨_, h4⟩⟩ := hf
    obtain ⟨t, e1, w1⟩ := tr_int Tryz.underlying3 h1
    obtain ⟨k, e2, w2⟩ := tr_int Tryz.underlying3 h2
    obtain ⟨o, e3, w3⟩ := tr_int Tryz.underlying3 h3
    obtain ⟨f, e4, w4⟩ := tr_int Tryz.underlying2 h4
    simp at e1 e2 e3 e4
    subst e1 e2 e3 e4
    exact ⟨⟨t, k, o, f⟩, rfl, trivial⟩
set_option maxRecDepth 100000 in
/-- a row of instructions -/
theorem irow_read {H : Type} {enc : TypeId × Value → H} {w : World} {base : Nat} {spare : Nat → Bool} {held : Bool} {fuel : Nat} {A : Option Addr} {n cap : Nat} {y : DataW H × List MemPlace}
    (h : DataW.trod enc Tryz.prog w base spare held fuel 67 [.slice A n cap] = some y) : ∃ l : List Ins, l.length = n ∧ Rd w 4 A n (l.flatMap encI) ∧ n ≤ cap ∧ cap ≤ maxLen := by
  obtain ⟨l, hl, _, hr, h1, h2⟩ := tr_list (f := encI) (sz := 4) (by omega) Tryz.underlying67 (by kernel_rfl) ins_read h
  exact ⟨l, hl, hr, h1, h2⟩
structure SlI where
  A : Option Addr
  cap : Nat
  l : List Ins
def encSI (x : SlI) : List Value := [.slice x.A x.l.length x.cap]
set_option maxRecDepth 100000 in
/-- the code of all threads -/
theorem code_read {H : Type} {enc : TypeId × Value → H} {w : World} {base : Nat} {spare : Nat → Bool} {held : Bool} {fuel : Nat} {A : Option Addr} {n cap : Nat} {y : DataW H × List MemPlace}
    (h : DataW.trod enc Tryz.prog w base spare held fuel 22 [.slice A n cap] = some y) : ∃ L : List (List Ins), L.length = n ∧ CdAt w (fun k => k < w.heap.size) A L ∧ n ≤ cap ∧ cap ≤ maxLen ∧ ∀ q ∈ L, q.length ≤ maxLen := by
  obtain ⟨xs, hl, hg, hr, h1, h2⟩ := tr_list (f := encSI) (sz := 1) (good := fun x => Rd w 4 x.A x.l.length (x.l.flatMap encI) ∧ x.l.length ≤ x.cap ∧ x.cap ≤ maxLen) (by omega) Tryz.underlying22 (by kernel_rfl) (fun fuel c y hc h => by
    obtain ⟨A, n, cap, rfl⟩ := tr_slice0 Tryz.underlying67 h
    obtain ⟨l, rfl, hr, hm⟩ := irow_read h
    exact ⟨⟨A, cap, l⟩, rfl, hr, hm⟩) h
  subst hl
  have hlen : (xs.map SlI.l).length = xs.length := by simp
  have hat : ∀ i, (hi : i < xs.length) → (xs.flatMap encSI)[i]? = some (.slice xs[i].A xs[i].l.length xs[i].cap) := fun i hi => by
    have := flat_get (f := encSI) (sz := 1) (fun x => rfl) xs i 0 hi (by omega)
    rw [Nat.mul_one, Nat.add_zero] at this
    rw [this]; rfl
  refine ⟨xs.map SlI.l, hlen, ⟨xs.flatMap encSI, hlen ▸ hr.toB.toC (Nat.le_refl _), fun i q hi => ?_⟩, h1, h2, fun q hq => ?_⟩
  · rw [List.getElem?_map] at hi
    obtain ⟨x, hx, rfl⟩ := Option.map_eq_some_iff.1 hi
    obtain ⟨hi', rfl⟩ := List.getElem?_eq_some_iff.1 hx
    have g := hg _ (List.getElem_mem hi')
    exact ⟨xs[i].A, xs[i].cap, hat i hi', g.1.toB.toC (Nat.le_refl _), g.2⟩
  · obtain ⟨x, hx, rfl⟩ := List.mem_map.1 hq
    have g := hg x hx
    exact Nat.le_trans g.2.1 g.2.2
set_option maxRecDepth 100000 in
/-- a program -/
theorem prog_read {H : Type} {enc : TypeId × Value → H} {w : World} {base : Nat} {spare : Nat → Bool} {held : Bool} (fuel : Nat) (cs : List Value) (y : DataW H × List MemPlace)
    (h : DataW.trod enc Tryz.prog w base spare held fuel 24 cs = some y) : ∃ (p : Pg) (A : Option Addr) (cap : Nat), cs = [.int .i64 p.vars, .int .i64 p.mtx, .slice A p.code.length cap] ∧ CdAt w (fun k => k < w.heap.size) A p.code ∧ p.code.length ≤ cap ∧ cap ≤ maxLen ∧ (∀ q ∈ p.code, q.length ≤ maxLen) ∧
      (-9223372036854775808 ≤ p.vars ∧ p.vars ≤ 9223372036854775807) ∧ (-9223372036854775808 ≤ p.mtx ∧ p.mtx ≤ 9223372036854775807) := by
  obtain ⟨hl, fuel', hf⟩ := tr_struct Tryz.underlying24 h
  have hl4 : cs.length = 3 := hl.trans (by kernel_rfl)
  match cs, hl4 with
  | [a, b, c], _ =>
    simp only [List.mem_cons, List.not_mem_nil, or_false, forall_eq_or_imp, forall_eq] at hf
    rw [show Tryz.prog.cellsOf 3 = 1 by kernel_rfl, show Tryz.prog.cellsOf 22 = 1 by kernel_rfl] at hf
    obtain ⟨⟨_, h1⟩, ⟨_, h2⟩, ⟨_, h3⟩⟩ := hf
    obtain ⟨v, e1, w1⟩ := tr_int Tryz.underlying3 h1
    obtain ⟨m, e2, w2⟩ := tr_int Tryz.underlying3 h2
    simp at e1 e2 h3
    obtain ⟨A, n, cap, e3⟩ := tr_slice0 Tryz.underlying22 h3
    simp at e3
    subst e1 e2 e3
    obtain ⟨L, rfl, hc, h5, h6, h7⟩ := code_read h3
    exact ⟨⟨v, m, L⟩, A, cap, rfl, hc, h5, h6, h7, i64_bounds w1, i64_bounds w2⟩
end Go.Proofs.YtckdofjpoajblaaGreat
namespace Go.Proofs.YtckdofjpoajblaaGreat
open Go.RowKit
set_option linter.unusedVariables false
theorem within_any (w : World) (a lo hi : Int) : Calls Tryz.prog 106 #[.int .i64 a, .int .i64 lo, .int .i64 hi] w fun x w' => x = .returned (.bool (decide (lo ≤ a ∧ a ≤ hi))) ∧ w = w' := by
  by_cases h1 : lo ≤ a
  · by_cases h2 : a ≤ hi
    · go_enter Tryz.func106, Tryz.ntmps106
      go_wp2_with fail
      go_ret
      exact ⟨by rw [decide_eq_true ⟨h1, h2⟩]; rfl, rfl⟩
    · go_enter Tryz.func106, Tryz.ntmps106
      go_wp2_with fail
      go_ret
      exact ⟨by rw [decide_eq_false (show ¬ a ≤ hi by omega)]; rfl, rfl⟩
  · go_enter Tryz.func106, Tryz.ntmps106
    go_wp2_with fail
    go_ret
    exact ⟨by rw [decide_eq_false (show ¬ lo ≤ a by omega)]; rfl, rfl⟩
theorem ins_box (w : World) (i : Ins) : ∃ W X, W = w.alloc (Obj.cells #[.int .i64 i.k, .int .i64 i.r, .int .i64 i.x, .int .i64 i.n] 98) ∧ X = w.heap.size ∧ Below w.heap.size w W ∧ X < W.heap.size ∧ ∀ u, Below W.heap.size W u → InAt u X 0 i ∧ X < u.heap.size := by
  refine ⟨_, _, rfl, rfl, (Below.refl _ _).alloc (Nat.le_refl _) _, by simp, fun u hu => ?_⟩
  have h1 := heap_alloc_new w (Obj.cells #[.int .i64 i.k, .int .i64 i.r, .int .i64 i.x, .int .i64 i.n] 98)
  have g1 := (hu.block _ (blk_lt h1)).trans h1
  exact ⟨⟨by rw [cell_blk g1]; rfl, by rw [cell_blk g1]; rfl, by rw [cell_blk g1]; rfl, by rw [cell_blk g1]; rfl⟩, blk_lt g1⟩
theorem insOk_iff {vars mtx n k r x m up reg : Int} {num : Bool} (hk1 : 1 ≤ k) (hk8 : k ≤ 8) (hnum : num = true ↔ (k = 3 ∨ k = 4)) (hreg : reg = (if k = 5 ∨ k = 6 then 0 else 1)) (hup : up = (if k = 1 ∨ k = 2 then vars else if k = 5 ∨ k = 6 then mtx else if k = 7 then n + 1 else 1)) :
    Pr.InsOk vars mtx n ⟨k, r, x, m⟩ ↔ (num = true ∨ m = 0) ∧ -128 ≤ m ∧ m ≤ 127 ∧ (0 ≤ x ∧ x ≤ up - 1) ∧ (0 ≤ r ∧ r ≤ reg) := by
  subst hreg hup
  rw [hnum]
  unfold Pr.InsOk
  rcases (show k = 1 ∨ k = 2 ∨ k = 3 ∨ k = 4 ∨ k = 5 ∨ k = 6 ∨ k = 7 ∨ k = 8 by omega) with rfl | rfl | rfl | rfl | rfl | rfl | rfl | rfl <;> simp <;> omega
set_option maxRecDepth 100000 in
set_option maxHeartbeats 4000000 in
theorem instrOk_any (w : World) (X : Nat) (vars mtx n : Int) (i : Ins) (c0 : w.cell? ⟨X, 0, none⟩ = some (.int .i64 vars)) (c1 : w.cell? ⟨X, 1, none⟩ = some (.int .i64 mtx)) (hX : X < w.heap.size) (hv : 0 ≤ vars ∧ vars ≤ 4) (hm : 0 ≤ mtx ∧ mtx ≤ 2) (hn : 0 ≤ n ∧ n ≤ 8) :
    Calls Tryz.prog 108 #[.pointer (some ⟨X, 0, none⟩), .int .i64 n, valI i] w fun x w' => x = .returned (.bool (decide (Pr.InsOk vars mtx n i))) ∧ Below w.heap.size w w' := by
  obtain ⟨W, Z, hW, hZ, hB, hZl, hZe⟩ := ins_box w i
  obtain ⟨⟨z0, z1, z2, z3⟩, zl⟩ := hZe W (Below.refl _ _)
  have x0 : W.cell? ⟨X, 0, none⟩ = some (.int .i64 vars) := (World.cell?_of_block (hB.block X hX)).trans c0
  have x1 : W.cell? ⟨X, 1, none⟩ = some (.int .i64 mtx) := (World.cell?_of_block (hB.block X hX)).trans c1
  have xl : X < W.heap.size := by have := hB.size; omega
  simp only [Nat.zero_add] at z1 z2 z3
  unfold valI
  have HB := Lib.hid hB
  have HW := Lib.hid hW
  have HZ := Lib.hid hZ
  obtain ⟨k, r, x, m⟩ := i
  simp only at HW z0 z1 z2 z3
  clear hB hW hZ hZe c0 c1 hX
  go_enter Tryz.func108, Tryz.ntmps108
  go_upto_region 2 with fail
  rw [← HW.out, ← HZ.out]
  go_upto_block 0 with fail
  go_cut [7, 8, 9] (fun a b c w2 => w2 = W ∧ 1 ≤ k ∧ k ≤ 8 ∧ ∃ (up reg : Int) (num : Bool), a = .int .i64 up ∧ b = .int .i64 reg ∧ c = .bool num ∧ (num = true ↔ (k = 3 ∨ k = 4)) ∧ 0 ≤ up ∧ up ≤ 9 ∧ reg = (if k = 5 ∨ k = 6 then 0 else 1) ∧ up = (if k = 1 ∨ k = 2 then vars else if k = 5 ∨ k = 6 then mtx else if k = 7 then n + 1 else 1))
  case first =>
    rcases (show k = 1 ∨ k = 2 ∨ k = 3 ∨ k = 4 ∨ k = 5 ∨ k = 6 ∨ k = 7 ∨ k = 8 ∨ (k ≠ 1 ∧ k ≠ 2 ∧ k ≠ 3 ∧ k ≠ 4 ∧ k ≠ 5 ∧ k ≠ 6 ∧ k ≠ 7 ∧ k ≠ 8) from by omega) with rfl | rfl | rfl | rfl | rfl | rfl | rfl | rfl | ⟨h1, h2, h3, h4, h5, h6, h7, h8⟩
    · go_wp2_with fail
      go_meet
      exact ⟨rfl, by omega, by omega, _, _, _, rfl, rfl, rfl, by simp, by omega, by omega, rfl, rfl⟩
    · go_wp2_with fail
      go_meet
      exact ⟨rfl, by omega, by omega, _, _, _, rfl, rfl, rfl, by simp, by omega, by omega, rfl, rfl⟩
    · go_wp2_with fail
      go_meet
      exact ⟨rfl, by omega, by omega, _, _, _, rfl, rfl, rfl, by simp, by omega, by omega, rfl, rfl⟩
    · go_wp2_with fail
      go_meet
      exact ⟨rfl, by omega, by omega, _, _, _, rfl, rfl, rfl, by simp, by omega, by omega, rfl, rfl⟩
    · go_wp2_with fail
      go_meet
      exact ⟨rfl, by omega, by omega, _, _, _, rfl, rfl, rfl, by simp, by omega, by omega, rfl, rfl⟩
    · go_wp2_with fail
      go_meet
      exact ⟨rfl, by omega, by omega, _, _, _, rfl, rfl, rfl, by simp, by omega, by omega, rfl, rfl⟩
    · go_wp2_with fail
      go_meet
      exact ⟨rfl, by omega, by omega, n + 1, _, _, by go_num, rfl, rfl, by simp, by omega, by omega, rfl, rfl⟩
    · go_wp2_with fail
      go_meet
      exact ⟨rfl, by omega, by omega, _, _, _, rfl, rfl, rfl, by simp, by omega, by omega, rfl, rfl⟩
    · go_wp2_with fail
      go_ret
      exact ⟨by rw [decide_eq_false (by unfold Pr.InsOk; simp only; omega)]; rfl, HB.out⟩
  case rest =>
    obtain ⟨hwc, hk1, hk8, up, reg, num, rfl, rfl, rfl, hnum, hu0, hu9, hreg, hup⟩ := hcut
    subst hwc
    have HNUM := Lib.hid hnum
    have HUP := Lib.hid hup
    have HREG := Lib.hid hreg
    clear hnum hup hreg
    have hw : IntKind.i64.wrap (up - 1) = up - 1 := IntWalk.i64_in _ (by omega)
    cases num with
    | false =>
      by_cases h0 : m = 0
      · subst h0
        go_wp2_with fail
        refine (within_any _ x 0 (up - 1)).mono ?_
        rintro y w1 ⟨rfl, rfl⟩
        obtain ⟨b, hb⟩ : ∃ b, b = decide (0 ≤ x ∧ x ≤ up - 1) := ⟨_, rfl⟩
        rw [← hb]
        have HBB := Lib.hid hb
        clear hb
        cases b with
        | false =>
          go_wp2_with fail
          go_ret
          exact ⟨by rw [decide_eq_false (fun h => of_decide_eq_false HBB.out.symm ((insOk_iff hk1 hk8 (num := false) (by simpa using HNUM.out) HREG.out HUP.out).1 h).2.2.2.1)]; rfl, HB.out⟩
        | true =>
          go_wp2_with fail
          refine (within_any _ r 0 reg).mono ?_
          rintro y w1 ⟨rfl, rfl⟩
          obtain ⟨b, hb⟩ : ∃ b, b = decide (0 ≤ r ∧ r ≤ reg) := ⟨_, rfl⟩
          rw [← hb]
          have HBC := Lib.hid hb
          clear hb
          go_wp2_with fail
          go_ret
          refine ⟨?_, HB.out⟩
          rw [show decide (Pr.InsOk vars mtx n ⟨k, r, x, 0⟩) = b by
            rw [HBC.out]
            exact decide_eq_decide.2 ((insOk_iff hk1 hk8 (num := false) (by simpa using HNUM.out) HREG.out HUP.out).trans ⟨fun h => h.2.2.2.2, fun h => ⟨.inr rfl, by omega, by omega, of_decide_eq_true HBB.out.symm, h⟩⟩)]
          rfl
      · go_wp2_with fail
        go_ret
        exact ⟨by rw [decide_eq_false (fun h => by rcases ((insOk_iff hk1 hk8 (num := false) (by simpa using HNUM.out) HREG.out HUP.out).1 h).1 with h3 | h3; (· cases h3); exact h0 h3)]; rfl, HB.out⟩
    | true =>
      by_cases h1 : m < -128
      · go_wp2_with fail
        go_ret
        exact ⟨by rw [decide_eq_false (fun h => by have := ((insOk_iff hk1 hk8 (num := true) (by simpa using HNUM.out) HREG.out HUP.out).1 h).2.1; omega)]; rfl, HB.out⟩
      · by_cases h2 : 127 < m
        · go_wp2_with fail
          go_ret
          exact ⟨by rw [decide_eq_false (fun h => by have := ((insOk_iff hk1 hk8 (num := true) (by simpa using HNUM.out) HREG.out HUP.out).1 h).2.2.1; omega)]; rfl, HB.out⟩
        · go_wp2_with fail
          refine (within_any _ x 0 (up - 1)).mono ?_
          rintro y w1 ⟨rfl, rfl⟩
          obtain ⟨b, hb⟩ : ∃ b, b = decide (0 ≤ x ∧ x ≤ up - 1) := ⟨_, rfl⟩
          rw [← hb]
          have HBB := Lib.hid hb
          clear hb
          cases b with
          | false =>
            go_wp2_with fail
            go_ret
            exact ⟨by rw [decide_eq_false (fun h => of_decide_eq_false HBB.out.symm ((insOk_iff hk1 hk8 (num := true) (by simpa using HNUM.out) HREG.out HUP.out).1 h).2.2.2.1)]; rfl, HB.out⟩
          | true =>
            go_wp2_with fail
            refine (within_any _ r 0 reg).mono ?_
            rintro y w1 ⟨rfl, rfl⟩
            obtain ⟨b, hb⟩ : ∃ b, b = decide (0 ≤ r ∧ r ≤ reg) := ⟨_, rfl⟩
            rw [← hb]
            have HBC := Lib.hid hb
            clear hb
            go_wp2_with fail
            go_ret
            refine ⟨?_, HB.out⟩
            rw [show decide (Pr.InsOk vars mtx n ⟨k, r, x, m⟩) = b by
              rw [HBC.out]
              exact decide_eq_decide.2 ((insOk_iff hk1 hk8 (num := true) (by simpa using HNUM.out) HREG.out HUP.out).trans ⟨fun h => h.2.2.2.2, fun h => ⟨.inl rfl, by omega, by omega, of_decide_eq_true HBB.out.symm, h⟩⟩)]
            rfl
end Go.Proofs.YtckdofjpoajblaaGreat
namespace Go.Proofs.YtckdofjpoajblaaGreat
open Go.RowKit
set_option linter.unusedVariables false
theorem ins_cell {w : World} {B : Nat} {A : Option Addr} {l : List Ins} (h : RdB w B 4 A l.length (l.flatMap encI)) : ∀ k, (hk : k < l.length) → ∃ g o, A = some ⟨g, o, none⟩ ∧ g < B ∧ ∀ u, Below B w u → InAt u g (o + k * 4) l[k] := fun k hk => by
  obtain ⟨g, o, hA, hg, hc⟩ := h.2 (by omega)
  refine ⟨g, o, hA, hg, fun u hu => ?_⟩
  have hcl : ∀ r, r < 4 → u.cell? ⟨g, o + k * 4 + r, none⟩ = (encI l[k])[r]? := fun r hr => by
    rw [Nat.add_assoc, World.cell?_of_block (hu.block g hg), hc (k * 4 + r) (by omega), flat_get (f := encI) (sz := 4) encI_len l k r hk hr]
  have v0 := hcl 0 (by omega)
  have v1 := hcl 1 (by omega)
  have v2 := hcl 2 (by omega)
  have v3 := hcl 3 (by omega)
  simp only [encI, List.getElem?_cons_succ, List.getElem?_cons_zero, Nat.add_zero] at v0 v1 v2 v3
  exact ⟨v0, v1, v2, v3⟩
theorem any_takeI {l : List Ins} {p : Ins → Bool} {k : Nat} (hk : k < l.length) : (l.take (k + 1)).any p = ((l.take k).any p || p l[k]) := by
  rw [List.take_add_one, List.getElem?_eq_getElem hk, List.any_append]
  simp
theorem indexFunc_pright1 (w : World) (X Y : Nat) (A : Option Addr) (cap : Nat) (l : List Ins) (hr : Rd w 4 A l.length (l.flatMap encI)) (hl : l.length < 4611686018427387904) (p : Ins → Bool)
    (hf : ∀ u e, Below w.heap.size w u → Calls Tryz.prog 107 #[valI e, .pointer (some ⟨X, 0, none⟩), .pointer (some ⟨Y, 0, none⟩)] u fun x w' => x = .returned (.bool (p e)) ∧ Below u.heap.size u w') :
    Calls Tryz.prog 162 #[.slice A l.length cap, .func (.func 107) #[] #[.pointer (some ⟨X, 0, none⟩), .pointer (some ⟨Y, 0, none⟩)]] w fun x w' => ∃ n : Int, x = .returned (.int .i64 n) ∧ ((0 ≤ n) ↔ l.any p = true) ∧ Below w.heap.size w w' := by
  have HC := Lib.hid (ins_cell hr.toB)
  have HF := Lib.hid hf
  clear hr hf
  go_enter Tryz.func162, Tryz.ntmps162
  go_wp2_with fail
  go_loopw [8] (fun v wr => ∃ k : Nat, k ≤ l.length ∧ v = .int .i64 k ∧ Hid ((l.take k).any p = false) ∧ Below w.heap.size w wr) (fun v _ => l.length - (intOf v).toNat)
  case atStart => exact ⟨0, Nat.zero_le _, rfl, Lib.hid rfl, Below.refl _ _⟩
  case round =>
    obtain ⟨k, hk, rfl, HRT, hb⟩ := hrel
    by_cases hlt : k < l.length
    · obtain ⟨g, o, rfl, hg, hcl⟩ := HC.out k hlt
      obtain ⟨v0, v1, v2, v3⟩ := hcl wr hb
      have k1 : (0 : Int) ≤ (k : Int) := Int.natCast_nonneg _
      have k2 : (k : Int) < (l.length : Int) := by omega
      have hcall := HF.out wr l[k] hb
      have htk := any_takeI (p := p) hlt
      obtain ⟨b, hbb⟩ : ∃ b, b = p l[k] := ⟨_, rfl⟩
      have hin : b = true → l.any p = true := fun h => List.any_eq_true.2 ⟨l[k], List.getElem_mem hlt, by rw [← hbb, h]⟩
      rw [← hbb] at hcall htk
      unfold valI at hcall
      have HCALL := Lib.hid hcall
      have HTK := Lib.hid htk
      have HIN := Lib.hid hin
      have HB := Lib.hid hb
      clear hcall htk hin hcl hbb hb
      go_wp2_with fail
      refine HCALL.out.mono ?_
      rintro x w1 ⟨rfl, b1⟩
      have hb2 : Below w.heap.size w w1 := HB.out.trans ⟨b1.os, b1.tape, b1.output, b1.size, fun i hi => b1.block i (by have := HB.out.size; omega)⟩
      have HB2 := Lib.hid hb2
      clear b1 hb2
      cases b with
      | true =>
        go_wp2_with fail
        go_ret
        exact ⟨k, rfl, ⟨fun _ => HIN.out (by trivial), fun _ => k1⟩, HB2.out⟩
      | false =>
        go_wp2_with fail
        go_roundw
        case rel => exact ⟨k + 1, by omega, by go_num, Lib.hid (by rw [HTK.out, HRT.out]; rfl), HB2.out⟩
        case measure => simp [intOf]; omega
    · have hkn : k = l.length := by omega
      have HK := Lib.hid hkn
      have HB := Lib.hid hb
      clear hkn hb
      go_wp2_with fail
      go_ret
      have := HRT.out
      rw [HK.out, List.take_length] at this
      exact ⟨-1, rfl, ⟨fun h => by omega, fun h => by rw [this] at h; cases h⟩, HB.out⟩
theorem containsFunc_pright1 (w : World) (X Y : Nat) (A : Option Addr) (cap : Nat) (l : List Ins) (hr : Rd w 4 A l.length (l.flatMap encI)) (hl : l.length < 4611686018427387904) (p : Ins → Bool)
    (hf : ∀ u e, Below w.heap.size w u → Calls Tryz.prog 107 #[valI e, .pointer (some ⟨X, 0, none⟩), .pointer (some ⟨Y, 0, none⟩)] u fun x w' => x = .returned (.bool (p e)) ∧ Below u.heap.size u w') :
    Calls Tryz.prog 109 #[.slice A l.length cap, .func (.func 107) #[] #[.pointer (some ⟨X, 0, none⟩), .pointer (some ⟨Y, 0, none⟩)]] w fun x w' => x = .returned (.bool (l.any p)) ∧ Below w.heap.size w w' := by
  have H := Lib.hid (indexFunc_pright1 w X Y A cap l hr hl p hf)
  clear hr hf
  go_enter Tryz.func109, Tryz.ntmps109
  go_wp2_with fail
  refine H.out.mono ?_
  rintro x w1 ⟨n, rfl, hn, b1⟩
  have HN := Lib.hid hn
  have HB := Lib.hid b1
  clear hn b1
  go_wp2_with fail
  go_ret
  refine ⟨?_, HB.out⟩
  have : decide (0 ≤ n) = l.any p := by
    rw [Bool.eq_iff_iff, decide_eq_true_iff]; exact HN.out
  rw [← this]
  rfl
theorem pright1_any (w : World) (X Y : Nat) (vars mtx : Int) (A : Option Addr) (n cap : Nat) (i : Ins) (c0 : w.cell? ⟨X, 0, none⟩ = some (.int .i64 vars)) (c1 : w.cell? ⟨X, 1, none⟩ = some (.int .i64 mtx)) (hX : X < w.heap.size)
    (y0 : w.cell? ⟨Y, 0, none⟩ = some (.slice A n cap)) (hY : Y < w.heap.size) (hv : 0 ≤ vars ∧ vars ≤ 4) (hm : 0 ≤ mtx ∧ mtx ≤ 2) (hn : n ≤ 8) :
    Calls Tryz.prog 107 #[valI i, .pointer (some ⟨X, 0, none⟩), .pointer (some ⟨Y, 0, none⟩)] w fun x w' => x = .returned (.bool (!decide (Pr.InsOk vars mtx n i))) ∧ Below w.heap.size w w' := by
  obtain ⟨W, Z, hW, hZ, hB, hZl, hZe⟩ := ins_box w i
  have hb := hB
  have hcall := instrOk_any W X vars mtx (n : Int) i ((World.cell?_of_block (hB.block X hX)).trans c0) ((World.cell?_of_block (hB.block X hX)).trans c1) (by have := hB.size; omega) hv hm (by omega)
  obtain ⟨b, hbb⟩ : ∃ b, b = decide (Pr.InsOk vars mtx n i) := ⟨_, rfl⟩
  rw [← hbb] at hcall ⊢
  obtain ⟨⟨z0, z1, z2, z3⟩, zl⟩ := hZe W (Below.refl _ _)
  simp only [Nat.zero_add] at z1 z2 z3
  have y0' : W.cell? ⟨Y, 0, none⟩ = some (.slice A n cap) := (World.cell?_of_block (hB.block Y hY)).trans y0
  have yl : Y < W.heap.size := by have := hB.size; omega
  unfold valI at hcall ⊢
  have HCALL := Lib.hid hcall
  have HB := Lib.hid hB
  have HZ := Lib.hid hZ
  clear hcall hB hbb hb hZ hZe c0 c1 y0
  go_enter Tryz.func107, Tryz.ntmps107
  go_upto_region 1 with fail
  rw [← hW, ← HZ.out]
  clear hW
  go_wp2_with fail
  refine HCALL.out.mono ?_
  rintro x w1 ⟨rfl, b1⟩
  have hb2 : Below w.heap.size w w1 := below2 HB.out b1
  go_wp2_with fail
  go_ret
  exact ⟨rfl, hb2⟩
theorem pg_box (w : World) (v m : Int) (A : Option Addr) (n cap : Nat) : ∃ W X, W = w.alloc (Obj.cells #[.int .i64 v, .int .i64 m, .slice A n cap] 24) ∧ X = w.heap.size ∧ Below w.heap.size w W ∧ X < W.heap.size ∧ ∀ u, Below W.heap.size W u → u.cell? ⟨X, 0, none⟩ = some (.int .i64 v) ∧ u.cell? ⟨X, 1, none⟩ = some (.int .i64 m) ∧ u.cell? ⟨X, 2, none⟩ = some (.slice A n cap) ∧ X < u.heap.size := by
  refine ⟨_, _, rfl, rfl, (Below.refl _ _).alloc (Nat.le_refl _) _, by simp, fun u hu => ?_⟩
  have h1 := heap_alloc_new w (Obj.cells #[.int .i64 v, .int .i64 m, .slice A n cap] 24)
  have g1 := (hu.block _ (blk_lt h1)).trans h1
  exact ⟨by rw [cell_blk g1]; rfl, by rw [cell_blk g1]; rfl, by rw [cell_blk g1]; rfl, blk_lt g1⟩
theorem sl_box (w : World) (T : TypeId) (A : Option Addr) (n cap : Nat) : ∃ W X, W = w.alloc (Obj.cells #[.slice A n cap] T) ∧ X = w.heap.size ∧ Below w.heap.size w W ∧ X < W.heap.size ∧ ∀ u, Below W.heap.size W u → u.cell? ⟨X, 0, none⟩ = some (.slice A n cap) ∧ X < u.heap.size := by
  refine ⟨_, _, rfl, rfl, (Below.refl _ _).alloc (Nat.le_refl _) _, by simp, fun u hu => ?_⟩
  have h1 := heap_alloc_new w (Obj.cells #[.slice A n cap] T)
  have g1 := (hu.block _ (blk_lt h1)).trans h1
  exact ⟨by rw [cell_blk g1]; rfl, blk_lt g1⟩
def valP (p : Pg) (A : Option Addr) (cap : Nat) : Value := .agg #[.int .i64 p.vars, .int .i64 p.mtx, .slice A p.code.length cap]
theorem not_any {vars mtx : Int} {q : List Ins} : (q.any fun i => !decide (Pr.InsOk vars mtx q.length i)) = !decide (∀ i ∈ q, Pr.InsOk vars mtx q.length i) := by
  rw [Bool.eq_iff_iff]
  simp
theorem code_take {vars mtx : Int} {L : List (List Ins)} {k : Nat} {q : List Ins} (hq : L[k]? = some q) (h : ∀ c ∈ L.take k, Pr.CodeOk vars mtx c) (hc : Pr.CodeOk vars mtx q) : ∀ c ∈ L.take (k + 1), Pr.CodeOk vars mtx c := fun c hm => by
  rw [List.take_add_one, hq] at hm
  rcases List.mem_append.1 hm with h1 | h1
  · exact h c h1
  · simp at h1; subst h1; exact hc
set_option maxRecDepth 100000 in
set_option maxHeartbeats 4000000 in
theorem pright_any (w : World) (p : Pg) (A : Option Addr) (cap : Nat) (hcd : CdAt w (fun k => k < w.heap.size) A p.code) (hl : p.code.length ≤ maxLen) (hq : ∀ q ∈ p.code, q.length ≤ maxLen) :
    Calls Tryz.prog 66 #[valP p A cap] w fun x w' => x = .returned (.bool (decide (Pr.Ok p))) ∧ Below w.heap.size w w' := by
  obtain ⟨v, m, L⟩ := p
  unfold valP
  simp only at hcd hl hq ⊢
  have hll : L.length < 9223372036854775808 := by unfold maxLen at hl; omega
  obtain ⟨W, X, hW, hX, hB, hXl, hXe⟩ := pg_box w v m A L.length cap
  have HX := Lib.hid hXe
  obtain ⟨x0, x1, x2, xl⟩ := hXe W (Below.refl _ _)
  have HB := Lib.hid hB
  have HCD := Lib.hid hcd
  have HLQ := Lib.hid hq
  obtain ⟨b1, hb1⟩ : ∃ b, b = decide (0 ≤ v ∧ v ≤ 4) := ⟨_, rfl⟩
  obtain ⟨b2, hb2⟩ : ∃ b, b = decide (0 ≤ m ∧ m ≤ 2) := ⟨_, rfl⟩
  obtain ⟨b3, hb3⟩ : ∃ b, b = decide (1 ≤ (L.length : Int) ∧ (L.length : Int) ≤ 4) := ⟨_, rfl⟩
  have hc1 : ∀ u, Calls Tryz.prog 106 #[.int .i64 v, .int .i64 0, .int .i64 4] u fun x w' => x = .returned (.bool b1) ∧ u = w' := fun u => by rw [hb1]; exact within_any u v 0 4
  have hc2 : ∀ u, Calls Tryz.prog 106 #[.int .i64 m, .int .i64 0, .int .i64 2] u fun x w' => x = .returned (.bool b2) ∧ u = w' := fun u => by rw [hb2]; exact within_any u m 0 2
  have hc3 : ∀ u, Calls Tryz.prog 106 #[.int .i64 (L.length : Int), .int .i64 1, .int .i64 4] u fun x w' => x = .returned (.bool b3) ∧ u = w' := fun u => by rw [hb3]; exact within_any u (L.length : Int) 1 4
  have HC1 := Lib.hid hc1
  have HC2 := Lib.hid hc2
  have HC3 := Lib.hid hc3
  have HB1 := Lib.hid hb1
  have HB2 := Lib.hid hb2
  have HB3 := Lib.hid hb3
  clear hc1 hc2 hc3 hb1 hb2 hb3 hB hXe hcd hq hl
  go_enter Tryz.func66, Tryz.ntmps66
  go_upto_region 1 with fail
  rw [← hW, ← hX]
  clear hW hX
  go_wp2_with fail
  refine (HC1.out _).mono ?_
  rintro x w1 ⟨rfl, rfl⟩
  cases b1 with
  | false =>
    go_wp2_with fail
    go_ret
    exact ⟨by rw [decide_eq_false (fun h => of_decide_eq_false HB1.out.symm ⟨h.1.1, h.1.2.1⟩)]; rfl, HB.out⟩
  | true =>
    have q1 := of_decide_eq_true HB1.out.symm
    go_wp2_with fail
    refine (HC2.out _).mono ?_
    rintro x w1 ⟨rfl, rfl⟩
    cases b2 with
    | false =>
      go_wp2_with fail
      go_ret
      exact ⟨by rw [decide_eq_false (fun h => of_decide_eq_false HB2.out.symm ⟨h.1.2.2.1, h.1.2.2.2.1⟩)]; rfl, HB.out⟩
    | true =>
      have q2 := of_decide_eq_true HB2.out.symm
      go_wp2_with fail
      refine (HC3.out _).mono ?_
      rintro x w1 ⟨rfl, rfl⟩
      cases b3 with
      | false =>
        go_wp2_with fail
        go_ret
        exact ⟨by rw [decide_eq_false (fun h => of_decide_eq_false HB3.out.symm (by have h1 := h.1.2.2.2.2.1; have h2 := h.1.2.2.2.2.2; simp only at h1 h2; omega))]; rfl, HB.out⟩
      | true =>
        have q3 := of_decide_eq_true HB3.out.symm
        have hhd : Pr.HeadOk ⟨v, m, L⟩ := ⟨q1.1, q1.2, q2.1, q2.2, by simp only; omega, by simp only; omega⟩
        have HHD := Lib.hid hhd
        clear hhd
        go_wp2_with fail
        go_loopw [26] (fun x wr => ∃ k : Nat, k ≤ L.length ∧ x = .int .i64 k ∧ Hid (∀ c ∈ L.take k, Pr.CodeOk v m c) ∧ Hid (Below W.heap.size W wr)) (fun x _ => L.length - (intOf x).toNat)
        case atStart => exact ⟨0, Nat.zero_le _, rfl, Lib.hid (fun c h => by simp at h), Lib.hid (Below.refl _ _)⟩
        case round =>
          clear x0 x1 x2
          obtain ⟨k, hk, rfl, HOK, HW⟩ := hrel
          by_cases hlt : k < L.length
          · obtain ⟨q, hq⟩ := get_some hlt
            obtain ⟨g, o, A', c', rfl, hg, hlg, hrq, hqc, hcm, hcell⟩ := HCD.out.get k q hq
            have ca := hcell wr (((below_at HB.out HW.out).block g hlg))
            have lg : g < wr.heap.size := by have := (below_at HB.out HW.out).size; omega
            have hqm := HLQ.out q (List.mem_of_getElem? hq)
            have hql : q.length < 9223372036854775808 := by unfold maxLen at hqm; omega
            have k1 : (0 : Int) ≤ (k : Int) := Int.natCast_nonneg _
            have k2 : (k : Int) < (L.length : Int) := by omega
            have HRQ := Lib.hid (hrq.below (below_at HB.out HW.out))
            have HQ := Lib.hid hq
            clear hq hcell hrq hqm
            obtain ⟨W2, Y, hW2, hY, hB2, hYl, hYe⟩ := sl_box wr 67 A' q.length c'
            go_upto_region 6 with fail
            rw [← hW2, ← hY]
            have HW2 := Lib.hid (below_at HW.out hB2)
            obtain ⟨y0, yl⟩ := hYe W2 (Below.refl _ _)
            have HY := Lib.hid hYe
            have HRQ := Lib.hid ((HRQ.out.below hB2).rd)
            clear hW2 hY hB2 hYl hYe ca lg
            by_cases h8 : q.length ≤ 8
            · have h8' : ¬ (8 : Int) < (q.length : Int) := by omega
              have hd : decide (8 < q.length) = false := by simp; omega
              have hcall := containsFunc_pright1 W2 X Y A' c' q HRQ.out (by omega) (fun i => !decide (Pr.InsOk v m q.length i)) (fun u e hu => by
                obtain ⟨c0, c1, _, cl⟩ := HX.out u (below_at HW2.out hu)
                obtain ⟨d0, dl⟩ := HY.out u hu
                exact pright1_any u X Y v m A' q.length c' e c0 c1 cl d0 dl q1 q2 h8)
              obtain ⟨b, hb⟩ : ∃ b, b = q.any (fun i => !decide (Pr.InsOk v m q.length i)) := ⟨_, rfl⟩
              rw [← hb] at hcall
              rw [not_any] at hb
              have HCALL := Lib.hid hcall
              have HBB := Lib.hid hb
              clear hcall hb
              go_wp2_with fail
              refine HCALL.out.mono ?_
              rintro x w3 ⟨rfl, b3⟩
              have HW3 := Lib.hid (below_at HW2.out b3)
              clear b3
              cases b with
              | false =>
                go_wp2_with fail
                go_roundw
                case rel =>
                  exact ⟨k + 1, by omega, by go_num, Lib.hid (code_take HQ.out HOK.out ⟨h8, of_decide_eq_true (by have := HBB.out; simpa using this)⟩), HW3.out |> Lib.hid⟩
                case measure => simp [intOf]; omega
              | true =>
                go_wp2_with fail
                go_ret
                exact ⟨by rw [decide_eq_false (fun h => by have h1 := (h.2 q (List.mem_of_getElem? HQ.out)).2; have h2 := HBB.out; simp only [decide_eq_true h1] at h2; cases h2)]; rfl, below_at HB.out HW3.out⟩
            · have h8' : (8 : Int) < (q.length : Int) := by omega
              have hd : decide (8 < q.length) = true := by simp; omega
              go_wp2_with fail
              go_ret
              exact ⟨by rw [decide_eq_false (fun h => h8 (h.2 q (List.mem_of_getElem? HQ.out)).1)]; rfl, below_at HB.out HW2.out⟩
          · have hkn : k = L.length := by omega
            have hok := HOK.out
            rw [hkn, List.take_length] at hok
            have HOK := Lib.hid hok
            clear hok
            go_wp2_with fail
            go_ret
            exact ⟨by rw [decide_eq_true (show Pr.Ok ⟨v, m, L⟩ from ⟨HHD.out, HOK.out⟩)]; rfl, below_at HB.out HW.out⟩
end Go.Proofs.YtckdofjpoajblaaGreat
namespace Go.Proofs.YtckdofjpoajblaaGreat
open Go.RowKit
set_option linter.unusedVariables false
theorem Tryz.infoIns : (Tryz.prog.info? 98).map (fun i => (i.zero, i.size, i.bytes)) = some (some (.agg #[.int .i64 0, .int .i64 0, .int .i64 0, .int .i64 0]), 4, 32) := by kernel_rfl
theorem Tryz.infoCd : (Tryz.prog.info? 67).map (fun i => (i.zero, i.size, i.bytes)) = some (some (.slice none 0 0), 1, 24) := by kernel_rfl
def CloneOut (w : World) (e sz : Nat) (n : Nat) (cs : List Value) (x : Ending) (w' : World) : Prop :=
  ∃ A' cap', x = .returned (.slice A' n cap') ∧ Row w' e sz A' n cap' cs ∧ (∀ a, A' = some a → w.heap.size ≤ a.block) ∧ Below w.heap.size w w'
set_option maxRecDepth 100000 in
theorem cloneI_any (w : World) (A : Option Addr) (n cap : Nat) (cs : List Value) (hr : Rd w 4 A n cs) (hn : n ≤ 1000000) :
    Calls Tryz.prog 111 #[.slice A n cap] w (fun x w' => CloneOut w 98 4 n cs x w') := by
  unfold CloneOut
  obtain ⟨i0, hi0, hz0, hz1, hz2⟩ := info_parts Tryz.infoIns
  have qn : ∀ (w : World) (a : Option Addr) (n c n' c' : Nat), (binOp .eql 67 (.slice a n c) (.slice none n' c')).run Tryz.prog w = .ok (.bool a.isNone) w := fun w a n c n' c' => Lib.run_eql_slice_nil w _ _ a n c n' c' Tryz.underlying67
  cases A with
  | none =>
    have h0 : n = 0 := by
      rcases Nat.eq_zero_or_pos n with h | h
      · exact h
      · obtain ⟨g, o, h1, _⟩ := hr.2 (by omega); cases h1
    subst h0
    have hc : cs = [] := List.eq_nil_of_length_eq_zero (by rw [hr.1])
    subst hc
    clear hr hi0 hz0 hz1 hz2
    go_enter Tryz.func111, Tryz.ntmps111
    go_wp2_with fail
    go_ret
    exact ⟨none, 0, rfl, Row.nil _ _ _, fun a h => (by cases h), Below.refl _ _⟩
  | some a =>
    have hb : Below w.heap.size w (w.alloc (Obj.cells #[] 98)) := (Below.refl _ _).alloc (Nat.le_refl _) _
    have HX := Lib.hid (hr.below hb (Nat.le_refl _))
    have HB := Lib.hid hb
    clear hr hb
    go_enter Tryz.func111, Tryz.ntmps111
    go_wp2_with (at_builtin; refine wpList_append_copy (by rfl) _ _ _ (by rfl) 98 i0 _ 4 32 Tryz.underlying67 hi0 hz0 hz1 hz2 rfl (by omega) ⟨w.heap.size, 0, none⟩ 0 [] (by rfl) (row_empty (heap_alloc_new w _)) (some a) n cap cs (by rfl) HX.out (by unfold maxLen; omega) (by omega) ?_; intro g7 o7 cap7 w2 hown hb2 hg7)
    go_ret
    rw [Nat.zero_add] at hown
    refine ⟨_, cap7, rfl, by simpa using hown, fun a h => ?_, below_at HB.out hb2⟩
    injection h with h
    subst h
    have := HB.out.size
    rcases hg7 with ⟨_, h⟩ | h
    · exact Nat.le_of_eq h.symm
    · simp at h; simp only; omega
set_option maxRecDepth 100000 in
theorem cloneC_any (w : World) (a : Addr) (n cap : Nat) (cs : List Value) (hr : Rd w 1 (some a) n cs) (hn : n ≤ 1000000) :
    Calls Tryz.prog 110 #[.slice (some a) n cap] w (fun x w' => CloneOut w 67 1 n cs x w') := by
  unfold CloneOut
  obtain ⟨i0, hi0, hz0, hz1, hz2⟩ := info_parts Tryz.infoCd
  have qn : ∀ (w : World) (a : Option Addr) (n c n' c' : Nat), (binOp .eql 22 (.slice a n c) (.slice none n' c')).run Tryz.prog w = .ok (.bool a.isNone) w := fun w a n c n' c' => Lib.run_eql_slice_nil w _ _ a n c n' c' Tryz.underlying22
  have hb : Below w.heap.size w (w.alloc (Obj.cells #[] 67)) := (Below.refl _ _).alloc (Nat.le_refl _) _
  have HX := Lib.hid (hr.below hb (Nat.le_refl _))
  have HB := Lib.hid hb
  clear hr hb
  go_enter Tryz.func110, Tryz.ntmps110
  go_wp2_with (at_builtin; refine wpList_append_copy (by rfl) _ _ _ (by rfl) 67 i0 _ 1 24 Tryz.underlying22 hi0 hz0 hz1 hz2 rfl (by omega) ⟨w.heap.size, 0, none⟩ 0 [] (by rfl) (row_empty (heap_alloc_new w _)) (some a) n cap cs (by rfl) HX.out (by unfold maxLen; omega) (by omega) ?_; intro g7 o7 cap7 w2 hown hb2 hg7)
  go_ret
  rw [Nat.zero_add] at hown
  refine ⟨_, cap7, rfl, by simpa using hown, fun a h => ?_, below_at HB.out hb2⟩
  injection h with h
  subst h
  have := HB.out.size
  rcases hg7 with ⟨_, h⟩ | h
  · exact Nat.le_of_eq h.symm
  · simp at h; simp only; omega
theorem pg_exit {w : World} {X : Nat} {a b c : Value} {T : TypeId} (h : w.heap[X]? = some (.cells #[a, b, c] T (0, 0))) (x y z : Value) : ∃ V, V = ((w.setCell ⟨X, 0, none⟩ x).setCell ⟨X, 1, none⟩ y).setCell ⟨X, 2, none⟩ z ∧ V.cell? ⟨X, 0, none⟩ = some x ∧ V.cell? ⟨X, 1, none⟩ = some y ∧ V.cell? ⟨X, 2, none⟩ = some z ∧ Mod (fun k => k = X) w V := by
  have h1 := set_blk h 0 x
  have h2 := set_blk h1 1 y
  have h3 := set_blk h2 2 z
  refine ⟨_, rfl, ?_, ?_, ?_, (((Mod.refl (fun k => k = X) w).setCell (p := ⟨X, 0, none⟩) (fun _ => rfl) _).setCell (p := ⟨X, 1, none⟩) (fun _ => rfl) _).setCell (p := ⟨X, 2, none⟩) (fun _ => rfl) _⟩ <;> (rw [cell_blk h3]; simp)
def CopyRow (w : World) (D C : Nat → Prop) (L : List (List Ins)) (i : Nat) (vs : List Value) : Prop :=
  vs.length = L.length ∧ ∀ (j : Nat) (q : List Ins), L[j]? = some q → ∃ A' c', vs[j]? = some (.slice A' q.length c') ∧ RdC w (if j < i then D else C) 4 A' q.length (q.flatMap encI) ∧ q.length ≤ c' ∧ c' ≤ maxLen
theorem CopyRow.mod {w w' : World} {F D C : Nat → Prop} {L : List (List Ins)} {i : Nat} {vs : List Value} (h : CopyRow w D C L i vs) (hm : Mod F w w') (hD : ∀ k, D k → ¬ F k) (hC : ∀ k, C k → ¬ F k) : CopyRow w' D C L i vs :=
  ⟨h.1, fun j q hq => by
    obtain ⟨A', c', h1, h2, h3⟩ := h.2 j q hq
    exact ⟨A', c', h1, h2.mod hm (by split <;> assumption), h3⟩⟩
theorem CopyRow.below {w w' : World} {D C : Nat → Prop} {L : List (List Ins)} {i : Nat} {vs : List Value} (h : CopyRow w D C L i vs) (hm : Below w.heap.size w w') : CopyRow w' D C L i vs :=
  ⟨h.1, fun j q hq => by
    obtain ⟨A', c', h1, h2, h3⟩ := h.2 j q hq
    exact ⟨A', c', h1, h2.below hm, h3⟩⟩
theorem CopyRow.step {w : World} {D C : Nat → Prop} {L : List (List Ins)} {i : Nat} {vs : List Value} {q : List Ins} {A' : Option Addr} {c' : Nat} (h : CopyRow w D C L i vs) (hq : L[i]? = some q) (hr : RdC w D 4 A' q.length (q.flatMap encI)) (h1 : q.length ≤ c') (h2 : c' ≤ maxLen) : CopyRow w D C L (i + 1) (vs.set i (.slice A' q.length c')) := by
  refine ⟨by rw [List.length_set]; exact h.1, fun j p hp => ?_⟩
  by_cases hj : j = i
  · subst hj
    obtain rfl : q = p := by rw [hq] at hp; injection hp
    refine ⟨A', c', ?_, by rw [if_pos (by omega)]; exact hr, h1, h2⟩
    rw [List.getElem?_set_self (by rw [h.1]; exact (List.getElem?_eq_some_iff.1 hq).1)]
  · obtain ⟨A2, c2, h3, h4, h5⟩ := h.2 j p hp
    refine ⟨A2, c2, by rw [List.getElem?_set_ne (fun e => hj e.symm)]; exact h3, ?_, h5⟩
    by_cases hlt : j < i
    · rw [if_pos hlt] at h4; rw [if_pos (by omega)]; exact h4
    · rw [if_neg hlt] at h4; rw [if_neg (by omega)]; exact h4
theorem row_toC {w : World} {C : Nat → Prop} {e sz n cap : Nat} {A : Option Addr} {cs : List Value} (h : Row w e sz A n cap cs) (hC : ∀ a, A = some a → C a.block) : RdC w C sz A n cs := by
  obtain ⟨h1, h2⟩ := h.rd
  refine ⟨h1, fun h0 => ?_⟩
  obtain ⟨g, o, hA, hg, hc⟩ := h2 h0
  exact ⟨g, o, hA, hC _ hA, hg, hc⟩
set_option maxRecDepth 100000 in
set_option maxHeartbeats 4000000 in
theorem copy_any (w : World) (p : Pg) (A : Option Addr) (cap : Nat) (hcd : CdAt w (fun k => k < w.heap.size) A p.code) (hl1 : 1 ≤ p.code.length) (hl : p.code.length ≤ 4) (hq : ∀ q ∈ p.code, q.length ≤ 8) :
    Calls Tryz.prog 67 #[valP p A cap] w fun x w' => ∃ A' cap', x = .returned (valP p A' cap') ∧ CdAt w' (fun k => w.heap.size ≤ k) A' p.code ∧ p.code.length ≤ cap' ∧ cap' ≤ maxLen ∧ Below w.heap.size w w' := by
  obtain ⟨v, m, L⟩ := p
  unfold valP
  simp only at hcd hl1 hl hq ⊢
  obtain ⟨vs, hvs, hat⟩ := hcd
  obtain ⟨g0, o0, rfl, hC0, hg0, hcell0⟩ := hvs.2 (by omega)
  obtain ⟨Wa, X, hWa, hX, hBa, hXl, hXe⟩ := pg_box w v m (some ⟨g0, o0, none⟩) L.length cap
  have hXk : Wa.heap[X]? = some (.cells #[.int .i64 v, .int .i64 m, .slice (some ⟨g0, o0, none⟩) L.length cap] 24 (0, 0)) := by rw [hWa, hX]; exact heap_alloc_new w _
  obtain ⟨Wb, Y, hWb, hY, hBb, hYl, hYe⟩ := pg_box Wa 0 0 none 0 0
  have hYk : Wb.heap[Y]? = some (.cells #[.int .i64 0, .int .i64 0, .slice none 0 0] 24 (0, 0)) := by rw [hWb, hY]; exact heap_alloc_new Wa _
  have hY' : Y = w.heap.size + 1 := by rw [hY, hWa]; simp
  have hbb := below_at hBa hBb
  have hcl := cloneC_any Wb ⟨g0, o0, none⟩ L.length cap vs (hvs.rd.below hbb (Nat.le_refl _)) (by omega)
  have hXk' : Wb.heap[X]? = some (.cells #[.int .i64 v, .int .i64 m, .slice (some ⟨g0, o0, none⟩) L.length cap] 24 (0, 0)) := (hBb.block X hXl).trans hXk
  have HCL := Lib.hid hcl
  have HXK := Lib.hid hXk'
  have HYK := Lib.hid hYk
  have HAT := Lib.hid hat
  have HBB := Lib.hid hbb
  have HXE := Lib.hid hX
  have HYE := Lib.hid hY'
  obtain ⟨x0, x1, x2, xl⟩ := hXe Wb hBb
  have yl := hYl
  have HQ := Lib.hid hq
  have HVS := Lib.hid hvs
  clear hcl hXk hXk' hYk hat hbb hBa hBb hXe hYe hXl hYl hq hvs hcell0 hC0 hg0
  go_enter Tryz.func67, Tryz.ntmps67
  go_upto_region 1 with fail
  rw [← hY', ← hWa, ← hWb, ← hX]
  clear hWa hWb hX hY hY'
  go_wp2_with fail
  refine HCL.out.mono ?_
  rintro x w3 ⟨A3, c3, rfl, hr3, ha3, b3⟩
  obtain ⟨g, o, rfl⟩ := hr3.some_of_pos (by have := hr3.2.1; omega)
  have hg : Wb.heap.size ≤ g := ha3 _ rfl
  have hX3 := (b3.block X (blk_lt HXK.out)).trans HXK.out
  have hY3 := (b3.block Y (blk_lt HYK.out)).trans HYK.out
  have f2 : w3.frozen? ⟨X, 2, none⟩ = false := free_blk hX3 2
  have x2 : w3.cell? ⟨X, 2, none⟩ = some (.slice (some ⟨g0, o0, none⟩) L.length cap) := by rw [cell_blk hX3]; rfl
  have xl : X < w3.heap.size := blk_lt hX3
  have HX3 := Lib.hid hX3
  have HY3 := Lib.hid hY3
  have HR3 := Lib.hid hr3
  have HG := Lib.hid hg
  have HB3 := Lib.hid b3
  clear hr3 ha3 b3 hX3 hY3 hg HCL x0 x1
  go_upto_region 2 with fail
  obtain ⟨W4, hW4⟩ : ∃ W4, W4 = w3.setCell ⟨X, 2, none⟩ (.slice (some ⟨g, o, none⟩) L.length c3) := ⟨_, rfl⟩
  rw [← hW4]
  have hXY : X < Y := by have := HXE.out; have := HYE.out; omega
  have hYg : Y < g := by have := blk_lt HYK.out; have := HG.out; omega
  have hm4 : Mod (fun k => k = X) w3 W4 := by rw [hW4]; exact (Mod.refl (fun k => k = X) w3).setCell (p := ⟨X, 2, none⟩) (fun _ => rfl) _
  have hX4 : W4.heap[X]? = some (.cells #[.int .i64 v, .int .i64 m, .slice (some ⟨g, o, none⟩) L.length c3] 24 (0, 0)) := by rw [hW4, set_blk HX3.out]; simp
  have hY4 : W4.heap[Y]? = _ := (hm4.block Y (blk_lt HY3.out) (by omega)).trans HY3.out
  have hr4 : Row W4 67 1 (some ⟨g, o, none⟩) L.length c3 vs := HR3.out.mod hm4 (fun a ha => by injection ha with ha; subst ha; simp only; omega)
  have hc4 : CopyRow W4 (fun k => w.heap.size ≤ k ∧ k ≠ X ∧ k ≠ Y ∧ k ≠ g) (fun k => k < w.heap.size) L 0 vs :=
    ⟨by have := HVS.out.1; omega, fun j q hq => by
      obtain ⟨A', c', h1, h2, h3⟩ := HAT.out j q hq
      exact ⟨A', c', h1, by rw [if_neg (by omega)]; exact ((h2.below HBB.out).mod (Mod.of_below HB3.out) (fun k hk => by have := HBB.out.size; omega)).mod hm4 (fun k hk => by have := HXE.out; omega), h3⟩⟩
  have hb4 : Below w.heap.size w W4 := (below_at HBB.out HB3.out).trans (hm4.below w.heap.size (by have := HBB.out.size; have := HB3.out.size; omega) (fun k hk => by have := HXE.out; omega))
  have HX4 := Lib.hid hX4
  have HY4 := Lib.hid hY4
  have HR4 := Lib.hid hr4
  have HC4 := Lib.hid hc4
  have HB4 := Lib.hid hb4
  have HXY := Lib.hid hXY
  have HYG := Lib.hid hYg
  have x2 : W4.cell? ⟨X, 2, none⟩ = some (.slice (some ⟨g, o, none⟩) L.length c3) := by rw [cell_blk HX4.out]; rfl
  have xl : X < W4.heap.size := blk_lt HX4.out
  have hbd : W4.heap.size < W4.heap.size + 1 := by omega
  clear hW4 hX4 hY4 hr4 hc4 hb4 hXY hYg hm4 f2 HX3 HY3 HR3 HG HB3 hbd
  have HLEN := Lib.hid (show L.length < 9223372036854775808 by omega)
  go_wp2_with fail
  go_loopw [12] (fun x wr => ∃ (i : Nat) (us : List Value), i ≤ L.length ∧ x = .int .i64 i ∧ Hid (Row wr 67 1 (some ⟨g, o, none⟩) L.length c3 us) ∧ Hid (CopyRow wr (fun k => w.heap.size ≤ k ∧ k ≠ X ∧ k ≠ Y ∧ k ≠ g) (fun k => k < w.heap.size) L i us) ∧ Hid (Mod (fun k => k = g) W4 wr)) (fun x _ => L.length - (intOf x).toNat)
  case atStart => exact ⟨0, vs, Nat.zero_le _, rfl, HR4, HC4, Lib.hid (Mod.refl _ _)⟩
  case round =>
    clear x2 xl HR4 HC4
    obtain ⟨i, us, hi, rfl, HR, HC, HMO⟩ := hrel
    have hXr : wr.heap[X]? = _ := (HMO.out.block X (blk_lt HX4.out) (by have := HXY.out; have := HYG.out; omega)).trans HX4.out
    have HXR := Lib.hid hXr
    clear hXr
    by_cases hlt : i < L.length
    · obtain ⟨q, hq⟩ := get_some hlt
      obtain ⟨A', c', hu, hrd, hc1, hc2⟩ := HC.out.2 i q hq
      have ca : wr.cell? ⟨g, o + i, none⟩ = some (.slice A' q.length c') := by rw [HR.out.cell i (by omega), hu]
      have lg : g < wr.heap.size := HR.out.lt
      have hq8 := HQ.out q (List.mem_of_getElem? hq)
      have k1 : (0 : Int) ≤ (i : Int) := Int.natCast_nonneg _
      have k2 : (i : Int) < (L.length : Int) := by omega
      have HRD := Lib.hid hrd.rd
      have HQI := Lib.hid hq
      clear hu hrd hc1 hc2 hq
      go_upto_region 5 with fail
      refine wp_region_planF (by kernel_rfl) (fun u => Below wr.heap.size wr u) [6] [(0, .pure), (1, .load), (2, .pure), (3, .pure), (4, .eff), (5, .pure), (6, .last)] (by simp only [List.map_cons, List.map_nil, List.getElem?_toArray, List.getElem?_cons_succ, List.getElem?_cons_zero]; rfl) (by kernel_rfl) (fun _ _ d _ _ h => by cases d <;> exact h) ((Below.refl _ _).drew) ?_
      repeat (first
        | (refine plan_pure (v := ?_) (by rfl) (fun w1 => ?_) ?_
           rotate_left
           · go_simp <;> with_reducible rfl
           simp only [Act.put, List.setIfInBounds_toArray, List.set_cons_zero, List.set_cons_succ])
        | (refine plan_off (by rfl) ?_
           simp only [Act.put, List.setIfInBounds_toArray, List.set_cons_zero, List.set_cons_succ])
        | (refine plan_load_off (by rfl) ?_
           simp only [Act.put, List.setIfInBounds_toArray, List.set_cons_zero, List.set_cons_succ])
        | (refine plan_load (v := ?_) (by rfl) (fun w1 hw1 => ?_) ?_
           rotate_left
           · (have qx := (World.cell?_of_block (hw1.block X (blk_lt HXR.out)) : w1.cell? ⟨X, 2, none⟩ = _).trans (cell_blk HXR.out 2)
              clear hw1
              go_simp <;> with_reducible rfl)
           simp only [Act.put, List.setIfInBounds_toArray, List.set_cons_zero, List.set_cons_succ]))
      have hS : Below wr.heap.size wr wr.drew := (Below.refl _ _).drew
      refine plan_eff ?_
      go_wp2_with fail
      refine (cloneI_any wr.drew A' q.length c' (q.flatMap encI) (HRD.out.below hS (Nat.le_refl _)) (by omega)).mono ?_
      rintro x w6 ⟨A6, c6, rfl, r6, a6, b6⟩
      have S6 := Lib.hid (below_at hS b6)
      have hr6 : Row w6 67 1 (some ⟨g, o, none⟩) L.length c3 us := HR.out.mod (Mod.of_below_size S6.out (fun _ => False)) (fun a ha h => h)
      have hc6 := HC.out.below S6.out
      have f6 : w6.frozen? ⟨g, o + i, none⟩ = false := hr6.free _
      have d6 : w6.cell? ⟨g, o + i, none⟩ = some (.slice A' q.length c') := (World.cell?_of_block (S6.out.block g lg)).trans ca
      have l6 : g < w6.heap.size := by have := S6.out.size; omega
      have hd6 : RdC w6 (fun k => w.heap.size ≤ k ∧ k ≠ X ∧ k ≠ Y ∧ k ≠ g) 4 A6 q.length (q.flatMap encI) := row_toC r6 (fun a ha => by
        have h1 : wr.heap.size ≤ a.block := a6 a ha
        have h2 := HB4.out.size
        have h3 := HMO.out.size
        have h4 := HXY.out
        have h5 := HYG.out
        exact ⟨by omega, by omega, by omega, by omega⟩)
      have R6 := Lib.hid hr6
      have C6 := Lib.hid hc6
      have D6 := Lib.hid hd6
      have E6 := Lib.hid (And.intro r6.2.1 r6.2.2.1)
      clear r6 a6 b6 hr6 hc6 hd6
      go_wp2_with fail
      refine plan_on (fun _ h => h) S6.out ?_
      repeat (first
        | (refine plan_pure (v := ?_) (by rfl) (fun w1 => ?_) ?_
           rotate_left
           · go_simp <;> with_reducible rfl
           simp only [Act.put, List.setIfInBounds_toArray, List.set_cons_zero, List.set_cons_succ])
        | (refine plan_off (by rfl) ?_
           simp only [Act.put, List.setIfInBounds_toArray, List.set_cons_zero, List.set_cons_succ])
        | (refine plan_load_off (by rfl) ?_
           simp only [Act.put, List.setIfInBounds_toArray, List.set_cons_zero, List.set_cons_succ])
        | (refine plan_load (v := ?_) (by rfl) (fun w1 hw1 => ?_) ?_
           rotate_left
           · (have qx := (World.cell?_of_block (hw1.block X (blk_lt HXR.out)) : w1.cell? ⟨X, 2, none⟩ = _).trans (cell_blk HXR.out 2)
              clear hw1
              go_simp <;> with_reducible rfl)
           simp only [Act.put, List.setIfInBounds_toArray, List.set_cons_zero, List.set_cons_succ]))
      refine plan_last ?_
      go_wp2_with fail
      repeat (first
        | (refine plan_pure (v := ?_) (by rfl) (fun w1 => ?_) ?_
           rotate_left
           · go_simp <;> with_reducible rfl
           simp only [Act.put, List.setIfInBounds_toArray, List.set_cons_zero, List.set_cons_succ])
        | (refine plan_off (by rfl) ?_
           simp only [Act.put, List.setIfInBounds_toArray, List.set_cons_zero, List.set_cons_succ])
        | (refine plan_load_off (by rfl) ?_
           simp only [Act.put, List.setIfInBounds_toArray, List.set_cons_zero, List.set_cons_succ])
        | (refine plan_load (v := ?_) (by rfl) (fun w1 hw1 => ?_) ?_
           rotate_left
           · (skip
              clear hw1
              go_simp <;> with_reducible rfl)
           simp only [Act.put, List.setIfInBounds_toArray, List.set_cons_zero, List.set_cons_succ]))
      refine plan_end ?_
      go_wp2_with fail
      go_roundw
      case rel =>
        have hm := (Mod.refl (fun k => k = g) w6).setCell (p := ⟨g, o + i, none⟩) (fun _ => rfl) (.slice A6 q.length c6)
        refine ⟨i + 1, us.set i (.slice A6 q.length c6), by omega, by go_num, Lib.hid (R6.out.set i (by omega) _), Lib.hid ?_, Lib.hid ?_⟩
        · exact (C6.out.mod hm (fun k hk => hk.2.2.2) (fun k hk e => by have h4 := HXY.out; have h5 := HYG.out; have h6 := HXE.out; omega)).step HQI.out (D6.out.mod hm (fun k hk => hk.2.2.2)) E6.out.1 E6.out.2
        · exact (HMO.out.trans (Mod.of_below_size S6.out _)).trans hm
      case measure => simp [intOf]; omega
    · have hi' : i = L.length := by omega
      have HI := Lib.hid hi'
      clear hi' hi
      have hY5 : wr.heap[Y]? = _ := (HMO.out.block Y (blk_lt HY4.out) (by have := HYG.out; omega)).trans HY4.out
      obtain ⟨V2, hV2, d0, d1, d2, hmv⟩ := pg_exit hY5 (.int .i64 v) (.int .i64 m) (.slice (some ⟨g, o, none⟩) L.length c3)
      have x0 : wr.cell? ⟨X, 0, none⟩ = some (.int .i64 v) := by rw [cell_blk HXR.out]; rfl
      have x1 : wr.cell? ⟨X, 1, none⟩ = some (.int .i64 m) := by rw [cell_blk HXR.out]; rfl
      have x2 : wr.cell? ⟨X, 2, none⟩ = some (.slice (some ⟨g, o, none⟩) L.length c3) := by rw [cell_blk HXR.out]; rfl
      have y0 : wr.cell? ⟨Y, 0, none⟩ = some (.int .i64 0) := by rw [cell_blk hY5]; rfl
      have y1 : wr.cell? ⟨Y, 1, none⟩ = some (.int .i64 0) := by rw [cell_blk hY5]; rfl
      have y2 : wr.cell? ⟨Y, 2, none⟩ = some (.slice none 0 0) := by rw [cell_blk hY5]; rfl
      have f0 : wr.frozen? ⟨Y, 0, none⟩ = false := free_blk hY5 0
      have f1 : wr.frozen? ⟨Y, 1, none⟩ = false := free_blk hY5 1
      have f2 : wr.frozen? ⟨Y, 2, none⟩ = false := free_blk hY5 2
      have lx : X < wr.heap.size := blk_lt HXR.out
      have ly : Y < wr.heap.size := blk_lt hY5
      have HMV := Lib.hid hmv
      have HV2 := Lib.hid hV2
      clear hmv hV2 hY5
      go_wp2_with fail
      rw [← HV2.out]
      refine bodyPost_ret (v := .agg #[.int .i64 v, .int .i64 m, .slice (some ⟨g, o, none⟩) L.length c3]) (by simp [results, Tryz.results67, go_sem, d0, d1, d2]) rfl ?_
      have hr9 := HR.out.mod HMV.out (fun a ha => by injection ha with ha; subst ha; have := HYG.out; simp only; omega)
      have hc9 := HC.out.mod HMV.out (fun k hk => hk.2.2.1) (fun k hk e => by have h4 := HXY.out; have h6 := HXE.out; omega)
      rw [HI.out] at hc9
      refine ⟨some ⟨g, o, none⟩, c3, rfl, ⟨us, row_toC hr9 (fun a ha => by injection ha with ha; subst ha; have h4 := HXY.out; have h5 := HYG.out; have h6 := HXE.out; simp only; omega), fun j q hq => ?_⟩, hr9.2.1, hr9.2.2.1, ?_⟩
      · obtain ⟨A', c', h1, h2, h3⟩ := hc9.2 j q hq
        rw [if_pos (List.getElem?_eq_some_iff.1 hq).1] at h2
        exact ⟨A', c', h1, h2.imp (fun k hk => hk.1), h3⟩
      · exact (HB4.out.trans (HMO.out.below w.heap.size HB4.out.size (fun k hk e => by have h4 := HXY.out; have h5 := HYG.out; have h6 := HXE.out; omega))).trans (HMV.out.below w.heap.size (by have := HB4.out.size; have := HMO.out.size; omega) (fun k hk e => by have h4 := HXY.out; have h6 := HXE.out; omega))
end Go.Proofs.YtckdofjpoajblaaGreat
namespace Go.Proofs.YtckdofjpoajblaaGreat
open Go.RowKit
set_option linter.unusedVariables false
structure Th where
  pc : Nat
  fuel : Nat
  r : Nat → Int
structure St where
  p : Pg
  th : List Th
  v : Nat → Int
  h : Nat → Int
def updI (f : Nat → Int) (k : Nat) (x : Int) : Nat → Int := fun j => if j = k then x else f j
theorem updI_ne (f : Nat → Int) {k j : Nat} (x : Int) (h : j ≠ k) : updI f k x j = f j := by simp [updI, h]
def encT (t : Th) : List Value := [.int .i64 (t.pc : Nat), .int .i64 (t.fuel : Nat), .int .i64 (t.r 0), .int .i64 (t.r 1)]
theorem encT_len (t : Th) : (encT t).length = 4 := rfl
def stCells (s : St) (PA : Option Addr) (pc T tc : Nat) : Array Value :=
  #[.int .i64 s.p.vars, .int .i64 s.p.mtx, .slice PA s.p.code.length pc, .slice (some ⟨T, 0, none⟩) s.th.length tc, .int .i64 (s.v 0), .int .i64 (s.v 1), .int .i64 (s.v 2), .int .i64 (s.v 3), .int .i64 (s.h 0), .int .i64 (s.h 1)]
def SAt (w : World) (C : Nat → Prop) (S T : Nat) (s : St) : Prop :=
  ∃ PA pc tc, w.heap[S]? = some (.cells (stCells s PA pc T tc) 124 (0, 0)) ∧ Row w 127 4 (some ⟨T, 0, none⟩) s.th.length tc (s.th.flatMap encT) ∧ CdAt w C PA s.p.code ∧ ¬ C S ∧ ¬ C T ∧ S ≠ T ∧ s.th.length = s.p.code.length
theorem SAt.lt {w : World} {C : Nat → Prop} {S T : Nat} {s : St} (h : SAt w C S T s) : S < w.heap.size ∧ T < w.heap.size := by
  obtain ⟨PA, pc, tc, h1, h2, _⟩ := h
  exact ⟨blk_lt h1, h2.lt⟩
theorem SAt.len {w : World} {C : Nat → Prop} {S T : Nat} {s : St} (h : SAt w C S T s) : s.th.length = s.p.code.length := by
  obtain ⟨PA, pc, tc, _, _, _, _, _, _, h⟩ := h
  exact h
theorem SAt.mod {w w' : World} {F C : Nat → Prop} {S T : Nat} {s : St} (h : SAt w C S T s) (hm : Mod F w w') (hC : ∀ k, C k → ¬ F k) (hS : ¬ F S) (hT : ¬ F T) : SAt w' C S T s := by
  obtain ⟨PA, pc, tc, h1, h2, h3, h4⟩ := h
  exact ⟨PA, pc, tc, (hm.block S (blk_lt h1) hS).trans h1, h2.mod hm (fun a ha => by injection ha with ha; subst ha; exact hT), h3.mod hm hC, h4⟩
theorem SAt.below {w w' : World} {C : Nat → Prop} {S T : Nat} {s : St} (h : SAt w C S T s) (hb : Below w.heap.size w w') : SAt w' C S T s := h.mod (F := fun _ => False) (Mod.of_below_size hb _) (fun _ _ h => h) (fun h => h) (fun h => h)
theorem SAt.cells {w : World} {C : Nat → Prop} {S T : Nat} {s : St} (h : SAt w C S T s) : ∃ PA pc tc, w.cell? ⟨S, 0, none⟩ = some (.int .i64 s.p.vars) ∧ w.cell? ⟨S, 1, none⟩ = some (.int .i64 s.p.mtx) ∧ w.cell? ⟨S, 2, none⟩ = some (.slice PA s.p.code.length pc) ∧ w.cell? ⟨S, 3, none⟩ = some (.slice (some ⟨T, 0, none⟩) s.th.length tc) ∧
    (∀ x, x < 4 → w.cell? ⟨S, 4 + x, none⟩ = some (.int .i64 (s.v x))) ∧ (∀ x, x < 2 → w.cell? ⟨S, 8 + x, none⟩ = some (.int .i64 (s.h x))) ∧ CdAt w C PA s.p.code := by
  obtain ⟨PA, pc, tc, h1, h2, h3, h4⟩ := h
  refine ⟨PA, pc, tc, by rw [cell_blk h1]; rfl, by rw [cell_blk h1]; rfl, by rw [cell_blk h1]; rfl, by rw [cell_blk h1]; rfl, fun x hx => ?_, fun x hx => ?_, h3⟩
  · rw [cell_blk h1]
    rcases (show x = 0 ∨ x = 1 ∨ x = 2 ∨ x = 3 by omega) with rfl | rfl | rfl | rfl <;> rfl
  · rw [cell_blk h1]
    rcases (show x = 0 ∨ x = 1 by omega) with rfl | rfl <;> rfl
def capOf (w : World) (S : Nat) : Nat := match w.cell? ⟨S, 3, none⟩ with | some (.slice _ _ c) => c | _ => 0
theorem SAt.z3 {w w' : World} {C : Nat → Prop} {S T : Nat} {s : St} (h : SAt w C S T s) (hb : Below w.heap.size w w') : w'.cell? ⟨S, 3, none⟩ = some (.slice (some ⟨T, 0, none⟩) s.th.length (capOf w S)) := by
  obtain ⟨PA, pc, tc, _, _, _, z3, _⟩ := h.cells
  rw [World.cell?_of_block (hb.block S h.lt.1), z3]
  unfold capOf
  rw [z3]
theorem SAt.thread {w : World} {C : Nat → Prop} {S T : Nat} {s : St} (h : SAt w C S T s) : ∀ (t : Nat) (x : Th), s.th[t]? = some x → w.cell? ⟨T, t * 4, none⟩ = some (.int .i64 (x.pc : Nat)) ∧ w.cell? ⟨T, t * 4 + 1, none⟩ = some (.int .i64 (x.fuel : Nat)) ∧ (∀ r, r < 2 → w.cell? ⟨T, t * 4 + 2 + r, none⟩ = some (.int .i64 (x.r r))) := fun t x hx => by
  obtain ⟨PA, pc, tc, h1, h2, h3⟩ := h
  obtain ⟨ht, rfl⟩ := List.getElem?_eq_some_iff.1 hx
  have hcl : ∀ r, r < 4 → w.cell? ⟨T, t * 4 + r, none⟩ = (encT s.th[t])[r]? := fun r hr => by
    have := h2.cell (t * 4 + r) (by omega)
    rw [Nat.zero_add] at this
    rw [this, flat_get (f := encT) (sz := 4) encT_len s.th t r ht hr]
  refine ⟨hcl 0 (by omega), hcl 1 (by omega), fun r hr => ?_⟩
  rw [Nat.add_assoc, hcl (2 + r) (by omega)]
  rcases (show r = 0 ∨ r = 1 by omega) with rfl | rfl <;> rfl
theorem SAt.free {w : World} {C : Nat → Prop} {S T : Nat} {s : St} (h : SAt w C S T s) : (∀ k, w.frozen? ⟨S, k, none⟩ = false) ∧ (∀ k, w.frozen? ⟨T, k, none⟩ = false) := by
  obtain ⟨PA, pc, tc, h1, h2, h3⟩ := h
  exact ⟨fun k => free_blk h1 k, fun k => h2.free k⟩
theorem flat_set {α : Type} {f : α → List Value} {sz : Nat} (hf : ∀ x, (f x).length = sz) {x y : α} {r : Nat} {v : Value} (hr : r < sz) (hy : f y = (f x).set r v) : ∀ (xs : List α) (q : Nat), xs[q]? = some x → (xs.flatMap f).set (q * sz + r) v = (xs.set q y).flatMap f := by
  intro xs
  induction xs with
  | nil => intro q h; simp at h
  | cons a xs ih =>
    intro q h
    cases q with
    | zero =>
      simp at h
      subst h
      rw [Nat.zero_mul, Nat.zero_add, List.flatMap_cons, List.set_cons_zero, List.flatMap_cons, hy, List.set_append_left _ _ (by rw [hf]; exact hr)]
    | succ q =>
      simp at h
      rw [List.flatMap_cons, List.set_cons_succ, List.flatMap_cons, List.set_append_right _ _ (by rw [hf, Nat.succ_mul]; omega), hf, ← ih q h]
      congr 2
      rw [Nat.succ_mul]; omega
theorem SAt.set_th {w : World} {C : Nat → Prop} {S T : Nat} {s : St} (h : SAt w C S T s) {t : Nat} {x y : Th} (hx : s.th[t]? = some x) (r : Nat) (hr : r < 4) (v : Value) (hy : encT y = (encT x).set r v) :
    SAt (w.setCell ⟨T, t * 4 + r, none⟩ v) C S T { s with th := s.th.set t y } ∧ Mod (fun k => k = T) w (w.setCell ⟨T, t * 4 + r, none⟩ v) := by
  have hm : Mod (fun k => k = T) w (w.setCell ⟨T, t * 4 + r, none⟩ v) := (Mod.refl (fun k => k = T) w).setCell (p := ⟨T, t * 4 + r, none⟩) (fun _ => rfl) v
  obtain ⟨PA, pc, tc, h1, h2, h3, h4, h5, h6, h7⟩ := h
  have ht := (List.getElem?_eq_some_iff.1 hx).1
  refine ⟨⟨PA, pc, tc, ?_, ?_, h3.mod hm (fun k hk e => h5 (e ▸ hk)), h4, h5, h6, by simp [h7]⟩, hm⟩
  · rw [hm.block S (blk_lt h1) h6, h1]
    simp [stCells]
  · have := h2.set (t * 4 + r) (by omega) v
    rw [Nat.zero_add, flat_set (f := encT) encT_len hr hy s.th t hx] at this
    simpa using this
theorem SAt.set_v {w : World} {C : Nat → Prop} {S T : Nat} {s : St} (h : SAt w C S T s) {x : Nat} (hx : x < 4) (n : Int) :
    SAt (w.setCell ⟨S, 4 + x, none⟩ (.int .i64 n)) C S T { s with v := updI s.v x n } ∧ Mod (fun k => k = S) w (w.setCell ⟨S, 4 + x, none⟩ (.int .i64 n)) := by
  have hm : Mod (fun k => k = S) w (w.setCell ⟨S, 4 + x, none⟩ (.int .i64 n)) := (Mod.refl (fun k => k = S) w).setCell (p := ⟨S, 4 + x, none⟩) (fun _ => rfl) _
  obtain ⟨PA, pc, tc, h1, h2, h3, h4, h5, h6, h7⟩ := h
  refine ⟨⟨PA, pc, tc, ?_, h2.mod hm (fun a ha e => by injection ha with ha; subst ha; exact h6 e.symm), h3.mod hm (fun k hk e => h4 (e ▸ hk)), h4, h5, h6, h7⟩, hm⟩
  rw [set_blk h1]
  rcases (show x = 0 ∨ x = 1 ∨ x = 2 ∨ x = 3 by omega) with rfl | rfl | rfl | rfl <;> simp [stCells, updI]
theorem SAt.set_h {w : World} {C : Nat → Prop} {S T : Nat} {s : St} (h : SAt w C S T s) {x : Nat} (hx : x < 2) (n : Int) :
    SAt (w.setCell ⟨S, 8 + x, none⟩ (.int .i64 n)) C S T { s with h := updI s.h x n } ∧ Mod (fun k => k = S) w (w.setCell ⟨S, 8 + x, none⟩ (.int .i64 n)) := by
  have hm : Mod (fun k => k = S) w (w.setCell ⟨S, 8 + x, none⟩ (.int .i64 n)) := (Mod.refl (fun k => k = S) w).setCell (p := ⟨S, 8 + x, none⟩) (fun _ => rfl) _
  obtain ⟨PA, pc, tc, h1, h2, h3, h4, h5, h6, h7⟩ := h
  refine ⟨⟨PA, pc, tc, ?_, h2.mod hm (fun a ha e => by injection ha with ha; subst ha; exact h6 e.symm), h3.mod hm (fun k hk e => h4 (e ▸ hk)), h4, h5, h6, h7⟩, hm⟩
  rw [set_blk h1]
  rcases (show x = 0 ∨ x = 1 by omega) with rfl | rfl <;> simp [stCells, updI]
namespace Pr
def start (p : Pg) (fuel : Nat) : St := ⟨p, p.code.map (fun _ => ⟨0, fuel, fun _ => 0⟩), fun _ => 0, fun _ => -1⟩
end Pr
end Go.Proofs.YtckdofjpoajblaaGreat
namespace Go.Proofs.YtckdofjpoajblaaGreat
open Go.RowKit
set_option linter.unusedVariables false
theorem Tryz.infoTh : (Tryz.prog.info? 127).map (fun i => (i.zero, i.size, i.bytes)) = some (some (.agg #[.int .i64 0, .int .i64 0, .int .i64 0, .int .i64 0]), 4, 32) := by kernel_rfl
theorem zeros_flat (n : Nat) : (List.replicate n (⟨0, 0, fun _ => 0⟩ : Th)).flatMap encT = List.replicate (n * 4) (.int .i64 0) := by
  induction n with
  | zero => rfl
  | succ n ih =>
    rw [List.replicate_succ, List.flatMap_cons, ih, Nat.succ_mul]
    rfl
theorem made_zeros (n : Nat) : madeCells #[Value.int .i64 0, .int .i64 0, .int .i64 0, .int .i64 0] n = (List.replicate n (.int .i64 0)).toArray := by
  unfold madeCells
  refine Array.ext (by simp) fun i h1 h2 => ?_
  simp only [Array.getElem_map, Array.getElem_range, List.getElem_toArray, List.getElem_replicate]
  rcases (show i % 4 = 0 ∨ i % 4 = 1 ∨ i % 4 = 2 ∨ i % 4 = 3 by omega) with h | h | h | h <;> (simp only [List.size_toArray, List.length_cons, List.length_nil]; rw [show 0 + 1 + 1 + 1 + 1 = 4 from rfl, h]; rfl)
theorem threads_row (w : World) (n : Nat) (hn : n ≤ 4) : Row (w.alloc (.cells (madeCells #[Value.int .i64 0, .int .i64 0, .int .i64 0, .int .i64 0] (n * 4)) 127)) 127 4 (some ⟨w.heap.size, 0, none⟩) n n ((List.replicate n (⟨0, 0, fun _ => 0⟩ : Th)).flatMap encT) := by
  refine ⟨by rw [zeros_flat]; simp, Nat.le_refl _, by unfold maxLen; omega, fun h => (by cases h), fun a ha => ?_⟩
  injection ha with ha
  subst ha
  refine ⟨rfl, _, heap_alloc_new w _, by simp [size_madeCells], ?_⟩
  rw [made_zeros, zeros_flat]
  simp
theorem row_stepS {v v' : World} {e sz n cap : Nat} {A : Option Addr} {cs : List Value} (h : Row v e sz A n cap cs) (hb : Below v.heap.size v v') : Row v' e sz A n cap cs := h.mod (Mod.of_below_size hb (fun _ => False)) (fun _ _ h => h)
theorem SAt.eqv {w : World} {C : Nat → Prop} {S T : Nat} {s s' : St} (h : SAt w C S T s) (hp : s'.p = s.p) (ht : s'.th = s.th) (hv : ∀ x, x < 4 → s'.v x = s.v x) (hh : ∀ x, x < 2 → s'.h x = s.h x) : SAt w C S T s' := by
  obtain ⟨PA, pc, tc, h1, h2⟩ := h
  refine ⟨PA, pc, tc, ?_, by rw [ht, hp]; exact h2⟩
  rw [h1]
  unfold stCells
  rw [hp, ht, hv 0 (by omega), hv 1 (by omega), hv 2 (by omega), hv 3 (by omega), hh 0 (by omega), hh 1 (by omega)]
def thK (n i f : Nat) : List Th := (List.range n).map fun j => ⟨0, if j < i then f else 0, fun _ => 0⟩
theorem thK_len (n i f : Nat) : (thK n i f).length = n := by simp [thK]
theorem thK_zero (n f : Nat) : thK n 0 f = List.replicate n ⟨0, 0, fun _ => 0⟩ := by
  refine List.ext_getElem? fun j => ?_
  simp only [thK, List.getElem?_map, List.getElem?_replicate]
  by_cases h : j < n <;> simp [h]
theorem thK_get {n i f : Nat} (h : i < n) : (thK n i f)[i]? = some ⟨0, 0, fun _ => 0⟩ := by simp [thK, h]
theorem thK_set {n i f : Nat} (h : i < n) : (thK n i f).set i ⟨0, f, fun _ => 0⟩ = thK n (i + 1) f := by
  refine List.ext_getElem? fun j => ?_
  by_cases hj : j = i
  · subst hj
    rw [List.getElem?_set_self (by rw [thK_len]; exact h)]
    simp [thK, h]
  · rw [List.getElem?_set_ne (fun e => hj e.symm)]
    by_cases hn : j < n
    · simp only [thK, List.getElem?_map, List.getElem?_range hn, Option.map_some]
      congr 2
      by_cases hji : j < i
      · rw [if_pos hji, if_pos (by omega)]
      · rw [if_neg hji, if_neg (by omega)]
    · simp [thK, hn]
theorem thK_all (L : List (List Ins)) (f : Nat) : thK L.length L.length f = L.map (fun _ => ⟨0, f, fun _ => 0⟩) := by
  refine List.ext_getElem? fun j => ?_
  by_cases h : j < L.length <;> simp [thK, h]
theorem CdAt.bound {w : World} {C : Nat → Prop} {A : Option Addr} {L : List (List Ins)} (h : CdAt w C A L) : CdAt w (fun k => C k ∧ k < w.heap.size) A L := by
  have key : ∀ {sz n : Nat} {A : Option Addr} {cs : List Value}, RdC w C sz A n cs → RdC w (fun k => C k ∧ k < w.heap.size) sz A n cs := fun h => ⟨h.1, fun h0 => by obtain ⟨g, o, h1, hc, h2, h3⟩ := h.2 h0; exact ⟨g, o, h1, ⟨hc, h2⟩, h2, h3⟩⟩
  obtain ⟨vs, h1, h2⟩ := h
  refine ⟨vs, key h1, fun i q hi => ?_⟩
  obtain ⟨A', c', h3, h4, h5⟩ := h2 i q hi
  exact ⟨A', c', h3, key h4, h5⟩
set_option maxRecDepth 100000 in
theorem new_bad (w : World) (p : Pg) (A : Option Addr) (cap : Nat) (fuel : Int) (hcd : CdAt w (fun k => k < w.heap.size) A p.code) (hl : p.code.length ≤ maxLen) (hq : ∀ q ∈ p.code, q.length ≤ maxLen) (hbad : ¬ (Pr.Ok p ∧ 0 ≤ fuel ∧ fuel ≤ 8)) :
    Calls Tryz.prog 30 #[valP p A cap, .int .i64 fuel] w fun x w' => x = .returned (.tuple #[.pointer none, .int .i64 1]) ∧ Below w.heap.size w w' := by
  obtain ⟨Wa, X, hWa, hX, hBa, hXl, hXe⟩ := pg_box w p.vars p.mtx A p.code.length cap
  have hcall := pright_any Wa p A cap ((hcd.below hBa).imp (fun k hk => by have := hBa.size; omega)) hl hq
  obtain ⟨b, hb⟩ : ∃ b, b = decide (Pr.Ok p) := ⟨_, rfl⟩
  rw [← hb] at hcall
  unfold valP at hcall ⊢
  have HCALL := Lib.hid hcall
  have HB := Lib.hid hBa
  have HBB := Lib.hid hb
  have HBAD := Lib.hid hbad
  obtain ⟨x0, x1, x2, xl⟩ := hXe Wa (Below.refl _ _)
  clear hcall hBa hb hbad hcd hl hq hXe
  go_enter Tryz.func30, Tryz.ntmps30
  go_upto_region 1 with fail
  rw [← hWa, ← hX]
  clear hWa hX
  go_wp2_with fail
  refine HCALL.out.mono ?_
  rintro x w1 ⟨rfl, b1⟩
  have HB1 := Lib.hid (below_at HB.out b1)
  clear b1
  cases b with
  | false =>
    go_wp2_with fail
    go_ret2
    exact ⟨rfl, HB1.out⟩
  | true =>
    have hok : Pr.Ok p := of_decide_eq_true HBB.out.symm
    by_cases h0 : fuel < 0
    · go_wp2_with fail
      go_ret2
      exact ⟨rfl, HB1.out⟩
    · by_cases h8 : 8 < fuel
      · go_wp2_with fail
        go_ret2
        exact ⟨rfl, HB1.out⟩
      · exact (HBAD.out ⟨hok, by omega, by omega⟩).elim
set_option maxRecDepth 100000 in
set_option maxHeartbeats 4000000 in
theorem new_ok (w : World) (p : Pg) (A : Option Addr) (cap : Nat) (f : Nat) (hcd : CdAt w (fun k => k < w.heap.size) A p.code) (hok : Pr.Ok p) (hf : f ≤ 8) :
    Calls Tryz.prog 30 #[valP p A cap, .int .i64 (f : Int)] w fun x w' => ∃ (S T : Nat) (C : Nat → Prop), x = .returned (.tuple #[.pointer (some ⟨S, 0, none⟩), .int .i64 0]) ∧ SAt w' C S T (Pr.start p f) ∧ w.heap.size ≤ S ∧ w.heap.size ≤ T ∧ (∀ k, C k → w.heap.size ≤ k) ∧ Below w.heap.size w w' := by
  obtain ⟨pv, pm, L⟩ := p
  have hl1 := hok.1.2.2.2.2.1
  have hl4 := hok.1.2.2.2.2.2
  have hq8 : ∀ q ∈ L, q.length ≤ 8 := fun q hq => (hok.2 q hq).1
  simp only at hl1 hl4 hcd
  obtain ⟨i0, hi0, hz0, hz1, hz2⟩ := info_parts Tryz.infoTh
  obtain ⟨Wa, X, hWa, hX, hBa, hXl, hXe⟩ := pg_box w pv pm A L.length cap
  have hcdA : CdAt Wa (fun k => k < w.heap.size) A L := hcd.below hBa
  have hcall := pright_any Wa ⟨pv, pm, L⟩ A cap (hcdA.imp (fun k hk => by have := hBa.size; omega)) (by unfold maxLen; simp only; omega) (fun q hq => by unfold maxLen; have := hq8 q hq; omega)
  rw [decide_eq_true hok] at hcall
  have hcp : ∀ u, Below Wa.heap.size Wa u → Calls Tryz.prog 67 #[valP ⟨pv, pm, L⟩ A cap] u fun x w' => ∃ A' cap', x = .returned (valP ⟨pv, pm, L⟩ A' cap') ∧ CdAt w' (fun k => u.heap.size ≤ k) A' L ∧ L.length ≤ cap' ∧ cap' ≤ maxLen ∧ Below u.heap.size u w' := fun u hu =>
    copy_any u ⟨pv, pm, L⟩ A cap ((hcdA.below hu).imp (fun k hk => by have := hBa.size; have := hu.size; omega)) hl1 hl4 hq8
  unfold valP at hcall hcp ⊢
  simp only at hcall hcp ⊢
  have hmk : ∀ u, _ := fun u => run_make (P := Tryz.prog) u 121 127 i0 (.agg #[.int .i64 0, .int .i64 0, .int .i64 0, .int .i64 0]) Tryz.underlying121 hi0 hz0 .i64 .i64 (L.length : Int) (L.length : Int) (by omega) (Int.le_refl _) (by rw [hz2]; omega) (by omega)
  simp only [Int.toNat_natCast, hz1, Value.cells] at hmk
  have HCALL := Lib.hid hcall
  have HCP := Lib.hid hcp
  have HAS := Lib.hid hBa.size
  have HBA := Lib.hid hBa
  have HXE := Lib.hid hXe
  have HOK := Lib.hid hok
  obtain ⟨x0, x1, x2, xl⟩ := hXe Wa (Below.refl _ _)
  clear hcall hcp hBa hcd hcdA hXe hok hq8 hi0 hz0 hz1 hz2
  go_enter Tryz.func30, Tryz.ntmps30
  go_upto_region 1 with fail
  rw [← hWa, ← hX]
  clear hWa hX
  go_wp2_with fail
  refine HCALL.out.mono ?_
  rintro x w1 ⟨rfl, b1⟩
  have HB1 := Lib.hid b1
  clear b1 x0 x1 x2 HCALL
  have n0 : ¬ (f : Int) < 0 := by omega
  have n8 : ¬ (8 : Int) < (f : Int) := by omega
  go_upto_region 3 with fail
  go_cut [6] (fun v6 w2 => ∃ (S T : Nat) (C : Nat → Prop), v6 = .pointer (some ⟨S, 0, none⟩) ∧ Hid (SAt w2 C S T ⟨⟨pv, pm, L⟩, List.replicate L.length ⟨0, 0, fun _ => 0⟩, fun _ => 0, fun _ => 0⟩) ∧ Hid (Wa.heap.size ≤ S ∧ Wa.heap.size ≤ T ∧ ∀ k, C k → Wa.heap.size ≤ k) ∧ Hid (Below Wa.heap.size Wa w2))
  case first =>
    refine wp_region_pt (by kernel_rfl) (fun u => u.cell? ⟨X, 0, none⟩ = some (.int .i64 pv) ∧ u.cell? ⟨X, 1, none⟩ = some (.int .i64 pm) ∧ u.cell? ⟨X, 2, none⟩ = some (.slice A L.length cap) ∧ X < u.heap.size) [] (.cons 0 .load (.cons 2 .pure (.cons 3 .load (.cons 4 .pure (.fork 1 (.cons 5 .eff (.cons 6 .pure (.cons 7 .eff (.cons 8 .pure .nil)))) 5 (.cons 1 .eff (.cons 6 .pure (.cons 7 .eff (.cons 8 .pure .nil))))))))) (by simp only [PT.map, List.getElem?_toArray, List.getElem?_cons_succ, List.getElem?_cons_zero]; rfl) (by kernel_rfl) (fun _ _ d _ _ h => by cases d <;> exact h) ((HXE.out _ HB1.out.drew)) ?_
    have HB := Lib.hid HB1.out.drew
    obtain ⟨v, hv⟩ : ∃ v, v = w1.drew := ⟨_, rfl⟩
    rw [← hv] at HB ⊢
    clear hv HB1
    repeat (first
      | (refine pt_pure (v := ?_) (by rfl) (fun w1 => ?_) ?_
         rotate_left
         · go_simp <;> with_reducible rfl
         simp only [Act.put, List.setIfInBounds_toArray, List.set_cons_zero, List.set_cons_succ])
      | (refine pt_off (by rfl) ?_
         simp only [Act.put, List.setIfInBounds_toArray, List.set_cons_zero, List.set_cons_succ])
      | (refine pt_load_off (by rfl) ?_
         simp only [Act.put, List.setIfInBounds_toArray, List.set_cons_zero, List.set_cons_succ])
      | (refine pt_load (v := ?_) (by rfl) (fun w1 hw1 => ?_) ?_
         rotate_left
         · (have q := hw1
            obtain ⟨x0, x1, x2, xl⟩ := q
            clear hw1
            go_simp <;> with_reducible rfl)
         simp only [Act.put, List.setIfInBounds_toArray, List.set_cons_zero, List.set_cons_succ]))
    refine pt_fork ?_ ?_
    · go_wp2_with fail
      refine (HCP.out v HB.out).mono ?_
      rintro x u ⟨PA, pc, rfl, hcd, hp1, hp2, hb⟩
      obtain ⟨B1, hB1⟩ : ∃ B1, B1 = v.heap.size := ⟨_, rfl⟩
      obtain ⟨E1, hE1⟩ : ∃ E1, E1 = u.heap.size := ⟨_, rfl⟩
      rw [← hB1] at hcd
      have HCD := Lib.hid hcd.bound
      rw [← hE1] at HCD
      have HE1 := Lib.hid (Nat.le_of_eq hE1)
      have HBB1 := Lib.hid (show Wa.heap.size ≤ B1 by have h3 := HB.out.size; have h4 := HAS.out; omega)
      (try have HTC := Lib.hid (show T < B1 ∨ E1 ≤ T from Or.inl (by have := HTR.out.lt; simp only at this; omega)))
      (try have HTR := Lib.hid (row_stepS HTR.out hb))
      have HB := Lib.hid (below_at HB.out hb)
      have HPC := Lib.hid (And.intro hp1 hp2)
      clear hcd hp1 hp2 hb hB1 hE1
      go_wp2_with fail
      rename World => v
      refine pt_on (fun u h => h) (HXE.out _ HB.out) ?_
      refine pt_eff ?_
      go_wp2_with fail
      obtain ⟨T, hT⟩ : ∃ T, T = v.heap.size := ⟨_, rfl⟩
      obtain ⟨u, hu⟩ : ∃ u, u = v.alloc (Obj.cells (madeCells #[Value.int .i64 0, .int .i64 0, .int .i64 0, .int .i64 0] (L.length * 4)) 127) := ⟨_, rfl⟩
      rw [← hu, ← hT]
      have hb : Below v.heap.size v u := by rw [hu]; exact (Below.refl _ _).alloc (Nat.le_refl _) _
      have HTR : Hid (Row u 127 4 (some ⟨T, 0, none⟩) L.length L.length ((List.replicate L.length (⟨0, 0, fun _ => 0⟩ : Th)).flatMap encT)) := Lib.hid (by rw [hu, hT]; exact threads_row v L.length (by omega))
      have HTW := Lib.hid (show Wa.heap.size ≤ T by have h3 := HB.out.size; have h4 := HAS.out; omega)
      (try have HTC := Lib.hid (show T < B1 ∨ E1 ≤ T from Or.inr (by have := HE1.out; omega)))
      (try have HCD := Lib.hid (HCD.out.below hb))
      (try have HE1 := Lib.hid (Nat.le_trans HE1.out hb.size))
      have HB := Lib.hid (below_at HB.out hb)
      clear hb hu hT
      rename World => v
      refine pt_on (fun u h => h) (HXE.out _ HB.out) ?_
      repeat (first
        | (refine pt_pure (v := ?_) (by rfl) (fun w1 => ?_) ?_
           rotate_left
           · go_simp <;> with_reducible rfl
           simp only [Act.put, List.setIfInBounds_toArray, List.set_cons_zero, List.set_cons_succ])
        | (refine pt_off (by rfl) ?_
           simp only [Act.put, List.setIfInBounds_toArray, List.set_cons_zero, List.set_cons_succ])
        | (refine pt_load_off (by rfl) ?_
           simp only [Act.put, List.setIfInBounds_toArray, List.set_cons_zero, List.set_cons_succ])
        | (refine pt_load (v := ?_) (by rfl) (fun w1 hw1 => ?_) ?_
           rotate_left
           · (have q := hw1
              obtain ⟨x0, x1, x2, xl⟩ := q
              clear hw1
              go_simp <;> with_reducible rfl)
           simp only [Act.put, List.setIfInBounds_toArray, List.set_cons_zero, List.set_cons_succ]))
      refine pt_eff ?_
      go_wp2_with fail
      obtain ⟨S, hS⟩ : ∃ S, S = v.heap.size := ⟨_, rfl⟩
      obtain ⟨u, hu⟩ : ∃ u, u = v.alloc (Obj.cells (stCells ⟨⟨pv, pm, L⟩, List.replicate L.length ⟨0, 0, fun _ => 0⟩, fun _ => 0, fun _ => 0⟩ PA pc T L.length) 124) := ⟨_, rfl⟩
      have hu' := hu
      simp only [stCells, List.length_replicate] at hu'
      rw [← hu', ← hS]
      clear hu'
      have hb : Below v.heap.size v u := by rw [hu]; exact (Below.refl _ _).alloc (Nat.le_refl _) _
      have HSA : Hid (SAt u (fun k => B1 ≤ k ∧ k < E1) S T ⟨⟨pv, pm, L⟩, List.replicate L.length ⟨0, 0, fun _ => 0⟩, fun _ => 0, fun _ => 0⟩) := Lib.hid ⟨PA, pc, _, by rw [hu, hS]; exact heap_alloc_new v _, by rw [List.length_replicate]; exact row_stepS HTR.out hb, (HCD.out.below hb).imp (fun k hk => hk), fun hk => by have := HE1.out; omega, fun hk => by have := HTC.out; omega, by have := HTR.out.lt; simp only at this; omega, by simp⟩
      have HB := Lib.hid (below_at HB.out hb)
      have HSW := Lib.hid (show Wa.heap.size ≤ S by have h3 := HTW.out; have := HTR.out.lt; simp only at this; omega)
      clear hb hu hS
      rename World => v
      refine pt_on (fun u h => h) (HXE.out _ HB.out) ?_
      repeat (first
        | (refine pt_pure (v := ?_) (by rfl) (fun w1 => ?_) ?_
           rotate_left
           · go_simp <;> with_reducible rfl
           simp only [Act.put, List.setIfInBounds_toArray, List.set_cons_zero, List.set_cons_succ])
        | (refine pt_off (by rfl) ?_
           simp only [Act.put, List.setIfInBounds_toArray, List.set_cons_zero, List.set_cons_succ])
        | (refine pt_load_off (by rfl) ?_
           simp only [Act.put, List.setIfInBounds_toArray, List.set_cons_zero, List.set_cons_succ])
        | (refine pt_load (v := ?_) (by rfl) (fun w1 hw1 => ?_) ?_
           rotate_left
           · (have q := hw1
              obtain ⟨x0, x1, x2, xl⟩ := q
              clear hw1
              go_simp <;> with_reducible rfl)
           simp only [Act.put, List.setIfInBounds_toArray, List.set_cons_zero, List.set_cons_succ]))
      refine pt_end ?_
      go_wp2_with fail
      go_meet
      exact ⟨S, T, _, rfl, HSA, Lib.hid ⟨HSW.out, HTW.out, fun k hk => by have := HBB1.out; omega⟩, HB⟩
    · go_wp2_with fail
      obtain ⟨T, hT⟩ : ∃ T, T = v.heap.size := ⟨_, rfl⟩
      obtain ⟨u, hu⟩ : ∃ u, u = v.alloc (Obj.cells (madeCells #[Value.int .i64 0, .int .i64 0, .int .i64 0, .int .i64 0] (L.length * 4)) 127) := ⟨_, rfl⟩
      rw [← hu, ← hT]
      have hb : Below v.heap.size v u := by rw [hu]; exact (Below.refl _ _).alloc (Nat.le_refl _) _
      have HTR : Hid (Row u 127 4 (some ⟨T, 0, none⟩) L.length L.length ((List.replicate L.length (⟨0, 0, fun _ => 0⟩ : Th)).flatMap encT)) := Lib.hid (by rw [hu, hT]; exact threads_row v L.length (by omega))
      have HTW := Lib.hid (show Wa.heap.size ≤ T by have h3 := HB.out.size; have h4 := HAS.out; omega)
      (try have HTC := Lib.hid (show T < B1 ∨ E1 ≤ T from Or.inr (by have := HE1.out; omega)))
      (try have HCD := Lib.hid (HCD.out.below hb))
      (try have HE1 := Lib.hid (Nat.le_trans HE1.out hb.size))
      have HB := Lib.hid (below_at HB.out hb)
      clear hb hu hT
      rename World => v
      refine pt_on (fun u h => h) (HXE.out _ HB.out) ?_
      refine pt_eff ?_
      go_wp2_with fail
      refine (HCP.out v HB.out).mono ?_
      rintro x u ⟨PA, pc, rfl, hcd, hp1, hp2, hb⟩
      obtain ⟨B1, hB1⟩ : ∃ B1, B1 = v.heap.size := ⟨_, rfl⟩
      obtain ⟨E1, hE1⟩ : ∃ E1, E1 = u.heap.size := ⟨_, rfl⟩
      rw [← hB1] at hcd
      have HCD := Lib.hid hcd.bound
      rw [← hE1] at HCD
      have HE1 := Lib.hid (Nat.le_of_eq hE1)
      have HBB1 := Lib.hid (show Wa.heap.size ≤ B1 by have h3 := HB.out.size; have h4 := HAS.out; omega)
      (try have HTC := Lib.hid (show T < B1 ∨ E1 ≤ T from Or.inl (by have := HTR.out.lt; simp only at this; omega)))
      (try have HTR := Lib.hid (row_stepS HTR.out hb))
      have HB := Lib.hid (below_at HB.out hb)
      have HPC := Lib.hid (And.intro hp1 hp2)
      clear hcd hp1 hp2 hb hB1 hE1
      go_wp2_with fail
      rename World => v
      refine pt_on (fun u h => h) (HXE.out _ HB.out) ?_
      repeat (first
        | (refine pt_pure (v := ?_) (by rfl) (fun w1 => ?_) ?_
           rotate_left
           · go_simp <;> with_reducible rfl
           simp only [Act.put, List.setIfInBounds_toArray, List.set_cons_zero, List.set_cons_succ])
        | (refine pt_off (by rfl) ?_
           simp only [Act.put, List.setIfInBounds_toArray, List.set_cons_zero, List.set_cons_succ])
        | (refine pt_load_off (by rfl) ?_
           simp only [Act.put, List.setIfInBounds_toArray, List.set_cons_zero, List.set_cons_succ])
        | (refine pt_load (v := ?_) (by rfl) (fun w1 hw1 => ?_) ?_
           rotate_left
           · (have q := hw1
              obtain ⟨x0, x1, x2, xl⟩ := q
              clear hw1
              go_simp <;> with_reducible rfl)
           simp only [Act.put, List.setIfInBounds_toArray, List.set_cons_zero, List.set_cons_succ]))
      refine pt_eff ?_
      go_wp2_with fail
      obtain ⟨S, hS⟩ : ∃ S, S = v.heap.size := ⟨_, rfl⟩
      obtain ⟨u, hu⟩ : ∃ u, u = v.alloc (Obj.cells (stCells ⟨⟨pv, pm, L⟩, List.replicate L.length ⟨0, 0, fun _ => 0⟩, fun _ => 0, fun _ => 0⟩ PA pc T L.length) 124) := ⟨_, rfl⟩
      have hu' := hu
      simp only [stCells, List.length_replicate] at hu'
      rw [← hu', ← hS]
      clear hu'
      have hb : Below v.heap.size v u := by rw [hu]; exact (Below.refl _ _).alloc (Nat.le_refl _) _
      have HSA : Hid (SAt u (fun k => B1 ≤ k ∧ k < E1) S T ⟨⟨pv, pm, L⟩, List.replicate L.length ⟨0, 0, fun _ => 0⟩, fun _ => 0, fun _ => 0⟩) := Lib.hid ⟨PA, pc, _, by rw [hu, hS]; exact heap_alloc_new v _, by rw [List.length_replicate]; exact row_stepS HTR.out hb, (HCD.out.below hb).imp (fun k hk => hk), fun hk => by have := HE1.out; omega, fun hk => by have := HTC.out; omega, by have := HTR.out.lt; simp only at this; omega, by simp⟩
      have HB := Lib.hid (below_at HB.out hb)
      have HSW := Lib.hid (show Wa.heap.size ≤ S by have h3 := HTW.out; have := HTR.out.lt; simp only at this; omega)
      clear hb hu hS
      rename World => v
      refine pt_on (fun u h => h) (HXE.out _ HB.out) ?_
      repeat (first
        | (refine pt_pure (v := ?_) (by rfl) (fun w1 => ?_) ?_
           rotate_left
           · go_simp <;> with_reducible rfl
           simp only [Act.put, List.setIfInBounds_toArray, List.set_cons_zero, List.set_cons_succ])
        | (refine pt_off (by rfl) ?_
           simp only [Act.put, List.setIfInBounds_toArray, List.set_cons_zero, List.set_cons_succ])
        | (refine pt_load_off (by rfl) ?_
           simp only [Act.put, List.setIfInBounds_toArray, List.set_cons_zero, List.set_cons_succ])
        | (refine pt_load (v := ?_) (by rfl) (fun w1 hw1 => ?_) ?_
           rotate_left
           · (have q := hw1
              obtain ⟨x0, x1, x2, xl⟩ := q
              clear hw1
              go_simp <;> with_reducible rfl)
           simp only [Act.put, List.setIfInBounds_toArray, List.set_cons_zero, List.set_cons_succ]))
      refine pt_end ?_
      go_wp2_with fail
      go_meet
      exact ⟨S, T, _, rfl, HSA, Lib.hid ⟨HSW.out, HTW.out, fun k hk => by have := HBB1.out; omega⟩, HB⟩
  case rest =>
    obtain ⟨S, T, C, rfl, HSA, HW, HB⟩ := hcut
    clear HB1 HOK
    obtain ⟨PA, pc, tc, z0, z1, z2, z3, zv, zh, zc⟩ := HSA.out.cells
    have sl := HSA.out.lt.1
    simp only [List.length_replicate] at z3
    clear z0 z1 z2 zv zh zc
    go_wp2_with fail
    go_loopw [33] (fun x wr => ∃ (i : Nat), i ≤ L.length ∧ x = .int .i64 i ∧ Hid (SAt wr C S T ⟨⟨pv, pm, L⟩, thK L.length i f, fun _ => 0, fun _ => 0⟩) ∧ Hid (Below Wa.heap.size Wa wr)) (fun x _ => L.length - (intOf x).toNat)
    case atStart => exact ⟨0, Nat.zero_le _, rfl, Lib.hid (by rw [thK_zero]; exact HSA.out), HB⟩
    case round =>
      clear HSA HB z3 sl
      obtain ⟨i, hi, rfl, HSA, HB⟩ := hrel
      by_cases hlt : i < L.length
      · obtain ⟨PA', pc', tc', z0, z1, z2, z3, zv, zh, zc⟩ := HSA.out.cells
        have sl := HSA.out.lt.1
        have tl := HSA.out.lt.2
        simp only [thK_len] at z3
        obtain ⟨t0, t1, tr⟩ := HSA.out.thread i _ (thK_get hlt)
        have tf := HSA.out.free.2 (i * 4 + 1)
        obtain ⟨hs, hm⟩ := HSA.out.set_th (thK_get hlt) 1 (by omega) (.int .i64 (f : Nat)) (y := ⟨0, f, fun _ => 0⟩) rfl
        simp only [thK_set hlt] at hs
        have k1 : (0 : Int) ≤ (i : Int) := Int.natCast_nonneg _
        have k2 : (i : Int) < (L.length : Int) := by omega
        have HS := Lib.hid hs
        have HMM := Lib.hid hm
        clear z0 z1 z2 zv zh zc tr t0 hs hm
        go_wp2_with fail
        go_roundw
        case rel => exact ⟨i + 1, by omega, by go_num, HS, Lib.hid (HB.out.trans (HMM.out.below _ HB.out.size (fun k hk e => by have := HW.out.2.1; omega)))⟩
        case measure => simp [intOf]; omega
      · obtain rfl : i = L.length := by omega
        have hall := HSA.out
        rw [thK_all] at hall
        have HSA2 : Hid (SAt wr C S T ⟨⟨pv, pm, L⟩, L.map (fun _ => ⟨0, f, fun _ => 0⟩), fun _ => 0, fun k => if k < 0 then -1 else 0⟩) := Lib.hid (hall.eqv rfl rfl (fun _ _ => rfl) (fun _ _ => rfl))
        clear hall HSA
        go_wp2_with fail
        go_loopw [45] (fun x wr => ∃ (i : Nat), i ≤ 2 ∧ x = .int .i64 i ∧ Hid (SAt wr C S T ⟨⟨pv, pm, L⟩, L.map (fun _ => ⟨0, f, fun _ => 0⟩), fun _ => 0, fun k => if k < i then -1 else 0⟩) ∧ Hid (Below Wa.heap.size Wa wr)) (fun x _ => 2 - (intOf x).toNat)
        case atStart => exact ⟨0, by omega, rfl, HSA2, HB⟩
        case round =>
          clear HSA2 HB
          obtain ⟨i, hi, rfl, HSA, HB⟩ := hrel
          by_cases hlt : i < 2
          · have sl := HSA.out.lt.1
            obtain ⟨PA', pc', tc', z0, z1, z2, z3, zv, zh, zc⟩ := HSA.out.cells
            have hh := zh i hlt
            have sf := HSA.out.free.1 (8 + i)
            obtain ⟨hs, hm⟩ := HSA.out.set_h hlt (-1)
            have k1 : (0 : Int) ≤ (i : Int) := Int.natCast_nonneg _
            have k2 : (i : Int) < 2 := by omega
            have HS := Lib.hid hs
            have HMM := Lib.hid hm
            clear z0 z1 z2 z3 zv zh zc hs hm
            go_wp2_with fail
            go_roundw
            case rel => exact ⟨i + 1, by omega, by go_num, Lib.hid (HS.out.eqv rfl rfl (fun _ _ => rfl) (fun x hx => by
              simp only [updI]
              by_cases hxi : x = i
              · rw [if_pos hxi, if_pos (by omega)]
              · rw [if_neg hxi]
                by_cases h2 : x < i
                · rw [if_pos h2, if_pos (by omega)]
                · rw [if_neg h2, if_neg (by omega)])), Lib.hid (HB.out.trans (HMM.out.below _ HB.out.size (fun k hk e => by have := HW.out.1; omega)))⟩
            case measure => simp [intOf]; omega
          · have hi2 : i = 2 := by omega
            have HI := Lib.hid hi2
            clear hi2
            go_wp2_with fail
            go_ret2
            exact ⟨S, rfl, T, C, HSA.out.eqv rfl rfl (fun _ _ => rfl) (fun x hx => by show (-1 : Int) = if x < i then -1 else 0; rw [if_pos (by have := HI.out; omega)]), by have := HW.out.1; have := HAS.out; omega, by have := HW.out.2.1; have := HAS.out; omega, fun k hk => by have := HW.out.2.2 k hk; have := HAS.out; omega, below_at HBA.out HB.out⟩
end Go.Proofs.YtckdofjpoajblaaGreat
namespace Go.Proofs.YtckdofjpoajblaaGreat
open Go.RowKit
set_option linter.unusedVariables false
namespace Pr
def ins (s : St) (t : Nat) : Option Ins :=
  match s.th[t]?, s.p.code[t]? with
  | some x, some c => if x.fuel = 0 then none else c[x.pc]?
  | _, _ => none
structure Wf (s : St) : Prop where
  ok : Pr.Ok s.p
  len : s.th.length = s.p.code.length
  bnd : ∀ (t : Nat) (x : Th), s.th[t]? = some x → x.fuel ≤ 8 ∧ x.pc ≤ 8
theorem Wf.n4 {s : St} (h : Wf s) : s.th.length ≤ 4 := by rw [h.len]; exact h.ok.1.2.2.2.2.2
theorem Wf.n1 {s : St} (h : Wf s) : 1 ≤ s.th.length := by rw [h.len]; exact h.ok.1.2.2.2.2.1
theorem Wf.q8 {s : St} (h : Wf s) {t : Nat} {q : List Ins} (hq : s.p.code[t]? = some q) : q.length ≤ 8 := (h.ok.2 q (List.mem_of_getElem? hq)).1
theorem Wf.insOk {s : St} (h : Wf s) {t : Nat} {i : Ins} (hi : ins s t = some i) : ∃ n : Int, 0 ≤ n ∧ n ≤ 8 ∧ InsOk s.p.vars s.p.mtx n i := by
  unfold ins at hi
  split at hi
  · rename_i x c hx hc
    split at hi
    · cases hi
    · have hm := h.ok.2 c (List.mem_of_getElem? hc)
      exact ⟨c.length, by omega, by have := hm.1; omega, hm.2 i (List.mem_of_getElem? hi)⟩
  · cases hi
theorem start_wf {p : Pg} {f : Nat} (h : Ok p) (hf : f ≤ 8) : Wf (start p f) := by
  refine ⟨h, by simp [start], fun t x hx => ?_⟩
  simp only [start, List.getElem?_map] at hx
  obtain ⟨c, _, rfl⟩ := Option.map_eq_some_iff.1 hx
  exact ⟨hf, Nat.zero_le _⟩
def zeroI : Ins := ⟨0, 0, 0, 0⟩
end Pr
theorem threads_any (w : World) (C : Nat → Prop) (S T : Nat) (s : St) (h : SAt w C S T s) :
    Calls Tryz.prog 57 #[.pointer (some ⟨S, 0, none⟩)] w fun x w' => x = .returned (.int .i64 (s.th.length : Nat)) ∧ w = w' := by
  obtain ⟨PA, pc, tc, z0, z1, z2, z3, zv, zh, zc⟩ := h.cells
  have sl := h.lt.1
  generalize s.th.length = n at *
  clear z0 z1 z2 zv zh zc h
  go_enter Tryz.func57, Tryz.ntmps57
  go_wp2_with fail
  go_ret
  exact ⟨rfl, rfl⟩
theorem is_any (w : World) (C : Nat → Prop) (S T : Nat) (s : St) (t : Int) (h : SAt w C S T s) :
    Calls Tryz.prog 69 #[.pointer (some ⟨S, 0, none⟩), .int .i64 t] w fun x w' => x = .returned (.bool (decide (0 ≤ t ∧ t < (s.th.length : Int)))) ∧ w = w' := by
  have hc := threads_any w C S T s h
  generalize s.th.length = n at *
  have HC := Lib.hid hc
  clear hc h
  by_cases h0 : 0 ≤ t
  · go_enter Tryz.func69, Tryz.ntmps69
    go_wp2_with fail
    refine HC.out.mono ?_
    rintro x w' ⟨rfl, rfl⟩
    by_cases h1 : t < (n : Int)
    · go_wp2_with fail
      go_ret
      exact ⟨by rw [decide_eq_true ⟨h0, h1⟩]; rfl, rfl⟩
    · have hd : decide (t < (n : Int)) = false := decide_eq_false h1
      go_wp2_with fail
      go_ret
      exact ⟨by rw [decide_eq_false (show ¬ (0 ≤ t ∧ t < (n : Int)) by omega)]; first | rfl | simp [hd], rfl⟩
  · go_enter Tryz.func69, Tryz.ntmps69
    go_wp2_with fail
    go_ret
    exact ⟨by rw [decide_eq_false (show ¬ (0 : Int) ≤ t by omega)]; rfl, rfl⟩
theorem in4_exit {w : World} {X : Nat} {a b c d : Value} {T : TypeId} (h : w.heap[X]? = some (.cells #[a, b, c, d] T (0, 0))) (x y z u : Value) : ∃ V, V = (((w.setCell ⟨X, 0, none⟩ x).setCell ⟨X, 1, none⟩ y).setCell ⟨X, 2, none⟩ z).setCell ⟨X, 3, none⟩ u ∧
    (V.cell? ⟨X, 0, none⟩ = some x ∧ V.cell? ⟨X, 1, none⟩ = some y ∧ V.cell? ⟨X, 2, none⟩ = some z ∧ V.cell? ⟨X, 3, none⟩ = some u) ∧ Mod (fun k => k = X) w V := by
  have h1 := set_blk h 0 x
  have h2 := set_blk h1 1 y
  have h3 := set_blk h2 2 z
  have h4 := set_blk h3 3 u
  refine ⟨_, rfl, ⟨?_, ?_, ?_, ?_⟩, ((((Mod.refl (fun k => k = X) w).setCell (p := ⟨X, 0, none⟩) (fun _ => rfl) _).setCell (p := ⟨X, 1, none⟩) (fun _ => rfl) _).setCell (p := ⟨X, 2, none⟩) (fun _ => rfl) _).setCell (p := ⟨X, 3, none⟩) (fun _ => rfl) _⟩ <;> (rw [cell_blk h4]; simp)
theorem in4_cells {w : World} {X : Nat} {a b c d : Value} {T : TypeId} (h : w.heap[X]? = some (.cells #[a, b, c, d] T (0, 0))) : (w.cell? ⟨X, 0, none⟩ = some a ∧ w.cell? ⟨X, 1, none⟩ = some b ∧ w.cell? ⟨X, 2, none⟩ = some c ∧ w.cell? ⟨X, 3, none⟩ = some d) ∧ X < w.heap.size ∧ w.frozen? ⟨X, 0, none⟩ = false ∧ w.frozen? ⟨X, 1, none⟩ = false ∧ w.frozen? ⟨X, 2, none⟩ = false ∧ w.frozen? ⟨X, 3, none⟩ = false :=
  ⟨⟨by rw [cell_blk h]; rfl, by rw [cell_blk h]; rfl, by rw [cell_blk h]; rfl, by rw [cell_blk h]; rfl⟩, blk_lt h, free_blk h _, free_blk h _, free_blk h _, free_blk h _⟩
set_option maxRecDepth 100000 in
set_option maxHeartbeats 2000000 in
theorem instr_any (w : World) (C : Nat → Prop) (S T : Nat) (s : St) (t : Nat) (h : SAt w C S T s) (hw : Pr.Wf s) (ht : t < s.th.length) :
    Calls Tryz.prog 70 #[.pointer (some ⟨S, 0, none⟩), .int .i64 (t : Int)] w fun x w' => x = .returned (.tuple #[valI ((Pr.ins s t).getD Pr.zeroI), .bool (Pr.ins s t).isSome]) ∧ Below w.heap.size w w' := by
  obtain ⟨W, X, hW, hX, hB, hXl, hXe⟩ := ins_box w Pr.zeroI
  have hXk : W.heap[X]? = some (.cells #[.int .i64 0, .int .i64 0, .int .i64 0, .int .i64 0] 98 (0, 0)) := by rw [hW, hX]; exact heap_alloc_new w _
  have hS := h.below hB
  have hcall := is_any W C S T s t hS
  rw [decide_eq_true (show (0 : Int) ≤ t ∧ (t : Int) < s.th.length by omega)] at hcall
  obtain ⟨x, hx⟩ := get_some ht
  obtain ⟨q, hq⟩ := get_some (show t < s.p.code.length by rw [← hw.len]; exact ht)
  have hn4 := hw.n4
  have hq8 := hw.q8 hq
  obtain ⟨hf8, hp8⟩ := hw.bnd t x hx
  obtain ⟨PA, pc, tc, z0, z1, z2, z3, zv, zh, zc⟩ := hS.cells
  obtain ⟨t0, t1, tr⟩ := hS.thread t x hx
  obtain ⟨g, o, A', c', rfl, hCg, hgl, hrq, hqc, hcm, hcell⟩ := zc.get t q hq
  have hins : Pr.ins s t = if x.fuel = 0 then none else q[x.pc]? := by unfold Pr.ins; rw [hx, hq]
  have hcode : s.p.code.length = s.th.length := hw.len.symm
  have HCALL := Lib.hid hcall
  have HINS := Lib.hid hins
  have HZ := Lib.hid (And.intro z2 (And.intro z3 (And.intro t0 t1)))
  have HCELL := Lib.hid hcell
  have HRQ := Lib.hid hrq
  have HSL := Lib.hid hS.lt
  have HB := Lib.hid hB
  have HXK := Lib.hid hXk
  have HCO := Lib.hid hcode
  have HS := Lib.hid hS
  have HCG := Lib.hid hCg
  obtain ⟨n, hn⟩ : ∃ n, n = s.th.length := ⟨_, rfl⟩
  rw [hcode, ← hn] at HZ
  rw [← hn] at ht hn4
  have HNN := Lib.hid hn
  have HX8 := Lib.hid hX
  clear hcall hins z0 z1 z2 z3 zv zh zc t0 t1 tr hcell hrq hS hB hXk hcode hn hx hq h hXe hCg hX
  go_enter Tryz.func70, Tryz.ntmps70
  go_upto_region 1 with fail
  have hW' : W = w.alloc (Obj.cells #[.int .i64 0, .int .i64 0, .int .i64 0, .int .i64 0] 98) := hW
  rw [← hW', ← HX8.out]
  clear hW hW'
  go_wp2_with fail
  refine HCALL.out.mono ?_
  rintro y w1 ⟨rfl, rfl⟩
  go_upto_region 3 with fail
  go_cut [6, 7] (fun a b w2 => a = .pointer (some ⟨T, t * 4, none⟩) ∧ b = .slice A' q.length c' ∧ Hid (Below W.heap.size W w2))
  case first =>
    refine wp_region_planF (by kernel_rfl) (fun u => Below W.heap.size W u) [] [(0, .pure), (1, .pure), (2, .pure), (3, .load), (4, .pure), (5, .pure), (6, .pure), (7, .pure), (8, .pure), (9, .pure), (10, .load), (11, .pure), (12, .pure), (13, .load), (14, .pure), (15, .pure)] (by simp only [List.map_cons, List.map_nil, List.getElem?_toArray, List.getElem?_cons_succ, List.getElem?_cons_zero]; rfl) (by kernel_rfl) (fun _ _ d _ _ h => by cases d <;> exact h) ((Below.refl _ _).drew) ?_
    have k1 : (0 : Int) ≤ (t : Int) := Int.natCast_nonneg _
    have k2 : (t : Int) < (n : Int) := by omega
    repeat (first
      | (refine plan_pure (v := ?_) (by rfl) (fun w1 => ?_) ?_
         rotate_left
         · go_simp <;> with_reducible rfl
         simp only [Act.put, List.setIfInBounds_toArray, List.set_cons_zero, List.set_cons_succ])
      | (refine plan_off (by rfl) ?_
         simp only [Act.put, List.setIfInBounds_toArray, List.set_cons_zero, List.set_cons_succ])
      | (refine plan_load_off (by rfl) ?_
         simp only [Act.put, List.setIfInBounds_toArray, List.set_cons_zero, List.set_cons_succ])
      | (refine plan_load (v := ?_) (by rfl) (fun w1 hw1 => ?_) ?_
         rotate_left
         · (have q3 := (World.cell?_of_block (hw1.block S HSL.out.1)).trans HZ.out.2.1
            have q2 := (World.cell?_of_block (hw1.block S HSL.out.1)).trans HZ.out.1
            have q1 := HCELL.out w1 (hw1.block g hgl)
            clear hw1
            go_simp <;> with_reducible rfl)
         simp only [Act.put, List.setIfInBounds_toArray, List.set_cons_zero, List.set_cons_succ]))
    refine plan_end ?_
    go_wp2_with fail
    go_meet
    exact ⟨by first | rfl | simp, rfl, Lib.hid (Below.refl _ _).drew⟩
  case rest =>
    obtain ⟨rfl, rfl, HBC⟩ := hcut
    have t0 := (World.cell?_of_block (HBC.out.block T HSL.out.2)).trans HZ.out.2.2.1
    have t1 := (World.cell?_of_block (HBC.out.block T HSL.out.2)).trans HZ.out.2.2.2
    have hXc := (HBC.out.block X hXl).trans HXK.out
    have tl : T < wc.heap.size := by have := HBC.out.size; have := HSL.out.2; omega
    have HXC := Lib.hid hXc
    have HXW := Lib.hid (Nat.le_of_eq HX8.out.symm)
    clear hXc
    by_cases hf : x.fuel = 0
    · have q1 : ((x.fuel : Nat) : Int) = 0 := by omega
      have HF := Lib.hid hf
      clear hf
      obtain ⟨V2, hV2, ⟨d0, d1, d2, d3⟩, hmv⟩ := in4_exit HXC.out (.int .i64 0) (.int .i64 0) (.int .i64 0) (.int .i64 0)
      obtain ⟨⟨e0, e1, e2, e3⟩, el, g0, g1, g2, g3⟩ := in4_cells HXC.out
      have HV2 := Lib.hid hV2
      have HMV := Lib.hid hmv
      clear hV2 hmv
      go_wp2_with fail
      rw [← HV2.out]
      refine bodyPost_ret (v := .tuple #[.agg #[.int .i64 0, .int .i64 0, .int .i64 0, .int .i64 0], .bool false]) (by simp [results, Tryz.results70, go_sem, d0, d1, d2, d3]) rfl ?_
      exact ⟨by rw [show Pr.ins s t = none by rw [HINS.out]; rw [if_pos HF.out]]; rfl, (below_at HB.out HBC.out).trans (HMV.out.below _ (by have := HB.out.size; have := HBC.out.size; omega) (fun k hk e => by have := HXW.out; omega))⟩
    · have q1 : ¬ ((x.fuel : Nat) : Int) = 0 := by omega
      have e1 : (((x.fuel : Nat) : Int) == 0) = false := by simpa using hf
      have HF := Lib.hid hf
      clear hf
      by_cases hpc : x.pc < q.length
      · obtain ⟨i, hi⟩ := get_some hpc
        have q2 : ((x.pc : Nat) : Int) < ((q.length : Nat) : Int) := by omega
        have q3 : (0 : Int) ≤ ((x.pc : Nat) : Int) := by omega
        obtain ⟨g2, o2, rfl, hC2, hg2, hin⟩ := HRQ.out.ins x.pc i hi
        obtain ⟨i0, i1, i2, i3⟩ := hin wc (HBC.out.block g2 hg2)
        have g2l : g2 < wc.heap.size := by have := HBC.out.size; omega
        obtain ⟨V2, hV2, ⟨d0, d1, d2, d3⟩, hmv⟩ := in4_exit HXC.out (.int .i64 i.k) (.int .i64 i.r) (.int .i64 i.x) (.int .i64 i.n)
        obtain ⟨⟨e0, e1, e2, e3⟩, el, g0, g1, g2, g3⟩ := in4_cells HXC.out
        have HV2 := Lib.hid hV2
        have HMV := Lib.hid hmv
        have HI := Lib.hid hi
        clear hV2 hmv hi hin
        go_wp2_with fail
        rw [← HV2.out]
        refine bodyPost_ret (v := .tuple #[.agg #[.int .i64 i.k, .int .i64 i.r, .int .i64 i.x, .int .i64 i.n], .bool true]) (by simp [results, Tryz.results70, go_sem, d0, d1, d2, d3]) rfl ?_
        exact ⟨by rw [show Pr.ins s t = some i by rw [HINS.out, if_neg HF.out, HI.out]]; rfl, (below_at HB.out HBC.out).trans (HMV.out.below _ (by have := HB.out.size; have := HBC.out.size; omega) (fun k hk e => by have := HXW.out; omega))⟩
      · have q2 : ¬ ((x.pc : Nat) : Int) < ((q.length : Nat) : Int) := by omega
        have HP := Lib.hid hpc
        clear hpc
        obtain ⟨V2, hV2, ⟨d0, d1, d2, d3⟩, hmv⟩ := in4_exit HXC.out (.int .i64 0) (.int .i64 0) (.int .i64 0) (.int .i64 0)
        obtain ⟨⟨e0, e1, e2, e3⟩, el, g0, g1, g2, g3⟩ := in4_cells HXC.out
        have HV2 := Lib.hid hV2
        have HMV := Lib.hid hmv
        clear hV2 hmv
        go_wp2_with fail
        rw [← HV2.out]
        refine bodyPost_ret (v := .tuple #[.agg #[.int .i64 0, .int .i64 0, .int .i64 0, .int .i64 0], .bool false]) (by simp [results, Tryz.results70, go_sem, d0, d1, d2, d3]) rfl ?_
        exact ⟨by rw [show Pr.ins s t = none by rw [HINS.out]; rw [if_neg HF.out, List.getElem?_eq_none (by have := HP.out; omega)]]; rfl, (below_at HB.out HBC.out).trans (HMV.out.below _ (by have := HB.out.size; have := HBC.out.size; omega) (fun k hk e => by have := HXW.out; omega))⟩
end Go.Proofs.YtckdofjpoajblaaGreat
