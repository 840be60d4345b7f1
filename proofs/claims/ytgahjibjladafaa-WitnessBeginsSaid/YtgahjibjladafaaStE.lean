/- States: what they are, and what they look like in memory. -/
import Derived.Test.YtgahjibjladafaaStD
namespace Go.Proofs.Ytgahjibjladafaa
open Go.RowKit
set_option linter.unusedVariables false

structure Th where
  pc : Nat
  fuel : Nat
  r : Nat → Int
structure St where
  p : Pg
  th : List Th
  v : Nat → Int
  h : Nat → Int
def updI (f : Nat → Int) (k : Nat) (x : Int) : Nat → Int := fun j => if j = k then x else f j
theorem updI_same (f : Nat → Int) (k : Nat) (x : Int) : updI f k x k = x := by simp [updI]
theorem updI_ne (f : Nat → Int) {k j : Nat} (x : Int) (h : j ≠ k) : updI f k x j = f j := by simp [updI, h]
def encT (t : Th) : List Value := [.int .i64 (t.pc : Nat), .int .i64 (t.fuel : Nat), .int .i64 (t.r 0), .int .i64 (t.r 1)]
theorem encT_len (t : Th) : (encT t).length = 4 := rfl
def stCells (s : St) (PA : Option Addr) (pc T : Nat) : Array Value :=
  #[.int .i64 s.p.vars, .int .i64 s.p.mtx, .slice PA s.p.code.length pc, .slice (some ⟨T, 0, none⟩) s.th.length s.th.length, .int .i64 (s.v 0), .int .i64 (s.v 1), .int .i64 (s.v 2), .int .i64 (s.v 3), .int .i64 (s.h 0), .int .i64 (s.h 1)]
/-- state s lies in block S, its threads in block T, its program's code in blocks of C -/
def SAt (w : World) (C : Nat → Prop) (S T : Nat) (s : St) : Prop :=
  ∃ PA pc, w.heap[S]? = some (.cells (stCells s PA pc T) 125 (0, 0)) ∧ Row w 128 4 (some ⟨T, 0, none⟩) s.th.length s.th.length (s.th.flatMap encT) ∧ CdAt w C PA s.p.code ∧ ¬ C S ∧ ¬ C T ∧ S ≠ T ∧ s.th.length = s.p.code.length
theorem SAt.lt {w : World} {C : Nat → Prop} {S T : Nat} {s : St} (h : SAt w C S T s) : S < w.heap.size ∧ T < w.heap.size := by
  obtain ⟨PA, pc, h1, h2, _⟩ := h
  exact ⟨blk_lt h1, h2.lt⟩
theorem SAt.len {w : World} {C : Nat → Prop} {S T : Nat} {s : St} (h : SAt w C S T s) : s.th.length = s.p.code.length := by
  obtain ⟨PA, pc, _, _, _, _, _, _, h⟩ := h
  exact h
theorem SAt.mod {w w' : World} {F C : Nat → Prop} {S T : Nat} {s : St} (h : SAt w C S T s) (hm : Mod F w w') (hC : ∀ k, C k → ¬ F k) (hS : ¬ F S) (hT : ¬ F T) : SAt w' C S T s := by
  obtain ⟨PA, pc, h1, h2, h3, h4⟩ := h
  exact ⟨PA, pc, (hm.block S (blk_lt h1) hS).trans h1, h2.mod hm (fun a ha => by injection ha with ha; subst ha; exact hT), h3.mod hm hC, h4⟩
theorem SAt.below {w w' : World} {C : Nat → Prop} {S T : Nat} {s : St} (h : SAt w C S T s) (hb : Below w.heap.size w w') : SAt w' C S T s := h.mod (F := fun _ => False) (Mod.of_below_size hb _) (fun _ _ h => h) (fun h => h) (fun h => h)
/-- the cells of a state -/
theorem SAt.cells {w : World} {C : Nat → Prop} {S T : Nat} {s : St} (h : SAt w C S T s) : ∃ PA pc, w.cell? ⟨S, 0, none⟩ = some (.int .i64 s.p.vars) ∧ w.cell? ⟨S, 1, none⟩ = some (.int .i64 s.p.mtx) ∧ w.cell? ⟨S, 2, none⟩ = some (.slice PA s.p.code.length pc) ∧ w.cell? ⟨S, 3, none⟩ = some (.slice (some ⟨T, 0, none⟩) s.th.length s.th.length) ∧
    (∀ x, x < 4 → w.cell? ⟨S, 4 + x, none⟩ = some (.int .i64 (s.v x))) ∧ (∀ x, x < 2 → w.cell? ⟨S, 8 + x, none⟩ = some (.int .i64 (s.h x))) ∧ CdAt w C PA s.p.code := by
  obtain ⟨PA, pc, h1, h2, h3, h4⟩ := h
  refine ⟨PA, pc, by rw [cell_blk h1]; rfl, by rw [cell_blk h1]; rfl, by rw [cell_blk h1]; rfl, by rw [cell_blk h1]; rfl, fun x hx => ?_, fun x hx => ?_, h3⟩
  · rw [cell_blk h1]
    rcases (show x = 0 ∨ x = 1 ∨ x = 2 ∨ x = 3 by omega) with rfl | rfl | rfl | rfl <;> rfl
  · rw [cell_blk h1]
    rcases (show x = 0 ∨ x = 1 by omega) with rfl | rfl <;> rfl
/-- a thread's cells -/
theorem SAt.thread {w : World} {C : Nat → Prop} {S T : Nat} {s : St} (h : SAt w C S T s) : ∀ (t : Nat) (x : Th), s.th[t]? = some x → w.cell? ⟨T, t * 4, none⟩ = some (.int .i64 (x.pc : Nat)) ∧ w.cell? ⟨T, t * 4 + 1, none⟩ = some (.int .i64 (x.fuel : Nat)) ∧ (∀ r, r < 2 → w.cell? ⟨T, t * 4 + 2 + r, none⟩ = some (.int .i64 (x.r r))) := fun t x hx => by
  obtain ⟨PA, pc, h1, h2, h3⟩ := h
  obtain ⟨ht, rfl⟩ := List.getElem?_eq_some_iff.1 hx
  have hcl : ∀ r, r < 4 → w.cell? ⟨T, t * 4 + r, none⟩ = (encT s.th[t])[r]? := fun r hr => by
    have := h2.cell (t * 4 + r) (by omega)
    rw [Nat.zero_add] at this
    rw [this, flat_get (f := encT) (sz := 4) encT_len s.th t r ht hr]
  refine ⟨hcl 0 (by omega), hcl 1 (by omega), fun r hr => ?_⟩
  rw [Nat.add_assoc, hcl (2 + r) (by omega)]
  rcases (show r = 0 ∨ r = 1 by omega) with rfl | rfl <;> rfl
theorem SAt.free {w : World} {C : Nat → Prop} {S T : Nat} {s : St} (h : SAt w C S T s) : (∀ k, w.frozen? ⟨S, k, none⟩ = false) ∧ (∀ k, w.frozen? ⟨T, k, none⟩ = false) := by
  obtain ⟨PA, pc, h1, h2, h3⟩ := h
  exact ⟨fun k => free_blk h1 k, fun k => h2.free k⟩
theorem flat_set {α : Type} {f : α → List Value} {sz : Nat} (hf : ∀ x, (f x).length = sz) {x y : α} {r : Nat} {v : Value} (hr : r < sz) (hy : f y = (f x).set r v) : ∀ (xs : List α) (q : Nat), xs[q]? = some x → (xs.flatMap f).set (q * sz + r) v = (xs.set q y).flatMap f := by
  intro xs
  induction xs with
  | nil => intro q h; simp at h
  | cons a xs ih =>
    intro q h
    cases q with
    | zero =>
      simp at h
      subst h
      rw [Nat.zero_mul, Nat.zero_add, List.flatMap_cons, List.set_cons_zero, List.flatMap_cons, hy, List.set_append_left _ _ (by rw [hf]; exact hr)]
    | succ q =>
      simp at h
      rw [List.flatMap_cons, List.set_cons_succ, List.flatMap_cons, List.set_append_right _ _ (by rw [hf, Nat.succ_mul]; omega), hf, ← ih q h]
      congr 2
      rw [Nat.succ_mul]; omega
/-- a thread's cell is written -/
theorem SAt.set_th {w : World} {C : Nat → Prop} {S T : Nat} {s : St} (h : SAt w C S T s) {t : Nat} {x y : Th} (hx : s.th[t]? = some x) (r : Nat) (hr : r < 4) (v : Value) (hy : encT y = (encT x).set r v) :
    SAt (w.setCell ⟨T, t * 4 + r, none⟩ v) C S T { s with th := s.th.set t y } ∧ Mod (fun k => k = T) w (w.setCell ⟨T, t * 4 + r, none⟩ v) := by
  have hm : Mod (fun k => k = T) w (w.setCell ⟨T, t * 4 + r, none⟩ v) := (Mod.refl (fun k => k = T) w).setCell (p := ⟨T, t * 4 + r, none⟩) (fun _ => rfl) v
  obtain ⟨PA, pc, h1, h2, h3, h4, h5, h6, h7⟩ := h
  have ht := (List.getElem?_eq_some_iff.1 hx).1
  refine ⟨⟨PA, pc, ?_, ?_, h3.mod hm (fun k hk e => h5 (e ▸ hk)), h4, h5, h6, by simp [h7]⟩, hm⟩
  · rw [hm.block S (blk_lt h1) h6, h1]
    simp [stCells]
  · have := h2.set (t * 4 + r) (by omega) v
    rw [Nat.zero_add, flat_set (f := encT) encT_len hr hy s.th t hx] at this
    simpa using this
/-- a variable is written -/
theorem SAt.set_v {w : World} {C : Nat → Prop} {S T : Nat} {s : St} (h : SAt w C S T s) {x : Nat} (hx : x < 4) (n : Int) :
    SAt (w.setCell ⟨S, 4 + x, none⟩ (.int .i64 n)) C S T { s with v := updI s.v x n } ∧ Mod (fun k => k = S) w (w.setCell ⟨S, 4 + x, none⟩ (.int .i64 n)) := by
  have hm : Mod (fun k => k = S) w (w.setCell ⟨S, 4 + x, none⟩ (.int .i64 n)) := (Mod.refl (fun k => k = S) w).setCell (p := ⟨S, 4 + x, none⟩) (fun _ => rfl) _
  obtain ⟨PA, pc, h1, h2, h3, h4, h5, h6, h7⟩ := h
  refine ⟨⟨PA, pc, ?_, h2.mod hm (fun a ha e => by injection ha with ha; subst ha; exact h6 e.symm), h3.mod hm (fun k hk e => h4 (e ▸ hk)), h4, h5, h6, h7⟩, hm⟩
  rw [set_blk h1]
  rcases (show x = 0 ∨ x = 1 ∨ x = 2 ∨ x = 3 by omega) with rfl | rfl | rfl | rfl <;> simp [stCells, updI]
/-- a holder is written -/
theorem SAt.set_h {w : World} {C : Nat → Prop} {S T : Nat} {s : St} (h : SAt w C S T s) {x : Nat} (hx : x < 2) (n : Int) :
    SAt (w.setCell ⟨S, 8 + x, none⟩ (.int .i64 n)) C S T { s with h := updI s.h x n } ∧ Mod (fun k => k = S) w (w.setCell ⟨S, 8 + x, none⟩ (.int .i64 n)) := by
  have hm : Mod (fun k => k = S) w (w.setCell ⟨S, 8 + x, none⟩ (.int .i64 n)) := (Mod.refl (fun k => k = S) w).setCell (p := ⟨S, 8 + x, none⟩) (fun _ => rfl) _
  obtain ⟨PA, pc, h1, h2, h3, h4, h5, h6, h7⟩ := h
  refine ⟨⟨PA, pc, ?_, h2.mod hm (fun a ha e => by injection ha with ha; subst ha; exact h6 e.symm), h3.mod hm (fun k hk e => h4 (e ▸ hk)), h4, h5, h6, h7⟩, hm⟩
  rw [set_blk h1]
  rcases (show x = 0 ∨ x = 1 by omega) with rfl | rfl <;> simp [stCells, updI]
namespace Pr
def start (p : Pg) (fuel : Nat) : St := ⟨p, p.code.map (fun _ => ⟨0, fuel, fun _ => 0⟩), fun _ => 0, fun _ => -1⟩
end Pr
end Go.Proofs.Ytgahjibjladafaa
