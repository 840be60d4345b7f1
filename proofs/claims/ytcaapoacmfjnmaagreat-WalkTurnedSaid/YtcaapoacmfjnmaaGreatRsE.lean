/- The reference's states: the same plain model, another layout: threads in a row that was appended to. -/
import Derived.Test.YtcaapoacmfjnmaaGreatStT
namespace Go.Proofs.YtcaapoacmfjnmaaGreat
open Go.RowKit
set_option linter.unusedVariables false

def rfCells (s : St) (PA : Option Addr) (pc T o tc : Nat) : Array Value :=
  #[.int .i64 s.p.vars, .int .i64 s.p.mtx, .slice PA s.p.code.length pc, .slice (some ⟨T, o, none⟩) s.th.length tc, .int .i64 (s.v 0), .int .i64 (s.v 1), .int .i64 (s.v 2), .int .i64 (s.v 3), .int .i64 (s.h 0), .int .i64 (s.h 1)]
/-- state s lies in block S, its threads in block T, its program's code in blocks of C -/
def RAt (w : World) (C : Nat → Prop) (S T o : Nat) (s : St) : Prop :=
  ∃ PA pc tc, w.heap[S]? = some (.cells (rfCells s PA pc T o tc) 151 (0, 0)) ∧ Row w 153 4 (some ⟨T, o, none⟩) s.th.length tc (s.th.flatMap encT) ∧ CdAt w C PA s.p.code ∧ ¬ C S ∧ ¬ C T ∧ S ≠ T ∧ s.th.length = s.p.code.length
theorem RAt.lt {w : World} {C : Nat → Prop} {S T o : Nat} {s : St} (h : RAt w C S T o s) : S < w.heap.size ∧ T < w.heap.size := by
  obtain ⟨PA, pc, tc, h1, h2, _⟩ := h
  exact ⟨blk_lt h1, h2.lt⟩
theorem RAt.len {w : World} {C : Nat → Prop} {S T o : Nat} {s : St} (h : RAt w C S T o s) : s.th.length = s.p.code.length := by
  obtain ⟨PA, pc, tc, _, _, _, _, _, _, h⟩ := h
  exact h
theorem RAt.mod {w w' : World} {F C : Nat → Prop} {S T o : Nat} {s : St} (h : RAt w C S T o s) (hm : Mod F w w') (hC : ∀ k, C k → ¬ F k) (hS : ¬ F S) (hT : ¬ F T) : RAt w' C S T o s := by
  obtain ⟨PA, pc, tc, h1, h2, h3, h4⟩ := h
  exact ⟨PA, pc, tc, (hm.block S (blk_lt h1) hS).trans h1, h2.mod hm (fun a ha => by injection ha with ha; subst ha; exact hT), h3.mod hm hC, h4⟩
theorem RAt.below {w w' : World} {C : Nat → Prop} {S T o : Nat} {s : St} (h : RAt w C S T o s) (hb : Below w.heap.size w w') : RAt w' C S T o s := h.mod (F := fun _ => False) (Mod.of_below_size hb _) (fun _ _ h => h) (fun h => h) (fun h => h)
/-- the cells of a state -/
theorem RAt.cells {w : World} {C : Nat → Prop} {S T o : Nat} {s : St} (h : RAt w C S T o s) : ∃ PA pc tc, w.cell? ⟨S, 0, none⟩ = some (.int .i64 s.p.vars) ∧ w.cell? ⟨S, 1, none⟩ = some (.int .i64 s.p.mtx) ∧ w.cell? ⟨S, 2, none⟩ = some (.slice PA s.p.code.length pc) ∧ w.cell? ⟨S, 3, none⟩ = some (.slice (some ⟨T, o, none⟩) s.th.length tc) ∧
    (∀ x, x < 4 → w.cell? ⟨S, 4 + x, none⟩ = some (.int .i64 (s.v x))) ∧ (∀ x, x < 2 → w.cell? ⟨S, 8 + x, none⟩ = some (.int .i64 (s.h x))) ∧ CdAt w C PA s.p.code := by
  obtain ⟨PA, pc, tc, h1, h2, h3, h4⟩ := h
  refine ⟨PA, pc, tc, by rw [cell_blk h1]; rfl, by rw [cell_blk h1]; rfl, by rw [cell_blk h1]; rfl, by rw [cell_blk h1]; rfl, fun x hx => ?_, fun x hx => ?_, h3⟩
  · rw [cell_blk h1]
    rcases (show x = 0 ∨ x = 1 ∨ x = 2 ∨ x = 3 by omega) with rfl | rfl | rfl | rfl <;> rfl
  · rw [cell_blk h1]
    rcases (show x = 0 ∨ x = 1 by omega) with rfl | rfl <;> rfl
/-- a thread's cells -/
theorem RAt.thread {w : World} {C : Nat → Prop} {S T o : Nat} {s : St} (h : RAt w C S T o s) : ∀ (t : Nat) (x : Th), s.th[t]? = some x → w.cell? ⟨T, o + t * 4, none⟩ = some (.int .i64 (x.pc : Nat)) ∧ w.cell? ⟨T, o + t * 4 + 1, none⟩ = some (.int .i64 (x.fuel : Nat)) ∧ (∀ r, r < 2 → w.cell? ⟨T, o + t * 4 + 2 + r, none⟩ = some (.int .i64 (x.r r))) := fun t x hx => by
  obtain ⟨PA, pc, tc, h1, h2, h3⟩ := h
  obtain ⟨ht, rfl⟩ := List.getElem?_eq_some_iff.1 hx
  have hcl : ∀ r, r < 4 → w.cell? ⟨T, o + t * 4 + r, none⟩ = (encT s.th[t])[r]? := fun r hr => by
    have := h2.cell (t * 4 + r) (by omega)
    rw [← Nat.add_assoc] at this
    rw [this, flat_get (f := encT) (sz := 4) encT_len s.th t r ht hr]
  refine ⟨hcl 0 (by omega), hcl 1 (by omega), fun r hr => ?_⟩
  rw [Nat.add_assoc, hcl (2 + r) (by omega)]
  rcases (show r = 0 ∨ r = 1 by omega) with rfl | rfl <;> rfl
theorem RAt.free {w : World} {C : Nat → Prop} {S T o : Nat} {s : St} (h : RAt w C S T o s) : (∀ k, w.frozen? ⟨S, k, none⟩ = false) ∧ (∀ k, w.frozen? ⟨T, k, none⟩ = false) := by
  obtain ⟨PA, pc, tc, h1, h2, h3⟩ := h
  exact ⟨fun k => free_blk h1 k, fun k => h2.free k⟩
/-- a thread's cell is written -/
theorem RAt.set_th {w : World} {C : Nat → Prop} {S T o : Nat} {s : St} (h : RAt w C S T o s) {t : Nat} {x y : Th} (hx : s.th[t]? = some x) (r : Nat) (hr : r < 4) (v : Value) (hy : encT y = (encT x).set r v) :
    RAt (w.setCell ⟨T, o + t * 4 + r, none⟩ v) C S T o { s with th := s.th.set t y } ∧ Mod (fun k => k = T) w (w.setCell ⟨T, o + t * 4 + r, none⟩ v) := by
  have hm : Mod (fun k => k = T) w (w.setCell ⟨T, o + t * 4 + r, none⟩ v) := (Mod.refl (fun k => k = T) w).setCell (p := ⟨T, o + t * 4 + r, none⟩) (fun _ => rfl) v
  obtain ⟨PA, pc, tc, h1, h2, h3, h4, h5, h6, h7⟩ := h
  have ht := (List.getElem?_eq_some_iff.1 hx).1
  refine ⟨⟨PA, pc, tc, ?_, ?_, h3.mod hm (fun k hk e => h5 (e ▸ hk)), h4, h5, h6, by simp [h7]⟩, hm⟩
  · rw [hm.block S (blk_lt h1) h6, h1]
    simp [rfCells]
  · have := h2.set (t * 4 + r) (by omega) v
    rw [← Nat.add_assoc, flat_set (f := encT) encT_len hr hy s.th t hx] at this
    simpa using this
/-- a variable is written -/
theorem RAt.set_v {w : World} {C : Nat → Prop} {S T o : Nat} {s : St} (h : RAt w C S T o s) {x : Nat} (hx : x < 4) (n : Int) :
    RAt (w.setCell ⟨S, 4 + x, none⟩ (.int .i64 n)) C S T o { s with v := updI s.v x n } ∧ Mod (fun k => k = S) w (w.setCell ⟨S, 4 + x, none⟩ (.int .i64 n)) := by
  have hm : Mod (fun k => k = S) w (w.setCell ⟨S, 4 + x, none⟩ (.int .i64 n)) := (Mod.refl (fun k => k = S) w).setCell (p := ⟨S, 4 + x, none⟩) (fun _ => rfl) _
  obtain ⟨PA, pc, tc, h1, h2, h3, h4, h5, h6, h7⟩ := h
  refine ⟨⟨PA, pc, tc, ?_, h2.mod hm (fun a ha e => by injection ha with ha; subst ha; exact h6 e.symm), h3.mod hm (fun k hk e => h4 (e ▸ hk)), h4, h5, h6, h7⟩, hm⟩
  rw [set_blk h1]
  rcases (show x = 0 ∨ x = 1 ∨ x = 2 ∨ x = 3 by omega) with rfl | rfl | rfl | rfl <;> simp [rfCells, updI]
/-- a holder is written -/
theorem RAt.set_h {w : World} {C : Nat → Prop} {S T o : Nat} {s : St} (h : RAt w C S T o s) {x : Nat} (hx : x < 2) (n : Int) :
    RAt (w.setCell ⟨S, 8 + x, none⟩ (.int .i64 n)) C S T o { s with h := updI s.h x n } ∧ Mod (fun k => k = S) w (w.setCell ⟨S, 8 + x, none⟩ (.int .i64 n)) := by
  have hm : Mod (fun k => k = S) w (w.setCell ⟨S, 8 + x, none⟩ (.int .i64 n)) := (Mod.refl (fun k => k = S) w).setCell (p := ⟨S, 8 + x, none⟩) (fun _ => rfl) _
  obtain ⟨PA, pc, tc, h1, h2, h3, h4, h5, h6, h7⟩ := h
  refine ⟨⟨PA, pc, tc, ?_, h2.mod hm (fun a ha e => by injection ha with ha; subst ha; exact h6 e.symm), h3.mod hm (fun k hk e => h4 (e ▸ hk)), h4, h5, h6, h7⟩, hm⟩
  rw [set_blk h1]
  rcases (show x = 0 ∨ x = 1 by omega) with rfl | rfl <;> simp [rfCells, updI]
end Go.Proofs.YtcaapoacmfjnmaaGreat
