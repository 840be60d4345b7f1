/- Part 3 of the proof of leastOrder_holds: what it rests on. -/
import Derived.Test.YtckdofjpoajblaaGreatZo2
namespace Go.Proofs.YtckdofjpoajblaaGreat
open Go.RowKit
set_option linter.unusedVariables false
structure Th where
  pc : Nat
  fuel : Nat
  r : Nat → Int
structure St where
  p : Pg
  th : List Th
  v : Nat → Int
  h : Nat → Int
def updI (f : Nat → Int) (k : Nat) (x : Int) : Nat → Int := fun j => if j = k then x else f j
def encT (t : Th) : List Value := [.int .i64 (t.pc : Nat), .int .i64 (t.fuel : Nat), .int .i64 (t.r 0), .int .i64 (t.r 1)]
theorem encT_len (t : Th) : (encT t).length = 4 := rfl
def stCells (s : St) (PA : Option Addr) (pc T tc : Nat) : Array Value :=
  #[.int .i64 s.p.vars, .int .i64 s.p.mtx, .slice PA s.p.code.length pc, .slice (some ⟨T, 0, none⟩) s.th.length tc, .int .i64 (s.v 0), .int .i64 (s.v 1), .int .i64 (s.v 2), .int .i64 (s.v 3), .int .i64 (s.h 0), .int .i64 (s.h 1)]
def SAt (w : World) (C : Nat → Prop) (S T : Nat) (s : St) : Prop :=
  ∃ PA pc tc, w.heap[S]? = some (.cells (stCells s PA pc T tc) 124 (0, 0)) ∧ Row w 127 4 (some ⟨T, 0, none⟩) s.th.length tc (s.th.flatMap encT) ∧ CdAt w C PA s.p.code ∧ ¬ C S ∧ ¬ C T ∧ S ≠ T ∧ s.th.length = s.p.code.length
theorem SAt.lt {w : World} {C : Nat → Prop} {S T : Nat} {s : St} (h : SAt w C S T s) : S < w.heap.size ∧ T < w.heap.size := by
  obtain ⟨PA, pc, tc, h1, h2, _⟩ := h
  exact ⟨blk_lt h1, h2.lt⟩
theorem SAt.len {w : World} {C : Nat → Prop} {S T : Nat} {s : St} (h : SAt w C S T s) : s.th.length = s.p.code.length := by
  obtain ⟨PA, pc, tc, _, _, _, _, _, _, h⟩ := h
  exact h
theorem SAt.mod {w w' : World} {F C : Nat → Prop} {S T : Nat} {s : St} (h : SAt w C S T s) (hm : Mod F w w') (hC : ∀ k, C k → ¬ F k) (hS : ¬ F S) (hT : ¬ F T) : SAt w' C S T s := by
  obtain ⟨PA, pc, tc, h1, h2, h3, h4⟩ := h
  exact ⟨PA, pc, tc, (hm.block S (blk_lt h1) hS).trans h1, h2.mod hm (fun a ha => by injection ha with ha; subst ha; exact hT), h3.mod hm hC, h4⟩
theorem SAt.below {w w' : World} {C : Nat → Prop} {S T : Nat} {s : St} (h : SAt w C S T s) (hb : Below w.heap.size w w') : SAt w' C S T s := h.mod (F := fun _ => False) (Mod.of_below_size hb _) (fun _ _ h => h) (fun h => h) (fun h => h)
theorem SAt.cells {w : World} {C : Nat → Prop} {S T : Nat} {s : St} (h : SAt w C S T s) : ∃ PA pc tc, w.cell? ⟨S, 0, none⟩ = some (.int .i64 s.p.vars) ∧ w.cell? ⟨S, 1, none⟩ = some (.int .i64 s.p.mtx) ∧ w.cell? ⟨S, 2, none⟩ = some (.slice PA s.p.code.length pc) ∧ w.cell? ⟨S, 3, none⟩ = some (.slice (some ⟨T, 0, none⟩) s.th.length tc) ∧
    (∀ x, x < 4 → w.cell? ⟨S, 4 + x, none⟩ = some (.int .i64 (s.v x))) ∧ (∀ x, x < 2 → w.cell? ⟨S, 8 + x, none⟩ = some (.int .i64 (s.h x))) ∧ CdAt w C PA s.p.code := by
  obtain ⟨PA, pc, tc, h1, h2, h3, h4⟩ := h
  refine ⟨PA, pc, tc, by rw [cell_blk h1]; rfl, by rw [cell_blk h1]; rfl, by rw [cell_blk h1]; rfl, by rw [cell_blk h1]; rfl, fun x hx => ?_, fun x hx => ?_, h3⟩
  · rw [cell_blk h1]
    rcases (show x = 0 ∨ x = 1 ∨ x = 2 ∨ x = 3 by omega) with rfl | rfl | rfl | rfl <;> rfl
  · rw [cell_blk h1]
    rcases (show x = 0 ∨ x = 1 by omega) with rfl | rfl <;> rfl
def capOf (w : World) (S : Nat) : Nat := match w.cell? ⟨S, 3, none⟩ with | some (.slice _ _ c) => c | _ => 0
theorem SAt.z3 {w w' : World} {C : Nat → Prop} {S T : Nat} {s : St} (h : SAt w C S T s) (hb : Below w.heap.size w w') : w'.cell? ⟨S, 3, none⟩ = some (.slice (some ⟨T, 0, none⟩) s.th.length (capOf w S)) := by
  obtain ⟨PA, pc, tc, _, _, _, z3, _⟩ := h.cells
  rw [World.cell?_of_block (hb.block S h.lt.1), z3]
  unfold capOf
  rw [z3]
theorem SAt.thread {w : World} {C : Nat → Prop} {S T : Nat} {s : St} (h : SAt w C S T s) : ∀ (t : Nat) (x : Th), s.th[t]? = some x → w.cell? ⟨T, t * 4, none⟩ = some (.int .i64 (x.pc : Nat)) ∧ w.cell? ⟨T, t * 4 + 1, none⟩ = some (.int .i64 (x.fuel : Nat)) ∧ (∀ r, r < 2 → w.cell? ⟨T, t * 4 + 2 + r, none⟩ = some (.int .i64 (x.r r))) := fun t x hx => by
  obtain ⟨PA, pc, tc, h1, h2, h3⟩ := h
  obtain ⟨ht, rfl⟩ := List.getElem?_eq_some_iff.1 hx
  have hcl : ∀ r, r < 4 → w.cell? ⟨T, t * 4 + r, none⟩ = (encT s.th[t])[r]? := fun r hr => by
    have := h2.cell (t * 4 + r) (by omega)
    rw [Nat.zero_add] at this
    rw [this, flat_get (f := encT) (sz := 4) encT_len s.th t r ht hr]
  refine ⟨hcl 0 (by omega), hcl 1 (by omega), fun r hr => ?_⟩
  rw [Nat.add_assoc, hcl (2 + r) (by omega)]
  rcases (show r = 0 ∨ r = 1 by omega) with rfl | rfl <;> rfl
theorem SAt.free {w : World} {C : Nat → Prop} {S T : Nat} {s : St} (h : SAt w C S T s) : (∀ k, w.frozen? ⟨S, k, none⟩ = false) ∧ (∀ k, w.frozen? ⟨T, k, none⟩ = false) := by
  obtain ⟨PA, pc, tc, h1, h2, h3⟩ := h
  exact ⟨fun k => free_blk h1 k, fun k => h2.free k⟩
theorem flat_set {α : Type} {f : α → List Value} {sz : Nat} (hf : ∀ x, (f x).length = sz) {x y : α} {r : Nat} {v : Value} (hr : r < sz) (hy : f y = (f x).set r v) : ∀ (xs : List α) (q : Nat), xs[q]? = some x → (xs.flatMap f).set (q * sz + r) v = (xs.set q y).flatMap f := by
  intro xs
  induction xs with
  | nil => intro q h; simp at h
  | cons a xs ih =>
    intro q h
    cases q with
    | zero =>
      simp at h
      subst h
      rw [Nat.zero_mul, Nat.zero_add, List.flatMap_cons, List.set_cons_zero, List.flatMap_cons, hy, List.set_append_left _ _ (by rw [hf]; exact hr)]
    | succ q =>
      simp at h
      rw [List.flatMap_cons, List.set_cons_succ, List.flatMap_cons, List.set_append_right _ _ (by rw [hf, Nat.succ_mul]; omega), hf, ← ih q h]
      congr 2
      rw [Nat.succ_mul]; omega
theorem SAt.set_th {w : World} {C : Nat → Prop} {S T : Nat} {s : St} (h : SAt w C S T s) {t : Nat} {x y : Th} (hx : s.th[t]? = some x) (r : Nat) (hr : r < 4) (v : Value) (hy : encT y = (encT x).set r v) :
    SAt (w.setCell ⟨T, t * 4 + r, none⟩ v) C S T { s with th := s.th.set t y } ∧ Mod (fun k => k = T) w (w.setCell ⟨T, t * 4 + r, none⟩ v) := by
  have hm : Mod (fun k => k = T) w (w.setCell ⟨T, t * 4 + r, none⟩ v) := (Mod.refl (fun k => k = T) w).setCell (p := ⟨T, t * 4 + r, none⟩) (fun _ => rfl) v
  obtain ⟨PA, pc, tc, h1, h2, h3, h4, h5, h6, h7⟩ := h
  have ht := (List.getElem?_eq_some_iff.1 hx).1
  refine ⟨⟨PA, pc, tc, ?_, ?_, h3.mod hm (fun k hk e => h5 (e ▸ hk)), h4, h5, h6, by simp [h7]⟩, hm⟩
  · rw [hm.block S (blk_lt h1) h6, h1]
    simp [stCells]
  · have := h2.set (t * 4 + r) (by omega) v
    rw [Nat.zero_add, flat_set (f := encT) encT_len hr hy s.th t hx] at this
    simpa using this
theorem SAt.set_v {w : World} {C : Nat → Prop} {S T : Nat} {s : St} (h : SAt w C S T s) {x : Nat} (hx : x < 4) (n : Int) :
    SAt (w.setCell ⟨S, 4 + x, none⟩ (.int .i64 n)) C S T { s with v := updI s.v x n } ∧ Mod (fun k => k = S) w (w.setCell ⟨S, 4 + x, none⟩ (.int .i64 n)) := by
  have hm : Mod (fun k => k = S) w (w.setCell ⟨S, 4 + x, none⟩ (.int .i64 n)) := (Mod.refl (fun k => k = S) w).setCell (p := ⟨S, 4 + x, none⟩) (fun _ => rfl) _
  obtain ⟨PA, pc, tc, h1, h2, h3, h4, h5, h6, h7⟩ := h
  refine ⟨⟨PA, pc, tc, ?_, h2.mod hm (fun a ha e => by injection ha with ha; subst ha; exact h6 e.symm), h3.mod hm (fun k hk e => h4 (e ▸ hk)), h4, h5, h6, h7⟩, hm⟩
  rw [set_blk h1]
  rcases (show x = 0 ∨ x = 1 ∨ x = 2 ∨ x = 3 by omega) with rfl | rfl | rfl | rfl <;> simp [stCells, updI]
theorem SAt.set_h {w : World} {C : Nat → Prop} {S T : Nat} {s : St} (h : SAt w C S T s) {x : Nat} (hx : x < 2) (n : Int) :
    SAt (w.setCell ⟨S, 8 + x, none⟩ (.int .i64 n)) C S T { s with h := updI s.h x n } ∧ Mod (fun k => k = S) w (w.setCell ⟨S, 8 + x, none⟩ (.int .i64 n)) := by
  have hm : Mod (fun k => k = S) w (w.setCell ⟨S, 8 + x, none⟩ (.int .i64 n)) := (Mod.refl (fun k => k = S) w).setCell (p := ⟨S, 8 + x, none⟩) (fun _ => rfl) _
  obtain ⟨PA, pc, tc, h1, h2, h3, h4, h5, h6, h7⟩ := h
  refine ⟨⟨PA, pc, tc, ?_, h2.mod hm (fun a ha e => by injection ha with ha; subst ha; exact h6 e.symm), h3.mod hm (fun k hk e => h4 (e ▸ hk)), h4, h5, h6, h7⟩, hm⟩
  rw [set_blk h1]
  rcases (show x = 0 ∨ x = 1 by omega) with rfl | rfl <;> simp [stCells, updI]
namespace Pr
def start (p : Pg) (fuel : Nat) : St := ⟨p, p.code.map (fun _ => ⟨0, fuel, fun _ => 0⟩), fun _ => 0, fun _ => -1⟩
end Pr
end Go.Proofs.YtckdofjpoajblaaGreat
namespace Go.Proofs.YtckdofjpoajblaaGreat
open Go.RowKit
set_option linter.unusedVariables false
theorem Tryz.infoTh : (Tryz.prog.info? 127).map (fun i => (i.zero, i.size, i.bytes)) = some (some (.agg #[.int .i64 0, .int .i64 0, .int .i64 0, .int .i64 0]), 4, 32) := by kernel_rfl
theorem zeros_flat (n : Nat) : (List.replicate n (⟨0, 0, fun _ => 0⟩ : Th)).flatMap encT = List.replicate (n * 4) (.int .i64 0) := by
  induction n with
  | zero => rfl
  | succ n ih =>
    rw [List.replicate_succ, List.flatMap_cons, ih, Nat.succ_mul]
    rfl
theorem made_zeros (n : Nat) : madeCells #[Value.int .i64 0, .int .i64 0, .int .i64 0, .int .i64 0] n = (List.replicate n (.int .i64 0)).toArray := by
  unfold madeCells
  refine Array.ext (by simp) fun i h1 h2 => ?_
  simp only [Array.getElem_map, Array.getElem_range, List.getElem_toArray, List.getElem_replicate]
  rcases (show i % 4 = 0 ∨ i % 4 = 1 ∨ i % 4 = 2 ∨ i % 4 = 3 by omega) with h | h | h | h <;> (simp only [List.size_toArray, List.length_cons, List.length_nil]; rw [show 0 + 1 + 1 + 1 + 1 = 4 from rfl, h]; rfl)
theorem threads_row (w : World) (n : Nat) (hn : n ≤ 4) : Row (w.alloc (.cells (madeCells #[Value.int .i64 0, .int .i64 0, .int .i64 0, .int .i64 0] (n * 4)) 127)) 127 4 (some ⟨w.heap.size, 0, none⟩) n n ((List.replicate n (⟨0, 0, fun _ => 0⟩ : Th)).flatMap encT) := by
  refine ⟨by rw [zeros_flat]; simp, Nat.le_refl _, by unfold maxLen; omega, fun h => (by cases h), fun a ha => ?_⟩
  injection ha with ha
  subst ha
  refine ⟨rfl, _, heap_alloc_new w _, by simp [size_madeCells], ?_⟩
  rw [made_zeros, zeros_flat]
  simp
theorem row_stepS {v v' : World} {e sz n cap : Nat} {A : Option Addr} {cs : List Value} (h : Row v e sz A n cap cs) (hb : Below v.heap.size v v') : Row v' e sz A n cap cs := h.mod (Mod.of_below_size hb (fun _ => False)) (fun _ _ h => h)
theorem SAt.eqv {w : World} {C : Nat → Prop} {S T : Nat} {s s' : St} (h : SAt w C S T s) (hp : s'.p = s.p) (ht : s'.th = s.th) (hv : ∀ x, x < 4 → s'.v x = s.v x) (hh : ∀ x, x < 2 → s'.h x = s.h x) : SAt w C S T s' := by
  obtain ⟨PA, pc, tc, h1, h2⟩ := h
  refine ⟨PA, pc, tc, ?_, by rw [ht, hp]; exact h2⟩
  rw [h1]
  unfold stCells
  rw [hp, ht, hv 0 (by omega), hv 1 (by omega), hv 2 (by omega), hv 3 (by omega), hh 0 (by omega), hh 1 (by omega)]
def thK (n i f : Nat) : List Th := (List.range n).map fun j => ⟨0, if j < i then f else 0, fun _ => 0⟩
theorem thK_len (n i f : Nat) : (thK n i f).length = n := by simp [thK]
theorem thK_zero (n f : Nat) : thK n 0 f = List.replicate n ⟨0, 0, fun _ => 0⟩ := by
  refine List.ext_getElem? fun j => ?_
  simp only [thK, List.getElem?_map, List.getElem?_replicate]
  by_cases h : j < n <;> simp [h]
theorem thK_get {n i f : Nat} (h : i < n) : (thK n i f)[i]? = some ⟨0, 0, fun _ => 0⟩ := by simp [thK, h]
theorem thK_set {n i f : Nat} (h : i < n) : (thK n i f).set i ⟨0, f, fun _ => 0⟩ = thK n (i + 1) f := by
  refine List.ext_getElem? fun j => ?_
  by_cases hj : j = i
  · subst hj
    rw [List.getElem?_set_self (by rw [thK_len]; exact h)]
    simp [thK, h]
  · rw [List.getElem?_set_ne (fun e => hj e.symm)]
    by_cases hn : j < n
    · simp only [thK, List.getElem?_map, List.getElem?_range hn, Option.map_some]
      congr 2
      by_cases hji : j < i
      · rw [if_pos hji, if_pos (by omega)]
      · rw [if_neg hji, if_neg (by omega)]
    · simp [thK, hn]
theorem thK_all (L : List (List Ins)) (f : Nat) : thK L.length L.length f = L.map (fun _ => ⟨0, f, fun _ => 0⟩) := by
  refine List.ext_getElem? fun j => ?_
  by_cases h : j < L.length <;> simp [thK, h]
theorem CdAt.bound {w : World} {C : Nat → Prop} {A : Option Addr} {L : List (List Ins)} (h : CdAt w C A L) : CdAt w (fun k => C k ∧ k < w.heap.size) A L := by
  have key : ∀ {sz n : Nat} {A : Option Addr} {cs : List Value}, RdC w C sz A n cs → RdC w (fun k => C k ∧ k < w.heap.size) sz A n cs := fun h => ⟨h.1, fun h0 => by obtain ⟨g, o, h1, hc, h2, h3⟩ := h.2 h0; exact ⟨g, o, h1, ⟨hc, h2⟩, h2, h3⟩⟩
  obtain ⟨vs, h1, h2⟩ := h
  refine ⟨vs, key h1, fun i q hi => ?_⟩
  obtain ⟨A', c', h3, h4, h5⟩ := h2 i q hi
  exact ⟨A', c', h3, key h4, h5⟩
set_option maxRecDepth 100000 in
theorem new_bad (w : World) (p : Pg) (A : Option Addr) (cap : Nat) (fuel : Int) (hcd : CdAt w (fun k => k < w.heap.size) A p.code) (hl : p.code.length ≤ maxLen) (hq : ∀ q ∈ p.code, q.length ≤ maxLen) (hbad : ¬ (Pr.Ok p ∧ 0 ≤ fuel ∧ fuel ≤ 8)) :
    Calls Tryz.prog 30 #[valP p A cap, .int .i64 fuel] w fun x w' => x = .returned (.tuple #[.pointer none, .int .i64 1]) ∧ Below w.heap.size w w' := by
  obtain ⟨Wa, X, hWa, hX, hBa, hXl, hXe⟩ := pg_box w p.vars p.mtx A p.code.length cap
  have hcall := pright_any Wa p A cap ((hcd.below hBa).imp (fun k hk => by have := hBa.size; omega)) hl hq
  obtain ⟨b, hb⟩ : ∃ b, b = decide (Pr.Ok p) := ⟨_, rfl⟩
  rw [← hb] at hcall
  unfold valP at hcall ⊢
  have HCALL := Lib.hid hcall
  have HB := Lib.hid hBa
  have HBB := Lib.hid hb
  have HBAD := Lib.hid hbad
  obtain ⟨x0, x1, x2, xl⟩ := hXe Wa (Below.refl _ _)
  clear hcall hBa hb hbad hcd hl hq hXe
  go_enter Tryz.func30, Tryz.ntmps30
  go_upto_region 1 with fail
  rw [← hWa, ← hX]
  clear hWa hX
  go_wp2_with fail
  refine HCALL.out.mono ?_
  rintro x w1 ⟨rfl, b1⟩
  have HB1 := Lib.hid (below_at HB.out b1)
  clear b1
  cases b with
  | false =>
    go_wp2_with fail
    go_ret2
    exact ⟨rfl, HB1.out⟩
  | true =>
    have hok : Pr.Ok p := of_decide_eq_true HBB.out.symm
    by_cases h0 : fuel < 0
    · go_wp2_with fail
      go_ret2
      exact ⟨rfl, HB1.out⟩
    · by_cases h8 : 8 < fuel
      · go_wp2_with fail
        go_ret2
        exact ⟨rfl, HB1.out⟩
      · exact (HBAD.out ⟨hok, by omega, by omega⟩).elim
set_option maxRecDepth 100000 in
set_option maxHeartbeats 4000000 in
theorem new_ok (w : World) (p : Pg) (A : Option Addr) (cap : Nat) (f : Nat) (hcd : CdAt w (fun k => k < w.heap.size) A p.code) (hok : Pr.Ok p) (hf : f ≤ 8) :
    Calls Tryz.prog 30 #[valP p A cap, .int .i64 (f : Int)] w fun x w' => ∃ (S T : Nat) (C : Nat → Prop), x = .returned (.tuple #[.pointer (some ⟨S, 0, none⟩), .int .i64 0]) ∧ SAt w' C S T (Pr.start p f) ∧ w.heap.size ≤ S ∧ w.heap.size ≤ T ∧ (∀ k, C k → w.heap.size ≤ k) ∧ Below w.heap.size w w' := by
  obtain ⟨pv, pm, L⟩ := p
  have hl1 := hok.1.2.2.2.2.1
  have hl4 := hok.1.2.2.2.2.2
  have hq8 : ∀ q ∈ L, q.length ≤ 8 := fun q hq => (hok.2 q hq).1
  simp only at hl1 hl4 hcd
  obtain ⟨i0, hi0, hz0, hz1, hz2⟩ := info_parts Tryz.infoTh
  obtain ⟨Wa, X, hWa, hX, hBa, hXl, hXe⟩ := pg_box w pv pm A L.length cap
  have hcdA : CdAt Wa (fun k => k < w.heap.size) A L := hcd.below hBa
  have hcall := pright_any Wa ⟨pv, pm, L⟩ A cap (hcdA.imp (fun k hk => by have := hBa.size; omega)) (by unfold maxLen; simp only; omega) (fun q hq => by unfold maxLen; have := hq8 q hq; omega)
  rw [decide_eq_true hok] at hcall
  have hcp : ∀ u, Below Wa.heap.size Wa u → Calls Tryz.prog 67 #[valP ⟨pv, pm, L⟩ A cap] u fun x w' => ∃ A' cap', x = .returned (valP ⟨pv, pm, L⟩ A' cap') ∧ CdAt w' (fun k => u.heap.size ≤ k) A' L ∧ L.length ≤ cap' ∧ cap' ≤ maxLen ∧ Below u.heap.size u w' := fun u hu =>
    copy_any u ⟨pv, pm, L⟩ A cap ((hcdA.below hu).imp (fun k hk => by have := hBa.size; have := hu.size; omega)) hl1 hl4 hq8
  unfold valP at hcall hcp ⊢
  simp only at hcall hcp ⊢
  have hmk : ∀ u, _ := fun u => run_make (P := Tryz.prog) u 121 127 i0 (.agg #[.int .i64 0, .int .i64 0, .int .i64 0, .int .i64 0]) Tryz.underlying121 hi0 hz0 .i64 .i64 (L.length : Int) (L.length : Int) (by omega) (Int.le_refl _) (by rw [hz2]; omega) (by omega)
  simp only [Int.toNat_natCast, hz1, Value.cells] at hmk
  have HCALL := Lib.hid hcall
  have HCP := Lib.hid hcp
  have HAS := Lib.hid hBa.size
  have HBA := Lib.hid hBa
  have HXE := Lib.hid hXe
  have HOK := Lib.hid hok
  obtain ⟨x0, x1, x2, xl⟩ := hXe Wa (Below.refl _ _)
  clear hcall hcp hBa hcd hcdA hXe hok hq8 hi0 hz0 hz1 hz2
  go_enter Tryz.func30, Tryz.ntmps30
  go_upto_region 1 with fail
  rw [← hWa, ← hX]
  clear hWa hX
  go_wp2_with fail
  refine HCALL.out.mono ?_
  rintro x w1 ⟨rfl, b1⟩
  have HB1 := Lib.hid b1
  clear b1 x0 x1 x2 HCALL
  have n0 : ¬ (f : Int) < 0 := by omega
  have n8 : ¬ (8 : Int) < (f : Int) := by omega
  go_upto_region 3 with fail
  go_cut [6] (fun v6 w2 => ∃ (S T : Nat) (C : Nat → Prop), v6 = .pointer (some ⟨S, 0, none⟩) ∧ Hid (SAt w2 C S T ⟨⟨pv, pm, L⟩, List.replicate L.length ⟨0, 0, fun _ => 0⟩, fun _ => 0, fun _ => 0⟩) ∧ Hid (Wa.heap.size ≤ S ∧ Wa.heap.size ≤ T ∧ ∀ k, C k → Wa.heap.size ≤ k) ∧ Hid (Below Wa.heap.size Wa w2))
  case first =>
    refine wp_region_pt (by kernel_rfl) (fun u => u.cell? ⟨X, 0, none⟩ = some (.int .i64 pv) ∧ u.cell? ⟨X, 1, none⟩ = some (.int .i64 pm) ∧ u.cell? ⟨X, 2, none⟩ = some (.slice A L.length cap) ∧ X < u.heap.size) [] (.cons 0 .load (.cons 2 .pure (.cons 3 .load (.cons 4 .pure (.fork 1 (.cons 5 .eff (.cons 6 .pure (.cons 7 .eff (.cons 8 .pure .nil)))) 5 (.cons 1 .eff (.cons 6 .pure (.cons 7 .eff (.cons 8 .pure .nil))))))))) (by simp only [PT.map, List.getElem?_toArray, List.getElem?_cons_succ, List.getElem?_cons_zero]; rfl) (by kernel_rfl) (fun _ _ d _ _ h => by cases d <;> exact h) ((HXE.out _ HB1.out.drew)) ?_
    have HB := Lib.hid HB1.out.drew
    obtain ⟨v, hv⟩ : ∃ v, v = w1.drew := ⟨_, rfl⟩
    rw [← hv] at HB ⊢
    clear hv HB1
    repeat (first
      | (refine pt_pure (v := ?_) (by rfl) (fun w1 => ?_) ?_
         rotate_left
         · go_simp <;> with_reducible rfl
         simp only [Act.put, List.setIfInBounds_toArray, List.set_cons_zero, List.set_cons_succ])
      | (refine pt_off (by rfl) ?_
         simp only [Act.put, List.setIfInBounds_toArray, List.set_cons_zero, List.set_cons_succ])
      | (refine pt_load_off (by rfl) ?_
         simp only [Act.put, List.setIfInBounds_toArray, List.set_cons_zero, List.set_cons_succ])
      | (refine pt_load (v := ?_) (by rfl) (fun w1 hw1 => ?_) ?_
         rotate_left
         · (have q := hw1
            obtain ⟨x0, x1, x2, xl⟩ := q
            clear hw1
            go_simp <;> with_reducible rfl)
         simp only [Act.put, List.setIfInBounds_toArray, List.set_cons_zero, List.set_cons_succ]))
    refine pt_fork ?_ ?_
    · go_wp2_with fail
      refine (HCP.out v HB.out).mono ?_
      rintro x u ⟨PA, pc, rfl, hcd, hp1, hp2, hb⟩
      obtain ⟨B1, hB1⟩ : ∃ B1, B1 = v.heap.size := ⟨_, rfl⟩
      obtain ⟨E1, hE1⟩ : ∃ E1, E1 = u.heap.size := ⟨_, rfl⟩
      rw [← hB1] at hcd
      have HCD := Lib.hid hcd.bound
      rw [← hE1] at HCD
      have HE1 := Lib.hid (Nat.le_of_eq hE1)
      have HBB1 := Lib.hid (show Wa.heap.size ≤ B1 by have h3 := HB.out.size; have h4 := HAS.out; omega)
      (try have HTC := Lib.hid (show T < B1 ∨ E1 ≤ T from Or.inl (by have := HTR.out.lt; simp only at this; omega)))
      (try have HTR := Lib.hid (row_stepS HTR.out hb))
      have HB := Lib.hid (below_at HB.out hb)
      have HPC := Lib.hid (And.intro hp1 hp2)
      clear hcd hp1 hp2 hb hB1 hE1
      go_wp2_with fail
      rename World => v
      refine pt_on (fun u h => h) (HXE.out _ HB.out) ?_
      refine pt_eff ?_
      go_wp2_with fail
      obtain ⟨T, hT⟩ : ∃ T, T = v.heap.size := ⟨_, rfl⟩
      obtain ⟨u, hu⟩ : ∃ u, u = v.alloc (Obj.cells (madeCells #[Value.int .i64 0, .int .i64 0, .int .i64 0, .int .i64 0] (L.length * 4)) 127) := ⟨_, rfl⟩
      rw [← hu, ← hT]
      have hb : Below v.heap.size v u := by rw [hu]; exact (Below.refl _ _).alloc (Nat.le_refl _) _
      have HTR : Hid (Row u 127 4 (some ⟨T, 0, none⟩) L.length L.length ((List.replicate L.length (⟨0, 0, fun _ => 0⟩ : Th)).flatMap encT)) := Lib.hid (by rw [hu, hT]; exact threads_row v L.length (by omega))
      have HTW := Lib.hid (show Wa.heap.size ≤ T by have h3 := HB.out.size; have h4 := HAS.out; omega)
      (try have HTC := Lib.hid (show T < B1 ∨ E1 ≤ T from Or.inr (by have := HE1.out; omega)))
      (try have HCD := Lib.hid (HCD.out.below hb))
      (try have HE1 := Lib.hid (Nat.le_trans HE1.out hb.size))
      have HB := Lib.hid (below_at HB.out hb)
      clear hb hu hT
      rename World => v
      refine pt_on (fun u h => h) (HXE.out _ HB.out) ?_
      repeat (first
        | (refine pt_pure (v := ?_) (by rfl) (fun w1 => ?_) ?_
           rotate_left
           · go_simp <;> with_reducible rfl
           simp only [Act.put, List.setIfInBounds_toArray, List.set_cons_zero, List.set_cons_succ])
        | (refine pt_off (by rfl) ?_
           simp only [Act.put, List.setIfInBounds_toArray, List.set_cons_zero, List.set_cons_succ])
        | (refine pt_load_off (by rfl) ?_
           simp only [Act.put, List.setIfInBounds_toArray, List.set_cons_zero, List.set_cons_succ])
        | (refine pt_load (v := ?_) (by rfl) (fun w1 hw1 => ?_) ?_
           rotate_left
           · (have q := hw1
              obtain ⟨x0, x1, x2, xl⟩ := q
              clear hw1
              go_simp <;> with_reducible rfl)
           simp only [Act.put, List.setIfInBounds_toArray, List.set_cons_zero, List.set_cons_succ]))
      refine pt_eff ?_
      go_wp2_with fail
      obtain ⟨S, hS⟩ : ∃ S, S = v.heap.size := ⟨_, rfl⟩
      obtain ⟨u, hu⟩ : ∃ u, u = v.alloc (Obj.cells (stCells ⟨⟨pv, pm, L⟩, List.replicate L.length ⟨0, 0, fun _ => 0⟩, fun _ => 0, fun _ => 0⟩ PA pc T L.length) 124) := ⟨_, rfl⟩
      have hu' := hu
      simp only [stCells, List.length_replicate] at hu'
      rw [← hu', ← hS]
      clear hu'
      have hb : Below v.heap.size v u := by rw [hu]; exact (Below.refl _ _).alloc (Nat.le_refl _) _
      have HSA : Hid (SAt u (fun k => B1 ≤ k ∧ k < E1) S T ⟨⟨pv, pm, L⟩, List.replicate L.length ⟨0, 0, fun _ => 0⟩, fun _ => 0, fun _ => 0⟩) := Lib.hid ⟨PA, pc, _, by rw [hu, hS]; exact heap_alloc_new v _, by rw [List.length_replicate]; exact row_stepS HTR.out hb, (HCD.out.below hb).imp (fun k hk => hk), fun hk => by have := HE1.out; omega, fun hk => by have := HTC.out; omega, by have := HTR.out.lt; simp only at this; omega, by simp⟩
      have HB := Lib.hid (below_at HB.out hb)
      have HSW := Lib.hid (show Wa.heap.size ≤ S by have h3 := HTW.out; have := HTR.out.lt; simp only at this; omega)
      clear hb hu hS
      rename World => v
      refine pt_on (fun u h => h) (HXE.out _ HB.out) ?_
      repeat (first
        | (refine pt_pure (v := ?_) (by rfl) (fun w1 => ?_) ?_
           rotate_left
           · go_simp <;> with_reducible rfl
           simp only [Act.put, List.setIfInBounds_toArray, List.set_cons_zero, List.set_cons_succ])
        | (refine pt_off (by rfl) ?_
           simp only [Act.put, List.setIfInBounds_toArray, List.set_cons_zero, List.set_cons_succ])
        | (refine pt_load_off (by rfl) ?_
           simp only [Act.put, List.setIfInBounds_toArray, List.set_cons_zero, List.set_cons_succ])
        | (refine pt_load (v := ?_) (by rfl) (fun w1 hw1 => ?_) ?_
           rotate_left
           · (have q := hw1
              obtain ⟨x0, x1, x2, xl⟩ := q
              clear hw1
              go_simp <;> with_reducible rfl)
           simp only [Act.put, List.setIfInBounds_toArray, List.set_cons_zero, List.set_cons_succ]))
      refine pt_end ?_
      go_wp2_with fail
      go_meet
      exact ⟨S, T, _, rfl, HSA, Lib.hid ⟨HSW.out, HTW.out, fun k hk => by have := HBB1.out; omega⟩, HB⟩
    · go_wp2_with fail
      obtain ⟨T, hT⟩ : ∃ T, T = v.heap.size := ⟨_, rfl⟩
      obtain ⟨u, hu⟩ : ∃ u, u = v.alloc (Obj.cells (madeCells #[Value.int .i64 0, .int .i64 0, .int .i64 0, .int .i64 0] (L.length * 4)) 127) := ⟨_, rfl⟩
      rw [← hu, ← hT]
      have hb : Below v.heap.size v u := by rw [hu]; exact (Below.refl _ _).alloc (Nat.le_refl _) _
      have HTR : Hid (Row u 127 4 (some ⟨T, 0, none⟩) L.length L.length ((List.replicate L.length (⟨0, 0, fun _ => 0⟩ : Th)).flatMap encT)) := Lib.hid (by rw [hu, hT]; exact threads_row v L.length (by omega))
      have HTW := Lib.hid (show Wa.heap.size ≤ T by have h3 := HB.out.size; have h4 := HAS.out; omega)
      (try have HTC := Lib.hid (show T < B1 ∨ E1 ≤ T from Or.inr (by have := HE1.out; omega)))
      (try have HCD := Lib.hid (HCD.out.below hb))
      (try have HE1 := Lib.hid (Nat.le_trans HE1.out hb.size))
      have HB := Lib.hid (below_at HB.out hb)
      clear hb hu hT
      rename World => v
      refine pt_on (fun u h => h) (HXE.out _ HB.out) ?_
      refine pt_eff ?_
      go_wp2_with fail
      refine (HCP.out v HB.out).mono ?_
      rintro x u ⟨PA, pc, rfl, hcd, hp1, hp2, hb⟩
      obtain ⟨B1, hB1⟩ : ∃ B1, B1 = v.heap.size := ⟨_, rfl⟩
      obtain ⟨E1, hE1⟩ : ∃ E1, E1 = u.heap.size := ⟨_, rfl⟩
      rw [← hB1] at hcd
      have HCD := Lib.hid hcd.bound
      rw [← hE1] at HCD
      have HE1 := Lib.hid (Nat.le_of_eq hE1)
      have HBB1 := Lib.hid (show Wa.heap.size ≤ B1 by have h3 := HB.out.size; have h4 := HAS.out; omega)
      (try have HTC := Lib.hid (show T < B1 ∨ E1 ≤ T from Or.inl (by have := HTR.out.lt; simp only at this; omega)))
      (try have HTR := Lib.hid (row_stepS HTR.out hb))
      have HB := Lib.hid (below_at HB.out hb)
      have HPC := Lib.hid (And.intro hp1 hp2)
      clear hcd hp1 hp2 hb hB1 hE1
      go_wp2_with fail
      rename World => v
      refine pt_on (fun u h => h) (HXE.out _ HB.out) ?_
      repeat (first
        | (refine pt_pure (v := ?_) (by rfl) (fun w1 => ?_) ?_
           rotate_left
           · go_simp <;> with_reducible rfl
           simp only [Act.put, List.setIfInBounds_toArray, List.set_cons_zero, List.set_cons_succ])
        | (refine pt_off (by rfl) ?_
           simp only [Act.put, List.setIfInBounds_toArray, List.set_cons_zero, List.set_cons_succ])
        | (refine pt_load_off (by rfl) ?_
           simp only [Act.put, List.setIfInBounds_toArray, List.set_cons_zero, List.set_cons_succ])
        | (refine pt_load (v := ?_) (by rfl) (fun w1 hw1 => ?_) ?_
           rotate_left
           · (have q := hw1
              obtain ⟨x0, x1, x2, xl⟩ := q
              clear hw1
              go_simp <;> with_reducible rfl)
           simp only [Act.put, List.setIfInBounds_toArray, List.set_cons_zero, List.set_cons_succ]))
      refine pt_eff ?_
      go_wp2_with fail
      obtain ⟨S, hS⟩ : ∃ S, S = v.heap.size := ⟨_, rfl⟩
      obtain ⟨u, hu⟩ : ∃ u, u = v.alloc (Obj.cells (stCells ⟨⟨pv, pm, L⟩, List.replicate L.length ⟨0, 0, fun _ => 0⟩, fun _ => 0, fun _ => 0⟩ PA pc T L.length) 124) := ⟨_, rfl⟩
      have hu' := hu
      simp only [stCells, List.length_replicate] at hu'
      rw [← hu', ← hS]
      clear hu'
      have hb : Below v.heap.size v u := by rw [hu]; exact (Below.refl _ _).alloc (Nat.le_refl _) _
      have HSA : Hid (SAt u (fun k => B1 ≤ k ∧ k < E1) S T ⟨⟨pv, pm, L⟩, List.replicate L.length ⟨0, 0, fun _ => 0⟩, fun _ => 0, fun _ => 0⟩) := Lib.hid ⟨PA, pc, _, by rw [hu, hS]; exact heap_alloc_new v _, by rw [List.length_replicate]; exact row_stepS HTR.out hb, (HCD.out.below hb).imp (fun k hk => hk), fun hk => by have := HE1.out; omega, fun hk => by have := HTC.out; omega, by have := HTR.out.lt; simp only at this; omega, by simp⟩
      have HB := Lib.hid (below_at HB.out hb)
      have HSW := Lib.hid (show Wa.heap.size ≤ S by have h3 := HTW.out; have := HTR.out.lt; simp only at this; omega)
      clear hb hu hS
      rename World => v
      refine pt_on (fun u h => h) (HXE.out _ HB.out) ?_
      repeat (first
        | (refine pt_pure (v := ?_) (by rfl) (fun w1 => ?_) ?_
           rotate_left
           · go_simp <;> with_reducible rfl
           simp only [Act.put, List.setIfInBounds_toArray, List.set_cons_zero, List.set_cons_succ])
        | (refine pt_off (by rfl) ?_
           simp only [Act.put, List.setIfInBounds_toArray, List.set_cons_zero, List.set_cons_succ])
        | (refine pt_load_off (by rfl) ?_
           simp only [Act.put, List.setIfInBounds_toArray, List.set_cons_zero, List.set_cons_succ])
        | (refine pt_load (v := ?_) (by rfl) (fun w1 hw1 => ?_) ?_
           rotate_left
           · (have q := hw1
              obtain ⟨x0, x1, x2, xl⟩ := q
              clear hw1
              go_simp <;> with_reducible rfl)
           simp only [Act.put, List.setIfInBounds_toArray, List.set_cons_zero, List.set_cons_succ]))
      refine pt_end ?_
      go_wp2_with fail
      go_meet
      exact ⟨S, T, _, rfl, HSA, Lib.hid ⟨HSW.out, HTW.out, fun k hk => by have := HBB1.out; omega⟩, HB⟩
  case rest =>
    obtain ⟨S, T, C, rfl, HSA, HW, HB⟩ := hcut
    clear HB1 HOK
    obtain ⟨PA, pc, tc, z0, z1, z2, z3, zv, zh, zc⟩ := HSA.out.cells
    have sl := HSA.out.lt.1
    simp only [List.length_replicate] at z3
    clear z0 z1 z2 zv zh zc
    go_wp2_with fail
    go_loopw [33] (fun x wr => ∃ (i : Nat), i ≤ L.length ∧ x = .int .i64 i ∧ Hid (SAt wr C S T ⟨⟨pv, pm, L⟩, thK L.length i f, fun _ => 0, fun _ => 0⟩) ∧ Hid (Below Wa.heap.size Wa wr)) (fun x _ => L.length - (intOf x).toNat)
    case atStart => exact ⟨0, Nat.zero_le _, rfl, Lib.hid (by rw [thK_zero]; exact HSA.out), HB⟩
    case round =>
      clear HSA HB z3 sl
      obtain ⟨i, hi, rfl, HSA, HB⟩ := hrel
      by_cases hlt : i < L.length
      · obtain ⟨PA', pc', tc', z0, z1, z2, z3, zv, zh, zc⟩ := HSA.out.cells
        have sl := HSA.out.lt.1
        have tl := HSA.out.lt.2
        simp only [thK_len] at z3
        obtain ⟨t0, t1, tr⟩ := HSA.out.thread i _ (thK_get hlt)
        have tf := HSA.out.free.2 (i * 4 + 1)
        obtain ⟨hs, hm⟩ := HSA.out.set_th (thK_get hlt) 1 (by omega) (.int .i64 (f : Nat)) (y := ⟨0, f, fun _ => 0⟩) rfl
        simp only [thK_set hlt] at hs
        have k1 : (0 : Int) ≤ (i : Int) := Int.natCast_nonneg _
        have k2 : (i : Int) < (L.length : Int) := by omega
        have HS := Lib.hid hs
        have HMM := Lib.hid hm
        clear z0 z1 z2 zv zh zc tr t0 hs hm
        go_wp2_with fail
        go_roundw
        case rel => exact ⟨i + 1, by omega, by go_num, HS, Lib.hid (HB.out.trans (HMM.out.below _ HB.out.size (fun k hk e => by have := HW.out.2.1; omega)))⟩
        case measure => simp [intOf]; omega
      · obtain rfl : i = L.length := by omega
        have hall := HSA.out
        rw [thK_all] at hall
        have HSA2 : Hid (SAt wr C S T ⟨⟨pv, pm, L⟩, L.map (fun _ => ⟨0, f, fun _ => 0⟩), fun _ => 0, fun k => if k < 0 then -1 else 0⟩) := Lib.hid (hall.eqv rfl rfl (fun _ _ => rfl) (fun _ _ => rfl))
        clear hall HSA
        go_wp2_with fail
        go_loopw [45] (fun x wr => ∃ (i : Nat), i ≤ 2 ∧ x = .int .i64 i ∧ Hid (SAt wr C S T ⟨⟨pv, pm, L⟩, L.map (fun _ => ⟨0, f, fun _ => 0⟩), fun _ => 0, fun k => if k < i then -1 else 0⟩) ∧ Hid (Below Wa.heap.size Wa wr)) (fun x _ => 2 - (intOf x).toNat)
        case atStart => exact ⟨0, by omega, rfl, HSA2, HB⟩
        case round =>
          clear HSA2 HB
          obtain ⟨i, hi, rfl, HSA, HB⟩ := hrel
          by_cases hlt : i < 2
          · have sl := HSA.out.lt.1
            obtain ⟨PA', pc', tc', z0, z1, z2, z3, zv, zh, zc⟩ := HSA.out.cells
            have hh := zh i hlt
            have sf := HSA.out.free.1 (8 + i)
            obtain ⟨hs, hm⟩ := HSA.out.set_h hlt (-1)
            have k1 : (0 : Int) ≤ (i : Int) := Int.natCast_nonneg _
            have k2 : (i : Int) < 2 := by omega
            have HS := Lib.hid hs
            have HMM := Lib.hid hm
            clear z0 z1 z2 z3 zv zh zc hs hm
            go_wp2_with fail
            go_roundw
            case rel => exact ⟨i + 1, by omega, by go_num, Lib.hid (HS.out.eqv rfl rfl (fun _ _ => rfl) (fun x hx => by
              simp only [updI]
              by_cases hxi : x = i
              · rw [if_pos hxi, if_pos (by omega)]
              · rw [if_neg hxi]
                by_cases h2 : x < i
                · rw [if_pos h2, if_pos (by omega)]
                · rw [if_neg h2, if_neg (by omega)])), Lib.hid (HB.out.trans (HMM.out.below _ HB.out.size (fun k hk e => by have := HW.out.1; omega)))⟩
            case measure => simp [intOf]; omega
          · have hi2 : i = 2 := by omega
            have HI := Lib.hid hi2
            clear hi2
            go_wp2_with fail
            go_ret2
            exact ⟨S, rfl, T, C, HSA.out.eqv rfl rfl (fun _ _ => rfl) (fun x hx => by show (-1 : Int) = if x < i then -1 else 0; rw [if_pos (by have := HI.out; omega)]), by have := HW.out.1; have := HAS.out; omega, by have := HW.out.2.1; have := HAS.out; omega, fun k hk => by have := HW.out.2.2 k hk; have := HAS.out; omega, below_at HBA.out HB.out⟩
end Go.Proofs.YtckdofjpoajblaaGreat
namespace Go.Proofs.YtckdofjpoajblaaGreat
open Go.RowKit
set_option linter.unusedVariables false
namespace Pr
def ins (s : St) (t : Nat) : Option Ins :=
  match s.th[t]?, s.p.code[t]? with
  | some x, some c => if x.fuel = 0 then none else c[x.pc]?
  | _, _ => none
structure Wf (s : St) : Prop where
  ok : Pr.Ok s.p
  len : s.th.length = s.p.code.length
  bnd : ∀ (t : Nat) (x : Th), s.th[t]? = some x → x.fuel ≤ 8 ∧ x.pc ≤ 8
theorem Wf.n4 {s : St} (h : Wf s) : s.th.length ≤ 4 := by rw [h.len]; exact h.ok.1.2.2.2.2.2
theorem Wf.n1 {s : St} (h : Wf s) : 1 ≤ s.th.length := by rw [h.len]; exact h.ok.1.2.2.2.2.1
theorem Wf.q8 {s : St} (h : Wf s) {t : Nat} {q : List Ins} (hq : s.p.code[t]? = some q) : q.length ≤ 8 := (h.ok.2 q (List.mem_of_getElem? hq)).1
theorem Wf.insOk {s : St} (h : Wf s) {t : Nat} {i : Ins} (hi : ins s t = some i) : ∃ n : Int, 0 ≤ n ∧ n ≤ 8 ∧ InsOk s.p.vars s.p.mtx n i := by
  unfold ins at hi
  split at hi
  · rename_i x c hx hc
    split at hi
    · cases hi
    · have hm := h.ok.2 c (List.mem_of_getElem? hc)
      exact ⟨c.length, by omega, by have := hm.1; omega, hm.2 i (List.mem_of_getElem? hi)⟩
  · cases hi
theorem start_wf {p : Pg} {f : Nat} (h : Ok p) (hf : f ≤ 8) : Wf (start p f) := by
  refine ⟨h, by simp [start], fun t x hx => ?_⟩
  simp only [start, List.getElem?_map] at hx
  obtain ⟨c, _, rfl⟩ := Option.map_eq_some_iff.1 hx
  exact ⟨hf, Nat.zero_le _⟩
def zeroI : Ins := ⟨0, 0, 0, 0⟩
end Pr
theorem threads_any (w : World) (C : Nat → Prop) (S T : Nat) (s : St) (h : SAt w C S T s) :
    Calls Tryz.prog 57 #[.pointer (some ⟨S, 0, none⟩)] w fun x w' => x = .returned (.int .i64 (s.th.length : Nat)) ∧ w = w' := by
  obtain ⟨PA, pc, tc, z0, z1, z2, z3, zv, zh, zc⟩ := h.cells
  have sl := h.lt.1
  generalize s.th.length = n at *
  clear z0 z1 z2 zv zh zc h
  go_enter Tryz.func57, Tryz.ntmps57
  go_wp2_with fail
  go_ret
  exact ⟨rfl, rfl⟩
theorem is_any (w : World) (C : Nat → Prop) (S T : Nat) (s : St) (t : Int) (h : SAt w C S T s) :
    Calls Tryz.prog 69 #[.pointer (some ⟨S, 0, none⟩), .int .i64 t] w fun x w' => x = .returned (.bool (decide (0 ≤ t ∧ t < (s.th.length : Int)))) ∧ w = w' := by
  have hc := threads_any w C S T s h
  generalize s.th.length = n at *
  have HC := Lib.hid hc
  clear hc h
  by_cases h0 : 0 ≤ t
  · go_enter Tryz.func69, Tryz.ntmps69
    go_wp2_with fail
    refine HC.out.mono ?_
    rintro x w' ⟨rfl, rfl⟩
    by_cases h1 : t < (n : Int)
    · go_wp2_with fail
      go_ret
      exact ⟨by rw [decide_eq_true ⟨h0, h1⟩]; rfl, rfl⟩
    · have hd : decide (t < (n : Int)) = false := decide_eq_false h1
      go_wp2_with fail
      go_ret
      exact ⟨by rw [decide_eq_false (show ¬ (0 ≤ t ∧ t < (n : Int)) by omega)]; first | rfl | simp [hd], rfl⟩
  · go_enter Tryz.func69, Tryz.ntmps69
    go_wp2_with fail
    go_ret
    exact ⟨by rw [decide_eq_false (show ¬ (0 : Int) ≤ t by omega)]; rfl, rfl⟩
theorem in4_exit {w : World} {X : Nat} {a b c d : Value} {T : TypeId} (h : w.heap[X]? = some (.cells #[a, b, c, d] T (0, 0))) (x y z u : Value) : ∃ V, V = (((w.setCell ⟨X, 0, none⟩ x).setCell ⟨X, 1, none⟩ y).setCell ⟨X, 2, none⟩ z).setCell ⟨X, 3, none⟩ u ∧
    (V.cell? ⟨X, 0, none⟩ = some x ∧ V.cell? ⟨X, 1, none⟩ = some y ∧ V.cell? ⟨X, 2, none⟩ = some z ∧ V.cell? ⟨X, 3, none⟩ = some u) ∧ Mod (fun k => k = X) w V := by
  have h1 := set_blk h 0 x
  have h2 := set_blk h1 1 y
  have h3 := set_blk h2 2 z
  have h4 := set_blk h3 3 u
  refine ⟨_, rfl, ⟨?_, ?_, ?_, ?_⟩, ((((Mod.refl (fun k => k = X) w).setCell (p := ⟨X, 0, none⟩) (fun _ => rfl) _).setCell (p := ⟨X, 1, none⟩) (fun _ => rfl) _).setCell (p := ⟨X, 2, none⟩) (fun _ => rfl) _).setCell (p := ⟨X, 3, none⟩) (fun _ => rfl) _⟩ <;> (rw [cell_blk h4]; simp)
theorem in4_cells {w : World} {X : Nat} {a b c d : Value} {T : TypeId} (h : w.heap[X]? = some (.cells #[a, b, c, d] T (0, 0))) : (w.cell? ⟨X, 0, none⟩ = some a ∧ w.cell? ⟨X, 1, none⟩ = some b ∧ w.cell? ⟨X, 2, none⟩ = some c ∧ w.cell? ⟨X, 3, none⟩ = some d) ∧ X < w.heap.size ∧ w.frozen? ⟨X, 0, none⟩ = false ∧ w.frozen? ⟨X, 1, none⟩ = false ∧ w.frozen? ⟨X, 2, none⟩ = false ∧ w.frozen? ⟨X, 3, none⟩ = false :=
  ⟨⟨by rw [cell_blk h]; rfl, by rw [cell_blk h]; rfl, by rw [cell_blk h]; rfl, by rw [cell_blk h]; rfl⟩, blk_lt h, free_blk h _, free_blk h _, free_blk h _, free_blk h _⟩
set_option maxRecDepth 100000 in
set_option maxHeartbeats 2000000 in
theorem instr_any (w : World) (C : Nat → Prop) (S T : Nat) (s : St) (t : Nat) (h : SAt w C S T s) (hw : Pr.Wf s) (ht : t < s.th.length) :
    Calls Tryz.prog 70 #[.pointer (some ⟨S, 0, none⟩), .int .i64 (t : Int)] w fun x w' => x = .returned (.tuple #[valI ((Pr.ins s t).getD Pr.zeroI), .bool (Pr.ins s t).isSome]) ∧ Below w.heap.size w w' := by
  obtain ⟨W, X, hW, hX, hB, hXl, hXe⟩ := ins_box w Pr.zeroI
  have hXk : W.heap[X]? = some (.cells #[.int .i64 0, .int .i64 0, .int .i64 0, .int .i64 0] 98 (0, 0)) := by rw [hW, hX]; exact heap_alloc_new w _
  have hS := h.below hB
  have hcall := is_any W C S T s t hS
  rw [decide_eq_true (show (0 : Int) ≤ t ∧ (t : Int) < s.th.length by omega)] at hcall
  obtain ⟨x, hx⟩ := get_some ht
  obtain ⟨q, hq⟩ := get_some (show t < s.p.code.length by rw [← hw.len]; exact ht)
  have hn4 := hw.n4
  have hq8 := hw.q8 hq
  obtain ⟨hf8, hp8⟩ := hw.bnd t x hx
  obtain ⟨PA, pc, tc, z0, z1, z2, z3, zv, zh, zc⟩ := hS.cells
  obtain ⟨t0, t1, tr⟩ := hS.thread t x hx
  obtain ⟨g, o, A', c', rfl, hCg, hgl, hrq, hqc, hcm, hcell⟩ := zc.get t q hq
  have hins : Pr.ins s t = if x.fuel = 0 then none else q[x.pc]? := by unfold Pr.ins; rw [hx, hq]
  have hcode : s.p.code.length = s.th.length := hw.len.symm
  have HCALL := Lib.hid hcall
  have HINS := Lib.hid hins
  have HZ := Lib.hid (And.intro z2 (And.intro z3 (And.intro t0 t1)))
  have HCELL := Lib.hid hcell
  have HRQ := Lib.hid hrq
  have HSL := Lib.hid hS.lt
  have HB := Lib.hid hB
  have HXK := Lib.hid hXk
  have HCO := Lib.hid hcode
  have HS := Lib.hid hS
  have HCG := Lib.hid hCg
  obtain ⟨n, hn⟩ : ∃ n, n = s.th.length := ⟨_, rfl⟩
  rw [hcode, ← hn] at HZ
  rw [← hn] at ht hn4
  have HNN := Lib.hid hn
  have HX8 := Lib.hid hX
  clear hcall hins z0 z1 z2 z3 zv zh zc t0 t1 tr hcell hrq hS hB hXk hcode hn hx hq h hXe hCg hX
  go_enter Tryz.func70, Tryz.ntmps70
  go_upto_region 1 with fail
  have hW' : W = w.alloc (Obj.cells #[.int .i64 0, .int .i64 0, .int .i64 0, .int .i64 0] 98) := hW
  rw [← hW', ← HX8.out]
  clear hW hW'
  go_wp2_with fail
  refine HCALL.out.mono ?_
  rintro y w1 ⟨rfl, rfl⟩
  go_upto_region 3 with fail
  go_cut [6, 7] (fun a b w2 => a = .pointer (some ⟨T, t * 4, none⟩) ∧ b = .slice A' q.length c' ∧ Hid (Below W.heap.size W w2))
  case first =>
    refine wp_region_planF (by kernel_rfl) (fun u => Below W.heap.size W u) [] [(0, .pure), (1, .pure), (2, .pure), (3, .load), (4, .pure), (5, .pure), (6, .pure), (7, .pure), (8, .pure), (9, .pure), (10, .load), (11, .pure), (12, .pure), (13, .load), (14, .pure), (15, .pure)] (by simp only [List.map_cons, List.map_nil, List.getElem?_toArray, List.getElem?_cons_succ, List.getElem?_cons_zero]; rfl) (by kernel_rfl) (fun _ _ d _ _ h => by cases d <;> exact h) ((Below.refl _ _).drew) ?_
    have k1 : (0 : Int) ≤ (t : Int) := Int.natCast_nonneg _
    have k2 : (t : Int) < (n : Int) := by omega
    repeat (first
      | (refine plan_pure (v := ?_) (by rfl) (fun w1 => ?_) ?_
         rotate_left
         · go_simp <;> with_reducible rfl
         simp only [Act.put, List.setIfInBounds_toArray, List.set_cons_zero, List.set_cons_succ])
      | (refine plan_off (by rfl) ?_
         simp only [Act.put, List.setIfInBounds_toArray, List.set_cons_zero, List.set_cons_succ])
      | (refine plan_load_off (by rfl) ?_
         simp only [Act.put, List.setIfInBounds_toArray, List.set_cons_zero, List.set_cons_succ])
      | (refine plan_load (v := ?_) (by rfl) (fun w1 hw1 => ?_) ?_
         rotate_left
         · (have q3 := (World.cell?_of_block (hw1.block S HSL.out.1)).trans HZ.out.2.1
            have q2 := (World.cell?_of_block (hw1.block S HSL.out.1)).trans HZ.out.1
            have q1 := HCELL.out w1 (hw1.block g hgl)
            clear hw1
            go_simp <;> with_reducible rfl)
         simp only [Act.put, List.setIfInBounds_toArray, List.set_cons_zero, List.set_cons_succ]))
    refine plan_end ?_
    go_wp2_with fail
    go_meet
    exact ⟨by first | rfl | simp, rfl, Lib.hid (Below.refl _ _).drew⟩
  case rest =>
    obtain ⟨rfl, rfl, HBC⟩ := hcut
    have t0 := (World.cell?_of_block (HBC.out.block T HSL.out.2)).trans HZ.out.2.2.1
    have t1 := (World.cell?_of_block (HBC.out.block T HSL.out.2)).trans HZ.out.2.2.2
    have hXc := (HBC.out.block X hXl).trans HXK.out
    have tl : T < wc.heap.size := by have := HBC.out.size; have := HSL.out.2; omega
    have HXC := Lib.hid hXc
    have HXW := Lib.hid (Nat.le_of_eq HX8.out.symm)
    clear hXc
    by_cases hf : x.fuel = 0
    · have q1 : ((x.fuel : Nat) : Int) = 0 := by omega
      have HF := Lib.hid hf
      clear hf
      obtain ⟨V2, hV2, ⟨d0, d1, d2, d3⟩, hmv⟩ := in4_exit HXC.out (.int .i64 0) (.int .i64 0) (.int .i64 0) (.int .i64 0)
      obtain ⟨⟨e0, e1, e2, e3⟩, el, g0, g1, g2, g3⟩ := in4_cells HXC.out
      have HV2 := Lib.hid hV2
      have HMV := Lib.hid hmv
      clear hV2 hmv
      go_wp2_with fail
      rw [← HV2.out]
      refine bodyPost_ret (v := .tuple #[.agg #[.int .i64 0, .int .i64 0, .int .i64 0, .int .i64 0], .bool false]) (by simp [results, Tryz.results70, go_sem, d0, d1, d2, d3]) rfl ?_
      exact ⟨by rw [show Pr.ins s t = none by rw [HINS.out]; rw [if_pos HF.out]]; rfl, (below_at HB.out HBC.out).trans (HMV.out.below _ (by have := HB.out.size; have := HBC.out.size; omega) (fun k hk e => by have := HXW.out; omega))⟩
    · have q1 : ¬ ((x.fuel : Nat) : Int) = 0 := by omega
      have e1 : (((x.fuel : Nat) : Int) == 0) = false := by simpa using hf
      have HF := Lib.hid hf
      clear hf
      by_cases hpc : x.pc < q.length
      · obtain ⟨i, hi⟩ := get_some hpc
        have q2 : ((x.pc : Nat) : Int) < ((q.length : Nat) : Int) := by omega
        have q3 : (0 : Int) ≤ ((x.pc : Nat) : Int) := by omega
        obtain ⟨g2, o2, rfl, hC2, hg2, hin⟩ := HRQ.out.ins x.pc i hi
        obtain ⟨i0, i1, i2, i3⟩ := hin wc (HBC.out.block g2 hg2)
        have g2l : g2 < wc.heap.size := by have := HBC.out.size; omega
        obtain ⟨V2, hV2, ⟨d0, d1, d2, d3⟩, hmv⟩ := in4_exit HXC.out (.int .i64 i.k) (.int .i64 i.r) (.int .i64 i.x) (.int .i64 i.n)
        obtain ⟨⟨e0, e1, e2, e3⟩, el, g0, g1, g2, g3⟩ := in4_cells HXC.out
        have HV2 := Lib.hid hV2
        have HMV := Lib.hid hmv
        have HI := Lib.hid hi
        clear hV2 hmv hi hin
        go_wp2_with fail
        rw [← HV2.out]
        refine bodyPost_ret (v := .tuple #[.agg #[.int .i64 i.k, .int .i64 i.r, .int .i64 i.x, .int .i64 i.n], .bool true]) (by simp [results, Tryz.results70, go_sem, d0, d1, d2, d3]) rfl ?_
        exact ⟨by rw [show Pr.ins s t = some i by rw [HINS.out, if_neg HF.out, HI.out]]; rfl, (below_at HB.out HBC.out).trans (HMV.out.below _ (by have := HB.out.size; have := HBC.out.size; omega) (fun k hk e => by have := HXW.out; omega))⟩
      · have q2 : ¬ ((x.pc : Nat) : Int) < ((q.length : Nat) : Int) := by omega
        have HP := Lib.hid hpc
        clear hpc
        obtain ⟨V2, hV2, ⟨d0, d1, d2, d3⟩, hmv⟩ := in4_exit HXC.out (.int .i64 0) (.int .i64 0) (.int .i64 0) (.int .i64 0)
        obtain ⟨⟨e0, e1, e2, e3⟩, el, g0, g1, g2, g3⟩ := in4_cells HXC.out
        have HV2 := Lib.hid hV2
        have HMV := Lib.hid hmv
        clear hV2 hmv
        go_wp2_with fail
        rw [← HV2.out]
        refine bodyPost_ret (v := .tuple #[.agg #[.int .i64 0, .int .i64 0, .int .i64 0, .int .i64 0], .bool false]) (by simp [results, Tryz.results70, go_sem, d0, d1, d2, d3]) rfl ?_
        exact ⟨by rw [show Pr.ins s t = none by rw [HINS.out]; rw [if_neg HF.out, List.getElem?_eq_none (by have := HP.out; omega)]]; rfl, (below_at HB.out HBC.out).trans (HMV.out.below _ (by have := HB.out.size; have := HBC.out.size; omega) (fun k hk e => by have := HXW.out; omega))⟩
end Go.Proofs.YtckdofjpoajblaaGreat
namespace Go.Proofs.YtckdofjpoajblaaGreat
open Go.RowKit
set_option linter.unusedVariables false
namespace Pr
def evOf (s : St) (t : Nat) (i : Ins) : Ev :=
  if i.k = 1 then ⟨t, 2, i.x, false⟩ else if i.k = 2 then ⟨t, 3, i.x, false⟩ else if i.k = 5 then ⟨t, 4, i.x, false⟩
  else if i.k = 6 then (if s.h i.x.toNat = t then ⟨t, 5, i.x, false⟩ else ⟨t, 1, 0, true⟩)
  else if i.k = 8 then ⟨t, 1, 0, decide (((s.th[t]?).map (fun x => x.r i.r.toNat)).getD 0 = 0)⟩ else ⟨t, 1, 0, false⟩
def next (s : St) (t : Nat) : Option Ev := (ins s t).map (evOf s t)
def zeroE : Ev := ⟨0, 0, 0, false⟩
end Pr
def evCells (e : Ev) : Array Value := #[.int .i64 e.t, .int .i64 e.k, .int .i64 e.o, .bool e.f]
set_option maxRecDepth 100000 in
set_option maxHeartbeats 4000000 in
theorem next_any (w : World) (C : Nat → Prop) (S T : Nat) (s : St) (t : Nat) (h : SAt w C S T s) (hw : Pr.Wf s) (ht : t < s.th.length) :
    Calls Tryz.prog 58 #[.pointer (some ⟨S, 0, none⟩), .int .i64 (t : Int)] w fun x w' => x = .returned (.tuple #[valE ((Pr.next s t).getD Pr.zeroE), .bool (Pr.next s t).isSome]) ∧ Below w.heap.size w w' := by
  obtain ⟨Wa, X, hWa, hX, hBa, hXl, hXk⟩ : ∃ Wa X, Wa = w.alloc (Obj.cells #[.int .i64 0, .int .i64 0, .int .i64 0, .bool false] 51) ∧ X = w.heap.size ∧ Below w.heap.size w Wa ∧ X < Wa.heap.size ∧ Wa.heap[X]? = some (.cells #[.int .i64 0, .int .i64 0, .int .i64 0, .bool false] 51 (0, 0)) :=
    ⟨_, _, rfl, rfl, (Below.refl _ _).alloc (Nat.le_refl _) _, by simp, heap_alloc_new w _⟩
  have hS := h.below hBa
  have hcall := instr_any Wa C S T s t hS hw ht
  have hio : ∀ i, Pr.ins s t = some i → ∃ n : Int, 0 ≤ n ∧ n ≤ 8 ∧ Pr.InsOk s.p.vars s.p.mtx n i := fun i hi => hw.insOk hi
  obtain ⟨q, hq⟩ : ∃ q, q = Pr.ins s t := ⟨_, rfl⟩
  have hnx : Pr.next s t = q.map (Pr.evOf s t) := by unfold Pr.next; rw [hq]
  rw [← hq] at hcall hio
  rw [hnx]
  have hxw : w.heap.size ≤ X := Nat.le_of_eq hX.symm
  have HCALL := Lib.hid hcall
  have HIO := Lib.hid hio
  have HS := Lib.hid h
  have HBA := Lib.hid hBa
  have HXK := Lib.hid hXk
  have HXW := Lib.hid hxw
  have HWF := Lib.hid hw
  have HT := Lib.hid ht
  clear hcall hio hS hBa hXk hq hnx h hw hxw ht
  go_enter Tryz.func58, Tryz.ntmps58
  go_upto_region 1 with fail
  rw [← hWa, ← hX]
  clear hWa hX
  go_wp2_with fail
  refine HCALL.out.mono ?_
  rintro y w1 ⟨rfl, b1⟩
  have HB1 := Lib.hid b1
  clear b1 HCALL
  cases q with
  | none =>
    simp only [Option.getD_none, Option.isSome_none, valI, Pr.zeroI] at *
    go_upto_region 2 with fail
    obtain ⟨Wb, hWb⟩ : ∃ Wb, Wb = w1.alloc (Obj.cells #[.int .i64 0, .int .i64 0, .int .i64 0, .int .i64 0] 98) := ⟨_, rfl⟩
    rw [← hWb]
    have hb : Below w1.heap.size w1 Wb := by rw [hWb]; exact (Below.refl _ _).alloc (Nat.le_refl _) _
    have hb2 := below_at HB1.out hb
    have hXb := (hb2.block X hXl).trans HXK.out
    obtain ⟨V2, hV2, ⟨d0, d1, d2, d3⟩, hmv⟩ := in4_exit hXb (.int .i64 0) (.int .i64 0) (.int .i64 0) (.bool false)
    obtain ⟨⟨e0, e1, e2, e3⟩, el, g0, g1, g2, g3⟩ := in4_cells hXb
    have HV2 := Lib.hid hV2
    have HMV := Lib.hid hmv
    have HB2 := Lib.hid (below_at HBA.out hb2)
    clear hV2 hmv hWb hb hb2 hXb
    go_wp2_with fail
    rw [← HV2.out]
    refine bodyPost_ret (v := .tuple #[.agg #[.int .i64 0, .int .i64 0, .int .i64 0, .bool false], .bool false]) (by simp [results, Tryz.results58, go_sem, d0, d1, d2, d3]) rfl ?_
    exact ⟨rfl, HB2.out.trans (HMV.out.below _ HB2.out.size (fun k hk e => by have := HXW.out; omega))⟩
  | some i =>
    simp only [Option.getD_some, Option.isSome_some] at *
    obtain ⟨n, hn0, hn8, hok⟩ := HIO.out i rfl
    obtain ⟨ik, ir, ix, im⟩ := i
    simp only [valI] at *
    go_upto_region 2 with fail
    obtain ⟨Wz, Z, hWz, hZ, hBz, hZl, hZe⟩ := ins_box w1 ⟨ik, ir, ix, im⟩
    simp only at hWz
    rw [← hWz, ← hZ]
    have hb2 := below_at HB1.out hBz
    have hXz := (hb2.block X hXl).trans HXK.out
    have hXZ : X < Z := by rw [hZ]; have := HB1.out.size; omega
    have HBZ := Lib.hid (below_at HBA.out hb2)
    have HXZ := Lib.hid hXz
    have HLT := Lib.hid (And.intro hXZ hZl)
    have HZE := Lib.hid hZe
    have HOK := Lib.hid hok
    have HN := Lib.hid (And.intro hn0 hn8)
    obtain ⟨⟨e0, e1, e2, e3⟩, el, g0, g1, g2, g3⟩ := in4_cells hXz
    clear hWz hZ hBz hb2 hXz hXZ hZe hok HIO hn0 hn8 hZl hXl
    go_upto_region 5 with fail
    obtain ⟨W5, hW5, ⟨d0, d1, d2, d3⟩, hm5⟩ := in4_exit HXZ.out (.int .i64 (t : Int)) (.int .i64 1) (.int .i64 0) (.bool false)
    have hX5 : W5.heap[X]? = some (.cells #[.int .i64 (t : Int), .int .i64 1, .int .i64 0, .bool false] 51 (0, 0)) := by
      rw [hW5, set_blk (set_blk (set_blk (set_blk HXZ.out 0 _) 1 _) 2 _) 3 _]; simp
    rw [← hW5]
    have HM5 := Lib.hid hm5
    have HX5 := Lib.hid hX5
    clear hW5 d0 d1 d2 d3 hm5 hX5 e0 e1 e2 e3 el g0 g1 g2 g3
    obtain ⟨⟨y0, y1, y2, y3⟩, yl⟩ := HZE.out Wz (Below.refl _ _)
    simp only [Nat.zero_add] at y1 y2 y3
    have HY := Lib.hid (And.intro y0 (And.intro y1 (And.intro y2 y3)))
    have z0 : W5.cell? ⟨Z, 0, none⟩ = some (.int .i64 ik) := (HM5.out.cell Z 0 yl (by have := HLT.out.1; omega)).trans y0
    have zl : Z < W5.heap.size := by have := HM5.out.size; omega
    clear y0 y1 y2 y3
    go_upto_block 0 with fail
    clear z0
    go_cut [20] (fun a w2 => Hid (w2.heap[X]? = some (.cells (evCells (Pr.evOf s t ⟨ik, ir, ix, im⟩)) 51 (0, 0))) ∧ Hid (Mod (fun k => k = X) W5 w2))
    case first =>
      have hrange : ∀ x : Int, x < 4 → 0 ≤ x → ∃ m : Nat, x = m ∧ m < 4 := fun x h1 h2 => ⟨x.toNat, by omega, by omega⟩
      have HRANGE := Lib.hid hrange
      clear hrange
      rcases (show ik = 1 ∨ ik = 2 ∨ ik = 3 ∨ ik = 4 ∨ ik = 5 ∨ ik = 6 ∨ ik = 7 ∨ ik = 8 from by have h1 := HOK.out.1; have h8 := HOK.out.2.1; simp only at h1 h8; omega) with rfl | rfl | rfl | rfl | rfl | rfl | rfl | rfl
      · obtain ⟨⟨e0, e1, e2, e3⟩, el, g0, g1, g2, g3⟩ := in4_cells HX5.out
        go_upto_region 7 with fail
        refine wp_region_planF (by kernel_rfl) (fun u => Mod (fun k => k = X) W5 u) [5] [(0, .pure), (1, .load), (2, .pure), (3, .eff), (4, .pure), (5, .last)] (by simp only [List.map_cons, List.map_nil, List.getElem?_toArray, List.getElem?_cons_succ, List.getElem?_cons_zero]; rfl) (by kernel_rfl) (fun _ _ d _ _ h => by cases d <;> exact h) ((Mod.refl _ _).drew) ?_
        obtain ⟨Wd, hWd⟩ : ∃ Wd, Wd = W5.drew := ⟨_, rfl⟩
        rw [← hWd]
        have s0 : Mod (fun k => k = X) W5 Wd := by rw [hWd]; exact (Mod.refl _ _).drew
        have hX6 : Wd.heap[X]? = some (.cells #[.int .i64 (t : Int), .int .i64 1, .int .i64 0, .bool false] 51 (0, 0)) := by rw [hWd]; exact HX5.out
        clear hWd
        clear e0 e1 e2 e3 el g0 g1 g2 g3
        repeat (first
          | (refine plan_pure (v := ?_) (by rfl) (fun w1 => ?_) ?_
             rotate_left
             · go_simp <;> with_reducible rfl
             simp only [Act.put, List.setIfInBounds_toArray, List.set_cons_zero, List.set_cons_succ])
          | (refine plan_off (by rfl) ?_
             simp only [Act.put, List.setIfInBounds_toArray, List.set_cons_zero, List.set_cons_succ])
          | (refine plan_load_off (by rfl) ?_
             simp only [Act.put, List.setIfInBounds_toArray, List.set_cons_zero, List.set_cons_succ])
          | (refine plan_load (v := ?_) (by rfl) (fun w1 hw1 => ?_) ?_
             rotate_left
             · (have q := (hw1.cell Z 2 zl (by have := HLT.out.1; omega)).trans ((HM5.out.cell Z 2 (by have := HLT.out.2; exact this) (by have := HLT.out.1; omega)).trans HY.out.2.2.1)
                clear hw1
                go_simp <;> with_reducible rfl)
             simp only [Act.put, List.setIfInBounds_toArray, List.set_cons_zero, List.set_cons_succ]))
        obtain ⟨⟨e0, e1, e2, e3⟩, el, g0, g1, g2, g3⟩ := in4_cells hX6
        obtain ⟨W6, hW6⟩ : ∃ W6, W6 = Wd.setCell ⟨X, 1, none⟩ (.int .i64 2) := ⟨_, rfl⟩
        have s1 : Mod (fun k => k = X) W5 W6 := by rw [hW6]; exact s0.setCell (p := ⟨X, 1, none⟩) (fun _ => rfl) _
        have hX7 : W6.heap[X]? = some (.cells #[.int .i64 (t : Int), .int .i64 2, .int .i64 0, .bool false] 51 (0, 0)) := by rw [hW6, set_blk hX6 1 _]; simp
        have hX8 := set_blk hX7 2 (.int .i64 ix)
        have s2 := s1.setCell (p := ⟨X, 2, none⟩) (fun _ => rfl) (.int .i64 ix)
        have HS1 := Lib.hid s1
        have HS2 := Lib.hid s2
        have HX7 := Lib.hid hX7
        have HX8 := Lib.hid hX8
        clear s0 s1 s2 hX6 hX7 hX8
        refine plan_eff ?_
        go_wp2_with fail
        rw [← hW6]
        clear hW6
        refine plan_on (fun _ h => h) HS1.out ?_
        clear e0 e1 e2 e3 el g0 g1 g2 g3
        repeat (first
          | (refine plan_pure (v := ?_) (by rfl) (fun w1 => ?_) ?_
             rotate_left
             · go_simp <;> with_reducible rfl
             simp only [Act.put, List.setIfInBounds_toArray, List.set_cons_zero, List.set_cons_succ])
          | (refine plan_off (by rfl) ?_
             simp only [Act.put, List.setIfInBounds_toArray, List.set_cons_zero, List.set_cons_succ])
          | (refine plan_load_off (by rfl) ?_
             simp only [Act.put, List.setIfInBounds_toArray, List.set_cons_zero, List.set_cons_succ])
          | (refine plan_load (v := ?_) (by rfl) (fun w1 hw1 => ?_) ?_
             rotate_left
             · (have q := (hw1.cell Z 2 zl (by have := HLT.out.1; omega)).trans ((HM5.out.cell Z 2 (by have := HLT.out.2; exact this) (by have := HLT.out.1; omega)).trans HY.out.2.2.1)
                clear hw1
                go_simp <;> with_reducible rfl)
             simp only [Act.put, List.setIfInBounds_toArray, List.set_cons_zero, List.set_cons_succ]))
        obtain ⟨⟨e0, e1, e2, e3⟩, el, g0, g1, g2, g3⟩ := in4_cells HX7.out
        refine plan_last ?_
        go_wp2_with fail
        repeat (first
          | (refine plan_pure (v := ?_) (by rfl) (fun w1 => ?_) ?_
             rotate_left
             · go_simp <;> with_reducible rfl
             simp only [Act.put, List.setIfInBounds_toArray, List.set_cons_zero, List.set_cons_succ])
          | (refine plan_off (by rfl) ?_
             simp only [Act.put, List.setIfInBounds_toArray, List.set_cons_zero, List.set_cons_succ])
          | (refine plan_load_off (by rfl) ?_
             simp only [Act.put, List.setIfInBounds_toArray, List.set_cons_zero, List.set_cons_succ])
          | (refine plan_load (v := ?_) (by rfl) (fun w1 hw1 => ?_) ?_
             rotate_left
             · (skip
                clear hw1
                go_simp <;> with_reducible rfl)
             simp only [Act.put, List.setIfInBounds_toArray, List.set_cons_zero, List.set_cons_succ]))
        refine plan_end ?_
        go_wp2_with fail
        go_meet
        exact ⟨Lib.hid (by rw [HX8.out]; simp [evCells, Pr.evOf]), HS2⟩
      · obtain ⟨⟨e0, e1, e2, e3⟩, el, g0, g1, g2, g3⟩ := in4_cells HX5.out
        go_upto_region 9 with fail
        refine wp_region_planF (by kernel_rfl) (fun u => Mod (fun k => k = X) W5 u) [5] [(0, .pure), (1, .load), (2, .pure), (3, .eff), (4, .pure), (5, .last)] (by simp only [List.map_cons, List.map_nil, List.getElem?_toArray, List.getElem?_cons_succ, List.getElem?_cons_zero]; rfl) (by kernel_rfl) (fun _ _ d _ _ h => by cases d <;> exact h) ((Mod.refl _ _).drew) ?_
        obtain ⟨Wd, hWd⟩ : ∃ Wd, Wd = W5.drew := ⟨_, rfl⟩
        rw [← hWd]
        have s0 : Mod (fun k => k = X) W5 Wd := by rw [hWd]; exact (Mod.refl _ _).drew
        have hX6 : Wd.heap[X]? = some (.cells #[.int .i64 (t : Int), .int .i64 1, .int .i64 0, .bool false] 51 (0, 0)) := by rw [hWd]; exact HX5.out
        clear hWd
        clear e0 e1 e2 e3 el g0 g1 g2 g3
        repeat (first
          | (refine plan_pure (v := ?_) (by rfl) (fun w1 => ?_) ?_
             rotate_left
             · go_simp <;> with_reducible rfl
             simp only [Act.put, List.setIfInBounds_toArray, List.set_cons_zero, List.set_cons_succ])
          | (refine plan_off (by rfl) ?_
             simp only [Act.put, List.setIfInBounds_toArray, List.set_cons_zero, List.set_cons_succ])
          | (refine plan_load_off (by rfl) ?_
             simp only [Act.put, List.setIfInBounds_toArray, List.set_cons_zero, List.set_cons_succ])
          | (refine plan_load (v := ?_) (by rfl) (fun w1 hw1 => ?_) ?_
             rotate_left
             · (have q := (hw1.cell Z 2 zl (by have := HLT.out.1; omega)).trans ((HM5.out.cell Z 2 (by have := HLT.out.2; exact this) (by have := HLT.out.1; omega)).trans HY.out.2.2.1)
                clear hw1
                go_simp <;> with_reducible rfl)
             simp only [Act.put, List.setIfInBounds_toArray, List.set_cons_zero, List.set_cons_succ]))
        obtain ⟨⟨e0, e1, e2, e3⟩, el, g0, g1, g2, g3⟩ := in4_cells hX6
        obtain ⟨W6, hW6⟩ : ∃ W6, W6 = Wd.setCell ⟨X, 1, none⟩ (.int .i64 3) := ⟨_, rfl⟩
        have s1 : Mod (fun k => k = X) W5 W6 := by rw [hW6]; exact s0.setCell (p := ⟨X, 1, none⟩) (fun _ => rfl) _
        have hX7 : W6.heap[X]? = some (.cells #[.int .i64 (t : Int), .int .i64 3, .int .i64 0, .bool false] 51 (0, 0)) := by rw [hW6, set_blk hX6 1 _]; simp
        have hX8 := set_blk hX7 2 (.int .i64 ix)
        have s2 := s1.setCell (p := ⟨X, 2, none⟩) (fun _ => rfl) (.int .i64 ix)
        have HS1 := Lib.hid s1
        have HS2 := Lib.hid s2
        have HX7 := Lib.hid hX7
        have HX8 := Lib.hid hX8
        clear s0 s1 s2 hX6 hX7 hX8
        refine plan_eff ?_
        go_wp2_with fail
        rw [← hW6]
        clear hW6
        refine plan_on (fun _ h => h) HS1.out ?_
        clear e0 e1 e2 e3 el g0 g1 g2 g3
        repeat (first
          | (refine plan_pure (v := ?_) (by rfl) (fun w1 => ?_) ?_
             rotate_left
             · go_simp <;> with_reducible rfl
             simp only [Act.put, List.setIfInBounds_toArray, List.set_cons_zero, List.set_cons_succ])
          | (refine plan_off (by rfl) ?_
             simp only [Act.put, List.setIfInBounds_toArray, List.set_cons_zero, List.set_cons_succ])
          | (refine plan_load_off (by rfl) ?_
             simp only [Act.put, List.setIfInBounds_toArray, List.set_cons_zero, List.set_cons_succ])
          | (refine plan_load (v := ?_) (by rfl) (fun w1 hw1 => ?_) ?_
             rotate_left
             · (have q := (hw1.cell Z 2 zl (by have := HLT.out.1; omega)).trans ((HM5.out.cell Z 2 (by have := HLT.out.2; exact this) (by have := HLT.out.1; omega)).trans HY.out.2.2.1)
                clear hw1
                go_simp <;> with_reducible rfl)
             simp only [Act.put, List.setIfInBounds_toArray, List.set_cons_zero, List.set_cons_succ]))
        obtain ⟨⟨e0, e1, e2, e3⟩, el, g0, g1, g2, g3⟩ := in4_cells HX7.out
        refine plan_last ?_
        go_wp2_with fail
        repeat (first
          | (refine plan_pure (v := ?_) (by rfl) (fun w1 => ?_) ?_
             rotate_left
             · go_simp <;> with_reducible rfl
             simp only [Act.put, List.setIfInBounds_toArray, List.set_cons_zero, List.set_cons_succ])
          | (refine plan_off (by rfl) ?_
             simp only [Act.put, List.setIfInBounds_toArray, List.set_cons_zero, List.set_cons_succ])
          | (refine plan_load_off (by rfl) ?_
             simp only [Act.put, List.setIfInBounds_toArray, List.set_cons_zero, List.set_cons_succ])
          | (refine plan_load (v := ?_) (by rfl) (fun w1 hw1 => ?_) ?_
             rotate_left
             · (skip
                clear hw1
                go_simp <;> with_reducible rfl)
             simp only [Act.put, List.setIfInBounds_toArray, List.set_cons_zero, List.set_cons_succ]))
        refine plan_end ?_
        go_wp2_with fail
        go_meet
        exact ⟨Lib.hid (by rw [HX8.out]; simp [evCells, Pr.evOf]), HS2⟩
      · go_wp2_with fail
        go_meet
        exact ⟨Lib.hid (by rw [HX5.out]; simp [evCells, Pr.evOf]), Lib.hid (Mod.refl _ _)⟩
      · go_wp2_with fail
        go_meet
        exact ⟨Lib.hid (by rw [HX5.out]; simp [evCells, Pr.evOf]), Lib.hid (Mod.refl _ _)⟩
      · obtain ⟨⟨e0, e1, e2, e3⟩, el, g0, g1, g2, g3⟩ := in4_cells HX5.out
        go_upto_region 11 with fail
        refine wp_region_planF (by kernel_rfl) (fun u => Mod (fun k => k = X) W5 u) [5] [(0, .pure), (1, .load), (2, .pure), (3, .eff), (4, .pure), (5, .last)] (by simp only [List.map_cons, List.map_nil, List.getElem?_toArray, List.getElem?_cons_succ, List.getElem?_cons_zero]; rfl) (by kernel_rfl) (fun _ _ d _ _ h => by cases d <;> exact h) ((Mod.refl _ _).drew) ?_
        obtain ⟨Wd, hWd⟩ : ∃ Wd, Wd = W5.drew := ⟨_, rfl⟩
        rw [← hWd]
        have s0 : Mod (fun k => k = X) W5 Wd := by rw [hWd]; exact (Mod.refl _ _).drew
        have hX6 : Wd.heap[X]? = some (.cells #[.int .i64 (t : Int), .int .i64 1, .int .i64 0, .bool false] 51 (0, 0)) := by rw [hWd]; exact HX5.out
        clear hWd
        clear e0 e1 e2 e3 el g0 g1 g2 g3
        repeat (first
          | (refine plan_pure (v := ?_) (by rfl) (fun w1 => ?_) ?_
             rotate_left
             · go_simp <;> with_reducible rfl
             simp only [Act.put, List.setIfInBounds_toArray, List.set_cons_zero, List.set_cons_succ])
          | (refine plan_off (by rfl) ?_
             simp only [Act.put, List.setIfInBounds_toArray, List.set_cons_zero, List.set_cons_succ])
          | (refine plan_load_off (by rfl) ?_
             simp only [Act.put, List.setIfInBounds_toArray, List.set_cons_zero, List.set_cons_succ])
          | (refine plan_load (v := ?_) (by rfl) (fun w1 hw1 => ?_) ?_
             rotate_left
             · (have q := (hw1.cell Z 2 zl (by have := HLT.out.1; omega)).trans ((HM5.out.cell Z 2 (by have := HLT.out.2; exact this) (by have := HLT.out.1; omega)).trans HY.out.2.2.1)
                clear hw1
                go_simp <;> with_reducible rfl)
             simp only [Act.put, List.setIfInBounds_toArray, List.set_cons_zero, List.set_cons_succ]))
        obtain ⟨⟨e0, e1, e2, e3⟩, el, g0, g1, g2, g3⟩ := in4_cells hX6
        obtain ⟨W6, hW6⟩ : ∃ W6, W6 = Wd.setCell ⟨X, 1, none⟩ (.int .i64 4) := ⟨_, rfl⟩
        have s1 : Mod (fun k => k = X) W5 W6 := by rw [hW6]; exact s0.setCell (p := ⟨X, 1, none⟩) (fun _ => rfl) _
        have hX7 : W6.heap[X]? = some (.cells #[.int .i64 (t : Int), .int .i64 4, .int .i64 0, .bool false] 51 (0, 0)) := by rw [hW6, set_blk hX6 1 _]; simp
        have hX8 := set_blk hX7 2 (.int .i64 ix)
        have s2 := s1.setCell (p := ⟨X, 2, none⟩) (fun _ => rfl) (.int .i64 ix)
        have HS1 := Lib.hid s1
        have HS2 := Lib.hid s2
        have HX7 := Lib.hid hX7
        have HX8 := Lib.hid hX8
        clear s0 s1 s2 hX6 hX7 hX8
        refine plan_eff ?_
        go_wp2_with fail
        rw [← hW6]
        clear hW6
        refine plan_on (fun _ h => h) HS1.out ?_
        clear e0 e1 e2 e3 el g0 g1 g2 g3
        repeat (first
          | (refine plan_pure (v := ?_) (by rfl) (fun w1 => ?_) ?_
             rotate_left
             · go_simp <;> with_reducible rfl
             simp only [Act.put, List.setIfInBounds_toArray, List.set_cons_zero, List.set_cons_succ])
          | (refine plan_off (by rfl) ?_
             simp only [Act.put, List.setIfInBounds_toArray, List.set_cons_zero, List.set_cons_succ])
          | (refine plan_load_off (by rfl) ?_
             simp only [Act.put, List.setIfInBounds_toArray, List.set_cons_zero, List.set_cons_succ])
          | (refine plan_load (v := ?_) (by rfl) (fun w1 hw1 => ?_) ?_
             rotate_left
             · (have q := (hw1.cell Z 2 zl (by have := HLT.out.1; omega)).trans ((HM5.out.cell Z 2 (by have := HLT.out.2; exact this) (by have := HLT.out.1; omega)).trans HY.out.2.2.1)
                clear hw1
                go_simp <;> with_reducible rfl)
             simp only [Act.put, List.setIfInBounds_toArray, List.set_cons_zero, List.set_cons_succ]))
        obtain ⟨⟨e0, e1, e2, e3⟩, el, g0, g1, g2, g3⟩ := in4_cells HX7.out
        refine plan_last ?_
        go_wp2_with fail
        repeat (first
          | (refine plan_pure (v := ?_) (by rfl) (fun w1 => ?_) ?_
             rotate_left
             · go_simp <;> with_reducible rfl
             simp only [Act.put, List.setIfInBounds_toArray, List.set_cons_zero, List.set_cons_succ])
          | (refine plan_off (by rfl) ?_
             simp only [Act.put, List.setIfInBounds_toArray, List.set_cons_zero, List.set_cons_succ])
          | (refine plan_load_off (by rfl) ?_
             simp only [Act.put, List.setIfInBounds_toArray, List.set_cons_zero, List.set_cons_succ])
          | (refine plan_load (v := ?_) (by rfl) (fun w1 hw1 => ?_) ?_
             rotate_left
             · (skip
                clear hw1
                go_simp <;> with_reducible rfl)
             simp only [Act.put, List.setIfInBounds_toArray, List.set_cons_zero, List.set_cons_succ]))
        refine plan_end ?_
        go_wp2_with fail
        go_meet
        exact ⟨Lib.hid (by rw [HX8.out]; simp [evCells, Pr.evOf]), HS2⟩
      · have hx := HOK.out.2.2.2.2.2.1
        have hxm := HOK.out.2.2.2.2.2.2.2.2.2.2.1 (Or.inr rfl)
        have hmm := HWF.out.ok.1.2.2.2.1
        simp only at hx hxm
        obtain ⟨m, rfl, hm4⟩ := HRANGE.out ix (by omega) hx
        have hm2 : m < 2 := by omega
        clear hx hxm hmm
        go_upto_region 13 with fail
        refine wp_region_planF (by kernel_rfl) (fun u => Mod (fun k => k = X) W5 u) [] [(0, .pure), (1, .pure), (2, .load), (3, .pure), (4, .pure), (5, .pure), (6, .load), (7, .pure), (8, .pure)] (by simp only [List.map_cons, List.map_nil, List.getElem?_toArray, List.getElem?_cons_succ, List.getElem?_cons_zero]; rfl) (by kernel_rfl) (fun _ _ d _ _ h => by cases d <;> exact h) ((Mod.refl _ _).drew) ?_
        have k1 : (0 : Int) ≤ (m : Int) := Int.natCast_nonneg _
        have k2 : (m : Int) < 2 := by omega
        have hb5 : ∀ u, Mod (fun k => k = X) W5 u → Below w.heap.size w u := fun u hu => (HBZ.out.trans (HM5.out.below _ HBZ.out.size (fun k hk e => by have := HXW.out; omega))).trans (hu.below _ (by have := HBZ.out.size; have := HM5.out.size; omega) (fun k hk e => by have := HXW.out; omega))
        have HB5 := Lib.hid hb5
        clear hb5
        obtain ⟨Wd, hWd⟩ : ∃ Wd, Wd = W5.drew := ⟨_, rfl⟩
        rw [← hWd]
        have s0 : Mod (fun k => k = X) W5 Wd := by rw [hWd]; exact (Mod.refl _ _).drew
        have hX6 : Wd.heap[X]? = some (.cells #[.int .i64 (t : Int), .int .i64 1, .int .i64 0, .bool false] 51 (0, 0)) := by rw [hWd]; exact HX5.out
        have HS0 := Lib.hid s0
        have HX6 := Lib.hid hX6
        clear hWd s0 hX6
        repeat (first
          | (refine plan_pure (v := ?_) (by rfl) (fun w1 => ?_) ?_
             rotate_left
             · go_simp <;> with_reducible rfl
             simp only [Act.put, List.setIfInBounds_toArray, List.set_cons_zero, List.set_cons_succ])
          | (refine plan_off (by rfl) ?_
             simp only [Act.put, List.setIfInBounds_toArray, List.set_cons_zero, List.set_cons_succ])
          | (refine plan_load_off (by rfl) ?_
             simp only [Act.put, List.setIfInBounds_toArray, List.set_cons_zero, List.set_cons_succ])
          | (refine plan_load (v := ?_) (by rfl) (fun w1 hw1 => ?_) ?_
             rotate_left
             · (have q := (hw1.cell Z 2 zl (by have := HLT.out.1; omega)).trans ((HM5.out.cell Z 2 (by have := HLT.out.2; exact this) (by have := HLT.out.1; omega)).trans HY.out.2.2.1)
                have q2 := (HS.out.below (HB5.out w1 hw1)).cells
                obtain ⟨PA, pc, tc, _, _, _, _, _, qh, _⟩ := q2
                have q3 := qh m hm2
                clear qh
                clear hw1
                go_simp <;> with_reducible rfl)
             simp only [Act.put, List.setIfInBounds_toArray, List.set_cons_zero, List.set_cons_succ]))
        refine plan_end ?_
        by_cases hh : s.h m = (t : Int)
        · have hd : (s.h m == (t : Int)) = true := by simpa using hh
          obtain ⟨⟨e0, e1, e2, e3⟩, el, g0, g1, g2, g3⟩ := in4_cells HX6.out
          have hev : Pr.evOf s t ⟨6, ir, (m : Int), im⟩ = ⟨t, 5, m, false⟩ := by simp [Pr.evOf, hh]
          have HEV := Lib.hid hev
          have HXX := Lib.hid HX6.out
          clear e0 e1 e2 e3 el g0 g1 g2 g3 hev
          go_upto_region 15 with fail
          refine wp_region_planF (by kernel_rfl) (fun u => Mod (fun k => k = X) W5 u) [5] [(0, .pure), (1, .load), (2, .pure), (3, .eff), (4, .pure), (5, .last)] (by simp only [List.map_cons, List.map_nil, List.getElem?_toArray, List.getElem?_cons_succ, List.getElem?_cons_zero]; rfl) (by kernel_rfl) (fun _ _ d _ _ h => by cases d <;> exact h) (HS0.out.drew) ?_
          obtain ⟨We, hWe⟩ : ∃ We, We = Wd.drew := ⟨_, rfl⟩
          rw [← hWe]
          have s0 : Mod (fun k => k = X) W5 We := by rw [hWe]; exact HS0.out.drew
          have hX6 : We.heap[X]? = some (.cells #[.int .i64 (t : Int), .int .i64 1, .int .i64 0, .bool false] 51 (0, 0)) := by rw [hWe]; exact HX6.out
          clear hWe
          repeat (first
            | (refine plan_pure (v := ?_) (by rfl) (fun w1 => ?_) ?_
               rotate_left
               · go_simp <;> with_reducible rfl
               simp only [Act.put, List.setIfInBounds_toArray, List.set_cons_zero, List.set_cons_succ])
            | (refine plan_off (by rfl) ?_
               simp only [Act.put, List.setIfInBounds_toArray, List.set_cons_zero, List.set_cons_succ])
            | (refine plan_load_off (by rfl) ?_
               simp only [Act.put, List.setIfInBounds_toArray, List.set_cons_zero, List.set_cons_succ])
            | (refine plan_load (v := ?_) (by rfl) (fun w1 hw1 => ?_) ?_
               rotate_left
               · (have q := (hw1.cell Z 2 zl (by have := HLT.out.1; omega)).trans ((HM5.out.cell Z 2 (by have := HLT.out.2; exact this) (by have := HLT.out.1; omega)).trans HY.out.2.2.1)
                  clear hw1
                  go_simp <;> with_reducible rfl)
               simp only [Act.put, List.setIfInBounds_toArray, List.set_cons_zero, List.set_cons_succ]))
          obtain ⟨⟨e0, e1, e2, e3⟩, el, g0, g1, g2, g3⟩ := in4_cells hX6
          obtain ⟨W6, hW6⟩ : ∃ W6, W6 = We.setCell ⟨X, 1, none⟩ (.int .i64 5) := ⟨_, rfl⟩
          have s1 : Mod (fun k => k = X) W5 W6 := by rw [hW6]; exact s0.setCell (p := ⟨X, 1, none⟩) (fun _ => rfl) _
          have hX7 : W6.heap[X]? = some (.cells #[.int .i64 (t : Int), .int .i64 5, .int .i64 0, .bool false] 51 (0, 0)) := by rw [hW6, set_blk hX6 1 _]; simp
          have hX8 := set_blk hX7 2 (.int .i64 (m : Int))
          have s2 := s1.setCell (p := ⟨X, 2, none⟩) (fun _ => rfl) (.int .i64 (m : Int))
          have HS1 := Lib.hid s1
          have HS2 := Lib.hid s2
          have HX7 := Lib.hid hX7
          have HX8 := Lib.hid hX8
          clear s0 s1 s2 hX6 hX7 hX8
          refine plan_eff ?_
          go_wp2_with fail
          rw [← hW6]
          clear hW6
          refine plan_on (fun _ h => h) HS1.out ?_
          clear e0 e1 e2 e3 el g0 g1 g2 g3
          repeat (first
            | (refine plan_pure (v := ?_) (by rfl) (fun w1 => ?_) ?_
               rotate_left
               · go_simp <;> with_reducible rfl
               simp only [Act.put, List.setIfInBounds_toArray, List.set_cons_zero, List.set_cons_succ])
            | (refine plan_off (by rfl) ?_
               simp only [Act.put, List.setIfInBounds_toArray, List.set_cons_zero, List.set_cons_succ])
            | (refine plan_load_off (by rfl) ?_
               simp only [Act.put, List.setIfInBounds_toArray, List.set_cons_zero, List.set_cons_succ])
            | (refine plan_load (v := ?_) (by rfl) (fun w1 hw1 => ?_) ?_
               rotate_left
               · (have q := (hw1.cell Z 2 zl (by have := HLT.out.1; omega)).trans ((HM5.out.cell Z 2 (by have := HLT.out.2; exact this) (by have := HLT.out.1; omega)).trans HY.out.2.2.1)
                  clear hw1
                  go_simp <;> with_reducible rfl)
               simp only [Act.put, List.setIfInBounds_toArray, List.set_cons_zero, List.set_cons_succ]))
          obtain ⟨⟨e0, e1, e2, e3⟩, el, g0, g1, g2, g3⟩ := in4_cells HX7.out
          refine plan_last ?_
          go_wp2_with fail
          repeat (first
            | (refine plan_pure (v := ?_) (by rfl) (fun w1 => ?_) ?_
               rotate_left
               · go_simp <;> with_reducible rfl
               simp only [Act.put, List.setIfInBounds_toArray, List.set_cons_zero, List.set_cons_succ])
            | (refine plan_off (by rfl) ?_
               simp only [Act.put, List.setIfInBounds_toArray, List.set_cons_zero, List.set_cons_succ])
            | (refine plan_load_off (by rfl) ?_
               simp only [Act.put, List.setIfInBounds_toArray, List.set_cons_zero, List.set_cons_succ])
            | (refine plan_load (v := ?_) (by rfl) (fun w1 hw1 => ?_) ?_
               rotate_left
               · (skip
                  clear hw1
                  go_simp <;> with_reducible rfl)
               simp only [Act.put, List.setIfInBounds_toArray, List.set_cons_zero, List.set_cons_succ]))
          refine plan_end ?_
          go_wp2_with fail
          go_meet
          exact ⟨Lib.hid (by rw [HX8.out, HEV.out]; simp [evCells]), HS2⟩
        · have hd : (s.h m == (t : Int)) = false := by simpa using hh
          have hev : Pr.evOf s t ⟨6, ir, (m : Int), im⟩ = ⟨t, 1, 0, true⟩ := by simp [Pr.evOf, hh]
          have HEV := Lib.hid hev
          obtain ⟨⟨e0, e1, e2, e3⟩, el, g0, g1, g2, g3⟩ := in4_cells HX6.out
          have HX8 := Lib.hid (set_blk HX6.out 3 (.bool true))
          have HS2 := Lib.hid (HS0.out.setCell (p := ⟨X, 3, none⟩) (fun _ => rfl) (.bool true))
          clear hev
          go_wp2_with fail
          go_meet
          exact ⟨Lib.hid (by rw [HX8.out, HEV.out]; simp [evCells]), HS2⟩
      · go_wp2_with fail
        go_meet
        exact ⟨Lib.hid (by rw [HX5.out]; simp [evCells, Pr.evOf]), Lib.hid (Mod.refl _ _)⟩
      · have hx := HOK.out.2.2.2.2.2.2.1
        have hxm := HOK.out.2.2.2.2.2.2.2.1
        simp only at hx hxm
        obtain ⟨m, rfl, hm4⟩ := HRANGE.out ir (by omega) hx
        have hm2 : m < 2 := by omega
        clear hx hxm
        obtain ⟨x, hx⟩ := get_some HT.out
        obtain ⟨y, hy⟩ : ∃ y, y = x.r m := ⟨_, rfl⟩
        obtain ⟨nn, hnn⟩ : ∃ n, n = s.th.length := ⟨_, rfl⟩
        have HYR := Lib.hid (And.intro hx hy)
        have HTN := Lib.hid hnn.symm
        have htn : t < nn := by rw [hnn]; exact HT.out
        clear hx hy hnn
        go_upto_region 17 with fail
        refine wp_region_planF (by kernel_rfl) (fun u => Mod (fun k => k = X) W5 u) [13] [(0, .pure), (1, .pure), (2, .pure), (3, .load), (4, .pure), (5, .pure), (6, .load), (7, .pure), (8, .pure), (9, .pure), (10, .load), (11, .pure), (12, .pure), (13, .last)] (by simp only [List.map_cons, List.map_nil, List.getElem?_toArray, List.getElem?_cons_succ, List.getElem?_cons_zero]; rfl) (by kernel_rfl) (fun _ _ d _ _ h => by cases d <;> exact h) ((Mod.refl _ _).drew) ?_
        have k1 : (0 : Int) ≤ (m : Int) := Int.natCast_nonneg _
        have k2 : (m : Int) < 2 := by omega
        have k3 : (0 : Int) ≤ (t : Int) := Int.natCast_nonneg _
        have k4 : (t : Int) < (nn : Int) := by omega
        have hb5 : ∀ u, Mod (fun k => k = X) W5 u → Below w.heap.size w u := fun u hu => (HBZ.out.trans (HM5.out.below _ HBZ.out.size (fun k hk e => by have := HXW.out; omega))).trans (hu.below _ (by have := HBZ.out.size; have := HM5.out.size; omega) (fun k hk e => by have := HXW.out; omega))
        have HB5 := Lib.hid hb5
        clear hb5
        obtain ⟨Wd, hWd⟩ : ∃ Wd, Wd = W5.drew := ⟨_, rfl⟩
        rw [← hWd]
        have s0 : Mod (fun k => k = X) W5 Wd := by rw [hWd]; exact (Mod.refl _ _).drew
        have hX6 : Wd.heap[X]? = some (.cells #[.int .i64 (t : Int), .int .i64 1, .int .i64 0, .bool false] 51 (0, 0)) := by rw [hWd]; exact HX5.out
        have HS0 := Lib.hid s0
        have HX6 := Lib.hid hX6
        clear hWd s0 hX6
        by_cases hy0 : y = 0
        · have hd : (y == 0) = true := by simpa using hy0
          have hev : Pr.evOf s t ⟨8, (m : Int), ix, im⟩ = ⟨t, 1, 0, true⟩ := by simp [Pr.evOf, HYR.out.1, ← HYR.out.2, hy0]
          have HEV := Lib.hid hev
          clear hev
          have HX8 := Lib.hid (set_blk HX6.out 3 (.bool true))
          have HS2 := Lib.hid (HS0.out.setCell (p := ⟨X, 3, none⟩) (fun _ => rfl) (.bool true))
          repeat (first
            | (refine plan_pure (v := ?_) (by rfl) (fun w1 => ?_) ?_
               rotate_left
               · go_simp <;> with_reducible rfl
               simp only [Act.put, List.setIfInBounds_toArray, List.set_cons_zero, List.set_cons_succ])
            | (refine plan_off (by rfl) ?_
               simp only [Act.put, List.setIfInBounds_toArray, List.set_cons_zero, List.set_cons_succ])
            | (refine plan_load_off (by rfl) ?_
               simp only [Act.put, List.setIfInBounds_toArray, List.set_cons_zero, List.set_cons_succ])
            | (refine plan_load (v := ?_) (by rfl) (fun w1 hw1 => ?_) ?_
               rotate_left
               · (have q := (hw1.cell Z 1 zl (by have := HLT.out.1; omega)).trans ((HM5.out.cell Z 1 (by have := HLT.out.2; exact this) (by have := HLT.out.1; omega)).trans HY.out.2.1)
                  have hq := HS.out.below (HB5.out w1 hw1)
                  have z3 := HS.out.z3 (HB5.out w1 hw1)
                  obtain ⟨PA, pc, tc, _, _, _, _, _, _, _⟩ := hq.cells
                  have q3 := (hq.thread t x HYR.out.1).2.2 m hm2
                  rw [← HYR.out.2] at q3
                  rw [HTN.out] at z3
                  have ql := hq.lt.2
                  clear hq
                  clear hw1
                  go_simp <;> with_reducible rfl)
               simp only [Act.put, List.setIfInBounds_toArray, List.set_cons_zero, List.set_cons_succ]))
          obtain ⟨⟨e0, e1, e2, e3⟩, el, g0, g1, g2, g3⟩ := in4_cells HX6.out
          refine plan_last ?_
          go_wp2_with fail
          repeat (first
            | (refine plan_pure (v := ?_) (by rfl) (fun w1 => ?_) ?_
               rotate_left
               · go_simp <;> with_reducible rfl
               simp only [Act.put, List.setIfInBounds_toArray, List.set_cons_zero, List.set_cons_succ])
            | (refine plan_off (by rfl) ?_
               simp only [Act.put, List.setIfInBounds_toArray, List.set_cons_zero, List.set_cons_succ])
            | (refine plan_load_off (by rfl) ?_
               simp only [Act.put, List.setIfInBounds_toArray, List.set_cons_zero, List.set_cons_succ])
            | (refine plan_load (v := ?_) (by rfl) (fun w1 hw1 => ?_) ?_
               rotate_left
               · (skip
                  clear hw1
                  go_simp <;> with_reducible rfl)
               simp only [Act.put, List.setIfInBounds_toArray, List.set_cons_zero, List.set_cons_succ]))
          refine plan_end ?_
          go_wp2_with fail
          go_meet
          exact ⟨Lib.hid (by rw [HX8.out, HEV.out]; simp [evCells]), HS2⟩
        · have hd : (y == 0) = false := by simpa using hy0
          have hev : Pr.evOf s t ⟨8, (m : Int), ix, im⟩ = ⟨t, 1, 0, false⟩ := by simp [Pr.evOf, HYR.out.1, ← HYR.out.2, hy0]
          have HEV := Lib.hid hev
          clear hev
          have HX8 := Lib.hid (set_blk HX6.out 3 (.bool false))
          have HS2 := Lib.hid (HS0.out.setCell (p := ⟨X, 3, none⟩) (fun _ => rfl) (.bool false))
          repeat (first
            | (refine plan_pure (v := ?_) (by rfl) (fun w1 => ?_) ?_
               rotate_left
               · go_simp <;> with_reducible rfl
               simp only [Act.put, List.setIfInBounds_toArray, List.set_cons_zero, List.set_cons_succ])
            | (refine plan_off (by rfl) ?_
               simp only [Act.put, List.setIfInBounds_toArray, List.set_cons_zero, List.set_cons_succ])
            | (refine plan_load_off (by rfl) ?_
               simp only [Act.put, List.setIfInBounds_toArray, List.set_cons_zero, List.set_cons_succ])
            | (refine plan_load (v := ?_) (by rfl) (fun w1 hw1 => ?_) ?_
               rotate_left
               · (have q := (hw1.cell Z 1 zl (by have := HLT.out.1; omega)).trans ((HM5.out.cell Z 1 (by have := HLT.out.2; exact this) (by have := HLT.out.1; omega)).trans HY.out.2.1)
                  have hq := HS.out.below (HB5.out w1 hw1)
                  have z3 := HS.out.z3 (HB5.out w1 hw1)
                  obtain ⟨PA, pc, tc, _, _, _, _, _, _, _⟩ := hq.cells
                  have q3 := (hq.thread t x HYR.out.1).2.2 m hm2
                  rw [← HYR.out.2] at q3
                  rw [HTN.out] at z3
                  have ql := hq.lt.2
                  clear hq
                  clear hw1
                  go_simp <;> with_reducible rfl)
               simp only [Act.put, List.setIfInBounds_toArray, List.set_cons_zero, List.set_cons_succ]))
          obtain ⟨⟨e0, e1, e2, e3⟩, el, g0, g1, g2, g3⟩ := in4_cells HX6.out
          refine plan_last ?_
          go_wp2_with fail
          repeat (first
            | (refine plan_pure (v := ?_) (by rfl) (fun w1 => ?_) ?_
               rotate_left
               · go_simp <;> with_reducible rfl
               simp only [Act.put, List.setIfInBounds_toArray, List.set_cons_zero, List.set_cons_succ])
            | (refine plan_off (by rfl) ?_
               simp only [Act.put, List.setIfInBounds_toArray, List.set_cons_zero, List.set_cons_succ])
            | (refine plan_load_off (by rfl) ?_
               simp only [Act.put, List.setIfInBounds_toArray, List.set_cons_zero, List.set_cons_succ])
            | (refine plan_load (v := ?_) (by rfl) (fun w1 hw1 => ?_) ?_
               rotate_left
               · (skip
                  clear hw1
                  go_simp <;> with_reducible rfl)
               simp only [Act.put, List.setIfInBounds_toArray, List.set_cons_zero, List.set_cons_succ]))
          refine plan_end ?_
          go_wp2_with fail
          go_meet
          exact ⟨Lib.hid (by rw [HX8.out, HEV.out]; simp [evCells]), HS2⟩
    case rest =>
      obtain ⟨HXC, HMC⟩ := hcut
      obtain ⟨e, he⟩ : ∃ e, e = Pr.evOf s t ⟨ik, ir, ix, im⟩ := ⟨_, rfl⟩
      rw [← he] at HXC
      obtain ⟨V2, hV2, ⟨d0, d1, d2, d3⟩, hmv⟩ := in4_exit HXC.out (.int .i64 e.t) (.int .i64 e.k) (.int .i64 e.o) (.bool e.f)
      obtain ⟨⟨e0, e1, e2, e3⟩, el, g0, g1, g2, g3⟩ := in4_cells HXC.out
      have HV2 := Lib.hid hV2
      have HMV := Lib.hid hmv
      have HE := Lib.hid he
      clear hV2 hmv he
      go_wp2_with fail
      rw [← HV2.out]
      refine bodyPost_ret (v := .tuple #[.agg #[.int .i64 e.t, .int .i64 e.k, .int .i64 e.o, .bool e.f], .bool true]) (by simp [results, Tryz.results58, go_sem, d0, d1, d2, d3]) rfl ?_
      refine ⟨by rw [← HE.out]; rfl, ?_⟩
      have h1 := HBZ.out.trans (HM5.out.below _ HBZ.out.size (fun k hk e => by have := HXW.out; omega))
      have h2 := h1.trans (HMC.out.below _ h1.size (fun k hk e => by have := HXW.out; omega))
      exact h2.trans (HMV.out.below _ h2.size (fun k hk e => by have := HXW.out; omega))
end Go.Proofs.YtckdofjpoajblaaGreat
namespace Go.Proofs.YtckdofjpoajblaaGreat
open Go.RowKit
set_option linter.unusedVariables false
namespace Pr
def enabled (s : St) (t : Nat) : Bool :=
  match next s t with
  | none => false
  | some e => decide (e.k ≠ 4) || decide (s.h e.o.toNat < 0)
def all (s : St) : List Nat := (List.range s.th.length).filter (enabled s)
theorem next_lock {s : St} (hw : Wf s) {t : Nat} {e : Ev} (h : next s t = some e) (hk : e.k = 4) : ∃ m : Nat, e.o = m ∧ m < 2 := by
  unfold next at h
  obtain ⟨i, hi, rfl⟩ := Option.map_eq_some_iff.1 h
  obtain ⟨n, _, _, hok⟩ := hw.insOk hi
  have h5 : i.k = 5 := by
    unfold evOf at hk
    by_cases h1 : i.k = 1
    · simp [h1] at hk
    · by_cases h2 : i.k = 2
      · simp [h2] at hk
      · by_cases h5 : i.k = 5
        · exact h5
        · rw [if_neg h1, if_neg h2, if_neg h5] at hk
          by_cases h6 : i.k = 6
          · rw [if_pos h6] at hk
            split at hk <;> simp at hk
          · rw [if_neg h6] at hk
            split at hk <;> simp at hk
  have h2 := hok.2.2.2.2.2.2.2.2.2.2.1 (Or.inl h5)
  have h0 := hok.2.2.2.2.2.1
  have hm := hw.ok.1.2.2.2.1
  have ho : (evOf s t i).o = i.x := by unfold evOf; simp [h5]
  exact ⟨i.x.toNat, by rw [ho]; omega, by omega⟩
end Pr
theorem ev_box (w : World) (e : Ev) : ∃ W X, W = w.alloc (Obj.cells #[.int .i64 e.t, .int .i64 e.k, .int .i64 e.o, .bool e.f] 51) ∧ X = w.heap.size ∧ Below w.heap.size w W ∧ X < W.heap.size ∧ ∀ u, Below W.heap.size W u → EvAt u X 0 e ∧ X < u.heap.size := by
  refine ⟨_, _, rfl, rfl, (Below.refl _ _).alloc (Nat.le_refl _) _, by simp, fun u hu => ?_⟩
  have h1 := heap_alloc_new w (Obj.cells #[.int .i64 e.t, .int .i64 e.k, .int .i64 e.o, .bool e.f] 51)
  have g1 := (hu.block _ (blk_lt h1)).trans h1
  exact ⟨⟨by rw [cell_blk g1]; rfl, by rw [cell_blk g1]; rfl, by rw [cell_blk g1]; rfl, by rw [cell_blk g1]; rfl⟩, blk_lt g1⟩
set_option maxRecDepth 100000 in
set_option maxHeartbeats 2000000 in
theorem enabled_any (w : World) (C : Nat → Prop) (S T : Nat) (s : St) (t : Nat) (h : SAt w C S T s) (hw : Pr.Wf s) (ht : t < s.th.length) :
    Calls Tryz.prog 68 #[.pointer (some ⟨S, 0, none⟩), .int .i64 (t : Int)] w fun x w' => x = .returned (.bool (Pr.enabled s t)) ∧ Below w.heap.size w w' := by
  have hcall := next_any w C S T s t h hw ht
  have hlk : ∀ e, Pr.next s t = some e → e.k = 4 → ∃ m : Nat, e.o = m ∧ m < 2 := fun e he hk => Pr.next_lock hw he hk
  have hen : Pr.enabled s t = match Pr.next s t with | none => false | some e => decide (e.k ≠ 4) || decide (s.h e.o.toNat < 0) := rfl
  obtain ⟨q, hq⟩ : ∃ q, q = Pr.next s t := ⟨_, rfl⟩
  rw [← hq] at hcall hlk hen
  rw [hen]
  have HCALL := Lib.hid hcall
  have HLK := Lib.hid hlk
  have HS := Lib.hid h
  clear hcall hlk hen hq h hw ht
  go_enter Tryz.func68, Tryz.ntmps68
  go_wp2_with fail
  refine HCALL.out.mono ?_
  rintro y w1 ⟨rfl, b1⟩
  have HB1 := Lib.hid b1
  clear b1 HCALL
  obtain ⟨e, he⟩ : ∃ e, e = q.getD Pr.zeroE := ⟨_, rfl⟩
  obtain ⟨Wz, Z, hWz, hZ, hBz, hZl, hZe⟩ := ev_box w1 e
  rw [← he]
  have HZE := Lib.hid hZe
  have HB2 := Lib.hid (below_at HB1.out hBz)
  have HE := Lib.hid he
  unfold valE
  clear hZe hZl hBz he HB1
  cases q with
  | none =>
    simp only [Option.isSome_none]
    go_upto_region 2 with fail
    rw [← hWz, ← hZ]
    clear hWz hZ
    refine wp_region_planF (by kernel_rfl) (fun u => Below Wz.heap.size Wz u) [] [(0, .pure), (1, .pure), (2, .pure), (3, .load), (4, .pure), (5, .pure), (6, .pure), (7, .pure), (8, .load), (9, .pure), (10, .pure), (11, .pure), (12, .load), (13, .pure), (14, .pure), (15, .pure), (16, .pure)] (by simp only [List.map_cons, List.map_nil, List.getElem?_toArray, List.getElem?_cons_succ, List.getElem?_cons_zero]; rfl) (by kernel_rfl) (fun _ _ d _ _ h => by cases d <;> exact h) ((Below.refl _ _).drew) ?_
    repeat (first
      | (refine plan_pure (v := ?_) (by rfl) (fun w1 => ?_) ?_
         rotate_left
         · go_simp <;> with_reducible rfl
         simp only [Act.put, List.setIfInBounds_toArray, List.set_cons_zero, List.set_cons_succ])
      | (refine plan_off (by rfl) ?_
         simp only [Act.put, List.setIfInBounds_toArray, List.set_cons_zero, List.set_cons_succ])
      | (refine plan_load_off (by rfl) ?_
         simp only [Act.put, List.setIfInBounds_toArray, List.set_cons_zero, List.set_cons_succ])
      | (refine plan_load (v := ?_) (by rfl) (fun w1 hw1 => ?_) ?_
         rotate_left
         · (skip
            clear hw1
            go_simp <;> with_reducible rfl)
         simp only [Act.put, List.setIfInBounds_toArray, List.set_cons_zero, List.set_cons_succ]))
    refine plan_end ?_
    go_wp2_with fail
    go_ret
    exact ⟨rfl, HB2.out.drew⟩
  | some e' =>
    have hee : e = e' := HE.out
    subst hee
    have HL := Lib.hid (HLK.out e rfl)
    clear HLK HE
    obtain ⟨et, ek, eo, ef⟩ := e
    simp only [Option.isSome_some] at *
    go_upto_region 2 with fail
    rw [← hWz, ← hZ]
    clear hWz hZ
    by_cases h4 : ek = 4
    · subst h4
      obtain ⟨m, rfl, hm⟩ := HL.out rfl
      obtain ⟨y, hy⟩ : ∃ y, y = s.h m := ⟨_, rfl⟩
      have HY := Lib.hid hy
      have k1 : (0 : Int) ≤ (m : Int) := Int.natCast_nonneg _
      have k2 : (m : Int) < 2 := by omega
      clear hy
      by_cases hy : y < 0
      · have hd : decide (y < 0) = true := decide_eq_true hy
        refine wp_region_planF (by kernel_rfl) (fun u => Below Wz.heap.size Wz u) [] [(0, .pure), (1, .pure), (2, .pure), (3, .load), (4, .pure), (5, .pure), (6, .pure), (7, .pure), (8, .load), (9, .pure), (10, .pure), (11, .pure), (12, .load), (13, .pure), (14, .pure), (15, .pure), (16, .pure)] (by simp only [List.map_cons, List.map_nil, List.getElem?_toArray, List.getElem?_cons_succ, List.getElem?_cons_zero]; rfl) (by kernel_rfl) (fun _ _ d _ _ h => by cases d <;> exact h) ((Below.refl _ _).drew) ?_
        repeat (first
          | (refine plan_pure (v := ?_) (by rfl) (fun w1 => ?_) ?_
             rotate_left
             · go_simp <;> with_reducible rfl
             simp only [Act.put, List.setIfInBounds_toArray, List.set_cons_zero, List.set_cons_succ])
          | (refine plan_off (by rfl) ?_
             simp only [Act.put, List.setIfInBounds_toArray, List.set_cons_zero, List.set_cons_succ])
          | (refine plan_load_off (by rfl) ?_
             simp only [Act.put, List.setIfInBounds_toArray, List.set_cons_zero, List.set_cons_succ])
          | (refine plan_load (v := ?_) (by rfl) (fun w1 hw1 => ?_) ?_
             rotate_left
             · (have q := (HZE.out w1 hw1).1
                have q1 := q.2.1
                have q2 := q.2.2.1
                simp only [Nat.zero_add] at q1 q2
                clear q
                obtain ⟨PA, pc, tc, _, _, _, _, _, qh, _⟩ := (HS.out.below (HB2.out.trans (hw1.mono HB2.out.size))).cells
                have q3 := qh m hm
                rw [← HY.out] at q3
                clear qh
                clear hw1
                go_simp <;> with_reducible rfl)
             simp only [Act.put, List.setIfInBounds_toArray, List.set_cons_zero, List.set_cons_succ]))
        refine plan_end ?_
        go_wp2_with fail
        go_ret
        exact ⟨by simp [← HY.out, hy], HB2.out.drew⟩
      · have hd : decide (y < 0) = false := decide_eq_false hy
        refine wp_region_planF (by kernel_rfl) (fun u => Below Wz.heap.size Wz u) [] [(0, .pure), (1, .pure), (2, .pure), (3, .load), (4, .pure), (5, .pure), (6, .pure), (7, .pure), (8, .load), (9, .pure), (10, .pure), (11, .pure), (12, .load), (13, .pure), (14, .pure), (15, .pure), (16, .pure)] (by simp only [List.map_cons, List.map_nil, List.getElem?_toArray, List.getElem?_cons_succ, List.getElem?_cons_zero]; rfl) (by kernel_rfl) (fun _ _ d _ _ h => by cases d <;> exact h) ((Below.refl _ _).drew) ?_
        repeat (first
          | (refine plan_pure (v := ?_) (by rfl) (fun w1 => ?_) ?_
             rotate_left
             · go_simp <;> with_reducible rfl
             simp only [Act.put, List.setIfInBounds_toArray, List.set_cons_zero, List.set_cons_succ])
          | (refine plan_off (by rfl) ?_
             simp only [Act.put, List.setIfInBounds_toArray, List.set_cons_zero, List.set_cons_succ])
          | (refine plan_load_off (by rfl) ?_
             simp only [Act.put, List.setIfInBounds_toArray, List.set_cons_zero, List.set_cons_succ])
          | (refine plan_load (v := ?_) (by rfl) (fun w1 hw1 => ?_) ?_
             rotate_left
             · (have q := (HZE.out w1 hw1).1
                have q1 := q.2.1
                have q2 := q.2.2.1
                simp only [Nat.zero_add] at q1 q2
                clear q
                obtain ⟨PA, pc, tc, _, _, _, _, _, qh, _⟩ := (HS.out.below (HB2.out.trans (hw1.mono HB2.out.size))).cells
                have q3 := qh m hm
                rw [← HY.out] at q3
                clear qh
                clear hw1
                go_simp <;> with_reducible rfl)
             simp only [Act.put, List.setIfInBounds_toArray, List.set_cons_zero, List.set_cons_succ]))
        refine plan_end ?_
        go_wp2_with fail
        go_ret
        exact ⟨by simp [← HY.out, hy], HB2.out.drew⟩
    · have hd : (ek == 4) = false := by simpa using h4
      have hd2 : (ek != 4) = true := by simpa using h4
      have hd3 : decide (ek = 4) = false := decide_eq_false h4
      refine wp_region_planF (by kernel_rfl) (fun u => Below Wz.heap.size Wz u) [] [(0, .pure), (1, .pure), (2, .pure), (3, .load), (4, .pure), (5, .pure), (6, .pure), (7, .pure), (8, .load), (9, .pure), (10, .pure), (11, .pure), (12, .load), (13, .pure), (14, .pure), (15, .pure), (16, .pure)] (by simp only [List.map_cons, List.map_nil, List.getElem?_toArray, List.getElem?_cons_succ, List.getElem?_cons_zero]; rfl) (by kernel_rfl) (fun _ _ d _ _ h => by cases d <;> exact h) ((Below.refl _ _).drew) ?_
      repeat (first
        | (refine plan_pure (v := ?_) (by rfl) (fun w1 => ?_) ?_
           rotate_left
           · go_simp <;> with_reducible rfl
           simp only [Act.put, List.setIfInBounds_toArray, List.set_cons_zero, List.set_cons_succ])
        | (refine plan_off (by rfl) ?_
           simp only [Act.put, List.setIfInBounds_toArray, List.set_cons_zero, List.set_cons_succ])
        | (refine plan_load_off (by rfl) ?_
           simp only [Act.put, List.setIfInBounds_toArray, List.set_cons_zero, List.set_cons_succ])
        | (refine plan_load (v := ?_) (by rfl) (fun w1 hw1 => ?_) ?_
           rotate_left
           · (have q := (HZE.out w1 hw1).1
              have q1 := q.2.1
              have q2 := q.2.2.1
              simp only [Nat.zero_add] at q1 q2
              clear q
              clear hw1
              go_simp <;> with_reducible rfl)
           simp only [Act.put, List.setIfInBounds_toArray, List.set_cons_zero, List.set_cons_succ]))
      refine plan_end ?_
      go_wp2_with fail
      go_ret
      exact ⟨by simp, HB2.out.drew⟩
end Go.Proofs.YtckdofjpoajblaaGreat
namespace Go.Proofs.YtckdofjpoajblaaGreat
open Go.RowKit
set_option linter.unusedVariables false
theorem Tryz.infoInt : (Tryz.prog.info? 3).map (fun i => (i.zero, i.size, i.bytes)) = some (some (.int .i64 0), 1, 8) := by kernel_rfl
def iv (n : Int) : Value := .int .i64 n
def IntsAt (w w' : World) (A : Option Addr) (cap : Nat) (l : List Int) : Prop := Row w' 3 1 A l.length cap (l.map iv) ∧ ∀ a, A = some a → w.heap.size ≤ a.block
def allI (s : St) (k : Nat) : List Int := ((List.range k).filter (Pr.enabled s)).map (fun (t : Nat) => (t : Int))
theorem allI_step (s : St) (k : Nat) : allI s (k + 1) = if Pr.enabled s k = true then allI s k ++ [(k : Int)] else allI s k := by
  unfold allI
  rw [List.range_succ, List.filter_append]
  by_cases h : Pr.enabled s k = true <;> simp [h]
set_option maxRecDepth 100000 in
set_option maxHeartbeats 2000000 in
theorem all_any (w : World) (C : Nat → Prop) (S T : Nat) (s : St) (h : SAt w C S T s) (hw : Pr.Wf s) :
    Calls Tryz.prog 31 #[.pointer (some ⟨S, 0, none⟩)] w fun x w' => ∃ A cap, x = .returned (.slice A ((Pr.all s).map (fun (t : Nat) => (t : Int))).length cap) ∧ IntsAt w w' A cap ((Pr.all s).map (fun (t : Nat) => (t : Int))) ∧ Below w.heap.size w w' := by
  have hthr := threads_any w C S T s h
  have hen : ∀ u t, Below w.heap.size w u → t < s.th.length → Calls Tryz.prog 68 #[.pointer (some ⟨S, 0, none⟩), .int .i64 (t : Int)] u fun x w' => x = .returned (.bool (Pr.enabled s t)) ∧ Below u.heap.size u w' := fun u t hu ht => enabled_any u C S T s t (h.below hu) hw ht
  have hn4 := hw.n4
  have hall : (Pr.all s).map (fun (t : Nat) => (t : Int)) = allI s s.th.length := rfl
  rw [hall]
  obtain ⟨n, hn⟩ : ∃ n, n = s.th.length := ⟨_, rfl⟩
  rw [← hn] at hthr hen hn4 ⊢
  obtain ⟨i0, hi0, hz0, hz1, hz2⟩ := info_parts Tryz.infoInt
  have HTHR := Lib.hid hthr
  have HEN := Lib.hid hen
  clear hthr hen h hw hall hn
  go_enter Tryz.func31, Tryz.ntmps31
  go_wp2_with fail
  refine HTHR.out.mono ?_
  rintro x w' ⟨rfl, rfl⟩
  go_wp2_with fail
  go_loopw [2, 6] (fun r v wr => ∃ (k : Nat) (A : Option Addr) (cap len : Nat), k ≤ n ∧ v = .int .i64 k ∧ r = .slice A len cap ∧ len ≤ k ∧ Hid (len = (allI s k).length) ∧ Hid (IntsAt w wr A cap (allI s k)) ∧ Hid (Below w.heap.size w wr)) (fun _ v _ => n - (intOf v).toNat)
  case atStart => exact ⟨0, none, 0, 0, Nat.zero_le _, rfl, rfl, Nat.le_refl _, Lib.hid rfl, Lib.hid ⟨Row.nil _ _ _, fun a h => by cases h⟩, Lib.hid (Below.refl _ _)⟩
  case round =>
    obtain ⟨k, A, cap, len, hk, rfl, rfl, hlk, HLEN, HA, HB⟩ := hrel
    by_cases hlt : k < n
    · have hcall := HEN.out wr k HB.out hlt
      have hstep := allI_step s k
      obtain ⟨b, hb⟩ : ∃ b, b = Pr.enabled s k := ⟨_, rfl⟩
      rw [← hb] at hcall hstep
      have k1 : (0 : Int) ≤ (k : Int) := Int.natCast_nonneg _
      have k2 : (k : Int) < (n : Int) := by omega
      have HCALL := Lib.hid hcall
      have HSTEP := Lib.hid hstep
      clear hcall hstep hb
      go_wp2_with fail
      refine HCALL.out.mono ?_
      rintro x w1 ⟨rfl, b1⟩
      have HB1 := Lib.hid (below_at HB.out b1)
      have hr1 : Row w1 3 1 A len cap ((allI s k).map iv) := by
        have := row_stepS HA.out.1 b1
        rw [← HLEN.out] at this
        exact this
      have HR1 := Lib.hid hr1
      clear b1 hr1
      cases b with
      | false =>
        go_wp2_with fail
        go_roundw
        case rel => exact ⟨k + 1, A, cap, len, by omega, by go_num, rfl, by omega, Lib.hid (by rw [HSTEP.out]; exact HLEN.out), Lib.hid ⟨by rw [HSTEP.out]; have := HR1.out; rw [HLEN.out] at this; exact this, HA.out.2⟩, HB1⟩
        case measure => simp [intOf]; omega
      | true =>
        go_wp2_with (at_builtin; refine wpList_append_row (by rfl) _ _ _ (by rfl) 3 i0 _ 1 8 Tryz.underlying32 hi0 hz0 hz1 hz2 rfl (by omega) A len cap ((allI s k).map iv) (by rfl) (HR1.out.alloc _) ⟨w1.heap.size, 0, none⟩ 1 1 [.int .i64 (k : Int)] (by rfl) (by rfl) (World.news_of_block (cs := #[.int .i64 (k : Int)]) (t := 3) (fr := (0, 0)) (heap_alloc_new w1 _)) (by simp [Value.oneCell']) (by omega) (by unfold maxLen; omega) (by omega) ?_; intro g1 of1 cap1 w3 hown hm hat; skip)
        obtain ⟨q1, q2⟩ := acc_more HA.out.2 HB1.out hm hat (of := of1)
        go_roundw
        case rel =>
          have hl : (allI s (k + 1)).length = len + 1 := by rw [HSTEP.out]; simp [HLEN.out]
          refine ⟨k + 1, some ⟨g1, of1, none⟩, cap1, len + 1, by omega, by go_num, rfl, by omega, Lib.hid hl.symm, Lib.hid ⟨?_, q1⟩, Lib.hid q2⟩
          rw [hl, HSTEP.out]
          simpa [iv] using hown
        case measure => simp [intOf]; omega
    · obtain rfl : k = n := by omega
      have hl := HLEN.out
      subst hl
      go_wp2_with fail
      go_ret
      exact ⟨A, cap, rfl, HA.out, HB.out⟩
end Go.Proofs.YtckdofjpoajblaaGreat
