/- The program's way over all executions: walk.over, what goes on from a state. -/
import Derived.Test.YtcaapoacmfjnmaaGreatWkT
import Derived.Test.YtcaapoacmfjnmaaGreatStW
namespace Go.Proofs.YtcaapoacmfjnmaaGreat
open Go.RowKit
set_option linter.unusedVariables false

/-- one value in a block -/
def CellAt (w : World) (k : Nat) (v : Value) : Prop := ∃ T, w.heap[k]? = some (.cells #[v] T (0, 0))
theorem CellAt.mod {w w' : World} {F : Nat → Prop} {k : Nat} {v : Value} (h : CellAt w k v) (hm : Mod F w w') (hF : ¬ F k) : CellAt w' k v := by
  obtain ⟨T, h⟩ := h
  exact ⟨T, (hm.block k (blk_lt h) hF).trans h⟩
theorem CellAt.below {w w' : World} {k : Nat} {v : Value} (h : CellAt w k v) (hb : Below w.heap.size w w') : CellAt w' k v := h.mod (Mod.of_below_size hb (fun _ => False)) (fun h => h)
theorem CellAt.cell {w : World} {k : Nat} {v : Value} (h : CellAt w k v) : w.cell? ⟨k, 0, none⟩ = some v ∧ k < w.heap.size ∧ w.frozen? ⟨k, 0, none⟩ = false := by
  obtain ⟨T, h⟩ := h
  exact ⟨cell_blk h 0, blk_lt h, free_blk h 0⟩
theorem CellAt.set {w : World} {k : Nat} {v : Value} (h : CellAt w k v) (u : Value) : CellAt (w.setCell ⟨k, 0, none⟩ u) k u ∧ Mod (fun q => q = k) w (w.setCell ⟨k, 0, none⟩ u) := by
  obtain ⟨T, h⟩ := h
  exact ⟨⟨T, by rw [set_blk h]; simp⟩, (Mod.refl (fun q => q = k) w).setCell (p := ⟨k, 0, none⟩) (fun _ => rfl) u⟩
theorem cellAt_new (w : World) (v : Value) (T : TypeId) : CellAt (w.alloc (Obj.cells #[v] T)) w.heap.size v := ⟨T, heap_alloc_new w _⟩

/-- what is called at an end: G with its captured values; it changes blocks of F alone, and what I tells of lies there -/
structure AtS {α : Type} (G : Nat) (caps : Array Value) (F : Nat → Prop) (I : α → World → Prop) (at_ : St → List Ev → α → α) : Prop where
  call : ∀ (u : World) (C : Nat → Prop) (S T : Nat) (s : St) (row : List Ev) (A : Option Addr) (cap : Nat) (x : α), SAt u C S T s → Pr.Wf s → Rd u 4 A row.length (row.flatMap encE) → row.length ≤ 100 → (∀ k, F k → k ≠ S ∧ k ≠ T ∧ ¬ C k ∧ (∀ b, A = some b → b.block ≠ k)) → I x u →
    Calls Tryz.prog G (#[.pointer (some ⟨S, 0, none⟩), .slice A row.length cap] ++ caps) u fun y w' => y = .returned (.tuple #[]) ∧ I (at_ s row x) w' ∧ Mod F u w'
  enters : ∀ (args : Array Value) (w : World), (callFunc G args).run Tryz.prog w = .ok (.enter G args) w
  keep : ∀ (x : α) (u u' : World) (H : Nat → Prop), I x u → Mod H u u' → (∀ k, H k → ¬ F k) → I x u'
theorem AtS.below {α : Type} {G : Nat} {caps : Array Value} {F : Nat → Prop} {I : α → World → Prop} {at_ : St → List Ev → α → α} (h : AtS G caps F I at_) {x : α} {u u' : World} (hi : I x u) (hb : Below u.heap.size u u') : I x u' :=
  h.keep x u u' (fun _ => False) hi (Mod.of_below_size hb _) (fun _ h => h.elim)
/-- the blocks of a way: the count, the bound, what is called at an end, the way itself -/
structure Ov (w : World) (N P Q R : Nat) (c most : Nat) (G : Nat) (caps : Array Value) : Prop where
  n : CellAt w N (.int .i64 c)
  p : CellAt w P (.int .i64 most)
  q : CellAt w Q (.func (.func G) #[] caps)
  r : CellAt w R (.func (.func 109) #[] #[.pointer (some ⟨N, 0, none⟩), .pointer (some ⟨P, 0, none⟩), .pointer (some ⟨Q, 0, none⟩), .pointer (some ⟨R, 0, none⟩)])
  np : N ≠ P
  nq : N ≠ Q
  nr : N ≠ R
theorem Ov.mod {w w' : World} {N P Q R c most G : Nat} {caps : Array Value} {F : Nat → Prop} (h : Ov w N P Q R c most G caps) (hm : Mod F w w') (hN : ¬ F N) (hP : ¬ F P) (hQ : ¬ F Q) (hR : ¬ F R) : Ov w' N P Q R c most G caps :=
  ⟨h.n.mod hm hN, h.p.mod hm hP, h.q.mod hm hQ, h.r.mod hm hR, h.np, h.nq, h.nr⟩
theorem Ov.below {w w' : World} {N P Q R c most G : Nat} {caps : Array Value} (h : Ov w N P Q R c most G caps) (hb : Below w.heap.size w w') : Ov w' N P Q R c most G caps :=
  h.mod (Mod.of_below_size hb (fun _ => False)) (fun h => h) (fun h => h) (fun h => h) (fun h => h)
theorem Ov.set {w : World} {N P Q R c most G : Nat} {caps : Array Value} (h : Ov w N P Q R c most G caps) (c' : Nat) : Ov (w.setCell ⟨N, 0, none⟩ (.int .i64 c')) N P Q R c' most G caps ∧ Mod (fun k => k = N) w (w.setCell ⟨N, 0, none⟩ (.int .i64 c')) := by
  obtain ⟨h1, h2⟩ := h.n.set (.int .i64 c')
  exact ⟨⟨h1, h.p.mod h2 (fun e => h.np e.symm), h.q.mod h2 (fun e => h.nq e.symm), h.r.mod h2 (fun e => h.nr e.symm), h.np, h.nq, h.nr⟩, h2⟩
/-- a row without room to spare -/
theorem Row.tight {w : World} {e sz : Nat} {A : Option Addr} {n cap : Nat} {cs : List Value} (h : Row w e sz A n cap cs) (hA : A ≠ none) : Row w e sz A n n cs := by
  obtain ⟨h1, h2, h3, h4, h5⟩ := h
  refine ⟨h1, Nat.le_refl _, Nat.le_trans h2 h3, fun h => (hA h).elim, fun a ha => ?_⟩
  obtain ⟨q1, cur, q2, q3, q4⟩ := h5 a ha
  exact ⟨q1, cur, q2, Nat.le_trans (Nat.add_le_add_left (Nat.mul_le_mul_right sz h2) _) q3, q4⟩

/-- one event in a block, as a row -/
theorem ev_rd {w : World} {Y : Nat} {et ek eo : Int} {ef : Bool} {T : TypeId} (h : w.heap[Y]? = some (.cells #[.int .i64 et, .int .i64 ek, .int .i64 eo, .bool ef] T (0, 0))) : Rd w 4 (some ⟨Y, 0, none⟩) 1 [.int .i64 et, .int .i64 ek, .int .i64 eo, .bool ef] :=
  ⟨rfl, fun _ => ⟨Y, 0, rfl, blk_lt h, fun j hj => by
    rw [cell_blk h]
    rcases (show j = 0 ∨ j = 1 ∨ j = 2 ∨ j = 3 by omega) with rfl | rfl | rfl | rfl <;> rfl⟩⟩
section
variable {α : Type}
def OverC (N P Q R most G : Nat) (caps : Array Value) (F : Nat → Prop) (I : α → World → Prop) (at_ : St → List Ev → α → α) (n : Nat) (s : St) : Prop := ∀ (w : World) (C : Nat → Prop) (S T : Nat) (row : List Ev) (A : Option Addr) (cap c : Nat) (x : α), SAt w C S T s → (∀ k, C k → k < w.heap.size) →
  Row w 57 4 A row.length cap (row.flatMap encE) → row.length + n ≤ 100 → (∀ k, (k = N ∨ F k) → k ≠ S ∧ k ≠ T ∧ ¬ C k ∧ (∀ b, A = some b → b.block ≠ k) ∧ k < w.heap.size) → Ov w N P Q R c most G caps → I x w → c + 4 * n ≤ most + 300 →
  Calls Tryz.prog 109 #[.pointer (some ⟨S, 0, none⟩), .slice A row.length cap, .pointer (some ⟨N, 0, none⟩), .pointer (some ⟨P, 0, none⟩), .pointer (some ⟨Q, 0, none⟩), .pointer (some ⟨R, 0, none⟩)] w fun y w' => y = .returned (.tuple #[]) ∧ Ov w' N P Q R (Pr.over at_ most n s row (c, x)).1 most G caps ∧ I (Pr.over at_ most n s row (c, x)).2 w' ∧ Mod (fun k => k = N ∨ F k) w w'

set_option maxRecDepth 100000 in
set_option maxHeartbeats 8000000 in
theorem over1_full {N P Q R most G : Nat} {caps : Array Value} {F : Nat → Prop} {I : α → World → Prop} {at_ : St → List Ev → α → α} (hat : AtS G caps F I at_) (hFN : ¬ F N) (hFP : ¬ F P) (hFQ : ¬ F Q) (hFR : ¬ F R) (hmost : most ≤ 100000)
    (n : Nat) (s : St) (hw : Pr.Wf s) (w : World) (C : Nat → Prop) (S T : Nat) (row : List Ev) (A : Option Addr) (cap c : Nat) (x : α) (h : SAt w C S T s) (hC : ∀ k, C k → k < w.heap.size)
    (hr : Row w 57 4 A row.length cap (row.flatMap encE)) (hrl : row.length + n ≤ 100) (hap : ∀ k, (k = N ∨ F k) → k ≠ S ∧ k ≠ T ∧ ¬ C k ∧ (∀ b, A = some b → b.block ≠ k) ∧ k < w.heap.size) (hov : Ov w N P Q R c most G caps) (hI : I x w) (hc : c ≤ most + 300) (hf : most < c + 1) :
    Calls Tryz.prog 109 #[.pointer (some ⟨S, 0, none⟩), .slice A row.length cap, .pointer (some ⟨N, 0, none⟩), .pointer (some ⟨P, 0, none⟩), .pointer (some ⟨Q, 0, none⟩), .pointer (some ⟨R, 0, none⟩)] w fun y w' => y = .returned (.tuple #[]) ∧ Ov w' N P Q R (c + 1) most G caps ∧ I x w' ∧ Mod (fun k => k = N ∨ F k) w w' := by
  obtain ⟨m2, ml, f2⟩ := hov.n.cell
  obtain ⟨hov1, hm1⟩ := hov.set (c + 1)
  rw [show ((c + 1 : Nat) : Int) = (c : Int) + 1 by omega] at hov1 hm1
  have hS1 := h.mod hm1 (fun k hk e => (hap N (.inl rfl)).2.2.1 (e ▸ hk)) (fun e => (hap N (.inl rfl)).1 e.symm) (fun e => (hap N (.inl rfl)).2.1 e.symm)
  have hr1 := hr.mod hm1 (fun a ha => (hap N (.inl rfl)).2.2.2.1 a ha)
  have hI1 := hat.keep x _ _ _ hI hm1 (fun k hk => by subst hk; exact hFN)
  have e1 : wrap64 ((c : Int) + 1) = (c : Int) + 1 := IntWalk.wrap64_in _ (by omega)
  have HE1 := Lib.hid e1
  have HMF := Lib.hid (show Mod (fun k => k = N ∨ F k) w (w.setCell ⟨N, 0, none⟩ (.int .i64 ((c : Int) + 1))) from hm1.mono (fun k _ e => .inl e))
  have d1 : decide ((most : Int) < (c : Int) + 1) = true := decide_eq_true (by omega)
  have d2 : (most : Int) < (c : Int) + 1 := by omega
  obtain ⟨W1, hW1⟩ : ∃ z, z = w.setCell ⟨N, 0, none⟩ (.int .i64 ((c : Int) + 1)) := ⟨_, rfl⟩
  rw [← hW1] at hov1 hm1 hI1 HMF
  have HOV := Lib.hid hov1
  have HI1 := Lib.hid hI1
  have HW1 := Lib.hid hW1
  clear h hC hr hw hov hI hov1 hm1 hS1 hr1 hI1 hap e1 hat hFN hFP hFQ hFR hW1
  go_enter Tryz.func109, Tryz.ntmps109
  go_upto_region 1 with fail
  try rw [HE1.out]
  rw [← HW1.out]
  clear m2 ml f2 HW1
  obtain ⟨m2, ml, _⟩ := HOV.out.n.cell
  rw [show ((c + 1 : Nat) : Int) = (c : Int) + 1 by omega] at m2
  obtain ⟨p2, pl, _⟩ := HOV.out.p.cell
  go_wp2_with fail
  refine bodyPost_ret (v := .tuple #[]) (by simp [results, Tryz.results109, go_sem]) rfl ?_
  exact ⟨rfl, HOV.out, HI1.out, HMF.out⟩

set_option maxRecDepth 100000 in
set_option maxHeartbeats 8000000 in
theorem over1_end {N P Q R most G : Nat} {caps : Array Value} {F : Nat → Prop} {I : α → World → Prop} {at_ : St → List Ev → α → α} (hat : AtS G caps F I at_) (hFN : ¬ F N) (hFP : ¬ F P) (hFQ : ¬ F Q) (hFR : ¬ F R) (hmost : most ≤ 100000)
    (n : Nat) (s : St) (hw : Pr.Wf s) (w : World) (C : Nat → Prop) (S T : Nat) (row : List Ev) (A : Option Addr) (cap c : Nat) (x : α) (h : SAt w C S T s) (hC : ∀ k, C k → k < w.heap.size)
    (hr : Row w 57 4 A row.length cap (row.flatMap encE)) (hrl : row.length + n ≤ 100) (hap : ∀ k, (k = N ∨ F k) → k ≠ S ∧ k ≠ T ∧ ¬ C k ∧ (∀ b, A = some b → b.block ≠ k) ∧ k < w.heap.size) (hov : Ov w N P Q R c most G caps) (hI : I x w) (hc : c ≤ most + 300) (hf : ¬ most < c + 1) (ha : Pr.all s = []) :
    Calls Tryz.prog 109 #[.pointer (some ⟨S, 0, none⟩), .slice A row.length cap, .pointer (some ⟨N, 0, none⟩), .pointer (some ⟨P, 0, none⟩), .pointer (some ⟨Q, 0, none⟩), .pointer (some ⟨R, 0, none⟩)] w fun y w' => y = .returned (.tuple #[]) ∧ Ov w' N P Q R (c + 1) most G caps ∧ I (at_ s row x) w' ∧ Mod (fun k => k = N ∨ F k) w w' := by
  obtain ⟨m2, ml, f2⟩ := hov.n.cell
  obtain ⟨hov1, hm1⟩ := hov.set (c + 1)
  rw [show ((c + 1 : Nat) : Int) = (c : Int) + 1 by omega] at hov1 hm1
  have hS1 := h.mod hm1 (fun k hk e => (hap N (.inl rfl)).2.2.1 (e ▸ hk)) (fun e => (hap N (.inl rfl)).1 e.symm) (fun e => (hap N (.inl rfl)).2.1 e.symm)
  have hr1 := hr.mod hm1 (fun a ha => (hap N (.inl rfl)).2.2.2.1 a ha)
  have hI1 := hat.keep x _ _ _ hI hm1 (fun k hk => by subst hk; exact hFN)
  have e1 : wrap64 ((c : Int) + 1) = (c : Int) + 1 := IntWalk.wrap64_in _ (by omega)
  have HE1 := Lib.hid e1
  have HMF := Lib.hid (show Mod (fun k => k = N ∨ F k) w (w.setCell ⟨N, 0, none⟩ (.int .i64 ((c : Int) + 1))) from hm1.mono (fun k _ e => .inl e))
  have d1 : decide ((most : Int) < (c : Int) + 1) = false := decide_eq_false (by omega)
  have d2 : ¬ (most : Int) < (c : Int) + 1 := by omega
  obtain ⟨W1, hW1⟩ : ∃ z, z = w.setCell ⟨N, 0, none⟩ (.int .i64 ((c : Int) + 1)) := ⟨_, rfl⟩
  rw [← hW1] at hov1 hm1 hS1 hr1 hI1 HMF
  have hall := all_any W1 C S T s hS1 hw
  have hlen : ((Pr.all s).map (fun (t : Nat) => (t : Int))).length = (Pr.all s).length := by simp
  rw [hlen] at hall
  rw [ha] at hall
  have hall0 : Calls Tryz.prog 36 #[.pointer (some ⟨S, 0, none⟩)] W1 fun x w' => ∃ A cap, x = .returned (.slice A 0 cap) ∧ Below W1.heap.size W1 w' := hall.mono fun x w' ⟨A, cap, h1, _, h3⟩ => ⟨A, cap, h1, h3⟩
  have HALL := Lib.hid hall0
  have HS1 := Lib.hid hS1
  have HR1 := Lib.hid hr1
  have HOV := Lib.hid hov1
  have HI1 := Lib.hid hI1
  have HW1 := Lib.hid hW1
  have HWF := Lib.hid hw
  have HRL := Lib.hid hrl
  have HAT := Lib.hid hat
  have HAP := Lib.hid (And.intro hap (And.intro hFN (And.intro hFP (And.intro hFQ hFR))))
  clear h hC hr hw hov hI hov1 hm1 hS1 hr1 hI1 hap e1 hat hFN hFP hFQ hFR hW1 hall hall0 ha hlen hrl
  go_enter Tryz.func109, Tryz.ntmps109
  go_upto_region 1 with fail
  try rw [HE1.out]
  rw [← HW1.out]
  clear m2 ml f2
  obtain ⟨m2, ml, _⟩ := HOV.out.n.cell
  rw [show ((c + 1 : Nat) : Int) = (c : Int) + 1 by omega] at m2
  obtain ⟨p2, pl, _⟩ := HOV.out.p.cell
  go_wp2_with fail
  refine HALL.out.mono ?_
  rintro y w2 ⟨A2, c2, rfl, b2⟩
  have hov2 := HOV.out.below b2
  have hcall := HAT.out.call w2 C S T s row A cap x (HS1.out.below b2) HWF.out ((HR1.out.rd).below b2 (Nat.le_refl _)) (by have := HRL.out; omega) (fun k hk => have h9 := HAP.out.1 k (.inr hk); ⟨h9.1, h9.2.1, h9.2.2.1, h9.2.2.2.1⟩) (HAT.out.below HI1.out b2)
  have HCALL := Lib.hid hcall
  have HOV2 := Lib.hid hov2
  have HMO := Lib.hid (show Mod (fun k => k = N ∨ F k) w w2 from HMF.out.trans (Mod.of_below_size b2 _))
  clear m2 ml p2 pl HALL b2 hov2 hcall
  obtain ⟨q2, ql, _⟩ := HOV2.out.q.cell
  go_wp2_with fail
  rw [HAT.out.enters, Oper.upon_enter]
  refine HCALL.out.mono ?_
  rintro y w3 ⟨rfl, hi3, hm3⟩
  have HOV3 := Lib.hid (HOV2.out.mod hm3 HAP.out.2.1 HAP.out.2.2.1 HAP.out.2.2.2.1 HAP.out.2.2.2.2)
  have HI3 := Lib.hid hi3
  have HMO3 := Lib.hid (show Mod (fun k => k = N ∨ F k) w w3 from HMO.out.trans (hm3.mono (fun k _ e => .inr e)))
  clear hi3 hm3 q2 ql HCALL HOV2 HMO
  go_wp2_with fail
  go_loopw [30] (fun v wz => v = .int .i64 0 ∧ wz = w3) (fun v _ => 0)
  case atStart => exact ⟨rfl, rfl⟩
  case round =>
    obtain ⟨rfl, rfl⟩ := hrel
    go_wp2_with fail
    go_end0
    exact ⟨rfl, HOV3.out, HI3.out, HMO3.out⟩

/-- the children, from the left -/
def kidsP (at_ : St → List Ev → α → α) (most n : Nat) (s : St) (row : List Ev) (l : List Nat) (x : Nat × α) : Nat × α := l.foldl (fun y t => Pr.over at_ most n (Pr.stepS s t) (row ++ [Pr.evAt s t]) y) x
theorem kidsP_bound (at_ : St → List Ev → α → α) (most n : Nat) (s : St) (row : List Ev) (hw : Pr.Wf s) : ∀ (l : List Nat) (x : Nat × α), (kidsP at_ most n s row l x).1 ≤ max x.1 (most + 1 + 4 * n) + l.length := by
  intro l
  induction l with
  | nil => intro x; show x.1 ≤ _; omega
  | cons t l ih =>
    intro x
    refine Nat.le_trans (ih _) ?_
    rw [List.length_cons]
    show max (Pr.over at_ most n (Pr.stepS s t) (row ++ [Pr.evAt s t]) x).1 (most + 1 + 4 * n) + l.length ≤ max x.1 (most + 1 + 4 * n) + (l.length + 1)
    by_cases hf : most < x.1 + 1
    · have : Pr.over at_ most n (Pr.stepS s t) (row ++ [Pr.evAt s t]) x = (x.1 + 1, x.2) := by cases n <;> simp only [Pr.over, if_pos hf]
      rw [this]; simp only; omega
    · have := Pr.over_bound at_ most n (Pr.stepS s t) (row ++ [Pr.evAt s t]) x (Pr.stepS_wf t hw).1
      omega
theorem kidsP_snoc {at_ : St → List Ev → α → α} {most n : Nat} {s : St} {row : List Ev} {l : List Nat} {i t : Nat} {x : Nat × α} (h : l[i]? = some t) : kidsP at_ most n s row (l.take (i + 1)) x = Pr.over at_ most n (Pr.stepS s t) (row ++ [Pr.evAt s t]) (kidsP at_ most n s row (l.take i) x) := by
  rw [List.take_add_one, h]
  unfold kidsP
  rw [List.foldl_append]
  rfl

set_option maxRecDepth 100000 in
set_option maxHeartbeats 8000000 in
theorem over1_more {N P Q R most G : Nat} {caps : Array Value} {F : Nat → Prop} {I : α → World → Prop} {at_ : St → List Ev → α → α} (hat : AtS G caps F I at_) (hFN : ¬ F N) (hFP : ¬ F P) (hFQ : ¬ F Q) (hFR : ¬ F R) (hmost : most ≤ 100000)
    (n : Nat) (s : St) (hw : Pr.Wf s) (w : World) (C : Nat → Prop) (S T : Nat) (row : List Ev) (A : Option Addr) (cap c : Nat) (x : α) (h : SAt w C S T s) (hC : ∀ k, C k → k < w.heap.size)
    (hr : Row w 57 4 A row.length cap (row.flatMap encE)) (hrl : row.length + n ≤ 100) (hap : ∀ k, (k = N ∨ F k) → k ≠ S ∧ k ≠ T ∧ ¬ C k ∧ (∀ b, A = some b → b.block ≠ k) ∧ k < w.heap.size) (hov : Ov w N P Q R c most G caps) (hI : I x w) (hc : c ≤ most + 300) (hf : ¬ most < c + 1) (ha : Pr.all s ≠ []) (hn32 : n ≤ 32) (hcn : c + 4 * n ≤ most + 300) (hn0 : 0 < n) (ih : ∀ t ∈ Pr.all s, OverC N P Q R most G caps F I at_ (n - 1) (Pr.stepS s t)) :
    Calls Tryz.prog 109 #[.pointer (some ⟨S, 0, none⟩), .slice A row.length cap, .pointer (some ⟨N, 0, none⟩), .pointer (some ⟨P, 0, none⟩), .pointer (some ⟨Q, 0, none⟩), .pointer (some ⟨R, 0, none⟩)] w fun y w' => y = .returned (.tuple #[]) ∧ Ov w' N P Q R (kidsP at_ most (n - 1) s row (Pr.all s) (c + 1, x)).1 most G caps ∧ I (kidsP at_ most (n - 1) s row (Pr.all s) (c + 1, x)).2 w' ∧ Mod (fun k => k = N ∨ F k) w w' := by
  obtain ⟨m2, ml, f2⟩ := hov.n.cell
  obtain ⟨hov1, hm1⟩ := hov.set (c + 1)
  rw [show ((c + 1 : Nat) : Int) = (c : Int) + 1 by omega] at hov1 hm1
  have hS1 := h.mod hm1 (fun k hk e => (hap N (.inl rfl)).2.2.1 (e ▸ hk)) (fun e => (hap N (.inl rfl)).1 e.symm) (fun e => (hap N (.inl rfl)).2.1 e.symm)
  have hr1 := hr.mod hm1 (fun a ha => (hap N (.inl rfl)).2.2.2.1 a ha)
  have hI1 := hat.keep x _ _ _ hI hm1 (fun k hk => by subst hk; exact hFN)
  have e1 : wrap64 ((c : Int) + 1) = (c : Int) + 1 := IntWalk.wrap64_in _ (by omega)
  have HE1 := Lib.hid e1
  have HMF := Lib.hid (show Mod (fun k => k = N ∨ F k) w (w.setCell ⟨N, 0, none⟩ (.int .i64 ((c : Int) + 1))) from hm1.mono (fun k _ e => .inl e))
  have d1 : decide ((most : Int) < (c : Int) + 1) = false := decide_eq_false (by omega)
  have d2 : ¬ (most : Int) < (c : Int) + 1 := by omega
  obtain ⟨W1, hW1⟩ : ∃ z, z = w.setCell ⟨N, 0, none⟩ (.int .i64 ((c : Int) + 1)) := ⟨_, rfl⟩
  rw [← hW1] at hov1 hm1 hS1 hr1 hI1 HMF
  have hall := all_any W1 C S T s hS1 hw
  have hlen : ((Pr.all s).map (fun (t : Nat) => (t : Int))).length = (Pr.all s).length := by simp
  rw [hlen] at hall
  obtain ⟨na, hna⟩ : ∃ na, na = (Pr.all s).length := ⟨_, rfl⟩
  have hna0 : na ≠ 0 := by rw [hna]; exact fun h => ha (List.eq_nil_of_length_eq_zero h)
  have hna4 : na ≤ 4 := by rw [hna]; exact Pr.all_len hw
  rw [← hna] at hall
  obtain ⟨rl, hrl2⟩ : ∃ rl, rl = row.length := ⟨_, rfl⟩
  rw [← hrl2] at hr1 hrl ⊢
  have HALL := Lib.hid hall
  have HS1 := Lib.hid hS1
  have HR1 := Lib.hid hr1
  have HOV := Lib.hid hov1
  have HI1 := Lib.hid hI1
  have HW1 := Lib.hid hW1
  have HWF := Lib.hid hw
  have HRL := Lib.hid (And.intro hrl hrl2)
  have HAT := Lib.hid hat
  have HAP := Lib.hid (And.intro hap (And.intro hFN (And.intro hFP (And.intro hFQ hFR))))
  have HC := Lib.hid hC
  have HNA := Lib.hid hna
  have HIH := Lib.hid ih
  have HCN := Lib.hid (And.intro hcn (And.intro hn32 hn0))
  have HWS := Lib.hid (show w.heap.size ≤ W1.heap.size from hm1.size)
  have hrl9 : rl ≤ 100 := by omega
  have e0 : ((na : Int) == 0) = false := by simpa using hna0
  clear h hC hr hw hov hI hov1 hm1 hS1 hr1 hI1 hap e1 hat hFN hFP hFQ hFR hW1 hall ha hlen hrl hrl2 hna ih hcn hn32 hn0 hna0
  go_enter Tryz.func109, Tryz.ntmps109
  go_upto_region 1 with fail
  try rw [HE1.out]
  rw [← HW1.out]
  clear m2 ml f2
  obtain ⟨m2, ml, _⟩ := HOV.out.n.cell
  rw [show ((c + 1 : Nat) : Int) = (c : Int) + 1 by omega] at m2
  obtain ⟨p2, pl, _⟩ := HOV.out.p.cell
  go_wp2_with fail
  refine HALL.out.mono ?_
  rintro y w2 ⟨A2, c2, rfl, hints, b2⟩
  have hlen : ((Pr.all s).map (fun (t : Nat) => (t : Int))).length = na := by rw [List.length_map, HNA.out]
  have hrd : RdB w2 w2.heap.size 1 A2 ((Pr.all s).map (fun (t : Nat) => (t : Int))).length (((Pr.all s).map (fun (t : Nat) => (t : Int))).map iv) := hints.1.rd.toB
  have hatA : ∀ b, A2 = some b → W1.heap.size ≤ b.block := hints.2
  have HIC := Lib.hid (int_cell hrd)
  have HATA := Lib.hid hatA
  have HS2 := Lib.hid (HS1.out.below b2)
  have HR2 := Lib.hid (row_stepS HR1.out b2)
  have HOV2 := Lib.hid (HOV.out.below b2)
  have HI2 := Lib.hid (HAT.out.below HI1.out b2)
  have HMO := Lib.hid (show Mod (fun k => k = N ∨ F k) w w2 from HMF.out.trans (Mod.of_below_size b2 _))
  have HW12 := Lib.hid b2.size
  clear m2 ml p2 pl HALL b2 hints hrd hatA hlen HW1 HE1 HOV HI1 HS1 HR1 HMF
  go_wp2_with fail
  obtain ⟨i0, hi0, hz0, hz1, hz2⟩ := info_parts Tryz.infoEv
  go_loopw [30] (fun v wr => ∃ i : Nat, i ≤ na ∧ v = .int .i64 i ∧ Hid (Ov wr N P Q R (kidsP at_ most (n - 1) s row ((Pr.all s).take i) (c + 1, x)).1 most G caps) ∧ Hid (I (kidsP at_ most (n - 1) s row ((Pr.all s).take i) (c + 1, x)).2 wr) ∧ Hid (Mod (fun k => k = N ∨ F k) w2 wr)) (fun v _ => na - (intOf v).toNat)
  case atStart => exact ⟨0, Nat.zero_le _, rfl, HOV2, HI2, Lib.hid (Mod.refl _ _)⟩
  case round =>
    clear HOV2 HI2
    obtain ⟨i, hi, rfl, HOV, HI, HMV0⟩ := hrel
    by_cases hlt : i < na
    · obtain ⟨t, ht⟩ := get_some (show i < (Pr.all s).length by rw [← HNA.out]; exact hlt)
      have hen := (Pr.all_iff (s := s) (t := t)).1 (List.mem_of_getElem? ht)
      obtain ⟨e, ii, hnx, h8, h9⟩ := Pr.enabled_next hen
      clear h8 h9
      have htl := Pr.en_lt hen
      have hti : ((Pr.all s).map (fun (t : Nat) => (t : Int)))[i]? = some (t : Int) := by rw [List.getElem?_map, ht]; rfl
      obtain ⟨g, og, rfl, hgl, hcl⟩ := HIC.out i _ hti
      have hgM : ¬ (g = N ∨ F g) := fun hk => by have h1 : W1.heap.size ≤ g := HATA.out _ rfl; have := (HAP.out.1 g hk).2.2.2.2; have := HWS.out; omega
      have hca := (HMV0.out.cell g (og + i) hgl hgM).trans (hcl w2 (Below.refl _ _))
      have hlg : g < wr.heap.size := Nat.lt_of_lt_of_le hgl HMV0.out.size
      have hSr : SAt wr C S T s := HS2.out.mod HMV0.out (fun k hk e => (HAP.out.1 k e).2.2.1 hk) (fun e => (HAP.out.1 S e).1 rfl) (fun e => (HAP.out.1 T e).2.1 rfl)
      have hRr : Row wr 57 4 A rl cap (row.flatMap encE) := HR2.out.mod HMV0.out (fun a ha e => (HAP.out.1 _ e).2.2.2.1 a ha rfl)
      have hwsz : w.heap.size ≤ wr.heap.size := by have := HWS.out; have := HW12.out; have := HMV0.out.size; omega
      have hcopy := copyS_any wr C S T s hSr (fun k hk => Nat.lt_of_lt_of_le (HC.out k hk) hwsz) HWF.out.n4
      have HCOPY := Lib.hid hcopy
      have HT := Lib.hid (And.intro ht (And.intro hen (And.intro hnx htl)))
      have HWZ := Lib.hid hwsz
      have HRR := Lib.hid hRr
      have k1 : (0 : Int) ≤ (i : Int) := Int.natCast_nonneg _
      have k2 : (i : Int) < (na : Int) := by omega
      clear hcopy ht hen hnx htl hti hcl hgM hgl hSr hwsz hRr
      go_wp2_with fail
      refine HCOPY.out.mono ?_
      rintro y w3 ⟨S', T', rfl, hR3, hS', hT', b3⟩
      obtain ⟨et, ek, eo, ef⟩ := e
      have hstep := step_ok w3 C S' T' s t ⟨et, ek, eo, ef⟩ hR3 HWF.out HT.out.2.2.2 HT.out.2.1 HT.out.2.2.1
      simp only [valE] at hstep
      have HSTEP := Lib.hid hstep
      have HR3 := Lib.hid hR3
      have HB3 := Lib.hid b3
      have HST := Lib.hid (And.intro hS' hT')
      clear hstep hR3 b3 hS' hT' HCOPY hca hlg
      go_wp2_with fail
      refine HSTEP.out.mono ?_
      rintro y w4 ⟨rfl, hR4, hm4⟩
      have hb4 : Below wr.heap.size wr w4 := HB3.out.trans (hm4.below _ HB3.out.size (fun k hk e => by have := HST.out; omega))
      obtain ⟨V0, Z, hV0, hZ, hBz, hZl, hZe⟩ := ev_box w4 ⟨et, ek, eo, ef⟩
      simp only at hV0
      have hb5 : Below wr.heap.size wr V0 := below_at hb4 hBz
      have hR5 := hR4.below hBz
      have HXE := Lib.hid hZe
      have HRD := Lib.hid (fun (u : World) (hu : Below V0.heap.size V0 u) => row_stepS HRR.out (below_at hb5 hu))
      have HOVB := Lib.hid (fun (u : World) (hu : Below V0.heap.size V0 u) => HOV.out.below (below_at hb5 hu))
      have hrec : ∀ (u : World) (g8 o8 cap8 : Nat), Below V0.heap.size V0 u → V0.heap.size ≤ g8 → Row u 57 4 (some ⟨g8, o8, none⟩) (rl + 1) cap8 (row.flatMap encE ++ [.int .i64 et, .int .i64 ek, .int .i64 eo, .bool ef]) →
          Calls Tryz.prog 109 #[.pointer (some ⟨S', 0, none⟩), .slice (some ⟨g8, o8, none⟩) (rl + 1) cap8, .pointer (some ⟨N, 0, none⟩), .pointer (some ⟨P, 0, none⟩), .pointer (some ⟨Q, 0, none⟩), .pointer (some ⟨R, 0, none⟩)] u fun y w' => y = .returned (.tuple #[]) ∧ Ov w' N P Q R (kidsP at_ most (n - 1) s row ((Pr.all s).take (i + 1)) (c + 1, x)).1 most G caps ∧ I (kidsP at_ most (n - 1) s row ((Pr.all s).take (i + 1)) (c + 1, x)).2 w' ∧ Mod (fun k => k = N ∨ F k) u w' := fun u g8 o8 cap8 hu hg8 hrd => by
        obtain ⟨ci, xi, hx⟩ : ∃ ci xi, kidsP at_ most (n - 1) s row ((Pr.all s).take i) (c + 1, x) = (ci, xi) := ⟨_, _, rfl⟩
        have hov := HOVB.out u hu
        have hii := HAT.out.below HI.out (below_at hb5 hu)
        have hbd := kidsP_bound at_ most (n - 1) s row HWF.out ((Pr.all s).take i) (c + 1, x)
        have hev : Pr.evAt s t = ⟨et, ek, eo, ef⟩ := by unfold Pr.evAt; rw [HT.out.2.2.1]; rfl
        rw [hx] at hov hii hbd
        rw [kidsP_snoc HT.out.1, hx, hev]
        have hl2 : (row ++ [(⟨et, ek, eo, ef⟩ : Ev)]).length = rl + 1 := by rw [List.length_append, ← HRL.out.2]; rfl
        have hlt2 : ((Pr.all s).take i).length ≤ 3 := by rw [List.length_take]; omega
        have hcn := HCN.out
        simp only at hbd hov hii
        have hu5 := hu.size
        have hz5 := hb5.size
        have hwz := HWZ.out
        have hst := HST.out
        have hss := hR5.lt
        have hfl : (row ++ [(⟨et, ek, eo, ef⟩ : Ev)]).flatMap encE = row.flatMap encE ++ [.int .i64 et, .int .i64 ek, .int .i64 eo, .bool ef] := by rw [List.flatMap_append]; simp [encE]
        have := HIH.out t (List.mem_of_getElem? HT.out.1) u C S' T' (row ++ [⟨et, ek, eo, ef⟩]) (some ⟨g8, o8, none⟩) cap8 ci xi (hR5.below hu) (fun k hk => by have := HC.out k hk; omega)
          (by rw [hl2, hfl]; exact hrd) (by rw [hl2]; have := HRL.out.1; omega) (fun k hk => by
            have h9 := HAP.out.1 k hk
            exact ⟨by omega, by omega, h9.2.2.1, fun b hb => by injection hb with hb; subst hb; simp only; omega, by omega⟩) hov hii (by omega)
        rw [hl2] at this
        exact this
      have HREC := Lib.hid hrec
      have HMV := Lib.hid (show Mod (fun k => k = N ∨ F k) w2 V0 from HMV0.out.trans (Mod.of_below_size hb5 _))
      have HZN := Lib.hid (show ∀ k, (k = N ∨ F k) → k ≠ Z from fun k hk e => by
        have h1 := (HAP.out.1 k hk).2.2.2.2
        have h2 := hb4.size
        have h3 := HWZ.out
        rw [hZ] at e
        omega)
      clear hrec hR5 hb5 hR4 hm4 hb4 hBz hZl hZe HSTEP HR3 HB3 HI HMV0
      go_upto_region 10 with fail
      rw [← hV0, ← hZ]
      clear hV0 hZ
      refine wp_region_planF (by kernel_rfl) (fun u => Below V0.heap.size V0 u) [11] [(0, .load), (1, .pure), (2, .pure), (3, .pure), (4, .pure), (5, .pure), (6, .pure), (7, .pure), (8, .load), (9, .eff), (10, .eff), (11, .last)] (by simp only [List.map_cons, List.map_nil, List.getElem?_toArray, List.getElem?_cons_succ, List.getElem?_cons_zero]; rfl) (by kernel_rfl) (fun _ _ d _ _ h => by cases d <;> exact h) ((Below.refl _ _).drew) ?_
      obtain ⟨v1, hv1⟩ : ∃ z, z = V0.drew := ⟨_, rfl⟩
      rw [← hv1]
      have hbv : Below V0.heap.size V0 v1 := by rw [hv1]; exact (Below.refl _ _).drew
      have HBV := Lib.hid hbv
      clear hv1 hbv
      cases A with
      | none =>
        obtain rfl : rl = 0 := by have h1 := HRR.out.2.2.2.1 rfl; have h2 := HRR.out.2.1; omega
        have hre : row = [] := List.eq_nil_of_length_eq_zero (by rw [← HRL.out.2])
        obtain rfl : cap = 0 := HRR.out.2.2.2.1 rfl
        subst hre
        repeat (first
          | (refine plan_pure (v := ?_) (by rfl) (fun w1 => ?_) ?_
             rotate_left
             · go_simp <;> with_reducible rfl
             simp only [Act.put, List.setIfInBounds_toArray, List.set_cons_zero, List.set_cons_succ])
          | (refine plan_off (by rfl) ?_
             simp only [Act.put, List.setIfInBounds_toArray, List.set_cons_zero, List.set_cons_succ])
          | (refine plan_load_off (by rfl) ?_
             simp only [Act.put, List.setIfInBounds_toArray, List.set_cons_zero, List.set_cons_succ])
          | (refine plan_load (v := ?_) (by rfl) (fun w1 hw1 => ?_) ?_
             rotate_left
             · (have qr := (HOVB.out w1 hw1).r.cell
                obtain ⟨r0, r1, _⟩ := qr
                have qe := HXE.out w1 hw1
                obtain ⟨⟨z0, z1, z2, z3⟩, zl⟩ := qe
                simp only [Nat.zero_add] at z1 z2 z3
                clear hw1
                go_simp <;> with_reducible rfl)
             simp only [Act.put, List.setIfInBounds_toArray, List.set_cons_zero, List.set_cons_succ]))
        obtain ⟨Y, hY⟩ : ∃ Z, Z = v1.heap.size := ⟨_, rfl⟩
        obtain ⟨v2, hv2⟩ : ∃ u, u = v1.alloc (Obj.cells #[.int .i64 et, .int .i64 ek, .int .i64 eo, .bool ef] 57) := ⟨_, rfl⟩
        have HYK := Lib.hid (show v2.heap[Y]? = some (.cells #[.int .i64 et, .int .i64 ek, .int .i64 eo, .bool ef] 57 (0, 0)) by rw [hv2, hY]; exact heap_alloc_new v1 _)
        have HB2 := Lib.hid (show Below V0.heap.size V0 v2 by rw [hv2]; exact HBV.out.alloc HBV.out.size _)
        refine plan_eff ?_
        go_wp2_with fail
        rw [← hv2, ← hY]
        clear hv2 hY
        refine plan_on (fun _ h => h) HB2.out ?_
        repeat (first
          | (refine plan_pure (v := ?_) (by rfl) (fun w1 => ?_) ?_
             rotate_left
             · go_simp <;> with_reducible rfl
             simp only [Act.put, List.setIfInBounds_toArray, List.set_cons_zero, List.set_cons_succ])
          | (refine plan_off (by rfl) ?_
             simp only [Act.put, List.setIfInBounds_toArray, List.set_cons_zero, List.set_cons_succ])
          | (refine plan_load_off (by rfl) ?_
             simp only [Act.put, List.setIfInBounds_toArray, List.set_cons_zero, List.set_cons_succ])
          | (refine plan_load (v := ?_) (by rfl) (fun w1 hw1 => ?_) ?_
             rotate_left
             · (skip
                clear hw1
                go_simp <;> with_reducible rfl)
             simp only [Act.put, List.setIfInBounds_toArray, List.set_cons_zero, List.set_cons_succ]))
        refine plan_eff ?_
        go_wp2_with (at_builtin; refine wpList_append_row (by rfl) _ _ _ (by rfl) 57 i0 _ 4 32 Tryz.underlying52 hi0 hz0 hz1 hz2 rfl (by omega) none 0 0 [] (by rfl) (Row.nil v2 _ _) ⟨Y, 0, none⟩ 1 1 [.int .i64 et, .int .i64 ek, .int .i64 eo, .bool ef] (by rfl) (by rfl) (World.news_of_block (cs := #[.int .i64 et, .int .i64 ek, .int .i64 eo, .bool ef]) (t := 57) (fr := (0, 0)) HYK.out) (by simp [Value.oneCell']) (by omega) (by unfold maxLen; omega) (by omega) ?_; intro g8 o8 cap8 v3 hown hm hat9; skip)
        have HB3 := Lib.hid (show Below V0.heap.size V0 v3 from HB2.out.trans (hm.below _ HB2.out.size (fun k hk ⟨a, e1, e2⟩ => by cases e1)))
        have HG8 := Lib.hid (show V0.heap.size ≤ g8 by
          rcases hat9 with ⟨a, e1, e2⟩ | h
          · cases e1
          · exact Nat.le_trans HB2.out.size h)
        have hcall := HREC.out v3 g8 o8 cap8 HB3.out HG8.out (by simpa using hown)
        have HCALL := Lib.hid hcall
        clear hown hm hat9 hcall
        refine plan_on (fun _ h => h) HB3.out ?_
        repeat (first
          | (refine plan_pure (v := ?_) (by rfl) (fun w1 => ?_) ?_
             rotate_left
             · go_simp <;> with_reducible rfl
             simp only [Act.put, List.setIfInBounds_toArray, List.set_cons_zero, List.set_cons_succ])
          | (refine plan_off (by rfl) ?_
             simp only [Act.put, List.setIfInBounds_toArray, List.set_cons_zero, List.set_cons_succ])
          | (refine plan_load_off (by rfl) ?_
             simp only [Act.put, List.setIfInBounds_toArray, List.set_cons_zero, List.set_cons_succ])
          | (refine plan_load (v := ?_) (by rfl) (fun w1 hw1 => ?_) ?_
             rotate_left
             · (skip
                clear hw1
                go_simp <;> with_reducible rfl)
             simp only [Act.put, List.setIfInBounds_toArray, List.set_cons_zero, List.set_cons_succ]))
        refine plan_last ?_
        go_wp2_with fail
        refine HCALL.out.mono ?_
        rintro y w9 ⟨rfl, ho9, hi9, hm9⟩
        have HO9 := Lib.hid ho9
        have HI9 := Lib.hid hi9
        have HM9 := Lib.hid ((Mod.of_below_size HB3.out (fun k => k = N ∨ F k)).trans hm9)
        clear ho9 hi9 hm9 HCALL
        go_wp2_with fail
        repeat (first
          | (refine plan_pure (v := ?_) (by rfl) (fun w1 => ?_) ?_
             rotate_left
             · go_simp <;> with_reducible rfl
             simp only [Act.put, List.setIfInBounds_toArray, List.set_cons_zero, List.set_cons_succ])
          | (refine plan_off (by rfl) ?_
             simp only [Act.put, List.setIfInBounds_toArray, List.set_cons_zero, List.set_cons_succ])
          | (refine plan_load_off (by rfl) ?_
             simp only [Act.put, List.setIfInBounds_toArray, List.set_cons_zero, List.set_cons_succ])
          | (refine plan_load (v := ?_) (by rfl) (fun w1 hw1 => ?_) ?_
             rotate_left
             · (skip
                clear hw1
                go_simp <;> with_reducible rfl)
             simp only [Act.put, List.setIfInBounds_toArray, List.set_cons_zero, List.set_cons_succ]))
        refine plan_end ?_
        go_wp2_with fail
        go_roundw
        case rel => exact ⟨i + 1, by omega, by go_num, HO9, HI9, Lib.hid (HMV.out.trans HM9.out)⟩
        case measure => simp [intOf]; omega
      | some a =>
        have hrc : rl ≤ cap := HRR.out.2.1
        have k5 : (0 : Int) ≤ (rl : Int) := Int.natCast_nonneg _
        have k6 : (rl : Int) ≤ (cap : Int) := by omega
        obtain ⟨ga, oa, sa⟩ := a
        obtain rfl : sa = none := (HRR.out.2.2.2.2 _ rfl).1
        repeat (first
          | (refine plan_pure (v := ?_) (by rfl) (fun w1 => ?_) ?_
             rotate_left
             · go_simp <;> with_reducible rfl
             simp only [Act.put, List.setIfInBounds_toArray, List.set_cons_zero, List.set_cons_succ])
          | (refine plan_off (by rfl) ?_
             simp only [Act.put, List.setIfInBounds_toArray, List.set_cons_zero, List.set_cons_succ])
          | (refine plan_load_off (by rfl) ?_
             simp only [Act.put, List.setIfInBounds_toArray, List.set_cons_zero, List.set_cons_succ])
          | (refine plan_load (v := ?_) (by rfl) (fun w1 hw1 => ?_) ?_
             rotate_left
             · (have qr := (HOVB.out w1 hw1).r.cell
                obtain ⟨r0, r1, _⟩ := qr
                have qe := HXE.out w1 hw1
                obtain ⟨⟨z0, z1, z2, z3⟩, zl⟩ := qe
                simp only [Nat.zero_add] at z1 z2 z3
                clear hw1
                go_simp <;> with_reducible rfl)
             simp only [Act.put, List.setIfInBounds_toArray, List.set_cons_zero, List.set_cons_succ]))
        obtain ⟨Y, hY⟩ : ∃ Z, Z = v1.heap.size := ⟨_, rfl⟩
        obtain ⟨v2, hv2⟩ : ∃ u, u = v1.alloc (Obj.cells #[.int .i64 et, .int .i64 ek, .int .i64 eo, .bool ef] 57) := ⟨_, rfl⟩
        have HYK := Lib.hid (show v2.heap[Y]? = some (.cells #[.int .i64 et, .int .i64 ek, .int .i64 eo, .bool ef] 57 (0, 0)) by rw [hv2, hY]; exact heap_alloc_new v1 _)
        have HB2 := Lib.hid (show Below V0.heap.size V0 v2 by rw [hv2]; exact HBV.out.alloc HBV.out.size _)
        have HTR := Lib.hid ((HRD.out v2 HB2.out).tight (fun h => by cases h))
        refine plan_eff ?_
        go_wp2_with fail
        rw [← hv2, ← hY]
        clear hv2 hY
        refine plan_on (fun _ h => h) HB2.out ?_
        repeat (first
          | (refine plan_pure (v := ?_) (by rfl) (fun w1 => ?_) ?_
             rotate_left
             · go_simp <;> with_reducible rfl
             simp only [Act.put, List.setIfInBounds_toArray, List.set_cons_zero, List.set_cons_succ])
          | (refine plan_off (by rfl) ?_
             simp only [Act.put, List.setIfInBounds_toArray, List.set_cons_zero, List.set_cons_succ])
          | (refine plan_load_off (by rfl) ?_
             simp only [Act.put, List.setIfInBounds_toArray, List.set_cons_zero, List.set_cons_succ])
          | (refine plan_load (v := ?_) (by rfl) (fun w1 hw1 => ?_) ?_
             rotate_left
             · (skip
                clear hw1
                go_simp <;> with_reducible rfl)
             simp only [Act.put, List.setIfInBounds_toArray, List.set_cons_zero, List.set_cons_succ]))
        refine plan_eff ?_
        go_wp2_with (at_builtin; refine wpList_append_copy (by rfl) _ _ _ (by rfl) 57 i0 _ 4 32 Tryz.underlying52 hi0 hz0 hz1 hz2 rfl (by omega) ⟨ga, oa, none⟩ rl (row.flatMap encE) (by rfl) HTR.out (some ⟨Y, 0, none⟩) 1 1 [.int .i64 et, .int .i64 ek, .int .i64 eo, .bool ef] (by rfl) (ev_rd HYK.out) (by unfold maxLen; omega) (by omega) ?_; intro g8 o8 cap8 v3 hown hb9 hg9; skip)
        have HB3 := Lib.hid (show Below V0.heap.size V0 v3 from below_at HB2.out hb9)
        have HG8 := Lib.hid (show V0.heap.size ≤ g8 by
          rcases hg9 with ⟨h, _⟩ | h
          · omega
          · exact Nat.le_trans HB2.out.size h)
        have hcall := HREC.out v3 g8 o8 cap8 HB3.out HG8.out hown
        have HCALL := Lib.hid hcall
        clear hown hb9 hg9 hcall HTR
        refine plan_on (fun _ h => h) HB3.out ?_
        repeat (first
          | (refine plan_pure (v := ?_) (by rfl) (fun w1 => ?_) ?_
             rotate_left
             · go_simp <;> with_reducible rfl
             simp only [Act.put, List.setIfInBounds_toArray, List.set_cons_zero, List.set_cons_succ])
          | (refine plan_off (by rfl) ?_
             simp only [Act.put, List.setIfInBounds_toArray, List.set_cons_zero, List.set_cons_succ])
          | (refine plan_load_off (by rfl) ?_
             simp only [Act.put, List.setIfInBounds_toArray, List.set_cons_zero, List.set_cons_succ])
          | (refine plan_load (v := ?_) (by rfl) (fun w1 hw1 => ?_) ?_
             rotate_left
             · (skip
                clear hw1
                go_simp <;> with_reducible rfl)
             simp only [Act.put, List.setIfInBounds_toArray, List.set_cons_zero, List.set_cons_succ]))
        refine plan_last ?_
        go_wp2_with fail
        refine HCALL.out.mono ?_
        rintro y w9 ⟨rfl, ho9, hi9, hm9⟩
        have HO9 := Lib.hid ho9
        have HI9 := Lib.hid hi9
        have HM9 := Lib.hid ((Mod.of_below_size HB3.out (fun k => k = N ∨ F k)).trans hm9)
        clear ho9 hi9 hm9 HCALL
        go_wp2_with fail
        repeat (first
          | (refine plan_pure (v := ?_) (by rfl) (fun w1 => ?_) ?_
             rotate_left
             · go_simp <;> with_reducible rfl
             simp only [Act.put, List.setIfInBounds_toArray, List.set_cons_zero, List.set_cons_succ])
          | (refine plan_off (by rfl) ?_
             simp only [Act.put, List.setIfInBounds_toArray, List.set_cons_zero, List.set_cons_succ])
          | (refine plan_load_off (by rfl) ?_
             simp only [Act.put, List.setIfInBounds_toArray, List.set_cons_zero, List.set_cons_succ])
          | (refine plan_load (v := ?_) (by rfl) (fun w1 hw1 => ?_) ?_
             rotate_left
             · (skip
                clear hw1
                go_simp <;> with_reducible rfl)
             simp only [Act.put, List.setIfInBounds_toArray, List.set_cons_zero, List.set_cons_succ]))
        refine plan_end ?_
        go_wp2_with fail
        go_roundw
        case rel => exact ⟨i + 1, by omega, by go_num, HO9, HI9, Lib.hid (HMV.out.trans HM9.out)⟩
        case measure => simp [intOf]; omega
    · obtain rfl : i = na := by omega
      go_wp2_with fail
      go_end0
      have hs := HOV.out
      have hi9 := HI.out
      rw [List.take_of_length_le (by rw [HNA.out]; exact Nat.le_refl _)] at hs hi9
      exact ⟨rfl, hs, hi9, HMO.out.trans HMV0.out⟩

theorem over1_any {N P Q R most G : Nat} {caps : Array Value} {F : Nat → Prop} {I : α → World → Prop} {at_ : St → List Ev → α → α} (hat : AtS G caps F I at_) (hFN : ¬ F N) (hFP : ¬ F P) (hFQ : ¬ F Q) (hFR : ¬ F R) (hmost : most ≤ 100000) : ∀ (n : Nat) (s : St), Pr.Wf s → Pr.fuels s ≤ n → n ≤ 32 → OverC N P Q R most G caps F I at_ n s := by
  have full : ∀ {n : Nat} {s : St} {row : List Ev} {x : Nat × α}, most < x.1 + 1 → Pr.over at_ most n s row x = (x.1 + 1, x.2) := fun {n s row x} h => by cases n <;> simp only [Pr.over, if_pos h]
  have nilC : ∀ {n : Nat} {s : St} {row : List Ev} {c : Nat} {x : α}, ¬ most < c + 1 → Pr.all s = [] → Pr.over at_ most n s row (c, x) = (c + 1, at_ s row x) := fun {n s row c x} h ha => by
    cases n with
    | zero => simp only [Pr.over, if_neg h]
    | succ n => simp only [Pr.over, if_neg h, if_pos ha]; rw [ha]; rfl
  intro n
  induction n with
  | zero =>
    intro s hw hf _ w C S T row A cap c x h hC hr hrl hap hov hI hc
    by_cases h1 : most < c + 1
    · rw [full (x := (c, x)) h1]
      exact over1_full hat hFN hFP hFQ hFR hmost 0 s hw w C S T row A cap c x h hC hr hrl hap hov hI (by omega) h1
    · have ha := Pr.all_nil_of hw (by omega)
      rw [nilC h1 ha]
      exact over1_end hat hFN hFP hFQ hFR hmost 0 s hw w C S T row A cap c x h hC hr hrl hap hov hI (by omega) h1 ha
  | succ n ih =>
    intro s hw hf hn w C S T row A cap c x h hC hr hrl hap hov hI hc
    by_cases h1 : most < c + 1
    · rw [full (x := (c, x)) h1]
      exact over1_full hat hFN hFP hFQ hFR hmost (n + 1) s hw w C S T row A cap c x h hC hr hrl hap hov hI (by omega) h1
    · by_cases ha : Pr.all s = []
      · rw [nilC h1 ha]
        exact over1_end hat hFN hFP hFQ hFR hmost (n + 1) s hw w C S T row A cap c x h hC hr hrl hap hov hI (by omega) h1 ha
      · have hg : Pr.over at_ most (n + 1) s row (c, x) = kidsP at_ most n s row (Pr.all s) (c + 1, x) := by simp only [Pr.over, if_neg h1, if_neg ha]; rfl
        rw [hg]
        exact over1_more hat hFN hFP hFQ hFR hmost (n + 1) s hw w C S T row A cap c x h hC hr hrl hap hov hI (by omega) h1 ha hn hc (Nat.succ_pos _) (fun t ht => by
          have hen := Pr.all_iff.1 ht
          have := Pr.fuels_step hw hen
          exact ih (Pr.stepS s t) (Pr.stepS_wf t hw).1 (by omega) (by omega))
end
end Go.Proofs.YtcaapoacmfjnmaaGreat
