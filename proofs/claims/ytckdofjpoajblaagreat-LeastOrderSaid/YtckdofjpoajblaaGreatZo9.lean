/- Part 9 of the proof of leastOrder_holds: what it rests on. -/
import Derived.Test.YtckdofjpoajblaaGreatZo8
namespace Go.Proofs.YtckdofjpoajblaaGreat
open Go.RowKit
set_option linter.unusedVariables false
theorem rd_toC {w : World} {sz : Nat} {A : Option Addr} {n : Nat} {cs : List Value} (h : Rd w sz A n cs) : RdC w (fun k => k < w.heap.size) sz A n cs :=
  ⟨h.1, fun h0 => by obtain ⟨g, o, hA, hg, hc⟩ := h.2 h0; exact ⟨g, o, hA, hg, hg, hc⟩⟩
theorem pgin_two (w : World) (v m : Int) (q1 q2 : List Ins) (A1 A2 : Option Addr) (c1 c2 : Nat) (r1 : Rd w 4 A1 q1.length (q1.flatMap encI)) (r2 : Rd w 4 A2 q2.length (q2.flatMap encI)) (h1 : q1.length ≤ c1) (h2 : q2.length ≤ c2) (m1 : c1 ≤ maxLen) (m2 : c2 ≤ maxLen) :
    PgIn (w.alloc (Obj.cells #[.slice A1 q1.length c1, .slice A2 q2.length c2] 67)) ⟨v, m, [q1, q2]⟩ (some ⟨w.heap.size, 0, none⟩) := by
  have hb : Below w.heap.size w (w.alloc (Obj.cells #[.slice A1 q1.length c1, .slice A2 q2.length c2] 67)) := (Below.refl _ _).alloc (Nat.le_refl _) _
  have hk := heap_alloc_new w (Obj.cells #[.slice A1 q1.length c1, .slice A2 q2.length c2] 67)
  have e1 := rd_toC (r1.below hb (Nat.le_refl _))
  have e2 := rd_toC (r2.below hb (Nat.le_refl _))
  refine ⟨⟨[.slice A1 q1.length c1, .slice A2 q2.length c2], ⟨rfl, fun _ => ⟨_, 0, rfl, blk_lt hk, blk_lt hk, fun j hj => ?_⟩⟩, fun i q hi => ?_⟩, by simp [maxLen], fun q hq => ?_⟩
  · rw [cell_blk hk]
    rcases (show j = 0 ∨ j = 1 by simp at hj; omega) with rfl | rfl <;> rfl
  · match i, hi with
    | 0, hi => simp at hi; subst hi; exact ⟨A1, c1, rfl, e1, h1, m1⟩
    | 1, hi => simp at hi; subst hi; exact ⟨A2, c2, rfl, e2, h2, m2⟩
    | n + 2, hi => simp at hi
  · simp at hq
    rcases hq with rfl | rfl
    · exact Nat.le_trans h1 m1
    · exact Nat.le_trans h2 m2
end Go.Proofs.YtckdofjpoajblaaGreat
namespace Go.Proofs.YtckdofjpoajblaaGreat
open Go.RowKit
set_option linter.unusedVariables false
namespace Aw20
def q1 : List Ins := [⟨3, 0, 0, 3⟩, ⟨2, 0, 0, 0⟩]
def q2 : List Ins := [⟨8, 0, 0, 0⟩, ⟨5, 0, 0, 0⟩, ⟨5, 0, 0, 0⟩]
def p : Pg := ⟨1, 1, [q1, q2]⟩
theorem e1 : (Pr.all6 p 8 500).2 = 0 := by kernel_rfl
theorem e2 : (Pr.all6 p 8 2).2 = 5 := by kernel_rfl
theorem a1 : Pr.wayOf (Pr.leastR Pr.isFail p 8 500) = [1] := by kernel_rfl
theorem a2 : (Pr.leastR Pr.isFail p 8 500).isSome = true := by kernel_rfl
theorem b1 : Pr.wayOf (Pr.leastR Pr.isWait p 8 500) = [0, 0, 1, 1] := by kernel_rfl
theorem b2 : (Pr.leastR Pr.isWait p 8 500).isSome = true := by kernel_rfl
theorem c0 : Pr.reachE p 8 500 0 = 0 := by kernel_rfl
theorem c1 : Pr.wayOf (Pr.reachR p 8 500 0 3) = [0, 0] := by kernel_rfl
theorem c2 : (Pr.reachR p 8 500 0 3).isSome = true := by kernel_rfl
theorem d1 : (Pr.reachR p 8 500 0 4).isSome = false := by kernel_rfl
theorem i0 : Pr.reachE p 8 500 1 = 2 := by kernel_rfl
theorem s1 : Pr.sw [0, 0, 1, 1] = 1 := by kernel_rfl
end Aw20
def O1 : Obj := .cells #[.int .i64 3, .int .i64 0, .int .i64 0, .int .i64 3, .int .i64 2, .int .i64 0, .int .i64 0, .int .i64 0] 98
def O2 : Obj := .cells #[.int .i64 8, .int .i64 0, .int .i64 0, .int .i64 0, .int .i64 5, .int .i64 0, .int .i64 0, .int .i64 0, .int .i64 5, .int .i64 0, .int .i64 0, .int .i64 0] 98
theorem pg20 (w : World) : PgIn (((w.alloc O1).alloc O2).alloc (.cells #[.slice (some ⟨w.heap.size, 0, none⟩) 2 2, .slice (some ⟨w.heap.size + 1, 0, none⟩) 3 3] 67)) Aw20.p (some ⟨w.heap.size + 2, 0, none⟩) := by
  have h1 := heap_alloc_new w O1
  have h2 := heap_alloc_new (w.alloc O1) O2
  have hb : Below (w.alloc O1).heap.size (w.alloc O1) ((w.alloc O1).alloc O2) := (Below.refl _ _).alloc (Nat.le_refl _) _
  have h1' := (hb.block _ (blk_lt h1)).trans h1
  have r1 : Rd ((w.alloc O1).alloc O2) 4 (some ⟨w.heap.size, 0, none⟩) Aw20.q1.length (Aw20.q1.flatMap encI) := ⟨rfl, fun _ => ⟨_, 0, rfl, blk_lt h1', fun j hj => by
    rw [cell_blk h1']
    rcases (show j = 0 ∨ j = 1 ∨ j = 2 ∨ j = 3 ∨ j = 4 ∨ j = 5 ∨ j = 6 ∨ j = 7 by simp [Aw20.q1] at hj; omega) with rfl | rfl | rfl | rfl | rfl | rfl | rfl | rfl <;> rfl⟩⟩
  have r2 : Rd ((w.alloc O1).alloc O2) 4 (some ⟨w.heap.size + 1, 0, none⟩) Aw20.q2.length (Aw20.q2.flatMap encI) := ⟨rfl, fun _ => ⟨_, 0, rfl, by simp, fun j hj => by
    have e : (w.alloc O1).heap.size = w.heap.size + 1 := by simp
    rw [← e, cell_blk h2]
    rcases (show j = 0 ∨ j = 1 ∨ j = 2 ∨ j = 3 ∨ j = 4 ∨ j = 5 ∨ j = 6 ∨ j = 7 ∨ j = 8 ∨ j = 9 ∨ j = 10 ∨ j = 11 by simp [Aw20.q2] at hj; omega) with rfl | rfl | rfl | rfl | rfl | rfl | rfl | rfl | rfl | rfl | rfl | rfl <;> rfl⟩⟩
  have := pgin_two ((w.alloc O1).alloc O2) 1 1 Aw20.q1 Aw20.q2 _ _ 2 3 r1 r2 (Nat.le_refl _) (Nat.le_refl _) (by simp [maxLen]) (by simp [maxLen])
  have e : ((w.alloc O1).alloc O2).heap.size = w.heap.size + 2 := by simp
  rw [e] at this
  exact this
theorem box20 (w : World) : ∃ W X A, W = (((w.alloc O1).alloc O2).alloc (.cells #[.slice (some ⟨w.heap.size, 0, none⟩) 2 2, .slice (some ⟨w.heap.size + 1, 0, none⟩) 3 3] 67)).alloc (.cells #[.int .i64 1, .int .i64 1, .slice (some ⟨w.heap.size + 2, 0, none⟩) 2 2] 24) ∧ X = w.heap.size + 3 ∧ A = some ⟨w.heap.size + 2, 0, none⟩ ∧
    Below w.heap.size w W ∧ ∀ u, Below W.heap.size W u → PgIn u Aw20.p A ∧ u.cell? ⟨X, 0, none⟩ = some (.int .i64 1) ∧ u.cell? ⟨X, 1, none⟩ = some (.int .i64 1) ∧ u.cell? ⟨X, 2, none⟩ = some (.slice A 2 2) ∧ X < u.heap.size := by
  refine ⟨_, _, _, rfl, rfl, rfl, ?_, fun u hu => ?_⟩
  · refine ((((Below.refl _ _).alloc ?_ _).alloc ?_ _).alloc ?_ _).alloc ?_ _ <;> simp <;> omega
  · obtain ⟨V, hV⟩ : ∃ V, V = (((w.alloc O1).alloc O2).alloc (.cells #[.slice (some ⟨w.heap.size, 0, none⟩) 2 2, .slice (some ⟨w.heap.size + 1, 0, none⟩) 3 3] 67)) := ⟨_, rfl⟩
    have hp := pg20 w
    rw [← hV] at hp hu
    have hVs : V.heap.size = w.heap.size + 3 := by rw [hV]; simp
    have hk := heap_alloc_new V (.cells #[.int .i64 1, .int .i64 1, .slice (some ⟨w.heap.size + 2, 0, none⟩) 2 2] 24)
    rw [hVs] at hk
    have hb : Below V.heap.size V (V.alloc (.cells #[.int .i64 1, .int .i64 1, .slice (some ⟨w.heap.size + 2, 0, none⟩) 2 2] 24)) := (Below.refl _ _).alloc (Nat.le_refl _) _
    have hk' := (hu.block _ (blk_lt hk)).trans hk
    exact ⟨hp.below (below_at hb hu), by rw [cell_blk hk']; rfl, by rw [cell_blk hk']; rfl, by rw [cell_blk hk']; rfl, blk_lt hk'⟩
theorem ints_new (w : World) (l : List Int) : Rd (w.alloc (.cells (l.map iv).toArray 3)) 1 (some ⟨w.heap.size, 0, none⟩) l.length (l.map iv) := by
  have hk := heap_alloc_new w (.cells (l.map iv).toArray 3)
  refine ⟨by simp, fun _ => ⟨_, 0, rfl, blk_lt hk, fun j hj => ?_⟩⟩
  rw [cell_blk hk]
  simp
set_option maxRecDepth 100000 in
set_option maxHeartbeats 4000000 in
theorem awake20 (w : World) : Calls Tryz.prog 17 #[] w fun x w' => x = .returned (.bool true) ∧ Below w.heap.size w w' := by
  obtain ⟨W, X, A, hW, hX, hA, hB, hWA⟩ := box20 w
  have hcA : ∀ u, Below W.heap.size W u → Calls Tryz.prog 20 #[.agg #[.int .i64 1, .int .i64 1, .slice A 2 2], .int .i64 8, .int .i64 500] u fun x w' => ∃ A' c, x = .returned (.tuple #[.slice A' 1 c, .bool true, .int .i64 0]) ∧ Rd w' 1 A' 1 (([1] : List Int).map iv) ∧ Below u.heap.size u w' := fun u hu => by
    have := failing_any u Aw20.p A 2 8 500 (hWA u hu).1 (by omega)
    unfold LeastOut at this
    rw [Aw20.e1, Aw20.a1, Aw20.a2] at this
    exact this
  have hcB : ∀ u, Below W.heap.size W u → Calls Tryz.prog 21 #[.agg #[.int .i64 1, .int .i64 1, .slice A 2 2], .int .i64 8, .int .i64 500] u fun x w' => ∃ A' c, x = .returned (.tuple #[.slice A' 4 c, .bool true, .int .i64 0]) ∧ Rd w' 1 A' 4 (([0, 0, 1, 1] : List Int).map iv) ∧ Below u.heap.size u w' := fun u hu => by
    have := waiting_any u Aw20.p A 2 8 500 (hWA u hu).1 (by omega)
    unfold LeastOut at this
    rw [Aw20.e1, Aw20.b1, Aw20.b2] at this
    exact this
  have hcC : ∀ u, Below W.heap.size W u → Calls Tryz.prog 22 #[.agg #[.int .i64 1, .int .i64 1, .slice A 2 2], .int .i64 8, .int .i64 500, .int .i64 0, .int .i64 3] u fun x w' => ∃ A' c, x = .returned (.tuple #[.slice A' 2 c, .bool true, .int .i64 0]) ∧ Rd w' 1 A' 2 (([0, 0] : List Int).map iv) ∧ Below u.heap.size u w' := fun u hu => by
    have := reaching_any u Aw20.p A 2 8 500 0 3 (hWA u hu).1 (by omega)
    unfold LeastOut at this
    rw [Aw20.c0, Aw20.c1, Aw20.c2] at this
    exact this
  have hcD : ∀ u, Below W.heap.size W u → Calls Tryz.prog 22 #[.agg #[.int .i64 1, .int .i64 1, .slice A 2 2], .int .i64 8, .int .i64 500, .int .i64 0, .int .i64 4] u fun x w' => (∃ A' n c, x = .returned (.tuple #[.slice A' n c, .bool false, .int .i64 0])) ∧ Below u.heap.size u w' := fun u hu => by
    have := reaching_any u Aw20.p A 2 8 500 0 4 (hWA u hu).1 (by omega)
    unfold LeastOut at this
    rw [Aw20.c0, Aw20.d1] at this
    exact this.mono fun x w' ⟨A', c, h1, _, h3⟩ => ⟨⟨A', _, c, h1⟩, h3⟩
  have hcE : ∀ u, Below W.heap.size W u → Calls Tryz.prog 22 #[.agg #[.int .i64 1, .int .i64 1, .slice A 2 2], .int .i64 8, .int .i64 500, .int .i64 1, .int .i64 3] u fun x w' => (∃ A' n c b, x = .returned (.tuple #[.slice A' n c, .bool b, .int .i64 2])) ∧ Below u.heap.size u w' := fun u hu => by
    have := reaching_any u Aw20.p A 2 8 500 1 3 (hWA u hu).1 (by omega)
    unfold LeastOut at this
    rw [Aw20.i0] at this
    exact this.mono fun x w' ⟨A', c, h1, _, h3⟩ => ⟨⟨A', _, c, _, h1⟩, h3⟩
  have hcF : ∀ u, Below W.heap.size W u → Calls Tryz.prog 20 #[.agg #[.int .i64 1, .int .i64 1, .slice A 2 2], .int .i64 8, .int .i64 2] u fun x w' => (∃ A' n c b, x = .returned (.tuple #[.slice A' n c, .bool b, .int .i64 5])) ∧ Below u.heap.size u w' := fun u hu => by
    have := failing_any u Aw20.p A 2 8 2 (hWA u hu).1 (by omega)
    unfold LeastOut at this
    rw [Aw20.e2] at this
    exact this.mono fun x w' ⟨A', c, h1, _, h3⟩ => ⟨⟨A', _, c, _, h1⟩, h3⟩
  have HA := Lib.hid hcA
  have HB := Lib.hid hcB
  have HC := Lib.hid hcC
  have HD := Lib.hid hcD
  have HE := Lib.hid hcE
  have HF := Lib.hid hcF
  have HX := Lib.hid (fun u hu => (hWA u hu).2)
  have HBW := Lib.hid hB
  skip
  clear hcA hcB hcC hcD hcE hcF hWA hB hA
  go_enter Tryz.func17, Tryz.ntmps17
  go_upto_region 3 with fail
  simp only [World.size_alloc, Nat.add_assoc, Nat.reduceAdd]
  rw [show (Obj.cells #[Value.int IntKind.i64 3, Value.int IntKind.i64 0, Value.int IntKind.i64 0, Value.int IntKind.i64 3, Value.int IntKind.i64 2, Value.int IntKind.i64 0, Value.int IntKind.i64 0, Value.int IntKind.i64 0] 98) = O1 from rfl, show (Obj.cells #[.int .i64 8, .int .i64 0, .int .i64 0, .int .i64 0, .int .i64 5, .int .i64 0, .int .i64 0, .int .i64 0, .int .i64 5, .int .i64 0, .int .i64 0, .int .i64 0] 98) = O2 from rfl]
  rw [← hW, ← hX]
  clear hW hX
  obtain ⟨x0, x1, x2, xl⟩ := HX.out W (Below.refl _ _)
  go_wp2_with fail
  refine (HA.out W (Below.refl _ _)).mono ?_
  rintro y w1 ⟨A1, c1, rfl, r1, b1⟩
  have HR1 := Lib.hid r1
  have HB1 := Lib.hid b1
  clear x0 x1 x2 xl r1 b1
  obtain ⟨x0, x1, x2, xl⟩ := HX.out w1 HB1.out
  go_wp2_with fail
  refine (HB.out w1 HB1.out).mono ?_
  rintro y w2 ⟨A2, c2, rfl, r2, b2⟩
  have HR2 := Lib.hid r2
  have HR1 := Lib.hid (HR1.out.below b2 (Nat.le_refl _))
  have HB2 := Lib.hid (below_at HB1.out b2)
  clear x0 x1 x2 xl r2 b2
  obtain ⟨x0, x1, x2, xl⟩ := HX.out w2 HB2.out
  go_wp2_with fail
  refine (HC.out w2 HB2.out).mono ?_
  rintro y w3 ⟨A3, c3, rfl, r3, b3⟩
  have HR3 := Lib.hid r3
  have HR1 := Lib.hid (HR1.out.below b3 (Nat.le_refl _))
  have HR2 := Lib.hid (HR2.out.below b3 (Nat.le_refl _))
  have HB3 := Lib.hid (below_at HB2.out b3)
  clear x0 x1 x2 xl r3 b3
  obtain ⟨x0, x1, x2, xl⟩ := HX.out w3 HB3.out
  go_wp2_with fail
  refine (HD.out w3 HB3.out).mono ?_
  rintro y w4 ⟨⟨A4, n4, c4, rfl⟩, b4⟩
  have HR1 := Lib.hid (HR1.out.below b4 (Nat.le_refl _))
  have HR2 := Lib.hid (HR2.out.below b4 (Nat.le_refl _))
  have HR3 := Lib.hid (HR3.out.below b4 (Nat.le_refl _))
  have HB4 := Lib.hid (below_at HB3.out b4)
  clear x0 x1 x2 xl b4
  obtain ⟨x0, x1, x2, xl⟩ := HX.out w4 HB4.out
  go_wp2_with fail
  refine (HE.out w4 HB4.out).mono ?_
  rintro y w5 ⟨⟨A5, n5, c5, t5, rfl⟩, b5⟩
  have HR1 := Lib.hid (HR1.out.below b5 (Nat.le_refl _))
  have HR2 := Lib.hid (HR2.out.below b5 (Nat.le_refl _))
  have HR3 := Lib.hid (HR3.out.below b5 (Nat.le_refl _))
  have HB5 := Lib.hid (below_at HB4.out b5)
  clear x0 x1 x2 xl b5
  obtain ⟨x0, x1, x2, xl⟩ := HX.out w5 HB5.out
  go_wp2_with fail
  refine (HF.out w5 HB5.out).mono ?_
  rintro y w6 ⟨⟨A6, n6, c6, t6, rfl⟩, b6⟩
  have HR1 := Lib.hid (HR1.out.below b6 (Nat.le_refl _))
  have HR2 := Lib.hid (HR2.out.below b6 (Nat.le_refl _))
  have HR3 := Lib.hid (HR3.out.below b6 (Nat.le_refl _))
  have HB6 := Lib.hid (below_at HB5.out b6)
  have hS : ∀ (l : List Int) (A' : Option Addr) (c : Nat), l.length < 1000 → Rd w6 1 A' l.length (l.map iv) → ∀ u, Below w6.heap.size w6 u → Calls Tryz.prog 24 #[.slice A' l.length c, .slice (some ⟨u.heap.size, 0, none⟩) l.length l.length] (u.alloc (.cells (l.map iv).toArray 3)) fun x w' => x = .returned (.bool true) ∧ Below u.heap.size u w' := fun l A' c hl hr u hu => by
    have hb : Below u.heap.size u (u.alloc (.cells (l.map iv).toArray 3)) := (Below.refl _ _).alloc (Nat.le_refl _) _
    refine (sameInts_any (u.alloc (.cells (l.map iv).toArray 3)) A' c l _ l.length l (hr.below (below_at hu hb) (Nat.le_refl _)) (ints_new u l) (by omega)).mono fun x w' ⟨h1, h2⟩ => ⟨by rw [h1, decide_eq_true rfl], below_at hb h2⟩
  have S1 := Lib.hid (hS [1] A1 c1 (by simp) HR1.out)
  have S2 := Lib.hid (hS [0, 0, 1, 1] A2 c2 (by simp) HR2.out)
  have S3 := Lib.hid (hS [0, 0] A3 c3 (by simp) HR3.out)
  have hW : ∀ u, Below w6.heap.size w6 u → Calls Tryz.prog 27 #[.slice A2 4 c2] u fun x w' => x = .returned (.int .i64 1) ∧ Below u.heap.size u w' := fun u hu => by
    have := switches_any u A2 c2 [0, 0, 1, 1] (HR2.out.below hu (Nat.le_refl _)) (by simp)
    rw [Aw20.s1] at this
    exact this
  have hH : ∀ u, Below w6.heap.size w6 u → Calls Tryz.prog 25 #[.slice A1 1 c1, .slice A3 2 c3] u fun x w' => x = .returned (.bool true) ∧ Below u.heap.size u w' := fun u hu =>
    ahead_any u A1 c1 [1] A3 c3 [0, 0] (HR1.out.below hu (Nat.le_refl _)) (HR3.out.below hu (Nat.le_refl _)) (by simp) (by simp)
  have hI : ∀ u, Below w6.heap.size w6 u → Calls Tryz.prog 25 #[.slice A3 2 c3, .slice A3 2 c3] u fun x w' => x = .returned (.bool false) ∧ Below u.heap.size u w' := fun u hu =>
    ahead_any u A3 c3 [0, 0] A3 c3 [0, 0] (HR3.out.below hu (Nat.le_refl _)) (HR3.out.below hu (Nat.le_refl _)) (by simp) (by simp)
  have S4 := Lib.hid hW
  have S5 := Lib.hid hH
  have S6 := Lib.hid hI
  clear x0 x1 x2 xl b6 HA HB HC HD HE HF HX HB1 HB2 HB3 HB4 HB5 hS hW hH hI HR1 HR2 HR3
  go_wp2_with fail
  refine (S1.out w6 (Below.refl _ _)).mono ?_
  rintro y v1 ⟨rfl, b1⟩
  have K1 := Lib.hid b1
  clear b1 S1
  go_wp2_with fail
  refine (S2.out v1 K1.out).mono ?_
  rintro y v2 ⟨rfl, b2⟩
  have K2 := Lib.hid (below_at K1.out b2)
  clear b2 S2
  go_wp2_with fail
  refine (S3.out v2 K2.out).mono ?_
  rintro y v3 ⟨rfl, b3⟩
  have K3 := Lib.hid (below_at K2.out b3)
  clear b3 S3
  go_wp2_with fail
  refine (S4.out v3 K3.out).mono ?_
  rintro y v4 ⟨rfl, b4⟩
  have K4 := Lib.hid (below_at K3.out b4)
  clear b4 S4
  go_wp2_with fail
  refine (S5.out v4 K4.out).mono ?_
  rintro y v5 ⟨rfl, b5⟩
  have K5 := Lib.hid (below_at K4.out b5)
  clear b5 S5
  go_wp2_with fail
  refine (S6.out v5 K5.out).mono ?_
  rintro y v6 ⟨rfl, b6⟩
  have K6 := Lib.hid (below_at K5.out b6)
  clear b6 S6
  go_wp2_with fail
  go_ret
  exact ⟨rfl, below_at HBW.out (below_at HB6.out K6.out)⟩
end Go.Proofs.YtckdofjpoajblaaGreat
namespace Go.Proofs.YtckdofjpoajblaaGreat
open Go.RowKit
set_option linter.unusedVariables false
open Go.ChangeShapes Go.WideShapes Go.ChangeAt
set_option maxRecDepth 100000 in
theorem int_readW {H : Type} {enc : TypeId × Value → H} {w : World} {base : Nat} {spare : Nat → Bool} {held : Bool} (fuel : Nat) (cs : List Value) (y : DataW H × List MemPlace) (hl : cs.length = 1)
    (h : DataW.trod enc Tryz.prog w base spare held fuel 3 cs = some y) : ∃ x : Int, cs = [iv x] ∧ (Lit.int .i64 x).wf = true := tr_int Tryz.underlying3 h
theorem flat_ivW (xs : List Int) : xs.flatMap (fun s => [iv s]) = xs.map iv := by induction xs <;> simp_all
set_option maxRecDepth 100000 in
/-- a row of numbers, handed in as an argument -/
theorem ints_arg {H : Type} {enc : TypeId × Value → H} {W : World} {base : Nat} {v : Value} {d : DataW H} {q : List MemPlace}
    (o : Value.okWide Tryz.prog W .any base 32 v) (h : DataW.Trod enc Tryz.prog W 0 (fun _ => true) true 32 v d q) : ∃ (row : List Int) (A : Option Addr) (cap : Nat), v = .slice A row.length cap ∧ Rd W 1 A row.length (row.map iv) ∧ row.length ≤ maxLen ∧ ∀ x ∈ row, (Lit.int .i64 x).wf = true := by
  obtain ⟨f2, hf2⟩ := h
  obtain ⟨A, len2, cap2, rfl⟩ := okWide_slice Tryz.underlying32 o
  obtain ⟨ss, hl, hg, hr2, h5, h6⟩ := tr_list (f := fun (s : Int) => [iv s]) (sz := 1) (by omega) Tryz.underlying32 (by kernel_rfl) int_readW (by simpa [Value.cells] using hf2)
  subst hl
  exact ⟨ss, A, cap2, rfl, flat_ivW ss ▸ hr2, Nat.le_trans h5 h6, hg⟩
end Go.Proofs.YtckdofjpoajblaaGreat
namespace Go.Proofs.YtckdofjpoajblaaGreat
open Go.RowKit
set_option linter.unusedVariables false
theorem trod_size {H : Type} {enc : TypeId × Value → H} {P : Program} {w : World} {base fuel : Nat} {spare : Nat → Bool} {held : Bool} {t e : TypeId} {A : Option Addr} {n cap : Nat} {y : DataW H × List MemPlace}
    (ht : P.underlying t = some (.slice e)) (h : DataW.trod enc P w base spare held fuel t [.slice A n cap] = some y) (hz : (y.1.weights P t).all (· ≤ reachBytes) = true) : n * P.bytesOf e ≤ 140737488351232 := by
  cases fuel with
  | zero => simp [DataW.trod] at h
  | succ fuel =>
    unfold DataW.trod at h
    rw [ht] at h
    cases A with
    | none =>
      cases n with
      | succ n => simp at h
      | zero => simp
    | some a =>
      simp only at h
      split at h
      · rw [Option.bind_eq_some_iff] at h
        obtain ⟨elems, hm, h⟩ := h
        have hl := (mapM_get hm).1
        rw [List.length_range] at hl
        obtain ⟨rest, hr, h⟩ := Option.map_eq_some_iff.1 h
        subst h
        simp only [DataW.weights, ht, List.all_cons, Bool.and_eq_true, decide_eq_true_eq, List.length_map] at hz
        have h1 := hz.1
        rw [hl] at h1
        have h2 : n * P.bytesOf e ≤ (n + rest.length) * P.bytesOf e := Nat.mul_le_mul_right _ (Nat.le_add_right _ _)
        unfold reachBytes at h1
        omega
      · cases h
theorem weights_split {H : Type} {P : Program} {t : TypeId} {ts : List TypeId} {d : DataW H} {ds : List (DataW H)} (h : (DataW.weightsEach P (t :: ts) (d :: ds)).all (· ≤ reachBytes) = true) : (d.weights P t).all (· ≤ reachBytes) = true ∧ (DataW.weightsEach P ts ds).all (· ≤ reachBytes) = true := by
  rw [DataW.weightsEach, List.all_append, Bool.and_eq_true] at h
  exact h
open Go.ChangeShapes Go.WideShapes Go.ChangeAt in
theorem ints_size {H : Type} {enc : TypeId × Value → H} {W : World} {A : Option Addr} {n cap : Nat} {d : DataW H} {q : List MemPlace} (h : DataW.Trod enc Tryz.prog W 0 (fun _ => true) true 32 (.slice A n cap) d q) (hz : (d.weights Tryz.prog 32).all (· ≤ reachBytes) = true) : n ≤ 17592186043904 := by
  obtain ⟨f2, hf2⟩ := h
  have h1 := trod_size Tryz.underlying32 (by simpa [Value.cells] using hf2) hz
  have h2 : Tryz.prog.bytesOf 3 = 8 := by kernel_rfl
  rw [h2] at h1
  omega
end Go.Proofs.YtckdofjpoajblaaGreat
