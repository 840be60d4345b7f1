/- Part 13 of the proof of leastAny_holds: what it rests on. -/
import Derived.Test.YtckdofjpoajblaaGreatZq12
namespace Go.Proofs.YtckdofjpoajblaaGreat
open Go.RowKit
set_option linter.unusedVariables false
theorem rd_toC {w : World} {sz : Nat} {A : Option Addr} {n : Nat} {cs : List Value} (h : Rd w sz A n cs) : RdC w (fun k => k < w.heap.size) sz A n cs :=
  ⟨h.1, fun h0 => by obtain ⟨g, o, hA, hg, hc⟩ := h.2 h0; exact ⟨g, o, hA, hg, hg, hc⟩⟩
theorem pgin_two (w : World) (v m : Int) (q1 q2 : List Ins) (A1 A2 : Option Addr) (c1 c2 : Nat) (r1 : Rd w 4 A1 q1.length (q1.flatMap encI)) (r2 : Rd w 4 A2 q2.length (q2.flatMap encI)) (h1 : q1.length ≤ c1) (h2 : q2.length ≤ c2) (m1 : c1 ≤ maxLen) (m2 : c2 ≤ maxLen) :
    PgIn (w.alloc (Obj.cells #[.slice A1 q1.length c1, .slice A2 q2.length c2] 67)) ⟨v, m, [q1, q2]⟩ (some ⟨w.heap.size, 0, none⟩) := by
  have hb : Below w.heap.size w (w.alloc (Obj.cells #[.slice A1 q1.length c1, .slice A2 q2.length c2] 67)) := (Below.refl _ _).alloc (Nat.le_refl _) _
  have hk := heap_alloc_new w (Obj.cells #[.slice A1 q1.length c1, .slice A2 q2.length c2] 67)
  have e1 := rd_toC (r1.below hb (Nat.le_refl _))
  have e2 := rd_toC (r2.below hb (Nat.le_refl _))
  refine ⟨⟨[.slice A1 q1.length c1, .slice A2 q2.length c2], ⟨rfl, fun _ => ⟨_, 0, rfl, blk_lt hk, blk_lt hk, fun j hj => ?_⟩⟩, fun i q hi => ?_⟩, by simp [maxLen], fun q hq => ?_⟩
  · rw [cell_blk hk]
    rcases (show j = 0 ∨ j = 1 by simp at hj; omega) with rfl | rfl <;> rfl
  · match i, hi with
    | 0, hi => simp at hi; subst hi; exact ⟨A1, c1, rfl, e1, h1, m1⟩
    | 1, hi => simp at hi; subst hi; exact ⟨A2, c2, rfl, e2, h2, m2⟩
    | n + 2, hi => simp at hi
  · simp at hq
    rcases hq with rfl | rfl
    · exact Nat.le_trans h1 m1
    · exact Nat.le_trans h2 m2
end Go.Proofs.YtckdofjpoajblaaGreat
namespace Go.Proofs.YtckdofjpoajblaaGreat
open Go.RowKit
set_option linter.unusedVariables false
namespace Aw20
def q1 : List Ins := [⟨3, 0, 0, 3⟩, ⟨2, 0, 0, 0⟩]
def q2 : List Ins := [⟨8, 0, 0, 0⟩, ⟨5, 0, 0, 0⟩, ⟨5, 0, 0, 0⟩]
def p : Pg := ⟨1, 1, [q1, q2]⟩
theorem e1 : (Pr.all6 p 8 500).2 = 0 := by kernel_rfl
theorem e2 : (Pr.all6 p 8 2).2 = 5 := by kernel_rfl
theorem a1 : Pr.wayOf (Pr.leastR Pr.isFail p 8 500) = [1] := by kernel_rfl
theorem a2 : (Pr.leastR Pr.isFail p 8 500).isSome = true := by kernel_rfl
theorem b1 : Pr.wayOf (Pr.leastR Pr.isWait p 8 500) = [0, 0, 1, 1] := by kernel_rfl
theorem b2 : (Pr.leastR Pr.isWait p 8 500).isSome = true := by kernel_rfl
theorem c0 : Pr.reachE p 8 500 0 = 0 := by kernel_rfl
theorem c1 : Pr.wayOf (Pr.reachR p 8 500 0 3) = [0, 0] := by kernel_rfl
theorem c2 : (Pr.reachR p 8 500 0 3).isSome = true := by kernel_rfl
theorem d1 : (Pr.reachR p 8 500 0 4).isSome = false := by kernel_rfl
theorem i0 : Pr.reachE p 8 500 1 = 2 := by kernel_rfl
theorem s1 : Pr.sw [0, 0, 1, 1] = 1 := by kernel_rfl
end Aw20
def O1 : Obj := .cells #[.int .i64 3, .int .i64 0, .int .i64 0, .int .i64 3, .int .i64 2, .int .i64 0, .int .i64 0, .int .i64 0] 98
def O2 : Obj := .cells #[.int .i64 8, .int .i64 0, .int .i64 0, .int .i64 0, .int .i64 5, .int .i64 0, .int .i64 0, .int .i64 0, .int .i64 5, .int .i64 0, .int .i64 0, .int .i64 0] 98
theorem pg20 (w : World) : PgIn (((w.alloc O1).alloc O2).alloc (.cells #[.slice (some ⟨w.heap.size, 0, none⟩) 2 2, .slice (some ⟨w.heap.size + 1, 0, none⟩) 3 3] 67)) Aw20.p (some ⟨w.heap.size + 2, 0, none⟩) := by
  have h1 := heap_alloc_new w O1
  have h2 := heap_alloc_new (w.alloc O1) O2
  have hb : Below (w.alloc O1).heap.size (w.alloc O1) ((w.alloc O1).alloc O2) := (Below.refl _ _).alloc (Nat.le_refl _) _
  have h1' := (hb.block _ (blk_lt h1)).trans h1
  have r1 : Rd ((w.alloc O1).alloc O2) 4 (some ⟨w.heap.size, 0, none⟩) Aw20.q1.length (Aw20.q1.flatMap encI) := ⟨rfl, fun _ => ⟨_, 0, rfl, blk_lt h1', fun j hj => by
    rw [cell_blk h1']
    rcases (show j = 0 ∨ j = 1 ∨ j = 2 ∨ j = 3 ∨ j = 4 ∨ j = 5 ∨ j = 6 ∨ j = 7 by simp [Aw20.q1] at hj; omega) with rfl | rfl | rfl | rfl | rfl | rfl | rfl | rfl <;> rfl⟩⟩
  have r2 : Rd ((w.alloc O1).alloc O2) 4 (some ⟨w.heap.size + 1, 0, none⟩) Aw20.q2.length (Aw20.q2.flatMap encI) := ⟨rfl, fun _ => ⟨_, 0, rfl, by simp, fun j hj => by
    have e : (w.alloc O1).heap.size = w.heap.size + 1 := by simp
    rw [← e, cell_blk h2]
    rcases (show j = 0 ∨ j = 1 ∨ j = 2 ∨ j = 3 ∨ j = 4 ∨ j = 5 ∨ j = 6 ∨ j = 7 ∨ j = 8 ∨ j = 9 ∨ j = 10 ∨ j = 11 by simp [Aw20.q2] at hj; omega) with rfl | rfl | rfl | rfl | rfl | rfl | rfl | rfl | rfl | rfl | rfl | rfl <;> rfl⟩⟩
  have := pgin_two ((w.alloc O1).alloc O2) 1 1 Aw20.q1 Aw20.q2 _ _ 2 3 r1 r2 (Nat.le_refl _) (Nat.le_refl _) (by simp [maxLen]) (by simp [maxLen])
  have e : ((w.alloc O1).alloc O2).heap.size = w.heap.size + 2 := by simp
  rw [e] at this
  exact this
theorem box20 (w : World) : ∃ W X A, W = (((w.alloc O1).alloc O2).alloc (.cells #[.slice (some ⟨w.heap.size, 0, none⟩) 2 2, .slice (some ⟨w.heap.size + 1, 0, none⟩) 3 3] 67)).alloc (.cells #[.int .i64 1, .int .i64 1, .slice (some ⟨w.heap.size + 2, 0, none⟩) 2 2] 24) ∧ X = w.heap.size + 3 ∧ A = some ⟨w.heap.size + 2, 0, none⟩ ∧
    Below w.heap.size w W ∧ ∀ u, Below W.heap.size W u → PgIn u Aw20.p A ∧ u.cell? ⟨X, 0, none⟩ = some (.int .i64 1) ∧ u.cell? ⟨X, 1, none⟩ = some (.int .i64 1) ∧ u.cell? ⟨X, 2, none⟩ = some (.slice A 2 2) ∧ X < u.heap.size := by
  refine ⟨_, _, _, rfl, rfl, rfl, ?_, fun u hu => ?_⟩
  · refine ((((Below.refl _ _).alloc ?_ _).alloc ?_ _).alloc ?_ _).alloc ?_ _ <;> simp <;> omega
  · obtain ⟨V, hV⟩ : ∃ V, V = (((w.alloc O1).alloc O2).alloc (.cells #[.slice (some ⟨w.heap.size, 0, none⟩) 2 2, .slice (some ⟨w.heap.size + 1, 0, none⟩) 3 3] 67)) := ⟨_, rfl⟩
    have hp := pg20 w
    rw [← hV] at hp hu
    have hVs : V.heap.size = w.heap.size + 3 := by rw [hV]; simp
    have hk := heap_alloc_new V (.cells #[.int .i64 1, .int .i64 1, .slice (some ⟨w.heap.size + 2, 0, none⟩) 2 2] 24)
    rw [hVs] at hk
    have hb : Below V.heap.size V (V.alloc (.cells #[.int .i64 1, .int .i64 1, .slice (some ⟨w.heap.size + 2, 0, none⟩) 2 2] 24)) := (Below.refl _ _).alloc (Nat.le_refl _) _
    have hk' := (hu.block _ (blk_lt hk)).trans hk
    exact ⟨hp.below (below_at hb hu), by rw [cell_blk hk']; rfl, by rw [cell_blk hk']; rfl, by rw [cell_blk hk']; rfl, blk_lt hk'⟩
theorem ints_new (w : World) (l : List Int) : Rd (w.alloc (.cells (l.map iv).toArray 3)) 1 (some ⟨w.heap.size, 0, none⟩) l.length (l.map iv) := by
  have hk := heap_alloc_new w (.cells (l.map iv).toArray 3)
  refine ⟨by simp, fun _ => ⟨_, 0, rfl, blk_lt hk, fun j hj => ?_⟩⟩
  rw [cell_blk hk]
  simp
set_option maxRecDepth 100000 in
set_option maxHeartbeats 4000000 in
theorem awake20 (w : World) : Calls Tryz.prog 17 #[] w fun x w' => x = .returned (.bool true) ∧ Below w.heap.size w w' := by
  obtain ⟨W, X, A, hW, hX, hA, hB, hWA⟩ := box20 w
  have hcA : ∀ u, Below W.heap.size W u → Calls Tryz.prog 20 #[.agg #[.int .i64 1, .int .i64 1, .slice A 2 2], .int .i64 8, .int .i64 500] u fun x w' => ∃ A' c, x = .returned (.tuple #[.slice A' 1 c, .bool true, .int .i64 0]) ∧ Rd w' 1 A' 1 (([1] : List Int).map iv) ∧ Below u.heap.size u w' := fun u hu => by
    have := failing_any u Aw20.p A 2 8 500 (hWA u hu).1 (by omega)
    unfold LeastOut at this
    rw [Aw20.e1, Aw20.a1, Aw20.a2] at this
    exact this
  have hcB : ∀ u, Below W.heap.size W u → Calls Tryz.prog 21 #[.agg #[.int .i64 1, .int .i64 1, .slice A 2 2], .int .i64 8, .int .i64 500] u fun x w' => ∃ A' c, x = .returned (.tuple #[.slice A' 4 c, .bool true, .int .i64 0]) ∧ Rd w' 1 A' 4 (([0, 0, 1, 1] : List Int).map iv) ∧ Below u.heap.size u w' := fun u hu => by
    have := waiting_any u Aw20.p A 2 8 500 (hWA u hu).1 (by omega)
    unfold LeastOut at this
    rw [Aw20.e1, Aw20.b1, Aw20.b2] at this
    exact this
  have hcC : ∀ u, Below W.heap.size W u → Calls Tryz.prog 22 #[.agg #[.int .i64 1, .int .i64 1, .slice A 2 2], .int .i64 8, .int .i64 500, .int .i64 0, .int .i64 3] u fun x w' => ∃ A' c, x = .returned (.tuple #[.slice A' 2 c, .bool true, .int .i64 0]) ∧ Rd w' 1 A' 2 (([0, 0] : List Int).map iv) ∧ Below u.heap.size u w' := fun u hu => by
    have := reaching_any u Aw20.p A 2 8 500 0 3 (hWA u hu).1 (by omega)
    unfold LeastOut at this
    rw [Aw20.c0, Aw20.c1, Aw20.c2] at this
    exact this
  have hcD : ∀ u, Below W.heap.size W u → Calls Tryz.prog 22 #[.agg #[.int .i64 1, .int .i64 1, .slice A 2 2], .int .i64 8, .int .i64 500, .int .i64 0, .int .i64 4] u fun x w' => (∃ A' n c, x = .returned (.tuple #[.slice A' n c, .bool false, .int .i64 0])) ∧ Below u.heap.size u w' := fun u hu => by
    have := reaching_any u Aw20.p A 2 8 500 0 4 (hWA u hu).1 (by omega)
    unfold LeastOut at this
    rw [Aw20.c0, Aw20.d1] at this
    exact this.mono fun x w' ⟨A', c, h1, _, h3⟩ => ⟨⟨A', _, c, h1⟩, h3⟩
  have hcE : ∀ u, Below W.heap.size W u → Calls Tryz.prog 22 #[.agg #[.int .i64 1, .int .i64 1, .slice A 2 2], .int .i64 8, .int .i64 500, .int .i64 1, .int .i64 3] u fun x w' => (∃ A' n c b, x = .returned (.tuple #[.slice A' n c, .bool b, .int .i64 2])) ∧ Below u.heap.size u w' := fun u hu => by
    have := reaching_any u Aw20.p A 2 8 500 1 3 (hWA u hu).1 (by omega)
    unfold LeastOut at this
    rw [Aw20.i0] at this
    exact this.mono fun x w' ⟨A', c, h1, _, h3⟩ => ⟨⟨A', _, c, _, h1⟩, h3⟩
  have hcF : ∀ u, Below W.heap.size W u → Calls Tryz.prog 20 #[.agg #[.int .i64 1, .int .i64 1, .slice A 2 2], .int .i64 8, .int .i64 2] u fun x w' => (∃ A' n c b, x = .returned (.tuple #[.slice A' n c, .bool b, .int .i64 5])) ∧ Below u.heap.size u w' := fun u hu => by
    have := failing_any u Aw20.p A 2 8 2 (hWA u hu).1 (by omega)
    unfold LeastOut at this
    rw [Aw20.e2] at this
    exact this.mono fun x w' ⟨A', c, h1, _, h3⟩ => ⟨⟨A', _, c, _, h1⟩, h3⟩
  have HA := Lib.hid hcA
  have HB := Lib.hid hcB
  have HC := Lib.hid hcC
  have HD := Lib.hid hcD
  have HE := Lib.hid hcE
  have HF := Lib.hid hcF
  have HX := Lib.hid (fun u hu => (hWA u hu).2)
  have HBW := Lib.hid hB
  skip
  clear hcA hcB hcC hcD hcE hcF hWA hB hA
  go_enter Tryz.func17, Tryz.ntmps17
  go_upto_region 3 with fail
  simp only [World.size_alloc, Nat.add_assoc, Nat.reduceAdd]
  rw [show (Obj.cells #[Value.int IntKind.i64 3, Value.int IntKind.i64 0, Value.int IntKind.i64 0, Value.int IntKind.i64 3, Value.int IntKind.i64 2, Value.int IntKind.i64 0, Value.int IntKind.i64 0, Value.int IntKind.i64 0] 98) = O1 from rfl, show (Obj.cells #[.int .i64 8, .int .i64 0, .int .i64 0, .int .i64 0, .int .i64 5, .int .i64 0, .int .i64 0, .int .i64 0, .int .i64 5, .int .i64 0, .int .i64 0, .int .i64 0] 98) = O2 from rfl]
  rw [← hW, ← hX]
  clear hW hX
  obtain ⟨x0, x1, x2, xl⟩ := HX.out W (Below.refl _ _)
  go_wp2_with fail
  refine (HA.out W (Below.refl _ _)).mono ?_
  rintro y w1 ⟨A1, c1, rfl, r1, b1⟩
  have HR1 := Lib.hid r1
  have HB1 := Lib.hid b1
  clear x0 x1 x2 xl r1 b1
  obtain ⟨x0, x1, x2, xl⟩ := HX.out w1 HB1.out
  go_wp2_with fail
  refine (HB.out w1 HB1.out).mono ?_
  rintro y w2 ⟨A2, c2, rfl, r2, b2⟩
  have HR2 := Lib.hid r2
  have HR1 := Lib.hid (HR1.out.below b2 (Nat.le_refl _))
  have HB2 := Lib.hid (below_at HB1.out b2)
  clear x0 x1 x2 xl r2 b2
  obtain ⟨x0, x1, x2, xl⟩ := HX.out w2 HB2.out
  go_wp2_with fail
  refine (HC.out w2 HB2.out).mono ?_
  rintro y w3 ⟨A3, c3, rfl, r3, b3⟩
  have HR3 := Lib.hid r3
  have HR1 := Lib.hid (HR1.out.below b3 (Nat.le_refl _))
  have HR2 := Lib.hid (HR2.out.below b3 (Nat.le_refl _))
  have HB3 := Lib.hid (below_at HB2.out b3)
  clear x0 x1 x2 xl r3 b3
  obtain ⟨x0, x1, x2, xl⟩ := HX.out w3 HB3.out
  go_wp2_with fail
  refine (HD.out w3 HB3.out).mono ?_
  rintro y w4 ⟨⟨A4, n4, c4, rfl⟩, b4⟩
  have HR1 := Lib.hid (HR1.out.below b4 (Nat.le_refl _))
  have HR2 := Lib.hid (HR2.out.below b4 (Nat.le_refl _))
  have HR3 := Lib.hid (HR3.out.below b4 (Nat.le_refl _))
  have HB4 := Lib.hid (below_at HB3.out b4)
  clear x0 x1 x2 xl b4
  obtain ⟨x0, x1, x2, xl⟩ := HX.out w4 HB4.out
  go_wp2_with fail
  refine (HE.out w4 HB4.out).mono ?_
  rintro y w5 ⟨⟨A5, n5, c5, t5, rfl⟩, b5⟩
  have HR1 := Lib.hid (HR1.out.below b5 (Nat.le_refl _))
  have HR2 := Lib.hid (HR2.out.below b5 (Nat.le_refl _))
  have HR3 := Lib.hid (HR3.out.below b5 (Nat.le_refl _))
  have HB5 := Lib.hid (below_at HB4.out b5)
  clear x0 x1 x2 xl b5
  obtain ⟨x0, x1, x2, xl⟩ := HX.out w5 HB5.out
  go_wp2_with fail
  refine (HF.out w5 HB5.out).mono ?_
  rintro y w6 ⟨⟨A6, n6, c6, t6, rfl⟩, b6⟩
  have HR1 := Lib.hid (HR1.out.below b6 (Nat.le_refl _))
  have HR2 := Lib.hid (HR2.out.below b6 (Nat.le_refl _))
  have HR3 := Lib.hid (HR3.out.below b6 (Nat.le_refl _))
  have HB6 := Lib.hid (below_at HB5.out b6)
  have hS : ∀ (l : List Int) (A' : Option Addr) (c : Nat), l.length < 1000 → Rd w6 1 A' l.length (l.map iv) → ∀ u, Below w6.heap.size w6 u → Calls Tryz.prog 24 #[.slice A' l.length c, .slice (some ⟨u.heap.size, 0, none⟩) l.length l.length] (u.alloc (.cells (l.map iv).toArray 3)) fun x w' => x = .returned (.bool true) ∧ Below u.heap.size u w' := fun l A' c hl hr u hu => by
    have hb : Below u.heap.size u (u.alloc (.cells (l.map iv).toArray 3)) := (Below.refl _ _).alloc (Nat.le_refl _) _
    refine (sameInts_any (u.alloc (.cells (l.map iv).toArray 3)) A' c l _ l.length l (hr.below (below_at hu hb) (Nat.le_refl _)) (ints_new u l) (by omega)).mono fun x w' ⟨h1, h2⟩ => ⟨by rw [h1, decide_eq_true rfl], below_at hb h2⟩
  have S1 := Lib.hid (hS [1] A1 c1 (by simp) HR1.out)
  have S2 := Lib.hid (hS [0, 0, 1, 1] A2 c2 (by simp) HR2.out)
  have S3 := Lib.hid (hS [0, 0] A3 c3 (by simp) HR3.out)
  have hW : ∀ u, Below w6.heap.size w6 u → Calls Tryz.prog 27 #[.slice A2 4 c2] u fun x w' => x = .returned (.int .i64 1) ∧ Below u.heap.size u w' := fun u hu => by
    have := switches_any u A2 c2 [0, 0, 1, 1] (HR2.out.below hu (Nat.le_refl _)) (by simp)
    rw [Aw20.s1] at this
    exact this
  have hH : ∀ u, Below w6.heap.size w6 u → Calls Tryz.prog 25 #[.slice A1 1 c1, .slice A3 2 c3] u fun x w' => x = .returned (.bool true) ∧ Below u.heap.size u w' := fun u hu =>
    ahead_any u A1 c1 [1] A3 c3 [0, 0] (HR1.out.below hu (Nat.le_refl _)) (HR3.out.below hu (Nat.le_refl _)) (by simp) (by simp)
  have hI : ∀ u, Below w6.heap.size w6 u → Calls Tryz.prog 25 #[.slice A3 2 c3, .slice A3 2 c3] u fun x w' => x = .returned (.bool false) ∧ Below u.heap.size u w' := fun u hu =>
    ahead_any u A3 c3 [0, 0] A3 c3 [0, 0] (HR3.out.below hu (Nat.le_refl _)) (HR3.out.below hu (Nat.le_refl _)) (by simp) (by simp)
  have S4 := Lib.hid hW
  have S5 := Lib.hid hH
  have S6 := Lib.hid hI
  clear x0 x1 x2 xl b6 HA HB HC HD HE HF HX HB1 HB2 HB3 HB4 HB5 hS hW hH hI HR1 HR2 HR3
  go_wp2_with fail
  refine (S1.out w6 (Below.refl _ _)).mono ?_
  rintro y v1 ⟨rfl, b1⟩
  have K1 := Lib.hid b1
  clear b1 S1
  go_wp2_with fail
  refine (S2.out v1 K1.out).mono ?_
  rintro y v2 ⟨rfl, b2⟩
  have K2 := Lib.hid (below_at K1.out b2)
  clear b2 S2
  go_wp2_with fail
  refine (S3.out v2 K2.out).mono ?_
  rintro y v3 ⟨rfl, b3⟩
  have K3 := Lib.hid (below_at K2.out b3)
  clear b3 S3
  go_wp2_with fail
  refine (S4.out v3 K3.out).mono ?_
  rintro y v4 ⟨rfl, b4⟩
  have K4 := Lib.hid (below_at K3.out b4)
  clear b4 S4
  go_wp2_with fail
  refine (S5.out v4 K4.out).mono ?_
  rintro y v5 ⟨rfl, b5⟩
  have K5 := Lib.hid (below_at K4.out b5)
  clear b5 S5
  go_wp2_with fail
  refine (S6.out v5 K5.out).mono ?_
  rintro y v6 ⟨rfl, b6⟩
  have K6 := Lib.hid (below_at K5.out b6)
  clear b6 S6
  go_wp2_with fail
  go_ret
  exact ⟨rfl, below_at HBW.out (below_at HB6.out K6.out)⟩
end Go.Proofs.YtckdofjpoajblaaGreat
namespace Go.Proofs.YtckdofjpoajblaaGreat
set_option linter.unusedVariables false
namespace Pr
def sumOf (L : List (St × List Ev)) : Sm := L.foldl (fun a z => at6 z.1 z.2 a) sm0
theorem small_spec {p : Pg} {f : Int} (h : small p f = true) : ∃ m : Nat, f = m ∧ m ≤ 8 ∧ Ok p ∧ few p = true ∧ cnt 32 (start p m) ≤ 600 ∧ all6 p f 600 = ((cnt 32 (start p m), sumOf (ends 32 (start p m) [])), 0) := by
  unfold small at h
  simp only [Bool.and_eq_true, decide_eq_true_eq, beq_iff_eq] at h
  obtain ⟨⟨⟨h1, h2⟩, h3⟩, h4⟩ := h
  obtain ⟨m, rfl⟩ : ∃ m : Nat, f = m := ⟨f.toNat, by omega⟩
  refine ⟨m, rfl, by omega, h2, h1, ?_⟩
  have hm : may p m := ⟨h2, h3.1, h3.2⟩
  unfold all6 at h4 ⊢
  rw [if_pos hm, Int.toNat_natCast] at h4 ⊢
  by_cases hc : 0 + cnt 32 (start p m) ≤ 600
  · refine ⟨by omega, ?_⟩
    rw [over_eq at6 600 32 (start p m) [] (0, sm0) hc]
    simp only [Nat.zero_add]
    rw [if_neg (by omega)]
    rfl
  · have := over_full at6 600 32 (start p m) [] (0, sm0) (by simp only; omega)
    simp only at h4
    rw [if_pos this] at h4
    cases h4
end Pr
end Go.Proofs.YtckdofjpoajblaaGreat
namespace Go.Proofs.YtckdofjpoajblaaGreat
open Go.RowKit
set_option linter.unusedVariables false
open Go.ChangeShapes Go.WideShapes Go.ChangeAt
set_option maxRecDepth 100000 in
/-- a program, handed in as an argument -/
theorem prog_arg {H : Type} {enc : TypeId × Value → H} {W : World} {base : Nat} {v : Value} {d : DataW H} {q : List MemPlace}
    (o : Value.okWide Tryz.prog W .any base 24 v) (h : DataW.Trod enc Tryz.prog W 0 (fun _ => true) true 24 v d q) : ∃ (p : Pg) (A : Option Addr) (cap : Nat), v = valP p A cap ∧ PgIn W p A := by
  obtain ⟨cs, rfl, hsz⟩ := okWide_struct Tryz.underlying24 o
  obtain ⟨fuel, hf⟩ := h
  obtain ⟨p, A, cap, hcs, hcd, h1, h2, h3, _⟩ := prog_read fuel cs.toList _ (by simpa [Value.cells] using hf)
  obtain rfl : cs = #[.int .i64 p.vars, .int .i64 p.mtx, .slice A p.code.length cap] := by
    apply Array.ext'
    simpa using hcs
  exact ⟨p, A, cap, rfl, hcd, Nat.le_trans h1 h2, h3⟩
end Go.Proofs.YtckdofjpoajblaaGreat
namespace Go.Proofs.YtckdofjpoajblaaGreat
open Go.RowKit
set_option linter.unusedVariables false
theorem u8_cellW {w : World} {B : Nat} {A : Option Addr} {ts : List Nat} (h : RdB w B 1 A ts.length (ts.map (fun (t : Nat) => Value.int .u8 (t : Int)))) : ∀ (k : Nat) (s : Nat), ts[k]? = some s → ∃ g o, A = some ⟨g, o, none⟩ ∧ g < B ∧ ∀ u, Below B w u → u.cell? ⟨g, o + k, none⟩ = some (.int .u8 (s : Int)) := fun k s hs => by
  obtain ⟨hk, rfl⟩ := List.getElem?_eq_some_iff.1 hs
  obtain ⟨g, o, hA, hg, hc⟩ := h.2 (by omega)
  refine ⟨g, o, hA, hg, fun u hu => ?_⟩
  rw [World.cell?_of_block (hu.block g hg), hc k (by omega), List.getElem?_map, List.getElem?_eq_getElem hk]
  rfl
open Go.ChangeShapes Go.WideShapes Go.ChangeAt
set_option maxRecDepth 100000 in
theorem u8_readW {H : Type} {enc : TypeId × Value → H} {w : World} {base : Nat} {spare : Nat → Bool} {held : Bool} (fuel : Nat) (cs : List Value) (y : DataW H × List MemPlace) (hl : cs.length = 1)
    (h : DataW.trod enc Tryz.prog w base spare held fuel 5 cs = some y) : ∃ x : Nat, cs = [.int .u8 x] ∧ x ≤ 255 := by
  obtain ⟨p, e, w⟩ := tr_int Tryz.underlying5 h
  obtain ⟨m, rfl, h⟩ := u8_bounds w
  exact ⟨m, e, h⟩
theorem flat_u8sW (xs : List Nat) : xs.flatMap (fun (s : Nat) => [Value.int .u8 (s : Int)]) = xs.map (fun (t : Nat) => Value.int .u8 (t : Int)) := by induction xs <;> simp_all
set_option maxRecDepth 100000 in
/-- a row of bytes, handed in as an argument -/
theorem u8s_arg {H : Type} {enc : TypeId × Value → H} {W : World} {base : Nat} {v : Value} {d : DataW H} {q : List MemPlace}
    (o : Value.okWide Tryz.prog W .any base 43 v) (h : DataW.Trod enc Tryz.prog W 0 (fun _ => true) true 43 v d q) : ∃ (ts : List Nat) (A : Option Addr) (cap : Nat), v = .slice A ts.length cap ∧ Rd W 1 A ts.length (ts.map (fun (t : Nat) => Value.int .u8 (t : Int))) ∧ ts.length ≤ maxLen ∧ ∀ t ∈ ts, t ≤ 255 := by
  obtain ⟨f2, hf2⟩ := h
  obtain ⟨C, len2, cap2, rfl⟩ := okWide_slice Tryz.underlying43 o
  obtain ⟨ss, hl, hg, hr2, h5, h6⟩ := tr_list (f := fun (s : Nat) => [Value.int .u8 (s : Int)]) (sz := 1) (by omega) Tryz.underlying43 (by kernel_rfl) u8_readW (by simpa [Value.cells] using hf2)
  subst hl
  exact ⟨ss, C, cap2, rfl, flat_u8sW ss ▸ hr2, Nat.le_trans h5 h6, hg⟩
end Go.Proofs.YtckdofjpoajblaaGreat
namespace Go.Proofs.YtckdofjpoajblaaGreat
open Go.RowKit
set_option linter.unusedVariables false
namespace Pr
theorem Reach.trans {a b c : Nd} (h : Reach a b) (k : Reach b c) : Reach a c := by
  induction h with
  | refl => exact k
  | step h1 _ ih => exact .step h1 (ih k)
theorem Reach.kid {d c : Nd} {t : Nat} (h : Reach d c) (ht : enabled c.s t = true) : Reach d (kidN c t) := h.trans (.step (List.mem_map.2 ⟨t, all_iff.2 ht, rfl⟩) (.refl _))
theorem reach_run {s : St} {d : Nd} (h : Reach (node0 s) d) : ∃ l, run s d.w = .ok (d.s, l) := by
  have key : ∀ {a b : Nd}, Reach a b → ∀ {s : St}, (∃ l, run s a.w = .ok (a.s, l)) → ∃ l, run s b.w = .ok (b.s, l) := by
    intro a b h
    induction h with
    | refl => exact fun h => h
    | @step d c d' hc _ ih =>
      intro s hr
      refine ih ?_
      obtain ⟨l, hl⟩ := hr
      obtain ⟨t, ht, rfl⟩ := List.mem_map.1 hc
      have hen := all_iff.1 ht
      obtain ⟨e, i, hn, _, _⟩ := enabled_next hen
      refine ⟨l ++ [(next d.s t).getD zeroE], ?_⟩
      show run s (d.w ++ [(t : Int)]) = _
      rw [run_snoc, hl]
      simp only
      rw [if_pos (stepE_ok hen hn)]
      rfl
  exact key h ⟨[], rfl⟩
theorem reach_wf {a b : Nd} (h : Reach a b) : Wf a.s → Wf b.s ∧ fuels b.s + b.w.length = fuels a.s + a.w.length := by
  induction h with
  | refl => exact fun h => ⟨h, rfl⟩
  | @step d c d' hc _ ih =>
    intro hw
    obtain ⟨h1, h2⟩ := kid_wf hw hc
    obtain ⟨h3, h4⟩ := ih h1
    obtain ⟨t, _, rfl⟩ := List.mem_map.1 hc
    refine ⟨h3, ?_⟩
    simp only [kidN, List.length_append, List.length_singleton] at h4 h2
    omega
end Pr
theorem u64_small {v : Nat} (hv : v ≤ 1000000) : IntKind.u64.wrap (v : Int) = (v : Int) := by
  simp [IntKind.wrap, IntKind.signed, IntKind.bits]; omega
theorem modN (v : Nat) (x : Int) (hv : 1 ≤ v ∧ v ≤ 4) : (∃ m : Nat, m < v ∧ wrap64 ((IntKind.u64.wrap x).tmod (IntKind.u64.wrap (v : Int))) = (m : Int)) ∧ ¬ IntKind.u64.wrap (v : Int) = 0 := by
  have h0 : 0 ≤ IntKind.u64.wrap x := by simp [IntKind.wrap, IntKind.signed, IntKind.bits]; omega
  rw [u64_small (by omega)]
  refine ⟨?_, by omega⟩
  generalize IntKind.u64.wrap x = u at h0
  obtain ⟨m, rfl⟩ : ∃ m : Nat, u = m := ⟨u.toNat, by omega⟩
  refine ⟨m % v, Nat.mod_lt _ (by omega), ?_⟩
  rw [show (m : Int).tmod (v : Int) = ((m % v : Nat) : Int) from rfl]
  exact IntWalk.wrap64_in _ (by have := Nat.mod_lt m (show 0 < v by omega); omega)
set_option maxRecDepth 100000 in
set_option maxHeartbeats 8000000 in
theorem leastAny_any (W : World) (p : Pg) (A : Option Addr) (cap : Nat) (f : Int) (B : Option Addr) (cap2 : Nat) (ts : List Nat) (x : Int) (hp : PgIn W p A)
    (hr : Rd W 1 B ts.length (ts.map (fun (t : Nat) => Value.int .u8 (t : Int)))) (hg : ∀ t ∈ ts, t ≤ 255) (ht : ts.length ≤ maxLen) :
    Calls Tryz.prog 5 #[valP p A cap, .int .i64 f, .slice B ts.length cap2, .int .i64 x] W fun e w' => e = .returned (.bool true) ∧ Below W.heap.size W w' := by
  obtain ⟨Wa, X, hWa, hX, hBa, hXl, hXe⟩ := pg_box W p.vars p.mtx A p.code.length cap
  have hpa := hp.below hBa
  have hsmall : ∀ u, Below Wa.heap.size Wa u → _ := fun u hu => small_any u p A cap f (hpa.below hu)
  have hrch : ∀ u y v, Below Wa.heap.size Wa u → _ := fun u y v hu => reaching_any u p A cap f 600 y v (hpa.below hu) (by omega)
  obtain ⟨sm, hsm⟩ : ∃ b, b = Pr.small p f := ⟨_, rfl⟩
  rw [← hsm] at hsmall
  obtain ⟨nt, hnt⟩ : ∃ n, n = ts.length := ⟨_, rfl⟩
  obtain ⟨pv, hpv⟩ : ∃ v, v = p.vars := ⟨_, rfl⟩
  have hm1 : nt < 9223372036854775808 := by rw [hnt]; unfold maxLen at ht; omega
  have HPA := Lib.hid hpa
  have HSM := Lib.hid hsm
  have HT := Lib.hid (u8_cellW hr.toB)
  have HG := Lib.hid hg
  have HNT := Lib.hid hnt
  have HPV := Lib.hid hpv
  rw [← hnt]
  unfold valP at hsmall hrch ⊢
  rw [← hpv] at hXe ⊢
  simp only [← hpv] at hsmall hrch
  have HXE := Lib.hid hXe
  have HB := Lib.hid hBa
  have HSMALL := Lib.hid hsmall
  have HRCH := Lib.hid hrch
  obtain ⟨x0, x1, x2, xl⟩ := hXe Wa (Below.refl _ _)
  rw [← hpv] at hWa
  clear hXe hBa hsmall hrch hpa hp hsm hr hg ht hnt hpv
  go_enter Tryz.func5, Tryz.ntmps5
  go_upto_region 1 with fail
  rw [← hWa, ← hX]
  clear hWa hX
  go_cut [38] (fun v w2 => Below Wa.heap.size Wa w2 ∧ ∃ z, v = .bool z ∧ (z = false → sm = true ∧ nt ≤ 60 ∧ pv ≠ 0))
  case first =>
    go_wp2_with fail
    refine (awake20 _).mono ?_
    rintro y w1 ⟨rfl, b1⟩
    have HB1 := Lib.hid b1
    clear b1 x0 x1 x2 xl
    obtain ⟨x0, x1, x2, xl⟩ := HXE.out w1 HB1.out
    go_wp2_with fail
    refine (HSMALL.out w1 HB1.out).mono ?_
    rintro y w2 ⟨rfl, b2⟩
    have HB2 := Lib.hid (below_at HB1.out b2)
    clear b2 x0 x1 x2 xl
    obtain ⟨x0, x1, x2, xl⟩ := HXE.out w2 HB2.out
    cases sm with
    | false =>
      go_wp2_with fail
      go_meet
      exact ⟨HB2.out, _, rfl, fun h => by cases h⟩
    | true =>
      by_cases hv : pv = 0
      · subst hv
        go_wp2_with fail
        all_goals (go_meet)
        all_goals (exact ⟨HB2.out, _, rfl, fun h => by cases h⟩)
      · have hv1 : (pv == 0) = false := by simpa using hv
        by_cases hn : 60 < nt
        · have hn1 : (60 : Int) < (nt : Int) := by omega
          go_wp2_with fail
          all_goals (go_meet)
          all_goals (exact ⟨HB2.out, _, rfl, fun h => by cases h⟩)
        · have hn1 : ¬ (60 : Int) < (nt : Int) := by omega
          go_wp2_with fail
          all_goals (go_meet)
          all_goals (exact ⟨HB2.out, _, rfl, fun h => ⟨by first | rfl | trivial, by omega, hv⟩⟩)
  case rest =>
    obtain ⟨b1, z, rfl, hz⟩ := hcut
    have HB1 := Lib.hid b1
    clear b1 x0 x1 x2 xl
    cases z with
    | true =>
      go_wp2_with fail
      refine (awake20 _).mono ?_
      rintro e w2 ⟨rfl, b2⟩
      go_wp2_with fail
      go_ret
      exact ⟨rfl, below_at HB.out (below_at HB1.out b2)⟩
    | false =>
      obtain ⟨hs1, hn60, hv0⟩ := hz rfl
      subst hs1
      clear hz HSMALL hm1
      obtain ⟨m, rfl, hm8, hok, _, hcnt, hall6⟩ := Pr.small_spec HSM.out.symm
      have h60 : (Pr.all6 p m 600).2 = 0 := by rw [hall6]
      have hv4 : p.vars ≤ 4 := hok.1.2.1
      have hvn : 0 ≤ p.vars := hok.1.1
      rw [← HPV.out] at hv4 hvn
      obtain ⟨vn, rfl⟩ : ∃ vn : Nat, pv = vn := ⟨pv.toNat, by omega⟩
      obtain ⟨⟨xn, hxn, hxe⟩, hw0⟩ := modN vn x ⟨by omega, by omega⟩
      have hx4 : xn < 4 := by omega
      have hreachE : Pr.reachE p m 600 xn = 0 := by
        unfold Pr.reachE
        rw [if_pos h60, if_neg (by rw [← HPV.out]; omega)]
      have hreachR : ∀ v, Pr.reachR p m 600 xn v = Pr.leastN (Pr.isReach xn v) (Pr.start p m) := fun v => by
        unfold Pr.reachR Pr.leastR
        rw [if_neg (by rw [← HPV.out]; omega), if_pos h60]
        rfl
      have hwf := Pr.start_wf hok hm8
      have hfu := Pr.fuels_start hok hm8
      -- the law
      have hlaw : ∀ (s : St) (row : List Int) (e : Ev), Pr.Reach (Pr.node0 (Pr.start p m)) ⟨s, row, e⟩ → ∃ (d : Pr.Nd) (l : List Ev), Pr.reachR p m 600 xn (s.v xn) = some d ∧ Pr.aheadI row d.w = false ∧ d.w.length ≤ row.length ∧ Pr.replay p m d.w = .ok (d.s, l) ∧ d.s.v xn = s.v xn ∧ d.w.length ≤ 32 := fun s row e hre => by
        have hlm := Pr.least_mem (is := Pr.isReach xn (s.v xn)) hwf hfu
        rw [hreachR]
        cases hd : Pr.leastN (Pr.isReach xn (s.v xn)) (Pr.start p m) with
        | none =>
          have := hlm.2 hd _ hre
          simp [Pr.isReach] at this
        | some d =>
          obtain ⟨h1, h2, h3⟩ := hlm.1 d hd
          have h4 := h3 _ hre (by simp [Pr.isReach])
          obtain ⟨l, hl⟩ := Pr.reach_run h1
          have h5 := (Pr.reach_wf h1 hwf).2
          simp only [Pr.node0] at h5
          refine ⟨d, l, rfl, h4, Pr.ahead_len h4, ?_, by simpa [Pr.isReach] using h2, by simp only [List.length_nil] at h5; omega⟩
          unfold Pr.replay
          rw [if_pos ⟨hok, by omega, by omega⟩]
          exact hl
      have hbnd : ∀ (s : St) (row : List Int) (e : Ev), Pr.Reach (Pr.node0 (Pr.start p m)) ⟨s, row, e⟩ → Pr.Wf s := fun s row e hre => (Pr.reach_wf hre hwf).1
      have hnew := fun u (hu : Below Wa.heap.size Wa u) => new_ok u p A cap m (HPA.out.below hu).1 hok hm8
      have hrep := fun u (hu : Below Wa.heap.size Wa u) (Bx : Option Addr) (cx : Nat) (row : List Int) (hrr : Rd u 1 Bx row.length (row.map iv)) (hrl : row.length ≤ 1000000) => replay_any u p A cap m Bx cx row (HPA.out.below hu).1 (HPA.out.below hu).2.1 (HPA.out.below hu).2.2 hrr hrl
      have hrc : ∀ u v, Below Wa.heap.size Wa u → _ := fun u v hu => HRCH.out u xn v hu
      rw [hreachE] at hrc
      obtain ⟨s0, hs0⟩ : ∃ s0, s0 = Pr.start p m := ⟨_, rfl⟩
      rw [← hs0] at hnew hlaw hbnd hwf
      unfold valP at hnew hrep
      rw [← HPV.out] at hnew
      simp only [← HPV.out] at hrep
      have HNEW := Lib.hid hnew
      have HREP := Lib.hid hrep
      have HLAW := Lib.hid hlaw
      have HBND := Lib.hid hbnd
      have HRC := Lib.hid hrc
      have HWF := Lib.hid hwf
      have HXE2 := Lib.hid hxe
      have hv1 : 1 ≤ vn := by omega
      clear hreachE hreachR hwf hfu hlaw hbnd hnew hrep hrc hcnt hall6 h60 hok hm8 HSM HRCH hs0 hv4 hvn hv0 hxe
      obtain ⟨x0, x1, x2, xl⟩ := HXE.out wc HB1.out
      go_upto_region 4 with fail
      have hxe := HXE2.out
      simp only [hxe]
      clear hxe hw0
      have HN2 := Lib.hid (HNEW.out wc HB1.out)
      go_wp2_with fail
      refine HN2.out.mono ?_
      rintro y w3 ⟨S, T, C0, rfl, hsat, hS, hT, hC, b3⟩
      have HSAT1 := Lib.hid hsat.bound
      obtain ⟨C, hCC⟩ : ∃ C, C = fun k => C0 k ∧ k < w3.heap.size := ⟨_, rfl⟩
      rw [← hCC] at HSAT1
      have HCB := Lib.hid (show ∀ k, C k → k < w3.heap.size from fun k hk => by rw [hCC] at hk; exact hk.2)
      have HSTB := Lib.hid (show wc.heap.size ≤ S ∧ wc.heap.size ≤ T ∧ S < w3.heap.size ∧ T < w3.heap.size from ⟨hS, hT, hsat.lt.1, hsat.lt.2⟩)
      have HB3 := Lib.hid b3
      clear hsat hS hT hC b3 hCC HN2 HNEW x0 x1 x2 xl
      obtain ⟨i0, hi0, hz0, hz1, hz2⟩ := info_parts Tryz.infoInt
      go_wp2_with fail
      go_loopw [11, 57] (fun r v wr => ∃ (k n : Nat) (s : St) (row : List Int) (e : Ev) (R : Option Addr) (rc : Nat), k ≤ nt ∧ n ≤ k ∧ v = .int .i64 k ∧ r = .slice R n rc ∧ Hid (n = row.length) ∧ Hid (Pr.Reach (Pr.node0 s0) ⟨s, row, e⟩) ∧ Hid (SAt wr C S T s) ∧ Hid (Row wr 3 1 R n rc (row.map iv)) ∧ Hid (∀ a, R = some a → w3.heap.size ≤ a.block) ∧ Hid (Mod (fun k => k = S ∨ k = T) w3 wr)) (fun _ v _ => nt - (intOf v).toNat)
      case atStart => exact ⟨0, 0, s0, [], Pr.zeroE, none, 0, Nat.zero_le _, Nat.le_refl _, rfl, rfl, Lib.hid rfl, Lib.hid (.refl _), HSAT1, Lib.hid (Row.nil _ _ _), Lib.hid (fun a h => by cases h), Lib.hid (Mod.refl _ _)⟩
      case round =>
        clear HSAT1 HWF
        obtain ⟨k, n, s, row, e, R, rc, hk, hnk, rfl, rfl, HLEN, HRE, HSAT, HROW, HA, HMO⟩ := hrel
        rename World => V
        have hbr : Below wc.heap.size wc V := HB3.out.trans (HMO.out.below _ HB3.out.size (fun q hq e => by have := HSTB.out; omega))
        have HBR := Lib.hid hbr
        have hws := HBND.out s row e HRE.out
        have hall := fun u (hu : Below V.heap.size V u) => all_any u C S T s (HSAT.out.below hu) hws
        have hal4 := Pr.all_len hws
        obtain ⟨al, hal⟩ : ∃ al, al = Pr.all s := ⟨_, rfl⟩
        rw [← hal] at hall hal4
        obtain ⟨na, hna⟩ : ∃ na, na = (al.map (fun (t : Nat) => (t : Int))).length := ⟨_, rfl⟩
        simp only [← hna] at hall
        have hna' : na = al.length := by rw [hna, List.length_map]
        have HNL := Lib.hid hna
        have HALL := Lib.hid hall
        have HAL := Lib.hid hal
        have HNA := Lib.hid hna'
        have HWS := Lib.hid hws
        have hn4 : na ≤ 4 := by omega
        clear hall hal hna hna' hal4 hbr hws
        by_cases hgo : k < nt ∧ 0 < na
        · obtain ⟨hlt, hpos⟩ := hgo
          obtain ⟨t, ht⟩ := get_some (show k < ts.length by rw [← HNT.out]; exact hlt)
          obtain ⟨g, o, rfl, hg, hcl⟩ := HT.out k t ht
          have hbw : Below W.heap.size W V := below_at HB.out (below_at HB1.out HBR.out)
          have ca := hcl V hbw
          have lg := Nat.lt_of_lt_of_le hg hbw.size
          have h255 := HG.out t (List.mem_of_getElem? ht)
          have k1 : (0 : Int) ≤ (k : Int) := Int.natCast_nonneg _
          have k2 : (k : Int) < (nt : Int) := by omega
          have npos : (0 : Int) < (na : Int) := by omega
          clear hcl ht hg hbw
          go_wp2_with fail
          refine (HALL.out V (Below.refl _ _)).mono ?_
          rintro y w5 ⟨L5, lc5, rfl, ⟨hlr, _⟩, b5⟩
          have HLR := Lib.hid (int_cell hlr.rd.toB)
          have HB5 := Lib.hid b5
          clear hlr b5 ca lg
          have e1 : ¬ ((na : Nat) : Int) = 0 := by omega
          have e3 : Int.tmod (t : Int) (na : Int) = ((t % na : Nat) : Int) := by rw [Int.tmod_eq_emod_of_nonneg (by omega)]; rfl
          have hidx : t % na < na := Nat.mod_lt _ hpos
          obtain ⟨ix, hix⟩ : ∃ ix, ix = t % na := ⟨_, rfl⟩
          rw [← hix] at hidx e3
          clear hix
          obtain ⟨u, hu⟩ := get_some (show ix < al.length by rw [← HNA.out]; exact hidx)
          have hum : Pr.enabled s u = true ∧ u < s.th.length := by
            have h := Pr.all_iff.1 (show u ∈ Pr.all s by rw [← HAL.out]; exact List.mem_of_getElem? hu)
            exact ⟨h, Pr.en_lt h⟩
          obtain ⟨ev, _, hnx, h8, h9⟩ := Pr.enabled_next hum.1
          clear h8 h9
          obtain ⟨g2, o2, rfl, hg2, hc2⟩ := HLR.out ix (u : Int) (by rw [List.getElem?_map, hu]; rfl)
          have ca2 := hc2 w5 (Below.refl _ _)
          have k3 : (0 : Int) ≤ (ix : Int) := Int.natCast_nonneg _
          have k4 : (ix : Int) < (na : Int) := by omega
          have hre2 := Pr.Reach.kid HRE.out hum.1
          have hu4 : u < 4 := by have := HWS.out.n4; omega
          have HRE2 := Lib.hid hre2
          have HSAT5 := Lib.hid (HSAT.out.below HB5.out)
          have HROW5 := Lib.hid (row_stepS HROW.out HB5.out)
          have HMO5 := Lib.hid (show Mod (fun k => k = S ∨ k = T) w3 w5 from HMO.out.trans (Mod.of_below_size HB5.out _))
          have HUM := Lib.hid (And.intro hum hnx)
          clear hu hum hnx hc2 hre2 HALL
          go_upto_region 14 with (at_builtin; refine wpList_append_row (by rfl) _ _ _ (by rfl) 3 i0 _ 1 8 Tryz.underlying32 hi0 hz0 hz1 hz2 rfl (by omega) R n rc (row.map iv) (by rfl) (HROW5.out.alloc _) ⟨w5.heap.size, 0, none⟩ 1 1 [.int .i64 (u : Int)] (by rfl) (by rfl) (World.news_of_block (cs := #[.int .i64 (u : Int)]) (t := 3) (fr := (0, 0)) (heap_alloc_new w5 _)) (by simp [Value.oneCell']) (by omega) (by unfold maxLen; omega) (by omega) ?_; intro g1 of1 cap1 w6 hown hm hat)
          have hal : Below w5.heap.size w5 (w5.alloc (Obj.cells #[.int .i64 (u : Int)] 3)) := (Below.refl _ _).alloc (Nat.le_refl _) _
          have hg1 : w3.heap.size ≤ g1 := by
            rcases hat with ⟨a, q1, q2⟩ | h
            · have := HA.out a q1; omega
            · have := hal.size; have := HMO5.out.size; omega
          have hsat6 : SAt w6 C S T s := (HSAT5.out.below hal).mod hm (fun q hq ⟨a, q1, q2⟩ => by have := HA.out a q1; have := HCB.out q hq; omega) (fun ⟨a, q1, q2⟩ => by have := HA.out a q1; have := HSTB.out; omega) (fun ⟨a, q1, q2⟩ => by have := HA.out a q1; have := HSTB.out; omega)
          have hmo6 : Mod (fun k => k = S ∨ k = T) w3 w6 := (HMO5.out.trans (Mod.of_below_size hal _)).then hm (fun q hq ⟨a, q1, q2⟩ => by have := HA.out a q1; omega)
          have hcl : w6.cell? ⟨g1, of1 + n, none⟩ = some (.int .i64 (u : Int)) := by
            have := hown.cell n (by omega)
            rw [this, List.getElem?_append_right (by rw [List.length_map, ← HLEN.out]; exact Nat.le_refl _), List.length_map, ← HLEN.out, Nat.sub_self]
            rfl
          have hgl := hown.lt
          have hstep := step_ok w6 C S T s u ev hsat6 HWS.out HUM.out.1.2 HUM.out.1.1 HUM.out.2
          have HSTEP := Lib.hid hstep
          have HOWN := Lib.hid hown
          have HG1 := Lib.hid hg1
          have HMO6 := Lib.hid hmo6
          clear hown hm hat hal hg1 hsat6 hmo6 hstep ca2
          go_wp2_with fail
          refine HSTEP.out.mono ?_
          rintro y w7 ⟨rfl, hsat7, hm7⟩
          have HSAT7 := Lib.hid hsat7
          have HROW7 : Hid (Row w7 3 1 (some ⟨g1, of1, none⟩) (n + 1) cap1 ((row ++ [(u : Int)]).map iv)) := Lib.hid (by
            have := HOWN.out.mod hm7 (fun a ha h => by injection ha with ha; subst ha; have := HG1.out; have := HSTB.out; simp only at h; omega)
            simpa [iv] using this)
          have HMO7 := Lib.hid (show Mod (fun k => k = S ∨ k = T) w3 w7 from HMO6.out.trans hm7)
          clear hsat7 hm7 hcl hgl
          go_wp2_with fail
          go_roundw
          case rel => exact ⟨k + 1, n + 1, Pr.stepS s u, row ++ [(u : Int)], Pr.evAt s u, some ⟨g1, of1, none⟩, cap1, by omega, by omega, by go_num, rfl, Lib.hid (by rw [List.length_append, ← HLEN.out]; rfl), HRE2, HSAT7, HROW7, Lib.hid (fun a ha => by injection ha with ha; subst ha; exact HG1.out), HMO7⟩
          case measure => simp [intOf]; omega
        · -- the end
          obtain ⟨d, l2, hrr, hah, hdl, hrpl, hdv, h32⟩ := HLAW.out s row e HRE.out
          obtain ⟨vv, hvv⟩ : ∃ z, z = s.v xn := ⟨_, rfl⟩
          obtain ⟨nd, hnd⟩ : ∃ z, z = d.w.length := ⟨_, rfl⟩
          have hVar : ∀ u, Below V.heap.size V u → Calls Tryz.prog 33 #[.pointer (some ⟨S, 0, none⟩), .int .i64 (xn : Int)] u fun x w' => x = .returned (.int .i64 vv) ∧ u = w' := fun u hu => by
            rw [hvv]; exact var_any u C S T s xn (HSAT.out.below hu) hx4
          have hRch : ∀ u, Below V.heap.size V u → Calls Tryz.prog 22 #[.agg #[.int .i64 (vn : Int), .int .i64 p.mtx, .slice A p.code.length cap], .int .i64 (m : Int), .int .i64 600, .int .i64 (xn : Int), .int .i64 vv] u fun x w' => ∃ A' c, x = .returned (.tuple #[.slice A' nd c, .bool true, .int .i64 0]) ∧ Rd w' 1 A' nd (d.w.map iv) ∧ Below u.heap.size u w' := fun u hu => by
            have := HRC.out u vv (below_at HB1.out (below_at HBR.out hu))
            unfold LeastOut at this
            rw [hvv, hrr] at this
            rw [hvv, hnd]
            exact this
          have hRep : ∀ u Bx cx, Below V.heap.size V u → Rd u 1 Bx nd (d.w.map iv) → Calls Tryz.prog 34 #[.agg #[.int .i64 (vn : Int), .int .i64 p.mtx, .slice A p.code.length cap], .int .i64 (m : Int), .slice Bx nd cx] u fun x w' => (∃ S2 A2 n2 c2, x = .returned (.tuple #[.pointer (some ⟨S2, 0, none⟩), .slice A2 n2 c2, .int .i64 0]) ∧ ∃ C2 T2, SAt w' C2 S2 T2 d.s) ∧ Below u.heap.size u w' := fun u Bx cx hu hrd => by
            have := HREP.out u (below_at HB1.out (below_at HBR.out hu)) Bx cx d.w (by rw [← hnd]; exact hrd) (by omega)
            rw [hrpl, ← hnd] at this
            exact this.mono fun x w' ⟨S2, T2, C2, A2, c2, h1, h2, _, _, _, _, _, _, h9⟩ => ⟨⟨S2, A2, l2.length, c2, h1, C2, T2, h2⟩, h9⟩
          have hAh : ∀ u Bx cx, Below V.heap.size V u → Rd u 1 Bx nd (d.w.map iv) → Calls Tryz.prog 25 #[.slice R n rc, .slice Bx nd cx] u fun x w' => x = .returned (.bool false) ∧ Below u.heap.size u w' := fun u Bx cx hu hrd => by
            have := ahead_any u R rc row Bx cx d.w (by rw [← HLEN.out]; exact (row_stepS HROW.out hu).rd) (by rw [← hnd]; exact hrd) (by rw [← HLEN.out]; omega) (by omega)
            rw [hah, ← HLEN.out, ← hnd] at this
            exact this
          have hVar2 : ∀ u C2 S2 T2, SAt u C2 S2 T2 d.s → Calls Tryz.prog 33 #[.pointer (some ⟨S2, 0, none⟩), .int .i64 (xn : Int)] u fun x w' => x = .returned (.int .i64 vv) ∧ u = w' := fun u C2 S2 T2 h => by
            rw [hvv, ← hdv]; exact var_any u C2 S2 T2 d.s xn h hx4
          have hx0 : ∀ u, Below V.heap.size V u → u.cell? ⟨X, 0, none⟩ = some (.int .i64 (vn : Int)) ∧ u.cell? ⟨X, 1, none⟩ = some (.int .i64 p.mtx) ∧ u.cell? ⟨X, 2, none⟩ = some (.slice A p.code.length cap) ∧ X < u.heap.size := fun u hu => HXE.out u (below_at HB1.out (below_at HBR.out hu))
          have hfin : ∀ u, Below V.heap.size V u → Below W.heap.size W u := fun u hu => below_at HB.out (below_at HB1.out (below_at HBR.out hu))
          have hd1 : nd ≤ n := by rw [hnd, HLEN.out]; exact hdl
          have hd2 : (nd : Int) ≤ (n : Int) := by omega
          have HV := Lib.hid hVar
          have HRB := Lib.hid hRch
          have HP := Lib.hid hRep
          have HAH := Lib.hid hAh
          have HV2 := Lib.hid hVar2
          have HX0 := Lib.hid hx0
          have HFIN := Lib.hid hfin
          clear hVar hRch hRep hAh hVar2 hx0 hfin hrr hah hdl hrpl hdv h32 hvv hnd HLAW HRC HREP HRE HROW HSAT HMO HWS
          rcases (show (k < nt ∧ na = 0) ∨ k = nt by omega) with ⟨hlt, h0⟩ | h0
          · subst h0
            obtain ⟨t, ht⟩ := get_some (show k < ts.length by rw [← HNT.out]; exact hlt)
            obtain ⟨g, o, rfl, hg, hcl⟩ := HT.out k t ht
            have hbw : Below W.heap.size W V := below_at HB.out (below_at HB1.out HBR.out)
            have ca := hcl V hbw
            have lg := Nat.lt_of_lt_of_le hg hbw.size
            have k1 : (0 : Int) ≤ (k : Int) := Int.natCast_nonneg _
            have k2 : (k : Int) < (nt : Int) := by omega
            clear hcl ht hg hbw hgo
            go_wp2_with fail
            refine (HALL.out V (Below.refl _ _)).mono ?_
            rintro y U ⟨L5, lc5, rfl, _, b5⟩
            have HU := Lib.hid b5
            clear b5 ca lg HALL
            go_upto_region 16 with fail
            obtain ⟨x0, x1, x2, xl⟩ := HX0.out U HU.out
            refine wp_region_planF (by kernel_rfl) (fun u => Below U.heap.size U u) [6] [(0, .load), (1, .pure), (2, .pure), (3, .pure), (4, .pure), (5, .eff), (6, .last), (7, .pure), (8, .pure), (9, .pure), (10, .pure), (11, .pure), (12, .pure), (13, .pure)] (by simp only [List.map_cons, List.map_nil, List.getElem?_toArray, List.getElem?_cons_succ, List.getElem?_cons_zero]; rfl) (by kernel_rfl) (fun _ _ d _ _ h => by cases d <;> exact h) ((Below.refl _ _).drew) ?_
            repeat (first
              | (refine plan_pure (v := ?_) (by rfl) (fun w1 => ?_) ?_
                 rotate_left
                 · go_simp <;> with_reducible rfl
                 simp only [Act.put, List.setIfInBounds_toArray, List.set_cons_zero, List.set_cons_succ])
              | (refine plan_off (by rfl) ?_
                 simp only [Act.put, List.setIfInBounds_toArray, List.set_cons_zero, List.set_cons_succ])
              | (refine plan_load_off (by rfl) ?_
                 simp only [Act.put, List.setIfInBounds_toArray, List.set_cons_zero, List.set_cons_succ])
              | (refine plan_load (v := ?_) (by rfl) (fun w1 hw1 => ?_) ?_
                 rotate_left
                 · (obtain ⟨y0, y1, y2, yl⟩ := HX0.out w1 (below_at HU.out hw1)
                    clear hw1
                    go_simp <;> with_reducible rfl)
                 simp only [Act.put, List.setIfInBounds_toArray, List.set_cons_zero, List.set_cons_succ]))
            obtain ⟨D, hD⟩ : ∃ z, z = U.drew := ⟨_, rfl⟩
            have HD : Hid (Below U.heap.size U D) := Lib.hid (by rw [hD]; exact (Below.refl _ _).drew)
            rw [← hD]
            clear hD x0 x1 x2 xl
            refine plan_eff ?_
            go_wp2_with fail
            refine (HV.out D (below_at HU.out HD.out)).mono ?_
            rintro y v1 ⟨rfl, rfl⟩
            go_wp2_with fail
            refine plan_on (fun _ h => h) HD.out ?_
            repeat (first
              | (refine plan_pure (v := ?_) (by rfl) (fun w1 => ?_) ?_
                 rotate_left
                 · go_simp <;> with_reducible rfl
                 simp only [Act.put, List.setIfInBounds_toArray, List.set_cons_zero, List.set_cons_succ])
              | (refine plan_off (by rfl) ?_
                 simp only [Act.put, List.setIfInBounds_toArray, List.set_cons_zero, List.set_cons_succ])
              | (refine plan_load_off (by rfl) ?_
                 simp only [Act.put, List.setIfInBounds_toArray, List.set_cons_zero, List.set_cons_succ])
              | (refine plan_load (v := ?_) (by rfl) (fun w1 hw1 => ?_) ?_
                 rotate_left
                 · (skip
                    clear hw1
                    go_simp <;> with_reducible rfl)
                 simp only [Act.put, List.setIfInBounds_toArray, List.set_cons_zero, List.set_cons_succ]))
            refine plan_last ?_
            go_wp2_with fail
            refine (HRB.out D (below_at HU.out HD.out)).mono ?_
            rintro y v2 ⟨B2, c2, rfl, r2, b2⟩
            have HR2 := Lib.hid r2
            have HB2 := Lib.hid (below_at (below_at HU.out HD.out) b2)
            clear r2 b2
            go_wp2_with fail
            repeat (first
              | (refine plan_pure (v := ?_) (by rfl) (fun w1 => ?_) ?_
                 rotate_left
                 · go_simp <;> with_reducible rfl
                 simp only [Act.put, List.setIfInBounds_toArray, List.set_cons_zero, List.set_cons_succ])
              | (refine plan_off (by rfl) ?_
                 simp only [Act.put, List.setIfInBounds_toArray, List.set_cons_zero, List.set_cons_succ])
              | (refine plan_load_off (by rfl) ?_
                 simp only [Act.put, List.setIfInBounds_toArray, List.set_cons_zero, List.set_cons_succ])
              | (refine plan_load (v := ?_) (by rfl) (fun w1 hw1 => ?_) ?_
                 rotate_left
                 · (skip
                    clear hw1
                    go_simp <;> with_reducible rfl)
                 simp only [Act.put, List.setIfInBounds_toArray, List.set_cons_zero, List.set_cons_succ]))
            refine plan_end ?_
            obtain ⟨x0, x1, x2, xl⟩ := HX0.out v2 HB2.out
            go_wp2_with fail
            refine (HP.out v2 B2 c2 HB2.out HR2.out).mono ?_
            rintro y v3 ⟨⟨S2, A2, n2, d2, rfl, C2, T2, hs2⟩, b3⟩
            have HS2 := Lib.hid hs2
            have HB3 := Lib.hid (below_at HB2.out b3)
            have HR3 := Lib.hid (HR2.out.below b3 (Nat.le_refl _))
            clear hs2 b3 x0 x1 x2 xl
            go_wp2_with fail
            refine (HAH.out v3 B2 c2 HB3.out HR3.out).mono ?_
            rintro y v4 ⟨rfl, b4⟩
            have HB4 := Lib.hid (below_at HB3.out b4)
            have HV4 := Lib.hid (HV2.out v4 C2 S2 T2 (HS2.out.below b4))
            clear b4
            go_wp2_with fail
            refine HV4.out.mono ?_
            rintro y v5 ⟨rfl, rfl⟩
            go_wp2_with fail
            refine (HV.out v4 HB4.out).mono ?_
            rintro y v6 ⟨rfl, rfl⟩
            go_wp2_with fail
            go_ret
            exact ⟨by simp [hd1], HFIN.out v4 HB4.out⟩
          · subst h0
            have k4 : ¬ (k : Int) < (k : Int) := by omega
            go_upto_region 16 with fail
            obtain ⟨x0, x1, x2, xl⟩ := HX0.out V (Below.refl _ _)
            refine wp_region_planF (by kernel_rfl) (fun u => Below V.heap.size V u) [6] [(0, .load), (1, .pure), (2, .pure), (3, .pure), (4, .pure), (5, .eff), (6, .last), (7, .pure), (8, .pure), (9, .pure), (10, .pure), (11, .pure), (12, .pure), (13, .pure)] (by simp only [List.map_cons, List.map_nil, List.getElem?_toArray, List.getElem?_cons_succ, List.getElem?_cons_zero]; rfl) (by kernel_rfl) (fun _ _ d _ _ h => by cases d <;> exact h) ((Below.refl _ _).drew) ?_
            repeat (first
              | (refine plan_pure (v := ?_) (by rfl) (fun w1 => ?_) ?_
                 rotate_left
                 · go_simp <;> with_reducible rfl
                 simp only [Act.put, List.setIfInBounds_toArray, List.set_cons_zero, List.set_cons_succ])
              | (refine plan_off (by rfl) ?_
                 simp only [Act.put, List.setIfInBounds_toArray, List.set_cons_zero, List.set_cons_succ])
              | (refine plan_load_off (by rfl) ?_
                 simp only [Act.put, List.setIfInBounds_toArray, List.set_cons_zero, List.set_cons_succ])
              | (refine plan_load (v := ?_) (by rfl) (fun w1 hw1 => ?_) ?_
                 rotate_left
                 · (obtain ⟨y0, y1, y2, yl⟩ := HX0.out w1 hw1
                    clear hw1
                    go_simp <;> with_reducible rfl)
                 simp only [Act.put, List.setIfInBounds_toArray, List.set_cons_zero, List.set_cons_succ]))
            obtain ⟨D, hD⟩ : ∃ z, z = V.drew := ⟨_, rfl⟩
            have HD : Hid (Below V.heap.size V D) := Lib.hid (by rw [hD]; exact (Below.refl _ _).drew)
            rw [← hD]
            clear hD x0 x1 x2 xl
            refine plan_eff ?_
            go_wp2_with fail
            refine (HV.out D HD.out).mono ?_
            rintro y v1 ⟨rfl, rfl⟩
            go_wp2_with fail
            refine plan_on (fun _ h => h) HD.out ?_
            repeat (first
              | (refine plan_pure (v := ?_) (by rfl) (fun w1 => ?_) ?_
                 rotate_left
                 · go_simp <;> with_reducible rfl
                 simp only [Act.put, List.setIfInBounds_toArray, List.set_cons_zero, List.set_cons_succ])
              | (refine plan_off (by rfl) ?_
                 simp only [Act.put, List.setIfInBounds_toArray, List.set_cons_zero, List.set_cons_succ])
              | (refine plan_load_off (by rfl) ?_
                 simp only [Act.put, List.setIfInBounds_toArray, List.set_cons_zero, List.set_cons_succ])
              | (refine plan_load (v := ?_) (by rfl) (fun w1 hw1 => ?_) ?_
                 rotate_left
                 · (skip
                    clear hw1
                    go_simp <;> with_reducible rfl)
                 simp only [Act.put, List.setIfInBounds_toArray, List.set_cons_zero, List.set_cons_succ]))
            refine plan_last ?_
            go_wp2_with fail
            refine (HRB.out D HD.out).mono ?_
            rintro y v2 ⟨B2, c2, rfl, r2, b2⟩
            have HR2 := Lib.hid r2
            have HB2 := Lib.hid (below_at HD.out b2)
            clear r2 b2
            go_wp2_with fail
            repeat (first
              | (refine plan_pure (v := ?_) (by rfl) (fun w1 => ?_) ?_
                 rotate_left
                 · go_simp <;> with_reducible rfl
                 simp only [Act.put, List.setIfInBounds_toArray, List.set_cons_zero, List.set_cons_succ])
              | (refine plan_off (by rfl) ?_
                 simp only [Act.put, List.setIfInBounds_toArray, List.set_cons_zero, List.set_cons_succ])
              | (refine plan_load_off (by rfl) ?_
                 simp only [Act.put, List.setIfInBounds_toArray, List.set_cons_zero, List.set_cons_succ])
              | (refine plan_load (v := ?_) (by rfl) (fun w1 hw1 => ?_) ?_
                 rotate_left
                 · (skip
                    clear hw1
                    go_simp <;> with_reducible rfl)
                 simp only [Act.put, List.setIfInBounds_toArray, List.set_cons_zero, List.set_cons_succ]))
            refine plan_end ?_
            obtain ⟨x0, x1, x2, xl⟩ := HX0.out v2 HB2.out
            go_wp2_with fail
            refine (HP.out v2 B2 c2 HB2.out HR2.out).mono ?_
            rintro y v3 ⟨⟨S2, A2, n2, d2, rfl, C2, T2, hs2⟩, b3⟩
            have HS2 := Lib.hid hs2
            have HB3 := Lib.hid (below_at HB2.out b3)
            have HR3 := Lib.hid (HR2.out.below b3 (Nat.le_refl _))
            clear hs2 b3 x0 x1 x2 xl
            go_wp2_with fail
            refine (HAH.out v3 B2 c2 HB3.out HR3.out).mono ?_
            rintro y v4 ⟨rfl, b4⟩
            have HB4 := Lib.hid (below_at HB3.out b4)
            have HV4 := Lib.hid (HV2.out v4 C2 S2 T2 (HS2.out.below b4))
            clear b4
            go_wp2_with fail
            refine HV4.out.mono ?_
            rintro y v5 ⟨rfl, rfl⟩
            go_wp2_with fail
            refine (HV.out v4 HB4.out).mono ?_
            rintro y v6 ⟨rfl, rfl⟩
            go_wp2_with fail
            go_ret
            exact ⟨by simp [hd1], HFIN.out v4 HB4.out⟩
open Go.ChangeShapes Go.WideShapes Go.ChangeAt
set_option maxRecDepth 100000 in
theorem LeastAny_walk {H : Type} {enc : TypeId × Value → H} (W : World) {base : Nat} {v0 v1 v2 v3 : Value} {d0 d1 d2 d3 : DataW H} {p0 p1 p2 p3 : List MemPlace}
    (o0 : Value.okWide Tryz.prog W .any base 24 v0) (h0 : DataW.Trod enc Tryz.prog W 0 (fun _ => true) true 24 v0 d0 p0)
    (o1 : Value.okWide Tryz.prog W .any base 3 v1) (h1 : DataW.Trod enc Tryz.prog W 0 (fun _ => true) true 3 v1 d1 p1)
    (o2 : Value.okWide Tryz.prog W .any base 43 v2) (h2 : DataW.Trod enc Tryz.prog W 0 (fun _ => true) true 43 v2 d2 p2)
    (o3 : Value.okWide Tryz.prog W .any base 3 v3) (h3 : DataW.Trod enc Tryz.prog W 0 (fun _ => true) true 3 v3 d3 p3) :
    Calls Tryz.prog 5 #[v0, v1, v2, v3] W fun e w' => e = .returned (.bool true) ∧ Below W.heap.size W w' := by
  obtain ⟨p, A, cap, rfl, hin⟩ := prog_arg o0 h0
  obtain ⟨f, rfl, rfl, rfl, _⟩ := open_int Tryz.underlying3 o1 h1
  obtain ⟨ts, B, cap2, rfl, hr, hl, hg⟩ := u8s_arg o2 h2
  obtain ⟨x, rfl, rfl, rfl, _⟩ := open_int Tryz.underlying3 o3 h3
  exact leastAny_any W p A cap f B cap2 ts x hin hr hg hl
end Go.Proofs.YtckdofjpoajblaaGreat
