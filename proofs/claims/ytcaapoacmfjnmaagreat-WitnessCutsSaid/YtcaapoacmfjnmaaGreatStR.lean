/- awake, of the witnesses. -/
import Derived.Test.YtcaapoacmfjnmaaGreatStQ
namespace Go.Proofs.YtcaapoacmfjnmaaGreat
open Go.RowKit
set_option linter.unusedVariables false

namespace Aw
def p : Pg := ⟨1, 0, [[⟨2, 0, 0, 0⟩], [⟨2, 0, 0, 0⟩]]⟩
def z : Pg := ⟨0, 0, []⟩
theorem beg : Pr.beginsW p 1 [1, 0] = .ok [1, 13, 1, 12, 0] := by kernel_rfl
theorem ofk : Pr.ofW p 1 [1, 13, 1, 12, 0] = .ok [1, 0] := by kernel_rfl
theorem of0 : Pr.ofW p 1 [0] = .error 6 := by kernel_rfl
theorem ofx : Pr.ofW p 1 [120] = .error 3 := by kernel_rfl
theorem ofz : Pr.ofW z 1 [1, 13, 1, 12, 0] = .error 1 := by kernel_rfl
theorem isk : Pr.isW p 1 [1, 13, 1, 12, 0] = true := by kernel_rfl
theorem is0 : Pr.isW p 1 [0] = false := by kernel_rfl
theorem endr : Pr.endsW p 1 [1, 0] = true := by kernel_rfl
theorem end1 : Pr.endsW p 1 [1] = false := by kernel_rfl
end Aw
/-- whole numbers, in a row of their own -/
theorem ints_made (u : World) (l : List Int) : Rd (u.alloc (.cells (l.map iv).toArray 3)) 1 (some ⟨u.heap.size, 0, none⟩) l.length (l.map iv) := by
  refine ⟨by simp, fun h0 => ⟨u.heap.size, 0, rfl, by simp, fun j hj => ?_⟩⟩
  rw [cell_blk (heap_alloc_new u _)]
  simp
theorem awP_in (w W1 W2 : World) (P0 P1 : Nat) (hW1 : W1 = w.alloc (Obj.cells #[.int .i64 2, .int .i64 0, .int .i64 0, .int .i64 0] 78)) (hP0 : P0 = w.heap.size)
    (hW2 : W2 = W1.alloc (Obj.cells #[.slice (some ⟨P0, 0, none⟩) 1 1, .slice (some ⟨P0, 0, none⟩) 1 1] 75)) (hP1 : P1 = W1.heap.size) : PgIn W2 Aw.p (some ⟨P1, 0, none⟩) := by
  have h1 : W2.heap[P0]? = some (.cells #[.int .i64 2, .int .i64 0, .int .i64 0, .int .i64 0] 78 (0, 0)) := by
    rw [hW2, heap_alloc_old _ _ (by rw [hW1, hP0]; simp), hW1, hP0]
    exact heap_alloc_new w _
  have h2 : W2.heap[P1]? = some (.cells #[.slice (some ⟨P0, 0, none⟩) 1 1, .slice (some ⟨P0, 0, none⟩) 1 1] 75 (0, 0)) := by rw [hW2, hP1]; exact heap_alloc_new W1 _
  have hq : RdC W2 (fun k => k < W2.heap.size) 4 (some ⟨P0, 0, none⟩) 1 ([(⟨2, 0, 0, 0⟩ : Ins)].flatMap encI) :=
    ⟨rfl, fun _ => ⟨P0, 0, rfl, blk_lt h1, blk_lt h1, fun j hj => by
      rw [cell_blk h1]
      rcases (show j = 0 ∨ j = 1 ∨ j = 2 ∨ j = 3 by omega) with rfl | rfl | rfl | rfl <;> rfl⟩⟩
  refine ⟨⟨[.slice (some ⟨P0, 0, none⟩) 1 1, .slice (some ⟨P0, 0, none⟩) 1 1], ⟨rfl, fun _ => ⟨P1, 0, rfl, blk_lt h2, blk_lt h2, fun j hj => by
    rw [cell_blk h2]
    rcases (show j = 0 ∨ j = 1 by simp [Aw.p] at hj; omega) with rfl | rfl <;> rfl⟩⟩, fun i q hi => ?_⟩, by simp [Aw.p, maxLen], fun q hq => ?_⟩
  · match i, hi with
    | 0, hi => simp [Aw.p] at hi; subst hi; exact ⟨_, _, rfl, hq, Nat.le_refl _, by simp [maxLen]⟩
    | 1, hi => simp [Aw.p] at hi; subst hi; exact ⟨_, _, rfl, hq, Nat.le_refl _, by simp [maxLen]⟩
    | n + 2, hi => simp [Aw.p] at hi
  · simp [Aw.p] at hq; subst hq; simp [maxLen]
theorem awZ_in (w : World) : PgIn w Aw.z none := ⟨⟨[], ⟨rfl, fun h => by simp [Aw.z] at h⟩, fun i q hi => by simp [Aw.z] at hi⟩, by simp [Aw.z, maxLen], fun q hq => by simp [Aw.z] at hq⟩
set_option maxRecDepth 100000 in
set_option maxHeartbeats 4000000 in
theorem awake18 (w : World) : Calls Tryz.prog 13 #[] w fun x w' => x = .returned (.bool true) ∧ Below w.heap.size w w' := by
  obtain ⟨W1, P0, hW1, hP0, hB1, _, _⟩ := ins_box w ⟨2, 0, 0, 0⟩
  obtain ⟨W2, P1, hW2, hP1⟩ : ∃ W2 P1, W2 = W1.alloc (Obj.cells #[.slice (some ⟨P0, 0, none⟩) 1 1, .slice (some ⟨P0, 0, none⟩) 1 1] 75) ∧ P1 = W1.heap.size := ⟨_, _, rfl, rfl⟩
  have hB2 : Below W1.heap.size W1 W2 := by rw [hW2]; exact (Below.refl _ _).alloc (Nat.le_refl _) _
  obtain ⟨W3, X, hW3, hX, hB3, hXl, hXe⟩ := pg_box W2 1 0 (some ⟨P1, 0, none⟩) 2 2
  have hin : PgIn W3 Aw.p (some ⟨P1, 0, none⟩) := (awP_in w W1 W2 P0 P1 hW1 hP0 hW2 hP1).below hB3
  have hP1' : P1 = w.heap.size + 1 := by rw [hP1, hW1]; simp
  have hX' : X = w.heap.size + 1 + 1 := by rw [hX, hW2, hW1]; simp
  have hb : Below w.heap.size w W3 := below_at (below_at hB1 hB2) hB3
  simp only at hW1
  have hpg : ∀ u, Below W3.heap.size W3 u → PgIn u Aw.p (some ⟨P1, 0, none⟩) := fun u hu => hin.below hu
  have hbeg : ∀ u, Below W3.heap.size W3 u → Calls Tryz.prog 17 #[.agg #[.int .i64 1, .int .i64 0, .slice (some ⟨P1, 0, none⟩) 2 2], .int .i64 1, .slice (some ⟨u.heap.size, 0, none⟩) 2 2] (u.alloc (Obj.cells #[.int .i64 1, .int .i64 0] 3)) fun x w' => x = .returned (.tuple #[.string ⟨#[1, 13, 1, 12, 0]⟩, .int .i64 0]) ∧ Below u.heap.size u w' := fun u hu => by
    have ha : Below u.heap.size u (u.alloc (Obj.cells #[.int .i64 1, .int .i64 0] 3)) := (Below.refl _ _).alloc (Nat.le_refl _) _
    have := beginsW_any (u.alloc (Obj.cells #[.int .i64 1, .int .i64 0] 3)) Aw.p (some ⟨P1, 0, none⟩) 2 1 (some ⟨u.heap.size, 0, none⟩) 2 [1, 0] ((hpg u hu).below ha) (ints_made u [1, 0]) (by decide)
    rw [Aw.beg] at this
    exact this.mono fun x w' h => ⟨h.1, below_at ha h.2⟩
  have hofk : ∀ u, Below W3.heap.size W3 u → Calls Tryz.prog 19 #[.agg #[.int .i64 1, .int .i64 0, .slice (some ⟨P1, 0, none⟩) 2 2], .int .i64 1, .string ⟨#[1, 13, 1, 12, 0]⟩] u fun x w' => ∃ A cap, x = .returned (.tuple #[.slice A 2 cap, .int .i64 0]) ∧ Rd w' 1 A 2 ([1, 0].map iv) ∧ Below u.heap.size u w' := fun u hu => by
    have := ofW_any u Aw.p (some ⟨P1, 0, none⟩) 2 1 [1, 13, 1, 12, 0] (hpg u hu) (by decide)
    rw [Aw.ofk] at this
    exact this.mono fun x w' h => by obtain ⟨A, cap, h1, h2, _, _, h3⟩ := h; exact ⟨A, cap, h1, h2, h3⟩
  have hof0 : ∀ u, Below W3.heap.size W3 u → Calls Tryz.prog 19 #[.agg #[.int .i64 1, .int .i64 0, .slice (some ⟨P1, 0, none⟩) 2 2], .int .i64 1, .string ⟨#[0]⟩] u fun x w' => x = .returned (.tuple #[.slice none 0 0, .int .i64 6]) ∧ Below u.heap.size u w' := fun u hu => by
    have := ofW_any u Aw.p (some ⟨P1, 0, none⟩) 2 1 [0] (hpg u hu) (by decide)
    rw [Aw.of0] at this
    exact this
  have hofx : ∀ u, Below W3.heap.size W3 u → Calls Tryz.prog 19 #[.agg #[.int .i64 1, .int .i64 0, .slice (some ⟨P1, 0, none⟩) 2 2], .int .i64 1, .string ⟨#[120]⟩] u fun x w' => x = .returned (.tuple #[.slice none 0 0, .int .i64 3]) ∧ Below u.heap.size u w' := fun u hu => by
    have := ofW_any u Aw.p (some ⟨P1, 0, none⟩) 2 1 [120] (hpg u hu) (by decide)
    rw [Aw.ofx] at this
    exact this
  have hofz : ∀ u, Calls Tryz.prog 19 #[.agg #[.int .i64 0, .int .i64 0, .slice none 0 0], .int .i64 1, .string ⟨#[1, 13, 1, 12, 0]⟩] u fun x w' => x = .returned (.tuple #[.slice none 0 0, .int .i64 1]) ∧ Below u.heap.size u w' := fun u => by
    have := ofW_any u Aw.z none 0 1 [1, 13, 1, 12, 0] (awZ_in u) (by decide)
    rw [Aw.ofz] at this
    exact this
  have hisk : ∀ u, Below W3.heap.size W3 u → Calls Tryz.prog 22 #[.agg #[.int .i64 1, .int .i64 0, .slice (some ⟨P1, 0, none⟩) 2 2], .int .i64 1, .string ⟨#[1, 13, 1, 12, 0]⟩] u fun x w' => x = .returned (.bool true) ∧ Below u.heap.size u w' := fun u hu => by
    have := isW_any u Aw.p (some ⟨P1, 0, none⟩) 2 1 [1, 13, 1, 12, 0] (hpg u hu) (by decide)
    rw [Aw.isk] at this
    exact this
  have his0 : ∀ u, Below W3.heap.size W3 u → Calls Tryz.prog 22 #[.agg #[.int .i64 1, .int .i64 0, .slice (some ⟨P1, 0, none⟩) 2 2], .int .i64 1, .string ⟨#[0]⟩] u fun x w' => x = .returned (.bool false) ∧ Below u.heap.size u w' := fun u hu => by
    have := isW_any u Aw.p (some ⟨P1, 0, none⟩) 2 1 [0] (hpg u hu) (by decide)
    rw [Aw.is0] at this
    exact this
  have hendr : ∀ (u : World) (A : Option Addr) (cap : Nat), Below W3.heap.size W3 u → Rd u 1 A 2 ([1, 0].map iv) → Calls Tryz.prog 23 #[.agg #[.int .i64 1, .int .i64 0, .slice (some ⟨P1, 0, none⟩) 2 2], .int .i64 1, .slice A 2 cap] u fun x w' => x = .returned (.bool true) ∧ Below u.heap.size u w' := fun u A cap hu hr => by
    have := endsW_any u Aw.p (some ⟨P1, 0, none⟩) 2 1 A cap [1, 0] (hpg u hu) hr (by decide)
    rw [Aw.endr] at this
    exact this
  have hend1 : ∀ u, Below W3.heap.size W3 u → Calls Tryz.prog 23 #[.agg #[.int .i64 1, .int .i64 0, .slice (some ⟨P1, 0, none⟩) 2 2], .int .i64 1, .slice (some ⟨u.heap.size, 0, none⟩) 1 1] (u.alloc (Obj.cells #[.int .i64 1] 3)) fun x w' => x = .returned (.bool false) ∧ Below u.heap.size u w' := fun u hu => by
    have ha : Below u.heap.size u (u.alloc (Obj.cells #[.int .i64 1] 3)) := (Below.refl _ _).alloc (Nat.le_refl _) _
    have := endsW_any (u.alloc (Obj.cells #[.int .i64 1] 3)) Aw.p (some ⟨P1, 0, none⟩) 2 1 (some ⟨u.heap.size, 0, none⟩) 1 [1] ((hpg u hu).below ha) (ints_made u [1]) (by decide)
    rw [Aw.end1] at this
    exact this.mono fun x w' h => ⟨h.1, below_at ha h.2⟩
  have hsame : ∀ (u : World) (A : Option Addr) (cap : Nat), Rd u 1 A 2 ([1, 0].map iv) → Calls Tryz.prog 21 #[.slice A 2 cap, .slice (some ⟨u.heap.size, 0, none⟩) 2 2] (u.alloc (Obj.cells #[.int .i64 1, .int .i64 0] 3)) fun x w' => x = .returned (.bool true) ∧ Below u.heap.size u w' := fun u A cap hr => by
    have ha : Below u.heap.size u (u.alloc (Obj.cells #[.int .i64 1, .int .i64 0] 3)) := (Below.refl _ _).alloc (Nat.le_refl _) _
    have := sameInts_any (u.alloc (Obj.cells #[.int .i64 1, .int .i64 0] 3)) A cap [1, 0] (some ⟨u.heap.size, 0, none⟩) 2 [1, 0] (hr.below ha (Nat.le_refl _)) (ints_made u [1, 0]) (by decide)
    rw [decide_eq_true rfl] at this
    exact this.mono fun x w' h => ⟨h.1, below_at ha h.2⟩
  have HBEG := Lib.hid hbeg
  have HOFK := Lib.hid hofk
  have HOF0 := Lib.hid hof0
  have HOFX := Lib.hid hofx
  have HOFZ := Lib.hid hofz
  have HISK := Lib.hid hisk
  have HIS0 := Lib.hid his0
  have HENDR := Lib.hid hendr
  have HEND1 := Lib.hid hend1
  have HSAME := Lib.hid hsame
  have HB := Lib.hid hb
  have HXE := Lib.hid hXe
  clear hbeg hofk hof0 hofx hofz hisk his0 hendr hend1 hsame hb hXe hB1 hB2 hB3 hXl hin hpg hP1 hX
  go_enter Tryz.func13, Tryz.ntmps13
  go_upto_region 3 with fail
  rw [← hX', ← hP1', ← hP0, ← hW1, ← hW2, ← hW3]
  clear hX' hP1' hP0 hW1 hW2 hW3
  obtain ⟨x0, x1, x2, xl⟩ := HXE.out W3 (Below.refl _ _)
  go_wp2_with fail
  refine (HBEG.out W3 (Below.refl _ _)).mono ?_
  rintro y w1 ⟨rfl, b1⟩
  have C1 := Lib.hid b1
  clear b1 x0 x1 x2 xl
  obtain ⟨x0, x1, x2, xl⟩ := HXE.out w1 C1.out
  go_wp2_with fail
  refine (HOFK.out w1 C1.out).mono ?_
  rintro y w2 ⟨A2, c2, rfl, r2, b2⟩
  have C2 := Lib.hid (below_at C1.out b2)
  have R2 := Lib.hid r2
  clear b2 r2 x0 x1 x2 xl
  obtain ⟨x0, x1, x2, xl⟩ := HXE.out w2 C2.out
  go_wp2_with fail
  refine (HOF0.out w2 C2.out).mono ?_
  rintro y w3 ⟨rfl, b3⟩
  have C3 := Lib.hid (below_at C2.out b3)
  have R3 := Lib.hid (R2.out.below b3 (Nat.le_refl _))
  clear b3 x0 x1 x2 xl
  obtain ⟨x0, x1, x2, xl⟩ := HXE.out w3 C3.out
  go_wp2_with fail
  refine (HOFX.out w3 C3.out).mono ?_
  rintro y w4 ⟨rfl, b4⟩
  have C4 := Lib.hid (below_at C3.out b4)
  have R4 := Lib.hid (R3.out.below b4 (Nat.le_refl _))
  clear b4 x0 x1 x2 xl
  go_wp2_with fail
  refine (HOFZ.out w4).mono ?_
  rintro y w5 ⟨rfl, b5⟩
  have C5 := Lib.hid (below_at C4.out b5)
  have R5 := Lib.hid (R4.out.below b5 (Nat.le_refl _))
  clear b5
  go_wp2_with fail
  refine (HSAME.out w5 A2 c2 R5.out).mono ?_
  rintro y w6 ⟨rfl, b6⟩
  have C6 := Lib.hid (below_at C5.out b6)
  have R6 := Lib.hid (R5.out.below b6 (Nat.le_refl _))
  clear b6
  obtain ⟨x0, x1, x2, xl⟩ := HXE.out w6 C6.out
  go_wp2_with fail
  refine (HISK.out w6 C6.out).mono ?_
  rintro y w7 ⟨rfl, b7⟩
  have C7 := Lib.hid (below_at C6.out b7)
  have R7 := Lib.hid (R6.out.below b7 (Nat.le_refl _))
  clear b7 x0 x1 x2 xl
  obtain ⟨x0, x1, x2, xl⟩ := HXE.out w7 C7.out
  go_wp2_with fail
  refine (HIS0.out w7 C7.out).mono ?_
  rintro y w8 ⟨rfl, b8⟩
  have C8 := Lib.hid (below_at C7.out b8)
  have R8 := Lib.hid (R7.out.below b8 (Nat.le_refl _))
  clear b8 x0 x1 x2 xl
  obtain ⟨x0, x1, x2, xl⟩ := HXE.out w8 C8.out
  go_wp2_with fail
  refine (HENDR.out w8 A2 c2 C8.out R8.out).mono ?_
  rintro y w9 ⟨rfl, b9⟩
  have C9 := Lib.hid (below_at C8.out b9)
  clear b9 x0 x1 x2 xl
  obtain ⟨x0, x1, x2, xl⟩ := HXE.out w9 C9.out
  go_wp2_with fail
  refine (HEND1.out w9 C9.out).mono ?_
  rintro y w10 ⟨rfl, b10⟩
  have C10 := Lib.hid (below_at C9.out b10)
  clear b10 x0 x1 x2 xl
  go_wp2_with fail
  go_ret
  exact ⟨rfl, below_at HB.out C10.out⟩
end Go.Proofs.YtcaapoacmfjnmaaGreat
