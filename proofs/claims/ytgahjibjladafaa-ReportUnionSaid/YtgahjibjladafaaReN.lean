/- Reports: awake. -/
import Derived.Test.YtgahjibjladafaaRek
import Derived.Test.YtgahjibjladafaaReJ
namespace Go.Proofs.Ytgahjibjladafaa
open Go.RowKit
set_option linter.unusedVariables false

namespace Ky
def aw : List K := [[0], [1, 4, 0]]
theorem aw_gather : gather [[1, 4, 0], [0], [0]] = aw := by kernel_rfl
theorem aw_right : rightK aw = true := by kernel_rfl
theorem aw_print : printK aw true = [1, 0, 2, 0, 1, 0, 0, 3, 1, 4, 0] := by kernel_rfl
theorem aw_read : readK [1, 0, 2, 0, 1, 0, 0, 3, 1, 4, 0] = (aw, true, 0) := by kernel_rfl
theorem aw_read4 : readK [1, 0, 2, 0] = ([], false, 4) := by kernel_rfl
theorem aw_readx : readK [1, 0, 2, 0, 1, 0, 0, 3, 1, 4, 0, 120] = ([], false, 3) := by kernel_rfl
theorem aw_x : rightK [[120]] = false := by kernel_rfl
theorem aw_nil : printK (gather []) false = [0, 0, 0] := by kernel_rfl
end Ky

theorem alloc_blk3 (w : World) (a b c : Obj) : (((w.alloc a).alloc b).alloc c).heap[w.heap.size]? = some a ∧ (((w.alloc a).alloc b).alloc c).heap[w.heap.size + 1]? = some b ∧ (((w.alloc a).alloc b).alloc c).heap[w.heap.size + 2]? = some c := by
  have h1 := heap_alloc_new w a
  have h2 := heap_alloc_new (w.alloc a) b
  have h3 := heap_alloc_new ((w.alloc a).alloc b) c
  have s1 : (w.alloc a).heap.size = w.heap.size + 1 := by simp
  have s2 : ((w.alloc a).alloc b).heap.size = w.heap.size + 2 := by simp
  rw [s1] at h2
  rw [s2] at h3
  refine ⟨?_, ?_, h3⟩
  · rw [heap_alloc_old _ _ (by simp; omega), heap_alloc_old _ _ (by simp)]; exact h1
  · rw [heap_alloc_old _ _ (by simp)]; exact h2
set_option maxRecDepth 100000 in
theorem aw_lists (w : World) : StAt (((w.alloc (Obj.cells #[.string ⟨#[1, 4, 0]⟩, .string ⟨#[0]⟩] 9)).alloc (Obj.cells #[.string ⟨#[0]⟩] 9)).alloc (Obj.cells #[.slice (some ⟨w.heap.size, 0, none⟩) 2 2, .slice (some ⟨w.heap.size + 1, 0, none⟩) 1 1] 67))
    (((w.alloc (Obj.cells #[.string ⟨#[1, 4, 0]⟩, .string ⟨#[0]⟩] 9)).alloc (Obj.cells #[.string ⟨#[0]⟩] 9)).alloc (Obj.cells #[.slice (some ⟨w.heap.size, 0, none⟩) 2 2, .slice (some ⟨w.heap.size + 1, 0, none⟩) 1 1] 67)).heap.size (some ⟨w.heap.size + 2, 0, none⟩) [[[1, 4, 0], [0]], [[0]]] := by
  obtain ⟨h1, h2, h3⟩ := alloc_blk3 w (Obj.cells #[.string ⟨#[1, 4, 0]⟩, .string ⟨#[0]⟩] 9) (Obj.cells #[.string ⟨#[0]⟩] 9) (Obj.cells #[.slice (some ⟨w.heap.size, 0, none⟩) 2 2, .slice (some ⟨w.heap.size + 1, 0, none⟩) 1 1] 67)
  generalize ((w.alloc (Obj.cells #[.string ⟨#[1, 4, 0]⟩, .string ⟨#[0]⟩] 9)).alloc (Obj.cells #[.string ⟨#[0]⟩] 9)).alloc (Obj.cells #[.slice (some ⟨w.heap.size, 0, none⟩) 2 2, .slice (some ⟨w.heap.size + 1, 0, none⟩) 1 1] 67) = U at *
  have r : ∀ (g e : Nat) (cs : List Value), U.heap[g]? = some (Obj.cells cs.toArray e (0, 0)) → RdB U U.heap.size 1 (some ⟨g, 0, none⟩) cs.length cs := fun g e cs h => ⟨by simp, fun _ => ⟨g, 0, rfl, blk_lt h, fun j hj => by rw [cell_blk h]; simp⟩⟩
  refine ⟨[.slice (some ⟨w.heap.size, 0, none⟩) 2 2, .slice (some ⟨w.heap.size + 1, 0, none⟩) 1 1], r _ _ _ h3, fun i hi => ?_⟩
  rcases (show i = 0 ∨ i = 1 by simp at hi; omega) with rfl | rfl
  · exact ⟨_, _, rfl, r _ _ [.string ⟨#[1, 4, 0]⟩, .string ⟨#[0]⟩] h1, Nat.le_refl _, by unfold maxLen; simp⟩
  · exact ⟨_, _, rfl, r _ _ [.string ⟨#[0]⟩] h2, Nat.le_refl _, by unfold maxLen; simp⟩

set_option maxRecDepth 100000 in
set_option maxHeartbeats 4000000 in
theorem awake15 (w : World) : Calls Try.prog 41 #[] w fun x w' => x = .returned (.bool true) ∧ Below w.heap.size w w' := by
  have hmerge : Calls Try.prog 50 #[.bool true, .slice (some ⟨w.heap.size + 2, 0, none⟩) 2 2] (((w.alloc (Obj.cells #[.string ⟨#[1, 4, 0]⟩, .string ⟨#[0]⟩] 9)).alloc (Obj.cells #[.string ⟨#[0]⟩] 9)).alloc (Obj.cells #[.slice (some ⟨w.heap.size, 0, none⟩) 2 2, .slice (some ⟨w.heap.size + 1, 0, none⟩) 1 1] 67)) fun x w' =>
      ∃ A' cap', x = .returned (.agg #[.slice A' 2 cap', .bool true]) ∧ Rd w' 1 A' 2 (Ky.aw.map sv) ∧ Below w.heap.size w w' := by
    have := merge_any _ true (some ⟨w.heap.size + 2, 0, none⟩) 2 [[[1, 4, 0], [0]], [[0]]] (aw_lists w) (by decide) (by decide)
    rw [show ([[[1, 4, 0], [0]], [[0]]] : List (List Ky.K)).flatten = [[1, 4, 0], [0], [0]] from rfl, Ky.aw_gather] at this
    refine this.mono fun x w' h => ?_
    obtain ⟨A', cap', h1, h2, h3⟩ := h
    exact ⟨A', cap', h1, h2.1, below_at ((((Below.refl w.heap.size w).alloc (Nat.le_refl _) _).alloc (by simp) _).alloc (by simp; omega) _) h3⟩
  have hprint : ∀ (u : World) (A : Option Addr) (cap : Nat), Rd u 1 A 2 (Ky.aw.map sv) → Calls Try.prog 43 #[.agg #[.slice A 2 cap, .bool true]] u fun x w' => x = .returned (.string ⟨#[1, 0, 2, 0, 1, 0, 0, 3, 1, 4, 0]⟩) ∧ Below u.heap.size u w' := fun u A cap hr => by
    have := rprint_any u A cap Ky.aw true hr (by decide) (by decide)
    rwa [Ky.aw_print] at this
  have hread : ∀ u : World, Calls Try.prog 44 #[.string ⟨#[1, 0, 2, 0, 1, 0, 0, 3, 1, 4, 0]⟩] u fun x w' => ∃ A' cap', x = .returned (.tuple #[.agg #[.slice A' 2 cap', .bool true], .int .i64 0]) ∧ Rd w' 1 A' 2 (Ky.aw.map sv) ∧ Below u.heap.size u w' := fun u => by
    have := rread_any u ⟨#[1, 0, 2, 0, 1, 0, 0, 3, 1, 4, 0]⟩ (by decide)
    rw [Ky.aw_read] at this
    refine this.mono fun x w' h => ?_
    obtain ⟨A', cap', h1, h2, h3⟩ := h
    exact ⟨A', cap', h1, h2.1, h3⟩
  have hread4 : ∀ u : World, Calls Try.prog 44 #[.string ⟨#[1, 0, 2, 0]⟩] u fun x w' => ∃ A' cap', x = .returned (.tuple #[.agg #[.slice A' 0 cap', .bool false], .int .i64 4]) ∧ Below u.heap.size u w' := fun u => by
    have := rread_any u ⟨#[1, 0, 2, 0]⟩ (by decide)
    rw [Ky.aw_read4] at this
    refine this.mono fun x w' h => ?_
    obtain ⟨A', cap', h1, h2, h3⟩ := h
    exact ⟨A', cap', h1, h3⟩
  have hreadx : ∀ u : World, Calls Try.prog 44 #[.string ⟨#[1, 0, 2, 0, 1, 0, 0, 3, 1, 4, 0, 120]⟩] u fun x w' => ∃ A' cap', x = .returned (.tuple #[.agg #[.slice A' 0 cap', .bool false], .int .i64 3]) ∧ Below u.heap.size u w' := fun u => by
    have := rread_any u ⟨#[1, 0, 2, 0, 1, 0, 0, 3, 1, 4, 0, 120]⟩ (by decide)
    rw [Ky.aw_readx] at this
    refine this.mono fun x w' h => ?_
    obtain ⟨A', cap', h1, h2, h3⟩ := h
    exact ⟨A', cap', h1, h3⟩
  have hright : ∀ (u : World) (A : Option Addr) (cap : Nat), Rd u 1 A 2 (Ky.aw.map sv) → Calls Try.prog 47 #[.agg #[.slice A 2 cap, .bool true]] u fun x w' => x = .returned (.bool true) ∧ Below u.heap.size u w' := fun u A cap hr => by
    have := rright_any u A cap Ky.aw true hr (by decide) (by decide)
    rwa [Ky.aw_right] at this
  have hsame : ∀ (u : World) (A : Option Addr) (cap : Nat) (B : Option Addr) (cap' : Nat), Rd u 1 A 2 (Ky.aw.map sv) → Rd u 1 B 2 (Ky.aw.map sv) → Calls Try.prog 49 #[.slice A 2 cap, .slice B 2 cap'] u fun x w' => x = .returned (.bool true) ∧ Below u.heap.size u w' := fun u A cap B cap' hr hr' => by
    have := same6_any u A cap Ky.aw B cap' Ky.aw hr hr' (by decide)
    rwa [decide_eq_true rfl] at this
  have HM := Lib.hid hmerge
  have HPRINT := Lib.hid hprint
  have HREAD := Lib.hid hread
  have HREAD4 := Lib.hid hread4
  have HREADX := Lib.hid hreadx
  have HRIGHT := Lib.hid hright
  have HSAME := Lib.hid hsame
  clear hmerge hprint hread hread4 hreadx hright hsame
  go_enter Try.func41, Try.ntmps41
  go_wp2_with fail
  refine HM.out.mono ?_
  rintro x w1 ⟨A1, cap1, rfl, hr1, hb1⟩
  have HB1 := Lib.hid hb1
  have HR1 := Lib.hid hr1
  clear hb1 hr1 HM
  go_upto_region 2 with fail
  obtain ⟨W2, X, hW2, hX, hBW, hXl, hXe⟩ := box_rep w1 70 A1 2 cap1 true
  rw [← hW2, ← hX]
  have HX := Lib.hid hXe
  have HB2 := Lib.hid (below_at HB1.out hBW)
  have HR2 := Lib.hid (HR1.out.below hBW (Nat.le_refl _))
  obtain ⟨x0, x1, xl⟩ := hXe W2 (Below.refl _ _)
  clear hW2 hX hBW hXe hXl
  go_wp2_with fail
  refine (HPRINT.out W2 A1 cap1 HR2.out).mono ?_
  rintro x w3 ⟨rfl, b3⟩
  have HB3 := Lib.hid (below_at HB2.out b3)
  have HF3 := Lib.hid b3
  clear b3 x0 x1 xl
  go_wp2_with fail
  refine (HREAD.out w3).mono ?_
  rintro x w4 ⟨A4, cap4, rfl, hr4, b4⟩
  have HB4 := Lib.hid (below_at HB3.out b4)
  have HF4 := Lib.hid (below_at HF3.out b4)
  have HR4 := Lib.hid hr4
  clear b4 hr4
  go_upto_region 4 with fail
  obtain ⟨W5, Y, hW5, hY, hBW, hYl, hYe⟩ := box_rep w4 70 A4 2 cap4 true
  rw [← hW5, ← hY]
  have HY := Lib.hid hYe
  have HB5 := Lib.hid (below_at HB4.out hBW)
  have HF5 := Lib.hid (below_at HF4.out hBW)
  have HR5 := Lib.hid (HR4.out.below hBW (Nat.le_refl _))
  clear hW5 hY hBW hYe hYl
  go_wp2_with fail
  rw [show (⟨#[1, 0, 2, 0, 1, 0, 0, 3, 1, 4, 0]⟩ : ByteArray).extract 0 (min (11 : Int) 4).toNat = ⟨#[1, 0, 2, 0]⟩ by rfl]
  refine (HREAD4.out W5).mono ?_
  rintro x w6 ⟨A6, cap6, rfl, b6⟩
  have HB6 := Lib.hid (below_at HB5.out b6)
  have HF6 := Lib.hid (below_at HF5.out b6)
  have HY6 := Lib.hid b6
  clear b6
  go_upto_region 5 with fail
  obtain ⟨W7, Z, hW7, hZ, hBW, hZl, hZe⟩ := box_rep w6 70 A6 0 cap6 false
  rw [← hW7, ← hZ]
  have HB7 := Lib.hid (below_at HB6.out hBW)
  have HF7 := Lib.hid (below_at HF6.out hBW)
  have HY7 := Lib.hid (below_at HY6.out hBW)
  clear hW7 hZ hBW hZe hZl
  go_wp2_with fail
  rw [show (⟨#[1, 0, 2, 0, 1, 0, 0, 3, 1, 4, 0]⟩ ++ ⟨#[120]⟩ : ByteArray) = ⟨#[1, 0, 2, 0, 1, 0, 0, 3, 1, 4, 0, 120]⟩ by rfl]
  refine (HREADX.out W7).mono ?_
  rintro x w8 ⟨A8, cap8, rfl, b8⟩
  have HB8 := Lib.hid (below_at HB7.out b8)
  have HF8 := Lib.hid (below_at HF7.out b8)
  have HY8 := Lib.hid (below_at HY7.out b8)
  clear b8
  go_upto_region 6 with fail
  obtain ⟨W9, Q, hW9, hQ, hBW, hQl, hQe⟩ := box_rep w8 70 A8 0 cap8 false
  rw [← hW9, ← hQ]
  have HB9 := Lib.hid (below_at HB8.out hBW)
  have HF9 := Lib.hid (below_at HF8.out hBW)
  have HY9 := Lib.hid (below_at HY8.out hBW)
  clear hW9 hQ hBW hQe hQl
  obtain ⟨x0, x1, xl⟩ := HX.out W9 HF9.out
  obtain ⟨y0, y1, yl⟩ := HY.out W9 HY9.out
  have HS := Lib.hid (HSAME.out W9 A4 cap4 A1 cap1 (HR5.out.below HY9.out (Nat.le_refl _)) (HR2.out.below HF9.out (Nat.le_refl _)))
  go_wp2_with fail
  refine HS.out.mono ?_
  rintro x w10 ⟨rfl, b10⟩
  have HB10 := Lib.hid (below_at HB9.out b10)
  have HF10 := Lib.hid (below_at HF9.out b10)
  have HY10 := Lib.hid (below_at HY9.out b10)
  clear b10 x0 x1 xl y0 y1 yl
  obtain ⟨x0, x1, xl⟩ := HX.out w10 HF10.out
  obtain ⟨y0, y1, yl⟩ := HY.out w10 HY10.out
  have HRG := Lib.hid (HRIGHT.out w10 A1 cap1 (HR2.out.below HF10.out (Nat.le_refl _)))
  go_wp2_with fail
  refine HRG.out.mono ?_
  rintro x w11 ⟨rfl, b11⟩
  have HB11 := Lib.hid (below_at HB10.out b11)
  clear b11 x0 x1 xl y0 y1 yl
  go_wp2_with fail
  have hrx : Calls Try.prog 47 #[.agg #[.slice (some ⟨w11.heap.size, 0, none⟩) 1 1, .bool false]] (w11.alloc (Obj.cells #[.string ⟨#[120]⟩] 9)) fun x w' => x = .returned (.bool false) ∧ Below w.heap.size w w' := by
    have hrow : Rd (w11.alloc (Obj.cells #[.string ⟨#[120]⟩] 9)) 1 (some ⟨w11.heap.size, 0, none⟩) 1 (([[120]] : List Ky.K).map sv) := by
      refine ⟨rfl, fun _ => ⟨_, 0, rfl, by simp, fun j hj => ?_⟩⟩
      rw [cell_blk (heap_alloc_new w11 _)]
      obtain rfl : j = 0 := by omega
      rfl
    have := rright_any _ (some ⟨w11.heap.size, 0, none⟩) 1 [[120]] false hrow (by decide) (by decide)
    rw [Ky.aw_x] at this
    exact this.mono fun x w' h => ⟨h.1, below_at (HB11.out.alloc HB11.out.size _) h.2⟩
  refine hrx.mono ?_
  rintro x w12 ⟨rfl, b12⟩
  have HB12 := Lib.hid b12
  have hm2 : Calls Try.prog 50 #[.bool false, .slice none 0 0] w12 fun x w' => ∃ A' cap', x = .returned (.agg #[.slice A' 0 cap', .bool false]) ∧ Rd w' 1 A' 0 (([] : List Ky.K).map sv) ∧ Below w12.heap.size w12 w' := by
    have := merge_any w12 false none 0 [] ⟨[], ⟨rfl, fun h => by simp at h⟩, fun i hi => (by cases hi)⟩ (by decide) (by decide)
    refine this.mono fun x w' h => ?_
    obtain ⟨A', cap', h1, h2, h3⟩ := h
    exact ⟨A', cap', h1, h2.1, h3⟩
  have HM2 := Lib.hid hm2
  clear hrx b12 hm2
  go_wp2_with fail
  refine HM2.out.mono ?_
  rintro x w13 ⟨A13, cap13, rfl, hr13, b13⟩
  have HB13 := Lib.hid (below_at HB12.out b13)
  have hp2 : Calls Try.prog 43 #[.agg #[.slice A13 0 cap13, .bool false]] w13 fun x w' => x = .returned (.string ⟨#[0, 0, 0]⟩) ∧ Below w13.heap.size w13 w' := by
    have := rprint_any w13 A13 cap13 [] false hr13 (by decide) (by decide)
    rwa [show Ky.printK [] false = [0, 0, 0] by kernel_rfl] at this
  have HP2 := Lib.hid hp2
  clear b13 hr13 hp2
  go_wp2_with fail
  refine HP2.out.mono ?_
  rintro x w14 ⟨rfl, b14⟩
  have HB14 := Lib.hid (below_at HB13.out b14)
  clear b14
  go_wp2_with fail
  go_ret
  exact ⟨by first | rfl | simp, HB14.out⟩
end Go.Proofs.Ytgahjibjladafaa
