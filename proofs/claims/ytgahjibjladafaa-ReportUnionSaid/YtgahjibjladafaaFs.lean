/- awake: the plain facts; the walk is to come. -/
import Derived.Test.YtgahjibjladafaaFr
namespace Go.Proofs.Ytgahjibjladafaa
open Go.RowKit
set_option linter.unusedVariables false

namespace Fo
def aw : List Ev := [⟨1, 1, 0, false⟩, ⟨0, 1, 0, false⟩, ⟨0, 3, 0, false⟩]
theorem aw_lev : levR aw = [[⟨0, 1, 0, false⟩, ⟨1, 1, 0, false⟩], [⟨0, 3, 0, false⟩]] := by kernel_rfl
theorem aw_key : key aw = [2, 4, 5, 1, 12, 0] := by kernel_rfl
theorem aw_read : readL [2, 4, 5, 1, 12, 0] = some [[⟨0, 1, 0, false⟩, ⟨1, 1, 0, false⟩], [⟨0, 3, 0, false⟩]] := by kernel_rfl
theorem aw_nil : readL [] = none := rfl
theorem aw_key0 : key [] = [0] := by kernel_rfl
theorem aw_key1 : key [⟨0, 0, 0, false⟩] = [] := by kernel_rfl
theorem aw_print : printL [[]] = [] := by kernel_rfl
end Fo

set_option maxRecDepth 100000 in
set_option maxHeartbeats 4000000 in
theorem awake05 (w : World) : Calls Try.prog 12 #[] w fun x w' => x = .returned (.bool true) ∧ Below w.heap.size w w' := by
  obtain ⟨W, hW⟩ : ∃ W, W = w.alloc (Obj.cells #[.int .i64 1, .int .i64 1, .int .i64 0, .bool false, .int .i64 0, .int .i64 1, .int .i64 0, .bool false, .int .i64 0, .int .i64 3, .int .i64 0, .bool false] 39) := ⟨_, rfl⟩
  obtain ⟨X, hX⟩ : ∃ X, X = w.heap.size := ⟨_, rfl⟩
  have hk : W.heap[X]? = some (.cells #[.int .i64 1, .int .i64 1, .int .i64 0, .bool false, .int .i64 0, .int .i64 1, .int .i64 0, .bool false, .int .i64 0, .int .i64 3, .int .i64 0, .bool false] 39 (0, 0)) := by rw [hW, hX]; exact heap_alloc_new w _
  have hb : Below w.heap.size w W := by rw [hW]; exact (Below.refl _ _).alloc (Nat.le_refl _) _
  have hrow : Row W 39 4 (some ⟨X, 0, none⟩) 3 3 (Fo.aw.flatMap encE) := ⟨rfl, Nat.le_refl _, by unfold maxLen; omega, fun h => (by cases h), fun a ha => by injection ha with ha; subst ha; exact ⟨rfl, _, hk, by simp, by simp [Fo.aw, encE]⟩⟩
  have hrd : Rd W 4 (some ⟨X, 0, none⟩) Fo.aw.length (Fo.aw.flatMap encE) := hrow.rd
  have hlev : ∀ u, Below W.heap.size W u → Calls Try.prog 13 #[.slice (some ⟨X, 0, none⟩) 3 3] u (LvOut u [[⟨0, 1, 0, false⟩, ⟨1, 1, 0, false⟩], [⟨0, 3, 0, false⟩]]) := fun u hu => by
    have := levels_any u (some ⟨X, 0, none⟩) 3 Fo.aw (hrd.below hu (Nat.le_refl _)) (by decide)
    rw [Fo.aw_lev] at this
    exact this
  have hkey : ∀ u, Below W.heap.size W u → Calls Try.prog 14 #[.slice (some ⟨X, 0, none⟩) 3 3] u fun x w' => x = .returned (.string ⟨#[2, 4, 5, 1, 12, 0]⟩) ∧ Below u.heap.size u w' := fun u hu => by
    have := fkey_any u (some ⟨X, 0, none⟩) 3 Fo.aw (hrd.below hu (Nat.le_refl _)) (by decide)
    rw [Fo.aw_key] at this
    exact this
  have hread : ∀ u, Calls Try.prog 18 #[.string ⟨#[2, 4, 5, 1, 12, 0]⟩] u (ReadOut u [2, 4, 5, 1, 12, 0]) := fun u => fread_any u ⟨#[2, 4, 5, 1, 12, 0]⟩ (by decide)
  have hread0 : ∀ u, Calls Try.prog 18 #[.string ⟨#[]⟩] u (ReadOut u []) := fun u => fread_any u ⟨#[]⟩ (by decide)
  have HLEV := Lib.hid hlev
  have HKEY := Lib.hid hkey
  have HREAD := Lib.hid hread
  have HREAD0 := Lib.hid hread0
  have HB := Lib.hid hb
  clear hk hrow hrd hlev hkey hread hread0 hb
  go_enter Try.func12, Try.ntmps12
  go_upto_region 2 with fail
  rw [← hW, ← hX]
  have HX := Lib.hid hX
  clear hW hX
  go_wp2_with fail
  refine (HLEV.out _ (Below.refl _ _)).mono ?_
  rintro x w1 ⟨A1, cap1, rfl, hlv, hb1⟩
  have HLV1 := Lib.hid hlv
  have HB1 := Lib.hid hb1
  clear hlv hb1
  go_wp2_with fail
  refine (HKEY.out _ HB1.out).mono ?_
  rintro x w2 ⟨rfl, hb2⟩
  have HB2 := Lib.hid (below_at HB1.out hb2)
  have HLV2 := Lib.hid ((HLV1.out.below hb2).mono hb2.size)
  clear hb2
  go_wp2_with fail
  refine (HREAD.out _).mono ?_
  rintro x w3 (⟨A3, cap3, L3, h3, rfl, hlv3, hb3⟩ | ⟨h3, _⟩)
  case inr => rw [Fo.aw_read] at h3; cases h3
  rw [Fo.aw_read] at h3
  obtain rfl := Option.some.inj h3
  have HB3 := Lib.hid (below_at HB2.out hb3)
  have HLV3 := Lib.hid ((HLV2.out.below hb3).mono hb3.size)
  have HL3 := Lib.hid hlv3
  clear hb3 hlv3 h3
  go_wp2_with fail
  refine (HREAD0.out _).mono ?_
  rintro x w4 (⟨A4, cap4, L4, h4, _⟩ | ⟨_, rfl, hb4⟩)
  case inl => rw [Fo.aw_nil] at h4; cases h4
  have HB4 := Lib.hid (below_at HB3.out hb4)
  have HLV4 := Lib.hid ((HLV3.out.below hb4).mono hb4.size)
  have HL4 := Lib.hid ((HL3.out.below hb4).mono hb4.size)
  clear hb4
  obtain ⟨g, o, A', c', rfl, hg, hP, hcl⟩ := HLV4.out.cell 0 (by decide)
  have v0 := hcl w4 (Below.refl _ _)
  obtain ⟨g', o', rfl, hg', hcl'⟩ := evs_cell hP 0 (by decide)
  obtain ⟨u0, u1, u2, u3⟩ := hcl' w4 (Below.refl _ _)
  simp only [List.getElem_cons_zero, List.length_cons, List.length_nil, Nat.zero_mul, Nat.add_zero, Nat.zero_add, Nat.reduceAdd] at v0 u0
  have hsame := same_any w4 (some ⟨g, o, none⟩) cap1 _ A3 cap3 _ HLV4.out HL4.out (by decide) (by decide)
  have hrow5 : ∀ u, Below w4.heap.size w4 u → Calls Try.prog 20 #[.slice (some ⟨g, o, none⟩) 2 cap1] u (RowOut u [⟨0, 1, 0, false⟩, ⟨1, 1, 0, false⟩, ⟨0, 3, 0, false⟩]) := fun u hu => frow_any u (some ⟨g, o, none⟩) cap1 _ ((HLV4.out.below hu).mono hu.size) (by decide) (by decide)
  have HS := Lib.hid hsame
  have HR5 := Lib.hid hrow5
  clear hsame hrow5 hcl hcl' hP u1 u2 u3
  have hs : Calls Try.prog 15 #[.slice (some ⟨g, o, none⟩) 2 cap1, .slice A3 2 cap3] w4 fun x w' => x = .returned (.bool true) ∧ Below w4.heap.size w4 w' := by
    have := HS.out
    rw [decide_eq_true rfl] at this
    exact this
  have HS2 := Lib.hid hs
  clear hs HS
  go_wp2_with fail
  refine HS2.out.mono ?_
  rintro x w5 ⟨rfl, hb5⟩
  have hr := HR5.out w5 hb5
  have HB5 := Lib.hid (below_at HB4.out hb5)
  have HR6 := Lib.hid hr
  clear hr hb5
  go_wp2_with fail
  refine HR6.out.mono ?_
  rintro x w6 ⟨A6, cap6, rfl, _, hb6⟩
  have HB6 := Lib.hid (below_at HB5.out hb6)
  clear hb6
  have hk0 : Calls Try.prog 14 #[.slice none 0 0] w6 fun x w' => x = .returned (.string ⟨#[0]⟩) ∧ Below w6.heap.size w6 w' := by
    have := fkey_any w6 none 0 [] ⟨rfl, fun h => by simp at h⟩ (by decide)
    rw [Fo.aw_key0] at this
    exact this
  have hk1 : ∀ u : World, Calls Try.prog 14 #[.slice (some ⟨u.heap.size, 0, none⟩) 1 1] (u.alloc (Obj.cells #[.int .i64 0, .int .i64 0, .int .i64 0, .bool false] 39)) fun x w' => x = .returned (.string ⟨#[]⟩) ∧ Below (u.alloc (Obj.cells #[.int .i64 0, .int .i64 0, .int .i64 0, .bool false] 39)).heap.size (u.alloc (Obj.cells #[.int .i64 0, .int .i64 0, .int .i64 0, .bool false] 39)) w' := fun u => by
    have hrow : Row (u.alloc (Obj.cells #[.int .i64 0, .int .i64 0, .int .i64 0, .bool false] 39)) 39 4 (some ⟨u.heap.size, 0, none⟩) 1 1 [.int .i64 0, .int .i64 0, .int .i64 0, .bool false] := ⟨rfl, Nat.le_refl _, by unfold maxLen; omega, fun h => (by cases h), fun a ha => by injection ha with ha; subst ha; exact ⟨rfl, _, heap_alloc_new u _, by simp, by simp⟩⟩
    have := fkey_any (u.alloc (Obj.cells #[.int .i64 0, .int .i64 0, .int .i64 0, .bool false] 39)) (some ⟨u.heap.size, 0, none⟩) 1 [⟨0, 0, 0, false⟩] hrow.rd (by decide)
    rw [Fo.aw_key1] at this
    exact this
  have HK0 := Lib.hid hk0
  have HK1 := Lib.hid hk1
  clear hk0 hk1
  go_wp2_with fail
  refine HK0.out.mono ?_
  rintro x w7 ⟨rfl, hb7⟩
  have HB7 := Lib.hid (below_at HB6.out hb7)
  clear hb7
  go_wp2_with fail
  refine (HK1.out w7).mono ?_
  rintro x w8 ⟨rfl, hb8⟩
  have HB8 := Lib.hid (below_at (HB7.out.alloc HB7.out.size (Obj.cells #[.int .i64 0, .int .i64 0, .int .i64 0, .bool false] 39)) hb8)
  clear hb8
  have hpr : Calls Try.prog 22 #[.slice (some ⟨w8.heap.size + 1, 0, none⟩) 1 1] ((w8.alloc (Obj.cells #[] 39)).alloc (Obj.cells #[.slice (some ⟨w8.heap.size, 0, none⟩) 0 0] 22)) fun x w' => x = .returned (.string ⟨#[]⟩) ∧ Below ((w8.alloc (Obj.cells #[] 39)).alloc (Obj.cells #[.slice (some ⟨w8.heap.size, 0, none⟩) 0 0] 22)).heap.size ((w8.alloc (Obj.cells #[] 39)).alloc (Obj.cells #[.slice (some ⟨w8.heap.size, 0, none⟩) 0 0] 22)) w' := by
    obtain ⟨u, hu⟩ : ∃ u, u = w8.alloc (Obj.cells #[] 39) := ⟨_, rfl⟩
    have hsz : w8.heap.size + 1 = u.heap.size := by rw [hu]; simp
    rw [← hu, hsz]
    have hrow : Row (u.alloc (Obj.cells #[.slice (some ⟨w8.heap.size, 0, none⟩) 0 0] 22)) 22 1 (some ⟨u.heap.size, 0, none⟩) 1 1 [.slice (some ⟨w8.heap.size, 0, none⟩) 0 0] := ⟨rfl, Nat.le_refl _, by unfold maxLen; omega, fun h => (by cases h), fun a ha => by injection ha with ha; subst ha; exact ⟨rfl, _, heap_alloc_new u _, by simp, by simp⟩⟩
    have := fprint_any (u.alloc (Obj.cells #[.slice (some ⟨w8.heap.size, 0, none⟩) 0 0] 22)) (some ⟨u.heap.size, 0, none⟩) 1 [[]] ⟨_, hrow.rd.toB, fun i hi => by
      obtain rfl : i = 0 := by simp at hi; exact hi
      exact ⟨some ⟨w8.heap.size, 0, none⟩, 0, rfl, ⟨rfl, fun h => by simp at h⟩, Nat.le_refl _, Nat.zero_le _⟩⟩ (by decide) (by decide)
    rw [Fo.aw_print] at this
    exact this
  have HPR := Lib.hid hpr
  have HB9 := Lib.hid ((HB8.out.alloc HB8.out.size (Obj.cells #[] 39)).alloc (by have := HB8.out.size; simp; omega) (Obj.cells #[.slice (some ⟨w8.heap.size, 0, none⟩) 0 0] 22))
  clear hpr
  go_wp2_with fail
  refine HPR.out.mono ?_
  rintro x w9 ⟨rfl, hb9⟩
  have HB10 := Lib.hid (below_at HB9.out hb9)
  clear hb9
  go_wp2_with fail
  go_ret
  exact ⟨rfl, below_at HB.out HB10.out⟩
end Go.Proofs.Ytgahjibjladafaa
