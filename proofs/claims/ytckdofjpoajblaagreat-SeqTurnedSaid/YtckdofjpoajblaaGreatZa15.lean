/- Part 15 of the proof of seqExact_holds: what it rests on. -/
import Derived.Test.YtckdofjpoajblaaGreatZa14
namespace Go.Proofs.YtckdofjpoajblaaGreat
open Go.RowKit Bs
set_option linter.unusedVariables false
set_option maxRecDepth 100000 in
set_option maxHeartbeats 4000000 in
theorem explore_bad (w : World) (p : Pg) (A : Option Addr) (cap : Nat) (f b : Int) (OA : Option Addr) (on oc : Nat) (hp : PgIn w p A) (hbad : ¬ (Pr.Ok p ∧ 0 ≤ f ∧ f ≤ 8)) :
    Calls Tryz.prog 36 #[valP p A cap, .int .i64 f, .int .i64 b, .slice OA on oc] w fun x w' => x = .returned (.tuple #[.agg #[.slice none 0 0, .int .i64 0, .int .i64 0, .int .i64 0, .bool false], .int .i64 1]) ∧ Below w.heap.size w w' := by
  obtain ⟨X0, hX0⟩ : ∃ z, z = w.heap.size := ⟨_, rfl⟩
  obtain ⟨W1, hW1⟩ : ∃ z, z = w.alloc (Obj.cells #[.int .i64 p.vars, .int .i64 p.mtx, .slice A p.code.length cap] 24) := ⟨_, rfl⟩
  obtain ⟨W2, hW2⟩ : ∃ z, z = W1.alloc (Obj.cells #[.slice none 0 0, .int .i64 0, .int .i64 0, .int .i64 0, .bool false] 60) := ⟨_, rfl⟩
  have z1 : W1.heap.size = X0 + 1 := by rw [hW1, World.size_alloc, hX0]
  have b1 : Below w.heap.size w W1 := by rw [hW1]; exact (Below.refl _ _).alloc (Nat.le_refl _) _
  have b2 : Below W1.heap.size W1 W2 := by rw [hW2]; exact (Below.refl _ _).alloc (Nat.le_refl _) _
  have b12 := below_at b1 b2
  have hXk : W2.heap[X0]? = some (.cells #[.int .i64 p.vars, .int .i64 p.mtx, .slice A p.code.length cap] 24 (0, 0)) := by
    refine (b2.block _ (by omega)).trans ?_
    rw [hW1, hX0]; exact heap_alloc_new w _
  have hZk : W2.heap[X0 + 1]? = some (.cells #[.slice none 0 0, .int .i64 0, .int .i64 0, .int .i64 0, .bool false] 60 (0, 0)) := by rw [hW2, ← z1]; exact heap_alloc_new W1 _
  have hp2 := hp.below b12
  have hnew := new_bad W2 p A cap f hp2.1 hp2.2.1 hp2.2.2 hbad
  unfold valP at hnew ⊢
  have x0 : W2.cell? ⟨X0, 0, none⟩ = some (.int .i64 p.vars) := cell_blk hXk 0
  have x1 : W2.cell? ⟨X0, 1, none⟩ = some (.int .i64 p.mtx) := cell_blk hXk 1
  have x2 : W2.cell? ⟨X0, 2, none⟩ = some (.slice A p.code.length cap) := cell_blk hXk 2
  have xl := blk_lt hXk
  have HNEW := Lib.hid hnew
  have HB := Lib.hid b12
  have HZ := Lib.hid hZk
  have HX0 := Lib.hid hX0
  clear hp hp2 hbad b1 b2 b12 z1 hXk hZk hnew
  go_enter Tryz.func36, Tryz.ntmps36
  go_upto_region 1 with fail
  rw [← hX0, ← hW1, ← hW2]
  clear hX0 hW1 hW2
  go_wp2_with fail
  refine HNEW.out.mono ?_
  rintro y w3 ⟨rfl, b3⟩
  have hZ3 := blk_stepW HZ.out b3
  have z0 : w3.cell? ⟨X0 + 1, 0, none⟩ = some (.slice none 0 0) := cell_blk hZ3 0
  have z1 : w3.cell? ⟨X0 + 1, 1, none⟩ = some (.int .i64 0) := cell_blk hZ3 1
  have z2 : w3.cell? ⟨X0 + 1, 2, none⟩ = some (.int .i64 0) := cell_blk hZ3 2
  have z3 : w3.cell? ⟨X0 + 1, 3, none⟩ = some (.int .i64 0) := cell_blk hZ3 3
  have z4 : w3.cell? ⟨X0 + 1, 4, none⟩ = some (.bool false) := cell_blk hZ3 4
  have zl := blk_lt hZ3
  have g0 := free_blk hZ3 0
  have g1 := free_blk hZ3 1
  have g2 := free_blk hZ3 2
  have g3 := free_blk hZ3 3
  have g4 := free_blk hZ3 4
  obtain ⟨V2, hV2, d0, d1, d2, d3, d4, hmv⟩ := five_exit hZ3 (.slice none 0 0) (.int .i64 0) (.int .i64 0) (.int .i64 0) (.bool false)
  have HV2 := Lib.hid hV2
  have HMV := Lib.hid hmv
  have HB3 := Lib.hid (below_at HB.out b3)
  clear hV2 hmv hZ3 b3 x0 x1 x2 xl HNEW
  go_wp2_with fail
  rw [← HV2.out]
  refine bodyPost_ret (v := .tuple #[.agg #[.slice none 0 0, .int .i64 0, .int .i64 0, .int .i64 0, .bool false], .int .i64 1]) (by simp [results, Tryz.results36, go_sem, d0, d1, d2, d3, d4]) rfl ?_
  exact ⟨rfl, HB3.out.trans (HMV.out.below _ HB3.out.size (fun k hk e => by have := HX0.out; omega))⟩
namespace Aw9
def ld : Ins := ⟨1, 0, 0, 0⟩
def st : Ins := ⟨2, 0, 0, 0⟩
def pg (i : Ins) : Pg := ⟨1, 0, [[i], [i]]⟩
theorem a1 : (Pr.explX (Pr.start (pg ld) 1) 100 []).1.nodes = 3 := by kernel_rfl
theorem a2 : (Pr.explX (Pr.start (pg ld) 1) 100 []).1.runs = 1 := by kernel_rfl
theorem a3 : (Pr.explX (Pr.start (pg ld) 1) 100 []).2 = true := by kernel_rfl
theorem b1 : (Pr.explX (Pr.start (pg st) 1) 100 []).1.runs = 2 := by kernel_rfl
theorem b2 : (Pr.explX (Pr.start (pg st) 1) 100 []).2 = true := by kernel_rfl
theorem c1 : (Pr.explX (Pr.start (pg st) 1) 2 []).2 = false := by kernel_rfl
theorem c2 : (Pr.explX (Pr.start (pg st) 1) 2 []).1.nodes = 2 := by kernel_rfl
theorem okL : Pr.Ok (pg ld) := by decide
theorem okS : Pr.Ok (pg st) := by decide
end Aw9
theorem aw_exp (u : World) (i : Ins) (A : Option Addr) (hr : Rd u 4 A 1 ([i].flatMap encI)) (b : Nat) (hb1 : 1 ≤ b) (hb : b ≤ 1000) (hok : Pr.Ok (Aw9.pg i)) :
    Calls Tryz.prog 36 #[.agg #[.int .i64 1, .int .i64 0, .slice (some ⟨u.heap.size, 0, none⟩) 2 2], .int .i64 1, .int .i64 (b : Int), .slice none 0 0] (u.alloc (Obj.cells #[.slice A 1 1, .slice A 1 1] 67)) fun x w' =>
      (∃ KA kc, ∃ n3 : Int, x = .returned (.tuple #[.agg #[.slice KA (Pr.explX (Pr.start (Aw9.pg i) 1) b []).1.runs kc, .int .i64 ((Pr.explX (Pr.start (Aw9.pg i) 1) b []).1.nodes : Int), .int .i64 ((Pr.explX (Pr.start (Aw9.pg i) 1) b []).1.runs : Int), .int .i64 n3, .bool (Pr.explX (Pr.start (Aw9.pg i) 1) b []).2], .int .i64 0])) ∧ Below u.heap.size u w' := by
  have hp := pgin_two u 1 0 [i] [i] A A 1 1 hr hr (Nat.le_refl _) (Nat.le_refl _) (by simp [maxLen]) (by simp [maxLen])
  have h := explore_ok _ (Aw9.pg i) _ 2 1 b none 0 [] hp (by decide) hok hb ⟨rfl, fun h => by simp at h⟩ (fun b hb => by cases hb) (by simp)
  rw [show max b 1 = b by omega] at h
  refine h.mono ?_
  rintro x w' ⟨KA, kc, rfl, _, _, hb'⟩
  have hr' := (Pr.expl_ok (Pr.start_wf hok (by decide : 1 ≤ 8)) (Pr.fuels_start hok (by decide : 1 ≤ 8)) b [] hb1).runs
  refine ⟨⟨KA, kc, _, by rw [← hr']⟩, ?_⟩
  exact ((Below.refl u.heap.size u).alloc (Nat.le_refl _) _).trans (hb'.mono (by simp))
theorem aw_row (u : World) (i : Ins) : Rd (u.alloc (Obj.cells #[.int .i64 i.k, .int .i64 i.r, .int .i64 i.x, .int .i64 i.n] 98)) 4 (some ⟨u.heap.size, 0, none⟩) 1 ([i].flatMap encI) := by
  have hk := heap_alloc_new u (Obj.cells #[.int .i64 i.k, .int .i64 i.r, .int .i64 i.x, .int .i64 i.n] 98)
  refine ⟨rfl, fun _ => ⟨_, 0, rfl, blk_lt hk, fun j hj => ?_⟩⟩
  rw [cell_blk hk]
  rcases (show j = 0 ∨ j = 1 ∨ j = 2 ∨ j = 3 by omega) with rfl | rfl | rfl | rfl <;> rfl
theorem rep_box (u : World) (a0 a1 a2 a3 a4 : Value) : ∃ W X, W = u.alloc (Obj.cells #[a0, a1, a2, a3, a4] 60) ∧ X = u.heap.size ∧ Below u.heap.size u W ∧ ∀ v, Below W.heap.size W v → (v.cell? ⟨X, 0, none⟩ = some a0 ∧ v.cell? ⟨X, 1, none⟩ = some a1 ∧ v.cell? ⟨X, 2, none⟩ = some a2 ∧ v.cell? ⟨X, 3, none⟩ = some a3 ∧ v.cell? ⟨X, 4, none⟩ = some a4) ∧ X < v.heap.size := by
  refine ⟨_, _, rfl, rfl, (Below.refl _ _).alloc (Nat.le_refl _) _, fun v hv => ?_⟩
  have hk := heap_alloc_new u (Obj.cells #[a0, a1, a2, a3, a4] 60)
  have hk' := (hv.block _ (blk_lt hk)).trans hk
  exact ⟨⟨cell_blk hk' 0, cell_blk hk' 1, cell_blk hk' 2, cell_blk hk' 3, cell_blk hk' 4⟩, blk_lt hk'⟩
set_option maxRecDepth 100000 in
set_option maxHeartbeats 8000000 in
theorem awake09 (w : World) : Calls Tryz.prog 35 #[] w fun x w' => x = .returned (.bool true) ∧ Below w.heap.size w w' := by
  obtain ⟨V0, hV0⟩ : ∃ z, z = w.alloc (Obj.cells #[.int .i64 1, .int .i64 0, .int .i64 0, .int .i64 0] 98) := ⟨_, rfl⟩
  obtain ⟨V, hV⟩ : ∃ z, z = V0.alloc (Obj.cells #[.int .i64 2, .int .i64 0, .int .i64 0, .int .i64 0] 98) := ⟨_, rfl⟩
  obtain ⟨L, hL⟩ : ∃ z, z = w.heap.size := ⟨_, rfl⟩
  have z0 : V0.heap.size = L + 1 := by rw [hV0, World.size_alloc, hL]
  have bV0 : Below w.heap.size w V0 := by rw [hV0]; exact (Below.refl _ _).alloc (Nat.le_refl _) _
  have bV1 : Below V0.heap.size V0 V := by rw [hV]; exact (Below.refl _ _).alloc (Nat.le_refl _) _
  have bV := below_at bV0 bV1
  have r1 : Rd V 4 (some ⟨L, 0, none⟩) 1 ([Aw9.ld].flatMap encI) := by
    refine Rd.below ?_ bV1 (Nat.le_refl _)
    rw [hV0, hL]
    exact aw_row w Aw9.ld
  have r2 : Rd V 4 (some ⟨L + 1, 0, none⟩) 1 ([Aw9.st].flatMap encI) := by
    rw [hV, ← z0]
    exact aw_row V0 Aw9.st
  have eL := fun (u : World) (hu : Below V.heap.size V u) => aw_exp u Aw9.ld _ (r1.below hu (Nat.le_refl _)) 100 (by omega) (by omega) Aw9.okL
  rw [Aw9.a1, Aw9.a2, Aw9.a3] at eL
  have eS := fun (u : World) (hu : Below V.heap.size V u) => aw_exp u Aw9.st _ (r2.below hu (Nat.le_refl _)) 100 (by omega) (by omega) Aw9.okS
  rw [Aw9.b1, Aw9.b2] at eS
  have eT := fun (u : World) (hu : Below V.heap.size V u) => aw_exp u Aw9.st _ (r2.below hu (Nat.le_refl _)) 2 (by omega) (by omega) Aw9.okS
  rw [Aw9.c1, Aw9.c2] at eT
  obtain ⟨n4, hn4⟩ : ∃ z, z = (Pr.explX (Pr.start (Aw9.pg Aw9.st) 1) 100 []).1.nodes := ⟨_, rfl⟩
  obtain ⟨n5, hn5⟩ : ∃ z, z = (Pr.explX (Pr.start (Aw9.pg Aw9.st) 1) 2 []).1.runs := ⟨_, rfl⟩
  rw [← hn4] at eS
  rw [← hn5] at eT
  have eZ := fun (u : World) => explore_bad u ⟨0, 0, []⟩ none 0 1 100 none 0 0 ⟨⟨[], ⟨rfl, fun h => by simp at h⟩, fun i q hi => by simp at hi⟩, by simp [maxLen], fun q hq => by simp at hq⟩ (by decide)
  unfold valP at eZ
  have HE1 := Lib.hid eL
  have HE2 := Lib.hid eS
  have HE3 := Lib.hid eZ
  have HE4 := Lib.hid eT
  have HBV := Lib.hid bV
  clear eL eS eT eZ bV bV0 bV1 r1 r2 z0 hn4 hn5
  go_enter Tryz.func35, Tryz.ntmps35
  go_upto_region 2 with fail
  rw [← hL, ← hV0, ← hV]
  clear hL hV0 hV
  go_wp2_with fail
  refine (HE1.out V (Below.refl _ _)).mono ?_
  rintro y w1 ⟨⟨K1, c1, m1, rfl⟩, b1⟩
  obtain ⟨W1, X1, hW1, hX1, hb1, hl1⟩ := rep_box w1 (.slice K1 1 c1) (.int .i64 3) (.int .i64 1) (.int .i64 m1) (.bool true)
  have HB1 := Lib.hid (below_at b1 hb1)
  have HL1 := Lib.hid hl1
  clear b1 hb1 hl1 HE1
  go_upto_region 3 with fail
  rw [← hW1, ← hX1]
  clear hW1 hX1
  go_wp2_with fail
  refine (HE2.out W1 HB1.out).mono ?_
  rintro y w2 ⟨⟨K2, c2, m2, rfl⟩, b2⟩
  obtain ⟨W2, X2, hW2, hX2, hb2, hl2⟩ := rep_box w2 (.slice K2 2 c2) (.int .i64 (n4 : Int)) (.int .i64 2) (.int .i64 m2) (.bool true)
  have HB2 := Lib.hid (below_at b2 hb2)
  have HL2 := Lib.hid hl2
  clear b2 hb2 hl2 HE2
  go_upto_region 4 with fail
  rw [← hW2, ← hX2]
  clear hW2 hX2
  go_wp2_with fail
  refine (HE3.out W2).mono ?_
  rintro y w3 ⟨rfl, b3⟩
  obtain ⟨W3, X3, hW3, hX3, hb3, hl3⟩ := rep_box w3 (.slice none 0 0) (.int .i64 0) (.int .i64 0) (.int .i64 0) (.bool false)
  have HB3 := Lib.hid (below_at b3 hb3)
  clear b3 hb3 hl3 HE3
  go_upto_region 5 with fail
  rw [← hW3, ← hX3]
  clear hW3 hX3
  go_wp2_with fail
  refine (HE4.out W3 (below_at (below_at HB1.out HB2.out) HB3.out)).mono ?_
  rintro y w4 ⟨⟨K4, c4, m4, rfl⟩, b4⟩
  obtain ⟨W4, X4, hW4, hX4, hb4, hl4⟩ := rep_box w4 (.slice K4 n5 c4) (.int .i64 2) (.int .i64 (n5 : Int)) (.int .i64 m4) (.bool false)
  have HB4 := Lib.hid (below_at b4 hb4)
  have HL4 := Lib.hid hl4
  clear b4 hb4 hl4 HE4
  go_upto_region 6 with fail
  rw [← hW4, ← hX4]
  clear hW4 hX4
  obtain ⟨⟨p0, p1, p2, p3, p4⟩, pl⟩ := HL1.out W4 (below_at (below_at HB2.out HB3.out) HB4.out)
  obtain ⟨⟨q0, q1, q2, q3, q4⟩, ql⟩ := HL2.out W4 (below_at HB3.out HB4.out)
  obtain ⟨⟨s0, s1, s2, s3, s4⟩, sl⟩ := HL4.out W4 (Below.refl _ _)
  go_wp2_with fail
  go_ret
  exact ⟨rfl, below_at HBV.out (below_at (below_at (below_at HB1.out HB2.out) HB3.out) HB4.out)⟩
end Go.Proofs.YtckdofjpoajblaaGreat
namespace Go.Proofs.YtckdofjpoajblaaGreat
open Go.RowKit
set_option linter.unusedVariables false
open Go.ChangeShapes Go.WideShapes Go.ChangeAt
set_option maxRecDepth 100000 in
/-- a program, handed in as an argument -/
theorem prog_arg {H : Type} {enc : TypeId × Value → H} {W : World} {base : Nat} {v : Value} {d : DataW H} {q : List MemPlace}
    (o : Value.okWide Tryz.prog W .any base 24 v) (h : DataW.Trod enc Tryz.prog W 0 (fun _ => true) true 24 v d q) : ∃ (p : Pg) (A : Option Addr) (cap : Nat), v = valP p A cap ∧ PgIn W p A := by
  obtain ⟨cs, rfl, hsz⟩ := okWide_struct Tryz.underlying24 o
  obtain ⟨fuel, hf⟩ := h
  obtain ⟨p, A, cap, hcs, hcd, h1, h2, h3, _⟩ := prog_read fuel cs.toList _ (by simpa [Value.cells] using hf)
  obtain rfl : cs = #[.int .i64 p.vars, .int .i64 p.mtx, .slice A p.code.length cap] := by
    apply Array.ext'
    simpa using hcs
  exact ⟨p, A, cap, rfl, hcd, Nat.le_trans h1 h2, h3⟩
end Go.Proofs.YtckdofjpoajblaaGreat
namespace Go.Proofs.YtckdofjpoajblaaGreat
open Go.RowKit
set_option linter.unusedVariables false
open Go.ChangeShapes Go.WideShapes Go.ChangeAt
set_option maxRecDepth 100000 in
theorem u8_readW {H : Type} {enc : TypeId × Value → H} {w : World} {base : Nat} {spare : Nat → Bool} {held : Bool} (fuel : Nat) (cs : List Value) (y : DataW H × List MemPlace) (hl : cs.length = 1)
    (h : DataW.trod enc Tryz.prog w base spare held fuel 5 cs = some y) : ∃ x : Nat, cs = [.int .u8 x] ∧ x ≤ 255 := by
  obtain ⟨p, e, w⟩ := tr_int Tryz.underlying5 h
  obtain ⟨m, rfl, h⟩ := u8_bounds w
  exact ⟨m, e, h⟩
theorem flat_u8sW (xs : List Nat) : xs.flatMap (fun (s : Nat) => [Value.int .u8 (s : Int)]) = xs.map (fun (t : Nat) => Value.int .u8 (t : Int)) := by induction xs <;> simp_all
set_option maxRecDepth 100000 in
/-- a row of bytes, handed in as an argument -/
theorem u8s_arg {H : Type} {enc : TypeId × Value → H} {W : World} {base : Nat} {v : Value} {d : DataW H} {q : List MemPlace}
    (o : Value.okWide Tryz.prog W .any base 43 v) (h : DataW.Trod enc Tryz.prog W 0 (fun _ => true) true 43 v d q) : ∃ (ts : List Nat) (A : Option Addr) (cap : Nat), v = .slice A ts.length cap ∧ Rd W 1 A ts.length (ts.map (fun (t : Nat) => Value.int .u8 (t : Int))) ∧ ts.length ≤ maxLen ∧ ∀ t ∈ ts, t ≤ 255 := by
  obtain ⟨f2, hf2⟩ := h
  obtain ⟨C, len2, cap2, rfl⟩ := okWide_slice Tryz.underlying43 o
  obtain ⟨ss, hl, hg, hr2, h5, h6⟩ := tr_list (f := fun (s : Nat) => [Value.int .u8 (s : Int)]) (sz := 1) (by omega) Tryz.underlying43 (by kernel_rfl) u8_readW (by simpa [Value.cells] using hf2)
  subst hl
  exact ⟨ss, C, cap2, rfl, flat_u8sW ss ▸ hr2, Nat.le_trans h5 h6, hg⟩
end Go.Proofs.YtckdofjpoajblaaGreat
namespace Go.Proofs.YtckdofjpoajblaaGreat
open Go.RowKit
set_option linter.unusedVariables false
theorem rep_store {V : World} {Y : Nat} {T : TypeId} {a0 a1 a2 a3 a4 : Value} (hk : V.heap[Y]? = some (.cells #[a0, a1, a2, a3, a4] T (0, 0))) (v0 v1 v2 v3 v4 : Value) :
    ∃ V2, V2 = ((((V.setCell ⟨Y, 0, none⟩ v0).setCell ⟨Y, 1, none⟩ v1).setCell ⟨Y, 2, none⟩ v2).setCell ⟨Y, 3, none⟩ v3).setCell ⟨Y, 4, none⟩ v4 ∧ V2.heap[Y]? = some (.cells #[v0, v1, v2, v3, v4] T (0, 0)) ∧ Mod (fun q => q = Y) V V2 := by
  have hk2 := set_blk (set_blk (set_blk (set_blk (set_blk hk 0 v0) 1 v1) 2 v2) 3 v3) 4 v4
  refine ⟨_, rfl, by simpa using hk2, ?_⟩
  exact (((((Mod.refl (fun q => q = Y) V).setCell (p := ⟨Y, 0, none⟩) (fun _ => rfl) _).setCell (p := ⟨Y, 1, none⟩) (fun _ => rfl) _).setCell (p := ⟨Y, 2, none⟩) (fun _ => rfl) _).setCell (p := ⟨Y, 3, none⟩) (fun _ => rfl) _).setCell (p := ⟨Y, 4, none⟩) (fun _ => rfl) _
theorem rd_store {w w' : World} {A : Option Addr} {n : Nat} {ks : List Ky.K} {Y : Nat} {T : TypeId} (h : Rd w 1 A n (ks.map sv)) (hY : w.heap[Y]? = some (.cells #[.slice none 0 0, .int .i64 0, .int .i64 0, .int .i64 0, .bool false] T (0, 0))) (hm : Mod (fun q => q = Y) w w') : Rd w' 1 A n (ks.map sv) := by
  refine ⟨h.1, fun hp => ?_⟩
  obtain ⟨g, o, hA, hg, hc⟩ := h.2 hp
  have hl := h.1
  rw [List.length_map] at hl
  have hn : 0 < ks.length := by omega
  have hne : g ≠ Y := by
    intro e
    subst e
    have h0 := hc 0 (by omega)
    rw [cell_blk hY, List.getElem?_map, List.getElem?_eq_getElem hn] at h0
    rcases (show o + 0 = 0 ∨ o + 0 = 1 ∨ o + 0 = 2 ∨ o + 0 = 3 ∨ o + 0 = 4 ∨ 5 ≤ o + 0 by omega) with e | e | e | e | e | e
    · rw [e] at h0; simp [sv] at h0
    · rw [e] at h0; simp [sv] at h0
    · rw [e] at h0; simp [sv] at h0
    · rw [e] at h0; simp [sv] at h0
    · rw [e] at h0; simp [sv] at h0
    · rw [Array.getElem?_eq_none (by simpa using e)] at h0
      cases h0
  exact ⟨g, o, hA, Nat.lt_of_lt_of_le hg hm.size, fun j hj => (hm.cell g (o + j) hg hne).trans (hc j hj)⟩
theorem explore_law (W : World) (p : Pg) (A : Option Addr) (cap m b : Nat) (od : List Nat) (hp : PgIn W p A) (hm8 : m ≤ 8) (hok : Pr.Ok p) (hb : b ≤ 1000) (h255 : ∀ b ∈ od, b ≤ 255) (hol : od.length ≤ 1000) :
    ∀ u, Below W.heap.size W u → ∀ (OA : Option Addr) (oc : Nat), Rd u 1 OA od.length (od.map fun (b : Nat) => Value.int .u8 (b : Int)) → Calls Tryz.prog 36 #[valP p A cap, .int .i64 (m : Int), .int .i64 (b : Int), .slice OA od.length oc] u fun x w' =>
      (∃ KA kc, x = .returned (.tuple #[.agg #[.slice KA (Pr.ksE (Pr.start p m) (max b 1) od).length kc, .int .i64 ((Pr.explX (Pr.start p m) (max b 1) od).1.nodes : Int), .int .i64 ((Pr.explX (Pr.start p m) (max b 1) od).1.runs : Int), .int .i64 ((Pr.explX (Pr.start p m) (max b 1) od).1.blk : Int), .bool (Pr.explX (Pr.start p m) (max b 1) od).2], .int .i64 0]) ∧ Rd w' 1 KA (Pr.ksE (Pr.start p m) (max b 1) od).length ((Pr.ksE (Pr.start p m) (max b 1) od).map sv)) ∧ Below u.heap.size u w' := fun u hu OA oc hr => by
  refine (explore_ok u p A cap m b OA oc od (hp.below hu) hm8 hok hb hr h255 hol).mono ?_
  rintro x w' ⟨KA, kc, rfl, h1, _, h3⟩
  exact ⟨⟨KA, kc, rfl, h1⟩, h3⟩
end Go.Proofs.YtckdofjpoajblaaGreat
namespace Go.Proofs.YtckdofjpoajblaaGreat
open Go.RowKit
set_option linter.unusedVariables false
set_option maxRecDepth 100000 in
set_option maxHeartbeats 16000000 in
theorem seqExact_any (W : World) (p : Pg) (A : Option Addr) (cap : Nat) (f : Int) (B : Option Addr) (cap2 : Nat) (ts : List Nat) (hp : PgIn W p A)
    (hr : Rd W 1 B ts.length (ts.map (fun (t : Nat) => Value.int .u8 (t : Int)))) (hg : ∀ t ∈ ts, t ≤ 255) (ht : ts.length ≤ maxLen) :
    Calls Tryz.prog 6 #[valP p A cap, .int .i64 f, .slice B ts.length cap2] W fun e w' => e = .returned (.bool true) ∧ Below W.heap.size W w' := by
  obtain ⟨i8, hi8, h80, h81, h82⟩ := info_parts Tryz.infoU8
  obtain ⟨Wa, X, hWa, hX, hBa, hXl, hXe⟩ := pg_box W p.vars p.mtx A p.code.length cap
  have hpa := hp.below hBa
  have hsmall : ∀ u, Below Wa.heap.size Wa u → _ := fun u hu => small_any u p A cap f (hpa.below hu)
  obtain ⟨sm, hsm⟩ : ∃ b, b = Pr.small p f := ⟨_, rfl⟩
  rw [← hsm] at hsmall
  obtain ⟨nt, hnt⟩ : ∃ n, n = ts.length := ⟨_, rfl⟩
  have hm1 : nt < 9223372036854775808 := by rw [hnt]; unfold maxLen at ht; omega
  have HXE := Lib.hid hXe
  have HB := Lib.hid hBa
  have HPA := Lib.hid hpa
  have HSM := Lib.hid hsm
  have HR := Lib.hid hr
  have HG := Lib.hid hg
  have HNT := Lib.hid hnt
  rw [← hnt]
  unfold valP at hsmall ⊢
  have HSMALL := Lib.hid hsmall
  obtain ⟨x0, x1, x2, xl⟩ := hXe Wa (Below.refl _ _)
  clear hXe hBa hsmall hpa hp hsm hr hg ht hnt
  go_enter Tryz.func6, Tryz.ntmps6
  go_upto_region 1 with fail
  rw [← hWa, ← hX]
  clear hWa hX
  go_cut [23] (fun v w2 => Below Wa.heap.size Wa w2 ∧ ∃ z, v = .bool z ∧ (z = false → sm = true ∧ nt ≤ 500))
  case first =>
    go_wp2_with fail
    refine (awake09 _).mono ?_
    rintro x w1 ⟨rfl, b1⟩
    have HB1 := Lib.hid b1
    clear b1 x0 x1 x2 xl
    obtain ⟨x0, x1, x2, xl⟩ := HXE.out w1 HB1.out
    go_wp2_with fail
    refine (HSMALL.out w1 HB1.out).mono ?_
    rintro x w2 ⟨rfl, b2⟩
    have HB2 := Lib.hid (below_at HB1.out b2)
    clear b2
    cases sm with
    | false =>
      go_wp2_with fail
      go_meet
      exact ⟨HB2.out, _, rfl, fun h => by cases h⟩
    | true =>
      go_wp2_with fail
      all_goals (go_meet)
      all_goals (exact ⟨HB2.out, _, rfl, fun h => by first | (cases h; done) | (simp at h; exact ⟨trivial, by omega⟩) | exact ⟨rfl, by omega⟩⟩)
  case rest =>
    obtain ⟨b1, z, rfl, hz⟩ := hcut
    have HB1 := Lib.hid b1
    clear b1 x0 x1 x2 xl
    cases z with
    | true =>
      go_wp2_with fail
      refine (awake09 _).mono ?_
      rintro e w2 ⟨rfl, b2⟩
      go_wp2_with fail
      go_ret
      exact ⟨rfl, below_at HB.out (below_at HB1.out b2)⟩
    | false =>
      obtain ⟨hs1, hn500⟩ := hz rfl
      subst hs1
      clear hz HSMALL hm1
      obtain ⟨m, rfl, hm8, hok, _, hcnt, hall6⟩ := Pr.small_spec HSM.out.symm
      have hwf := Pr.start_wf hok hm8
      have hfu := Pr.fuels_start hok hm8
      have hkl1 := Pr.keys_len (p := p) (m := m)
      have hel := Pr.ends_len 32 (Pr.start p m) []
      obtain ⟨c, hc⟩ : ∃ c, c = Pr.cnt 32 (Pr.start p m) := ⟨_, rfl⟩
      have hc1 : 1 ≤ c := by rw [hc]; exact Pr.cnt_pos _ _
      rw [← hc] at hcnt hall6 hel
      have okx := Pr.expl_ok hwf hfu c ts hc1
      have hcm := okx.compl (by rw [hc]; exact Nat.le_refl _)
      have hks : Pr.ksE (Pr.start p m) c ts = (Pr.sumOf (Pr.ends 32 (Pr.start p m) [])).keys := okx.full hcm
      have hrn := okx.runs
      have hnn := okx.nodes
      have hex := explore_law Wa p A cap m c ts HPA.out hm8 hok (by omega) HG.out (by rw [← HNT.out]; omega)
      rw [show max c 1 = c by omega, hcm, hks] at hex
      rw [hks] at hrn
      obtain ⟨⟨ks, rn, sk⟩, hsum⟩ : ∃ a, a = Pr.sumOf (Pr.ends 32 (Pr.start p m) []) := ⟨_, rfl⟩
      rw [← hsum] at hall6 hkl1 hex hrn
      simp only at hkl1 hex hrn
      obtain ⟨nk, hnk⟩ : ∃ n, n = ks.length := ⟨_, rfl⟩
      obtain ⟨en, hen⟩ : ∃ n, n = (Pr.explX (Pr.start p m) c ts).1.nodes := ⟨_, rfl⟩
      obtain ⟨eb, heb⟩ : ∃ n, n = (Pr.explX (Pr.start p m) c ts).1.blk := ⟨_, rfl⟩
      rw [hrn, ← hen, ← heb, ← hnk, ← HNT.out] at hex
      rw [← hen] at hnn
      rw [← hnk] at hkl1
      have hwall := refAll6_any wc p A cap m 600 (HPA.out.below HB1.out) (by omega)
      rw [hall6] at hwall
      unfold All6Out at hwall
      simp only at hwall
      rw [← hnk] at hwall
      have hnkc : nk ≤ 600 := by omega
      unfold valP at hwall hex
      have HWA := Lib.hid hwall
      have HEX0 := Lib.hid hex
      have HNK := Lib.hid hnk
      have hc9 : c ≤ 600 := hcnt
      clear hsum hall6 hcnt hrn hc hnk hwall hwf hok hm8 HSM hex hks hcm okx hen heb hel hkl1 hfu
      obtain ⟨x0, x1, x2, xl⟩ := HXE.out wc HB1.out
      go_wp2_with fail
      refine HWA.out.mono ?_
      rintro y w1 ⟨KA, kc, rfl, hkr, _, _, b1⟩
      obtain ⟨Z1, hZ1⟩ : ∃ z, z = w1.heap.size := ⟨_, rfl⟩
      obtain ⟨W2, hW2⟩ : ∃ z, z = w1.alloc (Obj.cells #[.slice KA nk kc, .int .i64 rn, .int .i64 c, .int .i64 sk] 29) := ⟨_, rfl⟩
      have hZk : W2.heap[Z1]? = some (.cells #[.slice KA nk kc, .int .i64 rn, .int .i64 c, .int .i64 sk] 29 (0, 0)) := by rw [hW2, hZ1]; exact heap_alloc_new w1 _
      have hb2 : Below w1.heap.size w1 W2 := by rw [hW2]; exact (Below.refl _ _).alloc (Nat.le_refl _) _
      have hbA : Below Wa.heap.size Wa W2 := below_at HB1.out (below_at b1 hb2)
      have HKR := Lib.hid (hkr.below hb2 (Nat.le_refl _))
      have HSS := Lib.hid (show ∀ u, Below W2.heap.size W2 u → (u.cell? ⟨X, 0, none⟩ = some (.int .i64 p.vars) ∧ u.cell? ⟨X, 1, none⟩ = some (.int .i64 p.mtx) ∧ u.cell? ⟨X, 2, none⟩ = some (.slice A p.code.length cap) ∧ X < u.heap.size) ∧ (u.cell? ⟨Z1, 0, none⟩ = some (.slice KA nk kc) ∧ u.cell? ⟨Z1, 2, none⟩ = some (.int .i64 c) ∧ Z1 < u.heap.size) from fun u hu => by
        have hk := (hu.block _ (blk_lt hZk)).trans hZk
        exact ⟨HXE.out u (below_at hbA hu), cell_blk hk 0, cell_blk hk 2, blk_lt hk⟩)
      have HORD := Lib.hid (show ∀ u, Below W2.heap.size W2 u → Rd u 1 B nt (ts.map fun (b : Nat) => Value.int .u8 (b : Int)) from fun u hu => by
        have := HR.out.below (below_at HB.out (below_at hbA hu)) (Nat.le_refl _)
        rw [← HNT.out] at this
        exact this)
      have HEX := Lib.hid (fun u (hu : Below W2.heap.size W2 u) => HEX0.out u (below_at hbA hu))
      have HB2 := Lib.hid hbA
      clear b1 hb2 hZk hkr hbA x0 x1 x2 xl HB1 HWA HEX0
      go_upto_region 4 with fail
      rw [← hW2, ← hZ1]
      clear hW2 hZ1
      go_cut [9, 10] (fun v9 v10 wz => Below W2.heap.size W2 wz ∧ ∃ Y KA' kc', v9 = .pointer (some ⟨Y, 0, none⟩) ∧ v10 = .int .i64 0 ∧ wz.heap[Y]? = some (.cells #[.slice KA' nk kc', .int .i64 (en : Int), .int .i64 (nk : Int), .int .i64 (eb : Int), .bool true] 60 (0, 0)) ∧ Rd wz 1 KA' nk (ks.map sv))
      case first =>
        refine wp_region_pt (by kernel_rfl) (fun u => (u.cell? ⟨X, 0, none⟩ = some (.int .i64 p.vars) ∧ u.cell? ⟨X, 1, none⟩ = some (.int .i64 p.mtx) ∧ u.cell? ⟨X, 2, none⟩ = some (.slice A p.code.length cap) ∧ X < u.heap.size) ∧ (u.cell? ⟨Z1, 0, none⟩ = some (.slice KA nk kc) ∧ u.cell? ⟨Z1, 2, none⟩ = some (.int .i64 c) ∧ Z1 < u.heap.size)) [] (.cons 0 .load (.cons 1 .pure (.cons 2 .pure (.cons 3 .load (.cons 5 .pure (.fork 4 (.fork 6 (.fork 7 (.cons 8 .pure (.cons 9 .pure (.cons 10 .pure (.cons 11 .eff (.cons 12 .eff (.cons 13 .pure .nil)))))) 11 (.cons 7 .eff (.cons 8 .pure (.cons 9 .pure (.cons 10 .pure (.cons 12 .eff (.cons 13 .pure .nil))))))) 11 (.cons 6 .eff (.cons 7 .eff (.cons 8 .pure (.cons 9 .pure (.cons 10 .pure (.cons 12 .eff (.cons 13 .pure .nil)))))))) 11 (.cons 4 .eff (.cons 6 .eff (.cons 7 .eff (.cons 8 .pure (.cons 9 .pure (.cons 10 .pure (.cons 12 .eff (.cons 13 .pure .nil)))))))))))))) (by simp only [PT.map, List.getElem?_toArray, List.getElem?_cons_succ, List.getElem?_cons_zero]; rfl) (by kernel_rfl) (fun _ _ d _ _ h => by cases d <;> exact h) (HSS.out W2.drew (Below.refl W2.heap.size W2).drew) ?_
        have HB := Lib.hid (Below.refl W2.heap.size W2).drew
        obtain ⟨vw, hv⟩ : ∃ vw, vw = W2.drew := ⟨_, rfl⟩
        rw [← hv] at HB ⊢
        clear hv
        repeat (first
          | (refine pt_pure (v := ?_) (by rfl) (fun w1 => ?_) ?_
             rotate_left
             · go_simp <;> with_reducible rfl
             simp only [Act.put, List.setIfInBounds_toArray, List.set_cons_zero, List.set_cons_succ])
          | (refine pt_off (by rfl) ?_
             simp only [Act.put, List.setIfInBounds_toArray, List.set_cons_zero, List.set_cons_succ])
          | (refine pt_load_off (by rfl) ?_
             simp only [Act.put, List.setIfInBounds_toArray, List.set_cons_zero, List.set_cons_succ])
          | (refine pt_load (v := ?_) (by rfl) (fun w1 hw1 => ?_) ?_
             rotate_left
             · (have qq := hw1
                obtain ⟨⟨x0, x1, x2, xl⟩, z0, z2, zl⟩ := qq
                clear hw1
                go_simp <;> with_reducible rfl)
             simp only [Act.put, List.setIfInBounds_toArray, List.set_cons_zero, List.set_cons_succ]))
        refine pt_fork ?_ ?_
        · go_wp2_with fail
          obtain ⟨E, hE⟩ : ∃ Z, Z = vw.heap.size := ⟨_, rfl⟩
          obtain ⟨u, hu⟩ : ∃ u, u = vw.alloc (Obj.cells #[] 5) := ⟨_, rfl⟩
          rw [← hu, ← hE]
          have hb : Below vw.heap.size vw u := by rw [hu]; exact (Below.refl _ _).alloc (Nat.le_refl _) _
          have hk : u.heap[E]? = some (.cells #[] 5 (0, 0)) := by rw [hu, hE]; exact heap_alloc_new vw _
          have HC := Lib.hid hk
          have HB := Lib.hid (below_at HB.out hb)
          (try have HZ := Lib.hid (blk_stepW HZ.out hb))
          clear hb hk hu hE
          rename World => vw
          refine pt_on (fun u h => h) (HSS.out _ HB.out) ?_
          refine pt_fork ?_ ?_
          · have HR := Lib.hid (HORD.out vw HB.out)
            have HE := Lib.hid (row_empty (sz := 1) HC.out)
            go_wp2_with (at_builtin; refine wpList_append_copy (by rfl) _ _ _ (by rfl) 5 i8 _ 1 1 Tryz.underlying43 hi8 h80 h81 h82 rfl (by omega) ⟨E, 0, none⟩ 0 [] (by rfl) HE.out B nt cap2 (ts.map fun (b : Nat) => Value.int .u8 (b : Int)) (by rfl) HR.out (by unfold maxLen; omega) (by omega) ?_; intro g7 o7 cap7 u hown hb hgz)
            rw [Nat.zero_add, List.nil_append] at hown
            have HA := Lib.hid hown.rd
            have HB := Lib.hid (below_at HB.out hb)
            (try have HZ := Lib.hid (blk_stepW HZ.out hb))
            clear hown hb hgz HR HE
            rename World => vw
            refine pt_on (fun u h => h) (HSS.out _ HB.out) ?_
            refine pt_fork ?_ ?_
            · go_wp2_with fail
              refine (HEX.out _ HB.out _ _ HA.out).mono ?_
              rintro y u ⟨⟨KZ, kz, rfl, hrk⟩, hb⟩
              have HK := Lib.hid hrk
              have HB := Lib.hid (below_at HB.out hb)
              (try have HZ := Lib.hid (blk_stepW HZ.out hb))
              clear hrk hb
              rename World => vw
              go_wp2_with fail
              refine pt_on (fun u h => h) (HSS.out _ HB.out) ?_
              repeat (first
                | (refine pt_pure (v := ?_) (by rfl) (fun w1 => ?_) ?_
                   rotate_left
                   · go_simp <;> with_reducible rfl
                   simp only [Act.put, List.setIfInBounds_toArray, List.set_cons_zero, List.set_cons_succ])
                | (refine pt_off (by rfl) ?_
                   simp only [Act.put, List.setIfInBounds_toArray, List.set_cons_zero, List.set_cons_succ])
                | (refine pt_load_off (by rfl) ?_
                   simp only [Act.put, List.setIfInBounds_toArray, List.set_cons_zero, List.set_cons_succ])
                | (refine pt_load (v := ?_) (by rfl) (fun w1 hw1 => ?_) ?_
                   rotate_left
                   · (skip
                      clear hw1
                      go_simp <;> with_reducible rfl)
                   simp only [Act.put, List.setIfInBounds_toArray, List.set_cons_zero, List.set_cons_succ]))
              refine pt_eff ?_
              go_wp2_with fail
              obtain ⟨Y, hY⟩ : ∃ Z, Z = vw.heap.size := ⟨_, rfl⟩
              obtain ⟨u, hu⟩ : ∃ u, u = vw.alloc (Obj.cells #[.slice none 0 0, .int .i64 0, .int .i64 0, .int .i64 0, .bool false] 60) := ⟨_, rfl⟩
              rw [← hu, ← hY]
              have hb : Below vw.heap.size vw u := by rw [hu]; exact (Below.refl _ _).alloc (Nat.le_refl _) _
              have hk : u.heap[Y]? = some (.cells #[.slice none 0 0, .int .i64 0, .int .i64 0, .int .i64 0, .bool false] 60 (0, 0)) := by rw [hu, hY]; exact heap_alloc_new vw _
              have HYW : Hid (W2.heap.size ≤ Y) := Lib.hid (by rw [hY]; exact HB.out.size)
              have HZ := Lib.hid hk
              have HB := Lib.hid (below_at HB.out hb)
              (try have HC := Lib.hid (blk_stepW HC.out hb))
              (try have HA := Lib.hid (HA.out.below hb (Nat.le_refl _)))
              (try have HK := Lib.hid (HK.out.below hb (Nat.le_refl _)))
              clear hb hk hu hY
              rename World => vw
              refine pt_on (fun u h => h) (HSS.out _ HB.out) ?_
              refine pt_eff ?_
              have e0 := cell_blk HZ.out 0
              have e1 := cell_blk HZ.out 1
              have e2 := cell_blk HZ.out 2
              have e3 := cell_blk HZ.out 3
              have e4 := cell_blk HZ.out 4
              simp only [List.getElem?_toArray, List.getElem?_cons_zero, List.getElem?_cons_succ] at e0 e1 e2 e3 e4
              have g0 := free_blk HZ.out 0
              have g1 := free_blk HZ.out 1
              have g2 := free_blk HZ.out 2
              have g3 := free_blk HZ.out 3
              have g4 := free_blk HZ.out 4
              have zl := blk_lt HZ.out
              obtain ⟨V2, hV2, hk2, hm2⟩ := rep_store HZ.out (.slice KZ nk kz) (.int .i64 (en : Int)) (.int .i64 (nk : Int)) (.int .i64 (eb : Int)) (.bool true)
              have HV2 := Lib.hid hV2
              have HREP := Lib.hid hk2
              have HRK := Lib.hid (rd_store HK.out HZ.out hm2)
              have HB := Lib.hid (HB.out.trans (hm2.below W2.heap.size HB.out.size (fun k hk e => by have := HYW.out; omega)))
              clear hV2 hk2 hm2
              go_wp2_with fail
              rw [← HV2.out]
              clear e0 e1 e2 e3 e4 g0 g1 g2 g3 g4 zl
              refine pt_on (fun u h => h) (HSS.out _ HB.out) ?_
              repeat (first
                | (refine pt_pure (v := ?_) (by rfl) (fun w1 => ?_) ?_
                   rotate_left
                   · go_simp <;> with_reducible rfl
                   simp only [Act.put, List.setIfInBounds_toArray, List.set_cons_zero, List.set_cons_succ])
                | (refine pt_off (by rfl) ?_
                   simp only [Act.put, List.setIfInBounds_toArray, List.set_cons_zero, List.set_cons_succ])
                | (refine pt_load_off (by rfl) ?_
                   simp only [Act.put, List.setIfInBounds_toArray, List.set_cons_zero, List.set_cons_succ])
                | (refine pt_load (v := ?_) (by rfl) (fun w1 hw1 => ?_) ?_
                   rotate_left
                   · (skip
                      clear hw1
                      go_simp <;> with_reducible rfl)
                   simp only [Act.put, List.setIfInBounds_toArray, List.set_cons_zero, List.set_cons_succ]))
              refine pt_end ?_
              go_wp2_with fail
              go_meet
              exact ⟨HB.out, _, _, _, rfl, rfl, HREP.out, HRK.out⟩
            · go_wp2_with fail
              obtain ⟨Y, hY⟩ : ∃ Z, Z = vw.heap.size := ⟨_, rfl⟩
              obtain ⟨u, hu⟩ : ∃ u, u = vw.alloc (Obj.cells #[.slice none 0 0, .int .i64 0, .int .i64 0, .int .i64 0, .bool false] 60) := ⟨_, rfl⟩
              rw [← hu, ← hY]
              have hb : Below vw.heap.size vw u := by rw [hu]; exact (Below.refl _ _).alloc (Nat.le_refl _) _
              have hk : u.heap[Y]? = some (.cells #[.slice none 0 0, .int .i64 0, .int .i64 0, .int .i64 0, .bool false] 60 (0, 0)) := by rw [hu, hY]; exact heap_alloc_new vw _
              have HYW : Hid (W2.heap.size ≤ Y) := Lib.hid (by rw [hY]; exact HB.out.size)
              have HZ := Lib.hid hk
              have HB := Lib.hid (below_at HB.out hb)
              (try have HC := Lib.hid (blk_stepW HC.out hb))
              (try have HA := Lib.hid (HA.out.below hb (Nat.le_refl _)))
              (try have HK := Lib.hid (HK.out.below hb (Nat.le_refl _)))
              clear hb hk hu hY
              rename World => vw
              refine pt_on (fun u h => h) (HSS.out _ HB.out) ?_
              refine pt_eff ?_
              go_wp2_with fail
              refine (HEX.out _ HB.out _ _ HA.out).mono ?_
              rintro y u ⟨⟨KZ, kz, rfl, hrk⟩, hb⟩
              have HK := Lib.hid hrk
              have HB := Lib.hid (below_at HB.out hb)
              (try have HZ := Lib.hid (blk_stepW HZ.out hb))
              clear hrk hb
              rename World => vw
              go_wp2_with fail
              refine pt_on (fun u h => h) (HSS.out _ HB.out) ?_
              repeat (first
                | (refine pt_pure (v := ?_) (by rfl) (fun w1 => ?_) ?_
                   rotate_left
                   · go_simp <;> with_reducible rfl
                   simp only [Act.put, List.setIfInBounds_toArray, List.set_cons_zero, List.set_cons_succ])
                | (refine pt_off (by rfl) ?_
                   simp only [Act.put, List.setIfInBounds_toArray, List.set_cons_zero, List.set_cons_succ])
                | (refine pt_load_off (by rfl) ?_
                   simp only [Act.put, List.setIfInBounds_toArray, List.set_cons_zero, List.set_cons_succ])
                | (refine pt_load (v := ?_) (by rfl) (fun w1 hw1 => ?_) ?_
                   rotate_left
                   · (skip
                      clear hw1
                      go_simp <;> with_reducible rfl)
                   simp only [Act.put, List.setIfInBounds_toArray, List.set_cons_zero, List.set_cons_succ]))
              refine pt_eff ?_
              have e0 := cell_blk HZ.out 0
              have e1 := cell_blk HZ.out 1
              have e2 := cell_blk HZ.out 2
              have e3 := cell_blk HZ.out 3
              have e4 := cell_blk HZ.out 4
              simp only [List.getElem?_toArray, List.getElem?_cons_zero, List.getElem?_cons_succ] at e0 e1 e2 e3 e4
              have g0 := free_blk HZ.out 0
              have g1 := free_blk HZ.out 1
              have g2 := free_blk HZ.out 2
              have g3 := free_blk HZ.out 3
              have g4 := free_blk HZ.out 4
              have zl := blk_lt HZ.out
              obtain ⟨V2, hV2, hk2, hm2⟩ := rep_store HZ.out (.slice KZ nk kz) (.int .i64 (en : Int)) (.int .i64 (nk : Int)) (.int .i64 (eb : Int)) (.bool true)
              have HV2 := Lib.hid hV2
              have HREP := Lib.hid hk2
              have HRK := Lib.hid (rd_store HK.out HZ.out hm2)
              have HB := Lib.hid (HB.out.trans (hm2.below W2.heap.size HB.out.size (fun k hk e => by have := HYW.out; omega)))
              clear hV2 hk2 hm2
              go_wp2_with fail
              rw [← HV2.out]
              clear e0 e1 e2 e3 e4 g0 g1 g2 g3 g4 zl
              refine pt_on (fun u h => h) (HSS.out _ HB.out) ?_
              repeat (first
                | (refine pt_pure (v := ?_) (by rfl) (fun w1 => ?_) ?_
                   rotate_left
                   · go_simp <;> with_reducible rfl
                   simp only [Act.put, List.setIfInBounds_toArray, List.set_cons_zero, List.set_cons_succ])
                | (refine pt_off (by rfl) ?_
                   simp only [Act.put, List.setIfInBounds_toArray, List.set_cons_zero, List.set_cons_succ])
                | (refine pt_load_off (by rfl) ?_
                   simp only [Act.put, List.setIfInBounds_toArray, List.set_cons_zero, List.set_cons_succ])
                | (refine pt_load (v := ?_) (by rfl) (fun w1 hw1 => ?_) ?_
                   rotate_left
                   · (skip
                      clear hw1
                      go_simp <;> with_reducible rfl)
                   simp only [Act.put, List.setIfInBounds_toArray, List.set_cons_zero, List.set_cons_succ]))
              refine pt_end ?_
              go_wp2_with fail
              go_meet
              exact ⟨HB.out, _, _, _, rfl, rfl, HREP.out, HRK.out⟩
          · go_wp2_with fail
            obtain ⟨Y, hY⟩ : ∃ Z, Z = vw.heap.size := ⟨_, rfl⟩
            obtain ⟨u, hu⟩ : ∃ u, u = vw.alloc (Obj.cells #[.slice none 0 0, .int .i64 0, .int .i64 0, .int .i64 0, .bool false] 60) := ⟨_, rfl⟩
            rw [← hu, ← hY]
            have hb : Below vw.heap.size vw u := by rw [hu]; exact (Below.refl _ _).alloc (Nat.le_refl _) _
            have hk : u.heap[Y]? = some (.cells #[.slice none 0 0, .int .i64 0, .int .i64 0, .int .i64 0, .bool false] 60 (0, 0)) := by rw [hu, hY]; exact heap_alloc_new vw _
            have HYW : Hid (W2.heap.size ≤ Y) := Lib.hid (by rw [hY]; exact HB.out.size)
            have HZ := Lib.hid hk
            have HB := Lib.hid (below_at HB.out hb)
            (try have HC := Lib.hid (blk_stepW HC.out hb))
            (try have HA := Lib.hid (HA.out.below hb (Nat.le_refl _)))
            (try have HK := Lib.hid (HK.out.below hb (Nat.le_refl _)))
            clear hb hk hu hY
            rename World => vw
            refine pt_on (fun u h => h) (HSS.out _ HB.out) ?_
            refine pt_eff ?_
            have HR := Lib.hid (HORD.out vw HB.out)
            have HE := Lib.hid (row_empty (sz := 1) HC.out)
            go_wp2_with (at_builtin; refine wpList_append_copy (by rfl) _ _ _ (by rfl) 5 i8 _ 1 1 Tryz.underlying43 hi8 h80 h81 h82 rfl (by omega) ⟨E, 0, none⟩ 0 [] (by rfl) HE.out B nt cap2 (ts.map fun (b : Nat) => Value.int .u8 (b : Int)) (by rfl) HR.out (by unfold maxLen; omega) (by omega) ?_; intro g7 o7 cap7 u hown hb hgz)
            rw [Nat.zero_add, List.nil_append] at hown
            have HA := Lib.hid hown.rd
            have HB := Lib.hid (below_at HB.out hb)
            (try have HZ := Lib.hid (blk_stepW HZ.out hb))
            clear hown hb hgz HR HE
            rename World => vw
            refine pt_on (fun u h => h) (HSS.out _ HB.out) ?_
            refine pt_eff ?_
            go_wp2_with fail
            refine (HEX.out _ HB.out _ _ HA.out).mono ?_
            rintro y u ⟨⟨KZ, kz, rfl, hrk⟩, hb⟩
            have HK := Lib.hid hrk
            have HB := Lib.hid (below_at HB.out hb)
            (try have HZ := Lib.hid (blk_stepW HZ.out hb))
            clear hrk hb
            rename World => vw
            go_wp2_with fail
            refine pt_on (fun u h => h) (HSS.out _ HB.out) ?_
            repeat (first
              | (refine pt_pure (v := ?_) (by rfl) (fun w1 => ?_) ?_
                 rotate_left
                 · go_simp <;> with_reducible rfl
                 simp only [Act.put, List.setIfInBounds_toArray, List.set_cons_zero, List.set_cons_succ])
              | (refine pt_off (by rfl) ?_
                 simp only [Act.put, List.setIfInBounds_toArray, List.set_cons_zero, List.set_cons_succ])
              | (refine pt_load_off (by rfl) ?_
                 simp only [Act.put, List.setIfInBounds_toArray, List.set_cons_zero, List.set_cons_succ])
              | (refine pt_load (v := ?_) (by rfl) (fun w1 hw1 => ?_) ?_
                 rotate_left
                 · (skip
                    clear hw1
                    go_simp <;> with_reducible rfl)
                 simp only [Act.put, List.setIfInBounds_toArray, List.set_cons_zero, List.set_cons_succ]))
            refine pt_eff ?_
            have e0 := cell_blk HZ.out 0
            have e1 := cell_blk HZ.out 1
            have e2 := cell_blk HZ.out 2
            have e3 := cell_blk HZ.out 3
            have e4 := cell_blk HZ.out 4
            simp only [List.getElem?_toArray, List.getElem?_cons_zero, List.getElem?_cons_succ] at e0 e1 e2 e3 e4
            have g0 := free_blk HZ.out 0
            have g1 := free_blk HZ.out 1
            have g2 := free_blk HZ.out 2
            have g3 := free_blk HZ.out 3
            have g4 := free_blk HZ.out 4
            have zl := blk_lt HZ.out
            obtain ⟨V2, hV2, hk2, hm2⟩ := rep_store HZ.out (.slice KZ nk kz) (.int .i64 (en : Int)) (.int .i64 (nk : Int)) (.int .i64 (eb : Int)) (.bool true)
            have HV2 := Lib.hid hV2
            have HREP := Lib.hid hk2
            have HRK := Lib.hid (rd_store HK.out HZ.out hm2)
            have HB := Lib.hid (HB.out.trans (hm2.below W2.heap.size HB.out.size (fun k hk e => by have := HYW.out; omega)))
            clear hV2 hk2 hm2
            go_wp2_with fail
            rw [← HV2.out]
            clear e0 e1 e2 e3 e4 g0 g1 g2 g3 g4 zl
            refine pt_on (fun u h => h) (HSS.out _ HB.out) ?_
            repeat (first
              | (refine pt_pure (v := ?_) (by rfl) (fun w1 => ?_) ?_
                 rotate_left
                 · go_simp <;> with_reducible rfl
                 simp only [Act.put, List.setIfInBounds_toArray, List.set_cons_zero, List.set_cons_succ])
              | (refine pt_off (by rfl) ?_
                 simp only [Act.put, List.setIfInBounds_toArray, List.set_cons_zero, List.set_cons_succ])
              | (refine pt_load_off (by rfl) ?_
                 simp only [Act.put, List.setIfInBounds_toArray, List.set_cons_zero, List.set_cons_succ])
              | (refine pt_load (v := ?_) (by rfl) (fun w1 hw1 => ?_) ?_
                 rotate_left
                 · (skip
                    clear hw1
                    go_simp <;> with_reducible rfl)
                 simp only [Act.put, List.setIfInBounds_toArray, List.set_cons_zero, List.set_cons_succ]))
            refine pt_end ?_
            go_wp2_with fail
            go_meet
            exact ⟨HB.out, _, _, _, rfl, rfl, HREP.out, HRK.out⟩
        · go_wp2_with fail
          obtain ⟨Y, hY⟩ : ∃ Z, Z = vw.heap.size := ⟨_, rfl⟩
          obtain ⟨u, hu⟩ : ∃ u, u = vw.alloc (Obj.cells #[.slice none 0 0, .int .i64 0, .int .i64 0, .int .i64 0, .bool false] 60) := ⟨_, rfl⟩
          rw [← hu, ← hY]
          have hb : Below vw.heap.size vw u := by rw [hu]; exact (Below.refl _ _).alloc (Nat.le_refl _) _
          have hk : u.heap[Y]? = some (.cells #[.slice none 0 0, .int .i64 0, .int .i64 0, .int .i64 0, .bool false] 60 (0, 0)) := by rw [hu, hY]; exact heap_alloc_new vw _
          have HYW : Hid (W2.heap.size ≤ Y) := Lib.hid (by rw [hY]; exact HB.out.size)
          have HZ := Lib.hid hk
          have HB := Lib.hid (below_at HB.out hb)
          (try have HC := Lib.hid (blk_stepW HC.out hb))
          (try have HA := Lib.hid (HA.out.below hb (Nat.le_refl _)))
          (try have HK := Lib.hid (HK.out.below hb (Nat.le_refl _)))
          clear hb hk hu hY
          rename World => vw
          refine pt_on (fun u h => h) (HSS.out _ HB.out) ?_
          refine pt_eff ?_
          go_wp2_with fail
          obtain ⟨E, hE⟩ : ∃ Z, Z = vw.heap.size := ⟨_, rfl⟩
          obtain ⟨u, hu⟩ : ∃ u, u = vw.alloc (Obj.cells #[] 5) := ⟨_, rfl⟩
          rw [← hu, ← hE]
          have hb : Below vw.heap.size vw u := by rw [hu]; exact (Below.refl _ _).alloc (Nat.le_refl _) _
          have hk : u.heap[E]? = some (.cells #[] 5 (0, 0)) := by rw [hu, hE]; exact heap_alloc_new vw _
          have HC := Lib.hid hk
          have HB := Lib.hid (below_at HB.out hb)
          (try have HZ := Lib.hid (blk_stepW HZ.out hb))
          clear hb hk hu hE
          rename World => vw
          refine pt_on (fun u h => h) (HSS.out _ HB.out) ?_
          refine pt_eff ?_
          have HR := Lib.hid (HORD.out vw HB.out)
          have HE := Lib.hid (row_empty (sz := 1) HC.out)
          go_wp2_with (at_builtin; refine wpList_append_copy (by rfl) _ _ _ (by rfl) 5 i8 _ 1 1 Tryz.underlying43 hi8 h80 h81 h82 rfl (by omega) ⟨E, 0, none⟩ 0 [] (by rfl) HE.out B nt cap2 (ts.map fun (b : Nat) => Value.int .u8 (b : Int)) (by rfl) HR.out (by unfold maxLen; omega) (by omega) ?_; intro g7 o7 cap7 u hown hb hgz)
          rw [Nat.zero_add, List.nil_append] at hown
          have HA := Lib.hid hown.rd
          have HB := Lib.hid (below_at HB.out hb)
          (try have HZ := Lib.hid (blk_stepW HZ.out hb))
          clear hown hb hgz HR HE
          rename World => vw
          refine pt_on (fun u h => h) (HSS.out _ HB.out) ?_
          refine pt_eff ?_
          go_wp2_with fail
          refine (HEX.out _ HB.out _ _ HA.out).mono ?_
          rintro y u ⟨⟨KZ, kz, rfl, hrk⟩, hb⟩
          have HK := Lib.hid hrk
          have HB := Lib.hid (below_at HB.out hb)
          (try have HZ := Lib.hid (blk_stepW HZ.out hb))
          clear hrk hb
          rename World => vw
          go_wp2_with fail
          refine pt_on (fun u h => h) (HSS.out _ HB.out) ?_
          repeat (first
            | (refine pt_pure (v := ?_) (by rfl) (fun w1 => ?_) ?_
               rotate_left
               · go_simp <;> with_reducible rfl
               simp only [Act.put, List.setIfInBounds_toArray, List.set_cons_zero, List.set_cons_succ])
            | (refine pt_off (by rfl) ?_
               simp only [Act.put, List.setIfInBounds_toArray, List.set_cons_zero, List.set_cons_succ])
            | (refine pt_load_off (by rfl) ?_
               simp only [Act.put, List.setIfInBounds_toArray, List.set_cons_zero, List.set_cons_succ])
            | (refine pt_load (v := ?_) (by rfl) (fun w1 hw1 => ?_) ?_
               rotate_left
               · (skip
                  clear hw1
                  go_simp <;> with_reducible rfl)
               simp only [Act.put, List.setIfInBounds_toArray, List.set_cons_zero, List.set_cons_succ]))
          refine pt_eff ?_
          have e0 := cell_blk HZ.out 0
          have e1 := cell_blk HZ.out 1
          have e2 := cell_blk HZ.out 2
          have e3 := cell_blk HZ.out 3
          have e4 := cell_blk HZ.out 4
          simp only [List.getElem?_toArray, List.getElem?_cons_zero, List.getElem?_cons_succ] at e0 e1 e2 e3 e4
          have g0 := free_blk HZ.out 0
          have g1 := free_blk HZ.out 1
          have g2 := free_blk HZ.out 2
          have g3 := free_blk HZ.out 3
          have g4 := free_blk HZ.out 4
          have zl := blk_lt HZ.out
          obtain ⟨V2, hV2, hk2, hm2⟩ := rep_store HZ.out (.slice KZ nk kz) (.int .i64 (en : Int)) (.int .i64 (nk : Int)) (.int .i64 (eb : Int)) (.bool true)
          have HV2 := Lib.hid hV2
          have HREP := Lib.hid hk2
          have HRK := Lib.hid (rd_store HK.out HZ.out hm2)
          have HB := Lib.hid (HB.out.trans (hm2.below W2.heap.size HB.out.size (fun k hk e => by have := HYW.out; omega)))
          clear hV2 hk2 hm2
          go_wp2_with fail
          rw [← HV2.out]
          clear e0 e1 e2 e3 e4 g0 g1 g2 g3 g4 zl
          refine pt_on (fun u h => h) (HSS.out _ HB.out) ?_
          repeat (first
            | (refine pt_pure (v := ?_) (by rfl) (fun w1 => ?_) ?_
               rotate_left
               · go_simp <;> with_reducible rfl
               simp only [Act.put, List.setIfInBounds_toArray, List.set_cons_zero, List.set_cons_succ])
            | (refine pt_off (by rfl) ?_
               simp only [Act.put, List.setIfInBounds_toArray, List.set_cons_zero, List.set_cons_succ])
            | (refine pt_load_off (by rfl) ?_
               simp only [Act.put, List.setIfInBounds_toArray, List.set_cons_zero, List.set_cons_succ])
            | (refine pt_load (v := ?_) (by rfl) (fun w1 hw1 => ?_) ?_
               rotate_left
               · (skip
                  clear hw1
                  go_simp <;> with_reducible rfl)
               simp only [Act.put, List.setIfInBounds_toArray, List.set_cons_zero, List.set_cons_succ]))
          refine pt_end ?_
          go_wp2_with fail
          go_meet
          exact ⟨HB.out, _, _, _, rfl, rfl, HREP.out, HRK.out⟩
      case rest =>
        obtain ⟨bz, Y, KA2, kc2, rfl, rfl, hrep, hrk⟩ := hcut
        obtain ⟨⟨x0, x1, x2, xl⟩, z0, z2, zl⟩ := HSS.out wc bz
        have hsame := same6_any wc KA2 kc2 ks KA kc ks (by rw [← HNK.out]; exact hrk) (by rw [← HNK.out]; exact HKR.out.below bz (Nat.le_refl _)) (by rw [← HNK.out]; omega)
        rw [decide_eq_true rfl, ← HNK.out] at hsame
        have y0 : wc.cell? ⟨Y, 0, none⟩ = some (.slice KA2 nk kc2) := cell_blk hrep 0
        have y4 : wc.cell? ⟨Y, 4, none⟩ = some (.bool true) := cell_blk hrep 4
        have yl := blk_lt hrep
        have HSAME := Lib.hid hsame
        have HREP := Lib.hid hrep
        have HBZ := Lib.hid bz
        clear hsame hrep bz hrk HEX HORD
        go_wp2_with fail
        refine HSAME.out.mono ?_
        rintro x w3 ⟨rfl, b3⟩
        have hrep := blk_stepW HREP.out b3
        have y1 : w3.cell? ⟨Y, 1, none⟩ = some (.int .i64 (en : Int)) := cell_blk hrep 1
        have y2 : w3.cell? ⟨Y, 2, none⟩ = some (.int .i64 (nk : Int)) := cell_blk hrep 2
        have yl3 := blk_lt hrep
        have hz3 := (HSS.out w3 (below_at HBZ.out b3)).2
        obtain ⟨s0, s2, sl⟩ := hz3
        have d1 : (en : Int) ≤ (c : Int) := by omega
        have HB3 := Lib.hid (below_at HB2.out (below_at HBZ.out b3))
        clear hrep b3 HSAME HREP x0 x1 x2 xl z0 z2 zl y0 y4 yl
        go_wp2_with fail
        go_ret
        exact ⟨by simp, below_at HB.out HB3.out⟩
open Go.ChangeShapes Go.WideShapes Go.ChangeAt
set_option maxRecDepth 100000 in
theorem SeqExact_walk {H : Type} {enc : TypeId × Value → H} (W : World) {base : Nat} {v0 v1 v2 : Value} {d0 d1 d2 : DataW H} {p0 p1 p2 : List MemPlace}
    (o0 : Value.okWide Tryz.prog W .any base 24 v0) (h0 : DataW.Trod enc Tryz.prog W 0 (fun _ => true) true 24 v0 d0 p0)
    (o1 : Value.okWide Tryz.prog W .any base 3 v1) (h1 : DataW.Trod enc Tryz.prog W 0 (fun _ => true) true 3 v1 d1 p1)
    (o2 : Value.okWide Tryz.prog W .any base 43 v2) (h2 : DataW.Trod enc Tryz.prog W 0 (fun _ => true) true 43 v2 d2 p2) :
    Calls Tryz.prog 6 #[v0, v1, v2] W fun e w' => e = .returned (.bool true) ∧ Below W.heap.size W w' := by
  obtain ⟨p, A, cap, rfl, hin⟩ := prog_arg o0 h0
  obtain ⟨f, rfl, rfl, rfl, _⟩ := open_int Tryz.underlying3 o1 h1
  obtain ⟨ts, B, cap2, rfl, hr, hl, hg⟩ := u8s_arg o2 h2
  exact seqExact_any W p A cap f B cap2 ts hin hr hg hl
end Go.Proofs.YtckdofjpoajblaaGreat
