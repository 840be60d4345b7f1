/- awake, of the walk. -/
import Derived.Test.YtcaapoacmfjnmaaGreatWkI
namespace Go.Proofs.YtcaapoacmfjnmaaGreat
open Go.RowKit
set_option linter.unusedVariables false

theorem rd_toC {w : World} {sz : Nat} {A : Option Addr} {n : Nat} {cs : List Value} (h : Rd w sz A n cs) : RdC w (fun k => k < w.heap.size) sz A n cs :=
  ⟨h.1, fun h0 => by obtain ⟨g, o, hA, hg, hc⟩ := h.2 h0; exact ⟨g, o, hA, hg, hg, hc⟩⟩
/-- a program of two threads, made in memory -/
theorem pgin_two (w : World) (v m : Int) (q1 q2 : List Ins) (A1 A2 : Option Addr) (c1 c2 : Nat) (r1 : Rd w 4 A1 q1.length (q1.flatMap encI)) (r2 : Rd w 4 A2 q2.length (q2.flatMap encI)) (h1 : q1.length ≤ c1) (h2 : q2.length ≤ c2) (m1 : c1 ≤ maxLen) (m2 : c2 ≤ maxLen) :
    PgIn (w.alloc (Obj.cells #[.slice A1 q1.length c1, .slice A2 q2.length c2] 75)) ⟨v, m, [q1, q2]⟩ (some ⟨w.heap.size, 0, none⟩) := by
  have hb : Below w.heap.size w (w.alloc (Obj.cells #[.slice A1 q1.length c1, .slice A2 q2.length c2] 75)) := (Below.refl _ _).alloc (Nat.le_refl _) _
  have hk := heap_alloc_new w (Obj.cells #[.slice A1 q1.length c1, .slice A2 q2.length c2] 75)
  have e1 := rd_toC (r1.below hb (Nat.le_refl _))
  have e2 := rd_toC (r2.below hb (Nat.le_refl _))
  refine ⟨⟨[.slice A1 q1.length c1, .slice A2 q2.length c2], ⟨rfl, fun _ => ⟨_, 0, rfl, blk_lt hk, blk_lt hk, fun j hj => ?_⟩⟩, fun i q hi => ?_⟩, by simp [maxLen], fun q hq => ?_⟩
  · rw [cell_blk hk]
    rcases (show j = 0 ∨ j = 1 by simp at hj; omega) with rfl | rfl <;> rfl
  · match i, hi with
    | 0, hi => simp at hi; subst hi; exact ⟨A1, c1, rfl, e1, h1, m1⟩
    | 1, hi => simp at hi; subst hi; exact ⟨A2, c2, rfl, e2, h2, m2⟩
    | n + 2, hi => simp at hi
  · simp at hq
    rcases hq with rfl | rfl
    · exact Nat.le_trans h1 m1
    · exact Nat.le_trans h2 m2
def loc : Ins := ⟨4, 0, 0, 1⟩
/-- what local makes -/
def LocOut (w : World) (n : Nat) (x : Ending) (w' : World) : Prop := ∃ A cap, x = .returned (.slice A n cap) ∧ Rd w' 4 A n ((List.replicate n loc).flatMap encI) ∧ n ≤ cap ∧ cap ≤ maxLen ∧ Below w.heap.size w w'
set_option maxRecDepth 100000 in
theorem local_any (w : World) (n : Nat) (hn : n ≤ 1000) : Calls Tryz.prog 39 #[.int .i64 (n : Int)] w (LocOut w n) := by
  obtain ⟨i0, hi0, hz0, hz1, hz2⟩ := info_parts Tryz.infoIns
  go_enter Tryz.func39, Tryz.ntmps39
  go_wp2_with fail
  go_loopw [3, 5] (fun r v wr => ∃ (k : Nat) (A : Option Addr) (cap : Nat), k ≤ n ∧ v = .int .i64 k ∧ r = .slice A k cap ∧ Hid (Row wr 78 4 A k cap ((List.replicate k loc).flatMap encI)) ∧ Hid (∀ a, A = some a → w.heap.size ≤ a.block) ∧ Hid (Below w.heap.size w wr)) (fun _ v _ => n - (intOf v).toNat)
  case atStart => exact ⟨0, none, 0, Nat.zero_le _, rfl, rfl, Lib.hid (Row.nil _ _ _), Lib.hid (fun a h => by cases h), Lib.hid (Below.refl _ _)⟩
  case round =>
    obtain ⟨k, A, cap, hk, rfl, rfl, HROW, HA, HB⟩ := hrel
    by_cases hlt : k < n
    · have k1 : (0 : Int) ≤ (k : Int) := Int.natCast_nonneg _
      have k2 : (k : Int) < (n : Int) := by omega
      go_wp2_with (at_builtin; refine wpList_append_row (by rfl) _ _ _ (by rfl) 78 i0 _ 4 32 Tryz.underlying75 hi0 hz0 hz1 hz2 rfl (by omega) A k cap ((List.replicate k loc).flatMap encI) (by rfl) (HROW.out.alloc _) ⟨wr.heap.size, 0, none⟩ 1 1 [.int .i64 4, .int .i64 0, .int .i64 0, .int .i64 1] (by rfl) (by rfl) (World.news_of_block (cs := #[.int .i64 4, .int .i64 0, .int .i64 0, .int .i64 1]) (t := 78) (fr := (0, 0)) (heap_alloc_new wr _)) (by simp [Value.oneCell']) (by omega) (by unfold maxLen; omega) (by omega) ?_; intro g1 of1 cap1 w3 hown hm hat; skip)
      obtain ⟨q1, q2⟩ := acc_more HA.out HB.out hm hat (of := of1)
      go_roundw
      case rel => exact ⟨k + 1, some ⟨g1, of1, none⟩, cap1, by omega, by go_num, rfl, Lib.hid (by rw [List.replicate_succ', List.flatMap_append]; simpa [encI, loc] using hown), Lib.hid q1, Lib.hid q2⟩
      case measure => simp [intOf]; omega
    · obtain rfl : k = n := by omega
      go_wp2_with fail
      go_ret
      exact ⟨A, cap, rfl, HROW.out.rd, HROW.out.2.1, HROW.out.2.2.1, HB.out⟩
namespace Aw6
def p : Pg := ⟨0, 0, [[loc], [loc]]⟩
def z : Pg := ⟨0, 0, []⟩
def d : Pg := ⟨0, 1, [[⟨5, 0, 0, 0⟩, ⟨5, 0, 0, 0⟩], [⟨5, 0, 0, 0⟩, ⟨5, 0, 0, 0⟩]]⟩
theorem a1 : (Pr.all6 p 8 100).2 = 0 := by kernel_rfl
theorem a2 : (Pr.all6 p 8 100).1.2.runs = 2 := by kernel_rfl
theorem a3 : (Pr.all6 p 8 100).1.1 = 5 := by kernel_rfl
theorem a4 : (Pr.all6 p 8 100).1.2.keys.length = 1 := by kernel_rfl
theorem b1 : (Pr.all6 z 8 100).2 = 1 := by kernel_rfl
theorem c1 : (Pr.all6 p 8 4).2 = 5 := by kernel_rfl
theorem d1 : (Pr.all6 d 8 100).2 = 0 := by kernel_rfl
theorem d2 : (Pr.all6 d 8 100).1.2.stuck = 2 := by kernel_rfl
end Aw6
theorem p_all (u : World) (A1 A2 : Option Addr) (c1 c2 : Nat) (most : Nat) (hmost : most ≤ 100000) (r1 : Rd u 4 A1 1 ([loc].flatMap encI)) (r2 : Rd u 4 A2 1 ([loc].flatMap encI)) (h1 : 1 ≤ c1) (h2 : 1 ≤ c2) (m1 : c1 ≤ maxLen) (m2 : c2 ≤ maxLen) :
    Calls Tryz.prog 32 #[.agg #[.int .i64 0, .int .i64 0, .slice (some ⟨u.heap.size, 0, none⟩) 2 2], .int .i64 8, .int .i64 (most : Int)] (u.alloc (Obj.cells #[.slice A1 1 c1, .slice A2 1 c2] 75)) (WAllOut (u.alloc (Obj.cells #[.slice A1 1 c1, .slice A2 1 c2] 75)) (Pr.all6 Aw6.p 8 most)) :=
  walkAll_any _ Aw6.p (some ⟨u.heap.size, 0, none⟩) 2 8 most (pgin_two u 0 0 [loc] [loc] A1 A2 c1 c2 r1 r2 h1 h2 m1 m2) hmost
set_option maxRecDepth 100000 in
set_option maxHeartbeats 4000000 in
theorem awake06 (w : World) : Calls Tryz.prog 31 #[] w fun x w' => x = .returned (.bool true) ∧ Below w.heap.size w w' := by
  obtain ⟨⟨⟨ca, ⟨ka, ra, sa⟩⟩, ea⟩, hra⟩ : ∃ r, r = Pr.all6 Aw6.p 8 100 := ⟨_, rfl⟩
  obtain ⟨⟨⟨cb, ⟨kb, rb, sb⟩⟩, eb⟩, hrb⟩ : ∃ r, r = Pr.all6 Aw6.z 8 100 := ⟨_, rfl⟩
  obtain ⟨⟨⟨cc, ⟨kc, rc, sc⟩⟩, ec⟩, hrc⟩ : ∃ r, r = Pr.all6 Aw6.p 8 4 := ⟨_, rfl⟩
  have a1 := Aw6.a1
  have a2 := Aw6.a2
  have a3 := Aw6.a3
  have a4 := Aw6.a4
  have b1 := Aw6.b1
  have c1 := Aw6.c1
  rw [← hra] at a1 a2 a3 a4
  rw [← hrb] at b1
  rw [← hrc] at c1
  simp only at a1 a2 a3 a4 b1 c1
  subst a1 a2 a3 b1 c1
  obtain ⟨na, hna⟩ : ∃ n, n = ka.length := ⟨_, rfl⟩
  rw [← hna] at a4
  subst a4
  obtain ⟨nb, hnb⟩ : ∃ n, n = kb.length := ⟨_, rfl⟩
  obtain ⟨nc, hnc⟩ : ∃ n, n = kc.length := ⟨_, rfl⟩
  have hA : ∀ (u : World) (A1 A2 : Option Addr) (c1 c2 : Nat), Rd u 4 A1 1 ([loc].flatMap encI) → Rd u 4 A2 1 ([loc].flatMap encI) → 1 ≤ c1 → 1 ≤ c2 → c1 ≤ maxLen → c2 ≤ maxLen →
      Calls Tryz.prog 32 #[.agg #[.int .i64 0, .int .i64 0, .slice (some ⟨u.heap.size, 0, none⟩) 2 2], .int .i64 8, .int .i64 100] (u.alloc (Obj.cells #[.slice A1 1 c1, .slice A2 1 c2] 75)) fun x w' => (∃ A cap, x = .returned (.tuple #[.agg #[.slice A 1 cap, .int .i64 2, .int .i64 5], .int .i64 0])) ∧ Below (u.alloc (Obj.cells #[.slice A1 1 c1, .slice A2 1 c2] 75)).heap.size (u.alloc (Obj.cells #[.slice A1 1 c1, .slice A2 1 c2] 75)) w' := fun u A1 A2 c1 c2 r1 r2 h1 h2 m1 m2 => by
    have := p_all u A1 A2 c1 c2 100 (by omega) r1 r2 h1 h2 m1 m2
    rw [← hra] at this
    exact this.mono fun x w' ⟨A, cap, hx, _, _, _, hb⟩ => ⟨⟨A, cap, by rw [hx]; simp only; rw [← hna]; rfl⟩, hb⟩
  have hC : ∀ (u : World) (A1 A2 : Option Addr) (c1 c2 : Nat), Rd u 4 A1 1 ([loc].flatMap encI) → Rd u 4 A2 1 ([loc].flatMap encI) → 1 ≤ c1 → 1 ≤ c2 → c1 ≤ maxLen → c2 ≤ maxLen →
      Calls Tryz.prog 32 #[.agg #[.int .i64 0, .int .i64 0, .slice (some ⟨u.heap.size, 0, none⟩) 2 2], .int .i64 8, .int .i64 4] (u.alloc (Obj.cells #[.slice A1 1 c1, .slice A2 1 c2] 75)) fun x w' => (∃ A cap, x = .returned (.tuple #[.agg #[.slice A nc cap, .int .i64 rc, .int .i64 cc], .int .i64 5])) ∧ Below (u.alloc (Obj.cells #[.slice A1 1 c1, .slice A2 1 c2] 75)).heap.size (u.alloc (Obj.cells #[.slice A1 1 c1, .slice A2 1 c2] 75)) w' := fun u A1 A2 c1 c2 r1 r2 h1 h2 m1 m2 => by
    have := p_all u A1 A2 c1 c2 4 (by omega) r1 r2 h1 h2 m1 m2
    rw [← hrc] at this
    exact this.mono fun x w' ⟨A, cap, hx, _, _, _, hb⟩ => ⟨⟨A, cap, by rw [hx]; simp only; rw [← hnc]⟩, hb⟩
  have hB : ∀ (u : World), Calls Tryz.prog 32 #[.agg #[.int .i64 0, .int .i64 0, .slice none 0 0], .int .i64 8, .int .i64 100] u fun x w' => (∃ A cap, x = .returned (.tuple #[.agg #[.slice A nb cap, .int .i64 rb, .int .i64 cb], .int .i64 1])) ∧ Below u.heap.size u w' := fun u => by
    have := walkAll_any u Aw6.z none 0 8 100 ⟨⟨[], ⟨rfl, fun h => by simp [Aw6.z] at h⟩, fun i q hi => by simp [Aw6.z] at hi⟩, by simp [Aw6.z, maxLen], fun q hq => by simp [Aw6.z] at hq⟩ (by omega)
    rw [← hrb] at this
    exact this.mono fun x w' ⟨A, cap, hx, _, _, _, hb⟩ => ⟨⟨A, cap, by rw [hx]; simp only; rw [← hnb]⟩, hb⟩
  have hD : ∀ (u : World), Calls Tryz.prog 33 #[.agg #[.int .i64 0, .int .i64 1, .slice (some ⟨(u.alloc (Obj.cells #[.int .i64 5, .int .i64 0, .int .i64 0, .int .i64 0, .int .i64 5, .int .i64 0, .int .i64 0, .int .i64 0] 78)).heap.size, 0, none⟩) 2 2], .int .i64 8, .int .i64 100] ((u.alloc (Obj.cells #[.int .i64 5, .int .i64 0, .int .i64 0, .int .i64 0, .int .i64 5, .int .i64 0, .int .i64 0, .int .i64 0] 78)).alloc (Obj.cells #[.slice (some ⟨u.heap.size, 0, none⟩) 2 2, .slice (some ⟨u.heap.size, 0, none⟩) 2 2] 75)) fun x w' => x = .returned (.tuple #[.int .i64 2, .int .i64 0]) ∧ Below u.heap.size u w' := fun u => by
    have hk := heap_alloc_new u (Obj.cells #[.int .i64 5, .int .i64 0, .int .i64 0, .int .i64 0, .int .i64 5, .int .i64 0, .int .i64 0, .int .i64 0] 78)
    have hr : Rd (u.alloc (Obj.cells #[.int .i64 5, .int .i64 0, .int .i64 0, .int .i64 0, .int .i64 5, .int .i64 0, .int .i64 0, .int .i64 0] 78)) 4 (some ⟨u.heap.size, 0, none⟩) ([⟨5, 0, 0, 0⟩, ⟨5, 0, 0, 0⟩] : List Ins).length (([⟨5, 0, 0, 0⟩, ⟨5, 0, 0, 0⟩] : List Ins).flatMap encI) := ⟨rfl, fun _ => ⟨_, 0, rfl, blk_lt hk, fun j hj => by
      rw [cell_blk hk]
      rcases (show j = 0 ∨ j = 1 ∨ j = 2 ∨ j = 3 ∨ j = 4 ∨ j = 5 ∨ j = 6 ∨ j = 7 by simp at hj; omega) with rfl | rfl | rfl | rfl | rfl | rfl | rfl | rfl <;> rfl⟩⟩
    have hp := pgin_two _ 0 1 _ _ _ _ 2 2 hr hr (Nat.le_refl _) (Nat.le_refl _) (by simp [maxLen]) (by simp [maxLen])
    have := deadlocks_any _ Aw6.d _ 2 8 100 hp (by omega)
    rw [Aw6.d1, Aw6.d2] at this
    refine this.mono fun x w' h => ⟨h.1, ?_⟩
    have b1 : Below u.heap.size u (u.alloc (Obj.cells #[.int .i64 5, .int .i64 0, .int .i64 0, .int .i64 0, .int .i64 5, .int .i64 0, .int .i64 0, .int .i64 0] 78)) := (Below.refl _ _).alloc (Nat.le_refl _) _
    exact below_at (b1.alloc b1.size _) h.2
  have HA := Lib.hid hA
  have HC := Lib.hid hC
  have HB := Lib.hid hB
  have HD := Lib.hid hD
  have HL := Lib.hid (fun u => local_any u 1 (by omega))
  clear hA hC hB hD hra hrb hrc hna hnb hnc
  go_enter Tryz.func31, Tryz.ntmps31
  go_wp2_with fail
  refine (HL.out w).mono ?_
  rintro y w1 ⟨A1, c1, rfl, r1, l1, m1, b1⟩
  have HB1 := Lib.hid b1
  have HR1 := Lib.hid (And.intro r1 (And.intro l1 m1))
  clear b1 r1 l1 m1
  go_wp2_with fail
  refine (HL.out w1).mono ?_
  rintro y w2 ⟨A2, c2, rfl, r2, l2, m2, b2⟩
  have HC1 := Lib.hid (HA.out w2 A1 A2 c1 c2 (HR1.out.1.below b2 (Nat.le_refl _)) r2 HR1.out.2.1 l2 HR1.out.2.2 m2)
  have HB2 := Lib.hid (below_at HB1.out b2)
  clear b2 r2 l2 m2
  go_wp2_with fail
  refine HC1.out.mono ?_
  rintro y w3 ⟨⟨A3, c3, rfl⟩, b3⟩
  obtain ⟨X1, hX1⟩ : ∃ z, z = w3.heap.size := ⟨_, rfl⟩
  obtain ⟨W4, hW4⟩ : ∃ z, z = w3.alloc (Obj.cells #[.slice A3 1 c3, .int .i64 2, .int .i64 5] 62) := ⟨_, rfl⟩
  have hk4 : W4.heap[X1]? = some (.cells #[.slice A3 1 c3, .int .i64 2, .int .i64 5] 62 (0, 0)) := by rw [hW4, hX1]; exact heap_alloc_new w3 _
  have hb2a : Below w2.heap.size w2 (w2.alloc (Obj.cells #[.slice A1 1 c1, .slice A2 1 c2] 75)) := (Below.refl _ _).alloc (Nat.le_refl _) _
  have hb4 : Below w3.heap.size w3 W4 := by rw [hW4]; exact (Below.refl _ _).alloc (Nat.le_refl _) _
  have HB4 := Lib.hid (below_at HB2.out (below_at (below_at hb2a b3) hb4))
  have HK4 := Lib.hid hk4
  clear b3 hk4 hb2a hb4 HC1
  go_upto_region 2 with fail
  rw [← hW4, ← hX1]
  clear hW4 hX1
  go_wp2_with fail
  refine (HB.out W4).mono ?_
  rintro y w5 ⟨⟨A5, c5, rfl⟩, b5⟩
  have HB5 := Lib.hid (below_at HB4.out (b5.alloc b5.size (Obj.cells #[.slice A5 nb c5, .int .i64 rb, .int .i64 cb] 62)))
  have HK5 := Lib.hid (blk_stepW HK4.out (b5.alloc b5.size (Obj.cells #[.slice A5 nb c5, .int .i64 rb, .int .i64 cb] 62)))
  clear b5
  go_upto_region 3 with fail
  obtain ⟨W6, hW6⟩ : ∃ z, z = w5.alloc (Obj.cells #[.slice A5 nb c5, .int .i64 rb, .int .i64 cb] 62) := ⟨_, rfl⟩
  rw [← hW6] at HB5 HK5 ⊢
  clear hW6
  go_wp2_with fail
  refine (HL.out W6).mono ?_
  rintro y w7 ⟨A7, c7, rfl, r7, l7, m7, b7⟩
  have HB7 := Lib.hid b7
  have HR7 := Lib.hid (And.intro r7 (And.intro l7 m7))
  clear b7 r7 l7 m7
  go_wp2_with fail
  refine (HL.out w7).mono ?_
  rintro y w8 ⟨A8, c8, rfl, r8, l8, m8, b8⟩
  have HC8 := Lib.hid (HC.out w8 A7 A8 c7 c8 (HR7.out.1.below b8 (Nat.le_refl _)) r8 HR7.out.2.1 l8 HR7.out.2.2 m8)
  have HB8 := Lib.hid (below_at HB7.out b8)
  clear b8 r8 l8 m8
  go_wp2_with fail
  refine HC8.out.mono ?_
  rintro y w9 ⟨⟨A9, c9, rfl⟩, b9⟩
  have hb9 : Below W6.heap.size W6 (w9.alloc (Obj.cells #[.slice A9 nc c9, .int .i64 rc, .int .i64 cc] 62)) := by
    have q1 : Below w8.heap.size w8 (w8.alloc (Obj.cells #[.slice A7 1 c7, .slice A8 1 c8] 75)) := (Below.refl _ _).alloc (Nat.le_refl _) _
    have q2 := below_at HB8.out (below_at q1 b9)
    exact q2.alloc q2.size _
  have HB9 := Lib.hid (below_at HB5.out hb9)
  have HK9 := Lib.hid (blk_stepW HK5.out hb9)
  clear b9 hb9 HC8
  go_upto_region 4 with fail
  obtain ⟨W10, hW10⟩ : ∃ z, z = w9.alloc (Obj.cells #[.slice A9 nc c9, .int .i64 rc, .int .i64 cc] 62) := ⟨_, rfl⟩
  rw [← hW10] at HB9 HK9 ⊢
  clear hW10
  have HC10 := Lib.hid (HD.out W10)
  go_wp2_with fail
  simp only [World.size_alloc] at HC10
  refine HC10.out.mono ?_
  rintro y w11 ⟨rfl, b11⟩
  have hk := blk_stepW HK9.out b11
  have z0 : w11.cell? ⟨X1, 0, none⟩ = some (.slice A3 1 c3) := cell_blk hk 0
  have z1 : w11.cell? ⟨X1, 1, none⟩ = some (.int .i64 2) := cell_blk hk 1
  have z2 : w11.cell? ⟨X1, 2, none⟩ = some (.int .i64 5) := cell_blk hk 2
  have zl := blk_lt hk
  have HB11 := Lib.hid (below_at HB9.out b11)
  clear b11 hk
  go_wp2_with fail
  go_ret
  exact ⟨rfl, HB11.out⟩
end Go.Proofs.YtcaapoacmfjnmaaGreat
