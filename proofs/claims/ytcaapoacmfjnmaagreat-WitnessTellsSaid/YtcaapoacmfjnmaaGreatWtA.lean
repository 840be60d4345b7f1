/- WitnessTells: of any program, key and row what is told is the document's. -/
import Derived.Test.YtcaapoacmfjnmaaGreatStR
import Derived.Test.YtcaapoacmfjnmaaGreatRsK
import Derived.Test.YtcaapoacmfjnmaaGreatArg
import Derived.JoinedTies
import GoSem.Claim
import Derived.KernelRfl
namespace Go.Proofs.YtcaapoacmfjnmaaGreat
open Go.RowKit
set_option linter.unusedVariables false

namespace Pr
def lOf (r : Except Int (List Int)) : List Int := match r with | .ok l => l | .error _ => []
def eOf {α : Type} (r : Except Int α) : Int := match r with | .ok _ => 0 | .error e => e
def kOf (r : Except Int (List UInt8)) : List UInt8 := match r with | .ok l => l | .error _ => []
end Pr
theorem RowOutW.uni {w w' : World} {r : Except Int (List Int)} {x : Ending} (h : RowOutW w r x w') : ∃ A cap, x = .returned (.tuple #[.slice A (Pr.lOf r).length cap, .int .i64 (Pr.eOf r)]) ∧ Rd w' 1 A (Pr.lOf r).length ((Pr.lOf r).map iv) ∧ Below w.heap.size w w' := by
  cases r with
  | ok l => obtain ⟨A, cap, h1, h2, _, _, h3⟩ := h; exact ⟨A, cap, h1, h2, h3⟩
  | error e => obtain ⟨h1, h2⟩ := h; exact ⟨none, 0, h1, (Row.nil w' 3 1).rd, h2⟩
theorem KeyOutW.uni {w w' : World} {r : Except Int (List UInt8)} {x : Ending} (h : KeyOutW w r x w') : x = .returned (.tuple #[.string ⟨(Pr.kOf r).toArray⟩, .int .i64 (Pr.eOf r)]) ∧ Below w.heap.size w w' := by
  cases r with
  | ok l => exact h
  | error e => exact h
theorem Pr.isW_eq (p : Pg) (f : Int) (k : List UInt8) : Pr.isW p f k = (Pr.eOf (Pr.ofW p f k) == 0) := by
  unfold Pr.isW
  cases h : Pr.ofW p f k with
  | ok l => rfl
  | error e => have := Pr.ofW_err h; simp [Pr.eOf, this]
theorem Pr.ofW_small {p : Pg} {f : Int} {k : List UInt8} : (Pr.lOf (Pr.ofW p f k)).length ≤ k.length := by
  unfold Pr.ofW
  split
  · split
    · exact Nat.zero_le _
    · rename_i row hrow
      split
      · exact Nat.zero_le _
      · split
        · exact Pr.rowW_small hrow
        · exact Nat.zero_le _
  · exact Nat.zero_le _
theorem Pr.rowW_len {k : List UInt8} : (Pr.lOf (Pr.rowW k)).length ≤ k.length := by
  cases h : Pr.rowW k with
  | ok l => exact Pr.rowW_small h
  | error e => exact Nat.zero_le _

set_option maxRecDepth 100000 in
set_option maxHeartbeats 8000000 in
theorem witnessTells_any (W : World) (p : Pg) (A : Option Addr) (cap : Nat) (f : Int) (k : List UInt8) (B : Option Addr) (cap2 : Nat) (row : List Int) (hp : PgIn W p A)
    (hk : k.length ≤ maxLen) (hr : Rd W 1 B row.length (row.map iv)) (hrl : row.length ≤ maxLen) :
    Calls Tryz.prog 3 #[valP p A cap, .int .i64 f, .string ⟨k.toArray⟩, .slice B row.length cap2] W fun e w' => e = .returned (.bool true) ∧ Below W.heap.size W w' := by
  obtain ⟨Wa, X, hWa, hX, hBa, hXl, hXe⟩ := pg_box W p.vars p.mtx A p.code.length cap
  have hpa := hp.below hBa
  have hfew : ∀ u, Below Wa.heap.size Wa u → Calls Tryz.prog 14 #[valP p A cap] u fun x w' => x = .returned (.bool (Pr.few p)) ∧ Below u.heap.size u w' := fun u hu => by
    have h := hpa.below hu
    exact fewP_any u p A cap h.1 h.2.1 h.2.2
  have hra : Rd Wa 1 B row.length (row.map iv) := hr.below hBa (Nat.le_refl _)
  obtain ⟨fk, hfk⟩ : ∃ fk, fk = Pr.few p := ⟨_, rfl⟩
  rw [← hfk] at hfew
  obtain ⟨kb, hkb⟩ : ∃ kb : ByteArray, kb = ⟨k.toArray⟩ := ⟨_, rfl⟩
  have hks : kb.size = k.length := by rw [hkb]; show k.toArray.size = _; simp
  rw [← hkb]
  obtain ⟨n, hn⟩ : ∃ n, n = row.length := ⟨_, rfl⟩
  obtain ⟨kn, hkn⟩ : ∃ kn, kn = kb.size := ⟨_, rfl⟩
  have hm1 : n < 9223372036854775808 := by rw [hn]; unfold maxLen at hrl; omega
  have hm2 : kn < 9223372036854775808 := by rw [hkn, hks]; unfold maxLen at hk; omega
  have HXE := Lib.hid hXe
  have HB := Lib.hid hBa
  have HPA := Lib.hid hpa
  have HRA := Lib.hid hra
  have HKB := Lib.hid hkb
  have HN := Lib.hid hn
  have HKS := Lib.hid hks
  have HKN := Lib.hid hkn
  rw [← hn]
  unfold valP at hfew ⊢
  have HFEW := Lib.hid hfew
  obtain ⟨x0, x1, x2, xl⟩ := hXe Wa (Below.refl _ _)
  clear hXe hBa hfew hpa hr hp hfk hra hkb hn hks hk hrl
  go_enter Tryz.func3, Tryz.ntmps3
  go_upto_region 1 with fail
  rw [← hWa, ← hX]
  clear hWa hX
  go_cut [37] (fun v w2 => Below Wa.heap.size Wa w2 ∧ ∃ z, v = .bool z ∧ (z = false → n ≤ 60 ∧ kn ≤ 200))
  case first =>
    go_wp2_with fail
    refine (awake18 _).mono ?_
    rintro x w1 ⟨rfl, b1⟩
    have HB1 := Lib.hid b1
    clear b1 x0 x1 x2 xl
    obtain ⟨x0, x1, x2, xl⟩ := HXE.out w1 HB1.out
    go_wp2_with fail
    refine (HFEW.out w1 HB1.out).mono ?_
    rintro x w2 ⟨rfl, b2⟩
    have HB2 := Lib.hid (below_at HB1.out b2)
    clear b2
    cases fk with
    | false =>
      go_wp2_with fail
      go_meet
      exact ⟨HB2.out, _, rfl, fun h => by cases h⟩
    | true =>
      try rw [← hkn]
      go_wp2_with fail
      all_goals (go_meet)
      all_goals (exact ⟨HB2.out, _, rfl, fun h => by first | (cases h; done) | (simp at h; omega) | omega⟩)
  case rest =>
    obtain ⟨b1, z, rfl, hz⟩ := hcut
    have HB1 := Lib.hid b1
    clear b1 x0 x1 x2 xl
    cases z with
    | true =>
      go_wp2_with fail
      refine (awake18 _).mono ?_
      rintro e w2 ⟨rfl, b2⟩
      go_wp2_with fail
      go_ret
      exact ⟨rfl, below_at HB.out (below_at HB1.out b2)⟩
    | false =>
      obtain ⟨hn60, hk200⟩ := hz rfl
      clear hz HFEW
      have hkl : k.length ≤ 200 := by rw [← HKS.out, ← HKN.out]; exact hk200
      have hrl : row.length ≤ 60 := by rw [← HN.out]; exact hn60
      have hrow : ∀ u, Calls Tryz.prog 15 #[.string kb] u _ := fun u => HKB.out ▸ (rowW_any u k (by omega)).mono fun x w' h => RowOutW.uni h
      have hrrow : ∀ u, Calls Tryz.prog 16 #[.string kb] u _ := fun u => HKB.out ▸ (refRowW_any u k (by omega)).mono fun x w' h => RowOutW.uni h
      have hbeg : ∀ u, Below Wa.heap.size Wa u → Calls Tryz.prog 17 #[valP p A cap, .int .i64 f, .slice B n cap2] u _ := fun u hu => HN.out ▸ (beginsW_any u p A cap f B cap2 row (HPA.out.below hu) (HRA.out.below hu (Nat.le_refl _)) (by omega)).mono fun x w' h => KeyOutW.uni h
      have hrbeg : ∀ u, Below Wa.heap.size Wa u → Calls Tryz.prog 18 #[valP p A cap, .int .i64 f, .slice B n cap2] u _ := fun u hu => HN.out ▸ (refBeginsW_any u p A cap f B cap2 row (HPA.out.below hu) (HRA.out.below hu (Nat.le_refl _)) (by omega)).mono fun x w' h => KeyOutW.uni h
      have hend : ∀ u, Below Wa.heap.size Wa u → Calls Tryz.prog 23 #[valP p A cap, .int .i64 f, .slice B n cap2] u _ := fun u hu => HN.out ▸ (endsW_any u p A cap f B cap2 row (HPA.out.below hu) (HRA.out.below hu (Nat.le_refl _)) (by omega))
      have hrend : ∀ u, Below Wa.heap.size Wa u → Calls Tryz.prog 24 #[valP p A cap, .int .i64 f, .slice B n cap2] u _ := fun u hu => HN.out ▸ (refEndsW_any u p A cap f B cap2 row (HPA.out.below hu) (HRA.out.below hu (Nat.le_refl _)) (by omega))
      have hof : ∀ u, Below Wa.heap.size Wa u → Calls Tryz.prog 19 #[valP p A cap, .int .i64 f, .string kb] u _ := fun u hu => HKB.out ▸ (ofW_any u p A cap f k (HPA.out.below hu) (by omega)).mono fun x w' h => RowOutW.uni h
      have hrof : ∀ u, Below Wa.heap.size Wa u → Calls Tryz.prog 20 #[valP p A cap, .int .i64 f, .string kb] u _ := fun u hu => HKB.out ▸ (refOfW_any u p A cap f k (HPA.out.below hu) (by omega)).mono fun x w' h => RowOutW.uni h
      have his : ∀ u, Below Wa.heap.size Wa u → Calls Tryz.prog 22 #[valP p A cap, .int .i64 f, .string kb] u _ := fun u hu => HKB.out ▸ (isW_any u p A cap f k (HPA.out.below hu) (by omega))
      have hl1 : (Pr.lOf (Pr.rowW k)).length ≤ 200 := Nat.le_trans Pr.rowW_len hkl
      have hl2 : (Pr.lOf (Pr.ofW p f k)).length ≤ 200 := Nat.le_trans Pr.ofW_small hkl
      have hbe := Pr.isW_eq p f k
      have hsame : ∀ (l : List Int) (u : World) (A1 : Option Addr) (c1 : Nat) (A2 : Option Addr) (c2 : Nat) (n : Nat), n = l.length → n ≤ 200 → Rd u 1 A1 n (l.map iv) → Rd u 1 A2 n (l.map iv) → Calls Tryz.prog 21 #[.slice A1 n c1, .slice A2 n c2] u fun x w' => x = .returned (.bool true) ∧ Below u.heap.size u w' := fun l u A1 c1 A2 c2 n hn h2 r1 r2 => by
        subst hn
        have := sameInts_any u A1 c1 l A2 c2 l r1 r2 (by omega)
        rwa [decide_eq_true rfl] at this
      obtain ⟨l1, hl1'⟩ : ∃ l, l = Pr.lOf (Pr.rowW k) := ⟨_, rfl⟩
      obtain ⟨l2, hl2'⟩ : ∃ l, l = Pr.lOf (Pr.ofW p f k) := ⟨_, rfl⟩
      obtain ⟨e1, he1⟩ : ∃ l, l = Pr.eOf (Pr.rowW k) := ⟨_, rfl⟩
      obtain ⟨e2, he2⟩ : ∃ l, l = Pr.eOf (Pr.ofW p f k) := ⟨_, rfl⟩
      obtain ⟨e3, he3⟩ : ∃ l, l = Pr.eOf (Pr.beginsW p f row) := ⟨_, rfl⟩
      obtain ⟨k3, hk3⟩ : ∃ l : ByteArray, l = ⟨(Pr.kOf (Pr.beginsW p f row)).toArray⟩ := ⟨_, rfl⟩
      obtain ⟨b4, hb4⟩ : ∃ b, b = Pr.endsW p f row := ⟨_, rfl⟩
      obtain ⟨b5, hb5⟩ : ∃ b, b = Pr.isW p f k := ⟨_, rfl⟩
      simp only [← hl1', ← hl2', ← he1, ← he2, ← he3, ← hk3, ← hb4, ← hb5] at hrow hrrow hbeg hrbeg hend hrend hof hrof his hl1 hl2 hbe
      obtain ⟨n1, hn1⟩ : ∃ n, n = l1.length := ⟨_, rfl⟩
      obtain ⟨n2, hn2⟩ : ∃ n, n = l2.length := ⟨_, rfl⟩
      rw [← hn1] at hl1
      rw [← hn2] at hl2
      simp only [← hn1, ← hn2] at hrow hrrow hof hrof
      have HSA1 := Lib.hid (fun u A1 c1 A2 c2 => hsame l1 u A1 c1 A2 c2 n1 hn1 hl1)
      have HSA2 := Lib.hid (fun u A1 c1 A2 c2 => hsame l2 u A1 c1 A2 c2 n2 hn2 hl2)
      unfold valP at hbeg hrbeg hend hrend hof hrof his
      have C1 := Lib.hid hrow
      have C2 := Lib.hid hrrow
      have C3 := Lib.hid hbeg
      have C4 := Lib.hid hrbeg
      have C5 := Lib.hid hof
      have C6 := Lib.hid hrof
      have C7 := Lib.hid his
      have C8 := Lib.hid hend
      have C9 := Lib.hid hrend
      have HBE := Lib.hid hbe
      clear hrow hrrow hbeg hrbeg hend hrend hof hrof his hsame hl1' hl2' he1 he2 he3 hk3 hb4 hb5 hn1 hn2 hbe hkl hrl hn60 hk200 hl1 hl2 HPA HRA HKB HN HKS HKN
      go_wp2_with fail
      refine (C1.out wc).mono ?_
      rintro y w1 ⟨A1, c1, rfl, r1, b1⟩
      have R1 := Lib.hid r1
      have E1 := Lib.hid (below_at HB1.out b1)
      clear b1 r1 C1
      go_wp2_with fail
      refine (C2.out w1).mono ?_
      rintro y w2 ⟨A2, c2, rfl, r2, b2⟩
      have R1 := Lib.hid (R1.out.below b2 (Nat.le_refl _))
      have R2 := Lib.hid r2
      have E2 := Lib.hid (below_at E1.out b2)
      clear b2 r2 C2 E1
      obtain ⟨x0, x1, x2, xl⟩ := HXE.out w2 E2.out
      go_wp2_with fail
      refine (C3.out w2 E2.out).mono ?_
      rintro y w3 ⟨rfl, b3⟩
      have R1 := Lib.hid (R1.out.below b3 (Nat.le_refl _))
      have R2 := Lib.hid (R2.out.below b3 (Nat.le_refl _))
      have E3 := Lib.hid (below_at E2.out b3)
      clear b3 C3 E2 x0 x1 x2 xl
      obtain ⟨x0, x1, x2, xl⟩ := HXE.out w3 E3.out
      go_wp2_with fail
      refine (C4.out w3 E3.out).mono ?_
      rintro y w4 ⟨rfl, b4⟩
      have R1 := Lib.hid (R1.out.below b4 (Nat.le_refl _))
      have R2 := Lib.hid (R2.out.below b4 (Nat.le_refl _))
      have E4 := Lib.hid (below_at E3.out b4)
      clear b4 C4 E3 x0 x1 x2 xl
      obtain ⟨x0, x1, x2, xl⟩ := HXE.out w4 E4.out
      go_wp2_with fail
      refine (C5.out w4 E4.out).mono ?_
      rintro y w5 ⟨A5, c5, rfl, r5, b5⟩
      have R1 := Lib.hid (R1.out.below b5 (Nat.le_refl _))
      have R2 := Lib.hid (R2.out.below b5 (Nat.le_refl _))
      have R5 := Lib.hid r5
      have E5 := Lib.hid (below_at E4.out b5)
      clear b5 r5 C5 E4 x0 x1 x2 xl
      obtain ⟨x0, x1, x2, xl⟩ := HXE.out w5 E5.out
      go_wp2_with fail
      refine (C6.out w5 E5.out).mono ?_
      rintro y w6 ⟨A6, c6, rfl, r6, b6⟩
      have R1 := Lib.hid (R1.out.below b6 (Nat.le_refl _))
      have R2 := Lib.hid (R2.out.below b6 (Nat.le_refl _))
      have R5 := Lib.hid (R5.out.below b6 (Nat.le_refl _))
      have R6 := Lib.hid r6
      have E6 := Lib.hid (below_at E5.out b6)
      clear b6 r6 C6 E5 x0 x1 x2 xl
      obtain ⟨x0, x1, x2, xl⟩ := HXE.out w6 E6.out
      go_upto_region 9 with fail
      clear x0 x1 x2 xl
      refine wp_region_planF (by kernel_rfl) (fun u => Below w6.heap.size w6 u) [45] [(0, .pure), (1, .pure), (2, .eff), (3, .pure), (4, .pure), (5, .pure), (6, .pure), (7, .pure), (8, .pure), (9, .pure), (10, .pure), (11, .pure), (12, .pure), (13, .pure), (14, .pure), (15, .pure), (16, .pure), (17, .pure), (18, .pure), (19, .pure), (20, .pure), (21, .eff), (22, .pure), (23, .pure), (24, .pure), (25, .pure), (26, .pure), (27, .pure), (28, .pure), (29, .load), (30, .pure), (31, .pure), (33, .pure), (34, .pure), (32, .eff), (35, .pure), (36, .pure), (37, .pure), (38, .load), (39, .pure), (40, .pure), (42, .load), (43, .pure), (44, .pure), (41, .eff), (45, .last), (46, .pure), (47, .pure), (48, .pure)] (by simp only [List.map_cons, List.map_nil, List.getElem?_toArray, List.getElem?_cons_succ, List.getElem?_cons_zero]; rfl) (by kernel_rfl) (fun _ _ d _ _ h => by cases d <;> exact h) ((Below.refl _ _).drew) ?_
      obtain ⟨W7, hW7⟩ : ∃ z, z = w6.drew := ⟨_, rfl⟩
      rw [← hW7]
      have hb7 : Below w6.heap.size w6 W7 := by rw [hW7]; exact (Below.refl _ _).drew
      have HB7 := Lib.hid hb7
      clear hW7 hb7
      repeat (first
        | (refine plan_pure (v := ?_) (by rfl) (fun w1 => ?_) ?_
           rotate_left
           · go_simp <;> with_reducible rfl
           simp only [Act.put, List.setIfInBounds_toArray, List.set_cons_zero, List.set_cons_succ])
        | (refine plan_off (by rfl) ?_
           simp only [Act.put, List.setIfInBounds_toArray, List.set_cons_zero, List.set_cons_succ])
        | (refine plan_load_off (by rfl) ?_
           simp only [Act.put, List.setIfInBounds_toArray, List.set_cons_zero, List.set_cons_succ])
        | (refine plan_load (v := ?_) (by rfl) (fun w1 hw1 => ?_) ?_
           rotate_left
           · (skip
              clear hw1
              go_simp <;> with_reducible rfl)
           simp only [Act.put, List.setIfInBounds_toArray, List.set_cons_zero, List.set_cons_succ]))
      refine plan_eff ?_
      go_wp2_with fail
      refine (HSA1.out W7 A1 c1 A2 c2 (R1.out.below HB7.out (Nat.le_refl _)) (R2.out.below HB7.out (Nat.le_refl _))).mono ?_
      rintro y w8 ⟨rfl, b8⟩
      have HB8 := Lib.hid (below_at HB7.out b8)
      clear b8 HSA1 R1 R2
      go_wp2_with fail
      refine plan_on (fun _ h => h) HB8.out ?_
      repeat (first
        | (refine plan_pure (v := ?_) (by rfl) (fun w1 => ?_) ?_
           rotate_left
           · go_simp <;> with_reducible rfl
           simp only [Act.put, List.setIfInBounds_toArray, List.set_cons_zero, List.set_cons_succ])
        | (refine plan_off (by rfl) ?_
           simp only [Act.put, List.setIfInBounds_toArray, List.set_cons_zero, List.set_cons_succ])
        | (refine plan_load_off (by rfl) ?_
           simp only [Act.put, List.setIfInBounds_toArray, List.set_cons_zero, List.set_cons_succ])
        | (refine plan_load (v := ?_) (by rfl) (fun w1 hw1 => ?_) ?_
           rotate_left
           · (skip
              clear hw1
              go_simp <;> with_reducible rfl)
           simp only [Act.put, List.setIfInBounds_toArray, List.set_cons_zero, List.set_cons_succ]))
      refine plan_eff ?_
      go_wp2_with fail
      refine (HSA2.out w8 A5 c5 A6 c6 (R5.out.below HB8.out (Nat.le_refl _)) (R6.out.below HB8.out (Nat.le_refl _))).mono ?_
      rintro y w9 ⟨rfl, b9⟩
      have HB9 := Lib.hid (below_at HB8.out b9)
      clear b9 HSA2 R5 R6
      go_wp2_with fail
      refine plan_on (fun _ h => h) HB9.out ?_
      repeat (first
        | (refine plan_pure (v := ?_) (by rfl) (fun w1 => ?_) ?_
           rotate_left
           · go_simp <;> with_reducible rfl
           simp only [Act.put, List.setIfInBounds_toArray, List.set_cons_zero, List.set_cons_succ])
        | (refine plan_off (by rfl) ?_
           simp only [Act.put, List.setIfInBounds_toArray, List.set_cons_zero, List.set_cons_succ])
        | (refine plan_load_off (by rfl) ?_
           simp only [Act.put, List.setIfInBounds_toArray, List.set_cons_zero, List.set_cons_succ])
        | (refine plan_load (v := ?_) (by rfl) (fun w1 hw1 => ?_) ?_
           rotate_left
           · (have qx := HXE.out w1 (below_at E6.out hw1)
              obtain ⟨x0, x1, x2, xl⟩ := qx
              clear hw1
              go_simp <;> with_reducible rfl)
           simp only [Act.put, List.setIfInBounds_toArray, List.set_cons_zero, List.set_cons_succ]))
      refine plan_eff ?_
      go_wp2_with fail
      refine (C7.out w9 (below_at E6.out HB9.out)).mono ?_
      rintro y w10 ⟨rfl, b10⟩
      have HB10 := Lib.hid (below_at HB9.out b10)
      have g1 : (b5 == (e2 == 0)) = true := by rw [← HBE.out]; exact beq_self_eq_true b5
      clear b10 C7
      go_wp2_with fail
      refine plan_on (fun _ h => h) HB10.out ?_
      repeat (first
        | (refine plan_pure (v := ?_) (by rfl) (fun w1 => ?_) ?_
           rotate_left
           · go_simp <;> with_reducible rfl
           simp only [Act.put, List.setIfInBounds_toArray, List.set_cons_zero, List.set_cons_succ])
        | (refine plan_off (by rfl) ?_
           simp only [Act.put, List.setIfInBounds_toArray, List.set_cons_zero, List.set_cons_succ])
        | (refine plan_load_off (by rfl) ?_
           simp only [Act.put, List.setIfInBounds_toArray, List.set_cons_zero, List.set_cons_succ])
        | (refine plan_load (v := ?_) (by rfl) (fun w1 hw1 => ?_) ?_
           rotate_left
           · (have qx := HXE.out w1 (below_at E6.out hw1)
              obtain ⟨x0, x1, x2, xl⟩ := qx
              clear hw1
              go_simp <;> with_reducible rfl)
           simp only [Act.put, List.setIfInBounds_toArray, List.set_cons_zero, List.set_cons_succ]))
      refine plan_eff ?_
      go_wp2_with fail
      refine (C8.out w10 (below_at E6.out HB10.out)).mono ?_
      rintro y w11 ⟨rfl, b11⟩
      have HB11 := Lib.hid (below_at HB10.out b11)
      clear b11 C8 g1
      go_wp2_with fail
      refine plan_on (fun _ h => h) HB11.out ?_
      repeat (first
        | (refine plan_pure (v := ?_) (by rfl) (fun w1 => ?_) ?_
           rotate_left
           · go_simp <;> with_reducible rfl
           simp only [Act.put, List.setIfInBounds_toArray, List.set_cons_zero, List.set_cons_succ])
        | (refine plan_off (by rfl) ?_
           simp only [Act.put, List.setIfInBounds_toArray, List.set_cons_zero, List.set_cons_succ])
        | (refine plan_load_off (by rfl) ?_
           simp only [Act.put, List.setIfInBounds_toArray, List.set_cons_zero, List.set_cons_succ])
        | (refine plan_load (v := ?_) (by rfl) (fun w1 hw1 => ?_) ?_
           rotate_left
           · (skip
              clear hw1
              go_simp <;> with_reducible rfl)
           simp only [Act.put, List.setIfInBounds_toArray, List.set_cons_zero, List.set_cons_succ]))
      refine plan_last ?_
      go_wp2_with fail
      refine (C9.out w11 (below_at E6.out HB11.out)).mono ?_
      rintro y w12 ⟨rfl, b12⟩
      have HB12 := Lib.hid (below_at HB11.out b12)
      clear b12 C9
      go_wp2_with fail
      repeat (first
        | (refine plan_pure (v := ?_) (by rfl) (fun w1 => ?_) ?_
           rotate_left
           · go_simp <;> with_reducible rfl
           simp only [Act.put, List.setIfInBounds_toArray, List.set_cons_zero, List.set_cons_succ])
        | (refine plan_off (by rfl) ?_
           simp only [Act.put, List.setIfInBounds_toArray, List.set_cons_zero, List.set_cons_succ])
        | (refine plan_load_off (by rfl) ?_
           simp only [Act.put, List.setIfInBounds_toArray, List.set_cons_zero, List.set_cons_succ])
        | (refine plan_load (v := ?_) (by rfl) (fun w1 hw1 => ?_) ?_
           rotate_left
           · (skip
              clear hw1
              go_simp <;> with_reducible rfl)
           simp only [Act.put, List.setIfInBounds_toArray, List.set_cons_zero, List.set_cons_succ]))
      refine plan_end ?_
      go_wp2_with fail
      go_ret
      exact ⟨by simp, below_at HB.out (below_at E6.out HB12.out)⟩
open Go.ChangeShapes Go.WideShapes Go.ChangeAt
set_option maxRecDepth 100000 in
theorem WitnessTells_walk {H : Type} {enc : TypeId × Value → H} (W : World) {base : Nat} {v0 v1 v2 v3 : Value} {d0 d1 d2 d3 : DataW H} {p0 p1 p2 p3 : List MemPlace}
    (o0 : Value.okWide Tryz.prog W .any base 24 v0) (h0 : DataW.Trod enc Tryz.prog W 0 (fun _ => true) true 24 v0 d0 p0)
    (o1 : Value.okWide Tryz.prog W .any base 3 v1) (h1 : DataW.Trod enc Tryz.prog W 0 (fun _ => true) true 3 v1 d1 p1)
    (o2 : Value.okWide Tryz.prog W .any base 9 v2) (h2 : DataW.Trod enc Tryz.prog W 0 (fun _ => true) true 9 v2 d2 p2)
    (o3 : Value.okWide Tryz.prog W .any base 25 v3) (h3 : DataW.Trod enc Tryz.prog W 0 (fun _ => true) true 25 v3 d3 p3) :
    Calls Tryz.prog 3 #[v0, v1, v2, v3] W fun e w' => e = .returned (.bool true) ∧ Below W.heap.size W w' := by
  obtain ⟨p, A, cap, rfl, hin⟩ := prog_arg o0 h0
  obtain ⟨f, rfl, rfl, rfl, wf⟩ := open_int Tryz.underlying3 o1 h1
  obtain ⟨k, rfl, hk⟩ := key_arg o2 h2
  obtain ⟨row, B, cap2, rfl, hr, hrl, _⟩ := ints_arg o3 h3
  exact witnessTells_any W p A cap f k B cap2 row hin hk hr hrl
namespace witnessTells
theorem own : ownKnob Tryz.prog.godebug = none := by kernel_rfl
theorem laidOut : laidOutB Tryz.prog = true := by kernel_rfl
set_option maxRecDepth 100000 in
theorem lifted (os : Os) (started : os.Started) (H : Type) (enc : TypeId × Value → H) :
    ReturnsInHanded {} Tryz.checked os 3 .any (Rows.witnessTellsSpec.pre6 enc Tryz.prog Tryz.f3 Rows.witnessTellsRow.domain false) (Rows.witnessTellsSpec.post enc Tryz.prog Tryz.f3 false true false false) := by
  refine returnsInHanded_of_change_sized (C := Tryz.checked) own started (by kernel_rfl) Tryz.func3
    (ChangeSpec.witness6 (enc := enc) (C := Tryz.checked) false ⟨#[], #[.agg #[.int .i64 0, .int .i64 0, .slice none 0 0], .int .i64 0, .string ByteArray.empty, .slice none 0 0], []⟩ 8 (by kernel_rfl) (by kernel_rfl) (by kernel_rfl) (by kernel_rfl)) ?_
  intro W base args ds gs before hval0 hW hcnd hsz0 _
  have hval : ∀ (j : Nat) t v, Tryz.f3.params[j]? = some t → args[j]? = some v → Value.okWide Tryz.prog W .any base t v := hval0
  have hW' := hW
  obtain ⟨p, q, hA0, hV, rfl, hfz, hnd⟩ := hW
  have hA : DataW.TrodAll enc Tryz.prog W 0 (fun _ => true) true Tryz.f3.params.toList args.toList ds p := hA0
  rw [Tryz.params3] at hA hval
  obtain ⟨v0, vs0, d0, ds0, p0, q0, hargs, rfl, rfl, h0, r0⟩ := trodAll_cons hA
  obtain ⟨v1, vs1, d1, ds1, p1, q1, rfl, rfl, rfl, h1, r1⟩ := trodAll_cons r0
  obtain ⟨v2, vs2, d2, ds2, p2, q2, rfl, rfl, rfl, h2, r2⟩ := trodAll_cons r1
  obtain ⟨v3, vs3, d3, ds3, p3, q3, rfl, rfl, rfl, h3, r3⟩ := trodAll_cons r2
  obtain ⟨rfl, rfl, rfl⟩ := trodAll_nil r3
  obtain rfl : args = #[v0, v1, v2, v3] := by cases args; simp_all
  obtain ⟨rfl, rfl⟩ := trodVars_none hV
  have lt0 : ∀ x ∈ p0, x.block < W.heap.size := by obtain ⟨m, hm⟩ := h0; exact DataW.trod_lt m _ _ _ hm
  have lt1 : ∀ x ∈ p1, x.block < W.heap.size := by obtain ⟨m, hm⟩ := h1; exact DataW.trod_lt m _ _ _ hm
  have lt2 : ∀ x ∈ p2, x.block < W.heap.size := by obtain ⟨m, hm⟩ := h2; exact DataW.trod_lt m _ _ _ hm
  have lt3 : ∀ x ∈ p3, x.block < W.heap.size := by obtain ⟨m, hm⟩ := h3; exact DataW.trod_lt m _ _ _ hm
  clear hA0 hval0 hsz0
  refine (WitnessTells_walk W (hval 0 24 v0 rfl rfl) h0 (hval 1 3 v1 rfl rfl) h1 (hval 2 9 v2 rfl rfl) h2 (hval 3 25 v3 rfl rfl) h3).mono fun e W' ⟨he, bel⟩ => ?_
  subst he
  exact ⟨_, rfl, _, _, _, [], _, [], hW', trodAll_mk1 (shut_bool Tryz.underlying4 _), (trodAll_cons_mk (Below.trod laidOut (by kernel_rfl) (of_decide_eq_true (by kernel_rfl)) h0 bel lt0) (trodAll_cons_mk (Below.trod laidOut (by kernel_rfl) (of_decide_eq_true (by kernel_rfl)) h1 bel lt1) (trodAll_cons_mk (Below.trod laidOut (by kernel_rfl) (of_decide_eq_true (by kernel_rfl)) h2 bel lt2) (trodAll_cons_mk (Below.trod laidOut (by kernel_rfl) (of_decide_eq_true (by kernel_rfl)) h3 bel lt3) trodAll_mk0)))), rfl, bel.frame _, fun h => (by cases h)⟩
theorem over : Rows.witnessTellsRow.holds Tryz.pinned (OpenSpec.ofChange Rows.witnessTellsSpec) :=
  OpenClaim.holds_of_wide 3 Tryz.f3 rfl rfl rfl rfl rfl rfl rfl ⟨rfl, rfl, rfl, rfl, rfl⟩ rfl rfl rfl rfl rfl (by kernel_rfl) Tryz.func3 (by kernel_rfl)
    (of_decide_eq_true (by kernel_rfl)) (by unfold Func.isWrapper; first | (rw [if_pos (by decide +kernel)]; kernel_rfl) | (rw [if_neg (by decide +kernel)]; exact ⟨rfl, rfl⟩))
    (fun os started H enc _ => lifted os started H enc)
end witnessTells
/-- The row. -/
theorem witnessTells_holds : Rows.WitnessTellsSaid := witnessTells.over
#print axioms witnessTells_holds
end Go.Proofs.YtcaapoacmfjnmaaGreat
