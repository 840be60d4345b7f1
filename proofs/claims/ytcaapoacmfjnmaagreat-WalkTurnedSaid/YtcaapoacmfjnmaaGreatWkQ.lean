/- WalkTurned: the threads turned round. -/
import Derived.Test.YtcaapoacmfjnmaaGreatWkP
import Derived.Test.YtcaapoacmfjnmaaGreatWkJ
import Derived.Test.YtcaapoacmfjnmaaGreatArg
import Derived.JoinedTies
import GoSem.Claim
import Derived.KernelRfl
namespace Go.Proofs.YtcaapoacmfjnmaaGreat
open Go.RowKit
set_option linter.unusedVariables false

theorem in3_cellsQ {w : World} {X : Nat} {a b c : Value} {T : TypeId} (h : w.heap[X]? = some (.cells #[a, b, c] T (0, 0))) : (w.cell? ⟨X, 0, none⟩ = some a ∧ w.cell? ⟨X, 1, none⟩ = some b ∧ w.cell? ⟨X, 2, none⟩ = some c) ∧ X < w.heap.size ∧ w.frozen? ⟨X, 0, none⟩ = false ∧ w.frozen? ⟨X, 1, none⟩ = false ∧ w.frozen? ⟨X, 2, none⟩ = false :=
  ⟨⟨by rw [cell_blk h]; rfl, by rw [cell_blk h]; rfl, by rw [cell_blk h]; rfl⟩, blk_lt h, free_blk h 0, free_blk h 1, free_blk h 2⟩
/-- the threads turned round, in memory -/
theorem pgin_turn {w wr : World} {p : Pg} {vs : List Value} (hl : p.code.length ≤ maxLen) (hq : ∀ q ∈ p.code, q.length ≤ maxLen) (hv : vs.length = p.code.length)
    (hat : ∀ (i : Nat) (q : List Ins), p.code[i]? = some q → ∃ A' c', vs[i]? = some (.slice A' q.length c') ∧ RdC w (fun k => k < w.heap.size) 4 A' q.length (q.flatMap encI) ∧ q.length ≤ c' ∧ c' ≤ maxLen) (hb : Below w.heap.size w wr)
    {B : Option Addr} {cap e : Nat} (hr : Row wr e 1 B p.code.length cap vs.reverse) : PgIn wr (Pr.tuP p) B := by
  refine ⟨⟨vs.reverse, ?_, fun i q hi => ?_⟩, by simpa [Pr.tuP] using hl, fun q hq' => hq q (List.mem_reverse.1 hq')⟩
  · rw [show (Pr.tuP p).code.length = p.code.length from List.length_reverse]
    exact rd_toC hr.rd
  · have hi' : i < p.code.length := by
      have := (List.getElem?_eq_some_iff.1 hi).1
      simpa [Pr.tuP] using this
    have hi2 : p.code[p.code.length - 1 - i]? = some q := by
      rw [← List.getElem?_reverse hi']; exact hi
    obtain ⟨A', c', h1, h2, h3⟩ := hat _ q hi2
    refine ⟨A', c', ?_, (h2.below hb).imp (fun k hk => Nat.lt_of_lt_of_le hk hb.size), h3⟩
    rw [List.getElem?_reverse (by omega), hv]
    exact h1
set_option maxRecDepth 100000 in
set_option maxHeartbeats 8000000 in
theorem walkTurned_any (W : World) (p : Pg) (A : Option Addr) (cap : Nat) (f : Int) (hp : PgIn W p A) :
    Calls Tryz.prog 8 #[valP p A cap, .int .i64 f] W fun e w' => e = .returned (.bool true) ∧ Below W.heap.size W w' := by
  obtain ⟨i0, hi0, hz0, hz1, hz2⟩ := info_parts Tryz.infoCd
  obtain ⟨Wa, X, hWa, hX, hBa, hXl, hXe⟩ := pg_box W p.vars p.mtx A p.code.length cap
  have hpa := hp.below hBa
  have hsmall : ∀ u, Below Wa.heap.size Wa u → _ := fun u hu => small_any u p A cap f (hpa.below hu)
  obtain ⟨sm, hsm⟩ : ∃ b, b = Pr.small p f := ⟨_, rfl⟩
  rw [← hsm] at hsmall
  have hallp : ∀ u, Below Wa.heap.size Wa u → _ := fun u hu => walkAll_any u p A cap f 600 (hpa.below hu) (by omega)
  have hallq : ∀ (u : World) (B : Option Addr) (cb : Nat), PgIn u (Pr.tuP p) B → _ := fun u B cb hq => walkAll_any u (Pr.tuP p) B cb f 600 hq (by omega)
  have hdeadp : ∀ u, Below Wa.heap.size Wa u → _ := fun u hu => deadlocks_any u p A cap f 600 (hpa.below hu) (by omega)
  have hdeadq : ∀ (u : World) (B : Option Addr) (cb : Nat), PgIn u (Pr.tuP p) B → _ := fun u B cb hq => deadlocks_any u (Pr.tuP p) B cb f 600 hq (by omega)
  have hvq : ∀ B cb, valP (Pr.tuP p) B cb = .agg #[.int .i64 p.vars, .int .i64 p.mtx, .slice B p.code.length cb] := fun B cb => by
    unfold valP Pr.tuP
    simp only [List.length_reverse]
  simp only [hvq] at hallq hdeadq
  unfold valP at hsmall hallp hdeadp ⊢
  have HXE := Lib.hid hXe
  have HB := Lib.hid hBa
  have HSMALL := Lib.hid hsmall
  have HPA := Lib.hid hpa
  have HSM := Lib.hid hsm
  have HALLP := Lib.hid hallp
  have HALLQ := Lib.hid hallq
  have HDEADP := Lib.hid hdeadp
  have HDEADQ := Lib.hid hdeadq
  obtain ⟨x0, x1, x2, xl⟩ := hXe Wa (Below.refl _ _)
  clear hXe hBa hsmall hpa hp hsm hallp hallq hdeadp hdeadq hvq
  go_enter Tryz.func8, Tryz.ntmps8
  go_upto_region 1 with fail
  rw [← hWa, ← hX]
  clear hWa hX
  go_wp2_with fail
  refine (awake06 _).mono ?_
  rintro x w1 ⟨rfl, b1⟩
  have HS1 := Lib.hid (HSMALL.out w1 b1)
  have HB1 := Lib.hid b1
  obtain ⟨x0, x1, x2, xl⟩ := HXE.out w1 HB1.out
  clear b1 HSMALL
  go_wp2_with fail
  refine HS1.out.mono ?_
  rintro y w2 ⟨rfl, b2⟩
  have HB2 := Lib.hid (below_at HB1.out b2)
  clear b2 HS1 x0 x1 x2 xl
  cases sm with
  | false =>
    go_wp2_with fail
    refine (awake06 _).mono ?_
    rintro x w3 ⟨rfl, b3⟩
    have HB3 := Lib.hid (below_at HB2.out b3)
    clear b3
    go_wp2_with fail
    go_ret
    exact ⟨rfl, below_at HB.out HB3.out⟩
  | true =>
    obtain ⟨m, rfl, hm8, hok, _, hcnt, hall6⟩ := Pr.small_spec HSM.out.symm
    obtain ⟨t1, t2, t3, t4⟩ := Pr.tu_law hok hm8
    have hq6 := Pr.tu_all6 hok hm8 hcnt
    rw [t1] at hq6
    obtain ⟨sp, hsp⟩ : ∃ z, z = Pr.sumOf (Pr.ends 32 (Pr.start p m) []) := ⟨_, rfl⟩
    obtain ⟨sq, hsq⟩ : ∃ z, z = Pr.sumOf (Pr.ends 32 (Pr.start (Pr.tuP p) m) []) := ⟨_, rfl⟩
    obtain ⟨c, hcE⟩ : ∃ z, z = Pr.cnt 32 (Pr.start p m) := ⟨_, rfl⟩
    rw [← hsp, ← hsq] at t2 t3 t4
    rw [← hsp, ← hcE] at hall6
    rw [← hsq, ← hcE] at hq6
    obtain ⟨ks, rn, sk⟩ := sp
    obtain ⟨kq, rq, sq'⟩ := sq
    simp only at t2 t3 t4
    subst t2 t3
    have hn4 := hok.1.2.2.2.2.2
    have hn1 := hok.1.2.2.2.2.1
    obtain ⟨nk, hnk⟩ : ∃ n, n = ks.length := ⟨_, rfl⟩
    rw [← hnk] at t4
    have HALLP' : Hid (∀ u, Below Wa.heap.size Wa u → Calls Tryz.prog 32 #[.agg #[.int .i64 p.vars, .int .i64 p.mtx, .slice A p.code.length cap], .int .i64 (m : Int), .int .i64 600] u fun x w' => (∃ A cap, x = .returned (.tuple #[.agg #[.slice A nk cap, .int .i64 rq, .int .i64 c], .int .i64 0])) ∧ Below u.heap.size u w') := Lib.hid fun u hu => by
      have := HALLP.out u hu
      rw [hall6] at this
      exact this.mono fun x w' ⟨A, cap, hx, _, _, _, hb⟩ => ⟨⟨A, cap, by rw [hx]; simp only; rw [← hnk]⟩, hb⟩
    have HALLQ' : Hid (∀ (u : World) (B : Option Addr) (cb : Nat), PgIn u (Pr.tuP p) B → Calls Tryz.prog 32 #[.agg #[.int .i64 p.vars, .int .i64 p.mtx, .slice B p.code.length cb], .int .i64 (m : Int), .int .i64 600] u fun x w' => (∃ A cap, x = .returned (.tuple #[.agg #[.slice A nk cap, .int .i64 rq, .int .i64 c], .int .i64 0])) ∧ Below u.heap.size u w') := Lib.hid fun u B cb hu => by
      have := HALLQ.out u B cb hu
      rw [hq6] at this
      exact this.mono fun x w' ⟨A, cap, hx, _, _, _, hb⟩ => ⟨⟨A, cap, by rw [hx]; simp only; rw [t4]⟩, hb⟩
    have HDEADP' : Hid (∀ u, Below Wa.heap.size Wa u → Calls Tryz.prog 33 #[.agg #[.int .i64 p.vars, .int .i64 p.mtx, .slice A p.code.length cap], .int .i64 (m : Int), .int .i64 600] u fun x w' => x = .returned (.tuple #[.int .i64 (sq' : Int), .int .i64 0]) ∧ Below u.heap.size u w') := Lib.hid fun u hu => by
      have := HDEADP.out u hu
      rw [hall6] at this
      exact this
    have HDEADQ' : Hid (∀ (u : World) (B : Option Addr) (cb : Nat), PgIn u (Pr.tuP p) B → Calls Tryz.prog 33 #[.agg #[.int .i64 p.vars, .int .i64 p.mtx, .slice B p.code.length cb], .int .i64 (m : Int), .int .i64 600] u fun x w' => x = .returned (.tuple #[.int .i64 (sq' : Int), .int .i64 0]) ∧ Below u.heap.size u w') := Lib.hid fun u B cb hu => by
      have := HDEADQ.out u B cb hu
      rw [hq6] at this
      exact this
    obtain ⟨⟨vs, hvs, hat⟩, hlm, hqm⟩ := HPA.out
    obtain ⟨g, o, rfl, hgl, _, hcell⟩ := hvs.2 (by omega)
    have hvl : vs.length = p.code.length := by have := hvs.1; omega
    have HTURN : Hid (∀ (wr : World) (B : Option Addr) (cb : Nat), Below Wa.heap.size Wa wr → Row wr 75 1 B p.code.length cb vs.reverse → PgIn wr (Pr.tuP p) B) := Lib.hid fun wr B cb hb hr => pgin_turn hlm hqm hvl hat hb hr
    have HVS : Hid (∀ (u : World) (j : Nat), Below Wa.heap.size Wa u → j < p.code.length → ∃ A' n' c', vs[j]? = some (.slice A' n' c') ∧ u.cell? ⟨g, o + j, none⟩ = some (.slice A' n' c') ∧ g < u.heap.size) := Lib.hid fun u j hu hj => by
      obtain ⟨q, hq⟩ := get_some hj
      obtain ⟨A', c', h1, _⟩ := hat j q hq
      exact ⟨A', _, c', h1, by rw [World.cell?_of_block (hu.block g hgl), hcell j (by omega), h1], Nat.lt_of_lt_of_le hgl hu.size⟩
    have HVL := Lib.hid hvl
    obtain ⟨np, hnp⟩ : ∃ n, n = p.code.length := ⟨_, rfl⟩
    rw [← hnp] at hn1 hn4
    have HN := Lib.hid hnp
    obtain ⟨pv, hpv⟩ : ∃ z, z = p.vars := ⟨_, rfl⟩
    obtain ⟨pm, hpm⟩ : ∃ z, z = p.mtx := ⟨_, rfl⟩
    rw [← hnp, ← hpv, ← hpm] at HALLP' HALLQ' HDEADP' HDEADQ' HXE
    rw [← hnp] at HTURN HVS HVL
    clear hvs hat hlm hqm hcell hgl hvl HALLP HALLQ HDEADP HDEADQ hall6 hq6 hcnt hok hm8 HSM hsp hsq hcE t4 t1 hnp hpv hpm hnk
    obtain ⟨x0, x1, x2, xl⟩ := HXE.out w2 HB2.out
    go_upto_region 4 with fail
    obtain ⟨Y, hY⟩ : ∃ z, z = w2.heap.size := ⟨_, rfl⟩
    obtain ⟨W4, hW4⟩ : ∃ z, z = w2.alloc (Obj.cells #[.int .i64 0, .int .i64 0, .slice none 0 0] 24) := ⟨_, rfl⟩
    have hk4 : W4.heap[Y]? = some (.cells #[.int .i64 0, .int .i64 0, .slice none 0 0] 24 (0, 0)) := by rw [hW4, hY]; exact heap_alloc_new w2 _
    have hb4 : Below Wa.heap.size Wa W4 := by rw [hW4]; exact HB2.out.alloc HB2.out.size _
    have hYl : Wa.heap.size ≤ Y := by rw [hY]; exact HB2.out.size
    rw [← hW4, ← hY]
    have HK4 := Lib.hid hk4
    have HB4 := Lib.hid hb4
    have HYL := Lib.hid hYl
    clear hW4 hY hk4 hb4 hYl x0 x1 x2 xl
    have HXY : Hid (∀ u, Mod (fun k => k = Y) W4 u → u.cell? ⟨X, 0, none⟩ = some (.int .i64 pv) ∧ u.cell? ⟨X, 1, none⟩ = some (.int .i64 pm) ∧ u.cell? ⟨X, 2, none⟩ = some (.slice (some ⟨g, o, none⟩) np cap) ∧ X < u.heap.size) := Lib.hid fun u hu => HXE.out u (HB4.out.trans (hu.below Wa.heap.size HB4.out.size (fun k hk => by have := HYL.out; omega)))
    refine wp_region_planF (by kernel_rfl) (fun u => Mod (fun k => k = Y) W4 u) [7] [(0, .pure), (1, .load), (2, .pure), (3, .load), (4, .pure), (5, .eff), (6, .pure), (7, .last)] (by simp only [List.map_cons, List.map_nil, List.getElem?_toArray, List.getElem?_cons_succ, List.getElem?_cons_zero]; rfl) (by kernel_rfl) (fun _ _ d _ _ h => by cases d <;> exact h) ((Mod.refl _ _).drew) ?_
    obtain ⟨Wd, hWd⟩ : ∃ Wd, Wd = W4.drew := ⟨_, rfl⟩
    rw [← hWd]
    have s0 : Mod (fun k => k = Y) W4 Wd := by rw [hWd]; exact (Mod.refl _ _).drew
    have hk5 : Wd.heap[Y]? = some (.cells #[.int .i64 0, .int .i64 0, .slice none 0 0] 24 (0, 0)) := by rw [hWd]; exact HK4.out
    clear hWd
    repeat (first
      | (refine plan_pure (v := ?_) (by rfl) (fun w1 => ?_) ?_
         rotate_left
         · go_simp <;> with_reducible rfl
         simp only [Act.put, List.setIfInBounds_toArray, List.set_cons_zero, List.set_cons_succ])
      | (refine plan_off (by rfl) ?_
         simp only [Act.put, List.setIfInBounds_toArray, List.set_cons_zero, List.set_cons_succ])
      | (refine plan_load_off (by rfl) ?_
         simp only [Act.put, List.setIfInBounds_toArray, List.set_cons_zero, List.set_cons_succ])
      | (refine plan_load (v := ?_) (by rfl) (fun w1 hw1 => ?_) ?_
         rotate_left
         · (have q := HXY.out w1 hw1
            obtain ⟨q0, q1, q2, q3⟩ := q
            clear hw1
            go_simp <;> with_reducible rfl)
         simp only [Act.put, List.setIfInBounds_toArray, List.set_cons_zero, List.set_cons_succ]))
    obtain ⟨⟨e0, e1, e2⟩, el, g0, g1, g2⟩ := in3_cellsQ hk5
    obtain ⟨W6, hW6⟩ : ∃ W6, W6 = Wd.setCell ⟨Y, 0, none⟩ (.int .i64 pv) := ⟨_, rfl⟩
    have s1 : Mod (fun k => k = Y) W4 W6 := by rw [hW6]; exact s0.setCell (p := ⟨Y, 0, none⟩) (fun _ => rfl) _
    have hk6 : W6.heap[Y]? = some (.cells #[.int .i64 pv, .int .i64 0, .slice none 0 0] 24 (0, 0)) := by rw [hW6, set_blk hk5 0 _]; simp
    obtain ⟨W7, hW7⟩ : ∃ W7, W7 = W6.setCell ⟨Y, 1, none⟩ (.int .i64 pm) := ⟨_, rfl⟩
    have s2 : Mod (fun k => k = Y) W4 W7 := by rw [hW7]; exact s1.setCell (p := ⟨Y, 1, none⟩) (fun _ => rfl) _
    have hk7 : W7.heap[Y]? = some (.cells #[.int .i64 pv, .int .i64 pm, .slice none 0 0] 24 (0, 0)) := by rw [hW7, set_blk hk6 1 _]; simp
    have HS1 := Lib.hid s1
    have HS2 := Lib.hid s2
    have HK6 := Lib.hid hk6
    have HK7 := Lib.hid hk7
    have HW7 := Lib.hid hW7
    clear s0 s1 s2 hk5 hk6 hk7 hW7
    refine plan_eff ?_
    go_wp2_with fail
    rw [← hW6]
    clear hW6
    refine plan_on (fun _ h => h) HS1.out ?_
    clear e0 e1 e2 el g0 g1 g2
    repeat (first
      | (refine plan_pure (v := ?_) (by rfl) (fun w1 => ?_) ?_
         rotate_left
         · go_simp <;> with_reducible rfl
         simp only [Act.put, List.setIfInBounds_toArray, List.set_cons_zero, List.set_cons_succ])
      | (refine plan_off (by rfl) ?_
         simp only [Act.put, List.setIfInBounds_toArray, List.set_cons_zero, List.set_cons_succ])
      | (refine plan_load_off (by rfl) ?_
         simp only [Act.put, List.setIfInBounds_toArray, List.set_cons_zero, List.set_cons_succ])
      | (refine plan_load (v := ?_) (by rfl) (fun w1 hw1 => ?_) ?_
         rotate_left
         · (have q := HXY.out w1 hw1
            obtain ⟨q0, q1, q2, q3⟩ := q
            clear hw1
            go_simp <;> with_reducible rfl)
         simp only [Act.put, List.setIfInBounds_toArray, List.set_cons_zero, List.set_cons_succ]))
    obtain ⟨⟨e0, e1, e2⟩, el, g0, g1, g2⟩ := in3_cellsQ HK6.out
    refine plan_last ?_
    go_wp2_with fail
    rw [← HW7.out]
    clear HW7
    repeat (first
      | (refine plan_pure (v := ?_) (by rfl) (fun w1 => ?_) ?_
         rotate_left
         · go_simp <;> with_reducible rfl
         simp only [Act.put, List.setIfInBounds_toArray, List.set_cons_zero, List.set_cons_succ])
      | (refine plan_off (by rfl) ?_
         simp only [Act.put, List.setIfInBounds_toArray, List.set_cons_zero, List.set_cons_succ])
      | (refine plan_load_off (by rfl) ?_
         simp only [Act.put, List.setIfInBounds_toArray, List.set_cons_zero, List.set_cons_succ])
      | (refine plan_load (v := ?_) (by rfl) (fun w1 hw1 => ?_) ?_
         rotate_left
         · (skip
            clear hw1
            go_simp <;> with_reducible rfl)
         simp only [Act.put, List.setIfInBounds_toArray, List.set_cons_zero, List.set_cons_succ]))
    refine plan_end ?_
    clear e0 e1 e2 el g0 g1 g2
    have HB7 := Lib.hid (HB4.out.trans (HS2.out.below Wa.heap.size HB4.out.size (fun k hk => by have := HYL.out; omega)))
    clear HS1 HS2 HK6 HXY HB4 HK4
    obtain ⟨x0, x1, x2, xl⟩ := HXE.out W7 HB7.out
    go_wp2_with fail
    clear x0 x1 x2 xl
    go_loopw [33] (fun x wr => ∃ (i : Nat) (B : Option Addr) (cb : Nat), i ≤ np ∧ x = .int .i64 i ∧ Hid (wr.heap[Y]? = some (.cells #[.int .i64 pv, .int .i64 pm, .slice B i cb] 24 (0, 0))) ∧ Hid (Row wr 75 1 B i cb (vs.reverse.take i)) ∧ Hid (∀ a, B = some a → Y < a.block) ∧ Hid (Below Wa.heap.size Wa wr)) (fun x _ => np - (intOf x).toNat)
    case atStart => exact ⟨0, none, 0, Nat.zero_le _, rfl, HK7, Lib.hid ⟨rfl, Nat.le_refl _, Nat.zero_le _, fun _ => rfl, fun a ha => by cases ha⟩, Lib.hid (fun a ha => by cases ha), HB7⟩
    case round =>
      clear HK7 HB7
      obtain ⟨i, B, cb, hi, rfl, HK, HR, HG, HBR⟩ := hrel
      by_cases hlt : i < np
      · obtain ⟨mm, hmm⟩ : ∃ k, k = np - 1 := ⟨_, rfl⟩
        obtain ⟨j, hj⟩ : ∃ k, k = np - 1 - i := ⟨_, rfl⟩
        obtain ⟨A', n', c', hvj, hcj, hgj⟩ := HVS.out wr j HBR.out (by omega)
        have e1 : IntKind.i64.wrap ((np : Int) - 1) = (mm : Int) := by rw [IntWalk.i64_in _ (by omega)]; omega
        have e2 : IntKind.i64.wrap ((mm : Int) - (i : Int)) = (j : Int) := by rw [IntWalk.i64_in _ (by omega)]; omega
        have k1 : (0 : Int) ≤ (j : Int) := Int.natCast_nonneg _
        have k2 : (j : Int) < (np : Int) := by omega
        have k3 : (i : Int) < (np : Int) := by omega
        have htake : vs.reverse.take (i + 1) = vs.reverse.take i ++ [.slice A' n' c'] := by
          rw [List.take_add_one, List.getElem?_reverse (by have := HVL.out; omega), show vs.length - 1 - i = j by have := HVL.out; omega, hvj]; rfl
        have HTK := Lib.hid htake
        have HJ := Lib.hid (And.intro hmm hj)
        have HCJ := Lib.hid (And.intro hcj hgj)
        have HE1 := Lib.hid e1
        have HE2 := Lib.hid e2
        clear htake hvj hmm hj hcj hgj e1 e2
        go_upto_region 8 with fail
        refine wp_region_planF (by kernel_rfl) (fun u => Below wr.heap.size wr u) [13, 15] [(0, .pure), (1, .load), (2, .pure), (3, .load), (4, .pure), (5, .load), (6, .pure), (7, .pure), (8, .pure), (9, .pure), (10, .pure), (11, .load), (12, .eff), (13, .last), (14, .pure), (15, .last)] (by simp only [List.map_cons, List.map_nil, List.getElem?_toArray, List.getElem?_cons_succ, List.getElem?_cons_zero]; rfl) (by kernel_rfl) (fun _ _ d _ _ h => by cases d <;> exact h) ((Below.refl _ _).drew) ?_
        obtain ⟨Wd, hWd⟩ : ∃ Wd, Wd = wr.drew := ⟨_, rfl⟩
        rw [← hWd]
        have bd : Below wr.heap.size wr Wd := by rw [hWd]; exact (Below.refl _ _).drew
        clear hWd
        have e1 := HE1.out
        have e2 := HE2.out
        repeat (first
          | (refine plan_pure (v := ?_) (by rfl) (fun w1 => ?_) ?_
             rotate_left
             · go_simp <;> with_reducible rfl
             simp only [Act.put, List.setIfInBounds_toArray, List.set_cons_zero, List.set_cons_succ])
          | (refine plan_off (by rfl) ?_
             simp only [Act.put, List.setIfInBounds_toArray, List.set_cons_zero, List.set_cons_succ])
          | (refine plan_load_off (by rfl) ?_
             simp only [Act.put, List.setIfInBounds_toArray, List.set_cons_zero, List.set_cons_succ])
          | (refine plan_load (v := ?_) (by rfl) (fun w1 hw1 => ?_) ?_
             rotate_left
             · (have qx := (World.cell?_of_block (hw1.block Y (blk_lt HK.out)) : w1.cell? ⟨Y, 2, none⟩ = _).trans (cell_blk HK.out 2)
                have qg := (World.cell?_of_block (hw1.block g HCJ.out.2) : w1.cell? ⟨g, o + j, none⟩ = _).trans HCJ.out.1
                have q := HXE.out w1 (below_at HBR.out hw1)
                obtain ⟨q0, q1, q2, q3⟩ := q
                have ql := hw1.size
                have qy := blk_lt HK.out
                have qg2 := HCJ.out.2
                clear hw1
                go_simp <;> with_reducible rfl)
             simp only [Act.put, List.setIfInBounds_toArray, List.set_cons_zero, List.set_cons_succ]))
        clear e1 e2
        refine plan_eff ?_
        go_wp2_with fail
        obtain ⟨W8, hW8⟩ : ∃ z, z = Wd.alloc (Obj.cells #[.slice A' n' c'] 75) := ⟨_, rfl⟩
        obtain ⟨Z, hZ⟩ : ∃ z, z = Wd.heap.size := ⟨_, rfl⟩
        have hk8 : W8.heap[Z]? = some (.cells #[.slice A' n' c'] 75 (0, 0)) := by rw [hW8, hZ]; exact heap_alloc_new Wd _
        have hb8 : Below wr.heap.size wr W8 := by rw [hW8]; exact below_at bd ((Below.refl _ _).alloc (Nat.le_refl _) _)
        rw [← hW8, ← hZ]
        have HK8 := Lib.hid hk8
        have HB8 := Lib.hid hb8
        have HY8 := Lib.hid ((hb8.block Y (blk_lt HK.out)).trans HK.out)
        have HR8 := Lib.hid (HR.out.mod (Mod.of_below_size hb8 (fun _ => False)) (fun a ha h => h))
        clear hW8 hZ hk8 hb8 bd
        refine plan_on (fun _ h => h) HB8.out ?_
        refine plan_last ?_
        refine wpList_append_row (by rfl) _ _ _ (by rfl) 75 i0 _ 1 24 Tryz.underlying22 hi0 hz0 hz1 hz2 rfl (by omega) B i cb (vs.reverse.take i) (by rfl) HR8.out ⟨Z, 0, none⟩ 1 1 [.slice A' n' c'] (by rfl) (by rfl) (World.news_of_block (cs := #[.slice A' n' c']) (t := 75) (fr := (0, 0)) HK8.out) (by simp [Value.oneCell']) (by omega) (by unfold maxLen; omega) (by omega) ?_
        intro g1 of1 cap1 W9 hown hmo hat
        rw [← HTK.out] at hown
        have hgY : Y < g1 := by
          rcases hat with ⟨a, h1, h2⟩ | h
          · have := HG.out a h1; omega
          · have := blk_lt HY8.out; omega
        have hy9 : W9.heap[Y]? = some (.cells #[.int .i64 pv, .int .i64 pm, .slice B i cb] 24 (0, 0)) := (hmo.block Y (blk_lt HY8.out) (fun ⟨a, h1, h2⟩ => by have := HG.out a h1; omega)).trans HY8.out
        have hb9 : Below Wa.heap.size Wa W9 := (below_at HBR.out HB8.out).trans (hmo.below Wa.heap.size (by have := HBR.out.size; have := HB8.out.size; omega) (fun k hk ⟨a, h1, h2⟩ => by have := HG.out a h1; have := HYL.out; omega))
        obtain ⟨⟨y0, y1, y2⟩, yl, f0, f1, f2⟩ := in3_cellsQ hy9
        have hm10 : Mod (fun k => k = Y) W9 (W9.setCell ⟨Y, 2, none⟩ (.slice (some ⟨g1, of1, none⟩) (i + 1) cap1)) := (Mod.refl (fun k => k = Y) W9).setCell (p := ⟨Y, 2, none⟩) (fun _ => rfl) _
        have hy10 := set_blk hy9 2 (.slice (some ⟨g1, of1, none⟩) (i + 1) cap1)
        have hr10 := hown.mod hm10 (fun a ha e => by injection ha with ha; subst ha; simp only at e; omega)
        have hb10 := hb9.trans (hm10.below Wa.heap.size hb9.size (fun k hk => by have := HYL.out; omega))
        have HY10 := Lib.hid hy10
        have HR10 := Lib.hid hr10
        have HB10 := Lib.hid hb10
        have HGY := Lib.hid hgY
        clear hown hmo hat hgY hy9 hb9 hm10 hy10 hr10 hb10 y0 y1
        go_wp2_with fail
        repeat (first
          | (refine plan_pure (v := ?_) (by rfl) (fun w1 => ?_) ?_
             rotate_left
             · go_simp <;> with_reducible rfl
             simp only [Act.put, List.setIfInBounds_toArray, List.set_cons_zero, List.set_cons_succ])
          | (refine plan_off (by rfl) ?_
             simp only [Act.put, List.setIfInBounds_toArray, List.set_cons_zero, List.set_cons_succ])
          | (refine plan_load_off (by rfl) ?_
             simp only [Act.put, List.setIfInBounds_toArray, List.set_cons_zero, List.set_cons_succ])
          | (refine plan_load (v := ?_) (by rfl) (fun w1 hw1 => ?_) ?_
             rotate_left
             · (skip
                clear hw1
                go_simp <;> with_reducible rfl)
             simp only [Act.put, List.setIfInBounds_toArray, List.set_cons_zero, List.set_cons_succ]))
        refine plan_last ?_
        go_wp2_with fail
        refine plan_end ?_
        go_wp2_with fail
        go_roundw
        case rel => exact ⟨i + 1, some ⟨g1, of1, none⟩, cap1, by omega, by go_num, Lib.hid (by rw [HY10.out]; simp), HR10, Lib.hid (fun a ha => by injection ha with ha; subst ha; exact HGY.out), HB10⟩
        case measure => simp [intOf]; omega
      · obtain rfl : i = np := by omega
        have hrow : Row wr 75 1 B i cb vs.reverse := by
          have := HR.out
          rwa [List.take_of_length_le (by rw [List.length_reverse, HVL.out]; exact Nat.le_refl _)] at this
        have HPQ := Lib.hid (HTURN.out wr B cb HBR.out hrow)
        have k3 : ¬ (i : Int) < (i : Int) := by omega
        have hcall := HALLP'.out wr HBR.out
        have HC := Lib.hid hcall
        obtain ⟨x0, x1, x2, xl⟩ := HXE.out wr HBR.out
        clear hrow hcall
        go_wp2_with fail
        refine HC.out.mono ?_
        rintro y w10 ⟨⟨A10, c10, rfl⟩, b10⟩
        obtain ⟨K1, hK1⟩ : ∃ z, z = w10.heap.size := ⟨_, rfl⟩
        obtain ⟨W11, hW11⟩ : ∃ z, z = w10.alloc (Obj.cells #[.slice A10 nk c10, .int .i64 rq, .int .i64 c] 62) := ⟨_, rfl⟩
        have hk11 : W11.heap[K1]? = some (.cells #[.slice A10 nk c10, .int .i64 rq, .int .i64 c] 62 (0, 0)) := by rw [hW11, hK1]; exact heap_alloc_new w10 _
        have hb11 : Below wr.heap.size wr W11 := by rw [hW11]; exact b10.alloc b10.size _
        have HB11 := Lib.hid hb11
        have HK11 := Lib.hid hk11
        have HPQ11 := Lib.hid (HPQ.out.below hb11)
        have HY11 := Lib.hid ((hb11.block Y (blk_lt HK.out)).trans HK.out)
        clear b10 hk11 hb11 HC x0 x1 x2 xl
        go_upto_region 11 with fail
        rw [← hW11, ← hK1]
        clear hW11 hK1
        have HC := Lib.hid (HALLQ'.out W11 B cb HPQ11.out)
        obtain ⟨⟨x0, x1, x2⟩, xl, _, _, _⟩ := in3_cellsQ HY11.out
        go_wp2_with fail
        refine HC.out.mono ?_
        rintro y w12 ⟨⟨A12, c12, rfl⟩, b12⟩
        obtain ⟨K2, hK2⟩ : ∃ z, z = w12.heap.size := ⟨_, rfl⟩
        obtain ⟨W13, hW13⟩ : ∃ z, z = w12.alloc (Obj.cells #[.slice A12 nk c12, .int .i64 rq, .int .i64 c] 62) := ⟨_, rfl⟩
        have hk13 : W13.heap[K2]? = some (.cells #[.slice A12 nk c12, .int .i64 rq, .int .i64 c] 62 (0, 0)) := by rw [hW13, hK2]; exact heap_alloc_new w12 _
        have hb13 : Below W11.heap.size W11 W13 := by rw [hW13]; exact b12.alloc b12.size _
        have HB13 := Lib.hid (below_at HB11.out hb13)
        have HK13 := Lib.hid hk13
        have HK1 := Lib.hid ((hb13.block K1 (blk_lt HK11.out)).trans HK11.out)
        have HPQ13 := Lib.hid (HPQ11.out.below hb13)
        have HY13 := Lib.hid ((hb13.block Y (blk_lt HY11.out)).trans HY11.out)
        clear b12 hk13 hb13 HC x0 x1 x2 xl
        go_upto_region 12 with fail
        rw [← hW13, ← hK2]
        clear hW13 hK2
        have HC := Lib.hid (HDEADP'.out W13 (below_at HBR.out HB13.out))
        obtain ⟨x0, x1, x2, xl⟩ := HXE.out W13 (below_at HBR.out HB13.out)
        go_wp2_with fail
        refine HC.out.mono ?_
        rintro y w14 ⟨rfl, b14⟩
        have HB14 := Lib.hid (below_at HB13.out b14)
        have HK14 := Lib.hid ((b14.block K2 (blk_lt HK13.out)).trans HK13.out)
        have HK15 := Lib.hid ((b14.block K1 (blk_lt HK1.out)).trans HK1.out)
        have HY14 := Lib.hid ((b14.block Y (blk_lt HY13.out)).trans HY13.out)
        have HC := Lib.hid (HDEADQ'.out w14 B cb (HPQ13.out.below b14))
        clear b14 x0 x1 x2 xl
        obtain ⟨⟨x0, x1, x2⟩, xl, _, _, _⟩ := in3_cellsQ HY14.out
        go_wp2_with fail
        refine HC.out.mono ?_
        rintro y w16 ⟨rfl, b16⟩
        have HB16 := Lib.hid (below_at HB14.out b16)
        obtain ⟨⟨y0, y1, y2⟩, yl, _, _, _⟩ := in3_cellsQ ((b16.block K2 (blk_lt HK14.out)).trans HK14.out)
        obtain ⟨⟨z0, z1, z2⟩, zl, _, _, _⟩ := in3_cellsQ ((b16.block K1 (blk_lt HK15.out)).trans HK15.out)
        clear b16 x0 x1 x2 xl
        go_wp2_with fail
        go_ret
        exact ⟨by simp, below_at HB.out (below_at HBR.out HB16.out)⟩
open Go.ChangeShapes Go.WideShapes Go.ChangeAt
set_option maxRecDepth 100000 in
theorem WalkTurned_walk {H : Type} {enc : TypeId × Value → H} (W : World) {base : Nat} {v0 v1 : Value} {d0 d1 : DataW H} {p0 p1 : List MemPlace}
    (o0 : Value.okWide Tryz.prog W .any base 24 v0) (h0 : DataW.Trod enc Tryz.prog W 0 (fun _ => true) true 24 v0 d0 p0)
    (o1 : Value.okWide Tryz.prog W .any base 3 v1) (h1 : DataW.Trod enc Tryz.prog W 0 (fun _ => true) true 3 v1 d1 p1) :
    Calls Tryz.prog 8 #[v0, v1] W fun e w' => e = .returned (.bool true) ∧ Below W.heap.size W w' := by
  obtain ⟨p, A, cap, rfl, hin⟩ := prog_arg o0 h0
  obtain ⟨f, rfl, rfl, rfl, _⟩ := open_int Tryz.underlying3 o1 h1
  exact walkTurned_any W p A cap f hin
namespace walkTurned
theorem own : ownKnob Tryz.prog.godebug = none := by kernel_rfl
theorem laidOut : laidOutB Tryz.prog = true := by kernel_rfl
set_option maxRecDepth 100000 in
theorem lifted (os : Os) (started : os.Started) (H : Type) (enc : TypeId × Value → H) :
    ReturnsInHanded {} Tryz.checked os 8 .any (Rows.walkTurnedSpec.pre6 enc Tryz.prog Tryz.f8 Rows.walkTurnedRow.domain false) (Rows.walkTurnedSpec.post enc Tryz.prog Tryz.f8 false true false false) := by
  refine returnsInHanded_of_change_sized (C := Tryz.checked) own started (by kernel_rfl) Tryz.func8
    (ChangeSpec.witness6 (enc := enc) (C := Tryz.checked) false ⟨#[], #[.agg #[.int .i64 0, .int .i64 0, .slice none 0 0], .int .i64 0], []⟩ 8 (by kernel_rfl) (by kernel_rfl) (by kernel_rfl) (by kernel_rfl)) ?_
  intro W base args ds gs before hval0 hW hcnd hsz0 _
  have hval : ∀ (j : Nat) t v, Tryz.f8.params[j]? = some t → args[j]? = some v → Value.okWide Tryz.prog W .any base t v := hval0
  have hW' := hW
  obtain ⟨p, q, hA0, hV, rfl, hfz, hnd⟩ := hW
  have hA : DataW.TrodAll enc Tryz.prog W 0 (fun _ => true) true Tryz.f8.params.toList args.toList ds p := hA0
  rw [Tryz.params8] at hA hval
  obtain ⟨v0, vs0, d0, ds0, p0, q0, hargs, rfl, rfl, h0, r0⟩ := trodAll_cons hA
  obtain ⟨v1, vs1, d1, ds1, p1, q1, rfl, rfl, rfl, h1, r1⟩ := trodAll_cons r0
  obtain ⟨rfl, rfl, rfl⟩ := trodAll_nil r1
  obtain rfl : args = #[v0, v1] := by cases args; simp_all
  obtain ⟨rfl, rfl⟩ := trodVars_none hV
  have lt0 : ∀ x ∈ p0, x.block < W.heap.size := by obtain ⟨m, hm⟩ := h0; exact DataW.trod_lt m _ _ _ hm
  have lt1 : ∀ x ∈ p1, x.block < W.heap.size := by obtain ⟨m, hm⟩ := h1; exact DataW.trod_lt m _ _ _ hm
  clear hA0 hval0 hsz0
  refine (WalkTurned_walk W (hval 0 24 v0 rfl rfl) h0 (hval 1 3 v1 rfl rfl) h1).mono fun e W' ⟨he, bel⟩ => ?_
  subst he
  exact ⟨_, rfl, _, _, _, [], _, [], hW', trodAll_mk1 (shut_bool Tryz.underlying4 _), (trodAll_cons_mk (Below.trod laidOut (by kernel_rfl) (of_decide_eq_true (by kernel_rfl)) h0 bel lt0) (trodAll_cons_mk (Below.trod laidOut (by kernel_rfl) (of_decide_eq_true (by kernel_rfl)) h1 bel lt1) trodAll_mk0)), rfl, bel.frame _, fun h => (by cases h)⟩
theorem over : Rows.walkTurnedRow.holds Tryz.pinned (OpenSpec.ofChange Rows.walkTurnedSpec) :=
  OpenClaim.holds_of_wide 8 Tryz.f8 rfl rfl rfl rfl rfl rfl rfl ⟨rfl, rfl, rfl, rfl, rfl⟩ rfl rfl rfl rfl rfl (by kernel_rfl) Tryz.func8 (by kernel_rfl)
    (of_decide_eq_true (by kernel_rfl)) (by unfold Func.isWrapper; first | (rw [if_pos (by decide +kernel)]; kernel_rfl) | (rw [if_neg (by decide +kernel)]; exact ⟨rfl, rfl⟩))
    (fun os started H enc _ => lifted os started H enc)
end walkTurned
/-- The row. -/
theorem walkTurned_holds : Rows.WalkTurnedSaid := walkTurned.over
#print axioms walkTurned_holds
end Go.Proofs.YtcaapoacmfjnmaaGreat
