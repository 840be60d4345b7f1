/- Clocks: clock.Same: the walk. -/
import Derived.Test.YtgahjibjladafaaCkD
namespace Go.Proofs.Ytgahjibjladafaa
open Go.RowKit
set_option linter.unusedVariables false

/-- a row of clocks, read in later worlds -/
def ClkAt (w : World) (B : Nat) (A : Option Addr) (S : List Fo.Ent) : Prop := ∀ (i : Nat) (p : Fo.Ent), S[i]? = some p → ∃ g o, A = some ⟨g, o, none⟩ ∧ g < B ∧ ∀ u : World, u.heap[g]? = w.heap[g]? → ∀ j, j < 4 → u.cell? ⟨g, o + i * 4 + j, none⟩ = some (.int .i64 (p.c j : Nat))

set_option maxRecDepth 100000 in
set_option maxHeartbeats 8000000 in
theorem csame_any (w : World) (A : Option Addr) (cap : Nat) (a : List Ev) (B : Option Addr) (cap' : Nat) (b : List Ev) (ha : Rd w 4 A a.length (a.flatMap encE)) (hb : Rd w 4 B b.length (b.flatMap encE))
    (hca : a.length ≤ cap) (hcma : cap ≤ maxLen) (hcb : b.length ≤ cap') (hcmb : cap' ≤ maxLen) (hla : a.length ≤ 1000) (hlb : b.length ≤ 1000) (ra : Fo.rights a = true) (rb : Fo.rights b = true) :
    Calls Try.prog 28 #[.slice A a.length cap, .slice B b.length cap'] w fun x w' => x = .returned (.bool (decide (Fo.lev a = Fo.lev b))) ∧ Below w.heap.size w w' := by
  have hsr := Fo.same_rows ra rb
  obtain ⟨dd, hdd⟩ : ∃ dd, dd = decide (Fo.lev a = Fo.lev b) := ⟨_, rfl⟩
  have hd1 : dd = true ↔ a.length = b.length ∧ ∀ p ∈ Fo.cl a, p ∈ Fo.cl b := by rw [hdd, decide_eq_true_eq]; exact hsr
  rw [← hdd]
  have hrda : ∀ u, Below w.heap.size w u → Rd u 4 A a.length (a.flatMap encE) := fun u hu => ha.below hu (Nat.le_refl _)
  have hrdb : ∀ u, Below w.heap.size w u → Rd u 4 B b.length (b.flatMap encE) := fun u hu => hb.below hu (Nat.le_refl _)
  have hcka : ∀ u, Below w.heap.size w u → Calls Try.prog 70 #[.slice A a.length cap] u fun x w' => x = .returned (.bool true) ∧ Below u.heap.size u w' := fun u hu => by have := cright_any u A cap a (hrda u hu) (by omega); rwa [ra] at this
  have hckb : ∀ u, Below w.heap.size w u → Calls Try.prog 70 #[.slice B b.length cap'] u fun x w' => x = .returned (.bool true) ∧ Below u.heap.size u w' := fun u hu => by have := cright_any u B cap' b (hrdb u hu) (by omega); rwa [rb] at this
  have hcla : ∀ u, Below w.heap.size w u → _ := fun u hu => clocks_any u A cap a (hrda u hu) hca hcma hla ra
  have hclb : ∀ u, Below w.heap.size w u → _ := fun u hu => clocks_any u B cap' b (hrdb u hu) hcb hcmb hlb rb
  have heva : ∀ (k : Nat) (e : Ev), a[k]? = some e → ∃ g o, A = some ⟨g, o, none⟩ ∧ g < w.heap.size ∧ ∀ u, Below w.heap.size w u → EvAt u g (o + k * 4) e := fun k e hk => by
    obtain ⟨h1, rfl⟩ := List.getElem?_eq_some_iff.1 hk
    exact evs_cell ha.toB k h1
  have hevb : ∀ (k : Nat) (e : Ev), b[k]? = some e → ∃ g o, B = some ⟨g, o, none⟩ ∧ g < w.heap.size ∧ ∀ u, Below w.heap.size w u → EvAt u g (o + k * 4) e := fun k e hk => by
    obtain ⟨h1, rfl⟩ := List.getElem?_eq_some_iff.1 hk
    exact evs_cell hb.toB k h1
  have HD := Lib.hid hd1
  have HRA := Lib.hid ra
  have HRB := Lib.hid rb
  have HCKA := Lib.hid hcka
  have HCKB := Lib.hid hckb
  have HCLA := Lib.hid hcla
  have HCLB := Lib.hid hclb
  have HEVA := Lib.hid heva
  have HEVB := Lib.hid hevb
  clear hsr hdd hd1 ha hb hrda hrdb hcka hckb hcla hclb heva hevb ra rb hca hcma hcb hcmb
  have hmk := @run_makeMap Try.prog
  go_enter Try.func28, Try.ntmps28
  go_wp2_with fail
  refine (HCKA.out w (Below.refl _ _)).mono ?_
  rintro x w1 ⟨rfl, b1⟩
  have HB1 := Lib.hid b1
  have HCK := Lib.hid (HCKB.out w1 b1)
  clear b1
  go_wp2_with fail
  refine HCK.out.mono ?_
  rintro x w2 ⟨rfl, b2⟩
  have HB2 := Lib.hid (below_at HB1.out b2)
  clear b2 HCK HCKA HCKB
  by_cases hlen : a.length = b.length
  · have e1 : ((a.length : Int) != (b.length : Int)) = false := by simp; omega
    have e2 : ((a.length : Int) == (b.length : Int)) = true := by simp; omega
    have HLEN := Lib.hid hlen
    clear hlen
    go_upto_region 5 with fail
    obtain ⟨K, hK⟩ : ∃ K, K = w2.heap.size := ⟨_, rfl⟩
    obtain ⟨M, hM⟩ : ∃ M, M = K + 1 := ⟨_, rfl⟩
    obtain ⟨W3, hW3⟩ : ∃ W3, W3 = (w2.alloc (Obj.map #[] 0)).alloc (Obj.map #[] 0) := ⟨_, rfl⟩
    have hMs : M = (w2.alloc (Obj.map #[] 0)).heap.size := by rw [hM, hK]; simp
    have hmk0 : MapAt Try.keyP W3 K [] := by rw [hW3]; refine (MapAt.made Try.keyP w2 0).move ?_ |> fun h => hK ▸ h; exact heap_alloc_old _ _ (by simp)
    have hmm0 : MapAt Try.keyP W3 M [] := by rw [hW3, hMs]; exact MapAt.made Try.keyP _ 0
    have hb3 : Below w.heap.size w W3 := by rw [hW3]; exact (HB2.out.alloc HB2.out.size _).alloc (by have := HB2.out.size; simp; omega) _
    have hkb : w.heap.size ≤ K ∧ K < M ∧ M < W3.heap.size := ⟨by have := HB2.out.size; omega, by omega, hmm0.lt⟩
    rw [← hW3, ← hK, ← hM]
    have HB3 := Lib.hid hb3
    have HMK0 := Lib.hid hmk0
    have HMM0 := Lib.hid hmm0
    have HKB := Lib.hid hkb
    have HCB := Lib.hid (HCLB.out W3 hb3)
    clear hMs hM hK hW3 hmk0 hmm0 hb3 hkb hmk e1 e2 HCLB HB1 HB2
    go_wp2_with fail
    refine HCB.out.mono ?_
    rintro x V ⟨A5, cap5, rfl, hrow, hat, hbv⟩
    have hcb : ∀ (i : Nat) (p : Fo.Ent), (Fo.cl b)[i]? = some p → ∃ g o, A5 = some ⟨g, o, none⟩ ∧ g < V.heap.size ∧ M < g ∧ ∀ u : World, u.heap[g]? = V.heap[g]? → ∀ j, j < 4 → u.cell? ⟨g, o + i * 4 + j, none⟩ = some (.int .i64 (p.c j : Nat)) := fun i p hp => by
      obtain ⟨g, o, rfl, h1, h2⟩ := clk_cell hrow hp (Fo.cl_len b).symm
      exact ⟨g, o, rfl, h1, by have := hat _ rfl; have := HKB.out; simp only at *; omega, h2⟩
    have HCLK := Lib.hid hcb
    have HBV := Lib.hid (below_at HB3.out hbv)
    have HMK := Lib.hid (HMK0.out.move (hbv.block K HMK0.out.lt))
    have HMM := Lib.hid (HMM0.out.move (hbv.block M HMM0.out.lt))
    clear hrow hat hbv hcb HCB HMK0 HMM0 HB3
    go_wp2_with fail
    go_loopw [33] (fun v wr => ∃ i : Nat, i ≤ b.length ∧ v = .int .i64 i ∧ Hid (MapAt Try.keyP wr K (Fo.mapOf (fun p => arV p.c) (Fo.cl b) i)) ∧ Hid (MapAt Try.keyP wr M (Fo.mapOf (fun p => valE p.e) (Fo.cl b) i)) ∧ Hid (Mod (fun q => q = K ∨ q = M) V wr)) (fun v _ => b.length - (intOf v).toNat)
    case atStart => exact ⟨0, Nat.zero_le _, rfl, Lib.hid (by unfold Fo.mapOf; exact HMK.out), Lib.hid (by unfold Fo.mapOf; exact HMM.out), Lib.hid (Mod.refl _ _)⟩
    case round =>
      obtain ⟨i, hi, rfl, HMK1, HMM1, HMV⟩ := hrel
      have HBW := Lib.hid (((Mod.of_below HBV.out).then HMV.out (fun q _ h => by have := HKB.out; rcases h with h | h <;> omega)).below _ (Nat.le_refl _) (fun q hq h => by omega) : Below w.heap.size w wr)
      by_cases hlt : i < b.length
      · obtain ⟨p, hpi⟩ := get_some (show i < (Fo.cl b).length by rw [Fo.cl_len]; exact hlt)
        have hbe := Fo.cl_get hpi
        obtain ⟨g, o, rfl, hg, hcl⟩ := HEVB.out i p.e hbe
        obtain ⟨gA, oA, rfl, hgA, hMA, hcA⟩ := HCLK.out i p hpi
        have hre : Fo.right p.e = true := List.all_eq_true.1 HRB.out p.e (List.mem_of_getElem? hbe)
        obtain ⟨n, hn, hn4⟩ : ∃ n : Nat, p.e.t = (n : Int) ∧ n < 4 := by
          obtain ⟨h1, h2⟩ := Fo.right_thr hre
          exact ⟨p.e.t.toNat, by omega, by omega⟩
        have hky : Fo.kyE p = ((n : Int), (p.c n : Int)) := by unfold Fo.kyE Fo.Ent.num; rw [hn]; rfl
        have hs1 := Fo.mapOf_step (val := fun p => arV p.c) (Fo.ky_apart HRB.out) hpi
        have hs2 := Fo.mapOf_step (val := fun p => valE p.e) (Fo.ky_apart HRB.out) hpi
        rw [hky] at hs1 hs2
        have hAw : ∀ u : World, u.heap[gA]? = wr.heap[gA]? → ∀ j, j < 4 → u.cell? ⟨gA, oA + i * 4 + j, none⟩ = some (.int .i64 (p.c j : Nat)) := fun u hu => hcA u (hu.trans (HMV.out.block gA hgA (by have := HKB.out; omega)))
        have c0 := hAw wr rfl 0 (by omega)
        have c1 := hAw wr rfl 1 (by omega)
        have c2 := hAw wr rfl 2 (by omega)
        have c3 := hAw wr rfl 3 (by omega)
        simp only [Nat.add_zero] at c0
        have lgA : gA < wr.heap.size := by have := HMV.out.size; omega
        have k1 : (0 : Int) ≤ (i : Int) := Int.natCast_nonneg _
        have k2 : (i : Int) < (b.length : Int) := by omega
        have HS1 := Lib.hid hs1
        have HS2 := Lib.hid hs2
        have HN := Lib.hid hn
        have HCL := Lib.hid hcl
        clear hpi hbe hre hky hs1 hs2 hcA hAw hcl hn
        go_upto_region 8 with fail
        obtain ⟨W6, hW6⟩ : ∃ W6, W6 = wr.alloc (Obj.cells #[.int .i64 (p.c 0 : Nat), .int .i64 (p.c 1 : Nat), .int .i64 (p.c 2 : Nat), .int .i64 (p.c 3 : Nat)] 111) := ⟨_, rfl⟩
        obtain ⟨X, hX⟩ : ∃ X, X = wr.heap.size := ⟨_, rfl⟩
        rw [← hW6, ← hX]
        have hb6 : Below wr.heap.size wr W6 := by rw [hW6]; exact (Below.refl _ _).alloc (Nat.le_refl _) _
        have hk6 : W6.heap[X]? = some (.cells (arr p.c).toArray 111 (0, 0)) := by rw [hW6, hX]; exact heap_alloc_new wr _
        have HB6 := Lib.hid (below_at HBW.out hb6)
        have HX6 := Lib.hid (fun u (hu : Below W6.heap.size W6 u) => blk_step hk6 hu)
        have hq : ∀ u, Below W6.heap.size W6 u → u.cell? ⟨g, o + i * 4, none⟩ = some (.int .i64 (n : Int)) ∧ u.cell? ⟨X, n, none⟩ = some (.int .i64 (p.c n : Nat)) := fun u hu => by
          refine ⟨?_, ?_⟩
          · rw [← HN.out]; exact (HCL.out u (below_at HB6.out hu)).1
          · rw [cell_blk (HX6.out u hu), List.getElem?_toArray, arr_get _ hn4]
        have HQ := Lib.hid hq
        have HMK6 := Lib.hid (HMK1.out.move (hb6.block K HMK1.out.lt))
        have HMM6 := Lib.hid (HMM1.out.move (hb6.block M HMM1.out.lt))
        have HM6 := Lib.hid (Mod.trans HMV.out (Mod.of_below_size hb6 (fun q => q = K ∨ q = M)))
        have n1 : (0 : Int) ≤ (n : Int) := Int.natCast_nonneg _
        have n2 : (n : Int) < 4 := by omega
        have hS : Below W6.heap.size W6 W6.drew := (Below.refl _ _).drew
        clear hW6 hX hb6 hk6 hq c0 c1 c2 c3
        refine wp_region_plan (by kernel_rfl) (fun u => Below W6.heap.size W6 u) [14] [(0, .pure), (1, .pure), (2, .pure), (3, .pure), (4, .load), (5, .pure), (6, .pure), (7, .pure), (8, .pure), (9, .load), (10, .pure), (11, .load), (12, .pure), (13, .eff), (14, .last)] (by simp only [List.map_cons, List.map_nil, List.getElem?_toArray, List.getElem?_cons_succ, List.getElem?_cons_zero]; rfl) (by kernel_rfl) (fun _ _ d _ _ h => by cases d <;> exact h) (hS) ?_
        repeat (first
          | (refine plan_pure (v := ?_) (by rfl) (fun w1 => ?_) ?_
             rotate_left
             · go_simp <;> with_reducible rfl
             simp only [Act.put, List.setIfInBounds_toArray, List.set_cons_zero, List.set_cons_succ])
          | (refine plan_off (by rfl) ?_
             simp only [Act.put, List.setIfInBounds_toArray, List.set_cons_zero, List.set_cons_succ])
          | (refine plan_load_off (by rfl) ?_
             simp only [Act.put, List.setIfInBounds_toArray, List.set_cons_zero, List.set_cons_succ])
          | (refine plan_load (v := ?_) (by rfl) (fun w1 hw1 => ?_) ?_
             rotate_left
             · (have q0 := (HQ.out w1 hw1).1
                have q1 := (HQ.out w1 hw1).2
                clear hw1
                go_simp <;> with_reducible rfl)
             simp only [Act.put, List.setIfInBounds_toArray, List.set_cons_zero, List.set_cons_succ]))
        refine plan_eff ?_
        go_wp2_with fail
        obtain ⟨Q, hQ⟩ : ∃ Q, Q = W6.heap.size := ⟨_, rfl⟩
        obtain ⟨W7, hW7⟩ : ∃ W7, W7 = (W6.alloc (Obj.cells #[.int .i64 0, .int .i64 0] 113)).drew := ⟨_, rfl⟩
        have hb7 : Below W6.heap.size W6 W7 := by rw [hW7]; exact ((Below.refl _ _).alloc (Nat.le_refl _) _).drew
        have hk7 : W7.heap[Q]? = some (.cells #[.int .i64 0, .int .i64 0] 113 (0, 0)) := by rw [hW7, hQ]; exact heap_alloc_new W6 _
        have hQ6 : W6.heap.size ≤ Q := Nat.le_of_eq hQ.symm
        rw [← hW7]
        refine plan_on (fun _ h => h) hb7 ?_
        rw [← hQ]
        have q0 : W7.cell? ⟨Q, 0, none⟩ = some (.int .i64 0) := by rw [cell_blk hk7]; rfl
        have q1 : W7.cell? ⟨Q, 1, none⟩ = some (.int .i64 0) := by rw [cell_blk hk7]; rfl
        have q2 : W7.frozen? ⟨Q, 0, none⟩ = false := free_blk hk7 _
        have q3 : W7.frozen? ⟨Q, 1, none⟩ = false := free_blk hk7 _
        have hk8 := set_blk (set_blk hk7 0 (.int .i64 (n : Int))) 1 (.int .i64 (p.c n : Nat))
        have hm8 : Mod (fun q => q = Q) W7 ((W7.setCell ⟨Q, 0, none⟩ (.int .i64 (n : Int))).setCell ⟨Q, 1, none⟩ (.int .i64 (p.c n : Nat))) := ((Mod.refl (fun q => q = Q) W7).setCell (p := ⟨Q, 0, none⟩) (fun _ => rfl) _).setCell (p := ⟨Q, 1, none⟩) (fun _ => rfl) _
        have HB7 := Lib.hid hb7
        have HK8 := Lib.hid hk8
        have HM8 := Lib.hid hm8
        have HQ6 := Lib.hid hQ6
        clear hQ hW7 hb7 hk7 hQ6 hk8 hm8 hS
        repeat (first
          | (refine plan_pure (v := ?_) (by rfl) (fun w1 => ?_) ?_
             rotate_left
             · go_simp <;> with_reducible rfl
             simp only [Act.put, List.setIfInBounds_toArray, List.set_cons_zero, List.set_cons_succ])
          | (refine plan_off (by rfl) ?_
             simp only [Act.put, List.setIfInBounds_toArray, List.set_cons_zero, List.set_cons_succ])
          | (refine plan_load_off (by rfl) ?_
             simp only [Act.put, List.setIfInBounds_toArray, List.set_cons_zero, List.set_cons_succ])
          | (refine plan_load (v := ?_) (by rfl) (fun w1 hw1 => ?_) ?_
             rotate_left
             · (skip
                clear hw1
                go_simp <;> with_reducible rfl)
             simp only [Act.put, List.setIfInBounds_toArray, List.set_cons_zero, List.set_cons_succ]))
        refine plan_last ?_
        go_wp2_with fail
        refine plan_end ?_
        obtain ⟨W8, hW8⟩ : ∃ W8, W8 = (W7.setCell ⟨Q, 0, none⟩ (.int .i64 (n : Int))).setCell ⟨Q, 1, none⟩ (.int .i64 (p.c n : Nat)) := ⟨_, rfl⟩
        rw [← hW8] at HK8 HM8 ⊢
        have hb8 : Below W6.heap.size W6 W8 := ((Mod.of_below HB7.out).then HM8.out (fun q _ h => by rw [h]; exact HQ6.out)).below _ (Nat.le_refl _) (fun q hq h => by omega)
        have hk8 : W8.heap[Q]? = some (.cells #[.int .i64 (n : Int), .int .i64 (p.c n : Nat)] 113 (0, 0)) := by have := HK8.out; simpa using this
        have hx8 := HX6.out W8 hb8
        have hB8 := below_at HB6.out hb8
        obtain ⟨e0, e1, e2, e3⟩ := HCL.out W8 hB8
        have hne : (g ≠ K ∧ g ≠ M ∧ g < W8.heap.size) ∧ (X ≠ K ∧ X ≠ M) ∧ Q ≠ K ∧ Q ≠ M := by
          have h1 := HKB.out
          have h2 := hB8.size
          have h3 := HMK6.out.lt
          have h4 := HMM6.out.lt
          have h5 := HQ6.out
          refine ⟨⟨by omega, by omega, by omega⟩, ⟨?_, ?_⟩, by omega, by omega⟩
          · rintro rfl
            obtain ⟨es, c, h, _⟩ := HMK6.out
            have := HX6.out W6 (Below.refl _ _)
            rw [h] at this; cases this
          · rintro rfl
            obtain ⟨es, c, h, _⟩ := HMM6.out
            have := HX6.out W6 (Below.refl _ _)
            rw [h] at this; cases this
        have hq9 : ∀ u, Mod (fun q => q = K ∨ q = M) W8 u → (u.cell? ⟨Q, 0, none⟩ = some (.int .i64 (n : Int)) ∧ u.cell? ⟨Q, 1, none⟩ = some (.int .i64 (p.c n : Nat))) ∧
            (u.cell? ⟨X, 0, none⟩ = some (.int .i64 (p.c 0 : Nat)) ∧ u.cell? ⟨X, 1, none⟩ = some (.int .i64 (p.c 1 : Nat)) ∧ u.cell? ⟨X, 2, none⟩ = some (.int .i64 (p.c 2 : Nat)) ∧ u.cell? ⟨X, 3, none⟩ = some (.int .i64 (p.c 3 : Nat))) ∧ EvAt u g (o + i * 4) p.e := fun u hu => by
          have kq := (hu.block Q (blk_lt hk8) (by omega)).trans hk8
          have kx := (hu.block X (blk_lt hx8) (by omega)).trans hx8
          have kg := hu.block g hne.1.2.2 (by omega)
          exact ⟨⟨by rw [cell_blk kq]; rfl, by rw [cell_blk kq]; rfl⟩, ⟨by rw [cell_blk kx]; rfl, by rw [cell_blk kx]; rfl, by rw [cell_blk kx]; rfl, by rw [cell_blk kx]; rfl⟩,
            (World.cell?_of_block kg).trans e0, (World.cell?_of_block kg).trans e1, (World.cell?_of_block kg).trans e2, (World.cell?_of_block kg).trans e3⟩
        have HQ9 := Lib.hid hq9
        have HMK8 := Lib.hid (HMK6.out.move (hb8.block K HMK6.out.lt))
        have HMM8 := Lib.hid (HMM6.out.move (hb8.block M HMM6.out.lt))
        have HMV8 := Lib.hid (Mod.trans HM6.out (Mod.of_below_size hb8 (fun q => q = K ∨ q = M)))
        have hS : Mod (fun q => q = K ∨ q = M) W8 W8.drew := (Mod.refl _ _).drew
        clear hW8 hb8 hk8 hx8 hB8 e0 e1 e2 e3 hne hq9 q0 q1 q2 q3
        go_wp2_with fail
        refine wp_region_plan (by kernel_rfl) (fun u => Mod (fun q => q = K ∨ q = M) W8 u) [10, 12] [(0, .pure), (1, .load), (2, .pure), (3, .load), (4, .load), (5, .pure), (6, .pure), (7, .pure), (8, .load), (9, .eff), (10, .last), (11, .pure), (12, .last)] (by simp only [List.map_cons, List.map_nil, List.getElem?_toArray, List.getElem?_cons_succ, List.getElem?_cons_zero]; rfl) (by kernel_rfl) (fun _ _ d _ _ h => by cases d <;> exact h) (hS) ?_
        repeat (first
          | (refine plan_pure (v := ?_) (by rfl) (fun w1 => ?_) ?_
             rotate_left
             · go_simp <;> with_reducible rfl
             simp only [Act.put, List.setIfInBounds_toArray, List.set_cons_zero, List.set_cons_succ])
          | (refine plan_off (by rfl) ?_
             simp only [Act.put, List.setIfInBounds_toArray, List.set_cons_zero, List.set_cons_succ])
          | (refine plan_load_off (by rfl) ?_
             simp only [Act.put, List.setIfInBounds_toArray, List.set_cons_zero, List.set_cons_succ])
          | (refine plan_load (v := ?_) (by rfl) (fun w1 hw1 => ?_) ?_
             rotate_left
             · (have q := HQ9.out w1 hw1
                obtain ⟨⟨q0, q1⟩, ⟨q2, q3, q4, q5⟩, q6, q7, q8, q9⟩ := q
                clear hw1
                go_simp <;> with_reducible rfl)
             simp only [Act.put, List.setIfInBounds_toArray, List.set_cons_zero, List.set_cons_succ]))
        refine plan_eff ?_
        refine wpList_mapUpdate Try.keyP (by rfl) _ _ _ 107 111 (by rfl) Try.underlying107 K _ (by rfl) (HMK8.out.move rfl) ((n : Int), (p.c n : Int)) (by rfl) (arV p.c) (by rfl) ?_
        intro w9 mp9 m9
        rw [HS1.out] at mp9
        have HM9 := Lib.hid (Mod.trans (F := fun q => q = K ∨ q = M) (a := W8) ((Mod.refl _ _).drew) (m9.mono (fun q _ h => .inl h)))
        have HMK9 := Lib.hid mp9
        have HMM9 := Lib.hid (HMM8.out.move (m9.block M HMM8.out.lt (fun h => by have := HKB.out; omega)))
        clear mp9 m9
        go_wp2_with fail
        refine plan_on (fun _ h => h) HM9.out ?_
        repeat (first
          | (refine plan_pure (v := ?_) (by rfl) (fun w1 => ?_) ?_
             rotate_left
             · go_simp <;> with_reducible rfl
             simp only [Act.put, List.setIfInBounds_toArray, List.set_cons_zero, List.set_cons_succ])
          | (refine plan_off (by rfl) ?_
             simp only [Act.put, List.setIfInBounds_toArray, List.set_cons_zero, List.set_cons_succ])
          | (refine plan_load_off (by rfl) ?_
             simp only [Act.put, List.setIfInBounds_toArray, List.set_cons_zero, List.set_cons_succ])
          | (refine plan_load (v := ?_) (by rfl) (fun w1 hw1 => ?_) ?_
             rotate_left
             · (skip
                clear hw1
                go_simp <;> with_reducible rfl)
             simp only [Act.put, List.setIfInBounds_toArray, List.set_cons_zero, List.set_cons_succ]))
        refine plan_last ?_
        refine wpList_mapEntry Try.keyP (by rfl) _ _ 108 39 (by rfl) Try.underlying108 (z := .agg #[.int .i64 0, .int .i64 0, .int .i64 0, .bool false]) (fun w => by go_simp) M _ (by rfl) HMM9.out ((n : Int), (p.c n : Int)) (by rfl) ?_
        intro w10 stamp ent m10
        have HENT := Lib.hid ent
        have HMK10 := Lib.hid (HMK9.out.move (m10.block K HMK9.out.lt (fun h => by have := HKB.out; omega)))
        have HM10 := Lib.hid (Mod.trans HM9.out (m10.mono (fun q _ h => (.inr h : q = K ∨ q = M))))
        generalize hov : (mget (Fo.mapOf (fun p => valE p.e) (Fo.cl b) i) ((n : Int), (p.c n : Int))).getD (.agg #[.int .i64 0, .int .i64 0, .int .i64 0, .bool false]) = ov at HENT ⊢
        clear ent m10 hov
        go_wp2_with fail
        repeat (first
          | (refine plan_pure (v := ?_) (by rfl) (fun w1 => ?_) ?_
             rotate_left
             · go_simp <;> with_reducible rfl
             simp only [Act.put, List.setIfInBounds_toArray, List.set_cons_zero, List.set_cons_succ])
          | (refine plan_off (by rfl) ?_
             simp only [Act.put, List.setIfInBounds_toArray, List.set_cons_zero, List.set_cons_succ])
          | (refine plan_load_off (by rfl) ?_
             simp only [Act.put, List.setIfInBounds_toArray, List.set_cons_zero, List.set_cons_succ])
          | (refine plan_load (v := ?_) (by rfl) (fun w1 hw1 => ?_) ?_
             rotate_left
             · (skip
                clear hw1
                go_simp <;> with_reducible rfl)
             simp only [Act.put, List.setIfInBounds_toArray, List.set_cons_zero, List.set_cons_succ]))
        refine plan_last ?_
        refine wpList_entryStore Try.keyP (by rfl) _ _ _ 108 (by rfl) M _ ((n : Int), (p.c n : Int)) stamp (by rfl) (by rfl) HENT.out (valE p.e) (by rfl) ?_
        intro w11 mp11 m11
        rw [mput_again, HS2.out] at mp11
        have HMM11 := Lib.hid mp11
        have HMK11 := Lib.hid (HMK10.out.move (m11.block K HMK10.out.lt (fun h => by have := HKB.out; omega)))
        have HM11 := Lib.hid (Mod.trans HMV8.out (Mod.trans HM10.out (m11.mono (fun q _ h => (.inr h : q = K ∨ q = M)))))
        clear mp11 m11
        go_wp2_with fail
        refine plan_end ?_
        go_wp2_with fail
        go_roundw
        case rel => exact ⟨i + 1, by omega, by go_num, HMK11, HMM11, HM11⟩
        case measure => simp [intOf]; omega
      · obtain rfl : i = b.length := by omega
        have HCA := Lib.hid (HCLA.out wr HBW.out)
        clear HCLA HCLK HEVB HMK HMM HMV
        go_wp2_with fail
        refine HCA.out.mono ?_
        rintro x V2 ⟨A6, cap6, rfl, hrow, hat, hbv⟩
        have hcb : ∀ (i : Nat) (p : Fo.Ent), (Fo.cl a)[i]? = some p → ∃ g o, A6 = some ⟨g, o, none⟩ ∧ g < V2.heap.size ∧ ∀ u : World, u.heap[g]? = V2.heap[g]? → ∀ j, j < 4 → u.cell? ⟨g, o + i * 4 + j, none⟩ = some (.int .i64 (p.c j : Nat)) := fun i p hp => by
          obtain ⟨g, o, rfl, h1, h2⟩ := clk_cell hrow hp (Fo.cl_len a).symm
          exact ⟨g, o, rfl, h1, h2⟩
        have HCLK := Lib.hid hcb
        have HBV2 := Lib.hid (below_at HBW.out hbv)
        have HMK := Lib.hid (HMK1.out.move (hbv.block K HMK1.out.lt))
        have HMM := Lib.hid (HMM1.out.move (hbv.block M HMM1.out.lt))
        clear hrow hat hbv hcb HCA HMK1 HMM1 HBW HBV
        go_wp2_with fail
        go_loopw [66] (fun v wr => ∃ i : Nat, i ≤ a.length ∧ v = .int .i64 i ∧ Hid (∀ p ∈ (Fo.cl a).take i, p ∈ Fo.cl b) ∧ Hid (Below V2.heap.size V2 wr)) (fun v _ => a.length - (intOf v).toNat)
        case atStart => exact ⟨0, Nat.zero_le _, rfl, Lib.hid (fun p h => by simp at h), Lib.hid (Below.refl _ _)⟩
        case round =>
          obtain ⟨i, hi, rfl, HALL, HMV⟩ := hrel
          have HBW := Lib.hid (below_at HBV2.out HMV.out)
          by_cases hlt : i < a.length
          · obtain ⟨p, hpi⟩ := get_some (show i < (Fo.cl a).length by rw [Fo.cl_len]; exact hlt)
            have hbe := Fo.cl_get hpi
            obtain ⟨g, o, rfl, hg, hcl⟩ := HEVA.out i p.e hbe
            obtain ⟨gA, oA, rfl, hgA, hcA⟩ := HCLK.out i p hpi
            have hre : Fo.right p.e = true := List.all_eq_true.1 HRA.out p.e (List.mem_of_getElem? hbe)
            obtain ⟨n, hn, hn4⟩ : ∃ n : Nat, p.e.t = (n : Int) ∧ n < 4 := by
              obtain ⟨h1, h2⟩ := Fo.right_thr hre
              exact ⟨p.e.t.toNat, by omega, by omega⟩
            have hky : Fo.kyE p = ((n : Int), (p.c n : Int)) := by unfold Fo.kyE Fo.Ent.num; rw [hn]; rfl
            obtain ⟨e', c', hf1, hf2, hf3⟩ := Fo.found HRA.out HRB.out (List.mem_of_getElem? hpi)
            rw [hky] at hf1 hf2
            have htk : (Fo.cl a).take (i + 1) = (Fo.cl a).take i ++ [p] := by rw [List.take_add_one, hpi]; rfl
            have hpm := List.mem_of_getElem? hpi
            have hAw : ∀ u : World, u.heap[gA]? = wr.heap[gA]? → ∀ j, j < 4 → u.cell? ⟨gA, oA + i * 4 + j, none⟩ = some (.int .i64 (p.c j : Nat)) := fun u hu => hcA u (hu.trans (HMV.out.block gA hgA))
            have c0 := hAw wr rfl 0 (by omega)
            have c1 := hAw wr rfl 1 (by omega)
            have c2 := hAw wr rfl 2 (by omega)
            have c3 := hAw wr rfl 3 (by omega)
            simp only [Nat.add_zero] at c0
            have lgA : gA < wr.heap.size := by have := HMV.out.size; omega
            have k1 : (0 : Int) ≤ (i : Int) := Int.natCast_nonneg _
            have k2 : (i : Int) < (a.length : Int) := by omega
            have HF1 := Lib.hid hf1
            have HF2 := Lib.hid hf2
            have HF3 := Lib.hid hf3
            have HTK := Lib.hid htk
            have HPM := Lib.hid hpm
            have HN := Lib.hid hn
            have HCL := Lib.hid hcl
            clear hpi hbe hre hky hf1 hf2 hf3 htk hpm hcA hAw hcl hn
            go_upto_region 14 with fail
            obtain ⟨W6, hW6⟩ : ∃ W6, W6 = wr.alloc (Obj.cells #[.int .i64 (p.c 0 : Nat), .int .i64 (p.c 1 : Nat), .int .i64 (p.c 2 : Nat), .int .i64 (p.c 3 : Nat)] 111) := ⟨_, rfl⟩
            obtain ⟨X, hX⟩ : ∃ X, X = wr.heap.size := ⟨_, rfl⟩
            rw [← hW6, ← hX]
            have hb6 : Below wr.heap.size wr W6 := by rw [hW6]; exact (Below.refl _ _).alloc (Nat.le_refl _) _
            have hk6 : W6.heap[X]? = some (.cells (arr p.c).toArray 111 (0, 0)) := by rw [hW6, hX]; exact heap_alloc_new wr _
            have HB6 := Lib.hid (below_at HBW.out hb6)
            have HX6 := Lib.hid (fun u (hu : Below W6.heap.size W6 u) => blk_step hk6 hu)
            have hq : ∀ u, Below W6.heap.size W6 u → u.cell? ⟨g, o + i * 4, none⟩ = some (.int .i64 (n : Int)) ∧ u.cell? ⟨X, n, none⟩ = some (.int .i64 (p.c n : Nat)) := fun u hu => by
              refine ⟨?_, ?_⟩
              · rw [← HN.out]; exact (HCL.out u (below_at HB6.out hu)).1
              · rw [cell_blk (HX6.out u hu), List.getElem?_toArray, arr_get _ hn4]
            have HQ := Lib.hid hq
            have HMV6 := Lib.hid (below_at HMV.out hb6)
            have n1 : (0 : Int) ≤ (n : Int) := Int.natCast_nonneg _
            have n2 : (n : Int) < 4 := by omega
            have hS : Below W6.heap.size W6 W6.drew := (Below.refl _ _).drew
            clear hW6 hX hb6 hk6 hq c0 c1 c2 c3
            refine wp_region_plan (by kernel_rfl) (fun u => Below W6.heap.size W6 u) [14] [(0, .pure), (1, .pure), (2, .pure), (3, .pure), (4, .load), (5, .pure), (6, .pure), (7, .pure), (8, .pure), (9, .load), (10, .pure), (11, .load), (12, .pure), (13, .eff), (14, .last)] (by simp only [List.map_cons, List.map_nil, List.getElem?_toArray, List.getElem?_cons_succ, List.getElem?_cons_zero]; rfl) (by kernel_rfl) (fun _ _ d _ _ h => by cases d <;> exact h) (hS) ?_
            repeat (first
              | (refine plan_pure (v := ?_) (by rfl) (fun w1 => ?_) ?_
                 rotate_left
                 · go_simp <;> with_reducible rfl
                 simp only [Act.put, List.setIfInBounds_toArray, List.set_cons_zero, List.set_cons_succ])
              | (refine plan_off (by rfl) ?_
                 simp only [Act.put, List.setIfInBounds_toArray, List.set_cons_zero, List.set_cons_succ])
              | (refine plan_load_off (by rfl) ?_
                 simp only [Act.put, List.setIfInBounds_toArray, List.set_cons_zero, List.set_cons_succ])
              | (refine plan_load (v := ?_) (by rfl) (fun w1 hw1 => ?_) ?_
                 rotate_left
                 · (have q0 := (HQ.out w1 hw1).1
                    have q1 := (HQ.out w1 hw1).2
                    clear hw1
                    go_simp <;> with_reducible rfl)
                 simp only [Act.put, List.setIfInBounds_toArray, List.set_cons_zero, List.set_cons_succ]))
            refine plan_eff ?_
            go_wp2_with fail
            obtain ⟨Q, hQ⟩ : ∃ Q, Q = W6.heap.size := ⟨_, rfl⟩
            obtain ⟨W7, hW7⟩ : ∃ W7, W7 = (W6.alloc (Obj.cells #[.int .i64 0, .int .i64 0] 113)).drew := ⟨_, rfl⟩
            have hb7 : Below W6.heap.size W6 W7 := by rw [hW7]; exact ((Below.refl _ _).alloc (Nat.le_refl _) _).drew
            have hk7 : W7.heap[Q]? = some (.cells #[.int .i64 0, .int .i64 0] 113 (0, 0)) := by rw [hW7, hQ]; exact heap_alloc_new W6 _
            have hQ6 : W6.heap.size ≤ Q := Nat.le_of_eq hQ.symm
            rw [← hW7]
            refine plan_on (fun _ h => h) hb7 ?_
            rw [← hQ]
            have q0 : W7.cell? ⟨Q, 0, none⟩ = some (.int .i64 0) := by rw [cell_blk hk7]; rfl
            have q1 : W7.cell? ⟨Q, 1, none⟩ = some (.int .i64 0) := by rw [cell_blk hk7]; rfl
            have q2 : W7.frozen? ⟨Q, 0, none⟩ = false := free_blk hk7 _
            have q3 : W7.frozen? ⟨Q, 1, none⟩ = false := free_blk hk7 _
            have hk8 := set_blk (set_blk hk7 0 (.int .i64 (n : Int))) 1 (.int .i64 (p.c n : Nat))
            have hm8 : Mod (fun q => q = Q) W7 ((W7.setCell ⟨Q, 0, none⟩ (.int .i64 (n : Int))).setCell ⟨Q, 1, none⟩ (.int .i64 (p.c n : Nat))) := ((Mod.refl (fun q => q = Q) W7).setCell (p := ⟨Q, 0, none⟩) (fun _ => rfl) _).setCell (p := ⟨Q, 1, none⟩) (fun _ => rfl) _
            have HB7 := Lib.hid hb7
            have HK8 := Lib.hid hk8
            have HM8 := Lib.hid hm8
            have HQ6 := Lib.hid hQ6
            clear hQ hW7 hb7 hk7 hQ6 hk8 hm8 hS
            repeat (first
              | (refine plan_pure (v := ?_) (by rfl) (fun w1 => ?_) ?_
                 rotate_left
                 · go_simp <;> with_reducible rfl
                 simp only [Act.put, List.setIfInBounds_toArray, List.set_cons_zero, List.set_cons_succ])
              | (refine plan_off (by rfl) ?_
                 simp only [Act.put, List.setIfInBounds_toArray, List.set_cons_zero, List.set_cons_succ])
              | (refine plan_load_off (by rfl) ?_
                 simp only [Act.put, List.setIfInBounds_toArray, List.set_cons_zero, List.set_cons_succ])
              | (refine plan_load (v := ?_) (by rfl) (fun w1 hw1 => ?_) ?_
                 rotate_left
                 · (skip
                    clear hw1
                    go_simp <;> with_reducible rfl)
                 simp only [Act.put, List.setIfInBounds_toArray, List.set_cons_zero, List.set_cons_succ]))
            refine plan_last ?_
            go_wp2_with fail
            refine plan_end ?_
            obtain ⟨W8, hW8⟩ : ∃ W8, W8 = (W7.setCell ⟨Q, 0, none⟩ (.int .i64 (n : Int))).setCell ⟨Q, 1, none⟩ (.int .i64 (p.c n : Nat)) := ⟨_, rfl⟩
            rw [← hW8] at HK8 HM8 ⊢
            have hb8 : Below W6.heap.size W6 W8 := ((Mod.of_below HB7.out).then HM8.out (fun q _ h => by rw [h]; exact HQ6.out)).below _ (Nat.le_refl _) (fun q hq h => by omega)
            have hk8 : W8.heap[Q]? = some (.cells #[.int .i64 (n : Int), .int .i64 (p.c n : Nat)] 113 (0, 0)) := by have := HK8.out; simpa using this
            have HBV8 := Lib.hid (below_at HMV6.out hb8)
            have hMV8 : MapAt Try.keyP W8 K (Fo.mapOf (fun p => arV p.c) (Fo.cl b) b.length) := HMK.out.move (HBV8.out.block K HMK.out.lt)
            have hMM8 : MapAt Try.keyP W8 M (Fo.mapOf (fun p => valE p.e) (Fo.cl b) b.length) := HMM.out.move (HBV8.out.block M HMM.out.lt)
            have hq9 : ∀ u, Below W8.heap.size W8 u → (u.cell? ⟨Q, 0, none⟩ = some (.int .i64 (n : Int)) ∧ u.cell? ⟨Q, 1, none⟩ = some (.int .i64 (p.c n : Nat))) ∧
                (u.cell? ⟨X, 0, none⟩ = some (.int .i64 (p.c 0 : Nat)) ∧ u.cell? ⟨X, 1, none⟩ = some (.int .i64 (p.c 1 : Nat)) ∧ u.cell? ⟨X, 2, none⟩ = some (.int .i64 (p.c 2 : Nat)) ∧ u.cell? ⟨X, 3, none⟩ = some (.int .i64 (p.c 3 : Nat))) ∧ EvAt u g (o + i * 4) p.e ∧
                (Instr.lookup 108 (.map (some M)) (.agg #[.int .i64 (n : Int), .int .i64 (p.c n : Nat)]) false).run Try.prog u = .ok (.agg #[.int .i64 e'.t, .int .i64 e'.k, .int .i64 e'.o, .bool e'.f]) u ∧
                (Instr.lookup 107 (.map (some K)) (.agg #[.int .i64 (n : Int), .int .i64 (p.c n : Nat)]) false).run Try.prog u = .ok (.agg #[.int .i64 (c' 0 : Nat), .int .i64 (c' 1 : Nat), .int .i64 (c' 2 : Nat), .int .i64 (c' 3 : Nat)]) u := fun u hu => by
              have kq := blk_step hk8 hu
              have kx := HX6.out u (below_chain hb8 hu (Nat.le_refl _))
              have l1 := run_lookup Try.keyP (w := u) Try.underlying108 (z := .agg #[.int .i64 0, .int .i64 0, .int .i64 0, .bool false]) (fun w => by go_simp) (hMM8.move (hu.block M hMM8.lt)) ((n : Int), (p.c n : Int)) false
              have l2 := run_lookup Try.keyP (w := u) Try.underlying107 (z := .agg #[.int .i64 0, .int .i64 0, .int .i64 0, .int .i64 0]) (fun w => by go_simp) (hMV8.move (hu.block K hMV8.lt)) ((n : Int), (p.c n : Int)) false
              rw [HF1.out] at l1
              rw [HF2.out] at l2
              exact ⟨⟨by rw [cell_blk kq]; rfl, by rw [cell_blk kq]; rfl⟩, ⟨by rw [cell_blk kx]; rfl, by rw [cell_blk kx]; rfl, by rw [cell_blk kx]; rfl, by rw [cell_blk kx]; rfl⟩,
                HCL.out u (below_at (below_at HB6.out hb8) hu), l1, l2⟩
            have HQ9 := Lib.hid hq9
            have hS : Below W8.heap.size W8 W8.drew := (Below.refl _ _).drew
            have heq := evEq e' p.e
            have hgd := evGuard
            have haq : ∀ w, (Op.equalIn 10000 111 (.agg #[.int .i64 (c' 0 : Nat), .int .i64 (c' 1 : Nat), .int .i64 (c' 2 : Nat), .int .i64 (c' 3 : Nat)]) (.agg #[.int .i64 (p.c 0 : Nat), .int .i64 (p.c 1 : Nat), .int .i64 (p.c 2 : Nat), .int .i64 (p.c 3 : Nat)])).run Try.prog w = .ok (arB c' p.c) w := arEq c' p.c
            have hag := fun (op : BinOp) (x y : Operand) (a b : Array Value) (w : World) => run_eqGuard_agg (P := Try.prog) w op 111 x y a b (by kernel_rfl)
            obtain ⟨d1, hd1⟩ : ∃ d1, d1 = decide (e' = p.e) := ⟨_, rfl⟩
            obtain ⟨d2, hd2⟩ : ∃ d2, d2 = arB c' p.c := ⟨_, rfl⟩
            rw [← hd1] at heq
            rw [← hd2] at haq
            have hdd : (d1 = true ∧ d2 = true) ↔ p ∈ Fo.cl b := by rw [hd1, hd2, decide_eq_true_eq]; exact HF3.out
            have HDD := Lib.hid hdd
            clear hW8 hb8 hk8 hMV8 hMM8 hq9 hd1 hd2 hdd q0 q1 q2 q3
            have hres : (d1 = true ∧ d2 = true) ∨ (d1 = true ∧ d2 = false) ∨ (d1 = false) := by cases d1 <;> cases d2 <;> simp
            rcases hres with ⟨rfl, rfl⟩ | ⟨rfl, rfl⟩ | rfl
            · go_wp2_with fail
              refine wp_region_plan (by kernel_rfl) (fun u => Below W8.heap.size W8 u) [] [(0, .pure), (1, .load), (2, .load), (3, .pure), (4, .pure), (5, .pure), (6, .load), (7, .pure), (8, .pure), (9, .pure), (10, .load), (11, .load), (12, .load), (13, .pure), (14, .pure)] (by simp only [List.map_cons, List.map_nil, List.getElem?_toArray, List.getElem?_cons_succ, List.getElem?_cons_zero]; rfl) (by kernel_rfl) (fun _ _ d _ _ h => by cases d <;> exact h) (hS) ?_
              repeat (first
                | (refine plan_pure (v := ?_) (by rfl) (fun w1 => ?_) ?_
                   rotate_left
                   · go_simp <;> with_reducible rfl
                   simp only [Act.put, List.setIfInBounds_toArray, List.set_cons_zero, List.set_cons_succ])
                | (refine plan_off (by rfl) ?_
                   simp only [Act.put, List.setIfInBounds_toArray, List.set_cons_zero, List.set_cons_succ])
                | (refine plan_load_off (by rfl) ?_
                   simp only [Act.put, List.setIfInBounds_toArray, List.set_cons_zero, List.set_cons_succ])
                | (refine plan_load (v := ?_) (by rfl) (fun w1 hw1 => ?_) ?_
                   rotate_left
                   · (have q := HQ9.out w1 hw1
                      obtain ⟨⟨q0, q1⟩, ⟨q2, q3, q4, q5⟩, ⟨q6, q7, q8, q9⟩, q10, q11⟩ := q
                      clear hw1
                      go_simp <;> with_reducible rfl)
                   simp only [Act.put, List.setIfInBounds_toArray, List.set_cons_zero, List.set_cons_succ]))
              refine plan_end ?_
              have hin := HDD.out.1 (by simp)
              have HIN := Lib.hid hin
              clear hin heq haq hgd hag
              go_wp2_with fail
              go_roundw
              case rel => exact ⟨i + 1, by omega, by go_num, Lib.hid (fun r hr => by rw [HTK.out] at hr; rcases List.mem_append.1 hr with h | h; exact HALL.out r h; rw [List.mem_singleton] at h; rw [h]; exact HIN.out), Lib.hid HBV8.out.drew⟩
              case measure => simp [intOf]; omega
            · have hnot : dd = false := by
                cases dd with
                | false => rfl
                | true => have := HDD.out.2 ((HD.out.1 rfl).2 p HPM.out); cases this.2
              subst hnot
              clear HD
              go_wp2_with fail
              refine wp_region_plan (by kernel_rfl) (fun u => Below W8.heap.size W8 u) [] [(0, .pure), (1, .load), (2, .load), (3, .pure), (4, .pure), (5, .pure), (6, .load), (7, .pure), (8, .pure), (9, .pure), (10, .load), (11, .load), (12, .load), (13, .pure), (14, .pure)] (by simp only [List.map_cons, List.map_nil, List.getElem?_toArray, List.getElem?_cons_succ, List.getElem?_cons_zero]; rfl) (by kernel_rfl) (fun _ _ d _ _ h => by cases d <;> exact h) (hS) ?_
              repeat (first
                | (refine plan_pure (v := ?_) (by rfl) (fun w1 => ?_) ?_
                   rotate_left
                   · go_simp <;> with_reducible rfl
                   simp only [Act.put, List.setIfInBounds_toArray, List.set_cons_zero, List.set_cons_succ])
                | (refine plan_off (by rfl) ?_
                   simp only [Act.put, List.setIfInBounds_toArray, List.set_cons_zero, List.set_cons_succ])
                | (refine plan_load_off (by rfl) ?_
                   simp only [Act.put, List.setIfInBounds_toArray, List.set_cons_zero, List.set_cons_succ])
                | (refine plan_load (v := ?_) (by rfl) (fun w1 hw1 => ?_) ?_
                   rotate_left
                   · (have q := HQ9.out w1 hw1
                      obtain ⟨⟨q0, q1⟩, ⟨q2, q3, q4, q5⟩, ⟨q6, q7, q8, q9⟩, q10, q11⟩ := q
                      clear hw1
                      go_simp <;> with_reducible rfl)
                   simp only [Act.put, List.setIfInBounds_toArray, List.set_cons_zero, List.set_cons_succ]))
              refine plan_end ?_
              clear heq haq hgd hag
              go_wp2_with fail
              go_ret
              exact ⟨rfl, below_at HBV2.out HBV8.out.drew⟩
            · have hnot : dd = false := by
                cases dd with
                | false => rfl
                | true => have := HDD.out.2 ((HD.out.1 rfl).2 p HPM.out); cases this.1
              subst hnot
              clear HD
              go_wp2_with fail
              refine wp_region_plan (by kernel_rfl) (fun u => Below W8.heap.size W8 u) [] [(0, .pure), (1, .load), (2, .load), (3, .pure), (4, .pure), (5, .pure), (6, .load), (7, .pure), (8, .pure), (9, .pure), (10, .load), (11, .load), (12, .load), (13, .pure), (14, .pure)] (by simp only [List.map_cons, List.map_nil, List.getElem?_toArray, List.getElem?_cons_succ, List.getElem?_cons_zero]; rfl) (by kernel_rfl) (fun _ _ d _ _ h => by cases d <;> exact h) (hS) ?_
              repeat (first
                | (refine plan_pure (v := ?_) (by rfl) (fun w1 => ?_) ?_
                   rotate_left
                   · go_simp <;> with_reducible rfl
                   simp only [Act.put, List.setIfInBounds_toArray, List.set_cons_zero, List.set_cons_succ])
                | (refine plan_off (by rfl) ?_
                   simp only [Act.put, List.setIfInBounds_toArray, List.set_cons_zero, List.set_cons_succ])
                | (refine plan_load_off (by rfl) ?_
                   simp only [Act.put, List.setIfInBounds_toArray, List.set_cons_zero, List.set_cons_succ])
                | (refine plan_load (v := ?_) (by rfl) (fun w1 hw1 => ?_) ?_
                   rotate_left
                   · (have q := HQ9.out w1 hw1
                      obtain ⟨⟨q0, q1⟩, ⟨q2, q3, q4, q5⟩, ⟨q6, q7, q8, q9⟩, q10, q11⟩ := q
                      clear hw1
                      go_simp <;> with_reducible rfl)
                   simp only [Act.put, List.setIfInBounds_toArray, List.set_cons_zero, List.set_cons_succ]))
              refine plan_end ?_
              clear heq haq hgd hag
              go_wp2_with fail
              go_ret
              exact ⟨rfl, below_at HBV2.out HBV8.out.drew⟩
          · have hall : ∀ p ∈ Fo.cl a, p ∈ Fo.cl b := fun p hp => HALL.out p (by rw [List.take_of_length_le (by rw [Fo.cl_len]; omega)]; exact hp)
            have hdt : dd = true := HD.out.2 ⟨HLEN.out, hall⟩
            subst hdt
            clear hall HD HALL
            go_wp2_with fail
            go_ret
            exact ⟨rfl, HBW.out⟩
  · have e1 : ((a.length : Int) != (b.length : Int)) = true := by simp; omega
    have e2 : ((a.length : Int) == (b.length : Int)) = false := by simp; omega
    have hdf : dd = false := by
      cases dd with
      | false => rfl
      | true => exact absurd (HD.out.1 rfl).1 hlen
    subst hdf
    clear hlen HD
    go_wp2_with fail
    go_ret
    exact ⟨rfl, HB2.out⟩
end Go.Proofs.Ytgahjibjladafaa
