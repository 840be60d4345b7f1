/- Clocks: clock.Clocks. -/
import Derived.Test.YtgahjibjladafaaCkA
import Derived.Test.YtgahjibjladafaaFoMore
namespace Go.Proofs.Ytgahjibjladafaa
open Go.RowKit
set_option linter.unusedVariables false

namespace Fo
/-- what is known behind the first i of them -/
def acc (S : List Ent) (e : Ev) (i : Nat) : Nat → Nat := fun t => sup (S.take i) (fun p => dep p.e e) (fun p => p.c t)
theorem acc_zero (S : List Ent) (e : Ev) : acc S e 0 = fun _ => 0 := rfl
theorem acc_step {S : List Ent} {e : Ev} {i : Nat} {p : Ent} (h : S[i]? = some p) : acc S e (i + 1) = fun t => if dep p.e e = true then max (acc S e i t) (p.c t) else acc S e i t := by
  unfold acc
  funext t
  rw [List.take_add_one, h]
  exact sup_snoc _ _ _ _
theorem acc_all (S : List Ent) (e : Ev) (t : Nat) : acc S e S.length t + (if t = e.t.toNat then 1 else 0) = clk S e t := by unfold acc clk; rw [List.take_length]
theorem acc_le {S : List Ent} {m : Nat} (h : ∀ p ∈ S, ∀ t, p.c t ≤ m) (e : Ev) (i t : Nat) : acc S e i t ≤ m := sup_le fun p hp _ => h p (List.mem_of_mem_take hp) t
theorem cl_le {l : List Ev} (hr : rights l = true) : ∀ p ∈ cl l, ∀ t, p.c t ≤ l.length := fun p hp t => by
  have h := (clkOk l (fun e he => (right_thr (List.all_eq_true.1 hr e he)).1)).le p hp t
  unfold cnt_ at h
  exact Nat.le_trans h (List.length_filter_le _ _)
theorem cl_get {l : List Ev} {i : Nat} {p : Ent} (h : (cl l)[i]? = some p) : l[i]? = some p.e := by
  have := cl_ev l
  rw [← this, List.getElem?_map, h]
  rfl
end Fo
def encK (p : Fo.Ent) : List Value := arr p.c
theorem Try.infoK : (Try.prog.info? 111).map (fun i => (i.zero, i.size, i.bytes)) = some (some (.agg #[.int .i64 0, .int .i64 0, .int .i64 0, .int .i64 0]), 4, 32) := by kernel_rfl
/-- a clock of a row of clocks -/
theorem clk_cell {w : World} {e : Nat} {A : Option Addr} {n cap : Nat} {S : List Fo.Ent} (h : Row w e 4 A n cap (S.flatMap encK)) {i : Nat} {p : Fo.Ent} (hp : S[i]? = some p) (hn : n = S.length) :
    ∃ g o, A = some ⟨g, o, none⟩ ∧ g < w.heap.size ∧ ∀ u : World, u.heap[g]? = w.heap[g]? → ∀ j, j < 4 → u.cell? ⟨g, o + i * 4 + j, none⟩ = some (.int .i64 (p.c j : Nat)) := by
  obtain ⟨hi, rfl⟩ := List.getElem?_eq_some_iff.1 hp
  obtain ⟨g, o, rfl⟩ := h.some_of_pos (by have := h.2.1; omega)
  refine ⟨g, o, rfl, h.lt, fun u hu j hj => ?_⟩
  rw [World.cell?_of_block hu, show o + i * 4 + j = o + (i * 4 + j) by omega, h.cell (i * 4 + j) (by omega), flat_get (f := encK) (sz := 4) (fun _ => rfl) S i j hi hj]
  exact arr_get _ hj

set_option maxRecDepth 100000 in
set_option maxHeartbeats 8000000 in
theorem clocks_any (w : World) (A : Option Addr) (cap : Nat) (l : List Ev) (hr : Rd w 4 A l.length (l.flatMap encE)) (hcap : l.length ≤ cap) (hcm : cap ≤ maxLen) (hl : l.length ≤ 1000) (hR : Fo.rights l = true) :
    Calls Try.prog 71 #[.slice A l.length cap] w fun x w' => ∃ A' cap', x = .returned (.slice A' l.length cap') ∧ Row w' 111 4 A' l.length cap' ((Fo.cl l).flatMap encK) ∧ (∀ a, A' = some a → w.heap.size ≤ a.block) ∧ Below w.heap.size w w' := by
  obtain ⟨i1, hi1, hy0, hy1, hy2⟩ := info_parts Try.infoK
  have hok := cright_any w A cap l hr (by omega)
  rw [hR] at hok
  have hev : ∀ (k : Nat) (e : Ev), l[k]? = some e → ∃ g o, A = some ⟨g, o, none⟩ ∧ g < w.heap.size ∧ ∀ u, Below w.heap.size w u → EvAt u g (o + k * 4) e := fun k e hk => by
    obtain ⟨h1, rfl⟩ := List.getElem?_eq_some_iff.1 hk
    exact evs_cell hr.toB k h1
  have HC := Lib.hid hev
  have HOK := Lib.hid hok
  have HRT := Lib.hid hR
  have hcz : cap < 9223372036854775808 := by unfold maxLen at hcm; omega
  clear hr hok hev hR hcm
  go_enter Try.func71, Try.ntmps71
  go_wp2_with fail
  refine HOK.out.mono ?_
  rintro x w1 ⟨rfl, b1⟩
  have HB1 := Lib.hid b1
  clear b1
  go_wp2_with fail
  go_loopw [2, 13] (fun v2 v13 wr => ∃ (k : Nat) (A' : Option Addr) (cap' : Nat), k ≤ l.length ∧ v13 = .int .i64 k ∧ v2 = .slice A' k cap' ∧ Hid (Row wr 111 4 A' k cap' ((Fo.cl (l.take k)).flatMap encK)) ∧ Hid (∀ a, A' = some a → w.heap.size ≤ a.block) ∧ Hid (Below w.heap.size w wr)) (fun _ v _ => l.length - (intOf v).toNat)
  case atStart => exact ⟨0, none, 0, Nat.zero_le _, rfl, rfl, Lib.hid (Row.nil _ _ _), Lib.hid (fun a h => (by cases h)), HB1⟩
  case round =>
    obtain ⟨k, A', cap', hk, rfl, rfl, HRW, HAT, HB⟩ := hrel
    by_cases hlt : k < l.length
    · obtain ⟨e, hke⟩ := get_some hlt
      obtain ⟨g, o, rfl, hg, hcl⟩ := HC.out k e hke
      obtain ⟨v0, v1, v2, v3⟩ := hcl wr HB.out
      have k1 : (0 : Int) ≤ (k : Int) := Int.natCast_nonneg _
      have k2 : (k : Int) < (l.length : Int) := by omega
      have hre : Fo.right e = true := List.all_eq_true.1 HRT.out e (List.mem_of_getElem? hke)
      obtain ⟨n, hn, hn4⟩ : ∃ n : Nat, e.t = (n : Int) ∧ n < 4 := by
        obtain ⟨h1, h2⟩ := Fo.right_thr hre
        exact ⟨e.t.toNat, by omega, by omega⟩
      have hsn : Fo.cl (l.take (k + 1)) = Fo.cl (l.take k) ++ [⟨e, Fo.clk (Fo.cl (l.take k)) e⟩] := by rw [List.take_add_one, hke]; exact Fo.cl_snoc _ _
      have hlen : (Fo.cl (l.take k)).length = k := by rw [Fo.cl_len, List.length_take]; omega
      have hle : ∀ p ∈ Fo.cl (l.take k), ∀ t, p.c t ≤ 1000 := fun p hp t => by
        have := Fo.cl_le (l := l.take k) (List.all_eq_true.2 fun x hx => List.all_eq_true.1 HRT.out x (List.mem_of_mem_take hx)) p hp t
        rw [List.length_take] at this; omega
      have hget : ∀ (i : Nat) (p : Fo.Ent), (Fo.cl (l.take k))[i]? = some p → l[i]? = some p.e := fun i p hp => by
        have h1 := Fo.cl_get hp
        obtain ⟨h2, _⟩ := List.getElem?_eq_some_iff.1 hp
        rw [hlen] at h2
        rwa [List.getElem?_take, if_pos h2] at h1
      generalize Fo.cl (l.take k) = S at *
      have HSN := Lib.hid hsn
      have HLEN := Lib.hid hlen
      have HLE := Lib.hid hle
      have HGET := Lib.hid hget
      have HN := Lib.hid hn
      clear hke hcl hre hsn hlen hle hget hn
      go_upto_region 7 with fail
      obtain ⟨W1, X, hW1, hX, hBW, hXl, hXe⟩ := box_ev wr e
      obtain ⟨W2, hW2⟩ : ∃ W2, W2 = W1.alloc (Obj.cells #[.int .i64 0, .int .i64 0, .int .i64 0, .int .i64 0] 111) := ⟨_, rfl⟩
      obtain ⟨Y, hY⟩ : ∃ Y, Y = X + 1 := ⟨_, rfl⟩
      have hYs : Y = W1.heap.size := by rw [hY, hW1, hX]; simp
      have hk2 : W2.heap[Y]? = some (.cells (arr (Fo.acc S e 0)).toArray 111 (0, 0)) := by rw [hW2, hYs]; exact heap_alloc_new W1 _
      have hB2 : Below W1.heap.size W1 W2 := by rw [hW2]; exact (Below.refl _ _).alloc (Nat.le_refl _) _
      have hXY : X ≠ Y := by omega
      rw [← hW1, ← hX, ← hW2, ← hY]
      have HX2 := Lib.hid (fun u (hu : Mod (fun q => q = Y) W2 u) => show EvAt u X 0 e from hXe u ((Mod.of_below_size hB2 (fun _ => False)).then hu (fun i hi h => by omega) |>.below _ (Nat.le_refl _) (fun _ _ h => h)))
      have HB2 := Lib.hid (below_chain (below_chain HB.out hBW (Nat.le_refl _)) hB2 (Nat.le_refl _))
      have HR2 := Lib.hid (row_step (row_step HRW.out hBW) hB2)
      have HK2 := Lib.hid hk2
      have HXY := Lib.hid hXY
      have hYb : w.heap.size ≤ Y ∧ (∀ a, A' = some a → a.block ≠ Y) := ⟨by have := HB.out.size; omega, fun a ha h => by subst ha; have := HRW.out.lt; omega⟩
      have HYB := Lib.hid hYb
      have hYl : Y < W2.heap.size := blk_lt hk2
      have HZ := Lib.hid hYl
      clear hX hW1 hW2 hY hYs hk2 hB2 hXY hBW hXl hXe hYb hYl v0 v1 v2 v3 HB HRW
      go_wp2_with fail
      go_loopw [22] (fun v wr => ∃ i : Nat, i ≤ k ∧ v = .int .i64 i ∧ Hid (wr.heap[Y]? = some (.cells (arr (Fo.acc S e i)).toArray 111 (0, 0))) ∧ Hid (Mod (fun q => q = Y) W2 wr)) (fun v _ => k - (intOf v).toNat)
      case atStart => exact ⟨0, Nat.zero_le _, rfl, HK2, Lib.hid (Mod.refl _ _)⟩
      case round =>
        obtain ⟨i, hi, rfl, HY, HM⟩ := hrel
        have HBM := Lib.hid (((Mod.of_below HB2.out).then HM.out (fun q _ h => by rw [h]; exact HYB.out.1)).below _ (Nat.le_refl _) (fun q hq h => by omega) : Below w.heap.size w wr)
        have HRM := Lib.hid (HR2.out.mod HM.out (fun a ha => HYB.out.2 a ha))
        by_cases hil : i < k
        · obtain ⟨p, hpi⟩ := get_some (show i < S.length by rw [HLEN.out]; exact hil)
          have hle := HGET.out i p hpi
          obtain ⟨g4, o4, e4, hg4, hcl⟩ := HC.out i p.e hle
          obtain ⟨rfl, rfl⟩ : g = g4 ∧ o = o4 := by injection e4 with e4; injection e4 with a b; exact ⟨a, b⟩
          obtain ⟨v0, v1, v2, v3⟩ := hcl wr HBM.out
          have hst := Fo.acc_step (e := e) hpi
          obtain ⟨gA, oA, rfl, hgA, hcA⟩ := clk_cell HRM.out hpi HLEN.out.symm
          obtain ⟨W3, Z, hW3, hZ, hBW3, hZl, hZe⟩ := box_ev wr p.e
          have hM3 : Mod (fun q => q = Y) W2 W3 := Mod.trans HM.out (Mod.of_below_size hBW3 _)
          have hY3 := blk_step HY.out hBW3
          obtain ⟨y0, y1, y2, y3⟩ := hZe W3 (Below.refl _ _)
          obtain ⟨x0, x1, x2, x3⟩ := HX2.out W3 hM3
          have hcall := depends_any W3 p.e e
          unfold valE at hcall
          have hjoin : ∀ u : World, u.heap[Y]? = some (.cells (arr (Fo.acc S e i)).toArray 111 (0, 0)) → Calls Try.prog 102 #[.pointer (some ⟨Y, 0, none⟩), .agg #[.int .i64 (p.c 0 : Nat), .int .i64 (p.c 1 : Nat), .int .i64 (p.c 2 : Nat), .int .i64 (p.c 3 : Nat)]] u fun x w' => x = .returned (.tuple #[]) ∧ w'.heap[Y]? = some (.cells (arr fun t => max (Fo.acc S e i t) (p.c t)).toArray 111 (0, 0)) ∧ Mod (fun k => k = Y) u w' :=
            fun u hu => join_any u Y (Fo.acc S e i) p.c 111 hu (fun t => by have := Fo.acc_le HLE.out e i t; omega) (fun t => by have := HLE.out p (List.mem_of_getElem? hpi) t; omega)
          have k3 : (0 : Int) ≤ (i : Int) := Int.natCast_nonneg _
          have k4 : (i : Int) < (k : Int) := by omega
          have lgA : gA < wr.heap.size := hgA
          have lgA3 : gA < W3.heap.size := Nat.lt_of_lt_of_le hgA hBW3.size
          have HCALL := Lib.hid hcall
          have HJOIN := Lib.hid hjoin
          have HST := Lib.hid hst
          have HM3 := Lib.hid hM3
          have HY3 := Lib.hid hY3
          have HCA := Lib.hid (fun u (hu : Below W3.heap.size W3 u) => hcA u ((hu.block gA (by have := hBW3.size; omega)).trans (hBW3.block gA lgA)))
          clear hpi hle e4 hcl hst hcA hcall hjoin hM3 hY3 hZe
          go_upto_region 10 with fail
          rw [← hW3, ← hZ]
          clear hW3 hZ hBW3 v0 v1 v2 v3
          go_wp2_with fail
          refine HCALL.out.mono ?_
          rintro x w4 ⟨rfl, b4⟩
          have HM4 := Lib.hid (Mod.trans HM3.out (Mod.of_below_size b4 (fun q => q = Y)))
          have HY4 := Lib.hid (blk_step HY3.out b4)
          have c0 := HCA.out w4 b4 0 (by omega)
          have c1 := HCA.out w4 b4 1 (by omega)
          have c2 := HCA.out w4 b4 2 (by omega)
          have c3 := HCA.out w4 b4 3 (by omega)
          have lgA4 : gA < w4.heap.size := Nat.lt_of_lt_of_le lgA3 b4.size
          simp only [Nat.add_zero] at c0
          clear b4 x0 x1 x2 x3 y0 y1 y2 y3
          cases hd : Fo.dep p.e e with
          | false =>
            have hnx : Fo.acc S e (i + 1) = Fo.acc S e i := by rw [HST.out]; funext t; rw [hd, if_neg (by decide)]
            have HNX := Lib.hid hnx
            clear hd hnx
            go_wp2_with fail
            go_roundw
            case rel => exact ⟨i + 1, by omega, by go_num, Lib.hid (by rw [HNX.out]; exact HY4.out), HM4⟩
            case measure => simp [intOf]; omega
          | true =>
            have hnx : Fo.acc S e (i + 1) = fun t => max (Fo.acc S e i t) (p.c t) := by rw [HST.out]; funext t; rw [hd, if_pos rfl]
            have HNX := Lib.hid hnx
            have HJ := Lib.hid (HJOIN.out w4 HY4.out)
            clear hd hnx
            go_wp2_with fail
            refine HJ.out.mono ?_
            rintro x w5 ⟨rfl, hy5, hm5⟩
            have HY5 := Lib.hid hy5
            have HM5 := Lib.hid (Mod.trans HM4.out hm5)
            clear hy5 hm5
            go_wp2_with fail
            go_roundw
            case rel => exact ⟨i + 1, by omega, by go_num, Lib.hid (by rw [HNX.out]; exact HY5.out), HM5⟩
            case measure => simp [intOf]; omega
        · obtain rfl : i = k := by omega
          have hY0 := HY.out
          have hx := HX2.out wr HM.out
          obtain ⟨x0, x1, x2, x3⟩ := hx
          rw [HN.out] at x0
          have n1 : (0 : Int) ≤ (n : Int) := Int.natCast_nonneg _
          have n2 : (n : Int) < 4 := by omega
          have cY : ∀ j, j < 4 → wr.cell? ⟨Y, j, none⟩ = some (.int .i64 (Fo.acc S e i j : Nat)) := fun j hj => by rw [cell_blk hY0, List.getElem?_toArray, arr_get _ hj]
          have cn := cY n hn4
          have fn : wr.frozen? ⟨Y, n, none⟩ = false := free_blk hY0 _
          have ln : Y < wr.heap.size := blk_lt hY0
          have hset := set_blk hY0 n (.int .i64 ((Fo.acc S e i n + 1 : Nat) : Int))
          rw [arr_set _ hn4] at hset
          have hnx : (arr fun j => if j = n then Fo.acc S e i n + 1 else Fo.acc S e i j) = arr (Fo.clk S e) := arr_ext fun j hj => by
            have h1 := Fo.acc_all S e j
            rw [HLEN.out] at h1
            have h2 : e.t.toNat = n := by rw [HN.out]; rfl
            rw [h2] at h1
            by_cases h3 : j = n
            · subst h3; rw [if_pos rfl, ← h1, if_pos rfl]
            · rw [if_neg h3, ← h1, if_neg h3, Nat.add_zero]
          rw [hnx] at hset
          have han := Fo.acc_le HLE.out e i n
          have hms : Mod (fun q => q = Y) W2 (wr.setCell ⟨Y, n, none⟩ (.int .i64 ((Fo.acc S e i n + 1 : Nat) : Int))) := Mod.setCell HM.out (p := ⟨Y, n, none⟩) (fun _ => rfl) _
          generalize Fo.acc S e i n = an at *
          have hcast : ((an + 1 : Nat) : Int) = (an : Int) + 1 := by omega
          rw [hcast] at hset hms
          have HSET := Lib.hid hset
          have HMS := Lib.hid hms
          clear hY0 cY hset hnx hms hcast HX2
          go_upto_region 14 with fail
          obtain ⟨w6, hw6⟩ : ∃ w6, w6 = wr.setCell ⟨Y, n, none⟩ (.int .i64 ((an : Int) + 1)) := ⟨_, rfl⟩
          rw [← hw6] at HSET HMS ⊢
          have hb6 : Below w.heap.size w w6 := ((Mod.of_below HB2.out).then HMS.out (fun q _ h => by rw [h]; exact HYB.out.1)).below _ (Nat.le_refl _) (fun q hq h => by omega)
          have hr6 := HR2.out.mod HMS.out (fun a ha => HYB.out.2 a ha)
          have c0 : w6.cell? ⟨Y, 0, none⟩ = some (.int .i64 (Fo.clk S e 0 : Nat)) := by rw [cell_blk HSET.out]; rfl
          have c1 : w6.cell? ⟨Y, 1, none⟩ = some (.int .i64 (Fo.clk S e 1 : Nat)) := by rw [cell_blk HSET.out]; rfl
          have c2 : w6.cell? ⟨Y, 2, none⟩ = some (.int .i64 (Fo.clk S e 2 : Nat)) := by rw [cell_blk HSET.out]; rfl
          have c3 : w6.cell? ⟨Y, 3, none⟩ = some (.int .i64 (Fo.clk S e 3 : Nat)) := by rw [cell_blk HSET.out]; rfl
          have HB6 := Lib.hid hb6
          have HR6 := Lib.hid hr6
          clear hw6 hb6 hr6 cn fn ln x0 x1 x2 x3
          go_wp2_with (at_builtin; refine wpList_append_row (by rfl) _ _ _ (by rfl) 111 i1 _ 4 32 Try.underlying109 hi1 hy0 hy1 hy2 rfl (by omega) A' i cap' (S.flatMap encK) (by rfl) (HR6.out.alloc _) ⟨w6.heap.size, 0, none⟩ 1 1 [.int .i64 (Fo.clk S e 0 : Nat), .int .i64 (Fo.clk S e 1 : Nat), .int .i64 (Fo.clk S e 2 : Nat), .int .i64 (Fo.clk S e 3 : Nat)] (by rfl) (by rfl) (World.news_of_block (cs := #[.int .i64 (Fo.clk S e 0 : Nat), .int .i64 (Fo.clk S e 1 : Nat), .int .i64 (Fo.clk S e 2 : Nat), .int .i64 (Fo.clk S e 3 : Nat)]) (t := 111) (fr := (0, 0)) (heap_alloc_new w6 _)) (by simp [Value.oneCell']) (by omega) (by unfold maxLen; omega) (by omega) ?_; intro g7 o7 cap7 w7 hown hm hat; skip)
          obtain ⟨q1, q2⟩ := acc_more HAT.out HB6.out hm hat (of := o7)
          have hr7 : Row w7 111 4 (some ⟨g7, o7, none⟩) (i + 1) cap7 ((Fo.cl (l.take (i + 1))).flatMap encK) := by
            rw [HSN.out, List.flatMap_append]; simpa [encK, arr] using hown
          go_roundw
          case rel => exact ⟨i + 1, some ⟨g7, o7, none⟩, cap7, by omega, by go_num, rfl, Lib.hid hr7, Lib.hid q1, Lib.hid q2⟩
          case measure => simp [intOf]; omega
    · have hkl : k = l.length := by omega
      have HKL := Lib.hid hkl
      clear hkl
      go_wp2_with fail
      go_ret
      have h1 := HRW.out
      rw [HKL.out, List.take_length] at h1
      exact ⟨A', cap', by rw [HKL.out]; rfl, h1, HAT.out, HB.out⟩
end Go.Proofs.Ytgahjibjladafaa
