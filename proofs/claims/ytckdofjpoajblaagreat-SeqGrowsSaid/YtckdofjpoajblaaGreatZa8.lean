/- Part 8 of the proof of seqExact_holds: what it rests on. -/
import Derived.Test.YtckdofjpoajblaaGreatZa7
namespace Go.Proofs.YtckdofjpoajblaaGreat
open Go.RowKit
set_option linter.unusedVariables false
theorem indexFunc_rright1 (w : World) (A : Option Addr) (cap : Nat) (l : List Ev) (hr : Rd w 4 A l.length (l.flatMap encE)) (hl : l.length < 4611686018427387904) (p : Ev → Bool)
    (hf : ∀ u e, Below w.heap.size w u → Calls Tryz.prog 204 #[valE e] u fun x w' => x = .returned (.bool (p e)) ∧ Below u.heap.size u w') :
    Calls Tryz.prog 185 #[.slice A l.length cap, .func (.func 204) #[] #[]] w fun x w' => ∃ n : Int, x = .returned (.int .i64 n) ∧ ((0 ≤ n) ↔ l.any p = true) ∧ Below w.heap.size w w' := by
  have HC := Lib.hid (evs_cell hr.toB)
  have HF := Lib.hid hf
  clear hr hf
  go_enter Tryz.func185, Tryz.ntmps185
  go_wp2_with fail
  go_loopw [8] (fun v wr => ∃ k : Nat, k ≤ l.length ∧ v = .int .i64 k ∧ Hid ((l.take k).any p = false) ∧ Below w.heap.size w wr) (fun v _ => l.length - (intOf v).toNat)
  case atStart => exact ⟨0, Nat.zero_le _, rfl, Lib.hid rfl, Below.refl _ _⟩
  case round =>
    obtain ⟨k, hk, rfl, HRT, hb⟩ := hrel
    by_cases hlt : k < l.length
    · obtain ⟨g, o, rfl, hg, hcl⟩ := HC.out k hlt
      obtain ⟨v0, v1, v2, v3⟩ := hcl wr hb
      have k1 : (0 : Int) ≤ (k : Int) := Int.natCast_nonneg _
      have k2 : (k : Int) < (l.length : Int) := by omega
      have hcall := HF.out wr l[k] hb
      have htk := any_take (p := p) hlt
      obtain ⟨b, hbb⟩ : ∃ b, b = p l[k] := ⟨_, rfl⟩
      have hin : b = true → l.any p = true := fun h => List.any_eq_true.2 ⟨l[k], List.getElem_mem hlt, by rw [← hbb, h]⟩
      rw [← hbb] at hcall htk
      unfold valE at hcall
      have HCALL := Lib.hid hcall
      have HTK := Lib.hid htk
      have HIN := Lib.hid hin
      have HB := Lib.hid hb
      clear hcall htk hin hcl hbb hb
      go_wp2_with fail
      refine HCALL.out.mono ?_
      rintro x w1 ⟨rfl, b1⟩
      have hb2 : Below w.heap.size w w1 := HB.out.trans ⟨b1.os, b1.tape, b1.output, b1.size, fun i hi => b1.block i (by have := HB.out.size; omega)⟩
      have HB2 := Lib.hid hb2
      clear b1 hb2
      cases b with
      | true =>
        go_wp2_with fail
        go_ret
        exact ⟨k, rfl, ⟨fun _ => HIN.out (by trivial), fun _ => k1⟩, HB2.out⟩
      | false =>
        go_wp2_with fail
        go_roundw
        case rel => exact ⟨k + 1, by omega, by go_num, Lib.hid (by rw [HTK.out, HRT.out]; rfl), HB2.out⟩
        case measure => simp [intOf]; omega
    · have hkn : k = l.length := by omega
      have HK := Lib.hid hkn
      have HB := Lib.hid hb
      clear hkn hb
      go_wp2_with fail
      go_ret
      have := HRT.out
      rw [HK.out, List.take_length] at this
      exact ⟨-1, rfl, ⟨fun h => by omega, fun h => by rw [this] at h; cases h⟩, HB.out⟩
theorem containsFunc_rright1 (w : World) (A : Option Addr) (cap : Nat) (l : List Ev) (hr : Rd w 4 A l.length (l.flatMap encE)) (hl : l.length < 4611686018427387904) (p : Ev → Bool)
    (hf : ∀ u e, Below w.heap.size w u → Calls Tryz.prog 204 #[valE e] u fun x w' => x = .returned (.bool (p e)) ∧ Below u.heap.size u w') :
    Calls Tryz.prog 137 #[.slice A l.length cap, .func (.func 204) #[] #[]] w fun x w' => x = .returned (.bool (l.any p)) ∧ Below w.heap.size w w' := by
  have H := Lib.hid (indexFunc_rright1 w A cap l hr hl p hf)
  clear hr hf
  go_enter Tryz.func137, Tryz.ntmps137
  go_wp2_with fail
  refine H.out.mono ?_
  rintro x w1 ⟨n, rfl, hn, b1⟩
  have HN := Lib.hid hn
  have HB := Lib.hid b1
  clear hn b1
  go_wp2_with fail
  go_ret
  refine ⟨?_, HB.out⟩
  have : decide (0 ≤ n) = l.any p := by
    rw [Bool.eq_iff_iff, decide_eq_true_iff]; exact HN.out
  rw [← this]
  rfl
theorem rright1_any (w : World) (e : Ev) : Calls Tryz.prog 204 #[valE e] w fun x w' => x = .returned (.bool (!Fo.right e)) ∧ Below w.heap.size w w' := by
  obtain ⟨W, X, hW, hX, hB, c0, c1, c2, c3⟩ := one_box w e
  have hcall : ∀ u, Calls Tryz.prog 139 #[valE e] u fun x w' => x = .returned (.bool (Fo.right e)) ∧ Below u.heap.size u w' := fun u => right_any u e
  obtain ⟨b, hb⟩ : ∃ b, b = Fo.right e := ⟨_, rfl⟩
  rw [← hb] at hcall ⊢
  unfold valE at hcall ⊢
  have HCALL := Lib.hid hcall
  have HB := Lib.hid hB
  have HX := Lib.hid hX
  clear hcall hB hb
  go_enter Tryz.func204, Tryz.ntmps204
  go_upto_region 1 with fail
  rw [← hW, ← hX]
  clear hW hX
  go_wp2_with fail
  refine (HCALL.out _).mono ?_
  rintro x w1 ⟨rfl, b1⟩
  have hb2 : Below w.heap.size w w1 := below2 HB.out b1
  go_wp2_with fail
  go_ret
  exact ⟨rfl, hb2⟩
theorem rright_any (w : World) (A : Option Addr) (cap : Nat) (l : List Ev) (hr : Rd w 4 A l.length (l.flatMap encE)) (hl : l.length < 4611686018427387904) :
    Calls Tryz.prog 163 #[.slice A l.length cap] w fun x w' => x = .returned (.bool (Fo.rights l)) ∧ Below w.heap.size w w' := by
  have h := containsFunc_rright1 w A cap l hr hl (fun e => !Fo.right e) (fun u e _ => rright1_any u e)
  rw [any_not] at h
  obtain ⟨b, hb⟩ : ∃ b, b = Fo.rights l := ⟨_, rfl⟩
  have hb' : l.all Fo.right = b := by rw [hb]; rfl
  rw [hb'] at h
  rw [← hb]
  have H := Lib.hid h
  clear h hb hb' hr
  go_enter Tryz.func163, Tryz.ntmps163
  go_wp2_with fail
  refine H.out.mono ?_
  rintro x w1 ⟨rfl, b1⟩
  have HB := Lib.hid b1
  clear b1
  go_wp2_with fail
  go_ret
  exact ⟨by simp, HB.out⟩
namespace Fo
def raceB (l : List Ev) (e : Ev) (i : Nat) : Bool := match l[i]? with
  | some x => decide (x.t ≠ e.t) && dep x e && decide (lastC l e.t.toNat x.t.toNat < cnt_ (l.take (i + 1)) x.t.toNat)
  | none => false
def withR (l : List Ev) (e : Ev) (k : Nat) : List (Nat × Int) := ((List.range k).filter (raceB l e)).map fun i => (i, e.t)
theorem withR_step (l : List Ev) (e : Ev) (k : Nat) : withR l e (k + 1) = if raceB l e k = true then withR l e k ++ [(k, e.t)] else withR l e k := by
  unfold withR
  rw [List.range_succ, List.filter_append]
  by_cases h : raceB l e k = true <;> simp [h]
theorem withR_len (l : List Ev) (e : Ev) (k : Nat) : (withR l e k).length ≤ k := by
  unfold withR
  rw [List.length_map]
  exact Nat.le_trans (List.length_filter_le _ _) (by simp)
theorem raceB_at {l : List Ev} {i : Nat} {e : Ev} : raceB l e i = true ↔ RaceAt l i e := by
  unfold raceB RaceAt
  cases h : l[i]? with
  | none => simp
  | some x => simp [and_assoc]
end Fo
def encR (r : Nat × Int) : List Value := [.int .i64 (r.1 : Int), .int .i64 r.2]
theorem Tryz.infoRace : (Tryz.prog.info? 198).map (fun i => (i.zero, i.size, i.bytes)) = some (some (.agg #[.int .i64 0, .int .i64 0]), 2, 16) := by kernel_rfl
set_option maxRecDepth 100000 in
set_option maxHeartbeats 8000000 in
theorem with_race (w : World) (A : Option Addr) (cap : Nat) (l : List Ev) (e : Ev) (t : Nat) (hr : Rd w 4 A l.length (l.flatMap encE)) (hcap : l.length ≤ cap) (hcm : cap ≤ maxLen) (hl : l.length ≤ 1000) (hR : Fo.rights l = true) (het : e.t = (t : Int)) (ht : t < 4) :
    Calls Tryz.prog 164 #[.slice A l.length cap, valE e] w fun x w' => ∃ B c, x = .returned (.slice B (Fo.withR l e l.length).length c) ∧ Row w' 198 2 B (Fo.withR l e l.length).length c ((Fo.withR l e l.length).flatMap encR) ∧ (∀ a, B = some a → w.heap.size ≤ a.block) ∧ Below w.heap.size w w' := by
  obtain ⟨i0, hi0, hz0, hz1, hz2⟩ := info_parts Tryz.infoRace
  obtain ⟨Wa, X, hWa, hX, hBa, hXl, hXe⟩ := ev_box w e
  have hlast := last_any Wa A cap l t (hr.below hBa (Nat.le_refl _)) hcap hcm hl hR ht
  have hev : ∀ (k : Nat) (e : Ev), l[k]? = some e → ∃ g o, A = some ⟨g, o, none⟩ ∧ g < w.heap.size ∧ ∀ u, Below w.heap.size w u → EvAt u g (o + k * 4) e := fun k e hk => by
    obtain ⟨h1, rfl⟩ := List.getElem?_eq_some_iff.1 hk
    exact evs_cell hr.toB k h1
  have hth : ∀ (k : Nat) (e : Ev), l[k]? = some e → ∃ n : Nat, e.t = (n : Int) ∧ n < 4 := fun k e hk => by
    obtain ⟨h1, h2⟩ := Fo.right_thr (List.all_eq_true.1 hR e (List.mem_of_getElem? hk))
    exact ⟨e.t.toNat, by omega, by omega⟩
  obtain ⟨n, hn⟩ : ∃ n, n = l.length := ⟨_, rfl⟩
  rw [← hn] at hlast hcap hl ⊢
  have hknl : ∀ j, Fo.lastC l t j ≤ 1000 := fun j => by
    have hpos : ∀ x ∈ l, 0 ≤ x.t := fun x hx => (Fo.right_thr (List.all_eq_true.1 hR x hx)).1
    obtain ⟨h1, h2⟩ := Fo.lastC_spec l hpos t
    rcases Nat.eq_zero_or_pos (Fo.cnt_ l t) with h0 | h0
    · rw [h1 h0]; exact Nat.zero_le _
    · obtain ⟨p, hp, _, _, h3⟩ := h2 h0
      rw [h3]
      have := Fo.cl_le hR p hp j
      omega
  have hcn : ∀ i j, Fo.cnt_ (l.take i) j ≤ 1000 := fun i j => by
    have h1 : Fo.cnt_ (l.take i) j ≤ (l.take i).length := List.length_filter_le _ _
    rw [List.length_take] at h1
    omega
  obtain ⟨kn, hkn⟩ : ∃ k, k = Fo.lastC l t := ⟨_, rfl⟩
  rw [← hkn] at hlast hknl
  unfold agK at hlast
  have HLAST := Lib.hid hlast
  have HEV := Lib.hid hev
  have HTH := Lib.hid hth
  have HN := Lib.hid hn
  have HKN := Lib.hid (And.intro hkn hknl)
  have HCN := Lib.hid hcn
  have HBA := Lib.hid hBa
  have HXE := Lib.hid hXe
  have HET := Lib.hid het
  obtain ⟨⟨x0, x1, x2, x3⟩, xl⟩ := hXe Wa (Below.refl _ _)
  simp only [Nat.zero_add] at x1 x2 x3
  rw [het] at x0
  obtain ⟨et, ek, eo, ef⟩ := e
  simp only at het
  subst het
  unfold valE
  clear hlast hev hth hn hkn hknl hcn hBa hXe hXl hr hR hcm
  go_enter Tryz.func164, Tryz.ntmps164
  go_upto_region 1 with fail
  rw [← hWa, ← hX]
  clear hWa hX
  go_wp2_with fail
  refine HLAST.out.mono ?_
  rintro y w1 ⟨rfl, b1⟩
  obtain ⟨W2, hW2⟩ : ∃ z, z = w1.alloc (Obj.cells #[.int .i64 (kn 0 : Nat), .int .i64 (kn 1 : Nat), .int .i64 (kn 2 : Nat), .int .i64 (kn 3 : Nat)] 271) := ⟨_, rfl⟩
  obtain ⟨K, hK⟩ : ∃ z, z = w1.heap.size := ⟨_, rfl⟩
  obtain ⟨W3, hW3⟩ : ∃ z, z = W2.alloc (Obj.cells #[.int .i64 0, .int .i64 0, .int .i64 0, .int .i64 0] 271) := ⟨_, rfl⟩
  obtain ⟨Y, hY⟩ : ∃ z, z = W2.heap.size := ⟨_, rfl⟩
  have hYK : Y = K + 1 := by rw [hY, hK, hW2]; simp
  have hb2 : Below w1.heap.size w1 W2 := by rw [hW2]; exact (Below.refl _ _).alloc (Nat.le_refl _) _
  have hb3 : Below W2.heap.size W2 W3 := by rw [hW3]; exact (Below.refl _ _).alloc (Nat.le_refl _) _
  have hKk : W3.heap[K]? = some (.cells (arr kn).toArray 271 (0, 0)) := blk_step (by rw [hW2, hK]; exact heap_alloc_new w1 _) hb3
  have hYk : W3.heap[Y]? = some (.cells (arr (Fo.cnt_ (l.take 0))).toArray 271 (0, 0)) := by rw [hW3, hY]; exact heap_alloc_new W2 _
  have hbx : Below Wa.heap.size Wa W3 := below_at (below_at b1 hb2) hb3
  have HBX := Lib.hid hbx
  have HKK := Lib.hid hKk
  have HYY := Lib.hid hYk
  have HYA : Hid (Wa.heap.size ≤ Y ∧ w.heap.size ≤ Y ∧ K ≠ Y ∧ X ≠ Y ∧ Y < W3.heap.size ∧ K < W3.heap.size ∧ X < Wa.heap.size) := Lib.hid (by
    have h1 := (below_at b1 hb2).size
    have h2 := HBA.out.size
    have h3 := blk_lt hYk
    have h4 := blk_lt hKk
    exact ⟨by omega, by omega, by omega, by omega, h3, h4, xl⟩)
  clear b1 hb2 hb3 hKk hYk hbx HLAST x0 x1 x2 x3 xl
  go_upto_region 3 with fail
  simp only [← hW2, ← hK, ← hW3, ← hY, ← hYK]
  clear hW2 hK hW3 hY hYK
  go_wp2_with fail
  go_loopw [4, 15] (fun r v wr => ∃ (i m : Nat) (B : Option Addr) (c : Nat), i ≤ n ∧ m ≤ i ∧ v = .int .i64 i ∧ r = .slice B m c ∧ Hid (m = (Fo.withR l ⟨(t : Int), ek, eo, ef⟩ i).length) ∧ Hid (wr.heap[Y]? = some (.cells (arr (Fo.cnt_ (l.take i))).toArray 271 (0, 0))) ∧ Hid (Row wr 198 2 B m c ((Fo.withR l ⟨(t : Int), ek, eo, ef⟩ i).flatMap encR)) ∧ Hid (∀ a, B = some a → W3.heap.size ≤ a.block) ∧ Hid (Mod (fun q => q = Y) W3 wr)) (fun _ v _ => n - (intOf v).toNat)
  case atStart => exact ⟨0, 0, none, 0, Nat.zero_le _, Nat.le_refl _, rfl, rfl, Lib.hid rfl, HYY, Lib.hid (Row.nil _ _ _), Lib.hid (fun a h => by cases h), Lib.hid (Mod.refl _ _)⟩
  case round =>
    clear HYY
    obtain ⟨i, m, B, c, hi, hmi, rfl, rfl, HMN, HYI, HRW, HFR, HM⟩ := hrel
    rename World => V
    have hbv : Below Wa.heap.size Wa V := HBX.out.trans (HM.out.below _ HBX.out.size (fun q hq e => by have := HYA.out.1; omega))
    have HBV := Lib.hid hbv
    by_cases hlt : i < n
    · obtain ⟨x, hx⟩ := get_some (show i < l.length by rw [← HN.out]; exact hlt)
      obtain ⟨g, o, rfl, hg, hcl⟩ := HEV.out i x hx
      obtain ⟨j, hj, hj4⟩ := HTH.out i x hx
      obtain ⟨v0, v1, v2, v3⟩ := hcl V (below_at HBA.out hbv)
      have lg := Nat.lt_of_lt_of_le hg (below_at HBA.out hbv).size
      obtain ⟨W4, Z, hW4, hZ, hB4, hZl, hZe⟩ := ev_box V x
      have hY4 := blk_step HYI.out hB4
      have hZY : Z ≠ Y := by have := blk_lt HYI.out; omega
      have hcnt : ∀ q, Fo.cnt_ (l.take (i + 1)) q = Fo.cnt_ (l.take i) q + if x.t.toNat = q then 1 else 0 := fun q => by
        rw [List.take_add_one, hx]; exact Fo.cnt_snoc _ _ _
      have hxt : x.t.toNat = j := by rw [hj]; rfl
      rw [hxt] at hcnt
      have hrb : Fo.raceB l ⟨(t : Int), ek, eo, ef⟩ i = (decide (j ≠ t) && Fo.dep x ⟨(t : Int), ek, eo, ef⟩ && decide (kn j < Fo.cnt_ (l.take (i + 1)) j)) := by
        unfold Fo.raceB
        rw [hx]
        simp only
        rw [hxt, HKN.out.1, hj]
        congr 2
        by_cases h : j = t
        · subst h; simp
        · have : ¬ (j : Int) = (t : Int) := by omega
          simp [h, this]
      have hstep := Fo.withR_step l ⟨(t : Int), ek, eo, ef⟩ i
      obtain ⟨rb, hrbe⟩ : ∃ r, r = Fo.raceB l ⟨(t : Int), ek, eo, ef⟩ i := ⟨_, rfl⟩
      rw [← hrbe] at hrb hstep
      have hdep := fun u => depends_any u x ⟨(t : Int), ek, eo, ef⟩
      obtain ⟨dp, hdpe⟩ : ∃ d, d = Fo.dep x ⟨(t : Int), ek, eo, ef⟩ := ⟨_, rfl⟩
      rw [← hdpe] at hrb hdep
      obtain ⟨cn, hcn2⟩ : ∃ c, c = Fo.cnt_ (l.take i) j := ⟨_, rfl⟩
      have hcn3 : Fo.cnt_ (l.take (i + 1)) j = cn + 1 := by rw [hcnt, if_pos rfl, hcn2]
      have HC3 := Lib.hid hcn3
      rw [hcn3] at hrb
      have hcb : cn ≤ 1000 := by rw [hcn2]; exact HCN.out i j
      have harr : (arr fun q => if q = j then cn + 1 else Fo.cnt_ (l.take i) q) = arr (Fo.cnt_ (l.take (i + 1))) := arr_ext fun q hq => by
        rw [hcnt q]
        by_cases h : q = j
        · subst h; rw [if_pos rfl, if_pos rfl, hcn2]
        · rw [if_neg h, if_neg (fun e => h e.symm)]; rfl
      have cy : W4.cell? ⟨Y, j, none⟩ = some (.int .i64 (cn : Nat)) := by rw [cell_blk hY4, List.getElem?_toArray, arr_get _ hj4, hcn2]
      have fy : W4.frozen? ⟨Y, j, none⟩ = false := free_blk hY4 _
      have ly : Y < W4.heap.size := blk_lt hY4
      have hset := set_blk hY4 j (.int .i64 ((cn + 1 : Nat) : Int))
      rw [arr_set _ hj4, harr] at hset
      have hms : Mod (fun q => q = Y) V (W4.setCell ⟨Y, j, none⟩ (.int .i64 ((cn + 1 : Nat) : Int))) := Mod.setCell (F := fun q => q = Y) (Mod.of_below_size hB4 _) (p := ⟨Y, j, none⟩) (fun _ => rfl) _
      have hcast : ((cn + 1 : Nat) : Int) = (cn : Int) + 1 := by omega
      rw [hcast] at hset hms
      obtain ⟨xt, xk, xo, xf⟩ := x
      simp only at hj
      subst hj
      obtain ⟨⟨z0, z1, z2, z3⟩, zl⟩ := hZe W4 (Below.refl _ _)
      simp only [Nat.zero_add] at z1 z2 z3
      have k1 : (0 : Int) ≤ (i : Int) := Int.natCast_nonneg _
      have k2 : (i : Int) < (n : Int) := by omega
      have j0 : (0 : Int) ≤ (j : Int) := Int.natCast_nonneg _
      have j1 : (j : Int) < 4 := by omega
      have HSET := Lib.hid hset
      have HMS := Lib.hid hms
      have HRB := Lib.hid hrb
      have HST := Lib.hid hstep
      have HDEP := Lib.hid hdep
      have HZE := Lib.hid hZe
      have HZY := Lib.hid (And.intro hZY (And.intro hZl ly))
      have HKJ := Lib.hid (HKN.out.2 j)
      clear hcl hx hB4 hY4 hcnt hrb hstep hdep hrbe hdpe hcn2 hcn3 harr hset hms hcast hZe hZY hZl hbv hg hxt
      go_upto_region 6 with fail
      rw [← hW4, ← hZ]
      clear hW4 hZ
      go_upto_region 7 with fail
      obtain ⟨W5, hW5⟩ : ∃ z, z = W4.setCell ⟨Y, j, none⟩ (.int .i64 ((cn : Int) + 1)) := ⟨_, rfl⟩
      rw [← hW5] at HSET HMS ⊢
      have hmz : Mod (fun q => q = Y) W4 W5 := by rw [hW5]; exact (Mod.refl (fun q => q = Y) W4).setCell (p := ⟨Y, j, none⟩) (fun _ => rfl) _
      have hev5 : ∀ u, Below W5.heap.size W5 u → (EvAt u Z 0 ⟨(j : Int), xk, xo, xf⟩ ∧ Z < u.heap.size) ∧ (EvAt u X 0 ⟨(t : Int), ek, eo, ef⟩ ∧ X < u.heap.size) ∧ (u.cell? ⟨Y, j, none⟩ = some (.int .i64 ((cn : Int) + 1)) ∧ Y < u.heap.size) ∧ (u.cell? ⟨K, j, none⟩ = some (.int .i64 (kn j : Nat)) ∧ K < u.heap.size) := fun u hu => by
        have e4 := HZE.out W4 (Below.refl _ _)
        have hz := fun q => (World.cell?_of_block (hu.block Z (Nat.lt_of_lt_of_le e4.2 hmz.size)) : u.cell? ⟨Z, q, none⟩ = _).trans (hmz.cell Z q e4.2 HZY.out.1)
        have hmv : Mod (fun q => q = Y) W3 W5 := HM.out.trans HMS.out
        have hxb : Below Wa.heap.size Wa W5 := HBX.out.trans (hmv.below _ HBX.out.size (fun q hq e => by have := HYA.out.1; omega))
        have ex := HXE.out u (below_at hxb hu)
        have hyk := (hu.block Y (blk_lt HSET.out)).trans HSET.out
        have hK3 := HKK.out
        have hKl := HYA.out.2.2.2.2.2.1
        have hk5 := (hu.block K (Nat.lt_of_lt_of_le hKl hmv.size)).trans ((hmv.block K hKl HYA.out.2.2.1).trans hK3)
        refine ⟨⟨⟨(hz 0).trans e4.1.1, (hz _).trans e4.1.2.1, (hz _).trans e4.1.2.2.1, (hz _).trans e4.1.2.2.2⟩, Nat.lt_of_lt_of_le e4.2 (Nat.le_trans hmz.size hu.size)⟩, ex, ⟨?_, blk_lt hyk⟩, ?_, blk_lt hk5⟩
        · have := cell_blk hyk j
          rw [List.getElem?_toArray, arr_get _ hj4] at this
          rw [HC3.out] at this
          rw [this]
          congr 2
        · rw [cell_blk hk5, List.getElem?_toArray, arr_get _ hj4]
      have HEV5 := Lib.hid hev5
      clear hev5 hmz z0 z1 z2 z3 zl cy fy ly v0 v1 v2 v3 lg
      go_cut [46] (fun v wz => v = .bool rb ∧ Below W5.heap.size W5 wz)
      case first =>
        have hdep2 := HDEP.out
        simp only [valE] at hdep2
        have HDEP := Lib.hid hdep2
        clear hdep2
        refine wp_region_planF (by kernel_rfl) (fun u => Below W5.heap.size W5 u) [] [(0, .pure), (1, .load), (2, .pure), (3, .load), (4, .pure), (5, .pure), (6, .load), (7, .load), (8, .eff), (9, .pure), (10, .pure), (11, .pure), (12, .load), (13, .pure), (14, .load), (15, .pure), (16, .load), (17, .pure), (18, .load), (19, .pure), (20, .pure)] (by simp only [List.map_cons, List.map_nil, List.getElem?_toArray, List.getElem?_cons_succ, List.getElem?_cons_zero]; rfl) (by kernel_rfl) (fun _ _ d _ _ h => by cases d <;> exact h) ((Below.refl _ _).drew) ?_
        obtain ⟨D, hD⟩ : ∃ z, z = W5.drew := ⟨_, rfl⟩
        have HD : Hid (Below W5.heap.size W5 D) := Lib.hid (by rw [hD]; exact (Below.refl _ _).drew)
        rw [← hD]
        clear hD hW5
        by_cases hjt : j = t
        · have hr : rb = false := by rw [HRB.out]; simp [hjt]
          subst hr
          have hji : (j : Int) = (t : Int) := by omega
          have hjb : ((j : Int) != (t : Int)) = false := by simp [hji]
          repeat (first
            | (refine plan_pure (v := ?_) (by rfl) (fun w1 => ?_) ?_
               rotate_left
               · go_simp <;> with_reducible rfl
               simp only [Act.put, List.setIfInBounds_toArray, List.set_cons_zero, List.set_cons_succ])
            | (refine plan_off (by rfl) ?_
               simp only [Act.put, List.setIfInBounds_toArray, List.set_cons_zero, List.set_cons_succ])
            | (refine plan_load_off (by rfl) ?_
               simp only [Act.put, List.setIfInBounds_toArray, List.set_cons_zero, List.set_cons_succ])
            | (refine plan_load (v := ?_) (by rfl) (fun w1 hw1 => ?_) ?_
               rotate_left
               · (have qq := HEV5.out w1 hw1
                  obtain ⟨⟨⟨y0, y1, y2, y3⟩, yl⟩, ⟨⟨e0, e1, e2, e3⟩, el⟩, ⟨q0, ql⟩, ⟨r0, rl⟩⟩ := qq
                  simp only [Nat.zero_add] at y1 y2 y3 e1 e2 e3
                  clear hw1
                  go_simp <;> with_reducible rfl)
               simp only [Act.put, List.setIfInBounds_toArray, List.set_cons_zero, List.set_cons_succ]))
          refine plan_eff ?_
          go_wp2_with fail
          refine plan_on (fun _ h => h) HD.out ?_
          repeat (first
            | (refine plan_pure (v := ?_) (by rfl) (fun w1 => ?_) ?_
               rotate_left
               · go_simp <;> with_reducible rfl
               simp only [Act.put, List.setIfInBounds_toArray, List.set_cons_zero, List.set_cons_succ])
            | (refine plan_off (by rfl) ?_
               simp only [Act.put, List.setIfInBounds_toArray, List.set_cons_zero, List.set_cons_succ])
            | (refine plan_load_off (by rfl) ?_
               simp only [Act.put, List.setIfInBounds_toArray, List.set_cons_zero, List.set_cons_succ])
            | (refine plan_load (v := ?_) (by rfl) (fun w1 hw1 => ?_) ?_
               rotate_left
               · (have qq := HEV5.out w1 hw1
                  obtain ⟨⟨⟨y0, y1, y2, y3⟩, yl⟩, ⟨⟨e0, e1, e2, e3⟩, el⟩, ⟨q0, ql⟩, ⟨r0, rl⟩⟩ := qq
                  simp only [Nat.zero_add] at y1 y2 y3 e1 e2 e3
                  clear hw1
                  go_simp <;> with_reducible rfl)
               simp only [Act.put, List.setIfInBounds_toArray, List.set_cons_zero, List.set_cons_succ]))
          refine plan_end ?_
          go_wp2_with fail
          go_meet
          exact ⟨rfl, HD.out⟩
        · have hji : ¬ (j : Int) = (t : Int) := by omega
          have hjb : ((j : Int) != (t : Int)) = true := by simpa using hji
          repeat (first
            | (refine plan_pure (v := ?_) (by rfl) (fun w1 => ?_) ?_
               rotate_left
               · go_simp <;> with_reducible rfl
               simp only [Act.put, List.setIfInBounds_toArray, List.set_cons_zero, List.set_cons_succ])
            | (refine plan_off (by rfl) ?_
               simp only [Act.put, List.setIfInBounds_toArray, List.set_cons_zero, List.set_cons_succ])
            | (refine plan_load_off (by rfl) ?_
               simp only [Act.put, List.setIfInBounds_toArray, List.set_cons_zero, List.set_cons_succ])
            | (refine plan_load (v := ?_) (by rfl) (fun w1 hw1 => ?_) ?_
               rotate_left
               · (have qq := HEV5.out w1 hw1
                  obtain ⟨⟨⟨y0, y1, y2, y3⟩, yl⟩, ⟨⟨e0, e1, e2, e3⟩, el⟩, ⟨q0, ql⟩, ⟨r0, rl⟩⟩ := qq
                  simp only [Nat.zero_add] at y1 y2 y3 e1 e2 e3
                  clear hw1
                  go_simp <;> with_reducible rfl)
               simp only [Act.put, List.setIfInBounds_toArray, List.set_cons_zero, List.set_cons_succ]))
          refine plan_eff ?_
          go_wp2_with fail
          refine (HDEP.out D).mono ?_
          rintro y u ⟨rfl, b6⟩
          have HD2 := Lib.hid (below_at HD.out b6)
          clear b6
          go_wp2_with fail
          refine plan_on (fun _ h => h) HD2.out ?_
          cases dp with
          | false =>
            have hr : rb = false := by rw [HRB.out]; simp
            subst hr
            repeat (first
              | (refine plan_pure (v := ?_) (by rfl) (fun w1 => ?_) ?_
                 rotate_left
                 · go_simp <;> with_reducible rfl
                 simp only [Act.put, List.setIfInBounds_toArray, List.set_cons_zero, List.set_cons_succ])
              | (refine plan_off (by rfl) ?_
                 simp only [Act.put, List.setIfInBounds_toArray, List.set_cons_zero, List.set_cons_succ])
              | (refine plan_load_off (by rfl) ?_
                 simp only [Act.put, List.setIfInBounds_toArray, List.set_cons_zero, List.set_cons_succ])
              | (refine plan_load (v := ?_) (by rfl) (fun w1 hw1 => ?_) ?_
                 rotate_left
                 · (have qq := HEV5.out w1 hw1
                    obtain ⟨⟨⟨y0, y1, y2, y3⟩, yl⟩, ⟨⟨e0, e1, e2, e3⟩, el⟩, ⟨q0, ql⟩, ⟨r0, rl⟩⟩ := qq
                    simp only [Nat.zero_add] at y1 y2 y3 e1 e2 e3
                    clear hw1
                    go_simp <;> with_reducible rfl)
                 simp only [Act.put, List.setIfInBounds_toArray, List.set_cons_zero, List.set_cons_succ]))
            refine plan_end ?_
            go_wp2_with fail
            go_meet
            exact ⟨rfl, HD2.out⟩
          | true =>
            by_cases hkc : kn j < cn + 1
            · have hr : rb = true := by rw [HRB.out]; simp [hjt, hkc]
              subst hr
              have hki : (kn j : Int) < (cn : Int) + 1 := by omega
              repeat (first
                | (refine plan_pure (v := ?_) (by rfl) (fun w1 => ?_) ?_
                   rotate_left
                   · go_simp <;> with_reducible rfl
                   simp only [Act.put, List.setIfInBounds_toArray, List.set_cons_zero, List.set_cons_succ])
                | (refine plan_off (by rfl) ?_
                   simp only [Act.put, List.setIfInBounds_toArray, List.set_cons_zero, List.set_cons_succ])
                | (refine plan_load_off (by rfl) ?_
                   simp only [Act.put, List.setIfInBounds_toArray, List.set_cons_zero, List.set_cons_succ])
                | (refine plan_load (v := ?_) (by rfl) (fun w1 hw1 => ?_) ?_
                   rotate_left
                   · (have qq := HEV5.out w1 hw1
                      obtain ⟨⟨⟨y0, y1, y2, y3⟩, yl⟩, ⟨⟨e0, e1, e2, e3⟩, el⟩, ⟨q0, ql⟩, ⟨r0, rl⟩⟩ := qq
                      simp only [Nat.zero_add] at y1 y2 y3 e1 e2 e3
                      clear hw1
                      go_simp <;> with_reducible rfl)
                   simp only [Act.put, List.setIfInBounds_toArray, List.set_cons_zero, List.set_cons_succ]))
              refine plan_end ?_
              go_wp2_with fail
              go_meet
              exact ⟨by first | rfl | (simp [hki]; done), HD2.out⟩
            · have hr : rb = false := by rw [HRB.out]; simp [hkc]
              subst hr
              have hki : ¬ (kn j : Int) < (cn : Int) + 1 := by omega
              repeat (first
                | (refine plan_pure (v := ?_) (by rfl) (fun w1 => ?_) ?_
                   rotate_left
                   · go_simp <;> with_reducible rfl
                   simp only [Act.put, List.setIfInBounds_toArray, List.set_cons_zero, List.set_cons_succ])
                | (refine plan_off (by rfl) ?_
                   simp only [Act.put, List.setIfInBounds_toArray, List.set_cons_zero, List.set_cons_succ])
                | (refine plan_load_off (by rfl) ?_
                   simp only [Act.put, List.setIfInBounds_toArray, List.set_cons_zero, List.set_cons_succ])
                | (refine plan_load (v := ?_) (by rfl) (fun w1 hw1 => ?_) ?_
                   rotate_left
                   · (have qq := HEV5.out w1 hw1
                      obtain ⟨⟨⟨y0, y1, y2, y3⟩, yl⟩, ⟨⟨e0, e1, e2, e3⟩, el⟩, ⟨q0, ql⟩, ⟨r0, rl⟩⟩ := qq
                      simp only [Nat.zero_add] at y1 y2 y3 e1 e2 e3
                      clear hw1
                      go_simp <;> with_reducible rfl)
                   simp only [Act.put, List.setIfInBounds_toArray, List.set_cons_zero, List.set_cons_succ]))
              refine plan_end ?_
              go_wp2_with fail
              go_meet
              exact ⟨by first | rfl | (simp [hki]; done), HD2.out⟩
      case rest =>
        obtain ⟨hv46, hb46⟩ := hcut
        rename World => U
        subst hv46
        have hmv : Mod (fun q => q = Y) W3 U := (HM.out.trans HMS.out).trans (Mod.of_below_size hb46 _)
        have hyu : U.heap[Y]? = some (.cells (arr (Fo.cnt_ (l.take (i + 1)))).toArray 271 (0, 0)) := blk_step HSET.out hb46
        have hru : Row U 198 2 B m c ((Fo.withR l ⟨(t : Int), ek, eo, ef⟩ i).flatMap encR) := (HRW.out.mod HMS.out (fun a ha e => by have := HFR.out a ha; have := HYA.out.2.2.2.2.1; omega)).mod (Mod.of_below_size hb46 (fun _ => False)) (fun _ _ h => h)
        obtain ⟨⟨x0, x1, x2, x3⟩, xl⟩ := (HEV5.out U hb46).2.1
        have HMU := Lib.hid hmv
        have HYU := Lib.hid hyu
        have HRU := Lib.hid hru
        clear hb46 hmv hyu hru hW5
        cases rb with
        | false =>
          have hst := HST.out
          rw [if_neg (by simp)] at hst
          have HST2 := Lib.hid hst
          clear hst
          go_wp2_with fail
          go_roundw
          case rel => exact ⟨i + 1, m, B, c, by omega, by omega, by go_num, rfl, Lib.hid (by rw [HST2.out]; exact HMN.out), HYU, Lib.hid (by rw [HST2.out]; exact HRU.out), HFR, HMU⟩
          case measure => simp [intOf]; omega
        | true =>
          have hst := HST.out
          rw [if_pos rfl] at hst
          have HST2 := Lib.hid hst
          clear hst
          go_upto_region 9 with (at_builtin; refine wpList_append_row (by rfl) _ _ _ (by rfl) 198 i0 _ 2 16 Tryz.underlying195 hi0 hz0 hz1 hz2 rfl (by omega) B m c ((Fo.withR l ⟨(t : Int), ek, eo, ef⟩ i).flatMap encR) (by rfl) (HRU.out.alloc _) ⟨U.heap.size, 0, none⟩ 1 1 [.int .i64 (i : Int), .int .i64 (t : Int)] (by rfl) (by rfl) (World.news_of_block (cs := #[.int .i64 (i : Int), .int .i64 (t : Int)]) (t := 198) (fr := (0, 0)) (heap_alloc_new U _)) (by simp [Value.oneCell']) (by omega) (by unfold maxLen; omega) (by omega) ?_; intro g1 of1 cap1 w9 hown hm hat)
          have hal : Below U.heap.size U (U.alloc (Obj.cells #[.int .i64 (i : Int), .int .i64 (t : Int)] 198)) := (Below.refl _ _).alloc (Nat.le_refl _) _
          have hfy : ∀ a, B = some a → a.block ≠ Y := fun a ha e => by have := HFR.out a ha; have := HYA.out.2.2.2.2.1; omega
          have hy9 : w9.heap[Y]? = some (.cells (arr (Fo.cnt_ (l.take (i + 1)))).toArray 271 (0, 0)) := (hm.block Y (Nat.lt_of_lt_of_le (blk_lt HYU.out) hal.size) (fun ⟨a, q1, q2⟩ => hfy a q1 q2.symm)).trans (blk_step HYU.out hal)
          have hm9 : Mod (fun q => q = Y) W3 w9 := (HMU.out.trans (Mod.of_below_size hal _)).then hm (fun q hq ⟨a, q1, q2⟩ => by have := HFR.out a q1; omega)
          have hf9 : ∀ a, (some ⟨g1, of1, none⟩ : Option Addr) = some a → W3.heap.size ≤ a.block := fun a ha => by
            injection ha with ha
            subst ha
            rcases hat with ⟨a, q1, q2⟩ | h
            · have := HFR.out a q1; simp only; omega
            · have h1 := hal.size; have h2 := HMU.out.size; simp only; omega
          have HY9 := Lib.hid hy9
          have HM9 := Lib.hid hm9
          have HF9 := Lib.hid hf9
          have HO9 := Lib.hid hown
          clear hal hfy hy9 hm9 hf9 hown hm hat x0 x1 x2 x3 xl
          go_wp2_with fail
          go_roundw
          case rel => exact ⟨i + 1, m + 1, some ⟨g1, of1, none⟩, cap1, by omega, by omega, by go_num, rfl, Lib.hid (by rw [HST2.out, List.length_append, ← HMN.out]; rfl), HY9, Lib.hid (by rw [HST2.out, List.flatMap_append]; simpa [encR] using HO9.out), HF9, HM9⟩
          case measure => simp [intOf]; omega
    · obtain rfl : i = n := by omega
      have hm := HMN.out
      have k4 : ¬ (i : Int) < (i : Int) := by omega
      clear hbv
      go_wp2_with fail
      go_ret
      refine ⟨B, c, by rw [← hm]; rfl, by rw [← hm]; exact HRW.out, fun a ha => ?_, below_at HBA.out HBV.out⟩
      have h1 := HFR.out a ha
      have h2 := HBX.out.size
      have h3 := HBA.out.size
      omega
end Go.Proofs.YtckdofjpoajblaaGreat
namespace Go.Proofs.YtckdofjpoajblaaGreat
open Go.RowKit
set_option linter.unusedVariables false
namespace Pr
def regs (s : St) (t : Nat) (x : Th) (q : Nat) (v : Int) : St := { s with th := s.th.set t { x with r := updI x.r q v } }
end Pr
theorem SAt.set_r {w : World} {C : Nat → Prop} {S T : Nat} {s : St} (h : SAt w C S T s) {t : Nat} {x : Th} (hx : s.th[t]? = some x) {q : Nat} (hq : q < 2) (v : Int) :
    SAt (w.setCell ⟨T, t * 4 + 2 + q, none⟩ (.int .i64 v)) C S T (Pr.regs s t x q v) ∧ Mod (fun k => k = T) w (w.setCell ⟨T, t * 4 + 2 + q, none⟩ (.int .i64 v)) := by
  rw [Nat.add_assoc]
  exact h.set_th hx (2 + q) (by omega) _ (by rcases (show q = 0 ∨ q = 1 by omega) with rfl | rfl <;> simp [encT, updI])
theorem SAt.set_pc {w : World} {C : Nat → Prop} {S T : Nat} {s : St} (h : SAt w C S T s) {t : Nat} {x : Th} (hx : s.th[t]? = some x) (n : Nat) :
    SAt (w.setCell ⟨T, t * 4, none⟩ (.int .i64 (n : Int))) C S T { s with th := s.th.set t { x with pc := n } } ∧ Mod (fun k => k = T) w (w.setCell ⟨T, t * 4, none⟩ (.int .i64 (n : Int))) :=
  h.set_th hx 0 (by omega) _ rfl
theorem SAt.set_fuel {w : World} {C : Nat → Prop} {S T : Nat} {s : St} (h : SAt w C S T s) {t : Nat} {x : Th} (hx : s.th[t]? = some x) (n : Nat) :
    SAt (w.setCell ⟨T, t * 4 + 1, none⟩ (.int .i64 (n : Int))) C S T { s with th := s.th.set t { x with fuel := n } } ∧ Mod (fun k => k = T) w (w.setCell ⟨T, t * 4 + 1, none⟩ (.int .i64 (n : Int))) :=
  h.set_th hx 1 (by omega) _ rfl
set_option maxRecDepth 100000 in
set_option maxHeartbeats 2000000 in
theorem load_any (w : World) (C : Nat → Prop) (S T : Nat) (s : St) (t : Nat) (x : Th) (k n : Int) (q m : Nat) (h : SAt w C S T s) (hx : s.th[t]? = some x) (hn4 : s.th.length ≤ 4) (hq2 : q < 2) (hm4 : m < 4) :
    Calls Tryz.prog 112 #[.pointer (some ⟨S, 0, none⟩), .int .i64 (t : Int), valI ⟨k, (q : Int), (m : Int), n⟩] w fun y w' => y = .returned (.tuple #[]) ∧ SAt w' C S T (Pr.regs s t x q (s.v m)) ∧ Mod (fun k => k = S ∨ k = T) w w' := by
  obtain ⟨Wz, Z, hWz, hZ, hBz, hZl, hZe⟩ := ins_box w ⟨k, (q : Int), (m : Int), n⟩
  have hS := h.below hBz
  obtain ⟨nn, hnn⟩ : ∃ n, n = s.th.length := ⟨_, rfl⟩
  have htn : t < nn := by rw [hnn]; exact (List.getElem?_eq_some_iff.1 hx).1
  have hl4 : nn ≤ 4 := by rw [hnn]; exact hn4
  have HZE := Lib.hid hZe
  have HS := Lib.hid hS
  have HB := Lib.hid hBz
  have HX := Lib.hid hx
  have HTN := Lib.hid hnn.symm
  have k1 : (0 : Int) ≤ (q : Int) := Int.natCast_nonneg _
  have k2 : (q : Int) < 2 := by omega
  have k3 : (0 : Int) ≤ (t : Int) := Int.natCast_nonneg _
  have k4 : (t : Int) < (nn : Int) := by omega
  have k5 : (0 : Int) ≤ (m : Int) := Int.natCast_nonneg _
  have k6 : (m : Int) < 4 := by omega
  simp only at hWz
  unfold valI
  simp only
  clear hZe hS hBz h hx hnn hZl hn4
  go_enter Tryz.func112, Tryz.ntmps112
  go_upto_region 1 with fail
  rw [← hWz, ← hZ]
  clear hWz hZ
  refine wp_region_planF (by kernel_rfl) (fun u => Below Wz.heap.size Wz u) [17] [(0, .pure), (1, .pure), (2, .pure), (3, .load), (4, .pure), (5, .pure), (6, .load), (7, .pure), (8, .pure), (9, .load), (10, .pure), (11, .pure), (12, .pure), (13, .load), (14, .pure), (15, .pure), (16, .pure), (17, .last)] (by simp only [List.map_cons, List.map_nil, List.getElem?_toArray, List.getElem?_cons_succ, List.getElem?_cons_zero]; rfl) (by kernel_rfl) (fun _ _ d _ _ h => by cases d <;> exact h) ((Below.refl _ _).drew) ?_
  obtain ⟨Wd, hWd⟩ : ∃ z, z = Wz.drew := ⟨_, rfl⟩
  rw [← hWd]
  have hbd : Below Wz.heap.size Wz Wd := by rw [hWd]; exact (Below.refl _ _).drew
  have HBD := Lib.hid hbd
  clear hWd hbd
  repeat (first
    | (refine plan_pure (v := ?_) (by rfl) (fun w1 => ?_) ?_
       rotate_left
       · go_simp <;> with_reducible rfl
       simp only [Act.put, List.setIfInBounds_toArray, List.set_cons_zero, List.set_cons_succ])
    | (refine plan_off (by rfl) ?_
       simp only [Act.put, List.setIfInBounds_toArray, List.set_cons_zero, List.set_cons_succ])
    | (refine plan_load_off (by rfl) ?_
       simp only [Act.put, List.setIfInBounds_toArray, List.set_cons_zero, List.set_cons_succ])
    | (refine plan_load (v := ?_) (by rfl) (fun w1 hw1 => ?_) ?_
       rotate_left
       · (have q0 := (HZE.out w1 hw1).1
          have a1 := q0.2.1
          have a2 := q0.2.2.1
          have a3 := q0.2.2.2
          simp only [Nat.zero_add] at a1 a2 a3
          clear q0
          have hq := HS.out.below hw1
          have z3 := HS.out.z3 hw1
          obtain ⟨PA, pc, tc, _, _, _, _, zv, zh, _⟩ := hq.cells
          have b1 := (hq.thread t x HX.out).2.2 q hq2
          rw [HTN.out] at z3
          have ql := hq.lt.2
          have qs := hq.lt.1
          have c1 := zv m hm4
          clear hq zv zh
          clear hw1
          go_simp <;> with_reducible rfl)
       simp only [Act.put, List.setIfInBounds_toArray, List.set_cons_zero, List.set_cons_succ]))
  have hSd := HS.out.below HBD.out
  obtain ⟨hs, hm⟩ := hSd.set_r HX.out hq2 (s.v m)
  have HSS := Lib.hid hs
  have HMM := Lib.hid hm
  have t1 := (hSd.thread t x HX.out).2.2 q hq2
  have f1 := hSd.free.2 (t * 4 + 2 + q)
  have tl := hSd.lt.2
  have sl := hSd.lt.1
  clear hSd hs hm
  refine plan_last ?_
  go_wp2_with fail
  repeat (first
    | (refine plan_pure (v := ?_) (by rfl) (fun w1 => ?_) ?_
       rotate_left
       · go_simp <;> with_reducible rfl
       simp only [Act.put, List.setIfInBounds_toArray, List.set_cons_zero, List.set_cons_succ])
    | (refine plan_off (by rfl) ?_
       simp only [Act.put, List.setIfInBounds_toArray, List.set_cons_zero, List.set_cons_succ])
    | (refine plan_load_off (by rfl) ?_
       simp only [Act.put, List.setIfInBounds_toArray, List.set_cons_zero, List.set_cons_succ])
    | (refine plan_load (v := ?_) (by rfl) (fun w1 hw1 => ?_) ?_
       rotate_left
       · (skip
          clear hw1
          go_simp <;> with_reducible rfl)
       simp only [Act.put, List.setIfInBounds_toArray, List.set_cons_zero, List.set_cons_succ]))
  refine plan_end ?_
  go_wp2_with fail
  go_end0
  exact ⟨rfl, HSS.out, ((Mod.of_below_size HB.out _).trans ((Mod.of_below HBD.out).mono (fun k hk e => by omega))).trans (HMM.out.mono (fun k _ e => Or.inr e))⟩
set_option maxRecDepth 100000 in
set_option maxHeartbeats 2000000 in
theorem store_any (w : World) (C : Nat → Prop) (S T : Nat) (s : St) (t : Nat) (x : Th) (k n : Int) (q m : Nat) (h : SAt w C S T s) (hx : s.th[t]? = some x) (hn4 : s.th.length ≤ 4) (hq2 : q < 2) (hm4 : m < 4) :
    Calls Tryz.prog 113 #[.pointer (some ⟨S, 0, none⟩), .int .i64 (t : Int), valI ⟨k, (q : Int), (m : Int), n⟩] w fun y w' => y = .returned (.tuple #[]) ∧ SAt w' C S T { s with v := updI s.v m (x.r q) } ∧ Mod (fun k => k = S ∨ k = T) w w' := by
  obtain ⟨Wz, Z, hWz, hZ, hBz, hZl, hZe⟩ := ins_box w ⟨k, (q : Int), (m : Int), n⟩
  have hS := h.below hBz
  obtain ⟨nn, hnn⟩ : ∃ n, n = s.th.length := ⟨_, rfl⟩
  have htn : t < nn := by rw [hnn]; exact (List.getElem?_eq_some_iff.1 hx).1
  have hl4 : nn ≤ 4 := by rw [hnn]; exact hn4
  have HZE := Lib.hid hZe
  have HS := Lib.hid hS
  have HB := Lib.hid hBz
  have HX := Lib.hid hx
  have HTN := Lib.hid hnn.symm
  have k1 : (0 : Int) ≤ (q : Int) := Int.natCast_nonneg _
  have k2 : (q : Int) < 2 := by omega
  have k3 : (0 : Int) ≤ (t : Int) := Int.natCast_nonneg _
  have k4 : (t : Int) < (nn : Int) := by omega
  have k5 : (0 : Int) ≤ (m : Int) := Int.natCast_nonneg _
  have k6 : (m : Int) < 4 := by omega
  simp only at hWz
  unfold valI
  simp only
  clear hZe hS hBz h hx hnn hZl hn4
  go_enter Tryz.func113, Tryz.ntmps113
  go_upto_region 1 with fail
  rw [← hWz, ← hZ]
  clear hWz hZ
  refine wp_region_planF (by kernel_rfl) (fun u => Below Wz.heap.size Wz u) [17] [(0, .pure), (1, .pure), (2, .load), (3, .pure), (4, .pure), (5, .pure), (6, .load), (7, .pure), (8, .pure), (9, .load), (10, .pure), (11, .pure), (12, .pure), (13, .load), (14, .pure), (15, .pure), (16, .pure), (17, .last)] (by simp only [List.map_cons, List.map_nil, List.getElem?_toArray, List.getElem?_cons_succ, List.getElem?_cons_zero]; rfl) (by kernel_rfl) (fun _ _ d _ _ h => by cases d <;> exact h) ((Below.refl _ _).drew) ?_
  obtain ⟨Wd, hWd⟩ : ∃ z, z = Wz.drew := ⟨_, rfl⟩
  rw [← hWd]
  have hbd : Below Wz.heap.size Wz Wd := by rw [hWd]; exact (Below.refl _ _).drew
  have HBD := Lib.hid hbd
  clear hWd hbd
  repeat (first
    | (refine plan_pure (v := ?_) (by rfl) (fun w1 => ?_) ?_
       rotate_left
       · go_simp <;> with_reducible rfl
       simp only [Act.put, List.setIfInBounds_toArray, List.set_cons_zero, List.set_cons_succ])
    | (refine plan_off (by rfl) ?_
       simp only [Act.put, List.setIfInBounds_toArray, List.set_cons_zero, List.set_cons_succ])
    | (refine plan_load_off (by rfl) ?_
       simp only [Act.put, List.setIfInBounds_toArray, List.set_cons_zero, List.set_cons_succ])
    | (refine plan_load (v := ?_) (by rfl) (fun w1 hw1 => ?_) ?_
       rotate_left
       · (have q0 := (HZE.out w1 hw1).1
          have a1 := q0.2.1
          have a2 := q0.2.2.1
          have a3 := q0.2.2.2
          simp only [Nat.zero_add] at a1 a2 a3
          clear q0
          have hq := HS.out.below hw1
          have z3 := HS.out.z3 hw1
          obtain ⟨PA, pc, tc, _, _, _, _, zv, zh, _⟩ := hq.cells
          have b1 := (hq.thread t x HX.out).2.2 q hq2
          rw [HTN.out] at z3
          have ql := hq.lt.2
          have qs := hq.lt.1
          have c1 := zv m hm4
          clear hq zv zh
          clear hw1
          go_simp <;> with_reducible rfl)
       simp only [Act.put, List.setIfInBounds_toArray, List.set_cons_zero, List.set_cons_succ]))
  have hSd := HS.out.below HBD.out
  obtain ⟨hs, hm⟩ := hSd.set_v hm4 (x.r q)
  have HSS := Lib.hid hs
  have HMM := Lib.hid hm
  obtain ⟨PA, pc, tc, _, _, _, _, zv, _, _⟩ := hSd.cells
  have c1 := zv m hm4
  have f1 := hSd.free.1 (4 + m)
  clear zv
  have tl := hSd.lt.2
  have sl := hSd.lt.1
  clear hSd hs hm
  refine plan_last ?_
  go_wp2_with fail
  repeat (first
    | (refine plan_pure (v := ?_) (by rfl) (fun w1 => ?_) ?_
       rotate_left
       · go_simp <;> with_reducible rfl
       simp only [Act.put, List.setIfInBounds_toArray, List.set_cons_zero, List.set_cons_succ])
    | (refine plan_off (by rfl) ?_
       simp only [Act.put, List.setIfInBounds_toArray, List.set_cons_zero, List.set_cons_succ])
    | (refine plan_load_off (by rfl) ?_
       simp only [Act.put, List.setIfInBounds_toArray, List.set_cons_zero, List.set_cons_succ])
    | (refine plan_load (v := ?_) (by rfl) (fun w1 hw1 => ?_) ?_
       rotate_left
       · (skip
          clear hw1
          go_simp <;> with_reducible rfl)
       simp only [Act.put, List.setIfInBounds_toArray, List.set_cons_zero, List.set_cons_succ]))
  refine plan_end ?_
  go_wp2_with fail
  go_end0
  exact ⟨rfl, HSS.out, ((Mod.of_below_size HB.out _).trans ((Mod.of_below HBD.out).mono (fun k hk e => by omega))).trans (HMM.out.mono (fun k _ e => Or.inl e))⟩
set_option maxRecDepth 100000 in
set_option maxHeartbeats 2000000 in
theorem set_any (w : World) (C : Nat → Prop) (S T : Nat) (s : St) (t : Nat) (x : Th) (k n : Int) (q m : Nat) (h : SAt w C S T s) (hx : s.th[t]? = some x) (hn4 : s.th.length ≤ 4) (hq2 : q < 2) (hm4 : m < 4) :
    Calls Tryz.prog 114 #[.pointer (some ⟨S, 0, none⟩), .int .i64 (t : Int), valI ⟨k, (q : Int), (m : Int), n⟩] w fun y w' => y = .returned (.tuple #[]) ∧ SAt w' C S T (Pr.regs s t x q n) ∧ Mod (fun k => k = S ∨ k = T) w w' := by
  obtain ⟨Wz, Z, hWz, hZ, hBz, hZl, hZe⟩ := ins_box w ⟨k, (q : Int), (m : Int), n⟩
  have hS := h.below hBz
  obtain ⟨nn, hnn⟩ : ∃ n, n = s.th.length := ⟨_, rfl⟩
  have htn : t < nn := by rw [hnn]; exact (List.getElem?_eq_some_iff.1 hx).1
  have hl4 : nn ≤ 4 := by rw [hnn]; exact hn4
  have HZE := Lib.hid hZe
  have HS := Lib.hid hS
  have HB := Lib.hid hBz
  have HX := Lib.hid hx
  have HTN := Lib.hid hnn.symm
  have k1 : (0 : Int) ≤ (q : Int) := Int.natCast_nonneg _
  have k2 : (q : Int) < 2 := by omega
  have k3 : (0 : Int) ≤ (t : Int) := Int.natCast_nonneg _
  have k4 : (t : Int) < (nn : Int) := by omega
  have k5 : (0 : Int) ≤ (m : Int) := Int.natCast_nonneg _
  have k6 : (m : Int) < 4 := by omega
  simp only at hWz
  unfold valI
  simp only
  clear hZe hS hBz h hx hnn hZl hn4
  go_enter Tryz.func114, Tryz.ntmps114
  go_upto_region 1 with fail
  rw [← hWz, ← hZ]
  clear hWz hZ
  refine wp_region_planF (by kernel_rfl) (fun u => Below Wz.heap.size Wz u) [12] [(0, .pure), (1, .pure), (2, .pure), (3, .load), (4, .pure), (5, .pure), (6, .load), (7, .pure), (8, .load), (9, .pure), (10, .pure), (11, .pure), (12, .last)] (by simp only [List.map_cons, List.map_nil, List.getElem?_toArray, List.getElem?_cons_succ, List.getElem?_cons_zero]; rfl) (by kernel_rfl) (fun _ _ d _ _ h => by cases d <;> exact h) ((Below.refl _ _).drew) ?_
  obtain ⟨Wd, hWd⟩ : ∃ z, z = Wz.drew := ⟨_, rfl⟩
  rw [← hWd]
  have hbd : Below Wz.heap.size Wz Wd := by rw [hWd]; exact (Below.refl _ _).drew
  have HBD := Lib.hid hbd
  clear hWd hbd
  repeat (first
    | (refine plan_pure (v := ?_) (by rfl) (fun w1 => ?_) ?_
       rotate_left
       · go_simp <;> with_reducible rfl
       simp only [Act.put, List.setIfInBounds_toArray, List.set_cons_zero, List.set_cons_succ])
    | (refine plan_off (by rfl) ?_
       simp only [Act.put, List.setIfInBounds_toArray, List.set_cons_zero, List.set_cons_succ])
    | (refine plan_load_off (by rfl) ?_
       simp only [Act.put, List.setIfInBounds_toArray, List.set_cons_zero, List.set_cons_succ])
    | (refine plan_load (v := ?_) (by rfl) (fun w1 hw1 => ?_) ?_
       rotate_left
       · (have q0 := (HZE.out w1 hw1).1
          have a1 := q0.2.1
          have a2 := q0.2.2.1
          have a3 := q0.2.2.2
          simp only [Nat.zero_add] at a1 a2 a3
          clear q0
          have hq := HS.out.below hw1
          have z3 := HS.out.z3 hw1
          obtain ⟨PA, pc, tc, _, _, _, _, zv, zh, _⟩ := hq.cells
          have b1 := (hq.thread t x HX.out).2.2 q hq2
          rw [HTN.out] at z3
          have ql := hq.lt.2
          have qs := hq.lt.1
          have c1 := zv m hm4
          clear hq zv zh
          clear hw1
          go_simp <;> with_reducible rfl)
       simp only [Act.put, List.setIfInBounds_toArray, List.set_cons_zero, List.set_cons_succ]))
  have hSd := HS.out.below HBD.out
  obtain ⟨hs, hm⟩ := hSd.set_r HX.out hq2 n
  have HSS := Lib.hid hs
  have HMM := Lib.hid hm
  have t1 := (hSd.thread t x HX.out).2.2 q hq2
  have f1 := hSd.free.2 (t * 4 + 2 + q)
  have tl := hSd.lt.2
  have sl := hSd.lt.1
  clear hSd hs hm
  refine plan_last ?_
  go_wp2_with fail
  repeat (first
    | (refine plan_pure (v := ?_) (by rfl) (fun w1 => ?_) ?_
       rotate_left
       · go_simp <;> with_reducible rfl
       simp only [Act.put, List.setIfInBounds_toArray, List.set_cons_zero, List.set_cons_succ])
    | (refine plan_off (by rfl) ?_
       simp only [Act.put, List.setIfInBounds_toArray, List.set_cons_zero, List.set_cons_succ])
    | (refine plan_load_off (by rfl) ?_
       simp only [Act.put, List.setIfInBounds_toArray, List.set_cons_zero, List.set_cons_succ])
    | (refine plan_load (v := ?_) (by rfl) (fun w1 hw1 => ?_) ?_
       rotate_left
       · (skip
          clear hw1
          go_simp <;> with_reducible rfl)
       simp only [Act.put, List.setIfInBounds_toArray, List.set_cons_zero, List.set_cons_succ]))
  refine plan_end ?_
  go_wp2_with fail
  go_end0
  exact ⟨rfl, HSS.out, ((Mod.of_below_size HB.out _).trans ((Mod.of_below HBD.out).mono (fun k hk e => by omega))).trans (HMM.out.mono (fun k _ e => Or.inr e))⟩
set_option maxRecDepth 100000 in
set_option maxHeartbeats 2000000 in
theorem add_any (w : World) (C : Nat → Prop) (S T : Nat) (s : St) (t : Nat) (x : Th) (k n : Int) (q m : Nat) (h : SAt w C S T s) (hx : s.th[t]? = some x) (hn4 : s.th.length ≤ 4) (hq2 : q < 2) (hm4 : m < 4) :
    Calls Tryz.prog 115 #[.pointer (some ⟨S, 0, none⟩), .int .i64 (t : Int), valI ⟨k, (q : Int), (m : Int), n⟩] w fun y w' => y = .returned (.tuple #[]) ∧ SAt w' C S T (Pr.regs s t x q (wrap64 (x.r q + n))) ∧ Mod (fun k => k = S ∨ k = T) w w' := by
  obtain ⟨Wz, Z, hWz, hZ, hBz, hZl, hZe⟩ := ins_box w ⟨k, (q : Int), (m : Int), n⟩
  have hS := h.below hBz
  obtain ⟨nn, hnn⟩ : ∃ n, n = s.th.length := ⟨_, rfl⟩
  have htn : t < nn := by rw [hnn]; exact (List.getElem?_eq_some_iff.1 hx).1
  have hl4 : nn ≤ 4 := by rw [hnn]; exact hn4
  have HZE := Lib.hid hZe
  have HS := Lib.hid hS
  have HB := Lib.hid hBz
  have HX := Lib.hid hx
  have HTN := Lib.hid hnn.symm
  have k1 : (0 : Int) ≤ (q : Int) := Int.natCast_nonneg _
  have k2 : (q : Int) < 2 := by omega
  have k3 : (0 : Int) ≤ (t : Int) := Int.natCast_nonneg _
  have k4 : (t : Int) < (nn : Int) := by omega
  have k5 : (0 : Int) ≤ (m : Int) := Int.natCast_nonneg _
  have k6 : (m : Int) < 4 := by omega
  simp only at hWz
  unfold valI
  simp only
  clear hZe hS hBz h hx hnn hZl hn4
  go_enter Tryz.func115, Tryz.ntmps115
  go_upto_region 1 with fail
  rw [← hWz, ← hZ]
  clear hWz hZ
  refine wp_region_planF (by kernel_rfl) (fun u => Below Wz.heap.size Wz u) [17] [(0, .pure), (1, .pure), (2, .pure), (3, .load), (4, .pure), (5, .pure), (6, .load), (7, .pure), (8, .pure), (9, .pure), (10, .load), (11, .pure), (12, .load), (13, .pure), (14, .pure), (15, .pure), (16, .pure), (17, .last)] (by simp only [List.map_cons, List.map_nil, List.getElem?_toArray, List.getElem?_cons_succ, List.getElem?_cons_zero]; rfl) (by kernel_rfl) (fun _ _ d _ _ h => by cases d <;> exact h) ((Below.refl _ _).drew) ?_
  obtain ⟨Wd, hWd⟩ : ∃ z, z = Wz.drew := ⟨_, rfl⟩
  rw [← hWd]
  have hbd : Below Wz.heap.size Wz Wd := by rw [hWd]; exact (Below.refl _ _).drew
  have HBD := Lib.hid hbd
  clear hWd hbd
  repeat (first
    | (refine plan_pure (v := ?_) (by rfl) (fun w1 => ?_) ?_
       rotate_left
       · go_simp <;> with_reducible rfl
       simp only [Act.put, List.setIfInBounds_toArray, List.set_cons_zero, List.set_cons_succ])
    | (refine plan_off (by rfl) ?_
       simp only [Act.put, List.setIfInBounds_toArray, List.set_cons_zero, List.set_cons_succ])
    | (refine plan_load_off (by rfl) ?_
       simp only [Act.put, List.setIfInBounds_toArray, List.set_cons_zero, List.set_cons_succ])
    | (refine plan_load (v := ?_) (by rfl) (fun w1 hw1 => ?_) ?_
       rotate_left
       · (have q0 := (HZE.out w1 hw1).1
          have a1 := q0.2.1
          have a2 := q0.2.2.1
          have a3 := q0.2.2.2
          simp only [Nat.zero_add] at a1 a2 a3
          clear q0
          have hq := HS.out.below hw1
          have z3 := HS.out.z3 hw1
          obtain ⟨PA, pc, tc, _, _, _, _, zv, zh, _⟩ := hq.cells
          have b1 := (hq.thread t x HX.out).2.2 q hq2
          rw [HTN.out] at z3
          have ql := hq.lt.2
          have qs := hq.lt.1
          have c1 := zv m hm4
          clear hq zv zh
          clear hw1
          go_simp <;> with_reducible rfl)
       simp only [Act.put, List.setIfInBounds_toArray, List.set_cons_zero, List.set_cons_succ]))
  have hSd := HS.out.below HBD.out
  obtain ⟨hs, hm⟩ := hSd.set_r HX.out hq2 (wrap64 (x.r q + n))
  have HSS := Lib.hid hs
  have HMM := Lib.hid hm
  have t1 := (hSd.thread t x HX.out).2.2 q hq2
  have f1 := hSd.free.2 (t * 4 + 2 + q)
  have tl := hSd.lt.2
  have sl := hSd.lt.1
  clear hSd hs hm
  refine plan_last ?_
  go_wp2_with fail
  repeat (first
    | (refine plan_pure (v := ?_) (by rfl) (fun w1 => ?_) ?_
       rotate_left
       · go_simp <;> with_reducible rfl
       simp only [Act.put, List.setIfInBounds_toArray, List.set_cons_zero, List.set_cons_succ])
    | (refine plan_off (by rfl) ?_
       simp only [Act.put, List.setIfInBounds_toArray, List.set_cons_zero, List.set_cons_succ])
    | (refine plan_load_off (by rfl) ?_
       simp only [Act.put, List.setIfInBounds_toArray, List.set_cons_zero, List.set_cons_succ])
    | (refine plan_load (v := ?_) (by rfl) (fun w1 hw1 => ?_) ?_
       rotate_left
       · (skip
          clear hw1
          go_simp <;> with_reducible rfl)
       simp only [Act.put, List.setIfInBounds_toArray, List.set_cons_zero, List.set_cons_succ]))
  refine plan_end ?_
  go_wp2_with fail
  go_end0
  exact ⟨rfl, HSS.out, ((Mod.of_below_size HB.out _).trans ((Mod.of_below HBD.out).mono (fun k hk e => by omega))).trans (HMM.out.mono (fun k _ e => Or.inr e))⟩
set_option maxRecDepth 100000 in
set_option maxHeartbeats 2000000 in
theorem lock_any (w : World) (C : Nat → Prop) (S T : Nat) (s : St) (t : Nat) (x : Th) (k n : Int) (q m : Nat) (h : SAt w C S T s) (hx : s.th[t]? = some x) (hn4 : s.th.length ≤ 4) (hq2 : q < 2) (hm4 : m < 2) :
    Calls Tryz.prog 116 #[.pointer (some ⟨S, 0, none⟩), .int .i64 (t : Int), valI ⟨k, (q : Int), (m : Int), n⟩] w fun y w' => y = .returned (.tuple #[]) ∧ SAt w' C S T { s with h := updI s.h m (t : Int) } ∧ Mod (fun k => k = S ∨ k = T) w w' := by
  obtain ⟨Wz, Z, hWz, hZ, hBz, hZl, hZe⟩ := ins_box w ⟨k, (q : Int), (m : Int), n⟩
  have hS := h.below hBz
  obtain ⟨nn, hnn⟩ : ∃ n, n = s.th.length := ⟨_, rfl⟩
  have htn : t < nn := by rw [hnn]; exact (List.getElem?_eq_some_iff.1 hx).1
  have hl4 : nn ≤ 4 := by rw [hnn]; exact hn4
  have HZE := Lib.hid hZe
  have HS := Lib.hid hS
  have HB := Lib.hid hBz
  have HX := Lib.hid hx
  have HTN := Lib.hid hnn.symm
  have k1 : (0 : Int) ≤ (q : Int) := Int.natCast_nonneg _
  have k2 : (q : Int) < 2 := by omega
  have k3 : (0 : Int) ≤ (t : Int) := Int.natCast_nonneg _
  have k4 : (t : Int) < (nn : Int) := by omega
  have k5 : (0 : Int) ≤ (m : Int) := Int.natCast_nonneg _
  have k6 : (m : Int) < 2 := by omega
  simp only at hWz
  unfold valI
  simp only
  clear hZe hS hBz h hx hnn hZl hn4
  go_enter Tryz.func116, Tryz.ntmps116
  go_upto_region 1 with fail
  rw [← hWz, ← hZ]
  clear hWz hZ
  refine wp_region_planF (by kernel_rfl) (fun u => Below Wz.heap.size Wz u) [7] [(0, .pure), (1, .pure), (2, .load), (3, .pure), (4, .pure), (5, .pure), (6, .pure), (7, .last)] (by simp only [List.map_cons, List.map_nil, List.getElem?_toArray, List.getElem?_cons_succ, List.getElem?_cons_zero]; rfl) (by kernel_rfl) (fun _ _ d _ _ h => by cases d <;> exact h) ((Below.refl _ _).drew) ?_
  obtain ⟨Wd, hWd⟩ : ∃ z, z = Wz.drew := ⟨_, rfl⟩
  rw [← hWd]
  have hbd : Below Wz.heap.size Wz Wd := by rw [hWd]; exact (Below.refl _ _).drew
  have HBD := Lib.hid hbd
  clear hWd hbd
  repeat (first
    | (refine plan_pure (v := ?_) (by rfl) (fun w1 => ?_) ?_
       rotate_left
       · go_simp <;> with_reducible rfl
       simp only [Act.put, List.setIfInBounds_toArray, List.set_cons_zero, List.set_cons_succ])
    | (refine plan_off (by rfl) ?_
       simp only [Act.put, List.setIfInBounds_toArray, List.set_cons_zero, List.set_cons_succ])
    | (refine plan_load_off (by rfl) ?_
       simp only [Act.put, List.setIfInBounds_toArray, List.set_cons_zero, List.set_cons_succ])
    | (refine plan_load (v := ?_) (by rfl) (fun w1 hw1 => ?_) ?_
       rotate_left
       · (have q0 := (HZE.out w1 hw1).1
          have a1 := q0.2.1
          have a2 := q0.2.2.1
          have a3 := q0.2.2.2
          simp only [Nat.zero_add] at a1 a2 a3
          clear q0
          have hq := HS.out.below hw1
          have z3 := HS.out.z3 hw1
          obtain ⟨PA, pc, tc, _, _, _, _, zv, zh, _⟩ := hq.cells
          have b1 := (hq.thread t x HX.out).2.2 q hq2
          rw [HTN.out] at z3
          have ql := hq.lt.2
          have qs := hq.lt.1
          have c1 := zh m hm4
          clear hq zv zh
          clear hw1
          go_simp <;> with_reducible rfl)
       simp only [Act.put, List.setIfInBounds_toArray, List.set_cons_zero, List.set_cons_succ]))
  have hSd := HS.out.below HBD.out
  obtain ⟨hs, hm⟩ := hSd.set_h hm4 (t : Int)
  have HSS := Lib.hid hs
  have HMM := Lib.hid hm
  obtain ⟨PA, pc, tc, _, _, _, _, _, zh, _⟩ := hSd.cells
  have c1 := zh m hm4
  have f1 := hSd.free.1 (8 + m)
  clear zh
  have tl := hSd.lt.2
  have sl := hSd.lt.1
  clear hSd hs hm
  refine plan_last ?_
  go_wp2_with fail
  repeat (first
    | (refine plan_pure (v := ?_) (by rfl) (fun w1 => ?_) ?_
       rotate_left
       · go_simp <;> with_reducible rfl
       simp only [Act.put, List.setIfInBounds_toArray, List.set_cons_zero, List.set_cons_succ])
    | (refine plan_off (by rfl) ?_
       simp only [Act.put, List.setIfInBounds_toArray, List.set_cons_zero, List.set_cons_succ])
    | (refine plan_load_off (by rfl) ?_
       simp only [Act.put, List.setIfInBounds_toArray, List.set_cons_zero, List.set_cons_succ])
    | (refine plan_load (v := ?_) (by rfl) (fun w1 hw1 => ?_) ?_
       rotate_left
       · (skip
          clear hw1
          go_simp <;> with_reducible rfl)
       simp only [Act.put, List.setIfInBounds_toArray, List.set_cons_zero, List.set_cons_succ]))
  refine plan_end ?_
  go_wp2_with fail
  go_end0
  exact ⟨rfl, HSS.out, ((Mod.of_below_size HB.out _).trans ((Mod.of_below HBD.out).mono (fun k hk e => by omega))).trans (HMM.out.mono (fun k _ e => Or.inl e))⟩
set_option maxRecDepth 100000 in
set_option maxHeartbeats 2000000 in
theorem unlock_any (w : World) (C : Nat → Prop) (S T : Nat) (s : St) (t : Nat) (x : Th) (k n : Int) (q m : Nat) (h : SAt w C S T s) (hx : s.th[t]? = some x) (hn4 : s.th.length ≤ 4) (hq2 : q < 2) (hm4 : m < 2) (s' : St) (hs' : s' = if s.h m = (t : Int) then { s with h := updI s.h m (-1) } else s) :
    Calls Tryz.prog 117 #[.pointer (some ⟨S, 0, none⟩), .int .i64 (t : Int), valI ⟨k, (q : Int), (m : Int), n⟩] w fun y w' => y = .returned (.tuple #[]) ∧ SAt w' C S T s' ∧ Mod (fun k => k = S ∨ k = T) w w' := by
  have HSP := Lib.hid hs'
  clear hs'
  obtain ⟨Wz, Z, hWz, hZ, hBz, hZl, hZe⟩ := ins_box w ⟨k, (q : Int), (m : Int), n⟩
  have hS := h.below hBz
  obtain ⟨nn, hnn⟩ : ∃ n, n = s.th.length := ⟨_, rfl⟩
  have htn : t < nn := by rw [hnn]; exact (List.getElem?_eq_some_iff.1 hx).1
  have hl4 : nn ≤ 4 := by rw [hnn]; exact hn4
  have HZE := Lib.hid hZe
  have HS := Lib.hid hS
  have HB := Lib.hid hBz
  have HX := Lib.hid hx
  have HTN := Lib.hid hnn.symm
  have k1 : (0 : Int) ≤ (q : Int) := Int.natCast_nonneg _
  have k2 : (q : Int) < 2 := by omega
  have k3 : (0 : Int) ≤ (t : Int) := Int.natCast_nonneg _
  have k4 : (t : Int) < (nn : Int) := by omega
  have k5 : (0 : Int) ≤ (m : Int) := Int.natCast_nonneg _
  have k6 : (m : Int) < 2 := by omega
  simp only at hWz
  unfold valI
  simp only
  clear hZe hS hBz h hx hnn hZl hn4
  go_enter Tryz.func117, Tryz.ntmps117
  go_upto_region 1 with fail
  rw [← hWz, ← hZ]
  clear hWz hZ
  refine wp_region_planF (by kernel_rfl) (fun u => Below Wz.heap.size Wz u) [] [(0, .pure), (1, .pure), (2, .load), (3, .pure), (4, .pure), (5, .pure), (6, .load), (7, .pure), (8, .pure)] (by simp only [List.map_cons, List.map_nil, List.getElem?_toArray, List.getElem?_cons_succ, List.getElem?_cons_zero]; rfl) (by kernel_rfl) (fun _ _ d _ _ h => by cases d <;> exact h) ((Below.refl _ _).drew) ?_
  obtain ⟨Wd, hWd⟩ : ∃ z, z = Wz.drew := ⟨_, rfl⟩
  rw [← hWd]
  have hbd : Below Wz.heap.size Wz Wd := by rw [hWd]; exact (Below.refl _ _).drew
  have HBD := Lib.hid hbd
  clear hWd hbd
  by_cases hh : s.h m = (t : Int)
  · have hd : (s.h m == (t : Int)) = true := by simpa using hh
    have HH := Lib.hid hh
    repeat (first
      | (refine plan_pure (v := ?_) (by rfl) (fun w1 => ?_) ?_
         rotate_left
         · go_simp <;> with_reducible rfl
         simp only [Act.put, List.setIfInBounds_toArray, List.set_cons_zero, List.set_cons_succ])
      | (refine plan_off (by rfl) ?_
         simp only [Act.put, List.setIfInBounds_toArray, List.set_cons_zero, List.set_cons_succ])
      | (refine plan_load_off (by rfl) ?_
         simp only [Act.put, List.setIfInBounds_toArray, List.set_cons_zero, List.set_cons_succ])
      | (refine plan_load (v := ?_) (by rfl) (fun w1 hw1 => ?_) ?_
         rotate_left
         · (have q0 := (HZE.out w1 hw1).1
            have a1 := q0.2.1
            have a2 := q0.2.2.1
            have a3 := q0.2.2.2
            simp only [Nat.zero_add] at a1 a2 a3
            clear q0
            have hq := HS.out.below hw1
            have z3 := HS.out.z3 hw1
            obtain ⟨PA, pc, tc, _, _, _, _, zv, zh, _⟩ := hq.cells
            have b1 := (hq.thread t x HX.out).2.2 q hq2
            rw [HTN.out] at z3
            have ql := hq.lt.2
            have qs := hq.lt.1
            have c1 := zh m hm4
            clear hq zv zh
            clear hw1
            go_simp <;> with_reducible rfl)
         simp only [Act.put, List.setIfInBounds_toArray, List.set_cons_zero, List.set_cons_succ]))
    refine plan_end ?_
    clear hh
    go_upto_region 2 with fail
    refine wp_region_planF (by kernel_rfl) (fun u => Below Wz.heap.size Wz u) [6] [(0, .pure), (1, .pure), (2, .load), (3, .pure), (4, .pure), (5, .pure), (6, .last)] (by simp only [List.map_cons, List.map_nil, List.getElem?_toArray, List.getElem?_cons_succ, List.getElem?_cons_zero]; rfl) (by kernel_rfl) (fun _ _ d _ _ h => by cases d <;> exact h) (HBD.out.drew) ?_
    obtain ⟨We, hWd⟩ : ∃ z, z = Wd.drew := ⟨_, rfl⟩
    rw [← hWd]
    have hbd : Below Wz.heap.size Wz We := by rw [hWd]; exact HBD.out.drew
    have HBE := Lib.hid hbd
    clear hWd hbd
    repeat (first
      | (refine plan_pure (v := ?_) (by rfl) (fun w1 => ?_) ?_
         rotate_left
         · go_simp <;> with_reducible rfl
         simp only [Act.put, List.setIfInBounds_toArray, List.set_cons_zero, List.set_cons_succ])
      | (refine plan_off (by rfl) ?_
         simp only [Act.put, List.setIfInBounds_toArray, List.set_cons_zero, List.set_cons_succ])
      | (refine plan_load_off (by rfl) ?_
         simp only [Act.put, List.setIfInBounds_toArray, List.set_cons_zero, List.set_cons_succ])
      | (refine plan_load (v := ?_) (by rfl) (fun w1 hw1 => ?_) ?_
         rotate_left
         · (have q0 := (HZE.out w1 hw1).1
            have a1 := q0.2.1
            have a2 := q0.2.2.1
            have a3 := q0.2.2.2
            simp only [Nat.zero_add] at a1 a2 a3
            clear q0
            have hq := HS.out.below hw1
            have z3 := HS.out.z3 hw1
            obtain ⟨PA, pc, tc, _, _, _, _, zv, zh, _⟩ := hq.cells
            have b1 := (hq.thread t x HX.out).2.2 q hq2
            rw [HTN.out] at z3
            have ql := hq.lt.2
            have qs := hq.lt.1
            have c1 := zh m hm4
            clear hq zv zh
            clear hw1
            go_simp <;> with_reducible rfl)
         simp only [Act.put, List.setIfInBounds_toArray, List.set_cons_zero, List.set_cons_succ]))
    have hSd := HS.out.below HBE.out
    obtain ⟨hs, hm⟩ := hSd.set_h hm4 (-1)
    have HSS := Lib.hid hs
    have HMM := Lib.hid hm
    obtain ⟨PA, pc, tc, _, _, _, _, _, zh, _⟩ := hSd.cells
    have c1 := zh m hm4
    have f1 := hSd.free.1 (8 + m)
    clear zh
    have tl := hSd.lt.2
    have sl := hSd.lt.1
    clear hSd hs hm
    refine plan_last ?_
    go_wp2_with fail
    repeat (first
      | (refine plan_pure (v := ?_) (by rfl) (fun w1 => ?_) ?_
         rotate_left
         · go_simp <;> with_reducible rfl
         simp only [Act.put, List.setIfInBounds_toArray, List.set_cons_zero, List.set_cons_succ])
      | (refine plan_off (by rfl) ?_
         simp only [Act.put, List.setIfInBounds_toArray, List.set_cons_zero, List.set_cons_succ])
      | (refine plan_load_off (by rfl) ?_
         simp only [Act.put, List.setIfInBounds_toArray, List.set_cons_zero, List.set_cons_succ])
      | (refine plan_load (v := ?_) (by rfl) (fun w1 hw1 => ?_) ?_
         rotate_left
         · (skip
            clear hw1
            go_simp <;> with_reducible rfl)
         simp only [Act.put, List.setIfInBounds_toArray, List.set_cons_zero, List.set_cons_succ]))
    refine plan_end ?_
    go_wp2_with fail
    go_end0
    exact ⟨rfl, by rw [HSP.out, if_pos HH.out]; exact HSS.out, ((Mod.of_below_size HB.out _).trans ((Mod.of_below HBE.out).mono (fun k hk e => by omega))).trans (HMM.out.mono (fun k _ e => Or.inl e))⟩
  · have hd : (s.h m == (t : Int)) = false := by simpa using hh
    have HH := Lib.hid hh
    repeat (first
      | (refine plan_pure (v := ?_) (by rfl) (fun w1 => ?_) ?_
         rotate_left
         · go_simp <;> with_reducible rfl
         simp only [Act.put, List.setIfInBounds_toArray, List.set_cons_zero, List.set_cons_succ])
      | (refine plan_off (by rfl) ?_
         simp only [Act.put, List.setIfInBounds_toArray, List.set_cons_zero, List.set_cons_succ])
      | (refine plan_load_off (by rfl) ?_
         simp only [Act.put, List.setIfInBounds_toArray, List.set_cons_zero, List.set_cons_succ])
      | (refine plan_load (v := ?_) (by rfl) (fun w1 hw1 => ?_) ?_
         rotate_left
         · (have q0 := (HZE.out w1 hw1).1
            have a1 := q0.2.1
            have a2 := q0.2.2.1
            have a3 := q0.2.2.2
            simp only [Nat.zero_add] at a1 a2 a3
            clear q0
            have hq := HS.out.below hw1
            have z3 := HS.out.z3 hw1
            obtain ⟨PA, pc, tc, _, _, _, _, zv, zh, _⟩ := hq.cells
            have b1 := (hq.thread t x HX.out).2.2 q hq2
            rw [HTN.out] at z3
            have ql := hq.lt.2
            have qs := hq.lt.1
            have c1 := zh m hm4
            clear hq zv zh
            clear hw1
            go_simp <;> with_reducible rfl)
         simp only [Act.put, List.setIfInBounds_toArray, List.set_cons_zero, List.set_cons_succ]))
    refine plan_end ?_
    go_wp2_with fail
    go_end0
    exact ⟨rfl, by rw [HSP.out, if_neg HH.out]; exact HS.out.below HBD.out, (Mod.of_below_size HB.out _).trans ((Mod.of_below HBD.out).mono (fun k hk e => by omega))⟩
set_option maxRecDepth 100000 in
set_option maxHeartbeats 2000000 in
theorem jump_any (w : World) (C : Nat → Prop) (S T : Nat) (s : St) (t : Nat) (x : Th) (k n : Int) (q m : Nat) (h : SAt w C S T s) (hx : s.th[t]? = some x) (hn4 : s.th.length ≤ 4) (hq2 : q < 2) (hm4 : m < 9) (s' : St) (hs' : s' = if x.r q = 0 then s else { s with th := s.th.set t { x with pc := m } }) :
    Calls Tryz.prog 118 #[.pointer (some ⟨S, 0, none⟩), .int .i64 (t : Int), valI ⟨k, (q : Int), (m : Int), n⟩] w fun y w' => y = .returned (.tuple #[]) ∧ SAt w' C S T s' ∧ Mod (fun k => k = S ∨ k = T) w w' := by
  have HSP := Lib.hid hs'
  clear hs'
  obtain ⟨Wz, Z, hWz, hZ, hBz, hZl, hZe⟩ := ins_box w ⟨k, (q : Int), (m : Int), n⟩
  have hS := h.below hBz
  obtain ⟨nn, hnn⟩ : ∃ n, n = s.th.length := ⟨_, rfl⟩
  have htn : t < nn := by rw [hnn]; exact (List.getElem?_eq_some_iff.1 hx).1
  have hl4 : nn ≤ 4 := by rw [hnn]; exact hn4
  have HZE := Lib.hid hZe
  have HS := Lib.hid hS
  have HB := Lib.hid hBz
  have HX := Lib.hid hx
  have HTN := Lib.hid hnn.symm
  have k1 : (0 : Int) ≤ (q : Int) := Int.natCast_nonneg _
  have k2 : (q : Int) < 2 := by omega
  have k3 : (0 : Int) ≤ (t : Int) := Int.natCast_nonneg _
  have k4 : (t : Int) < (nn : Int) := by omega
  have k5 : (0 : Int) ≤ (m : Int) := Int.natCast_nonneg _
  have k6 : (m : Int) < 9 := by omega
  simp only at hWz
  unfold valI
  simp only
  clear hZe hS hBz h hx hnn hZl hn4
  go_enter Tryz.func118, Tryz.ntmps118
  go_upto_region 1 with fail
  rw [← hWz, ← hZ]
  clear hWz hZ
  refine wp_region_planF (by kernel_rfl) (fun u => Below Wz.heap.size Wz u) [] [(0, .pure), (1, .pure), (2, .pure), (3, .load), (4, .pure), (5, .pure), (6, .load), (7, .pure), (8, .pure), (9, .pure), (10, .load), (11, .pure)] (by simp only [List.map_cons, List.map_nil, List.getElem?_toArray, List.getElem?_cons_succ, List.getElem?_cons_zero]; rfl) (by kernel_rfl) (fun _ _ d _ _ h => by cases d <;> exact h) ((Below.refl _ _).drew) ?_
  obtain ⟨Wd, hWd⟩ : ∃ z, z = Wz.drew := ⟨_, rfl⟩
  rw [← hWd]
  have hbd : Below Wz.heap.size Wz Wd := by rw [hWd]; exact (Below.refl _ _).drew
  have HBD := Lib.hid hbd
  clear hWd hbd
  by_cases hh : x.r q = 0
  · have hd : (x.r q == 0) = true := by simpa using hh
    have HH := Lib.hid hh
    repeat (first
      | (refine plan_pure (v := ?_) (by rfl) (fun w1 => ?_) ?_
         rotate_left
         · go_simp <;> with_reducible rfl
         simp only [Act.put, List.setIfInBounds_toArray, List.set_cons_zero, List.set_cons_succ])
      | (refine plan_off (by rfl) ?_
         simp only [Act.put, List.setIfInBounds_toArray, List.set_cons_zero, List.set_cons_succ])
      | (refine plan_load_off (by rfl) ?_
         simp only [Act.put, List.setIfInBounds_toArray, List.set_cons_zero, List.set_cons_succ])
      | (refine plan_load (v := ?_) (by rfl) (fun w1 hw1 => ?_) ?_
         rotate_left
         · (have q0 := (HZE.out w1 hw1).1
            have a1 := q0.2.1
            have a2 := q0.2.2.1
            have a3 := q0.2.2.2
            simp only [Nat.zero_add] at a1 a2 a3
            clear q0
            have hq := HS.out.below hw1
            have z3 := HS.out.z3 hw1
            obtain ⟨PA, pc, tc, _, _, _, _, zv, zh, _⟩ := hq.cells
            have b1 := (hq.thread t x HX.out).2.2 q hq2
            rw [HTN.out] at z3
            have ql := hq.lt.2
            have qs := hq.lt.1
            clear hq zv zh
            clear hw1
            go_simp <;> with_reducible rfl)
         simp only [Act.put, List.setIfInBounds_toArray, List.set_cons_zero, List.set_cons_succ]))
    refine plan_end ?_
    go_wp2_with fail
    go_end0
    exact ⟨rfl, by rw [HSP.out, if_pos HH.out]; exact HS.out.below HBD.out, (Mod.of_below_size HB.out _).trans ((Mod.of_below HBD.out).mono (fun k hk e => by omega))⟩
  · have hd : (x.r q == 0) = false := by simpa using hh
    have hd2 : (x.r q != 0) = true := by simpa using hh
    have HH := Lib.hid hh
    repeat (first
      | (refine plan_pure (v := ?_) (by rfl) (fun w1 => ?_) ?_
         rotate_left
         · go_simp <;> with_reducible rfl
         simp only [Act.put, List.setIfInBounds_toArray, List.set_cons_zero, List.set_cons_succ])
      | (refine plan_off (by rfl) ?_
         simp only [Act.put, List.setIfInBounds_toArray, List.set_cons_zero, List.set_cons_succ])
      | (refine plan_load_off (by rfl) ?_
         simp only [Act.put, List.setIfInBounds_toArray, List.set_cons_zero, List.set_cons_succ])
      | (refine plan_load (v := ?_) (by rfl) (fun w1 hw1 => ?_) ?_
         rotate_left
         · (have q0 := (HZE.out w1 hw1).1
            have a1 := q0.2.1
            have a2 := q0.2.2.1
            have a3 := q0.2.2.2
            simp only [Nat.zero_add] at a1 a2 a3
            clear q0
            have hq := HS.out.below hw1
            have z3 := HS.out.z3 hw1
            obtain ⟨PA, pc, tc, _, _, _, _, zv, zh, _⟩ := hq.cells
            have b1 := (hq.thread t x HX.out).2.2 q hq2
            rw [HTN.out] at z3
            have ql := hq.lt.2
            have qs := hq.lt.1
            clear hq zv zh
            clear hw1
            go_simp <;> with_reducible rfl)
         simp only [Act.put, List.setIfInBounds_toArray, List.set_cons_zero, List.set_cons_succ]))
    refine plan_end ?_
    clear hh
    go_upto_region 2 with fail
    refine wp_region_planF (by kernel_rfl) (fun u => Below Wz.heap.size Wz u) [9] [(0, .pure), (1, .pure), (2, .pure), (3, .load), (4, .pure), (5, .pure), (6, .load), (7, .pure), (8, .pure), (9, .last)] (by simp only [List.map_cons, List.map_nil, List.getElem?_toArray, List.getElem?_cons_succ, List.getElem?_cons_zero]; rfl) (by kernel_rfl) (fun _ _ d _ _ h => by cases d <;> exact h) (HBD.out.drew) ?_
    obtain ⟨We, hWd⟩ : ∃ z, z = Wd.drew := ⟨_, rfl⟩
    rw [← hWd]
    have hbd : Below Wz.heap.size Wz We := by rw [hWd]; exact HBD.out.drew
    have HBE := Lib.hid hbd
    clear hWd hbd
    repeat (first
      | (refine plan_pure (v := ?_) (by rfl) (fun w1 => ?_) ?_
         rotate_left
         · go_simp <;> with_reducible rfl
         simp only [Act.put, List.setIfInBounds_toArray, List.set_cons_zero, List.set_cons_succ])
      | (refine plan_off (by rfl) ?_
         simp only [Act.put, List.setIfInBounds_toArray, List.set_cons_zero, List.set_cons_succ])
      | (refine plan_load_off (by rfl) ?_
         simp only [Act.put, List.setIfInBounds_toArray, List.set_cons_zero, List.set_cons_succ])
      | (refine plan_load (v := ?_) (by rfl) (fun w1 hw1 => ?_) ?_
         rotate_left
         · (have q0 := (HZE.out w1 hw1).1
            have a1 := q0.2.1
            have a2 := q0.2.2.1
            have a3 := q0.2.2.2
            simp only [Nat.zero_add] at a1 a2 a3
            clear q0
            have hq := HS.out.below hw1
            have z3 := HS.out.z3 hw1
            obtain ⟨PA, pc, tc, _, _, _, _, zv, zh, _⟩ := hq.cells
            have b1 := (hq.thread t x HX.out).2.2 q hq2
            rw [HTN.out] at z3
            have ql := hq.lt.2
            have qs := hq.lt.1
            clear hq zv zh
            clear hw1
            go_simp <;> with_reducible rfl)
         simp only [Act.put, List.setIfInBounds_toArray, List.set_cons_zero, List.set_cons_succ]))
    have hSd := HS.out.below HBE.out
    obtain ⟨hs, hm⟩ := hSd.set_pc HX.out m
    have HSS := Lib.hid hs
    have HMM := Lib.hid hm
    have t1 := (hSd.thread t x HX.out).1
    have f1 := hSd.free.2 (t * 4)
    have tl := hSd.lt.2
    have sl := hSd.lt.1
    clear hSd hs hm
    refine plan_last ?_
    go_wp2_with fail
    repeat (first
      | (refine plan_pure (v := ?_) (by rfl) (fun w1 => ?_) ?_
         rotate_left
         · go_simp <;> with_reducible rfl
         simp only [Act.put, List.setIfInBounds_toArray, List.set_cons_zero, List.set_cons_succ])
      | (refine plan_off (by rfl) ?_
         simp only [Act.put, List.setIfInBounds_toArray, List.set_cons_zero, List.set_cons_succ])
      | (refine plan_load_off (by rfl) ?_
         simp only [Act.put, List.setIfInBounds_toArray, List.set_cons_zero, List.set_cons_succ])
      | (refine plan_load (v := ?_) (by rfl) (fun w1 hw1 => ?_) ?_
         rotate_left
         · (skip
            clear hw1
            go_simp <;> with_reducible rfl)
         simp only [Act.put, List.setIfInBounds_toArray, List.set_cons_zero, List.set_cons_succ]))
    refine plan_end ?_
    go_wp2_with fail
    go_end0
    exact ⟨rfl, by rw [HSP.out, if_neg HH.out]; exact HSS.out, ((Mod.of_below_size HB.out _).trans ((Mod.of_below HBE.out).mono (fun k hk e => by omega))).trans (HMM.out.mono (fun k _ e => Or.inr e))⟩
set_option maxRecDepth 100000 in
set_option maxHeartbeats 2000000 in
theorem assert_any (w : World) (C : Nat → Prop) (S T : Nat) (s : St) (t : Nat) (x : Th) (k n : Int) (q m : Nat) (h : SAt w C S T s) (hx : s.th[t]? = some x) (hn4 : s.th.length ≤ 4) (hq2 : q < 2) (hm4 : m < 9) :
    Calls Tryz.prog 119 #[.pointer (some ⟨S, 0, none⟩), .int .i64 (t : Int), valI ⟨k, (q : Int), (m : Int), n⟩] w fun y w' => y = .returned (.tuple #[]) ∧ SAt w' C S T s ∧ Mod (fun k => k = S ∨ k = T) w w' := by
  obtain ⟨Wz, Z, hWz, hZ, hBz, hZl, hZe⟩ := ins_box w ⟨k, (q : Int), (m : Int), n⟩
  have hS := h.below hBz
  obtain ⟨nn, hnn⟩ : ∃ n, n = s.th.length := ⟨_, rfl⟩
  have htn : t < nn := by rw [hnn]; exact (List.getElem?_eq_some_iff.1 hx).1
  have hl4 : nn ≤ 4 := by rw [hnn]; exact hn4
  have HZE := Lib.hid hZe
  have HS := Lib.hid hS
  have HB := Lib.hid hBz
  have HX := Lib.hid hx
  have HTN := Lib.hid hnn.symm
  have k1 : (0 : Int) ≤ (q : Int) := Int.natCast_nonneg _
  have k2 : (q : Int) < 2 := by omega
  have k3 : (0 : Int) ≤ (t : Int) := Int.natCast_nonneg _
  have k4 : (t : Int) < (nn : Int) := by omega
  have k5 : (0 : Int) ≤ (m : Int) := Int.natCast_nonneg _
  have k6 : (m : Int) < 9 := by omega
  simp only at hWz
  unfold valI
  simp only
  clear hZe hS hBz h hx hnn hZl hn4
  go_enter Tryz.func119, Tryz.ntmps119
  go_wp2_with fail
  go_end0
  rw [← hWz]
  exact ⟨rfl, HS.out, Mod.of_below_size HB.out _⟩
end Go.Proofs.YtckdofjpoajblaaGreat
