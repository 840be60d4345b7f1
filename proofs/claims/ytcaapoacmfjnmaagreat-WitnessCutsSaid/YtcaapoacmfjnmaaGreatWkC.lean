/- The reference's All (sinnetref06), and Small (sinnetlaw06). -/
import Derived.Test.YtcaapoacmfjnmaaGreatWkB
namespace Go.Proofs.YtcaapoacmfjnmaaGreat
open Go.RowKit
set_option linter.unusedVariables false

namespace Pr
def sm0 : Sm := ⟨[], 0, 0⟩
/-- all executions of a program: the sum, and how many beginnings there are; an error -/
def all6 (p : Pg) (f : Int) (most : Nat) : (Nat × Sm) × Int :=
  if may p f then
    let x := over at6 most 32 (start p f.toNat) [] (0, sm0)
    if most < x.1 then ((0, sm0), 5) else (x, 0)
  else ((0, sm0), 1)
def small (p : Pg) (f : Int) : Bool := few p && decide (Ok p) && decide (0 ≤ f ∧ f ≤ 8) && ((all6 p f 600).2 == 0)
end Pr
/-- what All gives -/
def All6Out (w : World) (r : (Nat × Pr.Sm) × Int) (x : Ending) (w' : World) : Prop :=
  ∃ A cap, x = .returned (.tuple #[.agg #[.slice A r.1.2.keys.length cap, .int .i64 r.1.2.runs, .int .i64 r.1.1, .int .i64 r.1.2.stuck], .int .i64 r.2]) ∧ Rd w' 1 A r.1.2.keys.length (r.1.2.keys.map sv) ∧ r.1.2.keys.length ≤ cap ∧ cap ≤ maxLen ∧ Below w.heap.size w w'
/-- texts don't lie where a slice and three numbers lie -/
theorem Rd.str_not4 {w : World} {A : Option Addr} {ks : List Ky.K} {Z : Nat} {sa : Option Addr} {sb sc : Nat} {x y z : Int} {T : TypeId} (h : Rd w 1 A ks.length (ks.map sv)) (hZ : w.heap[Z]? = some (.cells #[.slice sa sb sc, .int .i64 x, .int .i64 y, .int .i64 z] T (0, 0))) {g o : Nat} (hA : A = some ⟨g, o, none⟩) (hn : 0 < ks.length) : g ≠ Z := by
  obtain ⟨g', o', hA', hg, hc⟩ := h.2 (by omega)
  rw [hA] at hA'
  injection hA' with e
  injection e with e1 e2
  subst e1 e2
  intro e
  subst e
  have h0 := hc 0 (by omega)
  rw [cell_blk hZ, List.getElem?_map, List.getElem?_eq_getElem hn] at h0
  rcases (show o + 0 = 0 ∨ o + 0 = 1 ∨ o + 0 = 2 ∨ o + 0 = 3 ∨ 4 ≤ o + 0 by omega) with e | e | e | e | e
  · rw [e] at h0; simp [sv] at h0
  · rw [e] at h0; simp [sv] at h0
  · rw [e] at h0; simp [sv] at h0
  · rw [e] at h0; simp [sv] at h0
  · rw [Array.getElem?_eq_none (by simpa using e)] at h0; simp [sv] at h0
theorem PgIn.alloc {w : World} {p : Pg} {A : Option Addr} (h : PgIn w p A) (o : Obj) : PgIn (w.alloc o) p A := h.below ((Below.refl _ _).alloc (Nat.le_refl _) o)
set_option maxRecDepth 100000 in
set_option maxHeartbeats 4000000 in
theorem refAll6_any (w : World) (p : Pg) (A : Option Addr) (cap : Nat) (f : Int) (most : Nat) (hp : PgIn w p A) (hmost : most ≤ 100000) :
    Calls Tryz.prog 26 #[valP p A cap, .int .i64 f, .int .i64 (most : Int)] w (All6Out w (Pr.all6 p f most)) := by
  obtain ⟨Wa, X, hWa, hX, hBa, hXl, hXe⟩ := pg_box w p.vars p.mtx A p.code.length cap
  obtain ⟨Wb, hWb⟩ : ∃ z, z = Wa.alloc (Obj.cells #[.slice none 0 0, .int .i64 0, .int .i64 0, .int .i64 0] 46) := ⟨_, rfl⟩
  obtain ⟨Z, hZ⟩ : ∃ z, z = Wa.heap.size := ⟨_, rfl⟩
  have hZX : X + 1 = Z := by rw [hZ, hWa, World.size_alloc, hX]
  have hZk : Wb.heap[Z]? = some (.cells #[.slice none 0 0, .int .i64 0, .int .i64 0, .int .i64 0] 46 (0, 0)) := by rw [hWb, hZ]; exact heap_alloc_new Wa _
  have hBb : Below Wa.heap.size Wa Wb := by rw [hWb]; exact (Below.refl _ _).alloc (Nat.le_refl _) _
  have hpb := (hp.below hBa).below hBb
  have hZW : w.heap.size ≤ Z := by rw [hZ]; exact hBa.size
  have HBB := Lib.hid (below_at hBa hBb)
  have HZW := Lib.hid hZW
  have HZK := Lib.hid hZk
  have HXE := Lib.hid (fun (u : World) (hu : Below Wb.heap.size Wb u) => hXe u (below_at hBb hu))
  obtain ⟨x0, x1, x2, xl⟩ := hXe Wb hBb
  by_cases hm : Pr.may p f
  · obtain ⟨m, rfl⟩ : ∃ m : Nat, f = m := ⟨f.toNat, by have := hm.2.1; omega⟩
    have hm8 : m ≤ 8 := by have := hm.2.2; omega
    have hnew := refNew_ok Wb p A cap m hpb hm.1 hm8
    obtain ⟨s0, hs0⟩ : ∃ s0, s0 = Pr.start p m := ⟨_, rfl⟩
    obtain ⟨⟨c, a⟩, hx⟩ : ∃ x, x = Pr.over Pr.at6 most 32 (Pr.start p m) [] (0, Pr.sm0) := ⟨_, rfl⟩
    have hres : Pr.all6 p m most = if most < c then ((0, Pr.sm0), 5) else ((c, a), 0) := by
      unfold Pr.all6
      rw [if_pos hm, Int.toNat_natCast, ← hx]
    have hwf := Pr.start_wf hm.1 hm8
    have hfu := Pr.fuels_start hm.1 hm8
    have hcb := Pr.over_bound Pr.at6 most 32 (Pr.start p m) [] (0, Pr.sm0) hwf
    have hgd := Pr.over_good most 32 (Pr.start p m) [] (0, Pr.sm0) ⟨Nat.le_refl _, Nat.le_refl _, Nat.le_refl _⟩
    rw [← hx] at hcb hgd
    rw [← hs0] at hnew hx hwf hfu
    obtain ⟨res, hr⟩ : ∃ r, r = Pr.all6 p m most := ⟨_, rfl⟩
    rw [← hr] at hres ⊢
    unfold valP at hnew ⊢
    have hc9 : c ≤ 200000 := by simp only at hcb; omega
    have HNEW := Lib.hid hnew
    have HRES := Lib.hid hres
    have HWF := Lib.hid (And.intro hwf hfu)
    have HX := Lib.hid hx
    have HGD := Lib.hid hgd
    clear hXe hp hpb hnew hres hwf hfu hx hm hs0 hr hBa hBb hcb hgd hZk hZW hm8
    go_enter Tryz.func26, Tryz.ntmps26
    go_upto_region 1 with fail
    rw [← hWa, ← hX, ← hWb, hZX]
    clear hWa hX hWb hZ hZX
    go_wp2_with fail
    refine HNEW.out.mono ?_
    rintro y w1 ⟨S, T, o, rfl, hR, hS, hT, b1⟩
    have HB1 := Lib.hid b1
    obtain ⟨W2, hW2⟩ : ∃ z, z = w1.alloc (Obj.cells #[.slice none 0 0, .int .i64 0, .int .i64 0, .int .i64 0] 46) := ⟨_, rfl⟩
    obtain ⟨M, hM⟩ : ∃ z, z = w1.heap.size := ⟨_, rfl⟩
    have hMk : W2.heap[M]? = some (.cells #[.slice none 0 0, .int .i64 0, .int .i64 0, .int .i64 0] 46 (0, 0)) := by rw [hW2, hM]; exact heap_alloc_new w1 _
    have hb2 : Below w1.heap.size w1 W2 := by rw [hW2]; exact (Below.refl _ _).alloc (Nat.le_refl _) _
    have hsl := hR.lt
    have hbz := b1.size
    have hall := refOver_any 32 s0 HWF.out.1 HWF.out.2 (Nat.le_refl _) W2 _ S T o [] none 0 M 0 Pr.sm0 most (hR.below hb2) (fun k hk => by have := hb2.size; omega) (Row.nil W2 57 4).rd (by simp) (by omega) (by omega) (by omega) (fun b hb => by cases hb)
      ⟨none, 0, hMk, fun b hb => (by cases hb), (Row.nil W2 9 1).rd, Nat.le_refl _, Nat.zero_le _⟩ ⟨Nat.le_refl _, Nat.le_refl _, Nat.le_refl _⟩ (by omega) hmost
    rw [← HX.out] at hall
    have HALL := Lib.hid hall
    have HB2 := Lib.hid (below_at b1 hb2)
    have HMZ := Lib.hid (show Z < M ∧ Wb.heap.size ≤ M ∧ Z < Wb.heap.size by rw [hM]; have := blk_lt HZK.out; omega)
    clear b1 hR hS hT hMk hb2 hsl hbz hall HNEW x0 x1 x2 xl
    go_upto_region 5 with fail
    rw [← hW2, ← hM]
    clear hW2 hM
    go_wp2_with fail
    refine HALL.out.mono ?_
    rintro y w3 ⟨rfl, ⟨KA, kc, hM3, hKM, hkr, hk1, hk2⟩, hmo⟩
    have m0 : w3.cell? ⟨M, 0, none⟩ = some (.slice KA a.keys.length kc) := cell_blk hM3 0
    have m1 : w3.cell? ⟨M, 1, none⟩ = some (.int .i64 a.runs) := cell_blk hM3 1
    have m2 : w3.cell? ⟨M, 2, none⟩ = some (.int .i64 c) := cell_blk hM3 2
    have m3 : w3.cell? ⟨M, 3, none⟩ = some (.int .i64 a.stuck) := cell_blk hM3 3
    have ml := blk_lt hM3
    have hb3 : Below Wb.heap.size Wb w3 := HB2.out.trans (hmo.below _ HB2.out.size (fun k hk e => by have := HMZ.out; omega))
    have hZ3 : w3.heap[Z]? = some (.cells #[.slice none 0 0, .int .i64 0, .int .i64 0, .int .i64 0] 46 (0, 0)) := (hb3.block Z HMZ.out.2.2).trans HZK.out
    have HB3 := Lib.hid (below_at HBB.out hb3)
    have HKR := Lib.hid (And.intro hkr (And.intro hk1 hk2))
    clear hM3 hKM hkr hk1 hk2 hmo hb3 HALL HB2 HB1
    by_cases hfull : most < c
    · have d1 : decide ((most : Int) < (c : Int)) = true := decide_eq_true (by omega)
      have d2 : (most : Int) < (c : Int) := by omega
      have hres : res = ((0, Pr.sm0), 5) := by rw [HRES.out, if_pos hfull]
      have HR := Lib.hid hres
      obtain ⟨V2, hV2, ⟨e0, e1, e2, e3⟩, hmv⟩ := in4_exit hZ3 (.slice none 0 0) (.int .i64 0) (.int .i64 0) (.int .i64 0)
      obtain ⟨⟨y0, y1, y2, y3⟩, el, g0, g1, g2, g3⟩ := in4_cells hZ3
      have HV2 := Lib.hid hV2
      have HMV := Lib.hid hmv
      clear hV2 hmv hres hZ3 hfull HRES
      go_wp2_with fail
      rw [← HV2.out]
      refine bodyPost_ret (v := .tuple #[.agg #[.slice none 0 0, .int .i64 0, .int .i64 0, .int .i64 0], .int .i64 5]) (by simp [results, Tryz.results26, go_sem, e0, e1, e2, e3]) rfl ?_
      rw [HR.out]
      exact ⟨none, 0, rfl, (Row.nil V2 9 1).rd, Nat.le_refl _, Nat.zero_le _, HB3.out.trans (HMV.out.below _ HB3.out.size (fun k hk e => by have := HZW.out; omega))⟩
    · have HZ3 := Lib.hid hZ3
      have d1 : decide ((most : Int) < (c : Int)) = false := decide_eq_false (by omega)
      have d2 : ¬ (most : Int) < (c : Int) := by omega
      have hres : res = ((c, a), 0) := by rw [HRES.out, if_neg hfull]
      have HR := Lib.hid hres
      obtain ⟨V2, hV2, ⟨e0, e1, e2, e3⟩, hmv⟩ := in4_exit hZ3 (.slice KA a.keys.length kc) (.int .i64 a.runs) (.int .i64 c) (.int .i64 a.stuck)
      obtain ⟨⟨y0, y1, y2, y3⟩, el, g0, g1, g2, g3⟩ := in4_cells hZ3
      have HV2 := Lib.hid hV2
      have HMV := Lib.hid hmv
      clear hV2 hmv hres hZ3 hfull HRES
      go_wp2_with fail
      rw [← HV2.out]
      refine bodyPost_ret (v := .tuple #[.agg #[.slice KA a.keys.length kc, .int .i64 a.runs, .int .i64 c, .int .i64 a.stuck], .int .i64 0]) (by simp [results, Tryz.results26, go_sem, e0, e1, e2, e3]) rfl ?_
      rw [HR.out]
      refine ⟨KA, kc, rfl, ?_, HKR.out.2.1, HKR.out.2.2, HB3.out.trans (HMV.out.below _ HB3.out.size (fun k hk e => by have := HZW.out; omega))⟩
      refine ⟨HKR.out.1.1, fun hp => ?_⟩
      obtain ⟨g, o, hA, hgl, hcc⟩ := HKR.out.1.2 hp
      have hne := HKR.out.1.str_not4 HZ3.out hA (by simp only at hp; omega)
      exact ⟨g, o, hA, Nat.lt_of_lt_of_le hgl HMV.out.size, fun j hj => (HMV.out.cell g (o + j) hgl hne).trans (hcc j hj)⟩
  · have hnew := refNew_bad Wb p A cap f hpb hm
    have hres : Pr.all6 p f most = ((0, Pr.sm0), 1) := by unfold Pr.all6; rw [if_neg hm]
    rw [hres]
    unfold valP at hnew ⊢
    have HNEW := Lib.hid hnew
    clear hXe hp hpb hnew hres hm hBa hBb hZk hZW
    go_enter Tryz.func26, Tryz.ntmps26
    go_upto_region 1 with fail
    rw [← hWa, ← hX, ← hWb, hZX]
    clear hWa hX hWb hZ hZX
    go_wp2_with fail
    refine HNEW.out.mono ?_
    rintro y w1 ⟨rfl, b1⟩
    have hZ3 := (b1.block Z (blk_lt HZK.out)).trans HZK.out
    obtain ⟨V2, hV2, ⟨e0, e1, e2, e3⟩, hmv⟩ := in4_exit hZ3 (.slice none 0 0) (.int .i64 0) (.int .i64 0) (.int .i64 0)
    obtain ⟨⟨y0, y1, y2, y3⟩, el, g0, g1, g2, g3⟩ := in4_cells hZ3
    have HB3 := Lib.hid (below_at HBB.out b1)
    have HV2 := Lib.hid hV2
    have HMV := Lib.hid hmv
    clear hV2 hmv hZ3 b1
    go_wp2_with fail
    rw [← HV2.out]
    refine bodyPost_ret (v := .tuple #[.agg #[.slice none 0 0, .int .i64 0, .int .i64 0, .int .i64 0], .int .i64 1]) (by simp [results, Tryz.results26, go_sem, e0, e1, e2, e3]) rfl ?_
    exact ⟨none, 0, rfl, (Row.nil V2 9 1).rd, Nat.le_refl _, Nat.zero_le _, HB3.out.trans (HMV.out.below _ HB3.out.size (fun k hk e => by have := HZW.out; omega))⟩
set_option maxRecDepth 100000 in
set_option maxHeartbeats 2000000 in
theorem small_any (w : World) (p : Pg) (A : Option Addr) (cap : Nat) (f : Int) (hp : PgIn w p A) :
    Calls Tryz.prog 25 #[valP p A cap, .int .i64 f] w fun x w' => x = .returned (.bool (Pr.small p f)) ∧ Below w.heap.size w w' := by
  obtain ⟨Wa, X, hWa, hX, hBa, hXl, hXe⟩ := pg_box w p.vars p.mtx A p.code.length cap
  have hpa := hp.below hBa
  have hfew : Calls Tryz.prog 14 #[valP p A cap] Wa fun x w' => x = .returned (.bool (Pr.few p)) ∧ Below Wa.heap.size Wa w' := fewP_any Wa p A cap hpa.1 hpa.2.1 hpa.2.2
  have hright : ∀ u, Below Wa.heap.size Wa u → _ := fun u hu => refPRight_any u p A cap (hpa.below hu)
  have hall : ∀ u, Below Wa.heap.size Wa u → _ := fun u hu => refAll6_any u p A cap f 600 (hpa.below hu) (by omega)
  obtain ⟨fk, hfk⟩ : ∃ fk, fk = Pr.few p := ⟨_, rfl⟩
  obtain ⟨rt, hrt⟩ : ∃ rt, rt = decide (Pr.Ok p) := ⟨_, rfl⟩
  obtain ⟨⟨⟨c, a⟩, e⟩, hr⟩ : ∃ r, r = Pr.all6 p f 600 := ⟨_, rfl⟩
  have hres : Pr.small p f = (fk && rt && decide (0 ≤ f ∧ f ≤ 8) && (e == 0)) := by unfold Pr.small; rw [← hfk, ← hrt, ← hr]
  obtain ⟨res, hrr⟩ : ∃ r, r = Pr.small p f := ⟨_, rfl⟩
  rw [← hrr] at hres ⊢
  rw [← hfk] at hfew
  rw [← hrt] at hright
  rw [← hr] at hall
  unfold valP at hfew hright hall ⊢
  have HXE := Lib.hid hXe
  have HB := Lib.hid hBa
  have HFEW := Lib.hid hfew
  have HRT := Lib.hid hright
  have HALL := Lib.hid hall
  have HRES := Lib.hid hres
  obtain ⟨x0, x1, x2, xl⟩ := hXe Wa (Below.refl _ _)
  clear hXe hBa hfew hright hall hres hpa hp hrr hfk hrt hr
  go_enter Tryz.func25, Tryz.ntmps25
  go_upto_region 1 with fail
  rw [← hWa, ← hX]
  clear hWa hX
  go_wp2_with fail
  refine HFEW.out.mono ?_
  rintro y w1 ⟨rfl, b1⟩
  have HB1 := Lib.hid b1
  clear b1 x0 x1 x2 xl
  obtain ⟨x0, x1, x2, xl⟩ := HXE.out w1 HB1.out
  cases fk with
  | false =>
    go_wp2_with fail
    go_ret
    exact ⟨by rw [HRES.out]; rfl, below_at HB.out HB1.out⟩
  | true =>
    go_wp2_with fail
    refine (HRT.out w1 HB1.out).mono ?_
    rintro y w2 ⟨rfl, b2⟩
    have HB2 := Lib.hid (below_at HB1.out b2)
    clear b2 x0 x1 x2 xl
    obtain ⟨x0, x1, x2, xl⟩ := HXE.out w2 HB2.out
    cases rt with
    | false =>
      go_wp2_with fail
      go_ret
      exact ⟨by rw [HRES.out]; rfl, below_at HB.out HB2.out⟩
    | true =>
      by_cases h0 : f < 0
      · have HH := Lib.hid (decide_eq_false (show ¬ (0 ≤ f ∧ f ≤ 8) by omega))
        go_wp2_with fail
        go_ret
        exact ⟨by rw [HRES.out, HH.out]; rfl, below_at HB.out HB2.out⟩
      · by_cases h8 : 8 < f
        · have HH := Lib.hid (decide_eq_false (show ¬ (0 ≤ f ∧ f ≤ 8) by omega))
          go_wp2_with fail
          go_ret
          exact ⟨by rw [HRES.out, HH.out]; rfl, below_at HB.out HB2.out⟩
        · have HH := Lib.hid (decide_eq_true (show 0 ≤ f ∧ f ≤ 8 by omega))
          have HC := Lib.hid (HALL.out w2 HB2.out)
          go_wp2_with fail
          refine HC.out.mono ?_
          rintro y w3 ⟨KA, kc, rfl, _, _, _, b3⟩
          have HB3 := Lib.hid (below_at HB2.out b3)
          clear b3 HC HALL
          go_wp2_with fail
          go_ret
          exact ⟨by rw [HRES.out, HH.out]; rfl, (below_at HB.out HB3.out).alloc (below_at HB.out HB3.out).size _⟩
end Go.Proofs.YtcaapoacmfjnmaaGreat
