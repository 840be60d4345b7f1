/- ReportUnion: reports merged once more are the same; merged with another one's keys they have both. -/
import Derived.Test.YtgahjibjladafaaReT
namespace Go.Proofs.Ytgahjibjladafaa
open Go.RowKit
set_option linter.unusedVariables false

set_option maxRecDepth 100000 in
set_option maxHeartbeats 8000000 in
theorem reportUnion_any (W : World) (A : Option Addr) (cap : Nat) (a : List Ky.K) (B : Option Addr) (cap' : Nat) (b : List Ky.K)
    (hr : Rd W 1 A a.length (a.map sv)) (hr' : Rd W 1 B b.length (b.map sv))
    (hl : a.length ≤ cap) (hl2 : cap ≤ maxLen) (hl' : b.length ≤ cap') (hl2' : cap' ≤ maxLen) (hk : ∀ k ∈ a, k.length ≤ maxLen) (hk' : ∀ k ∈ b, k.length ≤ maxLen) :
    Calls Try.prog 11 #[.slice A a.length cap, .slice B b.length cap'] W fun e w' => e = .returned (.bool true) ∧ Below W.heap.size W w' := by
  have hfew : ∀ u, Below W.heap.size W u → Calls Try.prog 42 #[.slice A a.length cap] u fun x w' => x = .returned (.bool (fewK a)) ∧ Below u.heap.size u w' := fun u hu => few_any u A cap a (hr.below hu (Nat.le_refl _)) (Nat.le_trans hl hl2) hk
  have hfew' : ∀ u, Below W.heap.size W u → Calls Try.prog 42 #[.slice B b.length cap'] u fun x w' => x = .returned (.bool (fewK b)) ∧ Below u.heap.size u w' := fun u hu => few_any u B cap' b (hr'.below hu (Nat.le_refl _)) (Nat.le_trans hl' hl2') hk'
  obtain ⟨fk, hfk⟩ : ∃ fk, fk = fewK a := ⟨_, rfl⟩
  obtain ⟨fb, hfb⟩ : ∃ fb, fb = fewK b := ⟨_, rfl⟩
  rw [← hfk] at hfew
  rw [← hfb] at hfew'
  have HFK := Lib.hid hfk
  have HFB := Lib.hid hfb
  have HFEW := Lib.hid hfew
  have HFEW' := Lib.hid hfew'
  have HR := Lib.hid hr
  have HR' := Lib.hid hr'
  have HLA := Lib.hid (And.intro hl hl2)
  have HLB := Lib.hid (And.intro hl' hl2')
  have hmk := @run_makeMap Try.prog
  clear hr hr' hk hk' hfew hfew' hfk hfb hl hl2 hl' hl2'
  go_enter Try.func11, Try.ntmps11
  go_upto_region 1 with fail
  go_cut [26] (fun v w2 => Below W.heap.size W w2 ∧ ∃ z, v = .bool z ∧ (z = false → fk = true ∧ fb = true))
  case first =>
    go_wp2_with fail
    refine (awake15 _).mono ?_
    rintro x w1 ⟨rfl, b1⟩
    have HB1 := Lib.hid b1
    have HC1 := Lib.hid (HFEW.out w1 b1)
    clear b1
    go_wp2_with fail
    refine HC1.out.mono ?_
    rintro x w2 ⟨rfl, b2⟩
    have HB2 := Lib.hid (below_at HB1.out b2)
    clear b2
    cases fk with
    | false =>
      go_wp2_with fail
      go_meet
      exact ⟨HB2.out, _, rfl, fun h => by cases h⟩
    | true =>
      have HC2 := Lib.hid (HFEW'.out w2 HB2.out)
      go_wp2_with fail
      refine HC2.out.mono ?_
      rintro x w3 ⟨rfl, b3⟩
      have HB3 := Lib.hid (below_at HB2.out b3)
      clear b3
      cases fb with
      | false =>
        go_wp2_with fail
        go_meet
        exact ⟨HB3.out, _, rfl, fun h => by cases h⟩
      | true =>
        go_wp2_with fail
        all_goals (go_meet)
        all_goals (exact ⟨HB3.out, _, rfl, fun h => ⟨by trivial, by trivial⟩⟩)
  case rest =>
    obtain ⟨b1, z, rfl, hz⟩ := hcut
    have HB1 := Lib.hid b1
    clear b1
    cases z with
    | true =>
      go_wp2_with fail
      refine (awake15 _).mono ?_
      rintro e w2 ⟨rfl, b2⟩
      go_wp2_with fail
      go_ret
      exact ⟨rfl, below_at HB1.out b2⟩
    | false =>
      obtain ⟨rfl, rfl⟩ := hz rfl
      obtain ⟨ha6, ha2⟩ := Ky.few_factsQ HFK.out.symm
      obtain ⟨hb6, hb2⟩ := Ky.few_factsQ HFB.out.symm
      clear hz HFEW HFEW' ha2 hb2
      obtain ⟨i0, hi0, hz0, hz1, hz2⟩ := info_parts Try.infoStrR
      have hGl := Ky.gather_len a
      have hHl := Ky.gather_len b
      have hUl := Ky.gather_len (a ++ b)
      have hUU := Ky.gather_join a b
      have hU2 := Ky.gather_two a b
      have hG1 := Ky.gather_one a
      have hUn := Ky.strict_nodup (Ky.gather_strict (a ++ b))
      have hUm : ∀ x, x ∈ Ky.gather (a ++ b) ↔ x ∈ a ++ b := Ky.gather_mem (a ++ b)
      obtain ⟨G, hG⟩ : ∃ G, G = Ky.gather a := ⟨_, rfl⟩
      obtain ⟨H, hH⟩ : ∃ H, H = Ky.gather b := ⟨_, rfl⟩
      obtain ⟨U, hU⟩ : ∃ U, U = Ky.gather (a ++ b) := ⟨_, rfl⟩
      rw [List.length_append] at hUl
      rw [← hG] at hGl hUU hG1
      rw [← hH] at hHl hUU
      rw [← hU] at hUl hUU hU2 hUn hUm
      have hma : ∀ u, Below W.heap.size W u → Calls Try.prog 50 #[.bool true, .slice (some ⟨u.heap.size, 0, none⟩) 1 1] (u.alloc (Obj.cells #[.slice A a.length cap] 67)) fun x w' => ∃ A' cap', x = .returned (.agg #[.slice A' G.length cap', .bool true]) ∧ (Rd w' 1 A' G.length (G.map sv) ∧ G.length ≤ cap' ∧ cap' ≤ maxLen) ∧ Below u.heap.size u w' := fun u hu => by
        have := merge_any _ true (some ⟨u.heap.size, 0, none⟩) 1 [a] (one_stAt u 67 A cap a (HR.out.below hu (Nat.le_refl _)) HLA.out.1 HLA.out.2) (by simp) (by simp; omega)
        rw [show [a].flatten = a by simp, ← hG] at this
        exact this.mono fun x w' h => by obtain ⟨A', cap', h1, h2, h3⟩ := h; exact ⟨A', cap', h1, h2, below_at ((Below.refl u.heap.size u).alloc (Nat.le_refl _) _) h3⟩
      have hmb : ∀ u, Below W.heap.size W u → Calls Try.prog 50 #[.bool false, .slice (some ⟨u.heap.size, 0, none⟩) 1 1] (u.alloc (Obj.cells #[.slice B b.length cap'] 67)) fun x w' => ∃ A' cap', x = .returned (.agg #[.slice A' H.length cap', .bool false]) ∧ (Rd w' 1 A' H.length (H.map sv) ∧ H.length ≤ cap' ∧ cap' ≤ maxLen) ∧ Below u.heap.size u w' := fun u hu => by
        have := merge_any _ false (some ⟨u.heap.size, 0, none⟩) 1 [b] (one_stAt u 67 B cap' b (HR'.out.below hu (Nat.le_refl _)) HLB.out.1 HLB.out.2) (by simp) (by simp; omega)
        rw [show [b].flatten = b by simp, ← hH] at this
        exact this.mono fun x w' h => by obtain ⟨A', cap', h1, h2, h3⟩ := h; exact ⟨A', cap', h1, h2, below_at ((Below.refl u.heap.size u).alloc (Nat.le_refl _) _) h3⟩
      have hmr : ∀ u, Below W.heap.size W u → Calls Try.prog 51 #[.bool true, .slice (some ⟨u.heap.size, 0, none⟩) 2 2] (u.alloc (Obj.cells #[.slice A a.length cap, .slice B b.length cap'] 67)) fun x w' => ∃ A' cap', x = .returned (.agg #[.slice A' U.length cap', .bool true]) ∧ Rd w' 1 A' U.length (U.map sv) ∧ Below u.heap.size u w' := fun u hu => by
        have := refMerge_any _ true (some ⟨u.heap.size, 0, none⟩) 2 [a, b] (two_stAt u 67 A cap a B cap' b (HR.out.below hu (Nat.le_refl _)) HLA.out.1 HLA.out.2 (HR'.out.below hu (Nat.le_refl _)) HLB.out.1 HLB.out.2) (by simp) (by simp; omega)
        rw [hU2] at this
        exact this.mono fun x w' h => by obtain ⟨A', cap', h1, h2, h3⟩ := h; exact ⟨A', cap', h1, h2.1, below_at ((Below.refl u.heap.size u).alloc (Nat.le_refl _) _) h3⟩
      have hmc : ∀ (u : World) (A1 : Option Addr) (c1 : Nat) (A2 : Option Addr) (c2 : Nat), (Rd u 1 A1 G.length (G.map sv) ∧ G.length ≤ c1 ∧ c1 ≤ maxLen) → (Rd u 1 A2 H.length (H.map sv) ∧ H.length ≤ c2 ∧ c2 ≤ maxLen) → Calls Try.prog 50 #[.bool true, .slice (some ⟨u.heap.size, 0, none⟩) 2 2] (u.alloc (Obj.cells #[.slice A1 G.length c1, .slice A2 H.length c2] 67)) fun x w' => ∃ A' cap', x = .returned (.agg #[.slice A' U.length cap', .bool true]) ∧ Rd w' 1 A' U.length (U.map sv) ∧ Below u.heap.size u w' := fun u A1 c1 A2 c2 h1 h2 => by
        have := merge_any _ true (some ⟨u.heap.size, 0, none⟩) 2 [G, H] (two_stAt u 67 A1 c1 G A2 c2 H h1.1 h1.2.1 h1.2.2 h2.1 h2.2.1 h2.2.2) (by simp) (by simp; omega)
        rw [hUU] at this
        exact this.mono fun x w' h => by obtain ⟨A', cap', h1, h2, h3⟩ := h; exact ⟨A', cap', h1, h2.1, below_at ((Below.refl u.heap.size u).alloc (Nat.le_refl _) _) h3⟩
      have hmg : ∀ (u : World) (A1 : Option Addr) (c1 : Nat), (Rd u 1 A1 G.length (G.map sv) ∧ G.length ≤ c1 ∧ c1 ≤ maxLen) → Calls Try.prog 50 #[.bool true, .slice (some ⟨u.heap.size, 0, none⟩) 1 1] (u.alloc (Obj.cells #[.slice A1 G.length c1] 67)) fun x w' => ∃ A' cap', x = .returned (.agg #[.slice A' G.length cap', .bool true]) ∧ Rd w' 1 A' G.length (G.map sv) ∧ Below u.heap.size u w' := fun u A1 c1 h1 => by
        have := merge_any _ true (some ⟨u.heap.size, 0, none⟩) 1 [G] (one_stAt u 67 A1 c1 G h1.1 h1.2.1 h1.2.2) (by simp) (by simp; omega)
        rw [hG1] at this
        exact this.mono fun x w' h => by obtain ⟨A', cap', h1, h2, h3⟩ := h; exact ⟨A', cap', h1, h2.1, below_at ((Below.refl u.heap.size u).alloc (Nat.le_refl _) _) h3⟩
      have hsame : ∀ (u : World) (X : List Ky.K) (A' : Option Addr) (c' : Nat) (B' : Option Addr) (c'' : Nat), X.length ≤ 120 → Rd u 1 A' X.length (X.map sv) → Rd u 1 B' X.length (X.map sv) → Calls Try.prog 49 #[.slice A' X.length c', .slice B' X.length c''] u fun x w' => x = .returned (.bool true) ∧ Below u.heap.size u w' := fun u X A' c' B' c'' hX h1 h2 => by
        have := same6_any u A' c' X B' c'' X h1 h2 (by omega)
        rwa [decide_eq_true rfl] at this
      have HMA := Lib.hid hma
      have HMB := Lib.hid hmb
      have HMR := Lib.hid hmr
      have HMC := Lib.hid hmc
      have HMG := Lib.hid hmg
      have HSAME := Lib.hid hsame
      have HUN := Lib.hid hUn
      have HUM := Lib.hid hUm
      have hU120 : U.length ≤ 120 := by omega
      have hG60 : G.length ≤ 60 := by omega
      clear hma hmb hmr hmc hmg hsame hUn hUm hUU hU2 hG1 hG hH hU hHl hGl hUl
      go_wp2_with fail
      refine (HMA.out wc HB1.out).mono ?_
      rintro x w1 ⟨A1, c1, rfl, r1, b1⟩
      have B1 := Lib.hid (below_at HB1.out b1)
      have R1 := Lib.hid r1
      clear r1 b1
      go_wp2_with fail
      refine (HMB.out w1 B1.out).mono ?_
      rintro x w2 ⟨A2, c2, rfl, r2, b2⟩
      have B2 := Lib.hid (below_at B1.out b2)
      have R1 := Lib.hid (And.intro (R1.out.1.below b2 (Nat.le_refl _)) R1.out.2)
      have R2 := Lib.hid r2
      clear r2 b2
      go_upto_region 4 with fail
      obtain ⟨Wa, X, hWa, hX, hBa, hXl, hXe⟩ := box_rep w2 70 A1 G.length c1 true
      obtain ⟨Wb, Y, hWb, hY, hBb, hYl, hYe⟩ := box_rep Wa 70 A2 H.length c2 false
      have hY' : Y = w2.heap.size + 1 := by rw [hY, hWa]; simp
      rw [← hY', ← hWa, ← hWb, ← hX]
      have h3c := below_at hBa hBb
      have HX := Lib.hid (fun u (hu : Below Wb.heap.size Wb u) => hXe u (below_at hBb hu))
      have HY := Lib.hid hYe
      have B4 := Lib.hid (below_at B2.out h3c)
      have R1 := Lib.hid (And.intro (R1.out.1.below h3c (Nat.le_refl _)) R1.out.2)
      have R2 := Lib.hid (And.intro (R2.out.1.below h3c (Nat.le_refl _)) R2.out.2)
      obtain ⟨x0, x1, xl⟩ := HX.out Wb (Below.refl _ _)
      obtain ⟨y0, y1, yl⟩ := HY.out Wb (Below.refl _ _)
      clear hWa hX hBa hXl hXe hWb hY hBb hYl hYe hY' h3c
      go_wp2_with fail
      refine (HMC.out Wb A1 c1 A2 c2 R1.out R2.out).mono ?_
      rintro x w5 ⟨A3, c3, rfl, r3, b5⟩
      have B5 := Lib.hid (below_at B4.out b5)
      have F5 := Lib.hid b5
      have R1 := Lib.hid (And.intro (R1.out.1.below b5 (Nat.le_refl _)) R1.out.2)
      have R3 := Lib.hid r3
      clear r3 b5 x0 x1 xl y0 y1 yl R2
      go_upto_region 5 with fail
      obtain ⟨Wz, Z, hWz, hZ, hBz, hZl, hZe⟩ := box_rep w5 70 A3 U.length c3 true
      rw [← hWz, ← hZ]
      have B5 := Lib.hid (below_at B5.out hBz)
      have F5 := Lib.hid (below_at F5.out hBz)
      have R1 := Lib.hid (And.intro (R1.out.1.below hBz (Nat.le_refl _)) R1.out.2)
      have R3 := Lib.hid (R3.out.below hBz (Nat.le_refl _))
      have HZ := Lib.hid hZe
      clear hWz hZ hBz hZl hZe
      go_wp2_with fail
      refine (HMR.out Wz B5.out).mono ?_
      rintro x w6 ⟨A4, c4, rfl, r4, b6⟩
      have B6 := Lib.hid (below_at B5.out b6)
      have F6 := Lib.hid (below_at F5.out b6)
      have E6 := Lib.hid b6
      have R1 := Lib.hid (And.intro (R1.out.1.below b6 (Nat.le_refl _)) R1.out.2)
      have R3 := Lib.hid (R3.out.below b6 (Nat.le_refl _))
      have R4 := Lib.hid r4
      clear r4 b6 F5 B5
      go_upto_region 6 with fail
      obtain ⟨Wm, M, hWm, hM, hBm, hMl, hMe⟩ := box_rep w6 72 A4 U.length c4 true
      rw [← hWm, ← hM]
      have B6 := Lib.hid (below_at B6.out hBm)
      have F6 := Lib.hid (below_at F6.out hBm)
      have E6 := Lib.hid (below_at E6.out hBm)
      have R1 := Lib.hid (And.intro (R1.out.1.below hBm (Nat.le_refl _)) R1.out.2)
      have R3 := Lib.hid (R3.out.below hBm (Nat.le_refl _))
      have R4 := Lib.hid (R4.out.below hBm (Nat.le_refl _))
      have HM := Lib.hid hMe
      obtain ⟨x0, x1, xl⟩ := HX.out Wm F6.out
      clear hWm hM hBm hMl hMe
      go_wp2_with fail
      refine (HMG.out Wm A1 c1 R1.out).mono ?_
      rintro x w7 ⟨A5, c5, rfl, r5, b7⟩
      have B7 := Lib.hid (below_at B6.out b7)
      have F7 := Lib.hid (below_at F6.out b7)
      have E7 := Lib.hid (below_at E6.out b7)
      have D7 := Lib.hid b7
      have R1 := Lib.hid (R1.out.1.below b7 (Nat.le_refl _))
      have R3 := Lib.hid (R3.out.below b7 (Nat.le_refl _))
      have R4 := Lib.hid (R4.out.below b7 (Nat.le_refl _))
      have R5 := Lib.hid r5
      clear r5 b7 x0 x1 xl F6 E6 B6
      go_upto_region 7 with fail
      obtain ⟨Wn, N, hWn, hN, hBn, hNl, hNe⟩ := box_rep w7 70 A5 G.length c5 true
      rw [← hWn, ← hN]
      have B7 := Lib.hid (below_at B7.out hBn)
      have hq : ∀ u, Below Wn.heap.size Wn u → (u.cell? ⟨X, 0, none⟩ = some (.slice A1 G.length c1) ∧ u.cell? ⟨X, 1, none⟩ = some (.bool true) ∧ X < u.heap.size) ∧ (u.cell? ⟨Y, 1, none⟩ = some (.bool false) ∧ Y < u.heap.size) ∧
          (u.cell? ⟨Z, 0, none⟩ = some (.slice A3 U.length c3) ∧ Z < u.heap.size) ∧ (u.cell? ⟨M, 0, none⟩ = some (.slice A4 U.length c4) ∧ M < u.heap.size) ∧ u.cell? ⟨N, 0, none⟩ = some (.slice A5 G.length c5) ∧ N < u.heap.size := fun u hu => by
        have q1 := HY.out u (below_at (below_at F7.out hBn) hu)
        have q2 := HZ.out u (below_at (below_at E7.out hBn) hu)
        have q3 := HM.out u (below_at (below_at D7.out hBn) hu)
        have q4 := hNe u hu
        exact ⟨HX.out u (below_at (below_at F7.out hBn) hu), q1.2, ⟨q2.1, q2.2.2⟩, ⟨q3.1, q3.2.2⟩, q4.1, q4.2.2⟩
      have R1 := Lib.hid (R1.out.below hBn (Nat.le_refl _))
      have R3 := Lib.hid (R3.out.below hBn (Nat.le_refl _))
      have R4 := Lib.hid (R4.out.below hBn (Nat.le_refl _))
      have R5 := Lib.hid (R5.out.below hBn (Nat.le_refl _))
      have HQ := Lib.hid hq
      clear hWn hN hBn hNl hNe hq F7 E7 D7 HX HY HZ HM HMA HMB HMR HMC HMG
      go_upto_region 8 with fail
      obtain ⟨V, hV⟩ : ∃ V, V = Wn.alloc (Obj.map #[] 0) := ⟨_, rfl⟩
      obtain ⟨K, hK⟩ : ∃ K, K = Wn.heap.size := ⟨_, rfl⟩
      have hmade := MapAt.made Try.keyS Wn 0
      rw [← hV, ← hK] at hmade
      rw [← hV, ← hK]
      have HV : Hid (Below K Wn V) := Lib.hid (by rw [hV, hK]; exact (Below.refl _ _).alloc (Nat.le_refl _) _)
      have HK := Lib.hid hK
      have HMADE := Lib.hid hmade
      have HC3 := Lib.hid (str_cell R3.out.toB)
      obtain ⟨⟨x0, x1, xl⟩, ⟨y1, yl⟩, ⟨z0, zl⟩, ⟨m0, ml⟩, n0, nl⟩ := HQ.out V (HK.out ▸ HV.out)
      clear hV hK hmade
      go_wp2_with fail
      go_loopw [52] (fun v wr => ∃ (i : Nat) (m : List (ByteArray × Value)), i ≤ U.length ∧ v = .int .i64 i ∧ Hid (MapAt Try.keyS wr K m) ∧ Hid (HasK m (U.take i)) ∧ Hid (m.length = i) ∧ Hid (Below K Wn wr)) (fun v _ => U.length - (intOf v).toNat)
      case atStart => exact ⟨0, [], Nat.zero_le _, rfl, HMADE, Lib.hid (by rw [List.take_zero]; exact hasK_nil), Lib.hid rfl, HV⟩
      case round =>
        clear HMADE HV x0 x1 xl y1 yl z0 zl m0 ml n0 nl
        obtain ⟨i, m, hi, rfl, HMP, HHAS, HLEN, HB⟩ := hrel
        by_cases hlt : i < U.length
        · obtain ⟨s, hs⟩ := get_some hlt
          obtain ⟨g, o, rfl, hg, hc⟩ := HC3.out i s hs
          have ca := hc wr (HK.out ▸ HB.out)
          have lg : g < wr.heap.size := by have := HB.out.size; omega
          have HS := Lib.hid hs
          have k1 : (0 : Int) ≤ (i : Int) := Int.natCast_nonneg _
          have k2 : (i : Int) < (U.length : Int) := by omega
          clear hs hc
          go_wp2_with (at_mapUpdate; refine wpList_mapUpdate Try.keyS (by rfl) _ _ _ 86 4 (by rfl) Try.underlying86 K m (by rfl) HMP.out ⟨s.toArray⟩ (by rfl) (.bool true) (by rfl) ?_; intro w8 mp8 m8)
          go_roundw
          case rel =>
            exact ⟨i + 1, _, by omega, by go_num, Lib.hid mp8, Lib.hid (hasK_put HS.out HHAS.out), Lib.hid (by rw [hasK_len HUN.out HS.out HHAS.out, HLEN.out]), Lib.hid (HB.out.trans (m8.below K (Nat.le_of_lt HMP.out.lt) (fun q hq h => by omega)))⟩
          case measure => simp [intOf]; omega
        · obtain rfl : i = U.length := by omega
          have hall := HHAS.out
          rw [List.take_length] at hall
          have HALL := Lib.hid hall
          clear hall HHAS
          have hkl := HMP.out.lt
          have hbV : Below wr.heap.size wr (wr.alloc (Obj.cells #[] 9)) := (Below.refl _ _).alloc (Nat.le_refl _) _
          have hrV : Row (wr.alloc (Obj.cells #[] 9)) 9 1 (some ⟨wr.heap.size, 0, none⟩) 0 0 [] := row_empty (heap_alloc_new wr _)
          have hlV : wr.heap.size < (wr.alloc (Obj.cells #[] 9)).heap.size := by simp
          have hWV : Below W.heap.size W (wr.alloc (Obj.cells #[] 9)) := (B7.out.trans (HB.out.mono (by have := B7.out.size; have := HK.out; omega))).trans (hbV.mono (by have := B7.out.size; have := HB.out.size; have := HK.out; omega))
          have HRV := Lib.hid hrV
          have HLV := Lib.hid hlV
          have HA := Lib.hid (HR.out.below hWV (Nat.le_refl _))
          have HBB := Lib.hid (HR'.out.below hWV (Nat.le_refl _))
          have HBV := Lib.hid hbV
          have HWV := Lib.hid hWV
          clear hbV hrV hWV hlV
          go_wp2_with (at_builtin; first | (refine wpList_append_copy (by rfl) _ _ _ (by rfl) 9 i0 _ 1 16 Try.underlying67 hi0 hz0 hz1 hz2 rfl (by omega) ⟨wr.heap.size, 0, none⟩ 0 [] (by rfl) HRV.out A a.length cap (a.map sv) (by rfl) HA.out (by unfold maxLen; omega) (by omega) ?_; intro g7 o7 cap7 w7 hown7 hb7 hg7; obtain ⟨n7, hn7⟩ : ∃ n, n = 0 + a.length := ⟨_, rfl⟩; rw [← hn7] at hown7 ⊢; have HN7 := Lib.hid hn7; clear hn7; have HOWN7 := Lib.hid hown7; have HB7 := Lib.hid hb7; have HG7 := Lib.hid hg7; clear hown7 hb7 hg7) | (refine wpList_append_rd (by rfl) _ _ _ (by rfl) 9 i0 _ 1 16 Try.underlying67 hi0 hz0 hz1 hz2 rfl (by omega) (some ⟨g7, o7, none⟩) n7 cap7 ([] ++ a.map sv) (by rfl) HOWN7.out B b.length cap' (b.map sv) (by rfl) (HBB.out.below HB7.out (Nat.le_refl _)) (by intro u hu; obtain ⟨k, _, rfl⟩ := List.mem_map.1 hu; rfl) (by have := HN7.out; unfold maxLen; omega) (by have := HN7.out; omega) ?_; intro A8 cap8 w8 hown8 hm8 hg8; obtain ⟨n8, hn8⟩ : ∃ n, n = n7 + b.length := ⟨_, rfl⟩; rw [← hn8] at hown8 ⊢; have HN8 := Lib.hid hn8; clear hn8; have HOWN8 := Lib.hid hown8; have HM8 := Lib.hid hm8; clear hown8 hm8 hg8))
          have hn : n8 = (a ++ b).length := by have := HN7.out; have := HN8.out; rw [List.length_append]; omega
          have hb8 : Below wr.heap.size wr w8 := (HBV.out.trans (HB7.out.mono (Nat.le_of_lt HLV.out))).trans (HM8.out.below wr.heap.size (by have := HB7.out.size; have := HLV.out; omega) (fun q hq h => by
            obtain ⟨c, hc, rfl⟩ := h
            injection hc with hc
            subst hc
            have := HLV.out
            have hq' : g7 < wr.heap.size := hq
            rcases HG7.out with ⟨_, h⟩ | h
            · have h' : g7 = wr.heap.size := h
              omega
            · omega))
          have hk8 : Below K Wn w8 := HB.out.trans (hb8.mono (Nat.le_of_lt hkl))
          have hr8 : Rd w8 1 A8 (a ++ b).length ((a ++ b).map sv) := by
            have := HOWN8.out.rd
            rw [hn] at this
            simpa using this
          have hlook : ∀ s ∈ U, (Instr.lookup 86 (.map (some K)) (.string ⟨s.toArray⟩) false).run Try.prog w8 = .ok (.bool true) w8 := fun s hs => HasK.look (HMP.out.move (hb8.block K hkl)) HALL.out hs
          have HLOOK := Lib.hid hlook
          have HC8 := Lib.hid (str_cell hr8.toB)
          have HMP8 := Lib.hid (HMP.out.move (hb8.block K hkl))
          have HK8 := Lib.hid hk8
          have HN := Lib.hid hn
          have HWB8 := Lib.hid (B7.out.trans (hk8.mono (by have := B7.out.size; have := HK.out; omega)))
          have hnl : n8 ≤ 120 := by have := HN7.out; have := HN8.out; omega
          clear hn hb8 hk8 hr8 hlook HN7 HN8 HOWN7 HB7 HG7 HOWN8 HM8 HBV HWV HBB HA HRV HLV HB HMP hkl HALL
          go_loop [65] (fun v => ∃ k : Nat, k ≤ n8 ∧ v = .int .i64 k) (fun v => n8 - (intOf v).toNat)
          case atStart => exact ⟨0, Nat.zero_le _, rfl⟩
          case round =>
            obtain ⟨k, hk, rfl⟩ := hrel
            by_cases hlt : k < n8
            · obtain ⟨s, hs⟩ := get_some (show k < (a ++ b).length by have := HN.out; omega)
              obtain ⟨g, o, rfl, hg, hc⟩ := HC8.out k s hs
              have ca := hc w8 (Below.refl _ _)
              have hl := HLOOK.out s ((HUM.out s).2 (List.mem_of_getElem? hs))
              have k1 : (0 : Int) ≤ (k : Int) := Int.natCast_nonneg _
              have k2 : (k : Int) < (n8 : Int) := by omega
              clear hs hc
              go_wp2_with fail
              go_round
              case rel => exact ⟨k + 1, by omega, by go_num⟩
              case measure => simp [intOf]; omega
            · obtain rfl : k = n8 := by omega
              have HSU := Lib.hid (fun (u : World) (hu : Below Wn.heap.size Wn u) => HSAME.out u U A3 c3 A4 c4 hU120 (R3.out.below hu (Nat.le_refl _)) (R4.out.below hu (Nat.le_refl _)))
              have HSG := Lib.hid (fun (u : World) (hu : Below Wn.heap.size Wn u) => HSAME.out u G A5 c5 A1 c1 (by omega) (R5.out.below hu (Nat.le_refl _)) (R1.out.below hu (Nat.le_refl _)))
              have D8 := Lib.hid (show Below Wn.heap.size Wn w8 from HK.out ▸ HK8.out)
              clear HSAME R1 R3 R4 R5 HC8 HLOOK HK8 HUN HUM
              obtain ⟨⟨x0, x1, xl⟩, ⟨y1, yl⟩, ⟨z0, zl⟩, ⟨m0, ml⟩, n0, nl⟩ := HQ.out w8 D8.out
              go_wp2_with fail
              refine (HSU.out w8 D8.out).mono ?_
              rintro x u1 ⟨rfl, cc⟩
              have E1 := Lib.hid (below_at D8.out cc)
              have HMP9 := Lib.hid (HMP8.out.move (cc.block K HMP8.out.lt))
              clear x0 x1 xl y1 yl z0 zl m0 ml n0 nl cc
              obtain ⟨⟨x0, x1, xl⟩, ⟨y1, yl⟩, ⟨z0, zl⟩, ⟨m0, ml⟩, n0, nl⟩ := HQ.out u1 E1.out
              go_wp2_with fail
              refine (HSG.out u1 E1.out).mono ?_
              rintro x u2 ⟨rfl, cc⟩
              have E2 := Lib.hid (below_at E1.out cc)
              have hml := fun ty => mapAt_len (HMP9.out.move (cc.block K HMP9.out.lt)) ty
              rw [HLEN.out] at hml
              clear x0 x1 xl y1 yl z0 zl m0 ml n0 nl cc
              obtain ⟨⟨x0, x1, xl⟩, ⟨y1, yl⟩, ⟨z0, zl⟩, ⟨m0, ml⟩, n0, nl⟩ := HQ.out u2 E2.out
              go_wp2_with fail
              go_ret
              exact ⟨by simp [*], below_at B7.out E2.out⟩
open Go.ChangeShapes Go.WideShapes Go.ChangeAt
set_option maxRecDepth 100000 in
theorem ReportUnion_walk {H : Type} {enc : TypeId × Value → H} (W : World) {base : Nat} {v0 v1 : Value} {d0 d1 : DataW H} {p0 p1 : List MemPlace}
    (o0 : Value.okWide Try.prog W .any base 67 v0) (h0 : DataW.Trod enc Try.prog W 0 (fun _ => true) true 67 v0 d0 p0)
    (o1 : Value.okWide Try.prog W .any base 67 v1) (h1 : DataW.Trod enc Try.prog W 0 (fun _ => true) true 67 v1 d1 p1) :
    Calls Try.prog 11 #[v0, v1] W fun e w' => e = .returned (.bool true) ∧ Below W.heap.size W w' := by
  obtain ⟨f0, hf0⟩ := h0
  obtain ⟨f1, hf1⟩ := h1
  obtain ⟨A, len, cap, rfl⟩ := okWide_slice Try.underlying67 o0
  obtain ⟨B, len', cap', rfl⟩ := okWide_slice Try.underlying67 o1
  obtain ⟨a, rfl, hr, h3, h4, hk⟩ := strs_readQ (by simpa [Value.cells] using hf0)
  obtain ⟨b, rfl, hr', h3', h4', hk'⟩ := strs_readQ (by simpa [Value.cells] using hf1)
  exact reportUnion_any W A cap a B cap' b hr hr' h3 h4 h3' h4' hk hk'
namespace reportUnion
theorem own : ownKnob Try.prog.godebug = none := by kernel_rfl
theorem laidOut : laidOutB Try.prog = true := by kernel_rfl
set_option maxRecDepth 100000 in
theorem lifted (os : Os) (started : os.Started) (H : Type) (enc : TypeId × Value → H) :
    ReturnsInHanded {} Try.checked os 11 .any (Rows.reportUnionSpec.pre6 enc Try.prog Try.f11 Rows.reportUnionRow.domain false) (Rows.reportUnionSpec.post enc Try.prog Try.f11 false true false false) := by
  refine returnsInHanded_of_change_sized (C := Try.checked) own started (by kernel_rfl) Try.func11
    (ChangeSpec.witness6 (enc := enc) (C := Try.checked) false ⟨#[], #[.slice none 0 0, .slice none 0 0], []⟩ 8 (by kernel_rfl) (by kernel_rfl) (by kernel_rfl) (by kernel_rfl)) ?_
  intro W base args ds gs before hval0 hW hcnd hsz0 _
  have hval : ∀ (j : Nat) t v, Try.f11.params[j]? = some t → args[j]? = some v → Value.okWide Try.prog W .any base t v := hval0
  have hW' := hW
  obtain ⟨p, q, hA0, hV, rfl, hfz, hnd⟩ := hW
  have hA : DataW.TrodAll enc Try.prog W 0 (fun _ => true) true Try.f11.params.toList args.toList ds p := hA0
  rw [Try.params11] at hA hval
  obtain ⟨v0, vs0, d0, ds0, p0, q0, hargs, rfl, rfl, h0, r0⟩ := trodAll_cons hA
  obtain ⟨v1, vs1, d1, ds1, p1, q1, rfl, rfl, rfl, h1, r1⟩ := trodAll_cons r0
  obtain ⟨rfl, rfl, rfl⟩ := trodAll_nil r1
  obtain rfl : args = #[v0, v1] := by cases args; simp_all
  obtain ⟨rfl, rfl⟩ := trodVars_none hV
  have lt0 : ∀ x ∈ p0, x.block < W.heap.size := by obtain ⟨m, hm⟩ := h0; exact DataW.trod_lt m _ _ _ hm
  have lt1 : ∀ x ∈ p1, x.block < W.heap.size := by obtain ⟨m, hm⟩ := h1; exact DataW.trod_lt m _ _ _ hm
  clear hA0 hval0 hsz0
  refine (ReportUnion_walk W (hval 0 67 v0 rfl rfl) h0 (hval 1 67 v1 rfl rfl) h1).mono fun e W' ⟨he, bel⟩ => ?_
  subst he
  exact ⟨_, rfl, _, _, _, [], _, [], hW', trodAll_mk1 (shut_bool Try.underlying4 _), (trodAll_cons_mk (Below.trod laidOut (by kernel_rfl) (of_decide_eq_true (by kernel_rfl)) h0 bel lt0) (trodAll_cons_mk (Below.trod laidOut (by kernel_rfl) (of_decide_eq_true (by kernel_rfl)) h1 bel lt1) trodAll_mk0)), rfl, bel.frame _, fun h => (by cases h)⟩
theorem over : Rows.reportUnionRow.holds Try.pinned (OpenSpec.ofChange Rows.reportUnionSpec) :=
  OpenClaim.holds_of_wide 11 Try.f11 rfl rfl rfl rfl rfl rfl rfl ⟨rfl, rfl, rfl, rfl, rfl⟩ rfl rfl rfl rfl rfl (by kernel_rfl) Try.func11 (by kernel_rfl)
    (of_decide_eq_true (by kernel_rfl)) (by unfold Func.isWrapper; first | (rw [if_pos (by decide +kernel)]; kernel_rfl) | (rw [if_neg (by decide +kernel)]; exact ⟨rfl, rfl⟩))
    (fun os started H enc _ => lifted os started H enc)
end reportUnion
/-- The row. -/
theorem reportUnion_holds : Rows.ReportUnionSaid := reportUnion.over
#print axioms reportUnion_holds
end Go.Proofs.Ytgahjibjladafaa
