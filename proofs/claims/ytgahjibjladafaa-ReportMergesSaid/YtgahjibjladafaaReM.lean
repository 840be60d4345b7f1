/- ReportMerges: whatever lists the same keys stand in, and however often, merged they are the same; unlike sets of keys aren't. -/
import Derived.Test.YtgahjibjladafaaReQ
import Derived.Test.YtgahjibjladafaaPlanF
namespace Go.Proofs.Ytgahjibjladafaa
open Go.RowKit
set_option linter.unusedVariables false

set_option maxRecDepth 100000 in
set_option maxHeartbeats 8000000 in
theorem reportMerges_any (W : World) (A : Option Addr) (cap : Nat) (a : List Ky.K) (B : Option Addr) (cap' : Nat) (b : List Ky.K) (C : Option Addr) (cap2 : Nat) (ts : List Nat)
    (hr : Rd W 1 A a.length (a.map sv)) (hr' : Rd W 1 B b.length (b.map sv)) (hr2 : Rd W 1 C ts.length (ts.map (fun (t : Nat) => Value.int .u8 (t : Int))))
    (hl : a.length ≤ cap) (hl2 : cap ≤ maxLen) (hl' : b.length ≤ cap') (hl2' : cap' ≤ maxLen) (hk : ∀ k ∈ a, k.length ≤ maxLen) (hk' : ∀ k ∈ b, k.length ≤ maxLen) (hg : ∀ t ∈ ts, t ≤ 255) (ht : ts.length ≤ maxLen) :
    Calls Try.prog 10 #[.slice A a.length cap, .slice B b.length cap', .slice C ts.length cap2] W fun e w' => e = .returned (.bool true) ∧ Below W.heap.size W w' := by
  have hm1 : ts.length < 9223372036854775808 := by unfold maxLen at ht; omega
  have hfew : ∀ u, Below W.heap.size W u → Calls Try.prog 42 #[.slice A a.length cap] u fun x w' => x = .returned (.bool (fewK a)) ∧ Below u.heap.size u w' := fun u hu => few_any u A cap a (hr.below hu (Nat.le_refl _)) (Nat.le_trans hl hl2) hk
  have hfew' : ∀ u, Below W.heap.size W u → Calls Try.prog 42 #[.slice B b.length cap'] u fun x w' => x = .returned (.bool (fewK b)) ∧ Below u.heap.size u w' := fun u hu => few_any u B cap' b (hr'.below hu (Nat.le_refl _)) (Nat.le_trans hl' hl2') hk'
  obtain ⟨fk, hfk⟩ : ∃ fk, fk = fewK a := ⟨_, rfl⟩
  obtain ⟨fb, hfb⟩ : ∃ fb, fb = fewK b := ⟨_, rfl⟩
  rw [← hfk] at hfew
  rw [← hfb] at hfew'
  have HFK := Lib.hid hfk
  have HFB := Lib.hid hfb
  have HFEW := Lib.hid hfew
  have HFEW' := Lib.hid hfew'
  have HR := Lib.hid hr
  have HR' := Lib.hid hr'
  have HC := Lib.hid (str_cell hr.toB)
  have HT := Lib.hid (u8_cell hr2.toB)
  have HG := Lib.hid hg
  have HLA := Lib.hid (And.intro hl hl2)
  have HLB := Lib.hid (And.intro hl' hl2')
  clear hr hr' hr2 hk hk' hfew hfew' hfk hfb hl hl2 hl' hl2' hg ht
  go_enter Try.func10, Try.ntmps10
  go_upto_region 1 with fail
  go_cut [32] (fun v w2 => Below W.heap.size W w2 ∧ ∃ z, v = .bool z ∧ (z = false → fk = true ∧ fb = true ∧ ts.length ≤ 100))
  case first =>
    go_wp2_with fail
    refine (awake15 _).mono ?_
    rintro x w1 ⟨rfl, b1⟩
    have HB1 := Lib.hid b1
    have HC1 := Lib.hid (HFEW.out w1 b1)
    clear b1
    go_wp2_with fail
    refine HC1.out.mono ?_
    rintro x w2 ⟨rfl, b2⟩
    have HB2 := Lib.hid (below_at HB1.out b2)
    clear b2
    cases fk with
    | false =>
      go_wp2_with fail
      go_meet
      exact ⟨HB2.out, _, rfl, fun h => by cases h⟩
    | true =>
      have HC2 := Lib.hid (HFEW'.out w2 HB2.out)
      go_wp2_with fail
      refine HC2.out.mono ?_
      rintro x w3 ⟨rfl, b3⟩
      have HB3 := Lib.hid (below_at HB2.out b3)
      clear b3
      cases fb with
      | false =>
        go_wp2_with fail
        go_meet
        exact ⟨HB3.out, _, rfl, fun h => by cases h⟩
      | true =>
        go_wp2_with fail
        all_goals (go_meet)
        all_goals (exact ⟨HB3.out, _, rfl, fun h => ⟨by trivial, by trivial, by first | (cases h; done) | (simp at h; omega) | omega⟩⟩)
  case rest =>
    obtain ⟨b1, z, rfl, hz⟩ := hcut
    have HB1 := Lib.hid b1
    clear b1
    cases z with
    | true =>
      go_wp2_with fail
      refine (awake15 _).mono ?_
      rintro e w2 ⟨rfl, b2⟩
      go_wp2_with fail
      go_ret
      exact ⟨rfl, below_at HB1.out b2⟩
    | false =>
      obtain ⟨rfl, rfl, h6⟩ := hz rfl
      obtain ⟨ha6, ha2⟩ := Ky.few_factsQ HFK.out.symm
      obtain ⟨hb6, hb2⟩ := Ky.few_factsQ HFB.out.symm
      have HA2 := Lib.hid ha2
      have HB2' := Lib.hid hb2
      clear hz hm1 HFEW HFEW' ha2 hb2
      obtain ⟨i0, hi0, hz0, hz1, hz2⟩ := info_parts Try.infoStrR
      go_upto_region 4 with fail
      obtain ⟨V, hV⟩ : ∃ V, V = wc.alloc (Obj.cells #[.slice none 0 0, .slice none 0 0, .slice none 0 0] 67) := ⟨_, rfl⟩
      obtain ⟨Z, hZ⟩ : ∃ Z, Z = wc.heap.size := ⟨_, rfl⟩
      have hls := Ls.begun wc 67 W.heap.size HB1.out.size
      rw [← hV, ← hZ] at hls
      rw [← hV, ← hZ]
      have HBV : Hid (Below W.heap.size W V) := Lib.hid (by rw [hV]; exact HB1.out.alloc HB1.out.size _)
      have HLS := Lib.hid hls
      clear hV hZ hls
      go_wp2_with fail
      go_loopw [37] (fun v wr => ∃ (i : Nat) (f : Nat → List Ky.K) (p : Nat → Option Addr × Nat), i ≤ a.length ∧ v = .int .i64 i ∧ Hid (Ls wr W.heap.size Z 67 f p) ∧ Hid (∀ x, InLs f x ↔ x ∈ a.take i) ∧ Hid (∀ j, (f j).length ≤ 2 * i) ∧ Hid (Below W.heap.size W wr)) (fun v _ => a.length - (intOf v).toNat)
      case atStart => exact ⟨0, _, _, Nat.zero_le _, rfl, HLS, Lib.hid (fun x => by simp [InLs]), Lib.hid (fun j => Nat.le_refl _), HBV⟩
      case round =>
        clear HLS HBV
        obtain ⟨i, f, p, hi, rfl, HLS, HIN, HLEN, HB⟩ := hrel
        by_cases hlt : i < a.length
        · obtain ⟨s, hs⟩ := get_some hlt
          obtain ⟨g, o, rfl, hg, hc⟩ := HC.out i s hs
          have ca := hc wr HB.out
          have lg : g < wr.heap.size := by have := HB.out.size; omega
          have HS := Lib.hid hs
          have k1 : (0 : Int) ≤ (i : Int) := Int.natCast_nonneg _
          have k2 : (i : Int) < (a.length : Int) := by omega
          clear hs hc
          go_upto_if 45 with fail
          go_cut [10] (fun v w2 => w2 = wr ∧ ∃ k : Nat, k < 3 ∧ v = .int .i64 k)
          case first =>
            by_cases hit : i < ts.length
            · obtain ⟨t, htt⟩ := get_some hit
              obtain ⟨g2, o2, rfl, hg2, hc2⟩ := HT.out i t htt
              have ct := hc2 wr HB.out
              have lg2 : g2 < wr.heap.size := by have := HB.out.size; omega
              have h255 := HG.out t (List.mem_of_getElem? htt)
              have k3 : (i : Int) < (ts.length : Int) := by omega
              have hd : decide (i < ts.length) = true := by simp; omega
              have k5 : (t : Int) ≤ 255 := by omega
              have k6 : (0 : Int) ≤ (t : Int) := by omega
              clear htt hc2
              go_wp2_with fail
              go_meet
              exact ⟨by first | rfl | trivial, t % 3, by omega, by go_num⟩
            · have k3 : ¬ (i : Int) < (ts.length : Int) := by omega
              have hd : decide (i < ts.length) = false := by simp; omega
              go_wp2_with fail
              go_meet
              exact ⟨by first | rfl | trivial, 0, by omega, rfl⟩
          case rest =>
            obtain ⟨hw2, k, hk, rfl⟩ := hcut
            subst hw2
            rcases (show k = 0 ∨ k = 1 ∨ k = 2 by omega) with rfl | rfl | rfl
            · have lz := HLS.out.lt
              have cz := HLS.out.cell (k := 0) (by omega)
              have hrk := HLS.out.row 0 (by omega)
              have hlk := HLEN.out 0
              have b0 : Below wc.heap.size wc (wc.alloc (Obj.cells #[sv s] 9)) := (Below.refl _ _).alloc (Nat.le_refl _) _
              have hmv : ∀ u, Below (wc.alloc (Obj.cells #[sv s] 9)).heap.size (wc.alloc (Obj.cells #[sv s] 9)) u → u.cell? ⟨Z, 0, none⟩ = some (.slice (p 0).1 (f 0).length (p 0).2) ∧ u.frozen? ⟨Z, 0, none⟩ = false ∧ Z < u.heap.size := fun u hu => by
                have := HLS.out.move (below_at b0 hu)
                exact ⟨this.cell (by omega), this.free 0, this.lt⟩
              obtain ⟨AK, hAK⟩ : ∃ x, x = (p 0).1 := ⟨_, rfl⟩
              obtain ⟨cK, hcK⟩ : ∃ x, x = (p 0).2 := ⟨_, rfl⟩
              obtain ⟨nK, hnK⟩ : ∃ x, x = (f 0).length := ⟨_, rfl⟩
              rw [← hAK, ← hcK, ← hnK] at cz hrk hmv
              rw [← hnK] at hlk
              have HRK := Lib.hid (hrk.rd.below b0 (Nat.le_refl _))
              have HB0 := Lib.hid b0
              have HMV := Lib.hid hmv
              have HAK := Lib.hid (And.intro hAK (And.intro hcK hnK))
              clear hrk b0 hmv hAK hcK hnK
              go_upto_region 11 with (at_builtin; refine wpList_append_copy (by rfl) _ _ _ (by rfl) 9 i0 _ 1 16 Try.underlying67 hi0 hz0 hz1 hz2 rfl (by omega) ⟨wc.heap.size, 0, none⟩ 1 [sv s] (by rfl) (row_one (heap_alloc_new wc _)) AK nK cK ((f 0).map sv) (by rfl) HRK.out (by unfold maxLen; omega) (by omega) ?_; intro g7 o7 cap7 w2 hown hb2 hg7; obtain ⟨cz2, fz2, lz2⟩ := HMV.out w2 hb2; have HOWN := Lib.hid hown; have HBB2 := Lib.hid hb2; have HG7 := Lib.hid hg7; clear hown hb2 hg7)
              obtain ⟨h8, h9⟩ := HLS.out.put (k := 0) (by omega) (l := s :: f 0) (n := 1 + nK) (by have := HAK.out.2.2; simp; omega) (Mod.of_below_size (below_at HB0.out HBB2.out) _) HOWN.out (Or.inr (by rcases HG7.out with ⟨_, h⟩ | h <;> simp at h <;> omega))
              obtain ⟨U, hU⟩ : ∃ U, U = w2.setCell ⟨Z, 0, none⟩ (.slice (some ⟨g7, o7, none⟩) (1 + nK) cap7) := ⟨_, rfl⟩
              rw [← hU]
              rw [← hU] at h8 h9
              obtain ⟨f8, p8, HL8, HIN8, HLEN8⟩ : ∃ f8 p8, Hid (Ls U W.heap.size Z 67 f8 p8) ∧ Hid (∀ x, InLs f8 x ↔ x ∈ a.take (i + 1)) ∧ Hid (∀ j, (f8 j).length ≤ 2 * i + 1) :=
                ⟨_, _, Lib.hid h8, Lib.hid (in_step HS.out HIN.out (fun x => upd_in (k := 0) (by omega) (fun x => by simp) x)), Lib.hid (fun j => upd_len HLEN.out (by have := HLEN.out 0; simp; omega) j)⟩
              have HB8 := Lib.hid (HB.out.trans h9)
              have ca8 : U.cell? ⟨g, o + i, none⟩ = some (.string ⟨s.toArray⟩) := by
                obtain ⟨_, _, e, _, hc⟩ := HC.out i s HS.out
                injection e with e
                injection e with e1 e2
                subst e1 e2
                exact hc U HB8.out
              have lz8 := HL8.out.lt
              clear hU h8 h9 cz cz2 fz2 lz2 lz HMV HRK HOWN HBB2 HG7 HAK ca lg HB0 hlk HB HLS HIN HLEN
              by_cases hit : i < ts.length
              · obtain ⟨t, htt⟩ := get_some hit
                obtain ⟨g2, o2, rfl, hg2, hc2⟩ := HT.out i t htt
                have ct := hc2 U HB8.out
                have lg2 : g2 < U.heap.size := by have := HB8.out.size; omega
                have h255 := HG.out t (List.mem_of_getElem? htt)
                have k3 : (i : Int) < (ts.length : Int) := by omega
                have hd : decide (i < ts.length) = true := by simp; omega
                clear htt hc2
                by_cases h128 : 128 < t
                · have k4 : (128 : Int) < (t : Int) := by omega
                  have hd2 : decide (128 < t) = true := by simp; omega
                  have cz := HL8.out.cell (k := 1) (by omega)
                  have hlk := HLEN8.out 1
                  have b0 : Below U.heap.size U (U.alloc (Obj.cells #[sv s] 9)) := (Below.refl _ _).alloc (Nat.le_refl _) _
                  have hl9 := HL8.out.move b0
                  have hrj := hl9.row 1 (by omega)
                  have hmv : ∀ u, Mod (fun x => ∃ a, (p8 1).1 = some a ∧ x = a.block) (U.alloc (Obj.cells #[sv s] 9)) u → u.cell? ⟨Z, 1, none⟩ = some (.slice (p8 1).1 (f8 1).length (p8 1).2) ∧ u.frozen? ⟨Z, 1, none⟩ = false ∧ Z < u.heap.size := fun u hu => hl9.at_mod (k := 1) (by omega) hu (j := 1) (by omega)
                  have hpu : ∀ u g' o' cap', Mod (fun x => ∃ a, (p8 1).1 = some a ∧ x = a.block) (U.alloc (Obj.cells #[sv s] 9)) u → Row u 9 1 (some ⟨g', o', none⟩) ((f8 1).length + 1) cap' ((f8 1).map sv ++ [sv s]) → ((∃ a, (p8 1).1 = some a ∧ g' = a.block) ∨ (U.alloc (Obj.cells #[sv s] 9)).heap.size ≤ g') →
                      ∃ f9 p9, Ls (u.setCell ⟨Z, 1, none⟩ (.slice (some ⟨g', o', none⟩) ((f8 1).length + 1) cap')) W.heap.size Z 67 f9 p9 ∧ (∀ x, InLs f9 x ↔ x ∈ a.take (i + 1)) ∧ (∀ j, (f9 j).length ≤ 2 * (i + 1)) ∧ Below W.heap.size W (u.setCell ⟨Z, 1, none⟩ (.slice (some ⟨g', o', none⟩) ((f8 1).length + 1) cap')) := fun u g' o' cap' h1 h2 h3 => by
                    obtain ⟨q1, q2⟩ := hl9.put (k := 1) (by omega) (l := f8 1 ++ [s]) (n := (f8 1).length + 1) (by simp) h1 (by rw [List.map_append]; exact h2) h3
                    exact ⟨_, _, q1, in_again HS.out HIN8.out (fun x => upd_in (k := 1) (by omega) (fun x => by simp [or_comm]) x), fun j => upd_len HLEN8.out (by have := HLEN8.out 1; simp; omega) j, HB8.out.trans ((b0.mono (by have := HB8.out.size; omega)).trans q2)⟩
                  obtain ⟨AK, hAK⟩ : ∃ x, x = (p8 1).1 := ⟨_, rfl⟩
                  obtain ⟨cK, hcK⟩ : ∃ x, x = (p8 1).2 := ⟨_, rfl⟩
                  obtain ⟨nK, hnK⟩ : ∃ x, x = (f8 1).length := ⟨_, rfl⟩
                  rw [← hAK, ← hnK, ← hcK] at cz hrj hmv
                  rw [← hAK, ← hnK] at hpu
                  rw [← hnK] at hlk
                  have HRJ := Lib.hid hrj
                  have HMV := Lib.hid hmv
                  have HPU := Lib.hid hpu
                  clear hrj hmv hpu b0 hl9 hAK hcK hnK
                  go_wp2_with (at_builtin; refine wpList_append_row (by rfl) _ _ _ (by rfl) 9 i0 _ 1 16 Try.underlying67 hi0 hz0 hz1 hz2 rfl (by omega) AK nK cK ((f8 1).map sv) (by rfl) HRJ.out ⟨U.heap.size, 0, none⟩ 1 1 [sv s] (by rfl) (by rfl) (World.news_of_block (cs := #[sv s]) (t := 9) (fr := (0, 0)) (heap_alloc_new U _)) (by simp [Value.oneCell', sv]) (by omega) (by unfold maxLen; omega) (by omega) ?_; intro g7 o7 cap7 w2 hown hm2 hg7; obtain ⟨cz2, fz2, lz2⟩ := HMV.out w2 hm2; have HQ := Lib.hid (HPU.out w2 g7 o7 cap7 hm2 hown hg7); clear hown hm2 hg7)
                  obtain ⟨f9, p9, q1, q2, q3, q4⟩ := HQ.out
                  go_roundw
                  case rel => exact ⟨i + 1, f9, p9, by omega, by go_num, Lib.hid q1, Lib.hid q2, Lib.hid q3, Lib.hid q4⟩
                  case measure => simp [intOf]; omega
                · have k4 : ¬ (128 : Int) < (t : Int) := by omega
                  have hd2 : decide (128 < t) = false := by simp; omega
                  go_wp2_with fail
                  go_roundw
                  case rel => exact ⟨i + 1, f8, p8, by omega, by go_num, HL8, HIN8, Lib.hid (fun j => by have := HLEN8.out j; omega), HB8⟩
                  case measure => simp [intOf]; omega
              · have k3 : ¬ (i : Int) < (ts.length : Int) := by omega
                have hd : decide (i < ts.length) = false := by simp; omega
                go_wp2_with fail
                go_roundw
                case rel => exact ⟨i + 1, f8, p8, by omega, by go_num, HL8, HIN8, Lib.hid (fun j => by have := HLEN8.out j; omega), HB8⟩
                case measure => simp [intOf]; omega
            · have lz := HLS.out.lt
              have cz := HLS.out.cell (k := 1) (by omega)
              have hrk := HLS.out.row 1 (by omega)
              have hlk := HLEN.out 1
              have b0 : Below wc.heap.size wc (wc.alloc (Obj.cells #[sv s] 9)) := (Below.refl _ _).alloc (Nat.le_refl _) _
              have hmv : ∀ u, Below (wc.alloc (Obj.cells #[sv s] 9)).heap.size (wc.alloc (Obj.cells #[sv s] 9)) u → u.cell? ⟨Z, 1, none⟩ = some (.slice (p 1).1 (f 1).length (p 1).2) ∧ u.frozen? ⟨Z, 1, none⟩ = false ∧ Z < u.heap.size := fun u hu => by
                have := HLS.out.move (below_at b0 hu)
                exact ⟨this.cell (by omega), this.free 1, this.lt⟩
              obtain ⟨AK, hAK⟩ : ∃ x, x = (p 1).1 := ⟨_, rfl⟩
              obtain ⟨cK, hcK⟩ : ∃ x, x = (p 1).2 := ⟨_, rfl⟩
              obtain ⟨nK, hnK⟩ : ∃ x, x = (f 1).length := ⟨_, rfl⟩
              rw [← hAK, ← hcK, ← hnK] at cz hrk hmv
              rw [← hnK] at hlk
              have HRK := Lib.hid (hrk.rd.below b0 (Nat.le_refl _))
              have HB0 := Lib.hid b0
              have HMV := Lib.hid hmv
              have HAK := Lib.hid (And.intro hAK (And.intro hcK hnK))
              clear hrk b0 hmv hAK hcK hnK
              go_upto_region 11 with (at_builtin; refine wpList_append_copy (by rfl) _ _ _ (by rfl) 9 i0 _ 1 16 Try.underlying67 hi0 hz0 hz1 hz2 rfl (by omega) ⟨wc.heap.size, 0, none⟩ 1 [sv s] (by rfl) (row_one (heap_alloc_new wc _)) AK nK cK ((f 1).map sv) (by rfl) HRK.out (by unfold maxLen; omega) (by omega) ?_; intro g7 o7 cap7 w2 hown hb2 hg7; obtain ⟨cz2, fz2, lz2⟩ := HMV.out w2 hb2; have HOWN := Lib.hid hown; have HBB2 := Lib.hid hb2; have HG7 := Lib.hid hg7; clear hown hb2 hg7)
              obtain ⟨h8, h9⟩ := HLS.out.put (k := 1) (by omega) (l := s :: f 1) (n := 1 + nK) (by have := HAK.out.2.2; simp; omega) (Mod.of_below_size (below_at HB0.out HBB2.out) _) HOWN.out (Or.inr (by rcases HG7.out with ⟨_, h⟩ | h <;> simp at h <;> omega))
              obtain ⟨U, hU⟩ : ∃ U, U = w2.setCell ⟨Z, 1, none⟩ (.slice (some ⟨g7, o7, none⟩) (1 + nK) cap7) := ⟨_, rfl⟩
              rw [← hU]
              rw [← hU] at h8 h9
              obtain ⟨f8, p8, HL8, HIN8, HLEN8⟩ : ∃ f8 p8, Hid (Ls U W.heap.size Z 67 f8 p8) ∧ Hid (∀ x, InLs f8 x ↔ x ∈ a.take (i + 1)) ∧ Hid (∀ j, (f8 j).length ≤ 2 * i + 1) :=
                ⟨_, _, Lib.hid h8, Lib.hid (in_step HS.out HIN.out (fun x => upd_in (k := 1) (by omega) (fun x => by simp) x)), Lib.hid (fun j => upd_len HLEN.out (by have := HLEN.out 1; simp; omega) j)⟩
              have HB8 := Lib.hid (HB.out.trans h9)
              have ca8 : U.cell? ⟨g, o + i, none⟩ = some (.string ⟨s.toArray⟩) := by
                obtain ⟨_, _, e, _, hc⟩ := HC.out i s HS.out
                injection e with e
                injection e with e1 e2
                subst e1 e2
                exact hc U HB8.out
              have lz8 := HL8.out.lt
              clear hU h8 h9 cz cz2 fz2 lz2 lz HMV HRK HOWN HBB2 HG7 HAK ca lg HB0 hlk HB HLS HIN HLEN
              by_cases hit : i < ts.length
              · obtain ⟨t, htt⟩ := get_some hit
                obtain ⟨g2, o2, rfl, hg2, hc2⟩ := HT.out i t htt
                have ct := hc2 U HB8.out
                have lg2 : g2 < U.heap.size := by have := HB8.out.size; omega
                have h255 := HG.out t (List.mem_of_getElem? htt)
                have k3 : (i : Int) < (ts.length : Int) := by omega
                have hd : decide (i < ts.length) = true := by simp; omega
                clear htt hc2
                by_cases h128 : 128 < t
                · have k4 : (128 : Int) < (t : Int) := by omega
                  have hd2 : decide (128 < t) = true := by simp; omega
                  have cz := HL8.out.cell (k := 2) (by omega)
                  have hlk := HLEN8.out 2
                  have b0 : Below U.heap.size U (U.alloc (Obj.cells #[sv s] 9)) := (Below.refl _ _).alloc (Nat.le_refl _) _
                  have hl9 := HL8.out.move b0
                  have hrj := hl9.row 2 (by omega)
                  have hmv : ∀ u, Mod (fun x => ∃ a, (p8 2).1 = some a ∧ x = a.block) (U.alloc (Obj.cells #[sv s] 9)) u → u.cell? ⟨Z, 2, none⟩ = some (.slice (p8 2).1 (f8 2).length (p8 2).2) ∧ u.frozen? ⟨Z, 2, none⟩ = false ∧ Z < u.heap.size := fun u hu => hl9.at_mod (k := 2) (by omega) hu (j := 2) (by omega)
                  have hpu : ∀ u g' o' cap', Mod (fun x => ∃ a, (p8 2).1 = some a ∧ x = a.block) (U.alloc (Obj.cells #[sv s] 9)) u → Row u 9 1 (some ⟨g', o', none⟩) ((f8 2).length + 1) cap' ((f8 2).map sv ++ [sv s]) → ((∃ a, (p8 2).1 = some a ∧ g' = a.block) ∨ (U.alloc (Obj.cells #[sv s] 9)).heap.size ≤ g') →
                      ∃ f9 p9, Ls (u.setCell ⟨Z, 2, none⟩ (.slice (some ⟨g', o', none⟩) ((f8 2).length + 1) cap')) W.heap.size Z 67 f9 p9 ∧ (∀ x, InLs f9 x ↔ x ∈ a.take (i + 1)) ∧ (∀ j, (f9 j).length ≤ 2 * (i + 1)) ∧ Below W.heap.size W (u.setCell ⟨Z, 2, none⟩ (.slice (some ⟨g', o', none⟩) ((f8 2).length + 1) cap')) := fun u g' o' cap' h1 h2 h3 => by
                    obtain ⟨q1, q2⟩ := hl9.put (k := 2) (by omega) (l := f8 2 ++ [s]) (n := (f8 2).length + 1) (by simp) h1 (by rw [List.map_append]; exact h2) h3
                    exact ⟨_, _, q1, in_again HS.out HIN8.out (fun x => upd_in (k := 2) (by omega) (fun x => by simp [or_comm]) x), fun j => upd_len HLEN8.out (by have := HLEN8.out 2; simp; omega) j, HB8.out.trans ((b0.mono (by have := HB8.out.size; omega)).trans q2)⟩
                  obtain ⟨AK, hAK⟩ : ∃ x, x = (p8 2).1 := ⟨_, rfl⟩
                  obtain ⟨cK, hcK⟩ : ∃ x, x = (p8 2).2 := ⟨_, rfl⟩
                  obtain ⟨nK, hnK⟩ : ∃ x, x = (f8 2).length := ⟨_, rfl⟩
                  rw [← hAK, ← hnK, ← hcK] at cz hrj hmv
                  rw [← hAK, ← hnK] at hpu
                  rw [← hnK] at hlk
                  have HRJ := Lib.hid hrj
                  have HMV := Lib.hid hmv
                  have HPU := Lib.hid hpu
                  clear hrj hmv hpu b0 hl9 hAK hcK hnK
                  go_wp2_with (at_builtin; refine wpList_append_row (by rfl) _ _ _ (by rfl) 9 i0 _ 1 16 Try.underlying67 hi0 hz0 hz1 hz2 rfl (by omega) AK nK cK ((f8 2).map sv) (by rfl) HRJ.out ⟨U.heap.size, 0, none⟩ 1 1 [sv s] (by rfl) (by rfl) (World.news_of_block (cs := #[sv s]) (t := 9) (fr := (0, 0)) (heap_alloc_new U _)) (by simp [Value.oneCell', sv]) (by omega) (by unfold maxLen; omega) (by omega) ?_; intro g7 o7 cap7 w2 hown hm2 hg7; obtain ⟨cz2, fz2, lz2⟩ := HMV.out w2 hm2; have HQ := Lib.hid (HPU.out w2 g7 o7 cap7 hm2 hown hg7); clear hown hm2 hg7)
                  obtain ⟨f9, p9, q1, q2, q3, q4⟩ := HQ.out
                  go_roundw
                  case rel => exact ⟨i + 1, f9, p9, by omega, by go_num, Lib.hid q1, Lib.hid q2, Lib.hid q3, Lib.hid q4⟩
                  case measure => simp [intOf]; omega
                · have k4 : ¬ (128 : Int) < (t : Int) := by omega
                  have hd2 : decide (128 < t) = false := by simp; omega
                  go_wp2_with fail
                  go_roundw
                  case rel => exact ⟨i + 1, f8, p8, by omega, by go_num, HL8, HIN8, Lib.hid (fun j => by have := HLEN8.out j; omega), HB8⟩
                  case measure => simp [intOf]; omega
              · have k3 : ¬ (i : Int) < (ts.length : Int) := by omega
                have hd : decide (i < ts.length) = false := by simp; omega
                go_wp2_with fail
                go_roundw
                case rel => exact ⟨i + 1, f8, p8, by omega, by go_num, HL8, HIN8, Lib.hid (fun j => by have := HLEN8.out j; omega), HB8⟩
                case measure => simp [intOf]; omega
            · have lz := HLS.out.lt
              have cz := HLS.out.cell (k := 2) (by omega)
              have hrk := HLS.out.row 2 (by omega)
              have hlk := HLEN.out 2
              have b0 : Below wc.heap.size wc (wc.alloc (Obj.cells #[sv s] 9)) := (Below.refl _ _).alloc (Nat.le_refl _) _
              have hmv : ∀ u, Below (wc.alloc (Obj.cells #[sv s] 9)).heap.size (wc.alloc (Obj.cells #[sv s] 9)) u → u.cell? ⟨Z, 2, none⟩ = some (.slice (p 2).1 (f 2).length (p 2).2) ∧ u.frozen? ⟨Z, 2, none⟩ = false ∧ Z < u.heap.size := fun u hu => by
                have := HLS.out.move (below_at b0 hu)
                exact ⟨this.cell (by omega), this.free 2, this.lt⟩
              obtain ⟨AK, hAK⟩ : ∃ x, x = (p 2).1 := ⟨_, rfl⟩
              obtain ⟨cK, hcK⟩ : ∃ x, x = (p 2).2 := ⟨_, rfl⟩
              obtain ⟨nK, hnK⟩ : ∃ x, x = (f 2).length := ⟨_, rfl⟩
              rw [← hAK, ← hcK, ← hnK] at cz hrk hmv
              rw [← hnK] at hlk
              have HRK := Lib.hid (hrk.rd.below b0 (Nat.le_refl _))
              have HB0 := Lib.hid b0
              have HMV := Lib.hid hmv
              have HAK := Lib.hid (And.intro hAK (And.intro hcK hnK))
              clear hrk b0 hmv hAK hcK hnK
              go_upto_region 11 with (at_builtin; refine wpList_append_copy (by rfl) _ _ _ (by rfl) 9 i0 _ 1 16 Try.underlying67 hi0 hz0 hz1 hz2 rfl (by omega) ⟨wc.heap.size, 0, none⟩ 1 [sv s] (by rfl) (row_one (heap_alloc_new wc _)) AK nK cK ((f 2).map sv) (by rfl) HRK.out (by unfold maxLen; omega) (by omega) ?_; intro g7 o7 cap7 w2 hown hb2 hg7; obtain ⟨cz2, fz2, lz2⟩ := HMV.out w2 hb2; have HOWN := Lib.hid hown; have HBB2 := Lib.hid hb2; have HG7 := Lib.hid hg7; clear hown hb2 hg7)
              obtain ⟨h8, h9⟩ := HLS.out.put (k := 2) (by omega) (l := s :: f 2) (n := 1 + nK) (by have := HAK.out.2.2; simp; omega) (Mod.of_below_size (below_at HB0.out HBB2.out) _) HOWN.out (Or.inr (by rcases HG7.out with ⟨_, h⟩ | h <;> simp at h <;> omega))
              obtain ⟨U, hU⟩ : ∃ U, U = w2.setCell ⟨Z, 2, none⟩ (.slice (some ⟨g7, o7, none⟩) (1 + nK) cap7) := ⟨_, rfl⟩
              rw [← hU]
              rw [← hU] at h8 h9
              obtain ⟨f8, p8, HL8, HIN8, HLEN8⟩ : ∃ f8 p8, Hid (Ls U W.heap.size Z 67 f8 p8) ∧ Hid (∀ x, InLs f8 x ↔ x ∈ a.take (i + 1)) ∧ Hid (∀ j, (f8 j).length ≤ 2 * i + 1) :=
                ⟨_, _, Lib.hid h8, Lib.hid (in_step HS.out HIN.out (fun x => upd_in (k := 2) (by omega) (fun x => by simp) x)), Lib.hid (fun j => upd_len HLEN.out (by have := HLEN.out 2; simp; omega) j)⟩
              have HB8 := Lib.hid (HB.out.trans h9)
              have ca8 : U.cell? ⟨g, o + i, none⟩ = some (.string ⟨s.toArray⟩) := by
                obtain ⟨_, _, e, _, hc⟩ := HC.out i s HS.out
                injection e with e
                injection e with e1 e2
                subst e1 e2
                exact hc U HB8.out
              have lz8 := HL8.out.lt
              clear hU h8 h9 cz cz2 fz2 lz2 lz HMV HRK HOWN HBB2 HG7 HAK ca lg HB0 hlk HB HLS HIN HLEN
              by_cases hit : i < ts.length
              · obtain ⟨t, htt⟩ := get_some hit
                obtain ⟨g2, o2, rfl, hg2, hc2⟩ := HT.out i t htt
                have ct := hc2 U HB8.out
                have lg2 : g2 < U.heap.size := by have := HB8.out.size; omega
                have h255 := HG.out t (List.mem_of_getElem? htt)
                have k3 : (i : Int) < (ts.length : Int) := by omega
                have hd : decide (i < ts.length) = true := by simp; omega
                clear htt hc2
                by_cases h128 : 128 < t
                · have k4 : (128 : Int) < (t : Int) := by omega
                  have hd2 : decide (128 < t) = true := by simp; omega
                  have cz := HL8.out.cell (k := 0) (by omega)
                  have hlk := HLEN8.out 0
                  have b0 : Below U.heap.size U (U.alloc (Obj.cells #[sv s] 9)) := (Below.refl _ _).alloc (Nat.le_refl _) _
                  have hl9 := HL8.out.move b0
                  have hrj := hl9.row 0 (by omega)
                  have hmv : ∀ u, Mod (fun x => ∃ a, (p8 0).1 = some a ∧ x = a.block) (U.alloc (Obj.cells #[sv s] 9)) u → u.cell? ⟨Z, 0, none⟩ = some (.slice (p8 0).1 (f8 0).length (p8 0).2) ∧ u.frozen? ⟨Z, 0, none⟩ = false ∧ Z < u.heap.size := fun u hu => hl9.at_mod (k := 0) (by omega) hu (j := 0) (by omega)
                  have hpu : ∀ u g' o' cap', Mod (fun x => ∃ a, (p8 0).1 = some a ∧ x = a.block) (U.alloc (Obj.cells #[sv s] 9)) u → Row u 9 1 (some ⟨g', o', none⟩) ((f8 0).length + 1) cap' ((f8 0).map sv ++ [sv s]) → ((∃ a, (p8 0).1 = some a ∧ g' = a.block) ∨ (U.alloc (Obj.cells #[sv s] 9)).heap.size ≤ g') →
                      ∃ f9 p9, Ls (u.setCell ⟨Z, 0, none⟩ (.slice (some ⟨g', o', none⟩) ((f8 0).length + 1) cap')) W.heap.size Z 67 f9 p9 ∧ (∀ x, InLs f9 x ↔ x ∈ a.take (i + 1)) ∧ (∀ j, (f9 j).length ≤ 2 * (i + 1)) ∧ Below W.heap.size W (u.setCell ⟨Z, 0, none⟩ (.slice (some ⟨g', o', none⟩) ((f8 0).length + 1) cap')) := fun u g' o' cap' h1 h2 h3 => by
                    obtain ⟨q1, q2⟩ := hl9.put (k := 0) (by omega) (l := f8 0 ++ [s]) (n := (f8 0).length + 1) (by simp) h1 (by rw [List.map_append]; exact h2) h3
                    exact ⟨_, _, q1, in_again HS.out HIN8.out (fun x => upd_in (k := 0) (by omega) (fun x => by simp [or_comm]) x), fun j => upd_len HLEN8.out (by have := HLEN8.out 0; simp; omega) j, HB8.out.trans ((b0.mono (by have := HB8.out.size; omega)).trans q2)⟩
                  obtain ⟨AK, hAK⟩ : ∃ x, x = (p8 0).1 := ⟨_, rfl⟩
                  obtain ⟨cK, hcK⟩ : ∃ x, x = (p8 0).2 := ⟨_, rfl⟩
                  obtain ⟨nK, hnK⟩ : ∃ x, x = (f8 0).length := ⟨_, rfl⟩
                  rw [← hAK, ← hnK, ← hcK] at cz hrj hmv
                  rw [← hAK, ← hnK] at hpu
                  rw [← hnK] at hlk
                  have HRJ := Lib.hid hrj
                  have HMV := Lib.hid hmv
                  have HPU := Lib.hid hpu
                  clear hrj hmv hpu b0 hl9 hAK hcK hnK
                  go_wp2_with (at_builtin; refine wpList_append_row (by rfl) _ _ _ (by rfl) 9 i0 _ 1 16 Try.underlying67 hi0 hz0 hz1 hz2 rfl (by omega) AK nK cK ((f8 0).map sv) (by rfl) HRJ.out ⟨U.heap.size, 0, none⟩ 1 1 [sv s] (by rfl) (by rfl) (World.news_of_block (cs := #[sv s]) (t := 9) (fr := (0, 0)) (heap_alloc_new U _)) (by simp [Value.oneCell', sv]) (by omega) (by unfold maxLen; omega) (by omega) ?_; intro g7 o7 cap7 w2 hown hm2 hg7; obtain ⟨cz2, fz2, lz2⟩ := HMV.out w2 hm2; have HQ := Lib.hid (HPU.out w2 g7 o7 cap7 hm2 hown hg7); clear hown hm2 hg7)
                  obtain ⟨f9, p9, q1, q2, q3, q4⟩ := HQ.out
                  go_roundw
                  case rel => exact ⟨i + 1, f9, p9, by omega, by go_num, Lib.hid q1, Lib.hid q2, Lib.hid q3, Lib.hid q4⟩
                  case measure => simp [intOf]; omega
                · have k4 : ¬ (128 : Int) < (t : Int) := by omega
                  have hd2 : decide (128 < t) = false := by simp; omega
                  go_wp2_with fail
                  go_roundw
                  case rel => exact ⟨i + 1, f8, p8, by omega, by go_num, HL8, HIN8, Lib.hid (fun j => by have := HLEN8.out j; omega), HB8⟩
                  case measure => simp [intOf]; omega
              · have k3 : ¬ (i : Int) < (ts.length : Int) := by omega
                have hd : decide (i < ts.length) = false := by simp; omega
                go_wp2_with fail
                go_roundw
                case rel => exact ⟨i + 1, f8, p8, by omega, by go_num, HL8, HIN8, Lib.hid (fun j => by have := HLEN8.out j; omega), HB8⟩
                case measure => simp [intOf]; omega
        · have hall : a.take i = a := List.take_of_length_le (by omega)
          have hgat : Ky.gather [f 0, f 1, f 2].flatten = Ky.gather a := in_gather (fun x => by rw [HIN.out, hall])
          have hfl : [f 0, f 1, f 2].flatten.length ≤ 1000000 := by
            have h0 := HLEN.out 0
            have h1 := HLEN.out 1
            have h2 := HLEN.out 2
            simp only [List.flatten_cons, List.flatten_nil, List.length_append, List.length_nil]
            omega
          have hGa : ∀ k ∈ Ky.gather a, k.length ≤ 200 := fun k hk => HA2.out k ((Ky.gather_mem a k).1 hk)
          have hGb : ∀ k ∈ Ky.gather b, k.length ≤ 200 := fun k hk => HB2'.out k ((Ky.gather_mem b k).1 hk)
          have hGl := Ky.gather_len a
          have hHl := Ky.gather_len b
          obtain ⟨G, hG⟩ : ∃ G, G = Ky.gather a := ⟨_, rfl⟩
          obtain ⟨H, hH⟩ : ∃ H, H = Ky.gather b := ⟨_, rfl⟩
          rw [← hG] at hgat hGa hGl
          rw [← hH] at hGb hHl
          have hma : ∀ u, Below W.heap.size W u → Calls Try.prog 50 #[.bool true, .slice (some ⟨u.heap.size, 0, none⟩) 1 1] (u.alloc (Obj.cells #[.slice A a.length cap] 67)) fun x w' => ∃ A' cap', x = .returned (.agg #[.slice A' G.length cap', .bool true]) ∧ Rd w' 1 A' G.length (G.map sv) ∧ Below u.heap.size u w' := fun u hu => by
            have := merge_any _ true (some ⟨u.heap.size, 0, none⟩) 1 [a] (one_stAt u 67 A cap a (HR.out.below hu (Nat.le_refl _)) HLA.out.1 HLA.out.2) (by simp) (by simp; omega)
            rw [show [a].flatten = a by simp, ← hG] at this
            exact this.mono fun x w' h => by obtain ⟨A', cap', h1, h2, h3⟩ := h; exact ⟨A', cap', h1, h2.1, below_at ((Below.refl u.heap.size u).alloc (Nat.le_refl _) _) h3⟩
          have hmb : ∀ u, Below W.heap.size W u → Calls Try.prog 50 #[.bool true, .slice (some ⟨u.heap.size, 0, none⟩) 1 1] (u.alloc (Obj.cells #[.slice B b.length cap'] 67)) fun x w' => ∃ A' cap', x = .returned (.agg #[.slice A' H.length cap', .bool true]) ∧ Rd w' 1 A' H.length (H.map sv) ∧ Below u.heap.size u w' := fun u hu => by
            have := merge_any _ true (some ⟨u.heap.size, 0, none⟩) 1 [b] (one_stAt u 67 B cap' b (HR'.out.below hu (Nat.le_refl _)) HLB.out.1 HLB.out.2) (by simp) (by simp; omega)
            rw [show [b].flatten = b by simp, ← hH] at this
            exact this.mono fun x w' h => by obtain ⟨A', cap', h1, h2, h3⟩ := h; exact ⟨A', cap', h1, h2.1, below_at ((Below.refl u.heap.size u).alloc (Nat.le_refl _) _) h3⟩
          have hra : ∀ u, Below W.heap.size W u → Calls Try.prog 51 #[.bool true, .slice (some ⟨u.heap.size, 0, none⟩) 1 1] (u.alloc (Obj.cells #[.slice A a.length cap] 67)) fun x w' => ∃ A' cap', x = .returned (.agg #[.slice A' G.length cap', .bool true]) ∧ Rd w' 1 A' G.length (G.map sv) ∧ Below u.heap.size u w' := fun u hu => by
            have := refMerge_any _ true (some ⟨u.heap.size, 0, none⟩) 1 [a] (one_stAt u 67 A cap a (HR.out.below hu (Nat.le_refl _)) HLA.out.1 HLA.out.2) (by simp) (by simp; omega)
            rw [show [a].flatten = a by simp, ← hG] at this
            exact this.mono fun x w' h => by obtain ⟨A', cap', h1, h2, h3⟩ := h; exact ⟨A', cap', h1, h2.1, below_at ((Below.refl u.heap.size u).alloc (Nat.le_refl _) _) h3⟩
          have hrb : ∀ u, Below W.heap.size W u → Calls Try.prog 51 #[.bool true, .slice (some ⟨u.heap.size, 0, none⟩) 1 1] (u.alloc (Obj.cells #[.slice B b.length cap'] 67)) fun x w' => ∃ A' cap', x = .returned (.agg #[.slice A' H.length cap', .bool true]) ∧ Rd w' 1 A' H.length (H.map sv) ∧ Below u.heap.size u w' := fun u hu => by
            have := refMerge_any _ true (some ⟨u.heap.size, 0, none⟩) 1 [b] (one_stAt u 67 B cap' b (HR'.out.below hu (Nat.le_refl _)) HLB.out.1 HLB.out.2) (by simp) (by simp; omega)
            rw [show [b].flatten = b by simp, ← hH] at this
            exact this.mono fun x w' h => by obtain ⟨A', cap', h1, h2, h3⟩ := h; exact ⟨A', cap', h1, h2.1, below_at ((Below.refl u.heap.size u).alloc (Nat.le_refl _) _) h3⟩
          have hml : ∀ u, Below wr.heap.size wr u → Calls Try.prog 50 #[.bool true, .slice (some ⟨Z, 0, none⟩) 3 3] u fun x w' => ∃ A' cap', x = .returned (.agg #[.slice A' G.length cap', .bool true]) ∧ Rd w' 1 A' G.length (G.map sv) ∧ Below u.heap.size u w' := fun u hu => by
            have := merge_any u true (some ⟨Z, 0, none⟩) 3 [f 0, f 1, f 2] (HLS.out.move hu).stAt (by simp) hfl
            rw [hgat] at this
            exact this.mono fun x w' h => by obtain ⟨A', cap', h1, h2, h3⟩ := h; exact ⟨A', cap', h1, h2.1, h3⟩
          obtain ⟨rg, hrg⟩ : ∃ r, r = Ky.rightK G := ⟨_, rfl⟩
          obtain ⟨rh, hrh⟩ : ∃ r, r = Ky.rightK H := ⟨_, rfl⟩
          obtain ⟨P, hP⟩ : ∃ P : ByteArray, P = ⟨(Ky.printK G true).toArray⟩ := ⟨_, rfl⟩
          obtain ⟨P', hP'⟩ : ∃ P : ByteArray, P = ⟨(Ky.printK H true).toArray⟩ := ⟨_, rfl⟩
          obtain ⟨q, hq⟩ : ∃ q, q = decide (G = H) := ⟨_, rfl⟩
          have hrtG : ∀ (u : World) (A' : Option Addr) (cap' : Nat), Rd u 1 A' G.length (G.map sv) → Calls Try.prog 47 #[.agg #[.slice A' G.length cap', .bool true]] u fun x w' => x = .returned (.bool rg) ∧ Below u.heap.size u w' := fun u A' cap' h => by rw [hrg]; exact rright_any u A' cap' G true h (by omega) (fun k hk => by have := hGa k hk; omega)
          have hrtH : ∀ (u : World) (A' : Option Addr) (cap' : Nat), Rd u 1 A' H.length (H.map sv) → Calls Try.prog 47 #[.agg #[.slice A' H.length cap', .bool true]] u fun x w' => x = .returned (.bool rh) ∧ Below u.heap.size u w' := fun u A' cap' h => by rw [hrh]; exact rright_any u A' cap' H true h (by omega) (fun k hk => by have := hGb k hk; omega)
          have hprG : ∀ (u : World) (A' : Option Addr) (cap' : Nat), Rd u 1 A' G.length (G.map sv) → Calls Try.prog 43 #[.agg #[.slice A' G.length cap', .bool true]] u fun x w' => x = .returned (.string P) ∧ Below u.heap.size u w' := fun u A' cap' h => by rw [hP]; exact rprint_any u A' cap' G true h (by omega) (fun k hk => by have := hGa k hk; omega)
          have hprH : ∀ (u : World) (A' : Option Addr) (cap' : Nat), Rd u 1 A' H.length (H.map sv) → Calls Try.prog 43 #[.agg #[.slice A' H.length cap', .bool true]] u fun x w' => x = .returned (.string P') ∧ Below u.heap.size u w' := fun u A' cap' h => by rw [hP']; exact rprint_any u A' cap' H true h (by omega) (fun k hk => by have := hGb k hk; omega)
          have hsame : ∀ (u : World) (X Y : List Ky.K) (A' : Option Addr) (c' : Nat) (B' : Option Addr) (c'' : Nat), X.length ≤ 60 → Rd u 1 A' X.length (X.map sv) → Rd u 1 B' Y.length (Y.map sv) → Calls Try.prog 49 #[.slice A' X.length c', .slice B' Y.length c''] u fun x w' => x = .returned (.bool (decide (X = Y))) ∧ Below u.heap.size u w' := fun u X Y A' c' B' c'' hX h1 h2 => same6_any u A' c' X B' c'' Y h1 h2 (by omega)
          have hsG : ∀ (u : World) (A' : Option Addr) (c' : Nat) (B' : Option Addr) (c'' : Nat), Rd u 1 A' G.length (G.map sv) → Rd u 1 B' G.length (G.map sv) → Calls Try.prog 49 #[.slice A' G.length c', .slice B' G.length c''] u fun x w' => x = .returned (.bool true) ∧ Below u.heap.size u w' := fun u A' c' B' c'' h1 h2 => by
            have := hsame u G G A' c' B' c'' (by omega) h1 h2
            rwa [decide_eq_true rfl] at this
          have hsH : ∀ (u : World) (A' : Option Addr) (c' : Nat) (B' : Option Addr) (c'' : Nat), Rd u 1 A' H.length (H.map sv) → Rd u 1 B' H.length (H.map sv) → Calls Try.prog 49 #[.slice A' H.length c', .slice B' H.length c''] u fun x w' => x = .returned (.bool true) ∧ Below u.heap.size u w' := fun u A' c' B' c'' h1 h2 => by
            have := hsame u H H A' c' B' c'' (by omega) h1 h2
            rwa [decide_eq_true rfl] at this
          have hsD : ∀ (u : World) (A' : Option Addr) (c' : Nat) (B' : Option Addr) (c'' : Nat), Rd u 1 A' G.length (G.map sv) → Rd u 1 B' H.length (H.map sv) → Calls Try.prog 49 #[.slice A' G.length c', .slice B' H.length c''] u fun x w' => x = .returned (.bool q) ∧ Below u.heap.size u w' := fun u A' c' B' c'' h1 h2 => by
            rw [hq]
            exact hsame u G H A' c' B' c'' (by omega) h1 h2
          have hway : q = true ∨ (q = false ∧ rg = false) ∨ (q = false ∧ rg = true ∧ rh = false) ∨ (q = false ∧ rg = true ∧ rh = true ∧ P ≠ P') := by
            cases q with
            | true => exact .inl rfl
            | false =>
              cases rg with
              | false => exact .inr (.inl ⟨rfl, rfl⟩)
              | true =>
                cases rh with
                | false => exact .inr (.inr (.inl ⟨rfl, rfl, rfl⟩))
                | true =>
                  refine .inr (.inr (.inr ⟨rfl, rfl, rfl, fun e => ?_⟩))
                  have hne : G ≠ H := by simpa using hq.symm
                  refine hne (Ky.print_inj hrg.symm hrh.symm (fun k hk => by have := hGa k hk; omega) (fun k hk => by have := hGb k hk; omega) ?_)
                  rw [hP, hP'] at e
                  injection e with e
                  simpa using congrArg Array.toList e
          have HMA := Lib.hid hma
          have HMB := Lib.hid hmb
          have HML := Lib.hid hml
          have HRA := Lib.hid hra
          have HRB := Lib.hid hrb
          have HTG := Lib.hid hrtG
          have HTH := Lib.hid hrtH
          have HPG := Lib.hid hprG
          have HPH := Lib.hid hprH
          have HSG := Lib.hid hsG
          have HSH := Lib.hid hsH
          have HSD := Lib.hid hsD
          have HWAY := Lib.hid hway
          clear hall hgat hfl hGa hGb hGl hHl hG hH hma hmb hml hra hrb hrg hrh hP hP' hq hrtG hrtH hprG hprH hsame hsG hsH hsD hway HIN HLEN HLS
          go_wp2_with fail
          refine (HMA.out wr HB.out).mono ?_
          rintro x w1 ⟨A1, c1, rfl, r1, b1⟩
          have B1 := Lib.hid (below_at HB.out b1)
          have R1 := Lib.hid r1
          have F1 := Lib.hid b1
          clear r1 b1
          go_wp2_with fail
          refine (HML.out w1 F1.out).mono ?_
          rintro x w2 ⟨A2, c2, rfl, r2, b2⟩
          have B2 := Lib.hid (below_at B1.out b2)
          have R1 := Lib.hid (R1.out.below b2 (Nat.le_refl _))
          have R2 := Lib.hid r2
          clear r2 b2
          go_wp2_with fail
          refine (HMB.out w2 B2.out).mono ?_
          rintro x w3 ⟨A3, c3, rfl, r3, b3⟩
          have B3 := Lib.hid (below_at B2.out b3)
          have R1 := Lib.hid (R1.out.below b3 (Nat.le_refl _))
          have R2 := Lib.hid (R2.out.below b3 (Nat.le_refl _))
          have R3 := Lib.hid r3
          clear r3 b3
          go_upto_region 15 with fail
          obtain ⟨Wa, X, hWa, hX, hBa, hXl, hXe⟩ := box_rep w3 70 A1 G.length c1 true
          obtain ⟨Wb, Y, hWb, hY, hBb, hYl, hYe⟩ := box_rep Wa 70 A2 G.length c2 true
          obtain ⟨Wc, V, hWc, hV, hBc, hVl, hVe⟩ := box_rep Wb 70 A3 H.length c3 true
          have hY' : Y = w3.heap.size + 1 := by rw [hY, hWa]; simp
          have hV' : V = w3.heap.size + 1 + 1 := by rw [hV, hWb, hWa]; simp
          rw [← hV', ← hY', ← hWa, ← hWb, ← hWc, ← hX]
          have hac := below_at hBb hBc
          have h3c := below_at hBa hac
          have HX := Lib.hid (fun u (hu : Below Wc.heap.size Wc u) => hXe u (below_at hac hu))
          have HY := Lib.hid (fun u (hu : Below Wc.heap.size Wc u) => hYe u (below_at hBc hu))
          have HV := Lib.hid hVe
          have B4 := Lib.hid (below_at B3.out h3c)
          have R1 := Lib.hid (R1.out.below h3c (Nat.le_refl _))
          have R2 := Lib.hid (R2.out.below h3c (Nat.le_refl _))
          have R3 := Lib.hid (R3.out.below h3c (Nat.le_refl _))
          clear hWa hX hBa hXl hXe hWb hY hBb hYl hYe hWc hV hBc hVl hVe hY' hV' hac h3c
          go_wp2_with fail
          refine (HRA.out Wc B4.out).mono ?_
          rintro x w5 ⟨A4, c4, rfl, r4, b5⟩
          have B5 := Lib.hid (below_at B4.out b5)
          have F5 := Lib.hid b5
          have R4 := Lib.hid r4
          clear r4 b5
          go_wp2_with fail
          refine (HRB.out w5 B5.out).mono ?_
          rintro x w6 ⟨A5, c5, rfl, r5, b6⟩
          have B6 := Lib.hid (below_at B5.out b6)
          have F6 := Lib.hid (below_at F5.out b6)
          have R4 := Lib.hid (R4.out.below b6 (Nat.le_refl _))
          have R5 := Lib.hid r5
          clear r5 b6
          go_upto_region 16 with fail
          obtain ⟨Wa, M, hWa, hM, hBa, hXl, hMe⟩ := box_rep w6 72 A4 G.length c4 true
          obtain ⟨W9, N, hW9, hN, hBb, hYl, hNe⟩ := box_rep Wa 72 A5 H.length c5 true
          have hN' : N = w6.heap.size + 1 := by rw [hN, hWa]; simp
          rw [← hN', ← hWa, ← hW9, ← hM]
          have h69 := below_at hBa hBb
          have F9 := Lib.hid (below_at F6.out h69)
          have HB9 := Lib.hid (below_at B6.out h69)
          have hq : ∀ u, Below W9.heap.size W9 u → (u.cell? ⟨X, 0, none⟩ = some (.slice A1 G.length c1) ∧ u.cell? ⟨X, 1, none⟩ = some (.bool true) ∧ X < u.heap.size) ∧ (u.cell? ⟨Y, 0, none⟩ = some (.slice A2 G.length c2) ∧ u.cell? ⟨Y, 1, none⟩ = some (.bool true) ∧ Y < u.heap.size) ∧
              (u.cell? ⟨V, 0, none⟩ = some (.slice A3 H.length c3) ∧ u.cell? ⟨V, 1, none⟩ = some (.bool true) ∧ V < u.heap.size) ∧ (u.cell? ⟨M, 0, none⟩ = some (.slice A4 G.length c4) ∧ M < u.heap.size) ∧ u.cell? ⟨N, 0, none⟩ = some (.slice A5 H.length c5) ∧ N < u.heap.size := fun u hu => by
            have q1 := hMe u (below_at hBb hu)
            have q2 := hNe u hu
            exact ⟨HX.out u (below_at F9.out hu), HY.out u (below_at F9.out hu), HV.out u (below_at F9.out hu), ⟨q1.1, q1.2.2⟩, q2.1, q2.2.2⟩
          have R1 := Lib.hid (R1.out.below F9.out (Nat.le_refl _))
          have R2 := Lib.hid (R2.out.below F9.out (Nat.le_refl _))
          have R3 := Lib.hid (R3.out.below F9.out (Nat.le_refl _))
          have R4 := Lib.hid (R4.out.below h69 (Nat.le_refl _))
          have R5 := Lib.hid (R5.out.below h69 (Nat.le_refl _))
          have HQ := Lib.hid hq
          have hS : Below W9.heap.size W9 W9.drew := (Below.refl _ _).drew
          clear hq hWa hM hBa hXl hMe hW9 hN hBb hYl hNe hN' h69 HMA HMB HML HRA HRB HX HY HV
          refine wp_region_planF (by kernel_rfl) (fun u => Below W9.heap.size W9 u) [39] [(0, .pure), (1, .load), (2, .pure), (3, .load), (4, .eff), (5, .pure), (6, .pure), (7, .load), (8, .pure), (9, .load), (10, .eff), (11, .pure), (12, .pure), (13, .pure), (14, .load), (15, .pure), (16, .load), (17, .eff), (18, .pure), (19, .pure), (20, .pure), (21, .load), (22, .pure), (23, .load), (24, .eff), (25, .pure), (26, .load), (27, .eff), (28, .pure), (29, .pure), (30, .pure), (31, .load), (32, .eff), (33, .pure), (34, .pure), (35, .pure), (36, .load), (38, .load), (37, .eff), (39, .last), (40, .pure), (41, .pure), (42, .pure), (43, .pure)] (by simp only [List.map_cons, List.map_nil, List.getElem?_toArray, List.getElem?_cons_succ, List.getElem?_cons_zero]; rfl) (by kernel_rfl) (fun _ _ d _ _ h => by cases d <;> exact h) (hS) ?_
          repeat (first
            | (refine plan_pure (v := ?_) (by rfl) (fun w1 => ?_) ?_
               rotate_left
               · go_simp <;> with_reducible rfl
               simp only [Act.put, List.setIfInBounds_toArray, List.set_cons_zero, List.set_cons_succ])
            | (refine plan_off (by rfl) ?_
               simp only [Act.put, List.setIfInBounds_toArray, List.set_cons_zero, List.set_cons_succ])
            | (refine plan_load_off (by rfl) ?_
               simp only [Act.put, List.setIfInBounds_toArray, List.set_cons_zero, List.set_cons_succ])
            | (refine plan_load (v := ?_) (by rfl) (fun w1 hw1 => ?_) ?_
               rotate_left
               · (have q := HQ.out w1 hw1
                  obtain ⟨⟨x0, x1, xl⟩, ⟨y0, y1, yl⟩, ⟨v0, v1, vl⟩, ⟨m0, ml⟩, n0, nl⟩ := q
                  clear hw1
                  go_simp <;> with_reducible rfl)
               simp only [Act.put, List.setIfInBounds_toArray, List.set_cons_zero, List.set_cons_succ]))
          refine plan_eff ?_
          go_wp2_with fail
          refine (HSG.out _ _ _ _ _ (R1.out.below hS (Nat.le_refl _)) (R4.out.below hS (Nat.le_refl _))).mono ?_
          rintro x u1 ⟨rfl, cc⟩
          have S1 := Lib.hid (below_at hS cc)
          clear cc
          go_wp2_with fail
          refine plan_on (fun _ h => h) S1.out ?_
          repeat (first
            | (refine plan_pure (v := ?_) (by rfl) (fun w1 => ?_) ?_
               rotate_left
               · go_simp <;> with_reducible rfl
               simp only [Act.put, List.setIfInBounds_toArray, List.set_cons_zero, List.set_cons_succ])
            | (refine plan_off (by rfl) ?_
               simp only [Act.put, List.setIfInBounds_toArray, List.set_cons_zero, List.set_cons_succ])
            | (refine plan_load_off (by rfl) ?_
               simp only [Act.put, List.setIfInBounds_toArray, List.set_cons_zero, List.set_cons_succ])
            | (refine plan_load (v := ?_) (by rfl) (fun w1 hw1 => ?_) ?_
               rotate_left
               · (have q := HQ.out w1 hw1
                  obtain ⟨⟨x0, x1, xl⟩, ⟨y0, y1, yl⟩, ⟨v0, v1, vl⟩, ⟨m0, ml⟩, n0, nl⟩ := q
                  clear hw1
                  go_simp <;> with_reducible rfl)
               simp only [Act.put, List.setIfInBounds_toArray, List.set_cons_zero, List.set_cons_succ]))
          refine plan_eff ?_
          go_wp2_with fail
          refine (HSG.out u1 _ _ _ _ (R2.out.below S1.out (Nat.le_refl _)) (R4.out.below S1.out (Nat.le_refl _))).mono ?_
          rintro x u2 ⟨rfl, cc⟩
          have S2 := Lib.hid (below_at S1.out cc)
          clear cc
          go_wp2_with fail
          refine plan_on (fun _ h => h) S2.out ?_
          repeat (first
            | (refine plan_pure (v := ?_) (by rfl) (fun w1 => ?_) ?_
               rotate_left
               · go_simp <;> with_reducible rfl
               simp only [Act.put, List.setIfInBounds_toArray, List.set_cons_zero, List.set_cons_succ])
            | (refine plan_off (by rfl) ?_
               simp only [Act.put, List.setIfInBounds_toArray, List.set_cons_zero, List.set_cons_succ])
            | (refine plan_load_off (by rfl) ?_
               simp only [Act.put, List.setIfInBounds_toArray, List.set_cons_zero, List.set_cons_succ])
            | (refine plan_load (v := ?_) (by rfl) (fun w1 hw1 => ?_) ?_
               rotate_left
               · (have q := HQ.out w1 hw1
                  obtain ⟨⟨x0, x1, xl⟩, ⟨y0, y1, yl⟩, ⟨v0, v1, vl⟩, ⟨m0, ml⟩, n0, nl⟩ := q
                  clear hw1
                  go_simp <;> with_reducible rfl)
               simp only [Act.put, List.setIfInBounds_toArray, List.set_cons_zero, List.set_cons_succ]))
          refine plan_eff ?_
          go_wp2_with fail
          refine (HSH.out u2 _ _ _ _ (R3.out.below S2.out (Nat.le_refl _)) (R5.out.below S2.out (Nat.le_refl _))).mono ?_
          rintro x u3 ⟨rfl, cc⟩
          have S3 := Lib.hid (below_at S2.out cc)
          clear cc
          go_wp2_with fail
          refine plan_on (fun _ h => h) S3.out ?_
          repeat (first
            | (refine plan_pure (v := ?_) (by rfl) (fun w1 => ?_) ?_
               rotate_left
               · go_simp <;> with_reducible rfl
               simp only [Act.put, List.setIfInBounds_toArray, List.set_cons_zero, List.set_cons_succ])
            | (refine plan_off (by rfl) ?_
               simp only [Act.put, List.setIfInBounds_toArray, List.set_cons_zero, List.set_cons_succ])
            | (refine plan_load_off (by rfl) ?_
               simp only [Act.put, List.setIfInBounds_toArray, List.set_cons_zero, List.set_cons_succ])
            | (refine plan_load (v := ?_) (by rfl) (fun w1 hw1 => ?_) ?_
               rotate_left
               · (have q := HQ.out w1 hw1
                  obtain ⟨⟨x0, x1, xl⟩, ⟨y0, y1, yl⟩, ⟨v0, v1, vl⟩, ⟨m0, ml⟩, n0, nl⟩ := q
                  clear hw1
                  go_simp <;> with_reducible rfl)
               simp only [Act.put, List.setIfInBounds_toArray, List.set_cons_zero, List.set_cons_succ]))
          refine plan_eff ?_
          go_wp2_with fail
          refine (HSD.out u3 _ _ _ _ (R1.out.below S3.out (Nat.le_refl _)) (R3.out.below S3.out (Nat.le_refl _))).mono ?_
          rintro x u4 ⟨rfl, cc⟩
          have S4 := Lib.hid (below_at S3.out cc)
          clear cc HSG HSH HSD
          rcases HWAY.out with rfl | ⟨rfl, rfl⟩ | ⟨rfl, rfl, rfl⟩ | ⟨rfl, rfl, rfl, hne⟩
          · go_wp2_with fail
            refine plan_on (fun _ h => h) S4.out ?_
            repeat (first
              | (refine plan_pure (v := ?_) (by rfl) (fun w1 => ?_) ?_
                 rotate_left
                 · go_simp <;> with_reducible rfl
                 simp only [Act.put, List.setIfInBounds_toArray, List.set_cons_zero, List.set_cons_succ])
              | (refine plan_off (by rfl) ?_
                 simp only [Act.put, List.setIfInBounds_toArray, List.set_cons_zero, List.set_cons_succ])
              | (refine plan_load_off (by rfl) ?_
                 simp only [Act.put, List.setIfInBounds_toArray, List.set_cons_zero, List.set_cons_succ])
              | (refine plan_load (v := ?_) (by rfl) (fun w1 hw1 => ?_) ?_
                 rotate_left
                 · (have q := HQ.out w1 hw1
                    obtain ⟨⟨x0, x1, xl⟩, ⟨y0, y1, yl⟩, ⟨v0, v1, vl⟩, ⟨m0, ml⟩, n0, nl⟩ := q
                    clear hw1
                    go_simp <;> with_reducible rfl)
                 simp only [Act.put, List.setIfInBounds_toArray, List.set_cons_zero, List.set_cons_succ]))
            refine plan_eff ?_
            go_wp2_with fail
            refine plan_on (fun _ h => h) S4.out ?_
            repeat (first
              | (refine plan_pure (v := ?_) (by rfl) (fun w1 => ?_) ?_
                 rotate_left
                 · go_simp <;> with_reducible rfl
                 simp only [Act.put, List.setIfInBounds_toArray, List.set_cons_zero, List.set_cons_succ])
              | (refine plan_off (by rfl) ?_
                 simp only [Act.put, List.setIfInBounds_toArray, List.set_cons_zero, List.set_cons_succ])
              | (refine plan_load_off (by rfl) ?_
                 simp only [Act.put, List.setIfInBounds_toArray, List.set_cons_zero, List.set_cons_succ])
              | (refine plan_load (v := ?_) (by rfl) (fun w1 hw1 => ?_) ?_
                 rotate_left
                 · (have q := HQ.out w1 hw1
                    obtain ⟨⟨x0, x1, xl⟩, ⟨y0, y1, yl⟩, ⟨v0, v1, vl⟩, ⟨m0, ml⟩, n0, nl⟩ := q
                    clear hw1
                    go_simp <;> with_reducible rfl)
                 simp only [Act.put, List.setIfInBounds_toArray, List.set_cons_zero, List.set_cons_succ]))
            refine plan_eff ?_
            go_wp2_with fail
            refine plan_on (fun _ h => h) S4.out ?_
            repeat (first
              | (refine plan_pure (v := ?_) (by rfl) (fun w1 => ?_) ?_
                 rotate_left
                 · go_simp <;> with_reducible rfl
                 simp only [Act.put, List.setIfInBounds_toArray, List.set_cons_zero, List.set_cons_succ])
              | (refine plan_off (by rfl) ?_
                 simp only [Act.put, List.setIfInBounds_toArray, List.set_cons_zero, List.set_cons_succ])
              | (refine plan_load_off (by rfl) ?_
                 simp only [Act.put, List.setIfInBounds_toArray, List.set_cons_zero, List.set_cons_succ])
              | (refine plan_load (v := ?_) (by rfl) (fun w1 hw1 => ?_) ?_
                 rotate_left
                 · (have q := HQ.out w1 hw1
                    obtain ⟨⟨x0, x1, xl⟩, ⟨y0, y1, yl⟩, ⟨v0, v1, vl⟩, ⟨m0, ml⟩, n0, nl⟩ := q
                    clear hw1
                    go_simp <;> with_reducible rfl)
                 simp only [Act.put, List.setIfInBounds_toArray, List.set_cons_zero, List.set_cons_succ]))
            refine plan_eff ?_
            go_wp2_with fail
            refine plan_on (fun _ h => h) S4.out ?_
            repeat (first
              | (refine plan_pure (v := ?_) (by rfl) (fun w1 => ?_) ?_
                 rotate_left
                 · go_simp <;> with_reducible rfl
                 simp only [Act.put, List.setIfInBounds_toArray, List.set_cons_zero, List.set_cons_succ])
              | (refine plan_off (by rfl) ?_
                 simp only [Act.put, List.setIfInBounds_toArray, List.set_cons_zero, List.set_cons_succ])
              | (refine plan_load_off (by rfl) ?_
                 simp only [Act.put, List.setIfInBounds_toArray, List.set_cons_zero, List.set_cons_succ])
              | (refine plan_load (v := ?_) (by rfl) (fun w1 hw1 => ?_) ?_
                 rotate_left
                 · (have q := HQ.out w1 hw1
                    obtain ⟨⟨x0, x1, xl⟩, ⟨y0, y1, yl⟩, ⟨v0, v1, vl⟩, ⟨m0, ml⟩, n0, nl⟩ := q
                    clear hw1
                    go_simp <;> with_reducible rfl)
                 simp only [Act.put, List.setIfInBounds_toArray, List.set_cons_zero, List.set_cons_succ]))
            first | (refine plan_last ?_; go_wp2_with fail) | skip
            repeat (first
              | (refine plan_pure (v := ?_) (by rfl) (fun w1 => ?_) ?_
                 rotate_left
                 · go_simp <;> with_reducible rfl
                 simp only [Act.put, List.setIfInBounds_toArray, List.set_cons_zero, List.set_cons_succ])
              | (refine plan_off (by rfl) ?_
                 simp only [Act.put, List.setIfInBounds_toArray, List.set_cons_zero, List.set_cons_succ])
              | (refine plan_load_off (by rfl) ?_
                 simp only [Act.put, List.setIfInBounds_toArray, List.set_cons_zero, List.set_cons_succ])
              | (refine plan_load (v := ?_) (by rfl) (fun w1 hw1 => ?_) ?_
                 rotate_left
                 · (skip
                    clear hw1
                    go_simp <;> with_reducible rfl)
                 simp only [Act.put, List.setIfInBounds_toArray, List.set_cons_zero, List.set_cons_succ]))
            refine plan_end ?_
            go_wp2_with fail
            go_ret
            exact ⟨by simp [*], below_at HB9.out S4.out⟩
          · go_wp2_with fail
            refine plan_on (fun _ h => h) S4.out ?_
            repeat (first
              | (refine plan_pure (v := ?_) (by rfl) (fun w1 => ?_) ?_
                 rotate_left
                 · go_simp <;> with_reducible rfl
                 simp only [Act.put, List.setIfInBounds_toArray, List.set_cons_zero, List.set_cons_succ])
              | (refine plan_off (by rfl) ?_
                 simp only [Act.put, List.setIfInBounds_toArray, List.set_cons_zero, List.set_cons_succ])
              | (refine plan_load_off (by rfl) ?_
                 simp only [Act.put, List.setIfInBounds_toArray, List.set_cons_zero, List.set_cons_succ])
              | (refine plan_load (v := ?_) (by rfl) (fun w1 hw1 => ?_) ?_
                 rotate_left
                 · (have q := HQ.out w1 hw1
                    obtain ⟨⟨x0, x1, xl⟩, ⟨y0, y1, yl⟩, ⟨v0, v1, vl⟩, ⟨m0, ml⟩, n0, nl⟩ := q
                    clear hw1
                    go_simp <;> with_reducible rfl)
                 simp only [Act.put, List.setIfInBounds_toArray, List.set_cons_zero, List.set_cons_succ]))
            refine plan_eff ?_
            go_wp2_with fail
            refine (HTG.out u4 _ _ (R1.out.below S4.out (Nat.le_refl _))).mono ?_
            rintro x u5 ⟨rfl, cc⟩
            have S5 := Lib.hid (below_at S4.out cc)
            clear cc
            go_wp2_with fail
            refine plan_on (fun _ h => h) S5.out ?_
            repeat (first
              | (refine plan_pure (v := ?_) (by rfl) (fun w1 => ?_) ?_
                 rotate_left
                 · go_simp <;> with_reducible rfl
                 simp only [Act.put, List.setIfInBounds_toArray, List.set_cons_zero, List.set_cons_succ])
              | (refine plan_off (by rfl) ?_
                 simp only [Act.put, List.setIfInBounds_toArray, List.set_cons_zero, List.set_cons_succ])
              | (refine plan_load_off (by rfl) ?_
                 simp only [Act.put, List.setIfInBounds_toArray, List.set_cons_zero, List.set_cons_succ])
              | (refine plan_load (v := ?_) (by rfl) (fun w1 hw1 => ?_) ?_
                 rotate_left
                 · (have q := HQ.out w1 hw1
                    obtain ⟨⟨x0, x1, xl⟩, ⟨y0, y1, yl⟩, ⟨v0, v1, vl⟩, ⟨m0, ml⟩, n0, nl⟩ := q
                    clear hw1
                    go_simp <;> with_reducible rfl)
                 simp only [Act.put, List.setIfInBounds_toArray, List.set_cons_zero, List.set_cons_succ]))
            refine plan_eff ?_
            go_wp2_with fail
            refine plan_on (fun _ h => h) S5.out ?_
            repeat (first
              | (refine plan_pure (v := ?_) (by rfl) (fun w1 => ?_) ?_
                 rotate_left
                 · go_simp <;> with_reducible rfl
                 simp only [Act.put, List.setIfInBounds_toArray, List.set_cons_zero, List.set_cons_succ])
              | (refine plan_off (by rfl) ?_
                 simp only [Act.put, List.setIfInBounds_toArray, List.set_cons_zero, List.set_cons_succ])
              | (refine plan_load_off (by rfl) ?_
                 simp only [Act.put, List.setIfInBounds_toArray, List.set_cons_zero, List.set_cons_succ])
              | (refine plan_load (v := ?_) (by rfl) (fun w1 hw1 => ?_) ?_
                 rotate_left
                 · (have q := HQ.out w1 hw1
                    obtain ⟨⟨x0, x1, xl⟩, ⟨y0, y1, yl⟩, ⟨v0, v1, vl⟩, ⟨m0, ml⟩, n0, nl⟩ := q
                    clear hw1
                    go_simp <;> with_reducible rfl)
                 simp only [Act.put, List.setIfInBounds_toArray, List.set_cons_zero, List.set_cons_succ]))
            refine plan_eff ?_
            go_wp2_with fail
            refine plan_on (fun _ h => h) S5.out ?_
            repeat (first
              | (refine plan_pure (v := ?_) (by rfl) (fun w1 => ?_) ?_
                 rotate_left
                 · go_simp <;> with_reducible rfl
                 simp only [Act.put, List.setIfInBounds_toArray, List.set_cons_zero, List.set_cons_succ])
              | (refine plan_off (by rfl) ?_
                 simp only [Act.put, List.setIfInBounds_toArray, List.set_cons_zero, List.set_cons_succ])
              | (refine plan_load_off (by rfl) ?_
                 simp only [Act.put, List.setIfInBounds_toArray, List.set_cons_zero, List.set_cons_succ])
              | (refine plan_load (v := ?_) (by rfl) (fun w1 hw1 => ?_) ?_
                 rotate_left
                 · (have q := HQ.out w1 hw1
                    obtain ⟨⟨x0, x1, xl⟩, ⟨y0, y1, yl⟩, ⟨v0, v1, vl⟩, ⟨m0, ml⟩, n0, nl⟩ := q
                    clear hw1
                    go_simp <;> with_reducible rfl)
                 simp only [Act.put, List.setIfInBounds_toArray, List.set_cons_zero, List.set_cons_succ]))
            first | (refine plan_last ?_; go_wp2_with fail) | skip
            repeat (first
              | (refine plan_pure (v := ?_) (by rfl) (fun w1 => ?_) ?_
                 rotate_left
                 · go_simp <;> with_reducible rfl
                 simp only [Act.put, List.setIfInBounds_toArray, List.set_cons_zero, List.set_cons_succ])
              | (refine plan_off (by rfl) ?_
                 simp only [Act.put, List.setIfInBounds_toArray, List.set_cons_zero, List.set_cons_succ])
              | (refine plan_load_off (by rfl) ?_
                 simp only [Act.put, List.setIfInBounds_toArray, List.set_cons_zero, List.set_cons_succ])
              | (refine plan_load (v := ?_) (by rfl) (fun w1 hw1 => ?_) ?_
                 rotate_left
                 · (skip
                    clear hw1
                    go_simp <;> with_reducible rfl)
                 simp only [Act.put, List.setIfInBounds_toArray, List.set_cons_zero, List.set_cons_succ]))
            refine plan_end ?_
            go_wp2_with fail
            go_ret
            exact ⟨by simp [*], below_at HB9.out S5.out⟩
          · go_wp2_with fail
            refine plan_on (fun _ h => h) S4.out ?_
            repeat (first
              | (refine plan_pure (v := ?_) (by rfl) (fun w1 => ?_) ?_
                 rotate_left
                 · go_simp <;> with_reducible rfl
                 simp only [Act.put, List.setIfInBounds_toArray, List.set_cons_zero, List.set_cons_succ])
              | (refine plan_off (by rfl) ?_
                 simp only [Act.put, List.setIfInBounds_toArray, List.set_cons_zero, List.set_cons_succ])
              | (refine plan_load_off (by rfl) ?_
                 simp only [Act.put, List.setIfInBounds_toArray, List.set_cons_zero, List.set_cons_succ])
              | (refine plan_load (v := ?_) (by rfl) (fun w1 hw1 => ?_) ?_
                 rotate_left
                 · (have q := HQ.out w1 hw1
                    obtain ⟨⟨x0, x1, xl⟩, ⟨y0, y1, yl⟩, ⟨v0, v1, vl⟩, ⟨m0, ml⟩, n0, nl⟩ := q
                    clear hw1
                    go_simp <;> with_reducible rfl)
                 simp only [Act.put, List.setIfInBounds_toArray, List.set_cons_zero, List.set_cons_succ]))
            refine plan_eff ?_
            go_wp2_with fail
            refine (HTG.out u4 _ _ (R1.out.below S4.out (Nat.le_refl _))).mono ?_
            rintro x u5 ⟨rfl, cc⟩
            have S5 := Lib.hid (below_at S4.out cc)
            clear cc
            go_wp2_with fail
            refine plan_on (fun _ h => h) S5.out ?_
            repeat (first
              | (refine plan_pure (v := ?_) (by rfl) (fun w1 => ?_) ?_
                 rotate_left
                 · go_simp <;> with_reducible rfl
                 simp only [Act.put, List.setIfInBounds_toArray, List.set_cons_zero, List.set_cons_succ])
              | (refine plan_off (by rfl) ?_
                 simp only [Act.put, List.setIfInBounds_toArray, List.set_cons_zero, List.set_cons_succ])
              | (refine plan_load_off (by rfl) ?_
                 simp only [Act.put, List.setIfInBounds_toArray, List.set_cons_zero, List.set_cons_succ])
              | (refine plan_load (v := ?_) (by rfl) (fun w1 hw1 => ?_) ?_
                 rotate_left
                 · (have q := HQ.out w1 hw1
                    obtain ⟨⟨x0, x1, xl⟩, ⟨y0, y1, yl⟩, ⟨v0, v1, vl⟩, ⟨m0, ml⟩, n0, nl⟩ := q
                    clear hw1
                    go_simp <;> with_reducible rfl)
                 simp only [Act.put, List.setIfInBounds_toArray, List.set_cons_zero, List.set_cons_succ]))
            refine plan_eff ?_
            go_wp2_with fail
            refine (HTH.out u5 _ _ (R3.out.below S5.out (Nat.le_refl _))).mono ?_
            rintro x u6 ⟨rfl, cc⟩
            have S6 := Lib.hid (below_at S5.out cc)
            clear cc
            go_wp2_with fail
            refine plan_on (fun _ h => h) S6.out ?_
            repeat (first
              | (refine plan_pure (v := ?_) (by rfl) (fun w1 => ?_) ?_
                 rotate_left
                 · go_simp <;> with_reducible rfl
                 simp only [Act.put, List.setIfInBounds_toArray, List.set_cons_zero, List.set_cons_succ])
              | (refine plan_off (by rfl) ?_
                 simp only [Act.put, List.setIfInBounds_toArray, List.set_cons_zero, List.set_cons_succ])
              | (refine plan_load_off (by rfl) ?_
                 simp only [Act.put, List.setIfInBounds_toArray, List.set_cons_zero, List.set_cons_succ])
              | (refine plan_load (v := ?_) (by rfl) (fun w1 hw1 => ?_) ?_
                 rotate_left
                 · (have q := HQ.out w1 hw1
                    obtain ⟨⟨x0, x1, xl⟩, ⟨y0, y1, yl⟩, ⟨v0, v1, vl⟩, ⟨m0, ml⟩, n0, nl⟩ := q
                    clear hw1
                    go_simp <;> with_reducible rfl)
                 simp only [Act.put, List.setIfInBounds_toArray, List.set_cons_zero, List.set_cons_succ]))
            refine plan_eff ?_
            go_wp2_with fail
            refine plan_on (fun _ h => h) S6.out ?_
            repeat (first
              | (refine plan_pure (v := ?_) (by rfl) (fun w1 => ?_) ?_
                 rotate_left
                 · go_simp <;> with_reducible rfl
                 simp only [Act.put, List.setIfInBounds_toArray, List.set_cons_zero, List.set_cons_succ])
              | (refine plan_off (by rfl) ?_
                 simp only [Act.put, List.setIfInBounds_toArray, List.set_cons_zero, List.set_cons_succ])
              | (refine plan_load_off (by rfl) ?_
                 simp only [Act.put, List.setIfInBounds_toArray, List.set_cons_zero, List.set_cons_succ])
              | (refine plan_load (v := ?_) (by rfl) (fun w1 hw1 => ?_) ?_
                 rotate_left
                 · (have q := HQ.out w1 hw1
                    obtain ⟨⟨x0, x1, xl⟩, ⟨y0, y1, yl⟩, ⟨v0, v1, vl⟩, ⟨m0, ml⟩, n0, nl⟩ := q
                    clear hw1
                    go_simp <;> with_reducible rfl)
                 simp only [Act.put, List.setIfInBounds_toArray, List.set_cons_zero, List.set_cons_succ]))
            first | (refine plan_last ?_; go_wp2_with fail) | skip
            repeat (first
              | (refine plan_pure (v := ?_) (by rfl) (fun w1 => ?_) ?_
                 rotate_left
                 · go_simp <;> with_reducible rfl
                 simp only [Act.put, List.setIfInBounds_toArray, List.set_cons_zero, List.set_cons_succ])
              | (refine plan_off (by rfl) ?_
                 simp only [Act.put, List.setIfInBounds_toArray, List.set_cons_zero, List.set_cons_succ])
              | (refine plan_load_off (by rfl) ?_
                 simp only [Act.put, List.setIfInBounds_toArray, List.set_cons_zero, List.set_cons_succ])
              | (refine plan_load (v := ?_) (by rfl) (fun w1 hw1 => ?_) ?_
                 rotate_left
                 · (skip
                    clear hw1
                    go_simp <;> with_reducible rfl)
                 simp only [Act.put, List.setIfInBounds_toArray, List.set_cons_zero, List.set_cons_succ]))
            refine plan_end ?_
            go_wp2_with fail
            go_ret
            exact ⟨by simp [*], below_at HB9.out S6.out⟩
          · have hne2 : (P == P') = false := by rw [ba_beq]; simpa using hne
            have hne3 : decide (P = P') = false := by simpa using hne
            have hne4 : P.toList ≠ P'.toList := fun h => hne (ba_ext h)
            have hne5 : (P.toList == P'.toList) = false := by simpa using hne4
            go_wp2_with fail
            refine plan_on (fun _ h => h) S4.out ?_
            repeat (first
              | (refine plan_pure (v := ?_) (by rfl) (fun w1 => ?_) ?_
                 rotate_left
                 · go_simp <;> with_reducible rfl
                 simp only [Act.put, List.setIfInBounds_toArray, List.set_cons_zero, List.set_cons_succ])
              | (refine plan_off (by rfl) ?_
                 simp only [Act.put, List.setIfInBounds_toArray, List.set_cons_zero, List.set_cons_succ])
              | (refine plan_load_off (by rfl) ?_
                 simp only [Act.put, List.setIfInBounds_toArray, List.set_cons_zero, List.set_cons_succ])
              | (refine plan_load (v := ?_) (by rfl) (fun w1 hw1 => ?_) ?_
                 rotate_left
                 · (have q := HQ.out w1 hw1
                    obtain ⟨⟨x0, x1, xl⟩, ⟨y0, y1, yl⟩, ⟨v0, v1, vl⟩, ⟨m0, ml⟩, n0, nl⟩ := q
                    clear hw1
                    go_simp <;> with_reducible rfl)
                 simp only [Act.put, List.setIfInBounds_toArray, List.set_cons_zero, List.set_cons_succ]))
            refine plan_eff ?_
            go_wp2_with fail
            refine (HTG.out u4 _ _ (R1.out.below S4.out (Nat.le_refl _))).mono ?_
            rintro x u5 ⟨rfl, cc⟩
            have S5 := Lib.hid (below_at S4.out cc)
            clear cc
            go_wp2_with fail
            refine plan_on (fun _ h => h) S5.out ?_
            repeat (first
              | (refine plan_pure (v := ?_) (by rfl) (fun w1 => ?_) ?_
                 rotate_left
                 · go_simp <;> with_reducible rfl
                 simp only [Act.put, List.setIfInBounds_toArray, List.set_cons_zero, List.set_cons_succ])
              | (refine plan_off (by rfl) ?_
                 simp only [Act.put, List.setIfInBounds_toArray, List.set_cons_zero, List.set_cons_succ])
              | (refine plan_load_off (by rfl) ?_
                 simp only [Act.put, List.setIfInBounds_toArray, List.set_cons_zero, List.set_cons_succ])
              | (refine plan_load (v := ?_) (by rfl) (fun w1 hw1 => ?_) ?_
                 rotate_left
                 · (have q := HQ.out w1 hw1
                    obtain ⟨⟨x0, x1, xl⟩, ⟨y0, y1, yl⟩, ⟨v0, v1, vl⟩, ⟨m0, ml⟩, n0, nl⟩ := q
                    clear hw1
                    go_simp <;> with_reducible rfl)
                 simp only [Act.put, List.setIfInBounds_toArray, List.set_cons_zero, List.set_cons_succ]))
            refine plan_eff ?_
            go_wp2_with fail
            refine (HTH.out u5 _ _ (R3.out.below S5.out (Nat.le_refl _))).mono ?_
            rintro x u6 ⟨rfl, cc⟩
            have S6 := Lib.hid (below_at S5.out cc)
            clear cc
            go_wp2_with fail
            refine plan_on (fun _ h => h) S6.out ?_
            repeat (first
              | (refine plan_pure (v := ?_) (by rfl) (fun w1 => ?_) ?_
                 rotate_left
                 · go_simp <;> with_reducible rfl
                 simp only [Act.put, List.setIfInBounds_toArray, List.set_cons_zero, List.set_cons_succ])
              | (refine plan_off (by rfl) ?_
                 simp only [Act.put, List.setIfInBounds_toArray, List.set_cons_zero, List.set_cons_succ])
              | (refine plan_load_off (by rfl) ?_
                 simp only [Act.put, List.setIfInBounds_toArray, List.set_cons_zero, List.set_cons_succ])
              | (refine plan_load (v := ?_) (by rfl) (fun w1 hw1 => ?_) ?_
                 rotate_left
                 · (have q := HQ.out w1 hw1
                    obtain ⟨⟨x0, x1, xl⟩, ⟨y0, y1, yl⟩, ⟨v0, v1, vl⟩, ⟨m0, ml⟩, n0, nl⟩ := q
                    clear hw1
                    go_simp <;> with_reducible rfl)
                 simp only [Act.put, List.setIfInBounds_toArray, List.set_cons_zero, List.set_cons_succ]))
            refine plan_eff ?_
            go_wp2_with fail
            refine (HPG.out u6 _ _ (R1.out.below S6.out (Nat.le_refl _))).mono ?_
            rintro x u7 ⟨rfl, cc⟩
            have S7 := Lib.hid (below_at S6.out cc)
            clear cc
            go_wp2_with fail
            refine plan_on (fun _ h => h) S7.out ?_
            repeat (first
              | (refine plan_pure (v := ?_) (by rfl) (fun w1 => ?_) ?_
                 rotate_left
                 · go_simp <;> with_reducible rfl
                 simp only [Act.put, List.setIfInBounds_toArray, List.set_cons_zero, List.set_cons_succ])
              | (refine plan_off (by rfl) ?_
                 simp only [Act.put, List.setIfInBounds_toArray, List.set_cons_zero, List.set_cons_succ])
              | (refine plan_load_off (by rfl) ?_
                 simp only [Act.put, List.setIfInBounds_toArray, List.set_cons_zero, List.set_cons_succ])
              | (refine plan_load (v := ?_) (by rfl) (fun w1 hw1 => ?_) ?_
                 rotate_left
                 · (have q := HQ.out w1 hw1
                    obtain ⟨⟨x0, x1, xl⟩, ⟨y0, y1, yl⟩, ⟨v0, v1, vl⟩, ⟨m0, ml⟩, n0, nl⟩ := q
                    clear hw1
                    go_simp <;> with_reducible rfl)
                 simp only [Act.put, List.setIfInBounds_toArray, List.set_cons_zero, List.set_cons_succ]))
            refine plan_last ?_
            go_wp2_with fail
            refine (HPH.out u7 _ _ (R3.out.below S7.out (Nat.le_refl _))).mono ?_
            rintro x u8 ⟨rfl, cc⟩
            have S8 := Lib.hid (below_at S7.out cc)
            clear cc
            go_wp2_with fail
            repeat (first
              | (refine plan_pure (v := ?_) (by rfl) (fun w1 => ?_) ?_
                 rotate_left
                 · go_simp <;> with_reducible rfl
                 simp only [Act.put, List.setIfInBounds_toArray, List.set_cons_zero, List.set_cons_succ])
              | (refine plan_off (by rfl) ?_
                 simp only [Act.put, List.setIfInBounds_toArray, List.set_cons_zero, List.set_cons_succ])
              | (refine plan_load_off (by rfl) ?_
                 simp only [Act.put, List.setIfInBounds_toArray, List.set_cons_zero, List.set_cons_succ])
              | (refine plan_load (v := ?_) (by rfl) (fun w1 hw1 => ?_) ?_
                 rotate_left
                 · (skip
                    clear hw1
                    go_simp <;> with_reducible rfl)
                 simp only [Act.put, List.setIfInBounds_toArray, List.set_cons_zero, List.set_cons_succ]))
            refine plan_end ?_
            go_wp2_with fail
            go_ret
            exact ⟨by simp [*], below_at HB9.out S8.out⟩

open Go.ChangeShapes Go.WideShapes Go.ChangeAt
theorem u8_readR {H : Type} {enc : TypeId × Value → H} {w : World} {base : Nat} {spare : Nat → Bool} {held : Bool} (fuel : Nat) (cs : List Value) (y : DataW H × List MemPlace) (hl : cs.length = 1)
    (h : DataW.trod enc Try.prog w base spare held fuel 5 cs = some y) : ∃ x : Nat, cs = [.int .u8 x] ∧ x ≤ 255 := by
  obtain ⟨p, e, w⟩ := tr_int Try.underlying5 h
  obtain ⟨m, rfl, h⟩ := u8_bounds w
  exact ⟨m, e, h⟩
theorem flat_u8sR (xs : List Nat) : xs.flatMap (fun (s : Nat) => [Value.int .u8 (s : Int)]) = xs.map (fun (t : Nat) => Value.int .u8 (t : Int)) := by induction xs <;> simp_all

set_option maxRecDepth 100000 in
theorem ReportMerges_walk {H : Type} {enc : TypeId × Value → H} (W : World) {base : Nat} {v0 v1 v2 : Value} {d0 d1 d2 : DataW H} {p0 p1 p2 : List MemPlace}
    (o0 : Value.okWide Try.prog W .any base 67 v0) (h0 : DataW.Trod enc Try.prog W 0 (fun _ => true) true 67 v0 d0 p0)
    (o1 : Value.okWide Try.prog W .any base 67 v1) (h1 : DataW.Trod enc Try.prog W 0 (fun _ => true) true 67 v1 d1 p1)
    (o2 : Value.okWide Try.prog W .any base 43 v2) (h2 : DataW.Trod enc Try.prog W 0 (fun _ => true) true 43 v2 d2 p2) :
    Calls Try.prog 10 #[v0, v1, v2] W fun e w' => e = .returned (.bool true) ∧ Below W.heap.size W w' := by
  obtain ⟨f0, hf0⟩ := h0
  obtain ⟨f1, hf1⟩ := h1
  obtain ⟨f2, hf2⟩ := h2
  obtain ⟨A, len, cap, rfl⟩ := okWide_slice Try.underlying67 o0
  obtain ⟨B, len', cap', rfl⟩ := okWide_slice Try.underlying67 o1
  obtain ⟨C, len2, cap2, rfl⟩ := okWide_slice Try.underlying43 o2
  obtain ⟨a, rfl, hr, h3, h4, hk⟩ := strs_readQ (by simpa [Value.cells] using hf0)
  obtain ⟨b, rfl, hr', h3', h4', hk'⟩ := strs_readQ (by simpa [Value.cells] using hf1)
  obtain ⟨ss, hl, hg, hr2, h5, h6⟩ := tr_list (f := fun (s : Nat) => [Value.int .u8 (s : Int)]) (sz := 1) (by omega) Try.underlying43 (by kernel_rfl) u8_readR (by simpa [Value.cells] using hf2)
  subst hl
  exact reportMerges_any W A cap a B cap' b C cap2 ss hr hr' (flat_u8sR ss ▸ hr2) h3 h4 h3' h4' hk hk' hg (Nat.le_trans h5 h6)
namespace reportMerges
theorem own : ownKnob Try.prog.godebug = none := by kernel_rfl
theorem laidOut : laidOutB Try.prog = true := by kernel_rfl
set_option maxRecDepth 100000 in
theorem lifted (os : Os) (started : os.Started) (H : Type) (enc : TypeId × Value → H) :
    ReturnsInHanded {} Try.checked os 10 .any (Rows.reportMergesSpec.pre6 enc Try.prog Try.f10 Rows.reportMergesRow.domain false) (Rows.reportMergesSpec.post enc Try.prog Try.f10 false true false false) := by
  refine returnsInHanded_of_change_sized (C := Try.checked) own started (by kernel_rfl) Try.func10
    (ChangeSpec.witness6 (enc := enc) (C := Try.checked) false ⟨#[], #[.slice none 0 0, .slice none 0 0, .slice none 0 0], []⟩ 8 (by kernel_rfl) (by kernel_rfl) (by kernel_rfl) (by kernel_rfl)) ?_
  intro W base args ds gs before hval0 hW hcnd hsz0 _
  have hval : ∀ (j : Nat) t v, Try.f10.params[j]? = some t → args[j]? = some v → Value.okWide Try.prog W .any base t v := hval0
  have hW' := hW
  obtain ⟨p, q, hA0, hV, rfl, hfz, hnd⟩ := hW
  have hA : DataW.TrodAll enc Try.prog W 0 (fun _ => true) true Try.f10.params.toList args.toList ds p := hA0
  rw [Try.params10] at hA hval
  obtain ⟨v0, vs0, d0, ds0, p0, q0, hargs, rfl, rfl, h0, r0⟩ := trodAll_cons hA
  obtain ⟨v1, vs1, d1, ds1, p1, q1, rfl, rfl, rfl, h1, r1⟩ := trodAll_cons r0
  obtain ⟨v2, vs2, d2, ds2, p2, q2, rfl, rfl, rfl, h2, r2⟩ := trodAll_cons r1
  obtain ⟨rfl, rfl, rfl⟩ := trodAll_nil r2
  obtain rfl : args = #[v0, v1, v2] := by cases args; simp_all
  obtain ⟨rfl, rfl⟩ := trodVars_none hV
  have lt0 : ∀ x ∈ p0, x.block < W.heap.size := by obtain ⟨m, hm⟩ := h0; exact DataW.trod_lt m _ _ _ hm
  have lt1 : ∀ x ∈ p1, x.block < W.heap.size := by obtain ⟨m, hm⟩ := h1; exact DataW.trod_lt m _ _ _ hm
  have lt2 : ∀ x ∈ p2, x.block < W.heap.size := by obtain ⟨m, hm⟩ := h2; exact DataW.trod_lt m _ _ _ hm
  clear hA0 hval0 hsz0
  refine (ReportMerges_walk W (hval 0 67 v0 rfl rfl) h0 (hval 1 67 v1 rfl rfl) h1 (hval 2 43 v2 rfl rfl) h2).mono fun e W' ⟨he, bel⟩ => ?_
  subst he
  exact ⟨_, rfl, _, _, _, [], _, [], hW', trodAll_mk1 (shut_bool Try.underlying4 _), (trodAll_cons_mk (Below.trod laidOut (by kernel_rfl) (of_decide_eq_true (by kernel_rfl)) h0 bel lt0) (trodAll_cons_mk (Below.trod laidOut (by kernel_rfl) (of_decide_eq_true (by kernel_rfl)) h1 bel lt1) (trodAll_cons_mk (Below.trod laidOut (by kernel_rfl) (of_decide_eq_true (by kernel_rfl)) h2 bel lt2) trodAll_mk0))), rfl, bel.frame _, fun h => (by cases h)⟩
theorem over : Rows.reportMergesRow.holds Try.pinned (OpenSpec.ofChange Rows.reportMergesSpec) :=
  OpenClaim.holds_of_wide 10 Try.f10 rfl rfl rfl rfl rfl rfl rfl ⟨rfl, rfl, rfl, rfl, rfl⟩ rfl rfl rfl rfl rfl (by kernel_rfl) Try.func10 (by kernel_rfl)
    (of_decide_eq_true (by kernel_rfl)) (by unfold Func.isWrapper; first | (rw [if_pos (by decide +kernel)]; kernel_rfl) | (rw [if_neg (by decide +kernel)]; exact ⟨rfl, rfl⟩))
    (fun os started H enc _ => lifted os started H enc)
end reportMerges
/-- The row. -/
theorem reportMerges_holds : Rows.ReportMergesSaid := reportMerges.over
#print axioms reportMerges_holds
end Go.Proofs.Ytgahjibjladafaa
