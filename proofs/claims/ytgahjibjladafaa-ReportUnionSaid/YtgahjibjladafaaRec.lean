/- Reports: Right, twice. -/
import Derived.Test.YtgahjibjladafaaRea
import Derived.Test.YtgahjibjladafaaFr
import Derived.IntWalk
namespace Go.Proofs.Ytgahjibjladafaa
open Go.RowKit
set_option linter.unusedVariables false

namespace Ky
theorem okAt_is {ks : List K} {i : Nat} {x : K} (h : ks[i]? = some x) : okAt ks i = ((Fo.readL x).isSome && (decide (i = 0) || lt (ks.getD (i - 1) []) x)) := by
  unfold okAt
  rw [List.getD_eq_getElem?_getD, h]
  rfl
theorem right_end {ks : List K} (h : okUp ks ks.length = true) : rightK ks = decide (ks.length ≤ 65535) := by unfold rightK; rw [h]; rfl
end Ky
/-- a report in a box -/
theorem box_rep (w : World) (T : TypeId) (A : Option Addr) (n cap : Nat) (c : Bool) : ∃ W X, W = w.alloc (Obj.cells #[.slice A n cap, .bool c] T) ∧ X = w.heap.size ∧ Below w.heap.size w W ∧ X < W.heap.size ∧ ∀ u, Below W.heap.size W u → u.cell? ⟨X, 0, none⟩ = some (.slice A n cap) ∧ u.cell? ⟨X, 1, none⟩ = some (.bool c) ∧ X < u.heap.size := by
  refine ⟨_, _, rfl, rfl, (Below.refl _ _).alloc (Nat.le_refl _) _, by simp, fun u hu => ?_⟩
  have h1 := heap_alloc_new w (Obj.cells #[.slice A n cap, .bool c] T)
  have g1 := (hu.block _ (blk_lt h1)).trans h1
  exact ⟨by rw [cell_blk g1]; rfl, by rw [cell_blk g1]; rfl, blk_lt g1⟩

set_option maxRecDepth 100000 in
set_option maxHeartbeats 4000000 in
theorem rright_any (w : World) (A : Option Addr) (cap : Nat) (ks : List Ky.K) (c : Bool) (hr : Rd w 1 A ks.length (ks.map sv)) (hl : ks.length ≤ 1000000) (hk : ∀ k ∈ ks, k.length < 100000) :
    Calls Try.prog 47 #[.agg #[.slice A ks.length cap, .bool c]] w fun x w' => x = .returned (.bool (Ky.rightK ks)) ∧ Below w.heap.size w w' := by
  have hkr : ∀ (s : Ky.K), s.length < 100000 → ∀ u, Calls Try.prog 18 #[.string ⟨s.toArray⟩] u (ReadOut u s) := fun s hs u => by
    have := fread_any u ⟨s.toArray⟩ (by show s.toArray.size < _; simpa using hs)
    exact this
  have HC := Lib.hid (str_cell hr.toB)
  have HK := Lib.hid hk
  have HKR := Lib.hid hkr
  clear hr hk hkr
  obtain ⟨W1, X, hW1, hX, hBW, hXl, hXe⟩ := box_rep w 70 A ks.length cap c
  have HXE := Lib.hid hXe
  have HBW := Lib.hid hBW
  clear hXe hBW hXl
  go_enter Try.func47, Try.ntmps47
  go_upto_region 1 with fail
  rw [← hW1, ← hX]
  clear hW1 hX
  obtain ⟨x0, x1, xl⟩ := HXE.out W1 (Below.refl _ _)
  go_wp2_with fail
  clear x0 x1 xl
  go_loopw [10] (fun v wr => ∃ i : Nat, i ≤ ks.length ∧ v = .int .i64 i ∧ Hid (Ky.okUp ks i = true) ∧ Hid (Below W1.heap.size W1 wr)) (fun v _ => ks.length - (intOf v).toNat)
  case atStart => exact ⟨0, Nat.zero_le _, rfl, Lib.hid rfl, Lib.hid (Below.refl _ _)⟩
  case round =>
    obtain ⟨i, hi, rfl, HUP, HB⟩ := hrel
    have HBB := Lib.hid (below_at HBW.out HB.out)
    by_cases hlt : i < ks.length
    · obtain ⟨x, hx⟩ := get_some hlt
      obtain ⟨g, o, rfl, hg, hcl⟩ := HC.out i x hx
      have v0 := hcl wr HBB.out
      have k1 : (0 : Int) ≤ (i : Int) := Int.natCast_nonneg _
      have k2 : (i : Int) < (ks.length : Int) := by omega
      have lg : g < wr.heap.size := by have := HBB.out.size; omega
      have hcall := HKR.out x (HK.out x (List.mem_of_getElem? hx)) wr
      have hoa := Ky.okAt_is hx
      have hof := Ky.okUp_false hlt
      have hpv : i ≠ 0 → ∃ y : Ky.K, ks.getD (i - 1) [] = y ∧ ∀ u, Below w.heap.size w u → u.cell? ⟨g, o + (i - 1), none⟩ = some (.string ⟨y.toArray⟩) := fun h0 => by
        obtain ⟨y, hy⟩ := get_some (show i - 1 < ks.length by omega)
        obtain ⟨g', o', e', _, h5⟩ := HC.out (i - 1) y hy
        obtain ⟨rfl, rfl⟩ : g = g' ∧ o = o' := by injection e' with e'; injection e' with a b; exact ⟨a, b⟩
        exact ⟨y, by rw [List.getD_eq_getElem?_getD, hy]; rfl, h5⟩
      have HCALL := Lib.hid hcall
      have HOA := Lib.hid hoa
      have HOF := Lib.hid hof
      have HPV := Lib.hid hpv
      have HCL := Lib.hid hcl
      clear hx hcl hcall hoa hof hpv
      go_wp2_with fail
      refine HCALL.out.mono ?_
      rintro y w2 hy
      have hsum : ∃ (M : List (List Ev)) (A1 : Option Addr) (cap1 : Nat) (ok : Bool) (ev : Int), y = .returned (.tuple #[.slice A1 M.length cap1, .int .i64 ev]) ∧ ((ok = true ∧ ev = 0) ∨ (ok = false ∧ ev = 3)) ∧ (Fo.readL x).isSome = ok ∧ Below wr.heap.size wr w2 := by
        rcases hy with ⟨A1, cap1, M, hM, rfl, _, h3⟩ | ⟨hM, rfl, h3⟩
        · exact ⟨M, A1, cap1, true, 0, rfl, .inl ⟨rfl, rfl⟩, by rw [hM]; rfl, h3⟩
        · exact ⟨[], none, 0, false, 3, rfl, .inr ⟨rfl, rfl⟩, by rw [hM]; rfl, h3⟩
      obtain ⟨M, A1, cap1, ok, ev, rfl, hev, hok, hb2⟩ := hsum
      have HB2 := Lib.hid (below_at HB.out hb2)
      have HBB2 := Lib.hid (below_at HBB.out hb2)
      have HOK := Lib.hid hok
      have lg2 : g < w2.heap.size := by have := HBB2.out.size; omega
      obtain ⟨x0, x1, xl⟩ := HXE.out w2 HB2.out
      clear hy hok hb2 HCALL v0 lg
      rcases hev with ⟨rfl, rfl⟩ | ⟨rfl, rfl⟩
      · by_cases h0 : i = 0
        · subst h0
          have hup : Ky.okUp ks (0 + 1) = true := by rw [Ky.okUp_succ, HUP.out, HOA.out, HOK.out]; rfl
          have HU := Lib.hid hup
          clear hup
          go_wp2_with fail
          go_roundw
          case rel => exact ⟨0 + 1, by omega, by go_num, HU, HB2⟩
          case measure => simp [intOf]; omega
        · obtain ⟨z, hz, hzc⟩ := HPV.out h0
          obtain ⟨bz, bx, e1, e2, _, _, _, e6, _⟩ := sv_way z x
          have z0 := hzc w2 HBB2.out
          rw [e1] at z0
          have hd : decide (0 < i) = true := by simp; omega
          have hi1 : (0 : Int) < (i : Int) := by omega
          have hi3 : (i : Int) - 1 = ((i - 1 : Nat) : Int) := by omega
          have hi4 : ((i - 1 : Nat) : Int) < (ks.length : Int) := by omega
          have hi5 : (0 : Int) ≤ ((i - 1 : Nat) : Int) := Int.natCast_nonneg _
          have HOA2 := Lib.hid (show Ky.okAt ks i = Ky.lt z x by rw [HOA.out, HOK.out, hz, decide_eq_false h0]; simp)
          rw [e2]
          clear hzc hz e1 e2 h0
          cases hlz : Ky.lt z x with
          | true =>
            rw [hlz] at e6
            have hup : Ky.okUp ks (i + 1) = true := by rw [Ky.okUp_succ, HUP.out, HOA2.out, hlz]; rfl
            have HU := Lib.hid hup
            clear hup hlz
            go_wp2_with fail
            go_roundw
            case rel => exact ⟨i + 1, by omega, by go_num, HU, HB2⟩
            case measure => simp [intOf]; omega
          | false =>
            rw [hlz] at e6
            have hfin : Ky.rightK ks = false := HOF.out (by rw [HOA2.out, hlz])
            have HFIN := Lib.hid hfin
            clear hfin hlz
            go_wp2_with fail
            go_ret
            exact ⟨by rw [HFIN.out]; rfl, HBB2.out⟩
      · have hfin : Ky.rightK ks = false := HOF.out (by rw [HOA.out, HOK.out]; rfl)
        have HFIN := Lib.hid hfin
        clear hfin
        go_wp2_with fail
        go_ret
        exact ⟨by rw [HFIN.out]; rfl, HBB2.out⟩
    · obtain rfl : i = ks.length := by omega
      have hfin := Ky.right_end HUP.out
      have hcast : decide ((ks.length : Int) ≤ 65535) = decide (ks.length ≤ 65535) := by by_cases h : ks.length ≤ 65535 <;> simp [h] <;> omega
      have HFIN := Lib.hid (hfin.trans hcast.symm)
      obtain ⟨x0, x1, xl⟩ := HXE.out wr HB.out
      clear hfin hcast
      go_wp2_with fail
      go_ret
      exact ⟨by rw [HFIN.out]; rfl, HBB.out⟩
end Go.Proofs.Ytgahjibjladafaa
/- Reports: the document's Right. -/
namespace Go.Proofs.Ytgahjibjladafaa
open Go.RowKit
set_option linter.unusedVariables false

set_option maxRecDepth 100000 in
set_option maxHeartbeats 4000000 in
theorem refRight15_any (w : World) (A : Option Addr) (cap : Nat) (ks : List Ky.K) (c : Bool) (hr : Rd w 1 A ks.length (ks.map sv)) (hl : ks.length ≤ 1000000) (hk : ∀ k ∈ ks, k.length < 100000) :
    Calls Try.prog 48 #[.agg #[.slice A ks.length cap, .bool c]] w fun x w' => x = .returned (.bool (Ky.rightK ks)) ∧ Below w.heap.size w w' := by
  have hkr : ∀ (s : Ky.K), s.length < 100000 → ∀ u, Calls Try.prog 23 #[.string ⟨s.toArray⟩] u (ReadOutB u s) := fun s hs u => by
    have := refReadL_any u ⟨s.toArray⟩ (by show s.toArray.size < _; simpa using hs)
    exact this
  have HC := Lib.hid (str_cell hr.toB)
  have HK := Lib.hid hk
  have HKR := Lib.hid hkr
  clear hr hk hkr
  obtain ⟨W1, X, hW1, hX, hBW, hXl, hXe⟩ := box_rep w 72 A ks.length cap c
  have HXE := Lib.hid hXe
  have HBW := Lib.hid hBW
  clear hXe hBW hXl
  go_enter Try.func48, Try.ntmps48
  go_upto_region 1 with fail
  rw [← hW1, ← hX]
  clear hW1 hX
  go_wp2_with fail
  go_loopw [3] (fun v wr => ∃ i : Nat, i ≤ ks.length ∧ v = .int .i64 i ∧ Hid (Ky.okUp ks i = true) ∧ Hid (Below W1.heap.size W1 wr)) (fun v _ => ks.length - (intOf v).toNat)
  case atStart => exact ⟨0, Nat.zero_le _, rfl, Lib.hid rfl, Lib.hid (Below.refl _ _)⟩
  case round =>
    obtain ⟨i, hi, rfl, HUP, HB⟩ := hrel
    have HBB := Lib.hid (below_at HBW.out HB.out)
    by_cases hlt : i < ks.length
    · obtain ⟨x, hx⟩ := get_some hlt
      obtain ⟨g, o, rfl, hg, hcl⟩ := HC.out i x hx
      have v0 := hcl wr HBB.out
      obtain ⟨x0, x1, xl⟩ := HXE.out wr HB.out
      have k1 : (0 : Int) ≤ (i : Int) := Int.natCast_nonneg _
      have k2 : (i : Int) < (ks.length : Int) := by omega
      have lg : g < wr.heap.size := by have := HBB.out.size; omega
      have hcall := HKR.out x (HK.out x (List.mem_of_getElem? hx)) wr
      have hoa := Ky.okAt_is hx
      have hof := Ky.okUp_false hlt
      have hpv : i ≠ 0 → ∃ y : Ky.K, ks.getD (i - 1) [] = y ∧ ∀ u, Below w.heap.size w u → u.cell? ⟨g, o + (i - 1), none⟩ = some (.string ⟨y.toArray⟩) := fun h0 => by
        obtain ⟨y, hy⟩ := get_some (show i - 1 < ks.length by omega)
        obtain ⟨g', o', e', _, h5⟩ := HC.out (i - 1) y hy
        obtain ⟨rfl, rfl⟩ : g = g' ∧ o = o' := by injection e' with e'; injection e' with a b; exact ⟨a, b⟩
        exact ⟨y, by rw [List.getD_eq_getElem?_getD, hy]; rfl, h5⟩
      have HCALL := Lib.hid hcall
      have HOA := Lib.hid hoa
      have HOF := Lib.hid hof
      have HPV := Lib.hid hpv
      have HCL := Lib.hid hcl
      clear hx hcl hcall hoa hof hpv
      go_wp2_with fail
      refine HCALL.out.mono ?_
      rintro y w2 hy
      have hsum : ∃ (M : List (List Ev)) (A1 : Option Addr) (cap1 : Nat) (ok : Bool), y = .returned (.tuple #[.slice A1 M.length cap1, .bool ok]) ∧ ((ok = true) ∨ (ok = false)) ∧ (Fo.readL x).isSome = ok ∧ Below wr.heap.size wr w2 := by
        rcases hy with ⟨A1, cap1, M, hM, rfl, _, h3⟩ | ⟨hM, rfl, h3⟩
        · exact ⟨M, A1, cap1, true, rfl, .inl rfl, by rw [hM]; rfl, h3⟩
        · exact ⟨[], none, 0, false, rfl, .inr rfl, by rw [hM]; rfl, h3⟩
      obtain ⟨M, A1, cap1, ok, rfl, hev, hok, hb2⟩ := hsum
      have HB2 := Lib.hid (below_at HB.out hb2)
      have HBB2 := Lib.hid (below_at HBB.out hb2)
      have HOK := Lib.hid hok
      have lg2 : g < w2.heap.size := by have := HBB2.out.size; omega
      clear hy hok hb2 HCALL v0 lg x0 x1 xl
      have hX2 : ∀ u, Below w2.heap.size w2 u → u.cell? ⟨X, 0, none⟩ = some (.slice (some ⟨g, o, none⟩) ks.length cap) := fun u hu => (HXE.out u (below_at HB2.out hu)).1
      have HX2 := Lib.hid hX2
      have hV2 : ∀ u, Below w2.heap.size w2 u → u.cell? ⟨g, o + i, none⟩ = some (.string ⟨x.toArray⟩) := fun u hu => HCL.out u (below_at HBB2.out hu)
      have HV2 := Lib.hid hV2
      have hS : Below w2.heap.size w2 w2.drew := (Below.refl _ _).drew
      clear hX2 hV2
      rcases hev with rfl | rfl
      · by_cases h0 : i = 0
        · subst h0
          have hup : Ky.okUp ks (0 + 1) = true := by rw [Ky.okUp_succ, HUP.out, HOA.out, HOK.out]; rfl
          have HU := Lib.hid hup
          clear hup
          go_wp2_with fail
          refine wp_region_plan (by kernel_rfl) (fun u => Below w2.heap.size w2 u) [] [(0, .pure), (1, .pure), (2, .pure), (3, .pure), (4, .pure), (5, .pure), (6, .pure), (7, .load), (8, .pure), (9, .pure), (10, .pure), (11, .load), (12, .pure), (13, .load), (14, .pure), (15, .pure), (16, .load), (17, .pure), (18, .pure), (19, .pure)] (by simp only [List.map_cons, List.map_nil, List.getElem?_toArray, List.getElem?_cons_succ, List.getElem?_cons_zero]; rfl) (by kernel_rfl) (fun _ _ d _ _ h => by cases d <;> exact h) (hS) ?_
          repeat (first
            | (refine plan_pure (v := ?_) (by rfl) (fun w1 => ?_) ?_
               rotate_left
               · go_simp <;> with_reducible rfl
               simp only [Act.put, List.setIfInBounds_toArray, List.set_cons_zero, List.set_cons_succ])
            | (refine plan_off (by rfl) ?_
               simp only [Act.put, List.setIfInBounds_toArray, List.set_cons_zero, List.set_cons_succ])
            | (refine plan_load_off (by rfl) ?_
               simp only [Act.put, List.setIfInBounds_toArray, List.set_cons_zero, List.set_cons_succ])
            | (refine plan_load (v := ?_) (by rfl) (fun w1 hw1 => ?_) ?_
               rotate_left
               · (have q0 := HX2.out w1 hw1
                  clear hw1
                  go_simp <;> with_reducible rfl)
               simp only [Act.put, List.setIfInBounds_toArray, List.set_cons_zero, List.set_cons_succ]))
          refine plan_end ?_
          go_wp2_with fail
          go_roundw
          case rel => exact ⟨0 + 1, by omega, by go_num, HU, Lib.hid HB2.out.drew⟩
          case measure => simp [intOf]; omega
        · obtain ⟨z, hz, hzc⟩ := HPV.out h0
          obtain ⟨bz, bx, e1, e2, _, _, _, e6, _⟩ := sv_way z x
          have hd : decide (0 < i) = true := by simp; omega
          have hi1 : (0 : Int) < (i : Int) := by omega
          have hi3 : (i : Int) - 1 = ((i - 1 : Nat) : Int) := by omega
          have hi4 : ((i - 1 : Nat) : Int) < (ks.length : Int) := by omega
          have hi5 : (0 : Int) ≤ ((i - 1 : Nat) : Int) := Int.natCast_nonneg _
          have hiw : IntKind.i64.wrap ((i - 1 : Nat) : Int) = ((i - 1 : Nat) : Int) := IntWalk.i64_in _ (by omega)
          have HOA2 := Lib.hid (show Ky.okAt ks i = Ky.lt z x by rw [HOA.out, HOK.out, hz, decide_eq_false h0]; simp)
          have hq : ∀ u, Below w2.heap.size w2 u → u.cell? ⟨g, o + (i - 1), none⟩ = some (.string bz) ∧ u.cell? ⟨g, o + i, none⟩ = some (.string bx) ∧ u.cell? ⟨X, 0, none⟩ = some (.slice (some ⟨g, o, none⟩) ks.length cap) := fun u hu => ⟨by rw [← e1]; exact hzc u (below_at HBB2.out hu), by rw [← e2]; exact HV2.out u hu, HX2.out u hu⟩
          have HQ := Lib.hid hq
          generalize i - 1 = im at *
          clear hzc hz e1 e2 h0 hq
          cases hlz : Ky.lt z x with
          | true =>
            rw [hlz] at e6
            have hup : Ky.okUp ks (i + 1) = true := by rw [Ky.okUp_succ, HUP.out, HOA2.out, hlz]; rfl
            have HU := Lib.hid hup
            clear hup hlz
            go_wp2_with fail
            refine wp_region_plan (by kernel_rfl) (fun u => Below w2.heap.size w2 u) [] [(0, .pure), (1, .pure), (2, .pure), (3, .pure), (4, .pure), (5, .pure), (6, .pure), (7, .load), (8, .pure), (9, .pure), (10, .pure), (11, .load), (12, .pure), (13, .load), (14, .pure), (15, .pure), (16, .load), (17, .pure), (18, .pure), (19, .pure)] (by simp only [List.map_cons, List.map_nil, List.getElem?_toArray, List.getElem?_cons_succ, List.getElem?_cons_zero]; rfl) (by kernel_rfl) (fun _ _ d _ _ h => by cases d <;> exact h) (hS) ?_
            repeat (first
              | (refine plan_pure (v := ?_) (by rfl) (fun w1 => ?_) ?_
                 rotate_left
                 · go_simp <;> with_reducible rfl
                 simp only [Act.put, List.setIfInBounds_toArray, List.set_cons_zero, List.set_cons_succ])
              | (refine plan_off (by rfl) ?_
                 simp only [Act.put, List.setIfInBounds_toArray, List.set_cons_zero, List.set_cons_succ])
              | (refine plan_load_off (by rfl) ?_
                 simp only [Act.put, List.setIfInBounds_toArray, List.set_cons_zero, List.set_cons_succ])
              | (refine plan_load (v := ?_) (by rfl) (fun w1 hw1 => ?_) ?_
                 rotate_left
                 · (have q := HQ.out w1 hw1
                    obtain ⟨q0, q1, q2⟩ := q
                    clear hw1
                    go_simp <;> with_reducible rfl)
                 simp only [Act.put, List.setIfInBounds_toArray, List.set_cons_zero, List.set_cons_succ]))
            refine plan_end ?_
            go_wp2_with fail
            go_roundw
            case rel => exact ⟨i + 1, by omega, by go_num, HU, Lib.hid HB2.out.drew⟩
            case measure => simp [intOf]; omega
          | false =>
            rw [hlz] at e6
            have hfin : Ky.rightK ks = false := HOF.out (by rw [HOA2.out, hlz])
            have HFIN := Lib.hid hfin
            clear hfin hlz
            go_wp2_with fail
            refine wp_region_plan (by kernel_rfl) (fun u => Below w2.heap.size w2 u) [] [(0, .pure), (1, .pure), (2, .pure), (3, .pure), (4, .pure), (5, .pure), (6, .pure), (7, .load), (8, .pure), (9, .pure), (10, .pure), (11, .load), (12, .pure), (13, .load), (14, .pure), (15, .pure), (16, .load), (17, .pure), (18, .pure), (19, .pure)] (by simp only [List.map_cons, List.map_nil, List.getElem?_toArray, List.getElem?_cons_succ, List.getElem?_cons_zero]; rfl) (by kernel_rfl) (fun _ _ d _ _ h => by cases d <;> exact h) (hS) ?_
            repeat (first
              | (refine plan_pure (v := ?_) (by rfl) (fun w1 => ?_) ?_
                 rotate_left
                 · go_simp <;> with_reducible rfl
                 simp only [Act.put, List.setIfInBounds_toArray, List.set_cons_zero, List.set_cons_succ])
              | (refine plan_off (by rfl) ?_
                 simp only [Act.put, List.setIfInBounds_toArray, List.set_cons_zero, List.set_cons_succ])
              | (refine plan_load_off (by rfl) ?_
                 simp only [Act.put, List.setIfInBounds_toArray, List.set_cons_zero, List.set_cons_succ])
              | (refine plan_load (v := ?_) (by rfl) (fun w1 hw1 => ?_) ?_
                 rotate_left
                 · (have q := HQ.out w1 hw1
                    obtain ⟨q0, q1, q2⟩ := q
                    clear hw1
                    go_simp <;> with_reducible rfl)
                 simp only [Act.put, List.setIfInBounds_toArray, List.set_cons_zero, List.set_cons_succ]))
            refine plan_end ?_
            go_wp2_with fail
            go_ret
            exact ⟨by rw [HFIN.out]; rfl, HBB2.out.drew⟩
      · have hfin : Ky.rightK ks = false := HOF.out (by rw [HOA.out, HOK.out]; rfl)
        have HFIN := Lib.hid hfin
        clear hfin
        go_wp2_with fail
        refine wp_region_plan (by kernel_rfl) (fun u => Below w2.heap.size w2 u) [] [(0, .pure), (1, .pure), (2, .pure), (3, .pure), (4, .pure), (5, .pure), (6, .pure), (7, .load), (8, .pure), (9, .pure), (10, .pure), (11, .load), (12, .pure), (13, .load), (14, .pure), (15, .pure), (16, .load), (17, .pure), (18, .pure), (19, .pure)] (by simp only [List.map_cons, List.map_nil, List.getElem?_toArray, List.getElem?_cons_succ, List.getElem?_cons_zero]; rfl) (by kernel_rfl) (fun _ _ d _ _ h => by cases d <;> exact h) (hS) ?_
        repeat (first
          | (refine plan_pure (v := ?_) (by rfl) (fun w1 => ?_) ?_
             rotate_left
             · go_simp <;> with_reducible rfl
             simp only [Act.put, List.setIfInBounds_toArray, List.set_cons_zero, List.set_cons_succ])
          | (refine plan_off (by rfl) ?_
             simp only [Act.put, List.setIfInBounds_toArray, List.set_cons_zero, List.set_cons_succ])
          | (refine plan_load_off (by rfl) ?_
             simp only [Act.put, List.setIfInBounds_toArray, List.set_cons_zero, List.set_cons_succ])
          | (refine plan_load (v := ?_) (by rfl) (fun w1 hw1 => ?_) ?_
             rotate_left
             · (have q0 := HX2.out w1 hw1
                clear hw1
                go_simp <;> with_reducible rfl)
             simp only [Act.put, List.setIfInBounds_toArray, List.set_cons_zero, List.set_cons_succ]))
        refine plan_end ?_
        go_wp2_with fail
        go_ret
        exact ⟨by rw [HFIN.out]; rfl, HBB2.out.drew⟩
    · obtain rfl : i = ks.length := by omega
      have hfin := Ky.right_end HUP.out
      have hcast : decide ((ks.length : Int) ≤ 65535) = decide (ks.length ≤ 65535) := by by_cases h : ks.length ≤ 65535 <;> simp [h] <;> omega
      have HFIN := Lib.hid (hfin.trans hcast.symm)
      obtain ⟨x0, x1, xl⟩ := HXE.out wr HB.out
      clear hfin hcast
      go_wp2_with fail
      go_ret
      exact ⟨by rw [HFIN.out]; rfl, HBB.out⟩
end Go.Proofs.Ytgahjibjladafaa
