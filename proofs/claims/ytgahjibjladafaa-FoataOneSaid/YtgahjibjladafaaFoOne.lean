/- FoataOne: two rows are the same, but for an order that doesn't matter, just if their keys are. -/
import Derived.Test.YtgahjibjladafaaCkE
import Derived.Test.YtgahjibjladafaaFoMore
import Derived.JoinedTies
import Derived.IntWalk
import GoSem.Claim
import Derived.KernelRfl
namespace Go.Proofs.Ytgahjibjladafaa
open Go.RowKit
set_option linter.unusedVariables false

/-- keys as texts, and levels -/
theorem key_bytes {a b : List Ev} (ha : a.length ≤ 200) (hb : b.length ≤ 200) (ra : Fo.rights a = true) (rb : Fo.rights b = true) : (⟨(Fo.key a).toArray⟩ : ByteArray) = ⟨(Fo.key b).toArray⟩ ↔ Fo.lev a = Fo.lev b := by
  have oa : Fo.okRow a = true := by unfold Fo.okRow; rw [ra]; simpa using ha
  have ob : Fo.okRow b = true := by unfold Fo.okRow; rw [rb]; simpa using hb
  constructor
  · intro h
    have h1 : Fo.key a = Fo.key b := by injection h with h; simpa using h
    exact Fo.eqv_same_lev ((Fo.key_iff oa ob).1 h1)
  · intro h
    rw [(Fo.key_iff oa ob).2 (Fo.lev_eqv h)]
theorem bytes_way {s t : ByteArray} {d : Bool} (h : s = t ↔ d = true) : (s.toList == t.toList) = d ∧ (d = true → s = t) ∧ (d = false → ¬ s.toList = t.toList) := by
  refine ⟨?_, h.2, fun hd he => ?_⟩
  · rw [ba_tl]
    cases d with
    | true => exact decide_eq_true (h.2 rfl)
    | false => exact decide_eq_false (fun e => by have := h.1 e; cases this)
  · have := h.1 (ba_ext he); rw [hd] at this; cases this
theorem set_flat : ∀ (c : List Ev) (i : Nat) (x : Ev), i < c.length → ((((c.flatMap encE).set (i * 4) (.int .i64 x.t)).set (i * 4 + 1) (.int .i64 x.k)).set (i * 4 + 2) (.int .i64 x.o)).set (i * 4 + 3) (.bool x.f) = (c.set i x).flatMap encE
  | [], _, _, h => by cases h
  | e :: c, 0, x, _ => by simp [encE]
  | e :: c, i + 1, x, h => by
    have ih := set_flat c i x (by simpa using h)
    have hl : (encE e).length = 4 := rfl
    rw [List.flatMap_cons, List.set_append_right _ _ (by rw [hl]; omega), List.set_append_right _ _ (by rw [hl]; omega), List.set_append_right _ _ (by rw [hl]; omega), List.set_append_right _ _ (by rw [hl]; omega), hl,
      show (i + 1) * 4 - 4 = i * 4 by omega, show (i + 1) * 4 + 1 - 4 = i * 4 + 1 by omega, show (i + 1) * 4 + 2 - 4 = i * 4 + 2 by omega, show (i + 1) * 4 + 3 - 4 = i * 4 + 3 by omega, ih, List.set_cons_succ, List.flatMap_cons]
/-- two neighbours change places -/
theorem Hp_swap {c : List Ev} {t : Nat} {x y : Ev} (hx : c[t]? = some x) (hy : c[t + 1]? = some y) : ((c.set t y).set (t + 1) x).Perm c := by
  obtain ⟨h1, rfl⟩ := List.getElem?_eq_some_iff.1 hx
  obtain ⟨h2, rfl⟩ := List.getElem?_eq_some_iff.1 hy
  have e1 : c = c.take t ++ c[t] :: c[t + 1] :: c.drop (t + 2) := by
    have e2 : c.drop t = c[t] :: c[t + 1] :: c.drop (t + 2) := by rw [List.drop_eq_getElem_cons h1, List.drop_eq_getElem_cons h2]
    rw [← e2, List.take_append_drop]
  have e3 : (c.set t c[t + 1]).set (t + 1) c[t] = c.take t ++ c[t + 1] :: c[t] :: c.drop (t + 2) := by
    apply List.ext_getElem?
    intro j
    have hlt : (c.take t).length = t := by rw [List.length_take]; omega
    rcases Nat.lt_trichotomy j t with h | h | h
    · rw [List.getElem?_set_ne (by omega), List.getElem?_set_ne (by omega), List.getElem?_append_left (by omega), List.getElem?_take, if_pos h]
    · subst h
      rw [List.getElem?_set_ne (by omega), List.getElem?_set_self h1, List.getElem?_append_right (by omega), hlt, Nat.sub_self]; rfl
    · rw [List.getElem?_append_right (by omega), hlt]
      by_cases h3 : j = t + 1
      · subst h3
        rw [List.getElem?_set_self (by rw [List.length_set]; exact h2), show t + 1 - t = 1 by omega]; rfl
      · rw [List.getElem?_set_ne (by omega), List.getElem?_set_ne (by omega), show j - t = (j - (t + 2)) + 1 + 1 by omega, List.getElem?_cons_succ, List.getElem?_cons_succ, List.getElem?_drop, show t + 2 + (j - (t + 2)) = j by omega]
  rw [e3]
  conv => rhs; rw [e1]
  exact (List.Perm.swap _ _ _).append_left _
theorem Row.drew {w : World} {e sz n cap : Nat} {A : Option Addr} {cs : List Value} (h : Row w e sz A n cap cs) : Row w.drew e sz A n cap cs := h.move (fun _ _ => rfl)
/-- an event is stored in a row -/
theorem Row.setEv {w : World} {e g o n cap : Nat} {c : List Ev} (h : Row w e 4 (some ⟨g, o, none⟩) n cap (c.flatMap encE)) (hn : n = c.length) {i : Nat} (hi : i < n) (x : Ev) :
    Row ((((w.setCell ⟨g, o + i * 4, none⟩ (.int .i64 x.t)).setCell ⟨g, o + i * 4 + 1, none⟩ (.int .i64 x.k)).setCell ⟨g, o + i * 4 + 2, none⟩ (.int .i64 x.o)).setCell ⟨g, o + i * 4 + 3, none⟩ (.bool x.f)) e 4 (some ⟨g, o, none⟩) n cap ((c.set i x).flatMap encE) := by
  have r1 := h.set (i * 4) (by omega) (.int .i64 x.t)
  have r2 := r1.set (i * 4 + 1) (by omega) (.int .i64 x.k)
  have r3 := r2.set (i * 4 + 2) (by omega) (.int .i64 x.o)
  have r4 := r3.set (i * 4 + 3) (by omega) (.bool x.f)
  rw [set_flat c i x (by omega)] at r4
  simpa only [Nat.add_assoc] using r4
theorem setEv_mod {w : World} {g p : Nat} (x : Ev) : Mod (fun q => q = g) w ((((w.setCell ⟨g, p, none⟩ (.int .i64 x.t)).setCell ⟨g, p + 1, none⟩ (.int .i64 x.k)).setCell ⟨g, p + 2, none⟩ (.int .i64 x.o)).setCell ⟨g, p + 3, none⟩ (.bool x.f)) :=
  ((((Mod.refl (fun q => q = g) w).setCell (p := ⟨g, p, none⟩) (fun _ => rfl) _).setCell (p := ⟨g, p + 1, none⟩) (fun _ => rfl) _).setCell (p := ⟨g, p + 2, none⟩) (fun _ => rfl) _).setCell (p := ⟨g, p + 3, none⟩) (fun _ => rfl) _

set_option maxRecDepth 100000 in
set_option maxHeartbeats 8000000 in
theorem foataOne_any (W : World) (A : Option Addr) (cap : Nat) (a : List Ev) (B : Option Addr) (cap' : Nat) (b : List Ev) (C : Option Addr) (cc : Nat) (ss : List Nat)
    (ha : Rd W 4 A a.length (a.flatMap encE)) (hca : a.length ≤ cap) (hma : cap ≤ maxLen) (hb : Rd W 4 B b.length (b.flatMap encE)) (hcb : b.length ≤ cap') (hmb : cap' ≤ maxLen)
    (hs : Rd W 1 C ss.length (ss.map fun (t : Nat) => .int .u8 (t : Int))) (hls : ss.length ≤ maxLen) (hss : ∀ t ∈ ss, t ≤ 255) :
    Calls Try.prog 7 #[.slice A a.length cap, .slice B b.length cap', .slice C ss.length cc] W fun e w' => e = .returned (.bool true) ∧ Below W.heap.size W w' := by
  have hm1 : a.length < 9223372036854775808 := by unfold maxLen at hma; omega
  have hm2 : b.length < 9223372036854775808 := by unfold maxLen at hmb; omega
  have hm3 : ss.length < 9223372036854775808 := by unfold maxLen at hls; omega
  have hra : ∀ u, Below W.heap.size W u → Rd u 4 A a.length (a.flatMap encE) := fun u hu => ha.below hu (Nat.le_refl _)
  have hrb : ∀ u, Below W.heap.size W u → Rd u 4 B b.length (b.flatMap encE) := fun u hu => hb.below hu (Nat.le_refl _)
  have hrowa : a.length ≤ 30 → ∀ u, Below W.heap.size W u → Calls Try.prog 25 #[.slice A a.length cap] u fun x w' => x = .returned (.bool (Fo.rights a)) ∧ Below u.heap.size u w' := fun h u hu => rows_any u A cap a (hra u hu) (by omega)
  have hrowb : b.length ≤ 30 → ∀ u, Below W.heap.size W u → Calls Try.prog 25 #[.slice B b.length cap'] u fun x w' => x = .returned (.bool (Fo.rights b)) ∧ Below u.heap.size u w' := fun h u hu => rows_any u B cap' b (hrb u hu) (by omega)
  obtain ⟨qa, hqa⟩ : ∃ q, q = Fo.rights a := ⟨_, rfl⟩
  obtain ⟨qb, hqb⟩ : ∃ q, q = Fo.rights b := ⟨_, rfl⟩
  rw [← hqa] at hrowa
  rw [← hqb] at hrowb
  have HQA := Lib.hid hqa
  have HQB := Lib.hid hqb
  have HRA := Lib.hid hra
  have HRB := Lib.hid hrb
  have HROWA := Lib.hid hrowa
  have HROWB := Lib.hid hrowb
  have HS := Lib.hid hs
  have HSS := Lib.hid hss
  have HCA := Lib.hid (And.intro hca hma)
  have HCB := Lib.hid (And.intro hcb hmb)
  clear ha hca hma hb hcb hmb hs hls hss hra hrb hrowa hrowb hqa hqb
  go_enter Try.func7, Try.ntmps7
  go_upto_region 1 with fail
  go_cut [37] (fun v w2 => Below W.heap.size W w2 ∧ ∃ z, v = .bool z ∧ (z = false → a.length ≤ 30 ∧ b.length ≤ 30 ∧ ss.length ≤ 100 ∧ qa = true ∧ qb = true))
  case first =>
    go_wp2_with fail
    refine (awake05 _).mono ?_
    rintro x w1 ⟨rfl, b1⟩
    have HB1 := Lib.hid b1
    clear b1
    by_cases h1 : a.length ≤ 30
    · have d1 : decide (30 < a.length) = false := by simp; omega
      by_cases h2 : b.length ≤ 30
      · have d2 : decide (30 < b.length) = false := by simp; omega
        by_cases h3 : ss.length ≤ 100
        · have d3 : decide (100 < ss.length) = false := by simp; omega
          have HC := Lib.hid (HROWA.out h1 w1 HB1.out)
          go_wp2_with fail
          refine HC.out.mono ?_
          rintro x w2 ⟨rfl, b2⟩
          have HB2 := Lib.hid (below_at HB1.out b2)
          have HC2 := Lib.hid (HROWB.out h2 w2 HB2.out)
          clear b2
          cases qa with
          | false =>
            go_wp2_with fail
            go_meet
            exact ⟨HB2.out, _, rfl, fun h => by cases h⟩
          | true =>
            go_wp2_with fail
            refine HC2.out.mono ?_
            rintro x w3 ⟨rfl, b3⟩
            go_wp2_with fail
            go_meet
            exact ⟨below_at HB2.out b3, _, rfl, fun h => ⟨h1, h2, h3, by trivial, by cases qb <;> simp_all⟩⟩
        · have d3 : decide (100 < ss.length) = true := by simp; omega
          go_wp2_with fail
          go_meet
          exact ⟨HB1.out, _, rfl, fun h => by cases h⟩
      · have d2 : decide (30 < b.length) = true := by simp; omega
        go_wp2_with fail
        go_meet
        exact ⟨HB1.out, _, rfl, fun h => by cases h⟩
    · have d1 : decide (30 < a.length) = true := by simp; omega
      go_wp2_with fail
      go_meet
      exact ⟨HB1.out, _, rfl, fun h => by cases h⟩
  case rest =>
    obtain ⟨b1, z, rfl, hz⟩ := hcut
    have HB1 := Lib.hid b1
    clear b1
    cases z with
    | true =>
      go_wp2_with fail
      refine (awake05 _).mono ?_
      rintro e w2 ⟨rfl, b2⟩
      go_wp2_with fail
      go_ret
      exact ⟨rfl, below_at HB1.out b2⟩
    | false =>
      obtain ⟨h1, h2, h3, rfl, rfl⟩ := hz rfl
      clear hz hm1 hm2 hm3 HROWA HROWB
      obtain ⟨i0, hi0, hz0, hz1, hz2⟩ := info_parts Try.infoEv
      have HX := Lib.hid (HRA.out (wc.alloc (Obj.cells #[] 39)) (HB1.out.alloc HB1.out.size _))
      go_wp2_with (at_builtin; refine wpList_append_copy (by rfl) _ _ _ (by rfl) 39 i0 _ 4 32 Try.underlying22 hi0 hz0 hz1 hz2 rfl (by omega) ⟨wc.heap.size, 0, none⟩ 0 [] (by rfl) (row_empty (heap_alloc_new wc _)) A a.length cap (a.flatMap encE) (by rfl) HX.out (by unfold maxLen; omega) (by omega) ?_; intro g7 o7 cap7 w2 hown hb2 hg7)
      rw [Nat.zero_add, List.nil_append] at hown
      have hg : W.heap.size ≤ g7 := by have := HB1.out.size; rcases hg7 with ⟨_, h⟩ | h; (change g7 = wc.heap.size at h; omega); (simp at h; omega)
      have HR2 := Lib.hid hown
      have HB2 := Lib.hid (below_at (HB1.out.alloc HB1.out.size _) hb2)
      have HG := Lib.hid hg
      have HCAP := Lib.hid (And.intro hown.2.1 hown.2.2.1)
      clear hown hb2 hg7 hg HX HB1
      go_wp2_with fail
      go_loopw [44] (fun v wr => ∃ (k : Nat) (c : List Ev), k ≤ ss.length ∧ v = .int .i64 k ∧ Hid (c.Perm a) ∧ Hid (Row wr 39 4 (some ⟨g7, o7, none⟩) a.length cap7 (c.flatMap encE)) ∧ Hid (Mod (fun q => q = g7) w2 wr)) (fun v _ => ss.length - (intOf v).toNat)
      case atStart => exact ⟨0, a, Nat.zero_le _, rfl, Lib.hid (List.Perm.refl _), HR2, Lib.hid (Mod.refl _ _)⟩
      case round =>
        obtain ⟨k, c, hk, rfl, HPM, HRW, HMV⟩ := hrel
        have HBW := Lib.hid (((Mod.of_below HB2.out).then HMV.out (fun q _ h => by rw [h]; exact HG.out)).below _ (Nat.le_refl _) (fun q hq h => by omega) : Below W.heap.size W wr)
        have hcl : c.length = a.length := HPM.out.length_eq
        have HCL := Lib.hid hcl
        by_cases hlt : k < ss.length
        · obtain ⟨g1, o1, rfl, hg1, hc1⟩ := HS.out.2 (by omega)
          obtain ⟨t, hs⟩ := get_some hlt
          have htb : t ≤ 255 := HSS.out t (List.mem_of_getElem? hs)
          have c1 : wr.cell? ⟨g1, o1 + k, none⟩ = some (.int .u8 t) := by rw [World.cell?_of_block (HBW.out.block g1 hg1), hc1 k (by omega)]; simp [hs]
          have lg1 : g1 < wr.heap.size := by have := HBW.out.size; omega
          have k1 : (0 : Int) ≤ (k : Int) := Int.natCast_nonneg _
          have k2 : (k : Int) < (ss.length : Int) := by omega
          clear hc1 hs
          by_cases hin : t + 1 < a.length
          · obtain ⟨x, hx⟩ := get_some (show t < c.length by omega)
            obtain ⟨y, hy⟩ := get_some (show t + 1 < c.length by omega)
            have hev : ∀ (u : World) (c : List Ev), Row u 39 4 (some ⟨g7, o7, none⟩) a.length cap7 (c.flatMap encE) → c.length = a.length → ∀ i e, c[i]? = some e → EvAt u g7 (o7 + i * 4) e := fun u c hr hl i e he => by
              obtain ⟨h4, rfl⟩ := List.getElem?_eq_some_iff.1 he
              obtain ⟨g', o', e', _, h5⟩ := evs_cell (hl.symm ▸ hr.rd.toB) i h4
              obtain ⟨rfl, rfl⟩ : g7 = g' ∧ o7 = o' := by injection e' with e'; injection e' with a b; exact ⟨a, b⟩
              exact h5 u (Below.refl _ _)
            have hrow := HRW.out
            obtain ⟨x0, x1, x2, x3⟩ := hev wr c hrow hcl t x hx
            obtain ⟨y0, y1, y2, y3⟩ := hev wr c hrow hcl (t + 1) y hy
            have r1 := Row.setEv hrow hcl.symm (show t < a.length by omega) y
            have hl1 : (c.set t y).length = a.length := by rw [List.length_set]; exact hcl
            have hy1 : (c.set t y)[t + 1]? = some y := by rw [List.getElem?_set_ne (by omega)]; exact hy
            have hz1 := hev _ _ r1 hl1 (t + 1) y hy1
            have r2 := Row.setEv r1 hl1.symm (show t + 1 < a.length by omega) x
            have hpm2 : ((c.set t y).set (t + 1) x).Perm a := by
              have := Hp_swap hx hy
              exact this.trans HPM.out
            have lg7 : g7 < wr.heap.size := hrow.lt
            have f1 : ∀ j, wr.frozen? ⟨g7, j, none⟩ = false := fun j => hrow.free j
            obtain ⟨z0, z1, z2, z3⟩ := hz1
            have HL1 := Lib.hid hl1
            have HPM2 := Lib.hid hpm2
            have hm9 : Mod (fun q => q = g7) wr ((((wr.setCell ⟨g7, o7 + t * 4, none⟩ (.int .i64 y.t)).setCell ⟨g7, o7 + t * 4 + 1, none⟩ (.int .i64 y.k)).setCell ⟨g7, o7 + t * 4 + 2, none⟩ (.int .i64 y.o)).setCell ⟨g7, o7 + t * 4 + 3, none⟩ (.bool y.f)) := setEv_mod y
            have f2 := fun j => r1.free j
            have HR2x := Lib.hid r2
            have HM9 := Lib.hid hm9
            have f1a := f1 (o7 + t * 4)
            have f1b := f1 (o7 + t * 4 + 1)
            have f1c := f1 (o7 + t * 4 + 2)
            have f1d := f1 (o7 + t * 4 + 3)
            have f2a := f2 (o7 + (t + 1) * 4)
            have f2b := f2 (o7 + (t + 1) * 4 + 1)
            have f2c := f2 (o7 + (t + 1) * 4 + 2)
            have f2d := f2 (o7 + (t + 1) * 4 + 3)
            have HX := Lib.hid (fun u (hu : Mod (fun _ => False) wr u) => show (u.cell? ⟨g7, o7 + t * 4, none⟩ = some (.int .i64 x.t) ∧ u.cell? ⟨g7, o7 + t * 4 + 1, none⟩ = some (.int .i64 x.k) ∧ u.cell? ⟨g7, o7 + t * 4 + 2, none⟩ = some (.int .i64 x.o) ∧ u.cell? ⟨g7, o7 + t * 4 + 3, none⟩ = some (.bool x.f)) ∧ (u.cell? ⟨g7, o7 + (t + 1) * 4, none⟩ = some (.int .i64 y.t) ∧ u.cell? ⟨g7, o7 + (t + 1) * 4 + 1, none⟩ = some (.int .i64 y.k) ∧ u.cell? ⟨g7, o7 + (t + 1) * 4 + 2, none⟩ = some (.int .i64 y.o) ∧ u.cell? ⟨g7, o7 + (t + 1) * 4 + 3, none⟩ = some (.bool y.f)) from
              ⟨⟨(hu.cell _ _ lg7 id).trans x0, (hu.cell _ _ lg7 id).trans x1, (hu.cell _ _ lg7 id).trans x2, (hu.cell _ _ lg7 id).trans x3⟩, (hu.cell _ _ lg7 id).trans y0, (hu.cell _ _ lg7 id).trans y1, (hu.cell _ _ lg7 id).trans y2, (hu.cell _ _ lg7 id).trans y3⟩)
            have hS : Mod (fun _ => False) wr wr.drew := (Mod.refl _ _).drew
            have t1 : (0 : Int) ≤ (t : Int) := Int.natCast_nonneg _
            have t2 : (t : Int) < (a.length : Int) := by omega
            have t3 : (t : Int) + 1 < (a.length : Int) := by omega
            have t4 : (0 : Int) ≤ (t : Int) + 1 := by omega
            clear hx hy hev hrow r1 hl1 hy1 r2 hpm2 hm9 f1 f2 hcl
            go_upto_region 9 with fail
            have hw : IntKind.i64.wrap ((t : Int) + 1) = ((t + 1 : Nat) : Int) := by rw [IntWalk.i64_in _ (by omega)]; omega
            clear t3 t4
            generalize htu : t + 1 = uu at *
            have HTU := Lib.hid htu
            have u1 : (0 : Int) ≤ (uu : Int) := Int.natCast_nonneg _
            have u2 : (uu : Int) < (a.length : Int) := by omega
            clear htu
            refine wp_region_plan (by kernel_rfl) (fun u => Mod (fun _ => False) wr u) [15, 17] [(0, .pure), (1, .pure), (2, .pure), (3, .pure), (4, .pure), (5, .pure), (6, .pure), (7, .pure), (8, .pure), (9, .load), (10, .pure), (11, .pure), (12, .pure), (13, .load), (14, .pure), (15, .last), (16, .pure), (17, .last)] (by simp only [List.map_cons, List.map_nil, List.getElem?_toArray, List.getElem?_cons_succ, List.getElem?_cons_zero]; rfl) (by kernel_rfl) (fun _ _ d _ _ h => by cases d <;> exact h) (hS) ?_
            repeat (first
              | (refine plan_pure (v := ?_) (by rfl) (fun w1 => ?_) ?_
                 rotate_left
                 · go_simp <;> with_reducible rfl
                 simp only [Act.put, List.setIfInBounds_toArray, List.set_cons_zero, List.set_cons_succ])
              | (refine plan_off (by rfl) ?_
                 simp only [Act.put, List.setIfInBounds_toArray, List.set_cons_zero, List.set_cons_succ])
              | (refine plan_load_off (by rfl) ?_
                 simp only [Act.put, List.setIfInBounds_toArray, List.set_cons_zero, List.set_cons_succ])
              | (refine plan_load (v := ?_) (by rfl) (fun w1 hw1 => ?_) ?_
                 rotate_left
                 · (have q := HX.out w1 hw1
                    obtain ⟨⟨q0, q1, q2, q3⟩, q4, q5, q6, q7⟩ := q
                    clear hw1
                    go_simp <;> with_reducible rfl)
                 simp only [Act.put, List.setIfInBounds_toArray, List.set_cons_zero, List.set_cons_succ]))
            refine plan_last ?_
            go_wp2_with fail
            repeat (first
              | (refine plan_pure (v := ?_) (by rfl) (fun w1 => ?_) ?_
                 rotate_left
                 · go_simp <;> with_reducible rfl
                 simp only [Act.put, List.setIfInBounds_toArray, List.set_cons_zero, List.set_cons_succ])
              | (refine plan_off (by rfl) ?_
                 simp only [Act.put, List.setIfInBounds_toArray, List.set_cons_zero, List.set_cons_succ])
              | (refine plan_load_off (by rfl) ?_
                 simp only [Act.put, List.setIfInBounds_toArray, List.set_cons_zero, List.set_cons_succ])
              | (refine plan_load (v := ?_) (by rfl) (fun w1 hw1 => ?_) ?_
                 rotate_left
                 · (skip
                    clear hw1
                    go_simp <;> with_reducible rfl)
                 simp only [Act.put, List.setIfInBounds_toArray, List.set_cons_zero, List.set_cons_succ]))
            refine plan_last ?_
            go_wp2_with fail
            refine plan_end ?_
            go_wp2_with fail
            go_roundw
            case rel =>
              refine ⟨k + 1, (c.set t y).set uu x, by omega, by go_num, HPM2, Lib.hid (Row.drew HR2x.out), Lib.hid (Mod.drew (Mod.trans (F := fun q => q = g7) HMV.out (Mod.trans (F := fun q => q = g7) HM9.out ?_)))⟩
              exact setEv_mod x
            case measure => simp [intOf]; omega
          · have hd : decide (t + 1 < a.length) = false := by simp; omega
            clear hcl
            go_wp2_with fail
            go_roundw
            case rel => exact ⟨k + 1, c, by omega, by go_num, HPM, HRW, HMV⟩
            case measure => simp [intOf]; omega
        · have rc : Fo.rights c = true := by rw [Fo.rights_perm HPM.out]; exact HQA.out.symm
          have hrc : ∀ u, Below wr.heap.size wr u → Rd u 4 (some ⟨g7, o7, none⟩) a.length (c.flatMap encE) := fun u hu => (row_step HRW.out hu).rd
          have hkab := key_bytes (a := a) (b := b) (by omega) (by omega) HQA.out.symm HQB.out.symm
          have hkac := key_bytes (a := a) (b := c) (by omega) (by omega) HQA.out.symm rc
          have cka : ∀ u, Below wr.heap.size wr u → Calls Try.prog 14 #[.slice A a.length cap] u fun x w' => x = .returned (.string ⟨(Fo.key a).toArray⟩) ∧ Below u.heap.size u w' := fun u hu => fkey_any u A cap a (HRA.out u (below_at HBW.out hu)) (by omega)
          have ckb : ∀ u, Below wr.heap.size wr u → Calls Try.prog 14 #[.slice B b.length cap'] u fun x w' => x = .returned (.string ⟨(Fo.key b).toArray⟩) ∧ Below u.heap.size u w' := fun u hu => fkey_any u B cap' b (HRB.out u (below_at HBW.out hu)) (by omega)
          have ckc : ∀ u, Below wr.heap.size wr u → Calls Try.prog 14 #[.slice (some ⟨g7, o7, none⟩) a.length cap7] u fun x w' => x = .returned (.string ⟨(Fo.key c).toArray⟩) ∧ Below u.heap.size u w' := fun u hu => by
            have := fkey_any u (some ⟨g7, o7, none⟩) cap7 c (by rw [hcl]; exact hrc u hu) (by omega)
            rwa [hcl] at this
          have csab : ∀ u, Below wr.heap.size wr u → Calls Try.prog 28 #[.slice A a.length cap, .slice B b.length cap'] u fun x w' => x = .returned (.bool (decide (Fo.lev a = Fo.lev b))) ∧ Below u.heap.size u w' := fun u hu =>
            csame_any u A cap a B cap' b (HRA.out u (below_at HBW.out hu)) (HRB.out u (below_at HBW.out hu)) HCA.out.1 HCA.out.2 HCB.out.1 HCB.out.2 (by omega) (by omega) HQA.out.symm HQB.out.symm
          have csac : ∀ u, Below wr.heap.size wr u → Calls Try.prog 28 #[.slice A a.length cap, .slice (some ⟨g7, o7, none⟩) a.length cap7] u fun x w' => x = .returned (.bool (decide (Fo.lev a = Fo.lev c))) ∧ Below u.heap.size u w' := fun u hu => by
            have := csame_any u A cap a (some ⟨g7, o7, none⟩) cap7 c (HRA.out u (below_at HBW.out hu)) (by rw [hcl]; exact hrc u hu) HCA.out.1 HCA.out.2 (by rw [hcl]; exact HCAP.out.1) HCAP.out.2 (by omega) (by omega) HQA.out.symm rc
            rwa [hcl] at this
          have hok : Fo.okRow a = true := by unfold Fo.okRow; rw [← HQA.out]; simp; omega
          have hlr : Fo.levR a = Fo.lev a := by unfold Fo.levR; rw [if_pos hok]
          have clev : ∀ u, Below wr.heap.size wr u → Calls Try.prog 13 #[.slice A a.length cap] u (LvOut u (Fo.lev a)) := fun u hu => hlr ▸ levels_any u A cap a (HRA.out u (below_at HBW.out hu)) (by omega)
          have hfl := (Fo.lev_flat a).length_eq
          have hll : (Fo.lev a).length ≤ 30 := by rw [Fo.lev_len]; exact Nat.le_trans (Fo.levU_len a) h1
          have crow : ∀ (u : World) (A' : Option Addr) (cap' : Nat), LvAt u u.heap.size A' (Fo.lev a) → Calls Try.prog 20 #[.slice A' (Fo.lev a).length cap'] u (RowOut u (Fo.lev a).flatten) := fun u A' cap' hu => frow_any u A' cap' _ hu (by omega) (by omega)
          have rfl' : Fo.rights (Fo.lev a).flatten = true := by rw [Fo.rights_perm (Fo.lev_flat a)]; exact HQA.out.symm
          have csla : ∀ (u : World) (A' : Option Addr) (cp : Nat), Below wr.heap.size wr u → Rd u 4 A' (Fo.lev a).flatten.length ((Fo.lev a).flatten.flatMap encE) → (Fo.lev a).flatten.length ≤ cp → cp ≤ maxLen → Calls Try.prog 28 #[.slice A' (Fo.lev a).flatten.length cp, .slice A a.length cap] u fun x w' => x = .returned (.bool true) ∧ Below u.heap.size u w' := fun u A' cp hu hr h3 h4 => by
            have := csame_any u A' cp (Fo.lev a).flatten A cap a hr (HRA.out u (below_at HBW.out hu)) h3 h4 HCA.out.1 HCA.out.2 (by omega) (by omega) rfl' HQA.out.symm
            rwa [decide_eq_true (Fo.lev_again a)] at this
          have wab := bytes_way (d := decide (Fo.lev a = Fo.lev b)) (by rw [decide_eq_true_eq]; exact hkab)
          have wac := bytes_way (d := decide (Fo.lev a = Fo.lev c)) (by rw [decide_eq_true_eq]; exact hkac)
          generalize decide (Fo.lev a = Fo.lev b) = dab at csab wab
          generalize decide (Fo.lev a = Fo.lev c) = dac at csac wac
          generalize (⟨(Fo.key a).toArray⟩ : ByteArray) = ka at *
          generalize (⟨(Fo.key b).toArray⟩ : ByteArray) = kb at *
          generalize (⟨(Fo.key c).toArray⟩ : ByteArray) = kc at *
          generalize (Fo.lev a).flatten = R at crow csla hfl rfl'
          generalize Fo.lev a = L at clev crow hll
          have CKA := Lib.hid cka
          have CKB := Lib.hid ckb
          have CKC := Lib.hid ckc
          have CSAB := Lib.hid csab
          have CSAC := Lib.hid csac
          have CLEV := Lib.hid clev
          have CROW := Lib.hid crow
          have CSLA := Lib.hid csla
          have WAB := Lib.hid wab
          have WAC := Lib.hid wac
          clear rc hrc hkab hkac cka ckb ckc csab csac hok hlr clev hfl crow rfl' csla wab wac hcl HCL HR2
          generalize wr = V at *
          go_wp2_with fail
          refine (CKA.out V (Below.refl _ _)).mono ?_
          rintro x v1 ⟨rfl, b1⟩
          have B1 := Lib.hid b1
          have C1 := Lib.hid (CKB.out v1 b1)
          clear b1
          go_wp2_with fail
          refine C1.out.mono ?_
          rintro x v2 ⟨rfl, b2⟩
          have B2 := Lib.hid (below_at B1.out b2)
          have C2 := Lib.hid (CSAB.out v2 B2.out)
          clear b2 C1
          have way : (dab = true ∧ ka = kb) ∨ (dab = false ∧ (ka.toList == kb.toList) = false ∧ ¬ ka.toList = kb.toList) := by
            cases dab with
            | true => exact .inl ⟨rfl, WAB.out.2.1 rfl⟩
            | false => exact .inr ⟨rfl, WAB.out.1, WAB.out.2.2 rfl⟩
          clear WAB
          have way2 : (dac = true ∧ ka = kc) ∨ (dac = false ∧ (ka.toList == kc.toList) = false ∧ ¬ ka.toList = kc.toList) := by
            cases dac with
            | true => exact .inl ⟨rfl, WAC.out.2.1 rfl⟩
            | false => exact .inr ⟨rfl, WAC.out.1, WAC.out.2.2 rfl⟩
          clear WAC
          rcases way with ⟨rfl, rfl⟩ | ⟨rfl, e1, e2⟩
          all_goals
            go_wp2_with fail
            refine C2.out.mono ?_
            rintro x v3 ⟨rfl, b3⟩
            have B3 := Lib.hid (below_at B2.out b3)
            have C3 := Lib.hid (CKA.out v3 B3.out)
            clear b3
            go_wp2_with fail
            refine C3.out.mono ?_
            rintro x v4 ⟨rfl, b4⟩
            have B4 := Lib.hid (below_at B3.out b4)
            have C4 := Lib.hid (CKC.out v4 B4.out)
            clear b4
            go_wp2_with fail
            refine C4.out.mono ?_
            rintro x v5 ⟨rfl, b5⟩
            have B5 := Lib.hid (below_at B4.out b5)
            have C5 := Lib.hid (CSAC.out v5 B5.out)
            clear b5
            rcases way2 with ⟨rfl, rfl⟩ | ⟨rfl, e3, e4⟩
            all_goals
              go_wp2_with fail
              refine C5.out.mono ?_
              rintro x v6 ⟨rfl, b6⟩
              have B6 := Lib.hid (below_at B5.out b6)
              have C6 := Lib.hid (CLEV.out v6 B6.out)
              clear b6
              go_wp2_with fail
              refine C6.out.mono ?_
              rintro x v7 ⟨A7, cp7, rfl, hlv, b7⟩
              have B7 := Lib.hid (below_at B6.out b7)
              have C7 := Lib.hid (CROW.out v7 A7 cp7 hlv)
              clear b7 hlv
              go_wp2_with fail
              refine C7.out.mono ?_
              rintro x v8 ⟨A8, cp8, rfl, ⟨hr8, h5, h6⟩, b8⟩
              have B8 := Lib.hid (below_at B7.out b8)
              have C8 := Lib.hid (CSLA.out v8 A8 cp8 B8.out hr8 h5 h6)
              clear b8 hr8 h5 h6
              go_wp2_with fail
              refine C8.out.mono ?_
              rintro x v9 ⟨rfl, b9⟩
              have B9 := Lib.hid (below_chain HBW.out (below_at B8.out b9) (by have := HBW.out.size; omega))
              clear b9
              go_wp2_with fail
              go_ret
              exact ⟨by simp, B9.out⟩

open Go.ChangeShapes Go.WideShapes Go.ChangeAt
theorem u8_read {H : Type} {enc : TypeId × Value → H} {w : World} {base : Nat} {spare : Nat → Bool} {held : Bool} (fuel : Nat) (cs : List Value) (y : DataW H × List MemPlace) (hl : cs.length = 1)
    (h : DataW.trod enc Try.prog w base spare held fuel 5 cs = some y) : ∃ x : Nat, cs = [.int .u8 x] ∧ x ≤ 255 := by
  obtain ⟨p, e, w⟩ := tr_int Try.underlying5 h
  obtain ⟨m, rfl, h⟩ := u8_bounds w
  exact ⟨m, e, h⟩
theorem flat_u8s (xs : List Nat) : xs.flatMap (fun (s : Nat) => [Value.int .u8 (s : Int)]) = xs.map (fun (t : Nat) => Value.int .u8 (t : Int)) := by induction xs <;> simp_all
set_option maxRecDepth 100000 in
theorem FoataOne_walk {H : Type} {enc : TypeId × Value → H} (W : World) {base : Nat} {v0 v1 v2 : Value} {d0 d1 d2 : DataW H} {p0 p1 p2 : List MemPlace}
    (o0 : Value.okWide Try.prog W .any base 22 v0) (h0 : DataW.Trod enc Try.prog W 0 (fun _ => true) true 22 v0 d0 p0)
    (o1 : Value.okWide Try.prog W .any base 22 v1) (h1 : DataW.Trod enc Try.prog W 0 (fun _ => true) true 22 v1 d1 p1)
    (o2 : Value.okWide Try.prog W .any base 43 v2) (h2 : DataW.Trod enc Try.prog W 0 (fun _ => true) true 43 v2 d2 p2) :
    Calls Try.prog 7 #[v0, v1, v2] W fun e w' => e = .returned (.bool true) ∧ Below W.heap.size W w' := by
  obtain ⟨f0, hf0⟩ := h0
  obtain ⟨f1, hf1⟩ := h1
  obtain ⟨f2, hf2⟩ := h2
  obtain ⟨A, len, cap, rfl⟩ := okWide_slice Try.underlying22 o0
  obtain ⟨B, len', cap', rfl⟩ := okWide_slice Try.underlying22 o1
  obtain ⟨C, len2, cap2, rfl⟩ := okWide_slice Try.underlying43 o2
  obtain ⟨a, rfl, hr, h3, h4⟩ := row_read (by simpa [Value.cells] using hf0)
  obtain ⟨b, rfl, hr', h3', h4'⟩ := row_read (by simpa [Value.cells] using hf1)
  obtain ⟨ss, hl, hg, hr2, h5, h6⟩ := tr_list (f := fun (s : Nat) => [Value.int .u8 (s : Int)]) (sz := 1) (by omega) Try.underlying43 (by kernel_rfl) u8_read (by simpa [Value.cells] using hf2)
  subst hl
  exact foataOne_any W A cap a B cap' b C cap2 ss hr h3 h4 hr' h3' h4' (flat_u8s ss ▸ hr2) (Nat.le_trans h5 h6) hg
namespace foataOne
theorem own : ownKnob Try.prog.godebug = none := by kernel_rfl
theorem laidOut : laidOutB Try.prog = true := by kernel_rfl
set_option maxRecDepth 100000 in
theorem lifted (os : Os) (started : os.Started) (H : Type) (enc : TypeId × Value → H) :
    ReturnsInHanded {} Try.checked os 7 .any (Rows.foataOneSpec.pre6 enc Try.prog Try.f7 Rows.foataOneRow.domain false) (Rows.foataOneSpec.post enc Try.prog Try.f7 false true false false) := by
  refine returnsInHanded_of_change_sized (C := Try.checked) own started (by kernel_rfl) Try.func7
    (ChangeSpec.witness6 (enc := enc) (C := Try.checked) false ⟨#[], #[.slice none 0 0, .slice none 0 0, .slice none 0 0], []⟩ 8 (by kernel_rfl) (by kernel_rfl) (by kernel_rfl) (by kernel_rfl)) ?_
  intro W base args ds gs before hval0 hW hcnd hsz0 _
  have hval : ∀ (j : Nat) t v, Try.f7.params[j]? = some t → args[j]? = some v → Value.okWide Try.prog W .any base t v := hval0
  have hW' := hW
  obtain ⟨p, q, hA0, hV, rfl, hfz, hnd⟩ := hW
  have hA : DataW.TrodAll enc Try.prog W 0 (fun _ => true) true Try.f7.params.toList args.toList ds p := hA0
  rw [Try.params7] at hA hval
  obtain ⟨v0, vs0, d0, ds0, p0, q0, hargs, rfl, rfl, h0, r0⟩ := trodAll_cons hA
  obtain ⟨v1, vs1, d1, ds1, p1, q1, rfl, rfl, rfl, h1, r1⟩ := trodAll_cons r0
  obtain ⟨v2, vs2, d2, ds2, p2, q2, rfl, rfl, rfl, h2, r2⟩ := trodAll_cons r1
  obtain ⟨rfl, rfl, rfl⟩ := trodAll_nil r2
  obtain rfl : args = #[v0, v1, v2] := by cases args; simp_all
  obtain ⟨rfl, rfl⟩ := trodVars_none hV
  have lt0 : ∀ x ∈ p0, x.block < W.heap.size := by obtain ⟨m, hm⟩ := h0; exact DataW.trod_lt m _ _ _ hm
  have lt1 : ∀ x ∈ p1, x.block < W.heap.size := by obtain ⟨m, hm⟩ := h1; exact DataW.trod_lt m _ _ _ hm
  have lt2 : ∀ x ∈ p2, x.block < W.heap.size := by obtain ⟨m, hm⟩ := h2; exact DataW.trod_lt m _ _ _ hm
  clear hA0 hval0 hsz0
  refine (FoataOne_walk W (hval 0 22 v0 rfl rfl) h0 (hval 1 22 v1 rfl rfl) h1 (hval 2 43 v2 rfl rfl) h2).mono fun e W' ⟨he, bel⟩ => ?_
  subst he
  exact ⟨_, rfl, _, _, _, [], _, [], hW', trodAll_mk1 (shut_bool Try.underlying4 _), (trodAll_cons_mk (Below.trod laidOut (by kernel_rfl) (of_decide_eq_true (by kernel_rfl)) h0 bel lt0) (trodAll_cons_mk (Below.trod laidOut (by kernel_rfl) (of_decide_eq_true (by kernel_rfl)) h1 bel lt1) (trodAll_cons_mk (Below.trod laidOut (by kernel_rfl) (of_decide_eq_true (by kernel_rfl)) h2 bel lt2) trodAll_mk0))), rfl, bel.frame _, fun h => (by cases h)⟩
theorem over : Rows.foataOneRow.holds Try.pinned (OpenSpec.ofChange Rows.foataOneSpec) :=
  OpenClaim.holds_of_wide 7 Try.f7 rfl rfl rfl rfl rfl rfl rfl ⟨rfl, rfl, rfl, rfl, rfl⟩ rfl rfl rfl rfl rfl (by kernel_rfl) Try.func7 (by kernel_rfl)
    (of_decide_eq_true (by kernel_rfl)) (by unfold Func.isWrapper; first | (rw [if_pos (by decide +kernel)]; kernel_rfl) | (rw [if_neg (by decide +kernel)]; exact ⟨rfl, rfl⟩))
    (fun os started H enc _ => lifted os started H enc)
end foataOne
/-- The row. -/
theorem foataOne_holds : Rows.FoataOneSaid := foataOne.over
#print axioms foataOne_holds
end Go.Proofs.Ytgahjibjladafaa
