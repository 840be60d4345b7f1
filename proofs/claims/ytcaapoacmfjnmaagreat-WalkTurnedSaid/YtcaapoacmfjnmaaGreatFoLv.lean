/- Are rows, and levels, the same? -/
import Derived.Test.YtcaapoacmfjnmaaGreatFoA
import Derived.Laws.StructEq
import Derived.Shelf.SlicesE.Kit
import Derived.Test.YtcaapoacmfjnmaaGreatRows
namespace Go.Proofs.YtcaapoacmfjnmaaGreat
open Go.RowKit
set_option linter.unusedVariables false

set_option maxRecDepth 100000 in
theorem evEq (a b : Ev) (w : World) : (Op.equalIn 10000 57 (.agg #[.int .i64 a.t, .int .i64 a.k, .int .i64 a.o, .bool a.f]) (.agg #[.int .i64 b.t, .int .i64 b.k, .int .i64 b.o, .bool b.f])).run Tryz.prog w = .ok (decide (a = b)) w := by
  have u3 := Tryz.underlying3
  have u4 := Tryz.underlying4
  have a3 := Tryz.isAgg3
  have z3 := Tryz.sizeOf3
  have a4 := Tryz.isAgg4
  have z4 := Tryz.sizeOf4
  have hS : Tryz.prog.underlying 57 = some (.struct (Tryz.prog.fieldsOf 57)) := by kernel_rfl
  have hp : Tryz.prog.stoodInHeld 57 = false := by kernel_rfl
  rw [show (10000 : Nat) = 9999 + 1 from rfl, run_equalIn_agg w 9999 57 _ _ hS hp]
  simp only [Program.fieldsOf, Tryz.underlying57]
  go_simp
  obtain ⟨t, k, o, f⟩ := a
  obtain ⟨t', k', o', f'⟩ := b
  simp only [Ev.mk.injEq]
  by_cases h1 : t = t' <;> by_cases h2 : k = k' <;> by_cases h3 : o = o' <;> by_cases h4 : f = f' <;> simp [h1, h2, h3, h4]
theorem evGuard (op : BinOp) (x y : Operand) (a b : Array Value) (w : World) : (eqGuard op 57 x y (.agg a) (.agg b)).run Tryz.prog w = .ok () w := run_eqGuard_agg w op 57 x y _ _ (by kernel_rfl)

end Go.Proofs.YtcaapoacmfjnmaaGreat
/- Levels: rows of rows. Are two the same? -/
namespace Go.Proofs.YtcaapoacmfjnmaaGreat
open Go.RowKit
set_option linter.unusedVariables false

/-- `L` lies at `A`, all of it ahead of block `B`. -/
def LvAt (w : World) (B : Nat) (A : Option Addr) (L : List (List Ev)) : Prop :=
  ∃ vs : List Value, RdB w B 1 A L.length vs ∧ ∀ i, (hi : i < L.length) → ∃ A' c', vs[i]? = some (.slice A' L[i].length c') ∧ RdB w B 4 A' L[i].length (L[i].flatMap encE) ∧ L[i].length ≤ c' ∧ c' ≤ maxLen
theorem LvAt.below {w w' : World} {B : Nat} {A : Option Addr} {L : List (List Ev)} (h : LvAt w B A L) (hb : Below B w w') : LvAt w' B A L := by
  obtain ⟨vs, h1, h2⟩ := h
  refine ⟨vs, h1.below hb, fun i hi => ?_⟩
  obtain ⟨A', c', h3, h4, h5⟩ := h2 i hi
  exact ⟨A', c', h3, h4.below hb, h5⟩
theorem RdB.mono {w : World} {B B' sz : Nat} {A : Option Addr} {n : Nat} {cs : List Value} (h : RdB w B sz A n cs) (hB : B ≤ B') : RdB w B' sz A n cs := by
  refine ⟨h.1, fun h0 => ?_⟩
  obtain ⟨g, o, hA, hg, hc⟩ := h.2 h0
  exact ⟨g, o, hA, Nat.lt_of_lt_of_le hg hB, hc⟩
theorem LvAt.mono {w : World} {B B' : Nat} {A : Option Addr} {L : List (List Ev)} (h : LvAt w B A L) (hB : B ≤ B') : LvAt w B' A L := by
  obtain ⟨vs, h1, h2⟩ := h
  refine ⟨vs, h1.mono hB, fun i hi => ?_⟩
  obtain ⟨A', c', h3, h4, h5⟩ := h2 i hi
  exact ⟨A', c', h3, h4.mono hB, h5⟩
theorem LvAt.cell {w : World} {B : Nat} {A : Option Addr} {L : List (List Ev)} (h : LvAt w B A L) : ∀ k, (hk : k < L.length) → ∃ g o A' c', A = some ⟨g, o, none⟩ ∧ g < B ∧ RdB w B 4 A' L[k].length (L[k].flatMap encE) ∧ ∀ u, Below B w u → u.cell? ⟨g, o + k, none⟩ = some (.slice A' L[k].length c') := fun k hk => by
  obtain ⟨vs, h1, h2⟩ := h
  obtain ⟨g, o, hA, hg, hc⟩ := h1.2 (by omega)
  obtain ⟨A', c', h3, h4, _⟩ := h2 k hk
  refine ⟨g, o, A', c', hA, hg, h4, fun u hu => ?_⟩
  rw [World.cell?_of_block (hu.block g hg), hc k (by omega), h3]

theorem get_some {α : Type} {q : List α} {k : Nat} (h : k < q.length) : ∃ e, q[k]? = some e := ⟨_, List.getElem?_eq_getElem h⟩
/-- a level: its row, its events -/
theorem LvAt.lvl {w : World} {B : Nat} {A : Option Addr} {L : List (List Ev)} (h : LvAt w B A L) : ∀ (k : Nat) (q : List Ev), L[k]? = some q → ∃ g o A' c', A = some ⟨g, o, none⟩ ∧ g < B ∧ RdB w B 4 A' q.length (q.flatMap encE) ∧ (∀ (j : Nat) (e : Ev), q[j]? = some e → ∃ g o, A' = some ⟨g, o, none⟩ ∧ g < B ∧ ∀ u, Below B w u → EvAt u g (o + j * 4) e) ∧ (∀ u, Below B w u → u.cell? ⟨g, o + k, none⟩ = some (.slice A' q.length c')) ∧ q.length ≤ c' ∧ c' ≤ maxLen := fun k q hq => by
  obtain ⟨hk, rfl⟩ := List.getElem?_eq_some_iff.1 hq
  obtain ⟨vs, h1, h2⟩ := h
  obtain ⟨g, o, hA, hg, hc⟩ := h1.2 (by omega)
  obtain ⟨A', c', h3, h4, h5, h6⟩ := h2 k hk
  refine ⟨g, o, A', c', hA, hg, h4, fun j e he => ?_, fun u hu => ?_, h5, h6⟩
  · obtain ⟨h2, rfl⟩ := List.getElem?_eq_some_iff.1 he
    exact evs_cell h4 j h2
  · rw [World.cell?_of_block (hu.block g hg), hc k (by omega), h3]

theorem takes_ne {α : Type} {a b : List α} {k : Nat} (ha : k < a.length) (hb : k < b.length) (h : a[k] ≠ b[k]) : a ≠ b := fun e => h (by subst e; rfl)

set_option maxRecDepth 100000 in
set_option maxHeartbeats 2000000 in
theorem same_any (w : World) (A : Option Addr) (cap : Nat) (a : List (List Ev)) (B : Option Addr) (cap' : Nat) (b : List (List Ev)) (ha : LvAt w w.heap.size A a) (hb : LvAt w w.heap.size B b) (hl : a.length < 4611686018427387904) (hq : ∀ q ∈ a, q.length < 4611686018427387904) :
    Calls Tryz.prog 148 #[.slice A a.length cap, .slice B b.length cap'] w fun x w' => x = .returned (.bool (decide (a = b))) ∧ Below w.heap.size w w' := by
  have HC := Lib.hid ha.cell
  have HD := Lib.hid hb.cell
  have HQ := Lib.hid hq
  clear ha hb hq
  by_cases hlen : a.length = b.length
  · have hlen' : b.length = a.length := hlen.symm
    rw [hlen']
    have HL := Lib.hid hlen
    clear hlen hlen'
    go_enter Tryz.func148, Tryz.ntmps148
    go_wp2_with fail
    go_loopw [5] (fun v wr => ∃ k : Nat, k ≤ a.length ∧ v = .int .i64 k ∧ Hid (a.take k = b.take k) ∧ Below w.heap.size w wr) (fun v _ => a.length - (intOf v).toNat)
    case atStart => exact ⟨0, Nat.zero_le _, rfl, Lib.hid rfl, Below.refl _ _⟩
    case round =>
      obtain ⟨k, hk, rfl, HRT, hbw⟩ := hrel
      by_cases hlt : k < a.length
      · obtain ⟨g, o, P, pc, rfl, hg, hP, hcl⟩ := HC.out k hlt
        obtain ⟨g', o', Q, qc, rfl, hg', hQ, hcl'⟩ := HD.out k (by have := HL.out; omega)
        have v0 := hcl wr hbw
        have u0 := hcl' wr hbw
        have k1 : (0 : Int) ≤ (k : Int) := Int.natCast_nonneg _
        have k2 : (k : Int) < (a.length : Int) := by omega
        have htk : a.take (k + 1) = a.take k ++ [a[k]] := by rw [List.take_add_one, List.getElem?_eq_getElem hlt]; rfl
        have htk' : b.take (k + 1) = b.take k ++ [b[k]'(by have := HL.out; omega)] := by rw [List.take_add_one, List.getElem?_eq_getElem (by have := HL.out; omega)]; rfl
        have hne : a[k] ≠ b[k]'(by have := HL.out; omega) → a ≠ b := fun h e => h (by subst e; rfl)
        have hxl : a[k].length < 4611686018427387904 := HQ.out _ (List.getElem_mem hlt)
        generalize a[k] = x at *
        generalize b[k]'(by have := HL.out; omega) = y at *
        have lg : g < wr.heap.size := by have := hbw.size; omega
        have lg' : g' < wr.heap.size := by have := hbw.size; omega
        have HTK := Lib.hid htk
        have HTK' := Lib.hid htk'
        have HNE := Lib.hid hne
        have HBW := Lib.hid hbw
        have HP := Lib.hid (evs_cell hP)
        have HQQ := Lib.hid (evs_cell hQ)
        have HV := Lib.hid hcl
        have HU := Lib.hid hcl'
        clear htk htk' hne hcl hcl' hbw hP hQ
        by_cases hxy : x.length = y.length
        · have HXL := Lib.hid hxy
          rw [← hxy] at u0
          have HU' := Lib.hid (fun u (h : Below w.heap.size w u) => by have := HU.out u h; rw [← HXL.out] at this; exact this)
          clear hxy
          have gd := evGuard
          go_wp2_with fail
          refine wp_region_plan (by kernel_rfl) (fun u => Mod (fun _ => False) wr u) [] [(0, .pure), (1, .pure), (2, .pure), (3, .load), (4, .pure), (5, .pure), (6, .pure), (7, .pure), (8, .load), (9, .pure), (10, .pure)] (by simp only [List.map_cons, List.map_nil, List.getElem?_toArray, List.getElem?_cons_succ, List.getElem?_cons_zero]; rfl) (by kernel_rfl) (fun _ _ d _ _ h => by cases d <;> exact h) ((Mod.refl _ _).drew) ?_
          repeat (first
            | (refine plan_pure (v := ?_) (by rfl) (fun w1 => ?_) ?_
               rotate_left
               · go_simp <;> with_reducible rfl
               simp only [Act.put, List.setIfInBounds_toArray, List.set_cons_zero, List.set_cons_succ])
            | (refine plan_off (by rfl) ?_
               simp only [Act.put, List.setIfInBounds_toArray, List.set_cons_zero, List.set_cons_succ])
            | (refine plan_load_off (by rfl) ?_
               simp only [Act.put, List.setIfInBounds_toArray, List.set_cons_zero, List.set_cons_succ])
            | (refine plan_load (v := ?_) (by rfl) (fun w1 hw1 => ?_) ?_
               rotate_left
               · (have q0 := (hw1.cell g (o + k) lg id).trans v0
                  have p0 := (hw1.cell g' (o' + k) lg' id).trans u0
                  clear hw1
                  go_simp <;> with_reducible rfl)
               simp only [Act.put, List.setIfInBounds_toArray, List.set_cons_zero, List.set_cons_succ]))
          refine plan_end ?_
          go_wp2_with fail
          go_loopw [6] (fun v wr => ∃ j : Nat, j ≤ x.length ∧ v = .int .i64 j ∧ Hid (x.take j = y.take j) ∧ Below w.heap.size w wr) (fun v _ => x.length - (intOf v).toNat)
          case atStart => exact ⟨0, Nat.zero_le _, rfl, Lib.hid rfl, HBW.out.trans ⟨rfl, rfl, rfl, Nat.le_refl _, fun _ _ => rfl⟩⟩
          case round =>
            obtain ⟨j, hj, rfl, HRT2, hbw2⟩ := hrel
            have HBW2 := Lib.hid hbw2
            have v0' := HV.out _ hbw2
            have u0' := HU'.out _ hbw2
            clear hbw2
            by_cases hjl : j < x.length
            · obtain ⟨g2, o2, rfl, hg2, hcl2⟩ := HP.out j hjl
              obtain ⟨g3, o3, rfl, hg3, hcl3⟩ := HQQ.out j (by have := HXL.out; omega)
              obtain ⟨a0, a1, a2, a3⟩ := hcl2 _ HBW2.out
              obtain ⟨b0, b1, b2, b3⟩ := hcl3 _ HBW2.out
              have j1 : (0 : Int) ≤ (j : Int) := Int.natCast_nonneg _
              have j2 : (j : Int) < (x.length : Int) := by omega
              have heq : ∀ w, _ := evEq x[j] (y[j]'(by have := HXL.out; omega))
              have htk : x.take (j + 1) = x.take j ++ [x[j]] := by rw [List.take_add_one, List.getElem?_eq_getElem hjl]; rfl
              have htk' : y.take (j + 1) = y.take j ++ [y[j]'(by have := HXL.out; omega)] := by rw [List.take_add_one, List.getElem?_eq_getElem (by have := HXL.out; omega)]; rfl
              have hne : x[j] ≠ y[j]'(by have := HXL.out; omega) → x ≠ y := fun h e => h (by subst e; rfl)
              generalize x[j] = p at *
              generalize y[j]'(by have := HXL.out; omega) = q at *
              have l0 : g < wr.heap.size := by have := HBW2.out.size; omega
              have l1 : g' < wr.heap.size := by have := HBW2.out.size; omega
              have l2 : g2 < wr.heap.size := by have := HBW2.out.size; omega
              have l3 : g3 < wr.heap.size := by have := HBW2.out.size; omega
              have HTK2 := Lib.hid htk
              have HTK3 := Lib.hid htk'
              have HNE2 := Lib.hid hne
              clear htk htk' hne hcl2 hcl3
              go_wp2_with fail
              refine wp_region_plan (by kernel_rfl) (fun u => Mod (fun _ => False) wr u) [] [(0, .pure), (1, .pure), (2, .pure), (3, .load), (4, .pure), (5, .pure), (6, .load), (7, .pure), (8, .pure), (9, .pure), (10, .load), (11, .pure), (12, .pure), (13, .load), (14, .pure)] (by simp only [List.map_cons, List.map_nil, List.getElem?_toArray, List.getElem?_cons_succ, List.getElem?_cons_zero]; rfl) (by kernel_rfl) (fun _ _ d _ _ h => by cases d <;> exact h) ((Mod.refl _ _).drew) ?_
              repeat (first
                | (refine plan_pure (v := ?_) (by rfl) (fun w1 => ?_) ?_
                   rotate_left
                   · go_simp <;> with_reducible rfl
                   simp only [Act.put, List.setIfInBounds_toArray, List.set_cons_zero, List.set_cons_succ])
                | (refine plan_off (by rfl) ?_
                   simp only [Act.put, List.setIfInBounds_toArray, List.set_cons_zero, List.set_cons_succ])
                | (refine plan_load_off (by rfl) ?_
                   simp only [Act.put, List.setIfInBounds_toArray, List.set_cons_zero, List.set_cons_succ])
                | (refine plan_load (v := ?_) (by rfl) (fun w1 hw1 => ?_) ?_
                   rotate_left
                   · (have q0 := (hw1.cell g (o + k) l0 id).trans v0'
                      have p0 := (hw1.cell g' (o' + k) l1 id).trans u0'
                      have q1 := (hw1.cell g2 (o2 + j * 4) l2 id).trans a0
                      have q2 := (hw1.cell g2 (o2 + j * 4 + 1) l2 id).trans a1
                      have q3 := (hw1.cell g2 (o2 + j * 4 + 2) l2 id).trans a2
                      have q4 := (hw1.cell g2 (o2 + j * 4 + 3) l2 id).trans a3
                      have p1 := (hw1.cell g3 (o3 + j * 4) l3 id).trans b0
                      have p2 := (hw1.cell g3 (o3 + j * 4 + 1) l3 id).trans b1
                      have p3 := (hw1.cell g3 (o3 + j * 4 + 2) l3 id).trans b2
                      have p4 := (hw1.cell g3 (o3 + j * 4 + 3) l3 id).trans b3
                      clear hw1
                      go_simp <;> with_reducible rfl)
                   simp only [Act.put, List.setIfInBounds_toArray, List.set_cons_zero, List.set_cons_succ]))
              refine plan_end ?_
              by_cases hpq : p = q
              · have hd : decide (p = q) = true := decide_eq_true hpq
                rw [hd]
                have HPQ := Lib.hid hpq
                clear hpq hd heq
                go_wp2_with fail
                go_roundw
                case rel => exact ⟨j + 1, by omega, by go_num, Lib.hid (by rw [HTK2.out, HTK3.out, HRT2.out, HPQ.out]), HBW2.out.trans ⟨rfl, rfl, rfl, Nat.le_refl _, fun _ _ => rfl⟩⟩
                case measure => simp [intOf]; omega
              · have hd : decide (p = q) = false := decide_eq_false hpq
                rw [hd]
                have HPQ := Lib.hid hpq
                clear hpq hd heq
                go_wp2_with fail
                go_ret
                exact ⟨by rw [decide_eq_false (HNE.out (HNE2.out HPQ.out))]; rfl, HBW2.out.trans ⟨rfl, rfl, rfl, Nat.le_refl _, fun _ _ => rfl⟩⟩
            · have hkn : j = x.length := by omega
              have hxy : x = y := by
                have h1 := HRT2.out
                rw [hkn, List.take_length, HXL.out, List.take_length] at h1
                exact h1
              have HXY := Lib.hid hxy
              clear hkn hxy
              go_wp2_with fail
              go_roundw
              case rel => exact ⟨k + 1, by omega, by go_num, Lib.hid (by rw [HTK.out, HTK'.out, HRT.out, HXY.out]), HBW2.out.trans ⟨rfl, rfl, rfl, Nat.le_refl _, fun _ _ => rfl⟩⟩
              case measure => simp [intOf]; omega
        · have e0 : ((x.length : Int) == (y.length : Int)) = false := by simp; omega
          have hne : x ≠ y := fun e => hxy (by rw [e])
          have HNE2 := Lib.hid hne
          clear hxy hne
          go_wp2_with fail
          refine wp_region_plan (by kernel_rfl) (fun u => Mod (fun _ => False) wr u) [] [(0, .pure), (1, .pure), (2, .pure), (3, .load), (4, .pure), (5, .pure), (6, .pure), (7, .pure), (8, .load), (9, .pure), (10, .pure)] (by simp only [List.map_cons, List.map_nil, List.getElem?_toArray, List.getElem?_cons_succ, List.getElem?_cons_zero]; rfl) (by kernel_rfl) (fun _ _ d _ _ h => by cases d <;> exact h) ((Mod.refl _ _).drew) ?_
          repeat (first
            | (refine plan_pure (v := ?_) (by rfl) (fun w1 => ?_) ?_
               rotate_left
               · go_simp <;> with_reducible rfl
               simp only [Act.put, List.setIfInBounds_toArray, List.set_cons_zero, List.set_cons_succ])
            | (refine plan_off (by rfl) ?_
               simp only [Act.put, List.setIfInBounds_toArray, List.set_cons_zero, List.set_cons_succ])
            | (refine plan_load_off (by rfl) ?_
               simp only [Act.put, List.setIfInBounds_toArray, List.set_cons_zero, List.set_cons_succ])
            | (refine plan_load (v := ?_) (by rfl) (fun w1 hw1 => ?_) ?_
               rotate_left
               · (have q0 := (hw1.cell g (o + k) lg id).trans v0
                  have p0 := (hw1.cell g' (o' + k) lg' id).trans u0
                  clear hw1
                  go_simp <;> with_reducible rfl)
               simp only [Act.put, List.setIfInBounds_toArray, List.set_cons_zero, List.set_cons_succ]))
          refine plan_end ?_
          go_wp2_with fail
          go_ret
          exact ⟨by rw [decide_eq_false (HNE.out HNE2.out)]; rfl, HBW.out.trans ⟨rfl, rfl, rfl, Nat.le_refl _, fun _ _ => rfl⟩⟩
      · have hkn : k = a.length := by omega
        have HK := Lib.hid hkn
        have HBW := Lib.hid hbw
        clear hkn hbw
        go_wp2_with fail
        go_ret
        have h1 := HRT.out
        rw [HK.out, List.take_length, HL.out, List.take_length] at h1
        exact ⟨by rw [decide_eq_true h1]; rfl, HBW.out⟩
  · have hlen' : ¬ ((a.length : Int) = (b.length : Int)) := by omega
    have e1 : ((a.length : Int) == (b.length : Int)) = false := by simpa using hlen'
    have hne : a ≠ b := fun e => hlen (by rw [e])
    have HNE := Lib.hid hne
    clear hlen hlen' hne
    go_enter Tryz.func148, Tryz.ntmps148
    go_wp2_with fail
    go_ret
    exact ⟨by rw [decide_eq_false HNE.out]; rfl, Below.refl _ _⟩
end Go.Proofs.YtcaapoacmfjnmaaGreat
/- Readers: events, rows and levels as arguments. -/
namespace Go.Proofs.YtcaapoacmfjnmaaGreat
open Go.ChangeShapes Go.WideShapes Go.ChangeAt Go.RowKit
set_option linter.unusedVariables false

theorem tr_slice0 {H : Type} {enc : TypeId × Value → H} {P : Program} {w : World} {base : Nat} {spare : Nat → Bool} {held : Bool} {fuel : Nat} {t e : TypeId} {cs : List Value} {y : DataW H × List MemPlace}
    (ht : P.underlying t = some (.slice e)) (h : DataW.trod enc P w base spare held fuel t cs = some y) : ∃ A n cap, cs = [.slice A n cap] := by
  cases fuel with
  | zero => simp [DataW.trod] at h
  | succ fuel =>
    unfold DataW.trod at h
    rw [ht] at h
    split at h <;> simp_all

set_option maxRecDepth 100000 in
theorem ev_read {H : Type} {enc : TypeId × Value → H} {w : World} {base : Nat} {spare : Nat → Bool} {held : Bool} (fuel : Nat) (cs : List Value) (y : DataW H × List MemPlace) (_ : cs.length = 4)
    (h : DataW.trod enc Tryz.prog w base spare held fuel 57 cs = some y) : ∃ e : Ev, cs = encE e ∧ True := by
  obtain ⟨hl, fuel', hf⟩ := tr_struct Tryz.underlying57 h
  have hl4 : cs.length = 4 := hl.trans (by kernel_rfl)
  match cs, hl4 with
  | [a, b, c, d], _ =>
    simp only [List.mem_cons, List.not_mem_nil, or_false, forall_eq_or_imp, forall_eq] at hf
    rw [show Tryz.prog.cellsOf 3 = 1 by kernel_rfl, show Tryz.prog.cellsOf 4 = 1 by kernel_rfl] at hf
    obtain ⟨⟨_, h1⟩, ⟨_, h2⟩, ⟨_, h3⟩, ⟨_, h4⟩⟩ := hf
    obtain ⟨t, e1, w1⟩ := tr_int Tryz.underlying3 h1
    obtain ⟨k, e2, w2⟩ := tr_int Tryz.underlying3 h2
    obtain ⟨o, e3, w3⟩ := tr_int Tryz.underlying3 h3
    obtain ⟨f, e4⟩ := tr_bool Tryz.underlying4 h4
    simp at e1 e2 e3 e4
    subst e1 e2 e3 e4
    exact ⟨⟨t, k, o, f⟩, rfl, trivial⟩
set_option maxRecDepth 100000 in
/-- a row of events -/
theorem row_read {H : Type} {enc : TypeId × Value → H} {w : World} {base : Nat} {spare : Nat → Bool} {held : Bool} {fuel : Nat} {A : Option Addr} {n cap : Nat} {y : DataW H × List MemPlace}
    (h : DataW.trod enc Tryz.prog w base spare held fuel 52 [.slice A n cap] = some y) : ∃ l : List Ev, l.length = n ∧ Rd w 4 A n (l.flatMap encE) ∧ n ≤ cap ∧ cap ≤ maxLen := by
  obtain ⟨l, hl, _, hr, h1, h2⟩ := tr_list (f := encE) (sz := 4) (by omega) Tryz.underlying52 (by kernel_rfl) ev_read h
  exact ⟨l, hl, hr, h1, h2⟩

structure SlE where
  A : Option Addr
  cap : Nat
  l : List Ev
def encS (x : SlE) : List Value := [.slice x.A x.l.length x.cap]
set_option maxRecDepth 100000 in
/-- levels -/
theorem lv_read {H : Type} {enc : TypeId × Value → H} {w : World} {base : Nat} {spare : Nat → Bool} {held : Bool} {fuel : Nat} {A : Option Addr} {n cap : Nat} {y : DataW H × List MemPlace}
    (h : DataW.trod enc Tryz.prog w base spare held fuel 89 [.slice A n cap] = some y) : ∃ L : List (List Ev), L.length = n ∧ LvAt w w.heap.size A L ∧ n ≤ maxLen ∧ ∀ q ∈ L, q.length ≤ maxLen := by
  obtain ⟨xs, hl, hg, hr, h1, h2⟩ := tr_list (f := encS) (sz := 1) (good := fun x => Rd w 4 x.A x.l.length (x.l.flatMap encE) ∧ x.l.length ≤ x.cap ∧ x.cap ≤ maxLen) (by omega) Tryz.underlying89 (by kernel_rfl) (fun fuel c y hc h => by
    obtain ⟨A, n, cap, rfl⟩ := tr_slice0 Tryz.underlying52 h
    obtain ⟨l, rfl, hr, hm⟩ := row_read h
    exact ⟨⟨A, cap, l⟩, rfl, hr, hm⟩) h
  subst hl
  have hlen : (xs.map SlE.l).length = xs.length := by simp
  have hat : ∀ i, (hi : i < xs.length) → (xs.flatMap encS)[i]? = some (.slice xs[i].A xs[i].l.length xs[i].cap) := fun i hi => by
    have := flat_get (f := encS) (sz := 1) (fun x => rfl) xs i 0 hi (by omega)
    rw [Nat.mul_one, Nat.add_zero] at this
    rw [this]; rfl
  refine ⟨xs.map SlE.l, hlen, ⟨xs.flatMap encS, hlen ▸ hr.toB, fun i hi => ?_⟩, Nat.le_trans h1 h2, fun q hq => ?_⟩
  · have hi' : i < xs.length := by rw [hlen] at hi; exact hi
    refine ⟨xs[i].A, xs[i].cap, ?_, ?_⟩
    · rw [hat i hi', List.getElem_map]
    · rw [List.getElem_map]; exact ⟨(hg _ (List.getElem_mem hi')).1.toB, (hg _ (List.getElem_mem hi')).2⟩
  · obtain ⟨x, hx, rfl⟩ := List.mem_map.1 hq
    exact Nat.le_trans (hg x hx).2.1 (hg x hx).2.2
end Go.Proofs.YtcaapoacmfjnmaaGreat
