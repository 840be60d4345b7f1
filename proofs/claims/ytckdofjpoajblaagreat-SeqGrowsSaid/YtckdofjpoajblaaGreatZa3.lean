/- Part 3 of the proof of seqExact_holds: what it rests on. -/
import Derived.Test.YtckdofjpoajblaaGreatZa2
namespace Go.Proofs.YtckdofjpoajblaaGreat
open Go.RowKit
set_option linter.unusedVariables false
set_option maxRecDepth 100000 in
theorem evEq (a b : Ev) (w : World) : (Op.equalIn 10000 51 (.agg #[.int .i64 a.t, .int .i64 a.k, .int .i64 a.o, .bool a.f]) (.agg #[.int .i64 b.t, .int .i64 b.k, .int .i64 b.o, .bool b.f])).run Tryz.prog w = .ok (decide (a = b)) w := by
  have u3 := Tryz.underlying3
  have u4 := Tryz.underlying4
  have a3 := Tryz.isAgg3
  have z3 := Tryz.sizeOf3
  have a4 := Tryz.isAgg4
  have z4 := Tryz.sizeOf4
  have hS : Tryz.prog.underlying 51 = some (.struct (Tryz.prog.fieldsOf 51)) := by kernel_rfl
  have hp : Tryz.prog.stoodInHeld 51 = false := by kernel_rfl
  rw [show (10000 : Nat) = 9999 + 1 from rfl, run_equalIn_agg w 9999 51 _ _ hS hp]
  simp only [Program.fieldsOf, Tryz.underlying51]
  go_simp
  obtain ⟨t, k, o, f⟩ := a
  obtain ⟨t', k', o', f'⟩ := b
  simp only [Ev.mk.injEq]
  by_cases h1 : t = t' <;> by_cases h2 : k = k' <;> by_cases h3 : o = o' <;> by_cases h4 : f = f' <;> simp [h1, h2, h3, h4]
theorem evGuard (op : BinOp) (x y : Operand) (a b : Array Value) (w : World) : (eqGuard op 51 x y (.agg a) (.agg b)).run Tryz.prog w = .ok () w := run_eqGuard_agg w op 51 x y _ _ (by kernel_rfl)
end Go.Proofs.YtckdofjpoajblaaGreat
namespace Go.Proofs.YtckdofjpoajblaaGreat
open Go.RowKit
set_option linter.unusedVariables false
def LvAt (w : World) (B : Nat) (A : Option Addr) (L : List (List Ev)) : Prop :=
  ∃ vs : List Value, RdB w B 1 A L.length vs ∧ ∀ i, (hi : i < L.length) → ∃ A' c', vs[i]? = some (.slice A' L[i].length c') ∧ RdB w B 4 A' L[i].length (L[i].flatMap encE) ∧ L[i].length ≤ c' ∧ c' ≤ maxLen
theorem LvAt.below {w w' : World} {B : Nat} {A : Option Addr} {L : List (List Ev)} (h : LvAt w B A L) (hb : Below B w w') : LvAt w' B A L := by
  obtain ⟨vs, h1, h2⟩ := h
  refine ⟨vs, h1.below hb, fun i hi => ?_⟩
  obtain ⟨A', c', h3, h4, h5⟩ := h2 i hi
  exact ⟨A', c', h3, h4.below hb, h5⟩
theorem RdB.mono {w : World} {B B' sz : Nat} {A : Option Addr} {n : Nat} {cs : List Value} (h : RdB w B sz A n cs) (hB : B ≤ B') : RdB w B' sz A n cs := by
  refine ⟨h.1, fun h0 => ?_⟩
  obtain ⟨g, o, hA, hg, hc⟩ := h.2 h0
  exact ⟨g, o, hA, Nat.lt_of_lt_of_le hg hB, hc⟩
theorem LvAt.mono {w : World} {B B' : Nat} {A : Option Addr} {L : List (List Ev)} (h : LvAt w B A L) (hB : B ≤ B') : LvAt w B' A L := by
  obtain ⟨vs, h1, h2⟩ := h
  refine ⟨vs, h1.mono hB, fun i hi => ?_⟩
  obtain ⟨A', c', h3, h4, h5⟩ := h2 i hi
  exact ⟨A', c', h3, h4.mono hB, h5⟩
theorem LvAt.cell {w : World} {B : Nat} {A : Option Addr} {L : List (List Ev)} (h : LvAt w B A L) : ∀ k, (hk : k < L.length) → ∃ g o A' c', A = some ⟨g, o, none⟩ ∧ g < B ∧ RdB w B 4 A' L[k].length (L[k].flatMap encE) ∧ ∀ u, Below B w u → u.cell? ⟨g, o + k, none⟩ = some (.slice A' L[k].length c') := fun k hk => by
  obtain ⟨vs, h1, h2⟩ := h
  obtain ⟨g, o, hA, hg, hc⟩ := h1.2 (by omega)
  obtain ⟨A', c', h3, h4, _⟩ := h2 k hk
  refine ⟨g, o, A', c', hA, hg, h4, fun u hu => ?_⟩
  rw [World.cell?_of_block (hu.block g hg), hc k (by omega), h3]
theorem get_some {α : Type} {q : List α} {k : Nat} (h : k < q.length) : ∃ e, q[k]? = some e := ⟨_, List.getElem?_eq_getElem h⟩
set_option maxRecDepth 100000 in
set_option maxHeartbeats 2000000 in
theorem same_any (w : World) (A : Option Addr) (cap : Nat) (a : List (List Ev)) (B : Option Addr) (cap' : Nat) (b : List (List Ev)) (ha : LvAt w w.heap.size A a) (hb : LvAt w w.heap.size B b) (hl : a.length < 4611686018427387904) (hq : ∀ q ∈ a, q.length < 4611686018427387904) :
    Calls Tryz.prog 228 #[.slice A a.length cap, .slice B b.length cap'] w fun x w' => x = .returned (.bool (decide (a = b))) ∧ Below w.heap.size w w' := by
  have HC := Lib.hid ha.cell
  have HD := Lib.hid hb.cell
  have HQ := Lib.hid hq
  clear ha hb hq
  by_cases hlen : a.length = b.length
  · have hlen' : b.length = a.length := hlen.symm
    rw [hlen']
    have HL := Lib.hid hlen
    clear hlen hlen'
    go_enter Tryz.func228, Tryz.ntmps228
    go_wp2_with fail
    go_loopw [5] (fun v wr => ∃ k : Nat, k ≤ a.length ∧ v = .int .i64 k ∧ Hid (a.take k = b.take k) ∧ Below w.heap.size w wr) (fun v _ => a.length - (intOf v).toNat)
    case atStart => exact ⟨0, Nat.zero_le _, rfl, Lib.hid rfl, Below.refl _ _⟩
    case round =>
      obtain ⟨k, hk, rfl, HRT, hbw⟩ := hrel
      by_cases hlt : k < a.length
      · obtain ⟨g, o, P, pc, rfl, hg, hP, hcl⟩ := HC.out k hlt
        obtain ⟨g', o', Q, qc, rfl, hg', hQ, hcl'⟩ := HD.out k (by have := HL.out; omega)
        have v0 := hcl wr hbw
        have u0 := hcl' wr hbw
        have k1 : (0 : Int) ≤ (k : Int) := Int.natCast_nonneg _
        have k2 : (k : Int) < (a.length : Int) := by omega
        have htk : a.take (k + 1) = a.take k ++ [a[k]] := by rw [List.take_add_one, List.getElem?_eq_getElem hlt]; rfl
        have htk' : b.take (k + 1) = b.take k ++ [b[k]'(by have := HL.out; omega)] := by rw [List.take_add_one, List.getElem?_eq_getElem (by have := HL.out; omega)]; rfl
        have hne : a[k] ≠ b[k]'(by have := HL.out; omega) → a ≠ b := fun h e => h (by subst e; rfl)
        have hxl : a[k].length < 4611686018427387904 := HQ.out _ (List.getElem_mem hlt)
        generalize a[k] = x at *
        generalize b[k]'(by have := HL.out; omega) = y at *
        have lg : g < wr.heap.size := by have := hbw.size; omega
        have lg' : g' < wr.heap.size := by have := hbw.size; omega
        have HTK := Lib.hid htk
        have HTK' := Lib.hid htk'
        have HNE := Lib.hid hne
        have HBW := Lib.hid hbw
        have HP := Lib.hid (evs_cell hP)
        have HQQ := Lib.hid (evs_cell hQ)
        have HV := Lib.hid hcl
        have HU := Lib.hid hcl'
        clear htk htk' hne hcl hcl' hbw hP hQ
        by_cases hxy : x.length = y.length
        · have HXL := Lib.hid hxy
          rw [← hxy] at u0
          have HU' := Lib.hid (fun u (h : Below w.heap.size w u) => by have := HU.out u h; rw [← HXL.out] at this; exact this)
          clear hxy
          have gd := evGuard
          go_wp2_with fail
          refine wp_region_plan (by kernel_rfl) (fun u => Mod (fun _ => False) wr u) [] [(0, .pure), (1, .pure), (2, .pure), (3, .load), (4, .pure), (5, .pure), (6, .pure), (7, .pure), (8, .load), (9, .pure), (10, .pure)] (by simp only [List.map_cons, List.map_nil, List.getElem?_toArray, List.getElem?_cons_succ, List.getElem?_cons_zero]; rfl) (by kernel_rfl) (fun _ _ d _ _ h => by cases d <;> exact h) ((Mod.refl _ _).drew) ?_
          repeat (first
            | (refine plan_pure (v := ?_) (by rfl) (fun w1 => ?_) ?_
               rotate_left
               · go_simp <;> with_reducible rfl
               simp only [Act.put, List.setIfInBounds_toArray, List.set_cons_zero, List.set_cons_succ])
            | (refine plan_off (by rfl) ?_
               simp only [Act.put, List.setIfInBounds_toArray, List.set_cons_zero, List.set_cons_succ])
            | (refine plan_load_off (by rfl) ?_
               simp only [Act.put, List.setIfInBounds_toArray, List.set_cons_zero, List.set_cons_succ])
            | (refine plan_load (v := ?_) (by rfl) (fun w1 hw1 => ?_) ?_
               rotate_left
               · (have q0 := (hw1.cell g (o + k) lg id).trans v0
                  have p0 := (hw1.cell g' (o' + k) lg' id).trans u0
                  clear hw1
                  go_simp <;> with_reducible rfl)
               simp only [Act.put, List.setIfInBounds_toArray, List.set_cons_zero, List.set_cons_succ]))
          refine plan_end ?_
          go_wp2_with fail
          go_loopw [6] (fun v wr => ∃ j : Nat, j ≤ x.length ∧ v = .int .i64 j ∧ Hid (x.take j = y.take j) ∧ Below w.heap.size w wr) (fun v _ => x.length - (intOf v).toNat)
          case atStart => exact ⟨0, Nat.zero_le _, rfl, Lib.hid rfl, HBW.out.trans ⟨rfl, rfl, rfl, Nat.le_refl _, fun _ _ => rfl⟩⟩
          case round =>
            obtain ⟨j, hj, rfl, HRT2, hbw2⟩ := hrel
            have HBW2 := Lib.hid hbw2
            have v0' := HV.out _ hbw2
            have u0' := HU'.out _ hbw2
            clear hbw2
            by_cases hjl : j < x.length
            · obtain ⟨g2, o2, rfl, hg2, hcl2⟩ := HP.out j hjl
              obtain ⟨g3, o3, rfl, hg3, hcl3⟩ := HQQ.out j (by have := HXL.out; omega)
              obtain ⟨a0, a1, a2, a3⟩ := hcl2 _ HBW2.out
              obtain ⟨b0, b1, b2, b3⟩ := hcl3 _ HBW2.out
              have j1 : (0 : Int) ≤ (j : Int) := Int.natCast_nonneg _
              have j2 : (j : Int) < (x.length : Int) := by omega
              have heq : ∀ w, _ := evEq x[j] (y[j]'(by have := HXL.out; omega))
              have htk : x.take (j + 1) = x.take j ++ [x[j]] := by rw [List.take_add_one, List.getElem?_eq_getElem hjl]; rfl
              have htk' : y.take (j + 1) = y.take j ++ [y[j]'(by have := HXL.out; omega)] := by rw [List.take_add_one, List.getElem?_eq_getElem (by have := HXL.out; omega)]; rfl
              have hne : x[j] ≠ y[j]'(by have := HXL.out; omega) → x ≠ y := fun h e => h (by subst e; rfl)
              generalize x[j] = p at *
              generalize y[j]'(by have := HXL.out; omega) = q at *
              have l0 : g < wr.heap.size := by have := HBW2.out.size; omega
              have l1 : g' < wr.heap.size := by have := HBW2.out.size; omega
              have l2 : g2 < wr.heap.size := by have := HBW2.out.size; omega
              have l3 : g3 < wr.heap.size := by have := HBW2.out.size; omega
              have HTK2 := Lib.hid htk
              have HTK3 := Lib.hid htk'
              have HNE2 := Lib.hid hne
              clear htk htk' hne hcl2 hcl3
              go_wp2_with fail
              refine wp_region_plan (by kernel_rfl) (fun u => Mod (fun _ => False) wr u) [] [(0, .pure), (1, .pure), (2, .pure), (3, .load), (4, .pure), (5, .pure), (6, .load), (7, .pure), (8, .pure), (9, .pure), (10, .load), (11, .pure), (12, .pure), (13, .load), (14, .pure)] (by simp only [List.map_cons, List.map_nil, List.getElem?_toArray, List.getElem?_cons_succ, List.getElem?_cons_zero]; rfl) (by kernel_rfl) (fun _ _ d _ _ h => by cases d <;> exact h) ((Mod.refl _ _).drew) ?_
              repeat (first
                | (refine plan_pure (v := ?_) (by rfl) (fun w1 => ?_) ?_
                   rotate_left
                   · go_simp <;> with_reducible rfl
                   simp only [Act.put, List.setIfInBounds_toArray, List.set_cons_zero, List.set_cons_succ])
                | (refine plan_off (by rfl) ?_
                   simp only [Act.put, List.setIfInBounds_toArray, List.set_cons_zero, List.set_cons_succ])
                | (refine plan_load_off (by rfl) ?_
                   simp only [Act.put, List.setIfInBounds_toArray, List.set_cons_zero, List.set_cons_succ])
                | (refine plan_load (v := ?_) (by rfl) (fun w1 hw1 => ?_) ?_
                   rotate_left
                   · (have q0 := (hw1.cell g (o + k) l0 id).trans v0'
                      have p0 := (hw1.cell g' (o' + k) l1 id).trans u0'
                      have q1 := (hw1.cell g2 (o2 + j * 4) l2 id).trans a0
                      have q2 := (hw1.cell g2 (o2 + j * 4 + 1) l2 id).trans a1
                      have q3 := (hw1.cell g2 (o2 + j * 4 + 2) l2 id).trans a2
                      have q4 := (hw1.cell g2 (o2 + j * 4 + 3) l2 id).trans a3
                      have p1 := (hw1.cell g3 (o3 + j * 4) l3 id).trans b0
                      have p2 := (hw1.cell g3 (o3 + j * 4 + 1) l3 id).trans b1
                      have p3 := (hw1.cell g3 (o3 + j * 4 + 2) l3 id).trans b2
                      have p4 := (hw1.cell g3 (o3 + j * 4 + 3) l3 id).trans b3
                      clear hw1
                      go_simp <;> with_reducible rfl)
                   simp only [Act.put, List.setIfInBounds_toArray, List.set_cons_zero, List.set_cons_succ]))
              refine plan_end ?_
              by_cases hpq : p = q
              · have hd : decide (p = q) = true := decide_eq_true hpq
                rw [hd]
                have HPQ := Lib.hid hpq
                clear hpq hd heq
                go_wp2_with fail
                go_roundw
                case rel => exact ⟨j + 1, by omega, by go_num, Lib.hid (by rw [HTK2.out, HTK3.out, HRT2.out, HPQ.out]), HBW2.out.trans ⟨rfl, rfl, rfl, Nat.le_refl _, fun _ _ => rfl⟩⟩
                case measure => simp [intOf]; omega
              · have hd : decide (p = q) = false := decide_eq_false hpq
                rw [hd]
                have HPQ := Lib.hid hpq
                clear hpq hd heq
                go_wp2_with fail
                go_ret
                exact ⟨by rw [decide_eq_false (HNE.out (HNE2.out HPQ.out))]; rfl, HBW2.out.trans ⟨rfl, rfl, rfl, Nat.le_refl _, fun _ _ => rfl⟩⟩
            · have hkn : j = x.length := by omega
              have hxy : x = y := by
                have h1 := HRT2.out
                rw [hkn, List.take_length, HXL.out, List.take_length] at h1
                exact h1
              have HXY := Lib.hid hxy
              clear hkn hxy
              go_wp2_with fail
              go_roundw
              case rel => exact ⟨k + 1, by omega, by go_num, Lib.hid (by rw [HTK.out, HTK'.out, HRT.out, HXY.out]), HBW2.out.trans ⟨rfl, rfl, rfl, Nat.le_refl _, fun _ _ => rfl⟩⟩
              case measure => simp [intOf]; omega
        · have e0 : ((x.length : Int) == (y.length : Int)) = false := by simp; omega
          have hne : x ≠ y := fun e => hxy (by rw [e])
          have HNE2 := Lib.hid hne
          clear hxy hne
          go_wp2_with fail
          refine wp_region_plan (by kernel_rfl) (fun u => Mod (fun _ => False) wr u) [] [(0, .pure), (1, .pure), (2, .pure), (3, .load), (4, .pure), (5, .pure), (6, .pure), (7, .pure), (8, .load), (9, .pure), (10, .pure)] (by simp only [List.map_cons, List.map_nil, List.getElem?_toArray, List.getElem?_cons_succ, List.getElem?_cons_zero]; rfl) (by kernel_rfl) (fun _ _ d _ _ h => by cases d <;> exact h) ((Mod.refl _ _).drew) ?_
          repeat (first
            | (refine plan_pure (v := ?_) (by rfl) (fun w1 => ?_) ?_
               rotate_left
               · go_simp <;> with_reducible rfl
               simp only [Act.put, List.setIfInBounds_toArray, List.set_cons_zero, List.set_cons_succ])
            | (refine plan_off (by rfl) ?_
               simp only [Act.put, List.setIfInBounds_toArray, List.set_cons_zero, List.set_cons_succ])
            | (refine plan_load_off (by rfl) ?_
               simp only [Act.put, List.setIfInBounds_toArray, List.set_cons_zero, List.set_cons_succ])
            | (refine plan_load (v := ?_) (by rfl) (fun w1 hw1 => ?_) ?_
               rotate_left
               · (have q0 := (hw1.cell g (o + k) lg id).trans v0
                  have p0 := (hw1.cell g' (o' + k) lg' id).trans u0
                  clear hw1
                  go_simp <;> with_reducible rfl)
               simp only [Act.put, List.setIfInBounds_toArray, List.set_cons_zero, List.set_cons_succ]))
          refine plan_end ?_
          go_wp2_with fail
          go_ret
          exact ⟨by rw [decide_eq_false (HNE.out HNE2.out)]; rfl, HBW.out.trans ⟨rfl, rfl, rfl, Nat.le_refl _, fun _ _ => rfl⟩⟩
      · have hkn : k = a.length := by omega
        have HK := Lib.hid hkn
        have HBW := Lib.hid hbw
        clear hkn hbw
        go_wp2_with fail
        go_ret
        have h1 := HRT.out
        rw [HK.out, List.take_length, HL.out, List.take_length] at h1
        exact ⟨by rw [decide_eq_true h1]; rfl, HBW.out⟩
  · have hlen' : ¬ ((a.length : Int) = (b.length : Int)) := by omega
    have e1 : ((a.length : Int) == (b.length : Int)) = false := by simpa using hlen'
    have hne : a ≠ b := fun e => hlen (by rw [e])
    have HNE := Lib.hid hne
    clear hlen hlen' hne
    go_enter Tryz.func228, Tryz.ntmps228
    go_wp2_with fail
    go_ret
    exact ⟨by rw [decide_eq_false HNE.out]; rfl, Below.refl _ _⟩
end Go.Proofs.YtckdofjpoajblaaGreat
namespace Go.Proofs.YtckdofjpoajblaaGreat
open Go.ChangeShapes Go.WideShapes Go.ChangeAt Go.RowKit
set_option linter.unusedVariables false
theorem tr_slice0 {H : Type} {enc : TypeId × Value → H} {P : Program} {w : World} {base : Nat} {spare : Nat → Bool} {held : Bool} {fuel : Nat} {t e : TypeId} {cs : List Value} {y : DataW H × List MemPlace}
    (ht : P.underlying t = some (.slice e)) (h : DataW.trod enc P w base spare held fuel t cs = some y) : ∃ A n cap, cs = [.slice A n cap] := by
  cases fuel with
  | zero => simp [DataW.trod] at h
  | succ fuel =>
    unfold DataW.trod at h
    rw [ht] at h
    split at h <;> simp_all
structure SlE where
  A : Option Addr
  cap : Nat
  l : List Ev
end Go.Proofs.YtckdofjpoajblaaGreat
namespace Go.Proofs.YtckdofjpoajblaaGreat
open Go.RowKit
set_option linter.unusedVariables false
set_option linter.unusedSimpArgs false
section
variable {K V : Type} [DecidableEq K]
end
def ents (es : Array MapEntry) : List (Value × Value) := es.toList.map fun e => (e.key, e.val)
section
variable {K : Type} [DecidableEq K]
def mfind : List (K × Value) → K → Nat → Option (Nat × Value)
  | [], _, _ => none
  | (a, v) :: m, k, i => if k = a then some (i, v) else mfind m k (i + 1)
end
structure KeyK (P : Program) (kt : TypeId) (K : Type) [DecidableEq K] where
  kk : K → Value
  inj : ∀ {a b}, kk a = kk b → a = b
  fk : ∀ (w : World) (es : Array MapEntry) (m : List (K × Value)), ents es = m.map (fun p => (kk p.1, p.2)) → ∀ k, (Instr.findKey kt (kk k) es.toList).run P w = .ok (mfind m k 0) w
  bits : ∀ a, Instr.sameBits 10000 (kk a) (kk a) = true
  chk : ∀ (b : Bool) a w, (Instr.checkKey b 10000 kt (kk a)).run P w = .ok () w
section
variable {P : Program} {kt : TypeId} {K : Type} [DecidableEq K] (kd : KeyK P kt K)
def MapAt (kd : KeyK P kt K) (w : World) (r : Nat) (m : List (K × Value)) : Prop :=
  ∃ es clock, w.heap[r]? = some (.map es clock) ∧ ents es = m.map (fun p => (kd.kk p.1, p.2)) ∧ (m.map (·.1)).Nodup ∧ MapKept.Stamped es clock
theorem MapAt.move {kd : KeyK P kt K} {w w' : World} {r : Nat} {m : List (K × Value)} (h : MapAt kd w r m) (hm : w'.heap[r]? = w.heap[r]?) : MapAt kd w' r m := by
  obtain ⟨es, c, h1, h2, h3⟩ := h
  exact ⟨es, c, hm.trans h1, h2, h3⟩
theorem MapAt.lt {kd : KeyK P kt K} {w : World} {r : Nat} {m : List (K × Value)} (h : MapAt kd w r m) : r < w.heap.size := by
  obtain ⟨es, c, h1, _⟩ := h
  exact blk_lt h1
theorem MapAt.size {kd : KeyK P kt K} {w : World} {r : Nat} {m : List (K × Value)} (h : MapAt kd w r m) : ∃ es c, w.heap[r]? = some (.map es c) ∧ es.size = m.length := by
  obtain ⟨es, c, h1, h2, _⟩ := h
  refine ⟨es, c, h1, ?_⟩
  have := congrArg List.length h2
  simpa [ents] using this
theorem MapAt.made (kd : KeyK P kt K) (w : World) (c : Nat) : MapAt kd (w.alloc (.map #[] c)) w.heap.size [] := ⟨#[], c, heap_alloc_new w _, rfl, by simp, MapKept.stamped_empty c⟩
def MapIt (kd : KeyK P kt K) (w : World) (r it : Nat) (m : List (K × Value)) (cnt : Nat) : Prop :=
  ∃ es clock since seen c0, w.heap[r]? = some (.map es clock) ∧ ents es = m.map (fun p => (kd.kk p.1, p.2)) ∧ MapKept.Stamped es clock ∧ w.heap[it]? = some (.mapIter (some r) since seen c0) ∧ (∀ x ∈ es.toList, x.born < since) ∧ (leftOf es seen).size = cnt ∧ since ≤ c0 ∧ since ≤ clock
theorem MapIt.move {kd : KeyK P kt K} {w w' : World} {r it cnt : Nat} {m : List (K × Value)} (h : MapIt kd w r it m cnt) (h1 : w'.heap[r]? = w.heap[r]?) (h2 : w'.heap[it]? = w.heap[it]?) : MapIt kd w' r it m cnt := by
  obtain ⟨es, clock, since, seen, c0, hb, h, hs, hr, rest⟩ := h
  exact ⟨es, clock, since, seen, c0, h1.trans hb, h, hs, h2.trans hr, rest⟩
theorem MapIt.at {kd : KeyK P kt K} {w : World} {r it cnt : Nat} {m : List (K × Value)} (h : MapIt kd w r it m cnt) (hn : (m.map (·.1)).Nodup) : MapAt kd w r m := by
  obtain ⟨es, clock, since, seen, c0, hb, h, hs, _⟩ := h
  exact ⟨es, clock, hb, h, hn, hs⟩
theorem MapIt.ne {kd : KeyK P kt K} {w : World} {r it cnt : Nat} {m : List (K × Value)} (h : MapIt kd w r it m cnt) : it ≠ r := by
  obtain ⟨es, clock, since, seen, c0, hb, _, _, hr, _⟩ := h
  intro e
  rw [e, hb] at hr
  cases hr
theorem MapIt.lt {kd : KeyK P kt K} {w : World} {r it cnt : Nat} {m : List (K × Value)} (h : MapIt kd w r it m cnt) : r < w.heap.size ∧ it < w.heap.size := by
  obtain ⟨es, clock, since, seen, c0, hb, _, _, hr, _⟩ := h
  exact ⟨blk_lt hb, blk_lt hr⟩
end
end Go.Proofs.YtckdofjpoajblaaGreat
namespace Go.Proofs.YtckdofjpoajblaaGreat
open Go.RowKit
set_option linter.unusedVariables false
def paint (c : Nat → Nat) (n j : Nat) : Nat → Nat := fun k => if k < n then c k else j
theorem paint_old {c : Nat → Nat} {n j k : Nat} (h : k < n) : paint c n j k = c k := if_pos h
theorem paint_new {c : Nat → Nat} {n j k : Nat} (h : n ≤ k) : paint c n j k = j := if_neg (by omega)
def Chg (j : Nat) (c : Nat → Nat) (w : World) (c' : Nat → Nat) (w' : World) : Prop := Mod (fun k => c k = j) w w' ∧ ∀ k, k < w.heap.size → c' k = c k
theorem Chg.trans {j : Nat} {c c' c'' : Nat → Nat} {w w' w'' : World} (h : Chg j c w c' w') (k : Chg j c' w' c'' w'') : Chg j c w c'' w'' :=
  ⟨h.1.then k.1 (fun i hi e => by rw [← h.2 i hi]; exact e), fun i hi => (k.2 i (by have := h.1.size; omega)).trans (h.2 i hi)⟩
theorem Chg.size {j : Nat} {c c' : Nat → Nat} {w w' : World} (h : Chg j c w c' w') : w.heap.size ≤ w'.heap.size := h.1.size
theorem Chg.refl (j : Nat) (c : Nat → Nat) (w : World) : Chg j c w c w := ⟨Mod.refl _ _, fun _ _ => rfl⟩
theorem Chg.mod {j : Nat} {c : Nat → Nat} {w w' : World} (i : Nat) (h : Mod (fun k => c k = j) w w') : Chg j c w (paint c w.heap.size i) w' := ⟨h, fun k hk => paint_old hk⟩
theorem Chg.below {c : Nat → Nat} {w w' : World} (j i : Nat) (h : Below w.heap.size w w') : Chg j c w (paint c w.heap.size i) w' := ⟨Mod.of_below_size h _, fun k hk => paint_old hk⟩
theorem Chg.alloc {c : Nat → Nat} {w : World} (j i : Nat) (o : Obj) : Chg j c w (paint c w.heap.size i) (w.alloc o) := .below j i ((Below.refl _ _).alloc (Nat.le_refl _) _)
theorem Chg.drew {j : Nat} {c c' : Nat → Nat} {w w' : World} (h : Chg j c w c' w') : Chg j c w c' w'.drew := ⟨h.1.drew, h.2⟩
theorem Chg.drewN {j : Nat} {c c' : Nat → Nat} {w w' : World} (h : Chg j c w c' w') (n : Nat) : Chg j c w c' (w'.drewN n) := ⟨h.1.drewN n, h.2⟩
theorem Chg.block {j : Nat} {c c' : Nat → Nat} {w w' : World} (h : Chg j c w c' w') {k : Nat} (hk : k < w.heap.size) (hj : c k ≠ j) : w'.heap[k]? = w.heap[k]? := h.1.block k hk hj
def Fr (base : Nat) (c : Nat → Nat) (W w : World) : Prop := base ≤ w.heap.size ∧ Below base W w ∧ ∀ k, k < base → c k = 0
theorem Fr.start (W : World) : Fr W.heap.size (fun _ => 0) W W := ⟨Nat.le_refl _, Below.refl _ _, fun _ _ => rfl⟩
theorem Fr.step {base j : Nat} {c c' : Nat → Nat} {W w w' : World} (h : Fr base c W w) (k : Chg j c w c' w') (hj : j ≠ 0) : Fr base c' W w' :=
  ⟨Nat.le_trans h.1 k.size, h.2.1.trans (k.1.below base h.1 (fun q hq e => hj (by rw [← e, h.2.2 q hq]))), fun q hq => (k.2 q (by have := h.1; omega)).trans (h.2.2 q hq)⟩
theorem Fr.below {base : Nat} {c : Nat → Nat} {W w : World} (h : Fr base c W w) : Below base W w := h.2.1
def RowC (w : World) (c : Nat → Nat) (j : Nat) (e sz : Nat) (A : Option Addr) (n cap : Nat) (cs : List Value) : Prop := Row w e sz A n cap cs ∧ ∀ a, A = some a → c a.block = j
theorem RowC.stay {i j e sz n cap : Nat} {A : Option Addr} {cs : List Value} {c c' : Nat → Nat} {w w' : World} (h : RowC w c i e sz A n cap cs) (k : Chg j c w c' w') (hij : i ≠ j) : RowC w' c' i e sz A n cap cs :=
  ⟨h.1.mod k.1 (fun a ha hj => hij ((h.2 a ha).symm.trans hj)), fun a ha => by subst ha; rw [k.2 _ h.1.lt]; exact h.2 a rfl⟩
theorem RowC.nil (w : World) (c : Nat → Nat) (j e sz : Nat) : RowC w c j e sz none 0 0 [] := ⟨Row.nil _ _ _, fun a h => (by cases h)⟩
theorem RowC.put {j e sz n cap n' cap' : Nat} {A A' : Option Addr} {cs cs' : List Value} {c : Nat → Nat} {w w' : World} (h : RowC w c j e sz A n cap cs)
    (hr : Row w' e sz A' n' cap' cs') (hm : Mod (fun k => ∃ a, A = some a ∧ k = a.block) w w') (hat : ∀ a', A' = some a' → (∃ a, A = some a ∧ a'.block = a.block) ∨ w.heap.size ≤ a'.block) :
    RowC w' (paint c w.heap.size j) j e sz A' n' cap' cs' ∧ Chg j c w (paint c w.heap.size j) w' :=
  ⟨⟨hr, fun a' ha' => by
    rcases hat a' ha' with ⟨a, h1, h2⟩ | h1
    · rw [h2, paint_old (by subst h1; exact h.1.lt)]; exact h.2 a h1
    · exact paint_new h1⟩, .mod j (hm.mono (fun k _ ⟨a, h1, h2⟩ => h2 ▸ h.2 a h1))⟩
theorem RowC.fresh {j e sz n cap : Nat} {A : Option Addr} {cs : List Value} {c : Nat → Nat} {w w' : World} (hr : Row w' e sz A n cap cs) (hat : ∀ a, A = some a → w.heap.size ≤ a.block) : RowC w' (paint c w.heap.size j) j e sz A n cap cs :=
  ⟨hr, fun a ha => paint_new (hat a ha)⟩
def BlkC (w : World) (c : Nat → Nat) (j k : Nat) (o : Obj) : Prop := w.heap[k]? = some o ∧ c k = j
theorem BlkC.lt {w : World} {c : Nat → Nat} {j k : Nat} {o : Obj} (h : BlkC w c j k o) : k < w.heap.size := (Array.getElem?_eq_some_iff.1 h.1).1
theorem BlkC.stay {i j k : Nat} {o : Obj} {c c' : Nat → Nat} {w w' : World} (h : BlkC w c i k o) (s : Chg j c w c' w') (hij : i ≠ j) : BlkC w' c' i k o :=
  ⟨(s.block h.lt (fun e => hij (h.2.symm.trans e))).trans h.1, (s.2 k h.lt).trans h.2⟩
theorem BlkC.made (w : World) (c : Nat → Nat) (j : Nat) (o : Obj) : BlkC (w.alloc o) (paint c w.heap.size j) j w.heap.size o := ⟨heap_alloc_new w o, paint_new (Nat.le_refl _)⟩
theorem BlkC.cell {w : World} {c : Nat → Nat} {j g : Nat} {cur : Array Value} {e : TypeId} {fr : Nat × Nat} (h : BlkC w c j g (.cells cur e fr)) (o : Nat) : w.cell? ⟨g, o, none⟩ = cur[o]? := cell_blk h.1 o
theorem BlkC.free {w : World} {c : Nat → Nat} {j g : Nat} {cur : Array Value} {e : TypeId} (h : BlkC w c j g (.cells cur e (0, 0))) (o : Nat) : w.frozen? ⟨g, o, none⟩ = false := free_blk h.1 o
theorem BlkC.set {w : World} {c : Nat → Nat} {j g : Nat} {cur : Array Value} {e : TypeId} (h : BlkC w c j g (.cells cur e (0, 0))) (o : Nat) (v : Value) :
    BlkC (w.setCell ⟨g, o, none⟩ v) (paint c w.heap.size j) j g (.cells (cur.setIfInBounds o v) e (0, 0)) ∧ Chg j c w (paint c w.heap.size j) (w.setCell ⟨g, o, none⟩ v) :=
  ⟨⟨set_blk h.1 o v, (paint_old h.lt).trans h.2⟩, .mod j ((Mod.refl _ w).setCell (p := ⟨g, o, none⟩) (fun _ => h.2) v)⟩
section
variable {P : Program} {kt : TypeId} {K : Type} [DecidableEq K]
def MapC (kd : KeyK P kt K) (w : World) (c : Nat → Nat) (j r : Nat) (m : List (K × Value)) : Prop := MapAt kd w r m ∧ c r = j
variable {kd : KeyK P kt K}
theorem MapC.stay {i j r : Nat} {m : List (K × Value)} {c c' : Nat → Nat} {w w' : World} (h : MapC kd w c i r m) (s : Chg j c w c' w') (hij : i ≠ j) : MapC kd w' c' i r m :=
  ⟨h.1.move (s.block h.1.lt (fun e => hij (h.2.symm.trans e))), (s.2 r h.1.lt).trans h.2⟩
theorem MapC.put {j r : Nat} {m m' : List (K × Value)} {c : Nat → Nat} {w w' : World} (h : MapC kd w c j r m) (h' : MapAt kd w' r m') (hm : Mod (fun q => q = r) w w') :
    MapC kd w' (paint c w.heap.size j) j r m' ∧ Chg j c w (paint c w.heap.size j) w' :=
  ⟨⟨h', (paint_old h.1.lt).trans h.2⟩, .mod j (hm.mono (fun k _ e => e ▸ h.2))⟩
theorem MapC.made (kd : KeyK P kt K) (w : World) (c : Nat → Nat) (j n : Nat) : MapC kd (w.alloc (.map #[] n)) (paint c w.heap.size j) j w.heap.size [] := ⟨MapAt.made kd w n, paint_new (Nat.le_refl _)⟩
end
theorem RowC.set {w : World} {c : Nat → Nat} {j e sz g o n cap : Nat} {cs : List Value} (h : RowC w c j e sz (some ⟨g, o, none⟩) n cap cs) (q : Nat) (hq : q < n * sz) (v : Value) :
    RowC (w.setCell ⟨g, o + q, none⟩ v) (paint c w.heap.size j) j e sz (some ⟨g, o, none⟩) n cap (cs.set q v) ∧ Chg j c w (paint c w.heap.size j) (w.setCell ⟨g, o + q, none⟩ v) :=
  ⟨⟨h.1.set q hq v, fun a ha => by injection ha with ha; subst ha; rw [paint_old h.1.lt]; exact h.2 _ rfl⟩, .mod j ((Mod.refl _ w).setCell (p := ⟨g, o + q, none⟩) (fun _ => h.2 _ rfl) v)⟩
end Go.Proofs.YtckdofjpoajblaaGreat
namespace Go.Proofs.YtckdofjpoajblaaGreat
open Go.RowKit
set_option linter.unusedVariables false
def LvC (w : World) (c : Nat → Nat) (A : Option Addr) (cap : Nat) (L : List (List Ev)) : Prop :=
  ∃ vs : List Value, RowC w c 1 55 1 A L.length cap vs ∧ ∀ i, (hi : i < L.length) → ∃ A' c', vs[i]? = some (.slice A' L[i].length c') ∧ RowC w c (10 + i) 51 4 A' L[i].length c' (L[i].flatMap encE)
def LvOut (w : World) (L : List (List Ev)) (x : Ending) (w' : World) : Prop := ∃ A' cap', x = .returned (.slice A' L.length cap') ∧ LvAt w' w'.heap.size A' L ∧ Below w.heap.size w w'
theorem LvOut.nil {w w' : World} (h : Below w.heap.size w w') : LvOut w [] (.returned (.slice none 0 0)) w' := ⟨none, 0, rfl, ⟨[], ⟨rfl, fun h => by simp at h⟩, fun i hi => (by cases hi)⟩, h⟩
theorem LvC.nil (w : World) (c : Nat → Nat) : LvC w c none 0 [] := ⟨[], RowC.nil w c 1 55 1, fun i hi => (by cases hi)⟩
theorem LvC.stay {j cap : Nat} {A : Option Addr} {L : List (List Ev)} {c c' : Nat → Nat} {w w' : World} (h : LvC w c A cap L) (k : Chg j c w c' w') (h1 : j ≠ 1) (h2 : j < 10) : LvC w' c' A cap L := by
  obtain ⟨vs, hv, hin⟩ := h
  refine ⟨vs, hv.stay k (by omega), fun i hi => ?_⟩
  obtain ⟨A', c', e, r⟩ := hin i hi
  exact ⟨A', c', e, r.stay k (by omega)⟩
theorem Chg.heap {j : Nat} {c c' : Nat → Nat} {w w' w2 : World} (h : Chg j c w c' w') (e : w2.heap = w'.heap) (e1 : w2.os = w'.os) (e2 : w2.tape = w'.tape) (e3 : w2.output = w'.output) : Chg j c w c' w2 :=
  ⟨⟨e1.trans h.1.os, e2.trans h.1.tape, e3.trans h.1.output, by rw [e]; exact h.1.size, fun k hk hn => by rw [e]; exact h.1.block k hk hn⟩, h.2⟩
theorem LvC.heap {cap : Nat} {A : Option Addr} {L : List (List Ev)} {c : Nat → Nat} {w w' : World} (h : LvC w c A cap L) (e : w'.heap = w.heap) : LvC w' c A cap L := by
  obtain ⟨vs, hv, hin⟩ := h
  refine ⟨vs, ⟨hv.1.move (fun a _ => by rw [e]), hv.2⟩, fun i hi => ?_⟩
  obtain ⟨A', c', e', r⟩ := hin i hi
  exact ⟨A', c', e', r.1.move (fun a _ => by rw [e]), r.2⟩
theorem LvC.cell {cap : Nat} {A : Option Addr} {L : List (List Ev)} {c : Nat → Nat} {w : World} (h : LvC w c A cap L) (i : Nat) (hi : i < L.length) :
    ∃ g o A' c', A = some ⟨g, o, none⟩ ∧ g < w.heap.size ∧ c g = 1 ∧ w.cell? ⟨g, o + i, none⟩ = some (.slice A' L[i].length c') ∧ (∀ j, w.frozen? ⟨g, j, none⟩ = false) ∧ RowC w c (10 + i) 51 4 A' L[i].length c' (L[i].flatMap encE) ∧
      (∀ w1 c1 q', Chg (10 + i) c w c1 w1 → q'.length = L[i].length → RowC w1 c1 (10 + i) 51 4 A' q'.length c' (q'.flatMap encE) → LvC w1 c1 A cap (L.set i q')) := by
  obtain ⟨vs, hv, hin⟩ := h
  obtain ⟨g, o, rfl⟩ := hv.1.some_of_pos (by have := hv.1.2.1; omega)
  obtain ⟨A', c', e, r⟩ := hin i hi
  refine ⟨g, o, A', c', rfl, hv.1.lt, hv.2 _ rfl, ?_, fun j => hv.1.free j, r, fun w1 c1 q' k hq hr => ?_⟩
  · rw [hv.1.cell i (by omega), e]
  · refine ⟨vs, by rw [List.length_set]; exact hv.stay k (by omega), fun j hj => ?_⟩
    rw [List.length_set] at hj
    by_cases hji : j = i
    · subst hji
      refine ⟨A', c', ?_, ?_⟩
      · rw [e]; simp [hq]
      · simpa using hr
    · obtain ⟨A2, c2, e2, r2⟩ := hin j hj
      refine ⟨A2, c2, ?_, ?_⟩
      · rw [e2, List.getElem_set_ne (Ne.symm hji)]
      · rw [List.getElem_set_ne (Ne.symm hji)]; exact r2.stay k (by omega)
theorem LvC.snoc {cap cap' : Nat} {A A2 : Option Addr} {L : List (List Ev)} {c : Nat → Nat} {w w' : World} {vs : List Value} (hv : RowC w c 1 55 1 A L.length cap vs)
    (hin : ∀ i, (hi : i < L.length) → ∃ A' c', vs[i]? = some (.slice A' L[i].length c') ∧ RowC w c (10 + i) 51 4 A' L[i].length c' (L[i].flatMap encE))
    (hr : Row w' 55 1 A2 (L.length + 1) cap' (vs ++ [.slice none 0 0])) (hm : Mod (fun k => ∃ a, A = some a ∧ k = a.block) w w')
    (hat : ∀ a', A2 = some a' → (∃ a, A = some a ∧ a'.block = a.block) ∨ w.heap.size ≤ a'.block) :
    LvC w' (paint c w.heap.size 1) A2 cap' (L ++ [[]]) ∧ Chg 1 c w (paint c w.heap.size 1) w' := by
  have hl : vs.length = L.length := by have := hv.1.1; omega
  obtain ⟨h1, h2⟩ := RowC.put hv hr hm hat
  refine ⟨⟨vs ++ [.slice none 0 0], by rw [List.length_append]; exact h1, fun i hi => ?_⟩, h2⟩
  rw [List.length_append, List.length_singleton] at hi
  rcases Nat.lt_or_ge i L.length with h3 | h3
  · obtain ⟨A', c', e, r⟩ := hin i h3
    refine ⟨A', c', ?_, ?_⟩
    · rw [List.getElem?_append_left (by omega), e, List.getElem_append_left h3]
    · rw [List.getElem_append_left h3]; exact r.stay h2 (by omega)
  · obtain rfl : i = L.length := by omega
    refine ⟨none, 0, ?_, ?_⟩
    · rw [List.getElem?_append_right (by omega)]; simp [hl]
    · simp only [List.getElem_append_right (Nat.le_refl _), Nat.sub_self, List.getElem_cons_zero]; exact RowC.nil _ _ _ _ _
theorem LvC.put {i c' cap : Nat} {A A' : Option Addr} {L : List (List Ev)} {c c1 : Nat → Nat} {w w1 : World} (h : LvC w c A cap L) (hi : i < L.length) (k : Chg (10 + i) c w c1 w1) (q' : List Ev) (hr : RowC w1 c1 (10 + i) 51 4 A' q'.length c' (q'.flatMap encE)) :
    ∀ g o, A = some ⟨g, o, none⟩ → LvC (w1.setCell ⟨g, o + i, none⟩ (.slice A' q'.length c')) (paint c1 w1.heap.size 1) A cap (L.set i q') ∧ Chg 1 c1 w1 (paint c1 w1.heap.size 1) (w1.setCell ⟨g, o + i, none⟩ (.slice A' q'.length c')) := by
  intro g o hA
  subst hA
  obtain ⟨vs, hv, hin⟩ := h
  have hl : vs.length = L.length := by have := hv.1.1; omega
  obtain ⟨h1, h2⟩ := RowC.set (hv.stay k (by omega)) i (by omega) (.slice A' q'.length c')
  refine ⟨⟨_, by rw [List.length_set]; exact h1, fun j hj => ?_⟩, h2⟩
  rw [List.length_set] at hj
  by_cases hji : j = i
  · subst hji
    refine ⟨A', c', ?_, ?_⟩
    · rw [List.getElem?_set_self (by omega)]; simp
    · simpa using hr.stay h2 (by omega)
  · obtain ⟨A2, c2, e2, r2⟩ := hin j hj
    refine ⟨A2, c2, ?_, ?_⟩
    · rw [List.getElem?_set_ne (Ne.symm hji), e2, List.getElem_set_ne (Ne.symm hji)]
    · rw [List.getElem_set_ne (Ne.symm hji)]; exact (r2.stay k (by omega)).stay h2 (by omega)
theorem LvC.lv {cap : Nat} {A : Option Addr} {L : List (List Ev)} {c : Nat → Nat} {w : World} (h : LvC w c A cap L) : LvAt w w.heap.size A L := by
  obtain ⟨vs, hv, hin⟩ := h
  refine ⟨vs, hv.1.rd.toB, fun i hi => ?_⟩
  obtain ⟨A', c', e, r⟩ := hin i hi
  exact ⟨A', c', e, r.1.rd.toB, r.1.2.1, r.1.2.2.1⟩
namespace Fo
theorem levU_len (l : List Ev) : (levU l).length ≤ l.length :=
  snoc_ind (p := fun l => (levU l).length ≤ l.length) (Nat.le_refl _) (fun l e h => by
    rw [levU_snoc, addL_len (place_le _ _), List.length_append, List.length_singleton]
    split <;> omega) l
theorem mem_len {L : List (List Ev)} {q : List Ev} (h : q ∈ L) : q.length ≤ L.flatten.length := by
  induction L with
  | nil => cases h
  | cons a L ih =>
    rw [List.flatten_cons, List.length_append]
    rcases List.mem_cons.1 h with rfl | h
    · omega
    · have := ih h; omega
theorem levU_in (l : List Ev) (q : List Ev) (h : q ∈ levU l) : q.length ≤ l.length := by
  have := mem_len h
  rwa [(levU_flat l).length_eq] at this
theorem addL_in {L : List (List Ev)} {n : Nat} (e : Ev) (hn : n < L.length) : addL L n e = L.set n (L[n] ++ [e]) := by
  unfold addL
  rw [if_pos hn, List.getD_eq_getElem?_getD, List.getElem?_eq_getElem hn]
  rfl
theorem addL_end {L : List (List Ev)} (e : Ev) : addL L L.length e = (L ++ [[]]).set L.length ([] ++ [e]) := by
  unfold addL
  rw [if_neg (Nat.lt_irrefl _), List.set_append_right _ _ (Nat.le_refl _)]
  simp
theorem placeAt_hit {L : List (List Ev)} {e : Ev} {m : Nat} (hm : m < L.length) (h : (L[m].any fun x => dep x e) = true) : placeAt L e (m + 1) = m + 1 := by
  unfold placeAt
  rw [List.getD_eq_getElem?_getD, List.getElem?_eq_getElem hm, Option.getD_some, if_pos h]
theorem placeAt_miss {L : List (List Ev)} {e : Ev} {m : Nat} (hm : m < L.length) (h : (L[m].any fun x => dep x e) = false) : placeAt L e (m + 1) = placeAt L e m := by
  conv => lhs; unfold placeAt
  rw [List.getD_eq_getElem?_getD, List.getElem?_eq_getElem hm, Option.getD_some, if_neg (by rw [h]; simp)]
def part (L : List (List Ev)) (i : Nat) : List (List Ev) := (L.take i).map sortT ++ L.drop i
theorem part_len (L : List (List Ev)) (i : Nat) : (part L i).length = L.length := by unfold part; simp; omega
theorem part_zero (L : List (List Ev)) : part L 0 = L := by unfold part; simp
theorem part_all (L : List (List Ev)) : part L L.length = L.map sortT := by unfold part; simp
theorem part_get (L : List (List Ev)) (i : Nat) (hi : i < L.length) : (part L i)[i]'(by rw [part_len]; exact hi) = L[i] := by
  unfold part
  rw [List.getElem_append_right (by simp; omega)]
  simp [Nat.min_eq_left (Nat.le_of_lt hi)]
theorem part_set (L : List (List Ev)) (i : Nat) (hi : i < L.length) : (part L i).set i (sortT L[i]) = part L (i + 1) := by
  have h1 : (List.map sortT (L.take i)).length = i := by simp; omega
  unfold part
  rw [List.set_append_right _ _ (by omega), h1, Nat.sub_self, List.take_add_one, List.getElem?_eq_getElem hi, List.drop_eq_getElem_cons hi, List.set_cons_zero, List.map_append, List.append_assoc]
  rfl
theorem four {q : List Ev} (hd : q.Pairwise (fun a b => a.t ≠ b.t)) (hr : ∀ e ∈ q, 0 ≤ e.t ∧ e.t ≤ 3) : q.length ≤ 4 := by
  have hs := sortT_sorted q
  have hp := sortT_perm q
  have hd' : (sortT q).Pairwise (fun a b => a.t ≠ b.t) := (hp.pairwise_iff (fun {a b} h => Ne.symm h)).2 hd
  have hr' : ∀ e ∈ sortT q, 0 ≤ e.t ∧ e.t ≤ 3 := fun e he => hr e (hp.mem_iff.1 he)
  rw [← hp.length_eq]
  generalize sortT q = s at hs hd' hr'
  rcases Nat.lt_or_ge 4 s.length with h | h
  · exfalso
    unfold SortedT at hs
    rw [List.pairwise_iff_getElem] at hs hd'
    have a0 := hr' s[0] (List.getElem_mem _)
    have a4 := hr' s[4] (List.getElem_mem _)
    have b0 := hs 0 1 (by omega) (by omega) (by omega)
    have b1 := hs 1 2 (by omega) (by omega) (by omega)
    have b2 := hs 2 3 (by omega) (by omega) (by omega)
    have b3 := hs 3 4 (by omega) (by omega) (by omega)
    have c0 := hd' 0 1 (by omega) (by omega) (by omega)
    have c1 := hd' 1 2 (by omega) (by omega) (by omega)
    have c2 := hd' 2 3 (by omega) (by omega) (by omega)
    have c3 := hd' 3 4 (by omega) (by omega) (by omega)
    omega
  · exact h
theorem right_thr {e : Ev} (h : right e = true) : 0 ≤ e.t ∧ e.t ≤ 3 := by
  unfold right at h
  simp only [decide_eq_true_eq] at h
  exact ⟨h.1, h.2.1⟩
theorem level_four {l : List Ev} (hr : rights l = true) (i : Nat) (hi : i < (levU l).length) : (levU l)[i].length ≤ 4 := by
  have hap := (levU_lev l).apart i
  rw [List.getD_eq_getElem?_getD, List.getElem?_eq_getElem hi, Option.getD_some] at hap
  refine four (apart_threads hap) (fun e he => right_thr ?_)
  have : e ∈ (levU l).flatten := List.mem_flatten.2 ⟨_, List.getElem_mem hi, he⟩
  rw [(levU_flat l).mem_iff] at this
  exact List.all_eq_true.1 hr e this
theorem level_sort {l : List Ev} (i : Nat) (hi : i < (levU l).length) {q' : List Ev} (hp : q'.Perm (levU l)[i]) (hs : SortedT q') : q' = sortT (levU l)[i] := by
  have hap := lev_apart l i
  rw [lev_getD, List.getD_eq_getElem?_getD, List.getElem?_eq_getElem hi, Option.getD_some] at hap
  exact (sorted_one ((sortT_perm _).trans hp.symm) (sortT_sorted _) hs (apart_threads hap)).symm
theorem level_ne {l : List Ev} (i : Nat) (hi : i < (levU l).length) : 0 < (levU l)[i].length := by
  have := (levU_lev l).ne i hi
  rw [List.getD_eq_getElem?_getD, List.getElem?_eq_getElem hi, Option.getD_some] at this
  exact List.length_pos_iff.2 this
end Fo
end Go.Proofs.YtckdofjpoajblaaGreat
namespace Go.Proofs.YtckdofjpoajblaaGreat
open Go.RowKit
set_option linter.unusedVariables false
namespace Fo
def highN (l : List Ev) (a : List Nat) (e : Ev) (j : Nat) : Nat := ((l.zip a).take j).foldl (fun n p => if dep p.1 e then max n (p.2 + 1) else n) 0
theorem highN_zero (l : List Ev) (a : List Nat) (e : Ev) : highN l a e 0 = 0 := rfl
theorem highN_all (l : List Ev) (a : List Nat) (e : Ev) (h : a.length = l.length) : highN l a e l.length = high l a e := by
  unfold highN high
  rw [List.take_of_length_le (by rw [List.length_zip]; omega)]
theorem highN_succ {l : List Ev} {a : List Nat} {e : Ev} {j : Nat} (hj : j < l.length) (hj' : j < a.length) : highN l a e (j + 1) = if dep l[j] e then max (highN l a e j) (a[j] + 1) else highN l a e j := by
  unfold highN
  have hz : j < (l.zip a).length := by rw [List.length_zip]; omega
  rw [List.take_add_one, List.getElem?_eq_getElem hz, List.foldl_append]
  simp
theorem highN_le {l : List Ev} {a : List Nat} {e : Ev} {B : Nat} (ha : ∀ x ∈ a, x ≤ B) : ∀ j, highN l a e j ≤ B + 1 := by
  intro j
  unfold highN
  refine foldmax_le _ e 0 (B + 1) ⟨Nat.zero_le _, fun p hp _ => ?_⟩
  have := List.of_mem_zip (List.mem_of_mem_take hp)
  have := ha _ this.2
  omega
theorem ats_le (l : List Ev) : ∀ x ∈ ats l, x ≤ l.length :=
  snoc_ind (p := fun l => ∀ x ∈ ats l, x ≤ l.length) (fun x h => by cases h) (fun l e h x hx => by
    rw [ats_snoc] at hx
    rw [List.length_append, List.length_singleton]
    rcases List.mem_append.1 hx with hx | hx
    · have := h x hx; omega
    · rw [List.mem_singleton] at hx
      rw [hx, ← place_high]
      have := place_le (levU l) e
      have := levU_len l
      omega) l
def insA (e : Ev) (q : List Ev) : List Ev × Bool := q.foldl (fun s x => if !s.2 && decide (e.t < x.t) then (s.1 ++ [e, x], true) else (s.1 ++ [x], s.2)) ([], false)
theorem insA_snoc (e : Ev) (q : List Ev) (x : Ev) : insA e (q ++ [x]) = if !(insA e q).2 && decide (e.t < x.t) then ((insA e q).1 ++ [e, x], true) else ((insA e q).1 ++ [x], (insA e q).2) := by
  unfold insA; rw [List.foldl_append]; rfl
theorem insT_snoc (e x : Ev) : ∀ q : List Ev, (∀ y ∈ q, ¬ e.t < y.t) → insT e (q ++ [x]) = if e.t < x.t then q ++ [e, x] else q ++ [x, e]
  | [], _ => by unfold insT insT; rfl
  | y :: q, h => by
    have h1 : ¬ e.t < y.t := h y (List.mem_cons_self ..)
    rw [List.cons_append, insT, if_neg h1, insT_snoc e x q (fun z hz => h z (List.mem_cons_of_mem _ hz))]
    split <;> rfl
theorem insT_more (e x : Ev) : ∀ q : List Ev, (∃ y ∈ q, e.t < y.t) → insT e (q ++ [x]) = insT e q ++ [x]
  | [], h => by obtain ⟨y, hy, _⟩ := h; cases hy
  | y :: q, h => by
    rw [List.cons_append, insT, insT]
    split
    · rfl
    · rename_i hn
      obtain ⟨z, hz, hlt⟩ := h
      rcases List.mem_cons.1 hz with rfl | hz
      · exact (hn hlt).elim
      · rw [insT_more e x q ⟨z, hz, hlt⟩]; rfl
theorem insA_spec (e : Ev) (q : List Ev) : ((insA e q).2 = false → (insA e q).1 = q ∧ ∀ y ∈ q, ¬ e.t < y.t) ∧ ((insA e q).2 = true → (insA e q).1 = insT e q ∧ ∃ y ∈ q, e.t < y.t) :=
  snoc_ind (p := fun q => ((insA e q).2 = false → (insA e q).1 = q ∧ ∀ y ∈ q, ¬ e.t < y.t) ∧ ((insA e q).2 = true → (insA e q).1 = insT e q ∧ ∃ y ∈ q, e.t < y.t))
    ⟨fun _ => ⟨rfl, fun y hy => by cases hy⟩, fun h => by cases h⟩ (fun q x ih => by
      rw [insA_snoc]
      cases hb : (insA e q).2 with
      | true =>
        obtain ⟨h1, y, hy, hlt⟩ := ih.2 hb
        simp only [Bool.not_true, Bool.false_and, Bool.false_eq_true, if_false]
        exact ⟨fun h => (by cases h), fun _ => ⟨by rw [h1, insT_more e x q ⟨y, hy, hlt⟩], y, List.mem_append_left _ hy, hlt⟩⟩
      | false =>
        obtain ⟨h1, h2⟩ := ih.1 hb
        by_cases hx : e.t < x.t
        · rw [decide_eq_true hx]
          simp only [Bool.not_false, Bool.true_and, if_true]
          refine ⟨fun h => (by cases h), fun _ => ⟨?_, x, by simp, hx⟩⟩
          rw [h1, insT_snoc e x q h2, if_pos hx]
        · rw [decide_eq_false hx]
          simp only [Bool.not_false, Bool.true_and, Bool.false_eq_true, if_false]
          refine ⟨fun _ => ⟨by rw [h1], fun y hy => ?_⟩, fun h => by cases h⟩
          rcases List.mem_append.1 hy with hy | hy
          · exact h2 y hy
          · rw [List.mem_singleton] at hy; subst hy; exact hx) q
theorem insT_end (e : Ev) : ∀ q : List Ev, (∀ y ∈ q, ¬ e.t < y.t) → insT e q = q ++ [e]
  | [], _ => rfl
  | y :: q, h => by
    rw [insT, if_neg (h y (List.mem_cons_self ..)), insT_end e q (fun z hz => h z (List.mem_cons_of_mem _ hz))]
    rfl
theorem insA_end (e : Ev) (q : List Ev) : (if (insA e q).2 = true then (insA e q).1 else (insA e q).1 ++ [e]) = insT e q := by
  cases hb : (insA e q).2 with
  | true => rw [if_pos rfl]; exact ((insA_spec e q).2 hb).1
  | false =>
    obtain ⟨h1, h2⟩ := (insA_spec e q).1 hb
    rw [if_neg (by decide), h1, insT_end e q h2]
theorem insA_len (e : Ev) (q : List Ev) : (insA e q).1.length ≤ q.length + 1 := by
  cases hb : (insA e q).2 with
  | true => rw [((insA_spec e q).2 hb).1, (insT_perm e q).length_eq, List.length_cons]; exact Nat.le_refl _
  | false => rw [((insA_spec e q).1 hb).1]; omega
theorem lev_in (l : List Ev) (e : Ev) (h : high l (ats l) e < (lev l).length) : lev (l ++ [e]) = (lev l).set (high l (ats l) e) (insT e ((lev l).getD (high l (ats l) e) [])) := by
  rw [lev_getD]
  rw [lev_len] at h
  unfold lev
  rw [levU_snoc, place_high]
  generalize high l (ats l) e = n at h ⊢
  rw [addL_in e h, List.map_set, sortT_snoc, List.getD_eq_getElem?_getD, List.getElem?_eq_getElem h]
  rfl
theorem lev_end (l : List Ev) (e : Ev) (h : high l (ats l) e = (lev l).length) : lev (l ++ [e]) = (lev l ++ [[]]).set (high l (ats l) e) (insT e ((lev l ++ [[]]).getD (high l (ats l) e) [])) := by
  rw [h]
  have h2 := h
  rw [lev_len] at h2
  have h3 : (lev l ++ [[]]).getD (lev l).length [] = [] := by simp [List.getD_eq_getElem?_getD]
  rw [h3]
  have h4 : lev (l ++ [e]) = (addL (levU l) (levU l).length e).map sortT := by unfold lev; rw [levU_snoc, place_high, h2]
  rw [h4, addL_end, List.map_set, List.map_append, lev_len]
  rfl
theorem high_le (l : List Ev) (e : Ev) : high l (ats l) e ≤ (lev l).length := by
  rw [← place_high, lev_len]; exact place_le _ _
theorem lev_in_len (l : List Ev) (q : List Ev) (h : q ∈ lev l) : q.length ≤ l.length := by
  have := mem_len h
  rwa [(lev_flat l).length_eq] at this
theorem lev_len_le (l : List Ev) : (lev l).length ≤ l.length := by rw [lev_len]; exact levU_len l
end Fo
def repaint (c : Nat → Nat) (i j : Nat) : Nat → Nat := fun k => if c k = i then j else c k
theorem RowC.re {w : World} {c : Nat → Nat} {i e sz n cap : Nat} {A : Option Addr} {cs : List Value} (h : RowC w c i e sz A n cap cs) (j : Nat) : RowC w (repaint c i j) j e sz A n cap cs :=
  ⟨h.1, fun a ha => by unfold repaint; rw [if_pos (h.2 a ha)]⟩
theorem RowC.re_ne {w : World} {c : Nat → Nat} {i k e sz n cap : Nat} {A : Option Addr} {cs : List Value} (h : RowC w c k e sz A n cap cs) (hk : k ≠ i) (j : Nat) : RowC w (repaint c i j) k e sz A n cap cs :=
  ⟨h.1, fun a ha => by unfold repaint; rw [h.2 a ha, if_neg hk]⟩
theorem LvC.re {w : World} {c : Nat → Nat} {cap : Nat} {A : Option Addr} {L : List (List Ev)} (h : LvC w c A cap L) {i : Nat} (h1 : i ≠ 1) (h2 : i < 10) (j : Nat) : LvC w (repaint c i j) A cap L := by
  obtain ⟨vs, hv, hin⟩ := h
  refine ⟨vs, hv.re_ne (Ne.symm h1) j, fun k hk => ?_⟩
  obtain ⟨A', c', e, r⟩ := hin k hk
  exact ⟨A', c', e, r.re_ne (by omega) j⟩
theorem Fr.re {base : Nat} {c : Nat → Nat} {W w : World} (h : Fr base c W w) {i : Nat} (hi : i ≠ 0) (j : Nat) : Fr base (repaint c i j) W w :=
  ⟨h.1, h.2.1, fun k hk => by unfold repaint; rw [h.2.2 k hk, if_neg (Ne.symm hi)]⟩
end Go.Proofs.YtckdofjpoajblaaGreat
namespace Go.Proofs.YtckdofjpoajblaaGreat
open Go.RowKit
set_option linter.unusedVariables false
def byteVs (bs : List UInt8) : List Value := bs.map fun b => .int .u8 b.toNat
theorem conv_bytes {P : Program} {w : World} {e : TypeId} {A : Option Addr} {n cap : Nat} {bs : List UInt8} (h : Row w e 1 A n cap (byteVs bs)) (src dst : TypeId) (hs : P.underlying src = some (.slice e)) (he : P.underlying e = some (.int .u8)) (hd : P.underlying dst = some .string) :
    (convert src dst (.slice A n cap)).run P w = .ok (.string ⟨bs.toArray⟩) w := by
  have hl := h.len
  unfold byteVs at hl
  rw [List.length_map] at hl
  cases A with
  | none =>
    have h0 := h.2.2.2.1 rfl
    have h1 := h.2.1
    rw [run_convert_bytes_nil w src e hs he n cap dst hd]
    have : bs = [] := List.eq_nil_of_length_eq_zero (by omega)
    subst this
    rfl
  | some a =>
    obtain ⟨hsp, _⟩ := h.2.2.2.2 a rfl
    obtain ⟨g, o, s⟩ := a
    simp only at hsp
    subst hsp
    rw [run_convert_bytes_arg w src e hs he g o n cap (bs.map fun b => (b.toNat : Int)) (by simp; omega) (fun i hi => by
      rw [h.cell i (by omega)]
      unfold byteVs
      rw [List.getElem?_map, List.getD_eq_getElem?_getD, List.getElem?_map, List.getElem?_eq_getElem (by omega)]
      rfl) dst hd]
    congr 2
    apply ByteArray.ext
    apply Array.toList_inj.1
    rw [strOfNums_data, List.map_map]
    conv => rhs; rw [show (⟨bs.toArray⟩ : ByteArray).data.toList = bs from rfl, ← List.map_id bs]
    apply List.map_congr_left
    intro x _
    simp
theorem acc_more {w wr w1 : World} {O : Obj} {g of : Nat} {A : Option Addr} (hA : ∀ a, A = some a → w.heap.size ≤ a.block) (hb : Below w.heap.size w wr)
    (hm : Mod (fun k => ∃ a, A = some a ∧ k = a.block) (wr.alloc O) w1) (hat : (∃ a, A = some a ∧ g = a.block) ∨ (wr.alloc O).heap.size ≤ g) :
    (∀ a, some (⟨g, of, none⟩ : Addr) = some a → w.heap.size ≤ a.block) ∧ Below w.heap.size w w1 := by
  have z := hb.size
  refine ⟨fun a ha => ?_, ?_⟩
  · injection ha with ha
    subst ha
    rcases hat with ⟨a, e1, e2⟩ | h
    · have := hA a e1; show w.heap.size ≤ g; omega
    · simp at h; show w.heap.size ≤ g; omega
  · have m1 : Mod (fun k => w.heap.size ≤ k) w wr := Mod.of_below hb
    have m2 : Mod (fun k => w.heap.size ≤ k) w (wr.alloc O) := m1.alloc O
    exact (m2.then hm (fun i hi ⟨a, e1, e2⟩ => by have := hA a e1; omega)).below _ (Nat.le_refl _) (fun k hk h => by omega)
theorem Tryz.infoU8 : (Tryz.prog.info? 5).map (fun i => (i.zero, i.size, i.bytes)) = some (some (.int .u8 0), 1, 1) := by kernel_rfl
theorem below_at {w a b : World} (h : Below w.heap.size w a) (k : Below a.heap.size a b) : Below w.heap.size w b := h.trans ⟨k.os, k.tape, k.output, k.size, fun i hi => k.block i (by have := h.size; omega)⟩
theorem bytes_take {l : List Ev} {k : Nat} (hk : k < l.length) : Fo.bytes (l.take (k + 1)) = Fo.bytes (l.take k) ++ [Fo.byteU l[k]] := by
  unfold Fo.bytes
  rw [List.take_add_one, List.getElem?_eq_getElem hk, List.map_append]
  rfl
theorem bytes_take_len {l : List Ev} {k : Nat} (hk : k ≤ l.length) : (Fo.bytes (l.take k)).length = k := by unfold Fo.bytes; simp; omega
theorem Row.alloc {w : World} {e sz : Nat} {A : Option Addr} {n cap : Nat} {cs : List Value} (h : Row w e sz A n cap cs) (O : Obj) : Row (w.alloc O) e sz A n cap cs :=
  h.move (fun a ha => by subst ha; exact heap_alloc_old w O h.lt)
def prE (l : List Ev) : List UInt8 := if Fo.rights l = true then Fo.bytes l else []
set_option maxHeartbeats 1000000 in
theorem refByte_any (w : World) (e : Ev) (hr : Fo.right e = true) : Calls Tryz.prog 229 #[valE e] w fun x w' => x = .returned (.int .i64 (Fo.byteI e)) ∧ Below w.heap.size w w' := by
  have hb : ∀ O, Below w.heap.size w (w.alloc O) := fun O => (Below.refl _ _).alloc (Nat.le_refl _) _
  obtain ⟨h1, h2, h3, h4, h5, h6, h7, h8⟩ := Fo.right_spec hr
  have hbi : Fo.byteI e = e.t + 4 * e.k + 32 * e.o + (if e.f then 128 else 0) := rfl
  rw [hbi]
  have w1 : IntKind.i64.wrap (4 * e.k) = 4 * e.k := IntWalk.i64_in _ (by omega)
  have w2 : IntKind.i64.wrap (e.t + 4 * e.k) = e.t + 4 * e.k := IntWalk.i64_in _ (by omega)
  have w3 : IntKind.i64.wrap (32 * e.o) = 32 * e.o := IntWalk.i64_in _ (by omega)
  have w4 : IntKind.i64.wrap (e.t + 4 * e.k + 32 * e.o) = e.t + 4 * e.k + 32 * e.o := IntWalk.i64_in _ (by omega)
  have w5 : IntKind.i64.wrap (e.t + 4 * e.k + 32 * e.o + 128) = e.t + 4 * e.k + 32 * e.o + 128 := IntWalk.i64_in _ (by omega)
  unfold valE
  clear hbi h7 h8
  cases hf : e.f with
  | true =>
    go_enter Tryz.func229, Tryz.ntmps229
    go_wp2
    go_ret
    exact ⟨rfl, hb _⟩
  | false =>
    go_enter Tryz.func229, Tryz.ntmps229
    go_wp2
    go_ret
    exact ⟨by simp, hb _⟩
set_option maxHeartbeats 1000000 in
theorem refPrint_any (w : World) (A : Option Addr) (cap : Nat) (l : List Ev) (hr : Rd w 4 A l.length (l.flatMap encE)) (hl : l.length < 1000000) :
    Calls Tryz.prog 201 #[.slice A l.length cap] w fun x w' => x = .returned (.string ⟨(prE l).toArray⟩) ∧ Below w.heap.size w w' := by
  have HC := Lib.hid (evs_cell hr.toB)
  obtain ⟨i0, hi0, hz0, hz1, hz2⟩ := info_parts Tryz.infoU8
  clear hr
  go_enter Tryz.func201, Tryz.ntmps201
  go_wp2_with fail
  go_loopw [3, 4] (fun v3 v wr => ∃ (k : Nat) (A' : Option Addr) (cap' : Nat), k ≤ l.length ∧ v = .int .i64 k ∧ v3 = .slice A' k cap' ∧ Hid (Fo.rights (l.take k) = true) ∧ Hid (Row wr 5 1 A' k cap' (byteVs (Fo.bytes (l.take k)))) ∧ Hid (∀ a, A' = some a → w.heap.size ≤ a.block) ∧ Below w.heap.size w wr) (fun _ v _ => l.length - (intOf v).toNat)
  case atStart => exact ⟨0, none, 0, Nat.zero_le _, rfl, rfl, Lib.hid rfl, Lib.hid (Row.nil _ _ _), Lib.hid (fun a h => (by cases h)), Below.refl _ _⟩
  case round =>
    obtain ⟨k, A', cap', hk, rfl, rfl, HRT, HRW, HA, hb⟩ := hrel
    by_cases hlt : k < l.length
    · obtain ⟨g, o, rfl, hg, hcl⟩ := HC.out k hlt
      obtain ⟨v0, v1, v2, v3⟩ := hcl wr hb
      have k1 : (0 : Int) ≤ (k : Int) := Int.natCast_nonneg _
      have k2 : (k : Int) < (l.length : Int) := by omega
      have htk := rights_take hlt
      have hrf := rights_false hlt
      have hbt := bytes_take hlt
      have hbl := bytes_take_len hk
      have hcall := refRight_any wr l[k]
      have hbyte : ∀ u, Fo.right l[k] = true → Calls Tryz.prog 229 #[valE l[k]] u fun x w' => x = .returned (.int .i64 (Fo.byteI l[k])) ∧ Below u.heap.size u w' := fun u h => refByte_any u _ h
      have hbu : Fo.right l[k] = true → IntKind.u8.wrap (Fo.byteI l[k]) = ((Fo.byteU l[k]).toNat : Int) := fun h => by
        rw [Fo.byteU_toNat h]
        have := Fo.byteI_lt h
        simp [IntKind.wrap, IntKind.signed, IntKind.bits]; omega
      have hcl2 : ∀ u, Below w.heap.size w u → EvAt u g (o + k * 4) l[k] := hcl
      generalize l[k] = e at *
      obtain ⟨b, hbb⟩ : ∃ b, b = Fo.right e := ⟨_, rfl⟩
      rw [← hbb] at hcall htk hrf hbyte hbu
      generalize Fo.byteI e = bi at *
      generalize Fo.byteU e = bu at *
      unfold valE at hcall hbyte
      have HCALL := Lib.hid hcall
      have HBYTE := Lib.hid hbyte
      have HBU := Lib.hid hbu
      have HTK := Lib.hid htk
      have HRF := Lib.hid hrf
      have HBT := Lib.hid hbt
      have HBL := Lib.hid hbl
      have HB := Lib.hid hb
      have HCL := Lib.hid hcl2
      clear hcall htk hrf hcl hbb hb hbyte hbu hbt hbl hcl2
      go_wp2_with fail
      refine HCALL.out.mono ?_
      rintro x w1 ⟨rfl, b1⟩
      have hb2 : Below w.heap.size w w1 := below_at HB.out b1
      obtain ⟨v0', v1', v2', v3'⟩ := HCL.out w1 hb2
      have hr1 : Row w1 5 1 A' k cap' (byteVs (Fo.bytes (l.take k))) := HRW.out.mod (Mod.of_below_size b1 (fun _ => False)) (fun _ _ h => h)
      have HR1 := Lib.hid hr1
      have HB2 := Lib.hid hb2
      clear b1 hb2 hr1 v0 v1 v2 v3
      cases b with
      | false =>
        go_wp2_with fail
        go_ret
        exact ⟨by unfold prE; rw [HRF.out (by trivial)]; rfl, HB2.out⟩
      | true =>
        go_wp2_with fail
        refine (HBYTE.out w1 (by trivial)).mono ?_
        rintro x w2 ⟨rfl, b2⟩
        have hb3 : Below w.heap.size w w2 := below_at HB2.out b2
        have hr2 : Row w2 5 1 A' k cap' (byteVs (Fo.bytes (l.take k))) := HR1.out.mod (Mod.of_below_size b2 (fun _ => False)) (fun _ _ h => h)
        have HR2 := Lib.hid hr2
        have HB3 := Lib.hid hb3
        have ew := HBU.out (by trivial)
        clear b2 hb3 hr2
        go_wp2_with (at_builtin; refine wpList_append_row (by rfl) _ _ _ (by rfl) 5 i0 _ 1 1 Tryz.underlying43 hi0 hz0 hz1 hz2 rfl (by omega) A' k cap' (byteVs (Fo.bytes (l.take k))) (by rfl) (HR2.out.alloc _) ⟨w2.heap.size, 0, none⟩ 1 1 [.int .u8 bu.toNat] (by rfl) (by rfl) (World.news_of_block (cs := #[.int .u8 bu.toNat]) (t := 5) (fr := (0, 0)) (heap_alloc_new w2 _)) (by simp [Value.oneCell']) (by omega) (by unfold maxLen; omega) (by omega) ?_; intro g1 of1 cap1 w3 hown hm hat; skip)
        obtain ⟨q1, q2⟩ := acc_more HA.out HB3.out hm hat (of := of1)
        have hr3 : Row w3 5 1 (some ⟨g1, of1, none⟩) (k + 1) cap1 (byteVs (Fo.bytes (l.take (k + 1)))) := by
          rw [HBT.out]; unfold byteVs at hown ⊢; rw [List.map_append]; exact hown
        go_roundw
        case rel => exact ⟨k + 1, some ⟨g1, of1, none⟩, cap1, by omega, by go_num, rfl, Lib.hid (by rw [HTK.out, HRT.out]; rfl), Lib.hid hr3, Lib.hid q1, q2⟩
        case measure => simp [intOf]; omega
    · have hkn : k = l.length := by omega
      have hcv := conv_bytes (P := Tryz.prog) HRW.out 43 9 Tryz.underlying43 Tryz.underlying5 Tryz.underlying9
      have HK := Lib.hid hkn
      have HB := Lib.hid hb
      clear hkn hb
      go_wp2_with fail
      go_ret
      have h1 := HRT.out
      rw [HK.out, List.take_length] at h1 ⊢
      exact ⟨by unfold prE; rw [if_pos h1]; rfl, HB.out⟩
end Go.Proofs.YtckdofjpoajblaaGreat
namespace Go.Proofs.YtckdofjpoajblaaGreat
open Go.RowKit
set_option linter.unusedVariables false
theorem byte_wraps {e : Ev} (h : Fo.right e = true) : IntKind.i64.wrap (4 * e.k) = 4 * e.k ∧ IntKind.i64.wrap (e.t + 4 * e.k) = e.t + 4 * e.k ∧ IntKind.i64.wrap (32 * e.o) = 32 * e.o ∧ IntKind.i64.wrap (e.t + 4 * e.k + 32 * e.o) = e.t + 4 * e.k + 32 * e.o ∧ IntKind.i64.wrap (e.t + 4 * e.k + 32 * e.o + 128) = e.t + 4 * e.k + 32 * e.o + 128 ∧
    (e.f = false → IntKind.u8.wrap (e.t + 4 * e.k + 32 * e.o) = ((Fo.byteU e).toNat : Int)) ∧ (e.f = true → IntKind.u8.wrap (e.t + 4 * e.k + 32 * e.o + 128) = ((Fo.byteU e).toNat : Int)) := by
  obtain ⟨h1, h2, h3, h4, h5, h6, h7, h8⟩ := Fo.right_spec h
  have hb := Fo.byteI_lt h
  have hu := Fo.byteU_toNat h
  refine ⟨IntWalk.i64_in _ (by omega), IntWalk.i64_in _ (by omega), IntWalk.i64_in _ (by omega), IntWalk.i64_in _ (by omega), IntWalk.i64_in _ (by omega), fun hf => ?_, fun hf => ?_⟩
  · rw [hu]
    unfold Fo.byteI at hb ⊢
    rw [hf] at hb ⊢
    simp [IntKind.wrap, IntKind.signed, IntKind.bits] at hb ⊢; omega
  · rw [hu]
    unfold Fo.byteI at hb ⊢
    rw [hf] at hb ⊢
    simp [IntKind.wrap, IntKind.signed, IntKind.bits] at hb ⊢; omega
set_option maxRecDepth 100000 in
set_option maxHeartbeats 2000000 in
theorem print_any (w : World) (A : Option Addr) (cap : Nat) (l : List Ev) (hr : Rd w 4 A l.length (l.flatMap encE)) (hl : l.length < 1000000) :
    Calls Tryz.prog 145 #[.slice A l.length cap] w fun x w' => x = .returned (.string ⟨(prE l).toArray⟩) ∧ Below w.heap.size w w' := by
  have HC := Lib.hid (evs_cell hr.toB)
  obtain ⟨i0, hi0, hz0, hz1, hz2⟩ := info_parts Tryz.infoU8
  have hmk := run_make (P := Tryz.prog) w 43 5 i0 (.int .u8 0) Tryz.underlying43 hi0 hz0 .i64 .i64 0 (l.length : Int) (by omega) (by omega) (by rw [hz2]; omega) (by omega)
  simp only [Int.toNat_natCast, Int.toNat_zero] at hmk
  clear hr
  go_enter Tryz.func145, Tryz.ntmps145
  go_upto_region 2 with fail
  obtain ⟨w0, hw0⟩ : ∃ w0, w0 = w.alloc (.cells (madeCells #[.int .u8 0] l.length) 5) := ⟨_, rfl⟩
  obtain ⟨Y, hY⟩ : ∃ Y, Y = w.heap.size := ⟨_, rfl⟩
  have hI : Row w0 5 1 (some ⟨Y, 0, none⟩) 0 l.length [] ∧ w.heap.size ≤ Y ∧ Below w.heap.size w w0 := by
    refine ⟨⟨by simp, Nat.zero_le _, by unfold maxLen; omega, fun h => (by cases h), fun a ha => ?_⟩, by omega, by rw [hw0]; exact (Below.refl _ _).alloc (Nat.le_refl _) _⟩
    injection ha with ha
    subst ha
    have hm : madeCells #[Value.int .u8 0] l.length = (List.replicate l.length (.int .u8 0)).toArray := by
      apply Array.ext'
      rw [toList_madeCells_one]
    exact ⟨rfl, _, by rw [hw0, hY]; exact heap_alloc_new w _, by rw [hm]; simp, by simp⟩
  have HI := Lib.hid hI
  rw [← hw0, ← hY]
  clear hw0 hY hmk hI
  go_wp2_with fail
  go_loopw [3, 12] (fun v3 v wr => ∃ (k : Nat) (A' : Option Addr) (cap' : Nat), k ≤ l.length ∧ v = .int .i64 k ∧ v3 = .slice A' k cap' ∧ Hid (Fo.rights (l.take k) = true) ∧ Hid (Row wr 5 1 A' k cap' (byteVs (Fo.bytes (l.take k)))) ∧ Hid (∀ a, A' = some a → w.heap.size ≤ a.block) ∧ Below w.heap.size w wr) (fun _ v _ => l.length - (intOf v).toNat)
  case atStart => exact ⟨0, some ⟨Y, 0, none⟩, l.length, Nat.zero_le _, rfl, rfl, Lib.hid rfl, Lib.hid HI.out.1, Lib.hid (fun a h => by injection h with h; subst h; exact HI.out.2.1), HI.out.2.2⟩
  case round =>
    clear HI
    obtain ⟨k, A', cap', hk, rfl, rfl, HRT, HRW, HA, hb⟩ := hrel
    by_cases hlt : k < l.length
    · obtain ⟨g, o, rfl, hg, hcl⟩ := HC.out k hlt
      obtain ⟨v0, v1, v2, v3⟩ := hcl wr hb
      have k1 : (0 : Int) ≤ (k : Int) := Int.natCast_nonneg _
      have k2 : (k : Int) < (l.length : Int) := by omega
      have htk := rights_take hlt
      have hrf := rights_false hlt
      have hbt := bytes_take hlt
      have hcall : ∀ u, Calls Tryz.prog 139 #[valE l[k]] u fun x w' => x = .returned (.bool (Fo.right l[k])) ∧ Below u.heap.size u w' := fun u => right_any u _
      have hws : Fo.right l[k] = true → _ := fun h => byte_wraps (e := l[k]) h
      generalize l[k] = e at *
      obtain ⟨b, hbb⟩ : ∃ b, b = Fo.right e := ⟨_, rfl⟩
      rw [← hbb] at htk hrf hws
      have hcall : ∀ u, Calls Tryz.prog 139 #[valE e] u fun x w' => x = .returned (.bool b) ∧ Below u.heap.size u w' := fun u => by rw [hbb]; exact hcall u
      generalize Fo.byteU e = bu at *
      unfold valE at hcall
      have HCALL := Lib.hid hcall
      have HWS := Lib.hid hws
      have HTK := Lib.hid htk
      have HRF := Lib.hid hrf
      have HBT := Lib.hid hbt
      have HB := Lib.hid hb
      clear hcall htk hrf hcl hbb hb hws hbt
      go_upto_region 5 with fail
      obtain ⟨X, hX⟩ : ∃ X, X = wr.heap.size := ⟨_, rfl⟩
      obtain ⟨W1, hW1⟩ : ∃ W1, W1 = wr.alloc (Obj.cells #[.int .i64 e.t, .int .i64 e.k, .int .i64 e.o, .bool e.f] 51) := ⟨_, rfl⟩
      have t1 : Below wr.heap.size wr W1 := by rw [hW1]; exact (Below.refl _ _).alloc (Nat.le_refl _) _
      have hk1 : W1.heap[X]? = some (.cells #[.int .i64 e.t, .int .i64 e.k, .int .i64 e.o, .bool e.f] 51 (0, 0)) := by rw [hW1, hX]; exact heap_alloc_new wr _
      have c0 : W1.cell? ⟨X, 0, none⟩ = some (.int .i64 e.t) := by rw [cell_blk hk1]; rfl
      have c1 : W1.cell? ⟨X, 1, none⟩ = some (.int .i64 e.k) := by rw [cell_blk hk1]; rfl
      have c2 : W1.cell? ⟨X, 2, none⟩ = some (.int .i64 e.o) := by rw [cell_blk hk1]; rfl
      have c3 : W1.cell? ⟨X, 3, none⟩ = some (.bool e.f) := by rw [cell_blk hk1]; rfl
      rw [← hW1, ← hX]
      have HK1 := Lib.hid hk1
      have T1 := Lib.hid t1
      have HX := Lib.hid hX
      clear hW1 hX v0 v1 v2 v3 t1 hk1
      go_wp2_with fail
      refine (HCALL.out W1).mono ?_
      rintro x w1 ⟨rfl, b1⟩
      have hb2 : Below w.heap.size w w1 := below_at (below_at HB.out T1.out) b1
      have hk2 := (b1.block X (blk_lt HK1.out)).trans HK1.out
      have d0 : w1.cell? ⟨X, 0, none⟩ = some (.int .i64 e.t) := by rw [cell_blk hk2]; rfl
      have d1 : w1.cell? ⟨X, 1, none⟩ = some (.int .i64 e.k) := by rw [cell_blk hk2]; rfl
      have d2 : w1.cell? ⟨X, 2, none⟩ = some (.int .i64 e.o) := by rw [cell_blk hk2]; rfl
      have d3 : w1.cell? ⟨X, 3, none⟩ = some (.bool e.f) := by rw [cell_blk hk2]; rfl
      have hr1 : Row w1 5 1 A' k cap' (byteVs (Fo.bytes (l.take k))) := (HRW.out.mod (Mod.of_below_size T1.out (fun _ => False)) (fun _ _ h => h)).mod (Mod.of_below_size b1 (fun _ => False)) (fun _ _ h => h)
      have HR1 := Lib.hid hr1
      have HB2 := Lib.hid hb2
      clear b1 hb2 hr1 c0 c1 c2 c3 hk2
      cases b with
      | false =>
        go_wp2_with fail
        go_ret
        exact ⟨by unfold prE; rw [HRF.out (by trivial)]; rfl, HB2.out⟩
      | true =>
        obtain ⟨e1, e2, e3, e4, e5, e6, e7⟩ := HWS.out (by trivial)
        have E6 := Lib.hid e6
        have E7 := Lib.hid e7
        clear e6 e7
        cases hf : e.f with
        | true =>
          rw [hf] at d3
          have ew := E7.out hf
          go_wp2_with (at_builtin; refine wpList_append_row (by rfl) _ _ _ (by rfl) 5 i0 _ 1 1 Tryz.underlying43 hi0 hz0 hz1 hz2 rfl (by omega) A' k cap' (byteVs (Fo.bytes (l.take k))) (by rfl) (HR1.out.alloc _) ⟨w1.heap.size, 0, none⟩ 1 1 [.int .u8 bu.toNat] (by rfl) (by rfl) (World.news_of_block (cs := #[.int .u8 bu.toNat]) (t := 5) (fr := (0, 0)) (heap_alloc_new w1 _)) (by simp [Value.oneCell']) (by omega) (by unfold maxLen; omega) (by omega) ?_; intro g1 of1 cap1 w3 hown hm hat; skip)
          obtain ⟨q1, q2⟩ := acc_more HA.out HB2.out hm hat (of := of1)
          have hr3 : Row w3 5 1 (some ⟨g1, of1, none⟩) (k + 1) cap1 (byteVs (Fo.bytes (l.take (k + 1)))) := by
            rw [HBT.out]; unfold byteVs at hown ⊢; rw [List.map_append]; exact hown
          go_roundw
          case rel => exact ⟨k + 1, some ⟨g1, of1, none⟩, cap1, by omega, by go_num, rfl, Lib.hid (by rw [HTK.out, HRT.out]; rfl), Lib.hid hr3, Lib.hid q1, q2⟩
          case measure => simp [intOf]; omega
        | false =>
          rw [hf] at d3
          have ew := E6.out hf
          go_wp2_with (at_builtin; refine wpList_append_row (by rfl) _ _ _ (by rfl) 5 i0 _ 1 1 Tryz.underlying43 hi0 hz0 hz1 hz2 rfl (by omega) A' k cap' (byteVs (Fo.bytes (l.take k))) (by rfl) (HR1.out.alloc _) ⟨w1.heap.size, 0, none⟩ 1 1 [.int .u8 bu.toNat] (by rfl) (by rfl) (World.news_of_block (cs := #[.int .u8 bu.toNat]) (t := 5) (fr := (0, 0)) (heap_alloc_new w1 _)) (by simp [Value.oneCell']) (by omega) (by unfold maxLen; omega) (by omega) ?_; intro g1 of1 cap1 w3 hown hm hat; skip)
          obtain ⟨q1, q2⟩ := acc_more HA.out HB2.out hm hat (of := of1)
          have hr3 : Row w3 5 1 (some ⟨g1, of1, none⟩) (k + 1) cap1 (byteVs (Fo.bytes (l.take (k + 1)))) := by
            rw [HBT.out]; unfold byteVs at hown ⊢; rw [List.map_append]; exact hown
          go_roundw
          case rel => exact ⟨k + 1, some ⟨g1, of1, none⟩, cap1, by omega, by go_num, rfl, Lib.hid (by rw [HTK.out, HRT.out]; rfl), Lib.hid hr3, Lib.hid q1, q2⟩
          case measure => simp [intOf]; omega
    · have hkn : k = l.length := by omega
      have hcv := conv_bytes (P := Tryz.prog) HRW.out 43 9 Tryz.underlying43 Tryz.underlying5 Tryz.underlying9
      have HK := Lib.hid hkn
      have HB := Lib.hid hb
      clear hkn hb
      go_wp2_with fail
      go_ret
      have h1 := HRT.out
      rw [HK.out, List.take_length] at h1 ⊢
      exact ⟨by unfold prE; rw [if_pos h1]; rfl, HB.out⟩
end Go.Proofs.YtckdofjpoajblaaGreat
namespace Go.Proofs.YtckdofjpoajblaaGreat
open Go.RowKit
set_option linter.unusedVariables false
theorem Tryz.infoEv : (Tryz.prog.info? 51).map (fun i => (i.zero, i.size, i.bytes)) = some (some (.agg #[.int .i64 0, .int .i64 0, .int .i64 0, .bool false]), 4, 32) := by kernel_rfl
end Go.Proofs.YtckdofjpoajblaaGreat
namespace Go.Proofs.YtckdofjpoajblaaGreat
open Go.RowKit
set_option linter.unusedVariables false
end Go.Proofs.YtckdofjpoajblaaGreat
