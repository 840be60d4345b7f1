/- Rows of texts: what they are; Same. -/
import Derived.Test.YtcaapoacmfjnmaaGreatKyA
import Derived.Test.YtcaapoacmfjnmaaGreatFoS
import Derived.Test.YtcaapoacmfjnmaaGreatFr
namespace Go.Proofs.YtcaapoacmfjnmaaGreat
open Go.RowKit
set_option linter.unusedVariables false

/-- a text -/
def sv (k : List UInt8) : Value := .string ⟨k.toArray⟩
theorem str_cell {w : World} {B : Nat} {A : Option Addr} {ks : List Ky.K} (h : RdB w B 1 A ks.length (ks.map sv)) : ∀ (k : Nat) (s : Ky.K), ks[k]? = some s → ∃ g o, A = some ⟨g, o, none⟩ ∧ g < B ∧ ∀ u, Below B w u → u.cell? ⟨g, o + k, none⟩ = some (.string ⟨s.toArray⟩) := fun k s hs => by
  obtain ⟨hk, rfl⟩ := List.getElem?_eq_some_iff.1 hs
  obtain ⟨g, o, hA, hg, hc⟩ := h.2 (by omega)
  refine ⟨g, o, hA, hg, fun u hu => ?_⟩
  rw [World.cell?_of_block (hu.block g hg), hc k (by omega), List.getElem?_map, List.getElem?_eq_getElem hk]
  rfl
/-- what a function that makes a row of texts leaves -/
def StrOut (w : World) (l : List Ky.K) (x : Ending) (w' : World) : Prop := ∃ A' cap', x = .returned (.slice A' l.length cap') ∧ (Rd w' 1 A' l.length (l.map sv) ∧ l.length ≤ cap' ∧ cap' ≤ maxLen) ∧ Below w.heap.size w w'
/-- two texts: equal or not, in the walk's spelling -/
theorem sv_way (x y : Ky.K) : ∃ bx by_ : ByteArray, (⟨x.toArray⟩ : ByteArray) = bx ∧ (⟨y.toArray⟩ : ByteArray) = by_ ∧ (bx.toList == by_.toList) = decide (x = y) ∧ (x = y → bx = by_) ∧ (x ≠ y → ¬ bx.toList = by_.toList) ∧ Op.bytesLess bx.toList by_.toList = Ky.lt x y ∧ Op.bytesLess by_.toList bx.toList = Ky.lt y x := by
  refine ⟨_, _, rfl, rfl, ?_, fun h => by rw [h], fun h e => h ?_, ?_, ?_⟩
  · rw [ByteArray.toList_eq, ByteArray.toList_eq]
    show (x == y) = _
    by_cases h : x = y
    · subst h; simp
    · rw [decide_eq_false h]; simpa using h
  · rw [ByteArray.toList_eq, ByteArray.toList_eq] at e; exact e
  · rw [ByteArray.toList_eq, ByteArray.toList_eq]
  · rw [ByteArray.toList_eq, ByteArray.toList_eq]

set_option maxRecDepth 100000 in
set_option maxHeartbeats 2000000 in
theorem same6_any (w : World) (A : Option Addr) (cap : Nat) (a : List Ky.K) (B : Option Addr) (cap' : Nat) (b : List Ky.K) (ha : Rd w 1 A a.length (a.map sv)) (hb : Rd w 1 B b.length (b.map sv)) (hl : a.length < 4611686018427387904) :
    Calls Tryz.prog 34 #[.slice A a.length cap, .slice B b.length cap'] w fun x w' => x = .returned (.bool (decide (a = b))) ∧ Below w.heap.size w w' := by
  have HC := Lib.hid (str_cell ha.toB)
  have HD := Lib.hid (str_cell hb.toB)
  clear ha hb
  by_cases hlen : a.length = b.length
  · have hlen' : b.length = a.length := hlen.symm
    rw [hlen']
    have HL := Lib.hid hlen
    clear hlen hlen'
    go_enter Tryz.func34, Tryz.ntmps34
    go_wp2_with fail
    go_loopw [5] (fun v wr => ∃ k : Nat, k ≤ a.length ∧ v = .int .i64 k ∧ Hid (a.take k = b.take k) ∧ Below w.heap.size w wr) (fun v _ => a.length - (intOf v).toNat)
    case atStart => exact ⟨0, Nat.zero_le _, rfl, Lib.hid rfl, Below.refl _ _⟩
    case round =>
      obtain ⟨k, hk, rfl, HRT, hbw⟩ := hrel
      by_cases hlt : k < a.length
      · obtain ⟨x, hx⟩ := get_some hlt
        obtain ⟨y, hy⟩ := get_some (show k < b.length by have := HL.out; omega)
        obtain ⟨g, o, rfl, hg, hcl⟩ := HC.out k x hx
        obtain ⟨g', o', rfl, hg', hcl'⟩ := HD.out k y hy
        have v0 := hcl wr hbw
        have u0 := hcl' wr hbw
        have k1 : (0 : Int) ≤ (k : Int) := Int.natCast_nonneg _
        have k2 : (k : Int) < (a.length : Int) := by omega
        obtain ⟨bx, by_, e1, e2, e3, e4, e5, _, _⟩ := sv_way x y
        rw [e1] at v0
        rw [e2] at u0
        have htk : a.take (k + 1) = a.take k ++ [x] := by rw [List.take_add_one, hx]; rfl
        have htk' : b.take (k + 1) = b.take k ++ [y] := by rw [List.take_add_one, hy]; rfl
        have hne : x ≠ y → a ≠ b := fun h e => by subst e; rw [hx] at hy; exact h (Option.some.inj hy)
        have lg : g < wr.heap.size := by have := hbw.size; omega
        have lg' : g' < wr.heap.size := by have := hbw.size; omega
        have HTK := Lib.hid htk
        have HTK' := Lib.hid htk'
        have HNE := Lib.hid hne
        have HBW := Lib.hid hbw
        clear htk htk' hne hcl hcl' hbw hx hy e1 e2
        by_cases hxy : x = y
        · obtain rfl := e4 hxy
          have HXY := Lib.hid hxy
          clear hxy e3 e4 e5
          go_wp2_with fail
          refine wp_region_plan (by kernel_rfl) (fun u => Mod (fun _ => False) wr u) [] [(0, .pure), (1, .pure), (2, .pure), (3, .load), (4, .pure), (5, .pure), (6, .pure), (7, .load), (8, .pure)] (by simp only [List.map_cons, List.map_nil, List.getElem?_toArray, List.getElem?_cons_succ, List.getElem?_cons_zero]; rfl) (by kernel_rfl) (fun _ _ d _ _ h => by cases d <;> exact h) ((Mod.refl _ _).drew) ?_
          repeat (first
            | (refine plan_pure (v := ?_) (by rfl) (fun w1 => ?_) ?_
               rotate_left
               · go_simp <;> with_reducible rfl
               simp only [Act.put, List.setIfInBounds_toArray, List.set_cons_zero, List.set_cons_succ])
            | (refine plan_off (by rfl) ?_
               simp only [Act.put, List.setIfInBounds_toArray, List.set_cons_zero, List.set_cons_succ])
            | (refine plan_load_off (by rfl) ?_
               simp only [Act.put, List.setIfInBounds_toArray, List.set_cons_zero, List.set_cons_succ])
            | (refine plan_load (v := ?_) (by rfl) (fun w1 hw1 => ?_) ?_
               rotate_left
               · (have q0 := (hw1.cell g (o + k) lg id).trans v0
                  have q1 := (hw1.cell g' (o' + k) lg' id).trans u0
                  clear hw1
                  go_simp <;> with_reducible rfl)
               simp only [Act.put, List.setIfInBounds_toArray, List.set_cons_zero, List.set_cons_succ]))
          refine plan_end ?_
          go_wp2_with fail
          go_roundw
          case rel => exact ⟨k + 1, by omega, by go_num, Lib.hid (by rw [HTK.out, HTK'.out, HRT.out, HXY.out]), HBW.out.trans ⟨rfl, rfl, rfl, Nat.le_refl _, fun _ _ => rfl⟩⟩
          case measure => simp [intOf]; omega
        · have e6 := e5 hxy
          rw [decide_eq_false hxy] at e3
          have HXY := Lib.hid hxy
          clear hxy e4 e5
          go_wp2_with fail
          refine wp_region_plan (by kernel_rfl) (fun u => Mod (fun _ => False) wr u) [] [(0, .pure), (1, .pure), (2, .pure), (3, .load), (4, .pure), (5, .pure), (6, .pure), (7, .load), (8, .pure)] (by simp only [List.map_cons, List.map_nil, List.getElem?_toArray, List.getElem?_cons_succ, List.getElem?_cons_zero]; rfl) (by kernel_rfl) (fun _ _ d _ _ h => by cases d <;> exact h) ((Mod.refl _ _).drew) ?_
          repeat (first
            | (refine plan_pure (v := ?_) (by rfl) (fun w1 => ?_) ?_
               rotate_left
               · go_simp <;> with_reducible rfl
               simp only [Act.put, List.setIfInBounds_toArray, List.set_cons_zero, List.set_cons_succ])
            | (refine plan_off (by rfl) ?_
               simp only [Act.put, List.setIfInBounds_toArray, List.set_cons_zero, List.set_cons_succ])
            | (refine plan_load_off (by rfl) ?_
               simp only [Act.put, List.setIfInBounds_toArray, List.set_cons_zero, List.set_cons_succ])
            | (refine plan_load (v := ?_) (by rfl) (fun w1 hw1 => ?_) ?_
               rotate_left
               · (have q0 := (hw1.cell g (o + k) lg id).trans v0
                  have q1 := (hw1.cell g' (o' + k) lg' id).trans u0
                  clear hw1
                  go_simp <;> with_reducible rfl)
               simp only [Act.put, List.setIfInBounds_toArray, List.set_cons_zero, List.set_cons_succ]))
          refine plan_end ?_
          go_wp2_with fail
          go_ret
          exact ⟨by rw [decide_eq_false (HNE.out HXY.out)]; rfl, HBW.out.trans ⟨rfl, rfl, rfl, Nat.le_refl _, fun _ _ => rfl⟩⟩
      · have hkn : k = a.length := by omega
        have HK := Lib.hid hkn
        have HBW := Lib.hid hbw
        clear hkn hbw
        go_wp2_with fail
        go_ret
        have h1 := HRT.out
        rw [HK.out, List.take_length, HL.out, List.take_length] at h1
        exact ⟨by rw [decide_eq_true h1]; rfl, HBW.out⟩
  · have e1 : ((a.length : Int) == (b.length : Int)) = false := by rw [beq_eq_false_iff_ne]; omega
    have hne : a ≠ b := fun e => hlen (by rw [e])
    have HNE := Lib.hid hne
    clear hlen hne
    go_enter Tryz.func34, Tryz.ntmps34
    go_wp2_with fail
    go_ret
    exact ⟨by rw [decide_eq_false HNE.out]; rfl, Below.refl _ _⟩

end Go.Proofs.YtcaapoacmfjnmaaGreat
