/- Rows of texts: what they are; Same. -/
import Derived.Test.YtcaapoacmfjnmaaGreatKyA
import Derived.Test.YtcaapoacmfjnmaaGreatFoS
import Derived.Test.YtcaapoacmfjnmaaGreatFr
namespace Go.Proofs.YtcaapoacmfjnmaaGreat
open Go.RowKit
set_option linter.unusedVariables false

/-- a text -/
def sv (k : List UInt8) : Value := .string ⟨k.toArray⟩
theorem str_cell {w : World} {B : Nat} {A : Option Addr} {ks : List Ky.K} (h : RdB w B 1 A ks.length (ks.map sv)) : ∀ (k : Nat) (s : Ky.K), ks[k]? = some s → ∃ g o, A = some ⟨g, o, none⟩ ∧ g < B ∧ ∀ u, Below B w u → u.cell? ⟨g, o + k, none⟩ = some (.string ⟨s.toArray⟩) := fun k s hs => by
  obtain ⟨hk, rfl⟩ := List.getElem?_eq_some_iff.1 hs
  obtain ⟨g, o, hA, hg, hc⟩ := h.2 (by omega)
  refine ⟨g, o, hA, hg, fun u hu => ?_⟩
  rw [World.cell?_of_block (hu.block g hg), hc k (by omega), List.getElem?_map, List.getElem?_eq_getElem hk]
  rfl
/-- what a function that makes a row of texts leaves -/
def StrOut (w : World) (l : List Ky.K) (x : Ending) (w' : World) : Prop := ∃ A' cap', x = .returned (.slice A' l.length cap') ∧ (Rd w' 1 A' l.length (l.map sv) ∧ l.length ≤ cap' ∧ cap' ≤ maxLen) ∧ Below w.heap.size w w'
/-- two texts: equal or not, in the walk's spelling -/
theorem sv_way (x y : Ky.K) : ∃ bx by_ : ByteArray, (⟨x.toArray⟩ : ByteArray) = bx ∧ (⟨y.toArray⟩ : ByteArray) = by_ ∧ (bx.toList == by_.toList) = decide (x = y) ∧ (x = y → bx = by_) ∧ (x ≠ y → ¬ bx.toList = by_.toList) ∧ Op.bytesLess bx.toList by_.toList = Ky.lt x y ∧ Op.bytesLess by_.toList bx.toList = Ky.lt y x := by
  refine ⟨_, _, rfl, rfl, ?_, fun h => by rw [h], fun h e => h ?_, ?_, ?_⟩
  · rw [ByteArray.toList_eq, ByteArray.toList_eq]
    show (x == y) = _
    by_cases h : x = y
    · subst h; simp
    · rw [decide_eq_false h]; simpa using h
  · rw [ByteArray.toList_eq, ByteArray.toList_eq] at e; exact e
  · rw [ByteArray.toList_eq, ByteArray.toList_eq]
  · rw [ByteArray.toList_eq, ByteArray.toList_eq]

set_option maxRecDepth 100000 in
set_option maxHeartbeats 2000000 in
theorem same6_any (w : World) (A : Option Addr) (cap : Nat) (a : List Ky.K) (B : Option Addr) (cap' : Nat) (b : List Ky.K) (ha : Rd w 1 A a.length (a.map sv)) (hb : Rd w 1 B b.length (b.map sv)) (hl : a.length < 4611686018427387904) :
    Calls Tryz.prog 34 #[.slice A a.length cap, .slice B b.length cap'] w fun x w' => x = .returned (.bool (decide (a = b))) ∧ Below w.heap.size w w' := by
  have HC := Lib.hid (str_cell ha.toB)
  have HD := Lib.hid (str_cell hb.toB)
  clear ha hb
  by_cases hlen : a.length = b.length
  · have hlen' : b.length = a.length := hlen.symm
    rw [hlen']
    have HL := Lib.hid hlen
    clear hlen hlen'
    go_enter Tryz.func34, Tryz.ntmps34
    go_wp2_with fail
    go_loopw [5] (fun v wr => ∃ k : Nat, k ≤ a.length ∧ v = .int .i64 k ∧ Hid (a.take k = b.take k) ∧ Below w.heap.size w wr) (fun v _ => a.length - (intOf v).toNat)
    case atStart => exact ⟨0, Nat.zero_le _, rfl, Lib.hid rfl, Below.refl _ _⟩
    case round =>
      obtain ⟨k, hk, rfl, HRT, hbw⟩ := hrel
      by_cases hlt : k < a.length
      · obtain ⟨x, hx⟩ := get_some hlt
        obtain ⟨y, hy⟩ := get_some (show k < b.length by have := HL.out; omega)
        obtain ⟨g, o, rfl, hg, hcl⟩ := HC.out k x hx
        obtain ⟨g', o', rfl, hg', hcl'⟩ := HD.out k y hy
        have v0 := hcl wr hbw
        have u0 := hcl' wr hbw
        have k1 : (0 : Int) ≤ (k : Int) := Int.natCast_nonneg _
        have k2 : (k : Int) < (a.length : Int) := by omega
        obtain ⟨bx, by_, e1, e2, e3, e4, e5, _, _⟩ := sv_way x y
        rw [e1] at v0
        rw [e2] at u0
        have htk : a.take (k + 1) = a.take k ++ [x] := by rw [List.take_add_one, hx]; rfl
        have htk' : b.take (k + 1) = b.take k ++ [y] := by rw [List.take_add_one, hy]; rfl
        have hne : x ≠ y → a ≠ b := fun h e => by subst e; rw [hx] at hy; exact h (Option.some.inj hy)
        have lg : g < wr.heap.size := by have := hbw.size; omega
        have lg' : g' < wr.heap.size := by have := hbw.size; omega
        have HTK := Lib.hid htk
        have HTK' := Lib.hid htk'
        have HNE := Lib.hid hne
        have HBW := Lib.hid hbw
        clear htk htk' hne hcl hcl' hbw hx hy e1 e2
        by_cases hxy : x = y
        · obtain rfl := e4 hxy
          have HXY := Lib.hid hxy
          clear hxy e3 e4 e5
          go_wp2_with fail
          refine wp_region_plan (by kernel_rfl) (fun u => Mod (fun _ => False) wr u) [] [(0, .pure), (1, .pure), (2, .pure), (3, .load), (4, .pure), (5, .pure), (6, .pure), (7, .load), (8, .pure)] (by simp only [List.map_cons, List.map_nil, List.getElem?_toArray, List.getElem?_cons_succ, List.getElem?_cons_zero]; rfl) (by kernel_rfl) (fun _ _ d _ _ h => by cases d <;> exact h) ((Mod.refl _ _).drew) ?_
          repeat (first
            | (refine plan_pure (v := ?_) (by rfl) (fun w1 => ?_) ?_
               rotate_left
               · go_simp <;> with_reducible rfl
               simp only [Act.put, List.setIfInBounds_toArray, List.set_cons_zero, List.set_cons_succ])
            | (refine plan_off (by rfl) ?_
               simp only [Act.put, List.setIfInBounds_toArray, List.set_cons_zero, List.set_cons_succ])
            | (refine plan_load_off (by rfl) ?_
               simp only [Act.put, List.setIfInBounds_toArray, List.set_cons_zero, List.set_cons_succ])
            | (refine plan_load (v := ?_) (by rfl) (fun w1 hw1 => ?_) ?_
               rotate_left
               · (have q0 := (hw1.cell g (o + k) lg id).trans v0
                  have q1 := (hw1.cell g' (o' + k) lg' id).trans u0
                  clear hw1
                  go_simp <;> with_reducible rfl)
               simp only [Act.put, List.setIfInBounds_toArray, List.set_cons_zero, List.set_cons_succ]))
          refine plan_end ?_
          go_wp2_with fail
          go_roundw
          case rel => exact ⟨k + 1, by omega, by go_num, Lib.hid (by rw [HTK.out, HTK'.out, HRT.out, HXY.out]), HBW.out.trans ⟨rfl, rfl, rfl, Nat.le_refl _, fun _ _ => rfl⟩⟩
          case measure => simp [intOf]; omega
        · have e6 := e5 hxy
          rw [decide_eq_false hxy] at e3
          have HXY := Lib.hid hxy
          clear hxy e4 e5
          go_wp2_with fail
          refine wp_region_plan (by kernel_rfl) (fun u => Mod (fun _ => False) wr u) [] [(0, .pure), (1, .pure), (2, .pure), (3, .load), (4, .pure), (5, .pure), (6, .pure), (7, .load), (8, .pure)] (by simp only [List.map_cons, List.map_nil, List.getElem?_toArray, List.getElem?_cons_succ, List.getElem?_cons_zero]; rfl) (by kernel_rfl) (fun _ _ d _ _ h => by cases d <;> exact h) ((Mod.refl _ _).drew) ?_
          repeat (first
            | (refine plan_pure (v := ?_) (by rfl) (fun w1 => ?_) ?_
               rotate_left
               · go_simp <;> with_reducible rfl
               simp only [Act.put, List.setIfInBounds_toArray, List.set_cons_zero, List.set_cons_succ])
            | (refine plan_off (by rfl) ?_
               simp only [Act.put, List.setIfInBounds_toArray, List.set_cons_zero, List.set_cons_succ])
            | (refine plan_load_off (by rfl) ?_
               simp only [Act.put, List.setIfInBounds_toArray, List.set_cons_zero, List.set_cons_succ])
            | (refine plan_load (v := ?_) (by rfl) (fun w1 hw1 => ?_) ?_
               rotate_left
               · (have q0 := (hw1.cell g (o + k) lg id).trans v0
                  have q1 := (hw1.cell g' (o' + k) lg' id).trans u0
                  clear hw1
                  go_simp <;> with_reducible rfl)
               simp only [Act.put, List.setIfInBounds_toArray, List.set_cons_zero, List.set_cons_succ]))
          refine plan_end ?_
          go_wp2_with fail
          go_ret
          exact ⟨by rw [decide_eq_false (HNE.out HXY.out)]; rfl, HBW.out.trans ⟨rfl, rfl, rfl, Nat.le_refl _, fun _ _ => rfl⟩⟩
      · have hkn : k = a.length := by omega
        have HK := Lib.hid hkn
        have HBW := Lib.hid hbw
        clear hkn hbw
        go_wp2_with fail
        go_ret
        have h1 := HRT.out
        rw [HK.out, List.take_length, HL.out, List.take_length] at h1
        exact ⟨by rw [decide_eq_true h1]; rfl, HBW.out⟩
  · have e1 : ((a.length : Int) == (b.length : Int)) = false := by rw [beq_eq_false_iff_ne]; omega
    have hne : a ≠ b := fun e => hlen (by rw [e])
    have HNE := Lib.hid hne
    clear hlen hne
    go_enter Tryz.func34, Tryz.ntmps34
    go_wp2_with fail
    go_ret
    exact ⟨by rw [decide_eq_false HNE.out]; rfl, Below.refl _ _⟩

end Go.Proofs.YtcaapoacmfjnmaaGreat
/- Rows of texts: insert. -/
namespace Go.Proofs.YtcaapoacmfjnmaaGreat
open Go.RowKit
set_option linter.unusedVariables false

namespace Ky
theorem ins_in {s x : K} : ∀ {l : List K}, (l.any fun y => lt s y) = true → ins s (l ++ [x]) = ins s l ++ [x]
  | [], h => by simp at h
  | y :: l, h => by
    simp only [List.cons_append, ins]
    by_cases hy : lt s y = true
    · rw [if_pos hy, if_pos hy]; rfl
    · rw [if_neg hy, if_neg hy, ins_in (l := l) (by simpa [hy] using h)]; rfl
theorem ins_out {s : K} : ∀ {l : List K}, (l.any fun y => lt s y) = false → ∀ r, ins s (l ++ r) = l ++ ins s r
  | [], _, _ => rfl
  | y :: l, h, r => by
    have h' : lt s y = false ∧ (l.any fun y => lt s y) = false := by simpa using h
    simp only [List.cons_append, ins]
    rw [if_neg (by rw [h'.1]; decide), ins_out h'.2]
def outI (l : List K) (s : K) : List K := if (l.any fun y => lt s y) = true then ins s l else l
end Ky
theorem Tryz.infoStrR : (Tryz.prog.info? 9).map (fun i => (i.zero, i.size, i.bytes)) = some (some (.string ByteArray.empty), 1, 16) := by kernel_rfl

set_option maxRecDepth 100000 in
set_option maxHeartbeats 4000000 in
theorem insert_any (w : World) (A : Option Addr) (cap : Nat) (l : List Ky.K) (s : Ky.K) (hr : Rd w 1 A l.length (l.map sv)) (hcap : l.length ≤ cap) (hcm : cap ≤ maxLen) (hl : l.length ≤ 1000000) :
    Calls Tryz.prog 62 #[.slice A l.length cap, .string ⟨s.toArray⟩] w (StrOut w (Ky.insG l s)) := by
  obtain ⟨i0, hi0, hz0, hz1, hz2⟩ := info_parts Tryz.infoStrR
  have HC := Lib.hid (str_cell hr.toB)
  have HR := Lib.hid hr
  have HCAP := Lib.hid (And.intro hcap hcm)
  obtain ⟨bs, hbs⟩ : ∃ bs : ByteArray, bs = ⟨s.toArray⟩ := ⟨_, rfl⟩
  rw [← hbs]
  have HBS := Lib.hid hbs
  clear hr hcap hcm hbs
  go_enter Tryz.func62, Tryz.ntmps62
  go_wp2_with fail
  go_loopw [5, 6, 7] (fun v5 v6 v7 wr => ∃ (i : Nat) (d : Bool) (ol : List Ky.K) (A' : Option Addr) (cap' : Nat), i ≤ l.length ∧ ol.length ≤ i + 1 ∧ v7 = .int .i64 i ∧ v6 = .bool d ∧ v5 = .slice A' ol.length cap' ∧ Hid (d = (l.take i).any fun y => Ky.lt s y) ∧ Hid (ol = if d = true then Ky.ins s (l.take i) else l.take i) ∧ Hid (s ∉ l.take i) ∧
    Hid (Row wr 9 1 A' ol.length cap' (ol.map sv)) ∧ Hid (∀ a, A' = some a → w.heap.size ≤ a.block) ∧ Hid (Below w.heap.size w wr)) (fun _ _ v _ => l.length - (intOf v).toNat)
  case atStart => exact ⟨0, false, [], none, 0, Nat.zero_le _, Nat.zero_le _, rfl, rfl, rfl, Lib.hid rfl, Lib.hid rfl, Lib.hid (by simp), Lib.hid (Row.nil _ _ _), Lib.hid (fun a h => (by cases h)), Lib.hid (Below.refl _ _)⟩
  case round =>
    obtain ⟨i, d, ol, A', cap', hi, hol, rfl, rfl, rfl, HD, HOL, HNM, HRW, HAT, HB⟩ := hrel
    by_cases hlt : i < l.length
    · obtain ⟨x, hx⟩ := get_some hlt
      obtain ⟨g, o, rfl, hg, hcl⟩ := HC.out i x hx
      have v0 := hcl wr HB.out
      obtain ⟨bx, by_, e1, e2, e3, e4, e5, e6, e7⟩ := sv_way x s
      have e8 : by_ = bs := by rw [← e2, HBS.out]
      subst e8
      rw [e1] at v0
      have htk : l.take (i + 1) = l.take i ++ [x] := by rw [List.take_add_one, hx]; rfl
      have hmem := List.mem_of_getElem? hx
      have HTK := Lib.hid htk
      have HMEM := Lib.hid hmem
      have HE1 := Lib.hid e1
      have HCL := Lib.hid hcl
      have k1 : (0 : Int) ≤ (i : Int) := Int.natCast_nonneg _
      have k2 : (i : Int) < (l.length : Int) := by omega
      have lg : g < wr.heap.size := by have := HB.out.size; omega
      clear hx hcl htk hmem e1 e2
      by_cases hxs : x = s
      · have h9 := e4 hxs
        subst h9
        have HXS := Lib.hid hxs
        clear hxs e3 e4 e5 e6 e7
        go_wp2_with fail
        go_ret
        have hin : Ky.insG l s = l := by unfold Ky.insG; rw [if_pos (HXS.out ▸ HMEM.out)]
        rw [hin]
        exact ⟨_, cap, rfl, ⟨HR.out.below HB.out (Nat.le_refl _), HCAP.out⟩, HB.out⟩
      · have h9 := e5 hxs
        rw [decide_eq_false hxs] at e3
        have HXS := Lib.hid hxs
        have hnm : s ∉ l.take (i + 1) := fun hm => by
          rw [HTK.out] at hm
          rcases List.mem_append.1 hm with h | h
          · exact HNM.out h
          · rw [List.mem_singleton] at h; exact HXS.out h.symm
        have HNM2 := Lib.hid hnm
        have hdn : ((l.take (i + 1)).any fun y => Ky.lt s y) = (((l.take i).any fun y => Ky.lt s y) || Ky.lt s x) := by rw [HTK.out, List.any_append]; simp
        have HDN := Lib.hid hdn
        clear hxs e4 e5 hnm hdn e6
        have hway : d = true ∨ (d = false ∧ Ky.lt s x = true) ∨ (d = false ∧ Ky.lt s x = false) := by cases d <;> cases Ky.lt s x <;> simp
        rcases hway with rfl | ⟨rfl, hlx⟩ | ⟨rfl, hlx⟩
        · clear e7
          go_wp2_with (at_builtin; refine wpList_append_row (by rfl) _ _ _ (by rfl) 9 i0 _ 1 16 Tryz.underlying44 hi0 hz0 hz1 hz2 rfl (by omega) A' ol.length cap' (ol.map sv) (by rfl) (HRW.out.alloc _) ⟨wr.heap.size, 0, none⟩ 1 1 [.string bx] (by rfl) (by rfl) (World.news_of_block (cs := #[.string bx]) (t := 9) (fr := (0, 0)) (heap_alloc_new wr _)) (by simp [Value.oneCell']) (by omega) (by unfold maxLen; omega) (by omega) ?_; intro g1 of1 cap1 w3 hown hm hat; skip)
          obtain ⟨q1, q2⟩ := acc_more HAT.out HB.out hm hat (of := of1)
          have hz : (ol ++ [x]).length = ol.length + 1 := by rw [List.length_append]; rfl
          have hr3 : Row w3 9 1 (some ⟨g1, of1, none⟩) (ol ++ [x]).length cap1 ((ol ++ [x]).map sv) := by
            rw [hz, List.map_append]; simpa [sv, HE1.out] using hown
          have HZ := Lib.hid hz
          have hd := HD.out
          clear hz
          go_roundw
          case rel => exact ⟨i + 1, true, ol ++ [x], some ⟨g1, of1, none⟩, cap1, by omega, by rw [HZ.out]; omega, by go_num, rfl, by rw [HZ.out], Lib.hid (by rw [HDN.out, ← hd]; rfl), Lib.hid (by rw [if_pos rfl, HTK.out, Ky.ins_in hd.symm, HOL.out, if_pos rfl]), HNM2, Lib.hid hr3, Lib.hid q1, Lib.hid q2⟩
          case measure => simp [intOf]; omega
        · rw [hlx] at e7
          have HLX := Lib.hid hlx
          clear hlx
          go_upto_region 10 with (at_builtin; refine wpList_append_row (by rfl) _ _ _ (by rfl) 9 i0 _ 1 16 Tryz.underlying44 hi0 hz0 hz1 hz2 rfl (by omega) A' ol.length cap' (ol.map sv) (by rfl) (HRW.out.alloc _) ⟨wr.heap.size, 0, none⟩ 1 1 [.string by_] (by rfl) (by rfl) (World.news_of_block (cs := #[.string by_]) (t := 9) (fr := (0, 0)) (heap_alloc_new wr _)) (by simp [Value.oneCell']) (by omega) (by unfold maxLen; omega) (by omega) ?_; intro g1 of1 cap1 w3 hown hm hat; skip)
          obtain ⟨q1, q2⟩ := acc_more HAT.out HB.out hm hat (of := of1)
          have hz : (ol ++ [s]).length = ol.length + 1 := by rw [List.length_append]; rfl
          have hr3 : Row w3 9 1 (some ⟨g1, of1, none⟩) (ol.length + 1) cap1 ((ol ++ [s]).map sv) := by
            rw [List.map_append]; simpa [sv, HBS.out] using hown
          have HR3 := Lib.hid hr3
          have HAT3 := Lib.hid q1
          have HB3 := Lib.hid q2
          have HZ := Lib.hid hz
          have v3 := HCL.out w3 q2
          rw [HE1.out] at v3
          have lg3 : g < w3.heap.size := by have := q2.size; omega
          have hd := HD.out
          have HD2 := Lib.hid hd
          clear hz hown hm hat q1 q2 hr3 v0 lg hd
          go_wp2_with (at_builtin; refine wpList_append_row (by rfl) _ _ _ (by rfl) 9 i0 _ 1 16 Tryz.underlying44 hi0 hz0 hz1 hz2 rfl (by omega) (some ⟨g1, of1, none⟩) (ol.length + 1) cap1 ((ol ++ [s]).map sv) (by rfl) (HR3.out.alloc _) ⟨w3.heap.size, 0, none⟩ 1 1 [.string bx] (by rfl) (by rfl) (World.news_of_block (cs := #[.string bx]) (t := 9) (fr := (0, 0)) (heap_alloc_new w3 _)) (by simp [Value.oneCell']) (by omega) (by unfold maxLen; omega) (by omega) ?_; intro g4 of4 cap4 w4 hown hm hat; skip)
          obtain ⟨q1, q2⟩ := acc_more HAT3.out HB3.out hm hat (of := of4)
          have hz : (ol ++ [s, x]).length = ol.length + 1 + 1 := by rw [List.length_append]; rfl
          have hr4 : Row w4 9 1 (some ⟨g4, of4, none⟩) (ol ++ [s, x]).length cap4 ((ol ++ [s, x]).map sv) := by
            rw [hz, List.map_append]; simpa [sv, HE1.out, HBS.out] using hown
          have hol : ol.length = i := by rw [HOL.out, if_neg (by decide), List.length_take]; omega
          have HZ4 := Lib.hid hz
          clear hz
          go_roundw
          case rel => exact ⟨i + 1, true, ol ++ [s, x], some ⟨g4, of4, none⟩, cap4, by omega, by rw [HZ4.out]; omega, by go_num, rfl, by rw [HZ4.out], Lib.hid (by rw [HDN.out, HLX.out]; simp), Lib.hid (by rw [if_pos rfl, HTK.out, Ky.ins_out HD2.out.symm, HOL.out, if_neg (by decide)]; simp [Ky.ins, HLX.out]), HNM2, Lib.hid hr4, Lib.hid q1, Lib.hid q2⟩
          case measure => simp [intOf]; omega
        · rw [hlx] at e7
          have HLX := Lib.hid hlx
          clear hlx
          go_wp2_with (at_builtin; refine wpList_append_row (by rfl) _ _ _ (by rfl) 9 i0 _ 1 16 Tryz.underlying44 hi0 hz0 hz1 hz2 rfl (by omega) A' ol.length cap' (ol.map sv) (by rfl) (HRW.out.alloc _) ⟨wr.heap.size, 0, none⟩ 1 1 [.string bx] (by rfl) (by rfl) (World.news_of_block (cs := #[.string bx]) (t := 9) (fr := (0, 0)) (heap_alloc_new wr _)) (by simp [Value.oneCell']) (by omega) (by unfold maxLen; omega) (by omega) ?_; intro g1 of1 cap1 w3 hown hm hat; skip)
          obtain ⟨q1, q2⟩ := acc_more HAT.out HB.out hm hat (of := of1)
          have hz : (ol ++ [x]).length = ol.length + 1 := by rw [List.length_append]; rfl
          have hr3 : Row w3 9 1 (some ⟨g1, of1, none⟩) (ol ++ [x]).length cap1 ((ol ++ [x]).map sv) := by
            rw [hz, List.map_append]; simpa [sv, HE1.out] using hown
          have HZ := Lib.hid hz
          have hd := HD.out
          clear hz
          go_roundw
          case rel => exact ⟨i + 1, false, ol ++ [x], some ⟨g1, of1, none⟩, cap1, by omega, by rw [HZ.out]; omega, by go_num, rfl, by rw [HZ.out], Lib.hid (by rw [HDN.out, ← hd, HLX.out]; rfl), Lib.hid (by rw [if_neg (by decide), HTK.out, HOL.out, if_neg (by decide)]), HNM2, Lib.hid hr3, Lib.hid q1, Lib.hid q2⟩
          case measure => simp [intOf]; omega
    · have hall : l.take i = l := List.take_of_length_le (by omega)
      have hd := HD.out
      have ho := HOL.out
      have hn := HNM.out
      rw [hall] at hd ho hn
      have hg : Ky.insG l s = Ky.ins s l := by unfold Ky.insG; rw [if_neg hn]
      have HGG := Lib.hid hg
      have HO := Lib.hid ho
      have HDD := Lib.hid hd
      clear hd ho hn hg hall HD HOL HNM
      cases d with
      | true =>
        go_wp2_with fail
        go_ret
        have ho : ol = Ky.ins s l := by have := HO.out; simpa using this
        rw [HGG.out]
        exact ⟨A', cap', by rw [← ho]; rfl, by rw [← ho]; exact ⟨HRW.out.rd, HRW.out.2.1, HRW.out.2.2.1⟩, HB.out⟩
      | false =>
        go_wp2_with (at_builtin; refine wpList_append_row (by rfl) _ _ _ (by rfl) 9 i0 _ 1 16 Tryz.underlying44 hi0 hz0 hz1 hz2 rfl (by omega) A' ol.length cap' (ol.map sv) (by rfl) (HRW.out.alloc _) ⟨wr.heap.size, 0, none⟩ 1 1 [.string bs] (by rfl) (by rfl) (World.news_of_block (cs := #[.string bs]) (t := 9) (fr := (0, 0)) (heap_alloc_new wr _)) (by simp [Value.oneCell']) (by omega) (by unfold maxLen; omega) (by omega) ?_; intro g1 of1 cap1 w3 hown hm hat; skip)
        obtain ⟨q1, q2⟩ := acc_more HAT.out HB.out hm hat (of := of1)
        have hz : (ol ++ [s]).length = ol.length + 1 := by rw [List.length_append]; rfl
        have hr3 : Row w3 9 1 (some ⟨g1, of1, none⟩) (ol.length + 1) cap1 ((ol ++ [s]).map sv) := by
          rw [List.map_append]; simpa [sv, HBS.out] using hown
        have ho : ol = l := by have := HO.out; simpa using this
        have hins : Ky.ins s l = ol ++ [s] := by
          have := Ky.ins_out HDD.out.symm []
          rw [List.append_nil] at this
          rw [this, ← ho]; rfl
        have HINS := Lib.hid hins
        have HR3 := Lib.hid hr3
        have HB3 := Lib.hid q2
        have HZ := Lib.hid hz
        clear hown hm hat q1 q2 hr3 ho hins hz
        go_ret
        rw [HGG.out]
        exact ⟨_, cap1, by rw [HINS.out, HZ.out]; rfl, by rw [HINS.out, HZ.out]; exact ⟨HR3.out.rd, HR3.out.2.1, HR3.out.2.2.1⟩, HB3.out⟩
end Go.Proofs.YtcaapoacmfjnmaaGreat
