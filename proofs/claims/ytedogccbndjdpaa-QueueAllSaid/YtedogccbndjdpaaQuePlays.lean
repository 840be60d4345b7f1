/- QueuePlays. -/
import Derived.Test.YtedogccbndjdpaaQueG
import Derived.Deep.CutBlock
import Derived.IntWalk
namespace Go.Proofs.Ytedogccbndjdpaa
open Go.RowKit
set_option linter.unusedVariables false

/-- a call: kind, prefix -/
abbrev QOp := Int × ByteArray
def encQ (x : QOp) : List Value := [.int .i64 x.1, .string x.2]

theorem qop_tail {base : Nat} {W a b : World} (h : Below base W a) (k : Below a.heap.size a b) (hz : base ≤ a.heap.size) : Below base W b :=
  ⟨k.os.trans h.os, k.tape.trans h.tape, k.output.trans h.output, Nat.le_trans h.size k.size, fun i hi => (k.block i (by omega)).trans (h.block i hi)⟩

/-- the queue, and the document's sorted row -/
def QInv (base : Nat) (W : World) (Q k : Nat) (v : Value) (wr : World) : Prop :=
  ∃ (A : Option Addr) (cap : Nat) (l : List ByteArray) (F : Nat → Prop), v = .slice A l.length cap ∧ Row wr 9 1 A l.length cap (l.map .string) ∧ Que wr F Q l ∧ (∀ q, F q → base ≤ q ∧ q < wr.heap.size) ∧ (∀ a, A = some a → ¬ F a.block) ∧ Below base W wr ∧ l.length ≤ k

set_option maxRecDepth 100000 in
set_option maxHeartbeats 2000000 in
theorem queuePlays_any (W : World) (A0 : Option Addr) (cap0 : Nat) (ops : List QOp) (hr : Rd W 2 A0 ops.length (ops.flatMap encQ)) (hmax : ops.length ≤ maxLen) (hO : ∀ x ∈ ops, -9223372036854775808 ≤ x.1 ∧ x.1 ≤ 9223372036854775807) :
    Calls Try.prog 6 #[.slice A0 ops.length cap0] W fun e w' => e = .returned (.bool true) ∧ Below W.heap.size W w' := by
  have HR := Lib.hid hr
  have HO := Lib.hid hO
  clear hr hO
  by_cases hbig : 300 < ops.length
  · have hmx : ops.length < 9223372036854775808 := by unfold maxLen at hmax; omega
    go_enter Try.func6, Try.ntmps6
    go_wp2_with fail
    refine (awake11 _).mono ?_
    rintro e w1 ⟨rfl, b1⟩
    go_wp2_with fail
    refine (awake11 _).mono ?_
    rintro e w2 ⟨rfl, b2⟩
    go_wp2_with fail
    go_ret
    exact ⟨rfl, below_tr b1 b2⟩
  obtain ⟨base, hbase⟩ : ∃ base, base = W.heap.size := ⟨_, rfl⟩
  rw [← hbase]
  have hWb : base ≤ W.heap.size := by omega
  have hsmall : ops.length ≤ 300 := by omega
  go_enter Try.func6, Try.ntmps6
  go_wp2_with fail
  refine (awake11 _).mono ?_
  rintro e w1 ⟨rfl, b1⟩
  have z1 : base ≤ w1.heap.size := by have := b1.size; omega
  rw [← hbase] at b1
  go_wp2_with fail
  refine (que_new _).mono ?_
  rintro e w2 ⟨Q, rfl, hq, b2⟩
  have b3 := qop_tail b1 b2 z1
  have hI : QInv base W Q 0 (.slice none 0 0) w2 := ⟨none, 0, [], _, rfl, Row.nil _ _ _, hq.foot (G := fun k => w1.heap.size ≤ k ∧ k < w2.heap.size) (fun k h1 h2 => ⟨h1, h2⟩), fun q h => ⟨by omega, h.2⟩, fun a h => (by cases h), b3, Nat.le_refl _⟩
  have HI := Lib.hid hI
  have HBASE := Lib.hid hbase
  clear hq b1 b2 b3 z1 hbase hbig hI
  go_wp2_with fail
  go_loopw [4, 22] (fun v i wr => ∃ k : Nat, k ≤ ops.length ∧ i = .int .i64 k ∧ Hid (QInv base W Q k v wr)) (fun _ i _ => ops.length - (intOf i).toNat)
  case atStart => exact ⟨0, Nat.zero_le _, rfl, HI⟩
  case round =>
    clear HI
    obtain ⟨k, hk, rfl, HM⟩ := hrel
    obtain ⟨A, cap, l, F, rfl, hrow, hQ, hF, hA, hbel, hlk⟩ := HM.out
    have HROW := Lib.hid hrow
    have HQ := Lib.hid hQ
    have HF := Lib.hid hF
    have HA := Lib.hid hA
    have HBEL := Lib.hid hbel
    clear hrow hQ hF hA hbel HM
    by_cases hlt : k < ops.length
    · obtain ⟨g0, o0, rfl, hg0, hc0⟩ := HR.out.2 (by omega)
      obtain ⟨kd, s, hop⟩ : ∃ kd s, ops[k] = (kd, s) := ⟨_, _, rfl⟩
      have hbd := HO.out _ (List.getElem_mem hlt)
      have hcl : ∀ r, r < 2 → wr.cell? ⟨g0, o0 + k * 2 + r, none⟩ = (encQ (kd, s))[r]? := fun r hr => by
        rw [Nat.add_assoc, World.cell?_of_block (HBEL.out.block g0 (by have := hg0; have := HBASE.out; omega)), hc0 (k * 2 + r) (by omega), flat_get (f := encQ) (sz := 2) (fun _ => rfl) ops k r hlt hr, hop]
      have v0 := hcl 0 (by omega)
      have v1 := hcl 1 (by omega)
      simp only [encQ, List.getElem?_cons_succ, List.getElem?_cons_zero, Nat.add_zero] at v0 v1
      rw [hop] at hbd
      clear hc0 hcl hop
      go_upto_region 8 with fail
      obtain ⟨X, hX⟩ : ∃ X, X = wr.heap.size := ⟨_, rfl⟩
      obtain ⟨W1, hW1⟩ : ∃ W1, W1 = wr.alloc (Obj.cells #[.int .i64 kd, .string s] 52) := ⟨_, rfl⟩
      have t1 : Below wr.heap.size wr W1 := by rw [hW1]; exact (Below.refl _ _).alloc (Nat.le_refl _) _
      have hk1 : W1.heap[X]? = some (.cells #[.int .i64 kd, .string s] 52 (0, 0)) := by rw [hW1, hX]; exact heap_alloc_new wr _
      have lX : X < W1.heap.size := blk_lt hk1
      have c0 : W1.cell? ⟨X, 0, none⟩ = some (.int .i64 kd) := by rw [cell_blk hk1]; rfl
      have c1 : W1.cell? ⟨X, 1, none⟩ = some (.string s) := by rw [cell_blk hk1]; rfl
      have HX := Lib.hid hX
      have HK1 := Lib.hid hk1
      rw [← hW1, ← hX]
      clear hW1 hX hk1 v0 v1
      have T1 := Lib.hid t1
      clear t1
      by_cases hsz : 100 < s.size
      · go_wp2
        go_ret
        exact ⟨rfl, qop_tail HBEL.out T1.out (by have := HBEL.out.size; omega)⟩
      · go_upto_block 2 with fail
        obtain ⟨b, hb⟩ : ∃ b, b = decide (0 < l.length) := ⟨_, rfl⟩
        rw [← hb]
        have HBB := Lib.hid hb
        clear hb
        go_cut [4, 7, 9, 10] (fun v4 v7 v9 v10 w2 => Hid (QInv base W Q (k + 1) v4 w2) ∧ (∃ x, v7 = .string x ∧ v9 = .string x) ∧ v10 = .bool b)
        case first =>
          have hQ1 : Que W1 F Q l := HQ.out.below T1.out
          have HQ1 := Lib.hid hQ1
          have hbel1 : Below base W W1 := qop_tail HBEL.out T1.out (by have := HBEL.out.size; omega)
          have HBEL1 := Lib.hid hbel1
          have hrow1 : Row W1 9 1 A l.length cap (l.map .string) := HROW.out.mod (Mod.of_below_size T1.out (fun _ => False)) (fun _ _ h => h)
          have HROW1 := Lib.hid hrow1
          have zz := T1.out.size
          have zb := HBEL.out.size
          have hXF : ¬ F X := fun h => by have := (HF.out X h).2; have := HX.out; omega
          clear hQ1 hbel1 hrow1
          by_cases hkd : kd = 1
          · have e1 : (kd == 1) = true := by simpa using hkd
            have HKD := Lib.hid hkd
            clear hkd
            go_wp2_with fail
            refine (que_push W1 F Q l HQ1.out s (by omega)).mono ?_
            rintro e w2 ⟨rfl, hq2, hm2⟩
            have hk2 := (hm2.block X lX hXF).trans HK1.out
            have d1 : w2.cell? ⟨X, 1, none⟩ = some (.string s) := by rw [cell_blk hk2]; rfl
            have hrow2 : Row w2 9 1 A l.length cap (l.map .string) := HROW1.out.mod hm2 (fun a ha => HA.out a ha)
            have HROW2 := Lib.hid hrow2
            have HQ2 := Lib.hid hq2
            have HM2 := Lib.hid hm2
            clear hk2 hrow2 hq2 hm2
            go_wp2_with fail
            refine (put_any w2 A cap l s HROW2.out.rd (by omega)).mono ?_
            rintro e w3 ⟨A3, cap3, rfl, hr3, ha3, hb3⟩
            have HR3 := Lib.hid hr3
            have HA3 := Lib.hid ha3
            have HB3 := Lib.hid hb3
            clear hr3 ha3 hb3
            go_wp2_with fail
            go_meet
            have y2 := HM2.out.size
            have y3 := HB3.out.size
            refine ⟨Lib.hid ⟨A3, cap3, Hp.putF ahead l s, fun q => (F q ∨ W1.heap.size ≤ q) ∧ q < w2.heap.size, rfl, HR3.out, (HQ2.out.foot (fun q h1 h2 => ⟨h1, h2⟩)).below HB3.out, fun q h => ⟨?_, by omega⟩, fun a ha h => by have := HA3.out a ha; omega, ?_, by rw [Hp.putF_len]; omega⟩, ⟨_, rfl, rfl⟩, rfl⟩
            · rcases h.1 with h4 | h4
              · exact (HF.out q h4).1
              · omega
            · exact qop_tail (HBEL1.out.trans (HM2.out.below base (by omega) (fun q hq h => by have := (HF.out q h).1; omega))) HB3.out (by omega)
          · have e1 : (kd == 1) = false := by simpa using hkd
            have stay : ∀ v, Below W1.heap.size W1 v → QInv base W Q (k + 1) (.slice A l.length cap) v := fun v hv =>
              ⟨A, cap, l, F, rfl, HROW1.out.mod (Mod.of_below_size hv (fun _ => False)) (fun _ _ h => h), HQ1.out.below hv, fun q h => ⟨(HF.out q h).1, by have := (HF.out q h).2; have := hv.size; omega⟩, HA.out, qop_tail HBEL1.out hv (by omega), by omega⟩
            have STAY := Lib.hid stay
            clear stay
            by_cases hk2 : kd = 2
            · have e2 : (kd == 2) = true := by simpa using hk2
              have HKD := Lib.hid hk2
              clear hk2 hkd
              by_cases hl0 : l = []
              · subst hl0
                obtain rfl : b = false := HBB.out.trans (by simp)
                go_wp2_with fail
                refine (que_pop_none W1 F Q HQ1.out).mono ?_
                rintro e w2 ⟨rfl, rfl⟩
                go_wp2_with fail
                go_meet
                exact ⟨Lib.hid (STAY.out _ (Below.refl _ _)), ⟨_, rfl, rfl⟩, rfl⟩
              · obtain ⟨x, r, rfl⟩ : ∃ x r, l = x :: r := List.exists_cons_of_ne_nil hl0
                obtain ⟨i0, hi0, hz0, hz1, hz2⟩ := info_parts Try.infoStr
                obtain ⟨g, o, rfl⟩ := HROW1.out.some_of_pos (by have := HROW1.out.2.1; simp at this; omega)
                have hrl : r.length < 400 := by simp at hlk; omega
                clear hl0
                obtain rfl : b = true := HBB.out.trans (by simp)
                go_wp2_with fail
                refine (que_pop W1 F Q x r HQ1.out (by omega)).mono ?_
                rintro e w2 ⟨rfl, hq2, hm2⟩
                have hrow2 : Row w2 9 1 (some ⟨g, o, none⟩) (r.length + 1) cap ((x :: r).map .string) := HROW1.out.mod hm2 (fun a ha => HA.out a ha)
                obtain ⟨A', c', hcut, hr', hA'⟩ := hrow2.cut_from 50 Try.underlying50 hi0 hz1 .i64 1 (by omega)
                have hcut1 : ∀ W : World, (Instr.slice 50 (.slice (some ⟨g, o, none⟩) (r.length + 1) cap) (some (.int .i64 1)) none none).run Try.prog W = .ok (.slice A' r.length c') W := fun W => hcut W
                have d1 : w2.cell? ⟨g, o, none⟩ = some (.string x) := by have := hrow2.cell 0 (by omega); simpa using this
                have lg := hrow2.lt
                have HR2 := Lib.hid hr'
                have HA2 := Lib.hid hA'
                have HQ2 := Lib.hid hq2
                have HM2 := Lib.hid hm2
                clear hcut hr' hA' hrow2 hq2 hm2
                go_upto_region 22 with fail
                refine wp_region_plan (by kernel_rfl) (fun u => Mod (fun _ => False) w2 u) [] [(0, .pure), (1, .pure), (2, .load), (3, .pure), (4, .pure), (5, .pure), (6, .pure)] (by simp only [List.map_cons, List.map_nil, List.getElem?_toArray, List.getElem?_cons_succ, List.getElem?_cons_zero]; rfl) (by kernel_rfl) (fun _ _ d _ _ h => by cases d <;> exact h) ((Mod.refl _ _).drew) ?_
                repeat (first
                  | (refine plan_pure (v := ?_) (by rfl) (fun w1 => ?_) ?_
                     rotate_left
                     · go_simp <;> with_reducible rfl
                     simp only [Act.put, List.setIfInBounds_toArray, List.set_cons_zero, List.set_cons_succ])
                  | (refine plan_off (by rfl) ?_
                     simp only [Act.put, List.setIfInBounds_toArray, List.set_cons_zero, List.set_cons_succ])
                  | (refine plan_load_off (by rfl) ?_
                     simp only [Act.put, List.setIfInBounds_toArray, List.set_cons_zero, List.set_cons_succ])
                  | (refine plan_load (v := ?_) (by rfl) (fun w1 hw1 => ?_) ?_
                     rotate_left
                     · (have q0 := (hw1.cell g o lg id).trans d1
                        clear hw1
                        go_simp <;> with_reducible rfl)
                     simp only [Act.put, List.setIfInBounds_toArray, List.set_cons_zero, List.set_cons_succ]))
                refine plan_end ?_
                go_wp2_with fail
                go_meet
                have y2 := HM2.out.size
                refine ⟨Lib.hid ⟨A', c', r, F, rfl, ?_, ?_, fun q h => ⟨(HF.out q h).1, by have := (HF.out q h).2; show q < w2.heap.size; omega⟩, fun a ha h => ?_, ?_, by simp at hlk; omega⟩, ⟨_, rfl, rfl⟩, rfl⟩
                · exact (show Row w2 _ 1 A' r.length c' (r.map .string) from by have := HR2.out; simpa using this)
                · exact HQ2.out
                · obtain ⟨a0, h1, h2⟩ := HA2.out a ha
                  exact HA.out a0 h1 (h2 ▸ h)
                · exact HBEL1.out.trans (HM2.out.drew.below base (by omega) (fun q hq h => by have := (HF.out q h).1; omega))
            · have e2 : (kd == 2) = false := by simpa using hk2
              have HKD := Lib.hid hk2
              clear hk2 hkd
              by_cases hl0 : l = []
              · subst hl0
                obtain rfl : b = false := HBB.out.trans (by simp)
                go_wp2_with fail
                refine (que_steal_none W1 F Q HQ1.out).mono ?_
                rintro e w2 ⟨rfl, rfl⟩
                go_wp2_with fail
                go_meet
                exact ⟨Lib.hid (STAY.out _ (Below.refl _ _)), ⟨_, rfl, rfl⟩, rfl⟩
              · obtain ⟨r, x, hrx⟩ := last_split hl0
                obtain ⟨i0, hi0, hz0, hz1, hz2⟩ := info_parts Try.infoStr
                have hrn : l.length = r.length + 1 := by rw [hrx]; simp
                obtain ⟨g, o, rfl⟩ := HROW1.out.some_of_pos (by have := HROW1.out.2.1; omega)
                have hrl : r.length < 400 := by omega
                have hcap := HROW1.out.2.1
                have hcut := cut_to (P := Try.prog) (A := some ⟨g, o, none⟩) (n := l.length) (cap := cap) 50 9 Try.underlying50 hi0 .i64 r.length (by omega)
                have hcut1 : ∀ W : World, (Instr.slice 50 (.slice (some ⟨g, o, none⟩) l.length cap) none (some (.int .i64 r.length)) none).run Try.prog W = .ok (.slice (some ⟨g, o, none⟩) r.length cap) W := fun W => hcut W
                have hk1 : (0 : Int) ≤ (r.length : Int) := Int.natCast_nonneg _
                have hk3 : (r.length : Int) < (l.length : Int) := by omega
                have hk4 : 0 < l.length := by omega
                have hk5 : (0 : Int) < (l.length : Int) := by omega
                have ew0 : (l.length : Int) - 1 = (r.length : Int) := by omega
                have ew : IntKind.i64.wrap ((l.length : Int) - 1) = (r.length : Int) := by rw [ew0]; exact IntWalk.i64_in _ (by omega)
                have ew2 : IntKind.i64.wrap (r.length : Int) = (r.length : Int) := IntWalk.i64_in _ (by omega)
                have hst := que_steal W1 F Q x r (hrx ▸ HQ1.out) (by omega)
                have HST := Lib.hid hst
                have HRX := Lib.hid hrx
                have HRN := Lib.hid hrn
                obtain rfl : b = true := HBB.out.trans (by simpa using hk4)
                clear hl0 hcut hst hrx hrn
                go_wp2_with fail
                refine HST.out.mono ?_
                rintro e w2 ⟨rfl, hq2, hm2⟩
                have hrow2 : Row w2 9 1 (some ⟨g, o, none⟩) l.length cap (l.map .string) := HROW1.out.mod hm2 (fun a ha => HA.out a ha)
                have d1 : w2.cell? ⟨g, o + r.length, none⟩ = some (.string x) := by have := hrow2.cell r.length (by omega); rw [HRX.out] at this; simpa using this
                have lg := hrow2.lt
                have HR2 := Lib.hid (hrow2.take (k := r.length) (by omega))
                have HQ2 := Lib.hid hq2
                have HM2 := Lib.hid hm2
                clear hrow2 hq2 hm2
                go_upto_region 15 with fail
                refine wp_region_plan (by kernel_rfl) (fun u => Mod (fun _ => False) w2 u) [] [(0, .pure), (1, .pure), (2, .pure), (3, .pure), (4, .pure), (5, .load), (6, .pure), (7, .pure), (8, .pure), (9, .pure), (10, .pure), (11, .pure), (12, .pure)] (by simp only [List.map_cons, List.map_nil, List.getElem?_toArray, List.getElem?_cons_succ, List.getElem?_cons_zero]; rfl) (by kernel_rfl) (fun _ _ d _ _ h => by cases d <;> exact h) ((Mod.refl _ _).drew) ?_
                repeat (first
                  | (refine plan_pure (v := ?_) (by rfl) (fun w1 => ?_) ?_
                     rotate_left
                     · go_simp <;> with_reducible rfl
                     simp only [Act.put, List.setIfInBounds_toArray, List.set_cons_zero, List.set_cons_succ])
                  | (refine plan_off (by rfl) ?_
                     simp only [Act.put, List.setIfInBounds_toArray, List.set_cons_zero, List.set_cons_succ])
                  | (refine plan_load_off (by rfl) ?_
                     simp only [Act.put, List.setIfInBounds_toArray, List.set_cons_zero, List.set_cons_succ])
                  | (refine plan_load (v := ?_) (by rfl) (fun w1 hw1 => ?_) ?_
                     rotate_left
                     · (have q0 := (hw1.cell g (o + r.length) lg id).trans d1
                        clear hw1
                        go_simp <;> with_reducible rfl)
                     simp only [Act.put, List.setIfInBounds_toArray, List.set_cons_zero, List.set_cons_succ]))
                refine plan_end ?_
                go_wp2_with fail
                go_meet
                have y2 := HM2.out.size
                refine ⟨Lib.hid ⟨some ⟨g, o, none⟩, cap, r, F, rfl, ?_, ?_, fun q h => ⟨(HF.out q h).1, by have := (HF.out q h).2; show q < w2.heap.size; omega⟩, HA.out, ?_, by omega⟩, ⟨_, rfl, rfl⟩, rfl⟩
                · exact (show Row w2 _ 1 (some ⟨g, o, none⟩) r.length cap (r.map .string) from by have := HR2.out; rw [HRX.out] at this; simpa using this)
                · exact HQ2.out
                · exact HBEL1.out.trans (HM2.out.drew.below base (by omega) (fun q hq h => by have := (HF.out q h).1; omega))
        case rest =>
          obtain ⟨HI2, ⟨x, rfl, rfl⟩, rfl⟩ := hcut
          obtain ⟨A2, cap2, l2, F2, rfl, _, hq2, _, _, _, _⟩ := HI2.out
          have HQ2 := Lib.hid hq2
          clear hq2
          go_wp2_with (go_at_call 26; refine (que_len _ F2 Q l2 HQ2.out).mono ?_; rintro e w3 ⟨rfl, rfl⟩)
          go_roundw
          case rel => exact ⟨k + 1, by omega, by go_num, HI2⟩
          case measure => simp [intOf]; omega
    · have hkn : k = ops.length := by omega
      have HK := Lib.hid hkn
      clear hkn
      go_wp2_with fail
      go_ret
      exact ⟨rfl, HBEL.out⟩

open Go.ChangeShapes Go.WideShapes Go.ChangeAt
set_option maxRecDepth 100000 in
theorem qop_read {H : Type} {enc : TypeId × Value → H} {w : World} {base : Nat} {spare : Nat → Bool} {held : Bool} (fuel : Nat) (cs : List Value) (y : DataW H × List MemPlace) (_ : cs.length = 2)
    (h : DataW.trod enc Try.prog w base spare held fuel 52 cs = some y) : ∃ x : QOp, cs = encQ x ∧ (-9223372036854775808 ≤ x.1 ∧ x.1 ≤ 9223372036854775807) := by
  obtain ⟨hl, fuel', hf⟩ := tr_struct Try.underlying52 h
  have hl4 : cs.length = 2 := hl.trans (by kernel_rfl)
  match cs, hl4 with
  | [a, b], _ =>
    simp only [List.mem_cons, List.not_mem_nil, or_false, forall_eq_or_imp, forall_eq] at hf
    rw [show Try.prog.cellsOf 3 = 1 by kernel_rfl, show Try.prog.cellsOf 9 = 1 by kernel_rfl] at hf
    obtain ⟨⟨_, h1⟩, ⟨_, h2⟩⟩ := hf
    obtain ⟨kd, e1, w1⟩ := tr_int Try.underlying3 h1
    obtain ⟨p, e2, w2⟩ := tr_string Try.underlying9 h2
    simp at e1 e2
    subst e1 e2
    exact ⟨(kd, p), rfl, i64_bounds w1⟩

set_option maxRecDepth 100000 in
theorem QueuePlays_walk {H : Type} {enc : TypeId × Value → H} (W : World) {base : Nat} {v0 : Value} {d0 : DataW H} {p0 : List MemPlace}
    (o0 : Value.okWide Try.prog W .any base 47 v0) (h0 : DataW.Trod enc Try.prog W 0 (fun _ => true) true 47 v0 d0 p0) :
    Calls Try.prog 6 #[v0] W fun e w' => e = .returned (.bool true) ∧ Below W.heap.size W w' := by
  obtain ⟨A, len, cap, rfl⟩ := okWide_slice Try.underlying47 o0
  obtain ⟨fuel, hf⟩ := h0
  obtain ⟨ops, hl, hg, hr, h1, h2⟩ := tr_list (f := encQ) (sz := 2) (by omega) Try.underlying47 (by kernel_rfl) qop_read (by simpa [Value.cells] using hf)
  subst hl
  exact queuePlays_any W A cap ops hr (by omega) hg
namespace queuePlays
theorem own : ownKnob Try.prog.godebug = none := by kernel_rfl
theorem laidOut : laidOutB Try.prog = true := by kernel_rfl
set_option maxRecDepth 100000 in
theorem lifted (os : Os) (started : os.Started) (H : Type) (enc : TypeId × Value → H) :
    ReturnsInHanded {} Try.checked os 6 .any (Rows.queuePlaysSpec.pre6 enc Try.prog Try.f6 Rows.queuePlaysRow.domain false) (Rows.queuePlaysSpec.post enc Try.prog Try.f6 false true false false) := by
  refine returnsInHanded_of_change_sized (C := Try.checked) own started (by kernel_rfl) Try.func6
    (ChangeSpec.witness6 (enc := enc) (C := Try.checked) false ⟨#[], #[.slice none 0 0], []⟩ 8 (by kernel_rfl) (by kernel_rfl) (by kernel_rfl) (by kernel_rfl)) ?_
  intro W base args ds gs before hval0 hW hcnd hsz0 _
  have hval : ∀ (j : Nat) t v, Try.f6.params[j]? = some t → args[j]? = some v → Value.okWide Try.prog W .any base t v := hval0
  have hW' := hW
  obtain ⟨p, q, hA0, hV, rfl, hfz, hnd⟩ := hW
  have hA : DataW.TrodAll enc Try.prog W 0 (fun _ => true) true Try.f6.params.toList args.toList ds p := hA0
  rw [Try.params6] at hA hval
  obtain ⟨v0, vs0, d0, ds0, p0, q0, hargs, rfl, rfl, h0, r0⟩ := trodAll_cons hA
  obtain ⟨rfl, rfl, rfl⟩ := trodAll_nil r0
  obtain rfl : args = #[v0] := by cases args; simp_all
  obtain ⟨rfl, rfl⟩ := trodVars_none hV
  have lt0 : ∀ x ∈ p0, x.block < W.heap.size := by obtain ⟨m, hm⟩ := h0; exact DataW.trod_lt m _ _ _ hm
  clear hA0 hval0 hsz0
  refine (QueuePlays_walk W (hval 0 47 v0 rfl rfl) h0).mono fun e W' ⟨he, bel⟩ => ?_
  subst he
  exact ⟨_, rfl, _, _, _, [], _, [], hW', trodAll_mk1 (shut_bool Try.underlying4 _), (trodAll_cons_mk (Below.trod laidOut (by kernel_rfl) (of_decide_eq_true (by kernel_rfl)) h0 bel lt0) trodAll_mk0), rfl, bel.frame _, fun h => (by cases h)⟩
theorem over : Rows.queuePlaysRow.holds Try.pinned (OpenSpec.ofChange Rows.queuePlaysSpec) :=
  OpenClaim.holds_of_wide 6 Try.f6 rfl rfl rfl rfl rfl rfl rfl ⟨rfl, rfl, rfl, rfl, rfl⟩ rfl rfl rfl rfl rfl (by kernel_rfl) Try.func6 (by kernel_rfl)
    (of_decide_eq_true (by kernel_rfl)) (by unfold Func.isWrapper; first | (rw [if_pos (by decide +kernel)]; kernel_rfl) | (rw [if_neg (by decide +kernel)]; exact ⟨rfl, rfl⟩))
    (fun os started H enc _ => lifted os started H enc)
end queuePlays
/-- The row. -/
theorem queuePlays_holds : Rows.QueuePlaysSaid := queuePlays.over
#print axioms queuePlays_holds
end Go.Proofs.Ytedogccbndjdpaa
