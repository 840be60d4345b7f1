/- WorkNil: of work that is none every call answers as the document says; and awake holds. No condition. -/
import Derived.Test.YtedogccbndjdpaaWorkT
import Derived.Test.YtedogccbndjdpaaRead
import Derived.Test.YtedogccbndjdpaaRows
import Derived.WideKeyArgs
namespace Go.Proofs.Ytedogccbndjdpaa
open Go.RowKit
set_option linter.unusedVariables false

theorem Work.wide {w w' : World} {base B : Nat} {ls : List (List ByteArray)} (h : Work w' (fun k => base ≤ k ∨ w.heap.size ≤ k) B ls) (hn : base ≤ w.heap.size) : Work w' (fun k => base ≤ k) B ls := h.foot (fun k h _ => h.elim id (fun h => by omega))
theorem putA0 : Hp.putF ahead [] ⟨#[97]⟩ = [⟨#[97]⟩] := rfl
theorem putA1 : Hp.putF ahead [⟨#[97]⟩] ⟨#[]⟩ = [⟨#[97]⟩, ⟨#[]⟩] := by simp [Hp.putF, ahead, ByteArray.size, ByteArray.toList_eq, Op.bytesLess]
theorem putA2 : Hp.putF ahead [] ⟨#[]⟩ = [⟨#[]⟩] := rfl

set_option maxRecDepth 100000 in
set_option maxHeartbeats 1000000 in
theorem awake13 (w : World) : Calls Try.prog 28 #[] w fun e w' => e = .returned (.bool true) ∧ Below w.heap.size w w' := by
  obtain ⟨base, hbase⟩ : ∃ base, base = w.heap.size := ⟨_, rfl⟩
  go_enter Try.func28, Try.ntmps28
  go_wp2_with fail
  refine (work_new w 2 (by omega) (by omega)).mono ?_
  rintro e w1 ⟨B, rfl, hW, hb⟩
  unfold ptrV
  have HW1 : Hid (Work w1 (fun k => base ≤ k) B [[], []]) := Lib.hid (hbase ▸ hW)
  have HB1 : Hid (Below base w w1) := Lib.hid (hbase ▸ hb)
  have z1 : base ≤ w1.heap.size := by have := hb.size; omega
  clear hW hb
  go_wp2_with fail
  refine (work_new_bad 65 w1 (by omega)).mono ?_
  rintro e w2 ⟨rfl, rfl⟩
  go_wp2_with fail
  refine (work_push w1 _ B _ HW1.out 0 (by simp) ⟨#[97]⟩ (by simp) (by simp)).mono ?_
  rintro e w2 ⟨rfl, hW, hm⟩
  have HW2 : Hid (Work w2 (fun k => base ≤ k) B [[⟨#[97]⟩], []]) := Lib.hid (hW.wide z1)
  have HB2 : Hid (Below base w w2) := Lib.hid (HB1.out.trans (hm.below base z1 (fun k hk h => by omega)))
  have z2 : base ≤ w2.heap.size := by have := hm.size; omega
  clear hW hm
  go_wp2_with fail
  refine (work_push_no w2 _ B _ HW2.out 1 ⟨#[97]⟩ (by simp)).mono ?_
  rintro e w3 ⟨rfl, rfl⟩
  go_wp2_with fail
  refine (work_push w2 _ B _ HW2.out 0 (by simp) ⟨#[]⟩ (by simp) (by simp)).mono ?_
  rintro e w3 ⟨rfl, hW, hm⟩
  have HW3 : Hid (Work w3 (fun k => base ≤ k) B [[⟨#[97]⟩, ⟨#[]⟩], []]) := Lib.hid (by have := hW.wide z2; simpa [putA1] using this)
  have HB3 : Hid (Below base w w3) := Lib.hid (HB2.out.trans (hm.below base z2 (fun k hk h => by omega)))
  have z3 : base ≤ w3.heap.size := by have := hm.size; omega
  clear hW hm
  go_wp2_with fail
  refine (work_steal w3 _ B _ HW3.out 1 0 (by simp) (by simp) (by omega) ⟨#[]⟩ [⟨#[97]⟩] (by simp) (by simp) (by simp)).mono ?_
  rintro e w4 ⟨rfl, hW, hm⟩
  have HW4 : Hid (Work w4 (fun k => base ≤ k) B [[⟨#[97]⟩], [⟨#[]⟩]]) := Lib.hid (by have := hW.wide z3; simpa [putA2] using this)
  have HB4 : Hid (Below base w w4) := Lib.hid (HB3.out.trans (hm.below base z3 (fun k hk h => by omega)))
  have z4 : base ≤ w4.heap.size := by have := hm.size; omega
  clear hW hm
  go_wp2_with fail
  refine (work_steal_no w4 _ B _ HW4.out 1 1 (by omega)).mono ?_
  rintro e w5 ⟨rfl, rfl⟩
  go_wp2_with fail
  refine (work_pop w4 _ B _ HW4.out 0 (by simp) ⟨#[97]⟩ [] (by simp) (by simp)).mono ?_
  rintro e w5 ⟨rfl, hW, hm⟩
  have HW5 : Hid (Work w5 (fun k => base ≤ k) B [[], [⟨#[]⟩]]) := Lib.hid (by have := hW.wide z4; simpa using this)
  have HB5 : Hid (Below base w w5) := Lib.hid (HB4.out.trans (hm.below base z4 (fun k hk h => by omega)))
  clear hW hm
  have hl := work_len w5 _ B _ HW5.out 1
  have ht := work_total w5 _ B _ HW5.out
  have hh := work_has w5 _ B _ HW5.out ⟨#[]⟩
  have hh2 := work_has w5 _ B _ HW5.out ⟨#[97]⟩
  rw [show rowOf [[], [(⟨#[]⟩ : ByteArray)]] 1 = [⟨#[]⟩] from rfl] at hl
  rw [show inB ⟨#[]⟩ [[], [(⟨#[]⟩ : ByteArray)]].flatten = true from inB_iff.2 (by simp)] at hh
  rw [show inB ⟨#[97]⟩ [[], [(⟨#[]⟩ : ByteArray)]].flatten = false from inB_false.2 (by simp)] at hh2
  have HL := Lib.hid hl
  have HT := Lib.hid ht
  have HH := Lib.hid hh
  have HH2 := Lib.hid hh2
  clear hl ht hh hh2
  unfold ptrV at HL HT HH HH2
  go_wp2_with fail
  refine HL.out.mono ?_
  rintro e w6 ⟨rfl, rfl⟩
  go_wp2_with fail
  refine HT.out.mono ?_
  rintro e w6 ⟨rfl, rfl⟩
  go_wp2_with fail
  refine HH.out.mono ?_
  rintro e w6 ⟨rfl, rfl⟩
  go_wp2_with fail
  refine HH2.out.mono ?_
  rintro e w6 ⟨rfl, rfl⟩
  go_wp2_with fail
  go_ret
  exact ⟨rfl, hbase ▸ HB5.out⟩

set_option maxRecDepth 100000 in
theorem workNil_any (W : World) (kd a b : Int) (s : ByteArray) :
    Calls Try.prog 10 #[.agg #[.int .i64 kd, .int .i64 a, .int .i64 b, .string s]] W fun e w' => e = .returned (.bool true) ∧ Below W.heap.size W w' := by
  obtain ⟨W0, hW0⟩ : ∃ W0, W0 = W.alloc (Obj.cells #[.int .i64 kd, .int .i64 a, .int .i64 b, .string s] 73) := ⟨_, rfl⟩
  have b0 : Below W.heap.size W W0 := by rw [hW0]; exact (Below.refl _ _).alloc (Nat.le_refl _) _
  have hk : W0.heap[W.heap.size]? = some (.cells #[.int .i64 kd, .int .i64 a, .int .i64 b, .string s] 73 (0, 0)) := by rw [hW0]; exact heap_alloc_new W _
  have lX : W.heap.size < W0.heap.size := blk_lt hk
  have cell : ∀ u : World, Below W0.heap.size W0 u → u.cell? ⟨W.heap.size, 1, none⟩ = some (.int .i64 a) ∧ u.cell? ⟨W.heap.size, 2, none⟩ = some (.int .i64 b) ∧ u.cell? ⟨W.heap.size, 3, none⟩ = some (.string s) := fun u hu => by
    have := (hu.block W.heap.size lX).trans hk
    exact ⟨by rw [cell_blk this]; rfl, by rw [cell_blk this]; rfl, by rw [cell_blk this]; rfl⟩
  obtain ⟨d1, d2, d3⟩ := cell W0 (Below.refl _ _)
  go_enter Try.func10, Try.ntmps10
  go_wp2_with fail
  rw [← hW0]
  clear hW0
  go_wp2_with fail
  refine (work_pop_nil _ _).mono ?_
  rintro e w1 ⟨rfl, rfl⟩
  go_wp2_with fail
  refine (work_steal_nil _ _ _).mono ?_
  rintro e w1 ⟨rfl, rfl⟩
  go_wp2_with fail
  refine (awake13 _).mono ?_
  rintro e w2 ⟨rfl, t3⟩
  obtain ⟨c1, c2, c3⟩ := cell _ t3
  have hfin : Below W.heap.size W w2 := qop_tail b0 t3 b0.size
  have HFIN := Lib.hid hfin
  clear t3 d1 d2 d3 b0 hfin
  go_wp2_with fail
  refine (work_push_nil _ _ _).mono ?_
  rintro e w3 ⟨rfl, rfl⟩
  go_wp2_with fail
  refine (work_has_nil _ _).mono ?_
  rintro e w4 ⟨rfl, rfl⟩
  go_wp2_with fail
  refine (work_len_nil _ _).mono ?_
  rintro e w4 ⟨rfl, rfl⟩
  go_wp2_with fail
  refine (work_total_nil _).mono ?_
  rintro e w4 ⟨rfl, rfl⟩
  go_wp2_with fail
  go_ret
  exact ⟨rfl, HFIN.out⟩

abbrev WOp := Int × Int × Int × ByteArray
def encW (x : WOp) : List Value := [.int .i64 x.1, .int .i64 x.2.1, .int .i64 x.2.2.1, .string x.2.2.2]

open Go.ChangeShapes Go.WideShapes Go.ChangeAt
set_option maxRecDepth 100000 in
theorem wop_read {H : Type} {enc : TypeId × Value → H} {w : World} {base : Nat} {spare : Nat → Bool} {held : Bool} (fuel : Nat) (cs : List Value) (y : DataW H × List MemPlace) (_ : cs.length = 4)
    (h : DataW.trod enc Try.prog w base spare held fuel 73 cs = some y) : ∃ x : WOp, cs = encW x ∧ (-9223372036854775808 ≤ x.1 ∧ x.1 ≤ 9223372036854775807) := by
  obtain ⟨hl, fuel', hf⟩ := tr_struct Try.underlying73 h
  have hl4 : cs.length = 4 := hl.trans (by kernel_rfl)
  match cs, hl4 with
  | [a, b, c, d], _ =>
    simp only [List.mem_cons, List.not_mem_nil, or_false, forall_eq_or_imp, forall_eq] at hf
    rw [show Try.prog.cellsOf 3 = 1 by kernel_rfl, show Try.prog.cellsOf 9 = 1 by kernel_rfl] at hf
    obtain ⟨⟨_, h1⟩, ⟨_, h2⟩, ⟨_, h3⟩, ⟨_, h4⟩⟩ := hf
    obtain ⟨kd, e1, w1⟩ := tr_int Try.underlying3 h1
    obtain ⟨x, e2, w2⟩ := tr_int Try.underlying3 h2
    obtain ⟨z, e3, w3⟩ := tr_int Try.underlying3 h3
    obtain ⟨p, e4, w4⟩ := tr_string Try.underlying9 h4
    simp at e1 e2 e3 e4
    subst e1 e2 e3 e4
    exact ⟨(kd, x, z, p), rfl, i64_bounds w1⟩
set_option maxRecDepth 100000 in
theorem WorkNil_walk {H : Type} {enc : TypeId × Value → H} (W : World) {base : Nat} {v0 : Value} {d0 : DataW H} {p0 : List MemPlace} (o0 : Value.okWide Try.prog W .any base 73 v0) (h0 : DataW.Trod enc Try.prog W 0 (fun _ => true) true 73 v0 d0 p0) :
    Calls Try.prog 10 #[v0] W fun e w' => e = .returned (.bool true) ∧ Below W.heap.size W w' := by
  obtain ⟨cs, rfl, hsz⟩ := okWide_struct Try.underlying73 o0
  obtain ⟨fuel, hf⟩ := h0
  obtain ⟨⟨kd, a, b, s⟩, he, _⟩ := wop_read _ _ _ (by have := (tr_struct Try.underlying73 hf).1; exact this.trans (by kernel_rfl)) hf
  obtain rfl : cs = #[.int .i64 kd, .int .i64 a, .int .i64 b, .string s] := by
    apply Array.ext'
    simpa [Value.cells, encW] using he
  exact workNil_any W kd a b s
namespace workNil
theorem own : ownKnob Try.prog.godebug = none := by kernel_rfl
theorem laidOut : laidOutB Try.prog = true := by kernel_rfl
set_option maxRecDepth 100000 in
theorem lifted (os : Os) (started : os.Started) (H : Type) (enc : TypeId × Value → H) :
    ReturnsInHanded {} Try.checked os 10 .any (Rows.workNilSpec.pre6 enc Try.prog Try.f10 Rows.workNilRow.domain false) (Rows.workNilSpec.post enc Try.prog Try.f10 false true false false) := by
  refine returnsInHanded_of_change_sized (C := Try.checked) own started (by kernel_rfl) Try.func10
    (ChangeSpec.witness6 (enc := enc) (C := Try.checked) false ⟨#[], #[.agg #[.int .i64 0, .int .i64 0, .int .i64 0, .string ByteArray.empty]], []⟩ 8 (by kernel_rfl) (by kernel_rfl) (by kernel_rfl) (by kernel_rfl)) ?_
  intro W base args ds gs before hval0 hW hcnd hsz0 _
  have hval : ∀ (j : Nat) t v, Try.f10.params[j]? = some t → args[j]? = some v → Value.okWide Try.prog W .any base t v := hval0
  have hW' := hW
  obtain ⟨p, q, hA0, hV, rfl, hfz, hnd⟩ := hW
  have hA : DataW.TrodAll enc Try.prog W 0 (fun _ => true) true Try.f10.params.toList args.toList ds p := hA0
  rw [Try.params10] at hA hval
  obtain ⟨v0, vs0, d0, ds0, p0, q0, hargs, rfl, rfl, h0, r0⟩ := trodAll_cons hA
  obtain ⟨rfl, rfl, rfl⟩ := trodAll_nil r0
  obtain rfl : args = #[v0] := by cases args; simp_all
  obtain ⟨rfl, rfl⟩ := trodVars_none hV
  have lt0 : ∀ x ∈ p0, x.block < W.heap.size := by obtain ⟨m, hm⟩ := h0; exact DataW.trod_lt m _ _ _ hm
  clear hA0 hval0 hsz0
  refine (WorkNil_walk W (hval 0 73 v0 rfl rfl) h0).mono fun e W' ⟨he, bel⟩ => ?_
  subst he
  exact ⟨_, rfl, _, _, _, [], _, [], hW', trodAll_mk1 (shut_bool Try.underlying4 _), (trodAll_cons_mk (Below.trod laidOut (by kernel_rfl) (of_decide_eq_true (by kernel_rfl)) h0 bel lt0) trodAll_mk0), rfl, bel.frame _, fun h => (by cases h)⟩
theorem over : Rows.workNilRow.holds Try.pinned (OpenSpec.ofChange Rows.workNilSpec) :=
  OpenClaim.holds_of_wide 10 Try.f10 rfl rfl rfl rfl rfl rfl rfl ⟨rfl, rfl, rfl, rfl, rfl⟩ rfl rfl rfl rfl rfl (by kernel_rfl) Try.func10 (by kernel_rfl)
    (of_decide_eq_true (by kernel_rfl)) (by unfold Func.isWrapper; first | (rw [if_pos (by decide +kernel)]; kernel_rfl) | (rw [if_neg (by decide +kernel)]; exact ⟨rfl, rfl⟩))
    (fun os started H enc _ => lifted os started H enc)
end workNil
/-- The row. -/
theorem workNil_holds : Rows.WorkNilSaid := workNil.over
#print axioms workNil_holds
end Go.Proofs.Ytedogccbndjdpaa
