/- What is proved: MailNil: of mailboxes that are none (a nil pointer) every call answers as the document says; and awake holds. No condition. -/
import Derived.Test.YtedogccbndjdpaaMailC
import Derived.Test.YtedogccbndjdpaaRead
import Derived.WideKeyArgs
namespace Go.Proofs.Ytedogccbndjdpaa
open Go.ChangeShapes Go.WideShapes Go.ChangeAt Go.RowKit
set_option linter.unusedVariables false

set_option maxRecDepth 100000 in
/-- a call as data -/
theorem op_read {H : Type} {enc : TypeId × Value → H} {w : World} {base : Nat} {spare : Nat → Bool} {held : Bool} {fuel : Nat} {cs : List Value} {y : DataW H × List MemPlace}
    (h : DataW.trod enc Try.prog w base spare held fuel 30 cs = some y) : ∃ kd to : Int, ∃ (p : ByteArray) (s : Int), cs = [.int .i64 kd, .int .i64 to, .string p, .int .u8 s] ∧ (Lit.int .i64 kd).wf = true ∧ (Lit.int .i64 to).wf = true ∧ (Lit.int .u8 s).wf = true := by
  obtain ⟨hl, fuel', hf⟩ := tr_struct Try.underlying30 h
  have hl4 : cs.length = 4 := hl.trans (by kernel_rfl)
  match cs, hl4 with
  | [a, b, c, d], _ =>
    simp only [List.mem_cons, List.not_mem_nil, or_false, forall_eq_or_imp, forall_eq] at hf
    rw [show Try.prog.cellsOf 3 = 1 by kernel_rfl, show Try.prog.cellsOf 9 = 1 by kernel_rfl, show Try.prog.cellsOf 5 = 1 by kernel_rfl] at hf
    obtain ⟨⟨_, h1⟩, ⟨_, h2⟩, ⟨_, h3⟩, ⟨_, h4⟩⟩ := hf
    obtain ⟨kd, e1, w1⟩ := tr_int Try.underlying3 h1
    obtain ⟨to, e2, w2⟩ := tr_int Try.underlying3 h2
    obtain ⟨p, e3, w3⟩ := tr_string Try.underlying9 h3
    obtain ⟨s, e4, w4⟩ := tr_int Try.underlying5 h4
    simp at e1 e2 e3 e4
    subst e1 e2 e3 e4
    exact ⟨kd, to, p, s, rfl, w1, w2, w4⟩

set_option maxRecDepth 100000 in
theorem mailNil_any (W : World) (kd to : Int) (p : ByteArray) (s : Int) :
    Calls Try.prog 4 #[.agg #[.int .i64 kd, .int .i64 to, .string p, .int .u8 s]] W fun e w' => e = .returned (.bool true) ∧ Below W.heap.size W w' := by
  obtain ⟨W0, hW0⟩ : ∃ W0, W0 = W.alloc (Obj.cells #[.int .i64 kd, .int .i64 to, .string p, .int .u8 s] 30) := ⟨_, rfl⟩
  have b0 : Below W.heap.size W W0 := by rw [hW0]; exact (Below.refl _ _).alloc (Nat.le_refl _) _
  have hk : W0.heap[W.heap.size]? = some (.cells #[.int .i64 kd, .int .i64 to, .string p, .int .u8 s] 30 (0, 0)) := by rw [hW0]; exact heap_alloc_new W _
  have lX : W.heap.size < W0.heap.size := blk_lt hk
  have cell : ∀ u : World, Below W0.heap.size W0 u → u.cell? ⟨W.heap.size, 1, none⟩ = some (.int .i64 to) ∧ u.cell? ⟨W.heap.size, 2, none⟩ = some (.string p) := fun u hu => by
    have := (hu.block W.heap.size lX).trans hk
    exact ⟨by rw [cell_blk this]; rfl, by rw [cell_blk this]; rfl⟩
  go_enter Try.func4, Try.ntmps4
  go_wp2_with fail
  rw [← hW0]
  clear hW0
  refine (take_nil _ _).mono ?_
  rintro e w1 ⟨rfl, t1⟩
  obtain ⟨W1, hW1⟩ : ∃ W1, W1 = w1.alloc (Obj.cells #[.string ⟨#[]⟩, .int .u8 0] 34) := ⟨_, rfl⟩
  have t2 : Below W0.heap.size W0 W1 := by rw [hW1]; exact t1.alloc t1.size _
  clear t1
  go_wp2_with fail
  rw [← hW1]
  clear hW1
  refine (awake12 _).mono ?_
  rintro e w2 ⟨rfl, t3⟩
  have t4 := below_tail t2 t3 t2.size
  obtain ⟨c1, c2⟩ := cell _ t4
  clear t2 t3
  go_wp2_with fail
  refine (send_nil _ _ _ 0).mono ?_
  rintro e w3 ⟨rfl, t5⟩
  have t6 := below_tail t4 t5 t4.size
  obtain ⟨c3, c4⟩ := cell _ t6
  clear t4 t5
  go_wp2_with fail
  refine (len_nil _ _).mono ?_
  rintro e w4 ⟨rfl, rfl⟩
  go_wp2_with fail
  refine (total_nil _).mono ?_
  rintro e w4 ⟨rfl, rfl⟩
  go_wp2_with fail
  go_ret
  exact ⟨rfl, below_tail b0 t6 b0.size⟩
set_option maxRecDepth 100000 in
theorem MailNil_walk {H : Type} {enc : TypeId × Value → H} (W : World) {base : Nat} {v0 : Value} {d0 : DataW H} {p0 : List MemPlace} (o0 : Value.okWide Try.prog W .any base 30 v0) (h0 : DataW.Trod enc Try.prog W 0 (fun _ => true) true 30 v0 d0 p0) :
    Calls Try.prog 4 #[v0] W fun e w' => e = .returned (.bool true) ∧ Below W.heap.size W w' := by
  obtain ⟨cs, rfl, hsz⟩ := okWide_struct Try.underlying30 o0
  obtain ⟨fuel, hf⟩ := h0
  obtain ⟨kd, to, p, s, he, _⟩ := op_read hf
  obtain rfl : cs = #[.int .i64 kd, .int .i64 to, .string p, .int .u8 s] := by
    apply Array.ext'
    simpa [Value.cells] using he
  exact mailNil_any W kd to p s
namespace mailNil
theorem own : ownKnob Try.prog.godebug = none := by kernel_rfl
theorem laidOut : laidOutB Try.prog = true := by kernel_rfl
set_option maxRecDepth 100000 in
theorem lifted (os : Os) (started : os.Started) (H : Type) (enc : TypeId × Value → H) :
    ReturnsInHanded {} Try.checked os 4 .any (Rows.mailNilSpec.pre6 enc Try.prog Try.f4 Rows.mailNilRow.domain false) (Rows.mailNilSpec.post enc Try.prog Try.f4 false true false false) := by
  refine returnsInHanded_of_change_sized (C := Try.checked) own started (by kernel_rfl) Try.func4
    (ChangeSpec.witness6 (enc := enc) (C := Try.checked) false ⟨#[], #[.agg #[.int .i64 0, .int .i64 0, .string ByteArray.empty, .int .u8 0]], []⟩ 8 (by kernel_rfl) (by kernel_rfl) (by kernel_rfl) (by kernel_rfl)) ?_
  intro W base args ds gs before hval0 hW hcnd hsz0 _
  have hval : ∀ (j : Nat) t v, Try.f4.params[j]? = some t → args[j]? = some v → Value.okWide Try.prog W .any base t v := hval0
  have hW' := hW
  obtain ⟨p, q, hA0, hV, rfl, hfz, hnd⟩ := hW
  have hA : DataW.TrodAll enc Try.prog W 0 (fun _ => true) true Try.f4.params.toList args.toList ds p := hA0
  rw [Try.params4] at hA hval
  obtain ⟨v0, vs0, d0, ds0, p0, q0, hargs, rfl, rfl, h0, r0⟩ := trodAll_cons hA
  obtain ⟨rfl, rfl, rfl⟩ := trodAll_nil r0
  obtain rfl : args = #[v0] := by cases args; simp_all
  obtain ⟨rfl, rfl⟩ := trodVars_none hV
  have lt0 : ∀ x ∈ p0, x.block < W.heap.size := by obtain ⟨m, hm⟩ := h0; exact DataW.trod_lt m _ _ _ hm
  clear hA0 hval0 hsz0
  refine (MailNil_walk W (hval 0 30 v0 rfl rfl) h0).mono fun e W' ⟨he, bel⟩ => ?_
  subst he
  exact ⟨_, rfl, _, _, _, [], _, [], hW', trodAll_mk1 (shut_bool Try.underlying4 _), (trodAll_cons_mk (Below.trod laidOut (by kernel_rfl) (of_decide_eq_true (by kernel_rfl)) h0 bel lt0) trodAll_mk0), rfl, bel.frame _, fun h => (by cases h)⟩
theorem over : Rows.mailNilRow.holds Try.pinned (OpenSpec.ofChange Rows.mailNilSpec) :=
  OpenClaim.holds_of_wide 4 Try.f4 rfl rfl rfl rfl rfl rfl rfl ⟨rfl, rfl, rfl, rfl, rfl⟩ rfl rfl rfl rfl rfl (by kernel_rfl) Try.func4 (by kernel_rfl)
    (of_decide_eq_true (by kernel_rfl)) (by unfold Func.isWrapper; first | (rw [if_pos (by decide +kernel)]; kernel_rfl) | (rw [if_neg (by decide +kernel)]; exact ⟨rfl, rfl⟩))
    (fun os started H enc _ => lifted os started H enc)
end mailNil
/-- The row. -/
theorem mailNil_holds : Rows.MailNilSaid := mailNil.over
#print axioms mailNil_holds
end Go.Proofs.Ytedogccbndjdpaa
