/- Part 2 of the proof of seqOne_holds: what it rests on. -/
import Derived.Test.YtckdofjpoajblaaGreatZf1
namespace Go.Proofs.YtckdofjpoajblaaGreat
open Go.RowKit
open Go.ChangeShapes Go.WideShapes Go.ChangeAt
set_option linter.unusedVariables false
namespace seqOne
theorem own : ownKnob Tryz.prog.godebug = none := by kernel_rfl
theorem laidOut : laidOutB Tryz.prog = true := by kernel_rfl
set_option maxRecDepth 100000 in
theorem lifted (os : Os) (started : os.Started) (H : Type) (enc : TypeId × Value → H) :
    ReturnsInHanded {} Tryz.checked os 11 .any (Rows.seqOneSpec.pre6 enc Tryz.prog Tryz.f11 Rows.seqOneRow.domain false) (Rows.seqOneSpec.post enc Tryz.prog Tryz.f11 false true false false) := by
  refine returnsInHanded_of_change_sized (C := Tryz.checked) own started (by kernel_rfl) Tryz.func11
    (ChangeSpec.witness6 (enc := enc) (C := Tryz.checked) false ⟨#[], #[.agg #[.int .i64 0, .int .i64 0, .slice none 0 0], .int .i64 0, .slice none 0 0], []⟩ 8 (by kernel_rfl) (by kernel_rfl) (by kernel_rfl) (by kernel_rfl)) ?_
  intro W base args ds gs before hval0 hW hcnd hsz0 _
  have hval : ∀ (j : Nat) t v, Tryz.f11.params[j]? = some t → args[j]? = some v → Value.okWide Tryz.prog W .any base t v := hval0
  have hW' := hW
  obtain ⟨p, q, hA0, hV, rfl, hfz, hnd⟩ := hW
  have hA : DataW.TrodAll enc Tryz.prog W 0 (fun _ => true) true Tryz.f11.params.toList args.toList ds p := hA0
  rw [Tryz.params11] at hA hval
  obtain ⟨v0, vs0, d0, ds0, p0, q0, hargs, rfl, rfl, h0, r0⟩ := trodAll_cons hA
  obtain ⟨v1, vs1, d1, ds1, p1, q1, rfl, rfl, rfl, h1, r1⟩ := trodAll_cons r0
  obtain ⟨v2, vs2, d2, ds2, p2, q2, rfl, rfl, rfl, h2, r2⟩ := trodAll_cons r1
  obtain ⟨rfl, rfl, rfl⟩ := trodAll_nil r2
  obtain rfl : args = #[v0, v1, v2] := by cases args; simp_all
  obtain ⟨rfl, rfl⟩ := trodVars_none hV
  have lt0 : ∀ x ∈ p0, x.block < W.heap.size := by obtain ⟨m, hm⟩ := h0; exact DataW.trod_lt m _ _ _ hm
  have lt1 : ∀ x ∈ p1, x.block < W.heap.size := by obtain ⟨m, hm⟩ := h1; exact DataW.trod_lt m _ _ _ hm
  have lt2 : ∀ x ∈ p2, x.block < W.heap.size := by obtain ⟨m, hm⟩ := h2; exact DataW.trod_lt m _ _ _ hm
  clear hA0 hval0 hsz0
  refine (SeqOne_walk W (hval 0 24 v0 rfl rfl) h0 (hval 1 3 v1 rfl rfl) h1 (hval 2 43 v2 rfl rfl) h2).mono fun e W' ⟨he, bel⟩ => ?_
  subst he
  exact ⟨_, rfl, _, _, _, [], _, [], hW', trodAll_mk1 (shut_bool Tryz.underlying4 _), (trodAll_cons_mk (Below.trod laidOut (by kernel_rfl) (of_decide_eq_true (by kernel_rfl)) h0 bel lt0) (trodAll_cons_mk (Below.trod laidOut (by kernel_rfl) (of_decide_eq_true (by kernel_rfl)) h1 bel lt1) (trodAll_cons_mk (Below.trod laidOut (by kernel_rfl) (of_decide_eq_true (by kernel_rfl)) h2 bel lt2) trodAll_mk0))), rfl, bel.frame _, fun h => (by cases h)⟩
theorem and_tt {a b : Bool} (h : a = true) (k : b = true) : (a && b) = true := by rw [h, k]; rfl
theorem and_l {a b : Bool} (h : (a && b) = true) : a = true := by cases a <;> simp_all
theorem and_r {a b : Bool} (h : (a && b) = true) : b = true := by cases b <;> simp_all
theorem jf0 : ((Rows.seqOneRow.wf (OpenSpec.ofChange Rows.seqOneSpec)) && (laidOutB Tryz.pinned.checked.prog) && (mapsRowed Tryz.pinned.checked.prog) && (Tryz.f11.params.all (Tryz.pinned.checked.prog.readableRec ·)) && (namedTie Tryz.pinned.checked.prog Rows.seqOneRow.named Rows.seqOneSpec.vars) && ((Rows.seqOneRow.stops == [])) && ((Tryz.pinned.checked.prog.stops == [])) && ((Rows.seqOneRow.knobs == [])) && ((Tryz.pinned.checked.prog.stopKnobs == []))) = true := by kernel_rfl
theorem jf1 : (((Rows.seqOneRow.inPlace == Tryz.pinned.checked.prog.inPlace 11)) && ((Rows.seqOneRow.unfollowed == Tryz.pinned.checked.prog.unfollowed 11)) && ((Rows.seqOneRow.recurses == Tryz.pinned.checked.prog.recurses 11)) && ((Rows.seqOneRow.named == Tryz.pinned.checked.prog.varsNamed 11))) = true := by kernel_rfl
theorem jf2 : (((Rows.seqOneRow.maps == (Tryz.f11.params.toList ++ Rows.seqOneSpec.plain.varTypes Tryz.pinned.checked.prog).any (Tryz.pinned.checked.prog.mapsRec ·))) && ((Rows.seqOneRow.ifaces == (Tryz.f11.params.toList ++ Rows.seqOneSpec.plain.varTypes Tryz.pinned.checked.prog).any (Tryz.pinned.checked.prog.ifacesRec ·))) && ((Rows.seqOneRow.mapsOut == Tryz.pinned.checked.prog.mapsAmong Tryz.f11.resultTypes.toList)) && ((Rows.seqOneRow.loops == (Tryz.f11.params.toList ++ Rows.seqOneSpec.plain.varTypes Tryz.pinned.checked.prog).any (Tryz.pinned.checked.prog.loopsFrom ·))) && ((Rows.seqOneRow.wideKeys == (Tryz.f11.params.toList ++ Rows.seqOneSpec.plain.varTypes Tryz.pinned.checked.prog ++ Tryz.f11.resultTypes.toList).any (Tryz.pinned.checked.prog.wideKeysFrom ·))) && (Rows.seqOneSpec.vars.all (Tryz.pinned.checked.prog.varReadable ·)) && (Tryz.f11.resultTypes.all (fun t => Tryz.pinned.checked.prog.readableRec t && decide (t < Tryz.pinned.checked.prog.types.size))) && ((Rows.seqOneRow.ifacesOut == Tryz.f11.resultTypes.toList.any (Tryz.pinned.checked.prog.ifacesRec ·))) && ((Rows.seqOneRow.loopsOut == Tryz.f11.resultTypes.toList.any (Tryz.pinned.checked.prog.loopsFrom ·))) && ((Rows.seqOneRow.plainKeys == Tryz.pinned.checked.prog.plainKeys)) && (Rows.seqOneRow.shortTexts.isNone) && (Tryz.pinned.checked.prog.stopsHeard) && (Tryz.pinned.checked.prog.mayEnter) && ((Rows.seqOneRow.lifted == Tryz.pinned.checked.prog.liftsFinal)) && ((Tryz.pinned.checked.prog.make == some Rows.seqOneRow.make)) && ((Rows.seqOneRow.kinds == (if Rows.seqOneRow.domain.isEmpty then [] else Tryz.f11.params.toList.map fun t => match Tryz.pinned.checked.prog.underlying t with | some (.int k) => some k | _ => none))) && ((Rows.seqOneRow.pinned == Rows.seqOneRow.pinnedBy)) && ((Rows.seqOneRow.veiled == (Tryz.f11.params.toList ++ Rows.seqOneSpec.plain.varTypes Tryz.pinned.checked.prog ++ Tryz.f11.resultTypes.toList).any (Tryz.pinned.checked.prog.veiledRec ·))) && (Rows.seqOneRow.veiledFits Tryz.pinned.checked.prog Tryz.f11.params.toList (Tryz.f11.params.toList ++ Rows.seqOneSpec.plain.varTypes Tryz.pinned.checked.prog ++ Tryz.f11.resultTypes.toList))) = true := by kernel_rfl
set_option maxRecDepth 100000 in
theorem jf : joinedFacts Tryz.pinned.checked.prog 11 Tryz.f11 Rows.seqOneSpec Rows.seqOneRow = true := (and_tt (and_tt (and_tt (and_tt (and_tt (and_tt (and_tt (and_tt (and_tt (and_tt (and_tt (and_tt (and_tt (and_tt (and_tt (and_tt (and_tt (and_tt (and_tt (and_tt (and_tt (and_tt (and_tt (and_tt (and_tt (and_tt (and_tt (and_tt (and_tt (and_tt (and_tt (and_l (and_l (and_l (and_l (and_l (and_l (and_l (and_l jf0)))))))) (and_r (and_l (and_l (and_l (and_l (and_l (and_l (and_l jf0))))))))) (and_r (and_l (and_l (and_l (and_l (and_l (and_l jf0)))))))) (and_r (and_l (and_l (and_l (and_l (and_l jf0))))))) (and_r (and_l (and_l (and_l (and_l jf0)))))) (and_r (and_l (and_l (and_l jf0))))) (and_r (and_l (and_l jf0)))) (and_r (and_l jf0))) (and_r jf0)) (and_l (and_l (and_l jf1)))) (and_r (and_l (and_l jf1)))) (and_r (and_l jf1))) (and_r jf1)) (and_l (and_l (and_l (and_l (and_l (and_l (and_l (and_l (and_l (and_l (and_l (and_l (and_l (and_l (and_l (and_l (and_l (and_l jf2))))))))))))))))))) (and_r (and_l (and_l (and_l (and_l (and_l (and_l (and_l (and_l (and_l (and_l (and_l (and_l (and_l (and_l (and_l (and_l (and_l jf2))))))))))))))))))) (and_r (and_l (and_l (and_l (and_l (and_l (and_l (and_l (and_l (and_l (and_l (and_l (and_l (and_l (and_l (and_l (and_l jf2)))))))))))))))))) (and_r (and_l (and_l (and_l (and_l (and_l (and_l (and_l (and_l (and_l (and_l (and_l (and_l (and_l (and_l (and_l jf2))))))))))))))))) (and_r (and_l (and_l (and_l (and_l (and_l (and_l (and_l (and_l (and_l (and_l (and_l (and_l (and_l (and_l jf2)))))))))))))))) (and_r (and_l (and_l (and_l (and_l (and_l (and_l (and_l (and_l (and_l (and_l (and_l (and_l (and_l jf2))))))))))))))) (and_r (and_l (and_l (and_l (and_l (and_l (and_l (and_l (and_l (and_l (and_l (and_l (and_l jf2)))))))))))))) (and_r (and_l (and_l (and_l (and_l (and_l (and_l (and_l (and_l (and_l (and_l (and_l jf2))))))))))))) (and_r (and_l (and_l (and_l (and_l (and_l (and_l (and_l (and_l (and_l (and_l jf2)))))))))))) (and_r (and_l (and_l (and_l (and_l (and_l (and_l (and_l (and_l (and_l jf2))))))))))) (and_r (and_l (and_l (and_l (and_l (and_l (and_l (and_l (and_l jf2)))))))))) (and_r (and_l (and_l (and_l (and_l (and_l (and_l (and_l jf2))))))))) (and_r (and_l (and_l (and_l (and_l (and_l (and_l jf2)))))))) (and_r (and_l (and_l (and_l (and_l (and_l jf2))))))) (and_r (and_l (and_l (and_l (and_l jf2)))))) (and_r (and_l (and_l (and_l jf2))))) (and_r (and_l (and_l jf2)))) (and_r (and_l jf2))) (and_r jf2))
theorem over : Rows.seqOneRow.holds Tryz.pinned (OpenSpec.ofChange Rows.seqOneSpec) :=
  OpenClaim.holds_of_wide 11 Tryz.f11 rfl rfl rfl rfl rfl rfl rfl ⟨rfl, rfl, rfl, rfl, rfl⟩ rfl rfl rfl rfl rfl (by kernel_rfl) Tryz.func11 jf
    (of_decide_eq_true (by kernel_rfl)) (by unfold Func.isWrapper; first | (rw [if_pos (by decide +kernel)]; kernel_rfl) | (rw [if_neg (by decide +kernel)]; exact ⟨rfl, rfl⟩))
    (fun os started H enc _ => lifted os started H enc)
end seqOne
theorem seqOne_holds : Rows.SeqOneSaid := seqOne.over
end Go.Proofs.YtckdofjpoajblaaGreat
