/- Part 2 of the proof of seqTurned_holds: what it rests on. -/
import Derived.Test.YtckdofjpoajblaaGreatZd1
namespace Go.Proofs.YtckdofjpoajblaaGreat
open Go.RowKit
open Go.ChangeShapes Go.WideShapes Go.ChangeAt
set_option linter.unusedVariables false
namespace seqTurned
theorem own : ownKnob Tryz.prog.godebug = none := by kernel_rfl
theorem laidOut : laidOutB Tryz.prog = true := by kernel_rfl
set_option maxRecDepth 100000 in
theorem lifted (os : Os) (started : os.Started) (H : Type) (enc : TypeId × Value → H) :
    ReturnsInHanded {} Tryz.checked os 9 .any (Rows.seqTurnedSpec.pre6 enc Tryz.prog Tryz.f9 Rows.seqTurnedRow.domain false) (Rows.seqTurnedSpec.post enc Tryz.prog Tryz.f9 false true false false) := by
  refine returnsInHanded_of_change_sized (C := Tryz.checked) own started (by kernel_rfl) Tryz.func9
    (ChangeSpec.witness6 (enc := enc) (C := Tryz.checked) false ⟨#[], #[.agg #[.int .i64 0, .int .i64 0, .slice none 0 0], .int .i64 0, .slice none 0 0, .slice none 0 0], []⟩ 8 (by kernel_rfl) (by kernel_rfl) (by kernel_rfl) (by kernel_rfl)) ?_
  intro W base args ds gs before hval0 hW hcnd hsz0 _
  have hval : ∀ (j : Nat) t v, Tryz.f9.params[j]? = some t → args[j]? = some v → Value.okWide Tryz.prog W .any base t v := hval0
  have hW' := hW
  obtain ⟨p, q, hA0, hV, rfl, hfz, hnd⟩ := hW
  have hA : DataW.TrodAll enc Tryz.prog W 0 (fun _ => true) true Tryz.f9.params.toList args.toList ds p := hA0
  rw [Tryz.params9] at hA hval
  obtain ⟨v0, vs0, d0, ds0, p0, q0, hargs, rfl, rfl, h0, r0⟩ := trodAll_cons hA
  obtain ⟨v1, vs1, d1, ds1, p1, q1, rfl, rfl, rfl, h1, r1⟩ := trodAll_cons r0
  obtain ⟨v2, vs2, d2, ds2, p2, q2, rfl, rfl, rfl, h2, r2⟩ := trodAll_cons r1
  obtain ⟨v3, vs3, d3, ds3, p3, q3, rfl, rfl, rfl, h3, r3⟩ := trodAll_cons r2
  obtain ⟨rfl, rfl, rfl⟩ := trodAll_nil r3
  obtain rfl : args = #[v0, v1, v2, v3] := by cases args; simp_all
  obtain ⟨rfl, rfl⟩ := trodVars_none hV
  have lt0 : ∀ x ∈ p0, x.block < W.heap.size := by obtain ⟨m, hm⟩ := h0; exact DataW.trod_lt m _ _ _ hm
  have lt1 : ∀ x ∈ p1, x.block < W.heap.size := by obtain ⟨m, hm⟩ := h1; exact DataW.trod_lt m _ _ _ hm
  have lt2 : ∀ x ∈ p2, x.block < W.heap.size := by obtain ⟨m, hm⟩ := h2; exact DataW.trod_lt m _ _ _ hm
  have lt3 : ∀ x ∈ p3, x.block < W.heap.size := by obtain ⟨m, hm⟩ := h3; exact DataW.trod_lt m _ _ _ hm
  have hsz : (DataW.weightsEach Tryz.prog [24, 3, 43, 43] [d0, d1, d2, d3]).all (· ≤ reachBytes) = true := hsz0
  clear hA0 hval0 hsz0
  refine (SeqTurned_walk W (hval 0 24 v0 rfl rfl) h0 (hval 1 3 v1 rfl rfl) h1 (hval 2 43 v2 rfl rfl) h2 (hval 3 43 v3 rfl rfl) h3 hsz).mono fun e W' ⟨he, bel⟩ => ?_
  subst he
  exact ⟨_, rfl, _, _, _, [], _, [], hW', trodAll_mk1 (shut_bool Tryz.underlying4 _), (trodAll_cons_mk (Below.trod laidOut (by kernel_rfl) (of_decide_eq_true (by kernel_rfl)) h0 bel lt0) (trodAll_cons_mk (Below.trod laidOut (by kernel_rfl) (of_decide_eq_true (by kernel_rfl)) h1 bel lt1) (trodAll_cons_mk (Below.trod laidOut (by kernel_rfl) (of_decide_eq_true (by kernel_rfl)) h2 bel lt2) (trodAll_cons_mk (Below.trod laidOut (by kernel_rfl) (of_decide_eq_true (by kernel_rfl)) h3 bel lt3) trodAll_mk0)))), rfl, bel.frame _, fun h => (by cases h)⟩
theorem and_tt {a b : Bool} (h : a = true) (k : b = true) : (a && b) = true := by rw [h, k]; rfl
theorem and_l {a b : Bool} (h : (a && b) = true) : a = true := by cases a <;> simp_all
theorem and_r {a b : Bool} (h : (a && b) = true) : b = true := by cases b <;> simp_all
theorem jf0 : ((Rows.seqTurnedRow.wf (OpenSpec.ofChange Rows.seqTurnedSpec)) && (laidOutB Tryz.pinned.checked.prog) && (mapsRowed Tryz.pinned.checked.prog) && (Tryz.f9.params.all (Tryz.pinned.checked.prog.readableRec ·)) && (namedTie Tryz.pinned.checked.prog Rows.seqTurnedRow.named Rows.seqTurnedSpec.vars) && ((Rows.seqTurnedRow.stops == [])) && ((Tryz.pinned.checked.prog.stops == [])) && ((Rows.seqTurnedRow.knobs == [])) && ((Tryz.pinned.checked.prog.stopKnobs == []))) = true := by kernel_rfl
theorem jf1 : (((Rows.seqTurnedRow.inPlace == Tryz.pinned.checked.prog.inPlace 9)) && ((Rows.seqTurnedRow.unfollowed == Tryz.pinned.checked.prog.unfollowed 9)) && ((Rows.seqTurnedRow.recurses == Tryz.pinned.checked.prog.recurses 9)) && ((Rows.seqTurnedRow.named == Tryz.pinned.checked.prog.varsNamed 9))) = true := by kernel_rfl
theorem jf2 : (((Rows.seqTurnedRow.maps == (Tryz.f9.params.toList ++ Rows.seqTurnedSpec.plain.varTypes Tryz.pinned.checked.prog).any (Tryz.pinned.checked.prog.mapsRec ·))) && ((Rows.seqTurnedRow.ifaces == (Tryz.f9.params.toList ++ Rows.seqTurnedSpec.plain.varTypes Tryz.pinned.checked.prog).any (Tryz.pinned.checked.prog.ifacesRec ·))) && ((Rows.seqTurnedRow.mapsOut == Tryz.pinned.checked.prog.mapsAmong Tryz.f9.resultTypes.toList)) && ((Rows.seqTurnedRow.loops == (Tryz.f9.params.toList ++ Rows.seqTurnedSpec.plain.varTypes Tryz.pinned.checked.prog).any (Tryz.pinned.checked.prog.loopsFrom ·))) && ((Rows.seqTurnedRow.wideKeys == (Tryz.f9.params.toList ++ Rows.seqTurnedSpec.plain.varTypes Tryz.pinned.checked.prog ++ Tryz.f9.resultTypes.toList).any (Tryz.pinned.checked.prog.wideKeysFrom ·))) && (Rows.seqTurnedSpec.vars.all (Tryz.pinned.checked.prog.varReadable ·)) && (Tryz.f9.resultTypes.all (fun t => Tryz.pinned.checked.prog.readableRec t && decide (t < Tryz.pinned.checked.prog.types.size))) && ((Rows.seqTurnedRow.ifacesOut == Tryz.f9.resultTypes.toList.any (Tryz.pinned.checked.prog.ifacesRec ·))) && ((Rows.seqTurnedRow.loopsOut == Tryz.f9.resultTypes.toList.any (Tryz.pinned.checked.prog.loopsFrom ·))) && ((Rows.seqTurnedRow.plainKeys == Tryz.pinned.checked.prog.plainKeys)) && (Rows.seqTurnedRow.shortTexts.isNone) && (Tryz.pinned.checked.prog.stopsHeard) && (Tryz.pinned.checked.prog.mayEnter) && ((Rows.seqTurnedRow.lifted == Tryz.pinned.checked.prog.liftsFinal)) && ((Tryz.pinned.checked.prog.make == some Rows.seqTurnedRow.make)) && ((Rows.seqTurnedRow.kinds == (if Rows.seqTurnedRow.domain.isEmpty then [] else Tryz.f9.params.toList.map fun t => match Tryz.pinned.checked.prog.underlying t with | some (.int k) => some k | _ => none))) && ((Rows.seqTurnedRow.pinned == Rows.seqTurnedRow.pinnedBy)) && ((Rows.seqTurnedRow.veiled == (Tryz.f9.params.toList ++ Rows.seqTurnedSpec.plain.varTypes Tryz.pinned.checked.prog ++ Tryz.f9.resultTypes.toList).any (Tryz.pinned.checked.prog.veiledRec ·))) && (Rows.seqTurnedRow.veiledFits Tryz.pinned.checked.prog Tryz.f9.params.toList (Tryz.f9.params.toList ++ Rows.seqTurnedSpec.plain.varTypes Tryz.pinned.checked.prog ++ Tryz.f9.resultTypes.toList))) = true := by kernel_rfl
set_option maxRecDepth 100000 in
theorem jf : joinedFacts Tryz.pinned.checked.prog 9 Tryz.f9 Rows.seqTurnedSpec Rows.seqTurnedRow = true := (and_tt (and_tt (and_tt (and_tt (and_tt (and_tt (and_tt (and_tt (and_tt (and_tt (and_tt (and_tt (and_tt (and_tt (and_tt (and_tt (and_tt (and_tt (and_tt (and_tt (and_tt (and_tt (and_tt (and_tt (and_tt (and_tt (and_tt (and_tt (and_tt (and_tt (and_tt (and_l (and_l (and_l (and_l (and_l (and_l (and_l (and_l jf0)))))))) (and_r (and_l (and_l (and_l (and_l (and_l (and_l (and_l jf0))))))))) (and_r (and_l (and_l (and_l (and_l (and_l (and_l jf0)))))))) (and_r (and_l (and_l (and_l (and_l (and_l jf0))))))) (and_r (and_l (and_l (and_l (and_l jf0)))))) (and_r (and_l (and_l (and_l jf0))))) (and_r (and_l (and_l jf0)))) (and_r (and_l jf0))) (and_r jf0)) (and_l (and_l (and_l jf1)))) (and_r (and_l (and_l jf1)))) (and_r (and_l jf1))) (and_r jf1)) (and_l (and_l (and_l (and_l (and_l (and_l (and_l (and_l (and_l (and_l (and_l (and_l (and_l (and_l (and_l (and_l (and_l (and_l jf2))))))))))))))))))) (and_r (and_l (and_l (and_l (and_l (and_l (and_l (and_l (and_l (and_l (and_l (and_l (and_l (and_l (and_l (and_l (and_l (and_l jf2))))))))))))))))))) (and_r (and_l (and_l (and_l (and_l (and_l (and_l (and_l (and_l (and_l (and_l (and_l (and_l (and_l (and_l (and_l (and_l jf2)))))))))))))))))) (and_r (and_l (and_l (and_l (and_l (and_l (and_l (and_l (and_l (and_l (and_l (and_l (and_l (and_l (and_l (and_l jf2))))))))))))))))) (and_r (and_l (and_l (and_l (and_l (and_l (and_l (and_l (and_l (and_l (and_l (and_l (and_l (and_l (and_l jf2)))))))))))))))) (and_r (and_l (and_l (and_l (and_l (and_l (and_l (and_l (and_l (and_l (and_l (and_l (and_l (and_l jf2))))))))))))))) (and_r (and_l (and_l (and_l (and_l (and_l (and_l (and_l (and_l (and_l (and_l (and_l (and_l jf2)))))))))))))) (and_r (and_l (and_l (and_l (and_l (and_l (and_l (and_l (and_l (and_l (and_l (and_l jf2))))))))))))) (and_r (and_l (and_l (and_l (and_l (and_l (and_l (and_l (and_l (and_l (and_l jf2)))))))))))) (and_r (and_l (and_l (and_l (and_l (and_l (and_l (and_l (and_l (and_l jf2))))))))))) (and_r (and_l (and_l (and_l (and_l (and_l (and_l (and_l (and_l jf2)))))))))) (and_r (and_l (and_l (and_l (and_l (and_l (and_l (and_l jf2))))))))) (and_r (and_l (and_l (and_l (and_l (and_l (and_l jf2)))))))) (and_r (and_l (and_l (and_l (and_l (and_l jf2))))))) (and_r (and_l (and_l (and_l (and_l jf2)))))) (and_r (and_l (and_l (and_l jf2))))) (and_r (and_l (and_l jf2)))) (and_r (and_l jf2))) (and_r jf2))
theorem over : Rows.seqTurnedRow.holds Tryz.pinned (OpenSpec.ofChange Rows.seqTurnedSpec) :=
  OpenClaim.holds_of_wide 9 Tryz.f9 rfl rfl rfl rfl rfl rfl rfl ⟨rfl, rfl, rfl, rfl, rfl⟩ rfl rfl rfl rfl rfl (by kernel_rfl) Tryz.func9 jf
    (of_decide_eq_true (by kernel_rfl)) (by unfold Func.isWrapper; first | (rw [if_pos (by decide +kernel)]; kernel_rfl) | (rw [if_neg (by decide +kernel)]; exact ⟨rfl, rfl⟩))
    (fun os started H enc _ => lifted os started H enc)
end seqTurned
theorem seqTurned_holds : Rows.SeqTurnedSaid := seqTurned.over
end Go.Proofs.YtckdofjpoajblaaGreat
