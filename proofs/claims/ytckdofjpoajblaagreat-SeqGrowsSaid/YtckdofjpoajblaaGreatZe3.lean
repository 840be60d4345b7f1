/- Part 3 of the proof of seqGrows_holds: what it rests on. -/
import Derived.Test.YtckdofjpoajblaaGreatZe2
namespace Go.Proofs.YtckdofjpoajblaaGreat
open Go.RowKit
open Go.ChangeShapes Go.WideShapes Go.ChangeAt
set_option linter.unusedVariables false
namespace seqGrows
theorem own : ownKnob Tryz.prog.godebug = none := by kernel_rfl
theorem laidOut : laidOutB Tryz.prog = true := by kernel_rfl
set_option maxRecDepth 100000 in
theorem lifted (os : Os) (started : os.Started) (H : Type) (enc : TypeId × Value → H) :
    ReturnsInHanded {} Tryz.checked os 10 .any (Rows.seqGrowsSpec.pre6 enc Tryz.prog Tryz.f10 Rows.seqGrowsRow.domain false) (Rows.seqGrowsSpec.post enc Tryz.prog Tryz.f10 false true false false) := by
  refine returnsInHanded_of_change_sized (C := Tryz.checked) own started (by kernel_rfl) Tryz.func10
    (ChangeSpec.witness6 (enc := enc) (C := Tryz.checked) false ⟨#[], #[.agg #[.int .i64 0, .int .i64 0, .slice none 0 0], .int .i64 0, .int .i64 0, .int .i64 0, .slice none 0 0], []⟩ 8 (by kernel_rfl) (by kernel_rfl) (by kernel_rfl) (by kernel_rfl)) ?_
  intro W base args ds gs before hval0 hW hcnd hsz0 _
  have hval : ∀ (j : Nat) t v, Tryz.f10.params[j]? = some t → args[j]? = some v → Value.okWide Tryz.prog W .any base t v := hval0
  have hW' := hW
  obtain ⟨p, q, hA0, hV, rfl, hfz, hnd⟩ := hW
  have hA : DataW.TrodAll enc Tryz.prog W 0 (fun _ => true) true Tryz.f10.params.toList args.toList ds p := hA0
  rw [Tryz.params10] at hA hval
  obtain ⟨v0, vs0, d0, ds0, p0, q0, hargs, rfl, rfl, h0, r0⟩ := trodAll_cons hA
  obtain ⟨v1, vs1, d1, ds1, p1, q1, rfl, rfl, rfl, h1, r1⟩ := trodAll_cons r0
  obtain ⟨v2, vs2, d2, ds2, p2, q2, rfl, rfl, rfl, h2, r2⟩ := trodAll_cons r1
  obtain ⟨v3, vs3, d3, ds3, p3, q3, rfl, rfl, rfl, h3, r3⟩ := trodAll_cons r2
  obtain ⟨v4, vs4, d4, ds4, p4, q4, rfl, rfl, rfl, h4, r4⟩ := trodAll_cons r3
  obtain ⟨rfl, rfl, rfl⟩ := trodAll_nil r4
  obtain rfl : args = #[v0, v1, v2, v3, v4] := by cases args; simp_all
  obtain ⟨rfl, rfl⟩ := trodVars_none hV
  have lt0 : ∀ x ∈ p0, x.block < W.heap.size := by obtain ⟨m, hm⟩ := h0; exact DataW.trod_lt m _ _ _ hm
  have lt1 : ∀ x ∈ p1, x.block < W.heap.size := by obtain ⟨m, hm⟩ := h1; exact DataW.trod_lt m _ _ _ hm
  have lt2 : ∀ x ∈ p2, x.block < W.heap.size := by obtain ⟨m, hm⟩ := h2; exact DataW.trod_lt m _ _ _ hm
  have lt3 : ∀ x ∈ p3, x.block < W.heap.size := by obtain ⟨m, hm⟩ := h3; exact DataW.trod_lt m _ _ _ hm
  have lt4 : ∀ x ∈ p4, x.block < W.heap.size := by obtain ⟨m, hm⟩ := h4; exact DataW.trod_lt m _ _ _ hm
  clear hA0 hval0 hsz0
  refine (SeqGrows_walk W (hval 0 24 v0 rfl rfl) h0 (hval 1 3 v1 rfl rfl) h1 (hval 2 3 v2 rfl rfl) h2 (hval 3 3 v3 rfl rfl) h3 (hval 4 43 v4 rfl rfl) h4).mono fun e W' ⟨he, bel⟩ => ?_
  subst he
  exact ⟨_, rfl, _, _, _, [], _, [], hW', trodAll_mk1 (shut_bool Tryz.underlying4 _), (trodAll_cons_mk (Below.trod laidOut (by kernel_rfl) (of_decide_eq_true (by kernel_rfl)) h0 bel lt0) (trodAll_cons_mk (Below.trod laidOut (by kernel_rfl) (of_decide_eq_true (by kernel_rfl)) h1 bel lt1) (trodAll_cons_mk (Below.trod laidOut (by kernel_rfl) (of_decide_eq_true (by kernel_rfl)) h2 bel lt2) (trodAll_cons_mk (Below.trod laidOut (by kernel_rfl) (of_decide_eq_true (by kernel_rfl)) h3 bel lt3) (trodAll_cons_mk (Below.trod laidOut (by kernel_rfl) (of_decide_eq_true (by kernel_rfl)) h4 bel lt4) trodAll_mk0))))), rfl, bel.frame _, fun h => (by cases h)⟩
theorem and_tt {a b : Bool} (h : a = true) (k : b = true) : (a && b) = true := by rw [h, k]; rfl
theorem and_l {a b : Bool} (h : (a && b) = true) : a = true := by cases a <;> simp_all
theorem and_r {a b : Bool} (h : (a && b) = true) : b = true := by cases b <;> simp_all
theorem jf0 : ((Rows.seqGrowsRow.wf (OpenSpec.ofChange Rows.seqGrowsSpec)) && (laidOutB Tryz.pinned.checked.prog) && (mapsRowed Tryz.pinned.checked.prog) && (Tryz.f10.params.all (Tryz.pinned.checked.prog.readableRec ·)) && (namedTie Tryz.pinned.checked.prog Rows.seqGrowsRow.named Rows.seqGrowsSpec.vars) && ((Rows.seqGrowsRow.stops == [])) && ((Tryz.pinned.checked.prog.stops == [])) && ((Rows.seqGrowsRow.knobs == [])) && ((Tryz.pinned.checked.prog.stopKnobs == []))) = true := by kernel_rfl
theorem jf1 : (((Rows.seqGrowsRow.inPlace == Tryz.pinned.checked.prog.inPlace 10)) && ((Rows.seqGrowsRow.unfollowed == Tryz.pinned.checked.prog.unfollowed 10)) && ((Rows.seqGrowsRow.recurses == Tryz.pinned.checked.prog.recurses 10)) && ((Rows.seqGrowsRow.named == Tryz.pinned.checked.prog.varsNamed 10))) = true := by kernel_rfl
theorem jf2 : (((Rows.seqGrowsRow.maps == (Tryz.f10.params.toList ++ Rows.seqGrowsSpec.plain.varTypes Tryz.pinned.checked.prog).any (Tryz.pinned.checked.prog.mapsRec ·))) && ((Rows.seqGrowsRow.ifaces == (Tryz.f10.params.toList ++ Rows.seqGrowsSpec.plain.varTypes Tryz.pinned.checked.prog).any (Tryz.pinned.checked.prog.ifacesRec ·))) && ((Rows.seqGrowsRow.mapsOut == Tryz.pinned.checked.prog.mapsAmong Tryz.f10.resultTypes.toList)) && ((Rows.seqGrowsRow.loops == (Tryz.f10.params.toList ++ Rows.seqGrowsSpec.plain.varTypes Tryz.pinned.checked.prog).any (Tryz.pinned.checked.prog.loopsFrom ·))) && ((Rows.seqGrowsRow.wideKeys == (Tryz.f10.params.toList ++ Rows.seqGrowsSpec.plain.varTypes Tryz.pinned.checked.prog ++ Tryz.f10.resultTypes.toList).any (Tryz.pinned.checked.prog.wideKeysFrom ·))) && (Rows.seqGrowsSpec.vars.all (Tryz.pinned.checked.prog.varReadable ·)) && (Tryz.f10.resultTypes.all (fun t => Tryz.pinned.checked.prog.readableRec t && decide (t < Tryz.pinned.checked.prog.types.size))) && ((Rows.seqGrowsRow.ifacesOut == Tryz.f10.resultTypes.toList.any (Tryz.pinned.checked.prog.ifacesRec ·))) && ((Rows.seqGrowsRow.loopsOut == Tryz.f10.resultTypes.toList.any (Tryz.pinned.checked.prog.loopsFrom ·))) && ((Rows.seqGrowsRow.plainKeys == Tryz.pinned.checked.prog.plainKeys)) && (Rows.seqGrowsRow.shortTexts.isNone) && (Tryz.pinned.checked.prog.stopsHeard) && (Tryz.pinned.checked.prog.mayEnter) && ((Rows.seqGrowsRow.lifted == Tryz.pinned.checked.prog.liftsFinal)) && ((Tryz.pinned.checked.prog.make == some Rows.seqGrowsRow.make)) && ((Rows.seqGrowsRow.kinds == (if Rows.seqGrowsRow.domain.isEmpty then [] else Tryz.f10.params.toList.map fun t => match Tryz.pinned.checked.prog.underlying t with | some (.int k) => some k | _ => none))) && ((Rows.seqGrowsRow.pinned == Rows.seqGrowsRow.pinnedBy)) && ((Rows.seqGrowsRow.veiled == (Tryz.f10.params.toList ++ Rows.seqGrowsSpec.plain.varTypes Tryz.pinned.checked.prog ++ Tryz.f10.resultTypes.toList).any (Tryz.pinned.checked.prog.veiledRec ·))) && (Rows.seqGrowsRow.veiledFits Tryz.pinned.checked.prog Tryz.f10.params.toList (Tryz.f10.params.toList ++ Rows.seqGrowsSpec.plain.varTypes Tryz.pinned.checked.prog ++ Tryz.f10.resultTypes.toList))) = true := by kernel_rfl
set_option maxRecDepth 100000 in
theorem jf : joinedFacts Tryz.pinned.checked.prog 10 Tryz.f10 Rows.seqGrowsSpec Rows.seqGrowsRow = true := (and_tt (and_tt (and_tt (and_tt (and_tt (and_tt (and_tt (and_tt (and_tt (and_tt (and_tt (and_tt (and_tt (and_tt (and_tt (and_tt (and_tt (and_tt (and_tt (and_tt (and_tt (and_tt (and_tt (and_tt (and_tt (and_tt (and_tt (and_tt (and_tt (and_tt (and_tt (and_l (and_l (and_l (and_l (and_l (and_l (and_l (and_l jf0)))))))) (and_r (and_l (and_l (and_l (and_l (and_l (and_l (and_l jf0))))))))) (and_r (and_l (and_l (and_l (and_l (and_l (and_l jf0)))))))) (and_r (and_l (and_l (and_l (and_l (and_l jf0))))))) (and_r (and_l (and_l (and_l (and_l jf0)))))) (and_r (and_l (and_l (and_l jf0))))) (and_r (and_l (and_l jf0)))) (and_r (and_l jf0))) (and_r jf0)) (and_l (and_l (and_l jf1)))) (and_r (and_l (and_l jf1)))) (and_r (and_l jf1))) (and_r jf1)) (and_l (and_l (and_l (and_l (and_l (and_l (and_l (and_l (and_l (and_l (and_l (and_l (and_l (and_l (and_l (and_l (and_l (and_l jf2))))))))))))))))))) (and_r (and_l (and_l (and_l (and_l (and_l (and_l (and_l (and_l (and_l (and_l (and_l (and_l (and_l (and_l (and_l (and_l (and_l jf2))))))))))))))))))) (and_r (and_l (and_l (and_l (and_l (and_l (and_l (and_l (and_l (and_l (and_l (and_l (and_l (and_l (and_l (and_l (and_l jf2)))))))))))))))))) (and_r (and_l (and_l (and_l (and_l (and_l (and_l (and_l (and_l (and_l (and_l (and_l (and_l (and_l (and_l (and_l jf2))))))))))))))))) (and_r (and_l (and_l (and_l (and_l (and_l (and_l (and_l (and_l (and_l (and_l (and_l (and_l (and_l (and_l jf2)))))))))))))))) (and_r (and_l (and_l (and_l (and_l (and_l (and_l (and_l (and_l (and_l (and_l (and_l (and_l (and_l jf2))))))))))))))) (and_r (and_l (and_l (and_l (and_l (and_l (and_l (and_l (and_l (and_l (and_l (and_l (and_l jf2)))))))))))))) (and_r (and_l (and_l (and_l (and_l (and_l (and_l (and_l (and_l (and_l (and_l (and_l jf2))))))))))))) (and_r (and_l (and_l (and_l (and_l (and_l (and_l (and_l (and_l (and_l (and_l jf2)))))))))))) (and_r (and_l (and_l (and_l (and_l (and_l (and_l (and_l (and_l (and_l jf2))))))))))) (and_r (and_l (and_l (and_l (and_l (and_l (and_l (and_l (and_l jf2)))))))))) (and_r (and_l (and_l (and_l (and_l (and_l (and_l (and_l jf2))))))))) (and_r (and_l (and_l (and_l (and_l (and_l (and_l jf2)))))))) (and_r (and_l (and_l (and_l (and_l (and_l jf2))))))) (and_r (and_l (and_l (and_l (and_l jf2)))))) (and_r (and_l (and_l (and_l jf2))))) (and_r (and_l (and_l jf2)))) (and_r (and_l jf2))) (and_r jf2))
theorem over : Rows.seqGrowsRow.holds Tryz.pinned (OpenSpec.ofChange Rows.seqGrowsSpec) :=
  OpenClaim.holds_of_wide 10 Tryz.f10 rfl rfl rfl rfl rfl rfl rfl ⟨rfl, rfl, rfl, rfl, rfl⟩ rfl rfl rfl rfl rfl (by kernel_rfl) Tryz.func10 jf
    (of_decide_eq_true (by kernel_rfl)) (by unfold Func.isWrapper; first | (rw [if_pos (by decide +kernel)]; kernel_rfl) | (rw [if_neg (by decide +kernel)]; exact ⟨rfl, rfl⟩))
    (fun os started H enc _ => lifted os started H enc)
end seqGrows
theorem seqGrows_holds : Rows.SeqGrowsSaid := seqGrows.over
end Go.Proofs.YtckdofjpoajblaaGreat
