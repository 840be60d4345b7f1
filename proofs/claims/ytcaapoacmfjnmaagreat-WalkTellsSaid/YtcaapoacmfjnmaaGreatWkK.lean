/- WalkTells: of any program all classes, and how many executions, prefixes and deadlocks there are, are the document's. -/
import Derived.Test.YtcaapoacmfjnmaaGreatWkJ
import Derived.Test.YtcaapoacmfjnmaaGreatArg
import Derived.JoinedTies
import GoSem.Claim
import Derived.KernelRfl
namespace Go.Proofs.YtcaapoacmfjnmaaGreat
open Go.RowKit
set_option linter.unusedVariables false

/-- so many at most -/
theorem mod600 (n : Int) : ∃ m : Nat, m < 600 ∧ wrap64 ((IntKind.u64.wrap n).tmod 600) = (m : Int) := by
  have h0 : 0 ≤ IntKind.u64.wrap n := by simp [IntKind.wrap, IntKind.signed, IntKind.bits]; omega
  generalize IntKind.u64.wrap n = u at h0
  obtain ⟨m, rfl⟩ : ∃ m : Nat, u = m := ⟨u.toNat, by omega⟩
  refine ⟨m % 600, Nat.mod_lt _ (by omega), ?_⟩
  rw [show (m : Int).tmod 600 = ((m % 600 : Nat) : Int) from rfl]
  exact IntWalk.wrap64_in _ (by have := Nat.mod_lt m (show 0 < 600 by omega); omega)
theorem in3_cells {w : World} {X : Nat} {a b c : Value} {T : TypeId} (h : w.heap[X]? = some (.cells #[a, b, c] T (0, 0))) : (w.cell? ⟨X, 0, none⟩ = some a ∧ w.cell? ⟨X, 1, none⟩ = some b ∧ w.cell? ⟨X, 2, none⟩ = some c) ∧ X < w.heap.size :=
  ⟨⟨by rw [cell_blk h]; rfl, by rw [cell_blk h]; rfl, by rw [cell_blk h]; rfl⟩, blk_lt h⟩
set_option maxRecDepth 100000 in
set_option maxHeartbeats 8000000 in
theorem walkTells_any (W : World) (p : Pg) (A : Option Addr) (cap : Nat) (f mm : Int) (hp : PgIn W p A) :
    Calls Tryz.prog 6 #[valP p A cap, .int .i64 f, .int .i64 mm] W fun e w' => e = .returned (.bool true) ∧ Below W.heap.size W w' := by
  obtain ⟨Wa, X, hWa, hX, hBa, hXl, hXe⟩ := pg_box W p.vars p.mtx A p.code.length cap
  have hpa := hp.below hBa
  have hfew : ∀ u, Below Wa.heap.size Wa u → Calls Tryz.prog 14 #[valP p A cap] u fun x w' => x = .returned (.bool (Pr.few p)) ∧ Below u.heap.size u w' := fun u hu => by
    have h := hpa.below hu
    exact fewP_any u p A cap h.1 h.2.1 h.2.2
  obtain ⟨fk, hfk⟩ : ∃ fk, fk = Pr.few p := ⟨_, rfl⟩
  rw [← hfk] at hfew
  obtain ⟨mo, hmo, hmoe⟩ := mod600 mm
  have hwall : ∀ u, Below Wa.heap.size Wa u → _ := fun u hu => walkAll_any u p A cap f mo (hpa.below hu) (by omega)
  have hrall : ∀ u, Below Wa.heap.size Wa u → _ := fun u hu => refAll6_any u p A cap f mo (hpa.below hu) (by omega)
  have hdead : ∀ u, Below Wa.heap.size Wa u → _ := fun u hu => deadlocks_any u p A cap f mo (hpa.below hu) (by omega)
  obtain ⟨⟨⟨c, ⟨ks, rn, sk⟩⟩, er⟩, hr⟩ : ∃ r, r = Pr.all6 p f mo := ⟨_, rfl⟩
  rw [← hr] at hwall hrall hdead
  have hkl : ks.length ≤ 1000000 := by
    by_cases hm : Pr.may p f
    · have hgd := Pr.over_good mo 32 (Pr.start p f.toNat) [] (0, Pr.sm0) ⟨Nat.le_refl _, Nat.le_refl _, Nat.le_refl _⟩
      have hcb := Pr.over_bound Pr.at6 mo 32 (Pr.start p f.toNat) [] (0, Pr.sm0) (Pr.start_wf hm.1 (by have := hm.2.1; have := hm.2.2; omega))
      unfold Pr.all6 at hr
      rw [if_pos hm] at hr
      simp only at hr
      split at hr
      · injection hr with h1 h2; injection h1 with h3 h4; injection h4 with h5 h6 h7; rw [h5]; simp
      · injection hr with h1 h2
        rw [← h1] at hgd hcb
        have h1 := hgd.1
        have h2 := hgd.2.1
        simp only at h1 h2 hcb
        omega
    · unfold Pr.all6 at hr
      rw [if_neg hm] at hr
      injection hr with h1 h2; injection h1 with h3 h4; injection h4 with h5 h6 h7; rw [h5]; simp [Pr.sm0]
  obtain ⟨nk, hnk⟩ : ∃ n, n = ks.length := ⟨_, rfl⟩
  unfold valP at hfew hwall hrall hdead ⊢
  unfold WAllOut at hwall
  unfold All6Out at hrall
  simp only at hwall hrall hdead
  rw [← hnk] at hwall hrall hkl
  have HXE := Lib.hid hXe
  have HB := Lib.hid hBa
  have HFEW := Lib.hid hfew
  have HWA := Lib.hid hwall
  have HRA := Lib.hid hrall
  have HDE := Lib.hid hdead
  have HNK := Lib.hid hnk
  have HMO := Lib.hid hmoe
  obtain ⟨x0, x1, x2, xl⟩ := hXe Wa (Below.refl _ _)
  clear hXe hBa hfew hpa hp hfk hwall hrall hdead hr hnk hmoe
  go_enter Tryz.func6, Tryz.ntmps6
  go_upto_region 2 with fail
  rw [← hWa, ← hX]
  clear hWa hX
  try rw [HMO.out]
  go_cut [23] (fun v w2 => Below Wa.heap.size Wa w2 ∧ ∃ z, v = .bool z)
  case first =>
    go_wp2_with fail
    refine (awake06 _).mono ?_
    rintro x w1 ⟨rfl, b1⟩
    have HB1 := Lib.hid b1
    clear b1 x0 x1 x2 xl
    obtain ⟨x0, x1, x2, xl⟩ := HXE.out w1 HB1.out
    go_wp2_with fail
    refine (HFEW.out w1 HB1.out).mono ?_
    rintro x w2 ⟨rfl, b2⟩
    have HB2 := Lib.hid (below_at HB1.out b2)
    clear b2
    cases fk with
    | false =>
      go_wp2_with fail
      go_meet
      exact ⟨HB2.out, _, rfl⟩
    | true =>
      go_wp2_with fail
      go_meet
      exact ⟨HB2.out, _, rfl⟩
  case rest =>
    obtain ⟨b1, z, rfl⟩ := hcut
    have HB1 := Lib.hid b1
    clear b1 x0 x1 x2 xl
    cases z with
    | true =>
      go_wp2_with fail
      refine (awake06 _).mono ?_
      rintro e w2 ⟨rfl, b2⟩
      go_wp2_with fail
      go_ret
      exact ⟨rfl, below_at HB.out (below_at HB1.out b2)⟩
    | false =>
      clear HFEW
      obtain ⟨x0, x1, x2, xl⟩ := HXE.out wc HB1.out
      try rw [HMO.out]
      go_wp2_with fail
      refine (HWA.out wc HB1.out).mono ?_
      rintro y w1 ⟨KA, kc, rfl, hkr, _, _, b1⟩
      obtain ⟨Z1, hZ1⟩ : ∃ z, z = w1.heap.size := ⟨_, rfl⟩
      obtain ⟨W2, hW2⟩ : ∃ z, z = w1.alloc (Obj.cells #[.slice KA nk kc, .int .i64 rn, .int .i64 c] 62) := ⟨_, rfl⟩
      have hZk : W2.heap[Z1]? = some (.cells #[.slice KA nk kc, .int .i64 rn, .int .i64 c] 62 (0, 0)) := by rw [hW2, hZ1]; exact heap_alloc_new w1 _
      have hb2 : Below w1.heap.size w1 W2 := by rw [hW2]; exact (Below.refl _ _).alloc (Nat.le_refl _) _
      have HB2 := Lib.hid (below_at HB1.out (below_at b1 hb2))
      have HZ1 := Lib.hid hZk
      have HK1 := Lib.hid (hkr.below hb2 (Nat.le_refl _))
      clear b1 hb2 hZk hkr x0 x1 x2 xl HB1 HWA
      obtain ⟨x0, x1, x2, xl⟩ := HXE.out W2 HB2.out
      go_upto_region 5 with fail
      rw [← hW2, ← hZ1]
      clear hW2 hZ1
      go_wp2_with fail
      refine (HRA.out W2 HB2.out).mono ?_
      rintro y w3 ⟨KB, kd, rfl, hkr, _, _, b3⟩
      obtain ⟨Z2, hZ2⟩ : ∃ z, z = w3.heap.size := ⟨_, rfl⟩
      obtain ⟨W4, hW4⟩ : ∃ z, z = w3.alloc (Obj.cells #[.slice KB nk kd, .int .i64 rn, .int .i64 c, .int .i64 sk] 46) := ⟨_, rfl⟩
      have hZk : W4.heap[Z2]? = some (.cells #[.slice KB nk kd, .int .i64 rn, .int .i64 c, .int .i64 sk] 46 (0, 0)) := by rw [hW4, hZ2]; exact heap_alloc_new w3 _
      have hb4 : Below w3.heap.size w3 W4 := by rw [hW4]; exact (Below.refl _ _).alloc (Nat.le_refl _) _
      have HB4 := Lib.hid (below_at HB2.out (below_at b3 hb4))
      have HZ1 := Lib.hid (blk_stepW HZ1.out (below_at b3 hb4))
      have HK1 := Lib.hid (HK1.out.below (below_at b3 hb4) (Nat.le_refl _))
      have HZ2 := Lib.hid hZk
      have HK2 := Lib.hid (hkr.below hb4 (Nat.le_refl _))
      clear b3 hb4 hZk hkr x0 x1 x2 xl HRA
      obtain ⟨x0, x1, x2, xl⟩ := HXE.out W4 HB4.out
      go_upto_region 6 with fail
      rw [← hW4, ← hZ2]
      clear hW4 hZ2
      go_wp2_with fail
      refine (HDE.out W4 HB4.out).mono ?_
      rintro y w5 ⟨rfl, b5⟩
      have HB5 := Lib.hid (below_at HB4.out b5)
      have HZ1 := Lib.hid (blk_stepW HZ1.out b5)
      have HZ2 := Lib.hid (blk_stepW HZ2.out b5)
      have HK1 := Lib.hid (HK1.out.below b5 (Nat.le_refl _))
      have HK2 := Lib.hid (HK2.out.below b5 (Nat.le_refl _))
      clear b5 x0 x1 x2 xl HDE
      obtain ⟨⟨y0, y1, y2⟩, yl⟩ := in3_cells HZ1.out
      obtain ⟨⟨z0, z1, z2, z3⟩, zl, _⟩ := in4_cells HZ2.out
      have hsame := same6_any w5 KA kc ks KB kd ks (by rw [← HNK.out]; exact HK1.out) (by rw [← HNK.out]; exact HK2.out) (by rw [← HNK.out]; omega)
      rw [decide_eq_true rfl, ← HNK.out] at hsame
      have HS := Lib.hid hsame
      clear hsame
      go_wp2_with fail
      refine HS.out.mono ?_
      rintro y w6 ⟨rfl, b6⟩
      have HB6 := Lib.hid (below_at HB5.out b6)
      have HZ1 := Lib.hid (blk_stepW HZ1.out b6)
      have HZ2 := Lib.hid (blk_stepW HZ2.out b6)
      clear b6 y0 y1 y2 yl z0 z1 z2 z3 zl HS
      obtain ⟨⟨y0, y1, y2⟩, yl⟩ := in3_cells HZ1.out
      obtain ⟨⟨z0, z1, z2, z3⟩, zl, _⟩ := in4_cells HZ2.out
      go_wp2_with fail
      go_ret
      exact ⟨by simp, below_at HB.out HB6.out⟩
open Go.ChangeShapes Go.WideShapes Go.ChangeAt
set_option maxRecDepth 100000 in
theorem WalkTells_walk {H : Type} {enc : TypeId × Value → H} (W : World) {base : Nat} {v0 v1 v2 : Value} {d0 d1 d2 : DataW H} {p0 p1 p2 : List MemPlace}
    (o0 : Value.okWide Tryz.prog W .any base 24 v0) (h0 : DataW.Trod enc Tryz.prog W 0 (fun _ => true) true 24 v0 d0 p0)
    (o1 : Value.okWide Tryz.prog W .any base 3 v1) (h1 : DataW.Trod enc Tryz.prog W 0 (fun _ => true) true 3 v1 d1 p1)
    (o2 : Value.okWide Tryz.prog W .any base 3 v2) (h2 : DataW.Trod enc Tryz.prog W 0 (fun _ => true) true 3 v2 d2 p2) :
    Calls Tryz.prog 6 #[v0, v1, v2] W fun e w' => e = .returned (.bool true) ∧ Below W.heap.size W w' := by
  obtain ⟨p, A, cap, rfl, hin⟩ := prog_arg o0 h0
  obtain ⟨f, rfl, rfl, rfl, _⟩ := open_int Tryz.underlying3 o1 h1
  obtain ⟨m, rfl, rfl, rfl, _⟩ := open_int Tryz.underlying3 o2 h2
  exact walkTells_any W p A cap f m hin
namespace walkTells
theorem own : ownKnob Tryz.prog.godebug = none := by kernel_rfl
theorem laidOut : laidOutB Tryz.prog = true := by kernel_rfl
set_option maxRecDepth 100000 in
theorem lifted (os : Os) (started : os.Started) (H : Type) (enc : TypeId × Value → H) :
    ReturnsInHanded {} Tryz.checked os 6 .any (Rows.walkTellsSpec.pre6 enc Tryz.prog Tryz.f6 Rows.walkTellsRow.domain false) (Rows.walkTellsSpec.post enc Tryz.prog Tryz.f6 false true false false) := by
  refine returnsInHanded_of_change_sized (C := Tryz.checked) own started (by kernel_rfl) Tryz.func6
    (ChangeSpec.witness6 (enc := enc) (C := Tryz.checked) false ⟨#[], #[.agg #[.int .i64 0, .int .i64 0, .slice none 0 0], .int .i64 0, .int .i64 0], []⟩ 8 (by kernel_rfl) (by kernel_rfl) (by kernel_rfl) (by kernel_rfl)) ?_
  intro W base args ds gs before hval0 hW hcnd hsz0 _
  have hval : ∀ (j : Nat) t v, Tryz.f6.params[j]? = some t → args[j]? = some v → Value.okWide Tryz.prog W .any base t v := hval0
  have hW' := hW
  obtain ⟨p, q, hA0, hV, rfl, hfz, hnd⟩ := hW
  have hA : DataW.TrodAll enc Tryz.prog W 0 (fun _ => true) true Tryz.f6.params.toList args.toList ds p := hA0
  rw [Tryz.params6] at hA hval
  obtain ⟨v0, vs0, d0, ds0, p0, q0, hargs, rfl, rfl, h0, r0⟩ := trodAll_cons hA
  obtain ⟨v1, vs1, d1, ds1, p1, q1, rfl, rfl, rfl, h1, r1⟩ := trodAll_cons r0
  obtain ⟨v2, vs2, d2, ds2, p2, q2, rfl, rfl, rfl, h2, r2⟩ := trodAll_cons r1
  obtain ⟨rfl, rfl, rfl⟩ := trodAll_nil r2
  obtain rfl : args = #[v0, v1, v2] := by cases args; simp_all
  obtain ⟨rfl, rfl⟩ := trodVars_none hV
  have lt0 : ∀ x ∈ p0, x.block < W.heap.size := by obtain ⟨m, hm⟩ := h0; exact DataW.trod_lt m _ _ _ hm
  have lt1 : ∀ x ∈ p1, x.block < W.heap.size := by obtain ⟨m, hm⟩ := h1; exact DataW.trod_lt m _ _ _ hm
  have lt2 : ∀ x ∈ p2, x.block < W.heap.size := by obtain ⟨m, hm⟩ := h2; exact DataW.trod_lt m _ _ _ hm
  clear hA0 hval0 hsz0
  refine (WalkTells_walk W (hval 0 24 v0 rfl rfl) h0 (hval 1 3 v1 rfl rfl) h1 (hval 2 3 v2 rfl rfl) h2).mono fun e W' ⟨he, bel⟩ => ?_
  subst he
  exact ⟨_, rfl, _, _, _, [], _, [], hW', trodAll_mk1 (shut_bool Tryz.underlying4 _), (trodAll_cons_mk (Below.trod laidOut (by kernel_rfl) (of_decide_eq_true (by kernel_rfl)) h0 bel lt0) (trodAll_cons_mk (Below.trod laidOut (by kernel_rfl) (of_decide_eq_true (by kernel_rfl)) h1 bel lt1) (trodAll_cons_mk (Below.trod laidOut (by kernel_rfl) (of_decide_eq_true (by kernel_rfl)) h2 bel lt2) trodAll_mk0))), rfl, bel.frame _, fun h => (by cases h)⟩
theorem over : Rows.walkTellsRow.holds Tryz.pinned (OpenSpec.ofChange Rows.walkTellsSpec) :=
  OpenClaim.holds_of_wide 6 Tryz.f6 rfl rfl rfl rfl rfl rfl rfl ⟨rfl, rfl, rfl, rfl, rfl⟩ rfl rfl rfl rfl rfl (by kernel_rfl) Tryz.func6 (by kernel_rfl)
    (of_decide_eq_true (by kernel_rfl)) (by unfold Func.isWrapper; first | (rw [if_pos (by decide +kernel)]; kernel_rfl) | (rw [if_neg (by decide +kernel)]; exact ⟨rfl, rfl⟩))
    (fun os started H enc _ => lifted os started H enc)
end walkTells
/-- The row. -/
theorem walkTells_holds : Rows.WalkTellsSaid := walkTells.over
#print axioms walkTells_holds
end Go.Proofs.YtcaapoacmfjnmaaGreat
