/- WalkFree: without instructions that take a mutex nobody ever waits at an end; two threads of local instructions alone have one class. -/
import Derived.Test.YtcaapoacmfjnmaaGreatWkN
import Derived.Test.YtcaapoacmfjnmaaGreatArg
import Derived.JoinedTies
import GoSem.Claim
import Derived.KernelRfl
namespace Go.Proofs.YtcaapoacmfjnmaaGreat
open Go.RowKit
set_option linter.unusedVariables false

theorem mod5 (n : Int) : ∃ m : Nat, m < 5 ∧ wrap64 ((IntKind.u64.wrap n).tmod 5) = (m : Int) := by
  have h0 : 0 ≤ IntKind.u64.wrap n := by simp [IntKind.wrap, IntKind.signed, IntKind.bits]; omega
  generalize IntKind.u64.wrap n = u at h0
  obtain ⟨m, rfl⟩ : ∃ m : Nat, u = m := ⟨u.toNat, by omega⟩
  refine ⟨m % 5, Nat.mod_lt _ (by omega), ?_⟩
  rw [show (m : Int).tmod 5 = ((m % 5 : Nat) : Int) from rfl]
  exact IntWalk.wrap64_in _ (by have := Nat.mod_lt m (show 0 < 5 by omega); omega)
theorem in3_cellsO {w : World} {X : Nat} {a b c : Value} {T : TypeId} (h : w.heap[X]? = some (.cells #[a, b, c] T (0, 0))) : (w.cell? ⟨X, 0, none⟩ = some a ∧ w.cell? ⟨X, 1, none⟩ = some b ∧ w.cell? ⟨X, 2, none⟩ = some c) ∧ X < w.heap.size :=
  ⟨⟨by rw [cell_blk h]; rfl, by rw [cell_blk h]; rfl, by rw [cell_blk h]; rfl⟩, blk_lt h⟩
set_option maxRecDepth 100000 in
set_option maxHeartbeats 8000000 in
theorem walkFree_any (W : World) (p : Pg) (A : Option Addr) (cap : Nat) (f aa bb : Int) (hp : PgIn W p A) :
    Calls Tryz.prog 9 #[valP p A cap, .int .i64 f, .int .i64 aa, .int .i64 bb] W fun e w' => e = .returned (.bool true) ∧ Below W.heap.size W w' := by
  obtain ⟨Wa, X, hWa, hX, hBa, hXl, hXe⟩ := pg_box W p.vars p.mtx A p.code.length cap
  have hpa := hp.below hBa
  have hsmall : ∀ u, Below Wa.heap.size Wa u → _ := fun u hu => small_any u p A cap f (hpa.below hu)
  have hdead : ∀ u, Below Wa.heap.size Wa u → _ := fun u hu => deadlocks_any u p A cap f 600 (hpa.below hu) (by omega)
  obtain ⟨sm, hsm⟩ : ∃ b, b = Pr.small p f := ⟨_, rfl⟩
  rw [← hsm] at hsmall
  obtain ⟨a, ha5, hae⟩ := mod5 aa
  obtain ⟨b, hb5, hbe⟩ := mod5 bb
  obtain ⟨o1, o2, o3⟩ := Fr6.ok_at ha5 hb5
  obtain ⟨⟨⟨c, ⟨ks, rn, sk⟩⟩, er⟩, hr⟩ : ∃ r, r = Pr.all6 (Fr6.pg a b) 8 600 := ⟨_, rfl⟩
  rw [← hr] at o1 o2 o3
  simp only at o1 o2 o3
  subst o1
  obtain ⟨nk, hnk⟩ : ∃ n, n = ks.length := ⟨_, rfl⟩
  rw [← hnk] at o2
  subst o2
  have hall : ∀ (u : World) (A1 A2 : Option Addr) (c1 c2 : Nat), Rd u 4 A1 a ((List.replicate a loc).flatMap encI) → Rd u 4 A2 b ((List.replicate b loc).flatMap encI) → a ≤ c1 → b ≤ c2 → c1 ≤ maxLen → c2 ≤ maxLen →
      Calls Tryz.prog 32 #[.agg #[.int .i64 0, .int .i64 0, .slice (some ⟨u.heap.size, 0, none⟩) 2 2], .int .i64 8, .int .i64 600] (u.alloc (Obj.cells #[.slice A1 a c1, .slice A2 b c2] 75)) fun x w' => (∃ A cap, x = .returned (.tuple #[.agg #[.slice A 1 cap, .int .i64 rn, .int .i64 c], .int .i64 0])) ∧ Below (u.alloc (Obj.cells #[.slice A1 a c1, .slice A2 b c2] 75)).heap.size (u.alloc (Obj.cells #[.slice A1 a c1, .slice A2 b c2] 75)) w' := fun u A1 A2 c1 c2 r1 r2 h1 h2 m1 m2 => by
    have hpg := pgin_two u 0 0 (List.replicate a loc) (List.replicate b loc) A1 A2 c1 c2 (by simpa using r1) (by simpa using r2) (by simpa using h1) (by simpa using h2) m1 m2
    simp only [List.length_replicate] at hpg
    have := walkAll_any _ (Fr6.pg a b) (some ⟨u.heap.size, 0, none⟩) 2 8 600 hpg (by omega)
    rw [← hr] at this
    exact this.mono fun x w' ⟨A, cap, hx, _, _, _, hb⟩ => ⟨⟨A, cap, by rw [hx]; simp only; rw [← hnk]⟩, hb⟩
  have hloc : ∀ (u : World) (n : Nat), n < 5 → Calls Tryz.prog 39 #[.int .i64 (n : Int)] u (LocOut u n) := fun u n hn => local_any u n (by omega)
  unfold valP at hsmall hdead ⊢
  have HXE := Lib.hid hXe
  have HB := Lib.hid hBa
  have HSMALL := Lib.hid hsmall
  have HDEAD := Lib.hid hdead
  have HPA := Lib.hid hpa
  have HSM := Lib.hid hsm
  have HALL := Lib.hid hall
  have HLOC := Lib.hid hloc
  have HA := Lib.hid hae
  have HBE := Lib.hid hbe
  have HRN := Lib.hid o3
  obtain ⟨x0, x1, x2, xl⟩ := hXe Wa (Below.refl _ _)
  clear hXe hBa hsmall hdead hpa hp hsm hall hloc hae hbe o3 hr hnk
  go_enter Tryz.func9, Tryz.ntmps9
  go_upto_region 2 with fail
  rw [← hWa, ← hX]
  clear hWa hX
  try rw [HA.out, HBE.out]
  go_wp2_with fail
  refine (awake06 _).mono ?_
  rintro x w1 ⟨rfl, b1⟩
  have HB1 := Lib.hid b1
  clear b1 x0 x1 x2 xl
  go_wp2_with fail
  refine (HLOC.out w1 a ha5).mono ?_
  rintro y w2 ⟨A1, c1, rfl, r1, l1, m1, b2⟩
  have HB2 := Lib.hid (below_at HB1.out b2)
  have HR1 := Lib.hid (And.intro r1 (And.intro l1 m1))
  clear b2 r1 l1 m1
  go_wp2_with fail
  refine (HLOC.out w2 b hb5).mono ?_
  rintro y w3 ⟨A2, c2, rfl, r2, l2, m2, b3⟩
  have HC := Lib.hid (HALL.out w3 A1 A2 c1 c2 (HR1.out.1.below b3 (Nat.le_refl _)) r2 HR1.out.2.1 l2 HR1.out.2.2 m2)
  have HB3 := Lib.hid (below_at HB2.out b3)
  clear b3 r2 l2 m2 HALL
  go_wp2_with fail
  refine HC.out.mono ?_
  rintro y w4 ⟨⟨A4, c4, rfl⟩, b4⟩
  obtain ⟨X1, hX1⟩ : ∃ z, z = w4.heap.size := ⟨_, rfl⟩
  obtain ⟨W5, hW5⟩ : ∃ z, z = w4.alloc (Obj.cells #[.slice A4 1 c4, .int .i64 rn, .int .i64 c] 62) := ⟨_, rfl⟩
  have hk5 : W5.heap[X1]? = some (.cells #[.slice A4 1 c4, .int .i64 rn, .int .i64 c] 62 (0, 0)) := by rw [hW5, hX1]; exact heap_alloc_new w4 _
  have hb3a : Below w3.heap.size w3 (w3.alloc (Obj.cells #[.slice A1 a c1, .slice A2 b c2] 75)) := (Below.refl _ _).alloc (Nat.le_refl _) _
  have hb5' : Below w4.heap.size w4 W5 := by rw [hW5]; exact (Below.refl _ _).alloc (Nat.le_refl _) _
  have HB5 := Lib.hid (below_at HB3.out (below_at (below_at hb3a b4) hb5'))
  have HK5 := Lib.hid hk5
  clear b4 hk5 hb3a hb5' HC
  go_upto_region 5 with fail
  rw [← hW5, ← hX1]
  clear hW5 hX1
  go_wp2_with fail
  go_loopw [11, 40] (fun r v wr => ∃ i : Nat, i ≤ b ∧ v = .int .i64 i ∧ r = .int .i64 (Fr6.rn a i : Nat) ∧ wr = W5) (fun _ v _ => b - (intOf v).toNat)
  case atStart => exact ⟨0, Nat.zero_le _, rfl, rfl, rfl⟩
  case round =>
    obtain ⟨i, hi, rfl, rfl, rfl⟩ := hrel
    by_cases hlt : i < b
    · have k1 : (0 : Int) ≤ (i : Int) := Int.natCast_nonneg _
      have k2 : (i : Int) < (b : Int) := by omega
      have hr1 := Fr6.rn_at ha5 (show i < 5 by omega)
      obtain ⟨r, hr⟩ : ∃ r, r = Fr6.rn a i := ⟨_, rfl⟩
      rw [← hr] at hr1 ⊢
      have hr2 : Fr6.rn a (i + 1) = r * (a + i + 1) / (i + 1) := by rw [hr]; rfl
      have hmul : r * (a + i + 1) ≤ 1000 * 9 := Nat.mul_le_mul hr1 (by omega)
      have HR2 := Lib.hid hr2
      have HMUL := Lib.hid hmul
      clear hr hr2 hmul
      go_upto_region 10 with fail
      have e9 : wrap64 ((wrap64 ((r : Int) * ((a : Int) + (i : Int) + 1))).tdiv ((i : Int) + 1)) = ((Fr6.rn a (i + 1) : Nat) : Int) := by
        have h1 : (r : Int) * ((a : Int) + (i : Int) + 1) = ((r * (a + i + 1) : Nat) : Int) := by push_cast; rfl
        have h2 : ((i : Int) + 1) = ((i + 1 : Nat) : Int) := by push_cast; rfl
        have h3 := HMUL.out
        have h6 : wrap64 ((r * (a + i + 1) : Nat) : Int) = ((r * (a + i + 1) : Nat) : Int) := IntWalk.wrap64_in _ (by omega)
        rw [h1, h2, h6, HR2.out]
        have h4 : ((r * (a + i + 1) : Nat) : Int).tdiv ((i + 1 : Nat) : Int) = ((r * (a + i + 1) / (i + 1) : Nat) : Int) := rfl
        rw [h4]
        have h5 : r * (a + i + 1) / (i + 1) ≤ r * (a + i + 1) := Nat.div_le_self _ _
        generalize r * (a + i + 1) / (i + 1) = dd at h5 ⊢
        exact IntWalk.wrap64_in _ (by omega)
      rw [e9]
      clear e9
      go_wp2_with fail
      go_roundw
      case rel => exact ⟨i + 1, by omega, by go_num, rfl, by first | rfl | trivial⟩
      case measure => simp [intOf]; omega
    · obtain rfl : i = b := by omega
      have hrn := HRN.out
      rw [← hrn]
      have e1 : ((rn : Int) != (rn : Int)) = false := by simp
      obtain ⟨⟨y0, y1, y2⟩, yl⟩ := in3_cellsO HK5.out
      obtain ⟨x0, x1, x2, xl⟩ := HXE.out wr HB5.out
      have HSM5 := Lib.hid (HSMALL.out wr HB5.out)
      clear hrn
      go_wp2_with fail
      refine HSM5.out.mono ?_
      rintro y w6 ⟨rfl, b6⟩
      have HB6 := Lib.hid (below_at HB5.out b6)
      clear b6 HSM5 HSMALL y0 y1 y2 yl x0 x1 x2 xl
      cases sm with
      | false =>
        go_wp2_with fail
        go_ret
        exact ⟨rfl, below_at HB.out HB6.out⟩
      | true =>
        obtain ⟨m, rfl, hm8, hok, _, _, hall6⟩ := Pr.small_spec HSM.out.symm
        have hq8 : ∀ (j : Nat) (q : List Ins), p.code[j]? = some q → q.length ≤ 8 := fun j q hq => (hok.2 q (List.mem_of_getElem? hq)).1
        have hn4 : p.code.length ≤ 4 := hok.1.2.2.2.2.2
        have HOK := Lib.hid (And.intro hok (And.intro hm8 hall6))
        have HQ8 := Lib.hid hq8
        obtain ⟨np, hnp⟩ : ∃ n, n = p.code.length := ⟨_, rfl⟩
        rw [← hnp] at hn4
        have HNP := Lib.hid hnp
        obtain ⟨x0, x1, x2, xl⟩ := HXE.out w6 HB6.out
        rw [← hnp] at x2
        rw [← hnp]
        clear hok hm8 hall6 hq8 hnp
        go_wp2_with fail
        go_loopw [74] (fun v wz => ∃ i : Nat, i ≤ np ∧ v = .int .i64 i ∧ Hid (∀ q ∈ p.code.take i, ∀ x ∈ q, x.k ≠ 5) ∧ Hid (Below w6.heap.size w6 wz)) (fun v _ => np - (intOf v).toNat)
        case atStart => exact ⟨0, Nat.zero_le _, rfl, Lib.hid (fun q hq => by simp at hq), Lib.hid (Below.refl _ _)⟩
        case round =>
          clear x0 x1 x2 xl
          obtain ⟨i, hi, rfl, HNL, HBR⟩ := hrel
          rename World => V
          by_cases hlt : i < np
          · obtain ⟨q, hq⟩ := get_some (show i < p.code.length by rw [← HNP.out]; exact hlt)
            have hq8 := HQ8.out i q hq
            obtain ⟨g, og, A', c', rfl, hCg, hgl, hrq, _, _, hcell⟩ := HPA.out.1.get i q hq
            have hbw : Below Wa.heap.size Wa V := below_at HB6.out HBR.out
            have ca := hcell V (hbw.block g hgl)
            have lg := Nat.lt_of_lt_of_le hgl hbw.size
            have k1 : (0 : Int) ≤ (i : Int) := Int.natCast_nonneg _
            have k2 : (i : Int) < (np : Int) := by omega
            obtain ⟨nq, hnq⟩ : ∃ n, n = q.length := ⟨_, rfl⟩
            rw [← hnq] at ca hq8
            have HRQ := Lib.hid hrq
            have HQ := Lib.hid (And.intro hq hnq)
            clear hCg hgl hrq hcell hbw hq hnq
            go_wp2_with fail
            go_loopw [80] (fun v wz => ∃ j : Nat, j ≤ nq ∧ v = .int .i64 j ∧ Hid (∀ x ∈ q.take j, x.k ≠ 5) ∧ Hid (Below V.heap.size V wz)) (fun v _ => nq - (intOf v).toNat)
            case atStart => exact ⟨0, Nat.zero_le _, rfl, Lib.hid (fun x hx => by simp at hx), Lib.hid (Below.refl _ _)⟩
            case round =>
              clear ca lg
              obtain ⟨j, hj, rfl, HNJ, HBJ⟩ := hrel
              by_cases hltj : j < nq
              · obtain ⟨ii, hii⟩ := get_some (show j < q.length by rw [← HQ.out.2]; exact hltj)
                obtain ⟨g2, o2, rfl, _, hl2, hic⟩ := HRQ.out.ins j ii hii
                have hbj : Below Wa.heap.size Wa wr := below_at (below_at HB6.out HBR.out) HBJ.out
                obtain ⟨⟨i0, i1, i2, i3⟩⟩ := And.intro (hic wr (hbj.block g2 hl2)) trivial
                have il := Nat.lt_of_lt_of_le hl2 hbj.size
                have k3 : (0 : Int) ≤ (j : Int) := Int.natCast_nonneg _
                have k4 : (j : Int) < (nq : Int) := by omega
                obtain ⟨ik, ir, ix, im⟩ := ii
                have HII := Lib.hid hii
                simp only at i0 i1 i2 i3
                clear hic hbj hii hl2
                by_cases h5 : ik = 5
                · subst h5
                  go_wp2_with fail
                  go_ret
                  have hb8 := below_at (below_at (below_at HB.out HB6.out) HBR.out) HBJ.out
                  exact ⟨rfl, hb8.alloc hb8.size _⟩
                · have e5 : (ik == 5) = false := by simpa using h5
                  have H5 := Lib.hid h5
                  clear h5
                  go_wp2_with fail
                  go_roundw
                  case rel => exact ⟨j + 1, by omega, by go_num, Lib.hid (fun x hx => by
                    rw [List.take_add_one, HII.out] at hx
                    rcases List.mem_append.1 hx with h | h
                    · exact HNJ.out x h
                    · simp at h; subst h; exact H5.out), Lib.hid (HBJ.out.alloc HBJ.out.size _)⟩
                  case measure => simp [intOf]; omega
              · have hjq : j = nq := by omega
                have hqn : ∀ x ∈ q, x.k ≠ 5 := fun x hx => HNJ.out x (by rw [List.take_of_length_le (by rw [hjq, HQ.out.2]; exact Nat.le_refl _)]; exact hx)
                have HQN := Lib.hid hqn
                have k4 : ¬ (j : Int) < (nq : Int) := by omega
                clear hqn hjq
                go_wp2_with fail
                go_roundw
                case rel => exact ⟨i + 1, by omega, by go_num, Lib.hid (fun z hz => by
                  rw [List.take_add_one, HQ.out.1] at hz
                  rcases List.mem_append.1 hz with h | h
                  · exact HNL.out z h
                  · simp at h; subst h; exact HQN.out), Lib.hid (below_at HBR.out HBJ.out)⟩
                case measure => simp [intOf]; omega
          · have hin : i = np := by omega
            have hno : ∀ q ∈ p.code, ∀ x ∈ q, x.k ≠ 5 := fun q hq => HNL.out q (by rw [List.take_of_length_le (by rw [hin, HNP.out]; exact Nat.le_refl _)]; exact hq)
            have hst := Pr.free_stuck HOK.out.1 HOK.out.2.1 hno
            have hd := HDEAD.out V (below_at HB6.out HBR.out)
            rw [HOK.out.2.2] at hd
            simp only [hst] at hd
            have HD := Lib.hid hd
            obtain ⟨x0, x1, x2, xl⟩ := HXE.out V (below_at HB6.out HBR.out)
            have k4 : ¬ (i : Int) < (np : Int) := by omega
            clear hin hno hst hd
            go_wp2_with fail
            refine HD.out.mono ?_
            rintro y w9 ⟨rfl, b9⟩
            have HB9 := Lib.hid (below_at (below_at HB6.out HBR.out) b9)
            clear b9
            go_wp2_with fail
            go_ret
            exact ⟨rfl, below_at HB.out HB9.out⟩
open Go.ChangeShapes Go.WideShapes Go.ChangeAt
set_option maxRecDepth 100000 in
theorem WalkFree_walk {H : Type} {enc : TypeId × Value → H} (W : World) {base : Nat} {v0 v1 v2 v3 : Value} {d0 d1 d2 d3 : DataW H} {p0 p1 p2 p3 : List MemPlace}
    (o0 : Value.okWide Tryz.prog W .any base 24 v0) (h0 : DataW.Trod enc Tryz.prog W 0 (fun _ => true) true 24 v0 d0 p0)
    (o1 : Value.okWide Tryz.prog W .any base 3 v1) (h1 : DataW.Trod enc Tryz.prog W 0 (fun _ => true) true 3 v1 d1 p1)
    (o2 : Value.okWide Tryz.prog W .any base 3 v2) (h2 : DataW.Trod enc Tryz.prog W 0 (fun _ => true) true 3 v2 d2 p2)
    (o3 : Value.okWide Tryz.prog W .any base 3 v3) (h3 : DataW.Trod enc Tryz.prog W 0 (fun _ => true) true 3 v3 d3 p3) :
    Calls Tryz.prog 9 #[v0, v1, v2, v3] W fun e w' => e = .returned (.bool true) ∧ Below W.heap.size W w' := by
  obtain ⟨p, A, cap, rfl, hin⟩ := prog_arg o0 h0
  obtain ⟨f, rfl, rfl, rfl, _⟩ := open_int Tryz.underlying3 o1 h1
  obtain ⟨a, rfl, rfl, rfl, _⟩ := open_int Tryz.underlying3 o2 h2
  obtain ⟨b, rfl, rfl, rfl, _⟩ := open_int Tryz.underlying3 o3 h3
  exact walkFree_any W p A cap f a b hin
namespace walkFree
theorem own : ownKnob Tryz.prog.godebug = none := by kernel_rfl
theorem laidOut : laidOutB Tryz.prog = true := by kernel_rfl
set_option maxRecDepth 100000 in
theorem lifted (os : Os) (started : os.Started) (H : Type) (enc : TypeId × Value → H) :
    ReturnsInHanded {} Tryz.checked os 9 .any (Rows.walkFreeSpec.pre6 enc Tryz.prog Tryz.f9 Rows.walkFreeRow.domain false) (Rows.walkFreeSpec.post enc Tryz.prog Tryz.f9 false true false false) := by
  refine returnsInHanded_of_change_sized (C := Tryz.checked) own started (by kernel_rfl) Tryz.func9
    (ChangeSpec.witness6 (enc := enc) (C := Tryz.checked) false ⟨#[], #[.agg #[.int .i64 0, .int .i64 0, .slice none 0 0], .int .i64 0, .int .i64 0, .int .i64 0], []⟩ 8 (by kernel_rfl) (by kernel_rfl) (by kernel_rfl) (by kernel_rfl)) ?_
  intro W base args ds gs before hval0 hW hcnd hsz0 _
  have hval : ∀ (j : Nat) t v, Tryz.f9.params[j]? = some t → args[j]? = some v → Value.okWide Tryz.prog W .any base t v := hval0
  have hW' := hW
  obtain ⟨p, q, hA0, hV, rfl, hfz, hnd⟩ := hW
  have hA : DataW.TrodAll enc Tryz.prog W 0 (fun _ => true) true Tryz.f9.params.toList args.toList ds p := hA0
  rw [Tryz.params9] at hA hval
  obtain ⟨v0, vs0, d0, ds0, p0, q0, hargs, rfl, rfl, h0, r0⟩ := trodAll_cons hA
  obtain ⟨v1, vs1, d1, ds1, p1, q1, rfl, rfl, rfl, h1, r1⟩ := trodAll_cons r0
  obtain ⟨v2, vs2, d2, ds2, p2, q2, rfl, rfl, rfl, h2, r2⟩ := trodAll_cons r1
  obtain ⟨v3, vs3, d3, ds3, p3, q3, rfl, rfl, rfl, h3, r3⟩ := trodAll_cons r2
  obtain ⟨rfl, rfl, rfl⟩ := trodAll_nil r3
  obtain rfl : args = #[v0, v1, v2, v3] := by cases args; simp_all
  obtain ⟨rfl, rfl⟩ := trodVars_none hV
  have lt0 : ∀ x ∈ p0, x.block < W.heap.size := by obtain ⟨m, hm⟩ := h0; exact DataW.trod_lt m _ _ _ hm
  have lt1 : ∀ x ∈ p1, x.block < W.heap.size := by obtain ⟨m, hm⟩ := h1; exact DataW.trod_lt m _ _ _ hm
  have lt2 : ∀ x ∈ p2, x.block < W.heap.size := by obtain ⟨m, hm⟩ := h2; exact DataW.trod_lt m _ _ _ hm
  have lt3 : ∀ x ∈ p3, x.block < W.heap.size := by obtain ⟨m, hm⟩ := h3; exact DataW.trod_lt m _ _ _ hm
  clear hA0 hval0 hsz0
  refine (WalkFree_walk W (hval 0 24 v0 rfl rfl) h0 (hval 1 3 v1 rfl rfl) h1 (hval 2 3 v2 rfl rfl) h2 (hval 3 3 v3 rfl rfl) h3).mono fun e W' ⟨he, bel⟩ => ?_
  subst he
  exact ⟨_, rfl, _, _, _, [], _, [], hW', trodAll_mk1 (shut_bool Tryz.underlying4 _), (trodAll_cons_mk (Below.trod laidOut (by kernel_rfl) (of_decide_eq_true (by kernel_rfl)) h0 bel lt0) (trodAll_cons_mk (Below.trod laidOut (by kernel_rfl) (of_decide_eq_true (by kernel_rfl)) h1 bel lt1) (trodAll_cons_mk (Below.trod laidOut (by kernel_rfl) (of_decide_eq_true (by kernel_rfl)) h2 bel lt2) (trodAll_cons_mk (Below.trod laidOut (by kernel_rfl) (of_decide_eq_true (by kernel_rfl)) h3 bel lt3) trodAll_mk0)))), rfl, bel.frame _, fun h => (by cases h)⟩
theorem over : Rows.walkFreeRow.holds Tryz.pinned (OpenSpec.ofChange Rows.walkFreeSpec) :=
  OpenClaim.holds_of_wide 9 Tryz.f9 rfl rfl rfl rfl rfl rfl rfl ⟨rfl, rfl, rfl, rfl, rfl⟩ rfl rfl rfl rfl rfl (by kernel_rfl) Tryz.func9 (by kernel_rfl)
    (of_decide_eq_true (by kernel_rfl)) (by unfold Func.isWrapper; first | (rw [if_pos (by decide +kernel)]; kernel_rfl) | (rw [if_neg (by decide +kernel)]; exact ⟨rfl, rfl⟩))
    (fun os started H enc _ => lifted os started H enc)
end walkFree
/-- The row. -/
theorem walkFree_holds : Rows.WalkFreeSaid := walkFree.over
#print axioms walkFree_holds
end Go.Proofs.YtcaapoacmfjnmaaGreat
