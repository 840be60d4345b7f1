/- WalkFinds: whatever may be done, step by step, to its end: its class is among those that are told. -/
import Derived.Test.YtcaapoacmfjnmaaGreatWkJ
import Derived.Test.YtcaapoacmfjnmaaGreatWtT
import Derived.Test.YtcaapoacmfjnmaaGreatArgU
import Derived.JoinedTies
import GoSem.Claim
import Derived.KernelRfl
namespace Go.Proofs.YtcaapoacmfjnmaaGreat
open Go.RowKit
set_option linter.unusedVariables false

namespace Pr
theorem cnt_runs (n : Nat) (s : St) (row : List Ev) : (ends (n + 1) s row).length < cnt (n + 1) s ∨ cnt (n + 1) s = 1 := by
  simp only [ends, cnt]
  by_cases ha : all s = []
  · right; simp [ha]
  · left
    rw [if_neg ha, List.length_flatMap]
    have : ∀ l : List Nat, (l.map fun t => (ends n (stepS s t) (row ++ [evAt s t])).length).sum ≤ (l.map fun t => cnt n (stepS s t)).sum := by
      intro l
      induction l with
      | nil => simp
      | cons t l ih2 => simp only [List.map_cons, List.sum_cons]; have := ends_len n (stepS s t) (row ++ [evAt s t]); omega
    have := this (all s)
    omega
theorem ex_snoc {s s' : St} {l : List Ev} {t : Nat} {e : Ev} (h : Ex s l s') (hen : enabled s' t = true) (hn : next s' t = some e) : Ex s (l ++ [e]) (stepS s' t) := ex_append.2 ⟨s', h, .cons t e hen hn (.nil _)⟩
end Pr
theorem in3_cellsF {w : World} {X : Nat} {a b c : Value} {T : TypeId} (h : w.heap[X]? = some (.cells #[a, b, c] T (0, 0))) : (w.cell? ⟨X, 0, none⟩ = some a ∧ w.cell? ⟨X, 1, none⟩ = some b ∧ w.cell? ⟨X, 2, none⟩ = some c) ∧ X < w.heap.size :=
  ⟨⟨by rw [cell_blk h]; rfl, by rw [cell_blk h]; rfl, by rw [cell_blk h]; rfl⟩, blk_lt h⟩
set_option maxRecDepth 100000 in
set_option maxHeartbeats 8000000 in
theorem walkFinds_any (W : World) (p : Pg) (A : Option Addr) (cap : Nat) (f : Int) (B : Option Addr) (cap2 : Nat) (ts : List Nat) (hp : PgIn W p A)
    (hr : Rd W 1 B ts.length (ts.map (fun (t : Nat) => Value.int .u8 (t : Int)))) (hg : ∀ t ∈ ts, t ≤ 255) (ht : ts.length ≤ maxLen) :
    Calls Tryz.prog 7 #[valP p A cap, .int .i64 f, .slice B ts.length cap2] W fun e w' => e = .returned (.bool true) ∧ Below W.heap.size W w' := by
  obtain ⟨Wa, X, hWa, hX, hBa, hXl, hXe⟩ := pg_box W p.vars p.mtx A p.code.length cap
  have hpa := hp.below hBa
  have hsmall : ∀ u, Below Wa.heap.size Wa u → _ := fun u hu => small_any u p A cap f (hpa.below hu)
  obtain ⟨sm, hsm⟩ : ∃ b, b = Pr.small p f := ⟨_, rfl⟩
  rw [← hsm] at hsmall
  obtain ⟨nt, hnt⟩ : ∃ n, n = ts.length := ⟨_, rfl⟩
  have hm1 : nt < 9223372036854775808 := by rw [hnt]; unfold maxLen at ht; omega
  have HXE := Lib.hid hXe
  have HB := Lib.hid hBa
  have HPA := Lib.hid hpa
  have HSM := Lib.hid hsm
  have HT := Lib.hid (u8_cellW hr.toB)
  have HG := Lib.hid hg
  have HNT := Lib.hid hnt
  rw [← hnt]
  unfold valP at hsmall ⊢
  have HSMALL := Lib.hid hsmall
  obtain ⟨x0, x1, x2, xl⟩ := hXe Wa (Below.refl _ _)
  clear hXe hBa hsmall hpa hp hsm hr hg ht hnt
  go_enter Tryz.func7, Tryz.ntmps7
  go_upto_region 1 with fail
  rw [← hWa, ← hX]
  clear hWa hX
  go_cut [32] (fun v w2 => Below Wa.heap.size Wa w2 ∧ ∃ z, v = .bool z ∧ (z = false → sm = true ∧ nt ≤ 100))
  case first =>
    go_wp2_with fail
    refine (awake06 _).mono ?_
    rintro x w1 ⟨rfl, b1⟩
    have HB1 := Lib.hid b1
    clear b1 x0 x1 x2 xl
    obtain ⟨x0, x1, x2, xl⟩ := HXE.out w1 HB1.out
    go_wp2_with fail
    refine (HSMALL.out w1 HB1.out).mono ?_
    rintro x w2 ⟨rfl, b2⟩
    have HB2 := Lib.hid (below_at HB1.out b2)
    clear b2
    cases sm with
    | false =>
      go_wp2_with fail
      go_meet
      exact ⟨HB2.out, _, rfl, fun h => by cases h⟩
    | true =>
      go_wp2_with fail
      all_goals (go_meet)
      all_goals (exact ⟨HB2.out, _, rfl, fun h => by first | (cases h; done) | (simp at h; exact ⟨trivial, by omega⟩) | exact ⟨rfl, by omega⟩⟩)
  case rest =>
    obtain ⟨b1, z, rfl, hz⟩ := hcut
    have HB1 := Lib.hid b1
    clear b1 x0 x1 x2 xl
    cases z with
    | true =>
      go_wp2_with fail
      refine (awake06 _).mono ?_
      rintro e w2 ⟨rfl, b2⟩
      go_wp2_with fail
      go_ret
      exact ⟨rfl, below_at HB.out (below_at HB1.out b2)⟩
    | false =>
      obtain ⟨hs1, hn100⟩ := hz rfl
      subst hs1
      clear hz HSMALL hm1
      obtain ⟨m, rfl, hm8, hok, _, hcnt, hall6⟩ := Pr.small_spec HSM.out.symm
      have hcls := fun k => Pr.keys_cls (p := p) (m := m) hok hm8 k
      have hrun := Pr.sumOf_eq (Pr.ends 32 (Pr.start p m) [])
      have hkl1 := Pr.keys_len (p := p) (m := m)
      have hcr := Pr.cnt_runs 31 (Pr.start p m) []
      rw [show 31 + 1 = 32 from rfl] at hcr
      have hel := Pr.ends_len 32 (Pr.start p m) []
      obtain ⟨⟨ks, rn, sk⟩, hsum⟩ : ∃ a, a = Pr.sumOf (Pr.ends 32 (Pr.start p m) []) := ⟨_, rfl⟩
      rw [← hsum] at hall6 hcls hrun hkl1
      simp only at hcls hkl1
      have hrn : rn = (Pr.ends 32 (Pr.start p m) []).length := by injection hrun
      rw [← hrn] at hcr hkl1 hel
      obtain ⟨c, hc⟩ : ∃ c, c = Pr.cnt 32 (Pr.start p m) := ⟨_, rfl⟩
      rw [← hc] at hcnt hall6 hcr hel
      obtain ⟨nk, hnk⟩ : ∃ n, n = ks.length := ⟨_, rfl⟩
      have hwall := walkAll_any wc p A cap m 600 (HPA.out.below HB1.out) (by omega)
      rw [hall6] at hwall
      unfold WAllOut at hwall
      simp only at hwall
      rw [← hnk] at hwall hkl1
      have hnew := fun u (hu : Below Wa.heap.size Wa u) => new_ok u p A cap m (HPA.out.below hu).1 hok hm8
      have hwf := Pr.start_wf hok hm8
      have hsh := fun (l : List Ev) (s : St) (h : Pr.Ex (Pr.start p m) l s) => Pr.ex_short hok hm8 h
      have hfin := fun (l : List Ev) (s : St) (h : Pr.Ex (Pr.start p m) l s) (ha : Pr.all s = []) => (hcls (Fo.key l)).2 ⟨s, l, h, ha, rfl⟩
      have hrts := fun (l : List Ev) (s : St) (h : Pr.Ex (Pr.start p m) l s) => Pr.ex_rights h hwf
      obtain ⟨s0, hs0⟩ : ∃ s0, s0 = Pr.start p m := ⟨_, rfl⟩
      rw [← hs0] at hnew hwf hsh hfin hrts
      unfold valP at hwall hnew
      have HWA := Lib.hid hwall
      have HNEW := Lib.hid hnew
      have HWF := Lib.hid hwf
      have HSH := Lib.hid hsh
      have HFIN := Lib.hid hfin
      have HRTS := Lib.hid hrts
      have HNK := Lib.hid hnk
      have HCR := Lib.hid hcr
      have hc9 : c ≤ 600 := hcnt
      have hrc : rn ≤ c := hel
      clear hcls hrun hcr hel hsum hall6 hcnt hrn hc hnk hwall hnew hwf hsh hfin hrts hok hm8 HSM hs0
      obtain ⟨x0, x1, x2, xl⟩ := HXE.out wc HB1.out
      go_wp2_with fail
      refine HWA.out.mono ?_
      rintro y w1 ⟨KA, kc, rfl, hkr, _, _, b1⟩
      obtain ⟨Z1, hZ1⟩ : ∃ z, z = w1.heap.size := ⟨_, rfl⟩
      obtain ⟨W2, hW2⟩ : ∃ z, z = w1.alloc (Obj.cells #[.slice KA nk kc, .int .i64 rn, .int .i64 c] 62) := ⟨_, rfl⟩
      have hZk : W2.heap[Z1]? = some (.cells #[.slice KA nk kc, .int .i64 rn, .int .i64 c] 62 (0, 0)) := by rw [hW2, hZ1]; exact heap_alloc_new w1 _
      have hb2 : Below w1.heap.size w1 W2 := by rw [hW2]; exact (Below.refl _ _).alloc (Nat.le_refl _) _
      have HB2 := Lib.hid (below_at HB1.out (below_at b1 hb2))
      have HZ1 := Lib.hid hZk
      have hkr2 : RdB W2 W2.heap.size 1 KA ks.length (ks.map sv) := by rw [← HNK.out]; exact (hkr.below hb2 (Nat.le_refl _)).toB
      have HKC := Lib.hid (str_cell hkr2)
      clear b1 hb2 hZk hkr hkr2 x0 x1 x2 xl HB1 HWA
      obtain ⟨x0, x1, x2, xl⟩ := HXE.out W2 HB2.out
      go_upto_region 4 with fail
      rw [← hW2, ← hZ1]
      clear hW2 hZ1
      have HN2 := Lib.hid (HNEW.out W2 HB2.out)
      go_wp2_with fail
      refine HN2.out.mono ?_
      rintro y w3 ⟨S, T, C0, rfl, hsat, hS, hT, hC, b3⟩
      have HSAT1 := Lib.hid hsat.bound
      obtain ⟨C, hCC⟩ : ∃ C, C = fun k => C0 k ∧ k < w3.heap.size := ⟨_, rfl⟩
      rw [← hCC] at HSAT1
      have HCB := Lib.hid (show ∀ k, C k → k < w3.heap.size from fun k hk => by rw [hCC] at hk; exact hk.2)
      have HSTB := Lib.hid (show W2.heap.size ≤ S ∧ W2.heap.size ≤ T ∧ S < w3.heap.size ∧ T < w3.heap.size from ⟨hS, hT, hsat.lt.1, hsat.lt.2⟩)
      have HB3 := Lib.hid b3
      clear hsat hS hT hC b3 hCC HN2 HNEW x0 x1 x2 xl
      obtain ⟨i0, hi0, hz0, hz1, hz2⟩ := info_parts Tryz.infoEv
      go_wp2_with fail
      go_loopw [11, 12] (fun r v wr => ∃ (k : Nat) (s : St) (l : List Ev) (R : Option Addr) (rc : Nat), k ≤ 32 ∧ v = .int .i64 k ∧ r = .slice R k rc ∧ Hid (l.length = k) ∧ Hid (Pr.Ex s0 l s) ∧ Hid (Pr.Wf s) ∧ Hid (SAt wr C S T s) ∧ Hid (Row wr 57 4 R k rc (l.flatMap encE)) ∧ Hid (∀ a, R = some a → w3.heap.size ≤ a.block) ∧ Hid (Mod (fun k => k = S ∨ k = T) w3 wr)) (fun _ v _ => 40 - (intOf v).toNat)
      case atStart => exact ⟨0, s0, [], none, 0, Nat.zero_le _, rfl, rfl, Lib.hid rfl, Lib.hid (.nil _), HWF, HSAT1, Lib.hid (Row.nil _ _ _), Lib.hid (fun a h => by cases h), Lib.hid (Mod.refl _ _)⟩
      case round =>
        clear HSAT1 HWF
        obtain ⟨k, s, l, R, rc, hk, rfl, rfl, HLEN, HEX, HWS, HSAT, HROW, HA, HMO⟩ := hrel
        have hbr : Below W2.heap.size W2 wr := HB3.out.trans (HMO.out.below _ HB3.out.size (fun q hq e => by have := HSTB.out; omega))
        have HBR := Lib.hid hbr
        have hall := fun u (hu : Below wr.heap.size wr u) => all_any u C S T s (HSAT.out.below hu) HWS.out
        have hal4 := Pr.all_len HWS.out
        obtain ⟨al, hal⟩ : ∃ al, al = Pr.all s := ⟨_, rfl⟩
        rw [← hal] at hall hal4
        obtain ⟨na, hna⟩ : ∃ na, na = (al.map (fun (t : Nat) => (t : Int))).length := ⟨_, rfl⟩
        simp only [← hna] at hall
        have hna' : na = al.length := by rw [hna, List.length_map]
        have HNL := Lib.hid hna
        have HALL := Lib.hid hall
        have HAL := Lib.hid hal
        have HNA := Lib.hid hna'
        have hn4 : na ≤ 4 := by omega
        clear hall hal hna hna' hal4 hbr
        by_cases hna0 : na = 0
        · -- the end
          subst hna0
          have hae : Pr.all s = [] := by rw [← HAL.out]; exact List.eq_nil_of_length_eq_zero HNA.out.symm
          have hin := HFIN.out l s HEX.out hae
          have HIN := Lib.hid hin
          clear hin hae
          go_wp2_with fail
          refine (HALL.out wr (Below.refl _ _)).mono ?_
          rintro y w4 ⟨L4, lc4, rfl, _, b4⟩
          have hrd : Rd w4 4 R l.length (l.flatMap encE) := by rw [HLEN.out]; exact HROW.out.rd.below b4 (Nat.le_refl _)
          have hkey := fkey_any w4 R rc l hrd (by rw [HLEN.out]; omega)
          rw [HLEN.out] at hkey
          obtain ⟨ky, hky⟩ : ∃ ky, ky = Fo.key l := ⟨_, rfl⟩
          rw [← hky] at hkey
          obtain ⟨kb, hkb⟩ : ∃ b : ByteArray, b = ⟨ky.toArray⟩ := ⟨_, rfl⟩
          rw [← hkb] at hkey
          have HKEY := Lib.hid hkey
          have HKY := Lib.hid (And.intro hky hkb)
          have HB4 := Lib.hid (below_at HBR.out b4)
          clear hrd hkey hky hkb b4
          go_wp2_with fail
          refine HKEY.out.mono ?_
          rintro y w5 ⟨rfl, b5⟩
          have HB5 := Lib.hid (below_at HB4.out b5)
          have HZ5 := Lib.hid (blk_stepW HZ1.out (below_at HB4.out b5))
          clear b5 HKEY
          obtain ⟨⟨y0, y1, y2⟩, yl⟩ := in3_cellsF HZ5.out
          go_wp2_with fail
          go_loopw [97] (fun v wz => ∃ i : Nat, i ≤ nk ∧ v = .int .i64 i ∧ Hid (∀ x ∈ ks.take i, x ≠ ky) ∧ wz = w5) (fun v _ => nk - (intOf v).toNat)
          case atStart => exact ⟨0, Nat.zero_le _, rfl, Lib.hid (fun x hx => by simp at hx), rfl⟩
          case round =>
            obtain ⟨i, hi, rfl, HNO, rfl⟩ := hrel
            by_cases hlt : i < nk
            · obtain ⟨x, hx⟩ := get_some (show i < ks.length by rw [← HNK.out]; exact hlt)
              obtain ⟨g, o, rfl, hg, hcl⟩ := HKC.out i x hx
              have v0 := hcl _ HB5.out
              have lg := Nat.lt_of_lt_of_le hg HB5.out.size
              have k1 : (0 : Int) ≤ (i : Int) := Int.natCast_nonneg _
              have k2 : (i : Int) < (nk : Int) := by omega
              obtain ⟨bx, by_, e1, e2, e3, e4, e5, _, _⟩ := sv_way x ky
              have e8 : by_ = kb := by rw [← e2, HKY.out.2]
              subst e8
              rw [e1] at v0
              have HX := Lib.hid hx
              clear hx hcl hg e1 e2
              by_cases hxk : x = ky
              · have h9 := e4 hxk
                subst h9
                clear hxk e3 e4 e5
                have d1 : (nk : Int) ≤ (rn : Int) := by omega
                have d1b : decide ((nk : Int) ≤ (rn : Int)) = true := decide_eq_true d1
                have d1c : nk ≤ rn := by omega
                have d1d : ¬ (rn : Int) < (nk : Int) := by omega
                by_cases hcr : rn < c
                · have d2 : (rn : Int) < (c : Int) := by omega
                  have d2b : decide ((rn : Int) < (c : Int)) = true := decide_eq_true d2
                  go_wp2_with fail
                  go_ret
                  exact ⟨by simp, below_at HB.out (below_at HB2.out HB5.out)⟩
                · have d2 : ¬ (rn : Int) < (c : Int) := by omega
                  have d2b : decide ((rn : Int) < (c : Int)) = false := decide_eq_false d2
                  have e9 : ((c : Int) == 1) = true := by rcases HCR.out with h | h; (omega); rw [h]; rfl
                  go_wp2_with fail
                  go_ret
                  exact ⟨by simp, below_at HB.out (below_at HB2.out HB5.out)⟩
              · have h9 := e5 hxk
                rw [decide_eq_false hxk] at e3
                have HXK := Lib.hid hxk
                clear hxk e4 e5
                go_wp2_with fail
                go_roundw
                case rel => exact ⟨i + 1, by omega, by go_num, Lib.hid (fun z hz => by
                  rw [List.take_add_one, HX.out] at hz
                  rcases List.mem_append.1 hz with h | h
                  · exact HNO.out z h
                  · simp at h; subst h; exact HXK.out), by first | rfl | trivial⟩
                case measure => simp [intOf]; omega
            · exfalso
              have hi2 : i = nk := by omega
              have : ks.take i = ks := List.take_of_length_le (by rw [hi2, ← HNK.out]; exact Nat.le_refl _)
              have hno := HNO.out
              rw [this] at hno
              exact hno _ (by rw [HKY.out.1]; exact HIN.out) rfl
        · have hlt32 : k < 32 := by
            have h1 := HSH.out l s HEX.out
            rw [HLEN.out] at h1
            have h2 : al ≠ [] := fun e => by rw [e] at HNA; exact hna0 HNA.out
            obtain ⟨t, ht⟩ : ∃ t, t ∈ al := by cases al with
              | nil => exact (h2 rfl).elim
              | cons t al => exact ⟨t, List.mem_cons_self ..⟩
            rw [HAL.out] at ht
            have hen := Pr.all_iff.1 ht
            obtain ⟨e, _, hn, _, _⟩ := Pr.enabled_next hen
            have h3 := HSH.out _ _ (Pr.ex_snoc HEX.out hen hn)
            rw [List.length_append, HLEN.out] at h3
            simp at h3
            omega
          have hpos : 0 < na := by omega
          have npos : (0 : Int) < (na : Int) := by omega
          have nposb : decide ((0 : Int) < (na : Int)) = true := decide_eq_true npos
          go_wp2_with fail
          refine (HALL.out wr (Below.refl _ _)).mono ?_
          rintro y w4 ⟨L4, lc4, rfl, _, b4⟩
          have HB4 := Lib.hid b4
          clear b4
          go_wp2_with fail
          refine (HALL.out w4 HB4.out).mono ?_
          rintro y w5 ⟨L5, lc5, rfl, ⟨hlr, _⟩, b5⟩
          have HLR := Lib.hid (int_cell hlr.rd.toB)
          have HB5 := Lib.hid (below_at HB4.out b5)
          clear hlr b5
          -- which one is picked
          go_upto_if 63 with fail
          go_cut [14] (fun v wz => wz = w5 ∧ ∃ ix : Nat, ix < na ∧ v = .int .i64 ix)
          case first =>
            by_cases hkn : k < nt
            · obtain ⟨t, ht⟩ := get_some (show k < ts.length by rw [← HNT.out]; exact hkn)
              obtain ⟨g, o, rfl, hg, hcl⟩ := HT.out k t ht
              have hbw : Below W.heap.size W w5 := below_at HB.out (below_at HB2.out (below_at HBR.out HB5.out))
              have ca := hcl w5 hbw
              have lg := Nat.lt_of_lt_of_le hg hbw.size
              have h255 := HG.out t (List.mem_of_getElem? ht)
              have k1 : (0 : Int) ≤ (k : Int) := Int.natCast_nonneg _
              have k2 : (k : Int) < (nt : Int) := by omega
              have k2b : decide ((k : Int) < (nt : Int)) = true := decide_eq_true k2
              have e1 : ¬ ((na : Nat) : Int) = 0 := by omega
              have e3 : Int.tmod (t : Int) (na : Int) = ((t % na : Nat) : Int) := by rw [Int.tmod_eq_emod_of_nonneg (by omega)]; rfl
              have hidx : t % na < na := Nat.mod_lt _ hpos
              obtain ⟨ix, hix⟩ : ∃ ix, ix = t % na := ⟨_, rfl⟩
              rw [← hix] at hidx e3
              clear hcl ht hg hix hbw
              go_wp2_with fail
              go_meet
              exact ⟨by first | rfl | trivial, ix, hidx, by first | rfl | rw [e3]⟩
            · have k2 : ¬ (k : Int) < (nt : Int) := by omega
              have k2b : decide ((k : Int) < (nt : Int)) = false := decide_eq_false k2
              go_wp2_with fail
              go_meet
              exact ⟨by first | rfl | trivial, 0, hpos, rfl⟩
          case rest =>
            obtain ⟨rfl, ix, hidx, rfl⟩ := hcut
            generalize wc = w5 at *
            obtain ⟨u, hu⟩ := get_some (show ix < al.length by rw [← HNA.out]; exact hidx)
            have hum : Pr.enabled s u = true ∧ u < s.th.length := by
              have h := Pr.all_iff.1 (show u ∈ Pr.all s by rw [← HAL.out]; exact List.mem_of_getElem? hu)
              exact ⟨h, Pr.en_lt h⟩
            obtain ⟨e, _, hnx, h8, h9⟩ := Pr.enabled_next hum.1
            clear h8 h9
            obtain ⟨g2, o2, rfl, hg2, hc2⟩ := HLR.out ix (u : Int) (by rw [List.getElem?_map, hu]; rfl)
            have ca2 := hc2 w5 (Below.refl _ _)
            have k3 : (0 : Int) ≤ (ix : Int) := Int.natCast_nonneg _
            have k4 : (ix : Int) < (na : Int) := by omega
            have hsat5 := HSAT.out.below HB5.out
            have hex2 := Pr.ex_snoc HEX.out hum.1 hnx
            have hwf2 := (Pr.stepS_wf u HWS.out).1
            have hrt := HRTS.out _ _ hex2 e (by simp)
            have hright := fun v => right_any v e
            rw [hrt] at hright
            obtain ⟨s2, hs2⟩ : ∃ s2, s2 = Pr.stepS s u := ⟨_, rfl⟩
            have hstep := step_ok w5 C S T s u e hsat5 HWS.out hum.2 hum.1 hnx
            rw [← hs2] at hstep hex2 hwf2
            obtain ⟨et, ek, eo, ef⟩ := e
            simp only [valE] at hstep hright
            have HSTEP := Lib.hid hstep
            have HEX2 := Lib.hid hex2
            have HWF2 := Lib.hid hwf2
            have HRT := Lib.hid hright
            have HROW5 := Lib.hid (row_stepS HROW.out HB5.out)
            have HMO5 := Lib.hid (show Mod (fun k => k = S ∨ k = T) w3 w5 from HMO.out.trans (Mod.of_below_size HB5.out _))
            clear hu hum hnx hc2 hsat5 hex2 hwf2 hrt hright hs2 hstep HALL
            go_wp2_with fail
            refine HSTEP.out.mono ?_
            rintro y w6 ⟨rfl, hsat6, hm6⟩
            obtain ⟨V0, Z, hV0, hZ, hBz, hZl, hZe⟩ := ev_box w6 ⟨et, ek, eo, ef⟩
            simp only at hV0
            have hms : Mod (fun k => k = S ∨ k = T) w3 w6 := HMO5.out.trans hm6
            have hrow6 : Row w6 57 4 R k rc (l.flatMap encE) := HROW5.out.mod hm6 (fun a ha e => by have := HA.out a ha; have := HSTB.out; omega)
            have HSAT7 := Lib.hid (hsat6.below hBz)
            have HROW7 := Lib.hid (row_stepS hrow6 hBz)
            have HMO7 := Lib.hid (show Mod (fun k => k = S ∨ k = T) w3 V0 from hms.trans (Mod.of_below_size hBz _))
            have HZE := Lib.hid hZe
            clear hsat6 hm6 hBz hZl hZe hms hrow6 HSTEP ca2
            obtain ⟨⟨z0, z1, z2, z3⟩, zl⟩ := HZE.out V0 (Below.refl _ _)
            simp only [Nat.zero_add] at z1 z2 z3
            go_upto_region 16 with fail
            rw [← hV0, ← hZ]
            clear hV0 hZ
            go_wp2_with fail
            refine (HRT.out V0).mono ?_
            rintro y w7 ⟨rfl, b7⟩
            have HSAT8 := Lib.hid (HSAT7.out.below b7)
            have HROW8 := Lib.hid (row_stepS HROW7.out b7)
            have HMO8 := Lib.hid (show Mod (fun k => k = S ∨ k = T) w3 w7 from HMO7.out.trans (Mod.of_below_size b7 _))
            clear z0 z1 z2 z3 zl
            obtain ⟨⟨z0, z1, z2, z3⟩, zl⟩ := HZE.out w7 b7
            simp only [Nat.zero_add] at z1 z2 z3
            clear b7
            go_wp2_with (at_builtin; refine wpList_append_row (by rfl) _ _ _ (by rfl) 57 i0 _ 4 32 Tryz.underlying52 hi0 hz0 hz1 hz2 rfl (by omega) R k rc (l.flatMap encE) (by rfl) (HROW8.out.alloc _) ⟨w7.heap.size, 0, none⟩ 1 1 [.int .i64 et, .int .i64 ek, .int .i64 eo, .bool ef] (by rfl) (by rfl) (World.news_of_block (cs := #[.int .i64 et, .int .i64 ek, .int .i64 eo, .bool ef]) (t := 57) (fr := (0, 0)) (heap_alloc_new w7 _)) (by simp [Value.oneCell']) (by omega) (by unfold maxLen; omega) (by omega) ?_; intro g1 of1 cap1 w8 hown hm hat; skip)
            have hal : Below w7.heap.size w7 (w7.alloc (Obj.cells #[.int .i64 et, .int .i64 ek, .int .i64 eo, .bool ef] 57)) := (Below.refl _ _).alloc (Nat.le_refl _) _
            go_roundw
            case rel =>
              refine ⟨k + 1, s2, l ++ [⟨et, ek, eo, ef⟩], some ⟨g1, of1, none⟩, cap1, by omega, by go_num, rfl, Lib.hid (by simp [HLEN.out]), HEX2, HWF2, Lib.hid ?_, Lib.hid (by rw [List.flatMap_append]; simpa [encE] using hown), Lib.hid ?_, Lib.hid ?_⟩
              · exact (HSAT8.out.below hal).mod hm (fun q hq ⟨a, e1, e2⟩ => by have := HA.out a e1; have := HCB.out q hq; omega) (fun ⟨a, e1, e2⟩ => by have := HA.out a e1; have := HSTB.out; omega) (fun ⟨a, e1, e2⟩ => by have := HA.out a e1; have := HSTB.out; omega)
              · intro a ha
                injection ha with ha
                subst ha
                rcases hat with ⟨a, e1, e2⟩ | h
                · have := HA.out a e1; simp only; omega
                · have := hal.size; have := HMO8.out.size; simp only; omega
              · exact (HMO8.out.trans (Mod.of_below_size hal _)).then hm (fun q hq ⟨a, e1, e2⟩ => by have := HA.out a e1; omega)
            case measure => simp [intOf]; omega
open Go.ChangeShapes Go.WideShapes Go.ChangeAt
set_option maxRecDepth 100000 in
theorem WalkFinds_walk {H : Type} {enc : TypeId × Value → H} (W : World) {base : Nat} {v0 v1 v2 : Value} {d0 d1 d2 : DataW H} {p0 p1 p2 : List MemPlace}
    (o0 : Value.okWide Tryz.prog W .any base 24 v0) (h0 : DataW.Trod enc Tryz.prog W 0 (fun _ => true) true 24 v0 d0 p0)
    (o1 : Value.okWide Tryz.prog W .any base 3 v1) (h1 : DataW.Trod enc Tryz.prog W 0 (fun _ => true) true 3 v1 d1 p1)
    (o2 : Value.okWide Tryz.prog W .any base 68 v2) (h2 : DataW.Trod enc Tryz.prog W 0 (fun _ => true) true 68 v2 d2 p2) :
    Calls Tryz.prog 7 #[v0, v1, v2] W fun e w' => e = .returned (.bool true) ∧ Below W.heap.size W w' := by
  obtain ⟨p, A, cap, rfl, hin⟩ := prog_arg o0 h0
  obtain ⟨f, rfl, rfl, rfl, _⟩ := open_int Tryz.underlying3 o1 h1
  obtain ⟨ts, B, cap2, rfl, hr, hl, hg⟩ := u8s_arg o2 h2
  exact walkFinds_any W p A cap f B cap2 ts hin hr hg hl
namespace walkFinds
theorem own : ownKnob Tryz.prog.godebug = none := by kernel_rfl
theorem laidOut : laidOutB Tryz.prog = true := by kernel_rfl
set_option maxRecDepth 100000 in
theorem lifted (os : Os) (started : os.Started) (H : Type) (enc : TypeId × Value → H) :
    ReturnsInHanded {} Tryz.checked os 7 .any (Rows.walkFindsSpec.pre6 enc Tryz.prog Tryz.f7 Rows.walkFindsRow.domain false) (Rows.walkFindsSpec.post enc Tryz.prog Tryz.f7 false true false false) := by
  refine returnsInHanded_of_change_sized (C := Tryz.checked) own started (by kernel_rfl) Tryz.func7
    (ChangeSpec.witness6 (enc := enc) (C := Tryz.checked) false ⟨#[], #[.agg #[.int .i64 0, .int .i64 0, .slice none 0 0], .int .i64 0, .slice none 0 0], []⟩ 8 (by kernel_rfl) (by kernel_rfl) (by kernel_rfl) (by kernel_rfl)) ?_
  intro W base args ds gs before hval0 hW hcnd hsz0 _
  have hval : ∀ (j : Nat) t v, Tryz.f7.params[j]? = some t → args[j]? = some v → Value.okWide Tryz.prog W .any base t v := hval0
  have hW' := hW
  obtain ⟨p, q, hA0, hV, rfl, hfz, hnd⟩ := hW
  have hA : DataW.TrodAll enc Tryz.prog W 0 (fun _ => true) true Tryz.f7.params.toList args.toList ds p := hA0
  rw [Tryz.params7] at hA hval
  obtain ⟨v0, vs0, d0, ds0, p0, q0, hargs, rfl, rfl, h0, r0⟩ := trodAll_cons hA
  obtain ⟨v1, vs1, d1, ds1, p1, q1, rfl, rfl, rfl, h1, r1⟩ := trodAll_cons r0
  obtain ⟨v2, vs2, d2, ds2, p2, q2, rfl, rfl, rfl, h2, r2⟩ := trodAll_cons r1
  obtain ⟨rfl, rfl, rfl⟩ := trodAll_nil r2
  obtain rfl : args = #[v0, v1, v2] := by cases args; simp_all
  obtain ⟨rfl, rfl⟩ := trodVars_none hV
  have lt0 : ∀ x ∈ p0, x.block < W.heap.size := by obtain ⟨m, hm⟩ := h0; exact DataW.trod_lt m _ _ _ hm
  have lt1 : ∀ x ∈ p1, x.block < W.heap.size := by obtain ⟨m, hm⟩ := h1; exact DataW.trod_lt m _ _ _ hm
  have lt2 : ∀ x ∈ p2, x.block < W.heap.size := by obtain ⟨m, hm⟩ := h2; exact DataW.trod_lt m _ _ _ hm
  clear hA0 hval0 hsz0
  refine (WalkFinds_walk W (hval 0 24 v0 rfl rfl) h0 (hval 1 3 v1 rfl rfl) h1 (hval 2 68 v2 rfl rfl) h2).mono fun e W' ⟨he, bel⟩ => ?_
  subst he
  exact ⟨_, rfl, _, _, _, [], _, [], hW', trodAll_mk1 (shut_bool Tryz.underlying4 _), (trodAll_cons_mk (Below.trod laidOut (by kernel_rfl) (of_decide_eq_true (by kernel_rfl)) h0 bel lt0) (trodAll_cons_mk (Below.trod laidOut (by kernel_rfl) (of_decide_eq_true (by kernel_rfl)) h1 bel lt1) (trodAll_cons_mk (Below.trod laidOut (by kernel_rfl) (of_decide_eq_true (by kernel_rfl)) h2 bel lt2) trodAll_mk0))), rfl, bel.frame _, fun h => (by cases h)⟩
theorem over : Rows.walkFindsRow.holds Tryz.pinned (OpenSpec.ofChange Rows.walkFindsSpec) :=
  OpenClaim.holds_of_wide 7 Tryz.f7 rfl rfl rfl rfl rfl rfl rfl ⟨rfl, rfl, rfl, rfl, rfl⟩ rfl rfl rfl rfl rfl (by kernel_rfl) Tryz.func7 (by kernel_rfl)
    (of_decide_eq_true (by kernel_rfl)) (by unfold Func.isWrapper; first | (rw [if_pos (by decide +kernel)]; kernel_rfl) | (rw [if_neg (by decide +kernel)]; exact ⟨rfl, rfl⟩))
    (fun os started H enc _ => lifted os started H enc)
end walkFinds
/-- The row. -/
theorem walkFinds_holds : Rows.WalkFindsSaid := walkFinds.over
#print axioms walkFinds_holds
end Go.Proofs.YtcaapoacmfjnmaaGreat
