/- WitnessBegins: whatever is done, step by step: each beginning's key tells a row that does the same events of each thread, and comes to the same state. -/
import Derived.Test.YtgahjibjladafaaStR
import Derived.Test.YtgahjibjladafaaStT
import Derived.JoinedTies
import GoSem.Claim
import Derived.KernelRfl
namespace Go.Proofs.Ytgahjibjladafaa
open Go.RowKit
set_option linter.unusedVariables false

theorem u8_cellW {w : World} {B : Nat} {A : Option Addr} {ts : List Nat} (h : RdB w B 1 A ts.length (ts.map (fun (t : Nat) => Value.int .u8 (t : Int)))) : ∀ (k : Nat) (s : Nat), ts[k]? = some s → ∃ g o, A = some ⟨g, o, none⟩ ∧ g < B ∧ ∀ u, Below B w u → u.cell? ⟨g, o + k, none⟩ = some (.int .u8 (s : Int)) := fun k s hs => by
  obtain ⟨hk, rfl⟩ := List.getElem?_eq_some_iff.1 hs
  obtain ⟨g, o, hA, hg, hc⟩ := h.2 (by omega)
  refine ⟨g, o, hA, hg, fun u hu => ?_⟩
  rw [World.cell?_of_block (hu.block g hg), hc k (by omega), List.getElem?_map, List.getElem?_eq_getElem hk]
  rfl
theorem Pr.replay_snoc {p : Pg} {f : Int} {row : List Int} {s : St} {l : List Ev} {m : Nat} (h : Pr.replay p f row = .ok (s, l)) (hen : Pr.enabled s m = true) : ∃ e, Pr.next s m = some e ∧ Pr.replay p f (row ++ [(m : Int)]) = .ok (Pr.stepS s m, l ++ [e]) := by
  obtain ⟨e, i, hn, _, _⟩ := Pr.enabled_next hen
  refine ⟨e, hn, ?_⟩
  unfold Pr.replay at h ⊢
  split at h
  · rename_i hok
    rw [if_pos hok, Pr.run_snoc, h]
    simp only
    rw [if_pos (Pr.stepE_ok hen hn), Int.toNat_natCast, hn]
    rfl
  · cases h
theorem Pr.all_mem {s : St} {m : Nat} (h : m ∈ Pr.all s) : Pr.enabled s m = true ∧ m < s.th.length := by
  unfold Pr.all at h
  obtain ⟨h1, h2⟩ := List.mem_filter.1 h
  exact ⟨h2, List.mem_range.1 h1⟩
set_option maxRecDepth 100000 in
set_option maxHeartbeats 8000000 in
theorem witnessBegins_any (W : World) (p : Pg) (A : Option Addr) (cap : Nat) (f : Int) (B : Option Addr) (cap2 : Nat) (ts : List Nat) (hp : PgIn W p A)
    (hr : Rd W 1 B ts.length (ts.map (fun (t : Nat) => Value.int .u8 (t : Int)))) (hg : ∀ t ∈ ts, t ≤ 255) (ht : ts.length ≤ maxLen) :
    Calls Try.prog 8 #[valP p A cap, .int .i64 f, .slice B ts.length cap2] W fun e w' => e = .returned (.bool true) ∧ Below W.heap.size W w' := by
  have hm1 : ts.length < 9223372036854775808 := by unfold maxLen at ht; omega
  obtain ⟨Wa, X, hWa, hX, hBa, hXl, hXe⟩ := pg_box W p.vars p.mtx A p.code.length cap
  have hfew : ∀ u, Below Wa.heap.size Wa u → Calls Try.prog 30 #[valP p A cap] u fun x w' => x = .returned (.bool (Pr.few p)) ∧ Below u.heap.size u w' := fun u hu => by
    have h := (hp.below hBa).below hu
    exact fewP_any u p A cap h.1 h.2.1 h.2.2
  have hpa := hp.below hBa
  unfold valP at hfew ⊢
  obtain ⟨fk, hfk⟩ : ∃ fk, fk = Pr.few p := ⟨_, rfl⟩
  rw [← hfk] at hfew
  have HXE := Lib.hid hXe
  have HB := Lib.hid hBa
  have HFEW := Lib.hid hfew
  have HPA := Lib.hid hpa
  have HT := Lib.hid (u8_cellW hr.toB)
  have HG := Lib.hid hg
  obtain ⟨x0, x1, x2, xl⟩ := hXe Wa (Below.refl _ _)
  clear hXe hBa hfew hpa hr hg ht hp hfk
  go_enter Try.func8, Try.ntmps8
  go_upto_region 1 with fail
  rw [← hWa, ← hX]
  clear hWa hX
  go_cut [32] (fun v w2 => Below Wa.heap.size Wa w2 ∧ ∃ z, v = .bool z ∧ (z = false → ts.length ≤ 40))
  case first =>
    go_wp2_with fail
    refine (awake18 _).mono ?_
    rintro x w1 ⟨rfl, b1⟩
    have HB1 := Lib.hid b1
    clear b1 x0 x1 x2 xl
    obtain ⟨x0, x1, x2, xl⟩ := HXE.out w1 HB1.out
    go_wp2_with fail
    refine (HFEW.out w1 HB1.out).mono ?_
    rintro x w2 ⟨rfl, b2⟩
    have HB2 := Lib.hid (below_at HB1.out b2)
    clear b2
    cases fk with
    | false =>
      go_wp2_with fail
      go_meet
      exact ⟨HB2.out, _, rfl, fun h => by cases h⟩
    | true =>
      go_wp2_with fail
      all_goals (go_meet)
      all_goals (exact ⟨HB2.out, _, rfl, fun h => by first | (cases h; done) | (simp at h; omega) | omega⟩)
  case rest =>
    obtain ⟨b1, z, rfl, hz⟩ := hcut
    have HB1 := Lib.hid b1
    clear b1 x0 x1 x2 xl
    cases z with
    | true =>
      go_wp2_with fail
      refine (awake18 _).mono ?_
      rintro e w2 ⟨rfl, b2⟩
      go_wp2_with fail
      go_ret
      exact ⟨rfl, below_at HB.out (below_at HB1.out b2)⟩
    | false =>
      have ht40 := hz rfl
      clear hz HFEW
      obtain ⟨x0, x1, x2, xl⟩ := HXE.out wc HB1.out
      by_cases hm : Pr.may p f
      · obtain ⟨m, rfl⟩ : ∃ m : Nat, f = m := ⟨f.toNat, by have := hm.2.1; omega⟩
        have hnew := new_ok wc p A cap m (HPA.out.below HB1.out).1 hm.1 (by have := hm.2.2; omega)
        have hrep0 : Pr.replay p m [] = .ok (Pr.start p m, []) := by unfold Pr.replay; rw [if_pos (show Pr.Ok p ∧ 0 ≤ (m : Int) ∧ (m : Int) ≤ 8 from hm), Int.toNat_natCast]; rfl
        obtain ⟨s0, hs0⟩ : ∃ s0, s0 = Pr.start p m := ⟨_, rfl⟩
        rw [← hs0] at hnew hrep0
        unfold valP at hnew
        have HNEW := Lib.hid hnew
        have HREP0 := Lib.hid hrep0
        clear hnew hrep0 hs0 hm
        go_wp2_with fail
        refine HNEW.out.mono ?_
        rintro y w1 ⟨S, T, C0, rfl, hsat, hS, hT, hC, b1⟩
        have HSAT1 := Lib.hid hsat.bound
        obtain ⟨C, hCC⟩ : ∃ C, C = fun k => C0 k ∧ k < w1.heap.size := ⟨_, rfl⟩
        rw [← hCC] at HSAT1
        have HCB := Lib.hid (show ∀ k, C k → Wa.heap.size ≤ k ∧ k < w1.heap.size from fun k hk => by rw [hCC] at hk; have := hC k hk.1; have := HB1.out.size; exact ⟨by omega, hk.2⟩)
        have HSTB := Lib.hid (show (Wa.heap.size ≤ S ∧ S < w1.heap.size) ∧ Wa.heap.size ≤ T ∧ T < w1.heap.size from by have := HB1.out.size; exact ⟨⟨by omega, hsat.lt.1⟩, by omega, hsat.lt.2⟩)
        have HBW1 := Lib.hid (below_at HB1.out b1)
        clear hsat hS hT hC b1 hCC HNEW x0 x1 x2 xl HB1
        obtain ⟨i0, hi0, hz0, hz1, hz2⟩ := info_parts Try.infoInt
        go_wp2_with fail
        go_loopw [9, 44] (fun r v wr => ∃ (k n : Nat) (row : List Int) (s : St) (l : List Ev) (R : Option Addr) (rc : Nat), k ≤ ts.length ∧ v = .int .i64 k ∧ r = .slice R n rc ∧ n ≤ k ∧ Hid (n = row.length) ∧ Hid (Pr.replay p m row = .ok (s, l)) ∧ Hid (SAt wr C S T s) ∧ Hid (Row wr 3 1 R n rc (row.map iv)) ∧ Hid (∀ a, R = some a → w1.heap.size ≤ a.block) ∧ Hid (Mod (fun k => k = S ∨ k = T) w1 wr)) (fun _ v _ => ts.length - (intOf v).toNat)
        case atStart => exact ⟨0, 0, [], s0, [], none, 0, Nat.zero_le _, rfl, rfl, Nat.le_refl _, Lib.hid rfl, HREP0, HSAT1, Lib.hid (Row.nil _ _ _), Lib.hid (fun a h => by cases h), Lib.hid (Mod.refl _ _)⟩
        case round =>
          clear HSAT1 HREP0
          obtain ⟨k, n, row, s, l, R, rc, hk, rfl, rfl, hnk, HN, HREP, HSAT, HROW, HA, HMO⟩ := hrel
          obtain ⟨hws, hsp, hlr⟩ := Pr.replay_wf HREP.out
          have HWS := Lib.hid hws
          clear hws hsp hlr
          have hbw : Below Wa.heap.size Wa wr := HBW1.out.trans (HMO.out.below Wa.heap.size HBW1.out.size (fun q hq e => by have := HSTB.out; omega))
          have HBW := Lib.hid hbw
          clear hbw
          by_cases hlt : k < ts.length
          · obtain ⟨t, htt⟩ := get_some hlt
            obtain ⟨g, o, rfl, hgg, hcl⟩ := HT.out k t htt
            have ca := hcl wr (below_at HB.out HBW.out)
            have lg : g < wr.heap.size := by have := (below_at HB.out HBW.out).size; omega
            have h255 := HG.out t (List.mem_of_getElem? htt)
            have k1 : (0 : Int) ≤ (k : Int) := Int.natCast_nonneg _
            have k2 : (k : Int) < (ts.length : Int) := by omega
            have hall := all_any wr C S T s HSAT.out HWS.out
            have hal4 : (Pr.all s).length ≤ 4 := by
              have h4 := HWS.out.n4
              have : (Pr.all s).length ≤ s.th.length := by unfold Pr.all; exact Nat.le_trans (List.length_filter_le _ _) (by simp)
              omega
            obtain ⟨al, hal⟩ : ∃ al, al = Pr.all s := ⟨_, rfl⟩
            rw [← hal] at hall hal4
            obtain ⟨na, hna⟩ : ∃ na, na = (al.map (fun (t : Nat) => (t : Int))).length := ⟨_, rfl⟩
            rw [← hna] at hall
            have hna' : na = al.length := by rw [hna, List.length_map]
            have HNL := Lib.hid hna
            have HALL := Lib.hid hall
            have HAL := Lib.hid hal
            have HNA := Lib.hid hna'
            have hn4 : na ≤ 4 := by omega
            clear hall hal hna hna' hal4 hcl htt
            go_wp2_with fail
            refine HALL.out.mono ?_
            rintro y w2 ⟨L2, lc, rfl, ⟨hlr, _⟩, b2⟩
            have HLR := Lib.hid (int_cell hlr.rd.toB)
            have HSAT2 := Lib.hid (HSAT.out.below b2)
            have HROW2 := Lib.hid (row_stepS HROW.out b2)
            have HMO2 := Lib.hid (HMO.out.trans (Mod.of_below_size b2 _))
            have HBW2 := Lib.hid (below_at HBW.out b2)
            clear hlr b2 HALL ca lg
            by_cases hna0 : na = 0
            · subst hna0
              go_wp2_with fail
              go_ret
              exact ⟨rfl, below_at HB.out HBW2.out⟩
            · have hpos : 0 < na := by omega
              have hidx : t % na < na := Nat.mod_lt _ hpos
              obtain ⟨u, hu⟩ := get_some (show t % na < al.length by have := HNA.out; omega)
              obtain ⟨g2, o2, rfl, hg2, hc2⟩ := HLR.out (t % na) (u : Int) (by rw [List.getElem?_map, hu]; rfl)
              have hum := Pr.all_mem (s := s) (m := u) (by rw [← HAL.out]; exact List.mem_of_getElem? hu)
              have ca2 := hc2 w2 (Below.refl _ _)
              have e1 : ((na : Nat) : Int) ≠ 0 := by omega
              have e2 : (((na : Nat) : Int) == 0) = false := by simpa using hna0
              have e3 : Int.tmod (t : Int) (na : Int) = ((t % na : Nat) : Int) := by rw [Int.tmod_eq_emod_of_nonneg (by omega)]; rfl
              obtain ⟨ix, hix⟩ : ∃ ix, ix = t % na := ⟨_, rfl⟩
              rw [← hix] at hidx ca2 e3
              have k3 : (0 : Int) ≤ (ix : Int) := Int.natCast_nonneg _
              have k4 : (ix : Int) < (na : Int) := by omega
              have HUM := Lib.hid hum
              clear hc2 hu hum hix
              obtain ⟨e, hnx, hrep2⟩ := Pr.replay_snoc HREP.out HUM.out.1
              have HNX := Lib.hid hnx
              have HREP2 := Lib.hid hrep2
              have hnt : n ≤ 40 := by omega
              clear hnx hrep2
              go_upto_region 13 with (at_builtin; refine wpList_append_row (by rfl) _ _ _ (by rfl) 3 i0 _ 1 8 Try.underlying52 hi0 hz0 hz1 hz2 rfl (by omega) R n rc (row.map iv) (by rfl) (HROW2.out.alloc _) ⟨w2.heap.size, 0, none⟩ 1 1 [.int .i64 (u : Int)] (by rfl) (by rfl) (World.news_of_block (cs := #[.int .i64 (u : Int)]) (t := 3) (fr := (0, 0)) (heap_alloc_new w2 _)) (by simp [Value.oneCell']) (by omega) (by unfold maxLen; omega) (by omega) ?_; intro g1 of1 cap1 w3 hown hm hat)
              have hal : Below w2.heap.size w2 (w2.alloc (Obj.cells #[.int .i64 (u : Int)] 3)) := (Below.refl _ _).alloc (Nat.le_refl _) _
              have hg1 : w1.heap.size ≤ g1 := by
                rcases hat with ⟨a, e4, e5⟩ | h
                · have := HA.out a e4; omega
                · have := hal.size; have := HMO2.out.size; omega
              have hsat3 : SAt w3 C S T s := (HSAT2.out.below hal).mod hm (fun q hq ⟨a, e4, e5⟩ => by have := HA.out a e4; have := HCB.out q hq; omega) (fun ⟨a, e4, e5⟩ => by have := HA.out a e4; have := HSTB.out; omega) (fun ⟨a, e4, e5⟩ => by have := HA.out a e4; have := HSTB.out; omega)
              have hmo3 : Mod (fun k => k = S ∨ k = T) w1 w3 := (HMO2.out.trans (Mod.of_below_size hal _)).then hm (fun q hq ⟨a, e4, e5⟩ => by have := HA.out a e4; omega)
              have hrow3 : Row w3 3 1 (some ⟨g1, of1, none⟩) (n + 1) cap1 ((row ++ [(u : Int)]).map iv) := by rw [List.map_append]; exact hown
              have ca3 : w3.cell? ⟨g1, of1 + n, none⟩ = some (.int .i64 (u : Int)) := by
                rw [hrow3.cell n (by omega), HN.out]
                simp [iv]
              have lg3 : g1 < w3.heap.size := hrow3.lt
              obtain ⟨s2, hs2⟩ : ∃ s2, s2 = Pr.stepS s u := ⟨_, rfl⟩
              obtain ⟨row2, hrow2⟩ : ∃ row2, row2 = row ++ [(u : Int)] := ⟨_, rfl⟩
              obtain ⟨l2, hl2⟩ : ∃ l2, l2 = l ++ [e] := ⟨_, rfl⟩
              have hstep := step_ok w3 C S T s u e hsat3 HWS.out HUM.out.2 HUM.out.1 HNX.out
              have hrep2 := HREP2.out
              rw [← hs2] at hstep hrep2
              rw [← hrow2] at hrow3 hrep2
              rw [← hl2] at hrep2
              have hn2 : n + 1 = row2.length := by rw [hrow2, List.length_append, HN.out]; rfl
              obtain ⟨et, ek, eo, ef⟩ := e
              simp only [valE] at hstep
              have HSTEP := Lib.hid hstep
              have HREP3 := Lib.hid hrep2
              have HROW3 := Lib.hid hrow3
              have HN2 := Lib.hid hn2
              have HG1 := Lib.hid hg1
              have HMO3 := Lib.hid hmo3
              clear hown hm hat hal hg1 hsat3 hmo3 hrow3 hstep hrep2 hs2 hrow2 hl2 hn2 HREP2 HREP HSAT HSAT2 HROW HROW2 HNX HLR HAL HNA HNL ca2 e1 e2 e3 k3 k4
              go_wp2_with fail
              refine HSTEP.out.mono ?_
              rintro y w4 ⟨rfl, hsat4, hmod4⟩
              have HSAT4 := Lib.hid hsat4
              have HMO4 := Lib.hid (HMO3.out.trans hmod4)
              have HROW4 := Lib.hid (HROW3.out.mod hmod4 (fun a ha e => by injection ha with ha; subst ha; simp only at e; have := HSTB.out; have := HG1.out; omega))
              have HBW4 := Lib.hid (HBW1.out.trans ((HMO3.out.trans hmod4).below Wa.heap.size HBW1.out.size (fun q hq e => by have := HSTB.out; omega)) : Below Wa.heap.size Wa w4)
              clear hsat4 hmod4 HSTEP HROW3 HMO3 ca3 lg3
              obtain ⟨x0, x1, x2, xl⟩ := HXE.out w4 HBW4.out
              go_upto_region 14 with fail
              obtain ⟨l', hrw, hrp, hky, hll, hok⟩ := Pr.witness_law HREP3.out (by have := HN2.out; omega)
              have hbg : Pr.beginsW p m row2 = .ok (Fo.key l2) := by unfold Pr.beginsW; rw [HREP3.out]
              have hkl : (Fo.key l2).length < 100000 := by
                obtain ⟨k1, k2, k3⟩ := Fo.key_read hok
                have h1 := printL_len k3 k1
                have h2 := Pr.encP_all (Fo.lev l2)
                have h3 := (Fo.lev_flat l2).length_eq
                have h4 := Fo.levU_len l2
                have h5 := Fo.lev_len l2
                have h6 := (Pr.replay_wf HREP3.out).2.2
                have h7 := HN2.out
                omega
              have hWS2 := (Pr.replay_wf HREP3.out).1
              have hlen' : l'.length = n + 1 := by rw [hll, HN2.out]
              have hpin := fun u (hu : Below Wa.heap.size Wa u) => HPA.out.below hu
              have hc14 : Calls Try.prog 34 #[.agg #[.int .i64 p.vars, .int .i64 p.mtx, .slice A p.code.length cap], .int .i64 (m : Int), .slice (some ⟨g1, of1, none⟩) (n + 1) cap1] w4 fun x w' => x = .returned (.tuple #[.string ⟨(Fo.key l2).toArray⟩, .int .i64 0]) ∧ Below w4.heap.size w4 w' := by
                have hrd : Rd w4 1 (some ⟨g1, of1, none⟩) row2.length (row2.map iv) := by rw [← HN2.out]; exact HROW4.out.rd
                have := beginsW_any w4 p A cap m (some ⟨g1, of1, none⟩) cap1 row2 (hpin w4 HBW4.out) hrd (by have := HN2.out; omega)
                rw [hbg, ← HN2.out] at this
                exact this
              have hc15 : ∀ u, Calls Try.prog 35 #[.string ⟨(Fo.key l2).toArray⟩] u fun x w' => ∃ A' cap', x = .returned (.tuple #[.slice A' (n + 1) cap', .int .i64 0]) ∧ Rd w' 1 A' (n + 1) ((l'.map Ev.t).map iv) ∧ Below u.heap.size u w' := fun u => by
                have := rowW_any u (Fo.key l2) hkl
                rw [hrw] at this
                refine this.mono fun x w' h => ?_
                obtain ⟨A', cap', h1, h2, _, _, h3⟩ := h
                rw [List.length_map, hlen'] at h1 h2
                exact ⟨A', cap', h1, h2, h3⟩
              have hc16 : ∀ (u : World) (A' : Option Addr) (cap' : Nat), Below Wa.heap.size Wa u → Rd u 1 A' (n + 1) ((l'.map Ev.t).map iv) → Calls Try.prog 36 #[.agg #[.int .i64 p.vars, .int .i64 p.mtx, .slice A p.code.length cap], .int .i64 (m : Int), .slice A' (n + 1) cap'] u fun x w' => ∃ (S2 T2 : Nat) (C2 : Nat → Prop) (A3 : Option Addr) (c3 : Nat), x = .returned (.tuple #[.pointer (some ⟨S2, 0, none⟩), .slice A3 (n + 1) c3, .int .i64 0]) ∧ SAt w' C2 S2 T2 s2 ∧ Rd w' 4 A3 (n + 1) (l'.flatMap encE) ∧ Below u.heap.size u w' := fun u A' cap' hu hr => by
                have hl3 : (l'.map Ev.t).length = n + 1 := by rw [List.length_map, hlen']
                have hin := hpin u hu
                have := replay_any u p A cap m A' cap' (l'.map Ev.t) hin.1 hin.2.1 hin.2.2 (by rw [hl3]; exact hr) (by omega)
                rw [hrp, hl3] at this
                refine this.mono fun x w' h => ?_
                obtain ⟨S2, T2, C2, A3, c3, h1, h2, _, _, _, h3, _, _, h4⟩ := h
                rw [hlen'] at h1 h3
                exact ⟨S2, T2, C2, A3, c3, h1, h2, h3, h4⟩
              have hckey : ∀ (u : World) (A3 : Option Addr) (c3 : Nat), Rd u 4 A3 (n + 1) (l'.flatMap encE) → Calls Try.prog 14 #[.slice A3 (n + 1) c3] u fun x w' => x = .returned (.string ⟨(Fo.key l2).toArray⟩) ∧ Below u.heap.size u w' := fun u A3 c3 hr => by
                have := fkey_any u A3 c3 l' (by rw [hlen']; exact hr) (by omega)
                rw [hlen', hky] at this
                exact this
              obtain ⟨na2, hna2⟩ : ∃ k, k = ((Pr.all s2).map (fun (t : Nat) => (t : Int))).length := ⟨_, rfl⟩
              have hcall2 : ∀ (u : World) (C : Nat → Prop) (S T : Nat), SAt u C S T s2 → Calls Try.prog 32 #[.pointer (some ⟨S, 0, none⟩)] u fun x w' => ∃ A cap, x = .returned (.slice A na2 cap) ∧ Rd w' 1 A na2 (((Pr.all s2).map (fun (t : Nat) => (t : Int))).map iv) ∧ Below u.heap.size u w' := fun u C S T h => by
                have := all_any u C S T s2 h hWS2
                refine this.mono fun x w' h => ?_
                obtain ⟨A, cap, h1, h2, h3⟩ := h
                have h4 := h2.1.rd
                rw [← hna2] at h1 h4
                exact ⟨A, cap, h1, h4, h3⟩
              have hna4 : na2 ≤ 4 := by
                have h4 := hWS2.n4
                have : (Pr.all s2).length ≤ s2.th.length := by unfold Pr.all; exact Nat.le_trans (List.length_filter_le _ _) (by simp)
                rw [hna2, List.length_map]
                omega
              have hcsame : ∀ (u : World) (q : List Int) (A' : Option Addr) (c' : Nat) (B' : Option Addr) (c'' : Nat) (N : Nat), N = q.length → N ≤ 1000 → Rd u 1 A' N (q.map iv) → Rd u 1 B' N (q.map iv) → Calls Try.prog 37 #[.slice A' N c', .slice B' N c''] u fun x w' => x = .returned (.bool true) ∧ Below u.heap.size u w' := fun u q A' c' B' c'' N hN hN2 h1 h2 => by
                subst hN
                have := sameInts_any u A' c' q B' c'' q h1 h2 (by omega)
                rwa [decide_eq_true rfl] at this
              have hcthr : ∀ (u : World) (A3 : Option Addr) (c3 : Nat), Rd u 4 A3 (n + 1) (l'.flatMap encE) → Calls Try.prog 38 #[.slice A3 (n + 1) c3] u fun x w' => ∃ A cap, x = .returned (.slice A (n + 1) cap) ∧ Rd w' 1 A (n + 1) ((l'.map Ev.t).map iv) ∧ Below u.heap.size u w' := fun u A3 c3 hr => by
                have := refThreads_any u A3 c3 l' (by rw [hlen']; exact hr) (by omega)
                refine (hlen' ▸ this).mono fun x w' h => ?_
                obtain ⟨A, cap, h1, h2, h3⟩ := h
                have h4 := h2.1.rd
                rw [List.length_map, hlen'] at h1 h4
                exact ⟨A, cap, h1, h4, h3⟩
              obtain ⟨kb, hkb⟩ : ∃ kb : ByteArray, kb = ⟨(Fo.key l2).toArray⟩ := ⟨_, rfl⟩
              rw [← hkb] at hc14 hc15 hckey
              obtain ⟨ot, hot⟩ : ∃ ot, ot = l'.map Ev.t := ⟨_, rfl⟩
              rw [← hot] at hc15 hc16 hcthr
              have hol : n + 1 = ot.length := by rw [hot, List.length_map, hlen']
              obtain ⟨a2, ha2⟩ : ∃ a2, a2 = (Pr.all s2).map (fun (t : Nat) => (t : Int)) := ⟨_, rfl⟩
              rw [← ha2] at hcall2 hna2
              have HC14 := Lib.hid hc14
              have HC15 := Lib.hid hc15
              have HC16 := Lib.hid hc16
              have HCKEY := Lib.hid hckey
              have HCALL2 := Lib.hid hcall2
              have HSAMEA := Lib.hid (fun u A' c' B' c'' => hcsame u a2 A' c' B' c'' na2 hna2 (by omega))
              have HSAMEO := Lib.hid (fun u A' c' B' c'' => hcsame u ot A' c' B' c'' (n + 1) hol (by omega))
              have HCTHR := Lib.hid hcthr
              clear hc14 hc15 hc16 hckey hcall2 hcsame hcthr hrw hrp hky hll hok hbg hkl hWS2 hlen' hpin hkb hot hol ha2 hna2
              go_wp2_with fail
              refine HC14.out.mono ?_
              rintro y w5 ⟨rfl, b5⟩
              have E5 := Lib.hid b5
              clear b5 x0 x1 x2 xl HC14
              go_wp2_with fail
              refine (HC15.out w5).mono ?_
              rintro y w6 ⟨A6, c6, rfl, r6, b6⟩
              have E6 := Lib.hid (below_at E5.out b6)
              have R6 := Lib.hid r6
              clear b6 r6 HC15
              obtain ⟨x0, x1, x2, xl⟩ := HXE.out w6 (below_at HBW4.out E6.out)
              go_wp2_with fail
              refine (HC16.out w6 A6 c6 (below_at HBW4.out E6.out) R6.out).mono ?_
              rintro y w7 ⟨S2, T2, C2, A7, c7, rfl, hsat7, r7, b7⟩
              have E7 := Lib.hid (below_at E6.out b7)
              have R6 := Lib.hid (R6.out.below b7 (Nat.le_refl _))
              have R7 := Lib.hid r7
              have HT7 := Lib.hid hsat7
              clear b7 r7 hsat7 HC16 x0 x1 x2 xl
              go_wp2_with fail
              refine (HCKEY.out w7 A7 c7 R7.out).mono ?_
              rintro y w8 ⟨rfl, b8⟩
              have E8 := Lib.hid (below_at E7.out b8)
              have R6 := Lib.hid (R6.out.below b8 (Nat.le_refl _))
              have R7 := Lib.hid (R7.out.below b8 (Nat.le_refl _))
              have HT7 := Lib.hid (HT7.out.below b8)
              clear b8 HCKEY
              have e1 : (kb == kb) = true := by rw [ba_beq]; simp
              have e2 : (kb != kb) = false := by unfold bne; rw [e1]; rfl
              go_wp2_with fail
              refine (HCALL2.out w8 C2 S2 T2 HT7.out).mono ?_
              rintro y w9 ⟨A9, c9, rfl, r9, b9⟩
              have E9 := Lib.hid (below_at E8.out b9)
              have R6 := Lib.hid (R6.out.below b9 (Nat.le_refl _))
              have R7 := Lib.hid (R7.out.below b9 (Nat.le_refl _))
              have HT7 := Lib.hid (HT7.out.below b9)
              have R9 := Lib.hid r9
              clear b9 r9
              go_wp2_with fail
              refine (HCALL2.out w9 C S T (HSAT4.out.below E9.out)).mono ?_
              rintro y w10 ⟨A10, c10, rfl, r10, b10⟩
              have E10 := Lib.hid (below_at E9.out b10)
              have R6 := Lib.hid (R6.out.below b10 (Nat.le_refl _))
              have R7 := Lib.hid (R7.out.below b10 (Nat.le_refl _))
              have HT7 := Lib.hid (HT7.out.below b10)
              have R9 := Lib.hid (R9.out.below b10 (Nat.le_refl _))
              have R10 := Lib.hid r10
              clear b10 r10 HCALL2
              go_wp2_with fail
              refine (HSAMEA.out w10 A9 c9 A10 c10 R9.out R10.out).mono ?_
              rintro y w11 ⟨rfl, b11⟩
              have E11 := Lib.hid (below_at E10.out b11)
              have R6 := Lib.hid (R6.out.below b11 (Nat.le_refl _))
              have R7 := Lib.hid (R7.out.below b11 (Nat.le_refl _))
              have HT7 := Lib.hid (HT7.out.below b11)
              clear b11 R9 R10 HSAMEA
              go_wp2_with fail
              refine (HCTHR.out w11 A7 c7 R7.out).mono ?_
              rintro y w12 ⟨A12, c12, rfl, r12, b12⟩
              have E12 := Lib.hid (below_at E11.out b12)
              have R6 := Lib.hid (R6.out.below b12 (Nat.le_refl _))
              have HT7 := Lib.hid (HT7.out.below b12)
              have R12 := Lib.hid r12
              clear b12 r12 R7 HCTHR
              go_wp2_with fail
              refine (HSAMEO.out w12 A12 c12 A6 c6 R12.out R6.out).mono ?_
              rintro y w13 ⟨rfl, b13⟩
              have E13 := Lib.hid (below_at E12.out b13)
              have HT13 := Lib.hid (HT7.out.below b13)
              have HS13 := Lib.hid (HSAT4.out.below E13.out)
              have HROW13 := Lib.hid (row_stepS HROW4.out E13.out)
              have HMO13 := Lib.hid (HMO4.out.trans (Mod.of_below_size E13.out _))
              clear b13 R6 R12 HT7 HSAT4 HROW4 HMO4 E5 E6 E7 E8 E9 E10 E11 E12 HSAMEO e1 e2
              have HV := Lib.hid (fun (i : Nat) (hi : i < 4) => var_any w13 C S T s2 i HS13.out hi)
              have HV2 := Lib.hid (fun (i : Nat) (hi : i < 4) => var_any w13 C2 S2 T2 s2 i HT13.out hi)
              have HH := Lib.hid (fun (i : Nat) => holder_any w13 C S T s2 i HS13.out)
              have HH2 := Lib.hid (fun (i : Nat) => holder_any w13 C2 S2 T2 s2 i HT13.out)
              go_wp2_with fail
              go_loop [130] (fun v => ∃ i : Nat, i ≤ 4 ∧ v = .int .i64 i) (fun v => 4 - (intOf v).toNat)
              case atStart => exact ⟨0, by omega, rfl⟩
              case round =>
                obtain ⟨i, hi, rfl⟩ := hrel
                by_cases hlt4 : i < 4
                · have k5 : (0 : Int) ≤ (i : Int) := Int.natCast_nonneg _
                  have k6 : (i : Int) < 4 := by omega
                  have v1 := HV.out i hlt4
                  have v2 := HV2.out i hlt4
                  have h1 := HH.out i
                  have h2 := HH2.out i
                  obtain ⟨vv, hvv⟩ : ∃ z, z = s2.v i := ⟨_, rfl⟩
                  obtain ⟨hh, hhh⟩ : ∃ z, z = (if i < 2 then s2.h i else -1) := ⟨_, rfl⟩
                  rw [← hvv] at v1 v2
                  rw [← hhh] at h1 h2
                  have HV1 := Lib.hid v1
                  have HVV2 := Lib.hid v2
                  have HH1 := Lib.hid h1
                  have HHH2 := Lib.hid h2
                  clear v1 v2 h1 h2 hvv hhh
                  have e1 : (vv == vv) = true := by simp
                  have e2 : (vv != vv) = false := by simp
                  have e3 : (hh == hh) = true := by simp
                  have e4 : (hh != hh) = false := by simp
                  go_wp2_with fail
                  refine HV1.out.mono ?_
                  rintro y w' ⟨rfl, rfl⟩
                  go_wp2_with fail
                  refine HVV2.out.mono ?_
                  rintro y w' ⟨rfl, rfl⟩
                  go_wp2_with fail
                  refine HH1.out.mono ?_
                  rintro y w' ⟨rfl, rfl⟩
                  go_wp2_with fail
                  refine HHH2.out.mono ?_
                  rintro y w' ⟨rfl, rfl⟩
                  go_wp2_with fail
                  go_round
                  case rel => exact ⟨i + 1, by omega, by go_num⟩
                  case measure => simp [intOf]; omega
                · go_wp2_with fail
                  go_roundw
                  case rel => exact ⟨k + 1, n + 1, row2, s2, l2, some ⟨g1, of1, none⟩, cap1, by omega, by go_num, rfl, by omega, HN2, HREP3, HS13, HROW13, Lib.hid (fun a ha => by injection ha with ha; subst ha; exact HG1.out), HMO13⟩
                  case measure => simp [intOf]; omega
          · have hkk : ¬ (k : Int) < (ts.length : Int) := by omega
            go_wp2_with fail
            go_ret
            exact ⟨rfl, below_at HB.out HBW.out⟩
      · have hnew := new_bad wc p A cap f (HPA.out.below HB1.out).1 HPA.out.2.1 HPA.out.2.2 hm
        unfold valP at hnew
        have HNEW := Lib.hid hnew
        clear hnew hm
        go_wp2_with fail
        refine HNEW.out.mono ?_
        rintro y w1 ⟨rfl, b1⟩
        go_wp2_with fail
        go_ret
        exact ⟨rfl, below_at HB.out (below_at HB1.out b1)⟩
open Go.ChangeShapes Go.WideShapes Go.ChangeAt
set_option maxRecDepth 100000 in
theorem u8_readW {H : Type} {enc : TypeId × Value → H} {w : World} {base : Nat} {spare : Nat → Bool} {held : Bool} (fuel : Nat) (cs : List Value) (y : DataW H × List MemPlace) (hl : cs.length = 1)
    (h : DataW.trod enc Try.prog w base spare held fuel 5 cs = some y) : ∃ x : Nat, cs = [.int .u8 x] ∧ x ≤ 255 := by
  obtain ⟨p, e, w⟩ := tr_int Try.underlying5 h
  obtain ⟨m, rfl, h⟩ := u8_bounds w
  exact ⟨m, e, h⟩
theorem flat_u8sW (xs : List Nat) : xs.flatMap (fun (s : Nat) => [Value.int .u8 (s : Int)]) = xs.map (fun (t : Nat) => Value.int .u8 (t : Int)) := by induction xs <;> simp_all
set_option maxRecDepth 100000 in
/-- a program, handed in as an argument -/
theorem prog_arg {H : Type} {enc : TypeId × Value → H} {W : World} {base : Nat} {v : Value} {d : DataW H} {q : List MemPlace}
    (o : Value.okWide Try.prog W .any base 47 v) (h : DataW.Trod enc Try.prog W 0 (fun _ => true) true 47 v d q) : ∃ (p : Pg) (A : Option Addr) (cap : Nat), v = valP p A cap ∧ PgIn W p A := by
  obtain ⟨cs, rfl, hsz⟩ := okWide_struct Try.underlying47 o
  obtain ⟨fuel, hf⟩ := h
  obtain ⟨p, A, cap, hcs, hcd, h1, h2, h3, _⟩ := prog_read fuel cs.toList _ (by simpa [Value.cells] using hf)
  obtain rfl : cs = #[.int .i64 p.vars, .int .i64 p.mtx, .slice A p.code.length cap] := by
    apply Array.ext'
    simpa using hcs
  exact ⟨p, A, cap, rfl, hcd, Nat.le_trans h1 h2, h3⟩
set_option maxRecDepth 100000 in
theorem WitnessBegins_walk {H : Type} {enc : TypeId × Value → H} (W : World) {base : Nat} {v0 v1 v2 : Value} {d0 d1 d2 : DataW H} {p0 p1 p2 : List MemPlace}
    (o0 : Value.okWide Try.prog W .any base 47 v0) (h0 : DataW.Trod enc Try.prog W 0 (fun _ => true) true 47 v0 d0 p0)
    (o1 : Value.okWide Try.prog W .any base 3 v1) (h1 : DataW.Trod enc Try.prog W 0 (fun _ => true) true 3 v1 d1 p1)
    (o2 : Value.okWide Try.prog W .any base 43 v2) (h2 : DataW.Trod enc Try.prog W 0 (fun _ => true) true 43 v2 d2 p2) :
    Calls Try.prog 8 #[v0, v1, v2] W fun e w' => e = .returned (.bool true) ∧ Below W.heap.size W w' := by
  obtain ⟨p, A, cap, rfl, hin⟩ := prog_arg o0 h0
  obtain ⟨f, rfl, rfl, rfl, wf⟩ := open_int Try.underlying3 o1 h1
  obtain ⟨f2, hf2⟩ := h2
  obtain ⟨C, len2, cap2, rfl⟩ := okWide_slice Try.underlying43 o2
  obtain ⟨ss, hl, hg, hr2, h5, h6⟩ := tr_list (f := fun (s : Nat) => [Value.int .u8 (s : Int)]) (sz := 1) (by omega) Try.underlying43 (by kernel_rfl) u8_readW (by simpa [Value.cells] using hf2)
  subst hl
  exact witnessBegins_any W p A cap f C cap2 ss hin (flat_u8sW ss ▸ hr2) hg (Nat.le_trans h5 h6)
namespace witnessBegins
theorem own : ownKnob Try.prog.godebug = none := by kernel_rfl
theorem laidOut : laidOutB Try.prog = true := by kernel_rfl
set_option maxRecDepth 100000 in
theorem lifted (os : Os) (started : os.Started) (H : Type) (enc : TypeId × Value → H) :
    ReturnsInHanded {} Try.checked os 8 .any (Rows.witnessBeginsSpec.pre6 enc Try.prog Try.f8 Rows.witnessBeginsRow.domain false) (Rows.witnessBeginsSpec.post enc Try.prog Try.f8 false true false false) := by
  refine returnsInHanded_of_change_sized (C := Try.checked) own started (by kernel_rfl) Try.func8
    (ChangeSpec.witness6 (enc := enc) (C := Try.checked) false ⟨#[], #[.agg #[.int .i64 0, .int .i64 0, .slice none 0 0], .int .i64 0, .slice none 0 0], []⟩ 8 (by kernel_rfl) (by kernel_rfl) (by kernel_rfl) (by kernel_rfl)) ?_
  intro W base args ds gs before hval0 hW hcnd hsz0 _
  have hval : ∀ (j : Nat) t v, Try.f8.params[j]? = some t → args[j]? = some v → Value.okWide Try.prog W .any base t v := hval0
  have hW' := hW
  obtain ⟨p, q, hA0, hV, rfl, hfz, hnd⟩ := hW
  have hA : DataW.TrodAll enc Try.prog W 0 (fun _ => true) true Try.f8.params.toList args.toList ds p := hA0
  rw [Try.params8] at hA hval
  obtain ⟨v0, vs0, d0, ds0, p0, q0, hargs, rfl, rfl, h0, r0⟩ := trodAll_cons hA
  obtain ⟨v1, vs1, d1, ds1, p1, q1, rfl, rfl, rfl, h1, r1⟩ := trodAll_cons r0
  obtain ⟨v2, vs2, d2, ds2, p2, q2, rfl, rfl, rfl, h2, r2⟩ := trodAll_cons r1
  obtain ⟨rfl, rfl, rfl⟩ := trodAll_nil r2
  obtain rfl : args = #[v0, v1, v2] := by cases args; simp_all
  obtain ⟨rfl, rfl⟩ := trodVars_none hV
  have lt0 : ∀ x ∈ p0, x.block < W.heap.size := by obtain ⟨m, hm⟩ := h0; exact DataW.trod_lt m _ _ _ hm
  have lt1 : ∀ x ∈ p1, x.block < W.heap.size := by obtain ⟨m, hm⟩ := h1; exact DataW.trod_lt m _ _ _ hm
  have lt2 : ∀ x ∈ p2, x.block < W.heap.size := by obtain ⟨m, hm⟩ := h2; exact DataW.trod_lt m _ _ _ hm
  clear hA0 hval0 hsz0
  refine (WitnessBegins_walk W (hval 0 47 v0 rfl rfl) h0 (hval 1 3 v1 rfl rfl) h1 (hval 2 43 v2 rfl rfl) h2).mono fun e W' ⟨he, bel⟩ => ?_
  subst he
  exact ⟨_, rfl, _, _, _, [], _, [], hW', trodAll_mk1 (shut_bool Try.underlying4 _), (trodAll_cons_mk (Below.trod laidOut (by kernel_rfl) (of_decide_eq_true (by kernel_rfl)) h0 bel lt0) (trodAll_cons_mk (Below.trod laidOut (by kernel_rfl) (of_decide_eq_true (by kernel_rfl)) h1 bel lt1) (trodAll_cons_mk (Below.trod laidOut (by kernel_rfl) (of_decide_eq_true (by kernel_rfl)) h2 bel lt2) trodAll_mk0))), rfl, bel.frame _, fun h => (by cases h)⟩
theorem over : Rows.witnessBeginsRow.holds Try.pinned (OpenSpec.ofChange Rows.witnessBeginsSpec) :=
  OpenClaim.holds_of_wide 8 Try.f8 rfl rfl rfl rfl rfl rfl rfl ⟨rfl, rfl, rfl, rfl, rfl⟩ rfl rfl rfl rfl rfl (by kernel_rfl) Try.func8 (by kernel_rfl)
    (of_decide_eq_true (by kernel_rfl)) (by unfold Func.isWrapper; first | (rw [if_pos (by decide +kernel)]; kernel_rfl) | (rw [if_neg (by decide +kernel)]; exact ⟨rfl, rfl⟩))
    (fun os started H enc _ => lifted os started H enc)
end witnessBegins
/-- The row. -/
theorem witnessBegins_holds : Rows.WitnessBeginsSaid := witnessBegins.over
#print axioms witnessBegins_holds
end Go.Proofs.Ytgahjibjladafaa
