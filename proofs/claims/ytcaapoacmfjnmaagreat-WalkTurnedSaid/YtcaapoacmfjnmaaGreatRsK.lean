/- The reference's Row of a key. -/
import Derived.Test.YtcaapoacmfjnmaaGreatRsG
import Derived.Test.YtcaapoacmfjnmaaGreatRsI
namespace Go.Proofs.YtcaapoacmfjnmaaGreat
open Go.RowKit
set_option linter.unusedVariables false

set_option maxRecDepth 100000 in
theorem refRowW_any (w : World) (k : List UInt8) (hk : k.length < 100000) :
    Calls Tryz.prog 16 #[.string ⟨k.toArray⟩] w fun x w' => RowOutW w (Pr.rowW k) x w' := by
  have hread := refReadL_any w ⟨k.toArray⟩ (by show k.toArray.size < _; simpa using hk)
  have hdat : (⟨k.toArray⟩ : ByteArray).data.toList = k := by simp
  rw [hdat] at hread
  obtain ⟨res, hres⟩ : ∃ res, res = Pr.rowW k := ⟨_, rfl⟩
  rw [← hres]
  have HREAD := Lib.hid hread
  have HRES := Lib.hid hres
  have HK := Lib.hid hk
  generalize (⟨k.toArray⟩ : ByteArray) = kb at *
  clear hread hres hk hdat
  go_enter Tryz.func16, Tryz.ntmps16
  go_wp2_with fail
  refine HREAD.out.mono ?_
  rintro y w1 (⟨A, cap, L, hL, rfl, hlv, b1⟩ | ⟨hL, rfl, b1⟩)
  · obtain ⟨hl1, hl2⟩ := Pr.readL_small hL
    have hrow := refRow_any w1 A cap L hlv (by have := HK.out; omega) (by have := HK.out; omega)
    have hres2 : res = .ok (L.flatten.map Ev.t) := by rw [HRES.out]; unfold Pr.rowW; rw [hL]
    obtain ⟨l, hl⟩ : ∃ l, l = L.flatten := ⟨_, rfl⟩
    rw [← hl] at hrow hl2 hres2
    have HROW := Lib.hid hrow
    have HB1 := Lib.hid b1
    have HR2 := Lib.hid hres2
    have HL := Lib.hid (show l.length ≤ 1000000 by have := HK.out; omega)
    clear hrow b1 hres2 hl hlv hL hl1 hl2 HREAD
    go_wp2_with fail
    refine HROW.out.mono ?_
    rintro y w2 ⟨A2, c2, rfl, ⟨hr2, _, _⟩, b2⟩
    have hthr := refThreads_any w2 A2 c2 l hr2 HL.out
    have HTHR := Lib.hid hthr
    have HB2 := Lib.hid (below_at HB1.out b2)
    clear hthr b2 hr2
    go_wp2_with fail
    refine HTHR.out.mono ?_
    rintro y w3 ⟨A3, c3, rfl, ⟨hr3, _⟩, b3⟩
    have HB3 := Lib.hid (below_at HB2.out b3)
    have HR3 := Lib.hid hr3
    clear hr3 b3 HTHR
    go_wp2_with fail
    refine bodyPost_ret (v := .tuple #[.slice A3 (l.map Ev.t).length c3, .int .i64 0]) (by simp [results, Tryz.results16, go_sem]) rfl ?_
    rw [HR2.out]
    exact ⟨A3, c3, rfl, HR3.out.rd, HR3.out.2.1, HR3.out.2.2.1, HB3.out⟩
  · have hres2 : res = .error 3 := by rw [HRES.out]; unfold Pr.rowW; rw [hL]
    have HR2 := Lib.hid hres2
    have HB1 := Lib.hid b1
    clear hres2 hL b1 HREAD
    go_wp2_with fail
    refine bodyPost_ret (v := .tuple #[.slice none 0 0, .int .i64 3]) (by simp [results, Tryz.results16, go_sem]) rfl ?_
    rw [HR2.out]
    exact ⟨rfl, HB1.out⟩
end Go.Proofs.YtcaapoacmfjnmaaGreat
/- The reference's Replay. -/
namespace Go.Proofs.YtcaapoacmfjnmaaGreat
open Go.RowKit
set_option linter.unusedVariables false

/-- what the reference's Replay gives -/
def RefReplayOut (w : World) (r : Except Int (St × List Ev)) (x : Ending) (w' : World) : Prop :=
  match r with
  | .ok (s', l) => ∃ (S T o : Nat) (C : Nat → Prop) (A : Option Addr) (cap : Nat), x = .returned (.tuple #[.pointer (some ⟨S, 0, none⟩), .slice A l.length cap, .int .i64 0]) ∧ RAt w' C S T o s' ∧ w.heap.size ≤ S ∧ w.heap.size ≤ T ∧ Rd w' 4 A l.length (l.flatMap encE) ∧ l.length ≤ cap ∧ cap ≤ maxLen ∧ Below w.heap.size w w'
  | .error e => x = .returned (.tuple #[.pointer none, .slice none 0 0, .int .i64 e]) ∧ Below w.heap.size w w'
set_option maxRecDepth 100000 in
set_option maxHeartbeats 4000000 in
theorem refReplay_any (w : World) (p : Pg) (A : Option Addr) (cap : Nat) (fuel : Int) (B : Option Addr) (cap' : Nat) (row : List Int) (hp : PgIn w p A)
    (hr : Rd w 1 B row.length (row.map iv)) (hrl : row.length ≤ 1000000) :
    Calls Tryz.prog 56 #[valP p A cap, .int .i64 fuel, .slice B row.length cap'] w fun x w' => RefReplayOut w (Pr.replay p fuel row) x w' := by
  obtain ⟨Wa, X, hWa, hX, hBa, hXl, hXe⟩ := pg_box w p.vars p.mtx A p.code.length cap
  have hpa := hp.below hBa
  obtain ⟨x0, x1, x2, xl⟩ := hXe Wa (Below.refl _ _)
  by_cases hok : Pr.Ok p ∧ 0 ≤ fuel ∧ fuel ≤ 8
  · obtain ⟨f, rfl⟩ : ∃ f : Nat, fuel = f := ⟨fuel.toNat, by omega⟩
    have hf8 : f ≤ 8 := by omega
    have hrep : Pr.replay p f row = Pr.run (Pr.start p f) row := by unfold Pr.replay; rw [if_pos hok, Int.toNat_natCast]
    have hcall := refNew_ok Wa p A cap f hpa hok.1 hf8
    have hwf := Pr.start_wf hok.1 hf8
    obtain ⟨s0, hs0⟩ : ∃ s0, s0 = Pr.start p f := ⟨_, rfl⟩
    obtain ⟨res, hres⟩ : ∃ res, res = Pr.replay p f row := ⟨_, rfl⟩
    rw [← hs0] at hcall hwf hrep
    rw [← hres] at hrep ⊢
    have HREP := Lib.hid hrep
    obtain ⟨i0, hi0, hz0, hz1, hz2⟩ := info_parts Tryz.infoEv
    unfold valP at hcall ⊢
    have HCALL := Lib.hid hcall
    have HWF := Lib.hid hwf
    have HB := Lib.hid hBa
    have HR := Lib.hid (int_cell hr.toB)
    have HRL := Lib.hid hrl
    have hll : row.length < 9223372036854775808 := by omega
    clear hcall hwf hBa hXe hp hpa hr hrl hok hf8 hrep hs0 hres
    go_enter Tryz.func56, Tryz.ntmps56
    go_upto_region 1 with fail
    rw [← hWa, ← hX]
    clear hWa hX
    go_wp2_with fail
    refine HCALL.out.mono ?_
    rintro y w1 ⟨S, T, oT, rfl, hsat, hS, hT, b1⟩
    have HSAT1 := Lib.hid hsat
    obtain ⟨C, hCC⟩ : ∃ C, C = fun k => k < Wa.heap.size := ⟨_, rfl⟩
    rw [← hCC] at HSAT1
    have HCB := Lib.hid (show ∀ k, C k → k < w1.heap.size from fun k hk => by rw [hCC] at hk; have := b1.size; exact Nat.lt_of_lt_of_le hk this)
    have HSTB := Lib.hid (show (w.heap.size ≤ S ∧ S < w1.heap.size) ∧ w.heap.size ≤ T ∧ T < w1.heap.size from by have := HB.out.size; exact ⟨⟨by omega, hsat.lt.1⟩, by omega, hsat.lt.2⟩)
    have HB1 := Lib.hid (below_at HB.out b1)
    clear hsat hS hT b1 hCC HCALL x0 x1 x2 xl
    go_wp2_with fail
    go_loopw [10, 11] (fun r v wr => ∃ (k : Nat) (s : St) (l : List Ev) (A' : Option Addr) (cp : Nat), k ≤ row.length ∧ v = .int .i64 k ∧ r = .slice A' k cp ∧ Hid (Pr.run s0 (row.take k) = .ok (s, l)) ∧ Hid (l.length = k) ∧ Hid (RAt wr C S T oT s) ∧ Hid (Row wr 57 4 A' k cp (l.flatMap encE)) ∧ Hid (∀ a, A' = some a → w1.heap.size ≤ a.block) ∧ Hid (Mod (fun k => k = S ∨ k = T) w1 wr)) (fun _ v _ => row.length - (intOf v).toNat)
    case atStart => exact ⟨0, s0, [], none, 0, Nat.zero_le _, rfl, rfl, Lib.hid rfl, Lib.hid rfl, HSAT1, Lib.hid (Row.nil _ _ _), Lib.hid (fun a h => by cases h), Lib.hid (Mod.refl _ _)⟩
    case round =>
      clear HSAT1
      obtain ⟨k, s, l, A', cp, hk, rfl, rfl, HRUN, HLEN, HSAT, HROW, HA, HMO⟩ := hrel
      obtain ⟨hws, _, _, _⟩ := Pr.run_wf _ HWF.out HRUN.out
      have HWS := Lib.hid hws
      clear hws
      by_cases hlt : k < row.length
      · obtain ⟨t, ht⟩ := get_some hlt
        obtain ⟨g, o, rfl, hg, hcl⟩ := HR.out k t ht
        have hbw : Below w.heap.size w wr := HB1.out.trans (HMO.out.below w.heap.size HB1.out.size (fun q hq e => by have := HSTB.out; omega))
        have ca := hcl wr hbw
        have lg : g < wr.heap.size := by have := hbw.size; omega
        have HBW := Lib.hid hbw
        have HTK := Lib.hid (take_snoc ht)
        have k1 : (0 : Int) ≤ (k : Int) := Int.natCast_nonneg _
        have k2 : (k : Int) < (row.length : Int) := by omega
        clear hbw hcl
        have hsn := Pr.run_snoc t (row.take k) s0
        rw [HRUN.out, ← HTK.out] at hsn
        simp only at hsn
        by_cases hE : Pr.stepE s t = 0
        · rw [if_pos hE] at hsn
          obtain ⟨m, rfl, hm, hen, e, hnx⟩ := Pr.step_good hE
          rw [Int.toNat_natCast, hnx, Option.getD_some] at hsn
          have hcall := refStep_ok wr C S T oT s m e HSAT.out HWS.out hm hen hnx
          obtain ⟨et, ek, eo, ef⟩ := e
          simp only [valE] at hcall
          have HCALL := Lib.hid hcall
          have HSN := Lib.hid hsn
          clear hcall hsn hE hm hen hnx ht
          go_wp2_with fail
          refine HCALL.out.mono ?_
          rintro y w2 ⟨rfl, hsat2, hmod2⟩
          obtain ⟨Wz, Z, hWz, hZ, hBz, hZl, hZe⟩ := ev_box w2 ⟨et, ek, eo, ef⟩
          simp only at hWz
          obtain ⟨⟨z0, z1, z2, z3⟩, zl⟩ := hZe Wz (Below.refl _ _)
          simp only [Nat.zero_add] at z1 z2 z3
          have hms : Mod (fun k => k = S ∨ k = T) w1 w2 := HMO.out.trans hmod2
          have hrw2 : Row w2 57 4 A' k cp (l.flatMap encE) := HROW.out.mod hmod2 (fun a ha e => by have := HA.out a ha; have := HSTB.out; omega)
          have HSAT3 := Lib.hid (hsat2.below hBz)
          have HROW3 := Lib.hid (row_stepS hrw2 hBz)
          have HMO3 := Lib.hid (hms.trans (Mod.of_below_size hBz _))
          clear hsat2 hmod2 hBz hZl hZe hms hrw2 HCALL
          go_upto_region 9 with fail
          rw [← hWz, ← hZ]
          clear hWz hZ
          go_wp2_with (at_builtin; refine wpList_append_row (by rfl) _ _ _ (by rfl) 57 i0 _ 4 32 Tryz.underlying52 hi0 hz0 hz1 hz2 rfl (by omega) A' k cp (l.flatMap encE) (by rfl) (HROW3.out.alloc _) ⟨Wz.heap.size, 0, none⟩ 1 1 [.int .i64 et, .int .i64 ek, .int .i64 eo, .bool ef] (by rfl) (by rfl) (World.news_of_block (cs := #[.int .i64 et, .int .i64 ek, .int .i64 eo, .bool ef]) (t := 57) (fr := (0, 0)) (heap_alloc_new Wz _)) (by simp [Value.oneCell']) (by omega) (by have := HRL.out; unfold maxLen; omega) (by have := HRL.out; omega) ?_; intro g1 of1 cap1 w3 hown hm hat; skip)
          have hal : Below Wz.heap.size Wz (Wz.alloc (Obj.cells #[.int .i64 et, .int .i64 ek, .int .i64 eo, .bool ef] 57)) := (Below.refl _ _).alloc (Nat.le_refl _) _
          go_roundw
          case rel =>
            refine ⟨k + 1, _, l ++ [⟨et, ek, eo, ef⟩], some ⟨g1, of1, none⟩, cap1, by omega, by go_num, rfl, HSN, Lib.hid (by simp [HLEN.out]), Lib.hid ?_, Lib.hid (by rw [List.flatMap_append]; simpa [encE] using hown), Lib.hid ?_, Lib.hid ?_⟩
            · exact (HSAT3.out.below hal).mod hm (fun q hq ⟨a, e1, e2⟩ => by have := HA.out a e1; have := HCB.out q hq; omega) (fun ⟨a, e1, e2⟩ => by have := HA.out a e1; have := HSTB.out; omega) (fun ⟨a, e1, e2⟩ => by have := HA.out a e1; have := HSTB.out; omega)
            · intro a ha
              injection ha with ha
              subst ha
              rcases hat with ⟨a, e1, e2⟩ | h
              · have := HA.out a e1; simp only; omega
              · have := hal.size; have := HMO3.out.size; simp only; omega
            · exact (HMO3.out.trans (Mod.of_below_size hal _)).then hm (fun q hq ⟨a, e1, e2⟩ => by have := HA.out a e1; omega)
          case measure => simp [intOf]; omega
        · rw [if_neg hE] at hsn
          have hcall := refStep_bad wr C S T oT s t HSAT.out HWS.out hE
          have herr : Pr.run s0 row = .error (Pr.stepE s t) := by
            have := Pr.run_error (row.drop (k + 1)) _ _ hsn
            rwa [List.take_append_drop] at this
          obtain ⟨er, her⟩ : ∃ er, er = Pr.stepE s t := ⟨_, rfl⟩
          rw [← her] at hcall herr hE
          have e1 : (er == 0) = false := by simpa using hE
          have e2 : (er != 0) = true := by simpa using hE
          have hres : res = .error er := by rw [HREP.out, herr]
          have HRES := Lib.hid hres
          simp only [valE, Pr.zeroE] at hcall
          have HCALL := Lib.hid hcall
          clear hcall hsn herr her ht hE hres
          go_wp2_with fail
          refine HCALL.out.mono ?_
          rintro y w2 ⟨rfl, b2⟩
          have hb2 := below_at HBW.out b2
          have HB2 := Lib.hid hb2
          clear b2 hb2
          go_wp2_with fail
          refine bodyPost_ret (v := .tuple #[.pointer none, .slice none 0 0, .int .i64 er]) (by simp [results, Tryz.results56, go_sem]) rfl ?_
          rw [HRES.out]
          exact ⟨rfl, HB2.out.alloc HB2.out.size _⟩
      · obtain rfl : k = row.length := by omega
        have hrun := HRUN.out
        rw [List.take_length] at hrun
        have hres : res = .ok (s, l) := by rw [HREP.out, hrun]
        have HRES := Lib.hid hres
        have hbw : Below w.heap.size w wr := HB1.out.trans (HMO.out.below w.heap.size HB1.out.size (fun q hq e => by have := HSTB.out; omega))
        have HBW := Lib.hid hbw
        clear hrun hres hbw HRUN
        go_wp2_with fail
        refine bodyPost_ret (v := .tuple #[.pointer (some ⟨S, 0, none⟩), .slice A' row.length cp, .int .i64 0]) (by simp [results, Tryz.results56, go_sem]) rfl ?_
        rw [HRES.out]
        have hrw := HROW.out
        have hle := HLEN.out
        exact ⟨S, T, oT, C, A', cp, by rw [hle], HSAT.out, HSTB.out.1.1, HSTB.out.2.1, by rw [hle]; exact hrw.rd, by rw [hle]; exact hrw.2.1, hrw.2.2.1, HBW.out⟩
  · have hrep : Pr.replay p fuel row = .error 1 := by unfold Pr.replay; rw [if_neg hok]
    rw [hrep]
    have hcall := refNew_bad Wa p A cap fuel hpa hok
    unfold valP at hcall ⊢
    have HCALL := Lib.hid hcall
    have HB := Lib.hid hBa
    clear hcall hBa hXe hp hpa hr hrl hok hrep
    go_enter Tryz.func56, Tryz.ntmps56
    go_upto_region 1 with fail
    rw [← hWa, ← hX]
    clear hWa hX
    go_wp2_with fail
    refine HCALL.out.mono ?_
    rintro y w1 ⟨rfl, b1⟩
    have HB1 := Lib.hid (below_at HB.out b1)
    clear b1
    go_wp2_with fail
    refine bodyPost_ret (v := .tuple #[.pointer none, .slice none 0 0, .int .i64 1]) (by simp [results, Tryz.results56, go_sem]) rfl ?_
    exact ⟨rfl, HB1.out⟩
end Go.Proofs.YtcaapoacmfjnmaaGreat
/- The reference's Begins, Ends, Of. -/
namespace Go.Proofs.YtcaapoacmfjnmaaGreat
open Go.RowKit
set_option linter.unusedVariables false

set_option maxRecDepth 100000 in
theorem refBeginsW_any (w : World) (p : Pg) (A : Option Addr) (cap : Nat) (f : Int) (B : Option Addr) (cap' : Nat) (row : List Int) (hp : PgIn w p A) (hr : Rd w 1 B row.length (row.map iv)) (hrl : row.length ≤ 1000000) :
    Calls Tryz.prog 18 #[valP p A cap, .int .i64 f, .slice B row.length cap'] w fun x w' => KeyOutW w (Pr.beginsW p f row) x w' := by
  obtain ⟨Wa, X, hWa, hX, hBa, hXl, hXe⟩ := pg_box w p.vars p.mtx A p.code.length cap
  obtain ⟨x0, x1, x2, xl⟩ := hXe Wa (Below.refl _ _)
  have hpa := hp.below hBa
  have hcall := refReplay_any Wa p A cap f B cap' row hpa (hr.below hBa (Nat.le_refl _)) hrl
  obtain ⟨res, hres⟩ : ∃ res, res = Pr.beginsW p f row := ⟨_, rfl⟩
  have hlen : ∀ s l, Pr.replay p f row = .ok (s, l) → l.length = row.length := fun s l h => (Pr.replay_wf h).2.2
  have hne : ∀ e, Pr.replay p f row = .error e → e ≠ 0 := fun e h => Pr.replay_err h
  rw [← hres]
  unfold Pr.beginsW at hres
  obtain ⟨r, hrr⟩ : ∃ r, r = Pr.replay p f row := ⟨_, rfl⟩
  rw [← hrr] at hcall hres hlen hne
  unfold valP at hcall ⊢
  have HCALL := Lib.hid hcall
  have HRES := Lib.hid hres
  have HB := Lib.hid hBa
  have HLEN := Lib.hid hlen
  have HNE := Lib.hid hne
  have HRL := Lib.hid hrl
  clear hcall hres hBa hXe hp hpa hr hrl hrr hlen hne
  go_enter Tryz.func18, Tryz.ntmps18
  go_upto_region 1 with fail
  rw [← hWa, ← hX]
  clear hWa hX
  go_wp2_with fail
  refine HCALL.out.mono ?_
  intro y w1 hy
  cases r with
  | error e =>
    obtain ⟨rfl, b1⟩ := hy
    have HB1 := Lib.hid (below_at HB.out b1)
    clear b1
    have hres : res = .error e := HRES.out
    have HR := Lib.hid hres
    clear hres HRES HCALL
    have hne := HNE.out e rfl
    have e1 : (e == 0) = false := by simpa using hne
    have e2 : (e != 0) = true := by simpa using hne
    clear hne
    go_wp2_with fail
    refine bodyPost_ret (v := .tuple #[.string ⟨#[]⟩, .int .i64 e]) (by simp [results, Tryz.results18, go_sem]) rfl ?_
    rw [HR.out]
    exact ⟨rfl, HB1.out⟩
  | ok sl =>
    obtain ⟨s, l⟩ := sl
    obtain ⟨S, T, o, C, A2, c2, rfl, hsat, _, _, hr2, _, _, b1⟩ := hy
    have hkey := refKey_any w1 A2 c2 l hr2 (by have := HLEN.out s l rfl; have := HRL.out; omega)
    have HKEY := Lib.hid hkey
    have HB1 := Lib.hid (below_at HB.out b1)
    have hres : res = .ok (Fo.key l) := HRES.out
    have HR := Lib.hid hres
    obtain ⟨kb, hkb⟩ : ∃ kb : ByteArray, kb = ⟨(Fo.key l).toArray⟩ := ⟨_, rfl⟩
    rw [← hkb] at HKEY
    have HKB := Lib.hid hkb
    clear hres HRES HCALL hkey b1 hr2 hsat hkb
    go_wp2_with fail
    refine HKEY.out.mono ?_
    rintro y w2 ⟨rfl, b2⟩
    have HB2 := Lib.hid (below_at HB1.out b2)
    clear b2
    go_wp2_with fail
    refine bodyPost_ret (v := .tuple #[.string kb, .int .i64 0]) (by simp [results, Tryz.results18, go_sem]) rfl ?_
    rw [HR.out]
    exact ⟨by rw [HKB.out], HB2.out⟩
set_option maxRecDepth 100000 in
theorem refEndsW_any (w : World) (p : Pg) (A : Option Addr) (cap : Nat) (f : Int) (B : Option Addr) (cap' : Nat) (row : List Int) (hp : PgIn w p A) (hr : Rd w 1 B row.length (row.map iv)) (hrl : row.length ≤ 1000000) :
    Calls Tryz.prog 24 #[valP p A cap, .int .i64 f, .slice B row.length cap'] w fun x w' => x = .returned (.bool (Pr.endsW p f row)) ∧ Below w.heap.size w w' := by
  obtain ⟨Wa, X, hWa, hX, hBa, hXl, hXe⟩ := pg_box w p.vars p.mtx A p.code.length cap
  obtain ⟨x0, x1, x2, xl⟩ := hXe Wa (Below.refl _ _)
  have hpa := hp.below hBa
  have hcall := refReplay_any Wa p A cap f B cap' row hpa (hr.below hBa (Nat.le_refl _)) hrl
  obtain ⟨res, hres⟩ : ∃ res, res = Pr.endsW p f row := ⟨_, rfl⟩
  have hwf : ∀ s l, Pr.replay p f row = .ok (s, l) → Pr.Wf s := fun s l h => (Pr.replay_wf h).1
  have hne : ∀ e, Pr.replay p f row = .error e → e ≠ 0 := fun e h => Pr.replay_err h
  rw [← hres]
  unfold Pr.endsW at hres
  obtain ⟨r, hrr⟩ : ∃ r, r = Pr.replay p f row := ⟨_, rfl⟩
  rw [← hrr] at hcall hres hwf hne
  unfold valP at hcall ⊢
  have HCALL := Lib.hid hcall
  have HRES := Lib.hid hres
  have HB := Lib.hid hBa
  have HWF := Lib.hid hwf
  have HNE := Lib.hid hne
  clear hcall hres hBa hXe hp hpa hr hrl hrr hwf hne
  go_enter Tryz.func24, Tryz.ntmps24
  go_upto_region 1 with fail
  rw [← hWa, ← hX]
  clear hWa hX
  go_wp2_with fail
  refine HCALL.out.mono ?_
  intro y w1 hy
  cases r with
  | error e =>
    obtain ⟨rfl, b1⟩ := hy
    have HB1 := Lib.hid (below_at HB.out b1)
    clear b1
    have hres : res = false := HRES.out
    subst hres
    have hne := HNE.out e rfl
    have e1 : (e == 0) = false := by simpa using hne
    have e2 : (e != 0) = true := by simpa using hne
    clear hne HRES HCALL
    go_wp2_with fail
    go_ret
    exact ⟨rfl, HB1.out⟩
  | ok sl =>
    obtain ⟨s, l⟩ := sl
    obtain ⟨S, T, o, C, A2, c2, rfl, hsat, _, _, hr2, _, _, b1⟩ := hy
    have hall := refAll_any w1 C S T o s hsat (HWF.out s l rfl)
    have hres : res = (Pr.all s).isEmpty := HRES.out
    have hlen : ((Pr.all s).map (fun (t : Nat) => (t : Int))).length = (Pr.all s).length := by simp
    rw [hlen] at hall
    have hn0 : (Pr.all s).length < 9223372036854775808 := by
      have := (HWF.out s l rfl).n4
      have h2 : (Pr.all s).length ≤ s.th.length := by unfold Pr.all; exact Nat.le_trans (List.length_filter_le _ _) (by simp)
      omega
    have HALL := Lib.hid hall
    have HB1 := Lib.hid (below_at HB.out b1)
    obtain ⟨n, hn⟩ : ∃ n, n = (Pr.all s).length := ⟨_, rfl⟩
    rw [← hn] at HALL hn0
    have hemp : res = decide (n = 0) := by rw [hres, hn]; cases Pr.all s <;> simp
    have HE := Lib.hid hemp
    clear hall hres hlen hn hemp b1 hsat hr2 HRES HCALL
    by_cases h0 : n = 0
    · subst h0
      go_wp2_with fail
      refine HALL.out.mono ?_
      rintro y w2 ⟨A3, c3, rfl, _, b2⟩
      have HB2 := Lib.hid (below_at HB1.out b2)
      clear b2
      go_wp2_with fail
      go_ret
      exact ⟨by rw [HE.out]; rfl, HB2.out⟩
    · have e1 : ((n : Int) == 0) = false := by simpa using h0
      go_wp2_with fail
      refine HALL.out.mono ?_
      rintro y w2 ⟨A3, c3, rfl, _, b2⟩
      have HB2 := Lib.hid (below_at HB1.out b2)
      clear b2
      go_wp2_with fail
      go_ret
      exact ⟨by rw [HE.out, decide_eq_false h0]; rfl, HB2.out⟩
set_option maxRecDepth 100000 in
set_option maxHeartbeats 2000000 in
theorem refOfW_any (w : World) (p : Pg) (A : Option Addr) (cap : Nat) (f : Int) (k : List UInt8) (hp : PgIn w p A) (hk : k.length < 100000) :
    Calls Tryz.prog 20 #[valP p A cap, .int .i64 f, .string ⟨k.toArray⟩] w fun x w' => RowOutW w (Pr.ofW p f k) x w' := by
  obtain ⟨Wa, X, hWa, hX, hBa, hXl, hXe⟩ := pg_box w p.vars p.mtx A p.code.length cap
  have hpa := hp.below hBa
  have hrow : ∀ u, Calls Tryz.prog 16 #[.string ⟨k.toArray⟩] u fun x w' => RowOutW u (Pr.rowW k) x w' := fun u => refRowW_any u k hk
  have hbeg : ∀ (u : World) (B : Option Addr) (cap' : Nat) (row : List Int), Below Wa.heap.size Wa u → Rd u 1 B row.length (row.map iv) → row.length ≤ 1000000 → _ := fun u B cap' row hu hr hl => refBeginsW_any u p A cap f B cap' row (hpa.below hu) hr hl
  have hend : ∀ (u : World) (B : Option Addr) (cap' : Nat) (row : List Int), Below Wa.heap.size Wa u → Rd u 1 B row.length (row.map iv) → row.length ≤ 1000000 → _ := fun u B cap' row hu hr hl => refEndsW_any u p A cap f B cap' row (hpa.below hu) hr hl
  obtain ⟨kb, hkb⟩ : ∃ kb : ByteArray, kb = ⟨k.toArray⟩ := ⟨_, rfl⟩
  rw [← hkb] at hrow ⊢
  have HXE := Lib.hid hXe
  have HB := Lib.hid hBa
  have HROW := Lib.hid hrow
  have HBEG := Lib.hid hbeg
  have HEND := Lib.hid hend
  have HKB := Lib.hid hkb
  have HK := Lib.hid hk
  have hkey : ∀ k' : List UInt8, ((⟨k'.toArray⟩ : ByteArray) = kb) ↔ k' = k := fun k' => ⟨fun e => by rw [hkb] at e; injection e with e; simpa using congrArg Array.toList e, fun e => by rw [e, hkb]⟩
  have HKEY := Lib.hid hkey
  by_cases hm : Pr.may p f
  · obtain ⟨m, rfl⟩ : ∃ m : Nat, f = m := ⟨f.toNat, by have := hm.2.1; omega⟩
    have hnew := refNew_ok Wa p A cap m hpa hm.1 (by have := hm.2.2; omega)
    obtain ⟨res, hres⟩ : ∃ res, res = Pr.ofW p m k := ⟨_, rfl⟩
    rw [← hres]
    unfold Pr.ofW at hres
    rw [if_pos hm] at hres
    have HRES := Lib.hid hres
    unfold valP at HBEG HEND hnew ⊢
    have HNEW := Lib.hid hnew
    obtain ⟨x0, x1, x2, xl⟩ := hXe Wa (Below.refl _ _)
    clear hXe hpa hrow hbeg hend hkb hk hkey hm hnew hres hBa hp
    go_enter Tryz.func20, Tryz.ntmps20
    go_upto_region 1 with fail
    rw [← hWa, ← hX]
    clear hWa hX
    go_wp2_with fail
    refine HNEW.out.mono ?_
    rintro y w1 ⟨S, T, o, rfl, _, _, _, b1⟩
    have HB1 := Lib.hid b1
    clear b1 x0 x1 x2 xl HNEW
    go_wp2_with fail
    refine (HROW.out w1).mono ?_
    intro y w2 hy
    cases hrw : Pr.rowW k with
    | error e =>
      rw [hrw] at hy
      obtain ⟨rfl, b2⟩ := hy
      have HB2 := Lib.hid (below_at HB.out (below_at HB1.out b2))
      have hres := HRES.out
      rw [hrw] at hres
      have HR := Lib.hid hres
      obtain rfl := Pr.rowW_err hrw
      clear b2 hres hrw HRES
      go_wp2_with fail
      refine bodyPost_ret (v := .tuple #[.slice none 0 0, .int .i64 3]) (by simp [results, Tryz.results20, go_sem]) rfl ?_
      rw [HR.out]
      exact ⟨rfl, HB2.out⟩
    | ok row =>
      rw [hrw] at hy
      obtain ⟨A2, c2, rfl, hr2, hc2, hm2, b2⟩ := hy
      have hsm := Pr.rowW_small hrw
      have HB2 := Lib.hid (below_at HB1.out b2)
      have hres := HRES.out
      rw [hrw] at hres
      simp only at hres
      have HR := Lib.hid hres
      have HR2 := Lib.hid (And.intro hr2 (And.intro hc2 hm2))
      have HL := Lib.hid (show row.length ≤ 1000000 by have := HK.out; omega)
      obtain ⟨x0, x1, x2, xl⟩ := HXE.out w2 HB2.out
      clear b2 hres hrw HRES hr2 hc2 hm2 hsm
      have hbeg := HBEG.out w2 A2 c2 row HB2.out HR2.out.1 HL.out
      have HBG := Lib.hid hbeg
      clear hbeg HBEG
      go_wp2_with fail
      refine HBG.out.mono ?_
      intro y w3 hy
      cases hbw : Pr.beginsW p m row with
      | error e =>
        rw [hbw] at hy
        obtain ⟨rfl, b3⟩ := hy
        have HB3 := Lib.hid (below_at HB.out (below_at HB2.out b3))
        have hres := HR.out
        rw [hbw] at hres
        have HR := Lib.hid hres
        have hne := Pr.beginsW_err hbw
        have e1 : (e == 0) = false := by simpa using hne
        have e2 : (e != 0) = true := by simpa using hne
        clear b3 hres hbw hne x0 x1 x2 xl
        go_wp2_with fail
        refine bodyPost_ret (v := .tuple #[.slice none 0 0, .int .i64 6]) (by simp [results, Tryz.results20, go_sem]) rfl ?_
        rw [HR.out]
        exact ⟨rfl, HB3.out⟩
      | ok k' =>
        rw [hbw] at hy
        obtain ⟨rfl, b3⟩ := hy
        have HB3 := Lib.hid (below_at HB2.out b3)
        have HR3 := Lib.hid (And.intro (HR2.out.1.below b3 (Nat.le_refl _)) HR2.out.2)
        have hres := HR.out
        rw [hbw] at hres
        simp only at hres
        have HR := Lib.hid hres
        clear b3 hres hbw x0 x1 x2 xl HBG
        obtain ⟨x0, x1, x2, xl⟩ := HXE.out w3 HB3.out
        have hend := HEND.out w3 A2 c2 row HB3.out HR3.out.1 HL.out
        obtain ⟨be, hbe⟩ : ∃ b, b = Pr.endsW p m row := ⟨_, rfl⟩
        rw [← hbe] at hend HR
        have HE := Lib.hid hend
        by_cases hkk : k' = k
        · have hb : (⟨k'.toArray⟩ : ByteArray) = kb := (HKEY.out k').2 hkk
          have HKK := Lib.hid hkk
          rw [hb]
          clear hend hbe hkk hb HEND
          have e1 : (kb == kb) = true := by rw [ba_beq]; simp
          go_wp2_with fail
          refine HE.out.mono ?_
          rintro y w4 ⟨rfl, b4⟩
          have HB4 := Lib.hid (below_at HB.out (below_at HB3.out b4))
          have HR4 := Lib.hid (And.intro (HR3.out.1.below b4 (Nat.le_refl _)) HR3.out.2)
          clear b4 x0 x1 x2 xl
          cases be with
          | true =>
            go_wp2_with fail
            refine bodyPost_ret (v := .tuple #[.slice A2 row.length c2, .int .i64 0]) (by simp [results, Tryz.results20, go_sem]) rfl ?_
            have hr := HR.out
            rw [if_pos ⟨HKK.out, by trivial⟩] at hr
            rw [hr]
            exact ⟨A2, c2, rfl, HR4.out.1, HR4.out.2.1, HR4.out.2.2, HB4.out⟩
          | false =>
            go_wp2_with fail
            refine bodyPost_ret (v := .tuple #[.slice none 0 0, .int .i64 6]) (by simp [results, Tryz.results20, go_sem]) rfl ?_
            have hr := HR.out
            rw [if_neg (fun h => by simpa using h.2)] at hr
            rw [hr]
            exact ⟨rfl, HB4.out⟩
        · have hb : ¬ (⟨k'.toArray⟩ : ByteArray) = kb := fun e => hkk ((HKEY.out k').1 e)
          have HKK := Lib.hid hkk
          generalize (⟨k'.toArray⟩ : ByteArray) = kb' at *
          have e1 : (kb' == kb) = false := by rw [ba_beq, decide_eq_false hb]
          have e2 : (kb' != kb) = true := by unfold bne; rw [e1]; rfl
          have e3 : (kb'.toList == kb.toList) = false := by rw [ba_tl, decide_eq_false hb]
          have HB4 := Lib.hid (below_at HB.out HB3.out)
          clear hend hbe hkk hb HEND HE
          go_wp2_with fail
          refine bodyPost_ret (v := .tuple #[.slice none 0 0, .int .i64 6]) (by simp [results, Tryz.results20, go_sem]) rfl ?_
          have hr := HR.out
          rw [if_neg (fun h => HKK.out h.1)] at hr
          rw [hr]
          exact ⟨rfl, HB4.out⟩
  · have hres : Pr.ofW p f k = .error 1 := by unfold Pr.ofW; rw [if_neg hm]
    have hnew := refNew_bad Wa p A cap f hpa hm
    rw [hres]
    unfold valP at hnew ⊢
    have HNEW := Lib.hid hnew
    obtain ⟨x0, x1, x2, xl⟩ := hXe Wa (Below.refl _ _)
    clear hXe hpa hrow hbeg hend hkb hk hkey hm hnew hres hBa hp HBEG HEND
    go_enter Tryz.func20, Tryz.ntmps20
    go_upto_region 1 with fail
    rw [← hWa, ← hX]
    clear hWa hX
    go_wp2_with fail
    refine HNEW.out.mono ?_
    rintro y w1 ⟨rfl, b1⟩
    have HB1 := Lib.hid (below_at HB.out b1)
    clear b1
    go_wp2_with fail
    refine bodyPost_ret (v := .tuple #[.slice none 0 0, .int .i64 1]) (by simp [results, Tryz.results20, go_sem]) rfl ?_
    exact ⟨rfl, HB1.out⟩
end Go.Proofs.YtcaapoacmfjnmaaGreat
