/- state.Replay: a row's steps, done one by one from the beginning. -/
import Derived.Test.YtgahjibjladafaaStO
namespace Go.Proofs.Ytgahjibjladafaa
open Go.RowKit
set_option linter.unusedVariables false

/-- what Replay gives -/
def ReplayOut (w : World) (r : Except Int (St × List Ev)) (x : Ending) (w' : World) : Prop :=
  match r with
  | .ok (s', l) => ∃ (S T : Nat) (C : Nat → Prop) (A : Option Addr) (cap : Nat), x = .returned (.tuple #[.pointer (some ⟨S, 0, none⟩), .slice A l.length cap, .int .i64 0]) ∧ SAt w' C S T s' ∧ w.heap.size ≤ S ∧ w.heap.size ≤ T ∧ (∀ k, C k → w.heap.size ≤ k) ∧ Rd w' 4 A l.length (l.flatMap encE) ∧ l.length ≤ cap ∧ cap ≤ maxLen ∧ Below w.heap.size w w'
  | .error e => x = .returned (.tuple #[.pointer none, .slice none 0 0, .int .i64 e]) ∧ Below w.heap.size w w'
/-- what a row comes to, of whatever program -/
def Pr.replay (p : Pg) (fuel : Int) (row : List Int) : Except Int (St × List Ev) := if Pr.Ok p ∧ 0 ≤ fuel ∧ fuel ≤ 8 then Pr.run (Pr.start p fuel.toNat) row else .error 1
theorem take_snoc {row : List Int} {k : Nat} {t : Int} (h : row[k]? = some t) : row.take (k + 1) = row.take k ++ [t] := by rw [List.take_add_one, h]; rfl
set_option maxRecDepth 100000 in
set_option maxHeartbeats 4000000 in
theorem replay_any (w : World) (p : Pg) (A : Option Addr) (cap : Nat) (fuel : Int) (B : Option Addr) (cap' : Nat) (row : List Int) (hcd : CdAt w (fun k => k < w.heap.size) A p.code) (hl : p.code.length ≤ maxLen) (hq : ∀ q ∈ p.code, q.length ≤ maxLen)
    (hr : Rd w 1 B row.length (row.map iv)) (hrl : row.length ≤ 1000000) :
    Calls Try.prog 36 #[valP p A cap, .int .i64 fuel, .slice B row.length cap'] w fun x w' => ReplayOut w (Pr.replay p fuel row) x w' := by
  obtain ⟨Wa, X, hWa, hX, hBa, hXl, hXe⟩ := pg_box w p.vars p.mtx A p.code.length cap
  have hcdA : CdAt Wa (fun k => k < Wa.heap.size) A p.code := (hcd.below hBa).imp (fun k hk => by have := hBa.size; omega)
  obtain ⟨x0, x1, x2, xl⟩ := hXe Wa (Below.refl _ _)
  by_cases hok : Pr.Ok p ∧ 0 ≤ fuel ∧ fuel ≤ 8
  · obtain ⟨f, rfl⟩ : ∃ f : Nat, fuel = f := ⟨fuel.toNat, by omega⟩
    have hf8 : f ≤ 8 := by omega
    have hrep : Pr.replay p f row = Pr.run (Pr.start p f) row := by unfold Pr.replay; rw [if_pos hok, Int.toNat_natCast]
    have hcall := new_ok Wa p A cap f hcdA hok.1 hf8
    have hwf := Pr.start_wf hok.1 hf8
    obtain ⟨s0, hs0⟩ : ∃ s0, s0 = Pr.start p f := ⟨_, rfl⟩
    obtain ⟨res, hres⟩ : ∃ res, res = Pr.replay p f row := ⟨_, rfl⟩
    rw [← hs0] at hcall hwf hrep
    rw [← hres] at hrep ⊢
    have HREP := Lib.hid hrep
    obtain ⟨i0, hi0, hz0, hz1, hz2⟩ := info_parts Try.infoEv
    unfold valP at hcall ⊢
    have HCALL := Lib.hid hcall
    have HWF := Lib.hid hwf
    have HB := Lib.hid hBa
    have HR := Lib.hid (int_cell hr.toB)
    have HRL := Lib.hid hrl
    have hll : row.length < 9223372036854775808 := by omega
    clear hcall hwf hBa hXe hcd hcdA hl hq hr hrl hok hf8 hrep hs0 hres
    go_enter Try.func36, Try.ntmps36
    go_upto_region 1 with fail
    rw [← hWa, ← hX]
    clear hWa hX
    go_wp2_with fail
    refine HCALL.out.mono ?_
    rintro y w1 ⟨S, T, C0, rfl, hsat, hS, hT, hC, b1⟩
    have HSAT1 := Lib.hid hsat.bound
    obtain ⟨C, hCC⟩ : ∃ C, C = fun k => C0 k ∧ k < w1.heap.size := ⟨_, rfl⟩
    rw [← hCC] at HSAT1
    have HCB := Lib.hid (show ∀ k, C k → w.heap.size ≤ k ∧ k < w1.heap.size from fun k hk => by rw [hCC] at hk; have := hC k hk.1; have := HB.out.size; exact ⟨by omega, hk.2⟩)
    have HSTB := Lib.hid (show (w.heap.size ≤ S ∧ S < w1.heap.size) ∧ w.heap.size ≤ T ∧ T < w1.heap.size from by have := HB.out.size; exact ⟨⟨by omega, hsat.lt.1⟩, by omega, hsat.lt.2⟩)
    have HB1 := Lib.hid (below_at HB.out b1)
    clear hsat hS hT hC b1 hCC HCALL x0 x1 x2 xl
    go_wp2_with fail
    go_loopw [11, 27] (fun r v wr => ∃ (k : Nat) (s : St) (l : List Ev) (A' : Option Addr) (cp : Nat), k ≤ row.length ∧ v = .int .i64 k ∧ r = .slice A' k cp ∧ Hid (Pr.run s0 (row.take k) = .ok (s, l)) ∧ Hid (l.length = k) ∧ Hid (SAt wr C S T s) ∧ Hid (Row wr 39 4 A' k cp (l.flatMap encE)) ∧ Hid (∀ a, A' = some a → w1.heap.size ≤ a.block) ∧ Hid (Mod (fun k => k = S ∨ k = T) w1 wr)) (fun _ v _ => row.length - (intOf v).toNat)
    case atStart => exact ⟨0, s0, [], none, 0, Nat.zero_le _, rfl, rfl, Lib.hid rfl, Lib.hid rfl, HSAT1, Lib.hid (Row.nil _ _ _), Lib.hid (fun a h => by cases h), Lib.hid (Mod.refl _ _)⟩
    case round =>
      clear HSAT1
      obtain ⟨k, s, l, A', cp, hk, rfl, rfl, HRUN, HLEN, HSAT, HROW, HA, HMO⟩ := hrel
      obtain ⟨hws, _, _, _⟩ := Pr.run_wf _ HWF.out HRUN.out
      have HWS := Lib.hid hws
      clear hws
      by_cases hlt : k < row.length
      · obtain ⟨t, ht⟩ := get_some hlt
        obtain ⟨g, o, rfl, hg, hcl⟩ := HR.out k t ht
        have hbw : Below w.heap.size w wr := HB1.out.trans (HMO.out.below w.heap.size HB1.out.size (fun q hq e => by have := HSTB.out; omega))
        have ca := hcl wr hbw
        have lg : g < wr.heap.size := by have := hbw.size; omega
        have HBW := Lib.hid hbw
        have HTK := Lib.hid (take_snoc ht)
        have k1 : (0 : Int) ≤ (k : Int) := Int.natCast_nonneg _
        have k2 : (k : Int) < (row.length : Int) := by omega
        clear hbw hcl
        have hsn := Pr.run_snoc t (row.take k) s0
        rw [HRUN.out, ← HTK.out] at hsn
        simp only at hsn
        by_cases hE : Pr.stepE s t = 0
        · rw [if_pos hE] at hsn
          obtain ⟨m, rfl, hm, hen, e, hnx⟩ := Pr.step_good hE
          rw [Int.toNat_natCast, hnx, Option.getD_some] at hsn
          have hcall := step_ok wr C S T s m e HSAT.out HWS.out hm hen hnx
          obtain ⟨et, ek, eo, ef⟩ := e
          simp only [valE] at hcall
          have HCALL := Lib.hid hcall
          have HSN := Lib.hid hsn
          clear hcall hsn hE hm hen hnx ht
          go_wp2_with fail
          refine HCALL.out.mono ?_
          rintro y w2 ⟨rfl, hsat2, hmod2⟩
          obtain ⟨Wz, Z, hWz, hZ, hBz, hZl, hZe⟩ := ev_box w2 ⟨et, ek, eo, ef⟩
          simp only at hWz
          obtain ⟨⟨z0, z1, z2, z3⟩, zl⟩ := hZe Wz (Below.refl _ _)
          simp only [Nat.zero_add] at z1 z2 z3
          have hms : Mod (fun k => k = S ∨ k = T) w1 w2 := HMO.out.trans hmod2
          have hrw2 : Row w2 39 4 A' k cp (l.flatMap encE) := HROW.out.mod hmod2 (fun a ha e => by have := HA.out a ha; have := HSTB.out; omega)
          have HSAT3 := Lib.hid (hsat2.below hBz)
          have HROW3 := Lib.hid (row_stepS hrw2 hBz)
          have HMO3 := Lib.hid (hms.trans (Mod.of_below_size hBz _))
          clear hsat2 hmod2 hBz hZl hZe hms hrw2 HCALL
          go_upto_region 9 with fail
          rw [← hWz, ← hZ]
          clear hWz hZ
          go_wp2_with (at_builtin; refine wpList_append_row (by rfl) _ _ _ (by rfl) 39 i0 _ 4 32 Try.underlying22 hi0 hz0 hz1 hz2 rfl (by omega) A' k cp (l.flatMap encE) (by rfl) (HROW3.out.alloc _) ⟨Wz.heap.size, 0, none⟩ 1 1 [.int .i64 et, .int .i64 ek, .int .i64 eo, .bool ef] (by rfl) (by rfl) (World.news_of_block (cs := #[.int .i64 et, .int .i64 ek, .int .i64 eo, .bool ef]) (t := 39) (fr := (0, 0)) (heap_alloc_new Wz _)) (by simp [Value.oneCell']) (by omega) (by have := HRL.out; unfold maxLen; omega) (by have := HRL.out; omega) ?_; intro g1 of1 cap1 w3 hown hm hat; skip)
          have hal : Below Wz.heap.size Wz (Wz.alloc (Obj.cells #[.int .i64 et, .int .i64 ek, .int .i64 eo, .bool ef] 39)) := (Below.refl _ _).alloc (Nat.le_refl _) _
          go_roundw
          case rel =>
            refine ⟨k + 1, _, l ++ [⟨et, ek, eo, ef⟩], some ⟨g1, of1, none⟩, cap1, by omega, by go_num, rfl, HSN, Lib.hid (by simp [HLEN.out]), Lib.hid ?_, Lib.hid (by rw [List.flatMap_append]; simpa [encE] using hown), Lib.hid ?_, Lib.hid ?_⟩
            · exact (HSAT3.out.below hal).mod hm (fun q hq ⟨a, e1, e2⟩ => by have := HA.out a e1; have := HCB.out q hq; omega) (fun ⟨a, e1, e2⟩ => by have := HA.out a e1; have := HSTB.out; omega) (fun ⟨a, e1, e2⟩ => by have := HA.out a e1; have := HSTB.out; omega)
            · intro a ha
              injection ha with ha
              subst ha
              rcases hat with ⟨a, e1, e2⟩ | h
              · have := HA.out a e1; simp only; omega
              · have := hal.size; have := HMO3.out.size; simp only; omega
            · exact (HMO3.out.trans (Mod.of_below_size hal _)).then hm (fun q hq ⟨a, e1, e2⟩ => by have := HA.out a e1; omega)
          case measure => simp [intOf]; omega
        · rw [if_neg hE] at hsn
          have hcall := step_bad wr C S T s t HSAT.out HWS.out hE
          have herr : Pr.run s0 row = .error (Pr.stepE s t) := by
            have := Pr.run_error (row.drop (k + 1)) _ _ hsn
            rwa [List.take_append_drop] at this
          obtain ⟨er, her⟩ : ∃ er, er = Pr.stepE s t := ⟨_, rfl⟩
          rw [← her] at hcall herr hE
          have e1 : (er == 0) = false := by simpa using hE
          have e2 : (er != 0) = true := by simpa using hE
          have hres : res = .error er := by rw [HREP.out, herr]
          have HRES := Lib.hid hres
          simp only [valE, Pr.zeroE] at hcall
          have HCALL := Lib.hid hcall
          clear hcall hsn herr her ht hE hres
          go_wp2_with fail
          refine HCALL.out.mono ?_
          rintro y w2 ⟨rfl, b2⟩
          have hb2 := below_at HBW.out b2
          have HB2 := Lib.hid hb2
          clear b2 hb2
          go_wp2_with fail
          refine bodyPost_ret (v := .tuple #[.pointer none, .slice none 0 0, .int .i64 er]) (by simp [results, Try.results36, go_sem]) rfl ?_
          rw [HRES.out]
          exact ⟨rfl, HB2.out.alloc HB2.out.size _⟩
      · obtain rfl : k = row.length := by omega
        have hrun := HRUN.out
        rw [List.take_length] at hrun
        have hres : res = .ok (s, l) := by rw [HREP.out, hrun]
        have HRES := Lib.hid hres
        have hbw : Below w.heap.size w wr := HB1.out.trans (HMO.out.below w.heap.size HB1.out.size (fun q hq e => by have := HSTB.out; omega))
        have HBW := Lib.hid hbw
        clear hrun hres hbw HRUN
        go_wp2_with fail
        refine bodyPost_ret (v := .tuple #[.pointer (some ⟨S, 0, none⟩), .slice A' row.length cp, .int .i64 0]) (by simp [results, Try.results36, go_sem]) rfl ?_
        rw [HRES.out]
        have hrw := HROW.out
        have hle := HLEN.out
        exact ⟨S, T, C, A', cp, by rw [hle], HSAT.out, HSTB.out.1.1, HSTB.out.2.1, fun q hq => (HCB.out q hq).1, by rw [hle]; exact hrw.rd, by rw [hle]; exact hrw.2.1, hrw.2.2.1, HBW.out⟩
  · have hrep : Pr.replay p fuel row = .error 1 := by unfold Pr.replay; rw [if_neg hok]
    rw [hrep]
    have hcall := new_bad Wa p A cap fuel hcdA hl hq hok
    unfold valP at hcall ⊢
    have HCALL := Lib.hid hcall
    have HB := Lib.hid hBa
    clear hcall hBa hXe hcd hcdA hl hq hr hrl hok hrep
    go_enter Try.func36, Try.ntmps36
    go_upto_region 1 with fail
    rw [← hWa, ← hX]
    clear hWa hX
    go_wp2_with fail
    refine HCALL.out.mono ?_
    rintro y w1 ⟨rfl, b1⟩
    have HB1 := Lib.hid (below_at HB.out b1)
    clear b1
    go_wp2_with fail
    refine bodyPost_ret (v := .tuple #[.pointer none, .slice none 0 0, .int .i64 1]) (by simp [results, Try.results36, go_sem]) rfl ?_
    exact ⟨rfl, HB1.out⟩
end Go.Proofs.Ytgahjibjladafaa
