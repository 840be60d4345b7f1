/- Steps in a row: plain law; may a program be gone over? -/
import Derived.Test.YtcaapoacmfjnmaaGreatStN
namespace Go.Proofs.YtcaapoacmfjnmaaGreat
open Go.RowKit
set_option linter.unusedVariables false

namespace Pr
theorem deed_th (s : St) (t : Nat) (x : Th) (i : Ins) (hx : s.th[t]? = some x) (hf : x.fuel ≤ 8) (hp : x.pc ≤ 8) (hj : i.k = 7 → i.x ≤ 8) : ∃ y : Th, (deed s t x i).th = s.th.set t y ∧ y.fuel ≤ 8 ∧ y.pc ≤ 8 ∧ (deed s t x i).p = s.p := by
  have hself : s.th = s.th.set t x := by
    refine List.ext_getElem? fun j => ?_
    by_cases h : j = t
    · subst h; rw [List.getElem?_set_self (List.getElem?_eq_some_iff.1 hx).1, hx]
    · rw [List.getElem?_set_ne (fun e => h e.symm)]
  unfold deed
  split
  · exact ⟨_, rfl, hf, hp, rfl⟩
  · split
    · exact ⟨x, hself, hf, hp, rfl⟩
    · split
      · exact ⟨_, rfl, hf, hp, rfl⟩
      · split
        · exact ⟨_, rfl, hf, hp, rfl⟩
        · split
          · exact ⟨x, hself, hf, hp, rfl⟩
          · split
            · split
              · exact ⟨x, hself, hf, hp, rfl⟩
              · exact ⟨x, hself, hf, hp, rfl⟩
            · split
              · split
                · exact ⟨x, hself, hf, hp, rfl⟩
                · rename_i h7 _
                  exact ⟨_, rfl, hf, by have := hj h7; simp only; omega, rfl⟩
              · exact ⟨x, hself, hf, hp, rfl⟩
theorem doI_wf {s : St} {t : Nat} {i : Ins} (hw : Wf s) (hi : ins s t = some i) : Wf (doI s t i) ∧ (doI s t i).p = s.p ∧ (doI s t i).th.length = s.th.length := by
  obtain ⟨n, hn0, hn8, hok⟩ := hw.insOk hi
  have hi' := hi
  unfold ins at hi
  split at hi
  · rename_i x c hx hc
    split at hi
    · cases hi
    · have hpc : x.pc < c.length := (List.getElem?_eq_some_iff.1 hi).1
      have h8 := hw.q8 hc
      obtain ⟨hf, hp⟩ := hw.bnd t x hx
      have hlt := (List.getElem?_eq_some_iff.1 hx).1
      have hx2 : (s.th.set t (tick x))[t]? = some (tick x) := by rw [List.getElem?_set_self hlt]
      obtain ⟨y, h1, h2, h3, h4⟩ := deed_th { s with th := s.th.set t (tick x) } t (tick x) i hx2 (by simp [tick]; omega) (by simp [tick]; omega) (fun h7 => by have := hok.2.2.2.2.2.2.2.2.2.2.2.1 h7; omega)
      have hd : doI s t i = deed { s with th := s.th.set t (tick x) } t (tick x) i := by unfold doI; rw [hx]
      rw [hd]
      simp only [List.set_set] at h1
      refine ⟨⟨by rw [h4]; exact hw.ok, by rw [h1, h4, List.length_set]; exact hw.len, fun t' x' hx' => ?_⟩, h4, by rw [h1, List.length_set]⟩
      rw [h1] at hx'
      by_cases ht : t' = t
      · subst ht
        rw [List.getElem?_set_self hlt] at hx'
        injection hx' with hx'
        subst hx'
        exact ⟨h2, h3⟩
      · rw [List.getElem?_set_ne (fun e => ht e.symm)] at hx'
        exact hw.bnd t' x' hx'
  · cases hi
theorem stepS_wf {s : St} (t : Nat) (hw : Wf s) : Wf (stepS s t) ∧ (stepS s t).p = s.p ∧ (stepS s t).th.length = s.th.length := by
  unfold stepS
  split
  · rename_i i hi; exact doI_wf hw hi
  · exact ⟨hw, rfl, rfl⟩
/-- the steps of a row, one by one -/
def run : St → List Int → Except Int (St × List Ev)
  | s, [] => .ok (s, [])
  | s, t :: r => if stepE s t = 0 then (match run (stepS s t.toNat) r with
    | .ok (s', l) => .ok (s', ((next s t.toNat).getD zeroE) :: l)
    | .error e => .error e) else .error (stepE s t)
theorem run_snoc (t : Int) : ∀ (a : List Int) (s : St), run s (a ++ [t]) = match run s a with
    | .ok (s', l) => if stepE s' t = 0 then .ok (stepS s' t.toNat, l ++ [(next s' t.toNat).getD zeroE]) else .error (stepE s' t)
    | .error e => .error e := by
  intro a
  induction a with
  | nil =>
    intro s
    simp only [List.nil_append, run]
  | cons x a ih =>
    intro s
    simp only [List.cons_append, run]
    by_cases h : stepE s x = 0
    · rw [if_pos h, if_pos h, ih]
      cases run (stepS s x.toNat) a with
      | error e => rfl
      | ok p =>
        obtain ⟨s', l⟩ := p
        simp only
        by_cases h2 : stepE s' t = 0
        · rw [if_pos h2, if_pos h2]; rfl
        · rw [if_neg h2, if_neg h2]
    · rw [if_neg h, if_neg h]
theorem run_error (b : List Int) {e : Int} : ∀ (a : List Int) (s : St), run s a = .error e → run s (a ++ b) = .error e := by
  intro a
  induction a with
  | nil => intro s h; simp [run] at h
  | cons x a ih =>
    intro s h
    simp only [List.cons_append, run] at h ⊢
    by_cases h1 : stepE s x = 0
    · rw [if_pos h1] at h ⊢
      cases hr : run (stepS s x.toNat) a with
      | error e' => rw [hr] at h; rw [ih _ (by rw [hr]; exact h)]
      | ok p => rw [hr] at h; cases h
    · rw [if_neg h1] at h ⊢; exact h
theorem run_wf : ∀ (a : List Int) {s s' : St} {l : List Ev}, Wf s → run s a = .ok (s', l) → Wf s' ∧ s'.p = s.p ∧ s'.th.length = s.th.length ∧ l.length = a.length
  | [], s, s', l, hw, h => by
    simp only [run, Except.ok.injEq, Prod.mk.injEq] at h
    obtain ⟨rfl, rfl⟩ := h
    exact ⟨hw, rfl, rfl, rfl⟩
  | x :: a, s, s', l, hw, h => by
    simp only [run] at h
    by_cases h1 : stepE s x = 0
    · rw [if_pos h1] at h
      cases hr : run (stepS s x.toNat) a with
      | error e' => rw [hr] at h; cases h
      | ok p =>
        obtain ⟨s2, l2⟩ := p
        rw [hr] at h
        simp only [Except.ok.injEq, Prod.mk.injEq] at h
        obtain ⟨rfl, rfl⟩ := h
        obtain ⟨g1, g2, g3⟩ := stepS_wf x.toNat hw
        obtain ⟨k1, k2, k3, k4⟩ := run_wf a g1 hr
        exact ⟨k1, k2.trans g2, k3.trans g3, by simp [k4]⟩
    · rw [if_neg h1] at h; cases h
/-- a good step -/
theorem step_good {s : St} {t : Int} (h : stepE s t = 0) : ∃ m : Nat, t = m ∧ m < s.th.length ∧ enabled s m = true ∧ ∃ e, next s m = some e := by
  unfold stepE at h
  split at h
  · rename_i hr
    obtain ⟨m, rfl⟩ : ∃ m : Nat, t = m := ⟨t.toNat, by omega⟩
    rw [Int.toNat_natCast] at h
    cases hn : next s m with
    | none => rw [hn] at h; simp at h
    | some e =>
      rw [hn] at h
      cases he : enabled s m with
      | false => rw [he] at h; simp at h
      | true => exact ⟨m, rfl, by omega, he, e, hn⟩
  · cases h
def few (p : Pg) : Bool := p.code.all (fun q => decide (q.length ≤ 50)) && decide (p.code.length ≤ 20)
end Pr
set_option maxRecDepth 100000 in
set_option maxHeartbeats 2000000 in
theorem fewP_any (w : World) (p : Pg) (A : Option Addr) (cap : Nat) (hcd : CdAt w (fun k => k < w.heap.size) A p.code) (hl : p.code.length ≤ maxLen) (hq : ∀ q ∈ p.code, q.length ≤ maxLen) :
    Calls Tryz.prog 14 #[valP p A cap] w fun x w' => x = .returned (.bool (Pr.few p)) ∧ Below w.heap.size w w' := by
  obtain ⟨pv, pm, L⟩ := p
  unfold valP
  simp only at hcd hl hq ⊢
  have hll : L.length < 9223372036854775808 := by unfold maxLen at hl; omega
  obtain ⟨W, X, hW, hX, hB, hXl, hXe⟩ := pg_box w pv pm A L.length cap
  have HX := Lib.hid hXe
  have HB := Lib.hid hB
  have HCD := Lib.hid hcd
  have HQ := Lib.hid hq
  clear hB hXe hcd hq hl
  go_enter Tryz.func14, Tryz.ntmps14
  go_upto_region 1 with fail
  rw [← hW, ← hX]
  clear hW hX
  go_wp2_with fail
  go_loopw [3] (fun v wr => ∃ k : Nat, k ≤ L.length ∧ v = .int .i64 k ∧ Hid (∀ q ∈ L.take k, q.length ≤ 50) ∧ Hid (Below W.heap.size W wr)) (fun v _ => L.length - (intOf v).toNat)
  case atStart => exact ⟨0, Nat.zero_le _, rfl, Lib.hid (fun q h => by simp at h), Lib.hid (Below.refl _ _)⟩
  case round =>
    obtain ⟨k, hk, rfl, HOK, HW⟩ := hrel
    obtain ⟨x0, x1, x2, xl⟩ := HX.out wr HW.out
    by_cases hlt : k < L.length
    · obtain ⟨q, hq⟩ := get_some hlt
      obtain ⟨g, o, A', c', rfl, hg, hlg, hrq, hqc, hcm, hcell⟩ := HCD.out.get k q hq
      have ca := hcell wr (((below_at HB.out HW.out).block g hlg))
      have lg : g < wr.heap.size := by have := (below_at HB.out HW.out).size; omega
      have hqm := HQ.out q (List.mem_of_getElem? hq)
      have hql : q.length < 9223372036854775808 := by unfold maxLen at hqm; omega
      have k1 : (0 : Int) ≤ (k : Int) := Int.natCast_nonneg _
      have k2 : (k : Int) < (L.length : Int) := by omega
      have HQI := Lib.hid hq
      clear hq hcell hrq hqm
      by_cases h50 : q.length ≤ 50
      · have h1 : ¬ (50 : Int) < (q.length : Int) := by omega
        have h2 : decide (50 < q.length) = false := by simp; omega
        go_wp2_with fail
        go_roundw
        case rel => exact ⟨k + 1, by omega, by go_num, Lib.hid (fun p hp => by
          rw [List.take_add_one, HQI.out] at hp
          rcases List.mem_append.1 hp with h | h
          · exact HOK.out p h
          · simp at h; subst h; exact h50), HW⟩
        case measure => simp [intOf]; omega
      · have h1 : (50 : Int) < (q.length : Int) := by omega
        have h2 : decide (50 < q.length) = true := by simp; omega
        go_wp2_with fail
        go_ret
        have hf : Pr.few ⟨pv, pm, L⟩ = false := by
          unfold Pr.few
          rw [Bool.and_eq_false_iff]
          refine .inl (List.all_eq_false.2 ⟨q, List.mem_of_getElem? HQI.out, by simp; omega⟩)
        exact ⟨by rw [hf]; rfl, below_at HB.out HW.out⟩
    · have hkl : k = L.length := by omega
      have hok := HOK.out
      rw [hkl, List.take_length] at hok
      have hf : Pr.few ⟨pv, pm, L⟩ = decide ((L.length : Int) ≤ 20) := by
        unfold Pr.few
        rw [List.all_eq_true.2 (fun q hq => by simpa using hok q hq), Bool.true_and]
        exact decide_eq_decide.2 (by simp only; omega)
      obtain ⟨b, hb⟩ : ∃ b, b = decide ((L.length : Int) ≤ 20) := ⟨_, rfl⟩
      rw [← hb] at hf
      have HF := Lib.hid hf
      have HBB := Lib.hid hb
      clear hok hf hb hkl
      by_cases h20 : (L.length : Int) ≤ 20
      · have hd : decide (L.length ≤ 20) = true := by simp; omega
        go_wp2_with fail
        go_ret
        exact ⟨by rw [HF.out, HBB.out, decide_eq_true h20]; rfl, below_at HB.out HW.out⟩
      · have hd : decide (L.length ≤ 20) = false := by simp; omega
        go_wp2_with fail
        go_ret
        exact ⟨by rw [HF.out, HBB.out, decide_eq_false (by omega)]; rfl, below_at HB.out HW.out⟩
end Go.Proofs.YtcaapoacmfjnmaaGreat
/- state.Replay: a row's steps, done one by one from the beginning. -/
namespace Go.Proofs.YtcaapoacmfjnmaaGreat
open Go.RowKit
set_option linter.unusedVariables false

/-- what Replay gives -/
def ReplayOut (w : World) (r : Except Int (St × List Ev)) (x : Ending) (w' : World) : Prop :=
  match r with
  | .ok (s', l) => ∃ (S T : Nat) (C : Nat → Prop) (A : Option Addr) (cap : Nat), x = .returned (.tuple #[.pointer (some ⟨S, 0, none⟩), .slice A l.length cap, .int .i64 0]) ∧ SAt w' C S T s' ∧ w.heap.size ≤ S ∧ w.heap.size ≤ T ∧ (∀ k, C k → w.heap.size ≤ k) ∧ Rd w' 4 A l.length (l.flatMap encE) ∧ l.length ≤ cap ∧ cap ≤ maxLen ∧ Below w.heap.size w w'
  | .error e => x = .returned (.tuple #[.pointer none, .slice none 0 0, .int .i64 e]) ∧ Below w.heap.size w w'
/-- what a row comes to, of whatever program -/
def Pr.replay (p : Pg) (fuel : Int) (row : List Int) : Except Int (St × List Ev) := if Pr.Ok p ∧ 0 ≤ fuel ∧ fuel ≤ 8 then Pr.run (Pr.start p fuel.toNat) row else .error 1
theorem take_snoc {row : List Int} {k : Nat} {t : Int} (h : row[k]? = some t) : row.take (k + 1) = row.take k ++ [t] := by rw [List.take_add_one, h]; rfl
set_option maxRecDepth 100000 in
set_option maxHeartbeats 4000000 in
theorem replay_any (w : World) (p : Pg) (A : Option Addr) (cap : Nat) (fuel : Int) (B : Option Addr) (cap' : Nat) (row : List Int) (hcd : CdAt w (fun k => k < w.heap.size) A p.code) (hl : p.code.length ≤ maxLen) (hq : ∀ q ∈ p.code, q.length ≤ maxLen)
    (hr : Rd w 1 B row.length (row.map iv)) (hrl : row.length ≤ 1000000) :
    Calls Tryz.prog 28 #[valP p A cap, .int .i64 fuel, .slice B row.length cap'] w fun x w' => ReplayOut w (Pr.replay p fuel row) x w' := by
  obtain ⟨Wa, X, hWa, hX, hBa, hXl, hXe⟩ := pg_box w p.vars p.mtx A p.code.length cap
  have hcdA : CdAt Wa (fun k => k < Wa.heap.size) A p.code := (hcd.below hBa).imp (fun k hk => by have := hBa.size; omega)
  obtain ⟨x0, x1, x2, xl⟩ := hXe Wa (Below.refl _ _)
  by_cases hok : Pr.Ok p ∧ 0 ≤ fuel ∧ fuel ≤ 8
  · obtain ⟨f, rfl⟩ : ∃ f : Nat, fuel = f := ⟨fuel.toNat, by omega⟩
    have hf8 : f ≤ 8 := by omega
    have hrep : Pr.replay p f row = Pr.run (Pr.start p f) row := by unfold Pr.replay; rw [if_pos hok, Int.toNat_natCast]
    have hcall := new_ok Wa p A cap f hcdA hok.1 hf8
    have hwf := Pr.start_wf hok.1 hf8
    obtain ⟨s0, hs0⟩ : ∃ s0, s0 = Pr.start p f := ⟨_, rfl⟩
    obtain ⟨res, hres⟩ : ∃ res, res = Pr.replay p f row := ⟨_, rfl⟩
    rw [← hs0] at hcall hwf hrep
    rw [← hres] at hrep ⊢
    have HREP := Lib.hid hrep
    obtain ⟨i0, hi0, hz0, hz1, hz2⟩ := info_parts Tryz.infoEv
    unfold valP at hcall ⊢
    have HCALL := Lib.hid hcall
    have HWF := Lib.hid hwf
    have HB := Lib.hid hBa
    have HR := Lib.hid (int_cell hr.toB)
    have HRL := Lib.hid hrl
    have hll : row.length < 9223372036854775808 := by omega
    clear hcall hwf hBa hXe hcd hcdA hl hq hr hrl hok hf8 hrep hs0 hres
    go_enter Tryz.func28, Tryz.ntmps28
    go_upto_region 1 with fail
    rw [← hWa, ← hX]
    clear hWa hX
    go_wp2_with fail
    refine HCALL.out.mono ?_
    rintro y w1 ⟨S, T, C0, rfl, hsat, hS, hT, hC, b1⟩
    have HSAT1 := Lib.hid hsat.bound
    obtain ⟨C, hCC⟩ : ∃ C, C = fun k => C0 k ∧ k < w1.heap.size := ⟨_, rfl⟩
    rw [← hCC] at HSAT1
    have HCB := Lib.hid (show ∀ k, C k → w.heap.size ≤ k ∧ k < w1.heap.size from fun k hk => by rw [hCC] at hk; have := hC k hk.1; have := HB.out.size; exact ⟨by omega, hk.2⟩)
    have HSTB := Lib.hid (show (w.heap.size ≤ S ∧ S < w1.heap.size) ∧ w.heap.size ≤ T ∧ T < w1.heap.size from by have := HB.out.size; exact ⟨⟨by omega, hsat.lt.1⟩, by omega, hsat.lt.2⟩)
    have HB1 := Lib.hid (below_at HB.out b1)
    clear hsat hS hT hC b1 hCC HCALL x0 x1 x2 xl
    go_wp2_with fail
    go_loopw [11, 27] (fun r v wr => ∃ (k : Nat) (s : St) (l : List Ev) (A' : Option Addr) (cp : Nat), k ≤ row.length ∧ v = .int .i64 k ∧ r = .slice A' k cp ∧ Hid (Pr.run s0 (row.take k) = .ok (s, l)) ∧ Hid (l.length = k) ∧ Hid (SAt wr C S T s) ∧ Hid (Row wr 57 4 A' k cp (l.flatMap encE)) ∧ Hid (∀ a, A' = some a → w1.heap.size ≤ a.block) ∧ Hid (Mod (fun k => k = S ∨ k = T) w1 wr)) (fun _ v _ => row.length - (intOf v).toNat)
    case atStart => exact ⟨0, s0, [], none, 0, Nat.zero_le _, rfl, rfl, Lib.hid rfl, Lib.hid rfl, HSAT1, Lib.hid (Row.nil _ _ _), Lib.hid (fun a h => by cases h), Lib.hid (Mod.refl _ _)⟩
    case round =>
      clear HSAT1
      obtain ⟨k, s, l, A', cp, hk, rfl, rfl, HRUN, HLEN, HSAT, HROW, HA, HMO⟩ := hrel
      obtain ⟨hws, _, _, _⟩ := Pr.run_wf _ HWF.out HRUN.out
      have HWS := Lib.hid hws
      clear hws
      by_cases hlt : k < row.length
      · obtain ⟨t, ht⟩ := get_some hlt
        obtain ⟨g, o, rfl, hg, hcl⟩ := HR.out k t ht
        have hbw : Below w.heap.size w wr := HB1.out.trans (HMO.out.below w.heap.size HB1.out.size (fun q hq e => by have := HSTB.out; omega))
        have ca := hcl wr hbw
        have lg : g < wr.heap.size := by have := hbw.size; omega
        have HBW := Lib.hid hbw
        have HTK := Lib.hid (take_snoc ht)
        have k1 : (0 : Int) ≤ (k : Int) := Int.natCast_nonneg _
        have k2 : (k : Int) < (row.length : Int) := by omega
        clear hbw hcl
        have hsn := Pr.run_snoc t (row.take k) s0
        rw [HRUN.out, ← HTK.out] at hsn
        simp only at hsn
        by_cases hE : Pr.stepE s t = 0
        · rw [if_pos hE] at hsn
          obtain ⟨m, rfl, hm, hen, e, hnx⟩ := Pr.step_good hE
          rw [Int.toNat_natCast, hnx, Option.getD_some] at hsn
          have hcall := step_ok wr C S T s m e HSAT.out HWS.out hm hen hnx
          obtain ⟨et, ek, eo, ef⟩ := e
          simp only [valE] at hcall
          have HCALL := Lib.hid hcall
          have HSN := Lib.hid hsn
          clear hcall hsn hE hm hen hnx ht
          go_wp2_with fail
          refine HCALL.out.mono ?_
          rintro y w2 ⟨rfl, hsat2, hmod2⟩
          obtain ⟨Wz, Z, hWz, hZ, hBz, hZl, hZe⟩ := ev_box w2 ⟨et, ek, eo, ef⟩
          simp only at hWz
          obtain ⟨⟨z0, z1, z2, z3⟩, zl⟩ := hZe Wz (Below.refl _ _)
          simp only [Nat.zero_add] at z1 z2 z3
          have hms : Mod (fun k => k = S ∨ k = T) w1 w2 := HMO.out.trans hmod2
          have hrw2 : Row w2 57 4 A' k cp (l.flatMap encE) := HROW.out.mod hmod2 (fun a ha e => by have := HA.out a ha; have := HSTB.out; omega)
          have HSAT3 := Lib.hid (hsat2.below hBz)
          have HROW3 := Lib.hid (row_stepS hrw2 hBz)
          have HMO3 := Lib.hid (hms.trans (Mod.of_below_size hBz _))
          clear hsat2 hmod2 hBz hZl hZe hms hrw2 HCALL
          go_upto_region 9 with fail
          rw [← hWz, ← hZ]
          clear hWz hZ
          go_wp2_with (at_builtin; refine wpList_append_row (by rfl) _ _ _ (by rfl) 57 i0 _ 4 32 Tryz.underlying52 hi0 hz0 hz1 hz2 rfl (by omega) A' k cp (l.flatMap encE) (by rfl) (HROW3.out.alloc _) ⟨Wz.heap.size, 0, none⟩ 1 1 [.int .i64 et, .int .i64 ek, .int .i64 eo, .bool ef] (by rfl) (by rfl) (World.news_of_block (cs := #[.int .i64 et, .int .i64 ek, .int .i64 eo, .bool ef]) (t := 57) (fr := (0, 0)) (heap_alloc_new Wz _)) (by simp [Value.oneCell']) (by omega) (by have := HRL.out; unfold maxLen; omega) (by have := HRL.out; omega) ?_; intro g1 of1 cap1 w3 hown hm hat; skip)
          have hal : Below Wz.heap.size Wz (Wz.alloc (Obj.cells #[.int .i64 et, .int .i64 ek, .int .i64 eo, .bool ef] 57)) := (Below.refl _ _).alloc (Nat.le_refl _) _
          go_roundw
          case rel =>
            refine ⟨k + 1, _, l ++ [⟨et, ek, eo, ef⟩], some ⟨g1, of1, none⟩, cap1, by omega, by go_num, rfl, HSN, Lib.hid (by simp [HLEN.out]), Lib.hid ?_, Lib.hid (by rw [List.flatMap_append]; simpa [encE] using hown), Lib.hid ?_, Lib.hid ?_⟩
            · exact (HSAT3.out.below hal).mod hm (fun q hq ⟨a, e1, e2⟩ => by have := HA.out a e1; have := HCB.out q hq; omega) (fun ⟨a, e1, e2⟩ => by have := HA.out a e1; have := HSTB.out; omega) (fun ⟨a, e1, e2⟩ => by have := HA.out a e1; have := HSTB.out; omega)
            · intro a ha
              injection ha with ha
              subst ha
              rcases hat with ⟨a, e1, e2⟩ | h
              · have := HA.out a e1; simp only; omega
              · have := hal.size; have := HMO3.out.size; simp only; omega
            · exact (HMO3.out.trans (Mod.of_below_size hal _)).then hm (fun q hq ⟨a, e1, e2⟩ => by have := HA.out a e1; omega)
          case measure => simp [intOf]; omega
        · rw [if_neg hE] at hsn
          have hcall := step_bad wr C S T s t HSAT.out HWS.out hE
          have herr : Pr.run s0 row = .error (Pr.stepE s t) := by
            have := Pr.run_error (row.drop (k + 1)) _ _ hsn
            rwa [List.take_append_drop] at this
          obtain ⟨er, her⟩ : ∃ er, er = Pr.stepE s t := ⟨_, rfl⟩
          rw [← her] at hcall herr hE
          have e1 : (er == 0) = false := by simpa using hE
          have e2 : (er != 0) = true := by simpa using hE
          have hres : res = .error er := by rw [HREP.out, herr]
          have HRES := Lib.hid hres
          simp only [valE, Pr.zeroE] at hcall
          have HCALL := Lib.hid hcall
          clear hcall hsn herr her ht hE hres
          go_wp2_with fail
          refine HCALL.out.mono ?_
          rintro y w2 ⟨rfl, b2⟩
          have hb2 := below_at HBW.out b2
          have HB2 := Lib.hid hb2
          clear b2 hb2
          go_wp2_with fail
          refine bodyPost_ret (v := .tuple #[.pointer none, .slice none 0 0, .int .i64 er]) (by simp [results, Tryz.results28, go_sem]) rfl ?_
          rw [HRES.out]
          exact ⟨rfl, HB2.out.alloc HB2.out.size _⟩
      · obtain rfl : k = row.length := by omega
        have hrun := HRUN.out
        rw [List.take_length] at hrun
        have hres : res = .ok (s, l) := by rw [HREP.out, hrun]
        have HRES := Lib.hid hres
        have hbw : Below w.heap.size w wr := HB1.out.trans (HMO.out.below w.heap.size HB1.out.size (fun q hq e => by have := HSTB.out; omega))
        have HBW := Lib.hid hbw
        clear hrun hres hbw HRUN
        go_wp2_with fail
        refine bodyPost_ret (v := .tuple #[.pointer (some ⟨S, 0, none⟩), .slice A' row.length cp, .int .i64 0]) (by simp [results, Tryz.results28, go_sem]) rfl ?_
        rw [HRES.out]
        have hrw := HROW.out
        have hle := HLEN.out
        exact ⟨S, T, C, A', cp, by rw [hle], HSAT.out, HSTB.out.1.1, HSTB.out.2.1, fun q hq => (HCB.out q hq).1, by rw [hle]; exact hrw.rd, by rw [hle]; exact hrw.2.1, hrw.2.2.1, HBW.out⟩
  · have hrep : Pr.replay p fuel row = .error 1 := by unfold Pr.replay; rw [if_neg hok]
    rw [hrep]
    have hcall := new_bad Wa p A cap fuel hcdA hl hq hok
    unfold valP at hcall ⊢
    have HCALL := Lib.hid hcall
    have HB := Lib.hid hBa
    clear hcall hBa hXe hcd hcdA hl hq hr hrl hok hrep
    go_enter Tryz.func28, Tryz.ntmps28
    go_upto_region 1 with fail
    rw [← hWa, ← hX]
    clear hWa hX
    go_wp2_with fail
    refine HCALL.out.mono ?_
    rintro y w1 ⟨rfl, b1⟩
    have HB1 := Lib.hid (below_at HB.out b1)
    clear b1
    go_wp2_with fail
    refine bodyPost_ret (v := .tuple #[.pointer none, .slice none 0 0, .int .i64 1]) (by simp [results, Tryz.results28, go_sem]) rfl ?_
    exact ⟨rfl, HB1.out⟩
end Go.Proofs.YtcaapoacmfjnmaaGreat
