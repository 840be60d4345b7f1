/- Steps in a row: plain law; may a program be gone over? -/
import Derived.Test.YtgahjibjladafaaStN
namespace Go.Proofs.Ytgahjibjladafaa
open Go.RowKit
set_option linter.unusedVariables false

namespace Pr
theorem deed_th (s : St) (t : Nat) (x : Th) (i : Ins) (hx : s.th[t]? = some x) (hf : x.fuel ≤ 8) (hp : x.pc ≤ 8) (hj : i.k = 7 → i.x ≤ 8) : ∃ y : Th, (deed s t x i).th = s.th.set t y ∧ y.fuel ≤ 8 ∧ y.pc ≤ 8 ∧ (deed s t x i).p = s.p := by
  have hself : s.th = s.th.set t x := by
    refine List.ext_getElem? fun j => ?_
    by_cases h : j = t
    · subst h; rw [List.getElem?_set_self (List.getElem?_eq_some_iff.1 hx).1, hx]
    · rw [List.getElem?_set_ne (fun e => h e.symm)]
  unfold deed
  split
  · exact ⟨_, rfl, hf, hp, rfl⟩
  · split
    · exact ⟨x, hself, hf, hp, rfl⟩
    · split
      · exact ⟨_, rfl, hf, hp, rfl⟩
      · split
        · exact ⟨_, rfl, hf, hp, rfl⟩
        · split
          · exact ⟨x, hself, hf, hp, rfl⟩
          · split
            · split
              · exact ⟨x, hself, hf, hp, rfl⟩
              · exact ⟨x, hself, hf, hp, rfl⟩
            · split
              · split
                · exact ⟨x, hself, hf, hp, rfl⟩
                · rename_i h7 _
                  exact ⟨_, rfl, hf, by have := hj h7; simp only; omega, rfl⟩
              · exact ⟨x, hself, hf, hp, rfl⟩
theorem doI_wf {s : St} {t : Nat} {i : Ins} (hw : Wf s) (hi : ins s t = some i) : Wf (doI s t i) ∧ (doI s t i).p = s.p ∧ (doI s t i).th.length = s.th.length := by
  obtain ⟨n, hn0, hn8, hok⟩ := hw.insOk hi
  have hi' := hi
  unfold ins at hi
  split at hi
  · rename_i x c hx hc
    split at hi
    · cases hi
    · have hpc : x.pc < c.length := (List.getElem?_eq_some_iff.1 hi).1
      have h8 := hw.q8 hc
      obtain ⟨hf, hp⟩ := hw.bnd t x hx
      have hlt := (List.getElem?_eq_some_iff.1 hx).1
      have hx2 : (s.th.set t (tick x))[t]? = some (tick x) := by rw [List.getElem?_set_self hlt]
      obtain ⟨y, h1, h2, h3, h4⟩ := deed_th { s with th := s.th.set t (tick x) } t (tick x) i hx2 (by simp [tick]; omega) (by simp [tick]; omega) (fun h7 => by have := hok.2.2.2.2.2.2.2.2.2.2.2.1 h7; omega)
      have hd : doI s t i = deed { s with th := s.th.set t (tick x) } t (tick x) i := by unfold doI; rw [hx]
      rw [hd]
      simp only [List.set_set] at h1
      refine ⟨⟨by rw [h4]; exact hw.ok, by rw [h1, h4, List.length_set]; exact hw.len, fun t' x' hx' => ?_⟩, h4, by rw [h1, List.length_set]⟩
      rw [h1] at hx'
      by_cases ht : t' = t
      · subst ht
        rw [List.getElem?_set_self hlt] at hx'
        injection hx' with hx'
        subst hx'
        exact ⟨h2, h3⟩
      · rw [List.getElem?_set_ne (fun e => ht e.symm)] at hx'
        exact hw.bnd t' x' hx'
  · cases hi
theorem stepS_wf {s : St} (t : Nat) (hw : Wf s) : Wf (stepS s t) ∧ (stepS s t).p = s.p ∧ (stepS s t).th.length = s.th.length := by
  unfold stepS
  split
  · rename_i i hi; exact doI_wf hw hi
  · exact ⟨hw, rfl, rfl⟩
/-- the steps of a row, one by one -/
def run : St → List Int → Except Int (St × List Ev)
  | s, [] => .ok (s, [])
  | s, t :: r => if stepE s t = 0 then (match run (stepS s t.toNat) r with
    | .ok (s', l) => .ok (s', ((next s t.toNat).getD zeroE) :: l)
    | .error e => .error e) else .error (stepE s t)
theorem run_snoc (t : Int) : ∀ (a : List Int) (s : St), run s (a ++ [t]) = match run s a with
    | .ok (s', l) => if stepE s' t = 0 then .ok (stepS s' t.toNat, l ++ [(next s' t.toNat).getD zeroE]) else .error (stepE s' t)
    | .error e => .error e := by
  intro a
  induction a with
  | nil =>
    intro s
    simp only [List.nil_append, run]
  | cons x a ih =>
    intro s
    simp only [List.cons_append, run]
    by_cases h : stepE s x = 0
    · rw [if_pos h, if_pos h, ih]
      cases run (stepS s x.toNat) a with
      | error e => rfl
      | ok p =>
        obtain ⟨s', l⟩ := p
        simp only
        by_cases h2 : stepE s' t = 0
        · rw [if_pos h2, if_pos h2]; rfl
        · rw [if_neg h2, if_neg h2]
    · rw [if_neg h, if_neg h]
theorem run_error (b : List Int) {e : Int} : ∀ (a : List Int) (s : St), run s a = .error e → run s (a ++ b) = .error e := by
  intro a
  induction a with
  | nil => intro s h; simp [run] at h
  | cons x a ih =>
    intro s h
    simp only [List.cons_append, run] at h ⊢
    by_cases h1 : stepE s x = 0
    · rw [if_pos h1] at h ⊢
      cases hr : run (stepS s x.toNat) a with
      | error e' => rw [hr] at h; rw [ih _ (by rw [hr]; exact h)]
      | ok p => rw [hr] at h; cases h
    · rw [if_neg h1] at h ⊢; exact h
theorem run_wf : ∀ (a : List Int) {s s' : St} {l : List Ev}, Wf s → run s a = .ok (s', l) → Wf s' ∧ s'.p = s.p ∧ s'.th.length = s.th.length ∧ l.length = a.length
  | [], s, s', l, hw, h => by
    simp only [run, Except.ok.injEq, Prod.mk.injEq] at h
    obtain ⟨rfl, rfl⟩ := h
    exact ⟨hw, rfl, rfl, rfl⟩
  | x :: a, s, s', l, hw, h => by
    simp only [run] at h
    by_cases h1 : stepE s x = 0
    · rw [if_pos h1] at h
      cases hr : run (stepS s x.toNat) a with
      | error e' => rw [hr] at h; cases h
      | ok p =>
        obtain ⟨s2, l2⟩ := p
        rw [hr] at h
        simp only [Except.ok.injEq, Prod.mk.injEq] at h
        obtain ⟨rfl, rfl⟩ := h
        obtain ⟨g1, g2, g3⟩ := stepS_wf x.toNat hw
        obtain ⟨k1, k2, k3, k4⟩ := run_wf a g1 hr
        exact ⟨k1, k2.trans g2, k3.trans g3, by simp [k4]⟩
    · rw [if_neg h1] at h; cases h
/-- a good step -/
theorem step_good {s : St} {t : Int} (h : stepE s t = 0) : ∃ m : Nat, t = m ∧ m < s.th.length ∧ enabled s m = true ∧ ∃ e, next s m = some e := by
  unfold stepE at h
  split at h
  · rename_i hr
    obtain ⟨m, rfl⟩ : ∃ m : Nat, t = m := ⟨t.toNat, by omega⟩
    rw [Int.toNat_natCast] at h
    cases hn : next s m with
    | none => rw [hn] at h; simp at h
    | some e =>
      rw [hn] at h
      cases he : enabled s m with
      | false => rw [he] at h; simp at h
      | true => exact ⟨m, rfl, by omega, he, e, hn⟩
  · cases h
def few (p : Pg) : Bool := p.code.all (fun q => decide (q.length ≤ 50)) && decide (p.code.length ≤ 20)
end Pr
set_option maxRecDepth 100000 in
set_option maxHeartbeats 2000000 in
theorem fewP_any (w : World) (p : Pg) (A : Option Addr) (cap : Nat) (hcd : CdAt w (fun k => k < w.heap.size) A p.code) (hl : p.code.length ≤ maxLen) (hq : ∀ q ∈ p.code, q.length ≤ maxLen) :
    Calls Try.prog 30 #[valP p A cap] w fun x w' => x = .returned (.bool (Pr.few p)) ∧ Below w.heap.size w w' := by
  obtain ⟨pv, pm, L⟩ := p
  unfold valP
  simp only at hcd hl hq ⊢
  have hll : L.length < 9223372036854775808 := by unfold maxLen at hl; omega
  obtain ⟨W, X, hW, hX, hB, hXl, hXe⟩ := pg_box w pv pm A L.length cap
  have HX := Lib.hid hXe
  have HB := Lib.hid hB
  have HCD := Lib.hid hcd
  have HQ := Lib.hid hq
  clear hB hXe hcd hq hl
  go_enter Try.func30, Try.ntmps30
  go_upto_region 1 with fail
  rw [← hW, ← hX]
  clear hW hX
  go_wp2_with fail
  go_loopw [3] (fun v wr => ∃ k : Nat, k ≤ L.length ∧ v = .int .i64 k ∧ Hid (∀ q ∈ L.take k, q.length ≤ 50) ∧ Hid (Below W.heap.size W wr)) (fun v _ => L.length - (intOf v).toNat)
  case atStart => exact ⟨0, Nat.zero_le _, rfl, Lib.hid (fun q h => by simp at h), Lib.hid (Below.refl _ _)⟩
  case round =>
    obtain ⟨k, hk, rfl, HOK, HW⟩ := hrel
    obtain ⟨x0, x1, x2, xl⟩ := HX.out wr HW.out
    by_cases hlt : k < L.length
    · obtain ⟨q, hq⟩ := get_some hlt
      obtain ⟨g, o, A', c', rfl, hg, hlg, hrq, hqc, hcm, hcell⟩ := HCD.out.get k q hq
      have ca := hcell wr (((below_at HB.out HW.out).block g hlg))
      have lg : g < wr.heap.size := by have := (below_at HB.out HW.out).size; omega
      have hqm := HQ.out q (List.mem_of_getElem? hq)
      have hql : q.length < 9223372036854775808 := by unfold maxLen at hqm; omega
      have k1 : (0 : Int) ≤ (k : Int) := Int.natCast_nonneg _
      have k2 : (k : Int) < (L.length : Int) := by omega
      have HQI := Lib.hid hq
      clear hq hcell hrq hqm
      by_cases h50 : q.length ≤ 50
      · have h1 : ¬ (50 : Int) < (q.length : Int) := by omega
        have h2 : decide (50 < q.length) = false := by simp; omega
        go_wp2_with fail
        go_roundw
        case rel => exact ⟨k + 1, by omega, by go_num, Lib.hid (fun p hp => by
          rw [List.take_add_one, HQI.out] at hp
          rcases List.mem_append.1 hp with h | h
          · exact HOK.out p h
          · simp at h; subst h; exact h50), HW⟩
        case measure => simp [intOf]; omega
      · have h1 : (50 : Int) < (q.length : Int) := by omega
        have h2 : decide (50 < q.length) = true := by simp; omega
        go_wp2_with fail
        go_ret
        have hf : Pr.few ⟨pv, pm, L⟩ = false := by
          unfold Pr.few
          rw [Bool.and_eq_false_iff]
          refine .inl (List.all_eq_false.2 ⟨q, List.mem_of_getElem? HQI.out, by simp; omega⟩)
        exact ⟨by rw [hf]; rfl, below_at HB.out HW.out⟩
    · have hkl : k = L.length := by omega
      have hok := HOK.out
      rw [hkl, List.take_length] at hok
      have hf : Pr.few ⟨pv, pm, L⟩ = decide ((L.length : Int) ≤ 20) := by
        unfold Pr.few
        rw [List.all_eq_true.2 (fun q hq => by simpa using hok q hq), Bool.true_and]
        exact decide_eq_decide.2 (by simp only; omega)
      obtain ⟨b, hb⟩ : ∃ b, b = decide ((L.length : Int) ≤ 20) := ⟨_, rfl⟩
      rw [← hb] at hf
      have HF := Lib.hid hf
      have HBB := Lib.hid hb
      clear hok hf hb hkl
      by_cases h20 : (L.length : Int) ≤ 20
      · have hd : decide (L.length ≤ 20) = true := by simp; omega
        go_wp2_with fail
        go_ret
        exact ⟨by rw [HF.out, HBB.out, decide_eq_true h20]; rfl, below_at HB.out HW.out⟩
      · have hd : decide (L.length ≤ 20) = false := by simp; omega
        go_wp2_with fail
        go_ret
        exact ⟨by rw [HF.out, HBB.out, decide_eq_false (by omega)]; rfl, below_at HB.out HW.out⟩
end Go.Proofs.Ytgahjibjladafaa
