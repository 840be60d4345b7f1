/- Plain law: executions, their events in any order that doesn't matter; the row that a key tells does the same. -/
import Derived.Test.YtcaapoacmfjnmaaGreatStS
namespace Go.Proofs.YtcaapoacmfjnmaaGreat
set_option linter.unusedVariables false

namespace Pr
/-- events done one by one -/
inductive Ex : St → List Ev → St → Prop
  | nil (s : St) : Ex s [] s
  | cons {s s' : St} {l : List Ev} (t : Nat) (e : Ev) : enabled s t = true → next s t = some e → Ex (stepS s t) l s' → Ex s (e :: l) s'
theorem en_lt {s : St} {t : Nat} (h : enabled s t = true) : t < s.th.length := by
  obtain ⟨x, i, hc⟩ := can_of h
  exact (List.getElem?_eq_some_iff.1 hc.th).1
theorem stepE_ok {s : St} {t : Nat} {e : Ev} (h : enabled s t = true) (hn : next s t = some e) : stepE s t = 0 := by
  have := en_lt h
  unfold stepE
  rw [if_pos (by omega), Int.toNat_natCast, hn, h]
  rfl
theorem next_t {s : St} {t : Nat} {e : Ev} (h : next s t = some e) : e.t = t := by
  unfold next at h
  obtain ⟨i, _, rfl⟩ := Option.map_eq_some_iff.1 h
  exact ev_t s t i
theorem ex_of_run : ∀ (row : List Int) (s s' : St) (l : List Ev), run s row = .ok (s', l) → row = l.map Ev.t ∧ Ex s l s'
  | [], s, s', l, h => by
    simp only [run, Except.ok.injEq, Prod.mk.injEq] at h
    obtain ⟨rfl, rfl⟩ := h
    exact ⟨rfl, .nil _⟩
  | t :: r, s, s', l, h => by
    simp only [run] at h
    by_cases h0 : stepE s t = 0
    · rw [if_pos h0] at h
      obtain ⟨m, rfl, _, hen, e, hn⟩ := step_good h0
      rw [Int.toNat_natCast, hn, Option.getD_some] at h
      cases hr : run (stepS s m) r with
      | error e' => rw [hr] at h; cases h
      | ok q =>
        obtain ⟨s2, l2⟩ := q
        rw [hr] at h
        simp only [Except.ok.injEq, Prod.mk.injEq] at h
        obtain ⟨rfl, rfl⟩ := h
        obtain ⟨h1, h2⟩ := ex_of_run r _ _ _ hr
        exact ⟨by rw [List.map_cons, ← h1, next_t hn], .cons m e hen hn h2⟩
    · rw [if_neg h0] at h; cases h
theorem run_of_ex {s s' : St} {l : List Ev} (h : Ex s l s') : run s (l.map Ev.t) = .ok (s', l) := by
  induction h with
  | nil s => rfl
  | cons t e hen hn _ ih =>
    simp only [List.map_cons, run]
    rw [next_t hn, if_pos (stepE_ok hen hn), Int.toNat_natCast, ih, hn]
    rfl
theorem ex_append {a b : List Ev} {s s' : St} : Ex s (a ++ b) s' ↔ ∃ m, Ex s a m ∧ Ex m b s' := by
  induction a generalizing s with
  | nil =>
    constructor
    · intro h; exact ⟨s, .nil _, h⟩
    · rintro ⟨m, h1, h2⟩; cases h1; exact h2
  | cons e a ih =>
    constructor
    · intro h
      cases h with
      | cons t _ hen hn h =>
        obtain ⟨m, h1, h2⟩ := ih.1 h
        exact ⟨m, .cons t e hen hn h1, h2⟩
    · rintro ⟨m, h1, h2⟩
      cases h1 with
      | cons t _ hen hn h1 => exact .cons t e hen hn (ih.2 ⟨m, h1, h2⟩)
theorem ex_wf {s s' : St} {l : List Ev} (h : Ex s l s') (hw : Wf s) : Wf s' := by
  induction h with
  | nil s => exact hw
  | cons t e _ _ _ ih => exact ih (stepS_wf t hw).1
theorem stepS_can {s : St} {t : Nat} {x : Th} {i : Ins} (h : Can s t x i) : stepS s t = doI s t i := by unfold stepS; rw [h.ins]
theorem next_can {s : St} {t : Nat} {x : Th} {i : Ins} (h : Can s t x i) : next s t = some (evOf s t i) := by unfold next; rw [h.ins]; rfl
theorem ex_swap {s s' : St} {a b : Ev} {l : List Ev} (hw : Wf s) (hd : Fo.dep a b = false) (h : Ex s (a :: b :: l) s') : Ex s (b :: a :: l) s' := by
  cases h with
  | cons t _ hen hn h =>
    cases h with
    | cons u _ hen2 hn2 h =>
      have htu : t ≠ u := fun e => by
        rw [Fo.dep_thread (by rw [next_t hn, next_t hn2, e])] at hd
        cases hd
      obtain ⟨x, i, hc⟩ := can_of hen
      have e1 := stepS_can hc
      rw [e1] at hen2 hn2 h
      obtain ⟨y, j, hcj⟩ := can_of hen2
      have ea : a = evOf s t i := by rw [next_can hc] at hn; injection hn with hn; exact hn.symm
      have eb : b = evOf (doI s t i) u j := by rw [next_can hcj] at hn2; injection hn2 with hn2; exact hn2.symm
      rw [ea, eb] at hd
      obtain ⟨y', h1, h2, h3, h4, h5⟩ := diamond hw htu hc hcj.ins hen2 hd
      rw [stepS_can hcj] at h
      refine .cons u b h1.en (by rw [next_can h1, eb, h4]) ?_
      rw [stepS_can h1]
      refine .cons t a h2.en (by rw [next_can h2, ea, h3]) ?_
      rw [stepS_can h2, h5]
      exact h
theorem ex_eqv {l m : List Ev} (h : Fo.Eqv l m) : ∀ {s s' : St}, Wf s → (Ex s l s' ↔ Ex s m s') := by
  induction h with
  | refl l => intro s s' _; exact Iff.rfl
  | symm _ ih => intro s s' hw; exact (ih hw).symm
  | trans _ _ ih1 ih2 => intro s s' hw; exact (ih1 hw).trans (ih2 hw)
  | swap l r x y hd =>
    intro s s' hw
    constructor
    · intro h
      obtain ⟨m, h1, h2⟩ := ex_append.1 h
      exact ex_append.2 ⟨m, h1, ex_swap (ex_wf h1 hw) hd h2⟩
    · intro h
      obtain ⟨m, h1, h2⟩ := ex_append.1 h
      exact ex_append.2 ⟨m, h1, ex_swap (ex_wf h1 hw) (by rw [Fo.dep_comm]; exact hd) h2⟩
theorem ev_right {s : St} {t : Nat} {i : Ins} (hw : Wf s) (hi : Pr.ins s t = some i) (ht : t < 4) : Fo.right (evOf s t i) = true := by
  obtain ⟨n, h0, h8, hok⟩ := hw.insOk hi
  have hv := hw.ok.1.2.1
  have hm := hw.ok.1.2.2.2.1
  have hx := hok.2.2.2.2.2.1
  unfold Fo.right
  rw [decide_eq_true_eq]
  by_cases h1 : i.k = 1
  · rw [ev_mem1 h1]
    have := hok.2.2.2.2.2.2.2.2.2.1 (.inl h1)
    simp only
    refine ⟨by omega, by omega, by omega, by omega, by omega, by omega, fun h => by omega, fun h => ⟨by trivial, by omega⟩⟩
  · by_cases h2 : i.k = 2
    · rw [ev_mem2 h2]
      have := hok.2.2.2.2.2.2.2.2.2.1 (.inr h2)
      simp only
      refine ⟨by omega, by omega, by omega, by omega, by omega, by omega, fun h => by omega, fun h => ⟨by trivial, by omega⟩⟩
    · by_cases h5 : i.k = 5
      · have := hok.2.2.2.2.2.2.2.2.2.2.1 (.inl h5)
        have e : evOf s t i = ⟨t, 4, i.x, false⟩ := by unfold evOf; simp [h5]
        rw [e]
        simp only
        refine ⟨by omega, by omega, by omega, by omega, by omega, by omega, fun h => by omega, fun h => ⟨by trivial, by omega⟩⟩
      · by_cases h6 : i.k = 6
        · have := hok.2.2.2.2.2.2.2.2.2.2.1 (.inr h6)
          by_cases hh : s.h i.x.toNat = (t : Int)
          · have e : evOf s t i = ⟨t, 5, i.x, false⟩ := by unfold evOf; simp [h6, hh]
            rw [e]
            simp only
            refine ⟨by omega, by omega, by omega, by omega, by omega, by omega, fun h => by omega, fun h => ⟨by trivial, by omega⟩⟩
          · have e : evOf s t i = ⟨t, 1, 0, true⟩ := by unfold evOf; simp [h6, hh]
            rw [e]
            simp only
            refine ⟨by omega, by omega, by omega, by omega, by omega, by omega, fun h => by omega, fun h => (h rfl).elim⟩
        · obtain ⟨b, e⟩ : ∃ b, evOf s t i = ⟨t, 1, 0, b⟩ := by
            unfold evOf
            rw [if_neg h1, if_neg h2, if_neg h5, if_neg h6]
            split
            · exact ⟨_, rfl⟩
            · exact ⟨_, rfl⟩
          rw [e]
          simp only
          refine ⟨by omega, by omega, by omega, by omega, by omega, by omega, fun h => by omega, fun h => (h rfl).elim⟩
theorem ex_rights {s s' : St} {l : List Ev} (h : Ex s l s') (hw : Wf s) : ∀ e ∈ l, Fo.right e = true := by
  induction h with
  | nil s => intro e he; cases he
  | cons t e hen hn _ ih =>
    intro a ha
    rcases List.mem_cons.1 ha with rfl | ha
    · obtain ⟨x, i, hc⟩ := can_of hen
      rw [next_can hc] at hn
      injection hn with hn
      rw [← hn]
      exact ev_right hw hc.ins (by have := en_lt hen; have := hw.n4; omega)
    · exact ih (stepS_wf t hw).1 a ha
/-- the row that an execution's key tells does the same events, in another order, and comes to the same state -/
theorem witness_law {p : Pg} {f : Int} {row : List Int} {s : St} {l : List Ev} (hrep : replay p f row = .ok (s, l)) (hl : row.length ≤ 200) :
    ∃ l', rowW (Fo.key l) = .ok (l'.map Ev.t) ∧ replay p f (l'.map Ev.t) = .ok (s, l') ∧ Fo.key l' = Fo.key l ∧ l'.length = row.length ∧ Fo.okRow l = true := by
  have hlen := (replay_wf hrep).2.2
  unfold replay at hrep
  split at hrep
  · rename_i hok
    have hw := start_wf hok.1 (show f.toNat ≤ 8 by omega)
    obtain ⟨_, hex⟩ := ex_of_run _ _ _ _ hrep
    have hr := ex_rights hex hw
    have hokr : Fo.okRow l = true := by
      unfold Fo.okRow Fo.rights
      rw [Bool.and_eq_true]
      exact ⟨decide_eq_true (by omega), List.all_eq_true.2 hr⟩
    have heq := Fo.eqv_lev l
    have hex2 := (ex_eqv heq hw).1 hex
    have hperm := heq.perm
    have hokr2 : Fo.okRow (Fo.lev l).flatten = true := by
      unfold Fo.okRow Fo.rights
      rw [Bool.and_eq_true]
      exact ⟨decide_eq_true (by rw [← hperm.length_eq]; omega), List.all_eq_true.2 (fun e he => hr e (hperm.mem_iff.2 he))⟩
    refine ⟨(Fo.lev l).flatten, ?_, ?_, ((Fo.key_iff hokr2 hokr).2 heq.symm), by rw [← hperm.length_eq]; exact hlen, hokr⟩
    · unfold rowW
      rw [(Fo.key_read hokr).2.1]
    · unfold replay
      rw [if_pos hok]
      exact run_of_ex hex2
  · cases hrep
end Pr
end Go.Proofs.YtcaapoacmfjnmaaGreat
