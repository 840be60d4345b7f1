/- Plain law: steps that don't depend on one another may be done in either order. -/
import Derived.Test.YtcaapoacmfjnmaaGreatStQ
namespace Go.Proofs.YtcaapoacmfjnmaaGreat
set_option linter.unusedVariables false

theorem updI_comm (f : Nat → Int) {a b : Nat} (x y : Int) (h : a ≠ b) : updI (updI f a x) b y = updI (updI f b y) a x := by
  funext j
  unfold updI
  by_cases h1 : j = a
  · subst h1
    rw [if_neg h, if_pos rfl, if_pos rfl]
  · by_cases h2 : j = b
    · subst h2; simp [h1]
    · simp [h1, h2]
namespace Pr
/-- what becomes of a thread -/
def nth (s : St) (x : Th) (i : Ins) : Th :=
  if i.k = 1 then { tick x with r := updI x.r i.r.toNat (s.v i.x.toNat) } else if i.k = 3 then { tick x with r := updI x.r i.r.toNat i.n }
  else if i.k = 4 then { tick x with r := updI x.r i.r.toNat (RowKit.wrap64 (x.r i.r.toNat + i.n)) } else if i.k = 7 then (if x.r i.r.toNat = 0 then tick x else { tick x with pc := i.x.toNat }) else tick x
def nv (s : St) (x : Th) (i : Ins) : Nat → Int := if i.k = 2 then updI s.v i.x.toNat (x.r i.r.toNat) else s.v
def nh (s : St) (t : Nat) (i : Ins) : Nat → Int := if i.k = 5 then updI s.h i.x.toNat (t : Int) else if i.k = 6 ∧ s.h i.x.toNat = (t : Int) then updI s.h i.x.toNat (-1) else s.h
theorem doI_eq {s : St} {t : Nat} {x : Th} (i : Ins) (hx : s.th[t]? = some x) (hk : 1 ≤ i.k ∧ i.k ≤ 8) : doI s t i = ⟨s.p, s.th.set t (nth s x i), nv s x i, nh s t i⟩ := by
  have hd : doI s t i = deed { s with th := s.th.set t (tick x) } t (tick x) i := by unfold doI; rw [hx]
  rw [hd]
  obtain ⟨k, r, m, n⟩ := i
  simp only at hk
  rcases (show k = 1 ∨ k = 2 ∨ k = 3 ∨ k = 4 ∨ k = 5 ∨ k = 6 ∨ k = 7 ∨ k = 8 by omega) with rfl | rfl | rfl | rfl | rfl | rfl | rfl | rfl
  · simp [deed, regs, nth, nv, nh, tick]
  · simp [deed, nth, nv, nh, tick]
  · simp [deed, regs, nth, nv, nh, tick]
  · simp [deed, regs, nth, nv, nh, tick]
  · simp [deed, nth, nv, nh, tick]
  · simp only [deed, nth, nv, nh]
    by_cases h : s.h m.toNat = (t : Int) <;> simp [h]
  · simp only [deed, nth, nv, nh, tick]
    by_cases h : x.r r.toNat = 0 <;> simp [h]
  · simp [deed, nth, nv, nh]
/-- a step that may be done -/
structure Can (s : St) (t : Nat) (x : Th) (i : Ins) : Prop where
  th : s.th[t]? = some x
  ins : Pr.ins s t = some i
  en : enabled s t = true
theorem can_of {s : St} {t : Nat} (h : enabled s t = true) : ∃ x i, Can s t x i := by
  obtain ⟨e, i, _, hi, _⟩ := enabled_next h
  have hi' := hi
  unfold Pr.ins at hi
  split at hi
  · rename_i x c hx hc
    exact ⟨x, i, hx, hi', h⟩
  · cases hi
theorem ins_other {s : St} {t u : Nat} {y : Th} {v h : Nat → Int} (htu : t ≠ u) : Pr.ins ⟨s.p, s.th.set t y, v, h⟩ u = Pr.ins s u := by
  unfold Pr.ins
  simp only
  rw [List.getElem?_set_ne htu]
theorem en_lock {s : St} {t : Nat} {i : Ins} (hi : Pr.ins s t = some i) (hk : i.k = 5) : enabled s t = decide (s.h i.x.toNat < 0) := by
  unfold enabled next
  rw [hi]
  simp [evOf, hk]
theorem en_other {s : St} {t : Nat} {i : Ins} (hi : Pr.ins s t = some i) (hk : i.k ≠ 5) : enabled s t = true := by
  unfold enabled next
  rw [hi]
  simp only [Option.map_some]
  have : (evOf s t i).k ≠ 4 := by
    unfold evOf
    by_cases h1 : i.k = 1
    · simp [h1]
    · by_cases h2 : i.k = 2
      · simp [h2]
      · rw [if_neg h1, if_neg h2, if_neg hk]
        by_cases h6 : i.k = 6
        · rw [if_pos h6]; split <;> simp
        · rw [if_neg h6]; split <;> simp
  simp [this]
/-- another thread's step doesn't make it one's own, nor take it away -/
theorem own_stays {s : St} {t u : Nat} {i : Ins} (htu : t ≠ u) (hi : Pr.ins s t = some i) (hen : enabled s t = true) (m : Nat) : (nh s t i m = (u : Int)) ↔ (s.h m = (u : Int)) := by
  unfold nh
  by_cases h5 : i.k = 5
  · rw [if_pos h5]
    rw [en_lock hi h5, decide_eq_true_eq] at hen
    unfold updI
    by_cases hm : m = i.x.toNat
    · subst hm
      rw [if_pos rfl]
      constructor
      · intro h; exact (htu (by omega)).elim
      · intro h; omega
    · rw [if_neg hm]
  · rw [if_neg h5]
    split
    · rename_i h6
      unfold updI
      by_cases hm : m = i.x.toNat
      · subst hm
        rw [if_pos rfl, h6.2]
        constructor
        · intro h; omega
        · intro h; exact (htu (by omega)).elim
      · rw [if_neg hm]
    · rfl
theorem ev_other {s : St} {t u : Nat} {x : Th} {i j : Ins} (htu : t ≠ u) (hc : Can s t x i) (hk : 1 ≤ i.k ∧ i.k ≤ 8) : evOf (doI s t i) u j = evOf s u j := by
  rw [doI_eq i hc.th hk]
  unfold evOf
  simp only
  rw [List.getElem?_set_ne htu]
  by_cases h6 : j.k = 6
  · simp only [h6]
    simp only [own_stays htu hc.ins hc.en]
  · simp only [h6, if_false]

theorem nh_at {s : St} {t : Nat} {i : Ins} {m : Nat} (h : ¬ ((i.k = 5 ∨ (i.k = 6 ∧ s.h i.x.toNat = (t : Int))) ∧ m = i.x.toNat)) : nh s t i m = s.h m := by
  unfold nh
  by_cases h5 : i.k = 5
  · rw [if_pos h5]
    exact updI_ne _ _ (fun e => h ⟨.inl h5, e⟩)
  · rw [if_neg h5]
    split
    · rename_i h6
      exact updI_ne _ _ (fun e => h ⟨.inr h6, e⟩)
    · rfl
theorem ev_mem1 {s : St} {t : Nat} {i : Ins} (h : i.k = 1) : evOf s t i = ⟨t, 2, i.x, false⟩ := by unfold evOf; simp [h]
theorem ev_mem2 {s : St} {t : Nat} {i : Ins} (h : i.k = 2) : evOf s t i = ⟨t, 3, i.x, false⟩ := by unfold evOf; simp [h]
theorem ev_mut {s : St} {t : Nat} {i : Ins} (h : i.k = 5 ∨ (i.k = 6 ∧ s.h i.x.toNat = (t : Int))) : ∃ k : Int, (k = 4 ∨ k = 5) ∧ evOf s t i = ⟨t, k, i.x, false⟩ := by
  rcases h with h | ⟨h, h2⟩
  · exact ⟨4, .inl rfl, by unfold evOf; simp [h]⟩
  · exact ⟨5, .inr rfl, by unfold evOf; simp [h, h2]⟩
theorem ev_t (s : St) (t : Nat) (i : Ins) : (evOf s t i).t = t := by
  unfold evOf
  by_cases h1 : i.k = 1
  · simp [h1]
  · by_cases h2 : i.k = 2
    · simp [h2]
    · by_cases h5 : i.k = 5
      · simp [h5]
      · rw [if_neg h1, if_neg h2, if_neg h5]
        by_cases h6 : i.k = 6
        · rw [if_pos h6]; split <;> rfl
        · rw [if_neg h6]; split <;> rfl
theorem apart_mut {s : St} {t u : Nat} {i j : Ins} (hd : Fo.dep (evOf s t i) (evOf s u j) = false) (hi : i.k = 5 ∨ (i.k = 6 ∧ s.h i.x.toNat = (t : Int))) (hj : j.k = 5 ∨ (j.k = 6 ∧ s.h j.x.toNat = (u : Int))) : i.x ≠ j.x := by
  obtain ⟨k, hk, e⟩ := ev_mut hi
  obtain ⟨k', hk', e'⟩ := ev_mut hj
  rw [e, e'] at hd
  intro hx
  rcases hk with rfl | rfl <;> rcases hk' with rfl | rfl <;> simp [Fo.dep, Fo.mutK, Fo.memK, hx] at hd
theorem apart_mem {s : St} {t u : Nat} {i j : Ins} (hd : Fo.dep (evOf s t i) (evOf s u j) = false) (hi : i.k = 1 ∨ i.k = 2) (hj : j.k = 1 ∨ j.k = 2) (h2 : i.k = 2 ∨ j.k = 2) : i.x ≠ j.x := by
  intro hx
  rcases hi with hi | hi <;> rcases hj with hj | hj
  · omega
  · rw [ev_mem1 hi, ev_mem2 hj] at hd; simp [Fo.dep, Fo.mutK, Fo.memK, hx] at hd
  · rw [ev_mem2 hi, ev_mem1 hj] at hd; simp [Fo.dep, Fo.mutK, Fo.memK, hx] at hd
  · rw [ev_mem2 hi, ev_mem2 hj] at hd; simp [Fo.dep, Fo.mutK, Fo.memK, hx] at hd
theorem nth_far {s : St} {y x : Th} {i j : Ins} {P : Pg} {th : List Th} {h : Nat → Int} (hb : i.k = 1 → j.k = 2 → i.x.toNat ≠ j.x.toNat) : nth ⟨P, th, nv s y j, h⟩ x i = nth s x i := by
  unfold nth nv
  by_cases h1 : i.k = 1
  · simp only [h1, if_true]
    by_cases h2 : j.k = 2
    · rw [if_pos h2, updI_ne _ _ (hb h1 h2)]
    · rw [if_neg h2]
  · simp only [h1, if_false]
theorem diamond {s : St} {t u : Nat} {x : Th} {i j : Ins} (hw : Wf s) (htu : t ≠ u) (hc : Can s t x i) (hj : Pr.ins (doI s t i) u = some j) (hen : enabled (doI s t i) u = true) (hd : Fo.dep (evOf s t i) (evOf (doI s t i) u j) = false) :
    ∃ y, Can s u y j ∧ Can (doI s u j) t x i ∧ evOf (doI s u j) t i = evOf s t i ∧ evOf (doI s t i) u j = evOf s u j ∧ doI (doI s u j) t i = doI (doI s t i) u j := by
  have hki : 1 ≤ i.k ∧ i.k ≤ 8 := by obtain ⟨n, _, _, hok⟩ := hw.insOk hc.ins; exact ⟨hok.1, hok.2.1⟩
  have hxi : 0 ≤ i.x := by obtain ⟨n, _, _, hok⟩ := hw.insOk hc.ins; exact hok.2.2.2.2.2.1
  have hev : evOf (doI s t i) u j = evOf s u j := ev_other htu hc hki
  rw [hev] at hd
  have hd' : Fo.dep (evOf s u j) (evOf s t i) = false := by rw [Fo.dep_comm]; exact hd
  have h1 := doI_eq i hc.th hki
  have hj0 : Pr.ins s u = some j := by rw [h1, ins_other htu] at hj; exact hj
  have hkj : 1 ≤ j.k ∧ j.k ≤ 8 := by obtain ⟨n, _, _, hok⟩ := hw.insOk hj0; exact ⟨hok.1, hok.2.1⟩
  have hxj : 0 ≤ j.x := by obtain ⟨n, _, _, hok⟩ := hw.insOk hj0; exact hok.2.2.2.2.2.1
  have hmut : (i.k = 5 ∨ (i.k = 6 ∧ s.h i.x.toNat = (t : Int))) → (j.k = 5 ∨ (j.k = 6 ∧ s.h j.x.toNat = (u : Int))) → i.x.toNat ≠ j.x.toNat := fun a b e => apart_mut hd a b (by omega)
  have hmem : (i.k = 1 ∨ i.k = 2) → (j.k = 1 ∨ j.k = 2) → (i.k = 2 ∨ j.k = 2) → i.x.toNat ≠ j.x.toNat := fun a b c e => apart_mem hd a b c (by omega)
  -- u may step first
  have henu : enabled s u = true := by
    by_cases h5 : j.k = 5
    · rw [en_lock hj h5, h1, decide_eq_true_eq] at hen
      simp only at hen
      rw [nh_at (fun hh => hmut hh.1 (.inl h5) hh.2.symm)] at hen
      rw [en_lock hj0 h5, decide_eq_true_eq]
      exact hen
    · exact en_other hj0 h5
  obtain ⟨y, j', hcu⟩ := can_of henu
  have hjj : j' = j := by have := hcu.ins; rw [hj0] at this; injection this with this; exact this.symm
  subst hjj
  have h2 := doI_eq j' hcu.th hkj
  have hth : (doI s u j').th[t]? = some x := by rw [h2]; simp only; rw [List.getElem?_set_ne (Ne.symm htu)]; exact hc.th
  have hit : Pr.ins (doI s u j') t = some i := by rw [h2, ins_other (Ne.symm htu)]; exact hc.ins
  have hent : enabled (doI s u j') t = true := by
    by_cases h5 : i.k = 5
    · have he := hc.en
      rw [en_lock hc.ins h5, decide_eq_true_eq] at he
      rw [en_lock hit h5, h2, decide_eq_true_eq]
      simp only
      rw [nh_at (fun hh => hmut (.inl h5) hh.1 hh.2)]
      exact he
    · exact en_other hit h5
  have hev2 : evOf (doI s u j') t i = evOf s t i := ev_other (Ne.symm htu) hcu hkj
  refine ⟨y, hcu, ⟨hth, hit, hent⟩, hev2, hev, ?_⟩
  have hyu : (doI s t i).th[u]? = some y := by rw [h1]; simp only; rw [List.getElem?_set_ne htu]; exact hcu.th
  rw [doI_eq i hth hki, doI_eq j' hyu hkj, h1, h2]
  simp only
  have e1 : nth ⟨s.p, s.th.set u (nth s y j'), nv s y j', nh s u j'⟩ x i = nth s x i := nth_far (fun a b => hmem (.inl a) (.inr b) (.inr b))
  have e2 : nth ⟨s.p, s.th.set t (nth s x i), nv s x i, nh s t i⟩ y j' = nth s y j' := nth_far (fun a b => (hmem (.inr b) (.inl a) (.inl b)).symm)
  rw [e1, e2, List.set_comm _ _ (Ne.symm htu)]
  congr 1
  · unfold nv
    by_cases a : i.k = 2
    · by_cases b : j'.k = 2
      · simp only [a, b, if_true]
        exact (updI_comm _ _ _ (hmem (.inr a) (.inr b) (.inl a))).symm
      · simp only [a, b, if_true, if_false]
    · by_cases b : j'.k = 2
      · simp only [a, b, if_true, if_false]
      · simp only [a, b, if_false]
  · have o1 := own_stays (Ne.symm htu) hcu.ins henu i.x.toNat
    have o2 := own_stays htu hc.ins hc.en j'.x.toNat
    have n2 : nh ⟨s.p, s.th.set u (nth s y j'), nv s y j', nh s u j'⟩ t i = if i.k = 5 then updI (nh s u j') i.x.toNat (t : Int) else if i.k = 6 ∧ s.h i.x.toNat = (t : Int) then updI (nh s u j') i.x.toNat (-1) else nh s u j' := by
      unfold nh at o1 ⊢
      simp only at o1 ⊢
      simp only [o1]
    have n1 : nh ⟨s.p, s.th.set t (nth s x i), nv s x i, nh s t i⟩ u j' = if j'.k = 5 then updI (nh s t i) j'.x.toNat (u : Int) else if j'.k = 6 ∧ s.h j'.x.toNat = (u : Int) then updI (nh s t i) j'.x.toNat (-1) else nh s t i := by
      unfold nh at o2 ⊢
      simp only at o2 ⊢
      simp only [o2]
    rw [n1, n2]
    have s1 : nh s t i = if i.k = 5 then updI s.h i.x.toNat (t : Int) else if i.k = 6 ∧ s.h i.x.toNat = (t : Int) then updI s.h i.x.toNat (-1) else s.h := rfl
    have s2 : nh s u j' = if j'.k = 5 then updI s.h j'.x.toNat (u : Int) else if j'.k = 6 ∧ s.h j'.x.toNat = (u : Int) then updI s.h j'.x.toNat (-1) else s.h := rfl
    rw [s1, s2]
    by_cases a5 : i.k = 5
    · have hm := hmut (.inl a5)
      rw [if_pos a5, if_pos a5]
      by_cases b5 : j'.k = 5
      · rw [if_pos b5, if_pos b5]; exact (updI_comm _ _ _ (hm (.inl b5))).symm
      · rw [if_neg b5, if_neg b5]
        by_cases b6 : j'.k = 6 ∧ s.h j'.x.toNat = (u : Int)
        · rw [if_pos b6, if_pos b6]; exact (updI_comm _ _ _ (hm (.inr b6))).symm
        · rw [if_neg b6, if_neg b6]
    · rw [if_neg a5, if_neg a5]
      by_cases a6 : i.k = 6 ∧ s.h i.x.toNat = (t : Int)
      · have hm := hmut (.inr a6)
        rw [if_pos a6, if_pos a6]
        by_cases b5 : j'.k = 5
        · rw [if_pos b5, if_pos b5]; exact (updI_comm _ _ _ (hm (.inl b5))).symm
        · rw [if_neg b5, if_neg b5]
          by_cases b6 : j'.k = 6 ∧ s.h j'.x.toNat = (u : Int)
          · rw [if_pos b6, if_pos b6]; exact (updI_comm _ _ _ (hm (.inr b6))).symm
          · rw [if_neg b6, if_neg b6]
      · rw [if_neg a6, if_neg a6]
end Pr
end Go.Proofs.YtcaapoacmfjnmaaGreat
