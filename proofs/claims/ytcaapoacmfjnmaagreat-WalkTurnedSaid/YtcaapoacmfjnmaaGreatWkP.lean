/- Plain law: a program turned round has the same executions, turned round. -/
import Derived.Test.YtcaapoacmfjnmaaGreatWtT
namespace Go.Proofs.YtcaapoacmfjnmaaGreat
set_option linter.unusedVariables false

namespace Pr
/-- the thread across -/
def tuH (n : Nat) (x : Int) : Int := if 0 ≤ x ∧ x < n then (n : Int) - 1 - x else x
theorem tuH_tuH (n : Nat) (x : Int) : tuH n (tuH n x) = x := by
  unfold tuH
  repeat' split
  all_goals omega
theorem tuH_inj {n : Nat} {x y : Int} : tuH n x = tuH n y ↔ x = y := ⟨fun h => by have := congrArg (tuH n) h; rwa [tuH_tuH, tuH_tuH] at this, fun h => by rw [h]⟩
theorem tuH_neg {n : Nat} {x : Int} : tuH n x < 0 ↔ x < 0 := by
  unfold tuH
  split <;> omega
theorem tuH_at {n t : Nat} (h : t < n) : tuH n (t : Int) = ((n - 1 - t : Nat) : Int) := by
  unfold tuH
  rw [if_pos ⟨by omega, by omega⟩]
  omega
def tuE (n : Nat) (e : Ev) : Ev := { e with t := tuH n e.t }
theorem tuE_tuE (n : Nat) (e : Ev) : tuE n (tuE n e) = e := by unfold tuE; simp only [tuH_tuH]
def tuP (p : Pg) : Pg := { p with code := p.code.reverse }
def tuS (s : St) : St := ⟨tuP s.p, s.th.reverse, s.v, fun m => tuH s.th.length (s.h m)⟩
theorem tuS_len (s : St) : (tuS s).th.length = s.th.length := by simp [tuS]
theorem tu_get {α : Type} {l : List α} {n t : Nat} (hn : l.length = n) (ht : t < n) : l.reverse[n - 1 - t]? = l[t]? := by
  subst hn
  rw [List.getElem?_reverse (by omega)]
  congr 1
  omega
theorem tu_ins {s : St} (hl : s.th.length = s.p.code.length) {t : Nat} (ht : t < s.th.length) : Pr.ins (tuS s) (s.th.length - 1 - t) = Pr.ins s t := by
  unfold Pr.ins
  have h1 : (tuS s).th[s.th.length - 1 - t]? = s.th[t]? := tu_get rfl ht
  have h2 : (tuS s).p.code[s.th.length - 1 - t]? = s.p.code[t]? := tu_get hl.symm ht
  rw [h1, h2]
theorem tu_ev {s : St} {t : Nat} (ht : t < s.th.length) (i : Ins) : evOf (tuS s) (s.th.length - 1 - t) i = tuE s.th.length (evOf s t i) := by
  have h1 : (tuS s).th[s.th.length - 1 - t]? = s.th[t]? := tu_get rfl ht
  have h2 : (tuS s).h i.x.toNat = ((s.th.length - 1 - t : Nat) : Int) ↔ s.h i.x.toNat = (t : Int) := by
    rw [← tuH_at ht]
    exact tuH_inj
  unfold evOf
  rw [h1]
  by_cases h : s.h i.x.toNat = (t : Int)
  · rw [if_pos h, if_pos (h2.2 h), ← tuH_at ht]
    unfold tuE
    repeat' split
    all_goals rfl
  · rw [if_neg h, if_neg (fun e => h (h2.1 e)), ← tuH_at ht]
    unfold tuE
    repeat' split
    all_goals rfl
theorem tu_next {s : St} (hl : s.th.length = s.p.code.length) {t : Nat} (ht : t < s.th.length) : next (tuS s) (s.th.length - 1 - t) = (next s t).map (tuE s.th.length) := by
  unfold next
  rw [tu_ins hl ht]
  cases Pr.ins s t with
  | none => rfl
  | some i => simp only [Option.map_some]; rw [tu_ev ht]
theorem tu_en {s : St} (hl : s.th.length = s.p.code.length) {t : Nat} (ht : t < s.th.length) : enabled (tuS s) (s.th.length - 1 - t) = enabled s t := by
  unfold enabled
  rw [tu_next hl ht]
  cases next s t with
  | none => rfl
  | some e =>
    simp only [Option.map_some]
    show (decide (e.k ≠ 4) || decide (tuH s.th.length (s.h e.o.toNat) < 0)) = _
    rw [decide_eq_decide.2 tuH_neg]
theorem rev_set {α : Type} {l : List α} {n t : Nat} (hn : l.length = n) (ht : t < n) (y : α) : (l.set t y).reverse = l.reverse.set (n - 1 - t) y := by
  subst hn
  refine List.ext_getElem? fun j => ?_
  by_cases hj : j < l.length
  · rw [List.getElem?_reverse (by simpa using hj), List.length_set]
    by_cases hjt : j = l.length - 1 - t
    · subst hjt
      rw [List.getElem?_set_self (by simpa using hj), show l.length - 1 - (l.length - 1 - t) = t by omega, List.getElem?_set_self ht]
    · rw [List.getElem?_set_ne (fun e => hjt (by omega)), List.getElem?_set_ne (fun e => hjt (by omega)), List.getElem?_reverse hj]
  · rw [List.getElem?_eq_none (by simp; omega), List.getElem?_eq_none (by simp; omega)]
theorem tu_step {s : St} (hw : Wf s) {t : Nat} (hen : enabled s t = true) : stepS (tuS s) (s.th.length - 1 - t) = tuS (stepS s t) := by
  have ht := en_lt hen
  obtain ⟨x, i, hc⟩ := can_of hen
  obtain ⟨n, _, _, hok⟩ := hw.insOk hc.ins
  have hc' : Can (tuS s) (s.th.length - 1 - t) x i := ⟨(tu_get rfl ht).trans hc.th, (tu_ins hw.len ht).trans hc.ins, (tu_en hw.len ht).trans hen⟩
  rw [stepS_can hc, stepS_can hc', doI_eq i hc.th ⟨hok.1, hok.2.1⟩, doI_eq i hc'.th ⟨hok.1, hok.2.1⟩]
  have e1 : (⟨s.p, s.th.set t (nth s x i), nv s x i, nh s t i⟩ : St).th.length = s.th.length := List.length_set
  show St.mk (tuP s.p) _ _ _ = St.mk (tuP s.p) _ _ (fun m => tuH (s.th.set t (nth s x i)).length (nh s t i m))
  rw [List.length_set]
  congr 1
  · show s.th.reverse.set _ (nth s x i) = (s.th.set t (nth s x i)).reverse
    rw [rev_set rfl ht]
  · funext m
    have h2 : tuH s.th.length (s.h i.x.toNat) = ((s.th.length - 1 - t : Nat) : Int) ↔ s.h i.x.toNat = (t : Int) := by
      rw [← tuH_at ht]
      exact tuH_inj
    unfold nh
    by_cases h5 : i.k = 5
    · rw [if_pos h5, if_pos h5]
      unfold updI
      by_cases hm : m = i.x.toNat
      · rw [if_pos hm, if_pos hm, tuH_at ht]
      · rw [if_neg hm, if_neg hm]; rfl
    · rw [if_neg h5, if_neg h5]
      by_cases h6 : i.k = 6 ∧ s.h i.x.toNat = (t : Int)
      · rw [if_pos h6, if_pos ⟨h6.1, h2.2 h6.2⟩]
        unfold updI
        by_cases hm : m = i.x.toNat
        · rw [if_pos hm, if_pos hm]; unfold tuH; rw [if_neg (by omega)]
        · rw [if_neg hm, if_neg hm]; rfl
      · rw [if_neg h6, if_neg (fun h => h6 ⟨h.1, h2.1 h.2⟩)]; rfl
theorem tu_all {s : St} (hw : Wf s) : (all (tuS s)).Perm ((all s).map fun t => s.th.length - 1 - t) := by
  have hl := hw.len
  refine (List.perm_ext_iff_of_nodup ?_ ?_).2 fun u => ?_
  · exact List.Pairwise.filter _ List.nodup_range
  · refine List.pairwise_map.2 (List.Pairwise.imp_of_mem ?_ (List.Pairwise.filter (R := fun a b => a ≠ b) (enabled s) List.nodup_range))
    intro a b ha hb hne e
    refine hne ?_
    have h1 := en_lt (all_iff.1 (show a ∈ all s from ha))
    have h2 := en_lt (all_iff.1 (show b ∈ all s from hb))
    omega
  · rw [all_iff, List.mem_map]
    constructor
    · intro h
      have hu := en_lt h
      rw [tuS_len] at hu
      refine ⟨s.th.length - 1 - u, all_iff.2 ?_, by omega⟩
      have := tu_en hl (t := s.th.length - 1 - u) (by omega)
      rw [show s.th.length - 1 - (s.th.length - 1 - u) = u by omega] at this
      rw [← this]; exact h
    · rintro ⟨t, ht, rfl⟩
      have h := all_iff.1 ht
      rw [tu_en hl (en_lt h)]; exact h
theorem tu_none {s : St} (hw : Wf s) : all (tuS s) = [] ↔ all s = [] := by
  have := (tu_all hw).length_eq
  rw [List.length_map] at this
  rw [← List.length_eq_zero_iff, ← List.length_eq_zero_iff, this]
theorem tu_waits {s : St} (hw : Wf s) : waits (tuS s) = waits s := by
  have hl := hw.len
  rw [Bool.eq_iff_iff]
  unfold waits
  simp only [List.any_eq_true, List.mem_range, tuS_len]
  constructor
  · rintro ⟨u, hu, h⟩
    refine ⟨s.th.length - 1 - u, by omega, ?_⟩
    have := tu_next hl (t := s.th.length - 1 - u) (by omega)
    rw [show s.th.length - 1 - (s.th.length - 1 - u) = u by omega] at this
    rw [this] at h
    simpa using h
  · rintro ⟨t, ht, h⟩
    refine ⟨s.th.length - 1 - t, by omega, ?_⟩
    rw [tu_next hl ht]
    simpa using h
theorem tu_evAt {s : St} (hw : Wf s) {t : Nat} (hen : enabled s t = true) : evAt (tuS s) (s.th.length - 1 - t) = tuE s.th.length (evAt s t) := by
  have ht := en_lt hen
  obtain ⟨x, i, hc⟩ := can_of hen
  unfold evAt
  rw [tu_next hw.len ht, next_can hc]
  rfl
theorem tu_cnt : ∀ (n : Nat) {s : St}, Wf s → cnt n (tuS s) = cnt n s := by
  intro n
  induction n with
  | zero => intro s _; rfl
  | succ n ih =>
    intro s hw
    simp only [cnt]
    rw [((tu_all hw).map fun t => cnt n (stepS (tuS s) t)).sum_nat, List.map_map]
    congr 2
    refine List.map_congr_left fun t ht => ?_
    have hen := all_iff.1 ht
    show cnt n (stepS (tuS s) (s.th.length - 1 - t)) = _
    rw [tu_step hw hen, ih (stepS_wf t hw).1]
def tuZ (n : Nat) (z : St × List Ev) : St × List Ev := (tuS z.1, z.2.map (tuE n))
theorem tu_ends (N : Nat) : ∀ (n : Nat) {s : St} (row : List Ev), Wf s → s.th.length = N → (ends n (tuS s) (row.map (tuE N))).Perm ((ends n s row).map (tuZ N)) := by
  intro n
  induction n with
  | zero => intro s row _ _; exact .refl _
  | succ n ih =>
    intro s row hw hN
    simp only [ends]
    by_cases ha : all s = []
    · rw [if_pos ha, if_pos ((tu_none hw).2 ha)]; exact .refl _
    · rw [if_neg ha, if_neg (fun h => ha ((tu_none hw).1 h)), List.map_flatMap]
      refine ((tu_all hw).flatMap_right _).trans ?_
      rw [List.flatMap_map]
      have : ∀ l : List Nat, (∀ t ∈ l, enabled s t = true) → (l.flatMap fun t => ends n (stepS (tuS s) (s.th.length - 1 - t)) (row.map (tuE N) ++ [evAt (tuS s) (s.th.length - 1 - t)])).Perm (l.flatMap fun t => (ends n (stepS s t) (row ++ [evAt s t])).map (tuZ N)) := by
        intro l
        induction l with
        | nil => intro _; exact .refl _
        | cons t l ih2 =>
          intro hl
          rw [List.flatMap_cons, List.flatMap_cons]
          have hen := hl t (List.mem_cons_self ..)
          refine List.Perm.append ?_ (ih2 fun u hu => hl u (List.mem_cons_of_mem _ hu))
          rw [tu_step hw hen, tu_evAt hw hen, hN, show row.map (tuE N) ++ [tuE N (evAt s t)] = (row ++ [evAt s t]).map (tuE N) by simp]
          exact ih _ (stepS_wf t hw).1 ((stepS_wf t hw).2.2.trans hN)
      exact this _ fun t ht => all_iff.1 ht
theorem tu_dep (n : Nat) (a b : Ev) : Fo.dep (tuE n a) (tuE n b) = Fo.dep a b := by
  unfold Fo.dep
  rw [show decide ((tuE n a).t = (tuE n b).t) = decide (a.t = b.t) from decide_eq_decide.2 tuH_inj]
  rfl
theorem tu_eqv1 (n : Nat) {l m : List Ev} (h : Fo.Eqv l m) : Fo.Eqv (l.map (tuE n)) (m.map (tuE n)) := by
  induction h with
  | refl l => exact .refl _
  | symm _ ih => exact .symm ih
  | trans _ _ ih1 ih2 => exact .trans ih1 ih2
  | swap l r x y hd =>
    simp only [List.map_append, List.map_cons]
    exact .swap _ _ _ _ (by rw [tu_dep]; exact hd)
theorem tu_eqv (n : Nat) {l m : List Ev} : Fo.Eqv (l.map (tuE n)) (m.map (tuE n)) ↔ Fo.Eqv l m := by
  refine ⟨fun h => ?_, tu_eqv1 n⟩
  have := tu_eqv1 n h
  have e : ∀ l : List Ev, (l.map (tuE n)).map (tuE n) = l := fun l => by
    rw [List.map_map]
    conv => rhs; rw [← List.map_id l]
    exact List.map_congr_left fun e _ => tuE_tuE n e
  rwa [e, e] at this
/-- as many keys, if the same are the same -/
theorem gather_same {α : Type} (f g : α → Ky.K) : ∀ (xs : List α), (∀ a ∈ xs, ∀ b ∈ xs, f a = f b ↔ g a = g b) → (Ky.gather (xs.map f)).length = (Ky.gather (xs.map g)).length := by
  intro xs
  obtain ⟨n, hn⟩ : ∃ n, n = xs.length := ⟨_, rfl⟩
  induction n generalizing xs with
  | zero =>
    intro _
    rw [List.length_eq_zero_iff.1 hn.symm]; rfl
  | succ n ih =>
    obtain ⟨l, x, rfl⟩ : ∃ l x, xs = l ++ [x] := ⟨xs.dropLast, xs.getLast (by intro e; rw [e] at hn; cases hn), (List.dropLast_concat_getLast _).symm⟩
    intro h
    replace ih := ih l (by simpa using hn)
    have sn : ∀ (l : List Ky.K) (y : Ky.K), Ky.gather (l ++ [y]) = Ky.insG (Ky.gather l) y := fun l y => by unfold Ky.gather; rw [List.foldl_append]; rfl
    simp only [List.map_append, List.map_cons, List.map_nil]
    rw [sn, sn, Ky.insG_len, Ky.insG_len, ih fun a ha b hb => h a (List.mem_append_left _ ha) b (List.mem_append_left _ hb)]
    have : f x ∈ Ky.gather (l.map f) ↔ g x ∈ Ky.gather (l.map g) := by
      rw [Ky.gather_mem, Ky.gather_mem, List.mem_map, List.mem_map]
      constructor
      · rintro ⟨a, ha, e⟩; exact ⟨a, ha, (h a (List.mem_append_left _ ha) x (by simp)).1 e⟩
      · rintro ⟨a, ha, e⟩; exact ⟨a, ha, (h a (List.mem_append_left _ ha) x (by simp)).2 e⟩
    by_cases hm : f x ∈ Ky.gather (l.map f)
    · rw [if_pos hm, if_pos (this.1 hm)]
    · rw [if_neg hm, if_neg (fun h => hm (this.2 h))]
theorem tu_ok {p : Pg} (h : Ok p) : Ok (tuP p) := ⟨by
  obtain ⟨a, b, c, d, e, f⟩ := h.1
  exact ⟨a, b, c, d, by simpa [tuP] using e, by simpa [tuP] using f⟩, fun c hc => h.2 c (List.mem_reverse.1 hc)⟩
theorem tu_start (p : Pg) (m : Nat) : start (tuP p) m = tuS (start p m) := by
  unfold start tuS tuP
  simp only [List.map_reverse]
  congr 1
theorem ends_okRow {p : Pg} {m : Nat} (h : Ok p) (hm : m ≤ 8) {z : St × List Ev} (hz : z ∈ ends 32 (start p m) []) : Fo.okRow z.2 = true ∧ Wf z.1 := by
  have hw := start_wf h hm
  obtain ⟨l, e, hex, _⟩ := (mem_ends 32 _ [] hw (fuels_start h hm) z.1 z.2).1 hz
  rw [List.nil_append] at e
  rw [e]
  have hl := ex_len hex hw
  have hf := fuels_start h hm
  refine ⟨?_, ?_⟩
  · unfold Fo.okRow Fo.rights
    rw [Bool.and_eq_true, decide_eq_true_eq, List.all_eq_true]
    exact ⟨by omega, ex_rights hex hw⟩
  · exact ex_wf hex hw
/-- a program turned round: as many runs, ends and keys -/
theorem tu_law {p : Pg} {m : Nat} (h : Ok p) (hm : m ≤ 8) : cnt 32 (start (tuP p) m) = cnt 32 (start p m) ∧ (sumOf (ends 32 (start (tuP p) m) [])).runs = (sumOf (ends 32 (start p m) [])).runs ∧
    (sumOf (ends 32 (start (tuP p) m) [])).stuck = (sumOf (ends 32 (start p m) [])).stuck ∧ (sumOf (ends 32 (start (tuP p) m) [])).keys.length = (sumOf (ends 32 (start p m) [])).keys.length := by
  have hw := start_wf h hm
  have hp := tu_ends p.code.length 32 (s := start p m) [] hw (by rw [hw.len]; rfl)
  rw [tu_start]
  refine ⟨tu_cnt 32 hw, ?_, ?_, ?_⟩
  · rw [sumOf_eq, sumOf_eq]
    simp only
    rw [show ([] : List Ev) = ([] : List Ev).map (tuE p.code.length) from rfl, hp.length_eq, List.length_map]
    rfl
  · rw [sumOf_eq, sumOf_eq]
    simp only
    have := (hp.filter fun z => waits z.1).length_eq
    rw [List.map_nil] at this
    rw [this, List.filter_map, List.length_map]
    congr 1
    refine List.filter_congr fun z hz => ?_
    exact tu_waits (ends_okRow h hm hz).2
  · rw [sumOf_eq, sumOf_eq]
    simp only
    have e1 : Ky.gather ((ends 32 (tuS (start p m)) []).map fun z => Fo.key z.2) = Ky.gather ((ends 32 (start p m) []).map fun z => Fo.key (z.2.map (tuE p.code.length))) := by
      refine Ky.gather_ext fun k => ?_
      have := ((hp.map fun z => Fo.key z.2).mem_iff (a := k))
      rw [List.map_nil, List.map_map] at this
      exact this
    rw [e1]
    refine gather_same _ _ _ fun a ha b hb => ?_
    have oa := (ends_okRow h hm ha).1
    have ob := (ends_okRow h hm hb).1
    have tz : ∀ z ∈ ends 32 (start p m) [], Fo.okRow (z.2.map (tuE p.code.length)) = true := fun z hz => by
      have hmem : tuZ p.code.length z ∈ ends 32 (start (tuP p) m) [] := by
        rw [tu_start]
        have := hp.mem_iff (a := tuZ p.code.length z)
        rw [List.map_nil] at this
        exact this.2 (List.mem_map.2 ⟨z, hz, rfl⟩)
      exact (ends_okRow (tu_ok h) hm hmem).1
    rw [Fo.key_iff (tz a ha) (tz b hb), Fo.key_iff oa ob]
    exact tu_eqv _
/-- the law -/
theorem tu_all6 {p : Pg} {m : Nat} (h : Ok p) (hm : m ≤ 8) (hc : cnt 32 (start p m) ≤ 600) : all6 (tuP p) m 600 = ((cnt 32 (start (tuP p) m), sumOf (ends 32 (start (tuP p) m) [])), 0) := by
  have h' := tu_ok h
  have hc' : cnt 32 (start (tuP p) m) ≤ 600 := by rw [(tu_law h hm).1]; exact hc
  have hm' : may (tuP p) m := ⟨h', by omega, by omega⟩
  unfold all6
  rw [if_pos hm', Int.toNat_natCast, over_eq at6 600 32 (start (tuP p) m) [] (0, sm0) (by simp only; omega)]
  simp only [Nat.zero_add]
  rw [if_neg (by omega)]
  rfl
end Pr
end Go.Proofs.YtcaapoacmfjnmaaGreat
