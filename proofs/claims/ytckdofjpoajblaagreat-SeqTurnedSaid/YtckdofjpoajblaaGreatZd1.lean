/- Part 1 of the proof of seqTurned_holds: what it rests on. -/
import Derived.WalkKit
import Derived.WalkSpells
import Derived.WalkLawsBesides
import Derived.ArgAppend
import Derived.Deep.AppendLies
import Derived.Deep.RegionHeld3
import Derived.KernelRfl
import Derived.OrdersHeld
import Derived.ProofKit
import Derived.OpenShut
import Derived.ShutString
import Derived.ChangeOld
import Derived.Below
import Derived.SizedLaws
import Derived.Lib.Hide
import Derived.Test.YtckdofjpoajblaaGreatRows
import Derived.Outline
import Derived.Deep.CutBlock
import Derived.IntWalk
import Derived.Lib.MinMax
import Derived.Laws.StructEq
import Derived.Shelf.SlicesE.Kit
import Derived.Maps.RangeWalk
import Derived.Laws.BytesArg
import Derived.Lib.ConvBytes
import Derived.Deep.DeepCutAuto
import Derived.Lib.AppendZeros
import Derived.Lib.Walk
import Derived.Lib.SliceRun
import Derived.Shelf.Strings.Builder1
import Derived.Shelf.Small.Bits
import Derived.Shelf.Small.Wraps
import Derived.Shelf.Strings.BuilderF
import Derived.Shelf.Strings.BuilderK
import Derived.Shelf.Strconv.Itoa0
import Derived.Shelf.Sort.Plain
import Derived.Shelf.Slices.CompactS
import Derived.Ground.Names2Prog
import Derived.Shelf.Slices.SearchI
import Derived.Shelf.Slices.Cells
import Derived.Shelf.Slices.In.SortNone
import Derived.Ground.SlsfProg
import Derived.Shelf.SlSortCmp.InsertionK
import Derived.Shelf.SlSortCmp.SmallK
import Derived.Test.YtckdofjpoajblaaGreatProg
import Derived.Lib.AppendIntMem
import Derived.Laws.Bits64b
import Derived.Laws.EntriesVeiled
import Derived.Lib.SlicesCompact
import Derived.Sort.Walk0
import Derived.Deep.LoopGhost
import Derived.JoinedTies
import GoSem.Claim
import Derived.Test.YtckdofjpoajblaaGreatZa15
namespace Go.Proofs.YtckdofjpoajblaaGreat
set_option linter.unusedVariables false
namespace Pr
theorem ex_wf {s s' : St} {l : List Ev} (h : Ex s l s') (hw : Wf s) : Wf s' := by
  induction h with
  | nil s => exact hw
  | cons t e _ _ _ ih => exact ih (stepS_wf t hw).1
end Pr
end Go.Proofs.YtckdofjpoajblaaGreat
namespace Go.Proofs.YtckdofjpoajblaaGreat
set_option linter.unusedVariables false
namespace Ky
theorem gather_ext {l r : List K} (h : ∀ x, x ∈ l ↔ x ∈ r) : gather l = gather r := strict_ext (gather_strict l) (gather_strict r) (fun x => by rw [gather_mem, gather_mem, h])
end Ky
end Go.Proofs.YtckdofjpoajblaaGreat
namespace Go.Proofs.YtckdofjpoajblaaGreat
set_option linter.unusedVariables false
namespace Ky
end Ky
end Go.Proofs.YtckdofjpoajblaaGreat
namespace Go.Proofs.YtckdofjpoajblaaGreat
set_option linter.unusedVariables false
namespace Pr
def tuH (n : Nat) (x : Int) : Int := if 0 ≤ x ∧ x < n then (n : Int) - 1 - x else x
theorem tuH_tuH (n : Nat) (x : Int) : tuH n (tuH n x) = x := by
  unfold tuH
  repeat' split
  all_goals omega
theorem tuH_inj {n : Nat} {x y : Int} : tuH n x = tuH n y ↔ x = y := ⟨fun h => by have := congrArg (tuH n) h; rwa [tuH_tuH, tuH_tuH] at this, fun h => by rw [h]⟩
theorem tuH_neg {n : Nat} {x : Int} : tuH n x < 0 ↔ x < 0 := by
  unfold tuH
  split <;> omega
theorem tuH_at {n t : Nat} (h : t < n) : tuH n (t : Int) = ((n - 1 - t : Nat) : Int) := by
  unfold tuH
  rw [if_pos ⟨by omega, by omega⟩]
  omega
def tuE (n : Nat) (e : Ev) : Ev := { e with t := tuH n e.t }
theorem tuE_tuE (n : Nat) (e : Ev) : tuE n (tuE n e) = e := by unfold tuE; simp only [tuH_tuH]
def tuP (p : Pg) : Pg := { p with code := p.code.reverse }
def tuS (s : St) : St := ⟨tuP s.p, s.th.reverse, s.v, fun m => tuH s.th.length (s.h m)⟩
theorem tuS_len (s : St) : (tuS s).th.length = s.th.length := by simp [tuS]
theorem tu_get {α : Type} {l : List α} {n t : Nat} (hn : l.length = n) (ht : t < n) : l.reverse[n - 1 - t]? = l[t]? := by
  subst hn
  rw [List.getElem?_reverse (by omega)]
  congr 1
  omega
theorem tu_ins {s : St} (hl : s.th.length = s.p.code.length) {t : Nat} (ht : t < s.th.length) : Pr.ins (tuS s) (s.th.length - 1 - t) = Pr.ins s t := by
  unfold Pr.ins
  have h1 : (tuS s).th[s.th.length - 1 - t]? = s.th[t]? := tu_get rfl ht
  have h2 : (tuS s).p.code[s.th.length - 1 - t]? = s.p.code[t]? := tu_get hl.symm ht
  rw [h1, h2]
theorem tu_ev {s : St} {t : Nat} (ht : t < s.th.length) (i : Ins) : evOf (tuS s) (s.th.length - 1 - t) i = tuE s.th.length (evOf s t i) := by
  have h1 : (tuS s).th[s.th.length - 1 - t]? = s.th[t]? := tu_get rfl ht
  have h2 : (tuS s).h i.x.toNat = ((s.th.length - 1 - t : Nat) : Int) ↔ s.h i.x.toNat = (t : Int) := by
    rw [← tuH_at ht]
    exact tuH_inj
  unfold evOf
  rw [h1]
  by_cases h : s.h i.x.toNat = (t : Int)
  · rw [if_pos h, if_pos (h2.2 h), ← tuH_at ht]
    unfold tuE
    repeat' split
    all_goals rfl
  · rw [if_neg h, if_neg (fun e => h (h2.1 e)), ← tuH_at ht]
    unfold tuE
    repeat' split
    all_goals rfl
theorem tu_next {s : St} (hl : s.th.length = s.p.code.length) {t : Nat} (ht : t < s.th.length) : next (tuS s) (s.th.length - 1 - t) = (next s t).map (tuE s.th.length) := by
  unfold next
  rw [tu_ins hl ht]
  cases Pr.ins s t with
  | none => rfl
  | some i => simp only [Option.map_some]; rw [tu_ev ht]
theorem tu_en {s : St} (hl : s.th.length = s.p.code.length) {t : Nat} (ht : t < s.th.length) : enabled (tuS s) (s.th.length - 1 - t) = enabled s t := by
  unfold enabled
  rw [tu_next hl ht]
  cases next s t with
  | none => rfl
  | some e =>
    simp only [Option.map_some]
    show (decide (e.k ≠ 4) || decide (tuH s.th.length (s.h e.o.toNat) < 0)) = _
    rw [decide_eq_decide.2 tuH_neg]
theorem rev_set {α : Type} {l : List α} {n t : Nat} (hn : l.length = n) (ht : t < n) (y : α) : (l.set t y).reverse = l.reverse.set (n - 1 - t) y := by
  subst hn
  refine List.ext_getElem? fun j => ?_
  by_cases hj : j < l.length
  · rw [List.getElem?_reverse (by simpa using hj), List.length_set]
    by_cases hjt : j = l.length - 1 - t
    · subst hjt
      rw [List.getElem?_set_self (by simpa using hj), show l.length - 1 - (l.length - 1 - t) = t by omega, List.getElem?_set_self ht]
    · rw [List.getElem?_set_ne (fun e => hjt (by omega)), List.getElem?_set_ne (fun e => hjt (by omega)), List.getElem?_reverse hj]
  · rw [List.getElem?_eq_none (by simp; omega), List.getElem?_eq_none (by simp; omega)]
theorem tu_step {s : St} (hw : Wf s) {t : Nat} (hen : enabled s t = true) : stepS (tuS s) (s.th.length - 1 - t) = tuS (stepS s t) := by
  have ht := en_lt hen
  obtain ⟨x, i, hc⟩ := can_of hen
  obtain ⟨n, _, _, hok⟩ := hw.insOk hc.ins
  have hc' : Can (tuS s) (s.th.length - 1 - t) x i := ⟨(tu_get rfl ht).trans hc.th, (tu_ins hw.len ht).trans hc.ins, (tu_en hw.len ht).trans hen⟩
  rw [stepS_can hc, stepS_can hc', doI_eq i hc.th ⟨hok.1, hok.2.1⟩, doI_eq i hc'.th ⟨hok.1, hok.2.1⟩]
  have e1 : (⟨s.p, s.th.set t (nth s x i), nv s x i, nh s t i⟩ : St).th.length = s.th.length := List.length_set
  show St.mk (tuP s.p) _ _ _ = St.mk (tuP s.p) _ _ (fun m => tuH (s.th.set t (nth s x i)).length (nh s t i m))
  rw [List.length_set]
  congr 1
  · show s.th.reverse.set _ (nth s x i) = (s.th.set t (nth s x i)).reverse
    rw [rev_set rfl ht]
  · funext m
    have h2 : tuH s.th.length (s.h i.x.toNat) = ((s.th.length - 1 - t : Nat) : Int) ↔ s.h i.x.toNat = (t : Int) := by
      rw [← tuH_at ht]
      exact tuH_inj
    unfold nh
    by_cases h5 : i.k = 5
    · rw [if_pos h5, if_pos h5]
      unfold updI
      by_cases hm : m = i.x.toNat
      · rw [if_pos hm, if_pos hm, tuH_at ht]
      · rw [if_neg hm, if_neg hm]; rfl
    · rw [if_neg h5, if_neg h5]
      by_cases h6 : i.k = 6 ∧ s.h i.x.toNat = (t : Int)
      · rw [if_pos h6, if_pos ⟨h6.1, h2.2 h6.2⟩]
        unfold updI
        by_cases hm : m = i.x.toNat
        · rw [if_pos hm, if_pos hm]; unfold tuH; rw [if_neg (by omega)]
        · rw [if_neg hm, if_neg hm]; rfl
      · rw [if_neg h6, if_neg (fun h => h6 ⟨h.1, h2.1 h.2⟩)]; rfl
theorem tu_all {s : St} (hw : Wf s) : (all (tuS s)).Perm ((all s).map fun t => s.th.length - 1 - t) := by
  have hl := hw.len
  refine (List.perm_ext_iff_of_nodup ?_ ?_).2 fun u => ?_
  · exact List.Pairwise.filter _ List.nodup_range
  · refine List.pairwise_map.2 (List.Pairwise.imp_of_mem ?_ (List.Pairwise.filter (R := fun a b => a ≠ b) (enabled s) List.nodup_range))
    intro a b ha hb hne e
    refine hne ?_
    have h1 := en_lt (all_iff.1 (show a ∈ all s from ha))
    have h2 := en_lt (all_iff.1 (show b ∈ all s from hb))
    omega
  · rw [all_iff, List.mem_map]
    constructor
    · intro h
      have hu := en_lt h
      rw [tuS_len] at hu
      refine ⟨s.th.length - 1 - u, all_iff.2 ?_, by omega⟩
      have := tu_en hl (t := s.th.length - 1 - u) (by omega)
      rw [show s.th.length - 1 - (s.th.length - 1 - u) = u by omega] at this
      rw [← this]; exact h
    · rintro ⟨t, ht, rfl⟩
      have h := all_iff.1 ht
      rw [tu_en hl (en_lt h)]; exact h
theorem tu_none {s : St} (hw : Wf s) : all (tuS s) = [] ↔ all s = [] := by
  have := (tu_all hw).length_eq
  rw [List.length_map] at this
  rw [← List.length_eq_zero_iff, ← List.length_eq_zero_iff, this]
theorem tu_waits {s : St} (hw : Wf s) : waits (tuS s) = waits s := by
  have hl := hw.len
  rw [Bool.eq_iff_iff]
  unfold waits
  simp only [List.any_eq_true, List.mem_range, tuS_len]
  constructor
  · rintro ⟨u, hu, h⟩
    refine ⟨s.th.length - 1 - u, by omega, ?_⟩
    have := tu_next hl (t := s.th.length - 1 - u) (by omega)
    rw [show s.th.length - 1 - (s.th.length - 1 - u) = u by omega] at this
    rw [this] at h
    simpa using h
  · rintro ⟨t, ht, h⟩
    refine ⟨s.th.length - 1 - t, by omega, ?_⟩
    rw [tu_next hl ht]
    simpa using h
theorem tu_evAt {s : St} (hw : Wf s) {t : Nat} (hen : enabled s t = true) : evAt (tuS s) (s.th.length - 1 - t) = tuE s.th.length (evAt s t) := by
  have ht := en_lt hen
  obtain ⟨x, i, hc⟩ := can_of hen
  unfold evAt
  rw [tu_next hw.len ht, next_can hc]
  rfl
theorem tu_cnt : ∀ (n : Nat) {s : St}, Wf s → cnt n (tuS s) = cnt n s := by
  intro n
  induction n with
  | zero => intro s _; rfl
  | succ n ih =>
    intro s hw
    simp only [cnt]
    rw [((tu_all hw).map fun t => cnt n (stepS (tuS s) t)).sum_nat, List.map_map]
    congr 2
    refine List.map_congr_left fun t ht => ?_
    have hen := all_iff.1 ht
    show cnt n (stepS (tuS s) (s.th.length - 1 - t)) = _
    rw [tu_step hw hen, ih (stepS_wf t hw).1]
def tuZ (n : Nat) (z : St × List Ev) : St × List Ev := (tuS z.1, z.2.map (tuE n))
theorem tu_ends (N : Nat) : ∀ (n : Nat) {s : St} (row : List Ev), Wf s → s.th.length = N → (ends n (tuS s) (row.map (tuE N))).Perm ((ends n s row).map (tuZ N)) := by
  intro n
  induction n with
  | zero => intro s row _ _; exact .refl _
  | succ n ih =>
    intro s row hw hN
    simp only [ends]
    by_cases ha : all s = []
    · rw [if_pos ha, if_pos ((tu_none hw).2 ha)]; exact .refl _
    · rw [if_neg ha, if_neg (fun h => ha ((tu_none hw).1 h)), List.map_flatMap]
      refine ((tu_all hw).flatMap_right _).trans ?_
      rw [List.flatMap_map]
      have : ∀ l : List Nat, (∀ t ∈ l, enabled s t = true) → (l.flatMap fun t => ends n (stepS (tuS s) (s.th.length - 1 - t)) (row.map (tuE N) ++ [evAt (tuS s) (s.th.length - 1 - t)])).Perm (l.flatMap fun t => (ends n (stepS s t) (row ++ [evAt s t])).map (tuZ N)) := by
        intro l
        induction l with
        | nil => intro _; exact .refl _
        | cons t l ih2 =>
          intro hl
          rw [List.flatMap_cons, List.flatMap_cons]
          have hen := hl t (List.mem_cons_self ..)
          refine List.Perm.append ?_ (ih2 fun u hu => hl u (List.mem_cons_of_mem _ hu))
          rw [tu_step hw hen, tu_evAt hw hen, hN, show row.map (tuE N) ++ [tuE N (evAt s t)] = (row ++ [evAt s t]).map (tuE N) by simp]
          exact ih _ (stepS_wf t hw).1 ((stepS_wf t hw).2.2.trans hN)
      exact this _ fun t ht => all_iff.1 ht
theorem tu_dep (n : Nat) (a b : Ev) : Fo.dep (tuE n a) (tuE n b) = Fo.dep a b := by
  unfold Fo.dep
  rw [show decide ((tuE n a).t = (tuE n b).t) = decide (a.t = b.t) from decide_eq_decide.2 tuH_inj]
  rfl
theorem tu_eqv1 (n : Nat) {l m : List Ev} (h : Fo.Eqv l m) : Fo.Eqv (l.map (tuE n)) (m.map (tuE n)) := by
  induction h with
  | refl l => exact .refl _
  | symm _ ih => exact .symm ih
  | trans _ _ ih1 ih2 => exact .trans ih1 ih2
  | swap l r x y hd =>
    simp only [List.map_append, List.map_cons]
    exact .swap _ _ _ _ (by rw [tu_dep]; exact hd)
theorem tu_eqv (n : Nat) {l m : List Ev} : Fo.Eqv (l.map (tuE n)) (m.map (tuE n)) ↔ Fo.Eqv l m := by
  refine ⟨fun h => ?_, tu_eqv1 n⟩
  have := tu_eqv1 n h
  have e : ∀ l : List Ev, (l.map (tuE n)).map (tuE n) = l := fun l => by
    rw [List.map_map]
    conv => rhs; rw [← List.map_id l]
    exact List.map_congr_left fun e _ => tuE_tuE n e
  rwa [e, e] at this
theorem gather_same {α : Type} (f g : α → Ky.K) : ∀ (xs : List α), (∀ a ∈ xs, ∀ b ∈ xs, f a = f b ↔ g a = g b) → (Ky.gather (xs.map f)).length = (Ky.gather (xs.map g)).length := by
  intro xs
  obtain ⟨n, hn⟩ : ∃ n, n = xs.length := ⟨_, rfl⟩
  induction n generalizing xs with
  | zero =>
    intro _
    rw [List.length_eq_zero_iff.1 hn.symm]; rfl
  | succ n ih =>
    obtain ⟨l, x, rfl⟩ : ∃ l x, xs = l ++ [x] := ⟨xs.dropLast, xs.getLast (by intro e; rw [e] at hn; cases hn), (List.dropLast_concat_getLast _).symm⟩
    intro h
    replace ih := ih l (by simpa using hn)
    have sn : ∀ (l : List Ky.K) (y : Ky.K), Ky.gather (l ++ [y]) = Ky.insG (Ky.gather l) y := fun l y => by unfold Ky.gather; rw [List.foldl_append]; rfl
    simp only [List.map_append, List.map_cons, List.map_nil]
    rw [sn, sn, Ky.insG_len, Ky.insG_len, ih fun a ha b hb => h a (List.mem_append_left _ ha) b (List.mem_append_left _ hb)]
    have : f x ∈ Ky.gather (l.map f) ↔ g x ∈ Ky.gather (l.map g) := by
      rw [Ky.gather_mem, Ky.gather_mem, List.mem_map, List.mem_map]
      constructor
      · rintro ⟨a, ha, e⟩; exact ⟨a, ha, (h a (List.mem_append_left _ ha) x (by simp)).1 e⟩
      · rintro ⟨a, ha, e⟩; exact ⟨a, ha, (h a (List.mem_append_left _ ha) x (by simp)).2 e⟩
    by_cases hm : f x ∈ Ky.gather (l.map f)
    · rw [if_pos hm, if_pos (this.1 hm)]
    · rw [if_neg hm, if_neg (fun h => hm (this.2 h))]
theorem tu_ok {p : Pg} (h : Ok p) : Ok (tuP p) := ⟨by
  obtain ⟨a, b, c, d, e, f⟩ := h.1
  exact ⟨a, b, c, d, by simpa [tuP] using e, by simpa [tuP] using f⟩, fun c hc => h.2 c (List.mem_reverse.1 hc)⟩
theorem tu_start (p : Pg) (m : Nat) : start (tuP p) m = tuS (start p m) := by
  unfold start tuS tuP
  simp only [List.map_reverse]
  congr 1
theorem ends_okRow {p : Pg} {m : Nat} (h : Ok p) (hm : m ≤ 8) {z : St × List Ev} (hz : z ∈ ends 32 (start p m) []) : Fo.okRow z.2 = true ∧ Wf z.1 := by
  have hw := start_wf h hm
  obtain ⟨l, e, hex, _⟩ := (mem_ends 32 _ [] hw (fuels_start h hm) z.1 z.2).1 hz
  rw [List.nil_append] at e
  rw [e]
  have hl := ex_len hex hw
  have hf := fuels_start h hm
  refine ⟨?_, ?_⟩
  · unfold Fo.okRow Fo.rights
    rw [Bool.and_eq_true, decide_eq_true_eq, List.all_eq_true]
    exact ⟨by omega, ex_rights hex hw⟩
  · exact ex_wf hex hw
theorem tu_law {p : Pg} {m : Nat} (h : Ok p) (hm : m ≤ 8) : cnt 32 (start (tuP p) m) = cnt 32 (start p m) ∧ (sumOf (ends 32 (start (tuP p) m) [])).runs = (sumOf (ends 32 (start p m) [])).runs ∧
    (sumOf (ends 32 (start (tuP p) m) [])).stuck = (sumOf (ends 32 (start p m) [])).stuck ∧ (sumOf (ends 32 (start (tuP p) m) [])).keys.length = (sumOf (ends 32 (start p m) [])).keys.length := by
  have hw := start_wf h hm
  have hp := tu_ends p.code.length 32 (s := start p m) [] hw (by rw [hw.len]; rfl)
  rw [tu_start]
  refine ⟨tu_cnt 32 hw, ?_, ?_, ?_⟩
  · rw [sumOf_eq, sumOf_eq]
    simp only
    rw [show ([] : List Ev) = ([] : List Ev).map (tuE p.code.length) from rfl, hp.length_eq, List.length_map]
    rfl
  · rw [sumOf_eq, sumOf_eq]
    simp only
    have := (hp.filter fun z => waits z.1).length_eq
    rw [List.map_nil] at this
    rw [this, List.filter_map, List.length_map]
    congr 1
    refine List.filter_congr fun z hz => ?_
    exact tu_waits (ends_okRow h hm hz).2
  · rw [sumOf_eq, sumOf_eq]
    simp only
    have e1 : Ky.gather ((ends 32 (tuS (start p m)) []).map fun z => Fo.key z.2) = Ky.gather ((ends 32 (start p m) []).map fun z => Fo.key (z.2.map (tuE p.code.length))) := by
      refine Ky.gather_ext fun k => ?_
      have := ((hp.map fun z => Fo.key z.2).mem_iff (a := k))
      rw [List.map_nil, List.map_map] at this
      exact this
    rw [e1]
    refine gather_same _ _ _ fun a ha b hb => ?_
    have oa := (ends_okRow h hm ha).1
    have ob := (ends_okRow h hm hb).1
    have tz : ∀ z ∈ ends 32 (start p m) [], Fo.okRow (z.2.map (tuE p.code.length)) = true := fun z hz => by
      have hmem : tuZ p.code.length z ∈ ends 32 (start (tuP p) m) [] := by
        rw [tu_start]
        have := hp.mem_iff (a := tuZ p.code.length z)
        rw [List.map_nil] at this
        exact this.2 (List.mem_map.2 ⟨z, hz, rfl⟩)
      exact (ends_okRow (tu_ok h) hm hmem).1
    rw [Fo.key_iff (tz a ha) (tz b hb), Fo.key_iff oa ob]
    exact tu_eqv _
end Pr
end Go.Proofs.YtckdofjpoajblaaGreat
namespace Go.Proofs.YtckdofjpoajblaaGreat
open Go.RowKit
set_option linter.unusedVariables false
theorem trod_size {H : Type} {enc : TypeId × Value → H} {P : Program} {w : World} {base fuel : Nat} {spare : Nat → Bool} {held : Bool} {t e : TypeId} {A : Option Addr} {n cap : Nat} {y : DataW H × List MemPlace}
    (ht : P.underlying t = some (.slice e)) (h : DataW.trod enc P w base spare held fuel t [.slice A n cap] = some y) (hz : (y.1.weights P t).all (· ≤ reachBytes) = true) : n * P.bytesOf e ≤ 140737488351232 := by
  cases fuel with
  | zero => simp [DataW.trod] at h
  | succ fuel =>
    unfold DataW.trod at h
    rw [ht] at h
    cases A with
    | none =>
      cases n with
      | succ n => simp at h
      | zero => simp
    | some a =>
      simp only at h
      split at h
      · rw [Option.bind_eq_some_iff] at h
        obtain ⟨elems, hm, h⟩ := h
        have hl := (mapM_get hm).1
        rw [List.length_range] at hl
        obtain ⟨rest, hr, h⟩ := Option.map_eq_some_iff.1 h
        subst h
        simp only [DataW.weights, ht, List.all_cons, Bool.and_eq_true, decide_eq_true_eq, List.length_map] at hz
        have h1 := hz.1
        rw [hl] at h1
        have h2 : n * P.bytesOf e ≤ (n + rest.length) * P.bytesOf e := Nat.mul_le_mul_right _ (Nat.le_add_right _ _)
        unfold reachBytes at h1
        omega
      · cases h
theorem weights_split {H : Type} {P : Program} {t : TypeId} {ts : List TypeId} {d : DataW H} {ds : List (DataW H)} (h : (DataW.weightsEach P (t :: ts) (d :: ds)).all (· ≤ reachBytes) = true) : (d.weights P t).all (· ≤ reachBytes) = true ∧ (DataW.weightsEach P ts ds).all (· ≤ reachBytes) = true := by
  rw [DataW.weightsEach, List.all_append, Bool.and_eq_true] at h
  exact h
end Go.Proofs.YtckdofjpoajblaaGreat
namespace Go.Proofs.YtckdofjpoajblaaGreat
open Go.RowKit
set_option linter.unusedVariables false
theorem in3_cellsQ {w : World} {X : Nat} {a b c : Value} {T : TypeId} (h : w.heap[X]? = some (.cells #[a, b, c] T (0, 0))) : (w.cell? ⟨X, 0, none⟩ = some a ∧ w.cell? ⟨X, 1, none⟩ = some b ∧ w.cell? ⟨X, 2, none⟩ = some c) ∧ X < w.heap.size ∧ w.frozen? ⟨X, 0, none⟩ = false ∧ w.frozen? ⟨X, 1, none⟩ = false ∧ w.frozen? ⟨X, 2, none⟩ = false :=
  ⟨⟨by rw [cell_blk h]; rfl, by rw [cell_blk h]; rfl, by rw [cell_blk h]; rfl⟩, blk_lt h, free_blk h 0, free_blk h 1, free_blk h 2⟩
theorem pgin_turn {w wr : World} {p : Pg} {vs : List Value} (hl : p.code.length ≤ maxLen) (hq : ∀ q ∈ p.code, q.length ≤ maxLen) (hv : vs.length = p.code.length)
    (hat : ∀ (i : Nat) (q : List Ins), p.code[i]? = some q → ∃ A' c', vs[i]? = some (.slice A' q.length c') ∧ RdC w (fun k => k < w.heap.size) 4 A' q.length (q.flatMap encI) ∧ q.length ≤ c' ∧ c' ≤ maxLen) (hb : Below w.heap.size w wr)
    {B : Option Addr} {cap e : Nat} (hr : Row wr e 1 B p.code.length cap vs.reverse) : PgIn wr (Pr.tuP p) B := by
  refine ⟨⟨vs.reverse, ?_, fun i q hi => ?_⟩, by simpa [Pr.tuP] using hl, fun q hq' => hq q (List.mem_reverse.1 hq')⟩
  · rw [show (Pr.tuP p).code.length = p.code.length from List.length_reverse]
    exact rd_toC hr.rd
  · have hi' : i < p.code.length := by
      have := (List.getElem?_eq_some_iff.1 hi).1
      simpa [Pr.tuP] using this
    have hi2 : p.code[p.code.length - 1 - i]? = some q := by
      rw [← List.getElem?_reverse hi']; exact hi
    obtain ⟨A', c', h1, h2, h3⟩ := hat _ q hi2
    refine ⟨A', c', ?_, (h2.below hb).imp (fun k hk => Nat.lt_of_lt_of_le hk hb.size), h3⟩
    rw [List.getElem?_reverse (by omega), hv]
    exact h1
open Go.ChangeShapes Go.WideShapes Go.ChangeAt in
theorem u8s_size {H : Type} {enc : TypeId × Value → H} {W : World} {A : Option Addr} {n cap : Nat} {d : DataW H} {q : List MemPlace} (h : DataW.Trod enc Tryz.prog W 0 (fun _ => true) true 43 (.slice A n cap) d q) (hz : (d.weights Tryz.prog 43).all (· ≤ reachBytes) = true) : n ≤ 140737488351232 := by
  obtain ⟨f2, hf2⟩ := h
  have h1 := trod_size Tryz.underlying43 (by simpa [Value.cells] using hf2) hz
  have h2 : Tryz.prog.bytesOf 5 = 1 := by kernel_rfl
  rw [h2] at h1
  omega
end Go.Proofs.YtckdofjpoajblaaGreat
namespace Go.Proofs.YtckdofjpoajblaaGreat
open Go.RowKit
set_option linter.unusedVariables false
set_option maxRecDepth 100000 in
set_option maxHeartbeats 16000000 in
theorem seqTurned_any (W : World) (p : Pg) (A : Option Addr) (cap : Nat) (f : Int) (O1 : Option Addr) (oc1 : Nat) (ts : List Nat) (O2 : Option Addr) (oc2 : Nat) (us : List Nat) (hp : PgIn W p A)
    (hr : Rd W 1 O1 ts.length (ts.map (fun (t : Nat) => Value.int .u8 (t : Int)))) (hg : ∀ t ∈ ts, t ≤ 255) (hr2 : Rd W 1 O2 us.length (us.map (fun (t : Nat) => Value.int .u8 (t : Int)))) (hg2 : ∀ t ∈ us, t ≤ 255) (lt : ts.length ≤ 140737488351232) (lu : us.length ≤ 140737488351232) :
    Calls Tryz.prog 9 #[valP p A cap, .int .i64 f, .slice O1 ts.length oc1, .slice O2 us.length oc2] W fun e w' => e = .returned (.bool true) ∧ Below W.heap.size W w' := by
  obtain ⟨i8, hi8, h80, h81, h82⟩ := info_parts Tryz.infoU8
  obtain ⟨i0, hi0, hz0, hz1, hz2⟩ := info_parts Tryz.infoCd
  obtain ⟨Wa, X, hWa, hX, hBa, hXl, hXe⟩ := pg_box W p.vars p.mtx A p.code.length cap
  have hpa := hp.below hBa
  have hsmall : ∀ u, Below Wa.heap.size Wa u → _ := fun u hu => small_any u p A cap f (hpa.below hu)
  obtain ⟨sm, hsm⟩ : ∃ b, b = Pr.small p f := ⟨_, rfl⟩
  rw [← hsm] at hsmall
  obtain ⟨na, hna⟩ : ∃ n, n = ts.length := ⟨_, rfl⟩
  obtain ⟨nb, hnb⟩ : ∃ n, n = us.length := ⟨_, rfl⟩
  rw [← hna] at lt
  rw [← hnb] at lu
  have HXE := Lib.hid hXe
  have HB := Lib.hid hBa
  have HPA := Lib.hid hpa
  have HSM := Lib.hid hsm
  have HR1 := Lib.hid hr
  have HR2 := Lib.hid hr2
  have HG1 := Lib.hid hg
  have HG2 := Lib.hid hg2
  have HNA := Lib.hid hna
  have HNB := Lib.hid hnb
  rw [← hna, ← hnb]
  have hvq : ∀ B cb, valP (Pr.tuP p) B cb = .agg #[.int .i64 p.vars, .int .i64 p.mtx, .slice B p.code.length cb] := fun B cb => by
    unfold valP Pr.tuP
    simp only [List.length_reverse]
  have HVQ := Lib.hid hvq
  unfold valP at hsmall ⊢
  have HSMALL := Lib.hid hsmall
  obtain ⟨x0, x1, x2, xl⟩ := hXe Wa (Below.refl _ _)
  clear hXe hBa hsmall hpa hp hsm hr hg hr2 hg2 hna hnb hvq
  go_enter Tryz.func9, Tryz.ntmps9
  go_upto_region 1 with fail
  rw [← hWa, ← hX]
  clear hWa hX
  go_cut [30] (fun v w2 => Below Wa.heap.size Wa w2 ∧ ∃ z, v = .bool z ∧ (z = false → sm = true ∧ na + nb ≤ 500))
  case first =>
    go_wp2_with fail
    refine (awake09 _).mono ?_
    rintro x w1 ⟨rfl, b1⟩
    have HB1 := Lib.hid b1
    clear b1 x0 x1 x2 xl
    obtain ⟨x0, x1, x2, xl⟩ := HXE.out w1 HB1.out
    go_wp2_with fail
    refine (HSMALL.out w1 HB1.out).mono ?_
    rintro x w2 ⟨rfl, b2⟩
    have HB2 := Lib.hid (below_at HB1.out b2)
    clear b2
    cases sm with
    | false =>
      go_wp2_with fail
      go_meet
      exact ⟨HB2.out, _, rfl, fun h => by cases h⟩
    | true =>
      go_wp2_with fail
      all_goals (go_meet)
      all_goals (exact ⟨HB2.out, _, rfl, fun h => by first | (cases h; done) | (simp at h; exact ⟨trivial, by omega⟩) | exact ⟨rfl, by omega⟩⟩)
  case rest =>
    obtain ⟨b1, z, rfl, hz⟩ := hcut
    generalize wc = w2 at *
    have HB2 := Lib.hid b1
    clear b1 x0 x1 x2 xl
    cases z with
    | true =>
      go_wp2_with fail
      refine (awake09 _).mono ?_
      rintro e w3 ⟨rfl, b2⟩
      go_wp2_with fail
      go_ret
      exact ⟨rfl, below_at HB.out (below_at HB2.out b2)⟩
    | false =>
    obtain ⟨hs1, hn500⟩ := hz rfl
    subst hs1
    clear hz HSMALL lt lu
    obtain ⟨m, rfl, hm8, hok, _, hcnt, hall6⟩ := Pr.small_spec HSM.out.symm
    obtain ⟨t1, _, _, t4⟩ := Pr.tu_law hok hm8
    have hokq := Pr.tu_ok hok
    have okp := Pr.expl_ok (Pr.start_wf hok hm8) (Pr.fuels_start hok hm8) 600 ts (by omega)
    have okq := Pr.expl_ok (Pr.start_wf hokq hm8) (Pr.fuels_start hokq hm8) 600 us (by omega)
    have cp := okp.compl hcnt
    have cq := okq.compl (by rw [t1]; exact hcnt)
    have rp := okp.runs
    have rq := okq.runs
    have kpq : (Pr.ksE (Pr.start (Pr.tuP p) m) 600 us).length = (Pr.ksE (Pr.start p m) 600 ts).length := by rw [okp.full cp, okq.full cq]; exact t4
    have hexp := explore_law Wa p A cap m 600 ts HPA.out hm8 hok (by omega) HG1.out (by rw [← HNA.out]; omega)
    have hexq := fun (u : World) (B : Option Addr) (cb : Nat) (hq : PgIn u (Pr.tuP p) B) => explore_law u (Pr.tuP p) B cb m 600 us hq hm8 hokq (by omega) HG2.out (by rw [← HNB.out]; omega) u (Below.refl _ _)
    rw [show max 600 1 = 600 by omega, ← HNA.out, rp, cp] at hexp
    simp only [show max 600 1 = 600 by omega, ← HNB.out, rq, cq, HVQ.out] at hexq
    obtain ⟨kp, hkp⟩ : ∃ z, z = Pr.ksE (Pr.start p m) 600 ts := ⟨_, rfl⟩
    obtain ⟨kq, hkq⟩ : ∃ z, z = Pr.ksE (Pr.start (Pr.tuP p) m) 600 us := ⟨_, rfl⟩
    obtain ⟨en1, hen1⟩ : ∃ z, z = (Pr.explX (Pr.start p m) 600 ts).1.nodes := ⟨_, rfl⟩
    obtain ⟨eb1, heb1⟩ : ∃ z, z = (Pr.explX (Pr.start p m) 600 ts).1.blk := ⟨_, rfl⟩
    obtain ⟨en2, hen2⟩ : ∃ z, z = (Pr.explX (Pr.start (Pr.tuP p) m) 600 us).1.nodes := ⟨_, rfl⟩
    obtain ⟨eb2, heb2⟩ : ∃ z, z = (Pr.explX (Pr.start (Pr.tuP p) m) 600 us).1.blk := ⟨_, rfl⟩
    rw [← hkp, ← hen1, ← heb1] at hexp
    rw [← hkp, ← hkq] at kpq
    simp only [← hkq, ← hen2, ← heb2, kpq] at hexq
    obtain ⟨nk, hnk⟩ : ∃ z, z = kp.length := ⟨_, rfl⟩
    rw [← hnk] at hexp
    simp only [← hnk] at hexq
    unfold valP at hexp
    have HEXP := Lib.hid hexp
    have HEXQ := Lib.hid hexq
    have hn4 := hok.1.2.2.2.2.2
    have hn1 := hok.1.2.2.2.2.1
    clear hexp hexq t1 t4 okp okq cp cq rp rq kpq hkp hkq hen1 heb1 hen2 heb2 hnk hokq hall6 hcnt hok hm8 HSM HVQ
    obtain ⟨⟨vs, hvs, hat⟩, hlm, hqm⟩ := HPA.out
    obtain ⟨g, o, rfl, hgl, _, hcell⟩ := hvs.2 (by omega)
    have hvl : vs.length = p.code.length := by have := hvs.1; omega
    have HTURN : Hid (∀ (wr : World) (B : Option Addr) (cb : Nat), Below Wa.heap.size Wa wr → Row wr 67 1 B p.code.length cb vs.reverse → PgIn wr (Pr.tuP p) B) := Lib.hid fun wr B cb hb hr => pgin_turn hlm hqm hvl hat hb hr
    have HVS : Hid (∀ (u : World) (j : Nat), Below Wa.heap.size Wa u → j < p.code.length → ∃ A' n' c', vs[j]? = some (.slice A' n' c') ∧ u.cell? ⟨g, o + j, none⟩ = some (.slice A' n' c') ∧ g < u.heap.size) := Lib.hid fun u j hu hj => by
      obtain ⟨q, hq⟩ := get_some hj
      obtain ⟨A', c', h1, _⟩ := hat j q hq
      exact ⟨A', _, c', h1, by rw [World.cell?_of_block (hu.block g hgl), hcell j (by omega), h1], Nat.lt_of_lt_of_le hgl hu.size⟩
    have HVL := Lib.hid hvl
    obtain ⟨np, hnp⟩ : ∃ n, n = p.code.length := ⟨_, rfl⟩
    rw [← hnp] at hn1 hn4
    have HN := Lib.hid hnp
    obtain ⟨pv, hpv⟩ : ∃ z, z = p.vars := ⟨_, rfl⟩
    obtain ⟨pm, hpm⟩ : ∃ z, z = p.mtx := ⟨_, rfl⟩
    rw [← hnp, ← hpv, ← hpm] at HEXP HEXQ HXE
    rw [← hnp] at HTURN HVS HVL
    clear hvs hat hlm hqm hcell hgl hvl hnp hpv hpm
    obtain ⟨x0, x1, x2, xl⟩ := HXE.out w2 HB2.out
    go_upto_region 4 with fail
    obtain ⟨Y, hY⟩ : ∃ z, z = w2.heap.size := ⟨_, rfl⟩
    obtain ⟨W7, hW7⟩ : ∃ z, z = w2.alloc (Obj.cells #[.int .i64 pv, .int .i64 pm, .slice none 0 0] 24) := ⟨_, rfl⟩
    have hk7 : W7.heap[Y]? = some (.cells #[.int .i64 pv, .int .i64 pm, .slice none 0 0] 24 (0, 0)) := by rw [hW7, hY]; exact heap_alloc_new w2 _
    have hb7 : Below Wa.heap.size Wa W7 := by rw [hW7]; exact HB2.out.alloc HB2.out.size _
    have hYl : Wa.heap.size ≤ Y := by rw [hY]; exact HB2.out.size
    rw [← hW7, ← hY]
    have HK7 := Lib.hid hk7
    have HB7 := Lib.hid hb7
    have HYL := Lib.hid hYl
    clear hW7 hY hk7 hb7 hYl x0 x1 x2 xl
    obtain ⟨x0, x1, x2, xl⟩ := HXE.out W7 HB7.out
    go_wp2_with fail
    clear x0 x1 x2 xl
    go_loopw [40] (fun x wr => ∃ (i : Nat) (B : Option Addr) (cb : Nat), i ≤ np ∧ x = .int .i64 i ∧ Hid (wr.heap[Y]? = some (.cells #[.int .i64 pv, .int .i64 pm, .slice B i cb] 24 (0, 0))) ∧ Hid (Row wr 67 1 B i cb (vs.reverse.take i)) ∧ Hid (∀ a, B = some a → Y < a.block) ∧ Hid (Below Wa.heap.size Wa wr)) (fun x _ => np - (intOf x).toNat)
    case atStart => exact ⟨0, none, 0, Nat.zero_le _, rfl, HK7, Lib.hid ⟨rfl, Nat.le_refl _, Nat.zero_le _, fun _ => rfl, fun a ha => by cases ha⟩, Lib.hid (fun a ha => by cases ha), HB7⟩
    case round =>
      clear HK7 HB7
      obtain ⟨i, B, cb, hi, rfl, HK, HR, HG, HBR⟩ := hrel
      by_cases hlt : i < np
      · obtain ⟨mm, hmm⟩ : ∃ k, k = np - 1 := ⟨_, rfl⟩
        obtain ⟨j, hj⟩ : ∃ k, k = np - 1 - i := ⟨_, rfl⟩
        obtain ⟨A', n', c', hvj, hcj, hgj⟩ := HVS.out wr j HBR.out (by omega)
        have e1 : IntKind.i64.wrap ((np : Int) - 1) = (mm : Int) := by rw [IntWalk.i64_in _ (by omega)]; omega
        have e2 : IntKind.i64.wrap ((mm : Int) - (i : Int)) = (j : Int) := by rw [IntWalk.i64_in _ (by omega)]; omega
        have k1 : (0 : Int) ≤ (j : Int) := Int.natCast_nonneg _
        have k2 : (j : Int) < (np : Int) := by omega
        have k3 : (i : Int) < (np : Int) := by omega
        have htake : vs.reverse.take (i + 1) = vs.reverse.take i ++ [.slice A' n' c'] := by
          rw [List.take_add_one, List.getElem?_reverse (by have := HVL.out; omega), show vs.length - 1 - i = j by have := HVL.out; omega, hvj]; rfl
        have HTK := Lib.hid htake
        have HJ := Lib.hid (And.intro hmm hj)
        have HCJ := Lib.hid (And.intro hcj hgj)
        have HE1 := Lib.hid e1
        have HE2 := Lib.hid e2
        clear htake hvj hmm hj hcj hgj e1 e2
        go_upto_region 7 with fail
        refine wp_region_planF (by kernel_rfl) (fun u => Below wr.heap.size wr u) [13, 15] [(0, .pure), (1, .load), (2, .pure), (3, .load), (4, .pure), (5, .load), (6, .pure), (7, .pure), (8, .pure), (9, .pure), (10, .pure), (11, .load), (12, .eff), (13, .last), (14, .pure), (15, .last)] (by simp only [List.map_cons, List.map_nil, List.getElem?_toArray, List.getElem?_cons_succ, List.getElem?_cons_zero]; rfl) (by kernel_rfl) (fun _ _ d _ _ h => by cases d <;> exact h) ((Below.refl _ _).drew) ?_
        obtain ⟨Wd, hWd⟩ : ∃ Wd, Wd = wr.drew := ⟨_, rfl⟩
        rw [← hWd]
        have bd : Below wr.heap.size wr Wd := by rw [hWd]; exact (Below.refl _ _).drew
        clear hWd
        have e1 := HE1.out
        have e2 := HE2.out
        repeat (first
          | (refine plan_pure (v := ?_) (by rfl) (fun w1 => ?_) ?_
             rotate_left
             · go_simp <;> with_reducible rfl
             simp only [Act.put, List.setIfInBounds_toArray, List.set_cons_zero, List.set_cons_succ])
          | (refine plan_off (by rfl) ?_
             simp only [Act.put, List.setIfInBounds_toArray, List.set_cons_zero, List.set_cons_succ])
          | (refine plan_load_off (by rfl) ?_
             simp only [Act.put, List.setIfInBounds_toArray, List.set_cons_zero, List.set_cons_succ])
          | (refine plan_load (v := ?_) (by rfl) (fun w1 hw1 => ?_) ?_
             rotate_left
             · (have qx := (World.cell?_of_block (hw1.block Y (blk_lt HK.out)) : w1.cell? ⟨Y, 2, none⟩ = _).trans (cell_blk HK.out 2)
                have qg := (World.cell?_of_block (hw1.block g HCJ.out.2) : w1.cell? ⟨g, o + j, none⟩ = _).trans HCJ.out.1
                have q := HXE.out w1 (below_at HBR.out hw1)
                obtain ⟨q0, q1, q2, q3⟩ := q
                have ql := hw1.size
                have qy := blk_lt HK.out
                have qg2 := HCJ.out.2
                clear hw1
                go_simp <;> with_reducible rfl)
             simp only [Act.put, List.setIfInBounds_toArray, List.set_cons_zero, List.set_cons_succ]))
        clear e1 e2
        refine plan_eff ?_
        go_wp2_with fail
        obtain ⟨W8, hW8⟩ : ∃ z, z = Wd.alloc (Obj.cells #[.slice A' n' c'] 67) := ⟨_, rfl⟩
        obtain ⟨Z, hZ⟩ : ∃ z, z = Wd.heap.size := ⟨_, rfl⟩
        have hk8 : W8.heap[Z]? = some (.cells #[.slice A' n' c'] 67 (0, 0)) := by rw [hW8, hZ]; exact heap_alloc_new Wd _
        have hb8 : Below wr.heap.size wr W8 := by rw [hW8]; exact below_at bd ((Below.refl _ _).alloc (Nat.le_refl _) _)
        rw [← hW8, ← hZ]
        have HK8 := Lib.hid hk8
        have HB8 := Lib.hid hb8
        have HY8 := Lib.hid ((hb8.block Y (blk_lt HK.out)).trans HK.out)
        have HR8 := Lib.hid (HR.out.mod (Mod.of_below_size hb8 (fun _ => False)) (fun a ha h => h))
        clear hW8 hZ hk8 hb8 bd
        refine plan_on (fun _ h => h) HB8.out ?_
        refine plan_last ?_
        refine wpList_append_row (by rfl) _ _ _ (by rfl) 67 i0 _ 1 24 Tryz.underlying22 hi0 hz0 hz1 hz2 rfl (by omega) B i cb (vs.reverse.take i) (by rfl) HR8.out ⟨Z, 0, none⟩ 1 1 [.slice A' n' c'] (by rfl) (by rfl) (World.news_of_block (cs := #[.slice A' n' c']) (t := 67) (fr := (0, 0)) HK8.out) (by simp [Value.oneCell']) (by omega) (by unfold maxLen; omega) (by omega) ?_
        intro g1 of1 cap1 W9 hown hmo hat
        rw [← HTK.out] at hown
        have hgY : Y < g1 := by
          rcases hat with ⟨a, h1, h2⟩ | h
          · have := HG.out a h1; omega
          · have := blk_lt HY8.out; omega
        have hy9 : W9.heap[Y]? = some (.cells #[.int .i64 pv, .int .i64 pm, .slice B i cb] 24 (0, 0)) := (hmo.block Y (blk_lt HY8.out) (fun ⟨a, h1, h2⟩ => by have := HG.out a h1; omega)).trans HY8.out
        have hb9 : Below Wa.heap.size Wa W9 := (below_at HBR.out HB8.out).trans (hmo.below Wa.heap.size (by have := HBR.out.size; have := HB8.out.size; omega) (fun k hk ⟨a, h1, h2⟩ => by have := HG.out a h1; have := HYL.out; omega))
        obtain ⟨⟨y0, y1, y2⟩, yl, f0, f1, f2⟩ := in3_cellsQ hy9
        have hm10 : Mod (fun k => k = Y) W9 (W9.setCell ⟨Y, 2, none⟩ (.slice (some ⟨g1, of1, none⟩) (i + 1) cap1)) := (Mod.refl (fun k => k = Y) W9).setCell (p := ⟨Y, 2, none⟩) (fun _ => rfl) _
        have hy10 := set_blk hy9 2 (.slice (some ⟨g1, of1, none⟩) (i + 1) cap1)
        have hr10 := hown.mod hm10 (fun a ha e => by injection ha with ha; subst ha; simp only at e; omega)
        have hb10 := hb9.trans (hm10.below Wa.heap.size hb9.size (fun k hk => by have := HYL.out; omega))
        have HY10 := Lib.hid hy10
        have HR10 := Lib.hid hr10
        have HB10 := Lib.hid hb10
        have HGY := Lib.hid hgY
        clear hown hmo hat hgY hy9 hb9 hm10 hy10 hr10 hb10 y0 y1
        go_wp2_with fail
        repeat (first
          | (refine plan_pure (v := ?_) (by rfl) (fun w1 => ?_) ?_
             rotate_left
             · go_simp <;> with_reducible rfl
             simp only [Act.put, List.setIfInBounds_toArray, List.set_cons_zero, List.set_cons_succ])
          | (refine plan_off (by rfl) ?_
             simp only [Act.put, List.setIfInBounds_toArray, List.set_cons_zero, List.set_cons_succ])
          | (refine plan_load_off (by rfl) ?_
             simp only [Act.put, List.setIfInBounds_toArray, List.set_cons_zero, List.set_cons_succ])
          | (refine plan_load (v := ?_) (by rfl) (fun w1 hw1 => ?_) ?_
             rotate_left
             · (skip
                clear hw1
                go_simp <;> with_reducible rfl)
             simp only [Act.put, List.setIfInBounds_toArray, List.set_cons_zero, List.set_cons_succ]))
        refine plan_last ?_
        go_wp2_with fail
        refine plan_end ?_
        go_wp2_with fail
        go_roundw
        case rel => exact ⟨i + 1, some ⟨g1, of1, none⟩, cap1, by omega, by go_num, Lib.hid (by rw [HY10.out]; simp), HR10, Lib.hid (fun a ha => by injection ha with ha; subst ha; exact HGY.out), HB10⟩
        case measure => simp [intOf]; omega
      · obtain rfl : i = np := by omega
        have hrow : Row wr 67 1 B i cb vs.reverse := by
          have := HR.out
          rwa [List.take_of_length_le (by rw [List.length_reverse, HVL.out]; exact Nat.le_refl _)] at this
        have HPQ := Lib.hid (HTURN.out wr B cb HBR.out hrow)
        have k3 : ¬ (i : Int) < (i : Int) := by omega
        clear hrow HR HG HTURN HVS HVL HN
        generalize wr = W20 at *
        have HSS := Lib.hid (fun v (hv : Below W20.heap.size W20 v) => HXE.out v (below_at HBR.out hv))
        have HORD := Lib.hid (show ∀ u, Below W20.heap.size W20 u → Rd u 1 O1 na (ts.map fun (b : Nat) => Value.int .u8 (b : Int)) from fun u hu => by
          have := HR1.out.below (below_at HB.out (below_at HBR.out hu)) (Nat.le_refl _)
          rw [← HNA.out] at this
          exact this)
        have HEX := Lib.hid (fun v (hv : Below W20.heap.size W20 v) => HEXP.out v (below_at HBR.out hv))
        clear HEXP
        go_upto_region 9 with fail
        go_cut [11, 12] (fun v9 v10 wz => Below W20.heap.size W20 wz ∧ ∃ Y KA' kc', v9 = .pointer (some ⟨Y, 0, none⟩) ∧ v10 = .int .i64 0 ∧ wz.heap[Y]? = some (.cells #[.slice KA' nk kc', .int .i64 (en1 : Int), .int .i64 (nk : Int), .int .i64 (eb1 : Int), .bool true] 60 (0, 0)) ∧ Rd wz 1 KA' nk (kp.map sv))
        case first =>
          refine wp_region_pt (by kernel_rfl) (fun u => u.cell? ⟨X, 0, none⟩ = some (.int .i64 pv) ∧ u.cell? ⟨X, 1, none⟩ = some (.int .i64 pm) ∧ u.cell? ⟨X, 2, none⟩ = some (.slice (some ⟨g, o, none⟩) i cap) ∧ X < u.heap.size) [] (.cons 0 .load (.cons 1 .pure (.cons 3 .pure (.fork 2 (.fork 4 (.fork 5 (.cons 6 .pure (.cons 7 .pure (.cons 8 .pure (.cons 9 .eff (.cons 10 .eff (.cons 11 .pure .nil)))))) 9 (.cons 5 .eff (.cons 6 .pure (.cons 7 .pure (.cons 8 .pure (.cons 10 .eff (.cons 11 .pure .nil))))))) 9 (.cons 4 .eff (.cons 5 .eff (.cons 6 .pure (.cons 7 .pure (.cons 8 .pure (.cons 10 .eff (.cons 11 .pure .nil)))))))) 9 (.cons 2 .eff (.cons 4 .eff (.cons 5 .eff (.cons 6 .pure (.cons 7 .pure (.cons 8 .pure (.cons 10 .eff (.cons 11 .pure .nil)))))))))))) (by simp only [PT.map, List.getElem?_toArray, List.getElem?_cons_succ, List.getElem?_cons_zero]; rfl) (by kernel_rfl) (fun _ _ d _ _ h => by cases d <;> exact h) (HSS.out W20.drew (Below.refl W20.heap.size W20).drew) ?_
          have HB := Lib.hid (Below.refl W20.heap.size W20).drew
          obtain ⟨vw, hv⟩ : ∃ vw, vw = W20.drew := ⟨_, rfl⟩
          rw [← hv] at HB ⊢
          clear hv
          repeat (first
            | (refine pt_pure (v := ?_) (by rfl) (fun w1 => ?_) ?_
               rotate_left
               · go_simp <;> with_reducible rfl
               simp only [Act.put, List.setIfInBounds_toArray, List.set_cons_zero, List.set_cons_succ])
            | (refine pt_off (by rfl) ?_
               simp only [Act.put, List.setIfInBounds_toArray, List.set_cons_zero, List.set_cons_succ])
            | (refine pt_load_off (by rfl) ?_
               simp only [Act.put, List.setIfInBounds_toArray, List.set_cons_zero, List.set_cons_succ])
            | (refine pt_load (v := ?_) (by rfl) (fun w1 hw1 => ?_) ?_
               rotate_left
               · (have qq := hw1
                  obtain ⟨x0, x1, x2, xl⟩ := qq
                  clear hw1
                  go_simp <;> with_reducible rfl)
               simp only [Act.put, List.setIfInBounds_toArray, List.set_cons_zero, List.set_cons_succ]))
          refine pt_fork ?_ ?_
          · go_wp2_with fail
            obtain ⟨E, hE⟩ : ∃ Z, Z = vw.heap.size := ⟨_, rfl⟩
            obtain ⟨u, hu⟩ : ∃ u, u = vw.alloc (Obj.cells #[] 5) := ⟨_, rfl⟩
            rw [← hu, ← hE]
            have hb : Below vw.heap.size vw u := by rw [hu]; exact (Below.refl _ _).alloc (Nat.le_refl _) _
            have hk : u.heap[E]? = some (.cells #[] 5 (0, 0)) := by rw [hu, hE]; exact heap_alloc_new vw _
            have HC := Lib.hid hk
            have HB := Lib.hid (below_at HB.out hb)
            (try have HZ := Lib.hid (blk_stepW HZ.out hb))
            clear hb hk hu hE
            rename World => vw
            refine pt_on (fun u h => h) (HSS.out _ HB.out) ?_
            refine pt_fork ?_ ?_
            · have HR := Lib.hid (HORD.out vw HB.out)
              have HE := Lib.hid (row_empty (sz := 1) HC.out)
              go_wp2_with (at_builtin; refine wpList_append_copy (by rfl) _ _ _ (by rfl) 5 i8 _ 1 1 Tryz.underlying43 hi8 h80 h81 h82 rfl (by omega) ⟨E, 0, none⟩ 0 [] (by rfl) HE.out O1 na oc1 (ts.map fun (b : Nat) => Value.int .u8 (b : Int)) (by rfl) HR.out (by unfold maxLen; omega) (by omega) ?_; intro g7 o7 cap7 u hown hb hgz)
              rw [Nat.zero_add, List.nil_append] at hown
              have HA := Lib.hid hown.rd
              have HB := Lib.hid (below_at HB.out hb)
              (try have HZ := Lib.hid (blk_stepW HZ.out hb))
              clear hown hb hgz HR HE
              rename World => vw
              refine pt_on (fun u h => h) (HSS.out _ HB.out) ?_
              refine pt_fork ?_ ?_
              · go_wp2_with fail
                refine (HEX.out _ HB.out _ _ HA.out).mono ?_
                rintro y u ⟨⟨KZ, kz, rfl, hrk⟩, hb⟩
                have HK := Lib.hid hrk
                have HB := Lib.hid (below_at HB.out hb)
                (try have HZ := Lib.hid (blk_stepW HZ.out hb))
                clear hrk hb
                rename World => vw
                go_wp2_with fail
                refine pt_on (fun u h => h) (HSS.out _ HB.out) ?_
                repeat (first
                  | (refine pt_pure (v := ?_) (by rfl) (fun w1 => ?_) ?_
                     rotate_left
                     · go_simp <;> with_reducible rfl
                     simp only [Act.put, List.setIfInBounds_toArray, List.set_cons_zero, List.set_cons_succ])
                  | (refine pt_off (by rfl) ?_
                     simp only [Act.put, List.setIfInBounds_toArray, List.set_cons_zero, List.set_cons_succ])
                  | (refine pt_load_off (by rfl) ?_
                     simp only [Act.put, List.setIfInBounds_toArray, List.set_cons_zero, List.set_cons_succ])
                  | (refine pt_load (v := ?_) (by rfl) (fun w1 hw1 => ?_) ?_
                     rotate_left
                     · (skip
                        clear hw1
                        go_simp <;> with_reducible rfl)
                     simp only [Act.put, List.setIfInBounds_toArray, List.set_cons_zero, List.set_cons_succ]))
                refine pt_eff ?_
                go_wp2_with fail
                obtain ⟨Y, hY⟩ : ∃ Z, Z = vw.heap.size := ⟨_, rfl⟩
                obtain ⟨u, hu⟩ : ∃ u, u = vw.alloc (Obj.cells #[.slice none 0 0, .int .i64 0, .int .i64 0, .int .i64 0, .bool false] 60) := ⟨_, rfl⟩
                rw [← hu, ← hY]
                have hb : Below vw.heap.size vw u := by rw [hu]; exact (Below.refl _ _).alloc (Nat.le_refl _) _
                have hk : u.heap[Y]? = some (.cells #[.slice none 0 0, .int .i64 0, .int .i64 0, .int .i64 0, .bool false] 60 (0, 0)) := by rw [hu, hY]; exact heap_alloc_new vw _
                have HYW : Hid (W20.heap.size ≤ Y) := Lib.hid (by rw [hY]; exact HB.out.size)
                have HZ := Lib.hid hk
                have HB := Lib.hid (below_at HB.out hb)
                (try have HC := Lib.hid (blk_stepW HC.out hb))
                (try have HA := Lib.hid (HA.out.below hb (Nat.le_refl _)))
                (try have HK := Lib.hid (HK.out.below hb (Nat.le_refl _)))
                clear hb hk hu hY
                rename World => vw
                refine pt_on (fun u h => h) (HSS.out _ HB.out) ?_
                refine pt_eff ?_
                have e0 := cell_blk HZ.out 0
                have e1 := cell_blk HZ.out 1
                have e2 := cell_blk HZ.out 2
                have e3 := cell_blk HZ.out 3
                have e4 := cell_blk HZ.out 4
                simp only [List.getElem?_toArray, List.getElem?_cons_zero, List.getElem?_cons_succ] at e0 e1 e2 e3 e4
                have g0 := free_blk HZ.out 0
                have g1 := free_blk HZ.out 1
                have g2 := free_blk HZ.out 2
                have g3 := free_blk HZ.out 3
                have g4 := free_blk HZ.out 4
                have zl := blk_lt HZ.out
                obtain ⟨V2, hV2, hk2, hm2⟩ := rep_store HZ.out (.slice KZ nk kz) (.int .i64 (en1 : Int)) (.int .i64 (nk : Int)) (.int .i64 (eb1 : Int)) (.bool true)
                have HV2 := Lib.hid hV2
                have HREP := Lib.hid hk2
                have HRK := Lib.hid (rd_store HK.out HZ.out hm2)
                have HB := Lib.hid (HB.out.trans (hm2.below W20.heap.size HB.out.size (fun k hk e => by have := HYW.out; omega)))
                clear hV2 hk2 hm2
                go_wp2_with fail
                rw [← HV2.out]
                clear e0 e1 e2 e3 e4 g0 g1 g2 g3 g4 zl
                refine pt_on (fun u h => h) (HSS.out _ HB.out) ?_
                repeat (first
                  | (refine pt_pure (v := ?_) (by rfl) (fun w1 => ?_) ?_
                     rotate_left
                     · go_simp <;> with_reducible rfl
                     simp only [Act.put, List.setIfInBounds_toArray, List.set_cons_zero, List.set_cons_succ])
                  | (refine pt_off (by rfl) ?_
                     simp only [Act.put, List.setIfInBounds_toArray, List.set_cons_zero, List.set_cons_succ])
                  | (refine pt_load_off (by rfl) ?_
                     simp only [Act.put, List.setIfInBounds_toArray, List.set_cons_zero, List.set_cons_succ])
                  | (refine pt_load (v := ?_) (by rfl) (fun w1 hw1 => ?_) ?_
                     rotate_left
                     · (skip
                        clear hw1
                        go_simp <;> with_reducible rfl)
                     simp only [Act.put, List.setIfInBounds_toArray, List.set_cons_zero, List.set_cons_succ]))
                refine pt_end ?_
                go_wp2_with fail
                go_meet
                exact ⟨HB.out, _, _, _, rfl, rfl, HREP.out, HRK.out⟩
              · go_wp2_with fail
                obtain ⟨Y, hY⟩ : ∃ Z, Z = vw.heap.size := ⟨_, rfl⟩
                obtain ⟨u, hu⟩ : ∃ u, u = vw.alloc (Obj.cells #[.slice none 0 0, .int .i64 0, .int .i64 0, .int .i64 0, .bool false] 60) := ⟨_, rfl⟩
                rw [← hu, ← hY]
                have hb : Below vw.heap.size vw u := by rw [hu]; exact (Below.refl _ _).alloc (Nat.le_refl _) _
                have hk : u.heap[Y]? = some (.cells #[.slice none 0 0, .int .i64 0, .int .i64 0, .int .i64 0, .bool false] 60 (0, 0)) := by rw [hu, hY]; exact heap_alloc_new vw _
                have HYW : Hid (W20.heap.size ≤ Y) := Lib.hid (by rw [hY]; exact HB.out.size)
                have HZ := Lib.hid hk
                have HB := Lib.hid (below_at HB.out hb)
                (try have HC := Lib.hid (blk_stepW HC.out hb))
                (try have HA := Lib.hid (HA.out.below hb (Nat.le_refl _)))
                (try have HK := Lib.hid (HK.out.below hb (Nat.le_refl _)))
                clear hb hk hu hY
                rename World => vw
                refine pt_on (fun u h => h) (HSS.out _ HB.out) ?_
                refine pt_eff ?_
                go_wp2_with fail
                refine (HEX.out _ HB.out _ _ HA.out).mono ?_
                rintro y u ⟨⟨KZ, kz, rfl, hrk⟩, hb⟩
                have HK := Lib.hid hrk
                have HB := Lib.hid (below_at HB.out hb)
                (try have HZ := Lib.hid (blk_stepW HZ.out hb))
                clear hrk hb
                rename World => vw
                go_wp2_with fail
                refine pt_on (fun u h => h) (HSS.out _ HB.out) ?_
                repeat (first
                  | (refine pt_pure (v := ?_) (by rfl) (fun w1 => ?_) ?_
                     rotate_left
                     · go_simp <;> with_reducible rfl
                     simp only [Act.put, List.setIfInBounds_toArray, List.set_cons_zero, List.set_cons_succ])
                  | (refine pt_off (by rfl) ?_
                     simp only [Act.put, List.setIfInBounds_toArray, List.set_cons_zero, List.set_cons_succ])
                  | (refine pt_load_off (by rfl) ?_
                     simp only [Act.put, List.setIfInBounds_toArray, List.set_cons_zero, List.set_cons_succ])
                  | (refine pt_load (v := ?_) (by rfl) (fun w1 hw1 => ?_) ?_
                     rotate_left
                     · (skip
                        clear hw1
                        go_simp <;> with_reducible rfl)
                     simp only [Act.put, List.setIfInBounds_toArray, List.set_cons_zero, List.set_cons_succ]))
                refine pt_eff ?_
                have e0 := cell_blk HZ.out 0
                have e1 := cell_blk HZ.out 1
                have e2 := cell_blk HZ.out 2
                have e3 := cell_blk HZ.out 3
                have e4 := cell_blk HZ.out 4
                simp only [List.getElem?_toArray, List.getElem?_cons_zero, List.getElem?_cons_succ] at e0 e1 e2 e3 e4
                have g0 := free_blk HZ.out 0
                have g1 := free_blk HZ.out 1
                have g2 := free_blk HZ.out 2
                have g3 := free_blk HZ.out 3
                have g4 := free_blk HZ.out 4
                have zl := blk_lt HZ.out
                obtain ⟨V2, hV2, hk2, hm2⟩ := rep_store HZ.out (.slice KZ nk kz) (.int .i64 (en1 : Int)) (.int .i64 (nk : Int)) (.int .i64 (eb1 : Int)) (.bool true)
                have HV2 := Lib.hid hV2
                have HREP := Lib.hid hk2
                have HRK := Lib.hid (rd_store HK.out HZ.out hm2)
                have HB := Lib.hid (HB.out.trans (hm2.below W20.heap.size HB.out.size (fun k hk e => by have := HYW.out; omega)))
                clear hV2 hk2 hm2
                go_wp2_with fail
                rw [← HV2.out]
                clear e0 e1 e2 e3 e4 g0 g1 g2 g3 g4 zl
                refine pt_on (fun u h => h) (HSS.out _ HB.out) ?_
                repeat (first
                  | (refine pt_pure (v := ?_) (by rfl) (fun w1 => ?_) ?_
                     rotate_left
                     · go_simp <;> with_reducible rfl
                     simp only [Act.put, List.setIfInBounds_toArray, List.set_cons_zero, List.set_cons_succ])
                  | (refine pt_off (by rfl) ?_
                     simp only [Act.put, List.setIfInBounds_toArray, List.set_cons_zero, List.set_cons_succ])
                  | (refine pt_load_off (by rfl) ?_
                     simp only [Act.put, List.setIfInBounds_toArray, List.set_cons_zero, List.set_cons_succ])
                  | (refine pt_load (v := ?_) (by rfl) (fun w1 hw1 => ?_) ?_
                     rotate_left
                     · (skip
                        clear hw1
                        go_simp <;> with_reducible rfl)
                     simp only [Act.put, List.setIfInBounds_toArray, List.set_cons_zero, List.set_cons_succ]))
                refine pt_end ?_
                go_wp2_with fail
                go_meet
                exact ⟨HB.out, _, _, _, rfl, rfl, HREP.out, HRK.out⟩
            · go_wp2_with fail
              obtain ⟨Y, hY⟩ : ∃ Z, Z = vw.heap.size := ⟨_, rfl⟩
              obtain ⟨u, hu⟩ : ∃ u, u = vw.alloc (Obj.cells #[.slice none 0 0, .int .i64 0, .int .i64 0, .int .i64 0, .bool false] 60) := ⟨_, rfl⟩
              rw [← hu, ← hY]
              have hb : Below vw.heap.size vw u := by rw [hu]; exact (Below.refl _ _).alloc (Nat.le_refl _) _
              have hk : u.heap[Y]? = some (.cells #[.slice none 0 0, .int .i64 0, .int .i64 0, .int .i64 0, .bool false] 60 (0, 0)) := by rw [hu, hY]; exact heap_alloc_new vw _
              have HYW : Hid (W20.heap.size ≤ Y) := Lib.hid (by rw [hY]; exact HB.out.size)
              have HZ := Lib.hid hk
              have HB := Lib.hid (below_at HB.out hb)
              (try have HC := Lib.hid (blk_stepW HC.out hb))
              (try have HA := Lib.hid (HA.out.below hb (Nat.le_refl _)))
              (try have HK := Lib.hid (HK.out.below hb (Nat.le_refl _)))
              clear hb hk hu hY
              rename World => vw
              refine pt_on (fun u h => h) (HSS.out _ HB.out) ?_
              refine pt_eff ?_
              have HR := Lib.hid (HORD.out vw HB.out)
              have HE := Lib.hid (row_empty (sz := 1) HC.out)
              go_wp2_with (at_builtin; refine wpList_append_copy (by rfl) _ _ _ (by rfl) 5 i8 _ 1 1 Tryz.underlying43 hi8 h80 h81 h82 rfl (by omega) ⟨E, 0, none⟩ 0 [] (by rfl) HE.out O1 na oc1 (ts.map fun (b : Nat) => Value.int .u8 (b : Int)) (by rfl) HR.out (by unfold maxLen; omega) (by omega) ?_; intro g7 o7 cap7 u hown hb hgz)
              rw [Nat.zero_add, List.nil_append] at hown
              have HA := Lib.hid hown.rd
              have HB := Lib.hid (below_at HB.out hb)
              (try have HZ := Lib.hid (blk_stepW HZ.out hb))
              clear hown hb hgz HR HE
              rename World => vw
              refine pt_on (fun u h => h) (HSS.out _ HB.out) ?_
              refine pt_eff ?_
              go_wp2_with fail
              refine (HEX.out _ HB.out _ _ HA.out).mono ?_
              rintro y u ⟨⟨KZ, kz, rfl, hrk⟩, hb⟩
              have HK := Lib.hid hrk
              have HB := Lib.hid (below_at HB.out hb)
              (try have HZ := Lib.hid (blk_stepW HZ.out hb))
              clear hrk hb
              rename World => vw
              go_wp2_with fail
              refine pt_on (fun u h => h) (HSS.out _ HB.out) ?_
              repeat (first
                | (refine pt_pure (v := ?_) (by rfl) (fun w1 => ?_) ?_
                   rotate_left
                   · go_simp <;> with_reducible rfl
                   simp only [Act.put, List.setIfInBounds_toArray, List.set_cons_zero, List.set_cons_succ])
                | (refine pt_off (by rfl) ?_
                   simp only [Act.put, List.setIfInBounds_toArray, List.set_cons_zero, List.set_cons_succ])
                | (refine pt_load_off (by rfl) ?_
                   simp only [Act.put, List.setIfInBounds_toArray, List.set_cons_zero, List.set_cons_succ])
                | (refine pt_load (v := ?_) (by rfl) (fun w1 hw1 => ?_) ?_
                   rotate_left
                   · (skip
                      clear hw1
                      go_simp <;> with_reducible rfl)
                   simp only [Act.put, List.setIfInBounds_toArray, List.set_cons_zero, List.set_cons_succ]))
              refine pt_eff ?_
              have e0 := cell_blk HZ.out 0
              have e1 := cell_blk HZ.out 1
              have e2 := cell_blk HZ.out 2
              have e3 := cell_blk HZ.out 3
              have e4 := cell_blk HZ.out 4
              simp only [List.getElem?_toArray, List.getElem?_cons_zero, List.getElem?_cons_succ] at e0 e1 e2 e3 e4
              have g0 := free_blk HZ.out 0
              have g1 := free_blk HZ.out 1
              have g2 := free_blk HZ.out 2
              have g3 := free_blk HZ.out 3
              have g4 := free_blk HZ.out 4
              have zl := blk_lt HZ.out
              obtain ⟨V2, hV2, hk2, hm2⟩ := rep_store HZ.out (.slice KZ nk kz) (.int .i64 (en1 : Int)) (.int .i64 (nk : Int)) (.int .i64 (eb1 : Int)) (.bool true)
              have HV2 := Lib.hid hV2
              have HREP := Lib.hid hk2
              have HRK := Lib.hid (rd_store HK.out HZ.out hm2)
              have HB := Lib.hid (HB.out.trans (hm2.below W20.heap.size HB.out.size (fun k hk e => by have := HYW.out; omega)))
              clear hV2 hk2 hm2
              go_wp2_with fail
              rw [← HV2.out]
              clear e0 e1 e2 e3 e4 g0 g1 g2 g3 g4 zl
              refine pt_on (fun u h => h) (HSS.out _ HB.out) ?_
              repeat (first
                | (refine pt_pure (v := ?_) (by rfl) (fun w1 => ?_) ?_
                   rotate_left
                   · go_simp <;> with_reducible rfl
                   simp only [Act.put, List.setIfInBounds_toArray, List.set_cons_zero, List.set_cons_succ])
                | (refine pt_off (by rfl) ?_
                   simp only [Act.put, List.setIfInBounds_toArray, List.set_cons_zero, List.set_cons_succ])
                | (refine pt_load_off (by rfl) ?_
                   simp only [Act.put, List.setIfInBounds_toArray, List.set_cons_zero, List.set_cons_succ])
                | (refine pt_load (v := ?_) (by rfl) (fun w1 hw1 => ?_) ?_
                   rotate_left
                   · (skip
                      clear hw1
                      go_simp <;> with_reducible rfl)
                   simp only [Act.put, List.setIfInBounds_toArray, List.set_cons_zero, List.set_cons_succ]))
              refine pt_end ?_
              go_wp2_with fail
              go_meet
              exact ⟨HB.out, _, _, _, rfl, rfl, HREP.out, HRK.out⟩
          · go_wp2_with fail
            obtain ⟨Y, hY⟩ : ∃ Z, Z = vw.heap.size := ⟨_, rfl⟩
            obtain ⟨u, hu⟩ : ∃ u, u = vw.alloc (Obj.cells #[.slice none 0 0, .int .i64 0, .int .i64 0, .int .i64 0, .bool false] 60) := ⟨_, rfl⟩
            rw [← hu, ← hY]
            have hb : Below vw.heap.size vw u := by rw [hu]; exact (Below.refl _ _).alloc (Nat.le_refl _) _
            have hk : u.heap[Y]? = some (.cells #[.slice none 0 0, .int .i64 0, .int .i64 0, .int .i64 0, .bool false] 60 (0, 0)) := by rw [hu, hY]; exact heap_alloc_new vw _
            have HYW : Hid (W20.heap.size ≤ Y) := Lib.hid (by rw [hY]; exact HB.out.size)
            have HZ := Lib.hid hk
            have HB := Lib.hid (below_at HB.out hb)
            (try have HC := Lib.hid (blk_stepW HC.out hb))
            (try have HA := Lib.hid (HA.out.below hb (Nat.le_refl _)))
            (try have HK := Lib.hid (HK.out.below hb (Nat.le_refl _)))
            clear hb hk hu hY
            rename World => vw
            refine pt_on (fun u h => h) (HSS.out _ HB.out) ?_
            refine pt_eff ?_
            go_wp2_with fail
            obtain ⟨E, hE⟩ : ∃ Z, Z = vw.heap.size := ⟨_, rfl⟩
            obtain ⟨u, hu⟩ : ∃ u, u = vw.alloc (Obj.cells #[] 5) := ⟨_, rfl⟩
            rw [← hu, ← hE]
            have hb : Below vw.heap.size vw u := by rw [hu]; exact (Below.refl _ _).alloc (Nat.le_refl _) _
            have hk : u.heap[E]? = some (.cells #[] 5 (0, 0)) := by rw [hu, hE]; exact heap_alloc_new vw _
            have HC := Lib.hid hk
            have HB := Lib.hid (below_at HB.out hb)
            (try have HZ := Lib.hid (blk_stepW HZ.out hb))
            clear hb hk hu hE
            rename World => vw
            refine pt_on (fun u h => h) (HSS.out _ HB.out) ?_
            refine pt_eff ?_
            have HR := Lib.hid (HORD.out vw HB.out)
            have HE := Lib.hid (row_empty (sz := 1) HC.out)
            go_wp2_with (at_builtin; refine wpList_append_copy (by rfl) _ _ _ (by rfl) 5 i8 _ 1 1 Tryz.underlying43 hi8 h80 h81 h82 rfl (by omega) ⟨E, 0, none⟩ 0 [] (by rfl) HE.out O1 na oc1 (ts.map fun (b : Nat) => Value.int .u8 (b : Int)) (by rfl) HR.out (by unfold maxLen; omega) (by omega) ?_; intro g7 o7 cap7 u hown hb hgz)
            rw [Nat.zero_add, List.nil_append] at hown
            have HA := Lib.hid hown.rd
            have HB := Lib.hid (below_at HB.out hb)
            (try have HZ := Lib.hid (blk_stepW HZ.out hb))
            clear hown hb hgz HR HE
            rename World => vw
            refine pt_on (fun u h => h) (HSS.out _ HB.out) ?_
            refine pt_eff ?_
            go_wp2_with fail
            refine (HEX.out _ HB.out _ _ HA.out).mono ?_
            rintro y u ⟨⟨KZ, kz, rfl, hrk⟩, hb⟩
            have HK := Lib.hid hrk
            have HB := Lib.hid (below_at HB.out hb)
            (try have HZ := Lib.hid (blk_stepW HZ.out hb))
            clear hrk hb
            rename World => vw
            go_wp2_with fail
            refine pt_on (fun u h => h) (HSS.out _ HB.out) ?_
            repeat (first
              | (refine pt_pure (v := ?_) (by rfl) (fun w1 => ?_) ?_
                 rotate_left
                 · go_simp <;> with_reducible rfl
                 simp only [Act.put, List.setIfInBounds_toArray, List.set_cons_zero, List.set_cons_succ])
              | (refine pt_off (by rfl) ?_
                 simp only [Act.put, List.setIfInBounds_toArray, List.set_cons_zero, List.set_cons_succ])
              | (refine pt_load_off (by rfl) ?_
                 simp only [Act.put, List.setIfInBounds_toArray, List.set_cons_zero, List.set_cons_succ])
              | (refine pt_load (v := ?_) (by rfl) (fun w1 hw1 => ?_) ?_
                 rotate_left
                 · (skip
                    clear hw1
                    go_simp <;> with_reducible rfl)
                 simp only [Act.put, List.setIfInBounds_toArray, List.set_cons_zero, List.set_cons_succ]))
            refine pt_eff ?_
            have e0 := cell_blk HZ.out 0
            have e1 := cell_blk HZ.out 1
            have e2 := cell_blk HZ.out 2
            have e3 := cell_blk HZ.out 3
            have e4 := cell_blk HZ.out 4
            simp only [List.getElem?_toArray, List.getElem?_cons_zero, List.getElem?_cons_succ] at e0 e1 e2 e3 e4
            have g0 := free_blk HZ.out 0
            have g1 := free_blk HZ.out 1
            have g2 := free_blk HZ.out 2
            have g3 := free_blk HZ.out 3
            have g4 := free_blk HZ.out 4
            have zl := blk_lt HZ.out
            obtain ⟨V2, hV2, hk2, hm2⟩ := rep_store HZ.out (.slice KZ nk kz) (.int .i64 (en1 : Int)) (.int .i64 (nk : Int)) (.int .i64 (eb1 : Int)) (.bool true)
            have HV2 := Lib.hid hV2
            have HREP := Lib.hid hk2
            have HRK := Lib.hid (rd_store HK.out HZ.out hm2)
            have HB := Lib.hid (HB.out.trans (hm2.below W20.heap.size HB.out.size (fun k hk e => by have := HYW.out; omega)))
            clear hV2 hk2 hm2
            go_wp2_with fail
            rw [← HV2.out]
            clear e0 e1 e2 e3 e4 g0 g1 g2 g3 g4 zl
            refine pt_on (fun u h => h) (HSS.out _ HB.out) ?_
            repeat (first
              | (refine pt_pure (v := ?_) (by rfl) (fun w1 => ?_) ?_
                 rotate_left
                 · go_simp <;> with_reducible rfl
                 simp only [Act.put, List.setIfInBounds_toArray, List.set_cons_zero, List.set_cons_succ])
              | (refine pt_off (by rfl) ?_
                 simp only [Act.put, List.setIfInBounds_toArray, List.set_cons_zero, List.set_cons_succ])
              | (refine pt_load_off (by rfl) ?_
                 simp only [Act.put, List.setIfInBounds_toArray, List.set_cons_zero, List.set_cons_succ])
              | (refine pt_load (v := ?_) (by rfl) (fun w1 hw1 => ?_) ?_
                 rotate_left
                 · (skip
                    clear hw1
                    go_simp <;> with_reducible rfl)
                 simp only [Act.put, List.setIfInBounds_toArray, List.set_cons_zero, List.set_cons_succ]))
            refine pt_end ?_
            go_wp2_with fail
            go_meet
            exact ⟨HB.out, _, _, _, rfl, rfl, HREP.out, HRK.out⟩
        case rest =>
          obtain ⟨bz, Y1, K1, kc1, rfl, rfl, hrep1, _⟩ := hcut
          generalize wc = W21 at *
          have hky := blk_stepW HK.out bz
          have HREP1 := Lib.hid hrep1
          have HBZ1 := Lib.hid bz
          have HPQ1 := Lib.hid (HPQ.out.below bz)
          clear HSS HORD HEX
          have HSS := Lib.hid (show ∀ u, Below W21.heap.size W21 u → u.cell? ⟨Y, 0, none⟩ = some (.int .i64 pv) ∧ u.cell? ⟨Y, 1, none⟩ = some (.int .i64 pm) ∧ u.cell? ⟨Y, 2, none⟩ = some (.slice B i cb) ∧ Y < u.heap.size from fun u hu => by
            have hk := blk_stepW hky hu
            exact ⟨cell_blk hk 0, cell_blk hk 1, cell_blk hk 2, blk_lt hk⟩)
          have HORD := Lib.hid (show ∀ u, Below W21.heap.size W21 u → Rd u 1 O2 nb (us.map fun (b : Nat) => Value.int .u8 (b : Int)) from fun u hu => by
            have := HR2.out.below (below_at HB.out (below_at HBR.out (below_at bz hu))) (Nat.le_refl _)
            rw [← HNB.out] at this
            exact this)
          have HEX := Lib.hid (fun v (hv : Below W21.heap.size W21 v) => HEXQ.out v B cb (HPQ1.out.below hv))
          clear hrep1 bz hky HEXQ HPQ HPQ1
          go_upto_region 10 with fail
          go_cut [13, 14] (fun v9 v10 wz => Below W21.heap.size W21 wz ∧ ∃ Y KA' kc', v9 = .pointer (some ⟨Y, 0, none⟩) ∧ v10 = .int .i64 0 ∧ wz.heap[Y]? = some (.cells #[.slice KA' nk kc', .int .i64 (en2 : Int), .int .i64 (nk : Int), .int .i64 (eb2 : Int), .bool true] 60 (0, 0)) ∧ Rd wz 1 KA' nk (kq.map sv))
          case first =>
            refine wp_region_pt (by kernel_rfl) (fun u => u.cell? ⟨Y, 0, none⟩ = some (.int .i64 pv) ∧ u.cell? ⟨Y, 1, none⟩ = some (.int .i64 pm) ∧ u.cell? ⟨Y, 2, none⟩ = some (.slice B i cb) ∧ Y < u.heap.size) [] (.cons 0 .load (.cons 1 .pure (.cons 3 .pure (.fork 2 (.fork 4 (.fork 5 (.cons 6 .pure (.cons 7 .pure (.cons 8 .pure (.cons 9 .eff (.cons 10 .eff (.cons 11 .pure .nil)))))) 9 (.cons 5 .eff (.cons 6 .pure (.cons 7 .pure (.cons 8 .pure (.cons 10 .eff (.cons 11 .pure .nil))))))) 9 (.cons 4 .eff (.cons 5 .eff (.cons 6 .pure (.cons 7 .pure (.cons 8 .pure (.cons 10 .eff (.cons 11 .pure .nil)))))))) 9 (.cons 2 .eff (.cons 4 .eff (.cons 5 .eff (.cons 6 .pure (.cons 7 .pure (.cons 8 .pure (.cons 10 .eff (.cons 11 .pure .nil)))))))))))) (by simp only [PT.map, List.getElem?_toArray, List.getElem?_cons_succ, List.getElem?_cons_zero]; rfl) (by kernel_rfl) (fun _ _ d _ _ h => by cases d <;> exact h) (HSS.out W21.drew (Below.refl W21.heap.size W21).drew) ?_
            have HB := Lib.hid (Below.refl W21.heap.size W21).drew
            obtain ⟨vw, hv⟩ : ∃ vw, vw = W21.drew := ⟨_, rfl⟩
            rw [← hv] at HB ⊢
            clear hv
            repeat (first
              | (refine pt_pure (v := ?_) (by rfl) (fun w1 => ?_) ?_
                 rotate_left
                 · go_simp <;> with_reducible rfl
                 simp only [Act.put, List.setIfInBounds_toArray, List.set_cons_zero, List.set_cons_succ])
              | (refine pt_off (by rfl) ?_
                 simp only [Act.put, List.setIfInBounds_toArray, List.set_cons_zero, List.set_cons_succ])
              | (refine pt_load_off (by rfl) ?_
                 simp only [Act.put, List.setIfInBounds_toArray, List.set_cons_zero, List.set_cons_succ])
              | (refine pt_load (v := ?_) (by rfl) (fun w1 hw1 => ?_) ?_
                 rotate_left
                 · (have qq := hw1
                    obtain ⟨x0, x1, x2, xl⟩ := qq
                    clear hw1
                    go_simp <;> with_reducible rfl)
                 simp only [Act.put, List.setIfInBounds_toArray, List.set_cons_zero, List.set_cons_succ]))
            refine pt_fork ?_ ?_
            · go_wp2_with fail
              obtain ⟨E, hE⟩ : ∃ Z, Z = vw.heap.size := ⟨_, rfl⟩
              obtain ⟨u, hu⟩ : ∃ u, u = vw.alloc (Obj.cells #[] 5) := ⟨_, rfl⟩
              rw [← hu, ← hE]
              have hb : Below vw.heap.size vw u := by rw [hu]; exact (Below.refl _ _).alloc (Nat.le_refl _) _
              have hk : u.heap[E]? = some (.cells #[] 5 (0, 0)) := by rw [hu, hE]; exact heap_alloc_new vw _
              have HC := Lib.hid hk
              have HB := Lib.hid (below_at HB.out hb)
              (try have HZ := Lib.hid (blk_stepW HZ.out hb))
              clear hb hk hu hE
              rename World => vw
              refine pt_on (fun u h => h) (HSS.out _ HB.out) ?_
              refine pt_fork ?_ ?_
              · have HR := Lib.hid (HORD.out vw HB.out)
                have HE := Lib.hid (row_empty (sz := 1) HC.out)
                go_wp2_with (at_builtin; refine wpList_append_copy (by rfl) _ _ _ (by rfl) 5 i8 _ 1 1 Tryz.underlying43 hi8 h80 h81 h82 rfl (by omega) ⟨E, 0, none⟩ 0 [] (by rfl) HE.out O2 nb oc2 (us.map fun (b : Nat) => Value.int .u8 (b : Int)) (by rfl) HR.out (by unfold maxLen; omega) (by omega) ?_; intro g7 o7 cap7 u hown hb hgz)
                rw [Nat.zero_add, List.nil_append] at hown
                have HA := Lib.hid hown.rd
                have HB := Lib.hid (below_at HB.out hb)
                (try have HZ := Lib.hid (blk_stepW HZ.out hb))
                clear hown hb hgz HR HE
                rename World => vw
                refine pt_on (fun u h => h) (HSS.out _ HB.out) ?_
                refine pt_fork ?_ ?_
                · go_wp2_with fail
                  refine (HEX.out _ HB.out _ _ HA.out).mono ?_
                  rintro y u ⟨⟨KZ, kz, rfl, hrk⟩, hb⟩
                  have HK := Lib.hid hrk
                  have HB := Lib.hid (below_at HB.out hb)
                  (try have HZ := Lib.hid (blk_stepW HZ.out hb))
                  clear hrk hb
                  rename World => vw
                  go_wp2_with fail
                  refine pt_on (fun u h => h) (HSS.out _ HB.out) ?_
                  repeat (first
                    | (refine pt_pure (v := ?_) (by rfl) (fun w1 => ?_) ?_
                       rotate_left
                       · go_simp <;> with_reducible rfl
                       simp only [Act.put, List.setIfInBounds_toArray, List.set_cons_zero, List.set_cons_succ])
                    | (refine pt_off (by rfl) ?_
                       simp only [Act.put, List.setIfInBounds_toArray, List.set_cons_zero, List.set_cons_succ])
                    | (refine pt_load_off (by rfl) ?_
                       simp only [Act.put, List.setIfInBounds_toArray, List.set_cons_zero, List.set_cons_succ])
                    | (refine pt_load (v := ?_) (by rfl) (fun w1 hw1 => ?_) ?_
                       rotate_left
                       · (skip
                          clear hw1
                          go_simp <;> with_reducible rfl)
                       simp only [Act.put, List.setIfInBounds_toArray, List.set_cons_zero, List.set_cons_succ]))
                  refine pt_eff ?_
                  go_wp2_with fail
                  obtain ⟨Y, hY⟩ : ∃ Z, Z = vw.heap.size := ⟨_, rfl⟩
                  obtain ⟨u, hu⟩ : ∃ u, u = vw.alloc (Obj.cells #[.slice none 0 0, .int .i64 0, .int .i64 0, .int .i64 0, .bool false] 60) := ⟨_, rfl⟩
                  rw [← hu, ← hY]
                  have hb : Below vw.heap.size vw u := by rw [hu]; exact (Below.refl _ _).alloc (Nat.le_refl _) _
                  have hk : u.heap[Y]? = some (.cells #[.slice none 0 0, .int .i64 0, .int .i64 0, .int .i64 0, .bool false] 60 (0, 0)) := by rw [hu, hY]; exact heap_alloc_new vw _
                  have HYW : Hid (W21.heap.size ≤ Y) := Lib.hid (by rw [hY]; exact HB.out.size)
                  have HZ := Lib.hid hk
                  have HB := Lib.hid (below_at HB.out hb)
                  (try have HC := Lib.hid (blk_stepW HC.out hb))
                  (try have HA := Lib.hid (HA.out.below hb (Nat.le_refl _)))
                  (try have HK := Lib.hid (HK.out.below hb (Nat.le_refl _)))
                  clear hb hk hu hY
                  rename World => vw
                  refine pt_on (fun u h => h) (HSS.out _ HB.out) ?_
                  refine pt_eff ?_
                  have e0 := cell_blk HZ.out 0
                  have e1 := cell_blk HZ.out 1
                  have e2 := cell_blk HZ.out 2
                  have e3 := cell_blk HZ.out 3
                  have e4 := cell_blk HZ.out 4
                  simp only [List.getElem?_toArray, List.getElem?_cons_zero, List.getElem?_cons_succ] at e0 e1 e2 e3 e4
                  have g0 := free_blk HZ.out 0
                  have g1 := free_blk HZ.out 1
                  have g2 := free_blk HZ.out 2
                  have g3 := free_blk HZ.out 3
                  have g4 := free_blk HZ.out 4
                  have zl := blk_lt HZ.out
                  obtain ⟨V2, hV2, hk2, hm2⟩ := rep_store HZ.out (.slice KZ nk kz) (.int .i64 (en2 : Int)) (.int .i64 (nk : Int)) (.int .i64 (eb2 : Int)) (.bool true)
                  have HV2 := Lib.hid hV2
                  have HREP := Lib.hid hk2
                  have HRK := Lib.hid (rd_store HK.out HZ.out hm2)
                  have HB := Lib.hid (HB.out.trans (hm2.below W21.heap.size HB.out.size (fun k hk e => by have := HYW.out; omega)))
                  clear hV2 hk2 hm2
                  go_wp2_with fail
                  rw [← HV2.out]
                  clear e0 e1 e2 e3 e4 g0 g1 g2 g3 g4 zl
                  refine pt_on (fun u h => h) (HSS.out _ HB.out) ?_
                  repeat (first
                    | (refine pt_pure (v := ?_) (by rfl) (fun w1 => ?_) ?_
                       rotate_left
                       · go_simp <;> with_reducible rfl
                       simp only [Act.put, List.setIfInBounds_toArray, List.set_cons_zero, List.set_cons_succ])
                    | (refine pt_off (by rfl) ?_
                       simp only [Act.put, List.setIfInBounds_toArray, List.set_cons_zero, List.set_cons_succ])
                    | (refine pt_load_off (by rfl) ?_
                       simp only [Act.put, List.setIfInBounds_toArray, List.set_cons_zero, List.set_cons_succ])
                    | (refine pt_load (v := ?_) (by rfl) (fun w1 hw1 => ?_) ?_
                       rotate_left
                       · (skip
                          clear hw1
                          go_simp <;> with_reducible rfl)
                       simp only [Act.put, List.setIfInBounds_toArray, List.set_cons_zero, List.set_cons_succ]))
                  refine pt_end ?_
                  go_wp2_with fail
                  go_meet
                  exact ⟨HB.out, _, _, _, rfl, rfl, HREP.out, HRK.out⟩
                · go_wp2_with fail
                  obtain ⟨Y, hY⟩ : ∃ Z, Z = vw.heap.size := ⟨_, rfl⟩
                  obtain ⟨u, hu⟩ : ∃ u, u = vw.alloc (Obj.cells #[.slice none 0 0, .int .i64 0, .int .i64 0, .int .i64 0, .bool false] 60) := ⟨_, rfl⟩
                  rw [← hu, ← hY]
                  have hb : Below vw.heap.size vw u := by rw [hu]; exact (Below.refl _ _).alloc (Nat.le_refl _) _
                  have hk : u.heap[Y]? = some (.cells #[.slice none 0 0, .int .i64 0, .int .i64 0, .int .i64 0, .bool false] 60 (0, 0)) := by rw [hu, hY]; exact heap_alloc_new vw _
                  have HYW : Hid (W21.heap.size ≤ Y) := Lib.hid (by rw [hY]; exact HB.out.size)
                  have HZ := Lib.hid hk
                  have HB := Lib.hid (below_at HB.out hb)
                  (try have HC := Lib.hid (blk_stepW HC.out hb))
                  (try have HA := Lib.hid (HA.out.below hb (Nat.le_refl _)))
                  (try have HK := Lib.hid (HK.out.below hb (Nat.le_refl _)))
                  clear hb hk hu hY
                  rename World => vw
                  refine pt_on (fun u h => h) (HSS.out _ HB.out) ?_
                  refine pt_eff ?_
                  go_wp2_with fail
                  refine (HEX.out _ HB.out _ _ HA.out).mono ?_
                  rintro y u ⟨⟨KZ, kz, rfl, hrk⟩, hb⟩
                  have HK := Lib.hid hrk
                  have HB := Lib.hid (below_at HB.out hb)
                  (try have HZ := Lib.hid (blk_stepW HZ.out hb))
                  clear hrk hb
                  rename World => vw
                  go_wp2_with fail
                  refine pt_on (fun u h => h) (HSS.out _ HB.out) ?_
                  repeat (first
                    | (refine pt_pure (v := ?_) (by rfl) (fun w1 => ?_) ?_
                       rotate_left
                       · go_simp <;> with_reducible rfl
                       simp only [Act.put, List.setIfInBounds_toArray, List.set_cons_zero, List.set_cons_succ])
                    | (refine pt_off (by rfl) ?_
                       simp only [Act.put, List.setIfInBounds_toArray, List.set_cons_zero, List.set_cons_succ])
                    | (refine pt_load_off (by rfl) ?_
                       simp only [Act.put, List.setIfInBounds_toArray, List.set_cons_zero, List.set_cons_succ])
                    | (refine pt_load (v := ?_) (by rfl) (fun w1 hw1 => ?_) ?_
                       rotate_left
                       · (skip
                          clear hw1
                          go_simp <;> with_reducible rfl)
                       simp only [Act.put, List.setIfInBounds_toArray, List.set_cons_zero, List.set_cons_succ]))
                  refine pt_eff ?_
                  have e0 := cell_blk HZ.out 0
                  have e1 := cell_blk HZ.out 1
                  have e2 := cell_blk HZ.out 2
                  have e3 := cell_blk HZ.out 3
                  have e4 := cell_blk HZ.out 4
                  simp only [List.getElem?_toArray, List.getElem?_cons_zero, List.getElem?_cons_succ] at e0 e1 e2 e3 e4
                  have g0 := free_blk HZ.out 0
                  have g1 := free_blk HZ.out 1
                  have g2 := free_blk HZ.out 2
                  have g3 := free_blk HZ.out 3
                  have g4 := free_blk HZ.out 4
                  have zl := blk_lt HZ.out
                  obtain ⟨V2, hV2, hk2, hm2⟩ := rep_store HZ.out (.slice KZ nk kz) (.int .i64 (en2 : Int)) (.int .i64 (nk : Int)) (.int .i64 (eb2 : Int)) (.bool true)
                  have HV2 := Lib.hid hV2
                  have HREP := Lib.hid hk2
                  have HRK := Lib.hid (rd_store HK.out HZ.out hm2)
                  have HB := Lib.hid (HB.out.trans (hm2.below W21.heap.size HB.out.size (fun k hk e => by have := HYW.out; omega)))
                  clear hV2 hk2 hm2
                  go_wp2_with fail
                  rw [← HV2.out]
                  clear e0 e1 e2 e3 e4 g0 g1 g2 g3 g4 zl
                  refine pt_on (fun u h => h) (HSS.out _ HB.out) ?_
                  repeat (first
                    | (refine pt_pure (v := ?_) (by rfl) (fun w1 => ?_) ?_
                       rotate_left
                       · go_simp <;> with_reducible rfl
                       simp only [Act.put, List.setIfInBounds_toArray, List.set_cons_zero, List.set_cons_succ])
                    | (refine pt_off (by rfl) ?_
                       simp only [Act.put, List.setIfInBounds_toArray, List.set_cons_zero, List.set_cons_succ])
                    | (refine pt_load_off (by rfl) ?_
                       simp only [Act.put, List.setIfInBounds_toArray, List.set_cons_zero, List.set_cons_succ])
                    | (refine pt_load (v := ?_) (by rfl) (fun w1 hw1 => ?_) ?_
                       rotate_left
                       · (skip
                          clear hw1
                          go_simp <;> with_reducible rfl)
                       simp only [Act.put, List.setIfInBounds_toArray, List.set_cons_zero, List.set_cons_succ]))
                  refine pt_end ?_
                  go_wp2_with fail
                  go_meet
                  exact ⟨HB.out, _, _, _, rfl, rfl, HREP.out, HRK.out⟩
              · go_wp2_with fail
                obtain ⟨Y, hY⟩ : ∃ Z, Z = vw.heap.size := ⟨_, rfl⟩
                obtain ⟨u, hu⟩ : ∃ u, u = vw.alloc (Obj.cells #[.slice none 0 0, .int .i64 0, .int .i64 0, .int .i64 0, .bool false] 60) := ⟨_, rfl⟩
                rw [← hu, ← hY]
                have hb : Below vw.heap.size vw u := by rw [hu]; exact (Below.refl _ _).alloc (Nat.le_refl _) _
                have hk : u.heap[Y]? = some (.cells #[.slice none 0 0, .int .i64 0, .int .i64 0, .int .i64 0, .bool false] 60 (0, 0)) := by rw [hu, hY]; exact heap_alloc_new vw _
                have HYW : Hid (W21.heap.size ≤ Y) := Lib.hid (by rw [hY]; exact HB.out.size)
                have HZ := Lib.hid hk
                have HB := Lib.hid (below_at HB.out hb)
                (try have HC := Lib.hid (blk_stepW HC.out hb))
                (try have HA := Lib.hid (HA.out.below hb (Nat.le_refl _)))
                (try have HK := Lib.hid (HK.out.below hb (Nat.le_refl _)))
                clear hb hk hu hY
                rename World => vw
                refine pt_on (fun u h => h) (HSS.out _ HB.out) ?_
                refine pt_eff ?_
                have HR := Lib.hid (HORD.out vw HB.out)
                have HE := Lib.hid (row_empty (sz := 1) HC.out)
                go_wp2_with (at_builtin; refine wpList_append_copy (by rfl) _ _ _ (by rfl) 5 i8 _ 1 1 Tryz.underlying43 hi8 h80 h81 h82 rfl (by omega) ⟨E, 0, none⟩ 0 [] (by rfl) HE.out O2 nb oc2 (us.map fun (b : Nat) => Value.int .u8 (b : Int)) (by rfl) HR.out (by unfold maxLen; omega) (by omega) ?_; intro g7 o7 cap7 u hown hb hgz)
                rw [Nat.zero_add, List.nil_append] at hown
                have HA := Lib.hid hown.rd
                have HB := Lib.hid (below_at HB.out hb)
                (try have HZ := Lib.hid (blk_stepW HZ.out hb))
                clear hown hb hgz HR HE
                rename World => vw
                refine pt_on (fun u h => h) (HSS.out _ HB.out) ?_
                refine pt_eff ?_
                go_wp2_with fail
                refine (HEX.out _ HB.out _ _ HA.out).mono ?_
                rintro y u ⟨⟨KZ, kz, rfl, hrk⟩, hb⟩
                have HK := Lib.hid hrk
                have HB := Lib.hid (below_at HB.out hb)
                (try have HZ := Lib.hid (blk_stepW HZ.out hb))
                clear hrk hb
                rename World => vw
                go_wp2_with fail
                refine pt_on (fun u h => h) (HSS.out _ HB.out) ?_
                repeat (first
                  | (refine pt_pure (v := ?_) (by rfl) (fun w1 => ?_) ?_
                     rotate_left
                     · go_simp <;> with_reducible rfl
                     simp only [Act.put, List.setIfInBounds_toArray, List.set_cons_zero, List.set_cons_succ])
                  | (refine pt_off (by rfl) ?_
                     simp only [Act.put, List.setIfInBounds_toArray, List.set_cons_zero, List.set_cons_succ])
                  | (refine pt_load_off (by rfl) ?_
                     simp only [Act.put, List.setIfInBounds_toArray, List.set_cons_zero, List.set_cons_succ])
                  | (refine pt_load (v := ?_) (by rfl) (fun w1 hw1 => ?_) ?_
                     rotate_left
                     · (skip
                        clear hw1
                        go_simp <;> with_reducible rfl)
                     simp only [Act.put, List.setIfInBounds_toArray, List.set_cons_zero, List.set_cons_succ]))
                refine pt_eff ?_
                have e0 := cell_blk HZ.out 0
                have e1 := cell_blk HZ.out 1
                have e2 := cell_blk HZ.out 2
                have e3 := cell_blk HZ.out 3
                have e4 := cell_blk HZ.out 4
                simp only [List.getElem?_toArray, List.getElem?_cons_zero, List.getElem?_cons_succ] at e0 e1 e2 e3 e4
                have g0 := free_blk HZ.out 0
                have g1 := free_blk HZ.out 1
                have g2 := free_blk HZ.out 2
                have g3 := free_blk HZ.out 3
                have g4 := free_blk HZ.out 4
                have zl := blk_lt HZ.out
                obtain ⟨V2, hV2, hk2, hm2⟩ := rep_store HZ.out (.slice KZ nk kz) (.int .i64 (en2 : Int)) (.int .i64 (nk : Int)) (.int .i64 (eb2 : Int)) (.bool true)
                have HV2 := Lib.hid hV2
                have HREP := Lib.hid hk2
                have HRK := Lib.hid (rd_store HK.out HZ.out hm2)
                have HB := Lib.hid (HB.out.trans (hm2.below W21.heap.size HB.out.size (fun k hk e => by have := HYW.out; omega)))
                clear hV2 hk2 hm2
                go_wp2_with fail
                rw [← HV2.out]
                clear e0 e1 e2 e3 e4 g0 g1 g2 g3 g4 zl
                refine pt_on (fun u h => h) (HSS.out _ HB.out) ?_
                repeat (first
                  | (refine pt_pure (v := ?_) (by rfl) (fun w1 => ?_) ?_
                     rotate_left
                     · go_simp <;> with_reducible rfl
                     simp only [Act.put, List.setIfInBounds_toArray, List.set_cons_zero, List.set_cons_succ])
                  | (refine pt_off (by rfl) ?_
                     simp only [Act.put, List.setIfInBounds_toArray, List.set_cons_zero, List.set_cons_succ])
                  | (refine pt_load_off (by rfl) ?_
                     simp only [Act.put, List.setIfInBounds_toArray, List.set_cons_zero, List.set_cons_succ])
                  | (refine pt_load (v := ?_) (by rfl) (fun w1 hw1 => ?_) ?_
                     rotate_left
                     · (skip
                        clear hw1
                        go_simp <;> with_reducible rfl)
                     simp only [Act.put, List.setIfInBounds_toArray, List.set_cons_zero, List.set_cons_succ]))
                refine pt_end ?_
                go_wp2_with fail
                go_meet
                exact ⟨HB.out, _, _, _, rfl, rfl, HREP.out, HRK.out⟩
            · go_wp2_with fail
              obtain ⟨Y, hY⟩ : ∃ Z, Z = vw.heap.size := ⟨_, rfl⟩
              obtain ⟨u, hu⟩ : ∃ u, u = vw.alloc (Obj.cells #[.slice none 0 0, .int .i64 0, .int .i64 0, .int .i64 0, .bool false] 60) := ⟨_, rfl⟩
              rw [← hu, ← hY]
              have hb : Below vw.heap.size vw u := by rw [hu]; exact (Below.refl _ _).alloc (Nat.le_refl _) _
              have hk : u.heap[Y]? = some (.cells #[.slice none 0 0, .int .i64 0, .int .i64 0, .int .i64 0, .bool false] 60 (0, 0)) := by rw [hu, hY]; exact heap_alloc_new vw _
              have HYW : Hid (W21.heap.size ≤ Y) := Lib.hid (by rw [hY]; exact HB.out.size)
              have HZ := Lib.hid hk
              have HB := Lib.hid (below_at HB.out hb)
              (try have HC := Lib.hid (blk_stepW HC.out hb))
              (try have HA := Lib.hid (HA.out.below hb (Nat.le_refl _)))
              (try have HK := Lib.hid (HK.out.below hb (Nat.le_refl _)))
              clear hb hk hu hY
              rename World => vw
              refine pt_on (fun u h => h) (HSS.out _ HB.out) ?_
              refine pt_eff ?_
              go_wp2_with fail
              obtain ⟨E, hE⟩ : ∃ Z, Z = vw.heap.size := ⟨_, rfl⟩
              obtain ⟨u, hu⟩ : ∃ u, u = vw.alloc (Obj.cells #[] 5) := ⟨_, rfl⟩
              rw [← hu, ← hE]
              have hb : Below vw.heap.size vw u := by rw [hu]; exact (Below.refl _ _).alloc (Nat.le_refl _) _
              have hk : u.heap[E]? = some (.cells #[] 5 (0, 0)) := by rw [hu, hE]; exact heap_alloc_new vw _
              have HC := Lib.hid hk
              have HB := Lib.hid (below_at HB.out hb)
              (try have HZ := Lib.hid (blk_stepW HZ.out hb))
              clear hb hk hu hE
              rename World => vw
              refine pt_on (fun u h => h) (HSS.out _ HB.out) ?_
              refine pt_eff ?_
              have HR := Lib.hid (HORD.out vw HB.out)
              have HE := Lib.hid (row_empty (sz := 1) HC.out)
              go_wp2_with (at_builtin; refine wpList_append_copy (by rfl) _ _ _ (by rfl) 5 i8 _ 1 1 Tryz.underlying43 hi8 h80 h81 h82 rfl (by omega) ⟨E, 0, none⟩ 0 [] (by rfl) HE.out O2 nb oc2 (us.map fun (b : Nat) => Value.int .u8 (b : Int)) (by rfl) HR.out (by unfold maxLen; omega) (by omega) ?_; intro g7 o7 cap7 u hown hb hgz)
              rw [Nat.zero_add, List.nil_append] at hown
              have HA := Lib.hid hown.rd
              have HB := Lib.hid (below_at HB.out hb)
              (try have HZ := Lib.hid (blk_stepW HZ.out hb))
              clear hown hb hgz HR HE
              rename World => vw
              refine pt_on (fun u h => h) (HSS.out _ HB.out) ?_
              refine pt_eff ?_
              go_wp2_with fail
              refine (HEX.out _ HB.out _ _ HA.out).mono ?_
              rintro y u ⟨⟨KZ, kz, rfl, hrk⟩, hb⟩
              have HK := Lib.hid hrk
              have HB := Lib.hid (below_at HB.out hb)
              (try have HZ := Lib.hid (blk_stepW HZ.out hb))
              clear hrk hb
              rename World => vw
              go_wp2_with fail
              refine pt_on (fun u h => h) (HSS.out _ HB.out) ?_
              repeat (first
                | (refine pt_pure (v := ?_) (by rfl) (fun w1 => ?_) ?_
                   rotate_left
                   · go_simp <;> with_reducible rfl
                   simp only [Act.put, List.setIfInBounds_toArray, List.set_cons_zero, List.set_cons_succ])
                | (refine pt_off (by rfl) ?_
                   simp only [Act.put, List.setIfInBounds_toArray, List.set_cons_zero, List.set_cons_succ])
                | (refine pt_load_off (by rfl) ?_
                   simp only [Act.put, List.setIfInBounds_toArray, List.set_cons_zero, List.set_cons_succ])
                | (refine pt_load (v := ?_) (by rfl) (fun w1 hw1 => ?_) ?_
                   rotate_left
                   · (skip
                      clear hw1
                      go_simp <;> with_reducible rfl)
                   simp only [Act.put, List.setIfInBounds_toArray, List.set_cons_zero, List.set_cons_succ]))
              refine pt_eff ?_
              have e0 := cell_blk HZ.out 0
              have e1 := cell_blk HZ.out 1
              have e2 := cell_blk HZ.out 2
              have e3 := cell_blk HZ.out 3
              have e4 := cell_blk HZ.out 4
              simp only [List.getElem?_toArray, List.getElem?_cons_zero, List.getElem?_cons_succ] at e0 e1 e2 e3 e4
              have g0 := free_blk HZ.out 0
              have g1 := free_blk HZ.out 1
              have g2 := free_blk HZ.out 2
              have g3 := free_blk HZ.out 3
              have g4 := free_blk HZ.out 4
              have zl := blk_lt HZ.out
              obtain ⟨V2, hV2, hk2, hm2⟩ := rep_store HZ.out (.slice KZ nk kz) (.int .i64 (en2 : Int)) (.int .i64 (nk : Int)) (.int .i64 (eb2 : Int)) (.bool true)
              have HV2 := Lib.hid hV2
              have HREP := Lib.hid hk2
              have HRK := Lib.hid (rd_store HK.out HZ.out hm2)
              have HB := Lib.hid (HB.out.trans (hm2.below W21.heap.size HB.out.size (fun k hk e => by have := HYW.out; omega)))
              clear hV2 hk2 hm2
              go_wp2_with fail
              rw [← HV2.out]
              clear e0 e1 e2 e3 e4 g0 g1 g2 g3 g4 zl
              refine pt_on (fun u h => h) (HSS.out _ HB.out) ?_
              repeat (first
                | (refine pt_pure (v := ?_) (by rfl) (fun w1 => ?_) ?_
                   rotate_left
                   · go_simp <;> with_reducible rfl
                   simp only [Act.put, List.setIfInBounds_toArray, List.set_cons_zero, List.set_cons_succ])
                | (refine pt_off (by rfl) ?_
                   simp only [Act.put, List.setIfInBounds_toArray, List.set_cons_zero, List.set_cons_succ])
                | (refine pt_load_off (by rfl) ?_
                   simp only [Act.put, List.setIfInBounds_toArray, List.set_cons_zero, List.set_cons_succ])
                | (refine pt_load (v := ?_) (by rfl) (fun w1 hw1 => ?_) ?_
                   rotate_left
                   · (skip
                      clear hw1
                      go_simp <;> with_reducible rfl)
                   simp only [Act.put, List.setIfInBounds_toArray, List.set_cons_zero, List.set_cons_succ]))
              refine pt_end ?_
              go_wp2_with fail
              go_meet
              exact ⟨HB.out, _, _, _, rfl, rfl, HREP.out, HRK.out⟩
          case rest =>
            obtain ⟨bz, Y2, K2, kc2, rfl, rfl, hrep2, _⟩ := hcut
            have hp1 := blk_stepW HREP1.out bz
            have a0 : wc.cell? ⟨Y1, 0, none⟩ = some (.slice K1 nk kc1) := cell_blk hp1 0
            have a2 : wc.cell? ⟨Y1, 2, none⟩ = some (.int .i64 (nk : Int)) := cell_blk hp1 2
            have a4 : wc.cell? ⟨Y1, 4, none⟩ = some (.bool true) := cell_blk hp1 4
            have al := blk_lt hp1
            have b0 : wc.cell? ⟨Y2, 0, none⟩ = some (.slice K2 nk kc2) := cell_blk hrep2 0
            have b2 : wc.cell? ⟨Y2, 2, none⟩ = some (.int .i64 (nk : Int)) := cell_blk hrep2 2
            have b4 : wc.cell? ⟨Y2, 4, none⟩ = some (.bool true) := cell_blk hrep2 4
            have bl := blk_lt hrep2
            have HBF := Lib.hid (below_at HBR.out (below_at HBZ1.out bz))
            clear hp1 hrep2 bz HSS HORD HEX HREP1
            go_wp2_with fail
            go_ret
            exact ⟨by first | rfl | simp, below_at HB.out HBF.out⟩
open Go.ChangeShapes Go.WideShapes Go.ChangeAt
set_option maxRecDepth 100000 in
theorem SeqTurned_walk {H : Type} {enc : TypeId × Value → H} (W : World) {base : Nat} {v0 v1 v2 v3 : Value} {d0 d1 d2 d3 : DataW H} {p0 p1 p2 p3 : List MemPlace}
    (o0 : Value.okWide Tryz.prog W .any base 24 v0) (h0 : DataW.Trod enc Tryz.prog W 0 (fun _ => true) true 24 v0 d0 p0)
    (o1 : Value.okWide Tryz.prog W .any base 3 v1) (h1 : DataW.Trod enc Tryz.prog W 0 (fun _ => true) true 3 v1 d1 p1)
    (o2 : Value.okWide Tryz.prog W .any base 43 v2) (h2 : DataW.Trod enc Tryz.prog W 0 (fun _ => true) true 43 v2 d2 p2)
    (o3 : Value.okWide Tryz.prog W .any base 43 v3) (h3 : DataW.Trod enc Tryz.prog W 0 (fun _ => true) true 43 v3 d3 p3) (hz : (DataW.weightsEach Tryz.prog [24, 3, 43, 43] [d0, d1, d2, d3]).all (· ≤ reachBytes) = true) :
    Calls Tryz.prog 9 #[v0, v1, v2, v3] W fun e w' => e = .returned (.bool true) ∧ Below W.heap.size W w' := by
  obtain ⟨p, A, cap, rfl, hin⟩ := prog_arg o0 h0
  obtain ⟨f, rfl, rfl, rfl, _⟩ := open_int Tryz.underlying3 o1 h1
  obtain ⟨ts, B, cap2, rfl, hr, hl, hg⟩ := u8s_arg o2 h2
  obtain ⟨us, C, cap3, rfl, hr2, hl2, hg2⟩ := u8s_arg o3 h3
  obtain ⟨z0, hz⟩ := weights_split hz
  obtain ⟨z1, hz⟩ := weights_split hz
  obtain ⟨z2, hz⟩ := weights_split hz
  obtain ⟨z3, _⟩ := weights_split hz
  exact seqTurned_any W p A cap f B cap2 ts C cap3 us hin hr hg hr2 hg2 (u8s_size h2 z2) (u8s_size h3 z3)
end Go.Proofs.YtckdofjpoajblaaGreat
