/- Clocks: clock.Same: plain laws and the walk. -/
import Derived.Test.YtgahjibjladafaaCkC
namespace Go.Proofs.Ytgahjibjladafaa
open Go.RowKit
set_option linter.unusedVariables false

namespace Fo
def kyE (p : Ent) : Int × Int := (p.e.t, (p.num : Int))
def mapOf (val : Ent → Value) (S : List Ent) (i : Nat) : List ((Int × Int) × Value) := (S.take i).map fun p => (kyE p, val p)
theorem mapOf_get {val : Ent → Value} : ∀ {S : List Ent}, S.Pairwise (fun p q => kyE p ≠ kyE q) → ∀ q ∈ S, mget (S.map fun p => (kyE p, val p)) (kyE q) = some (val q)
  | [], _, q, h => by cases h
  | p :: S, hd, q, h => by
    rw [List.map_cons]
    simp only [mget]
    obtain ⟨h1, h2⟩ := List.pairwise_cons.1 hd
    rcases List.mem_cons.1 h with rfl | h
    · rw [if_pos rfl]
    · rw [if_neg (fun e => h1 q h e.symm)]; exact mapOf_get h2 q h
theorem mapOf_none {val : Ent → Value} {S : List Ent} {k : Int × Int} (h : ∀ q ∈ S, kyE q ≠ k) : mget (S.map fun p => (kyE p, val p)) k = none := by
  rw [mget_none]
  intro hm
  rw [List.map_map] at hm
  obtain ⟨q, hq, e⟩ := List.mem_map.1 hm
  exact h q hq e
theorem mapOf_new {val : Ent → Value} {S : List Ent} (hd : S.Pairwise (fun p q => kyE p ≠ kyE q)) {i : Nat} {p : Ent} (h : S[i]? = some p) : mget (mapOf val S i) (kyE p) = none := by
  obtain ⟨hi, rfl⟩ := List.getElem?_eq_some_iff.1 h
  refine mapOf_none fun q hq => ?_
  obtain ⟨j, hj, rfl⟩ := List.mem_iff_getElem.1 hq
  rw [List.length_take] at hj
  rw [List.getElem_take]
  exact List.pairwise_iff_getElem.1 hd j i (by omega) hi (by omega)
theorem mapOf_step {val : Ent → Value} {S : List Ent} (hd : S.Pairwise (fun p q => kyE p ≠ kyE q)) {i : Nat} {p : Ent} (h : S[i]? = some p) : mput (mapOf val S i) (kyE p) (val p) = mapOf val S (i + 1) := by
  rw [mput_new _ _ _ (mapOf_new hd h)]
  unfold mapOf
  rw [List.take_add_one, h, List.map_append]
  rfl
theorem ky_apart {l : List Ev} (hr : rights l = true) : (cl l).Pairwise (fun p q => kyE p ≠ kyE q) :=
  (clkOk l (fun e he => (right_thr (List.all_eq_true.1 hr e he)).1)).one.imp fun {p q} h e => h ⟨congrArg Prod.fst e, by have := congrArg Prod.snd e; unfold kyE at this; simp only at this; omega⟩
theorem cl_far {l : List Ev} (hr : rights l = true) {p : Ent} (hp : p ∈ cl l) {t : Nat} (ht : 4 ≤ t) : p.c t = 0 := by
  have h := (clkOk l (fun e he => (right_thr (List.all_eq_true.1 hr e he)).1)).le p hp t
  have h0 : cnt_ l t = 0 := by
    unfold cnt_
    rw [List.length_eq_zero_iff, List.filter_eq_nil_iff]
    intro e he
    have := right_thr (List.all_eq_true.1 hr e he)
    simp; omega
  omega
/-- what is found of one of a's among b's -/
theorem found {a b : List Ev} (ha : rights a = true) (hb : rights b = true) {p : Ent} (hp : p ∈ cl a) : ∃ (e' : Ev) (c' : Nat → Nat), (mget (mapOf (fun p => valE p.e) (cl b) b.length) (kyE p)).getD (.agg #[.int .i64 0, .int .i64 0, .int .i64 0, .bool false]) = valE e' ∧
    (mget (mapOf (fun p => arV p.c) (cl b) b.length) (kyE p)).getD (.agg #[.int .i64 0, .int .i64 0, .int .i64 0, .int .i64 0]) = arV c' ∧ ((e' = p.e ∧ arB c' p.c = true) ↔ p ∈ cl b) := by
  have hpe : right p.e = true := List.all_eq_true.1 ha p.e (by have h9 : p.e ∈ (cl a).map Ent.e := List.mem_map.2 ⟨p, hp, rfl⟩; rwa [cl_ev] at h9)
  have htk : (cl b).take b.length = cl b := List.take_of_length_le (by rw [cl_len]; exact Nat.le_refl _)
  unfold mapOf
  rw [htk]
  by_cases h : ∃ q ∈ cl b, kyE q = kyE p
  · obtain ⟨q, hq, hk⟩ := h
    refine ⟨q.e, q.c, by rw [← hk, mapOf_get (ky_apart hb) q hq]; rfl, by rw [← hk, mapOf_get (ky_apart hb) q hq]; rfl, fun ⟨h1, h2⟩ => ?_, fun h => ?_⟩
    · have : q = p := by
        obtain ⟨qe, qc⟩ := q
        obtain ⟨pe, pc⟩ := p
        simp only at h1
        subst h1
        congr 1
        funext t
        by_cases ht : t < 4
        · simp only [arB, decide_eq_true_eq] at h2
          obtain ⟨e0, e1, e2, e3⟩ := h2
          rcases (show t = 0 ∨ t = 1 ∨ t = 2 ∨ t = 3 by omega) with rfl | rfl | rfl | rfl <;> assumption
        · exact (cl_far hb hq (by omega) : qc t = 0).trans (cl_far ha hp (by omega) : pc t = 0).symm
      rwa [← this]
    · have : p = q := cl_one (fun e he => (right_thr (List.all_eq_true.1 hb e he)).1) h hq ⟨(congrArg Prod.fst hk).symm, by have := congrArg Prod.snd hk; unfold kyE at this; simp only at this; omega⟩
      subst this
      exact ⟨rfl, by simp [arB]⟩
  · refine ⟨⟨0, 0, 0, false⟩, fun _ => 0, by rw [mapOf_none (fun q hq e => h ⟨q, hq, e⟩)]; rfl, by rw [mapOf_none (fun q hq e => h ⟨q, hq, e⟩)]; rfl, fun ⟨h1, _⟩ => ?_, fun hm => absurd ⟨p, hm, rfl⟩ h⟩
    have := (right_spec hpe).2.2.1
    rw [← h1] at this
    simp at this
theorem same_rows {a b : List Ev} (ha : rights a = true) (hb : rights b = true) : lev a = lev b ↔ a.length = b.length ∧ ∀ p ∈ cl a, p ∈ cl b :=
  (sameC_iff (fun e he => (right_thr (List.all_eq_true.1 ha e he)).1) (fun e he => (right_thr (List.all_eq_true.1 hb e he)).1)).symm
end Fo
end Go.Proofs.Ytgahjibjladafaa
