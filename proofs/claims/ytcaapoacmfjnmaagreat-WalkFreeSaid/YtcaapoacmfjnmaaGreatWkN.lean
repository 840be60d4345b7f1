/- Plain law: two threads of local instructions; programs that take no mutex. -/
import Derived.Test.YtcaapoacmfjnmaaGreatWkJ
import Derived.Test.YtcaapoacmfjnmaaGreatWtT
namespace Go.Proofs.YtcaapoacmfjnmaaGreat
open Go.RowKit
set_option linter.unusedVariables false

namespace Fr6
def pg (a b : Nat) : Pg := ⟨0, 0, [List.replicate a loc, List.replicate b loc]⟩
/-- runs, as the statement reckons them -/
def rn (a : Nat) : Nat → Nat
  | 0 => 1
  | i + 1 => rn a i * (a + i + 1) / (i + 1)
def ok (a b : Nat) : Bool := let r := Pr.all6 (pg a b) 8 600; (r.2 == 0) && (r.1.2.keys.length == 1) && (r.1.2.runs == rn a b)
theorem all_ok : ((List.range 5).all fun a => (List.range 5).all fun b => ok a b) = true := by kernel_rfl
theorem rn_all : ((List.range 5).all fun a => (List.range 5).all fun b => decide (rn a b ≤ 1000)) = true := by kernel_rfl
theorem ok_at {a b : Nat} (ha : a < 5) (hb : b < 5) : (Pr.all6 (pg a b) 8 600).2 = 0 ∧ (Pr.all6 (pg a b) 8 600).1.2.keys.length = 1 ∧ (Pr.all6 (pg a b) 8 600).1.2.runs = rn a b := by
  have h := List.all_eq_true.1 (List.all_eq_true.1 all_ok a (List.mem_range.2 ha)) b (List.mem_range.2 hb)
  unfold ok at h
  simpa [and_assoc] using h
theorem rn_at {a b : Nat} (ha : a < 5) (hb : b < 5) : rn a b ≤ 1000 := by
  have h := List.all_eq_true.1 (List.all_eq_true.1 rn_all a (List.mem_range.2 ha)) b (List.mem_range.2 hb)
  simpa using h
end Fr6
namespace Pr
theorem ex_p {s s' : St} {l : List Ev} (h : Ex s l s') (hw : Wf s) : s'.p = s.p := by
  induction h with
  | nil s => rfl
  | cons t e _ _ _ ih => rw [ih (stepS_wf t hw).1, (stepS_wf t hw).2.1]
theorem no_wait {s : St} (hl : ∀ q ∈ s.p.code, ∀ i ∈ q, i.k ≠ 5) (ha : all s = []) : waits s = false := by
  unfold waits
  rw [List.any_eq_false]
  intro t ht hn
  unfold next at hn
  cases hi : ins s t with
  | none => rw [hi] at hn; cases hn
  | some i =>
    have hk : i.k ≠ 5 := by
      unfold ins at hi
      split at hi
      · rename_i x c hx hc
        split at hi
        · cases hi
        · exact hl c (List.mem_of_getElem? hc) i (List.mem_of_getElem? hi)
      · cases hi
    have := all_iff.2 (en_other hi hk)
    rw [ha] at this
    cases this
theorem free_stuck {p : Pg} {m : Nat} (h : Ok p) (hm : m ≤ 8) (hl : ∀ q ∈ p.code, ∀ i ∈ q, i.k ≠ 5) : (sumOf (ends 32 (start p m) [])).stuck = 0 := by
  rw [sumOf_eq]
  simp only
  rw [List.length_eq_zero_iff, List.filter_eq_nil_iff]
  rintro ⟨s, l⟩ hin
  have hw := start_wf h hm
  obtain ⟨l', _, hex, ha⟩ := (mem_ends 32 _ [] hw (fuels_start h hm) s l).1 hin
  have hp := ex_p hex hw
  rw [no_wait (by rw [hp]; exact hl) ha]
  simp
end Pr
end Go.Proofs.YtcaapoacmfjnmaaGreat
