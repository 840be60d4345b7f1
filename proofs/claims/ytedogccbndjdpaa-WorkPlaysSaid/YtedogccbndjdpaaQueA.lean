/- Queues, first part: the order of prefixes, cmp.Compare, cmp.Or, compare. -/
import Derived.Test.YtedogccbndjdpaaRows
import Derived.Test.YtedogccbndjdpaaMap
import Derived.Test.YtedogccbndjdpaaPlan
import Derived.Test.YtedogccbndjdpaaHeap
import Derived.Outline
import Derived.Lib.Hide
namespace Go.Proofs.Ytedogccbndjdpaa
open Go.RowKit
set_option linter.unusedVariables false

theorem bl_irr : ∀ l : List UInt8, Op.bytesLess l l = false
  | [] => rfl
  | a :: l => by simp [Op.bytesLess, bl_irr l]
theorem bl_tr : ∀ a b c : List UInt8, Op.bytesLess a b = true → Op.bytesLess b c = true → Op.bytesLess a c = true
  | [], [], _, h, _ => by simp [Op.bytesLess] at h
  | [], _ :: _, [], _, h => by simp [Op.bytesLess] at h
  | [], _ :: _, _ :: _, _, _ => rfl
  | _ :: _, [], _, h, _ => by simp [Op.bytesLess] at h
  | _ :: _, _ :: _, [], _, h => by simp [Op.bytesLess] at h
  | a :: x, b :: y, c :: z, h1, h2 => by
    simp only [Op.bytesLess, Bool.or_eq_true, Bool.and_eq_true, decide_eq_true_eq, beq_iff_eq] at h1 h2 ⊢
    rcases h1 with h1 | ⟨h1, h1'⟩
    · rcases h2 with h2 | ⟨h2, h2'⟩
      · exact .inl (UInt8.lt_trans h1 h2)
      · subst h2; exact .inl h1
    · subst h1
      rcases h2 with h2 | ⟨h2, h2'⟩
      · exact .inl h2
      · exact .inr ⟨h2, bl_tr x y z h1' h2'⟩
theorem bl_tri : ∀ a b : List UInt8, Op.bytesLess a b = false → Op.bytesLess b a = false → a = b
  | [], [], _, _ => rfl
  | [], _ :: _, h, _ => by simp [Op.bytesLess] at h
  | _ :: _, [], _, h => by simp [Op.bytesLess] at h
  | a :: x, b :: y, h1, h2 => by
    simp only [Op.bytesLess, Bool.or_eq_false_iff, decide_eq_false_iff_not, Bool.and_eq_false_iff, beq_eq_false_iff_ne] at h1 h2
    have hab : a = b := by
      have := UInt8.not_lt.1 h1.1
      have := UInt8.not_lt.1 h2.1
      exact UInt8.le_antisymm ‹_› ‹_›
    subst hab
    rw [bl_tri x y (by rcases h1.2 with h | h; exact absurd rfl h; exact h) (by rcases h2.2 with h | h; exact absurd rfl h; exact h)]

/-- a stands ahead of b: it is longer, or as long and its bytes come first -/
def ahead (a b : ByteArray) : Bool := decide (b.size < a.size) || (decide (a.size = b.size) && Op.bytesLess a.toList b.toList)
theorem ahead_tot : Hp.Tot ahead where
  irr := fun a => by simp [ahead, bl_irr]
  tr := fun a b c h1 h2 => by
    simp only [ahead, Bool.or_eq_true, Bool.and_eq_true, decide_eq_true_eq] at h1 h2 ⊢
    rcases h1 with h1 | ⟨h1, h1'⟩
    · rcases h2 with h2 | ⟨h2, h2'⟩
      · left; omega
      · left; omega
    · rcases h2 with h2 | ⟨h2, h2'⟩
      · left; omega
      · exact .inr ⟨by omega, bl_tr _ _ _ h1' h2'⟩
  tri := fun a b h1 h2 => by
    simp only [ahead, Bool.or_eq_false_iff, decide_eq_false_iff_not, Bool.and_eq_false_iff] at h1 h2
    have hs : a.size = b.size := by omega
    refine ba_ext (bl_tri _ _ ?_ ?_)
    · rcases h1.2 with h | h
      · exact absurd hs h
      · exact h
    · rcases h2.2 with h | h
      · exact absurd hs.symm h
      · exact h

def cmpI (x y : Int) : Int := if x < y then -1 else if y < x then 1 else 0
def cmpS (x y : ByteArray) : Int := if Op.bytesLess x.toList y.toList then -1 else if Op.bytesLess y.toList x.toList then 1 else 0
def cmpV (a b : ByteArray) : Int := if cmpI b.size a.size ≠ 0 then cmpI b.size a.size else cmpS a b
theorem cmpV_neg (a b : ByteArray) : decide (cmpV a b < 0) = ahead a b := by
  unfold cmpV cmpI cmpS ahead
  by_cases h1 : b.size < a.size
  · simp [h1]
  · by_cases h2 : a.size < b.size
    · have h3 : ¬ a.size = b.size := by omega
      simp [h1, h2, h3]
    · have h3 : a.size = b.size := by omega
      cases h4 : Op.bytesLess a.toList b.toList <;> cases h5 : Op.bytesLess b.toList a.toList <;> simp [h3]
theorem cmpV_pos (a b : ByteArray) : decide (0 < cmpV a b) = ahead b a := by
  unfold cmpV cmpI cmpS ahead
  by_cases h1 : b.size < a.size
  · have h3 : ¬ b.size = a.size := by omega
    have h4 : ¬ a.size < b.size := by omega
    simp [h1, h3, h4]
  · by_cases h2 : a.size < b.size
    · simp [h1, h2]
    · have h3 : b.size = a.size := by omega
      cases h4 : Op.bytesLess a.toList b.toList <;> cases h5 : Op.bytesLess b.toList a.toList <;> simp [h3]
      have := bl_tr _ _ _ h4 h5
      rw [bl_irr] at this
      cases this

theorem bl_gtr (a b : ByteArray) : (!(Op.bytesLess a.toList b.toList || a.toList == b.toList)) = Op.bytesLess b.toList a.toList := by
  cases h1 : Op.bytesLess a.toList b.toList with
  | true =>
    cases h2 : Op.bytesLess b.toList a.toList with
    | false => rfl
    | true => have := bl_tr _ _ _ h1 h2; rw [bl_irr] at this; cases this
  | false =>
    rw [ba_tl]
    cases h2 : Op.bytesLess b.toList a.toList with
    | true =>
      have : a ≠ b := fun e => by subst e; rw [bl_irr] at h2; cases h2
      simp [this]
    | false =>
      have := ba_ext (bl_tri _ _ h1 h2)
      simp [this]
theorem str_gtr (t : TypeId) (a b : ByteArray) : binOp .gtr t (.string a) (.string b) = pure (.bool (Op.bytesLess b.toList a.toList)) := by
  rw [← bl_gtr]; simp [binOp, Op.stringOp]

theorem cmpInt_any (w : World) (x y : Int) : Calls Try.prog 52 #[.int .i64 x, .int .i64 y] w fun e w' => e = .returned (.int .i64 (cmpI x y)) ∧ w = w' := by
  have hn : ∀ z w, Calls Try.prog 54 #[.int .i64 z] w fun e w' => e = .returned (.bool false) ∧ w = w' := by
    intro z w
    go_enter Try.func54, Try.ntmps54
    go_wp2
    go_ret
    simp
  unfold cmpI
  by_cases h1 : x < y
  · rw [if_pos h1]
    go_enter Try.func52, Try.ntmps52
    go_wp2_with (go_at_call 54; refine (hn _ _).mono ?_; rintro e w' ⟨rfl, rfl⟩)
    go_ret
    exact ⟨rfl, rfl⟩
  · rw [if_neg h1]
    by_cases h2 : y < x
    · rw [if_pos h2]
      go_enter Try.func52, Try.ntmps52
      go_wp2_with (go_at_call 54; refine (hn _ _).mono ?_; rintro e w' ⟨rfl, rfl⟩)
      go_ret
      exact ⟨rfl, rfl⟩
    · rw [if_neg h2]
      go_enter Try.func52, Try.ntmps52
      go_wp2_with (go_at_call 54; refine (hn _ _).mono ?_; rintro e w' ⟨rfl, rfl⟩)
      go_ret
      exact ⟨rfl, rfl⟩

theorem cmpStr_any (w : World) (x y : ByteArray) : Calls Try.prog 53 #[.string x, .string y] w fun e w' => e = .returned (.int .i64 (cmpS x y)) ∧ w = w' := by
  have hn : ∀ z w, Calls Try.prog 55 #[.string z] w fun e w' => e = .returned (.bool false) ∧ w = w' := by
    intro z w
    go_enter Try.func55, Try.ntmps55
    go_wp2
    go_ret
    simp
  have hg := str_gtr
  unfold cmpS
  cases h1 : Op.bytesLess x.toList y.toList with
  | true =>
    go_enter Try.func53, Try.ntmps53
    go_wp2_with (go_at_call 55; refine (hn _ _).mono ?_; rintro e w' ⟨rfl, rfl⟩)
    go_ret
    exact ⟨rfl, rfl⟩
  | false =>
    cases h2 : Op.bytesLess y.toList x.toList with
    | true =>
      go_enter Try.func53, Try.ntmps53
      go_wp2_with (go_at_call 55; refine (hn _ _).mono ?_; rintro e w' ⟨rfl, rfl⟩)
      go_ret
      exact ⟨rfl, rfl⟩
    | false =>
      go_enter Try.func53, Try.ntmps53
      go_wp2_with (go_at_call 55; refine (hn _ _).mono ?_; rintro e w' ⟨rfl, rfl⟩)
      go_ret
      exact ⟨rfl, rfl⟩

theorem cmpOr_any (w : World) (g : Nat) (u v : Int) (h0 : w.cell? ⟨g, 0, none⟩ = some (.int .i64 u)) (h1 : w.cell? ⟨g, 1, none⟩ = some (.int .i64 v)) :
    Calls Try.prog 51 #[.slice (some ⟨g, 0, none⟩) 2 2] w fun e w' => e = .returned (.int .i64 (if u ≠ 0 then u else v)) ∧ w = w' := by
  by_cases hu : u = 0
  · subst hu
    by_cases hv : v = 0
    · subst hv
      go_enter Try.func51, Try.ntmps51
      go_wp2
      refine wp_loop_rounds 3 ?_
      rw [rounds_succ]
      go_wp2
      rw [rounds_succ]
      go_wp2
      rw [rounds_succ]
      go_wp2
      go_ret
      exact ⟨rfl, rfl⟩
    · have hv' : (v == 0) = false := by simpa using hv
      go_enter Try.func51, Try.ntmps51
      go_wp2
      refine wp_loop_rounds 3 ?_
      rw [rounds_succ]
      go_wp2
      rw [rounds_succ]
      go_wp2
      go_ret
      exact ⟨rfl, rfl⟩
  · have hu' : (u == 0) = false := by simpa using hu
    rw [if_pos hu]
    go_enter Try.func51, Try.ntmps51
    go_wp2
    refine wp_loop_rounds 3 ?_
    rw [rounds_succ]
    go_wp2
    go_ret
    exact ⟨rfl, rfl⟩

theorem compare_any (w : World) (a b : ByteArray) : Calls Try.prog 49 #[.string a, .string b] w fun e w' => e = .returned (.int .i64 (cmpV a b)) ∧ Below w.heap.size w w' := by
  go_enter Try.func49, Try.ntmps49
  go_wp2_with fail
  refine (cmpInt_any _ _ _).mono ?_
  rintro e w' ⟨rfl, rfl⟩
  go_wp2_with fail
  refine (cmpStr_any _ _ _).mono ?_
  rintro e w' ⟨rfl, rfl⟩
  go_wp2_with fail
  have hb := heap_alloc_new w (.cells #[.int .i64 (cmpI b.size a.size), .int .i64 (cmpS a b)] 3)
  refine (cmpOr_any _ _ (cmpI b.size a.size) (cmpS a b) (by rw [cell_blk hb]; rfl) (by rw [cell_blk hb]; rfl)).mono ?_
  rintro e w' ⟨he, rfl⟩
  rw [show (if cmpI b.size a.size ≠ 0 then cmpI b.size a.size else cmpS a b) = cmpV a b from rfl] at he
  subst he
  clear hb
  go_wp2_with fail
  go_ret
  exact ⟨rfl, (Below.refl _ _).alloc (Nat.le_refl _) _⟩
end Go.Proofs.Ytedogccbndjdpaa
