/- All who may step. -/
import Derived.Test.YtgahjibjladafaaStI
import Derived.Test.YtgahjibjladafaaFoEv
namespace Go.Proofs.Ytgahjibjladafaa
open Go.RowKit
set_option linter.unusedVariables false

theorem Try.infoInt : (Try.prog.info? 3).map (fun i => (i.zero, i.size, i.bytes)) = some (some (.int .i64 0), 1, 8) := by kernel_rfl
def iv (n : Int) : Value := .int .i64 n
/-- a row of whole numbers that was made -/
def IntsAt (w w' : World) (A : Option Addr) (cap : Nat) (l : List Int) : Prop := Row w' 3 1 A l.length cap (l.map iv) ∧ ∀ a, A = some a → w.heap.size ≤ a.block
def allI (s : St) (k : Nat) : List Int := ((List.range k).filter (Pr.enabled s)).map (fun (t : Nat) => (t : Int))
theorem allI_step (s : St) (k : Nat) : allI s (k + 1) = if Pr.enabled s k = true then allI s k ++ [(k : Int)] else allI s k := by
  unfold allI
  rw [List.range_succ, List.filter_append]
  by_cases h : Pr.enabled s k = true <;> simp [h]
theorem allI_len (s : St) (k : Nat) : (allI s k).length ≤ k := by
  unfold allI
  rw [List.length_map]
  exact Nat.le_trans (List.length_filter_le _ _) (by simp)
set_option maxRecDepth 100000 in
set_option maxHeartbeats 2000000 in
theorem all_any (w : World) (C : Nat → Prop) (S T : Nat) (s : St) (h : SAt w C S T s) (hw : Pr.Wf s) :
    Calls Try.prog 32 #[.pointer (some ⟨S, 0, none⟩)] w fun x w' => ∃ A cap, x = .returned (.slice A ((Pr.all s).map (fun (t : Nat) => (t : Int))).length cap) ∧ IntsAt w w' A cap ((Pr.all s).map (fun (t : Nat) => (t : Int))) ∧ Below w.heap.size w w' := by
  have hthr := threads_any w C S T s h
  have hen : ∀ u t, Below w.heap.size w u → t < s.th.length → Calls Try.prog 78 #[.pointer (some ⟨S, 0, none⟩), .int .i64 (t : Int)] u fun x w' => x = .returned (.bool (Pr.enabled s t)) ∧ Below u.heap.size u w' := fun u t hu ht => enabled_any u C S T s t (h.below hu) hw ht
  have hn4 := hw.n4
  have hall : (Pr.all s).map (fun (t : Nat) => (t : Int)) = allI s s.th.length := rfl
  rw [hall]
  obtain ⟨n, hn⟩ : ∃ n, n = s.th.length := ⟨_, rfl⟩
  rw [← hn] at hthr hen hn4 ⊢
  obtain ⟨i0, hi0, hz0, hz1, hz2⟩ := info_parts Try.infoInt
  have HTHR := Lib.hid hthr
  have HEN := Lib.hid hen
  clear hthr hen h hw hall hn
  go_enter Try.func32, Try.ntmps32
  go_wp2_with fail
  refine HTHR.out.mono ?_
  rintro x w' ⟨rfl, rfl⟩
  go_wp2_with fail
  go_loopw [2, 6] (fun r v wr => ∃ (k : Nat) (A : Option Addr) (cap len : Nat), k ≤ n ∧ v = .int .i64 k ∧ r = .slice A len cap ∧ len ≤ k ∧ Hid (len = (allI s k).length) ∧ Hid (IntsAt w wr A cap (allI s k)) ∧ Hid (Below w.heap.size w wr)) (fun _ v _ => n - (intOf v).toNat)
  case atStart => exact ⟨0, none, 0, 0, Nat.zero_le _, rfl, rfl, Nat.le_refl _, Lib.hid rfl, Lib.hid ⟨Row.nil _ _ _, fun a h => by cases h⟩, Lib.hid (Below.refl _ _)⟩
  case round =>
    obtain ⟨k, A, cap, len, hk, rfl, rfl, hlk, HLEN, HA, HB⟩ := hrel
    by_cases hlt : k < n
    · have hcall := HEN.out wr k HB.out hlt
      have hstep := allI_step s k
      obtain ⟨b, hb⟩ : ∃ b, b = Pr.enabled s k := ⟨_, rfl⟩
      rw [← hb] at hcall hstep
      have k1 : (0 : Int) ≤ (k : Int) := Int.natCast_nonneg _
      have k2 : (k : Int) < (n : Int) := by omega
      have HCALL := Lib.hid hcall
      have HSTEP := Lib.hid hstep
      clear hcall hstep hb
      go_wp2_with fail
      refine HCALL.out.mono ?_
      rintro x w1 ⟨rfl, b1⟩
      have HB1 := Lib.hid (below_at HB.out b1)
      have hr1 : Row w1 3 1 A len cap ((allI s k).map iv) := by
        have := row_stepS HA.out.1 b1
        rw [← HLEN.out] at this
        exact this
      have HR1 := Lib.hid hr1
      clear b1 hr1
      cases b with
      | false =>
        go_wp2_with fail
        go_roundw
        case rel => exact ⟨k + 1, A, cap, len, by omega, by go_num, rfl, by omega, Lib.hid (by rw [HSTEP.out]; exact HLEN.out), Lib.hid ⟨by rw [HSTEP.out]; have := HR1.out; rw [HLEN.out] at this; exact this, HA.out.2⟩, HB1⟩
        case measure => simp [intOf]; omega
      | true =>
        go_wp2_with (at_builtin; refine wpList_append_row (by rfl) _ _ _ (by rfl) 3 i0 _ 1 8 Try.underlying52 hi0 hz0 hz1 hz2 rfl (by omega) A len cap ((allI s k).map iv) (by rfl) (HR1.out.alloc _) ⟨w1.heap.size, 0, none⟩ 1 1 [.int .i64 (k : Int)] (by rfl) (by rfl) (World.news_of_block (cs := #[.int .i64 (k : Int)]) (t := 3) (fr := (0, 0)) (heap_alloc_new w1 _)) (by simp [Value.oneCell']) (by omega) (by unfold maxLen; omega) (by omega) ?_; intro g1 of1 cap1 w3 hown hm hat; skip)
        obtain ⟨q1, q2⟩ := acc_more HA.out.2 HB1.out hm hat (of := of1)
        go_roundw
        case rel =>
          have hl : (allI s (k + 1)).length = len + 1 := by rw [HSTEP.out]; simp [HLEN.out]
          refine ⟨k + 1, some ⟨g1, of1, none⟩, cap1, len + 1, by omega, by go_num, rfl, by omega, Lib.hid hl.symm, Lib.hid ⟨?_, q1⟩, Lib.hid q2⟩
          rw [hl, HSTEP.out]
          simpa [iv] using hown
        case measure => simp [intOf]; omega
    · obtain rfl : k = n := by omega
      have hl := HLEN.out
      subst hl
      go_wp2_with fail
      go_ret
      exact ⟨A, cap, rfl, HA.out, HB.out⟩
end Go.Proofs.Ytgahjibjladafaa
