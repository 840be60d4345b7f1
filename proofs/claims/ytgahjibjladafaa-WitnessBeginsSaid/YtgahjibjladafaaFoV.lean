/- The row of levels. -/
import Derived.Test.YtgahjibjladafaaFoU
import Derived.Lib.AppendZeros
import Derived.Lib.Walk
import Derived.Lib.SliceRun
namespace Go.Proofs.Ytgahjibjladafaa
open Go.RowKit
set_option linter.unusedVariables false

/-- slices.Grow of none -/
theorem grow_any (n : Nat) (w : World) (hlim : n ≤ 1000000) :
    Calls Try.prog 98 #[.slice none 0 0, .int .i64 n] w fun x w' => ∃ A cap, x = .returned (.slice A 0 cap) ∧ Row w' 39 4 A 0 cap [] ∧ Below w.heap.size w w' ∧ ∀ a, A = some a → w.heap.size ≤ a.block := by
  obtain ⟨i0, hi0, hz0, hz1, hz2⟩ := info_parts Try.infoEv
  have k1 : ¬ ((n : Int) < 0) := by omega
  rcases Nat.eq_zero_or_pos n with h0 | h0
  · subst h0
    clear k1
    go_enter Try.func98, Try.ntmps98
    go_wp2_with fail
    go_ret
    exact ⟨none, 0, rfl, Row.nil _ _ _, Below.refl _ _, fun a h => (by cases h)⟩
  · have k2 : (0 : Int) < (n : Int) := by omega
    have happ := fun ty => Lib.run_append_nil_zeros (P := Try.prog) w 22 3 ty 39 i0 _ .i64 .i64 Try.underlying22 Try.underlying3 hi0 hz0 n h0 (by omega) (by omega) (by rw [hz2]; omega)
    have hcapge : n ≤ grownCap w n 0 39 := grownCap_ge w _ 0 _
    have hcaple : grownCap w n 0 39 ≤ maxLen := grownCap_le_maxLen w _ 0 _ (by unfold maxLen; omega)
    generalize grownCap w n 0 39 = cap2 at happ hcapge hcaple
    have hZs : (Builtin.zeroCells (Value.agg #[Value.int .i64 0, Value.int .i64 0, Value.int .i64 0, Value.bool false]).cells n ++ Builtin.zeroCells (Value.agg #[Value.int .i64 0, Value.int .i64 0, Value.int .i64 0, Value.bool false]).cells (cap2 - n)).size = cap2 * 4 := by
      simp [size_zeroCells, Value.cells]; omega
    generalize (Builtin.zeroCells (Value.agg #[Value.int .i64 0, Value.int .i64 0, Value.int .i64 0, Value.bool false]).cells n ++ Builtin.zeroCells (Value.agg #[Value.int .i64 0, Value.int .i64 0, Value.int .i64 0, Value.bool false]).cells (cap2 - n)) = Z at happ hZs
    go_enter Try.func98, Try.ntmps98
    go_wp2_with (at_builtin; refine Lib.wpList_append_run _ rfl _ _ _ _ rfl _ _ rfl rfl _ _ (happ _) ?_)
    go_ret
    exact ⟨some ⟨w.heap.size, 0, none⟩, cap2, rfl, ⟨rfl, Nat.zero_le _, hcaple, fun h => (by cases h), fun a ha => by injection ha with ha; subst ha; exact ⟨rfl, Z, heap_alloc_new w.drew _, by simp; omega, by simp⟩⟩, ⟨rfl, rfl, rfl, by simp, fun k hk => Below.heap_alloc w _ k hk⟩, fun a ha => by injection ha with ha; subst ha; exact Nat.le_refl _⟩

/-- what a function that makes a row of events leaves -/
def RowOut (w : World) (l : List Ev) (x : Ending) (w' : World) : Prop := ∃ A' cap', x = .returned (.slice A' l.length cap') ∧ (Rd w' 4 A' l.length (l.flatMap encE) ∧ l.length ≤ cap' ∧ cap' ≤ maxLen) ∧ Below w.heap.size w w'
/-- how many events stand in the first k -/
def sumN (L : List (List Ev)) (k : Nat) : Nat := (L.take k).flatten.length
theorem sumN_zero (L : List (List Ev)) : sumN L 0 = 0 := rfl
theorem sumN_succ {L : List (List Ev)} {k : Nat} (hk : k < L.length) : sumN L (k + 1) = sumN L k + L[k].length := by
  unfold sumN
  rw [List.take_add_one, List.getElem?_eq_getElem hk, List.flatten_append, List.length_append]
  simp
theorem sumN_le (L : List (List Ev)) (k : Nat) : sumN L k ≤ L.flatten.length := by
  unfold sumN
  conv => rhs; rw [← List.take_append_drop k L, List.flatten_append, List.length_append]
  omega
/-- the events of the first k -/
def rowN (L : List (List Ev)) (k : Nat) : List Ev := (L.take k).flatten
theorem rowN_succ {L : List (List Ev)} {k : Nat} (hk : k < L.length) : rowN L (k + 1) = rowN L k ++ L[k] := by
  unfold rowN
  rw [List.take_add_one, List.getElem?_eq_getElem hk, List.flatten_append]
  simp
theorem rowN_all (L : List (List Ev)) : rowN L L.length = L.flatten := by unfold rowN; rw [List.take_length]
theorem rowN_len (L : List (List Ev)) (k : Nat) : (rowN L k).length = sumN L k := rfl
theorem enc_one (l : List Ev) : ∀ u ∈ l.flatMap encE, u.oneCell' = true := fun u hu => by
  obtain ⟨e, _, he⟩ := List.mem_flatMap.1 hu
  simp only [encE, List.mem_cons, List.not_mem_nil, or_false] at he
  rcases he with rfl | rfl | rfl | rfl <;> rfl
theorem acc_rd {w wr w1 : World} {A A' : Option Addr} (hA : ∀ a, A = some a → w.heap.size ≤ a.block) (hb : Below w.heap.size w wr)
    (hm : Mod (fun k => ∃ a, A = some a ∧ k = a.block) wr w1) (hat : ∀ a', A' = some a' → (∃ a, A = some a ∧ a'.block = a.block) ∨ wr.heap.size ≤ a'.block) :
    (∀ a, A' = some a → w.heap.size ≤ a.block) ∧ Below w.heap.size w w1 := by
  have z := hb.size
  refine ⟨fun a ha => ?_, hb.trans (hm.below _ z (fun k hk ⟨a, h1, h2⟩ => by have := hA a h1; omega))⟩
  rcases hat a ha with ⟨b, h1, h2⟩ | h
  · rw [h2]; exact hA b h1
  · omega

set_option maxRecDepth 100000 in
set_option maxHeartbeats 2000000 in
theorem concat_any (w : World) (A : Option Addr) (cap : Nat) (L : List (List Ev)) (h : LvAt w w.heap.size A L) (hl : L.length ≤ 1000000) (ht : L.flatten.length ≤ 1000000) :
    Calls Try.prog 60 #[.slice A L.length cap] w (RowOut w L.flatten) := by
  obtain ⟨i0, hi0, hz0, hz1, hz2⟩ := info_parts Try.infoEv
  have HC := Lib.hid h.cell
  have hS : ∀ k, sumN L k ≤ 1000000 := fun k => Nat.le_trans (sumN_le L k) ht
  have hs0 := sumN_zero L
  have hs1 : ∀ k, (hk : k < L.length) → sumN L (k + 1) = sumN L k + L[k].length := fun k hk => sumN_succ hk
  have hr1 : ∀ k, (hk : k < L.length) → rowN L (k + 1) = rowN L k ++ L[k] := fun k hk => rowN_succ hk
  have hrl : ∀ k, (rowN L k).length = sumN L k := fun k => rowN_len L k
  have hr0 : rowN L 0 = [] := rfl
  have hra := rowN_all L
  generalize L.flatten = R at *
  generalize sumN L = S at *
  generalize rowN L = T at *
  have HS := Lib.hid hS
  have HS0 := Lib.hid hs0
  have HS1 := Lib.hid hs1
  have HR1 := Lib.hid hr1
  have HRL := Lib.hid hrl
  have HR0 := Lib.hid hr0
  have HRA := Lib.hid hra
  clear h hS hs0 hs1 hr1 hrl hr0 hra ht
  go_enter Try.func60, Try.ntmps60
  go_wp2_with fail
  go_loopw [3, 11] (fun v3 v11 wr => ∃ k : Nat, k ≤ L.length ∧ v11 = .int .i64 k ∧ v3 = .int .i64 (S k) ∧ w = wr) (fun _ v11 _ => L.length - (intOf v11).toNat)
  case atStart => exact ⟨0, Nat.zero_le _, rfl, by rw [HS0.out]; rfl, rfl⟩
  case round =>
    obtain ⟨k, hk, rfl, rfl, rfl⟩ := hrel
    by_cases hlt : k < L.length
    · obtain ⟨g, o, A', c', rfl, hg, _, hcl⟩ := HC.out k hlt
      have q0 := hcl w (Below.refl _ _)
      have k1 : (0 : Int) ≤ (k : Int) := Int.natCast_nonneg _
      have k2 : (k : Int) < (L.length : Int) := by omega
      have hs := HS1.out k hlt
      have hle := HS.out (k + 1)
      rw [hs] at hle
      generalize L[k].length = m at q0 hs hle
      generalize S k = sk at hs hle
      have k3 : ¬ ((sk : Int) + (m : Int) < 0) := by omega
      have HS2 := Lib.hid hs
      clear hcl hs
      go_wp2_with fail
      go_roundw
      case rel => exact ⟨k + 1, by omega, by go_num, by rw [HS2.out]; go_num, by trivial⟩
      case measure => simp [intOf]; omega
    · have hkn : k = L.length := by omega
      have HK := Lib.hid hkn
      have hgrow := grow_any (S k) w (HS.out k)
      generalize S k = sk at *
      have HG := Lib.hid hgrow
      clear hkn hgrow
      go_wp2_with fail
      refine HG.out.mono ?_
      rintro x w1 ⟨A6, cap6, rfl, hrow, hb, hfr⟩
      have HROW := Lib.hid hrow
      have HB := Lib.hid hb
      have HFR := Lib.hid hfr
      clear hrow hb hfr
      go_wp2_with fail
      go_loopw [6, 27] (fun v6 v27 wr => ∃ (k : Nat) (A' : Option Addr) (cap' : Nat), k ≤ L.length ∧ v27 = .int .i64 k ∧ v6 = .slice A' (T k).length cap' ∧ Hid (Row wr 39 4 A' (T k).length cap' ((T k).flatMap encE)) ∧ Hid (∀ a, A' = some a → w.heap.size ≤ a.block) ∧ Below w.heap.size w wr) (fun _ v27 _ => L.length - (intOf v27).toNat)
      case atStart => exact ⟨0, A6, cap6, Nat.zero_le _, rfl, by rw [HR0.out]; rfl, by rw [HR0.out]; exact HROW, HFR, HB.out⟩
      case round =>
        obtain ⟨k, A7, cap7, hk, rfl, rfl, HRW, HAT, hbw⟩ := hrel
        by_cases hlt : k < L.length
        · obtain ⟨g, o, A', c', rfl, hg, hrd, hcl⟩ := HC.out k hlt
          have q0 := hcl wr hbw
          have k1 : (0 : Int) ≤ (k : Int) := Int.natCast_nonneg _
          have k2 : (k : Int) < (L.length : Int) := by omega
          have hr := HR1.out k hlt
          have hle := HS.out (k + 1)
          rw [← HRL.out, hr, List.length_append] at hle
          have hrd2 : Rd wr 4 A' L[k].length (L[k].flatMap encE) := (hrd.below hbw).mono hbw.size
          generalize L[k] = q at q0 hr hle hrd2
          generalize T k = t at *
          have HR2 := Lib.hid hr
          have HRD := Lib.hid hrd2
          have HBW := Lib.hid hbw
          clear hcl hr hrd hrd2 hbw
          go_wp2_with (at_builtin; refine wpList_append_rd (by rfl) _ _ _ (by rfl) 39 i0 _ 4 32 Try.underlying22 hi0 hz0 hz1 hz2 rfl (by omega) A7 t.length cap7 (t.flatMap encE) (by rfl) HRW.out A' q.length c' (q.flatMap encE) (by rfl) HRD.out (enc_one q) (by unfold maxLen; omega) (by omega) ?_; intro A8 cap8 w8 hown hm hat; skip)
          obtain ⟨z1, z2⟩ := acc_rd HAT.out HBW.out hm hat
          have hz : (t ++ q).length = t.length + q.length := List.length_append
          have hown2 : Row w8 39 4 A8 (t ++ q).length cap8 ((t ++ q).flatMap encE) := by rw [hz, List.flatMap_append]; exact hown
          have HZ := Lib.hid hz
          clear hz
          go_roundw
          case rel => exact ⟨k + 1, A8, cap8, by omega, by go_num, by rw [HR2.out, HZ.out], by rw [HR2.out]; exact Lib.hid hown2, Lib.hid z1, z2⟩
          case measure => simp [intOf]; omega
        · have hkn : k = L.length := by omega
          have HK2 := Lib.hid hkn
          have HBW := Lib.hid hbw
          clear hkn hbw
          go_wp2_with fail
          go_ret
          refine ⟨A7, cap7, by rw [HK2.out, HRA.out]; rfl, ?_, HBW.out⟩
          have := (⟨HRW.out.rd, HRW.out.2.1, HRW.out.2.2.1⟩ : _ ∧ _ ∧ _)
          rw [HK2.out, HRA.out] at this
          exact this

theorem frow_any (w : World) (A : Option Addr) (cap : Nat) (L : List (List Ev)) (h : LvAt w w.heap.size A L) (hl : L.length ≤ 1000000) (ht : L.flatten.length ≤ 1000000) :
    Calls Try.prog 20 #[.slice A L.length cap] w (RowOut w L.flatten) := by
  have hc := concat_any w A cap L h hl ht
  generalize L.flatten = R at *
  have HC := Lib.hid hc
  clear h hc ht
  go_enter Try.func20, Try.ntmps20
  go_wp2_with fail
  refine HC.out.mono ?_
  rintro x w1 ⟨A', cap', rfl, hr, hb⟩
  have HR := Lib.hid hr
  have HB := Lib.hid hb
  clear hr hb
  go_wp2_with fail
  go_ret
  exact ⟨A', cap', rfl, HR.out, HB.out⟩

set_option maxRecDepth 100000 in
set_option maxHeartbeats 2000000 in
theorem refRow_any (w : World) (A : Option Addr) (cap : Nat) (L : List (List Ev)) (h : LvAt w w.heap.size A L) (hl : L.length ≤ 1000000) (ht : L.flatten.length ≤ 1000000) :
    Calls Try.prog 21 #[.slice A L.length cap] w (RowOut w L.flatten) := by
  obtain ⟨i0, hi0, hz0, hz1, hz2⟩ := info_parts Try.infoEv
  have HC := Lib.hid h.cell
  have hS : ∀ k, (rowN L k).length ≤ 1000000 := fun k => Nat.le_trans (sumN_le L k) ht
  have hr1 : ∀ k, (hk : k < L.length) → rowN L (k + 1) = rowN L k ++ L[k] := fun k hk => rowN_succ hk
  have hr0 : rowN L 0 = [] := rfl
  have hra := rowN_all L
  generalize L.flatten = R at *
  generalize rowN L = T at *
  have HS := Lib.hid hS
  have HR1 := Lib.hid hr1
  have HR0 := Lib.hid hr0
  have HRA := Lib.hid hra
  clear h hS hr1 hr0 hra ht
  go_enter Try.func21, Try.ntmps21
  go_wp2_with fail
  go_loopw [3, 4] (fun v6 v27 wr => ∃ (k : Nat) (A' : Option Addr) (cap' : Nat), k ≤ L.length ∧ v27 = .int .i64 k ∧ v6 = .slice A' (T k).length cap' ∧ Hid (Row wr 39 4 A' (T k).length cap' ((T k).flatMap encE)) ∧ Hid (∀ a, A' = some a → w.heap.size ≤ a.block) ∧ Below w.heap.size w wr) (fun _ v27 _ => L.length - (intOf v27).toNat)
  case atStart => exact ⟨0, none, 0, Nat.zero_le _, rfl, by rw [HR0.out]; rfl, by rw [HR0.out]; exact Lib.hid (Row.nil _ _ _), Lib.hid (fun a h => (by cases h)), Below.refl _ _⟩
  case round =>
    obtain ⟨k, A7, cap7, hk, rfl, rfl, HRW, HAT, hbw⟩ := hrel
    by_cases hlt : k < L.length
    · obtain ⟨g, o, A', c', rfl, hg, hrd, hcl⟩ := HC.out k hlt
      have q0 := hcl wr hbw
      have k1 : (0 : Int) ≤ (k : Int) := Int.natCast_nonneg _
      have k2 : (k : Int) < (L.length : Int) := by omega
      have hr := HR1.out k hlt
      have hle := HS.out (k + 1)
      rw [hr, List.length_append] at hle
      have hrd2 : Rd wr 4 A' L[k].length (L[k].flatMap encE) := (hrd.below hbw).mono hbw.size
      generalize L[k] = q at q0 hr hle hrd2
      generalize T k = t at *
      have HR2 := Lib.hid hr
      have HRD := Lib.hid hrd2
      have HBW := Lib.hid hbw
      clear hcl hr hrd hrd2 hbw
      go_wp2_with (at_builtin; refine wpList_append_rd (by rfl) _ _ _ (by rfl) 39 i0 _ 4 32 Try.underlying22 hi0 hz0 hz1 hz2 rfl (by omega) A7 t.length cap7 (t.flatMap encE) (by rfl) HRW.out A' q.length c' (q.flatMap encE) (by rfl) HRD.out (enc_one q) (by unfold maxLen; omega) (by omega) ?_; intro A8 cap8 w8 hown hm hat; skip)
      obtain ⟨z1, z2⟩ := acc_rd HAT.out HBW.out hm hat
      have hz : (t ++ q).length = t.length + q.length := List.length_append
      have hown2 : Row w8 39 4 A8 (t ++ q).length cap8 ((t ++ q).flatMap encE) := by rw [hz, List.flatMap_append]; exact hown
      have HZ := Lib.hid hz
      clear hz
      go_roundw
      case rel => exact ⟨k + 1, A8, cap8, by omega, by go_num, by rw [HR2.out, HZ.out], by rw [HR2.out]; exact Lib.hid hown2, Lib.hid z1, z2⟩
      case measure => simp [intOf]; omega
    · have hkn : k = L.length := by omega
      have HK2 := Lib.hid hkn
      have HBW := Lib.hid hbw
      clear hkn hbw
      go_wp2_with fail
      go_ret
      refine ⟨A7, cap7, by rw [HK2.out, HRA.out]; rfl, ?_, HBW.out⟩
      have := (⟨HRW.out.rd, HRW.out.2.1, HRW.out.2.2.1⟩ : _ ∧ _ ∧ _)
      rw [HK2.out, HRA.out] at this
      exact this
end Go.Proofs.Ytgahjibjladafaa
