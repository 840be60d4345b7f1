/- Rows of texts: Grow, Concat. -/
import Derived.Test.YtgahjibjladafaaRea
import Derived.Test.YtgahjibjladafaaFoV
import Derived.Test.YtgahjibjladafaaShelf
import Derived.Test.YtgahjibjladafaaFoQ
import Derived.Test.YtgahjibjladafaaReI
namespace Go.Proofs.Ytgahjibjladafaa
open Go.RowKit
set_option linter.unusedVariables false

theorem sv_one (l : List Ky.K) : ∀ u ∈ l.map sv, u.oneCell' = true := fun u hu => by
  obtain ⟨e, _, rfl⟩ := List.mem_map.1 hu
  rfl
/-- rows of texts lie at A, all of it ahead of block B -/
def StAt (w : World) (B : Nat) (A : Option Addr) (L : List (List Ky.K)) : Prop :=
  ∃ vs : List Value, RdB w B 1 A L.length vs ∧ ∀ i, (hi : i < L.length) → ∃ A' c', vs[i]? = some (.slice A' L[i].length c') ∧ RdB w B 1 A' L[i].length (L[i].map sv) ∧ L[i].length ≤ c' ∧ c' ≤ maxLen
theorem StAt.below {w w' : World} {B : Nat} {A : Option Addr} {L : List (List Ky.K)} (h : StAt w B A L) (hb : Below B w w') : StAt w' B A L := by
  obtain ⟨vs, h1, h2⟩ := h
  refine ⟨vs, h1.below hb, fun i hi => ?_⟩
  obtain ⟨A', c', h3, h4, h5⟩ := h2 i hi
  exact ⟨A', c', h3, h4.below hb, h5⟩
theorem StAt.mono {w : World} {B B' : Nat} {A : Option Addr} {L : List (List Ky.K)} (h : StAt w B A L) (hB : B ≤ B') : StAt w B' A L := by
  obtain ⟨vs, h1, h2⟩ := h
  refine ⟨vs, h1.mono hB, fun i hi => ?_⟩
  obtain ⟨A', c', h3, h4, h5⟩ := h2 i hi
  exact ⟨A', c', h3, h4.mono hB, h5⟩
theorem StAt.cell {w : World} {B : Nat} {A : Option Addr} {L : List (List Ky.K)} (h : StAt w B A L) : ∀ k, (hk : k < L.length) → ∃ g o A' c', A = some ⟨g, o, none⟩ ∧ g < B ∧ RdB w B 1 A' L[k].length (L[k].map sv) ∧ ∀ u, Below B w u → u.cell? ⟨g, o + k, none⟩ = some (.slice A' L[k].length c') := fun k hk => by
  obtain ⟨vs, h1, h2⟩ := h
  obtain ⟨g, o, hA, hg, hc⟩ := h1.2 (by omega)
  obtain ⟨A', c', h3, h4, _⟩ := h2 k hk
  refine ⟨g, o, A', c', hA, hg, h4, fun u hu => ?_⟩
  rw [World.cell?_of_block (hu.block g hg), hc k (by omega), h3]
def sumS (L : List (List Ky.K)) (k : Nat) : Nat := (L.take k).flatten.length
theorem sumS_zero (L : List (List Ky.K)) : sumS L 0 = 0 := rfl
theorem sumS_succ {L : List (List Ky.K)} {k : Nat} (hk : k < L.length) : sumS L (k + 1) = sumS L k + L[k].length := by
  unfold sumS
  rw [List.take_add_one, List.getElem?_eq_getElem hk, List.flatten_append, List.length_append]
  simp
theorem sumS_le (L : List (List Ky.K)) (k : Nat) : sumS L k ≤ L.flatten.length := by
  unfold sumS
  conv => rhs; rw [← List.take_append_drop k L, List.flatten_append, List.length_append]
  omega
def rowS (L : List (List Ky.K)) (k : Nat) : List Ky.K := (L.take k).flatten
theorem rowS_succ {L : List (List Ky.K)} {k : Nat} (hk : k < L.length) : rowS L (k + 1) = rowS L k ++ L[k] := by
  unfold rowS
  rw [List.take_add_one, List.getElem?_eq_getElem hk, List.flatten_append]
  simp
theorem rowS_all (L : List (List Ky.K)) : rowS L L.length = L.flatten := by unfold rowS; rw [List.take_length]
theorem rowS_len (L : List (List Ky.K)) (k : Nat) : (rowS L k).length = sumS L k := rfl
/-- a row of texts that is new -/
def StrRow (w : World) (l : List Ky.K) (x : Ending) (w' : World) : Prop := ∃ A' cap', x = .returned (.slice A' l.length cap') ∧ Row w' 9 1 A' l.length cap' (l.map sv) ∧ (∀ a, A' = some a → w.heap.size ≤ a.block) ∧ Below w.heap.size w w'

/-- slices.Grow of none -/
theorem growS_any (n : Nat) (w : World) (hlim : n ≤ 1000000) :
    Calls Try.prog 117 #[.slice none 0 0, .int .i64 n] w fun x w' => ∃ A cap, x = .returned (.slice A 0 cap) ∧ Row w' 9 1 A 0 cap [] ∧ Below w.heap.size w w' ∧ ∀ a, A = some a → w.heap.size ≤ a.block := by
  obtain ⟨i0, hi0, hz0, hz1, hz2⟩ := info_parts Try.infoStrR
  have k1 : ¬ ((n : Int) < 0) := by omega
  rcases Nat.eq_zero_or_pos n with h0 | h0
  · subst h0
    clear k1
    go_enter Try.func117, Try.ntmps117
    go_wp2_with fail
    go_ret
    exact ⟨none, 0, rfl, Row.nil _ _ _, Below.refl _ _, fun a h => (by cases h)⟩
  · have k2 : (0 : Int) < (n : Int) := by omega
    have happ := fun ty => Lib.run_append_nil_zeros (P := Try.prog) w 67 3 ty 9 i0 _ .i64 .i64 Try.underlying67 Try.underlying3 hi0 hz0 n h0 (by omega) (by omega) (by rw [hz2]; omega)
    have hcapge : n ≤ grownCap w n 0 9 := grownCap_ge w _ 0 _
    have hcaple : grownCap w n 0 9 ≤ maxLen := grownCap_le_maxLen w _ 0 _ (by unfold maxLen; omega)
    generalize grownCap w n 0 9 = cap2 at happ hcapge hcaple
    have hZs : (Builtin.zeroCells (Value.string ByteArray.empty).cells n ++ Builtin.zeroCells (Value.string ByteArray.empty).cells (cap2 - n)).size = cap2 * 1 := by
      simp [size_zeroCells, Value.cells]; omega
    generalize (Builtin.zeroCells (Value.string ByteArray.empty).cells n ++ Builtin.zeroCells (Value.string ByteArray.empty).cells (cap2 - n)) = Z at happ hZs
    go_enter Try.func117, Try.ntmps117
    go_wp2_with (at_builtin; refine Lib.wpList_append_run _ rfl _ _ _ _ rfl _ _ rfl rfl _ _ (happ _) ?_)
    go_ret
    exact ⟨some ⟨w.heap.size, 0, none⟩, cap2, rfl, ⟨rfl, Nat.zero_le _, hcaple, fun h => (by cases h), fun a ha => by injection ha with ha; subst ha; exact ⟨rfl, Z, heap_alloc_new w.drew _, by simp; omega, by simp⟩⟩, ⟨rfl, rfl, rfl, by simp, fun k hk => Below.heap_alloc w _ k hk⟩, fun a ha => by injection ha with ha; subst ha; exact Nat.le_refl _⟩


set_option maxRecDepth 100000 in
set_option maxHeartbeats 2000000 in
theorem concatS_any (w : World) (A : Option Addr) (cap : Nat) (L : List (List Ky.K)) (h : StAt w w.heap.size A L) (hl : L.length ≤ 1000000) (ht : L.flatten.length ≤ 1000000) :
    Calls Try.prog 87 #[.slice A L.length cap] w (StrRow w L.flatten) := by
  obtain ⟨i0, hi0, hz0, hz1, hz2⟩ := info_parts Try.infoStrR
  have HC := Lib.hid h.cell
  have hS : ∀ k, sumS L k ≤ 1000000 := fun k => Nat.le_trans (sumS_le L k) ht
  have hs0 := sumS_zero L
  have hs1 : ∀ k, (hk : k < L.length) → sumS L (k + 1) = sumS L k + L[k].length := fun k hk => sumS_succ hk
  have hr1 : ∀ k, (hk : k < L.length) → rowS L (k + 1) = rowS L k ++ L[k] := fun k hk => rowS_succ hk
  have hrl : ∀ k, (rowS L k).length = sumS L k := fun k => rowS_len L k
  have hr0 : rowS L 0 = [] := rfl
  have hra := rowS_all L
  generalize L.flatten = R at *
  generalize sumS L = S at *
  generalize rowS L = T at *
  have HS := Lib.hid hS
  have HS0 := Lib.hid hs0
  have HS1 := Lib.hid hs1
  have HR1 := Lib.hid hr1
  have HRL := Lib.hid hrl
  have HR0 := Lib.hid hr0
  have HRA := Lib.hid hra
  clear h hS hs0 hs1 hr1 hrl hr0 hra ht
  go_enter Try.func87, Try.ntmps87
  go_wp2_with fail
  go_loopw [3, 11] (fun v3 v11 wr => ∃ k : Nat, k ≤ L.length ∧ v11 = .int .i64 k ∧ v3 = .int .i64 (S k) ∧ w = wr) (fun _ v11 _ => L.length - (intOf v11).toNat)
  case atStart => exact ⟨0, Nat.zero_le _, rfl, by rw [HS0.out]; rfl, rfl⟩
  case round =>
    obtain ⟨k, hk, rfl, rfl, rfl⟩ := hrel
    by_cases hlt : k < L.length
    · obtain ⟨g, o, A', c', rfl, hg, _, hcl⟩ := HC.out k hlt
      have q0 := hcl w (Below.refl _ _)
      have k1 : (0 : Int) ≤ (k : Int) := Int.natCast_nonneg _
      have k2 : (k : Int) < (L.length : Int) := by omega
      have hs := HS1.out k hlt
      have hle := HS.out (k + 1)
      rw [hs] at hle
      generalize L[k].length = m at q0 hs hle
      generalize S k = sk at hs hle
      have k3 : ¬ ((sk : Int) + (m : Int) < 0) := by omega
      have HS2 := Lib.hid hs
      clear hcl hs
      go_wp2_with fail
      go_roundw
      case rel => exact ⟨k + 1, by omega, by go_num, by rw [HS2.out]; go_num, by trivial⟩
      case measure => simp [intOf]; omega
    · have hkn : k = L.length := by omega
      have HK := Lib.hid hkn
      have hgrow := growS_any (S k) w (HS.out k)
      generalize S k = sk at *
      have HG := Lib.hid hgrow
      clear hkn hgrow
      go_wp2_with fail
      refine HG.out.mono ?_
      rintro x w1 ⟨A6, cap6, rfl, hrow, hb, hfr⟩
      have HROW := Lib.hid hrow
      have HB := Lib.hid hb
      have HFR := Lib.hid hfr
      clear hrow hb hfr
      go_wp2_with fail
      go_loopw [6, 27] (fun v6 v27 wr => ∃ (k : Nat) (A' : Option Addr) (cap' : Nat), k ≤ L.length ∧ v27 = .int .i64 k ∧ v6 = .slice A' (T k).length cap' ∧ Hid (Row wr 9 1 A' (T k).length cap' ((T k).map sv)) ∧ Hid (∀ a, A' = some a → w.heap.size ≤ a.block) ∧ Below w.heap.size w wr) (fun _ v27 _ => L.length - (intOf v27).toNat)
      case atStart => exact ⟨0, A6, cap6, Nat.zero_le _, rfl, by rw [HR0.out]; rfl, by rw [HR0.out]; exact HROW, HFR, HB.out⟩
      case round =>
        obtain ⟨k, A7, cap7, hk, rfl, rfl, HRW, HAT, hbw⟩ := hrel
        by_cases hlt : k < L.length
        · obtain ⟨g, o, A', c', rfl, hg, hrd, hcl⟩ := HC.out k hlt
          have q0 := hcl wr hbw
          have k1 : (0 : Int) ≤ (k : Int) := Int.natCast_nonneg _
          have k2 : (k : Int) < (L.length : Int) := by omega
          have hr := HR1.out k hlt
          have hle := HS.out (k + 1)
          rw [← HRL.out, hr, List.length_append] at hle
          have hrd2 : Rd wr 1 A' L[k].length (L[k].map sv) := (hrd.below hbw).mono hbw.size
          generalize L[k] = q at q0 hr hle hrd2
          generalize T k = t at *
          have HR2 := Lib.hid hr
          have HRD := Lib.hid hrd2
          have HBW := Lib.hid hbw
          clear hcl hr hrd hrd2 hbw
          go_wp2_with (at_builtin; refine wpList_append_rd (by rfl) _ _ _ (by rfl) 9 i0 _ 1 16 Try.underlying67 hi0 hz0 hz1 hz2 rfl (by omega) A7 t.length cap7 (t.map sv) (by rfl) HRW.out A' q.length c' (q.map sv) (by rfl) HRD.out (sv_one q) (by unfold maxLen; omega) (by omega) ?_; intro A8 cap8 w8 hown hm hat; skip)
          obtain ⟨z1, z2⟩ := acc_rd HAT.out HBW.out hm hat
          have hz : (t ++ q).length = t.length + q.length := List.length_append
          have hown2 : Row w8 9 1 A8 (t ++ q).length cap8 ((t ++ q).map sv) := by rw [hz, List.map_append]; exact hown
          have HZ := Lib.hid hz
          clear hz
          go_roundw
          case rel => exact ⟨k + 1, A8, cap8, by omega, by go_num, by rw [HR2.out, HZ.out], by rw [HR2.out]; exact Lib.hid hown2, Lib.hid z1, z2⟩
          case measure => simp [intOf]; omega
        · have hkn : k = L.length := by omega
          have HK2 := Lib.hid hkn
          have HBW := Lib.hid hbw
          clear hkn hbw
          go_wp2_with fail
          go_ret
          refine ⟨A7, cap7, by rw [HK2.out, HRA.out]; rfl, ?_, HAT.out, HBW.out⟩
          have := HRW.out
          rw [HK2.out, HRA.out] at this
          exact this

end Go.Proofs.Ytgahjibjladafaa
/- Rows of texts: sorted, compacted; report.Merge. -/
namespace Go.Proofs.Ytgahjibjladafaa
open Go.RowKit
set_option linter.unusedVariables false

open Go.Sort in
theorem encStr_sv (k : List UInt8) : encStr k = sv k := rfl
open Go.Sort Go.Lib in
theorem Row.holdsS {w : World} {g o cap : Nat} {q : List Ky.K} (h : Row w 9 1 (some ⟨g, o, none⟩) q.length cap (q.map sv)) : Holds encStr w g o q.toArray := by
  intro j hj
  have hj' : j < q.length := by simpa using hj
  refine ⟨?_, h.free _⟩
  rw [h.cell j (by omega), List.getElem?_map, List.getElem?_eq_getElem hj', getElem!_pos q.toArray j hj]
  rfl
theorem Row.cut {w : World} {e sz n cap : Nat} {A : Option Addr} {cs : List Value} (h : Row w e sz A n cap cs) {k : Nat} (hk : k ≤ n) : Row w e sz A k cap (cs.take (k * sz)) := by
  obtain ⟨h1, h2, h3, h4, h5⟩ := h
  have hm : k * sz ≤ n * sz := Nat.mul_le_mul_right _ hk
  refine ⟨by rw [List.length_take, h1]; omega, by omega, h3, h4, fun a ha => ?_⟩
  obtain ⟨hs, cur, hc, hsz, ht⟩ := h5 a ha
  exact ⟨hs, cur, hc, hsz, by rw [← ht, List.take_take, Nat.min_eq_left hm]⟩
open Go.Sort Go.Lib in
theorem putS_row {w : World} {g o cap m n : Nat} {cs : List Value} (h : Row w 9 1 (some ⟨g, o, none⟩) n cap cs) (q' : List Ky.K) (hq : q'.length = n) (os : Array Obj) :
    Row (grow (putRow encStr (Sort.ahead w m) g o q'.toArray) os) 9 1 (some ⟨g, o, none⟩) n cap (q'.map sv) ∧ Mod (fun k => k = g) w (grow (putRow encStr (Sort.ahead w m) g o q'.toArray) os) := by
  have lg : g < w.heap.size := h.lt
  obtain ⟨h1, h2, h3, h4, h5⟩ := h
  obtain ⟨_, cur, hc, hsz, ht⟩ := h5 _ rfl
  simp only at hc hsz ht
  have hblk : (grow (putRow encStr (Sort.ahead w m) g o q'.toArray) os).heap[g]? = some (.cells (putCells encStr o q'.toArray cur) 9 (0, 0)) := by
    unfold putRow mapBlock grow Sort.ahead
    simp only
    rw [Array.getElem?_append_left (by simpa using lg), Array.getElem?_modify, if_pos rfl, hc]
    rfl
  have hold : ∀ k, k < w.heap.size → k ≠ g → (grow (putRow encStr (Sort.ahead w m) g o q'.toArray) os).heap[k]? = w.heap[k]? := fun k hk hn => by
    unfold putRow mapBlock grow Sort.ahead
    simp only
    rw [Array.getElem?_append_left (by simpa using hk), Array.getElem?_modify, if_neg (Ne.symm hn)]
  refine ⟨⟨by rw [List.length_map, hq, Nat.mul_one], h2, h3, fun h => (by cases h), fun a ha => ?_⟩, ⟨rfl, rfl, rfl, ?_, fun k hk hn => hold k hk hn⟩⟩
  · injection ha with ha
    subst ha
    refine ⟨rfl, _, hblk, by simp [putCells]; simpa using hsz, ?_⟩
    apply List.ext_getElem?
    intro j
    by_cases hj : j < n * 1
    · rw [List.getElem?_take_of_lt hj, List.getElem?_drop]
      simp only [Array.getElem?_toList]
      unfold putCells
      have hj2 : o + j < cur.size := by omega
      have hjq : j < q'.length := by omega
      simp only [Array.getElem?_mapIdx, Array.getElem?_eq_getElem hj2, Option.map_some]
      rw [if_pos (by simp; omega), Nat.add_sub_cancel_left, List.getElem?_map, List.getElem?_eq_getElem hjq, getElem!_pos q'.toArray j (by simpa using hjq)]
      rfl
    · rw [List.getElem?_eq_none (by rw [List.length_take]; omega), List.getElem?_eq_none (by rw [List.length_map]; omega)]
  · unfold putRow mapBlock grow Sort.ahead
    simp

/-- slices.Sort of texts -/
theorem sortS_any (w : World) (A : Option Addr) (cap : Nat) (q : List Ky.K) (hr : Row w 9 1 A q.length cap (q.map sv)) (hl : q.length ≤ 1000000) :
    Calls Try.prog 88 #[.slice A q.length cap] w fun x w' => x = .returned (.tuple #[]) ∧ Row w' 9 1 A q.length cap ((q.mergeSort fun x y => decide (x ≤ y)).map sv) ∧ Mod (fun k => ∃ a, A = some a ∧ k = a.block) w w' := by
  have hlen : (q.mergeSort fun x y => decide (x ≤ y)).length = q.length := (List.mergeSort_perm q _).length_eq
  rcases Nat.eq_zero_or_pos q.length with h0 | h0
  · have hq : q = [] := List.eq_nil_of_length_eq_zero h0
    subst hq
    have := Try.slices_Sort_string_none A cap w
    change Calls Try.prog 88 _ _ _ at this
    refine this.mono fun x w' ⟨h1, h2⟩ => ?_
    subst h1; subst h2
    exact ⟨rfl, by simpa using hr, Mod.refl _ _⟩
  · obtain ⟨g, o, rfl⟩ := hr.some_of_pos (by have := hr.2.1; omega)
    have := Try.slices_Sort_string g o cap q w hr.holdsS hr.lt (by omega)
    change Calls Try.prog 88 _ _ _ at this
    refine this.mono fun x w' ⟨h1, n, os, h2⟩ => ?_
    subst h1; subst h2
    obtain ⟨h3, h4⟩ := putS_row (m := n) hr (q.mergeSort fun x y => decide (x ≤ y)) hlen os
    exact ⟨rfl, h3, h4.mono fun k _ hk => ⟨_, rfl, hk⟩⟩
open Go.Sort Go.Lib in
/-- slices.Compact of texts -/
theorem compactS_any (w : World) (A : Option Addr) (cap : Nat) (q : List Ky.K) (hr : Row w 9 1 A q.length cap (q.map sv)) (hl : q.length ≤ 1000000) :
    Calls Try.prog 89 #[.slice A q.length cap] w fun x w' => x = .returned (.slice A (Lib.compact q).length cap) ∧ Row w' 9 1 A (Lib.compact q).length cap ((Lib.compact q).map sv) ∧ Mod (fun k => ∃ a, A = some a ∧ k = a.block) w w' := by
  have hle := Lib.compact_length_le q
  rcases Nat.eq_zero_or_pos q.length with h0 | h0
  · have hq : q = [] := List.eq_nil_of_length_eq_zero h0
    subst hq
    have := Try.slices_Compact_string_empty A cap w
    change Calls Try.prog 89 _ _ _ at this
    refine this.mono fun x w' ⟨h1, h2⟩ => ?_
    subst h1; subst h2
    exact ⟨rfl, hr, Mod.refl _ _⟩
  · obtain ⟨g, o, rfl⟩ := hr.some_of_pos (by have := hr.2.1; omega)
    have := Try.slices_Compact_string g o cap q w hr.holdsS (by omega) hr.2.1
    change Calls Try.prog 89 _ _ _ at this
    refine this.mono fun x w' ⟨h1, n, h2⟩ => ?_
    subst h1
    have hz : (Lib.compact q ++ List.replicate (q.length - (Lib.compact q).length) []).length = q.length := by rw [List.length_append, List.length_replicate]; omega
    obtain ⟨h3, h4⟩ := putS_row (m := n) hr _ hz #[]
    have hg : grow (putRow encStr (Sort.ahead w n) g o (Lib.compact q ++ List.replicate (q.length - (Lib.compact q).length) []).toArray) #[] = w' := by rw [grow_empty]; exact h2.symm
    rw [hg] at h3 h4
    have h5 := h3.cut hle
    rw [Nat.mul_one, List.map_append, List.take_append_of_le_length (by rw [List.length_map]; exact Nat.le_refl _), List.take_of_length_le (by rw [List.length_map]; exact Nat.le_refl _)] at h5
    exact ⟨rfl, h5, h4.mono fun k _ hk => ⟨_, rfl, hk⟩⟩
end Go.Proofs.Ytgahjibjladafaa
/- Reports: Merge, twice; Gather. -/
namespace Go.Proofs.Ytgahjibjladafaa
open Go.RowKit
set_option linter.unusedVariables false

/-- a report of such keys -/
def MergeOut (w : World) (l : List Ky.K) (c : Bool) (x : Ending) (w' : World) : Prop := ∃ A' cap', x = .returned (.agg #[.slice A' l.length cap', .bool c]) ∧ (Rd w' 1 A' l.length (l.map sv) ∧ l.length ≤ cap' ∧ cap' ≤ maxLen) ∧ Below w.heap.size w w'

set_option maxRecDepth 100000 in
set_option maxHeartbeats 4000000 in
theorem merge_any (w : World) (c : Bool) (A : Option Addr) (cap : Nat) (L : List (List Ky.K)) (h : StAt w w.heap.size A L) (hl : L.length ≤ 1000000) (ht : L.flatten.length ≤ 1000000) :
    Calls Try.prog 50 #[.bool c, .slice A L.length cap] w (MergeOut w (Ky.gather L.flatten) c) := by
  obtain ⟨W1, X, hW1, hX, hBW, hXl, hXe⟩ := box_rep w 70 none 0 0 false
  have hXk : W1.heap[X]? = some (.cells #[.slice none 0 0, .bool false] 70 (0, 0)) := by rw [hW1, hX]; exact heap_alloc_new w _
  have hcon := concatS_any W1 A cap L ((h.below hBW).mono hBW.size) hl ht
  have hsort : ∀ (u : World) (A' : Option Addr) (cap' : Nat), Row u 9 1 A' L.flatten.length cap' (L.flatten.map sv) → _ := fun u A' cap' hr => sortS_any u A' cap' L.flatten hr ht
  have hcomp : ∀ (u : World) (A' : Option Addr) (cap' : Nat), Row u 9 1 A' L.flatten.length cap' ((L.flatten.mergeSort fun x y => decide (x ≤ y)).map sv) → Calls Try.prog 89 #[.slice A' L.flatten.length cap'] u fun x w' => x = .returned (.slice A' (Ky.gather L.flatten).length cap') ∧ Row w' 9 1 A' (Ky.gather L.flatten).length cap' ((Ky.gather L.flatten).map sv) ∧ Mod (fun k => ∃ a, A' = some a ∧ k = a.block) u w' := fun u A' cap' hr => by
    have hlen : (L.flatten.mergeSort fun x y => decide (x ≤ y)).length = L.flatten.length := (List.mergeSort_perm _ _).length_eq
    have := compactS_any u A' cap' (L.flatten.mergeSort fun x y => decide (x ≤ y)) (by rw [hlen]; exact hr) (by omega)
    rw [hlen, Ky.sort_compact] at this
    exact this
  generalize Ky.gather L.flatten = G at hcomp ⊢
  generalize (L.flatten.mergeSort fun x y => decide (x ≤ y)) = SQ at hsort hcomp
  generalize L.flatten = R at hcon hsort hcomp
  have HCON := Lib.hid hcon
  have HSORT := Lib.hid hsort
  have HCOMP := Lib.hid hcomp
  have HBW := Lib.hid hBW
  have HXK := Lib.hid hXk
  have HXW := Lib.hid (Nat.le_of_eq hX.symm)
  clear h hcon hsort hcomp hBW hXk hXl hXe ht
  go_enter Try.func50, Try.ntmps50
  go_upto_region 1 with fail
  rw [← hW1, ← hX]
  clear hW1 hX
  go_wp2_with fail
  refine HCON.out.mono ?_
  rintro x w2 ⟨A2, cap2, rfl, hr2, hat2, hb2⟩
  have HB2 := Lib.hid (below_at HBW.out hb2)
  have HX2 := Lib.hid (blk_step HXK.out hb2)
  have HAT := Lib.hid hat2
  have HXL := Lib.hid (blk_lt HXK.out)
  have HS := Lib.hid (HSORT.out w2 A2 cap2 hr2)
  clear hr2 hat2 hb2 HCON HSORT HXK
  go_wp2_with fail
  refine HS.out.mono ?_
  rintro x w3 ⟨rfl, hr3, hm3⟩
  have HC := Lib.hid (HCOMP.out w3 A2 cap2 hr3)
  have HX3 := Lib.hid ((hm3.block X (blk_lt HX2.out) (fun ⟨a, e1, e2⟩ => by have := HAT.out a e1; have := HXL.out; omega)).trans HX2.out)
  have HB3 := Lib.hid (((Mod.of_below HB2.out).then hm3 (fun q hq ⟨a, e1, e2⟩ => by have := HAT.out a e1; have := HBW.out.size; omega)).below _ (Nat.le_refl _) (fun q hq h => by omega) : Below w.heap.size w w3)
  clear hr3 hm3 HS HX2 HB2 HCOMP
  go_wp2_with fail
  refine HC.out.mono ?_
  rintro x w4 ⟨rfl, hr4, hm4⟩
  have HX4 := Lib.hid ((hm4.block X (blk_lt HX3.out) (fun ⟨a, e1, e2⟩ => by have := HAT.out a e1; have := HXL.out; omega)).trans HX3.out)
  have HB4 := Lib.hid (((Mod.of_below HB3.out).then hm4 (fun q hq ⟨a, e1, e2⟩ => by have := HAT.out a e1; have := HBW.out.size; omega)).below _ (Nat.le_refl _) (fun q hq h => by omega) : Below w.heap.size w w4)
  have HR4 := Lib.hid hr4
  clear hr4 hm4 HC HX3 HB3
  have HXe := rep_exit HX4.out HB4.out HXW.out (.slice A2 G.length cap2) (.bool c)
  obtain ⟨V2, hV2, d0, d1, hbv, hoth⟩ := HXe
  have HV2 := Lib.hid hV2
  have HBV := Lib.hid hbv
  have HOTH := Lib.hid hoth
  have c0 : w4.cell? ⟨X, 0, none⟩ = some (.slice none 0 0) := by rw [cell_blk HX4.out]; rfl
  have c1 : w4.cell? ⟨X, 1, none⟩ = some (.bool false) := by rw [cell_blk HX4.out]; rfl
  have f0 : w4.frozen? ⟨X, 0, none⟩ = false := free_blk HX4.out _
  have f1 : w4.frozen? ⟨X, 1, none⟩ = false := free_blk HX4.out _
  clear hV2 hbv hoth
  go_wp2_with fail
  rw [← HV2.out]
  refine bodyPost_ret (v := .agg #[.slice A2 G.length cap2, .bool c]) (by simp [results, Try.results50, go_sem, d0, d1]) rfl ?_
  have hr5 := HR4.out.move (w' := V2) (fun a ha => HOTH.out a.block (by have := HAT.out a ha; have := HXL.out; omega))
  exact ⟨A2, cap2, rfl, ⟨hr5.rd, hr5.2.1, hr5.2.2.1⟩, HBV.out⟩
namespace Ky
theorem gather_snoc (l : List K) (x : K) : gather (l ++ [x]) = insG (gather l) x := by unfold gather; rw [List.foldl_append]; rfl
theorem gather_len (l : List K) : (gather l).length ≤ l.length := by
  have : ∀ (l acc : List K), (l.foldl insG acc).length ≤ acc.length + l.length := by
    intro l
    induction l with
    | nil => intro acc; simp
    | cons x l ih =>
      intro acc
      rw [List.foldl_cons, List.length_cons]
      have h1 := ih (insG acc x)
      have h2 := insG_len acc x
      split at h2 <;> omega
  have := this l []
  unfold gather
  simpa using this
end Ky

set_option maxRecDepth 100000 in
set_option maxHeartbeats 4000000 in
theorem gather_any (w : World) (A : Option Addr) (cap : Nat) (L : List (List Ky.K)) (h : StAt w w.heap.size A L) (hl : L.length ≤ 1000000) (ht : L.flatten.length ≤ 1000000) :
    Calls Try.prog 90 #[.slice A L.length cap] w fun x w' => ∃ A' cap', x = .returned (.tuple #[.slice A' (Ky.gather L.flatten).length cap', .bool (decide ((Ky.gather L.flatten).length = L.flatten.length))]) ∧ (Rd w' 1 A' (Ky.gather L.flatten).length ((Ky.gather L.flatten).map sv) ∧ (Ky.gather L.flatten).length ≤ cap' ∧ cap' ≤ maxLen) ∧ Below w.heap.size w w' := by
  have hcell : ∀ (k : Nat) (q : List Ky.K), L[k]? = some q → ∃ g o A' c', A = some ⟨g, o, none⟩ ∧ g < w.heap.size ∧ RdB w w.heap.size 1 A' q.length (q.map sv) ∧ ∀ u, Below w.heap.size w u → u.cell? ⟨g, o + k, none⟩ = some (.slice A' q.length c') := fun k q hq => by
    obtain ⟨h1, rfl⟩ := List.getElem?_eq_some_iff.1 hq
    exact h.cell k h1
  have hsn : ∀ (k : Nat) (q : List Ky.K), L[k]? = some q → (L.take (k + 1)).flatten = (L.take k).flatten ++ q := fun k q hq => by rw [List.take_add_one, hq, List.flatten_append]; simp
  have hle : ∀ k, (L.take k).flatten.length ≤ L.flatten.length := fun k => sumS_le L k
  have HC := Lib.hid hcell
  have HSN := Lib.hid hsn
  have HLE := Lib.hid hle
  have HT := Lib.hid ht
  clear h hcell hsn hle ht
  go_enter Try.func90, Try.ntmps90
  go_wp2_with fail
  go_loopw [4, 5, 6] (fun v4 v5 v6 wr => ∃ (i : Nat) (ol : List Ky.K) (n : Nat) (A' : Option Addr) (cap' : Nat), i ≤ L.length ∧ n ≤ 1000000 ∧ v6 = .int .i64 i ∧ v5 = .int .i64 n ∧ v4 = .slice A' ol.length cap' ∧ Hid (ol = Ky.gather (L.take i).flatten) ∧ Hid (n = (L.take i).flatten.length) ∧
    Hid (Rd wr 1 A' ol.length (ol.map sv) ∧ ol.length ≤ cap' ∧ cap' ≤ maxLen) ∧ Hid (Below w.heap.size w wr)) (fun _ _ v _ => L.length - (intOf v).toNat)
  case atStart => exact ⟨0, [], 0, none, 0, Nat.zero_le _, Nat.zero_le _, rfl, rfl, rfl, Lib.hid rfl, Lib.hid rfl, Lib.hid ⟨⟨rfl, fun h => by simp at h⟩, Nat.le_refl _, Nat.zero_le _⟩, Lib.hid (Below.refl _ _)⟩
  case round =>
    obtain ⟨i, ol, n, A', cap', hi, hn6, rfl, rfl, rfl, HOL, HN, HRD, HB⟩ := hrel
    by_cases hlt : i < L.length
    · obtain ⟨q, hq⟩ := get_some hlt
      obtain ⟨g, o, Aq, cq, rfl, hg, hrq, hcl⟩ := HC.out i q hq
      have hst := str_cell hrq
      have hs1 := HSN.out i q hq
      have hle1 := HLE.out (i + 1)
      rw [hs1, List.length_append] at hle1
      have hle0 := HT.out
      have hq6 : q.length ≤ 1000000 := by omega
      have hnq : n + q.length ≤ 1000000 := by have := HN.out; omega
      have HS1 := Lib.hid hs1
      have HLE1 := Lib.hid hle1
      have HCL := Lib.hid hcl
      have HST := Lib.hid hst
      have k1 : (0 : Int) ≤ (i : Int) := Int.natCast_nonneg _
      have k2 : (i : Int) < (L.length : Int) := by omega
      clear hq hrq hcl hst hs1 hle1 hle0
      go_wp2_with fail
      go_loopw [4, 5, 7] (fun v4 v5 v7 wr => ∃ (j : Nat) (ol : List Ky.K) (n' : Nat) (A' : Option Addr) (cap' : Nat), j ≤ q.length ∧ n' ≤ n + j ∧ v7 = .int .i64 j ∧ v5 = .int .i64 n' ∧ v4 = .slice A' ol.length cap' ∧ Hid (ol = Ky.gather ((L.take i).flatten ++ q.take j)) ∧ Hid (n' = n + j) ∧
        Hid (Rd wr 1 A' ol.length (ol.map sv) ∧ ol.length ≤ cap' ∧ cap' ≤ maxLen) ∧ Hid (Below w.heap.size w wr)) (fun _ _ v _ => q.length - (intOf v).toNat)
      case atStart => exact ⟨0, ol, n, A', cap', Nat.zero_le _, Nat.le_refl _, rfl, rfl, rfl, Lib.hid (by rw [HOL.out]; simp), Lib.hid rfl, HRD, HB⟩
      case round =>
        clear HB HRD HOL
        obtain ⟨j, ol, n', A', cap', hj, hn', rfl, rfl, rfl, HOL, HN', HRD, HB⟩ := hrel
        have v0 := HCL.out wr HB.out
        have lg : g < wr.heap.size := by have := HB.out.size; omega
        by_cases hjl : j < q.length
        · obtain ⟨x, hx⟩ := get_some hjl
          obtain ⟨g2, o2, rfl, hg2, hc2⟩ := HST.out j x hx
          have u0 := hc2 wr HB.out
          have lg2 : g2 < wr.heap.size := by have := HB.out.size; omega
          have hgl := Ky.gather_len ((L.take i).flatten ++ q.take j)
          rw [← HOL.out, List.length_append, List.length_take] at hgl
          have hcall := insert_any wr A' cap' ol x HRD.out.1 HRD.out.2.1 HRD.out.2.2 (by have := HN.out; omega)
          have hnx : Ky.insG ol x = Ky.gather ((L.take i).flatten ++ q.take (j + 1)) := by
            rw [List.take_add_one, hx, HOL.out, ← Ky.gather_snoc, List.append_assoc]; rfl
          have HCALL := Lib.hid hcall
          have HNX := Lib.hid hnx
          have k3 : (0 : Int) ≤ (j : Int) := Int.natCast_nonneg _
          have k4 : (j : Int) < (q.length : Int) := by omega
          clear hx hc2 hgl hcall hnx
          go_wp2_with fail
          refine HCALL.out.mono ?_
          rintro y w2 ⟨A2, cap2, rfl, hrd2, hb2⟩
          have HRD2 := Lib.hid hrd2
          have HB2 := Lib.hid (below_at HB.out hb2)
          clear hrd2 hb2
          go_wp2_with fail
          go_roundw
          case rel => exact ⟨j + 1, Ky.insG ol x, n' + 1, A2, cap2, by omega, by omega, by go_num, by go_num, rfl, HNX, Lib.hid (by rw [HN'.out]; omega), HRD2, HB2⟩
          case measure => simp [intOf]; omega
        · have hjq : j = q.length := by omega
          have hol : ol = Ky.gather (L.take (i + 1)).flatten := by rw [HOL.out, HS1.out, show q.take j = q from List.take_of_length_le (by omega)]
          have hnn : n' = (L.take (i + 1)).flatten.length := by rw [HN'.out, HS1.out, List.length_append, ← HN.out, hjq]
          have HOL2 := Lib.hid hol
          have HNN := Lib.hid hnn
          clear hjq hol hnn
          go_wp2_with fail
          go_roundw
          case rel => exact ⟨i + 1, ol, n', A', cap', by omega, by omega, by go_num, rfl, rfl, HOL2, HNN, HRD, HB⟩
          case measure => simp [intOf]; omega
    · have hall : L.take i = L := List.take_of_length_le (by omega)
      have hol := HOL.out
      have hnn := HN.out
      rw [hall] at hol hnn
      have hcast : decide ((ol.length : Int) = (n : Int)) = decide ((Ky.gather L.flatten).length = L.flatten.length) := by
        rw [← hol, ← hnn]
        by_cases h : ol.length = n <;> simp [h]
        omega
      have HCAST := Lib.hid hcast
      have HOL2 := Lib.hid hol
      clear hall hol hnn hcast
      go_wp2_with fail
      go_ret2
      exact ⟨A', cap', by rw [← HCAST.out, ← HOL2.out]; first | rfl | (simp), by rw [← HOL2.out]; exact HRD.out, HB.out⟩

/-- texts don't lie in the block of a report -/
theorem rd_away {w V : World} {X : Nat} {T : TypeId} {A : Option Addr} {ks : List Ky.K} (h : Rd w 1 A ks.length (ks.map sv)) (hk : w.heap[X]? = some (.cells #[.slice none 0 0, .bool false] T (0, 0))) (hs : w.heap.size ≤ V.heap.size) (ho : ∀ g, g ≠ X → V.heap[g]? = w.heap[g]?) : Rd V 1 A ks.length (ks.map sv) := by
  refine ⟨h.1, fun h0 => ?_⟩
  obtain ⟨g, o, hA, hg, hc⟩ := h.2 h0
  have hgX : g ≠ X := by
    rintro rfl
    have h1 := hc 0 h0
    rw [cell_blk hk, List.getElem?_map, List.getElem?_eq_getElem (by omega)] at h1
    simp only [Nat.add_zero, Option.map_some] at h1
    match o with
    | 0 => simp [sv] at h1
    | 1 => simp [sv] at h1
    | o + 2 => simp at h1
  exact ⟨g, o, hA, Nat.lt_of_lt_of_le hg hs, fun j hj => (World.cell?_of_block (ho g hgX)).trans (hc j hj)⟩
set_option maxRecDepth 100000 in
set_option maxHeartbeats 4000000 in
theorem refMerge_any (w : World) (c : Bool) (A : Option Addr) (cap : Nat) (L : List (List Ky.K)) (h : StAt w w.heap.size A L) (hl : L.length ≤ 1000000) (ht : L.flatten.length ≤ 1000000) :
    Calls Try.prog 51 #[.bool c, .slice A L.length cap] w (MergeOut w (Ky.gather L.flatten) c) := by
  obtain ⟨W1, X, hW1, hX, hBW, hXl, hXe⟩ := box_rep w 72 none 0 0 false
  have hXk : W1.heap[X]? = some (.cells #[.slice none 0 0, .bool false] 72 (0, 0)) := by rw [hW1, hX]; exact heap_alloc_new w _
  have hga := gather_any W1 A cap L ((h.below hBW).mono hBW.size) hl ht
  generalize decide ((Ky.gather L.flatten).length = L.flatten.length) = dd at hga
  generalize Ky.gather L.flatten = G at hga ⊢
  have HGA := Lib.hid hga
  have HBW := Lib.hid hBW
  have HXK := Lib.hid hXk
  have HXW := Lib.hid (Nat.le_of_eq hX.symm)
  clear h hga hBW hXk hXl hXe ht
  go_enter Try.func51, Try.ntmps51
  go_upto_region 1 with fail
  rw [← hW1, ← hX]
  clear hW1 hX
  go_wp2_with fail
  refine HGA.out.mono ?_
  rintro x w4 ⟨A2, cap2, rfl, hr4, hb4⟩
  have HX4 := Lib.hid (blk_step HXK.out hb4)
  have HB4 := Lib.hid (below_at HBW.out hb4)
  have HR4 := Lib.hid hr4
  have HXL := Lib.hid (blk_lt HXK.out)
  clear hr4 hb4 HXK
  have hrd : ∃ V2, V2 = (w4.setCell ⟨X, 0, none⟩ (.slice A2 G.length cap2)).setCell ⟨X, 1, none⟩ (.bool c) ∧ V2.cell? ⟨X, 0, none⟩ = some (.slice A2 G.length cap2) ∧ V2.cell? ⟨X, 1, none⟩ = some (.bool c) ∧ Below w.heap.size w V2 ∧ ∀ g, g ≠ X → V2.heap[g]? = w4.heap[g]? := rep_exit HX4.out HB4.out HXW.out (.slice A2 G.length cap2) (.bool c)
  obtain ⟨V2, hV2, d0, d1, hbv, hoth⟩ := hrd
  have HV2 := Lib.hid hV2
  have HBV := Lib.hid hbv
  have HOTH := Lib.hid hoth
  have c0 : w4.cell? ⟨X, 0, none⟩ = some (.slice none 0 0) := by rw [cell_blk HX4.out]; rfl
  have c1 : w4.cell? ⟨X, 1, none⟩ = some (.bool false) := by rw [cell_blk HX4.out]; rfl
  have f0 : w4.frozen? ⟨X, 0, none⟩ = false := free_blk HX4.out _
  have f1 : w4.frozen? ⟨X, 1, none⟩ = false := free_blk HX4.out _
  clear hV2 hbv hoth
  go_wp2_with fail
  rw [← HV2.out]
  refine bodyPost_ret (v := .agg #[.slice A2 G.length cap2, .bool c]) (by simp [results, Try.results51, go_sem, d0, d1]) rfl ?_
  exact ⟨A2, cap2, rfl, ⟨rd_away HR4.out.1 HX4.out (by rw [HV2.out]; simp [World.setCell]) HOTH.out, HR4.out.2⟩, HBV.out⟩
end Go.Proofs.Ytgahjibjladafaa
