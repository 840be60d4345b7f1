/- The program's writing of events. -/
import Derived.Test.YtgahjibjladafaaFoH
namespace Go.Proofs.Ytgahjibjladafaa
open Go.RowKit
set_option linter.unusedVariables false

/-- a row of three adds, as it stands in an event's byte -/
theorem byte_wraps {e : Ev} (h : Fo.right e = true) : IntKind.i64.wrap (4 * e.k) = 4 * e.k ∧ IntKind.i64.wrap (e.t + 4 * e.k) = e.t + 4 * e.k ∧ IntKind.i64.wrap (32 * e.o) = 32 * e.o ∧ IntKind.i64.wrap (e.t + 4 * e.k + 32 * e.o) = e.t + 4 * e.k + 32 * e.o ∧ IntKind.i64.wrap (e.t + 4 * e.k + 32 * e.o + 128) = e.t + 4 * e.k + 32 * e.o + 128 ∧
    (e.f = false → IntKind.u8.wrap (e.t + 4 * e.k + 32 * e.o) = ((Fo.byteU e).toNat : Int)) ∧ (e.f = true → IntKind.u8.wrap (e.t + 4 * e.k + 32 * e.o + 128) = ((Fo.byteU e).toNat : Int)) := by
  obtain ⟨h1, h2, h3, h4, h5, h6, h7, h8⟩ := Fo.right_spec h
  have hb := Fo.byteI_lt h
  have hu := Fo.byteU_toNat h
  refine ⟨IntWalk.i64_in _ (by omega), IntWalk.i64_in _ (by omega), IntWalk.i64_in _ (by omega), IntWalk.i64_in _ (by omega), IntWalk.i64_in _ (by omega), fun hf => ?_, fun hf => ?_⟩
  · rw [hu]
    unfold Fo.byteI at hb ⊢
    rw [hf] at hb ⊢
    simp [IntKind.wrap, IntKind.signed, IntKind.bits] at hb ⊢; omega
  · rw [hu]
    unfold Fo.byteI at hb ⊢
    rw [hf] at hb ⊢
    simp [IntKind.wrap, IntKind.signed, IntKind.bits] at hb ⊢; omega

set_option maxRecDepth 100000 in
set_option maxHeartbeats 2000000 in
theorem print_any (w : World) (A : Option Addr) (cap : Nat) (l : List Ev) (hr : Rd w 4 A l.length (l.flatMap encE)) (hl : l.length < 1000000) :
    Calls Try.prog 65 #[.slice A l.length cap] w fun x w' => x = .returned (.string ⟨(prE l).toArray⟩) ∧ Below w.heap.size w w' := by
  have HC := Lib.hid (evs_cell hr.toB)
  obtain ⟨i0, hi0, hz0, hz1, hz2⟩ := info_parts Try.infoU8
  have hmk := run_make (P := Try.prog) w 43 5 i0 (.int .u8 0) Try.underlying43 hi0 hz0 .i64 .i64 0 (l.length : Int) (by omega) (by omega) (by rw [hz2]; omega) (by omega)
  simp only [Int.toNat_natCast, Int.toNat_zero] at hmk
  clear hr
  go_enter Try.func65, Try.ntmps65
  go_upto_region 2 with fail
  obtain ⟨w0, hw0⟩ : ∃ w0, w0 = w.alloc (.cells (madeCells #[.int .u8 0] l.length) 5) := ⟨_, rfl⟩
  obtain ⟨Y, hY⟩ : ∃ Y, Y = w.heap.size := ⟨_, rfl⟩
  have hI : Row w0 5 1 (some ⟨Y, 0, none⟩) 0 l.length [] ∧ w.heap.size ≤ Y ∧ Below w.heap.size w w0 := by
    refine ⟨⟨by simp, Nat.zero_le _, by unfold maxLen; omega, fun h => (by cases h), fun a ha => ?_⟩, by omega, by rw [hw0]; exact (Below.refl _ _).alloc (Nat.le_refl _) _⟩
    injection ha with ha
    subst ha
    have hm : madeCells #[Value.int .u8 0] l.length = (List.replicate l.length (.int .u8 0)).toArray := by
      apply Array.ext'
      rw [toList_madeCells_one]
    exact ⟨rfl, _, by rw [hw0, hY]; exact heap_alloc_new w _, by rw [hm]; simp, by simp⟩
  have HI := Lib.hid hI
  rw [← hw0, ← hY]
  clear hw0 hY hmk hI
  go_wp2_with fail
  go_loopw [3, 12] (fun v3 v wr => ∃ (k : Nat) (A' : Option Addr) (cap' : Nat), k ≤ l.length ∧ v = .int .i64 k ∧ v3 = .slice A' k cap' ∧ Hid (Fo.rights (l.take k) = true) ∧ Hid (Row wr 5 1 A' k cap' (byteVs (Fo.bytes (l.take k)))) ∧ Hid (∀ a, A' = some a → w.heap.size ≤ a.block) ∧ Below w.heap.size w wr) (fun _ v _ => l.length - (intOf v).toNat)
  case atStart => exact ⟨0, some ⟨Y, 0, none⟩, l.length, Nat.zero_le _, rfl, rfl, Lib.hid rfl, Lib.hid HI.out.1, Lib.hid (fun a h => by injection h with h; subst h; exact HI.out.2.1), HI.out.2.2⟩
  case round =>
    clear HI
    obtain ⟨k, A', cap', hk, rfl, rfl, HRT, HRW, HA, hb⟩ := hrel
    by_cases hlt : k < l.length
    · obtain ⟨g, o, rfl, hg, hcl⟩ := HC.out k hlt
      obtain ⟨v0, v1, v2, v3⟩ := hcl wr hb
      have k1 : (0 : Int) ≤ (k : Int) := Int.natCast_nonneg _
      have k2 : (k : Int) < (l.length : Int) := by omega
      have htk := rights_take hlt
      have hrf := rights_false hlt
      have hbt := bytes_take hlt
      have hcall : ∀ u, Calls Try.prog 92 #[valE l[k]] u fun x w' => x = .returned (.bool (Fo.right l[k])) ∧ Below u.heap.size u w' := fun u => right_any u _
      have hws : Fo.right l[k] = true → _ := fun h => byte_wraps (e := l[k]) h
      generalize l[k] = e at *
      obtain ⟨b, hbb⟩ : ∃ b, b = Fo.right e := ⟨_, rfl⟩
      rw [← hbb] at htk hrf hws
      have hcall : ∀ u, Calls Try.prog 92 #[valE e] u fun x w' => x = .returned (.bool b) ∧ Below u.heap.size u w' := fun u => by rw [hbb]; exact hcall u
      generalize Fo.byteU e = bu at *
      unfold valE at hcall
      have HCALL := Lib.hid hcall
      have HWS := Lib.hid hws
      have HTK := Lib.hid htk
      have HRF := Lib.hid hrf
      have HBT := Lib.hid hbt
      have HB := Lib.hid hb
      clear hcall htk hrf hcl hbb hb hws hbt
      go_upto_region 5 with fail
      obtain ⟨X, hX⟩ : ∃ X, X = wr.heap.size := ⟨_, rfl⟩
      obtain ⟨W1, hW1⟩ : ∃ W1, W1 = wr.alloc (Obj.cells #[.int .i64 e.t, .int .i64 e.k, .int .i64 e.o, .bool e.f] 39) := ⟨_, rfl⟩
      have t1 : Below wr.heap.size wr W1 := by rw [hW1]; exact (Below.refl _ _).alloc (Nat.le_refl _) _
      have hk1 : W1.heap[X]? = some (.cells #[.int .i64 e.t, .int .i64 e.k, .int .i64 e.o, .bool e.f] 39 (0, 0)) := by rw [hW1, hX]; exact heap_alloc_new wr _
      have c0 : W1.cell? ⟨X, 0, none⟩ = some (.int .i64 e.t) := by rw [cell_blk hk1]; rfl
      have c1 : W1.cell? ⟨X, 1, none⟩ = some (.int .i64 e.k) := by rw [cell_blk hk1]; rfl
      have c2 : W1.cell? ⟨X, 2, none⟩ = some (.int .i64 e.o) := by rw [cell_blk hk1]; rfl
      have c3 : W1.cell? ⟨X, 3, none⟩ = some (.bool e.f) := by rw [cell_blk hk1]; rfl
      rw [← hW1, ← hX]
      have HK1 := Lib.hid hk1
      have T1 := Lib.hid t1
      have HX := Lib.hid hX
      clear hW1 hX v0 v1 v2 v3 t1 hk1
      go_wp2_with fail
      refine (HCALL.out W1).mono ?_
      rintro x w1 ⟨rfl, b1⟩
      have hb2 : Below w.heap.size w w1 := below_at (below_at HB.out T1.out) b1
      have hk2 := (b1.block X (blk_lt HK1.out)).trans HK1.out
      have d0 : w1.cell? ⟨X, 0, none⟩ = some (.int .i64 e.t) := by rw [cell_blk hk2]; rfl
      have d1 : w1.cell? ⟨X, 1, none⟩ = some (.int .i64 e.k) := by rw [cell_blk hk2]; rfl
      have d2 : w1.cell? ⟨X, 2, none⟩ = some (.int .i64 e.o) := by rw [cell_blk hk2]; rfl
      have d3 : w1.cell? ⟨X, 3, none⟩ = some (.bool e.f) := by rw [cell_blk hk2]; rfl
      have hr1 : Row w1 5 1 A' k cap' (byteVs (Fo.bytes (l.take k))) := (HRW.out.mod (Mod.of_below_size T1.out (fun _ => False)) (fun _ _ h => h)).mod (Mod.of_below_size b1 (fun _ => False)) (fun _ _ h => h)
      have HR1 := Lib.hid hr1
      have HB2 := Lib.hid hb2
      clear b1 hb2 hr1 c0 c1 c2 c3 hk2
      cases b with
      | false =>
        go_wp2_with fail
        go_ret
        exact ⟨by unfold prE; rw [HRF.out (by trivial)]; rfl, HB2.out⟩
      | true =>
        obtain ⟨e1, e2, e3, e4, e5, e6, e7⟩ := HWS.out (by trivial)
        have E6 := Lib.hid e6
        have E7 := Lib.hid e7
        clear e6 e7
        cases hf : e.f with
        | true =>
          rw [hf] at d3
          have ew := E7.out hf
          go_wp2_with (at_builtin; refine wpList_append_row (by rfl) _ _ _ (by rfl) 5 i0 _ 1 1 Try.underlying43 hi0 hz0 hz1 hz2 rfl (by omega) A' k cap' (byteVs (Fo.bytes (l.take k))) (by rfl) (HR1.out.alloc _) ⟨w1.heap.size, 0, none⟩ 1 1 [.int .u8 bu.toNat] (by rfl) (by rfl) (World.news_of_block (cs := #[.int .u8 bu.toNat]) (t := 5) (fr := (0, 0)) (heap_alloc_new w1 _)) (by simp [Value.oneCell']) (by omega) (by unfold maxLen; omega) (by omega) ?_; intro g1 of1 cap1 w3 hown hm hat; skip)
          obtain ⟨q1, q2⟩ := acc_more HA.out HB2.out hm hat (of := of1)
          have hr3 : Row w3 5 1 (some ⟨g1, of1, none⟩) (k + 1) cap1 (byteVs (Fo.bytes (l.take (k + 1)))) := by
            rw [HBT.out]; unfold byteVs at hown ⊢; rw [List.map_append]; exact hown
          go_roundw
          case rel => exact ⟨k + 1, some ⟨g1, of1, none⟩, cap1, by omega, by go_num, rfl, Lib.hid (by rw [HTK.out, HRT.out]; rfl), Lib.hid hr3, Lib.hid q1, q2⟩
          case measure => simp [intOf]; omega
        | false =>
          rw [hf] at d3
          have ew := E6.out hf
          go_wp2_with (at_builtin; refine wpList_append_row (by rfl) _ _ _ (by rfl) 5 i0 _ 1 1 Try.underlying43 hi0 hz0 hz1 hz2 rfl (by omega) A' k cap' (byteVs (Fo.bytes (l.take k))) (by rfl) (HR1.out.alloc _) ⟨w1.heap.size, 0, none⟩ 1 1 [.int .u8 bu.toNat] (by rfl) (by rfl) (World.news_of_block (cs := #[.int .u8 bu.toNat]) (t := 5) (fr := (0, 0)) (heap_alloc_new w1 _)) (by simp [Value.oneCell']) (by omega) (by unfold maxLen; omega) (by omega) ?_; intro g1 of1 cap1 w3 hown hm hat; skip)
          obtain ⟨q1, q2⟩ := acc_more HA.out HB2.out hm hat (of := of1)
          have hr3 : Row w3 5 1 (some ⟨g1, of1, none⟩) (k + 1) cap1 (byteVs (Fo.bytes (l.take (k + 1)))) := by
            rw [HBT.out]; unfold byteVs at hown ⊢; rw [List.map_append]; exact hown
          go_roundw
          case rel => exact ⟨k + 1, some ⟨g1, of1, none⟩, cap1, by omega, by go_num, rfl, Lib.hid (by rw [HTK.out, HRT.out]; rfl), Lib.hid hr3, Lib.hid q1, q2⟩
          case measure => simp [intOf]; omega
    · have hkn : k = l.length := by omega
      have hcv := conv_bytes (P := Try.prog) HRW.out 43 9 Try.underlying43 Try.underlying5 Try.underlying9
      have HK := Lib.hid hkn
      have HB := Lib.hid hb
      clear hkn hb
      go_wp2_with fail
      go_ret
      have h1 := HRT.out
      rw [HK.out, List.take_length] at h1 ⊢
      exact ⟨by unfold prE; rw [if_pos h1]; rfl, HB.out⟩
end Go.Proofs.Ytgahjibjladafaa
