/- Queues, seventh part: awake. -/
import Derived.Test.YtedogccbndjdpaaQueF
namespace Go.Proofs.Ytedogccbndjdpaa
open Go.RowKit
set_option linter.unusedVariables false

def sStrs : List ByteArray := [⟨#[97]⟩, ⟨#[]⟩, ⟨#[97, 98]⟩, ⟨#[98]⟩]
theorem sStrs_all : sStrs.foldl (Hp.putF ahead) [] = [⟨#[97, 98]⟩, ⟨#[97]⟩, ⟨#[98]⟩, ⟨#[]⟩] := by
  simp [sStrs, Hp.putF, ahead, ByteArray.size, ByteArray.toList_eq, Op.bytesLess]
theorem fold_len (xs : List ByteArray) : ∀ l, (xs.foldl (Hp.putF ahead) l).length = l.length + xs.length := by
  induction xs with
  | nil => intro l; rfl
  | cons x xs ih => intro l; rw [List.foldl_cons, ih, Hp.putF_len]; simp; omega

set_option maxRecDepth 100000 in
set_option maxHeartbeats 1000000 in
theorem awake11 (w : World) : Calls Try.prog 20 #[] w fun e w' => e = .returned (.bool true) ∧ Below w.heap.size w w' := by
  go_enter Try.func20, Try.ntmps20
  go_wp2_with fail
  refine (que_new w).mono ?_
  rintro e w1 ⟨Q, rfl, hq, hb⟩
  have HQ := Lib.hid hq
  have HB := Lib.hid hb
  have lQ := hq.lt
  clear hq hb
  go_wp2_with fail
  obtain ⟨B, hB⟩ : ∃ B, B = w1.heap.size := ⟨_, rfl⟩
  obtain ⟨W1, hW1⟩ : ∃ W1, W1 = w1.alloc (Obj.cells #[.string ⟨#[97]⟩, .string ⟨#[]⟩, .string ⟨#[97, 98]⟩, .string ⟨#[98]⟩] 9) := ⟨_, rfl⟩
  have t1 : Below w1.heap.size w1 W1 := by rw [hW1]; exact (Below.refl _ _).alloc (Nat.le_refl _) _
  have hk1 : W1.heap[B]? = some (.cells (sStrs.map .string).toArray 9 (0, 0)) := by rw [hW1, hB]; exact heap_alloc_new w1 _
  have hBw : w.heap.size ≤ B := by rw [hB]; exact HB.out.size
  have hst : Hid (Que W1 (fun q => w.heap.size ≤ q ∧ q ≠ B) Q ((sStrs.take 0).foldl (Hp.putF ahead) []) ∧ Below w.heap.size w W1 ∧ W1.heap[B]? = some (.cells (sStrs.map .string).toArray 9 (0, 0))) :=
    Lib.hid ⟨(HQ.out.foot (G := fun q => w.heap.size ≤ q ∧ q ≠ B) (fun k h1 h2 => ⟨h1, by omega⟩)).below t1, below_tr HB.out ⟨t1.os, t1.tape, t1.output, t1.size, t1.block⟩, hk1⟩
  rw [← hW1, ← hB]
  clear hW1 hk1 t1 HQ hB HB
  go_loopw [15] (fun v wr => ∃ k : Nat, k ≤ 4 ∧ v = .int .i64 k ∧ Hid (Que wr (fun q => w.heap.size ≤ q ∧ q ≠ B) Q ((sStrs.take k).foldl (Hp.putF ahead) []) ∧ Below w.heap.size w wr ∧ wr.heap[B]? = some (.cells (sStrs.map .string).toArray 9 (0, 0)))) (fun v _ => 4 - (intOf v).toNat)
  case atStart => exact ⟨0, by omega, rfl, hst⟩
  case round =>
    clear hst
    obtain ⟨k, hk, rfl, HX⟩ := hrel
    have k1 : (0 : Int) ≤ (k : Int) := Int.natCast_nonneg _
    by_cases hlt : k < 4
    · obtain ⟨s, hs⟩ : ∃ s, sStrs[k]? = some s := ⟨_, List.getElem?_eq_getElem hlt⟩
      have hsplit : sStrs.take (k + 1) = sStrs.take k ++ [s] := by
        rw [List.take_succ_eq_append_getElem hlt]
        rw [List.getElem?_eq_getElem hlt] at hs
        injection hs with hs
        rw [hs]
      have c0 : wr.cell? ⟨B, k, none⟩ = some (.string s) := by rw [cell_blk HX.out.2.2]; simp [hs]
      have HS := Lib.hid hsplit
      have hp := que_push wr _ Q _ HX.out.1 s (by rw [fold_len]; simp; omega)
      have HP := Lib.hid hp
      clear hs hsplit hp
      go_wp2_with (go_at_call 22; refine HP.out.mono ?_; rintro e w2 ⟨rfl, hq2, hm2⟩)
      go_roundw
      case rel =>
        have z := HX.out.2.1.size
        have lB := blk_lt HX.out.2.2
        refine ⟨k + 1, by omega, by go_num, Lib.hid ⟨?_, ?_, (hm2.block B lB (fun h => h.2 rfl)).trans HX.out.2.2⟩⟩
        · rw [HS.out, List.foldl_append]
          exact hq2.foot (fun q h _ => by
            rcases h with h | h
            · exact h
            · exact ⟨by omega, by omega⟩)
        · exact ((Mod.of_below HX.out.2.1).trans (hm2.mono (fun q _ h => h.1))).below _ (Nat.le_refl _) (fun q hq h => by omega)
      case measure => simp [intOf]; omega
    · have hk4 : k = 4 := by omega
      subst hk4
      have hQ : Que wr (fun q => w.heap.size ≤ q ∧ q ≠ B) Q [⟨#[97, 98]⟩, ⟨#[97]⟩, ⟨#[98]⟩, ⟨#[]⟩] := by
        have := HX.out.1
        rwa [show sStrs.take 4 = sStrs from rfl, sStrs_all] at this
      have HQ := Lib.hid hQ
      clear hQ
      go_wp2_with fail
      refine (que_pop wr _ Q _ _ HQ.out (by simp)).mono ?_
      rintro e w2 ⟨rfl, hq2, hm2⟩
      have HQ2 : Hid (Que w2 _ Q ([⟨#[97]⟩, ⟨#[98]⟩] ++ [⟨#[]⟩])) := Lib.hid hq2
      have HM2 := Lib.hid hm2
      clear hq2 hm2
      go_wp2_with fail
      refine (que_steal w2 _ Q _ _ HQ2.out (by simp)).mono ?_
      rintro e w3 ⟨rfl, hq3, hm3⟩
      have HQ3 := Lib.hid hq3
      have HM3 := Lib.hid hm3
      clear hq3 hm3
      go_wp2_with fail
      refine (que_pop w3 _ Q _ _ HQ3.out (by simp)).mono ?_
      rintro e w4 ⟨rfl, hq4, hm4⟩
      have HQ4 := Lib.hid hq4
      have HM4 := Lib.hid hm4
      clear hq4 hm4
      go_wp2_with fail
      refine (que_len w4 _ Q _ HQ4.out).mono ?_
      rintro e w5 ⟨rfl, rfl⟩
      go_wp2_with fail
      go_ret
      refine ⟨rfl, ?_⟩
      exact ((((Mod.of_below HX.out.2.1).trans (HM2.out.mono (fun q _ h => h.1))).trans (HM3.out.mono (fun q _ h => h.1))).trans (HM4.out.mono (fun q _ h => h.1))).below _ (Nat.le_refl _) (fun q hq h => by omega)
end Go.Proofs.Ytedogccbndjdpaa
