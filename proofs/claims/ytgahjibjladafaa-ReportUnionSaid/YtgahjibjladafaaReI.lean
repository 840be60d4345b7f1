/- Reports: report.Read. -/
import Derived.Test.YtgahjibjladafaaRea
import Derived.Test.YtgahjibjladafaaRed
namespace Go.Proofs.Ytgahjibjladafaa
open Go.RowKit
set_option linter.unusedVariables false

/-- what a function that reads a report leaves -/
def RepOut (w : World) (R : List Ky.K × Bool × Nat) (x : Ending) (w' : World) : Prop := ∃ A' cap', x = .returned (.tuple #[.agg #[.slice A' R.1.length cap', .bool R.2.1], .int .i64 (R.2.2 : Nat)]) ∧ (Rd w' 1 A' R.1.length (R.1.map sv) ∧ R.1.length ≤ cap' ∧ cap' ≤ maxLen) ∧ Below w.heap.size w w'
theorem ba_drop (s : ByteArray) (n : Nat) : (s.extract n s.size).data.toList = s.data.toList.drop n := by
  rw [ByteArray.data_extract, Array.toList_extract]
  simp [List.take_of_length_le]
theorem ba_mid (s : ByteArray) (n m : Nat) : (s.extract n (n + m)).data.toList = (s.data.toList.drop n).take m := by
  rw [ByteArray.data_extract, Array.toList_extract]
  simp [List.take_drop]
theorem ba_back (s : ByteArray) : (⟨s.data.toList.toArray⟩ : ByteArray) = s := by simp
namespace Ky
theorem parseR_succ {n : Nat} {r : List UInt8} (h2 : ¬ r.length < 2) (h3 : ¬ r.length - 2 < num r) : parseR (n + 1) r = (parseR n (r.drop (2 + num r))).map fun p => ((r.drop 2).take (num r) :: p.1, p.2) := by rw [parseR, if_neg h2, if_neg h3]
theorem body_mem {ks : List K} {k : K} (h : k ∈ ks) : k.length ≤ (body ks).length := by
  obtain ⟨i, hi, rfl⟩ := List.mem_iff_getElem.1 h
  have e : body ks = body (ks.take i) ++ (two ks[i].length ++ ks[i]) ++ body (ks.drop (i + 1)) := by
    unfold body
    conv => lhs; rw [← List.take_append_drop i ks, List.drop_eq_getElem_cons hi]
    rw [List.flatMap_append, List.flatMap_cons, ← List.append_assoc]
  rw [e, List.length_append, List.length_append, List.length_append]
  omega
theorem parseR_short {n : Nat} {r : List UInt8} (h : r.length < 2 ∨ r.length - 2 < num r) : parseR (n + 1) r = none := by
  rw [parseR]
  by_cases h2 : r.length < 2
  · rw [if_pos h2]
  · rw [if_neg h2, if_pos (h.resolve_left h2)]
theorem readK_short {s : List UInt8} (h : s.length < 3) : readK s = ([], false, 4) := by unfold readK; rw [if_pos h]
theorem readK_none {s : List UInt8} (h : ¬ s.length < 3) (hp : parseR (num (s.drop 1)) (s.drop 3) = none) : readK s = ([], false, 4) := by unfold readK; rw [if_neg h, hp]
theorem readK_some {s : List UInt8} {ks : List K} {r : List UInt8} (h : ¬ s.length < 3) (hp : parseR (num (s.drop 1)) (s.drop 3) = some (ks, r)) : readK s = if (s.getD 0 0).toNat > 1 ∨ r ≠ [] ∨ rightK ks = false then ([], false, 3) else (ks, decide (s.getD 0 0 = 1), 0) := by unfold readK; rw [if_neg h, hp]
end Ky

theorem rep_exit {w V : World} {X : Nat} {T : TypeId} {a0 a1 : Value} (hk : V.heap[X]? = some (.cells #[a0, a1] T (0, 0))) (hb : Below w.heap.size w V) (hX : w.heap.size ≤ X) (v0 v1 : Value) :
    ∃ V2, V2 = (V.setCell ⟨X, 0, none⟩ v0).setCell ⟨X, 1, none⟩ v1 ∧ V2.cell? ⟨X, 0, none⟩ = some v0 ∧ V2.cell? ⟨X, 1, none⟩ = some v1 ∧ Below w.heap.size w V2 ∧ ∀ g, g ≠ X → V2.heap[g]? = V.heap[g]? := by
  have hk2 := set_blk (set_blk hk 0 v0) 1 v1
  refine ⟨_, rfl, by rw [cell_blk hk2]; rfl, by rw [cell_blk hk2]; rfl, ?_, fun g hg => ?_⟩
  · have hm2 : Mod (fun q => q = X) V ((V.setCell ⟨X, 0, none⟩ v0).setCell ⟨X, 1, none⟩ v1) := ((Mod.refl (fun q => q = X) V).setCell (p := ⟨X, 0, none⟩) (fun _ => rfl) _).setCell (p := ⟨X, 1, none⟩) (fun _ => rfl) _
    exact ((Mod.of_below hb).then hm2 (fun q _ h => by rw [h]; exact hX)).below _ (Nat.le_refl _) (fun q hq h => by omega)
  · rw [Below.heap_setCell _ ⟨X, 1, none⟩ v1 g hg, Below.heap_setCell _ ⟨X, 0, none⟩ v0 g hg]

set_option maxRecDepth 100000 in
set_option maxHeartbeats 8000000 in
theorem rread_any (w : World) (s : ByteArray) (hl : s.size < 100000) :
    Calls Try.prog 44 #[.string s] w (RepOut w (Ky.readK s.data.toList)) := by
  obtain ⟨i0, hi0, hz0, hz1, hz2⟩ := info_parts Try.infoStrR
  have hlen : s.data.toList.length = s.size := by simp
  obtain ⟨W1, X, hW1, hX, hBW, hXl, hXe⟩ := box_rep w 70 none 0 0 false
  have hXk : W1.heap[X]? = some (.cells #[.slice none 0 0, .bool false] 70 (0, 0)) := by rw [hW1, hX]; exact heap_alloc_new w _
  have HBW := Lib.hid hBW
  have HXK := Lib.hid hXk
  have HXW := Lib.hid (Nat.le_of_eq hX.symm)
  clear hBW hXk hXl hXe
  have none_out : ∀ (W2 : World) (R : Nat), Ky.readK s.data.toList = ([], false, R) → Below w.heap.size w W2 → RepOut w (Ky.readK s.data.toList) (.returned (.tuple #[.agg #[.slice none 0 0, .bool false], .int .i64 (R : Nat)])) W2 := fun W2 R h hb => by
    rw [h]
    exact ⟨none, 0, rfl, ⟨⟨rfl, fun h => by simp at h⟩, Nat.le_refl _, Nat.zero_le _⟩, hb⟩
  have HNO := Lib.hid none_out
  clear none_out
  by_cases h3 : s.size < 3
  · have hr := Ky.readK_short (s := s.data.toList) (by omega)
    have HR := Lib.hid hr
    have h3' : (s.size : Int) < 3 := by omega
    clear hr hlen
    go_enter Try.func44, Try.ntmps44
    go_upto_region 1 with fail
    rw [← hW1, ← hX]
    clear hW1 hX
    have c0 : W1.cell? ⟨X, 0, none⟩ = some (.slice none 0 0) := by rw [cell_blk HXK.out]; rfl
    have c1 : W1.cell? ⟨X, 1, none⟩ = some (.bool false) := by rw [cell_blk HXK.out]; rfl
    have f0 : W1.frozen? ⟨X, 0, none⟩ = false := free_blk HXK.out _
    have f1 : W1.frozen? ⟨X, 1, none⟩ = false := free_blk HXK.out _
    have hk2 := set_blk (set_blk HXK.out 0 (.slice none 0 0)) 1 (.bool false)
    have HK2 := Lib.hid hk2
    have hm2 : Mod (fun q => q = X) W1 ((W1.setCell ⟨X, 0, none⟩ (.slice none 0 0)).setCell ⟨X, 1, none⟩ (.bool false)) := ((Mod.refl (fun q => q = X) W1).setCell (p := ⟨X, 0, none⟩) (fun _ => rfl) _).setCell (p := ⟨X, 1, none⟩) (fun _ => rfl) _
    have HB2 := Lib.hid (((Mod.of_below HBW.out).then hm2 (fun q _ h => by rw [h]; exact HXW.out)).below _ (Nat.le_refl _) (fun q hq h => by omega) : Below w.heap.size w _)
    clear hk2 hm2
    go_wp2_with fail
    obtain ⟨W2, hW2⟩ : ∃ W2, W2 = (W1.setCell ⟨X, 0, none⟩ (.slice none 0 0)).setCell ⟨X, 1, none⟩ (.bool false) := ⟨_, rfl⟩
    rw [← hW2] at HK2 HB2 ⊢
    have d0 : W2.cell? ⟨X, 0, none⟩ = some (.slice none 0 0) := by rw [cell_blk HK2.out]; rfl
    have d1 : W2.cell? ⟨X, 1, none⟩ = some (.bool false) := by rw [cell_blk HK2.out]; rfl
    exact bodyPost_ret (v := .tuple #[.agg #[.slice none 0 0, .bool false], .int .i64 4]) (by simp [results, Try.results44, go_sem, d0, d1]) rfl (HNO.out _ 4 HR.out HB2.out)
  · have hs0 : 0 < s.size := by omega
    have h0 : (0 : Int) < (s.size : Int) := by omega
    have h3i : ¬ (s.size : Int) < 3 := by omega
    have h3j : (3 : Int) ≤ (s.size : Int) := by omega
    obtain ⟨b, hb⟩ : ∃ b, b = s[0]'hs0 := ⟨_, rfl⟩
    have hidx : ∀ W, (Instr.index 9 (.string s) (.int .i64 0)).run Try.prog W = .ok (.int .u8 b.toNat) W := fun W => by
      rw [run_index_string W _ _ _ _ Try.underlying9, dif_pos ⟨Int.le_refl _, h0⟩, hb]; rfl
    have hb0 : s.data.toList.getD 0 0 = b := by rw [hb, List.getD_eq_getElem?_getD, List.getElem?_eq_getElem (by simp; omega)]; rfl
    obtain ⟨c, hc⟩ : ∃ c : Bool, c = decide (b = 1) := ⟨_, rfl⟩
    have hcI : ((b.toNat : Int) == 1) = c := by
      rw [hc]
      by_cases h : b = 1
      · subst h; rfl
      · rw [decide_eq_false h, beq_eq_false_iff_ne]
        intro e
        exact h (UInt8.toNat_inj.1 (show b.toNat = 1 by omega))
    obtain ⟨N, hN⟩ : ∃ N, N = Ky.num (s.data.toList.drop 1) := ⟨_, rfl⟩
    have hN5 : N ≤ 65535 := by rw [hN]; exact Ky.num_le _
    have hget := get_any
    have hg1 : ∀ u, Calls Try.prog 85 #[.string (s.extract 1 s.size)] u fun x w' => x = .returned (.int .i64 (N : Int)) ∧ Below u.heap.size u w' := fun u => by
      have := get_any u (s.extract 1 s.size) (by rw [ByteArray.size_extract]; omega)
      rwa [ba_drop, ← hN] at this
    have hps : Ky.parseR N (s.extract 3 s.size).data.toList = (Ky.parseR (N - 0) (s.extract 3 s.size).data.toList).map (fun p => ([] ++ p.1, p.2)) := by simp
    have hnone := Ky.readK_none (s := s.data.toList) (by omega)
    have hsome : ∀ (ks : List Ky.K) (r : List UInt8), Ky.parseR N (s.extract 3 s.size).data.toList = some (ks, r) → Ky.readK s.data.toList = if b.toNat > 1 ∨ r ≠ [] ∨ Ky.rightK ks = false then ([], false, 3) else (ks, c, 0) := fun ks r hp => by
      have := Ky.readK_some (s := s.data.toList) (ks := ks) (r := r) (by omega) (by rw [← hN, ← ba_drop s 3]; exact hp)
      rw [hb0, ← hc] at this
      exact this
    rw [← hN, ← ba_drop s 3] at hnone
    have hrs : (s.extract 3 s.size).size ≤ s.size := by rw [ByteArray.size_extract]; omega
    have HG1 := Lib.hid hg1
    have HPS0 := Lib.hid hps
    have HNONE := Lib.hid hnone
    have HSOME := Lib.hid hsome
    have HB0 := Lib.hid hb
    have HRS := Lib.hid hrs
    have hbt := b.toNat_lt
    clear hget hg1 hps hnone hsome hb hb0 hc hN hrs hlen
    go_enter Try.func44, Try.ntmps44
    go_upto_region 1 with fail
    rw [← hW1, ← hX]
    clear hW1 hX
    go_upto_region 4 with fail
    obtain ⟨W2, hW2⟩ : ∃ W2, W2 = W1.alloc (Obj.cells #[.slice none 0 0, .bool c] 70) := ⟨_, rfl⟩
    obtain ⟨Y, hY⟩ : ∃ Y, Y = W1.heap.size := ⟨_, rfl⟩
    have hYk : W2.heap[Y]? = some (.cells #[.slice none 0 0, .bool c] 70 (0, 0)) := by rw [hW2, hY]; exact heap_alloc_new W1 _
    have hb2 : Below W1.heap.size W1 W2 := by rw [hW2]; exact (Below.refl _ _).alloc (Nat.le_refl _) _
    rw [← hW2, ← hY]
    have HYK := Lib.hid hYk
    have HXK2 := Lib.hid (blk_step HXK.out hb2)
    have HXY := Lib.hid (show X < Y ∧ Y < W2.heap.size from ⟨by rw [hY]; exact blk_lt HXK.out, blk_lt hYk⟩)
    have HB2 := Lib.hid (below_at HBW.out hb2)
    clear hW2 hY hYk hb2 hcI
    go_upto_region 5 with fail
    generalize s.extract 3 s.size = r3 at *
    go_wp2_with fail
    refine (HG1.out W2).mono ?_
    rintro x w3 ⟨rfl, b3⟩
    have HB3 := Lib.hid (below_at HB2.out b3)
    have HYK3 := Lib.hid (blk_step HYK.out b3)
    have HXK3 := Lib.hid (blk_step HXK2.out b3)
    have HY3 := Lib.hid (show Y < w3.heap.size from Nat.lt_of_lt_of_le HXY.out.2 b3.size)
    clear b3 HG1 HYK HXK2 HXK
    go_wp2_with fail
    go_loopw [5, 20] (fun v5 v20 wr => ∃ (i : Nat) (acc : List Ky.K) (r : ByteArray) (A' : Option Addr) (cap' : Nat), i ≤ N ∧ Hid (acc.length = i) ∧ r.size ≤ s.size ∧ v20 = .int .i64 i ∧ v5 = .string r ∧ Hid (Ky.parseR N r3.data.toList = (Ky.parseR (N - i) r.data.toList).map (fun p => (acc ++ p.1, p.2))) ∧
      Hid (wr.heap[Y]? = some (.cells #[.slice A' i cap', .bool c] 70 (0, 0))) ∧ Hid (Row wr 9 1 A' i cap' (acc.map sv)) ∧ Hid (∀ a, A' = some a → w3.heap.size ≤ a.block) ∧ Hid (Mod (fun q => q = Y) w3 wr)) (fun _ v _ => N - (intOf v).toNat)
    case atStart => exact ⟨0, [], r3, none, 0, Nat.zero_le _, Lib.hid rfl, HRS.out, rfl, rfl, HPS0, HYK3, Lib.hid (Row.nil _ _ _), Lib.hid (fun a h => (by cases h)), Lib.hid (Mod.refl _ _)⟩
    case round =>
      obtain ⟨i, acc, r, A', cap', hi, HAI, hrs, rfl, rfl, HPS, HY, HRW, HAT, HM⟩ := hrel
      have HX := Lib.hid ((HM.out.block X (blk_lt HXK3.out) (by have := HXY.out; omega)).trans HXK3.out)
      have HBB := Lib.hid (((Mod.of_below HB3.out).then HM.out (fun q _ h => by have := HXY.out; have := HXW.out; omega)).below _ (Nat.le_refl _) (fun q hq h => by omega) : Below w.heap.size w wr)
      by_cases hlt : i < N
      · have hrl : r.data.toList.length = r.size := by simp
        obtain ⟨m, hm⟩ : ∃ m, m = Ky.num r.data.toList := ⟨_, rfl⟩
        have hm5 : m ≤ 65535 := by rw [hm]; exact Ky.num_le _
        have hNi : N - i = (N - (i + 1)) + 1 := by omega
        have hsh : r.size < 2 ∨ r.size - 2 < m → Ky.readK s.data.toList = ([], false, 4) := fun h => HNONE.out (by
          rw [HPS.out, hNi, Ky.parseR_short (by rw [hrl, ← hm]; exact h)]; rfl)
        have hlo : ¬ r.size < 2 → ¬ r.size - 2 < m → Ky.parseR N r3.data.toList = (Ky.parseR (N - (i + 1)) (r.extract (2 + m) r.size).data.toList).map (fun p => (acc ++ [(r.extract 2 (2 + m)).data.toList] ++ p.1, p.2)) := fun h1 h2 => by
          rw [HPS.out, hNi, Ky.parseR_succ (by rw [hrl]; exact h1) (by rw [hrl, ← hm]; exact h2), Option.map_map, ba_drop, ba_mid, ← hm]
          congr 1
          funext p
          simp
        have hget : ¬ r.size < 2 → ∀ u, Calls Try.prog 85 #[.string r] u fun x w' => x = .returned (.int .i64 (m : Int)) ∧ Below u.heap.size u w' := fun h u => by
          have := get_any u r (by omega)
          rwa [← hm] at this
        have HSH := Lib.hid hsh
        have HLO := Lib.hid hlo
        have HGET := Lib.hid hget
        have k1 : (0 : Int) ≤ (i : Int) := Int.natCast_nonneg _
        have k2 : (i : Int) < (N : Int) := by omega
        clear hm hNi hsh hlo hget hrl
        by_cases hr2 : r.size < 2
        · have hnf := HSH.out (.inl hr2)
          have HNF := Lib.hid hnf
          have hr2i : (r.size : Int) < 2 := by omega
          clear hnf
          have HXe := rep_exit HX.out HBB.out HXW.out (.slice none 0 0) (.bool false)
          obtain ⟨V2, hV2, d0, d1, hbv, _⟩ := HXe
          have HV2 := Lib.hid hV2
          have HBV := Lib.hid hbv
          have c0 : wr.cell? ⟨X, 0, none⟩ = some (.slice none 0 0) := by rw [cell_blk HX.out]; rfl
          have c1 : wr.cell? ⟨X, 1, none⟩ = some (.bool false) := by rw [cell_blk HX.out]; rfl
          have f0 : wr.frozen? ⟨X, 0, none⟩ = false := free_blk HX.out _
          have f1 : wr.frozen? ⟨X, 1, none⟩ = false := free_blk HX.out _
          clear hV2 hbv
          go_wp2_with fail
          rw [← HV2.out]
          exact bodyPost_ret (v := .tuple #[.agg #[.slice none 0 0, .bool false], .int .i64 4]) (by simp [results, Try.results44, go_sem, d0, d1]) rfl (HNO.out _ 4 HNF.out HBV.out)
        · have hr2i : ¬ (r.size : Int) < 2 := by omega
          have hr2j : (2 : Int) ≤ (r.size : Int) := by omega
          go_wp2_with fail
          refine (HGET.out hr2 wr).mono ?_
          rintro x w4 ⟨rfl, b4⟩
          have HX4 := Lib.hid (blk_step HX.out b4)
          have HB4 := Lib.hid (below_at HBB.out b4)
          by_cases hsm : r.size - 2 < m
          · have hnf := HSH.out (.inr hsm)
            have HNF := Lib.hid hnf
            have hsi : (r.size : Int) - 2 < (m : Int) := by omega
            clear hnf b4
            have HXe := rep_exit HX4.out HB4.out HXW.out (.slice none 0 0) (.bool false)
            obtain ⟨V2, hV2, d0, d1, hbv, _⟩ := HXe
            have HV2 := Lib.hid hV2
            have HBV := Lib.hid hbv
            have c0 : w4.cell? ⟨X, 0, none⟩ = some (.slice none 0 0) := by rw [cell_blk HX4.out]; rfl
            have c1 : w4.cell? ⟨X, 1, none⟩ = some (.bool false) := by rw [cell_blk HX4.out]; rfl
            have f0 : w4.frozen? ⟨X, 0, none⟩ = false := free_blk HX4.out _
            have f1 : w4.frozen? ⟨X, 1, none⟩ = false := free_blk HX4.out _
            clear hV2 hbv
            go_wp2_with fail
            rw [← HV2.out]
            exact bodyPost_ret (v := .tuple #[.agg #[.slice none 0 0, .bool false], .int .i64 4]) (by simp [results, Try.results44, go_sem, d0, d1]) rfl (HNO.out _ 4 HNF.out HBV.out)
          · have hsi : ¬ (r.size : Int) - 2 < (m : Int) := by omega
            have HY4 := Lib.hid (blk_step HY.out b4)
            have HR4 := Lib.hid (row_step HRW.out b4)
            have HM4 := Lib.hid (Mod.trans HM.out (Mod.of_below_size b4 (fun q => q = Y)))
            clear b4
            go_wp2_with fail
            refine (HGET.out hr2 w4).mono ?_
            rintro x w5 ⟨rfl, b5⟩
            have HY5 := Lib.hid (blk_step HY4.out b5)
            have HR5 := Lib.hid (row_step HR4.out b5)
            have HM5 := Lib.hid (Mod.trans HM4.out (Mod.of_below_size b5 (fun q => q = Y)))
            have HPS5 := Lib.hid (HLO.out hr2 hsm)
            clear b5
            obtain ⟨q, hq⟩ : ∃ q, q = 2 + m := ⟨_, rfl⟩
            rw [← hq] at HPS5
            have hqi : (2 : Int) + (m : Int) = (q : Int) := by omega
            have hqs : (q : Int) ≤ (r.size : Int) := by omega
            have hq2 : (2 : Int) ≤ (q : Int) := by omega
            have hrs2 : (r.extract q r.size).size ≤ s.size := by rw [ByteArray.size_extract]; omega
            have hkx := ba_back (r.extract 2 q)
            obtain ⟨kx, hkxe⟩ : ∃ kx, kx = (r.extract 2 q).data.toList := ⟨_, rfl⟩
            rw [← hkxe] at hkx HPS5
            have HKX := Lib.hid hkx
            have HRS2 := Lib.hid hrs2
            have hac : i < 70000 := by omega
            clear hq hkx hkxe hrs2
            go_upto_region 10 with fail
            have hYc : ∀ u : World, u.heap[Y]? = w5.heap[Y]? → u.cell? ⟨Y, 0, none⟩ = some (.slice A' i cap') := fun u hu => by rw [cell_blk (hu.trans HY5.out)]; rfl
            have HYC := Lib.hid hYc
            have hS : w5.drew.cell? ⟨Y, 0, none⟩ = some (.slice A' i cap') := hYc _ rfl
            clear hYc
            refine wp_region_plan (by kernel_rfl) (fun u => u.cell? ⟨Y, 0, none⟩ = some (.slice A' i cap')) [6, 8] [(0, .pure), (1, .load), (2, .pure), (3, .pure), (4, .pure), (5, .eff), (6, .last), (7, .pure), (8, .last)] (by simp only [List.map_cons, List.map_nil, List.getElem?_toArray, List.getElem?_cons_succ, List.getElem?_cons_zero]; rfl) (by kernel_rfl) (fun _ _ d _ _ h => by cases d <;> exact h) (hS) ?_
            repeat (first
              | (refine plan_pure (v := ?_) (by rfl) (fun w1 => ?_) ?_
                 rotate_left
                 · go_simp <;> with_reducible rfl
                 simp only [Act.put, List.setIfInBounds_toArray, List.set_cons_zero, List.set_cons_succ])
              | (refine plan_off (by rfl) ?_
                 simp only [Act.put, List.setIfInBounds_toArray, List.set_cons_zero, List.set_cons_succ])
              | (refine plan_load_off (by rfl) ?_
                 simp only [Act.put, List.setIfInBounds_toArray, List.set_cons_zero, List.set_cons_succ])
              | (refine plan_load (v := ?_) (by rfl) (fun w1 hw1 => ?_) ?_
                 rotate_left
                 · (have q0 := hw1
                    clear hw1
                    go_simp <;> with_reducible rfl)
                 simp only [Act.put, List.setIfInBounds_toArray, List.set_cons_zero, List.set_cons_succ]))
            refine plan_eff ?_
            go_wp2_with fail
            obtain ⟨w6, hw6⟩ : ∃ w6, w6 = (w5.alloc (Obj.cells #[.string (r.extract 2 q)] 9)).drew := ⟨_, rfl⟩
            obtain ⟨Z, hZ⟩ : ∃ Z, Z = w5.heap.size := ⟨_, rfl⟩
            have hk6 : w6.heap[Z]? = some (.cells #[.string (r.extract 2 q)] 9 (0, 0)) := by rw [hw6, hZ]; exact heap_alloc_new w5 _
            have hb6 : Below w5.heap.size w5 w6 := by rw [hw6]; exact ((Below.refl _ _).alloc (Nat.le_refl _) _).drew
            rw [← hw6, ← hZ]
            have HK6 := Lib.hid hk6
            have HR6 := Lib.hid (row_step HR5.out hb6)
            have HY6 := Lib.hid (blk_step HY5.out hb6)
            have HM6 := Lib.hid (Mod.trans HM5.out (Mod.of_below_size hb6 (fun q => q = Y)))
            have hS6 : w6.cell? ⟨Y, 0, none⟩ = some (.slice A' i cap') := by rw [cell_blk HY6.out]; rfl
            clear hw6 hZ hk6 hb6 hS
            refine plan_on (fun _ h => h) hS6 ?_
            refine plan_last ?_
            refine wpList_append_row (by rfl) _ _ _ (by rfl) 9 i0 _ 1 16 Try.underlying67 hi0 hz0 hz1 hz2 rfl (by omega) A' i cap' (acc.map sv) (by rfl) HR6.out ⟨Z, 0, none⟩ 1 1 [.string (r.extract 2 q)] (by rfl) (by rfl) (World.news_of_block (cs := #[.string (r.extract 2 q)]) (t := 9) (fr := (0, 0)) HK6.out) (by simp [Value.oneCell']) (by omega) (by unfold maxLen; omega) (by omega) ?_
            intro g1 of1 cap1 w7 hown hmm hat
            have hz : (acc ++ [kx]).length = i + 1 := by rw [List.length_append, HAI.out]; rfl
            have hr7 : Row w7 9 1 (some ⟨g1, of1, none⟩) (i + 1) cap1 ((acc ++ [kx]).map sv) := by
              rw [List.map_append]; simpa [sv, HKX.out] using hown
            have hgn : w3.heap.size ≤ g1 := by
              rcases hat with ⟨a, e1, e2⟩ | h
              · have := HAT.out a e1; omega
              · exact Nat.le_trans HM6.out.size h
            have hgY : g1 ≠ Y := by have := HY3.out; omega
            have hm7 : Mod (fun q => q = Y) w3 w7 := (HM6.out).then hmm (fun q hq ⟨a, e1, e2⟩ => by have := HAT.out a e1; omega)
            have hy7 : w7.heap[Y]? = some (.cells #[.slice A' i cap', .bool c] 70 (0, 0)) := (hmm.block Y (blk_lt HY6.out) (fun ⟨a, e1, e2⟩ => by have := HAT.out a e1; have := HY3.out; omega)).trans HY6.out
            have c7 : w7.cell? ⟨Y, 0, none⟩ = some (.slice A' i cap') := by rw [cell_blk hy7]; rfl
            have f7 : w7.frozen? ⟨Y, 0, none⟩ = false := free_blk hy7 _
            have hy8 := set_blk hy7 0 (.slice (some ⟨g1, of1, none⟩) (i + 1) cap1)
            have hr8 := hr7.mod ((Mod.refl (fun q => q = Y) w7).setCell (p := ⟨Y, 0, none⟩) (fun _ => rfl) (.slice (some ⟨g1, of1, none⟩) (i + 1) cap1)) (fun a ha h => by injection ha with ha; subst ha; exact hgY h)
            have hm8 := Mod.setCell hm7 (p := ⟨Y, 0, none⟩) (fun _ => rfl) (.slice (some ⟨g1, of1, none⟩) (i + 1) cap1)
            have HZ := Lib.hid hz
            have HY8 := Lib.hid hy8
            have HR8 := Lib.hid hr8
            have HM8 := Lib.hid hm8
            have HGN := Lib.hid hgn
            clear hown hmm hat hz hr7 hgn hgY hm7 hy7 hy8 hr8 hm8 hS6
            go_wp2_with fail
            repeat (first
              | (refine plan_pure (v := ?_) (by rfl) (fun w1 => ?_) ?_
                 rotate_left
                 · go_simp <;> with_reducible rfl
                 simp only [Act.put, List.setIfInBounds_toArray, List.set_cons_zero, List.set_cons_succ])
              | (refine plan_off (by rfl) ?_
                 simp only [Act.put, List.setIfInBounds_toArray, List.set_cons_zero, List.set_cons_succ])
              | (refine plan_load_off (by rfl) ?_
                 simp only [Act.put, List.setIfInBounds_toArray, List.set_cons_zero, List.set_cons_succ])
              | (refine plan_load (v := ?_) (by rfl) (fun w1 hw1 => ?_) ?_
                 rotate_left
                 · (skip
                    clear hw1
                    go_simp <;> with_reducible rfl)
                 simp only [Act.put, List.setIfInBounds_toArray, List.set_cons_zero, List.set_cons_succ]))
            refine plan_last ?_
            go_wp2_with fail
            refine plan_end ?_
            go_wp2_with fail
            go_roundw
            case rel => exact ⟨i + 1, acc ++ [kx], r.extract q r.size, some ⟨g1, of1, none⟩, cap1, by omega, HZ, HRS2.out, by go_num, rfl, HPS5, Lib.hid (by exact HY8.out), Lib.hid (by exact HR8.out), Lib.hid (fun a ha => by injection ha with ha; subst ha; exact HGN.out), HM8⟩
            case measure => simp [intOf]; omega
      · have hiN : i = N := by omega
        have hp : Ky.parseR N r3.data.toList = some (acc, r.data.toList) := by
          rw [HPS.out, hiN, Nat.sub_self]
          simp [Ky.parseR]
        have hres := HSOME.out acc r.data.toList hp
        have hkl : ∀ k ∈ acc, k.length < 100000 := fun k hk => by
          have h1 := (Ky.body_parse _ _ _ _ hp).1
          have h2 := Ky.body_mem hk
          have h3 : r3.data.toList.length = (Ky.body acc).length + r.data.toList.length := by rw [h1, List.length_append]
          have h4 : r3.data.toList.length = r3.size := by simp
          have := HRS.out
          omega
        have hright : ∀ u, Below wr.heap.size wr u → Calls Try.prog 47 #[.agg #[.slice A' i cap', .bool c]] u fun x w' => x = .returned (.bool (Ky.rightK acc)) ∧ Below u.heap.size u w' := fun u hu => by
          have := rright_any u A' cap' acc c (by rw [HAI.out]; exact (row_step HRW.out hu).rd) (by rw [HAI.out]; omega) hkl
          rwa [HAI.out] at this
        have hN := hiN
        have HRES := Lib.hid hres
        have HRIGHT := Lib.hid hright
        have HIN := Lib.hid hiN
        have hni : ¬ (i : Int) < (N : Int) := by omega
        clear hp hres hkl hright hiN hN
        by_cases hb1 : 1 < b.toNat
        · have hbi : (1 : Int) < (b.toNat : Int) := by omega
          have hbd : decide (1 < b.toNat) = true := by simpa using hb1
          have hnf : Ky.readK s.data.toList = ([], false, 3) := by rw [HRES.out, if_pos (.inl hb1)]
          have HNF := Lib.hid hnf
          clear hnf
          have HXe := rep_exit HX.out HBB.out HXW.out (.slice none 0 0) (.bool false)
          obtain ⟨V2, hV2, d0, d1, hbv, hoth⟩ := HXe
          have HV2 := Lib.hid hV2
          have HBV := Lib.hid hbv
          have HOTH := Lib.hid hoth
          have c0 : wr.cell? ⟨X, 0, none⟩ = some (.slice none 0 0) := by rw [cell_blk HX.out]; rfl
          have c1 : wr.cell? ⟨X, 1, none⟩ = some (.bool false) := by rw [cell_blk HX.out]; rfl
          have f0 : wr.frozen? ⟨X, 0, none⟩ = false := free_blk HX.out _
          have f1 : wr.frozen? ⟨X, 1, none⟩ = false := free_blk HX.out _
          clear hV2 hbv hoth
          go_wp2_with fail
          rw [← HV2.out]
          exact bodyPost_ret (v := .tuple #[.agg #[.slice none 0 0, .bool false], .int .i64 3]) (by simp [results, Try.results44, go_sem, d0, d1]) rfl (HNO.out _ 3 HNF.out HBV.out)
        · have hbi : ¬ (1 : Int) < (b.toNat : Int) := by omega
          have hbd : decide (1 < b.toNat) = false := by simpa using hb1
          by_cases hre : r.data.toList = []
          · have he : r.toList.isEmpty = true := by rw [ByteArray.toList_eq, hre]; rfl
            have hrr : r = ⟨#[]⟩ := ByteArray.ext (by rw [← Array.toList_inj]; exact hre)
            have HRE := Lib.hid hre
            have cY0 : wr.cell? ⟨Y, 0, none⟩ = some (.slice A' i cap') := by rw [cell_blk HY.out]; rfl
            have cY1 : wr.cell? ⟨Y, 1, none⟩ = some (.bool c) := by rw [cell_blk HY.out]; rfl
            have HC := Lib.hid (HRIGHT.out wr (Below.refl _ _))
            obtain ⟨rk, hrk⟩ : ∃ rk, rk = Ky.rightK acc := ⟨_, rfl⟩
            rw [← hrk] at HC
            have HRK := Lib.hid hrk
            clear hre hrk hrr
            go_wp2_with fail
            refine HC.out.mono ?_
            rintro x w4 ⟨rfl, b4⟩
            have HX4 := Lib.hid (blk_step HX.out b4)
            have HY4 := Lib.hid (blk_step HY.out b4)
            have HR4 := Lib.hid (row_step HRW.out b4)
            have HB4 := Lib.hid (below_at HBB.out b4)
            clear b4 cY0 cY1
            cases rk with
            | false =>
              have hnf : Ky.readK s.data.toList = ([], false, 3) := by rw [HRES.out, if_pos (.inr (.inr HRK.out.symm))]
              have HNF := Lib.hid hnf
              clear hnf
              have HXe := rep_exit HX4.out HB4.out HXW.out (.slice none 0 0) (.bool false)
              obtain ⟨V2, hV2, d0, d1, hbv, hoth⟩ := HXe
              have HV2 := Lib.hid hV2
              have HBV := Lib.hid hbv
              have HOTH := Lib.hid hoth
              have c0 : w4.cell? ⟨X, 0, none⟩ = some (.slice none 0 0) := by rw [cell_blk HX4.out]; rfl
              have c1 : w4.cell? ⟨X, 1, none⟩ = some (.bool false) := by rw [cell_blk HX4.out]; rfl
              have f0 : w4.frozen? ⟨X, 0, none⟩ = false := free_blk HX4.out _
              have f1 : w4.frozen? ⟨X, 1, none⟩ = false := free_blk HX4.out _
              clear hV2 hbv hoth
              go_wp2_with fail
              rw [← HV2.out]
              exact bodyPost_ret (v := .tuple #[.agg #[.slice none 0 0, .bool false], .int .i64 3]) (by simp [results, Try.results44, go_sem, d0, d1]) rfl (HNO.out _ 3 HNF.out HBV.out)
            | true =>
              have hyf : Ky.readK s.data.toList = (acc, c, 0) := by rw [HRES.out, if_neg (by rw [HRE.out, ← HRK.out]; simp; omega)]
              have HYF := Lib.hid hyf
              have cY0 : w4.cell? ⟨Y, 0, none⟩ = some (.slice A' i cap') := by rw [cell_blk HY4.out]; rfl
              have cY1 : w4.cell? ⟨Y, 1, none⟩ = some (.bool c) := by rw [cell_blk HY4.out]; rfl
              clear hyf
              have HXe := rep_exit HX4.out HB4.out HXW.out (.slice A' i cap') (.bool c)
              obtain ⟨V2, hV2, d0, d1, hbv, hoth⟩ := HXe
              have HV2 := Lib.hid hV2
              have HBV := Lib.hid hbv
              have HOTH := Lib.hid hoth
              have c0 : w4.cell? ⟨X, 0, none⟩ = some (.slice none 0 0) := by rw [cell_blk HX4.out]; rfl
              have c1 : w4.cell? ⟨X, 1, none⟩ = some (.bool false) := by rw [cell_blk HX4.out]; rfl
              have f0 : w4.frozen? ⟨X, 0, none⟩ = false := free_blk HX4.out _
              have f1 : w4.frozen? ⟨X, 1, none⟩ = false := free_blk HX4.out _
              clear hV2 hbv hoth
              go_wp2_with fail
              rw [← HV2.out]
              refine bodyPost_ret (v := .tuple #[.agg #[.slice A' i cap', .bool c], .int .i64 0]) (by simp [results, Try.results44, go_sem, d0, d1]) rfl ?_
              rw [HYF.out]
              have hr2 := HR4.out.move (w' := V2) (fun a ha => HOTH.out a.block (by have := HAT.out a ha; have := HXY.out; have := HY3.out; omega))
              exact ⟨A', cap', by simp only [HAI.out]; rfl, by simp only [HAI.out]; exact ⟨hr2.rd, hr2.2.1, hr2.2.2.1⟩, HBV.out⟩
          · have he : r.toList.isEmpty = false := by rw [ByteArray.toList_eq]; cases hx : r.data.toList with
              | nil => exact (hre hx).elim
              | cons _ _ => rfl
            have hnf : Ky.readK s.data.toList = ([], false, 3) := by rw [HRES.out, if_pos (.inr (.inl hre))]
            have HNF := Lib.hid hnf
            clear hnf hre
            have HXe := rep_exit HX.out HBB.out HXW.out (.slice none 0 0) (.bool false)
            obtain ⟨V2, hV2, d0, d1, hbv, hoth⟩ := HXe
            have HV2 := Lib.hid hV2
            have HBV := Lib.hid hbv
            have HOTH := Lib.hid hoth
            have c0 : wr.cell? ⟨X, 0, none⟩ = some (.slice none 0 0) := by rw [cell_blk HX.out]; rfl
            have c1 : wr.cell? ⟨X, 1, none⟩ = some (.bool false) := by rw [cell_blk HX.out]; rfl
            have f0 : wr.frozen? ⟨X, 0, none⟩ = false := free_blk HX.out _
            have f1 : wr.frozen? ⟨X, 1, none⟩ = false := free_blk HX.out _
            clear hV2 hbv hoth
            go_wp2_with fail
            rw [← HV2.out]
            exact bodyPost_ret (v := .tuple #[.agg #[.slice none 0 0, .bool false], .int .i64 3]) (by simp [results, Try.results44, go_sem, d0, d1]) rfl (HNO.out _ 3 HNF.out HBV.out)
end Go.Proofs.Ytgahjibjladafaa
