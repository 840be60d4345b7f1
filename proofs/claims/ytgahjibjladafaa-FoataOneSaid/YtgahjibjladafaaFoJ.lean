/- Reading events. -/
import Derived.Test.YtgahjibjladafaaFoH
import Derived.Lib.ConvBytes
namespace Go.Proofs.Ytgahjibjladafaa
open Go.RowKit
set_option linter.unusedVariables false

/-- the events that bytes may be -/
def evsB (bs : List UInt8) : List Ev := bs.map fun b => Fo.evOf b.toNat
theorem evsB_take {bs : List UInt8} {k : Nat} (hk : k < bs.length) : evsB (bs.take (k + 1)) = evsB (bs.take k) ++ [Fo.evOf bs[k].toNat] := by
  unfold evsB
  rw [List.take_add_one, List.getElem?_eq_getElem hk, List.map_append]
  rfl
theorem evsB_len (bs : List UInt8) : (evsB bs).length = bs.length := by unfold evsB; simp
theorem evs_eq (bs : List UInt8) : Fo.evs bs = if Fo.rights (evsB bs) = true then some (evsB bs) else none := rfl
theorem rights_snoc (l : List Ev) (e : Ev) : Fo.rights (l ++ [e]) = (Fo.rights l && Fo.right e) := by unfold Fo.rights; rw [List.all_append]; simp
theorem rights_mem {l : List Ev} {e : Ev} (h : e ∈ l) (hf : Fo.right e = false) : Fo.rights l = false := by
  unfold Fo.rights
  rw [List.all_eq_false]
  exact ⟨e, h, by simp [hf]⟩

theorem Try.infoEv : (Try.prog.info? 39).map (fun i => (i.zero, i.size, i.bytes)) = some (some (.agg #[.int .i64 0, .int .i64 0, .int .i64 0, .bool false]), 4, 32) := by kernel_rfl

theorem evOf_nums (n : Nat) (h : n < 256) : (wrap64 (n : Int)).tmod 4 = (Fo.evOf n).t ∧ (wrap64 ((wrap64 (n : Int)).tdiv 4)).tmod 8 = (Fo.evOf n).k ∧ (wrap64 ((wrap64 (n : Int)).tdiv 32)).tmod 4 = (Fo.evOf n).o ∧ decide (128 ≤ wrap64 (n : Int)) = (Fo.evOf n).f := by
  have e0 : wrap64 (n : Int) = n := by unfold wrap64; omega
  have e1 : (n : Int).tdiv 4 = ((n / 4 : Nat) : Int) := by rw [Int.tdiv_eq_ediv_of_nonneg (by omega)]; omega
  have e2 : (n : Int).tdiv 32 = ((n / 32 : Nat) : Int) := by rw [Int.tdiv_eq_ediv_of_nonneg (by omega)]; omega
  have e3 : wrap64 ((n / 4 : Nat) : Int) = ((n / 4 : Nat) : Int) := by unfold wrap64; omega
  have e4 : wrap64 ((n / 32 : Nat) : Int) = ((n / 32 : Nat) : Int) := by unfold wrap64; omega
  rw [e0, e1, e2, e3, e4, Int.tmod_eq_emod_of_nonneg (by omega), Int.tmod_eq_emod_of_nonneg (by omega), Int.tmod_eq_emod_of_nonneg (by omega)]
  unfold Fo.evOf
  refine ⟨by simp only; omega, by simp only; omega, by simp only; omega, ?_⟩
  simp only
  rw [decide_eq_decide]
  omega

set_option maxRecDepth 100000 in
set_option maxHeartbeats 2000000 in
theorem refReadE_any (w : World) (s : ByteArray) (hl : s.size < 1000000) :
    Calls Try.prog 67 #[.string s] w fun x w' => (∃ A cap l, Fo.evs s.data.toList = some l ∧ x = .returned (.tuple #[.slice A l.length cap, .bool true]) ∧ Row w' 39 4 A l.length cap (l.flatMap encE) ∧ (∀ a, A = some a → w.heap.size ≤ a.block) ∧ Below w.heap.size w w') ∨
      (Fo.evs s.data.toList = none ∧ x = .returned (.tuple #[.slice none 0 0, .bool false]) ∧ Below w.heap.size w w') := by
  obtain ⟨i0, hi0, hz0, hz1, hz2⟩ := info_parts Try.infoEv
  obtain ⟨bs, hbs⟩ : ∃ bs, bs = s.data.toList := ⟨_, rfl⟩
  have hsz : s.size = bs.length := by rw [hbs]; simp
  have hat : ∀ k, (hk : k < bs.length) → s.data[k]? = some bs[k] := fun k hk => by subst hbs; simp
  rw [← hbs]
  have HAT := Lib.hid hat
  clear hat hbs
  go_enter Try.func67, Try.ntmps67
  go_wp2_with fail
  go_loopw [4, 5] (fun v4 v wr => ∃ (k : Nat) (A' : Option Addr) (cap' : Nat), k ≤ bs.length ∧ v = .int .i64 k ∧ v4 = .slice A' k cap' ∧ Hid (Fo.rights (evsB (bs.take k)) = true) ∧ Hid (Row wr 39 4 A' k cap' ((evsB (bs.take k)).flatMap encE)) ∧ Hid (∀ a, A' = some a → w.heap.size ≤ a.block) ∧ Below w.heap.size w wr) (fun _ v _ => bs.length - (intOf v).toNat)
  case atStart => exact ⟨0, none, 0, Nat.zero_le _, rfl, rfl, Lib.hid rfl, Lib.hid (Row.nil _ _ _), Lib.hid (fun a h => (by cases h)), Below.refl _ _⟩
  case round =>
    obtain ⟨k, A', cap', hk, rfl, rfl, HRT, HRW, HA, hb⟩ := hrel
    by_cases hlt : k < bs.length
    · have hks : k < s.size := by omega
      have k1 : (0 : Int) ≤ (k : Int) := Int.natCast_nonneg _
      have k2 : (k : Int) < (s.size : Int) := by omega
      go_upto_region 7 with fail
      obtain ⟨r1, r2, r3, r4⟩ := evOf_nums (s[k]'hks).toNat (UInt8.toNat_lt _)
      have hkb : Fo.evOf (s[k]'hks).toNat = Fo.evOf bs[k].toNat := by
        have := HAT.out k hlt
        have h2 : s.data[k]? = some (s[k]'hks) := by simp [ByteArray.getElem_eq_getElem_data]
        rw [h2] at this
        injection this with this
        rw [this]
      rw [hkb] at r1 r2 r3 r4
      have htk := evsB_take hlt
      have hmem : Fo.evOf bs[k].toNat ∈ evsB bs := List.mem_map.2 ⟨bs[k], List.getElem_mem hlt, rfl⟩
      generalize Fo.evOf bs[k].toNat = e at *
      rw [r1, r2, r3, r4]
      obtain ⟨X, hX⟩ : ∃ X, X = wr.heap.size := ⟨_, rfl⟩
      obtain ⟨W1, hW1⟩ : ∃ W1, W1 = wr.alloc (Obj.cells #[.int .i64 e.t, .int .i64 e.k, .int .i64 e.o, .bool e.f] 39) := ⟨_, rfl⟩
      have t1 : Below wr.heap.size wr W1 := by rw [hW1]; exact (Below.refl _ _).alloc (Nat.le_refl _) _
      have hk1 : W1.heap[X]? = some (.cells #[.int .i64 e.t, .int .i64 e.k, .int .i64 e.o, .bool e.f] 39 (0, 0)) := by rw [hW1, hX]; exact heap_alloc_new wr _
      have c0 : W1.cell? ⟨X, 0, none⟩ = some (.int .i64 e.t) := by rw [cell_blk hk1]; rfl
      have c1 : W1.cell? ⟨X, 1, none⟩ = some (.int .i64 e.k) := by rw [cell_blk hk1]; rfl
      have c2 : W1.cell? ⟨X, 2, none⟩ = some (.int .i64 e.o) := by rw [cell_blk hk1]; rfl
      have c3 : W1.cell? ⟨X, 3, none⟩ = some (.bool e.f) := by rw [cell_blk hk1]; rfl
      rw [← hW1, ← hX]
      have hcall := refRight_any W1 e
      obtain ⟨b, hbb⟩ : ∃ b, b = Fo.right e := ⟨_, rfl⟩
      rw [← hbb] at hcall
      unfold valE at hcall
      have HCALL := Lib.hid hcall
      have HK1 := Lib.hid hk1
      have T1 := Lib.hid t1
      have HX := Lib.hid hX
      have HB := Lib.hid hb
      have HBB := Lib.hid hbb
      have HTK := Lib.hid htk
      have HMEM := Lib.hid hmem
      clear hW1 hX t1 hk1 hb hbb hcall r1 r2 r3 r4 hkb htk hmem
      go_wp2_with fail
      refine HCALL.out.mono ?_
      rintro x w1 ⟨rfl, b1⟩
      have hb2 : Below w.heap.size w w1 := below_at (below_at HB.out T1.out) b1
      have hk2 := (b1.block X (blk_lt HK1.out)).trans HK1.out
      have d0 : w1.cell? ⟨X, 0, none⟩ = some (.int .i64 e.t) := by rw [cell_blk hk2]; rfl
      have d1 : w1.cell? ⟨X, 1, none⟩ = some (.int .i64 e.k) := by rw [cell_blk hk2]; rfl
      have d2 : w1.cell? ⟨X, 2, none⟩ = some (.int .i64 e.o) := by rw [cell_blk hk2]; rfl
      have d3 : w1.cell? ⟨X, 3, none⟩ = some (.bool e.f) := by rw [cell_blk hk2]; rfl
      have hr1 : Row w1 39 4 A' k cap' ((evsB (bs.take k)).flatMap encE) := (HRW.out.mod (Mod.of_below_size T1.out (fun _ => False)) (fun _ _ h => h)).mod (Mod.of_below_size b1 (fun _ => False)) (fun _ _ h => h)
      have HR1 := Lib.hid hr1
      have HB2 := Lib.hid hb2
      clear b1 hb2 hr1 c0 c1 c2 c3 hk2
      cases b with
      | false =>
        go_wp2_with fail
        go_ret2
        exact .inr ⟨by rw [evs_eq, if_neg (by rw [rights_mem HMEM.out HBB.out.symm]; simp)], rfl, HB2.out⟩
      | true =>
        go_wp2_with (at_builtin; refine wpList_append_row (by rfl) _ _ _ (by rfl) 39 i0 _ 4 32 Try.underlying22 hi0 hz0 hz1 hz2 rfl (by omega) A' k cap' ((evsB (bs.take k)).flatMap encE) (by rfl) (HR1.out.alloc _) ⟨w1.heap.size, 0, none⟩ 1 1 [.int .i64 e.t, .int .i64 e.k, .int .i64 e.o, .bool e.f] (by rfl) (by rfl) (World.news_of_block (cs := #[.int .i64 e.t, .int .i64 e.k, .int .i64 e.o, .bool e.f]) (t := 39) (fr := (0, 0)) (heap_alloc_new w1 _)) (by simp [Value.oneCell']) (by omega) (by unfold maxLen; omega) (by omega) ?_; intro g1 of1 cap1 w3 hown hm hat; skip)
        obtain ⟨q1, q2⟩ := acc_more HA.out HB2.out hm hat (of := of1)
        have hr3 : Row w3 39 4 (some ⟨g1, of1, none⟩) (k + 1) cap1 ((evsB (bs.take (k + 1))).flatMap encE) := by
          rw [HTK.out, List.flatMap_append]; simpa [encE] using hown
        go_roundw
        case rel => exact ⟨k + 1, some ⟨g1, of1, none⟩, cap1, by omega, by go_num, rfl, Lib.hid (by rw [HTK.out, rights_snoc, HRT.out, ← HBB.out]; rfl), Lib.hid hr3, Lib.hid q1, q2⟩
        case measure => simp [intOf]; omega
    · have hkn : k = bs.length := by omega
      have hks : ¬ k < s.size := by omega
      have HK := Lib.hid hkn
      have HB := Lib.hid hb
      clear hkn hb
      go_wp2_with fail
      go_ret2
      have h1 := HRT.out
      have h2 := HRW.out
      rw [HK.out, List.take_length] at h1 h2
      have hl2 := evsB_len bs
      exact .inl ⟨A', cap', evsB bs, by rw [evs_eq, if_pos h1], by rw [hl2, ← HK.out]; rfl, by rw [hl2]; exact h2, HA.out, HB.out⟩
end Go.Proofs.Ytgahjibjladafaa
