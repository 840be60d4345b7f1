/- awake: what the document fixes; the statement of the nil mailboxes. -/
import Derived.Test.YtedogccbndjdpaaMailB
namespace Go.Proofs.Ytedogccbndjdpaa
open Go.RowKit
set_option linter.unusedVariables false

theorem Boxes.below {w w' : World} {F : Nat → Prop} {B : Nat} {ls : List (List Ltr)} (h : Boxes w F B ls) (hb : Below w.heap.size w w') : Boxes w' F B ls :=
  ((h.foot (G := fun k => F k ∧ k < w.heap.size) (fun k h1 h2 => ⟨h1, h2⟩)).mod (Mod.of_below hb) (fun k h1 h2 => by omega)).foot (fun k h _ => h.1)
theorem below_tail {a b c : World} {n : Nat} (h : Below n a b) (k : Below b.heap.size b c) (hn : n ≤ b.heap.size) : Below n a c := h.trans ⟨k.os, k.tape, k.output, k.size, fun i hi => k.block i (by omega)⟩

/-- all that belongs to the boxes lies from 'base' on -/
theorem send_own (base : Nat) (w : World) (hb : base ≤ w.heap.size) (B : Nat) (ls : List (List Ltr)) (to : Nat) (p : ByteArray) (s : Nat) (hB : Boxes w (fun k => base ≤ k) B ls) (hto : to < ls.length) (htot : totL ls < 1000000) :
    Calls Try.prog 14 #[.pointer (some ⟨B, 0, none⟩), .int .i64 to, .agg #[.string p, .int .u8 s]] w fun e w' => e = .returned (.int .i64 0) ∧ Boxes w' (fun k => base ≤ k) B (ls.set to (ls[to] ++ [(p, s)])) ∧ Below base w w' :=
  (send_in w _ B ls to p s hB hto htot).mono fun e w' ⟨h1, h2, h3⟩ => ⟨h1, h2.foot (fun k h _ => by rcases h with h | h <;> omega), h3.below base hb (fun k hk h => by omega)⟩
theorem take_own (base : Nat) (w : World) (hb : base ≤ w.heap.size) (B : Nat) (ls : List (List Ltr)) (hB : Boxes w (fun k => base ≤ k) B ls) (i : Nat) (hi : i < ls.length) (p : ByteArray) (s : Nat) (r : List Ltr) (he : ls[i] = (p, s) :: r) (htot : totL ls < 1000000) :
    Calls Try.prog 15 #[.pointer (some ⟨B, 0, none⟩), .int .i64 i] w fun e w' => e = .returned (.tuple #[.agg #[.string p, .int .u8 s], .bool true]) ∧ Boxes w' (fun k => base ≤ k) B (ls.set i r) ∧ Below base w w' :=
  (take_some w _ B ls hB i hi p s r he htot).mono fun e w' ⟨h1, h2, h3⟩ => ⟨h1, h2.foot (fun k h _ => by rcases h with h | h <;> omega), h3.below base hb (fun k hk h => by omega)⟩

set_option maxRecDepth 100000 in
theorem awake12 (w : World) :
    Calls Try.prog 12 #[] w fun e w' => e = .returned (.bool true) ∧ Below w.heap.size w w' := by
  obtain ⟨base, hbase⟩ : ∃ base, base = w.heap.size := ⟨_, rfl⟩
  rw [← hbase]
  go_enter Try.func12, Try.ntmps12
  go_wp2_with fail
  refine (new_good 2 _ (by omega) (by omega)).mono ?_
  rintro e w1 ⟨B, rfl, hB1, hb1⟩
  rw [← hbase] at hB1 hb1
  have z1 := hb1.size
  have z0 : base ≤ w1.heap.size := by omega
  clear hbase z1
  go_wp2_with fail
  refine (new_bad 0 _ (.inl (by omega))).mono ?_
  rintro e w' ⟨rfl, rfl⟩
  go_wp2_with fail
  refine (send_own base w1 z0 B _ 1 _ 3 hB1 (by simp) (by simp [totL])).mono ?_
  rintro e w2 ⟨rfl, hB2, hb2⟩
  simp only [List.replicate, List.getElem_cons_succ, List.getElem_cons_zero, List.nil_append, List.set_cons_succ, List.set_cons_zero] at hB2
  have b2 := hb1.trans hb2
  have z2 : base ≤ w2.heap.size := Nat.le_trans z0 hb2.size
  clear hB1 hb1 hb2 z0
  go_wp2_with fail
  refine (send_out w2 _ B _ hB2 2 (.inr (by simp)) _ 0).mono ?_
  rintro e w3 ⟨rfl, hb3⟩
  have hB3 := hB2.below hb3
  have b3 := below_tail b2 hb3 z2
  have z3 : base ≤ w3.heap.size := Nat.le_trans z2 hb3.size
  clear hB2 hb3 b2 z2
  go_wp2_with fail
  refine (send_own base w3 z3 B _ 1 _ 0 hB3 (by simp) (by simp [totL])).mono ?_
  rintro e w4 ⟨rfl, hB4, hb4⟩
  simp only [List.getElem_cons_succ, List.getElem_cons_zero, List.nil_append, List.set_cons_succ, List.set_cons_zero, List.cons_append] at hB4
  have b4 := b3.trans hb4
  have z4 : base ≤ w4.heap.size := Nat.le_trans z3 hb4.size
  clear hB3 hb4 b3 z3
  go_wp2_with fail
  refine (take_none w4 _ B _ hB4 0 (by simp [boxLen])).mono ?_
  rintro e w5 ⟨rfl, hb5⟩
  have hB5 := hB4.below hb5
  have b5 := below_tail b4 hb5 z4
  have z5 : base ≤ w5.heap.size := Nat.le_trans z4 hb5.size
  clear hB4 hb5 b4 z4
  go_wp2_with fail
  have a5 : Below w5.heap.size w5 (w5.alloc (Obj.cells #[.string ⟨#[]⟩, .int .u8 0] 34)) := (Below.refl _ _).alloc (Nat.le_refl _) _
  refine (take_own base _ (Nat.le_trans z5 a5.size) B _ (hB5.below a5) 1 (by simp) _ 3 _ (by rfl) (by simp [totL])).mono ?_
  rintro e w6 ⟨rfl, hB6, hb6⟩
  simp only [List.set_cons_succ, List.set_cons_zero] at hB6
  have b6 := (below_tail b5 a5 z5).trans hb6
  have z6 : base ≤ w6.heap.size := Nat.le_trans (Nat.le_trans z5 a5.size) hb6.size
  clear hB5 hb6 b5 z5 a5
  have L1 := fun (u : World) (h : Below w6.heap.size w6 u) => len_any u _ B _ (hB6.below h) 1
  have T1 := fun (u : World) (h : Below w6.heap.size w6 u) => total_any u _ B _ (hB6.below h)
  have a6 := fun o => (Below.refl w6.heap.size w6).alloc (Nat.le_refl _) o
  go_wp2_with fail
  refine (L1 _ (a6 _)).mono ?_
  rintro e w7 ⟨rfl, rfl⟩
  go_wp2_with fail
  refine (T1 _ (a6 _)).mono ?_
  rintro e w7 ⟨rfl, rfl⟩
  go_wp2_with fail
  go_ret
  exact ⟨by simp [totL], below_tail b6 (a6 _) z6⟩
end Go.Proofs.Ytedogccbndjdpaa
