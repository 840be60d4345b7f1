/- Mailboxes: the other methods. -/
import Derived.Test.YtedogccbndjdpaaMailA
namespace Go.Proofs.Ytedogccbndjdpaa
open Go.RowKit
set_option linter.unusedVariables false

theorem send_nil (w : World) (to : Int) (p : ByteArray) (s : Nat) :
    Calls Try.prog 14 #[.pointer none, .int .i64 to, .agg #[.string p, .int .u8 s]] w fun e w' => e = .returned (.int .i64 8) ∧ Below w.heap.size w w' := by
  go_enter Try.func14, Try.ntmps14
  go_wp2
  go_ret
  exact ⟨rfl, (Below.refl _ _).alloc (Nat.le_refl _) _⟩

theorem send_out (w : World) (F : Nat → Prop) (B : Nat) (ls : List (List Ltr)) (hB : Boxes w F B ls) (to : Int) (hto : to < 0 ∨ (ls.length : Int) ≤ to) (p : ByteArray) (s : Nat) :
    Calls Try.prog 14 #[.pointer (some ⟨B, 0, none⟩), .int .i64 to, .agg #[.string p, .int .u8 s]] w fun e w' => e = .returned (.int .i64 2) ∧ Below w.heap.size w w' := by
  obtain ⟨L, vals, hFB, hFL, hb, hl, hN⟩ := hB
  have lB := blk_lt hb
  have c0 : w.cell? ⟨B, 0, none⟩ = some (.slice (some ⟨L, 0, none⟩) ls.length ls.length) := by rw [cell_blk hb]; rfl
  have c0' : ∀ o, (w.alloc o).cell? ⟨B, 0, none⟩ = some (.slice (some ⟨L, 0, none⟩) ls.length ls.length) := fun o => by rw [← c0]; exact World.cell?_of_block (heap_alloc_old w _ lB)
  have HN := Lib.hid hN; clear hN hb hl
  by_cases h0 : to < 0
  · go_enter Try.func14, Try.ntmps14
    go_wp2
    go_ret
    exact ⟨rfl, (Below.refl _ _).alloc (Nat.le_refl _) _⟩
  · have h1 : (ls.length : Int) ≤ to := by omega
    go_enter Try.func14, Try.ntmps14
    go_wp2
    go_ret
    exact ⟨rfl, (Below.refl _ _).alloc (Nat.le_refl _) _⟩

theorem len_nil (w : World) (i : Int) :
    Calls Try.prog 17 #[.pointer none, .int .i64 i] w fun e w' => e = .returned (.int .i64 0) ∧ w = w' := by
  go_enter Try.func17, Try.ntmps17
  go_wp2
  go_ret
  exact ⟨rfl, rfl⟩
theorem len_out (w : World) (B L n c : Nat) (i : Int) (hl : w.cell? ⟨B, 0, none⟩ = some (.slice (some ⟨L, 0, none⟩) n c)) (hi : i < 0 ∨ (n : Int) ≤ i) :
    Calls Try.prog 17 #[.pointer (some ⟨B, 0, none⟩), .int .i64 i] w fun e w' => e = .returned (.int .i64 0) ∧ w = w' := by
  by_cases h0 : i < 0
  · go_enter Try.func17, Try.ntmps17
    go_wp2
    go_ret
    exact ⟨rfl, rfl⟩
  · have h1 : (n : Int) ≤ i := by omega
    go_enter Try.func17, Try.ntmps17
    go_wp2
    go_ret
    exact ⟨rfl, rfl⟩
theorem len_in (w : World) (B L n c : Nat) (i : Nat) (ao : Option Addr) (m cp : Nat) (hl : w.cell? ⟨B, 0, none⟩ = some (.slice (some ⟨L, 0, none⟩) n c)) (hi : i < n)
   (hc : w.cell? ⟨L, i, none⟩ = some (.slice ao m cp)) :
    Calls Try.prog 17 #[.pointer (some ⟨B, 0, none⟩), .int .i64 i] w fun e w' => e = .returned (.int .i64 m) ∧ w = w' := by
  go_enter Try.func17, Try.ntmps17
  go_wp2
  go_ret
  exact ⟨rfl, rfl⟩

/-- how many letters a worker has -/
def boxLen (ls : List (List Ltr)) (i : Int) : Nat := if 0 ≤ i then (ls.getD i.toNat []).length else 0

theorem len_any (w : World) (F : Nat → Prop) (B : Nat) (ls : List (List Ltr)) (hB : Boxes w F B ls) (i : Int) :
    Calls Try.prog 17 #[.pointer (some ⟨B, 0, none⟩), .int .i64 i] w fun e w' => e = .returned (.int .i64 (boxLen ls i)) ∧ w = w' := by
  obtain ⟨L, vals, hFB, hFL, hb, hl, hlen, hrow, hne⟩ := hB
  have c0 : w.cell? ⟨B, 0, none⟩ = some (.slice (some ⟨L, 0, none⟩) ls.length ls.length) := by rw [cell_blk hb]; rfl
  by_cases hi : 0 ≤ i ∧ i < ls.length
  · obtain ⟨k, rfl⟩ := Int.eq_ofNat_of_zero_le hi.1
    have hk : k < ls.length := by omega
    obtain ⟨A, c, hv, _⟩ := hrow k _ (List.getElem?_eq_getElem hk)
    have := len_in w B L ls.length ls.length k A ls[k].length c c0 hk (by rw [cell_blk hl]; simpa using hv)
    refine this.mono fun e w' h => ?_
    have : boxLen ls (k : Int) = ls[k].length := by simp [boxLen, List.getD_eq_getElem?_getD, List.getElem?_eq_getElem hk]
    rw [this]
    exact h
  · refine (len_out w B L _ _ i c0 (by omega)).mono fun e w' h => ?_
    have : boxLen ls i = 0 := by
      unfold boxLen
      split
      · rw [List.getD_eq_getElem?_getD, List.getElem?_eq_none (by omega)]; rfl
      · rfl
    rw [this]
    exact h

theorem total_nil (w : World) :
    Calls Try.prog 19 #[.pointer none] w fun e w' => e = .returned (.int .i64 0) ∧ w = w' := by
  go_enter Try.func19, Try.ntmps19
  go_wp2
  go_ret
  exact ⟨rfl, rfl⟩
theorem total_any (w : World) (F : Nat → Prop) (B : Nat) (ls : List (List Ltr)) (hB : Boxes w F B ls) :
    Calls Try.prog 19 #[.pointer (some ⟨B, 0, none⟩)] w fun e w' => e = .returned (.int .i64 (totL ls)) ∧ w = w' := by
  obtain ⟨L, vals, hFB, hFL, hb, hl, hN⟩ := hB
  have c1 : w.cell? ⟨B, 1, none⟩ = some (.int .i64 (totL ls)) := by rw [cell_blk hb]; rfl
  clear hN hb hl
  go_enter Try.func19, Try.ntmps19
  go_wp2
  go_ret
  exact ⟨rfl, rfl⟩

/-- the empty letter -/
abbrev noLtr : Value := .agg #[.string ⟨#[]⟩, .int .u8 0]

theorem take_nil (w : World) (i : Int) :
    Calls Try.prog 15 #[.pointer none, .int .i64 i] w fun e w' => e = .returned (.tuple #[noLtr, .bool false]) ∧ Below w.heap.size w w' := by
  go_enter Try.func15, Try.ntmps15
  go_wp2_with (go_at_call 17; refine (len_nil _ _).mono ?_; rintro e w' ⟨rfl, rfl⟩)
  exact bodyPost_ret (v := .tuple #[noLtr, .bool false]) (by simp [results, Try.results15, go_sem]) rfl ⟨rfl, (Below.refl _ _).alloc (Nat.le_refl _) _⟩

theorem Boxes.mod {w w' : World} {F G : Nat → Prop} {B : Nat} {ls : List (List Ltr)} (h : Boxes w F B ls) (hm : Mod G w w') (hG : ∀ k, F k → ¬ G k) : Boxes w' F B ls := by
  obtain ⟨L, vals, hFB, hFL, hb, hl, hlen, hrow, hne⟩ := h
  refine ⟨L, vals, hFB, hFL, (hm.block B (blk_lt hb) (hG _ hFB)).trans hb, (hm.block L (blk_lt hl) (hG _ hFL)).trans hl, hlen, fun i l hi => ?_, hne⟩
  obtain ⟨A, c, hv, hr, hFA⟩ := hrow i l hi
  exact ⟨A, c, hv, hr.mod hm (fun a ha => hG _ (hFA a ha)), hFA⟩
theorem Boxes.foot {w : World} {F G : Nat → Prop} {B : Nat} {ls : List (List Ltr)} (h : Boxes w F B ls) (hG : ∀ k, F k → k < w.heap.size → G k) : Boxes w G B ls := by
  obtain ⟨L, vals, hFB, hFL, hb, hl, hlen, hrow, hne⟩ := h
  refine ⟨L, vals, hG _ hFB (blk_lt hb), hG _ hFL (blk_lt hl), hb, hl, hlen, fun i l hi => ?_, hne⟩
  obtain ⟨A, c, hv, hr, hFA⟩ := hrow i l hi
  exact ⟨A, c, hv, hr, fun a ha => hG _ (hFA a ha) (by subst ha; exact hr.lt)⟩

theorem take_none (w : World) (F : Nat → Prop) (B : Nat) (ls : List (List Ltr)) (hB : Boxes w F B ls) (i : Int) (h0 : boxLen ls i = 0) :
    Calls Try.prog 15 #[.pointer (some ⟨B, 0, none⟩), .int .i64 i] w fun e w' => e = .returned (.tuple #[noLtr, .bool false]) ∧ Below w.heap.size w w' := by
  have hB' : ∀ o, Boxes (w.alloc o) (fun k => F k ∧ k < w.heap.size) B ls := fun o => (hB.foot (fun k h1 h2 => ⟨h1, h2⟩)).mod (G := fun k => w.heap.size ≤ k) (Mod.of_below ((Below.refl _ _).alloc (Nat.le_refl _) _)) (fun k hk h => by omega)
  have HB := Lib.hid hB'
  clear hB hB'
  have H0 := Lib.hid h0
  clear h0
  go_enter Try.func15, Try.ntmps15
  go_wp2_with fail
  refine (len_any _ _ _ _ (HB.out _) _).mono ?_
  rintro e w' ⟨rfl, rfl⟩
  rw [H0.out]
  go_wp2_with fail
  exact bodyPost_ret (v := .tuple #[noLtr, .bool false]) (by simp [results, Try.results15, go_sem]) rfl ⟨rfl, (Below.refl _ _).alloc (Nat.le_refl _) _⟩

set_option maxRecDepth 100000 in
set_option maxHeartbeats 400000 in
theorem take_some (w : World) (F : Nat → Prop) (B : Nat) (ls : List (List Ltr)) (hB : Boxes w F B ls) (i : Nat) (hi : i < ls.length) (p : ByteArray) (s : Nat) (r : List Ltr) (he : ls[i] = (p, s) :: r) (htot : totL ls < 1000000) :
    Calls Try.prog 15 #[.pointer (some ⟨B, 0, none⟩), .int .i64 i] w fun e w' => e = .returned (.tuple #[.agg #[.string p, .int .u8 s], .bool true]) ∧ Boxes w' (fun k => F k ∨ w.heap.size ≤ k) B (ls.set i r) ∧ Mod F w w' := by
  obtain ⟨L, vals, hFB, hFL, hb, hl, hN⟩ := hB.foot (G := fun k => F k ∧ k < w.heap.size) (fun k h1 h2 => ⟨h1, h2⟩)
  have HN := Lib.hid hN
  obtain ⟨hlen, hrow, hne⟩ := hN
  obtain ⟨A, c, hv, hr, hFA⟩ := hrow i _ (List.getElem?_eq_getElem hi)
  clear hrow hne
  have hn1 : 0 < ls[i].length := by rw [he]; simp
  obtain ⟨g, o, hA⟩ := hr.some_of_pos (by have := hr.2.1; omega)
  subst hA
  obtain ⟨i0, hi0, hz0, hz1, hz2⟩ := info_parts Try.infoLetter
  obtain ⟨A', c', hcut, hr', hA'⟩ := hr.cut_from 46 Try.underlying46 hi0 hz1 .i64 1 hn1
  have hcut1 : ∀ W : World, (Instr.slice 46 (.slice (some ⟨g, o, none⟩) ls[i].length c) (some (.int .i64 1)) none none).run Try.prog W = .ok (.slice A' (ls[i].length - 1) c') W := fun W => hcut W
  clear hcut
  have c0 : w.cell? ⟨B, 0, none⟩ = some (.slice (some ⟨L, 0, none⟩) ls.length ls.length) := by rw [cell_blk hb]; rfl
  have c1 : w.cell? ⟨B, 1, none⟩ = some (.int .i64 (totL ls)) := by rw [cell_blk hb]; rfl
  have c2 : w.cell? ⟨L, i, none⟩ = some (.slice (some ⟨g, o, none⟩) ls[i].length c) := by rw [cell_blk hl]; simpa using hv
  have c3 : w.cell? ⟨g, o, none⟩ = some (.string p) := by have := hr.cell 0 (by omega); rw [he] at this; simpa [encL] using this
  have c4 : w.cell? ⟨g, o + 1, none⟩ = some (.int .u8 s) := by have := hr.cell 1 (by omega); rw [he] at this; simpa [encL] using this
  have lB := blk_lt hb
  have lL := blk_lt hl
  have lg := hr.lt
  have hAL : ∀ a, some (⟨g, o, none⟩ : Addr) = some a → a.block < w.heap.size ∧ a.block ≠ L ∧ a.block ≠ B := by
    intro a ha
    injection ha with ha
    subst ha
    obtain ⟨_, cur, hc, _⟩ := hr.2.2.2.2 _ rfl
    refine ⟨blk_lt hc, fun e => ?_, fun e => ?_⟩
    · rw [e, hl] at hc; injection hc with hc; injection hc with _ hc; exact absurd hc (by decide)
    · rw [e, hb] at hc; injection hc with hc; injection hc with _ hc; exact absurd hc (by decide)
  have hLB : L ≠ B := fun e => by rw [e, hb] at hl; injection hl with hl; injection hl with _ hl; exact absurd hl (by decide)
  have hln : ls[i].length ≤ totL ls := totL_ge hi
  obtain ⟨W0, hW0⟩ : ∃ W0, W0 = (w.alloc (Obj.cells #[.string ⟨#[]⟩, .int .u8 0] 34)) := ⟨_, rfl⟩
  have hm00 : Mod (fun k => ∃ a, some (⟨g, o, none⟩ : Addr) = some a ∧ k = a.block) w W0 := by rw [hW0]; exact (Mod.refl _ _).alloc _
  have hk0 : W0.heap[w.heap.size]? = some (.cells #[.string ⟨#[]⟩, .int .u8 0] 34 (0, 0)) := by rw [hW0]; exact heap_alloc_new w _
  have hl0 : Calls Try.prog 17 #[.pointer (some ⟨B, 0, none⟩), .int .i64 i] W0 fun e w' => e = .returned (.int .i64 ls[i].length) ∧ W0 = w' :=
    len_in W0 B L ls.length ls.length i (some ⟨g, o, none⟩) ls[i].length c (by rw [hW0, ← c0]; exact World.cell?_of_block (heap_alloc_old w _ lB)) hi (by rw [hW0, ← c2]; exact World.cell?_of_block (heap_alloc_old w _ lL))
  have d0 : W0.cell? ⟨B, 0, none⟩ = some (.slice (some ⟨L, 0, none⟩) ls.length ls.length) := by rw [hW0, ← c0]; exact World.cell?_of_block (heap_alloc_old w _ lB)
  have d2 : W0.cell? ⟨L, i, none⟩ = some (.slice (some ⟨g, o, none⟩) ls[i].length c) := by rw [hW0, ← c2]; exact World.cell?_of_block (heap_alloc_old w _ lL)
  have d3 : W0.cell? ⟨g, o, none⟩ = some (.string p) := by rw [hW0, ← c3]; exact World.cell?_of_block (heap_alloc_old w _ lg)
  have d4 : W0.cell? ⟨g, o + 1, none⟩ = some (.int .u8 s) := by rw [hW0, ← c4]; exact World.cell?_of_block (heap_alloc_old w _ lg)
  have x0 := cell_blk hk0 0
  have x1 := cell_blk hk0 1
  have y0 := free_blk hk0 0
  have y1 := free_blk hk0 1
  simp only [List.getElem?_toArray, List.getElem?_cons_succ, List.getElem?_cons_zero] at x0 x1
  have k1 : (0 : Int) ≤ (i : Int) := Int.natCast_nonneg _
  have k2 : (i : Int) < (ls.length : Int) := by omega
  have k3 : ((ls[i].length : Int) == 0) = false := by rw [beq_eq_false_iff_ne]; omega
  have k4 : (0 : Int) < (ls[i].length : Int) := by omega
  have H0 := Lib.hid hl0
  have HE := Lib.hid he
  have HW := Lib.hid hW0
  clear hl0 he
  go_enter Try.func15, Try.ntmps15
  go_wp2_with fail
  rw [← hW0]
  clear hW0
  refine H0.out.mono ?_
  rintro e w' ⟨rfl, rfl⟩
  go_wp2_with fail
  obtain ⟨W1, hW1⟩ : ∃ W1, W1 = (W0.setCell ⟨w.heap.size, 0, none⟩ (.string p)).setCell ⟨w.heap.size, 1, none⟩ (.int .u8 s) := ⟨_, rfl⟩
  have lW0 : w.heap.size < W0.heap.size := blk_lt hk0
  have hm1 : Mod (fun k => k = w.heap.size) W0 W1 := by rw [hW1]; exact ((Mod.refl (fun k => k = w.heap.size) _).setCell (p := ⟨w.heap.size, 0, none⟩) (fun _ => rfl) _).setCell (p := ⟨w.heap.size, 1, none⟩) (fun _ => rfl) _
  have hb1 : W1.heap[w.heap.size]? = some (.cells #[.string p, .int .u8 s] 34 (0, 0)) := by rw [hW1]; exact set_blk (set_blk hk0 0 (.string p)) 1 (.int .u8 s)
  have hmw : Mod (fun k => ∃ a, some (⟨g, o, none⟩ : Addr) = some a ∧ k = a.block) w W1 := hm00.then hm1 (fun i hi e => by omega)
  have e0 := (hm1.cell B 0 (by omega) (by omega)).trans d0
  have e1 : W1.cell? ⟨B, 1, none⟩ = some (.int .i64 (totL ls)) := by rw [← c1]; exact hmw.cell B 1 lB (fun ⟨a, h1, h2⟩ => (hAL a h1).2.2 h2.symm)
  have e2 := (hm1.cell L i (by omega) (by omega)).trans d2
  have e3 : W1.frozen? ⟨L, i, none⟩ = false := free_blk ((hmw.block L lL (fun ⟨a, h1, h2⟩ => (hAL a h1).2.1 h2.symm)).trans hl) _
  have e4 : W1.frozen? ⟨B, 1, none⟩ = false := free_blk ((hmw.block B lB (fun ⟨a, h1, h2⟩ => (hAL a h1).2.2 h2.symm)).trans hb) _
  have e5 := cell_blk hb1 0
  have e6 := cell_blk hb1 1
  have e7 := free_blk hb1 0
  have e8 := free_blk hb1 1
  simp only [List.getElem?_toArray, List.getElem?_cons_succ, List.getElem?_cons_zero] at e5 e6
  have q5 : ∀ v, (W1.setCell ⟨L, i, none⟩ v).cell? ⟨B, 1, none⟩ = some (.int .i64 (totL ls)) := fun v => (World.cell?_setCell_far W1 _ _ v hLB).trans e1
  have q6 : ∀ v, (W1.setCell ⟨L, i, none⟩ v).frozen? ⟨B, 1, none⟩ = false := fun v => (World.frozen?_of_block (Below.heap_setCell W1 _ v B hLB.symm)).trans e4
  have lW1 := hmw.size
  rw [← hW1]
  clear hW1 d0 d2 d3 d4 x0 x1 y0 y1
  refine wp_region_plan (by kernel_rfl) (fun u => Mod (fun _ => False) W1 u) [14] [(0, .pure), (1, .pure), (2, .pure), (3, .load), (4, .pure), (5, .pure), (6, .pure), (7, .pure), (8, .load), (9, .pure), (10, .pure), (11, .load), (12, .pure), (13, .pure), (14, .last)] (by simp only [List.map_cons, List.map_nil, List.getElem?_toArray, List.getElem?_cons_succ, List.getElem?_cons_zero]; rfl) (by kernel_rfl) (fun _ _ d _ _ h => by cases d <;> exact h) ((Mod.refl _ _).drew) ?_
  repeat (first
    | (refine plan_pure (v := ?_) (by rfl) (fun w1 => ?_) ?_
       rotate_left
       · go_simp <;> with_reducible rfl
       simp only [Act.put, List.setIfInBounds_toArray, List.set_cons_zero, List.set_cons_succ])
    | (refine plan_off (by rfl) ?_
       simp only [Act.put, List.setIfInBounds_toArray, List.set_cons_zero, List.set_cons_succ])
    | (refine plan_load_off (by rfl) ?_
       simp only [Act.put, List.setIfInBounds_toArray, List.set_cons_zero, List.set_cons_succ])
    | (refine plan_load (v := ?_) (by rfl) (fun w1 hw1 => ?_) ?_
       rotate_left
       · (have q0 := (hw1.cell B 0 (by omega) id).trans e0
          have q1 := (hw1.cell L i (by omega) id).trans e2
          clear hw1
          go_simp <;> with_reducible rfl)
       simp only [Act.put, List.setIfInBounds_toArray, List.set_cons_zero, List.set_cons_succ]))
  refine plan_last ?_
  go_wp2_with fail
  refine plan_end ?_
  go_wp2_with fail
  have hlr : ls[i].length - 1 = r.length := by rw [HE.out]; simp
  have hrow' : Row W1 34 2 A' r.length c' (r.flatMap encL) := by
    have := hr'
    rw [hlr, HE.out] at this
    exact (by simpa [encL] using this : Row w _ 2 A' r.length c' (r.flatMap encL)).move (fun a ha => by
      obtain ⟨a0, h1, h2⟩ := hA' a ha
      injection h1 with h1
      subst h1
      rw [h2]
      have h3 := heap_alloc_old w (Obj.cells #[.string ⟨#[]⟩, .int .u8 0] 34) lg
      rw [← HW.out] at h3
      exact (hm1.block g (by omega) (by omega)).trans h3)
  have hfin := boxes_put hFB hFL hb hl HN.out hi hv hFA hAL hmw hrow' (fun a' ha' => .inl (hA' a' ha')) (↑(totL ls) - 1) (by have := totL_set hi r; rw [HE.out] at this; simp only [List.length_cons] at this; omega) (fun k h => h) (fun a' ha' h => by obtain ⟨a, h1, h2⟩ := hA' a' ha'; have := (hAL a h1).1; omega)
  refine bodyPost_ret (v := .tuple #[.agg #[.string p, .int .u8 s], .bool true]) ?_ rfl ⟨rfl, ?_⟩
  · have n1 : w.heap.size ≠ L := by omega
    have n2 : w.heap.size ≠ B := by omega
    have m1 := hAL _ rfl
    simp [results, Try.results15, go_sem, e5, e6]
  · rw [← hlr] at hfin
    obtain ⟨f1, f2⟩ := hfin
    have hX : Mod (fun k => k = w.heap.size) (((W1.setCell ⟨L, i, none⟩ (.slice A' (ls[i].length - 1) c')).setCell ⟨B, 1, none⟩ (.int .i64 (↑(totL ls) - 1)))) _ :=
      (((Mod.refl (fun k => k = w.heap.size) _).setCell (p := ⟨w.heap.size, 0, none⟩) (fun _ => rfl) (.string p)).setCell (p := ⟨w.heap.size, 1, none⟩) (fun _ => rfl) (.int .u8 s)).drew
    refine ⟨(f1.mod hX (fun k h1 h2 => by omega)).foot (fun k h _ => .inl h.1), (f2.mono (fun k _ h => h.1)).then hX (fun k h1 h2 => by omega)⟩

theorem Try.infoBox : (Try.prog.info? 46).map (fun i => (i.zero, i.size, i.bytes)) = some (some (.slice none 0 0), 1, 24) := by kernel_rfl

theorem new_bad (n : Int) (w : World) (h : n < 1 ∨ 64 < n) :
    Calls Try.prog 13 #[.int .i64 n] w fun e w' => e = .returned (.tuple #[.pointer none, .int .i64 1]) ∧ w = w' := by
  by_cases h1 : n < 1
  · go_enter Try.func13, Try.ntmps13
    go_wp2
    go_ret2
    exact ⟨rfl, rfl⟩
  · have h2 : 64 < n := by omega
    go_enter Try.func13, Try.ntmps13
    go_wp2
    go_ret2
    exact ⟨rfl, rfl⟩

set_option maxRecDepth 100000 in
theorem new_good (n : Nat) (w : World) (h1 : 1 ≤ n) (h2 : n ≤ 64) :
    Calls Try.prog 13 #[.int .i64 n] w fun e w' => ∃ B, e = .returned (.tuple #[.pointer (some ⟨B, 0, none⟩), .int .i64 0]) ∧ Boxes w' (fun k => w.heap.size ≤ k) B (List.replicate n []) ∧ Below w.heap.size w w' := by
  obtain ⟨i0, hi0, hz0, hz1, hz2⟩ := info_parts Try.infoBox
  have hmk := run_make (P := Try.prog) w 81 46 i0 (.slice none 0 0) Try.underlying81 hi0 hz0 .i64 .i64 (n : Int) (n : Int) (by omega) (Int.le_refl _) (by rw [hz2]; omega) (by omega)
  have k1 : (1 : Int) ≤ (n : Int) := by omega
  have k2 : (n : Int) ≤ 64 := by omega
  simp only [Int.toNat_natCast] at hmk
  go_enter Try.func13, Try.ntmps13
  go_wp2_with fail
  go_ret2
  refine ⟨w.heap.size + 1, rfl, ?_, ((Below.refl _ _).alloc (Nat.le_refl _) _).alloc (by simp) _⟩
  refine ⟨w.heap.size, List.replicate n (.slice none 0 0), by omega, Nat.le_refl _, ?_, ?_, ?_⟩
  · have := heap_alloc_new (w.alloc (.cells (madeCells #[.slice none 0 0] n) 46)) (.cells #[.slice (some ⟨w.heap.size, 0, none⟩) n n, .int .i64 0] 83)
    have ht : totL (List.replicate n ([] : List Ltr)) = 0 := by simp [totL]
    rw [ht]
    simpa using this
  · rw [heap_alloc_old _ _ (by simp), heap_alloc_new]
    have : madeCells #[Value.slice none 0 0] n = (List.replicate n (.slice none 0 0)).toArray := by
      apply Array.ext'
      rw [toList_madeCells_one]
    rw [this]
  · refine ⟨by simp, fun i l hi => ?_, fun i j a b m c m' c' hij hi hj => ?_⟩
    · rw [List.getElem?_replicate] at hi
      split at hi
      · injection hi with hi
        subst hi
        rename_i hin
        exact ⟨none, 0, by rw [List.getElem?_replicate, if_pos hin]; rfl, by simpa using Row.nil _ _ _, fun a ha => by cases ha⟩
      · cases hi
    · rw [List.getElem?_replicate] at hi
      split at hi
      · injection hi with hi
        injection hi with hi
        cases hi
      · cases hi
end Go.Proofs.Ytedogccbndjdpaa
