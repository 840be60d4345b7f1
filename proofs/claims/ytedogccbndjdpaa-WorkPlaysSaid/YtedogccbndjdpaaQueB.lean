/- Queues, second part: the pile's own methods. -/
import Derived.Test.YtedogccbndjdpaaQueA
namespace Go.Proofs.Ytedogccbndjdpaa
open Go.RowKit
set_option linter.unusedVariables false

/-- block Q is a queue whose pile is h -/
def PileAt (w : World) (F : Nat → Prop) (Q : Nat) (h : List ByteArray) : Prop :=
  ∃ A cap, F Q ∧ w.heap[Q]? = some (.cells #[.slice A h.length cap] 86 (0, 0)) ∧ Row w 9 1 A h.length cap (h.map .string) ∧ ∀ a, A = some a → F a.block

theorem PileAt.mod {w w' : World} {F G : Nat → Prop} {Q : Nat} {h : List ByteArray} (hp : PileAt w F Q h) (hm : Mod G w w') (hG : ∀ k, F k → ¬ G k) : PileAt w' F Q h := by
  obtain ⟨A, cap, h1, h2, h3, h4⟩ := hp
  exact ⟨A, cap, h1, (hm.block Q (blk_lt h2) (hG _ h1)).trans h2, h3.mod hm (fun a ha => hG _ (h4 a ha)), h4⟩
theorem PileAt.below {w w' : World} {F : Nat → Prop} {Q : Nat} {h : List ByteArray} (hp : PileAt w F Q h) (hb : Below w.heap.size w w') : PileAt w' F Q h := by
  obtain ⟨A, cap, h1, h2, h3, h4⟩ := hp
  exact ⟨A, cap, h1, (hb.block Q (blk_lt h2)).trans h2, h3.move (fun a ha => by subst ha; exact hb.block _ h3.lt), h4⟩
theorem PileAt.foot {w : World} {F G : Nat → Prop} {Q : Nat} {h : List ByteArray} (hp : PileAt w F Q h) (hG : ∀ k, F k → k < w.heap.size → G k) : PileAt w G Q h := by
  obtain ⟨A, cap, h1, h2, h3, h4⟩ := hp
  exact ⟨A, cap, hG _ h1 (blk_lt h2), h2, h3, fun a ha => hG _ (h4 a ha) (by subst ha; exact h3.lt)⟩
theorem PileAt.lt {w : World} {F : Nat → Prop} {Q : Nat} {h : List ByteArray} (hp : PileAt w F Q h) : Q < w.heap.size := by
  obtain ⟨A, cap, h1, h2, h3, h4⟩ := hp
  exact blk_lt h2
theorem PileAt.max {w : World} {F : Nat → Prop} {Q : Nat} {h : List ByteArray} (hp : PileAt w F Q h) : h.length ≤ maxLen := by
  obtain ⟨A, cap, h1, h2, h3, h4⟩ := hp
  exact Nat.le_trans h3.2.1 h3.2.2.1
/-- What lies in the pile's block isn't the queue's own block. -/
theorem pile_ne {w : World} {Q g : Nat} {x : Array Value} {cur : Array Value} (h1 : w.heap[Q]? = some (.cells x 86 (0, 0))) (h2 : w.heap[g]? = some (.cells cur 9 (0, 0))) : g ≠ Q := by
  intro e
  rw [e, h1] at h2
  injection h2 with h2
  injection h2 with _ h2
  exact absurd h2 (by decide)
theorem row_ne {w : World} {Q : Nat} {x : Array Value} {a : Addr} {n cap : Nat} {cs : List Value} (h1 : w.heap[Q]? = some (.cells x 86 (0, 0))) (h2 : Row w 9 1 (some a) n cap cs) : a.block ≠ Q := by
  obtain ⟨_, cur, hc, _⟩ := h2.2.2.2.2 a rfl
  exact pile_ne h1 hc

theorem pileLen_in (w : World) (F : Nat → Prop) (Q : Nat) (h : List ByteArray) (hp : PileAt w F Q h) :
    Calls Try.prog 74 #[.pointer (some ⟨Q, 0, none⟩)] w fun e w' => e = .returned (.int .i64 h.length) ∧ w = w' := by
  obtain ⟨A, cap, h1, h2, h3, h4⟩ := hp
  have c0 : w.cell? ⟨Q, 0, none⟩ = some (.slice A h.length cap) := by rw [cell_blk h2]; rfl
  clear h2 h3
  go_enter Try.func74, Try.ntmps74
  go_wp2
  go_ret
  exact ⟨rfl, rfl⟩

set_option maxRecDepth 100000 in
theorem less_in (w : World) (F : Nat → Prop) (Q : Nat) (h : List ByteArray) (hp : PileAt w F Q h) (i k : Nat) (hi : i < h.length) (hk : k < h.length) :
    Calls Try.prog 75 #[.pointer (some ⟨Q, 0, none⟩), .int .i64 i, .int .i64 k] w fun e w' => e = .returned (.bool (Hp.lss ahead h i k)) ∧ Below w.heap.size w w' := by
  obtain ⟨A, cap, h1, h2, h3, h4⟩ := hp
  obtain ⟨g, o, rfl⟩ := h3.some_of_pos (by have := h3.2.1; omega)
  have lQ := blk_lt h2
  have lg := h3.lt
  have c0 : w.cell? ⟨Q, 0, none⟩ = some (.slice (some ⟨g, o, none⟩) h.length cap) := by rw [cell_blk h2]; rfl
  have c1 : w.cell? ⟨g, o + i, none⟩ = some (.string h[i]) := by rw [h3.cell i (by omega)]; simp [hi]
  have c2 : w.cell? ⟨g, o + k, none⟩ = some (.string h[k]) := by rw [h3.cell k (by omega)]; simp [hk]
  have k1 : (0 : Int) ≤ (i : Int) := Int.natCast_nonneg _
  have k2 : (i : Int) < (h.length : Int) := by omega
  have k3 : (0 : Int) ≤ (k : Int) := Int.natCast_nonneg _
  have k4 : (k : Int) < (h.length : Int) := by omega
  have hv : decide (cmpV h[i] h[k] < 0) = Hp.lss ahead h i k := by rw [cmpV_neg, Hp.lss_at ahead hi hk]
  have HV := Lib.hid hv
  clear h2 h3 h4 hv
  go_enter Try.func75, Try.ntmps75
  go_wp2_with fail
  refine wp_region_plan (by kernel_rfl) (fun u => Mod (fun _ => False) w u) [12] [(0, .pure), (1, .pure), (2, .load), (3, .pure), (4, .pure), (5, .load), (6, .pure), (7, .pure), (8, .load), (9, .pure), (10, .pure), (11, .load), (12, .last), (13, .pure), (14, .pure)] (by simp only [List.map_cons, List.map_nil, List.getElem?_toArray, List.getElem?_cons_succ, List.getElem?_cons_zero]; rfl) (by kernel_rfl) (fun _ _ d _ _ h => by cases d <;> exact h) ((Mod.refl _ _).drew) ?_
  repeat (first
    | (refine plan_pure (v := ?_) (by rfl) (fun w1 => ?_) ?_
       rotate_left
       · go_simp <;> with_reducible rfl
       simp only [Act.put, List.setIfInBounds_toArray, List.set_cons_zero, List.set_cons_succ])
    | (refine plan_off (by rfl) ?_
       simp only [Act.put, List.setIfInBounds_toArray, List.set_cons_zero, List.set_cons_succ])
    | (refine plan_load_off (by rfl) ?_
       simp only [Act.put, List.setIfInBounds_toArray, List.set_cons_zero, List.set_cons_succ])
    | (refine plan_load (v := ?_) (by rfl) (fun w1 hw1 => ?_) ?_
       rotate_left
       · (have q0 := (hw1.cell Q 0 lQ id).trans c0
          have q1 := (hw1.cell g (o + i) lg id).trans c1
          have q2 := (hw1.cell g (o + k) lg id).trans c2
          clear hw1
          go_simp <;> with_reducible rfl)
       simp only [Act.put, List.setIfInBounds_toArray, List.set_cons_zero, List.set_cons_succ]))
  refine plan_last ?_
  go_wp2_with fail
  refine (compare_any _ _ _).mono ?_
  rintro e w' ⟨rfl, hb⟩
  go_wp2_with fail
  repeat (first
    | (refine plan_pure (v := ?_) (by rfl) (fun w1 => ?_) ?_
       rotate_left
       · go_simp <;> with_reducible rfl
       simp only [Act.put, List.setIfInBounds_toArray, List.set_cons_zero, List.set_cons_succ])
    | (refine plan_off (by rfl) ?_
       simp only [Act.put, List.setIfInBounds_toArray, List.set_cons_zero, List.set_cons_succ])
    | (refine plan_load_off (by rfl) ?_
       simp only [Act.put, List.setIfInBounds_toArray, List.set_cons_zero, List.set_cons_succ])
    | (refine plan_load (v := ?_) (by rfl) (fun w1 hw1 => ?_) ?_
       rotate_left
       · (skip
          clear hw1
          go_simp <;> with_reducible rfl)
       simp only [Act.put, List.setIfInBounds_toArray, List.set_cons_zero, List.set_cons_succ]))
  refine plan_end ?_
  go_wp2_with fail
  go_ret
  refine ⟨?_, ⟨hb.os, hb.tape, hb.output, hb.size, hb.block⟩⟩
  first | rfl | (rw [← HV.out]; rfl)

set_option maxRecDepth 100000 in
theorem swap_in (w : World) (F : Nat → Prop) (Q : Nat) (h : List ByteArray) (hp : PileAt w F Q h) (i k : Nat) (hi : i < h.length) (hk : k < h.length) :
    Calls Try.prog 78 #[.pointer (some ⟨Q, 0, none⟩), .int .i64 i, .int .i64 k] w fun e w' => e = .returned (.tuple #[]) ∧ PileAt w' F Q (Hp.swp h i k) ∧ Mod F w w' := by
  obtain ⟨A, cap, h1, h2, h3, h4⟩ := hp
  obtain ⟨g, o, rfl⟩ := h3.some_of_pos (by have := h3.2.1; omega)
  have lQ := blk_lt h2
  have lg := h3.lt
  have hgQ : g ≠ Q := row_ne h2 h3
  have hFg : F g := h4 _ rfl
  have c0 : w.cell? ⟨Q, 0, none⟩ = some (.slice (some ⟨g, o, none⟩) h.length cap) := by rw [cell_blk h2]; rfl
  have c1 : w.cell? ⟨g, o + i, none⟩ = some (.string h[i]) := by rw [h3.cell i (by omega)]; simp [hi]
  have c2 : w.cell? ⟨g, o + k, none⟩ = some (.string h[k]) := by rw [h3.cell k (by omega)]; simp [hk]
  have f1 : w.frozen? ⟨g, o + i, none⟩ = false := h3.free _
  have r1 := h3.set i (by omega) (.string h[k])
  obtain ⟨u, hu⟩ : ∃ u, (w.setCell ⟨g, o + i, none⟩ (.string h[k])).cell? ⟨g, o + k, none⟩ = some u := by
    rw [r1.cell k (by omega)]
    exact ⟨_, List.getElem?_eq_getElem (by simp; omega)⟩
  have f2 : (w.setCell ⟨g, o + i, none⟩ (.string h[k])).frozen? ⟨g, o + k, none⟩ = false := r1.free _
  have r2 := r1.set k (by omega) (.string h[i])
  have hcs : ((h.map Value.string).set i (.string h[k])).set k (.string h[i]) = (Hp.swp h i k).map .string := by rw [Hp.swp_at hi hk, List.map_set, List.map_set]
  rw [hcs] at r2
  have hfin : ∀ w', w'.heap = ((w.setCell ⟨g, o + i, none⟩ (.string h[k])).setCell ⟨g, o + k, none⟩ (.string h[i])).heap → PileAt w' F Q (Hp.swp h i k) := fun w' he => by
    refine ⟨some ⟨g, o, none⟩, cap, h1, ?_, ?_, h4⟩
    · rw [he, Below.heap_setCell _ _ _ _ hgQ.symm, Below.heap_setCell _ _ _ _ hgQ.symm, Hp.swp_len]; exact h2
    · rw [Hp.swp_len]; exact r2.move (fun a ha => by rw [he])
  have HF := Lib.hid hfin
  have k1 : (0 : Int) ≤ (i : Int) := Int.natCast_nonneg _
  have k2 : (i : Int) < (h.length : Int) := by omega
  have k3 : (0 : Int) ≤ (k : Int) := Int.natCast_nonneg _
  have k4 : (k : Int) < (h.length : Int) := by omega
  clear h2 h3 h4 r1 r2 hcs hfin
  go_enter Try.func78, Try.ntmps78
  go_wp2_with fail
  refine wp_region_plan (by kernel_rfl) (fun u => Mod (fun _ => False) w u) [21, 23] [(0, .pure), (1, .pure), (2, .load), (3, .pure), (4, .pure), (5, .pure), (6, .load), (7, .pure), (8, .pure), (9, .pure), (10, .load), (11, .pure), (12, .pure), (13, .load), (14, .pure), (15, .pure), (16, .load), (17, .pure), (18, .pure), (19, .load), (20, .pure), (21, .last), (22, .pure), (23, .last)] (by simp only [List.map_cons, List.map_nil, List.getElem?_toArray, List.getElem?_cons_succ, List.getElem?_cons_zero]; rfl) (by kernel_rfl) (fun _ _ d _ _ h => by cases d <;> exact h) ((Mod.refl _ _).drew) ?_
  repeat (first
    | (refine plan_pure (v := ?_) (by rfl) (fun w1 => ?_) ?_
       rotate_left
       · go_simp <;> with_reducible rfl
       simp only [Act.put, List.setIfInBounds_toArray, List.set_cons_zero, List.set_cons_succ])
    | (refine plan_off (by rfl) ?_
       simp only [Act.put, List.setIfInBounds_toArray, List.set_cons_zero, List.set_cons_succ])
    | (refine plan_load_off (by rfl) ?_
       simp only [Act.put, List.setIfInBounds_toArray, List.set_cons_zero, List.set_cons_succ])
    | (refine plan_load (v := ?_) (by rfl) (fun w1 hw1 => ?_) ?_
       rotate_left
       · (have q0 := (hw1.cell Q 0 lQ id).trans c0
          have q1 := (hw1.cell g (o + i) lg id).trans c1
          have q2 := (hw1.cell g (o + k) lg id).trans c2
          clear hw1
          go_simp <;> with_reducible rfl)
       simp only [Act.put, List.setIfInBounds_toArray, List.set_cons_zero, List.set_cons_succ]))
  refine plan_last ?_
  go_wp2_with fail
  repeat (first
    | (refine plan_pure (v := ?_) (by rfl) (fun w1 => ?_) ?_
       rotate_left
       · go_simp <;> with_reducible rfl
       simp only [Act.put, List.setIfInBounds_toArray, List.set_cons_zero, List.set_cons_succ])
    | (refine plan_off (by rfl) ?_
       simp only [Act.put, List.setIfInBounds_toArray, List.set_cons_zero, List.set_cons_succ])
    | (refine plan_load_off (by rfl) ?_
       simp only [Act.put, List.setIfInBounds_toArray, List.set_cons_zero, List.set_cons_succ])
    | (refine plan_load (v := ?_) (by rfl) (fun w1 hw1 => ?_) ?_
       rotate_left
       · (skip
          clear hw1
          go_simp <;> with_reducible rfl)
       simp only [Act.put, List.setIfInBounds_toArray, List.set_cons_zero, List.set_cons_succ]))
  refine plan_last ?_
  go_wp2_with fail
  refine plan_end ?_
  go_wp2_with fail
  go_end0
  exact ⟨rfl, HF.out _ rfl, ((Mod.refl F w).drew.setCell (fun _ => hFg) _).setCell (fun _ => hFg) _⟩

theorem Try.infoStr : (Try.prog.info? 9).map (fun i => (i.zero, i.size, i.bytes)) = some (some (.string ⟨#[]⟩), 1, 16) := by kernel_rfl

set_option maxRecDepth 100000 in
theorem Try.isStr (s : ByteArray) (w : World) : (Instr.typeAssert (.iface 9 (.string s)) 20 9 true).run Try.prog w = .ok (.tuple #[.string s, .bool true]) w := by kernel_rfl

set_option maxRecDepth 100000 in
theorem pilePush_in (w : World) (F : Nat → Prop) (Q : Nat) (h : List ByteArray) (hp : PileAt w F Q h) (s : ByteArray) (hl : h.length < 1000000) :
    Calls Try.prog 77 #[.pointer (some ⟨Q, 0, none⟩), .iface 9 (.string s)] w fun e w' => e = .returned (.tuple #[]) ∧ PileAt w' (fun k => F k ∨ w.heap.size ≤ k) Q (h ++ [s]) ∧ Mod F w w' := by
  obtain ⟨A, cap, h1, h2, h3, h4⟩ := hp
  obtain ⟨i0, hi0, hz0, hz1, hz2⟩ := info_parts Try.infoStr
  have lQ := blk_lt h2
  have nQ : ¬ ∃ a, A = some a ∧ Q = a.block := fun ⟨a, e1, e2⟩ => by subst e1; exact row_ne h2 h3 e2.symm
  have c0 : w.cell? ⟨Q, 0, none⟩ = some (.slice A h.length cap) := by rw [cell_blk h2]; rfl
  have t0 : ∀ O : Obj, Below w.heap.size w (w.alloc O) := fun O => (Below.refl _ _).alloc (Nat.le_refl _) _
  have hr0 : ∀ O : Obj, Row (w.alloc O) 9 1 A h.length cap (h.map .string) := fun O => h3.move (fun a ha => by subst ha; exact heap_alloc_old w O h3.lt)
  have hb0 : ∀ O : Obj, (w.alloc O).heap[Q]? = _ := fun O => (heap_alloc_old w O lQ).trans h2
  have hF0 : ∀ a, A = some a → F a.block ∧ a.block < w.heap.size := fun a ha => ⟨h4 a ha, by subst ha; exact h3.lt⟩
  have HB := Lib.hid hb0
  have HR := Lib.hid hr0
  have hta := Try.isStr s
  clear h2 h3 h4 hb0 hr0
  go_enter Try.func77, Try.ntmps77
  go_wp2_with (at_builtin; refine wpList_append_row (by rfl) _ _ _ (by rfl) 9 i0 _ 1 16 Try.underlying84 hi0 hz0 hz1 hz2 rfl (by omega) A h.length cap (h.map .string) (by rfl) (HR.out _) ⟨w.heap.size, 0, none⟩ 1 1 [.string s] (by rfl) (by rfl) (World.news_of_block (cs := #[.string s]) (t := 9) (fr := (0, 0)) (heap_alloc_new w _)) (by simp [Value.oneCell']) (by omega) (by unfold maxLen; omega) (by omega) ?_; intro g of cap' w1 hown hm hat; have d0 := (hm.cell Q 0 (by have := (t0 (Obj.cells #[.string s] 9)).size; omega) nQ).trans (cell_blk (HB.out _) 0); have d1 := free_blk ((hm.block Q (by have := (t0 (Obj.cells #[.string s] 9)).size; omega) nQ).trans (HB.out _)) 0; have HM := Lib.hid hm; have HOWN := Lib.hid hown; clear hm hown)
  go_end0
  have z0 := (t0 (Obj.cells #[.string s] 9)).size
  have hown := HOWN.out
  have hm := HM.out
  have hb1 := (hm.block Q (by omega) nQ).trans (HB.out _)
  have hgQ : g ≠ Q := by
    obtain ⟨_, cur, hc, _⟩ := hown.2.2.2.2 _ rfl
    exact pile_ne hb1 hc
  refine ⟨rfl, ⟨some ⟨g, of, none⟩, cap', .inl h1, ?_, ?_, fun a ha => ?_⟩, ?_⟩
  · have := set_blk hb1 0 (.slice (some ⟨g, of, none⟩) (h.length + 1) cap')
    simpa using this
  · have : Row w1 9 1 (some ⟨g, of, none⟩) (h ++ [s]).length cap' ((h ++ [s]).map .string) := by simpa using hown
    exact this.move (fun a ha => by injection ha with ha; subst ha; exact Below.heap_setCell _ _ _ _ hgQ)
  · injection ha with ha
    subst ha
    rcases hat with ⟨a, e1, e2⟩ | h
    · exact .inl (e2 ▸ (hF0 a e1).1)
    · exact .inr (by show w.heap.size ≤ g; omega)
  · exact ((Mod.of_below_size (t0 _) F).trans (hm.mono (fun k _ ⟨a, e1, e2⟩ => e2 ▸ (hF0 a e1).1))).setCell (p := ⟨Q, 0, none⟩) (fun _ => h1) _

set_option maxRecDepth 100000 in
theorem pilePop_in (w : World) (F : Nat → Prop) (Q : Nat) (h : List ByteArray) (hp : PileAt w F Q h) (s : ByteArray) (hs : h[h.length - 1]? = some s) :
    Calls Try.prog 76 #[.pointer (some ⟨Q, 0, none⟩)] w fun e w' => e = .returned (.iface 9 (.string s)) ∧ PileAt w' F Q h.dropLast ∧ Mod F w w' := by
  obtain ⟨A, cap, h1, h2, h3, h4⟩ := hp
  have hn : 0 < h.length := by
    rcases Nat.eq_zero_or_pos h.length with h0 | h0
    · rw [List.getElem?_eq_none (by omega)] at hs; cases hs
    · exact h0
  obtain ⟨n, hn1⟩ : ∃ n, h.length = n + 1 := ⟨h.length - 1, by omega⟩
  obtain ⟨g, o, rfl⟩ := h3.some_of_pos (by have := h3.2.1; omega)
  obtain ⟨i0, hi0, hz0, hz1, hz2⟩ := info_parts Try.infoStr
  rw [hn1, Nat.add_sub_cancel] at hs
  have hgQ : g ≠ Q := row_ne h2 h3
  have c0 : w.cell? ⟨Q, 0, none⟩ = some (.slice (some ⟨g, o, none⟩) (n + 1 : Nat) cap) := by rw [cell_blk h2, hn1]; rfl
  have c1 : w.cell? ⟨g, o + n, none⟩ = some (.string s) := by rw [h3.cell n (by omega)]; simp [hs]
  have f0 : w.frozen? ⟨Q, 0, none⟩ = false := free_blk h2 0
  have hcut := cut_to (P := Try.prog) (A := some ⟨g, o, none⟩) (n := n + 1) (cap := cap) 84 9 Try.underlying84 hi0 .i64 n (by have := h3.2.1; omega)
  have hfin : PileAt (w.setCell ⟨Q, 0, none⟩ (.slice (some ⟨g, o, none⟩) n cap)) F Q h.dropLast := by
    have hl : h.dropLast.length = n := by rw [List.length_dropLast]; omega
    refine ⟨some ⟨g, o, none⟩, cap, h1, ?_, ?_, h4⟩
    · have := set_blk h2 0 (.slice (some ⟨g, o, none⟩) n cap)
      rw [hl]
      simpa using this
    · have := h3.take (k := n) (by omega)
      rw [hl]
      have e : (h.map Value.string).take (n * 1) = h.dropLast.map .string := by
        rw [List.dropLast_eq_take, List.map_take, hn1]; simp
      rw [e] at this
      exact this.move (fun a ha => by injection ha with ha; subst ha; exact Below.heap_setCell _ _ _ _ hgQ)
  have HF := Lib.hid hfin
  have hcut1 : ∀ W : World, (Instr.slice 84 (.slice (some ⟨g, o, none⟩) (n + 1) cap) none (some (.int .i64 n)) none).run Try.prog W = .ok (.slice (some ⟨g, o, none⟩) n cap) W := fun W => hcut W
  have lQ := blk_lt h2
  have k1 : (0 : Int) ≤ (n : Int) := Int.natCast_nonneg _
  have k2 : (n : Int) < 9223372036854775807 := by have := h3.2.1; have := h3.2.2.1; unfold maxLen at this; omega
  clear h2 h3 h4 hs hcut hfin
  go_enter Try.func76, Try.ntmps76
  go_wp2_with fail
  go_ret
  exact ⟨rfl, HF.out, (Mod.refl F w).setCell (p := ⟨Q, 0, none⟩) (fun _ => h1) _⟩
end Go.Proofs.Ytedogccbndjdpaa
