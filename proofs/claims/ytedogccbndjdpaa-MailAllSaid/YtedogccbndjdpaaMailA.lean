/- Mailboxes: what they are in memory, and what each method does. -/
import Derived.Test.YtedogccbndjdpaaRows
import Derived.Test.YtedogccbndjdpaaBase
import Derived.Test.YtedogccbndjdpaaPlan
import Derived.Outline
import Derived.Lib.Hide
namespace Go.Proofs.Ytedogccbndjdpaa
open Go.RowKit
set_option linter.unusedVariables false

abbrev Ltr := ByteArray × Nat
def encL (l : Ltr) : List Value := [.string l.1, .int .u8 l.2]

/-- slices that lie in unlike blocks, each its own row -/
def Nest {α : Type} (w : World) (F : Nat → Prop) (e sz : Nat) (enc : α → List Value) (vals : List Value) (ls : List (List α)) : Prop :=
  vals.length = ls.length ∧ (∀ (i : Nat) (l : List α), ls[i]? = some l → ∃ (A : Option Addr) (c : Nat), vals[i]? = some (.slice A l.length c) ∧ Row w e sz A l.length c (l.flatMap enc) ∧ ∀ a, A = some a → F a.block) ∧
  (∀ (i j : Nat) (a b : Addr) (n c n' c' : Nat), i ≠ j → vals[i]? = some (.slice (some a) n c) → vals[j]? = some (.slice (some b) n' c') → a.block ≠ b.block)

theorem Nest.put {α : Type} {w w' : World} {F F' : Nat → Prop} {e sz : Nat} {enc : α → List Value} {vals : List Value} {ls : List (List α)} (h : Nest w F e sz enc vals ls) (i : Nat) (hi : i < ls.length) (l' : List α) (A' : Option Addr) (c' : Nat)
    (hrow : Row w' e sz A' l'.length c' (l'.flatMap enc)) (hmove : ∀ (j : Nat) (a : Addr) (n c : Nat), j ≠ i → vals[j]? = some (.slice (some a) n c) → a.block < w.heap.size → w'.heap[a.block]? = w.heap[a.block]?)
    (hF : ∀ k, F k → F' k) (hA' : ∀ a, A' = some a → F' a.block) (hne : ∀ (j : Nat) (a b : Addr) (n c : Nat), j ≠ i → A' = some a → vals[j]? = some (.slice (some b) n c) → a.block ≠ b.block) :
    Nest w' F' e sz enc (vals.set i (.slice A' l'.length c')) (ls.set i l') := by
  obtain ⟨h1, h2, h3⟩ := h
  refine ⟨by simp [h1], fun j l hj => ?_, fun j k a b n c n' c' hjk hj hk => ?_⟩
  · by_cases hji : i = j
    · subst hji
      rw [List.getElem?_set_self hi] at hj
      injection hj with hj
      subst hj
      exact ⟨A', c', by rw [List.getElem?_set_self (by omega)], hrow, hA'⟩
    · rw [List.getElem?_set_ne hji] at hj
      obtain ⟨A, c, hv, hr, hFA⟩ := h2 j l hj
      refine ⟨A, c, by rw [List.getElem?_set_ne hji]; exact hv, hr.move (fun a ha => ?_), fun a ha => hF _ (hFA a ha)⟩
      subst ha
      exact hmove j a _ _ (fun e => hji e.symm) hv hr.lt
  · by_cases hji : i = j
    · subst hji
      rw [List.getElem?_set_ne hjk] at hk
      rw [List.getElem?_set_self (by omega)] at hj
      injection hj with hj
      injection hj with hj _ _
      exact hne k a b _ _ (fun e => hjk e.symm) hj hk
    · rw [List.getElem?_set_ne hji] at hj
      by_cases hki : i = k
      · subst hki
        rw [List.getElem?_set_self (by omega)] at hk
        injection hk with hk
        injection hk with hk _ _
        exact (hne j b a _ _ hjk hk hj).symm
      · rw [List.getElem?_set_ne hki] at hk
        exact h3 j k a b n c n' c' hjk hj hk

theorem len_le_sum {l : List Nat} (i : Nat) (h : i < l.length) : l[i] ≤ l.sum := by
  induction l generalizing i with
  | nil => cases h
  | cons x l ih =>
    cases i with
    | zero => simp
    | succ i =>
      have := ih i (by simpa using h)
      simp only [List.getElem_cons_succ, List.sum_cons]
      omega
theorem sum_set {l : List Nat} (i : Nat) (h : i < l.length) (x : Nat) : (l.set i x).sum + l[i] = l.sum + x := by
  induction l generalizing i with
  | nil => cases h
  | cons y l ih =>
    cases i with
    | zero => simp; omega
    | succ i =>
      have := ih i (by simpa using h)
      simp only [List.set_cons_succ, List.getElem_cons_succ, List.sum_cons]
      omega

def totL {α : Type} (ls : List (List α)) : Nat := (ls.map List.length).sum

theorem totL_ge {α : Type} {ls : List (List α)} {i : Nat} (h : i < ls.length) : ls[i].length ≤ totL ls := by
  have := len_le_sum (l := ls.map List.length) i (by simpa using h)
  simpa [totL] using this
theorem totL_set {α : Type} {ls : List (List α)} {i : Nat} (h : i < ls.length) (l : List α) : totL (ls.set i l) + ls[i].length = totL ls + l.length := by
  have := sum_set (l := ls.map List.length) i (by simpa using h) l.length
  simp only [totL, List.map_set]
  simpa using this

def Boxes (w : World) (F : Nat → Prop) (B : Nat) (ls : List (List Ltr)) : Prop :=
  ∃ L vals, F B ∧ F L ∧ w.heap[B]? = some (.cells #[.slice (some ⟨L, 0, none⟩) ls.length ls.length, .int .i64 (totL ls)] 83 (0, 0)) ∧
    w.heap[L]? = some (.cells (List.toArray vals) 46 (0, 0)) ∧ Nest w F 34 2 encL vals ls

theorem Try.infoLetter : (Try.prog.info? 34).map (fun i => (i.zero, i.size, i.bytes)) = some (some (.agg #[.string ⟨#[]⟩, .int .u8 0]), 2, 24) := by kernel_rfl

/-- What a send, or a take, leaves: a letter's row elsewhere, its box set, the total set. -/
theorem boxes_put {w w1 : World} {F G : Nat → Prop} {B L : Nat} {ls : List (List Ltr)} {vals : List Value} {A A' : Option Addr} {c c' : Nat} {l' : List Ltr} (hFB : F B) (hFL : F L)
    (hb : w.heap[B]? = some (.cells #[.slice (some ⟨L, 0, none⟩) ls.length ls.length, .int .i64 (totL ls)] 83 (0, 0))) (hl : w.heap[L]? = some (.cells (List.toArray vals) 46 (0, 0)))
    (hN : Nest w F 34 2 encL vals ls) {to : Nat} (hto : to < ls.length) (hv : vals[to]? = some (.slice A ls[to].length c)) (hFA : ∀ a, A = some a → F a.block) (hAL : ∀ a, A = some a → a.block < w.heap.size ∧ a.block ≠ L ∧ a.block ≠ B)
    (hm : Mod (fun k => ∃ a, A = some a ∧ k = a.block) w w1) (hrow : Row w1 34 2 A' l'.length c' (l'.flatMap encL)) (hat : ∀ a', A' = some a' → (∃ a, A = some a ∧ a'.block = a.block) ∨ w.heap.size ≤ a'.block) (n : Int) (hn : n = totL (ls.set to l')) (hFG : ∀ k, F k → G k) (hG : ∀ a', A' = some a' → w.heap.size ≤ a'.block → G a'.block) :
    Boxes ((w1.setCell ⟨L, to, none⟩ (.slice A' l'.length c')).setCell ⟨B, 1, none⟩ (.int .i64 n)) G B (ls.set to l') ∧ Mod F w ((w1.setCell ⟨L, to, none⟩ (.slice A' l'.length c')).setCell ⟨B, 1, none⟩ (.int .i64 n)) := by
  have lB := blk_lt hb
  have lL := blk_lt hl
  have hLB : L ≠ B := fun e => by rw [e, hb] at hl; injection hl with hl; injection hl with _ hl; exact absurd hl (by decide)
  have b1 := (hm.block B lB (fun ⟨a, h1, h2⟩ => (hAL a h1).2.2 h2.symm)).trans hb
  have l1 := (hm.block L lL (fun ⟨a, h1, h2⟩ => (hAL a h1).2.1 h2.symm)).trans hl
  have l2 := set_blk l1 to (.slice A' l'.length c')
  have b2 : (w1.setCell ⟨L, to, none⟩ (.slice A' l'.length c')).heap[B]? = _ := (Below.heap_setCell w1 _ _ B hLB.symm).trans b1
  have b3 := set_blk b2 1 (.int .i64 n)
  have l3 : ((w1.setCell ⟨L, to, none⟩ (.slice A' l'.length c')).setCell ⟨B, 1, none⟩ (.int .i64 n)).heap[L]? = _ := (Below.heap_setCell _ _ _ L hLB).trans l2
  refine ⟨⟨L, vals.set to (.slice A' l'.length c'), hFG _ hFB, hFG _ hFL, ?_, ?_, ?_⟩, ?_⟩
  · rw [b3, hn]; simp
  · rw [l3]; simp
  · refine hN.put to hto l' A' c' (hrow.move fun a ha => ?_) ?_ hFG (fun a ha => ?_) ?_
    · subst ha
      obtain ⟨_, cur, hc, _⟩ := hrow.2.2.2.2 a rfl
      have n1 : a.block ≠ L := fun e => by rw [e, l1] at hc; injection hc with hc; injection hc with _ hc; exact absurd hc (by decide)
      have n2 : a.block ≠ B := fun e => by rw [e, b1] at hc; injection hc with hc; injection hc with _ hc; exact absurd hc (by decide)
      rw [Below.heap_setCell _ _ _ _ n2, Below.heap_setCell _ _ _ _ n1]
    · intro j a n c hj hva hlt
      obtain ⟨hlen, hrows, hne⟩ := hN
      have hjl : j < ls.length := by rw [← hlen]; exact (List.getElem?_eq_some_iff.1 hva).1
      obtain ⟨A2, c2, hv2, hr2, _⟩ := hrows j _ (List.getElem?_eq_getElem hjl)
      rw [hva] at hv2
      injection hv2 with hv2
      injection hv2 with hv2 _ _
      subst hv2
      obtain ⟨_, cur, hc, _⟩ := hr2.2.2.2.2 a rfl
      have n1 : a.block ≠ L := fun e => by rw [e, hl] at hc; injection hc with hc; injection hc with _ hc; exact absurd hc (by decide)
      have n2 : a.block ≠ B := fun e => by rw [e, hb] at hc; injection hc with hc; injection hc with _ hc; exact absurd hc (by decide)
      rw [Below.heap_setCell _ _ _ _ n2, Below.heap_setCell _ _ _ _ n1]
      refine hm.block _ hlt (fun ⟨b, h1, h2⟩ => ?_)
      subst h1
      exact hne j to a b _ _ _ _ hj hva hv h2
    · rcases hat a ha with ⟨b, h1, h2⟩ | h
      · rw [h2]; exact hFG _ (hFA b h1)
      · exact hG a ha h
    · intro j a b n c hj ha hvb
      obtain ⟨hlen, hrows, hne⟩ := hN
      have hjl : j < ls.length := by rw [← hlen]; exact (List.getElem?_eq_some_iff.1 hvb).1
      obtain ⟨A2, c2, hv2, hr2, _⟩ := hrows j _ (List.getElem?_eq_getElem hjl)
      rw [hvb] at hv2
      injection hv2 with hv2
      injection hv2 with hv2 _ _
      subst hv2
      have := hr2.lt
      rcases hat a ha with ⟨b', h1, h2⟩ | h
      · subst h1
        rw [h2]
        exact hne to j b' b _ _ _ _ (fun e => hj e.symm) hv hvb
      · omega
  · exact ((hm.mono (fun k _ ⟨a, h1, h2⟩ => h2 ▸ hFA a h1)).setCell (p := ⟨L, to, none⟩) (fun _ => hFL) _).setCell (p := ⟨B, 1, none⟩) (fun _ => hFB) _

set_option maxRecDepth 100000 in
set_option maxHeartbeats 400000 in
theorem send_in (w : World) (F : Nat → Prop) (B : Nat) (ls : List (List Ltr)) (to : Nat) (p : ByteArray) (s : Nat) (hB : Boxes w F B ls) (hto : to < ls.length) (htot : totL ls < 1000000) :
    Calls Try.prog 14 #[.pointer (some ⟨B, 0, none⟩), .int .i64 to, .agg #[.string p, .int .u8 s]] w fun e w' => e = .returned (.int .i64 0) ∧ Boxes w' (fun k => F k ∨ w.heap.size ≤ k) B (ls.set to (ls[to] ++ [(p, s)])) ∧ Mod F w w' := by
  obtain ⟨L, vals, hFB, hFL, hb, hl, hN⟩ := hB
  have HN := Lib.hid hN
  obtain ⟨hlen, hrow, hne⟩ := hN
  obtain ⟨A, c, hv, hr, hFA⟩ := hrow to _ (List.getElem?_eq_getElem hto)
  obtain ⟨i0, hi0, hz0, hz1, hz2⟩ := info_parts Try.infoLetter
  have c0 : w.cell? ⟨B, 0, none⟩ = some (.slice (some ⟨L, 0, none⟩) ls.length ls.length) := by rw [cell_blk hb]; rfl
  have c1 : w.cell? ⟨B, 1, none⟩ = some (.int .i64 (totL ls)) := by rw [cell_blk hb]; rfl
  have c2 : w.cell? ⟨L, to, none⟩ = some (.slice A ls[to].length c) := by rw [cell_blk hl]; simpa using hv
  have f2 : w.frozen? ⟨L, to, none⟩ = false := free_blk hl _
  have lB := blk_lt hb
  have lL := blk_lt hl
  have k1 : (0 : Int) ≤ (to : Int) := Int.natCast_nonneg _
  have k2 : (to : Int) < (ls.length : Int) := by omega
  go_enter Try.func14, Try.ntmps14
  go_wp2_with fail
  have hAL : ∀ a, A = some a → a.block < w.heap.size ∧ a.block ≠ L ∧ a.block ≠ B := by
    intro a ha
    subst ha
    obtain ⟨_, cur, hc, _⟩ := hr.2.2.2.2 a rfl
    refine ⟨blk_lt hc, fun e => ?_, fun e => ?_⟩
    · rw [e, hl] at hc; injection hc with hc; injection hc with _ hc; exact absurd hc (by decide)
    · rw [e, hb] at hc; injection hc with hc; injection hc with _ hc; exact absurd hc (by decide)
  have hln : ls[to].length ≤ totL ls := totL_ge hto
  have nB : ¬ ∃ a, A = some a ∧ B = a.block := fun ⟨a, h1, h2⟩ => (hAL a h1).2.2 h2.symm
  have nL : ¬ ∃ a, A = some a ∧ L = a.block := fun ⟨a, h1, h2⟩ => (hAL a h1).2.1 h2.symm
  obtain ⟨W0, hW0⟩ : ∃ W0, W0 = w.alloc (Obj.cells #[Value.string p, Value.int IntKind.u8 ↑s] 34) := ⟨_, rfl⟩
  have z0 : w.heap.size < W0.heap.size := by rw [hW0]; simp
  have hk0 : W0.heap[w.heap.size]? = some (.cells #[Value.string p, Value.int IntKind.u8 ↑s] 34 (0, 0)) := by rw [hW0]; exact heap_alloc_new w _
  have hm00 : Mod (fun k => ∃ a, A = some a ∧ k = a.block) w W0 := by rw [hW0]; exact (Mod.refl _ _).alloc _
  have hr2 : Row W0 34 2 A ls[to].length c (ls[to].flatMap encL) := by rw [hW0]; exact hr.move (fun a ha => heap_alloc_old w _ (hAL a ha).1)
  have c0' : W0.cell? ⟨B, 0, none⟩ = some (.slice (some ⟨L, 0, none⟩) ls.length ls.length) := by rw [hW0, ← c0]; exact World.cell?_of_block (heap_alloc_old w _ lB)
  have c2' : W0.cell? ⟨L, to, none⟩ = some (.slice A ls[to].length c) := by rw [hW0, ← c2]; exact World.cell?_of_block (heap_alloc_old w _ lL)
  have c1' : W0.cell? ⟨B, 1, none⟩ = some (.int .i64 (totL ls)) := by rw [hW0, ← c1]; exact World.cell?_of_block (heap_alloc_old w _ lB)
  have f1' : W0.frozen? ⟨B, 1, none⟩ = false := by rw [hW0]; exact free_blk ((heap_alloc_old w _ lB).trans hb) _
  have f2' : W0.frozen? ⟨L, to, none⟩ = false := by rw [hW0]; exact free_blk ((heap_alloc_old w _ lL).trans hl) _
  have nX : ¬ ∃ a, A = some a ∧ w.heap.size = a.block := fun ⟨a, h1, h2⟩ => by have := (hAL a h1).1; omega
  rw [← hW0]
  clear hW0
  refine wp_region_plan (by kernel_rfl) (fun u => Mod (fun k => ∃ a, A = some a ∧ k = a.block) W0 u) [16] [(0, .pure), (1, .pure), (2, .pure), (3, .load), (4, .pure), (5, .pure), (6, .pure), (7, .pure), (8, .load), (9, .pure), (10, .pure), (11, .load), (12, .load), (13, .eff), (14, .eff), (15, .pure), (16, .last)] (by simp only [List.map_cons, List.map_nil, List.getElem?_toArray, List.getElem?_cons_succ, List.getElem?_cons_zero]; rfl) (by kernel_rfl) (fun _ _ d _ _ h => by cases d <;> exact h) ((Mod.refl _ _).drew) ?_
  repeat (first
    | (refine plan_pure (v := ?_) (by rfl) (fun w1 => ?_) ?_
       rotate_left
       · go_simp <;> with_reducible rfl
       simp only [Act.put, List.setIfInBounds_toArray, List.set_cons_zero, List.set_cons_succ])
    | (refine plan_off (by rfl) ?_
       simp only [Act.put, List.setIfInBounds_toArray, List.set_cons_zero, List.set_cons_succ])
    | (refine plan_load_off (by rfl) ?_
       simp only [Act.put, List.setIfInBounds_toArray, List.set_cons_zero, List.set_cons_succ])
    | (refine plan_load (v := ?_) (by rfl) (fun w1 hw1 => ?_) ?_
       rotate_left
       · (have q0 := (hw1.cell B 0 (by omega) nB).trans c0'
          have q1 := (hw1.cell L to (by omega) nL).trans c2'
          have q2 := (hw1.cell w.heap.size 0 (by omega) nX).trans (cell_blk hk0 0)
          have q3 := (hw1.cell w.heap.size 1 (by omega) nX).trans (cell_blk hk0 1)
          clear hw1
          go_simp <;> with_reducible rfl)
       simp only [Act.put, List.setIfInBounds_toArray, List.set_cons_zero, List.set_cons_succ]))
  refine plan_eff ?_
  go_wp2_with fail
  refine plan_on (fun _ h => h) (((Mod.refl _ _).alloc _).drew) ?_
  refine plan_eff ?_
  refine wpList_append_row (by rfl) _ _ _ (by rfl) 34 i0 _ 2 24 Try.underlying46 hi0 hz0 hz1 hz2 rfl (by omega) A ls[to].length c (ls[to].flatMap encL) (by rfl) (hr2.move (fun a ha => (heap_alloc_old W0 _ (by have := (hAL a ha).1; omega)))) ⟨W0.heap.size, 0, none⟩ 1 1 [.string p, .int .u8 s] (by rfl) (by rfl)
        (World.news_of_block (cs := #[.string p, .int .u8 s]) (t := 34) (fr := (0, 0)) (heap_alloc_new W0 _)) (by simp [Value.oneCell']) (by omega) (by unfold maxLen; omega) (by omega) ?_
  intro g of cap' w1 hown1 hgrow hat
  have hm1 : Mod (fun k => ∃ a, A = some a ∧ k = a.block) W0 w1 := (((Mod.refl _ _).alloc _).drew).trans hgrow
  have q0 := (hm1.cell B 0 (by omega) nB).trans c0'
  have q1 := (hm1.cell L to (by omega) nL).trans c2'
  have q2 := (hm1.frozen L to (by omega) nL).trans (f2' : W0.frozen? ⟨L, to, none⟩ = false)
  have q3 := (hm1.cell B 1 (by omega) nB).trans c1'
  have q4 := (hm1.frozen B 1 (by omega) nB).trans (f1' : W0.frozen? ⟨B, 1, none⟩ = false)
  have hLB : L ≠ B := fun e => by rw [e, hb] at hl; injection hl with hl; injection hl with _ hl; exact absurd hl (by decide)
  have q5 : ∀ v, (w1.setCell ⟨L, to, none⟩ v).cell? ⟨B, 1, none⟩ = some (.int .i64 (totL ls)) := fun v => (World.cell?_setCell_far w1 _ _ v hLB).trans q3
  have q6 : ∀ v, (w1.setCell ⟨L, to, none⟩ v).frozen? ⟨B, 1, none⟩ = false := fun v => (World.frozen?_of_block (Below.heap_setCell w1 _ v B hLB.symm)).trans q4
  go_wp2_with fail
  refine plan_on (fun _ h => h) hm1 ?_
  repeat (first
    | (refine plan_pure (v := ?_) (by rfl) (fun w1 => ?_) ?_
       rotate_left
       · go_simp <;> with_reducible rfl
       simp only [Act.put, List.setIfInBounds_toArray, List.set_cons_zero, List.set_cons_succ])
    | (refine plan_off (by rfl) ?_
       simp only [Act.put, List.setIfInBounds_toArray, List.set_cons_zero, List.set_cons_succ])
    | (refine plan_load_off (by rfl) ?_
       simp only [Act.put, List.setIfInBounds_toArray, List.set_cons_zero, List.set_cons_succ])
    | (refine plan_load (v := ?_) (by rfl) (fun w1 hw1 => ?_) ?_
       rotate_left
       · (skip
          clear hw1
          go_simp <;> with_reducible rfl)
       simp only [Act.put, List.setIfInBounds_toArray, List.set_cons_zero, List.set_cons_succ]))
  refine plan_last ?_
  go_wp2_with fail
  refine plan_end ?_
  go_wp2_with fail
  go_ret
  have hmw : Mod (fun k => ∃ a, A = some a ∧ k = a.block) w w1 := hm00.trans hm1
  have hfin := boxes_put hFB hFL hb hl HN.out hto hv hFA hAL hmw (l' := ls[to] ++ [(p, s)]) (by simpa [List.flatMap_append, encL] using hown1) (fun a' ha' => by injection ha' with ha'; subst ha'; exact hat.imp id (fun h => by show w.heap.size ≤ g; simp at h; omega)) (↑(totL ls) + 1) (by have := totL_set hto (ls[to] ++ [(p, s)]); simp only [List.length_append, List.length_singleton] at this; omega) (G := fun k => F k ∨ w.heap.size ≤ k) (fun k h => .inl h) (fun a' _ h => .inr h)
  exact ⟨by rfl, by simpa using hfin.1, by simpa using hfin.2⟩
end Go.Proofs.Ytedogccbndjdpaa
