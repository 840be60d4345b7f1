/- Plain law: all executions of a program, one by one. -/
import Derived.Test.YtcaapoacmfjnmaaGreatStT
namespace Go.Proofs.YtcaapoacmfjnmaaGreat
set_option linter.unusedVariables false

namespace Pr
/-- how much fuel there is -/
def fuels (s : St) : Nat := (s.th.map Th.fuel).sum
theorem sum_set {l : List Nat} : ∀ {t x y : Nat}, l[t]? = some x → y + 1 = x → (l.set t y).sum + 1 = l.sum := by
  induction l with
  | nil => intro t x y h; cases h
  | cons a l ih =>
    intro t x y h e
    cases t with
    | zero => simp at h; subst h; simp; omega
    | succ t => simp at h; have := ih h e; simp; omega
theorem fuels_step {s : St} {t : Nat} (hw : Wf s) (h : enabled s t = true) : fuels (stepS s t) + 1 = fuels s := by
  obtain ⟨x, i, hc⟩ := can_of h
  obtain ⟨n, h0, h8, hok⟩ := hw.insOk hc.ins
  rw [stepS_can hc, doI_eq i hc.th ⟨hok.1, hok.2.1⟩]
  unfold fuels
  rw [List.map_set]
  refine sum_set (x := x.fuel) (by rw [List.getElem?_map, hc.th]; rfl) ?_
  have hf : x.fuel ≠ 0 := fun h0 => by
    have := hc.ins
    unfold Pr.ins at this
    rw [hc.th] at this
    revert this
    cases s.p.code[t]? <;> simp [h0]
  have : (nth s x i).fuel = x.fuel - 1 := by
    unfold nth
    repeat' split
    all_goals rfl
  omega
theorem all_iff {s : St} {t : Nat} : t ∈ all s ↔ enabled s t = true := by
  unfold all
  rw [List.mem_filter, List.mem_range]
  exact ⟨fun h => h.2, fun h => ⟨en_lt h, h⟩⟩
theorem all_nil_of {s : St} (hw : Wf s) (h : fuels s = 0) : all s = [] := by
  refine List.eq_nil_iff_forall_not_mem.2 (fun t ht => ?_)
  have := fuels_step hw (all_iff.1 ht)
  omega
theorem all_len {s : St} (hw : Wf s) : (all s).length ≤ 4 := by
  unfold all
  have := hw.n4
  exact Nat.le_trans (List.length_filter_le _ _) (by simpa using this)
/-- the event of a step -/
def evAt (s : St) (t : Nat) : Ev := (next s t).getD zeroE
/-- does anybody wait? -/
def waits (s : St) : Bool := (List.range s.th.length).any fun t => (next s t).isSome
/-- all beginnings from a state on -/
def cnt : Nat → St → Nat
  | 0, _ => 1
  | n + 1, s => 1 + ((all s).map fun t => cnt n (stepS s t)).sum
/-- all ends, with their events -/
def ends : Nat → St → List Ev → List (St × List Ev)
  | 0, s, row => [(s, row)]
  | n + 1, s, row => if all s = [] then [(s, row)] else (all s).flatMap fun t => ends n (stepS s t) (row ++ [evAt s t])
/-- the way over all of them -/
def over {α : Type} (at_ : St → List Ev → α → α) (most : Nat) : Nat → St → List Ev → Nat × α → Nat × α
  | 0, s, row, x => if most < x.1 + 1 then (x.1 + 1, x.2) else (x.1 + 1, at_ s row x.2)
  | n + 1, s, row, x => if most < x.1 + 1 then (x.1 + 1, x.2) else
      (all s).foldl (fun y t => over at_ most n (stepS s t) (row ++ [evAt s t]) y) (x.1 + 1, if all s = [] then at_ s row x.2 else x.2)
theorem over_mono {α : Type} (at_ : St → List Ev → α → α) (most : Nat) : ∀ n s row x, x.1 + 1 ≤ (over at_ most n s row x).1 := by
  intro n
  induction n with
  | zero => intro s row x; simp only [over]; split <;> exact Nat.le_refl _
  | succ n ih =>
    intro s row x
    simp only [over]
    split
    · exact Nat.le_refl _
    · have : ∀ (l : List Nat) (y : Nat × α), y.1 ≤ (l.foldl (fun y t => over at_ most n (stepS s t) (row ++ [evAt s t]) y) y).1 := by
        intro l
        induction l with
        | nil => intro y; exact Nat.le_refl _
        | cons a l ih2 => intro y; exact Nat.le_trans (Nat.le_trans (Nat.le_succ _) (ih (stepS s a) (row ++ [evAt s a]) y)) (ih2 _)
      exact this _ (x.1 + 1, _)
theorem over_eq {α : Type} (at_ : St → List Ev → α → α) (most : Nat) : ∀ n s row x, x.1 + cnt n s ≤ most → over at_ most n s row x = (x.1 + cnt n s, (ends n s row).foldl (fun a z => at_ z.1 z.2 a) x.2) := by
  intro n
  induction n with
  | zero => intro s row x h; simp only [cnt] at h; simp only [over, cnt, ends, if_neg (show ¬ most < x.1 + 1 by omega)]; rfl
  | succ n ih =>
    intro s row x h
    simp only [cnt] at h
    simp only [over, cnt, ends, if_neg (show ¬ most < x.1 + 1 by omega)]
    have go : ∀ (l : List Nat) (c : Nat) (a : α), c + (l.map fun t => cnt n (stepS s t)).sum ≤ most →
        l.foldl (fun y t => over at_ most n (stepS s t) (row ++ [evAt s t]) y) (c, a) = (c + (l.map fun t => cnt n (stepS s t)).sum, (l.flatMap fun t => ends n (stepS s t) (row ++ [evAt s t])).foldl (fun a z => at_ z.1 z.2 a) a) := by
      intro l
      induction l with
      | nil => intro c a _; simp
      | cons t l ih2 =>
        intro c a hc
        simp only [List.map_cons, List.sum_cons] at hc
        rw [List.foldl_cons, ih _ _ (c, a) (by simp only; omega), ih2 _ _ (by omega)]
        simp only [List.map_cons, List.sum_cons, List.flatMap_cons, List.foldl_append, Nat.add_assoc]
    by_cases ha : all s = []
    · rw [ha, if_pos rfl]; rfl
    · rw [if_neg ha, go _ _ _ (by omega), if_neg ha, Nat.add_assoc]
theorem over_full {α : Type} (at_ : St → List Ev → α → α) (most : Nat) : ∀ n s row x, most < x.1 + cnt n s → most < (over at_ most n s row x).1 := by
  intro n
  induction n with
  | zero => intro s row x h; simp only [cnt] at h; simp only [over, if_pos h]; exact h
  | succ n ih =>
    intro s row x h
    simp only [cnt] at h
    simp only [over]
    split
    · assumption
    · have go : ∀ (l : List Nat) (y : Nat × α), most < y.1 + (l.map fun t => cnt n (stepS s t)).sum → most < (l.foldl (fun y t => over at_ most n (stepS s t) (row ++ [evAt s t]) y) y).1 := by
        intro l
        induction l with
        | nil => intro y hy; simpa using hy
        | cons t l ih2 =>
          intro y hy
          simp only [List.map_cons, List.sum_cons] at hy
          rw [List.foldl_cons]
          refine ih2 _ ?_
          by_cases hf : y.1 + cnt n (stepS s t) ≤ most
          · rw [over_eq at_ most n _ _ y hf]; simp only; omega
          · have := ih (stepS s t) (row ++ [evAt s t]) y (by omega)
            omega
      exact go _ _ (by simp only; omega)
theorem over_bound {α : Type} (at_ : St → List Ev → α → α) (most : Nat) : ∀ n s row x, Wf s → (over at_ most n s row x).1 ≤ max x.1 most + 1 + 4 * n := by
  intro n
  induction n with
  | zero => intro s row x _; simp only [over]; split <;> (simp only; omega)
  | succ n ih =>
    intro s row x hw
    simp only [over]
    split
    · simp only; omega
    · have full : ∀ m s row (x : Nat × α), most < x.1 + 1 → (over at_ most m s row x).1 = x.1 + 1 := by
        intro m s row x h
        cases m <;> simp only [over, if_pos h]
      have go : ∀ (l : List Nat) (y : Nat × α), (l.foldl (fun y t => over at_ most n (stepS s t) (row ++ [evAt s t]) y) y).1 ≤ max y.1 (most + 1 + 4 * n) + l.length := by
        intro l
        induction l with
        | nil => intro y; simp only [List.foldl_nil, List.length_nil]; omega
        | cons t l ih2 =>
          intro y
          rw [List.foldl_cons, List.length_cons]
          refine Nat.le_trans (ih2 _) ?_
          by_cases hf : most < y.1 + 1
          · rw [full n _ _ y hf]; omega
          · have := ih (stepS s t) (row ++ [evAt s t]) y (stepS_wf t hw).1
            omega
      have := go (all s) (x.1 + 1, if all s = [] then at_ s row x.2 else x.2)
      have := all_len hw
      simp only at *
      omega
/-- the ends are the ends of all executions -/
theorem mem_ends : ∀ (n : Nat) (s : St) (row : List Ev), Wf s → fuels s ≤ n → ∀ (s' : St) (l' : List Ev), (s', l') ∈ ends n s row ↔ ∃ l, l' = row ++ l ∧ Ex s l s' ∧ all s' = [] := by
  intro n
  induction n with
  | zero =>
    intro s row hw hf s' l'
    have ha := all_nil_of hw (by omega)
    simp only [ends, List.mem_singleton, Prod.mk.injEq]
    constructor
    · rintro ⟨rfl, rfl⟩; exact ⟨[], by simp, .nil _, ha⟩
    · rintro ⟨l, rfl, hex, _⟩
      cases hex with
      | nil => simp
      | cons t e hen _ _ => have := all_iff.2 hen; rw [ha] at this; cases this
  | succ n ih =>
    intro s row hw hf s' l'
    simp only [ends]
    by_cases ha : all s = []
    · rw [if_pos ha]
      simp only [List.mem_singleton, Prod.mk.injEq]
      constructor
      · rintro ⟨rfl, rfl⟩; exact ⟨[], by simp, .nil _, ha⟩
      · rintro ⟨l, rfl, hex, _⟩
        cases hex with
        | nil => simp
        | cons t e hen _ _ => have := all_iff.2 hen; rw [ha] at this; cases this
    · rw [if_neg ha, List.mem_flatMap]
      constructor
      · rintro ⟨t, ht, h⟩
        have hen := all_iff.1 ht
        obtain ⟨e, i, hn, _, _⟩ := enabled_next hen
        obtain ⟨l, rfl, hex, he⟩ := (ih _ _ (stepS_wf t hw).1 (by have := fuels_step hw hen; omega) _ _).1 h
        refine ⟨e :: l, by simp [evAt, hn], .cons t e hen hn hex, he⟩
      · rintro ⟨l, rfl, hex, he⟩
        cases hex with
        | nil => exact absurd he ha
        | cons t e hen hn hex =>
          refine ⟨t, all_iff.2 hen, (ih _ _ (stepS_wf t hw).1 (by have := fuels_step hw hen; omega) _ _).2 ⟨_, ?_, hex, he⟩⟩
          simp [evAt, hn]
theorem fuels_start {p : Pg} {f : Nat} (h : Ok p) (hf : f ≤ 8) : fuels (start p f) ≤ 32 := by
  have h4 : p.code.length ≤ 4 := h.1.2.2.2.2.2
  unfold fuels start
  simp only [List.map_map]
  have : ∀ l : List (List Ins), (l.map (Th.fuel ∘ fun _ => (⟨0, f, fun _ => 0⟩ : Th))).sum = l.length * f := by
    intro l
    induction l with
    | nil => simp
    | cons a l ih => rw [List.map_cons, List.sum_cons, ih, List.length_cons, Nat.succ_mul]; simp [Nat.add_comm]
  rw [this]
  calc p.code.length * f ≤ 4 * 8 := Nat.mul_le_mul h4 hf
    _ = 32 := rfl
theorem ex_len {s s' : St} {l : List Ev} (h : Ex s l s') (hw : Wf s) : l.length + fuels s' = fuels s := by
  induction h with
  | nil s => simp
  | cons t e hen _ _ ih =>
    have := ih (stepS_wf t hw).1
    have := fuels_step hw hen
    simp only [List.length_cons]
    omega
end Pr
end Go.Proofs.YtcaapoacmfjnmaaGreat
