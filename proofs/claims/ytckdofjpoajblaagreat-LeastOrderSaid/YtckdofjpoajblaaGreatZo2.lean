/- Part 2 of the proof of leastOrder_holds: what it rests on. -/
import Derived.Test.YtckdofjpoajblaaGreatZo1
namespace Go.Proofs.YtckdofjpoajblaaGreat
open Go.ChangeShapes Go.WideShapes Go.ChangeAt Go.RowKit
set_option linter.unusedVariables false
theorem pick_list {α : Type} {P : Nat → α → Prop} : ∀ n, (∀ j, j < n → ∃ x, P j x) → ∃ xs : List α, xs.length = n ∧ ∀ j x, xs[j]? = some x → P j x
  | 0, _ => ⟨[], rfl, fun j x h => by simp at h⟩
  | n + 1, h => by
    obtain ⟨xs, hl, hx⟩ := pick_list n (fun j hj => h j (by omega))
    obtain ⟨x, hp⟩ := h n (by omega)
    refine ⟨xs ++ [x], by simp [hl], fun j y hy => ?_⟩
    rcases Nat.lt_or_ge j xs.length with hj | hj
    · rw [List.getElem?_append_left hj] at hy
      exact hx j y hy
    · rw [List.getElem?_append_right hj] at hy
      have : j - xs.length = 0 := by
        rcases Nat.eq_zero_or_pos (j - xs.length) with h0 | h0
        · exact h0
        · rw [List.getElem?_eq_none (by simp; omega)] at hy; cases hy
      rw [this] at hy
      simp at hy
      subst hy
      have : j = n := by omega
      subst this
      exact hp
theorem mapM_some {α β : Type} {f : α → Option β} : ∀ {l : List α} {ys : List β}, l.mapM f = some ys → ∀ x ∈ l, ∃ y, f x = some y
  | [], _, _, x, hx => by cases hx
  | a :: l, ys, h, x, hx => by
    rw [List.mapM_cons] at h
    cases ha : f a with
    | none => rw [ha] at h; cases h
    | some b =>
      rw [ha] at h
      cases hl : l.mapM f with
      | none => rw [hl] at h; cases h
      | some bs =>
        rcases List.mem_cons.1 hx with rfl | hx
        · exact ⟨b, ha⟩
        · exact mapM_some hl x hx
theorem mapM_get {α β : Type} {f : α → Option β} : ∀ {l : List α} {ys : List β}, l.mapM f = some ys → ys.length = l.length ∧ ∀ (i : Nat) x, l[i]? = some x → ys[i]? = f x
  | [], ys, h => by
    rw [List.mapM_nil] at h
    cases h
    exact ⟨rfl, fun i x h => by simp at h⟩
  | a :: l, ys, h => by
    rw [List.mapM_cons] at h
    cases ha : f a with
    | none => rw [ha] at h; cases h
    | some b =>
      rw [ha] at h
      cases hl : l.mapM f with
      | none => rw [hl] at h; cases h
      | some bs =>
        rw [hl] at h
        cases h
        obtain ⟨h1, h2⟩ := mapM_get hl
        refine ⟨by simp [h1], fun i x hx => ?_⟩
        cases i with
        | zero => simp at hx; subst hx; simp [ha]
        | succ i => simpa using h2 i x (by simpa using hx)
section
variable {H : Type} {enc : TypeId × Value → H} {P : Program} {w : World} {base : Nat} {spare : Nat → Bool} {held : Bool} {fuel : Nat} {t e : TypeId} {cs : List Value} {y : DataW H × List MemPlace}
theorem tr_int {k : IntKind} (ht : P.underlying t = some (.int k)) (h : DataW.trod enc P w base spare held fuel t cs = some y) : ∃ n, cs = [.int k n] ∧ (Lit.int k n).wf = true := by
  cases fuel with
  | zero => simp [DataW.trod] at h
  | succ fuel =>
    unfold DataW.trod at h
    rw [ht] at h
    split at h <;> simp_all
theorem tr_slice (ht : P.underlying t = some (.slice e)) {A : Option Addr} {n cap : Nat} (h : DataW.trod enc P w base spare held fuel t [.slice A n cap] = some y) :
    n ≤ cap ∧ cap ≤ maxLen ∧ (A = none → n = 0 ∧ cap = 0) ∧ ∃ fuel', ∀ j, j < n → ∃ a, A = some a ∧ ∃ c y', (w.cells? base (a.add (j * P.cellsOf e)) (P.cellsOf e)) = some c ∧ DataW.trod enc P w base spare held fuel' e c = some y' := by
  cases fuel with
  | zero => simp [DataW.trod] at h
  | succ fuel =>
    unfold DataW.trod at h
    rw [ht] at h
    cases A with
    | none =>
      cases n with
      | succ n => simp at h
      | zero =>
        cases cap with
        | succ n => simp at h
        | zero => exact ⟨by omega, by simp [maxLen], fun _ => ⟨rfl, rfl⟩, fuel, fun j hj => by omega⟩
    | some a =>
      simp only at h
      split at h
      · rename_i hh
        obtain ⟨hb, h1, h2⟩ := hh
        rw [Option.bind_eq_some_iff] at h
        obtain ⟨elems, hm, _⟩ := h
        refine ⟨h1, h2, fun h => (by cases h), fuel, fun j hj => ⟨a, rfl, ?_⟩⟩
        obtain ⟨y', hy⟩ := mapM_some hm j (by simpa using hj)
        cases hc : w.cells? base (a.add (j * P.cellsOf e)) (P.cellsOf e) with
        | none => rw [hc] at hy; cases hy
        | some c => rw [hc] at hy; exact ⟨c, _, rfl, hy⟩
      · cases h
end
theorem Rd.below {w w' : World} {sz : Nat} {A : Option Addr} {n : Nat} {cs : List Value} (h : Rd w sz A n cs) {B : Nat} (hb : Below B w w') (hB : w.heap.size ≤ B) : Rd w' sz A n cs := by
  refine ⟨h.1, fun h0 => ?_⟩
  obtain ⟨g, o, hA, hg, hc⟩ := h.2 h0
  exact ⟨g, o, hA, Nat.lt_of_lt_of_le hg hb.size, fun j hj => (World.cell?_of_block (hb.block g (by omega))).trans (hc j hj)⟩
def RdB (w : World) (B sz : Nat) (A : Option Addr) (n : Nat) (cs : List Value) : Prop :=
  cs.length = n * sz ∧ (0 < n * sz → ∃ g o, A = some ⟨g, o, none⟩ ∧ g < B ∧ ∀ j, j < n * sz → w.cell? ⟨g, o + j, none⟩ = cs[j]?)
theorem Rd.toB {w : World} {sz : Nat} {A : Option Addr} {n : Nat} {cs : List Value} (h : Rd w sz A n cs) : RdB w w.heap.size sz A n cs := h
theorem RdB.below {w w' : World} {B sz : Nat} {A : Option Addr} {n : Nat} {cs : List Value} (h : RdB w B sz A n cs) (hb : Below B w w') : RdB w' B sz A n cs := by
  refine ⟨h.1, fun h0 => ?_⟩
  obtain ⟨g, o, hA, hg, hc⟩ := h.2 h0
  exact ⟨g, o, hA, hg, fun j hj => (World.cell?_of_block (hb.block g hg)).trans (hc j hj)⟩
section
variable {H : Type} {enc : TypeId × Value → H} {P : Program} {w : World} {base : Nat} {spare : Nat → Bool} {held : Bool} {fuel : Nat} {t e : TypeId} {cs : List Value} {y : DataW H × List MemPlace}
theorem cells_of {w : World} {base n : Nat} {a : Addr} {c : List Value} (h : w.cells? base a n = some c) : c.length = n ∧ ∀ i, i < n → w.cell? (a.add i) = c[i]? := by
  unfold World.cells? at h
  split at h
  · obtain ⟨h1, h2⟩ := mapM_get h
    refine ⟨by simpa using h1, fun i hi => ?_⟩
    exact (h2 i i (by simp [hi])).symm
  · cases h
theorem tr_list {α : Type} {f : α → List Value} {good : α → Prop} {sz : Nat} (hsz : 0 < sz) (ht : P.underlying t = some (.slice e)) (hcs : P.cellsOf e = sz)
    (hel : ∀ fuel c y, c.length = sz → DataW.trod enc P w base spare held fuel e c = some y → ∃ x, c = f x ∧ good x)
    {A : Option Addr} {n cap : Nat} (h : DataW.trod enc P w base spare held fuel t [.slice A n cap] = some y) :
    ∃ xs : List α, xs.length = n ∧ (∀ x ∈ xs, good x) ∧ Rd w sz A n (xs.flatMap f) ∧ n ≤ cap ∧ cap ≤ maxLen := by
  obtain ⟨h1, h2, h3, fuel', h4⟩ := tr_slice ht h
  rw [hcs] at h4
  obtain ⟨xs, hl, hx⟩ := pick_list (P := fun j x => ∃ a, A = some a ∧ (f x).length = sz ∧ good x ∧ ∀ i, i < sz → w.cell? ((a.add (j * sz)).add i) = (f x)[i]?) n (fun j hj => by
    obtain ⟨a, hA, c, y', hc, hy⟩ := h4 j hj
    obtain ⟨hcl, hci⟩ := cells_of hc
    obtain ⟨x, rfl, hg⟩ := hel fuel' c y' hcl hy
    exact ⟨x, a, hA, hcl, hg, hci⟩)
  have hlen : ∀ x ∈ xs, (f x).length = sz := fun x hm => by
    obtain ⟨j, hj⟩ := List.getElem?_of_mem hm
    obtain ⟨a, _, h, _⟩ := hx j x hj
    exact h
  have hfl : (xs.flatMap f).length = n * sz := by
    rw [← hl]
    clear h4 hx hl
    induction xs with
    | nil => simp
    | cons x xs ih =>
      rw [List.flatMap_cons, List.length_append, hlen x (by simp), ih (fun z hz => hlen z (by simp [hz])), List.length_cons, Nat.add_mul]
      omega
  refine ⟨xs, hl, fun x hm => ?_, ⟨hfl, fun h0 => ?_⟩, h1, h2⟩
  · obtain ⟨j, hj⟩ := List.getElem?_of_mem hm
    obtain ⟨a, _, _, h, _⟩ := hx j x hj
    exact h
  · have hn : 0 < n := by
      rcases Nat.eq_zero_or_pos n with h | h
      · rw [h] at h0; simp at h0
      · exact h
    obtain ⟨a, hA, _, _, hc0⟩ := hx 0 _ (List.getElem?_eq_getElem (by omega))
    obtain ⟨g, o, s⟩ := a
    have hs : s = none := by
      have h5 := hc0 0 hsz
      have h6 : ((⟨g, o, s⟩ : Addr).add (0 * sz)).add 0 = ⟨g, o, s⟩ := by simp [Addr.add]
      rw [h6] at h5
      cases s with
      | none => rfl
      | some s =>
        have hl0 := hlen _ (List.getElem_mem (show 0 < xs.length by omega))
        rw [List.getElem?_eq_getElem (by omega)] at h5
        unfold World.cell? at h5
        split at h5 <;> simp at h5
    subst hs
    refine ⟨g, o, hA, ?_, fun j hj => ?_⟩
    · have h5 := hc0 0 hsz
      have hl0 := hlen _ (List.getElem_mem (show 0 < xs.length by omega))
      rw [List.getElem?_eq_getElem (by omega)] at h5
      have := World.block_lt_of_cell? w _ h5
      simpa [addr_add] using this
    · -- cell j is cell j % sz of element j / sz
      have hq : j / sz < xs.length := by rw [hl]; exact (Nat.div_lt_iff_lt_mul hsz).2 hj
      obtain ⟨a', hA', _, _, hcj⟩ := hx (j / sz) _ (List.getElem?_eq_getElem hq)
      rw [hA] at hA'
      injection hA' with hA'
      subst hA'
      have h5 := hcj (j % sz) (Nat.mod_lt _ hsz)
      rw [addr_add, addr_add] at h5
      have hdm : o + j / sz * sz + j % sz = o + j := by
        have := Nat.div_add_mod j sz
        rw [Nat.mul_comm] at this
        omega
      rw [hdm] at h5
      rw [h5]
      clear h5 hcj hc0 h4 hfl
      have key : ∀ (xs : List α) (hlen : ∀ x ∈ xs, (f x).length = sz) (q r : Nat) (hq : q < xs.length) (hr : r < sz), (f xs[q])[r]? = (xs.flatMap f)[q * sz + r]? := by
        intro xs
        induction xs with
        | nil => intro _ q r hq; cases hq
        | cons x xs ih =>
          intro hlen q r hq hr
          have hx0 := hlen x (by simp)
          cases q with
          | zero =>
            rw [List.flatMap_cons, List.getElem?_append_left (by omega)]
            simp
          | succ q =>
            rw [List.flatMap_cons, List.getElem?_append_right (by rw [hx0, Nat.add_mul]; omega)]
            have : (q + 1) * sz + r - (f x).length = q * sz + r := by rw [hx0, Nat.add_mul]; omega
            rw [this]
            simpa using ih (fun z hz => hlen z (by simp [hz])) q r (by simpa using hq) hr
      rw [key xs hlen (j / sz) (j % sz) hq (Nat.mod_lt _ hsz)]
      congr 1
      have := Nat.div_add_mod j sz
      rw [Nat.mul_comm] at this
      omega
end
theorem flat_get {α : Type} {f : α → List Value} {sz : Nat} (hf : ∀ x, (f x).length = sz) : ∀ (xs : List α) (q r : Nat) (hq : q < xs.length) (hr : r < sz), (xs.flatMap f)[q * sz + r]? = (f xs[q])[r]? := by
  intro xs
  induction xs with
  | nil => intro q r hq; cases hq
  | cons x xs ih =>
    intro q r hq hr
    cases q with
    | zero =>
      rw [List.flatMap_cons, List.getElem?_append_left (by rw [hf]; omega)]
      simp
    | succ q =>
      rw [List.flatMap_cons, List.getElem?_append_right (by rw [hf, Nat.add_mul]; omega)]
      have : (q + 1) * sz + r - (f x).length = q * sz + r := by rw [hf, Nat.add_mul]; omega
      rw [this]
      simpa using ih q r (by simpa using hq) hr
theorem flat_len {α : Type} {f : α → List Value} {sz : Nat} (hf : ∀ x, (f x).length = sz) (xs : List α) : (xs.flatMap f).length = xs.length * sz := by
  induction xs with
  | nil => simp
  | cons x xs ih => rw [List.flatMap_cons, List.length_append, hf, ih, List.length_cons, Nat.add_mul]; omega
theorem Row.rd {w : World} {e sz : Nat} {A : Option Addr} {n cap : Nat} {cs : List Value} (h : Row w e sz A n cap cs) : Rd w sz A n cs := by
  refine ⟨h.1, fun h0 => ?_⟩
  have hn : 0 < n := by
    rcases Nat.eq_zero_or_pos n with h1 | h1
    · rw [h1] at h0; simp at h0
    · exact h1
  obtain ⟨g, o, hA⟩ := h.some_of_pos (by have := h.2.1; omega)
  subst hA
  exact ⟨g, o, rfl, h.lt, fun j hj => h.cell j hj⟩
end Go.Proofs.YtckdofjpoajblaaGreat
namespace Go.Proofs.YtckdofjpoajblaaGreat
open Go.RowKit
set_option linter.unusedVariables false
def encE (e : Ev) : List Value := [.int .i64 e.t, .int .i64 e.k, .int .i64 e.o, .bool e.f]
def valE (e : Ev) : Value := .agg #[.int .i64 e.t, .int .i64 e.k, .int .i64 e.o, .bool e.f]
def cls (e : Ev) : Int := if e.k = 2 ∨ e.k = 3 then 1 else if e.k = 4 ∨ e.k = 5 then 2 else 0
theorem cls_cases (e : Ev) : (cls e = 1 ∧ (e.k = 2 ∨ e.k = 3)) ∨ (cls e = 2 ∧ (e.k = 4 ∨ e.k = 5)) ∨ (cls e = 0 ∧ e.k ≠ 2 ∧ e.k ≠ 3 ∧ e.k ≠ 4 ∧ e.k ≠ 5) := by
  unfold cls
  by_cases h : e.k = 2 ∨ e.k = 3
  · rw [if_pos h]; exact .inl ⟨rfl, h⟩
  · by_cases h' : e.k = 4 ∨ e.k = 5
    · rw [if_neg h, if_pos h']; exact .inr (.inl ⟨rfl, h'⟩)
    · rw [if_neg h, if_neg h']; exact .inr (.inr ⟨rfl, by omega, by omega, by omega, by omega⟩)
theorem class_any (w : World) (e : Ev) : Calls Tryz.prog 186 #[valE e] w fun x w' => x = .returned (.int .i64 (cls e)) ∧ Below w.heap.size w w' := by
  obtain ⟨t, k, o, f⟩ := e
  have hb : ∀ O, Below w.heap.size w (w.alloc O) := fun O => (Below.refl _ _).alloc (Nat.le_refl _) _
  unfold valE cls
  simp only
  by_cases h2 : k = 2
  · subst h2
    go_enter Tryz.func186, Tryz.ntmps186
    go_wp2
    go_ret
    exact ⟨rfl, hb _⟩
  · by_cases h3 : k = 3
    · subst h3
      go_enter Tryz.func186, Tryz.ntmps186
      go_wp2
      go_ret
      exact ⟨rfl, hb _⟩
    · by_cases h4 : k = 4
      · subst h4
        go_enter Tryz.func186, Tryz.ntmps186
        go_wp2
        go_ret
        exact ⟨rfl, hb _⟩
      · by_cases h5 : k = 5
        · subst h5
          go_enter Tryz.func186, Tryz.ntmps186
          go_wp2
          go_ret
          exact ⟨rfl, hb _⟩
        · have e2 : (k == 2) = false := by simpa using h2
          have e3 : (k == 3) = false := by simpa using h3
          have e4 : (k == 4) = false := by simpa using h4
          have e5 : (k == 5) = false := by simpa using h5
          have hc : (if k = 2 ∨ k = 3 then (1 : Int) else if k = 4 ∨ k = 5 then 2 else 0) = 0 := by rw [if_neg (by omega), if_neg (by omega)]
          rw [hc]
          clear h2 h3 h4 h5 hc
          go_enter Tryz.func186, Tryz.ntmps186
          go_wp2
          go_ret
          exact ⟨rfl, hb _⟩
set_option maxHeartbeats 1000000 in
theorem right_any (w : World) (e : Ev) : Calls Tryz.prog 139 #[valE e] w fun x w' => x = .returned (.bool (Fo.right e)) ∧ Below w.heap.size w w' := by
  have hc := cls_cases e
  obtain ⟨w0, hw0⟩ : ∃ w0, w0 = w.alloc (Obj.cells #[.int .i64 e.t, .int .i64 e.k, .int .i64 e.o, .bool e.f] 51) := ⟨_, rfl⟩
  obtain ⟨X, hX⟩ : ∃ X, X = w.heap.size := ⟨_, rfl⟩
  have hk : w0.heap[X]? = some (.cells #[.int .i64 e.t, .int .i64 e.k, .int .i64 e.o, .bool e.f] 51 (0, 0)) := by rw [hw0, hX]; exact heap_alloc_new w _
  have hb0 : Below w.heap.size w w0 := by rw [hw0]; exact (Below.refl _ _).alloc (Nat.le_refl _) _
  have hcl := class_any w0 e
  unfold valE at hcl ⊢
  generalize cls e = c at *
  have c0 : w0.cell? ⟨X, 0, none⟩ = some (.int .i64 e.t) := by rw [cell_blk hk]; rfl
  have c1 : w0.cell? ⟨X, 1, none⟩ = some (.int .i64 e.k) := by rw [cell_blk hk]; rfl
  have c2 : w0.cell? ⟨X, 2, none⟩ = some (.int .i64 e.o) := by rw [cell_blk hk]; rfl
  have c3 : w0.cell? ⟨X, 3, none⟩ = some (.bool e.f) := by rw [cell_blk hk]; rfl
  have HCL := Lib.hid hcl
  have HK := Lib.hid hk
  have HB0 := Lib.hid hb0
  clear hcl hk hb0
  go_enter Tryz.func139, Tryz.ntmps139
  go_upto_region 2 with fail
  rw [← hw0, ← hX]
  have HX := Lib.hid hX
  clear hw0 hX
  go_wp2_with fail
  refine HCL.out.mono ?_
  rintro x w1 ⟨rfl, b1⟩
  have hk1 := (b1.block X (blk_lt HK.out)).trans HK.out
  have d0 : w1.cell? ⟨X, 0, none⟩ = some (.int .i64 e.t) := by rw [cell_blk hk1]; rfl
  have d1 : w1.cell? ⟨X, 1, none⟩ = some (.int .i64 e.k) := by rw [cell_blk hk1]; rfl
  have d2 : w1.cell? ⟨X, 2, none⟩ = some (.int .i64 e.o) := by rw [cell_blk hk1]; rfl
  have d3 : w1.cell? ⟨X, 3, none⟩ = some (.bool e.f) := by rw [cell_blk hk1]; rfl
  have hfin : Below w.heap.size w w1 := HB0.out.trans ⟨b1.os, b1.tape, b1.output, b1.size, fun i hi => b1.block i (by have := HB0.out.size; omega)⟩
  have HFIN := Lib.hid hfin
  clear b1 hk1 hfin c0 c1 c2 c3
  have HC := Lib.hid hc
  clear hc
  have fin : ∀ b : Bool, b = Fo.right e → Ending.returned (.bool b) = Ending.returned (.bool (Fo.right e)) ∧ Below w.heap.size w w1 := fun b hb => ⟨by rw [hb], HFIN.out⟩
  have FIN := Lib.hid fin
  clear fin
  rcases HC.out with ⟨rfl, hk⟩ | ⟨rfl, hk⟩ | ⟨rfl, hk⟩
  all_goals (have HKK := Lib.hid hk; clear hk)
  all_goals (go_wp2_with fail)
  all_goals (go_ret)
  all_goals (refine FIN.out _ ?_; have hkk := HKK.out; clear FIN HKK HFIN HC HB0 HK HCL HX d0 d1 d2 d3; unfold Fo.right; rw [Bool.eq_iff_iff, decide_eq_true_iff]; cases hf : e.f <;> simp [hf] at * <;> omega)
end Go.Proofs.YtckdofjpoajblaaGreat
namespace Go.Proofs.YtckdofjpoajblaaGreat
open Go.RowKit
set_option linter.unusedVariables false
theorem box2 (w : World) (a b : Ev) : ∃ W X Y, W = (w.alloc (Obj.cells #[.int .i64 a.t, .int .i64 a.k, .int .i64 a.o, .bool a.f] 51)).alloc (Obj.cells #[.int .i64 b.t, .int .i64 b.k, .int .i64 b.o, .bool b.f] 51) ∧ X = w.heap.size ∧ Y = w.heap.size + 1 ∧ Below w.heap.size w W ∧
    (∀ u, Below W.heap.size W u → (u.cell? ⟨X, 0, none⟩ = some (.int .i64 a.t) ∧ u.cell? ⟨X, 1, none⟩ = some (.int .i64 a.k) ∧ u.cell? ⟨X, 2, none⟩ = some (.int .i64 a.o) ∧ u.cell? ⟨X, 3, none⟩ = some (.bool a.f)) ∧
      (u.cell? ⟨Y, 0, none⟩ = some (.int .i64 b.t) ∧ u.cell? ⟨Y, 1, none⟩ = some (.int .i64 b.k) ∧ u.cell? ⟨Y, 2, none⟩ = some (.int .i64 b.o) ∧ u.cell? ⟨Y, 3, none⟩ = some (.bool b.f)) ∧ Below w.heap.size w u) := by
  refine ⟨_, _, _, rfl, rfl, rfl, ?_, fun u hu => ?_⟩
  · exact ((Below.refl _ _).alloc (Nat.le_refl _) _).alloc (by simp) _
  · have h1 : ((w.alloc (Obj.cells #[.int .i64 a.t, .int .i64 a.k, .int .i64 a.o, .bool a.f] 51)).alloc (Obj.cells #[.int .i64 b.t, .int .i64 b.k, .int .i64 b.o, .bool b.f] 51)).heap[w.heap.size]? = some (.cells #[.int .i64 a.t, .int .i64 a.k, .int .i64 a.o, .bool a.f] 51 (0, 0)) := by
      rw [heap_alloc_old _ _ (by simp), heap_alloc_new]
    have h2 : ((w.alloc (Obj.cells #[.int .i64 a.t, .int .i64 a.k, .int .i64 a.o, .bool a.f] 51)).alloc (Obj.cells #[.int .i64 b.t, .int .i64 b.k, .int .i64 b.o, .bool b.f] 51)).heap[w.heap.size + 1]? = some (.cells #[.int .i64 b.t, .int .i64 b.k, .int .i64 b.o, .bool b.f] 51 (0, 0)) := by
      have := heap_alloc_new (w.alloc (Obj.cells #[.int .i64 a.t, .int .i64 a.k, .int .i64 a.o, .bool a.f] 51)) (Obj.cells #[.int .i64 b.t, .int .i64 b.k, .int .i64 b.o, .bool b.f] 51)
      simpa using this
    have g1 := (hu.block _ (blk_lt h1)).trans h1
    have g2 := (hu.block _ (blk_lt h2)).trans h2
    refine ⟨⟨by rw [cell_blk g1]; rfl, by rw [cell_blk g1]; rfl, by rw [cell_blk g1]; rfl, by rw [cell_blk g1]; rfl⟩, ⟨by rw [cell_blk g2]; rfl, by rw [cell_blk g2]; rfl, by rw [cell_blk g2]; rfl, by rw [cell_blk g2]; rfl⟩, ?_⟩
    have hb : Below w.heap.size w ((w.alloc (Obj.cells #[.int .i64 a.t, .int .i64 a.k, .int .i64 a.o, .bool a.f] 51)).alloc (Obj.cells #[.int .i64 b.t, .int .i64 b.k, .int .i64 b.o, .bool b.f] 51)) := ((Below.refl _ _).alloc (Nat.le_refl _) _).alloc (by simp) _
    exact hb.trans ⟨hu.os, hu.tape, hu.output, hu.size, fun i hi => hu.block i (by have := hb.size; omega)⟩
theorem below2 {a b c : World} (h : Below a.heap.size a b) (k : Below b.heap.size b c) : Below a.heap.size a c := h.trans ⟨k.os, k.tape, k.output, k.size, fun i hi => k.block i (by have := h.size; omega)⟩
set_option maxHeartbeats 1000000 in
theorem depends_any (w : World) (a b : Ev) : Calls Tryz.prog 148 #[valE a, valE b] w fun x w' => x = .returned (.bool (Fo.dep a b)) ∧ Below w.heap.size w w' := by
  have ha := cls_cases a
  have hb := cls_cases b
  have HCA : Hid (∀ u, Calls Tryz.prog 186 #[valE a] u fun x w' => x = .returned (.int .i64 (cls a)) ∧ Below u.heap.size u w') := Lib.hid (fun u => class_any u a)
  have HCB : Hid (∀ u, Calls Tryz.prog 186 #[valE b] u fun x w' => x = .returned (.int .i64 (cls b)) ∧ Below u.heap.size u w') := Lib.hid (fun u => class_any u b)
  generalize cls a = ca at *
  generalize cls b = cb at *
  obtain ⟨W, X, Y, hW, hX, hY, hB, hcell⟩ := box2 w a b
  have hu := hcell W (Below.refl _ _)
  obtain ⟨⟨c0, c1, c2, c3⟩, ⟨d0, d1, d2, d3⟩, hw⟩ := hu
  unfold valE at HCA HCB ⊢
  go_enter Tryz.func148, Tryz.ntmps148
  go_upto_region 1 with fail
  rw [← hW, ← hY, ← hX]
  have HX := Lib.hid hX
  have HY := Lib.hid hY
  have HCELL := Lib.hid hcell
  have HA := Lib.hid ha
  have HB := Lib.hid hb
  clear hW hX hY hB hcell hw ha hb
  go_wp2_with fail
  refine (HCA.out _).mono ?_
  rintro x w1 ⟨rfl, b1⟩
  obtain ⟨⟨c0', c1', c2', c3'⟩, ⟨d0', d1', d2', d3'⟩, hw1⟩ := HCELL.out _ b1
  have HB1 := Lib.hid b1
  have HW1 := Lib.hid hw1
  clear c0 c1 c2 c3 d0 d1 d2 d3 b1 hw1
  have hcb := HCB.out w1
  have HCBW := Lib.hid hcb
  clear hcb
  have step : ∀ v, Below w1.heap.size w1 v → (v.cell? ⟨X, 1, none⟩ = some (.int .i64 a.k) ∧ v.cell? ⟨X, 2, none⟩ = some (.int .i64 a.o)) ∧ (v.cell? ⟨Y, 1, none⟩ = some (.int .i64 b.k) ∧ v.cell? ⟨Y, 2, none⟩ = some (.int .i64 b.o)) ∧ Below w.heap.size w v := fun v hv => by
    obtain ⟨⟨_, q1, q2, _⟩, ⟨_, r1, r2, _⟩, h⟩ := HCELL.out v (below2 HB1.out hv)
    exact ⟨⟨q1, q2⟩, ⟨r1, r2⟩, h⟩
  have STEP := Lib.hid step
  clear step
  have fin : ∀ (b' : Bool) v, b' = Fo.dep a b → Below w.heap.size w v → Ending.returned (.bool b') = Ending.returned (.bool (Fo.dep a b)) ∧ Below w.heap.size w v := fun b' v hb hv => ⟨by rw [hb], hv⟩
  have FIN := Lib.hid fin
  clear fin
  by_cases ht : a.t = b.t
  · have e1 : (a.t == b.t) = true := by simpa using ht
    have HT := Lib.hid ht
    clear ht
    go_wp2_with fail
    go_ret
    exact FIN.out _ _ (Fo.dep_thread HT.out).symm HW1.out
  · have e1 : (a.t == b.t) = false := by simpa using ht
    have HT := Lib.hid ht
    clear ht
    rcases HA.out with ⟨rfl, ha⟩ | ⟨rfl, ha⟩ | ⟨rfl, ha⟩
    rotate_left 2
    · have HA' := Lib.hid ha
      clear ha
      go_wp2_with fail
      go_ret
      refine FIN.out _ _ ?_ HW1.out
      have := HA'.out
      unfold Fo.dep Fo.memK Fo.mutK
      rw [decide_eq_false HT.out]
      simp [this.1, this.2.1, this.2.2.1, this.2.2.2]
    all_goals (have HA' := Lib.hid ha; clear ha)
    all_goals (go_wp2_with fail)
    all_goals (refine HCBW.out.mono ?_; rintro x w2 ⟨rfl, b2⟩; obtain ⟨⟨q1, q2⟩, ⟨r1, r2⟩, hw2⟩ := STEP.out w2 b2; have HW2 := Lib.hid hw2; clear b2 hw2 c1' c2' d1' d2')
    all_goals (rcases HB.out with ⟨rfl, hb⟩ | ⟨rfl, hb⟩ | ⟨rfl, hb⟩)
    all_goals (have HB' := Lib.hid hb; clear hb)
    all_goals (go_wp2_with fail)
    all_goals (go_ret)
    all_goals (refine FIN.out _ _ ?_ HW2.out; have ha := HA'.out; have hb := HB'.out; have ht := HT.out; clear FIN HA' HB' HT HA HB HCA HCB HCBW HCELL HB1 HW1 HW2 STEP HX HY q1 q2 r1 r2; unfold Fo.dep Fo.memK Fo.mutK; rw [decide_eq_false ht, Bool.eq_iff_iff]; simp at * <;> omega)
end Go.Proofs.YtckdofjpoajblaaGreat
namespace Go.Proofs.YtckdofjpoajblaaGreat
open Go.RowKit
set_option linter.unusedVariables false
theorem encE_len (e : Ev) : (encE e).length = 4 := rfl
def EvAt (u : World) (g o : Nat) (e : Ev) : Prop := u.cell? ⟨g, o, none⟩ = some (.int .i64 e.t) ∧ u.cell? ⟨g, o + 1, none⟩ = some (.int .i64 e.k) ∧ u.cell? ⟨g, o + 2, none⟩ = some (.int .i64 e.o) ∧ u.cell? ⟨g, o + 3, none⟩ = some (.bool e.f)
theorem evs_cell {w : World} {B : Nat} {A : Option Addr} {l : List Ev} (h : RdB w B 4 A l.length (l.flatMap encE)) : ∀ k, (hk : k < l.length) → ∃ g o, A = some ⟨g, o, none⟩ ∧ g < B ∧ ∀ u, Below B w u → EvAt u g (o + k * 4) l[k] := fun k hk => by
  obtain ⟨g, o, hA, hg, hc⟩ := h.2 (by omega)
  refine ⟨g, o, hA, hg, fun u hu => ?_⟩
  have hcl : ∀ r, r < 4 → u.cell? ⟨g, o + k * 4 + r, none⟩ = (encE l[k])[r]? := fun r hr => by
    rw [Nat.add_assoc, World.cell?_of_block (hu.block g hg), hc (k * 4 + r) (by omega), flat_get (f := encE) (sz := 4) encE_len l k r hk hr]
  have v0 := hcl 0 (by omega)
  have v1 := hcl 1 (by omega)
  have v2 := hcl 2 (by omega)
  have v3 := hcl 3 (by omega)
  simp only [encE, List.getElem?_cons_succ, List.getElem?_cons_zero, Nat.add_zero] at v0 v1 v2 v3
  exact ⟨v0, v1, v2, v3⟩
theorem rights_take {l : List Ev} {k : Nat} (hk : k < l.length) : Fo.rights (l.take (k + 1)) = (Fo.rights (l.take k) && Fo.right l[k]) := by
  unfold Fo.rights
  rw [List.take_add_one, List.getElem?_eq_getElem hk, List.all_append]
  simp
theorem rights_false {l : List Ev} {k : Nat} (hk : k < l.length) (h : Fo.right l[k] = false) : Fo.rights l = false := by
  unfold Fo.rights
  rw [List.all_eq_false]
  exact ⟨l[k], List.getElem_mem hk, by simp [h]⟩
theorem any_take {l : List Ev} {p : Ev → Bool} {k : Nat} (hk : k < l.length) : (l.take (k + 1)).any p = ((l.take k).any p || p l[k]) := by
  rw [List.take_add_one, List.getElem?_eq_getElem hk, List.any_append]
  simp
theorem indexFunc_right1 (w : World) (A : Option Addr) (cap : Nat) (l : List Ev) (hr : Rd w 4 A l.length (l.flatMap encE)) (hl : l.length < 4611686018427387904) (p : Ev → Bool)
    (hf : ∀ u e, Below w.heap.size w u → Calls Tryz.prog 138 #[valE e] u fun x w' => x = .returned (.bool (p e)) ∧ Below u.heap.size u w') :
    Calls Tryz.prog 185 #[.slice A l.length cap, .func (.func 138) #[] #[]] w fun x w' => ∃ n : Int, x = .returned (.int .i64 n) ∧ ((0 ≤ n) ↔ l.any p = true) ∧ Below w.heap.size w w' := by
  have HC := Lib.hid (evs_cell hr.toB)
  have HF := Lib.hid hf
  clear hr hf
  go_enter Tryz.func185, Tryz.ntmps185
  go_wp2_with fail
  go_loopw [8] (fun v wr => ∃ k : Nat, k ≤ l.length ∧ v = .int .i64 k ∧ Hid ((l.take k).any p = false) ∧ Below w.heap.size w wr) (fun v _ => l.length - (intOf v).toNat)
  case atStart => exact ⟨0, Nat.zero_le _, rfl, Lib.hid rfl, Below.refl _ _⟩
  case round =>
    obtain ⟨k, hk, rfl, HRT, hb⟩ := hrel
    by_cases hlt : k < l.length
    · obtain ⟨g, o, rfl, hg, hcl⟩ := HC.out k hlt
      obtain ⟨v0, v1, v2, v3⟩ := hcl wr hb
      have k1 : (0 : Int) ≤ (k : Int) := Int.natCast_nonneg _
      have k2 : (k : Int) < (l.length : Int) := by omega
      have hcall := HF.out wr l[k] hb
      have htk := any_take (p := p) hlt
      obtain ⟨b, hbb⟩ : ∃ b, b = p l[k] := ⟨_, rfl⟩
      have hin : b = true → l.any p = true := fun h => List.any_eq_true.2 ⟨l[k], List.getElem_mem hlt, by rw [← hbb, h]⟩
      rw [← hbb] at hcall htk
      unfold valE at hcall
      have HCALL := Lib.hid hcall
      have HTK := Lib.hid htk
      have HIN := Lib.hid hin
      have HB := Lib.hid hb
      clear hcall htk hin hcl hbb hb
      go_wp2_with fail
      refine HCALL.out.mono ?_
      rintro x w1 ⟨rfl, b1⟩
      have hb2 : Below w.heap.size w w1 := HB.out.trans ⟨b1.os, b1.tape, b1.output, b1.size, fun i hi => b1.block i (by have := HB.out.size; omega)⟩
      have HB2 := Lib.hid hb2
      clear b1 hb2
      cases b with
      | true =>
        go_wp2_with fail
        go_ret
        exact ⟨k, rfl, ⟨fun _ => HIN.out (by trivial), fun _ => k1⟩, HB2.out⟩
      | false =>
        go_wp2_with fail
        go_roundw
        case rel => exact ⟨k + 1, by omega, by go_num, Lib.hid (by rw [HTK.out, HRT.out]; rfl), HB2.out⟩
        case measure => simp [intOf]; omega
    · have hkn : k = l.length := by omega
      have HK := Lib.hid hkn
      have HB := Lib.hid hb
      clear hkn hb
      go_wp2_with fail
      go_ret
      have := HRT.out
      rw [HK.out, List.take_length] at this
      exact ⟨-1, rfl, ⟨fun h => by omega, fun h => by rw [this] at h; cases h⟩, HB.out⟩
theorem containsFunc_right1 (w : World) (A : Option Addr) (cap : Nat) (l : List Ev) (hr : Rd w 4 A l.length (l.flatMap encE)) (hl : l.length < 4611686018427387904) (p : Ev → Bool)
    (hf : ∀ u e, Below w.heap.size w u → Calls Tryz.prog 138 #[valE e] u fun x w' => x = .returned (.bool (p e)) ∧ Below u.heap.size u w') :
    Calls Tryz.prog 137 #[.slice A l.length cap, .func (.func 138) #[] #[]] w fun x w' => x = .returned (.bool (l.any p)) ∧ Below w.heap.size w w' := by
  have H := Lib.hid (indexFunc_right1 w A cap l hr hl p hf)
  clear hr hf
  go_enter Tryz.func137, Tryz.ntmps137
  go_wp2_with fail
  refine H.out.mono ?_
  rintro x w1 ⟨n, rfl, hn, b1⟩
  have HN := Lib.hid hn
  have HB := Lib.hid b1
  clear hn b1
  go_wp2_with fail
  go_ret
  refine ⟨?_, HB.out⟩
  have : decide (0 ≤ n) = l.any p := by
    rw [Bool.eq_iff_iff, decide_eq_true_iff]; exact HN.out
  rw [← this]
  rfl
theorem indexFunc_lev1 (w : World) (X : Nat) (A : Option Addr) (cap : Nat) (l : List Ev) (hr : Rd w 4 A l.length (l.flatMap encE)) (hl : l.length < 4611686018427387904) (p : Ev → Bool)
    (hf : ∀ u e, Below w.heap.size w u → Calls Tryz.prog 147 #[valE e, .pointer (some ⟨X, 0, none⟩)] u fun x w' => x = .returned (.bool (p e)) ∧ Below u.heap.size u w') :
    Calls Tryz.prog 185 #[.slice A l.length cap, .func (.func 147) #[] #[.pointer (some ⟨X, 0, none⟩)]] w fun x w' => ∃ n : Int, x = .returned (.int .i64 n) ∧ ((0 ≤ n) ↔ l.any p = true) ∧ Below w.heap.size w w' := by
  have HC := Lib.hid (evs_cell hr.toB)
  have HF := Lib.hid hf
  clear hr hf
  go_enter Tryz.func185, Tryz.ntmps185
  go_wp2_with fail
  go_loopw [8] (fun v wr => ∃ k : Nat, k ≤ l.length ∧ v = .int .i64 k ∧ Hid ((l.take k).any p = false) ∧ Below w.heap.size w wr) (fun v _ => l.length - (intOf v).toNat)
  case atStart => exact ⟨0, Nat.zero_le _, rfl, Lib.hid rfl, Below.refl _ _⟩
  case round =>
    obtain ⟨k, hk, rfl, HRT, hb⟩ := hrel
    by_cases hlt : k < l.length
    · obtain ⟨g, o, rfl, hg, hcl⟩ := HC.out k hlt
      obtain ⟨v0, v1, v2, v3⟩ := hcl wr hb
      have k1 : (0 : Int) ≤ (k : Int) := Int.natCast_nonneg _
      have k2 : (k : Int) < (l.length : Int) := by omega
      have hcall := HF.out wr l[k] hb
      have htk := any_take (p := p) hlt
      obtain ⟨b, hbb⟩ : ∃ b, b = p l[k] := ⟨_, rfl⟩
      have hin : b = true → l.any p = true := fun h => List.any_eq_true.2 ⟨l[k], List.getElem_mem hlt, by rw [← hbb, h]⟩
      rw [← hbb] at hcall htk
      unfold valE at hcall
      have HCALL := Lib.hid hcall
      have HTK := Lib.hid htk
      have HIN := Lib.hid hin
      have HB := Lib.hid hb
      clear hcall htk hin hcl hbb hb
      go_wp2_with fail
      refine HCALL.out.mono ?_
      rintro x w1 ⟨rfl, b1⟩
      have hb2 : Below w.heap.size w w1 := HB.out.trans ⟨b1.os, b1.tape, b1.output, b1.size, fun i hi => b1.block i (by have := HB.out.size; omega)⟩
      have HB2 := Lib.hid hb2
      clear b1 hb2
      cases b with
      | true =>
        go_wp2_with fail
        go_ret
        exact ⟨k, rfl, ⟨fun _ => HIN.out (by trivial), fun _ => k1⟩, HB2.out⟩
      | false =>
        go_wp2_with fail
        go_roundw
        case rel => exact ⟨k + 1, by omega, by go_num, Lib.hid (by rw [HTK.out, HRT.out]; rfl), HB2.out⟩
        case measure => simp [intOf]; omega
    · have hkn : k = l.length := by omega
      have HK := Lib.hid hkn
      have HB := Lib.hid hb
      clear hkn hb
      go_wp2_with fail
      go_ret
      have := HRT.out
      rw [HK.out, List.take_length] at this
      exact ⟨-1, rfl, ⟨fun h => by omega, fun h => by rw [this] at h; cases h⟩, HB.out⟩
theorem containsFunc_lev1 (w : World) (X : Nat) (A : Option Addr) (cap : Nat) (l : List Ev) (hr : Rd w 4 A l.length (l.flatMap encE)) (hl : l.length < 4611686018427387904) (p : Ev → Bool)
    (hf : ∀ u e, Below w.heap.size w u → Calls Tryz.prog 147 #[valE e, .pointer (some ⟨X, 0, none⟩)] u fun x w' => x = .returned (.bool (p e)) ∧ Below u.heap.size u w') :
    Calls Tryz.prog 137 #[.slice A l.length cap, .func (.func 147) #[] #[.pointer (some ⟨X, 0, none⟩)]] w fun x w' => x = .returned (.bool (l.any p)) ∧ Below w.heap.size w w' := by
  have H := Lib.hid (indexFunc_lev1 w X A cap l hr hl p hf)
  clear hr hf
  go_enter Tryz.func137, Tryz.ntmps137
  go_wp2_with fail
  refine H.out.mono ?_
  rintro x w1 ⟨n, rfl, hn, b1⟩
  have HN := Lib.hid hn
  have HB := Lib.hid b1
  clear hn b1
  go_wp2_with fail
  go_ret
  refine ⟨?_, HB.out⟩
  have : decide (0 ≤ n) = l.any p := by
    rw [Bool.eq_iff_iff, decide_eq_true_iff]; exact HN.out
  rw [← this]
  rfl
end Go.Proofs.YtckdofjpoajblaaGreat
namespace Go.Proofs.YtckdofjpoajblaaGreat
open Go.RowKit
set_option linter.unusedVariables false
set_option maxRecDepth 100000 in
theorem evEq (a b : Ev) (w : World) : (Op.equalIn 10000 51 (.agg #[.int .i64 a.t, .int .i64 a.k, .int .i64 a.o, .bool a.f]) (.agg #[.int .i64 b.t, .int .i64 b.k, .int .i64 b.o, .bool b.f])).run Tryz.prog w = .ok (decide (a = b)) w := by
  have u3 := Tryz.underlying3
  have u4 := Tryz.underlying4
  have a3 := Tryz.isAgg3
  have z3 := Tryz.sizeOf3
  have a4 := Tryz.isAgg4
  have z4 := Tryz.sizeOf4
  have hS : Tryz.prog.underlying 51 = some (.struct (Tryz.prog.fieldsOf 51)) := by kernel_rfl
  have hp : Tryz.prog.stoodInHeld 51 = false := by kernel_rfl
  rw [show (10000 : Nat) = 9999 + 1 from rfl, run_equalIn_agg w 9999 51 _ _ hS hp]
  simp only [Program.fieldsOf, Tryz.underlying51]
  go_simp
  obtain ⟨t, k, o, f⟩ := a
  obtain ⟨t', k', o', f'⟩ := b
  simp only [Ev.mk.injEq]
  by_cases h1 : t = t' <;> by_cases h2 : k = k' <;> by_cases h3 : o = o' <;> by_cases h4 : f = f' <;> simp [h1, h2, h3, h4]
theorem evGuard (op : BinOp) (x y : Operand) (a b : Array Value) (w : World) : (eqGuard op 51 x y (.agg a) (.agg b)).run Tryz.prog w = .ok () w := run_eqGuard_agg w op 51 x y _ _ (by kernel_rfl)
end Go.Proofs.YtckdofjpoajblaaGreat
namespace Go.Proofs.YtckdofjpoajblaaGreat
open Go.RowKit
set_option linter.unusedVariables false
def LvAt (w : World) (B : Nat) (A : Option Addr) (L : List (List Ev)) : Prop :=
  ∃ vs : List Value, RdB w B 1 A L.length vs ∧ ∀ i, (hi : i < L.length) → ∃ A' c', vs[i]? = some (.slice A' L[i].length c') ∧ RdB w B 4 A' L[i].length (L[i].flatMap encE) ∧ L[i].length ≤ c' ∧ c' ≤ maxLen
theorem LvAt.below {w w' : World} {B : Nat} {A : Option Addr} {L : List (List Ev)} (h : LvAt w B A L) (hb : Below B w w') : LvAt w' B A L := by
  obtain ⟨vs, h1, h2⟩ := h
  refine ⟨vs, h1.below hb, fun i hi => ?_⟩
  obtain ⟨A', c', h3, h4, h5⟩ := h2 i hi
  exact ⟨A', c', h3, h4.below hb, h5⟩
theorem RdB.mono {w : World} {B B' sz : Nat} {A : Option Addr} {n : Nat} {cs : List Value} (h : RdB w B sz A n cs) (hB : B ≤ B') : RdB w B' sz A n cs := by
  refine ⟨h.1, fun h0 => ?_⟩
  obtain ⟨g, o, hA, hg, hc⟩ := h.2 h0
  exact ⟨g, o, hA, Nat.lt_of_lt_of_le hg hB, hc⟩
theorem LvAt.mono {w : World} {B B' : Nat} {A : Option Addr} {L : List (List Ev)} (h : LvAt w B A L) (hB : B ≤ B') : LvAt w B' A L := by
  obtain ⟨vs, h1, h2⟩ := h
  refine ⟨vs, h1.mono hB, fun i hi => ?_⟩
  obtain ⟨A', c', h3, h4, h5⟩ := h2 i hi
  exact ⟨A', c', h3, h4.mono hB, h5⟩
theorem LvAt.cell {w : World} {B : Nat} {A : Option Addr} {L : List (List Ev)} (h : LvAt w B A L) : ∀ k, (hk : k < L.length) → ∃ g o A' c', A = some ⟨g, o, none⟩ ∧ g < B ∧ RdB w B 4 A' L[k].length (L[k].flatMap encE) ∧ ∀ u, Below B w u → u.cell? ⟨g, o + k, none⟩ = some (.slice A' L[k].length c') := fun k hk => by
  obtain ⟨vs, h1, h2⟩ := h
  obtain ⟨g, o, hA, hg, hc⟩ := h1.2 (by omega)
  obtain ⟨A', c', h3, h4, _⟩ := h2 k hk
  refine ⟨g, o, A', c', hA, hg, h4, fun u hu => ?_⟩
  rw [World.cell?_of_block (hu.block g hg), hc k (by omega), h3]
theorem get_some {α : Type} {q : List α} {k : Nat} (h : k < q.length) : ∃ e, q[k]? = some e := ⟨_, List.getElem?_eq_getElem h⟩
end Go.Proofs.YtckdofjpoajblaaGreat
namespace Go.Proofs.YtckdofjpoajblaaGreat
open Go.ChangeShapes Go.WideShapes Go.ChangeAt Go.RowKit
set_option linter.unusedVariables false
structure SlE where
  A : Option Addr
  cap : Nat
  l : List Ev
end Go.Proofs.YtckdofjpoajblaaGreat
namespace Go.Proofs.YtckdofjpoajblaaGreat
open Go.RowKit
set_option linter.unusedVariables false
section
variable {P : Program}
theorem run_append_copy0 (w : World) (t ty e : TypeId) (i : TypeInfo) (z : Value) (sz bytes : Nat) (ht : P.underlying t = some (.slice e)) (hi : P.info? e = some i) (hz : i.zero = some z)
    (hsize : i.size = sz) (hby : i.bytes = bytes) (hzs : z.cells.size = sz) (hsz : 0 < sz)
    (b : Addr) (n : Nat) (cs : List Value) (hown : Row w e sz (some b) n n cs)
    (X : Option Addr) (m c : Nat) (news : List Value) (hx : Rd w sz X m news) (h63 : n + m ≤ maxLen) (hbytes : (n + m) * bytes ≤ 140737488355328) :
    ∃ g o cap' w', (Builtin.append_ #[t, t] ty #[.slice (some b) n n, .slice X m c]).run P w = .ok (.slice (some ⟨g, o, none⟩) (n + m) cap') w' ∧ Row w' e sz (some ⟨g, o, none⟩) (n + m) cap' (cs ++ news) ∧
      Below w.heap.size w w' ∧ ((m = 0 ∧ g = b.block) ∨ w.heap.size ≤ g) ∧ (o = 0 ∨ o = b.off) := by
  rcases Nat.eq_zero_or_pos m with hm | hm
  · subst hm
    have hn : news = [] := List.eq_nil_of_length_eq_zero (by rw [hx.1]; simp)
    subst hn
    subst hsize
    obtain ⟨hs, _⟩ := hown.2.2.2.2 b rfl
    obtain ⟨g, o, s⟩ := b
    simp at hs
    subst hs
    exact ⟨g, o, n, w, run_append_none w t ty e i ht hi _ n n cs hown X c, by simpa using hown, Below.refl _ _, .inl ⟨rfl, rfl⟩, .inr rfl⟩
  · obtain ⟨g, o, rfl, hg, hc⟩ := hx.2 (Nat.mul_pos hm hsz)
    obtain ⟨v', w', hr, ho, hgr⟩ := run_append_arg_grows (P := P) (w := w) t ty e i z sz bytes ht hi hz hsize hby hzs hsz b n n cs hown.1 hown.cells ⟨g, o, none⟩ m c news hx.1
      (fun j u hu => by rw [addr_add, hc j (by rw [← hx.1]; exact (List.getElem?_eq_some_iff.1 hu).1)]; exact hu) (by omega) h63 hbytes
    rcases ho.2 with ⟨_, h0⟩ | ⟨g', cap', cur, rfl, hb, hgh, hnc, hcm, hcsz, htk⟩
    · omega
    · refine ⟨g', 0, cap', w', hr, ⟨ho.1, hnc, hcm, fun h => (by cases h), fun a' ha' => ?_⟩, (Mod.of_grown hgr).below _ (Nat.le_refl _) (fun k _ hk => by cases hk), .inr hb, .inl rfl⟩
      injection ha' with ha'
      subst ha'
      exact ⟨rfl, cur, hgh, by simp only; omega, by simpa using htk⟩
theorem run_append_copy (w : World) (t ty e : TypeId) (i : TypeInfo) (z : Value) (sz bytes : Nat) (ht : P.underlying t = some (.slice e)) (hi : P.info? e = some i) (hz : i.zero = some z)
    (hsize : i.size = sz) (hby : i.bytes = bytes) (hzs : z.cells.size = sz) (hsz : 0 < sz)
    (b : Addr) (n : Nat) (cs : List Value) (hown : Row w e sz (some b) n n cs)
    (X : Option Addr) (m c : Nat) (news : List Value) (hx : Rd w sz X m news) (h63 : n + m ≤ maxLen) (hbytes : (n + m) * bytes ≤ 140737488355328) :
    ∃ g o cap' w', (Builtin.append_ #[t, t] ty #[.slice (some b) n n, .slice X m c]).run P w = .ok (.slice (some ⟨g, o, none⟩) (n + m) cap') w' ∧ Row w' e sz (some ⟨g, o, none⟩) (n + m) cap' (cs ++ news) ∧
      Below w.heap.size w w' ∧ ((m = 0 ∧ g = b.block) ∨ w.heap.size ≤ g) := by
  obtain ⟨g, o, cap', w', h1, h2, h3, h4, _⟩ := run_append_copy0 w t ty e i z sz bytes ht hi hz hsize hby hzs hsz b n cs hown X m c news hx h63 hbytes
  exact ⟨g, o, cap', w', h1, h2, h3, h4⟩
theorem wpList_append_copy {w : World} {ops : Array Oper} {rest : List Oper} {o : Oper} {a : Act} {Q : Exit → Act → World → Prop} (hgd : o.guard = none) (s x : Operand) (t : TypeId)
    (ho : o.op = .call { callee := .builtin .append, args := #[s, x], argTypes := #[t, t] })
    (e : TypeId) (i : TypeInfo) (z : Value) (sz bytes : Nat) (ht : P.underlying t = some (.slice e)) (hi : P.info? e = some i) (hz : i.zero = some z)
    (hsize : i.size = sz) (hby : i.bytes = bytes) (hzs : z.cells.size = sz) (hsz : 0 < sz)
    (b : Addr) (n : Nat) (cs : List Value) (hs : a.eval s = .slice (some b) n n) (hown : Row w e sz (some b) n n cs)
    (X : Option Addr) (m c : Nat) (news : List Value) (hx : a.eval x = .slice X m c) (hrd : Rd w sz X m news)
    (h63 : n + m ≤ maxLen) (hbytes : (n + m) * bytes ≤ 140737488355328)
    (h : ∀ g off cap' w', Row w' e sz (some ⟨g, off, none⟩) (n + m) cap' (cs ++ news) → Below w.heap.size w w' → ((m = 0 ∧ g = b.block) ∨ w.heap.size ≤ g) → wpList P ops Q rest (a.put o.dst (.slice (some ⟨g, off, none⟩) (n + m) cap')) w') : wpList P ops Q (o :: rest) a w := by
  refine wpList_plain hgd fun K hK => ?_
  obtain ⟨g, off, cap', w', hr, h2, h3, h4⟩ := run_append_copy (P := P) w t o.type e i z sz bytes ht hi hz hsize hby hzs hsz b n cs hown X m c news hrd h63 hbytes
  unfold Oper.wp execOp
  simp only [ho, resolve, invoke, builtin, Sem.run_bind, Sem.run_pure, Result.andThen_ok, List.map_toArray, List.map_cons, List.map_nil, hs, hx, hr]
  exact hK _ _ (h g off cap' w' h2 h3 h4)
theorem wpList_append_copy0 {w : World} {ops : Array Oper} {rest : List Oper} {o : Oper} {a : Act} {Q : Exit → Act → World → Prop} (hgd : o.guard = none) (s x : Operand) (t : TypeId)
    (ho : o.op = .call { callee := .builtin .append, args := #[s, x], argTypes := #[t, t] })
    (e : TypeId) (i : TypeInfo) (z : Value) (sz bytes : Nat) (ht : P.underlying t = some (.slice e)) (hi : P.info? e = some i) (hz : i.zero = some z)
    (hsize : i.size = sz) (hby : i.bytes = bytes) (hzs : z.cells.size = sz) (hsz : 0 < sz)
    (b : Addr) (n : Nat) (cs : List Value) (hs : a.eval s = .slice (some b) n n) (hown : Row w e sz (some b) n n cs)
    (X : Option Addr) (m c : Nat) (news : List Value) (hx : a.eval x = .slice X m c) (hrd : Rd w sz X m news)
    (h63 : n + m ≤ maxLen) (hbytes : (n + m) * bytes ≤ 140737488355328)
    (h : ∀ g off cap' w', Row w' e sz (some ⟨g, off, none⟩) (n + m) cap' (cs ++ news) → Below w.heap.size w w' → ((m = 0 ∧ g = b.block) ∨ w.heap.size ≤ g) → (off = 0 ∨ off = b.off) → wpList P ops Q rest (a.put o.dst (.slice (some ⟨g, off, none⟩) (n + m) cap')) w') : wpList P ops Q (o :: rest) a w := by
  refine wpList_plain hgd fun K hK => ?_
  obtain ⟨g, off, cap', w', hr, h2, h3, h4, h5⟩ := run_append_copy0 (P := P) w t o.type e i z sz bytes ht hi hz hsize hby hzs hsz b n cs hown X m c news hrd h63 hbytes
  unfold Oper.wp execOp
  simp only [ho, resolve, invoke, builtin, Sem.run_bind, Sem.run_pure, Result.andThen_ok, List.map_toArray, List.map_cons, List.map_nil, hs, hx, hr]
  exact hK _ _ (h g off cap' w' h2 h3 h4 h5)
end
theorem row_empty {w : World} {e sz Z : Nat} (h : w.heap[Z]? = some (.cells #[] e (0, 0))) : Row w e sz (some ⟨Z, 0, none⟩) 0 0 [] :=
  ⟨by simp, Nat.le_refl _, Nat.zero_le _, fun h => (by cases h), fun a ha => by injection ha with ha; subst ha; exact ⟨rfl, _, h, by simp, by simp⟩⟩
end Go.Proofs.YtckdofjpoajblaaGreat
namespace Go.Proofs.YtckdofjpoajblaaGreat
open Go.RowKit
set_option linter.unusedVariables false
def byteVs (bs : List UInt8) : List Value := bs.map fun b => .int .u8 b.toNat
theorem conv_bytes {P : Program} {w : World} {e : TypeId} {A : Option Addr} {n cap : Nat} {bs : List UInt8} (h : Row w e 1 A n cap (byteVs bs)) (src dst : TypeId) (hs : P.underlying src = some (.slice e)) (he : P.underlying e = some (.int .u8)) (hd : P.underlying dst = some .string) :
    (convert src dst (.slice A n cap)).run P w = .ok (.string ⟨bs.toArray⟩) w := by
  have hl := h.len
  unfold byteVs at hl
  rw [List.length_map] at hl
  cases A with
  | none =>
    have h0 := h.2.2.2.1 rfl
    have h1 := h.2.1
    rw [run_convert_bytes_nil w src e hs he n cap dst hd]
    have : bs = [] := List.eq_nil_of_length_eq_zero (by omega)
    subst this
    rfl
  | some a =>
    obtain ⟨hsp, _⟩ := h.2.2.2.2 a rfl
    obtain ⟨g, o, s⟩ := a
    simp only at hsp
    subst hsp
    rw [run_convert_bytes_arg w src e hs he g o n cap (bs.map fun b => (b.toNat : Int)) (by simp; omega) (fun i hi => by
      rw [h.cell i (by omega)]
      unfold byteVs
      rw [List.getElem?_map, List.getD_eq_getElem?_getD, List.getElem?_map, List.getElem?_eq_getElem (by omega)]
      rfl) dst hd]
    congr 2
    apply ByteArray.ext
    apply Array.toList_inj.1
    rw [strOfNums_data, List.map_map]
    conv => rhs; rw [show (⟨bs.toArray⟩ : ByteArray).data.toList = bs from rfl, ← List.map_id bs]
    apply List.map_congr_left
    intro x _
    simp
theorem acc_more {w wr w1 : World} {O : Obj} {g of : Nat} {A : Option Addr} (hA : ∀ a, A = some a → w.heap.size ≤ a.block) (hb : Below w.heap.size w wr)
    (hm : Mod (fun k => ∃ a, A = some a ∧ k = a.block) (wr.alloc O) w1) (hat : (∃ a, A = some a ∧ g = a.block) ∨ (wr.alloc O).heap.size ≤ g) :
    (∀ a, some (⟨g, of, none⟩ : Addr) = some a → w.heap.size ≤ a.block) ∧ Below w.heap.size w w1 := by
  have z := hb.size
  refine ⟨fun a ha => ?_, ?_⟩
  · injection ha with ha
    subst ha
    rcases hat with ⟨a, e1, e2⟩ | h
    · have := hA a e1; show w.heap.size ≤ g; omega
    · simp at h; show w.heap.size ≤ g; omega
  · have m1 : Mod (fun k => w.heap.size ≤ k) w wr := Mod.of_below hb
    have m2 : Mod (fun k => w.heap.size ≤ k) w (wr.alloc O) := m1.alloc O
    exact (m2.then hm (fun i hi ⟨a, e1, e2⟩ => by have := hA a e1; omega)).below _ (Nat.le_refl _) (fun k hk h => by omega)
theorem Tryz.infoU8 : (Tryz.prog.info? 5).map (fun i => (i.zero, i.size, i.bytes)) = some (some (.int .u8 0), 1, 1) := by kernel_rfl
theorem below_at {w a b : World} (h : Below w.heap.size w a) (k : Below a.heap.size a b) : Below w.heap.size w b := h.trans ⟨k.os, k.tape, k.output, k.size, fun i hi => k.block i (by have := h.size; omega)⟩
theorem bytes_take {l : List Ev} {k : Nat} (hk : k < l.length) : Fo.bytes (l.take (k + 1)) = Fo.bytes (l.take k) ++ [Fo.byteU l[k]] := by
  unfold Fo.bytes
  rw [List.take_add_one, List.getElem?_eq_getElem hk, List.map_append]
  rfl
theorem Row.alloc {w : World} {e sz : Nat} {A : Option Addr} {n cap : Nat} {cs : List Value} (h : Row w e sz A n cap cs) (O : Obj) : Row (w.alloc O) e sz A n cap cs :=
  h.move (fun a ha => by subst ha; exact heap_alloc_old w O h.lt)
def prE (l : List Ev) : List UInt8 := if Fo.rights l = true then Fo.bytes l else []
end Go.Proofs.YtckdofjpoajblaaGreat
namespace Go.Proofs.YtckdofjpoajblaaGreat
open Go.RowKit
set_option linter.unusedVariables false
theorem byte_wraps {e : Ev} (h : Fo.right e = true) : IntKind.i64.wrap (4 * e.k) = 4 * e.k ∧ IntKind.i64.wrap (e.t + 4 * e.k) = e.t + 4 * e.k ∧ IntKind.i64.wrap (32 * e.o) = 32 * e.o ∧ IntKind.i64.wrap (e.t + 4 * e.k + 32 * e.o) = e.t + 4 * e.k + 32 * e.o ∧ IntKind.i64.wrap (e.t + 4 * e.k + 32 * e.o + 128) = e.t + 4 * e.k + 32 * e.o + 128 ∧
    (e.f = false → IntKind.u8.wrap (e.t + 4 * e.k + 32 * e.o) = ((Fo.byteU e).toNat : Int)) ∧ (e.f = true → IntKind.u8.wrap (e.t + 4 * e.k + 32 * e.o + 128) = ((Fo.byteU e).toNat : Int)) := by
  obtain ⟨h1, h2, h3, h4, h5, h6, h7, h8⟩ := Fo.right_spec h
  have hb := Fo.byteI_lt h
  have hu := Fo.byteU_toNat h
  refine ⟨IntWalk.i64_in _ (by omega), IntWalk.i64_in _ (by omega), IntWalk.i64_in _ (by omega), IntWalk.i64_in _ (by omega), IntWalk.i64_in _ (by omega), fun hf => ?_, fun hf => ?_⟩
  · rw [hu]
    unfold Fo.byteI at hb ⊢
    rw [hf] at hb ⊢
    simp [IntKind.wrap, IntKind.signed, IntKind.bits] at hb ⊢; omega
  · rw [hu]
    unfold Fo.byteI at hb ⊢
    rw [hf] at hb ⊢
    simp [IntKind.wrap, IntKind.signed, IntKind.bits] at hb ⊢; omega
set_option maxRecDepth 100000 in
set_option maxHeartbeats 2000000 in
theorem print_any (w : World) (A : Option Addr) (cap : Nat) (l : List Ev) (hr : Rd w 4 A l.length (l.flatMap encE)) (hl : l.length < 1000000) :
    Calls Tryz.prog 145 #[.slice A l.length cap] w fun x w' => x = .returned (.string ⟨(prE l).toArray⟩) ∧ Below w.heap.size w w' := by
  have HC := Lib.hid (evs_cell hr.toB)
  obtain ⟨i0, hi0, hz0, hz1, hz2⟩ := info_parts Tryz.infoU8
  have hmk := run_make (P := Tryz.prog) w 43 5 i0 (.int .u8 0) Tryz.underlying43 hi0 hz0 .i64 .i64 0 (l.length : Int) (by omega) (by omega) (by rw [hz2]; omega) (by omega)
  simp only [Int.toNat_natCast, Int.toNat_zero] at hmk
  clear hr
  go_enter Tryz.func145, Tryz.ntmps145
  go_upto_region 2 with fail
  obtain ⟨w0, hw0⟩ : ∃ w0, w0 = w.alloc (.cells (madeCells #[.int .u8 0] l.length) 5) := ⟨_, rfl⟩
  obtain ⟨Y, hY⟩ : ∃ Y, Y = w.heap.size := ⟨_, rfl⟩
  have hI : Row w0 5 1 (some ⟨Y, 0, none⟩) 0 l.length [] ∧ w.heap.size ≤ Y ∧ Below w.heap.size w w0 := by
    refine ⟨⟨by simp, Nat.zero_le _, by unfold maxLen; omega, fun h => (by cases h), fun a ha => ?_⟩, by omega, by rw [hw0]; exact (Below.refl _ _).alloc (Nat.le_refl _) _⟩
    injection ha with ha
    subst ha
    have hm : madeCells #[Value.int .u8 0] l.length = (List.replicate l.length (.int .u8 0)).toArray := by
      apply Array.ext'
      rw [toList_madeCells_one]
    exact ⟨rfl, _, by rw [hw0, hY]; exact heap_alloc_new w _, by rw [hm]; simp, by simp⟩
  have HI := Lib.hid hI
  rw [← hw0, ← hY]
  clear hw0 hY hmk hI
  go_wp2_with fail
  go_loopw [3, 12] (fun v3 v wr => ∃ (k : Nat) (A' : Option Addr) (cap' : Nat), k ≤ l.length ∧ v = .int .i64 k ∧ v3 = .slice A' k cap' ∧ Hid (Fo.rights (l.take k) = true) ∧ Hid (Row wr 5 1 A' k cap' (byteVs (Fo.bytes (l.take k)))) ∧ Hid (∀ a, A' = some a → w.heap.size ≤ a.block) ∧ Below w.heap.size w wr) (fun _ v _ => l.length - (intOf v).toNat)
  case atStart => exact ⟨0, some ⟨Y, 0, none⟩, l.length, Nat.zero_le _, rfl, rfl, Lib.hid rfl, Lib.hid HI.out.1, Lib.hid (fun a h => by injection h with h; subst h; exact HI.out.2.1), HI.out.2.2⟩
  case round =>
    clear HI
    obtain ⟨k, A', cap', hk, rfl, rfl, HRT, HRW, HA, hb⟩ := hrel
    by_cases hlt : k < l.length
    · obtain ⟨g, o, rfl, hg, hcl⟩ := HC.out k hlt
      obtain ⟨v0, v1, v2, v3⟩ := hcl wr hb
      have k1 : (0 : Int) ≤ (k : Int) := Int.natCast_nonneg _
      have k2 : (k : Int) < (l.length : Int) := by omega
      have htk := rights_take hlt
      have hrf := rights_false hlt
      have hbt := bytes_take hlt
      have hcall : ∀ u, Calls Tryz.prog 139 #[valE l[k]] u fun x w' => x = .returned (.bool (Fo.right l[k])) ∧ Below u.heap.size u w' := fun u => right_any u _
      have hws : Fo.right l[k] = true → _ := fun h => byte_wraps (e := l[k]) h
      generalize l[k] = e at *
      obtain ⟨b, hbb⟩ : ∃ b, b = Fo.right e := ⟨_, rfl⟩
      rw [← hbb] at htk hrf hws
      have hcall : ∀ u, Calls Tryz.prog 139 #[valE e] u fun x w' => x = .returned (.bool b) ∧ Below u.heap.size u w' := fun u => by rw [hbb]; exact hcall u
      generalize Fo.byteU e = bu at *
      unfold valE at hcall
      have HCALL := Lib.hid hcall
      have HWS := Lib.hid hws
      have HTK := Lib.hid htk
      have HRF := Lib.hid hrf
      have HBT := Lib.hid hbt
      have HB := Lib.hid hb
      clear hcall htk hrf hcl hbb hb hws hbt
      go_upto_region 5 with fail
      obtain ⟨X, hX⟩ : ∃ X, X = wr.heap.size := ⟨_, rfl⟩
      obtain ⟨W1, hW1⟩ : ∃ W1, W1 = wr.alloc (Obj.cells #[.int .i64 e.t, .int .i64 e.k, .int .i64 e.o, .bool e.f] 51) := ⟨_, rfl⟩
      have t1 : Below wr.heap.size wr W1 := by rw [hW1]; exact (Below.refl _ _).alloc (Nat.le_refl _) _
      have hk1 : W1.heap[X]? = some (.cells #[.int .i64 e.t, .int .i64 e.k, .int .i64 e.o, .bool e.f] 51 (0, 0)) := by rw [hW1, hX]; exact heap_alloc_new wr _
      have c0 : W1.cell? ⟨X, 0, none⟩ = some (.int .i64 e.t) := by rw [cell_blk hk1]; rfl
      have c1 : W1.cell? ⟨X, 1, none⟩ = some (.int .i64 e.k) := by rw [cell_blk hk1]; rfl
      have c2 : W1.cell? ⟨X, 2, none⟩ = some (.int .i64 e.o) := by rw [cell_blk hk1]; rfl
      have c3 : W1.cell? ⟨X, 3, none⟩ = some (.bool e.f) := by rw [cell_blk hk1]; rfl
      rw [← hW1, ← hX]
      have HK1 := Lib.hid hk1
      have T1 := Lib.hid t1
      have HX := Lib.hid hX
      clear hW1 hX v0 v1 v2 v3 t1 hk1
      go_wp2_with fail
      refine (HCALL.out W1).mono ?_
      rintro x w1 ⟨rfl, b1⟩
      have hb2 : Below w.heap.size w w1 := below_at (below_at HB.out T1.out) b1
      have hk2 := (b1.block X (blk_lt HK1.out)).trans HK1.out
      have d0 : w1.cell? ⟨X, 0, none⟩ = some (.int .i64 e.t) := by rw [cell_blk hk2]; rfl
      have d1 : w1.cell? ⟨X, 1, none⟩ = some (.int .i64 e.k) := by rw [cell_blk hk2]; rfl
      have d2 : w1.cell? ⟨X, 2, none⟩ = some (.int .i64 e.o) := by rw [cell_blk hk2]; rfl
      have d3 : w1.cell? ⟨X, 3, none⟩ = some (.bool e.f) := by rw [cell_blk hk2]; rfl
      have hr1 : Row w1 5 1 A' k cap' (byteVs (Fo.bytes (l.take k))) := (HRW.out.mod (Mod.of_below_size T1.out (fun _ => False)) (fun _ _ h => h)).mod (Mod.of_below_size b1 (fun _ => False)) (fun _ _ h => h)
      have HR1 := Lib.hid hr1
      have HB2 := Lib.hid hb2
      clear b1 hb2 hr1 c0 c1 c2 c3 hk2
      cases b with
      | false =>
        go_wp2_with fail
        go_ret
        exact ⟨by unfold prE; rw [HRF.out (by trivial)]; rfl, HB2.out⟩
      | true =>
        obtain ⟨e1, e2, e3, e4, e5, e6, e7⟩ := HWS.out (by trivial)
        have E6 := Lib.hid e6
        have E7 := Lib.hid e7
        clear e6 e7
        cases hf : e.f with
        | true =>
          rw [hf] at d3
          have ew := E7.out hf
          go_wp2_with (at_builtin; refine wpList_append_row (by rfl) _ _ _ (by rfl) 5 i0 _ 1 1 Tryz.underlying43 hi0 hz0 hz1 hz2 rfl (by omega) A' k cap' (byteVs (Fo.bytes (l.take k))) (by rfl) (HR1.out.alloc _) ⟨w1.heap.size, 0, none⟩ 1 1 [.int .u8 bu.toNat] (by rfl) (by rfl) (World.news_of_block (cs := #[.int .u8 bu.toNat]) (t := 5) (fr := (0, 0)) (heap_alloc_new w1 _)) (by simp [Value.oneCell']) (by omega) (by unfold maxLen; omega) (by omega) ?_; intro g1 of1 cap1 w3 hown hm hat; skip)
          obtain ⟨q1, q2⟩ := acc_more HA.out HB2.out hm hat (of := of1)
          have hr3 : Row w3 5 1 (some ⟨g1, of1, none⟩) (k + 1) cap1 (byteVs (Fo.bytes (l.take (k + 1)))) := by
            rw [HBT.out]; unfold byteVs at hown ⊢; rw [List.map_append]; exact hown
          go_roundw
          case rel => exact ⟨k + 1, some ⟨g1, of1, none⟩, cap1, by omega, by go_num, rfl, Lib.hid (by rw [HTK.out, HRT.out]; rfl), Lib.hid hr3, Lib.hid q1, q2⟩
          case measure => simp [intOf]; omega
        | false =>
          rw [hf] at d3
          have ew := E6.out hf
          go_wp2_with (at_builtin; refine wpList_append_row (by rfl) _ _ _ (by rfl) 5 i0 _ 1 1 Tryz.underlying43 hi0 hz0 hz1 hz2 rfl (by omega) A' k cap' (byteVs (Fo.bytes (l.take k))) (by rfl) (HR1.out.alloc _) ⟨w1.heap.size, 0, none⟩ 1 1 [.int .u8 bu.toNat] (by rfl) (by rfl) (World.news_of_block (cs := #[.int .u8 bu.toNat]) (t := 5) (fr := (0, 0)) (heap_alloc_new w1 _)) (by simp [Value.oneCell']) (by omega) (by unfold maxLen; omega) (by omega) ?_; intro g1 of1 cap1 w3 hown hm hat; skip)
          obtain ⟨q1, q2⟩ := acc_more HA.out HB2.out hm hat (of := of1)
          have hr3 : Row w3 5 1 (some ⟨g1, of1, none⟩) (k + 1) cap1 (byteVs (Fo.bytes (l.take (k + 1)))) := by
            rw [HBT.out]; unfold byteVs at hown ⊢; rw [List.map_append]; exact hown
          go_roundw
          case rel => exact ⟨k + 1, some ⟨g1, of1, none⟩, cap1, by omega, by go_num, rfl, Lib.hid (by rw [HTK.out, HRT.out]; rfl), Lib.hid hr3, Lib.hid q1, q2⟩
          case measure => simp [intOf]; omega
    · have hkn : k = l.length := by omega
      have hcv := conv_bytes (P := Tryz.prog) HRW.out 43 9 Tryz.underlying43 Tryz.underlying5 Tryz.underlying9
      have HK := Lib.hid hkn
      have HB := Lib.hid hb
      clear hkn hb
      go_wp2_with fail
      go_ret
      have h1 := HRT.out
      rw [HK.out, List.take_length] at h1 ⊢
      exact ⟨by unfold prE; rw [if_pos h1]; rfl, HB.out⟩
end Go.Proofs.YtckdofjpoajblaaGreat
namespace Go.Proofs.YtckdofjpoajblaaGreat
open Go.RowKit
set_option linter.unusedVariables false
theorem Tryz.infoEv : (Tryz.prog.info? 51).map (fun i => (i.zero, i.size, i.bytes)) = some (some (.agg #[.int .i64 0, .int .i64 0, .int .i64 0, .bool false]), 4, 32) := by kernel_rfl
end Go.Proofs.YtckdofjpoajblaaGreat
namespace Go.Proofs.YtckdofjpoajblaaGreat
open Go.RowKit
set_option linter.unusedVariables false
end Go.Proofs.YtckdofjpoajblaaGreat
namespace Go.Proofs.YtckdofjpoajblaaGreat
open Go.RowKit
set_option linter.unusedVariables false
structure Ins where
  k : Int
  r : Int
  x : Int
  n : Int
deriving DecidableEq
structure Pg where
  vars : Int
  mtx : Int
  code : List (List Ins)
deriving DecidableEq
namespace Pr
def InsOk (vars mtx n : Int) (i : Ins) : Prop :=
  1 ≤ i.k ∧ i.k ≤ 8 ∧ (i.k = 3 ∨ i.k = 4 ∨ i.n = 0) ∧ -128 ≤ i.n ∧ i.n ≤ 127 ∧ 0 ≤ i.x ∧ 0 ≤ i.r ∧ i.r ≤ 1 ∧ ((i.k = 5 ∨ i.k = 6) → i.r = 0) ∧ ((i.k = 1 ∨ i.k = 2) → i.x < vars) ∧ ((i.k = 5 ∨ i.k = 6) → i.x < mtx) ∧ (i.k = 7 → i.x ≤ n) ∧ ((i.k = 3 ∨ i.k = 4 ∨ i.k = 8) → i.x = 0)
instance (vars mtx n : Int) (i : Ins) : Decidable (InsOk vars mtx n i) := by unfold InsOk; infer_instance
def CodeOk (vars mtx : Int) (c : List Ins) : Prop := c.length ≤ 8 ∧ ∀ i ∈ c, InsOk vars mtx c.length i
instance (vars mtx : Int) (c : List Ins) : Decidable (CodeOk vars mtx c) := by unfold CodeOk; infer_instance
def HeadOk (p : Pg) : Prop := 0 ≤ p.vars ∧ p.vars ≤ 4 ∧ 0 ≤ p.mtx ∧ p.mtx ≤ 2 ∧ 1 ≤ p.code.length ∧ p.code.length ≤ 4
instance (p : Pg) : Decidable (HeadOk p) := by unfold HeadOk; infer_instance
def Ok (p : Pg) : Prop := HeadOk p ∧ ∀ c ∈ p.code, CodeOk p.vars p.mtx c
instance (p : Pg) : Decidable (Ok p) := by unfold Ok; infer_instance
end Pr
def encI (i : Ins) : List Value := [.int .i64 i.k, .int .i64 i.r, .int .i64 i.x, .int .i64 i.n]
def valI (i : Ins) : Value := .agg #[.int .i64 i.k, .int .i64 i.r, .int .i64 i.x, .int .i64 i.n]
theorem encI_len (i : Ins) : (encI i).length = 4 := rfl
def InAt (u : World) (g o : Nat) (i : Ins) : Prop := u.cell? ⟨g, o, none⟩ = some (.int .i64 i.k) ∧ u.cell? ⟨g, o + 1, none⟩ = some (.int .i64 i.r) ∧ u.cell? ⟨g, o + 2, none⟩ = some (.int .i64 i.x) ∧ u.cell? ⟨g, o + 3, none⟩ = some (.int .i64 i.n)
def RdC (w : World) (C : Nat → Prop) (sz : Nat) (A : Option Addr) (n : Nat) (cs : List Value) : Prop :=
  cs.length = n * sz ∧ (0 < n * sz → ∃ g o, A = some ⟨g, o, none⟩ ∧ C g ∧ g < w.heap.size ∧ ∀ j, j < n * sz → w.cell? ⟨g, o + j, none⟩ = cs[j]?)
theorem RdC.rd {w : World} {C : Nat → Prop} {sz : Nat} {A : Option Addr} {n : Nat} {cs : List Value} (h : RdC w C sz A n cs) : Rd w sz A n cs :=
  ⟨h.1, fun h0 => by obtain ⟨g, o, h1, _, h2, h3⟩ := h.2 h0; exact ⟨g, o, h1, h2, h3⟩⟩
theorem RdC.mod {w w' : World} {F C : Nat → Prop} {sz : Nat} {A : Option Addr} {n : Nat} {cs : List Value} (h : RdC w C sz A n cs) (hm : Mod F w w') (hF : ∀ k, C k → ¬ F k) : RdC w' C sz A n cs :=
  ⟨h.1, fun h0 => by
    obtain ⟨g, o, h1, hc, h2, h3⟩ := h.2 h0
    exact ⟨g, o, h1, hc, Nat.lt_of_lt_of_le h2 hm.size, fun j hj => (hm.cell g (o + j) h2 (hF g hc)).trans (h3 j hj)⟩⟩
theorem RdC.below {w w' : World} {C : Nat → Prop} {sz : Nat} {A : Option Addr} {n : Nat} {cs : List Value} (h : RdC w C sz A n cs) (hb : Below w.heap.size w w') : RdC w' C sz A n cs :=
  ⟨h.1, fun h0 => by
    obtain ⟨g, o, h1, hc, h2, h3⟩ := h.2 h0
    exact ⟨g, o, h1, hc, Nat.lt_of_lt_of_le h2 hb.size, fun j hj => by rw [World.cell?_of_block (hb.block g h2), h3 j hj]⟩⟩
theorem RdC.imp {w : World} {C D : Nat → Prop} {sz : Nat} {A : Option Addr} {n : Nat} {cs : List Value} (h : RdC w C sz A n cs) (hCD : ∀ k, C k → D k) : RdC w D sz A n cs :=
  ⟨h.1, fun h0 => by obtain ⟨g, o, h1, hc, h2, h3⟩ := h.2 h0; exact ⟨g, o, h1, hCD g hc, h2, h3⟩⟩
theorem RdC.ins {w : World} {C : Nat → Prop} {A : Option Addr} {l : List Ins} (h : RdC w C 4 A l.length (l.flatMap encI)) : ∀ (k : Nat) (i : Ins), l[k]? = some i → ∃ g o, A = some ⟨g, o, none⟩ ∧ C g ∧ g < w.heap.size ∧ ∀ u : World, u.heap[g]? = w.heap[g]? → InAt u g (o + k * 4) i := fun k i hi => by
  obtain ⟨hk, rfl⟩ := List.getElem?_eq_some_iff.1 hi
  obtain ⟨g, o, hA, hg, hlt, hc⟩ := h.2 (by omega)
  refine ⟨g, o, hA, hg, hlt, fun u hu => ?_⟩
  have hcl : ∀ r, r < 4 → u.cell? ⟨g, o + k * 4 + r, none⟩ = (encI l[k])[r]? := fun r hr => by
    rw [Nat.add_assoc, World.cell?_of_block hu, hc (k * 4 + r) (by omega), flat_get (f := encI) (sz := 4) encI_len l k r hk hr]
  have v0 := hcl 0 (by omega)
  have v1 := hcl 1 (by omega)
  have v2 := hcl 2 (by omega)
  have v3 := hcl 3 (by omega)
  simp only [encI, List.getElem?_cons_succ, List.getElem?_cons_zero, Nat.add_zero] at v0 v1 v2 v3
  exact ⟨v0, v1, v2, v3⟩
def CdAt (w : World) (C : Nat → Prop) (A : Option Addr) (L : List (List Ins)) : Prop :=
  ∃ vs : List Value, RdC w C 1 A L.length vs ∧ ∀ (i : Nat) (q : List Ins), L[i]? = some q → ∃ A' c', vs[i]? = some (.slice A' q.length c') ∧ RdC w C 4 A' q.length (q.flatMap encI) ∧ q.length ≤ c' ∧ c' ≤ maxLen
theorem CdAt.mod {w w' : World} {F C : Nat → Prop} {A : Option Addr} {L : List (List Ins)} (h : CdAt w C A L) (hm : Mod F w w') (hF : ∀ k, C k → ¬ F k) : CdAt w' C A L := by
  obtain ⟨vs, h1, h2⟩ := h
  refine ⟨vs, h1.mod hm hF, fun i q hi => ?_⟩
  obtain ⟨A', c', h3, h4, h5⟩ := h2 i q hi
  exact ⟨A', c', h3, h4.mod hm hF, h5⟩
theorem CdAt.below {w w' : World} {C : Nat → Prop} {A : Option Addr} {L : List (List Ins)} (h : CdAt w C A L) (hb : Below w.heap.size w w') : CdAt w' C A L := by
  obtain ⟨vs, h1, h2⟩ := h
  refine ⟨vs, h1.below hb, fun i q hi => ?_⟩
  obtain ⟨A', c', h3, h4, h5⟩ := h2 i q hi
  exact ⟨A', c', h3, h4.below hb, h5⟩
theorem CdAt.imp {w : World} {C D : Nat → Prop} {A : Option Addr} {L : List (List Ins)} (h : CdAt w C A L) (hCD : ∀ k, C k → D k) : CdAt w D A L := by
  obtain ⟨vs, h1, h2⟩ := h
  refine ⟨vs, h1.imp hCD, fun i q hi => ?_⟩
  obtain ⟨A', c', h3, h4, h5⟩ := h2 i q hi
  exact ⟨A', c', h3, h4.imp hCD, h5⟩
theorem CdAt.get {w : World} {C : Nat → Prop} {A : Option Addr} {L : List (List Ins)} (h : CdAt w C A L) : ∀ (k : Nat) (q : List Ins), L[k]? = some q → ∃ g o A' c', A = some ⟨g, o, none⟩ ∧ C g ∧ g < w.heap.size ∧ RdC w C 4 A' q.length (q.flatMap encI) ∧ q.length ≤ c' ∧ c' ≤ maxLen ∧ ∀ u : World, u.heap[g]? = w.heap[g]? → u.cell? ⟨g, o + k, none⟩ = some (.slice A' q.length c') := fun k q hq => by
  obtain ⟨vs, h1, h2⟩ := h
  have hk := (List.getElem?_eq_some_iff.1 hq).1
  obtain ⟨g, o, hA, hg, hlt, hc⟩ := h1.2 (by omega)
  obtain ⟨A', c', h3, h4, h5, h6⟩ := h2 k q hq
  exact ⟨g, o, A', c', hA, hg, hlt, h4, h5, h6, fun u hu => by rw [World.cell?_of_block hu, hc k (by omega), h3]⟩
open Go.ChangeShapes Go.WideShapes Go.ChangeAt
structure SlI where
  A : Option Addr
  cap : Nat
  l : List Ins
end Go.Proofs.YtckdofjpoajblaaGreat
namespace Go.Proofs.YtckdofjpoajblaaGreat
open Go.RowKit
set_option linter.unusedVariables false
theorem within_any (w : World) (a lo hi : Int) : Calls Tryz.prog 106 #[.int .i64 a, .int .i64 lo, .int .i64 hi] w fun x w' => x = .returned (.bool (decide (lo ≤ a ∧ a ≤ hi))) ∧ w = w' := by
  by_cases h1 : lo ≤ a
  · by_cases h2 : a ≤ hi
    · go_enter Tryz.func106, Tryz.ntmps106
      go_wp2_with fail
      go_ret
      exact ⟨by rw [decide_eq_true ⟨h1, h2⟩]; rfl, rfl⟩
    · go_enter Tryz.func106, Tryz.ntmps106
      go_wp2_with fail
      go_ret
      exact ⟨by rw [decide_eq_false (show ¬ a ≤ hi by omega)]; rfl, rfl⟩
  · go_enter Tryz.func106, Tryz.ntmps106
    go_wp2_with fail
    go_ret
    exact ⟨by rw [decide_eq_false (show ¬ lo ≤ a by omega)]; rfl, rfl⟩
theorem ins_box (w : World) (i : Ins) : ∃ W X, W = w.alloc (Obj.cells #[.int .i64 i.k, .int .i64 i.r, .int .i64 i.x, .int .i64 i.n] 98) ∧ X = w.heap.size ∧ Below w.heap.size w W ∧ X < W.heap.size ∧ ∀ u, Below W.heap.size W u → InAt u X 0 i ∧ X < u.heap.size := by
  refine ⟨_, _, rfl, rfl, (Below.refl _ _).alloc (Nat.le_refl _) _, by simp, fun u hu => ?_⟩
  have h1 := heap_alloc_new w (Obj.cells #[.int .i64 i.k, .int .i64 i.r, .int .i64 i.x, .int .i64 i.n] 98)
  have g1 := (hu.block _ (blk_lt h1)).trans h1
  exact ⟨⟨by rw [cell_blk g1]; rfl, by rw [cell_blk g1]; rfl, by rw [cell_blk g1]; rfl, by rw [cell_blk g1]; rfl⟩, blk_lt g1⟩
theorem insOk_iff {vars mtx n k r x m up reg : Int} {num : Bool} (hk1 : 1 ≤ k) (hk8 : k ≤ 8) (hnum : num = true ↔ (k = 3 ∨ k = 4)) (hreg : reg = (if k = 5 ∨ k = 6 then 0 else 1)) (hup : up = (if k = 1 ∨ k = 2 then vars else if k = 5 ∨ k = 6 then mtx else if k = 7 then n + 1 else 1)) :
    Pr.InsOk vars mtx n ⟨k, r, x, m⟩ ↔ (num = true ∨ m = 0) ∧ -128 ≤ m ∧ m ≤ 127 ∧ (0 ≤ x ∧ x ≤ up - 1) ∧ (0 ≤ r ∧ r ≤ reg) := by
  subst hreg hup
  rw [hnum]
  unfold Pr.InsOk
  rcases (show k = 1 ∨ k = 2 ∨ k = 3 ∨ k = 4 ∨ k = 5 ∨ k = 6 ∨ k = 7 ∨ k = 8 by omega) with rfl | rfl | rfl | rfl | rfl | rfl | rfl | rfl <;> simp <;> omega
set_option maxRecDepth 100000 in
set_option maxHeartbeats 4000000 in
theorem instrOk_any (w : World) (X : Nat) (vars mtx n : Int) (i : Ins) (c0 : w.cell? ⟨X, 0, none⟩ = some (.int .i64 vars)) (c1 : w.cell? ⟨X, 1, none⟩ = some (.int .i64 mtx)) (hX : X < w.heap.size) (hv : 0 ≤ vars ∧ vars ≤ 4) (hm : 0 ≤ mtx ∧ mtx ≤ 2) (hn : 0 ≤ n ∧ n ≤ 8) :
    Calls Tryz.prog 108 #[.pointer (some ⟨X, 0, none⟩), .int .i64 n, valI i] w fun x w' => x = .returned (.bool (decide (Pr.InsOk vars mtx n i))) ∧ Below w.heap.size w w' := by
  obtain ⟨W, Z, hW, hZ, hB, hZl, hZe⟩ := ins_box w i
  obtain ⟨⟨z0, z1, z2, z3⟩, zl⟩ := hZe W (Below.refl _ _)
  have x0 : W.cell? ⟨X, 0, none⟩ = some (.int .i64 vars) := (World.cell?_of_block (hB.block X hX)).trans c0
  have x1 : W.cell? ⟨X, 1, none⟩ = some (.int .i64 mtx) := (World.cell?_of_block (hB.block X hX)).trans c1
  have xl : X < W.heap.size := by have := hB.size; omega
  simp only [Nat.zero_add] at z1 z2 z3
  unfold valI
  have HB := Lib.hid hB
  have HW := Lib.hid hW
  have HZ := Lib.hid hZ
  obtain ⟨k, r, x, m⟩ := i
  simp only at HW z0 z1 z2 z3
  clear hB hW hZ hZe c0 c1 hX
  go_enter Tryz.func108, Tryz.ntmps108
  go_upto_region 2 with fail
  rw [← HW.out, ← HZ.out]
  go_upto_block 0 with fail
  go_cut [7, 8, 9] (fun a b c w2 => w2 = W ∧ 1 ≤ k ∧ k ≤ 8 ∧ ∃ (up reg : Int) (num : Bool), a = .int .i64 up ∧ b = .int .i64 reg ∧ c = .bool num ∧ (num = true ↔ (k = 3 ∨ k = 4)) ∧ 0 ≤ up ∧ up ≤ 9 ∧ reg = (if k = 5 ∨ k = 6 then 0 else 1) ∧ up = (if k = 1 ∨ k = 2 then vars else if k = 5 ∨ k = 6 then mtx else if k = 7 then n + 1 else 1))
  case first =>
    rcases (show k = 1 ∨ k = 2 ∨ k = 3 ∨ k = 4 ∨ k = 5 ∨ k = 6 ∨ k = 7 ∨ k = 8 ∨ (k ≠ 1 ∧ k ≠ 2 ∧ k ≠ 3 ∧ k ≠ 4 ∧ k ≠ 5 ∧ k ≠ 6 ∧ k ≠ 7 ∧ k ≠ 8) from by omega) with rfl | rfl | rfl | rfl | rfl | rfl | rfl | rfl | ⟨h1, h2, h3, h4, h5, h6, h7, h8⟩
    · go_wp2_with fail
      go_meet
      exact ⟨rfl, by omega, by omega, _, _, _, rfl, rfl, rfl, by simp, by omega, by omega, rfl, rfl⟩
    · go_wp2_with fail
      go_meet
      exact ⟨rfl, by omega, by omega, _, _, _, rfl, rfl, rfl, by simp, by omega, by omega, rfl, rfl⟩
    · go_wp2_with fail
      go_meet
      exact ⟨rfl, by omega, by omega, _, _, _, rfl, rfl, rfl, by simp, by omega, by omega, rfl, rfl⟩
    · go_wp2_with fail
      go_meet
      exact ⟨rfl, by omega, by omega, _, _, _, rfl, rfl, rfl, by simp, by omega, by omega, rfl, rfl⟩
    · go_wp2_with fail
      go_meet
      exact ⟨rfl, by omega, by omega, _, _, _, rfl, rfl, rfl, by simp, by omega, by omega, rfl, rfl⟩
    · go_wp2_with fail
      go_meet
      exact ⟨rfl, by omega, by omega, _, _, _, rfl, rfl, rfl, by simp, by omega, by omega, rfl, rfl⟩
    · go_wp2_with fail
      go_meet
      exact ⟨rfl, by omega, by omega, n + 1, _, _, by go_num, rfl, rfl, by simp, by omega, by omega, rfl, rfl⟩
    · go_wp2_with fail
      go_meet
      exact ⟨rfl, by omega, by omega, _, _, _, rfl, rfl, rfl, by simp, by omega, by omega, rfl, rfl⟩
    · go_wp2_with fail
      go_ret
      exact ⟨by rw [decide_eq_false (by unfold Pr.InsOk; simp only; omega)]; rfl, HB.out⟩
  case rest =>
    obtain ⟨hwc, hk1, hk8, up, reg, num, rfl, rfl, rfl, hnum, hu0, hu9, hreg, hup⟩ := hcut
    subst hwc
    have HNUM := Lib.hid hnum
    have HUP := Lib.hid hup
    have HREG := Lib.hid hreg
    clear hnum hup hreg
    have hw : IntKind.i64.wrap (up - 1) = up - 1 := IntWalk.i64_in _ (by omega)
    cases num with
    | false =>
      by_cases h0 : m = 0
      · subst h0
        go_wp2_with fail
        refine (within_any _ x 0 (up - 1)).mono ?_
        rintro y w1 ⟨rfl, rfl⟩
        obtain ⟨b, hb⟩ : ∃ b, b = decide (0 ≤ x ∧ x ≤ up - 1) := ⟨_, rfl⟩
        rw [← hb]
        have HBB := Lib.hid hb
        clear hb
        cases b with
        | false =>
          go_wp2_with fail
          go_ret
          exact ⟨by rw [decide_eq_false (fun h => of_decide_eq_false HBB.out.symm ((insOk_iff hk1 hk8 (num := false) (by simpa using HNUM.out) HREG.out HUP.out).1 h).2.2.2.1)]; rfl, HB.out⟩
        | true =>
          go_wp2_with fail
          refine (within_any _ r 0 reg).mono ?_
          rintro y w1 ⟨rfl, rfl⟩
          obtain ⟨b, hb⟩ : ∃ b, b = decide (0 ≤ r ∧ r ≤ reg) := ⟨_, rfl⟩
          rw [← hb]
          have HBC := Lib.hid hb
          clear hb
          go_wp2_with fail
          go_ret
          refine ⟨?_, HB.out⟩
          rw [show decide (Pr.InsOk vars mtx n ⟨k, r, x, 0⟩) = b by
            rw [HBC.out]
            exact decide_eq_decide.2 ((insOk_iff hk1 hk8 (num := false) (by simpa using HNUM.out) HREG.out HUP.out).trans ⟨fun h => h.2.2.2.2, fun h => ⟨.inr rfl, by omega, by omega, of_decide_eq_true HBB.out.symm, h⟩⟩)]
          rfl
      · go_wp2_with fail
        go_ret
        exact ⟨by rw [decide_eq_false (fun h => by rcases ((insOk_iff hk1 hk8 (num := false) (by simpa using HNUM.out) HREG.out HUP.out).1 h).1 with h3 | h3; (· cases h3); exact h0 h3)]; rfl, HB.out⟩
    | true =>
      by_cases h1 : m < -128
      · go_wp2_with fail
        go_ret
        exact ⟨by rw [decide_eq_false (fun h => by have := ((insOk_iff hk1 hk8 (num := true) (by simpa using HNUM.out) HREG.out HUP.out).1 h).2.1; omega)]; rfl, HB.out⟩
      · by_cases h2 : 127 < m
        · go_wp2_with fail
          go_ret
          exact ⟨by rw [decide_eq_false (fun h => by have := ((insOk_iff hk1 hk8 (num := true) (by simpa using HNUM.out) HREG.out HUP.out).1 h).2.2.1; omega)]; rfl, HB.out⟩
        · go_wp2_with fail
          refine (within_any _ x 0 (up - 1)).mono ?_
          rintro y w1 ⟨rfl, rfl⟩
          obtain ⟨b, hb⟩ : ∃ b, b = decide (0 ≤ x ∧ x ≤ up - 1) := ⟨_, rfl⟩
          rw [← hb]
          have HBB := Lib.hid hb
          clear hb
          cases b with
          | false =>
            go_wp2_with fail
            go_ret
            exact ⟨by rw [decide_eq_false (fun h => of_decide_eq_false HBB.out.symm ((insOk_iff hk1 hk8 (num := true) (by simpa using HNUM.out) HREG.out HUP.out).1 h).2.2.2.1)]; rfl, HB.out⟩
          | true =>
            go_wp2_with fail
            refine (within_any _ r 0 reg).mono ?_
            rintro y w1 ⟨rfl, rfl⟩
            obtain ⟨b, hb⟩ : ∃ b, b = decide (0 ≤ r ∧ r ≤ reg) := ⟨_, rfl⟩
            rw [← hb]
            have HBC := Lib.hid hb
            clear hb
            go_wp2_with fail
            go_ret
            refine ⟨?_, HB.out⟩
            rw [show decide (Pr.InsOk vars mtx n ⟨k, r, x, m⟩) = b by
              rw [HBC.out]
              exact decide_eq_decide.2 ((insOk_iff hk1 hk8 (num := true) (by simpa using HNUM.out) HREG.out HUP.out).trans ⟨fun h => h.2.2.2.2, fun h => ⟨.inl rfl, by omega, by omega, of_decide_eq_true HBB.out.symm, h⟩⟩)]
            rfl
end Go.Proofs.YtckdofjpoajblaaGreat
namespace Go.Proofs.YtckdofjpoajblaaGreat
open Go.RowKit
set_option linter.unusedVariables false
theorem ins_cell {w : World} {B : Nat} {A : Option Addr} {l : List Ins} (h : RdB w B 4 A l.length (l.flatMap encI)) : ∀ k, (hk : k < l.length) → ∃ g o, A = some ⟨g, o, none⟩ ∧ g < B ∧ ∀ u, Below B w u → InAt u g (o + k * 4) l[k] := fun k hk => by
  obtain ⟨g, o, hA, hg, hc⟩ := h.2 (by omega)
  refine ⟨g, o, hA, hg, fun u hu => ?_⟩
  have hcl : ∀ r, r < 4 → u.cell? ⟨g, o + k * 4 + r, none⟩ = (encI l[k])[r]? := fun r hr => by
    rw [Nat.add_assoc, World.cell?_of_block (hu.block g hg), hc (k * 4 + r) (by omega), flat_get (f := encI) (sz := 4) encI_len l k r hk hr]
  have v0 := hcl 0 (by omega)
  have v1 := hcl 1 (by omega)
  have v2 := hcl 2 (by omega)
  have v3 := hcl 3 (by omega)
  simp only [encI, List.getElem?_cons_succ, List.getElem?_cons_zero, Nat.add_zero] at v0 v1 v2 v3
  exact ⟨v0, v1, v2, v3⟩
theorem any_takeI {l : List Ins} {p : Ins → Bool} {k : Nat} (hk : k < l.length) : (l.take (k + 1)).any p = ((l.take k).any p || p l[k]) := by
  rw [List.take_add_one, List.getElem?_eq_getElem hk, List.any_append]
  simp
theorem indexFunc_pright1 (w : World) (X Y : Nat) (A : Option Addr) (cap : Nat) (l : List Ins) (hr : Rd w 4 A l.length (l.flatMap encI)) (hl : l.length < 4611686018427387904) (p : Ins → Bool)
    (hf : ∀ u e, Below w.heap.size w u → Calls Tryz.prog 107 #[valI e, .pointer (some ⟨X, 0, none⟩), .pointer (some ⟨Y, 0, none⟩)] u fun x w' => x = .returned (.bool (p e)) ∧ Below u.heap.size u w') :
    Calls Tryz.prog 162 #[.slice A l.length cap, .func (.func 107) #[] #[.pointer (some ⟨X, 0, none⟩), .pointer (some ⟨Y, 0, none⟩)]] w fun x w' => ∃ n : Int, x = .returned (.int .i64 n) ∧ ((0 ≤ n) ↔ l.any p = true) ∧ Below w.heap.size w w' := by
  have HC := Lib.hid (ins_cell hr.toB)
  have HF := Lib.hid hf
  clear hr hf
  go_enter Tryz.func162, Tryz.ntmps162
  go_wp2_with fail
  go_loopw [8] (fun v wr => ∃ k : Nat, k ≤ l.length ∧ v = .int .i64 k ∧ Hid ((l.take k).any p = false) ∧ Below w.heap.size w wr) (fun v _ => l.length - (intOf v).toNat)
  case atStart => exact ⟨0, Nat.zero_le _, rfl, Lib.hid rfl, Below.refl _ _⟩
  case round =>
    obtain ⟨k, hk, rfl, HRT, hb⟩ := hrel
    by_cases hlt : k < l.length
    · obtain ⟨g, o, rfl, hg, hcl⟩ := HC.out k hlt
      obtain ⟨v0, v1, v2, v3⟩ := hcl wr hb
      have k1 : (0 : Int) ≤ (k : Int) := Int.natCast_nonneg _
      have k2 : (k : Int) < (l.length : Int) := by omega
      have hcall := HF.out wr l[k] hb
      have htk := any_takeI (p := p) hlt
      obtain ⟨b, hbb⟩ : ∃ b, b = p l[k] := ⟨_, rfl⟩
      have hin : b = true → l.any p = true := fun h => List.any_eq_true.2 ⟨l[k], List.getElem_mem hlt, by rw [← hbb, h]⟩
      rw [← hbb] at hcall htk
      unfold valI at hcall
      have HCALL := Lib.hid hcall
      have HTK := Lib.hid htk
      have HIN := Lib.hid hin
      have HB := Lib.hid hb
      clear hcall htk hin hcl hbb hb
      go_wp2_with fail
      refine HCALL.out.mono ?_
      rintro x w1 ⟨rfl, b1⟩
      have hb2 : Below w.heap.size w w1 := HB.out.trans ⟨b1.os, b1.tape, b1.output, b1.size, fun i hi => b1.block i (by have := HB.out.size; omega)⟩
      have HB2 := Lib.hid hb2
      clear b1 hb2
      cases b with
      | true =>
        go_wp2_with fail
        go_ret
        exact ⟨k, rfl, ⟨fun _ => HIN.out (by trivial), fun _ => k1⟩, HB2.out⟩
      | false =>
        go_wp2_with fail
        go_roundw
        case rel => exact ⟨k + 1, by omega, by go_num, Lib.hid (by rw [HTK.out, HRT.out]; rfl), HB2.out⟩
        case measure => simp [intOf]; omega
    · have hkn : k = l.length := by omega
      have HK := Lib.hid hkn
      have HB := Lib.hid hb
      clear hkn hb
      go_wp2_with fail
      go_ret
      have := HRT.out
      rw [HK.out, List.take_length] at this
      exact ⟨-1, rfl, ⟨fun h => by omega, fun h => by rw [this] at h; cases h⟩, HB.out⟩
theorem containsFunc_pright1 (w : World) (X Y : Nat) (A : Option Addr) (cap : Nat) (l : List Ins) (hr : Rd w 4 A l.length (l.flatMap encI)) (hl : l.length < 4611686018427387904) (p : Ins → Bool)
    (hf : ∀ u e, Below w.heap.size w u → Calls Tryz.prog 107 #[valI e, .pointer (some ⟨X, 0, none⟩), .pointer (some ⟨Y, 0, none⟩)] u fun x w' => x = .returned (.bool (p e)) ∧ Below u.heap.size u w') :
    Calls Tryz.prog 109 #[.slice A l.length cap, .func (.func 107) #[] #[.pointer (some ⟨X, 0, none⟩), .pointer (some ⟨Y, 0, none⟩)]] w fun x w' => x = .returned (.bool (l.any p)) ∧ Below w.heap.size w w' := by
  have H := Lib.hid (indexFunc_pright1 w X Y A cap l hr hl p hf)
  clear hr hf
  go_enter Tryz.func109, Tryz.ntmps109
  go_wp2_with fail
  refine H.out.mono ?_
  rintro x w1 ⟨n, rfl, hn, b1⟩
  have HN := Lib.hid hn
  have HB := Lib.hid b1
  clear hn b1
  go_wp2_with fail
  go_ret
  refine ⟨?_, HB.out⟩
  have : decide (0 ≤ n) = l.any p := by
    rw [Bool.eq_iff_iff, decide_eq_true_iff]; exact HN.out
  rw [← this]
  rfl
theorem pright1_any (w : World) (X Y : Nat) (vars mtx : Int) (A : Option Addr) (n cap : Nat) (i : Ins) (c0 : w.cell? ⟨X, 0, none⟩ = some (.int .i64 vars)) (c1 : w.cell? ⟨X, 1, none⟩ = some (.int .i64 mtx)) (hX : X < w.heap.size)
    (y0 : w.cell? ⟨Y, 0, none⟩ = some (.slice A n cap)) (hY : Y < w.heap.size) (hv : 0 ≤ vars ∧ vars ≤ 4) (hm : 0 ≤ mtx ∧ mtx ≤ 2) (hn : n ≤ 8) :
    Calls Tryz.prog 107 #[valI i, .pointer (some ⟨X, 0, none⟩), .pointer (some ⟨Y, 0, none⟩)] w fun x w' => x = .returned (.bool (!decide (Pr.InsOk vars mtx n i))) ∧ Below w.heap.size w w' := by
  obtain ⟨W, Z, hW, hZ, hB, hZl, hZe⟩ := ins_box w i
  have hb := hB
  have hcall := instrOk_any W X vars mtx (n : Int) i ((World.cell?_of_block (hB.block X hX)).trans c0) ((World.cell?_of_block (hB.block X hX)).trans c1) (by have := hB.size; omega) hv hm (by omega)
  obtain ⟨b, hbb⟩ : ∃ b, b = decide (Pr.InsOk vars mtx n i) := ⟨_, rfl⟩
  rw [← hbb] at hcall ⊢
  obtain ⟨⟨z0, z1, z2, z3⟩, zl⟩ := hZe W (Below.refl _ _)
  simp only [Nat.zero_add] at z1 z2 z3
  have y0' : W.cell? ⟨Y, 0, none⟩ = some (.slice A n cap) := (World.cell?_of_block (hB.block Y hY)).trans y0
  have yl : Y < W.heap.size := by have := hB.size; omega
  unfold valI at hcall ⊢
  have HCALL := Lib.hid hcall
  have HB := Lib.hid hB
  have HZ := Lib.hid hZ
  clear hcall hB hbb hb hZ hZe c0 c1 y0
  go_enter Tryz.func107, Tryz.ntmps107
  go_upto_region 1 with fail
  rw [← hW, ← HZ.out]
  clear hW
  go_wp2_with fail
  refine HCALL.out.mono ?_
  rintro x w1 ⟨rfl, b1⟩
  have hb2 : Below w.heap.size w w1 := below2 HB.out b1
  go_wp2_with fail
  go_ret
  exact ⟨rfl, hb2⟩
theorem pg_box (w : World) (v m : Int) (A : Option Addr) (n cap : Nat) : ∃ W X, W = w.alloc (Obj.cells #[.int .i64 v, .int .i64 m, .slice A n cap] 24) ∧ X = w.heap.size ∧ Below w.heap.size w W ∧ X < W.heap.size ∧ ∀ u, Below W.heap.size W u → u.cell? ⟨X, 0, none⟩ = some (.int .i64 v) ∧ u.cell? ⟨X, 1, none⟩ = some (.int .i64 m) ∧ u.cell? ⟨X, 2, none⟩ = some (.slice A n cap) ∧ X < u.heap.size := by
  refine ⟨_, _, rfl, rfl, (Below.refl _ _).alloc (Nat.le_refl _) _, by simp, fun u hu => ?_⟩
  have h1 := heap_alloc_new w (Obj.cells #[.int .i64 v, .int .i64 m, .slice A n cap] 24)
  have g1 := (hu.block _ (blk_lt h1)).trans h1
  exact ⟨by rw [cell_blk g1]; rfl, by rw [cell_blk g1]; rfl, by rw [cell_blk g1]; rfl, blk_lt g1⟩
theorem sl_box (w : World) (T : TypeId) (A : Option Addr) (n cap : Nat) : ∃ W X, W = w.alloc (Obj.cells #[.slice A n cap] T) ∧ X = w.heap.size ∧ Below w.heap.size w W ∧ X < W.heap.size ∧ ∀ u, Below W.heap.size W u → u.cell? ⟨X, 0, none⟩ = some (.slice A n cap) ∧ X < u.heap.size := by
  refine ⟨_, _, rfl, rfl, (Below.refl _ _).alloc (Nat.le_refl _) _, by simp, fun u hu => ?_⟩
  have h1 := heap_alloc_new w (Obj.cells #[.slice A n cap] T)
  have g1 := (hu.block _ (blk_lt h1)).trans h1
  exact ⟨by rw [cell_blk g1]; rfl, blk_lt g1⟩
def valP (p : Pg) (A : Option Addr) (cap : Nat) : Value := .agg #[.int .i64 p.vars, .int .i64 p.mtx, .slice A p.code.length cap]
theorem not_any {vars mtx : Int} {q : List Ins} : (q.any fun i => !decide (Pr.InsOk vars mtx q.length i)) = !decide (∀ i ∈ q, Pr.InsOk vars mtx q.length i) := by
  rw [Bool.eq_iff_iff]
  simp
theorem code_take {vars mtx : Int} {L : List (List Ins)} {k : Nat} {q : List Ins} (hq : L[k]? = some q) (h : ∀ c ∈ L.take k, Pr.CodeOk vars mtx c) (hc : Pr.CodeOk vars mtx q) : ∀ c ∈ L.take (k + 1), Pr.CodeOk vars mtx c := fun c hm => by
  rw [List.take_add_one, hq] at hm
  rcases List.mem_append.1 hm with h1 | h1
  · exact h c h1
  · simp at h1; subst h1; exact hc
set_option maxRecDepth 100000 in
set_option maxHeartbeats 4000000 in
theorem pright_any (w : World) (p : Pg) (A : Option Addr) (cap : Nat) (hcd : CdAt w (fun k => k < w.heap.size) A p.code) (hl : p.code.length ≤ maxLen) (hq : ∀ q ∈ p.code, q.length ≤ maxLen) :
    Calls Tryz.prog 66 #[valP p A cap] w fun x w' => x = .returned (.bool (decide (Pr.Ok p))) ∧ Below w.heap.size w w' := by
  obtain ⟨v, m, L⟩ := p
  unfold valP
  simp only at hcd hl hq ⊢
  have hll : L.length < 9223372036854775808 := by unfold maxLen at hl; omega
  obtain ⟨W, X, hW, hX, hB, hXl, hXe⟩ := pg_box w v m A L.length cap
  have HX := Lib.hid hXe
  obtain ⟨x0, x1, x2, xl⟩ := hXe W (Below.refl _ _)
  have HB := Lib.hid hB
  have HCD := Lib.hid hcd
  have HLQ := Lib.hid hq
  obtain ⟨b1, hb1⟩ : ∃ b, b = decide (0 ≤ v ∧ v ≤ 4) := ⟨_, rfl⟩
  obtain ⟨b2, hb2⟩ : ∃ b, b = decide (0 ≤ m ∧ m ≤ 2) := ⟨_, rfl⟩
  obtain ⟨b3, hb3⟩ : ∃ b, b = decide (1 ≤ (L.length : Int) ∧ (L.length : Int) ≤ 4) := ⟨_, rfl⟩
  have hc1 : ∀ u, Calls Tryz.prog 106 #[.int .i64 v, .int .i64 0, .int .i64 4] u fun x w' => x = .returned (.bool b1) ∧ u = w' := fun u => by rw [hb1]; exact within_any u v 0 4
  have hc2 : ∀ u, Calls Tryz.prog 106 #[.int .i64 m, .int .i64 0, .int .i64 2] u fun x w' => x = .returned (.bool b2) ∧ u = w' := fun u => by rw [hb2]; exact within_any u m 0 2
  have hc3 : ∀ u, Calls Tryz.prog 106 #[.int .i64 (L.length : Int), .int .i64 1, .int .i64 4] u fun x w' => x = .returned (.bool b3) ∧ u = w' := fun u => by rw [hb3]; exact within_any u (L.length : Int) 1 4
  have HC1 := Lib.hid hc1
  have HC2 := Lib.hid hc2
  have HC3 := Lib.hid hc3
  have HB1 := Lib.hid hb1
  have HB2 := Lib.hid hb2
  have HB3 := Lib.hid hb3
  clear hc1 hc2 hc3 hb1 hb2 hb3 hB hXe hcd hq hl
  go_enter Tryz.func66, Tryz.ntmps66
  go_upto_region 1 with fail
  rw [← hW, ← hX]
  clear hW hX
  go_wp2_with fail
  refine (HC1.out _).mono ?_
  rintro x w1 ⟨rfl, rfl⟩
  cases b1 with
  | false =>
    go_wp2_with fail
    go_ret
    exact ⟨by rw [decide_eq_false (fun h => of_decide_eq_false HB1.out.symm ⟨h.1.1, h.1.2.1⟩)]; rfl, HB.out⟩
  | true =>
    have q1 := of_decide_eq_true HB1.out.symm
    go_wp2_with fail
    refine (HC2.out _).mono ?_
    rintro x w1 ⟨rfl, rfl⟩
    cases b2 with
    | false =>
      go_wp2_with fail
      go_ret
      exact ⟨by rw [decide_eq_false (fun h => of_decide_eq_false HB2.out.symm ⟨h.1.2.2.1, h.1.2.2.2.1⟩)]; rfl, HB.out⟩
    | true =>
      have q2 := of_decide_eq_true HB2.out.symm
      go_wp2_with fail
      refine (HC3.out _).mono ?_
      rintro x w1 ⟨rfl, rfl⟩
      cases b3 with
      | false =>
        go_wp2_with fail
        go_ret
        exact ⟨by rw [decide_eq_false (fun h => of_decide_eq_false HB3.out.symm (by have h1 := h.1.2.2.2.2.1; have h2 := h.1.2.2.2.2.2; simp only at h1 h2; omega))]; rfl, HB.out⟩
      | true =>
        have q3 := of_decide_eq_true HB3.out.symm
        have hhd : Pr.HeadOk ⟨v, m, L⟩ := ⟨q1.1, q1.2, q2.1, q2.2, by simp only; omega, by simp only; omega⟩
        have HHD := Lib.hid hhd
        clear hhd
        go_wp2_with fail
        go_loopw [26] (fun x wr => ∃ k : Nat, k ≤ L.length ∧ x = .int .i64 k ∧ Hid (∀ c ∈ L.take k, Pr.CodeOk v m c) ∧ Hid (Below W.heap.size W wr)) (fun x _ => L.length - (intOf x).toNat)
        case atStart => exact ⟨0, Nat.zero_le _, rfl, Lib.hid (fun c h => by simp at h), Lib.hid (Below.refl _ _)⟩
        case round =>
          clear x0 x1 x2
          obtain ⟨k, hk, rfl, HOK, HW⟩ := hrel
          by_cases hlt : k < L.length
          · obtain ⟨q, hq⟩ := get_some hlt
            obtain ⟨g, o, A', c', rfl, hg, hlg, hrq, hqc, hcm, hcell⟩ := HCD.out.get k q hq
            have ca := hcell wr (((below_at HB.out HW.out).block g hlg))
            have lg : g < wr.heap.size := by have := (below_at HB.out HW.out).size; omega
            have hqm := HLQ.out q (List.mem_of_getElem? hq)
            have hql : q.length < 9223372036854775808 := by unfold maxLen at hqm; omega
            have k1 : (0 : Int) ≤ (k : Int) := Int.natCast_nonneg _
            have k2 : (k : Int) < (L.length : Int) := by omega
            have HRQ := Lib.hid (hrq.below (below_at HB.out HW.out))
            have HQ := Lib.hid hq
            clear hq hcell hrq hqm
            obtain ⟨W2, Y, hW2, hY, hB2, hYl, hYe⟩ := sl_box wr 67 A' q.length c'
            go_upto_region 6 with fail
            rw [← hW2, ← hY]
            have HW2 := Lib.hid (below_at HW.out hB2)
            obtain ⟨y0, yl⟩ := hYe W2 (Below.refl _ _)
            have HY := Lib.hid hYe
            have HRQ := Lib.hid ((HRQ.out.below hB2).rd)
            clear hW2 hY hB2 hYl hYe ca lg
            by_cases h8 : q.length ≤ 8
            · have h8' : ¬ (8 : Int) < (q.length : Int) := by omega
              have hd : decide (8 < q.length) = false := by simp; omega
              have hcall := containsFunc_pright1 W2 X Y A' c' q HRQ.out (by omega) (fun i => !decide (Pr.InsOk v m q.length i)) (fun u e hu => by
                obtain ⟨c0, c1, _, cl⟩ := HX.out u (below_at HW2.out hu)
                obtain ⟨d0, dl⟩ := HY.out u hu
                exact pright1_any u X Y v m A' q.length c' e c0 c1 cl d0 dl q1 q2 h8)
              obtain ⟨b, hb⟩ : ∃ b, b = q.any (fun i => !decide (Pr.InsOk v m q.length i)) := ⟨_, rfl⟩
              rw [← hb] at hcall
              rw [not_any] at hb
              have HCALL := Lib.hid hcall
              have HBB := Lib.hid hb
              clear hcall hb
              go_wp2_with fail
              refine HCALL.out.mono ?_
              rintro x w3 ⟨rfl, b3⟩
              have HW3 := Lib.hid (below_at HW2.out b3)
              clear b3
              cases b with
              | false =>
                go_wp2_with fail
                go_roundw
                case rel =>
                  exact ⟨k + 1, by omega, by go_num, Lib.hid (code_take HQ.out HOK.out ⟨h8, of_decide_eq_true (by have := HBB.out; simpa using this)⟩), HW3.out |> Lib.hid⟩
                case measure => simp [intOf]; omega
              | true =>
                go_wp2_with fail
                go_ret
                exact ⟨by rw [decide_eq_false (fun h => by have h1 := (h.2 q (List.mem_of_getElem? HQ.out)).2; have h2 := HBB.out; simp only [decide_eq_true h1] at h2; cases h2)]; rfl, below_at HB.out HW3.out⟩
            · have h8' : (8 : Int) < (q.length : Int) := by omega
              have hd : decide (8 < q.length) = true := by simp; omega
              go_wp2_with fail
              go_ret
              exact ⟨by rw [decide_eq_false (fun h => h8 (h.2 q (List.mem_of_getElem? HQ.out)).1)]; rfl, below_at HB.out HW2.out⟩
          · have hkn : k = L.length := by omega
            have hok := HOK.out
            rw [hkn, List.take_length] at hok
            have HOK := Lib.hid hok
            clear hok
            go_wp2_with fail
            go_ret
            exact ⟨by rw [decide_eq_true (show Pr.Ok ⟨v, m, L⟩ from ⟨HHD.out, HOK.out⟩)]; rfl, below_at HB.out HW.out⟩
end Go.Proofs.YtckdofjpoajblaaGreat
namespace Go.Proofs.YtckdofjpoajblaaGreat
open Go.RowKit
set_option linter.unusedVariables false
theorem Tryz.infoIns : (Tryz.prog.info? 98).map (fun i => (i.zero, i.size, i.bytes)) = some (some (.agg #[.int .i64 0, .int .i64 0, .int .i64 0, .int .i64 0]), 4, 32) := by kernel_rfl
theorem Tryz.infoCd : (Tryz.prog.info? 67).map (fun i => (i.zero, i.size, i.bytes)) = some (some (.slice none 0 0), 1, 24) := by kernel_rfl
def CloneOut (w : World) (e sz : Nat) (n : Nat) (cs : List Value) (x : Ending) (w' : World) : Prop :=
  ∃ A' cap', x = .returned (.slice A' n cap') ∧ Row w' e sz A' n cap' cs ∧ (∀ a, A' = some a → w.heap.size ≤ a.block) ∧ Below w.heap.size w w'
set_option maxRecDepth 100000 in
theorem cloneI_any (w : World) (A : Option Addr) (n cap : Nat) (cs : List Value) (hr : Rd w 4 A n cs) (hn : n ≤ 1000000) :
    Calls Tryz.prog 111 #[.slice A n cap] w (fun x w' => CloneOut w 98 4 n cs x w') := by
  unfold CloneOut
  obtain ⟨i0, hi0, hz0, hz1, hz2⟩ := info_parts Tryz.infoIns
  have qn : ∀ (w : World) (a : Option Addr) (n c n' c' : Nat), (binOp .eql 67 (.slice a n c) (.slice none n' c')).run Tryz.prog w = .ok (.bool a.isNone) w := fun w a n c n' c' => Lib.run_eql_slice_nil w _ _ a n c n' c' Tryz.underlying67
  cases A with
  | none =>
    have h0 : n = 0 := by
      rcases Nat.eq_zero_or_pos n with h | h
      · exact h
      · obtain ⟨g, o, h1, _⟩ := hr.2 (by omega); cases h1
    subst h0
    have hc : cs = [] := List.eq_nil_of_length_eq_zero (by rw [hr.1])
    subst hc
    clear hr hi0 hz0 hz1 hz2
    go_enter Tryz.func111, Tryz.ntmps111
    go_wp2_with fail
    go_ret
    exact ⟨none, 0, rfl, Row.nil _ _ _, fun a h => (by cases h), Below.refl _ _⟩
  | some a =>
    have hb : Below w.heap.size w (w.alloc (Obj.cells #[] 98)) := (Below.refl _ _).alloc (Nat.le_refl _) _
    have HX := Lib.hid (hr.below hb (Nat.le_refl _))
    have HB := Lib.hid hb
    clear hr hb
    go_enter Tryz.func111, Tryz.ntmps111
    go_wp2_with (at_builtin; refine wpList_append_copy (by rfl) _ _ _ (by rfl) 98 i0 _ 4 32 Tryz.underlying67 hi0 hz0 hz1 hz2 rfl (by omega) ⟨w.heap.size, 0, none⟩ 0 [] (by rfl) (row_empty (heap_alloc_new w _)) (some a) n cap cs (by rfl) HX.out (by unfold maxLen; omega) (by omega) ?_; intro g7 o7 cap7 w2 hown hb2 hg7)
    go_ret
    rw [Nat.zero_add] at hown
    refine ⟨_, cap7, rfl, by simpa using hown, fun a h => ?_, below_at HB.out hb2⟩
    injection h with h
    subst h
    have := HB.out.size
    rcases hg7 with ⟨_, h⟩ | h
    · exact Nat.le_of_eq h.symm
    · simp at h; simp only; omega
set_option maxRecDepth 100000 in
theorem cloneC_any (w : World) (a : Addr) (n cap : Nat) (cs : List Value) (hr : Rd w 1 (some a) n cs) (hn : n ≤ 1000000) :
    Calls Tryz.prog 110 #[.slice (some a) n cap] w (fun x w' => CloneOut w 67 1 n cs x w') := by
  unfold CloneOut
  obtain ⟨i0, hi0, hz0, hz1, hz2⟩ := info_parts Tryz.infoCd
  have qn : ∀ (w : World) (a : Option Addr) (n c n' c' : Nat), (binOp .eql 22 (.slice a n c) (.slice none n' c')).run Tryz.prog w = .ok (.bool a.isNone) w := fun w a n c n' c' => Lib.run_eql_slice_nil w _ _ a n c n' c' Tryz.underlying22
  have hb : Below w.heap.size w (w.alloc (Obj.cells #[] 67)) := (Below.refl _ _).alloc (Nat.le_refl _) _
  have HX := Lib.hid (hr.below hb (Nat.le_refl _))
  have HB := Lib.hid hb
  clear hr hb
  go_enter Tryz.func110, Tryz.ntmps110
  go_wp2_with (at_builtin; refine wpList_append_copy (by rfl) _ _ _ (by rfl) 67 i0 _ 1 24 Tryz.underlying22 hi0 hz0 hz1 hz2 rfl (by omega) ⟨w.heap.size, 0, none⟩ 0 [] (by rfl) (row_empty (heap_alloc_new w _)) (some a) n cap cs (by rfl) HX.out (by unfold maxLen; omega) (by omega) ?_; intro g7 o7 cap7 w2 hown hb2 hg7)
  go_ret
  rw [Nat.zero_add] at hown
  refine ⟨_, cap7, rfl, by simpa using hown, fun a h => ?_, below_at HB.out hb2⟩
  injection h with h
  subst h
  have := HB.out.size
  rcases hg7 with ⟨_, h⟩ | h
  · exact Nat.le_of_eq h.symm
  · simp at h; simp only; omega
theorem pg_exit {w : World} {X : Nat} {a b c : Value} {T : TypeId} (h : w.heap[X]? = some (.cells #[a, b, c] T (0, 0))) (x y z : Value) : ∃ V, V = ((w.setCell ⟨X, 0, none⟩ x).setCell ⟨X, 1, none⟩ y).setCell ⟨X, 2, none⟩ z ∧ V.cell? ⟨X, 0, none⟩ = some x ∧ V.cell? ⟨X, 1, none⟩ = some y ∧ V.cell? ⟨X, 2, none⟩ = some z ∧ Mod (fun k => k = X) w V := by
  have h1 := set_blk h 0 x
  have h2 := set_blk h1 1 y
  have h3 := set_blk h2 2 z
  refine ⟨_, rfl, ?_, ?_, ?_, (((Mod.refl (fun k => k = X) w).setCell (p := ⟨X, 0, none⟩) (fun _ => rfl) _).setCell (p := ⟨X, 1, none⟩) (fun _ => rfl) _).setCell (p := ⟨X, 2, none⟩) (fun _ => rfl) _⟩ <;> (rw [cell_blk h3]; simp)
def CopyRow (w : World) (D C : Nat → Prop) (L : List (List Ins)) (i : Nat) (vs : List Value) : Prop :=
  vs.length = L.length ∧ ∀ (j : Nat) (q : List Ins), L[j]? = some q → ∃ A' c', vs[j]? = some (.slice A' q.length c') ∧ RdC w (if j < i then D else C) 4 A' q.length (q.flatMap encI) ∧ q.length ≤ c' ∧ c' ≤ maxLen
theorem CopyRow.mod {w w' : World} {F D C : Nat → Prop} {L : List (List Ins)} {i : Nat} {vs : List Value} (h : CopyRow w D C L i vs) (hm : Mod F w w') (hD : ∀ k, D k → ¬ F k) (hC : ∀ k, C k → ¬ F k) : CopyRow w' D C L i vs :=
  ⟨h.1, fun j q hq => by
    obtain ⟨A', c', h1, h2, h3⟩ := h.2 j q hq
    exact ⟨A', c', h1, h2.mod hm (by split <;> assumption), h3⟩⟩
theorem CopyRow.below {w w' : World} {D C : Nat → Prop} {L : List (List Ins)} {i : Nat} {vs : List Value} (h : CopyRow w D C L i vs) (hm : Below w.heap.size w w') : CopyRow w' D C L i vs :=
  ⟨h.1, fun j q hq => by
    obtain ⟨A', c', h1, h2, h3⟩ := h.2 j q hq
    exact ⟨A', c', h1, h2.below hm, h3⟩⟩
theorem CopyRow.step {w : World} {D C : Nat → Prop} {L : List (List Ins)} {i : Nat} {vs : List Value} {q : List Ins} {A' : Option Addr} {c' : Nat} (h : CopyRow w D C L i vs) (hq : L[i]? = some q) (hr : RdC w D 4 A' q.length (q.flatMap encI)) (h1 : q.length ≤ c') (h2 : c' ≤ maxLen) : CopyRow w D C L (i + 1) (vs.set i (.slice A' q.length c')) := by
  refine ⟨by rw [List.length_set]; exact h.1, fun j p hp => ?_⟩
  by_cases hj : j = i
  · subst hj
    obtain rfl : q = p := by rw [hq] at hp; injection hp
    refine ⟨A', c', ?_, by rw [if_pos (by omega)]; exact hr, h1, h2⟩
    rw [List.getElem?_set_self (by rw [h.1]; exact (List.getElem?_eq_some_iff.1 hq).1)]
  · obtain ⟨A2, c2, h3, h4, h5⟩ := h.2 j p hp
    refine ⟨A2, c2, by rw [List.getElem?_set_ne (fun e => hj e.symm)]; exact h3, ?_, h5⟩
    by_cases hlt : j < i
    · rw [if_pos hlt] at h4; rw [if_pos (by omega)]; exact h4
    · rw [if_neg hlt] at h4; rw [if_neg (by omega)]; exact h4
theorem row_toC {w : World} {C : Nat → Prop} {e sz n cap : Nat} {A : Option Addr} {cs : List Value} (h : Row w e sz A n cap cs) (hC : ∀ a, A = some a → C a.block) : RdC w C sz A n cs := by
  obtain ⟨h1, h2⟩ := h.rd
  refine ⟨h1, fun h0 => ?_⟩
  obtain ⟨g, o, hA, hg, hc⟩ := h2 h0
  exact ⟨g, o, hA, hC _ hA, hg, hc⟩
set_option maxRecDepth 100000 in
set_option maxHeartbeats 4000000 in
theorem copy_any (w : World) (p : Pg) (A : Option Addr) (cap : Nat) (hcd : CdAt w (fun k => k < w.heap.size) A p.code) (hl1 : 1 ≤ p.code.length) (hl : p.code.length ≤ 4) (hq : ∀ q ∈ p.code, q.length ≤ 8) :
    Calls Tryz.prog 67 #[valP p A cap] w fun x w' => ∃ A' cap', x = .returned (valP p A' cap') ∧ CdAt w' (fun k => w.heap.size ≤ k) A' p.code ∧ p.code.length ≤ cap' ∧ cap' ≤ maxLen ∧ Below w.heap.size w w' := by
  obtain ⟨v, m, L⟩ := p
  unfold valP
  simp only at hcd hl1 hl hq ⊢
  obtain ⟨vs, hvs, hat⟩ := hcd
  obtain ⟨g0, o0, rfl, hC0, hg0, hcell0⟩ := hvs.2 (by omega)
  obtain ⟨Wa, X, hWa, hX, hBa, hXl, hXe⟩ := pg_box w v m (some ⟨g0, o0, none⟩) L.length cap
  have hXk : Wa.heap[X]? = some (.cells #[.int .i64 v, .int .i64 m, .slice (some ⟨g0, o0, none⟩) L.length cap] 24 (0, 0)) := by rw [hWa, hX]; exact heap_alloc_new w _
  obtain ⟨Wb, Y, hWb, hY, hBb, hYl, hYe⟩ := pg_box Wa 0 0 none 0 0
  have hYk : Wb.heap[Y]? = some (.cells #[.int .i64 0, .int .i64 0, .slice none 0 0] 24 (0, 0)) := by rw [hWb, hY]; exact heap_alloc_new Wa _
  have hY' : Y = w.heap.size + 1 := by rw [hY, hWa]; simp
  have hbb := below_at hBa hBb
  have hcl := cloneC_any Wb ⟨g0, o0, none⟩ L.length cap vs (hvs.rd.below hbb (Nat.le_refl _)) (by omega)
  have hXk' : Wb.heap[X]? = some (.cells #[.int .i64 v, .int .i64 m, .slice (some ⟨g0, o0, none⟩) L.length cap] 24 (0, 0)) := (hBb.block X hXl).trans hXk
  have HCL := Lib.hid hcl
  have HXK := Lib.hid hXk'
  have HYK := Lib.hid hYk
  have HAT := Lib.hid hat
  have HBB := Lib.hid hbb
  have HXE := Lib.hid hX
  have HYE := Lib.hid hY'
  obtain ⟨x0, x1, x2, xl⟩ := hXe Wb hBb
  have yl := hYl
  have HQ := Lib.hid hq
  have HVS := Lib.hid hvs
  clear hcl hXk hXk' hYk hat hbb hBa hBb hXe hYe hXl hYl hq hvs hcell0 hC0 hg0
  go_enter Tryz.func67, Tryz.ntmps67
  go_upto_region 1 with fail
  rw [← hY', ← hWa, ← hWb, ← hX]
  clear hWa hWb hX hY hY'
  go_wp2_with fail
  refine HCL.out.mono ?_
  rintro x w3 ⟨A3, c3, rfl, hr3, ha3, b3⟩
  obtain ⟨g, o, rfl⟩ := hr3.some_of_pos (by have := hr3.2.1; omega)
  have hg : Wb.heap.size ≤ g := ha3 _ rfl
  have hX3 := (b3.block X (blk_lt HXK.out)).trans HXK.out
  have hY3 := (b3.block Y (blk_lt HYK.out)).trans HYK.out
  have f2 : w3.frozen? ⟨X, 2, none⟩ = false := free_blk hX3 2
  have x2 : w3.cell? ⟨X, 2, none⟩ = some (.slice (some ⟨g0, o0, none⟩) L.length cap) := by rw [cell_blk hX3]; rfl
  have xl : X < w3.heap.size := blk_lt hX3
  have HX3 := Lib.hid hX3
  have HY3 := Lib.hid hY3
  have HR3 := Lib.hid hr3
  have HG := Lib.hid hg
  have HB3 := Lib.hid b3
  clear hr3 ha3 b3 hX3 hY3 hg HCL x0 x1
  go_upto_region 2 with fail
  obtain ⟨W4, hW4⟩ : ∃ W4, W4 = w3.setCell ⟨X, 2, none⟩ (.slice (some ⟨g, o, none⟩) L.length c3) := ⟨_, rfl⟩
  rw [← hW4]
  have hXY : X < Y := by have := HXE.out; have := HYE.out; omega
  have hYg : Y < g := by have := blk_lt HYK.out; have := HG.out; omega
  have hm4 : Mod (fun k => k = X) w3 W4 := by rw [hW4]; exact (Mod.refl (fun k => k = X) w3).setCell (p := ⟨X, 2, none⟩) (fun _ => rfl) _
  have hX4 : W4.heap[X]? = some (.cells #[.int .i64 v, .int .i64 m, .slice (some ⟨g, o, none⟩) L.length c3] 24 (0, 0)) := by rw [hW4, set_blk HX3.out]; simp
  have hY4 : W4.heap[Y]? = _ := (hm4.block Y (blk_lt HY3.out) (by omega)).trans HY3.out
  have hr4 : Row W4 67 1 (some ⟨g, o, none⟩) L.length c3 vs := HR3.out.mod hm4 (fun a ha => by injection ha with ha; subst ha; simp only; omega)
  have hc4 : CopyRow W4 (fun k => w.heap.size ≤ k ∧ k ≠ X ∧ k ≠ Y ∧ k ≠ g) (fun k => k < w.heap.size) L 0 vs :=
    ⟨by have := HVS.out.1; omega, fun j q hq => by
      obtain ⟨A', c', h1, h2, h3⟩ := HAT.out j q hq
      exact ⟨A', c', h1, by rw [if_neg (by omega)]; exact ((h2.below HBB.out).mod (Mod.of_below HB3.out) (fun k hk => by have := HBB.out.size; omega)).mod hm4 (fun k hk => by have := HXE.out; omega), h3⟩⟩
  have hb4 : Below w.heap.size w W4 := (below_at HBB.out HB3.out).trans (hm4.below w.heap.size (by have := HBB.out.size; have := HB3.out.size; omega) (fun k hk => by have := HXE.out; omega))
  have HX4 := Lib.hid hX4
  have HY4 := Lib.hid hY4
  have HR4 := Lib.hid hr4
  have HC4 := Lib.hid hc4
  have HB4 := Lib.hid hb4
  have HXY := Lib.hid hXY
  have HYG := Lib.hid hYg
  have x2 : W4.cell? ⟨X, 2, none⟩ = some (.slice (some ⟨g, o, none⟩) L.length c3) := by rw [cell_blk HX4.out]; rfl
  have xl : X < W4.heap.size := blk_lt HX4.out
  have hbd : W4.heap.size < W4.heap.size + 1 := by omega
  clear hW4 hX4 hY4 hr4 hc4 hb4 hXY hYg hm4 f2 HX3 HY3 HR3 HG HB3 hbd
  have HLEN := Lib.hid (show L.length < 9223372036854775808 by omega)
  go_wp2_with fail
  go_loopw [12] (fun x wr => ∃ (i : Nat) (us : List Value), i ≤ L.length ∧ x = .int .i64 i ∧ Hid (Row wr 67 1 (some ⟨g, o, none⟩) L.length c3 us) ∧ Hid (CopyRow wr (fun k => w.heap.size ≤ k ∧ k ≠ X ∧ k ≠ Y ∧ k ≠ g) (fun k => k < w.heap.size) L i us) ∧ Hid (Mod (fun k => k = g) W4 wr)) (fun x _ => L.length - (intOf x).toNat)
  case atStart => exact ⟨0, vs, Nat.zero_le _, rfl, HR4, HC4, Lib.hid (Mod.refl _ _)⟩
  case round =>
    clear x2 xl HR4 HC4
    obtain ⟨i, us, hi, rfl, HR, HC, HMO⟩ := hrel
    have hXr : wr.heap[X]? = _ := (HMO.out.block X (blk_lt HX4.out) (by have := HXY.out; have := HYG.out; omega)).trans HX4.out
    have HXR := Lib.hid hXr
    clear hXr
    by_cases hlt : i < L.length
    · obtain ⟨q, hq⟩ := get_some hlt
      obtain ⟨A', c', hu, hrd, hc1, hc2⟩ := HC.out.2 i q hq
      have ca : wr.cell? ⟨g, o + i, none⟩ = some (.slice A' q.length c') := by rw [HR.out.cell i (by omega), hu]
      have lg : g < wr.heap.size := HR.out.lt
      have hq8 := HQ.out q (List.mem_of_getElem? hq)
      have k1 : (0 : Int) ≤ (i : Int) := Int.natCast_nonneg _
      have k2 : (i : Int) < (L.length : Int) := by omega
      have HRD := Lib.hid hrd.rd
      have HQI := Lib.hid hq
      clear hu hrd hc1 hc2 hq
      go_upto_region 5 with fail
      refine wp_region_planF (by kernel_rfl) (fun u => Below wr.heap.size wr u) [6] [(0, .pure), (1, .load), (2, .pure), (3, .pure), (4, .eff), (5, .pure), (6, .last)] (by simp only [List.map_cons, List.map_nil, List.getElem?_toArray, List.getElem?_cons_succ, List.getElem?_cons_zero]; rfl) (by kernel_rfl) (fun _ _ d _ _ h => by cases d <;> exact h) ((Below.refl _ _).drew) ?_
      repeat (first
        | (refine plan_pure (v := ?_) (by rfl) (fun w1 => ?_) ?_
           rotate_left
           · go_simp <;> with_reducible rfl
           simp only [Act.put, List.setIfInBounds_toArray, List.set_cons_zero, List.set_cons_succ])
        | (refine plan_off (by rfl) ?_
           simp only [Act.put, List.setIfInBounds_toArray, List.set_cons_zero, List.set_cons_succ])
        | (refine plan_load_off (by rfl) ?_
           simp only [Act.put, List.setIfInBounds_toArray, List.set_cons_zero, List.set_cons_succ])
        | (refine plan_load (v := ?_) (by rfl) (fun w1 hw1 => ?_) ?_
           rotate_left
           · (have qx := (World.cell?_of_block (hw1.block X (blk_lt HXR.out)) : w1.cell? ⟨X, 2, none⟩ = _).trans (cell_blk HXR.out 2)
              clear hw1
              go_simp <;> with_reducible rfl)
           simp only [Act.put, List.setIfInBounds_toArray, List.set_cons_zero, List.set_cons_succ]))
      have hS : Below wr.heap.size wr wr.drew := (Below.refl _ _).drew
      refine plan_eff ?_
      go_wp2_with fail
      refine (cloneI_any wr.drew A' q.length c' (q.flatMap encI) (HRD.out.below hS (Nat.le_refl _)) (by omega)).mono ?_
      rintro x w6 ⟨A6, c6, rfl, r6, a6, b6⟩
      have S6 := Lib.hid (below_at hS b6)
      have hr6 : Row w6 67 1 (some ⟨g, o, none⟩) L.length c3 us := HR.out.mod (Mod.of_below_size S6.out (fun _ => False)) (fun a ha h => h)
      have hc6 := HC.out.below S6.out
      have f6 : w6.frozen? ⟨g, o + i, none⟩ = false := hr6.free _
      have d6 : w6.cell? ⟨g, o + i, none⟩ = some (.slice A' q.length c') := (World.cell?_of_block (S6.out.block g lg)).trans ca
      have l6 : g < w6.heap.size := by have := S6.out.size; omega
      have hd6 : RdC w6 (fun k => w.heap.size ≤ k ∧ k ≠ X ∧ k ≠ Y ∧ k ≠ g) 4 A6 q.length (q.flatMap encI) := row_toC r6 (fun a ha => by
        have h1 : wr.heap.size ≤ a.block := a6 a ha
        have h2 := HB4.out.size
        have h3 := HMO.out.size
        have h4 := HXY.out
        have h5 := HYG.out
        exact ⟨by omega, by omega, by omega, by omega⟩)
      have R6 := Lib.hid hr6
      have C6 := Lib.hid hc6
      have D6 := Lib.hid hd6
      have E6 := Lib.hid (And.intro r6.2.1 r6.2.2.1)
      clear r6 a6 b6 hr6 hc6 hd6
      go_wp2_with fail
      refine plan_on (fun _ h => h) S6.out ?_
      repeat (first
        | (refine plan_pure (v := ?_) (by rfl) (fun w1 => ?_) ?_
           rotate_left
           · go_simp <;> with_reducible rfl
           simp only [Act.put, List.setIfInBounds_toArray, List.set_cons_zero, List.set_cons_succ])
        | (refine plan_off (by rfl) ?_
           simp only [Act.put, List.setIfInBounds_toArray, List.set_cons_zero, List.set_cons_succ])
        | (refine plan_load_off (by rfl) ?_
           simp only [Act.put, List.setIfInBounds_toArray, List.set_cons_zero, List.set_cons_succ])
        | (refine plan_load (v := ?_) (by rfl) (fun w1 hw1 => ?_) ?_
           rotate_left
           · (have qx := (World.cell?_of_block (hw1.block X (blk_lt HXR.out)) : w1.cell? ⟨X, 2, none⟩ = _).trans (cell_blk HXR.out 2)
              clear hw1
              go_simp <;> with_reducible rfl)
           simp only [Act.put, List.setIfInBounds_toArray, List.set_cons_zero, List.set_cons_succ]))
      refine plan_last ?_
      go_wp2_with fail
      repeat (first
        | (refine plan_pure (v := ?_) (by rfl) (fun w1 => ?_) ?_
           rotate_left
           · go_simp <;> with_reducible rfl
           simp only [Act.put, List.setIfInBounds_toArray, List.set_cons_zero, List.set_cons_succ])
        | (refine plan_off (by rfl) ?_
           simp only [Act.put, List.setIfInBounds_toArray, List.set_cons_zero, List.set_cons_succ])
        | (refine plan_load_off (by rfl) ?_
           simp only [Act.put, List.setIfInBounds_toArray, List.set_cons_zero, List.set_cons_succ])
        | (refine plan_load (v := ?_) (by rfl) (fun w1 hw1 => ?_) ?_
           rotate_left
           · (skip
              clear hw1
              go_simp <;> with_reducible rfl)
           simp only [Act.put, List.setIfInBounds_toArray, List.set_cons_zero, List.set_cons_succ]))
      refine plan_end ?_
      go_wp2_with fail
      go_roundw
      case rel =>
        have hm := (Mod.refl (fun k => k = g) w6).setCell (p := ⟨g, o + i, none⟩) (fun _ => rfl) (.slice A6 q.length c6)
        refine ⟨i + 1, us.set i (.slice A6 q.length c6), by omega, by go_num, Lib.hid (R6.out.set i (by omega) _), Lib.hid ?_, Lib.hid ?_⟩
        · exact (C6.out.mod hm (fun k hk => hk.2.2.2) (fun k hk e => by have h4 := HXY.out; have h5 := HYG.out; have h6 := HXE.out; omega)).step HQI.out (D6.out.mod hm (fun k hk => hk.2.2.2)) E6.out.1 E6.out.2
        · exact (HMO.out.trans (Mod.of_below_size S6.out _)).trans hm
      case measure => simp [intOf]; omega
    · have hi' : i = L.length := by omega
      have HI := Lib.hid hi'
      clear hi' hi
      have hY5 : wr.heap[Y]? = _ := (HMO.out.block Y (blk_lt HY4.out) (by have := HYG.out; omega)).trans HY4.out
      obtain ⟨V2, hV2, d0, d1, d2, hmv⟩ := pg_exit hY5 (.int .i64 v) (.int .i64 m) (.slice (some ⟨g, o, none⟩) L.length c3)
      have x0 : wr.cell? ⟨X, 0, none⟩ = some (.int .i64 v) := by rw [cell_blk HXR.out]; rfl
      have x1 : wr.cell? ⟨X, 1, none⟩ = some (.int .i64 m) := by rw [cell_blk HXR.out]; rfl
      have x2 : wr.cell? ⟨X, 2, none⟩ = some (.slice (some ⟨g, o, none⟩) L.length c3) := by rw [cell_blk HXR.out]; rfl
      have y0 : wr.cell? ⟨Y, 0, none⟩ = some (.int .i64 0) := by rw [cell_blk hY5]; rfl
      have y1 : wr.cell? ⟨Y, 1, none⟩ = some (.int .i64 0) := by rw [cell_blk hY5]; rfl
      have y2 : wr.cell? ⟨Y, 2, none⟩ = some (.slice none 0 0) := by rw [cell_blk hY5]; rfl
      have f0 : wr.frozen? ⟨Y, 0, none⟩ = false := free_blk hY5 0
      have f1 : wr.frozen? ⟨Y, 1, none⟩ = false := free_blk hY5 1
      have f2 : wr.frozen? ⟨Y, 2, none⟩ = false := free_blk hY5 2
      have lx : X < wr.heap.size := blk_lt HXR.out
      have ly : Y < wr.heap.size := blk_lt hY5
      have HMV := Lib.hid hmv
      have HV2 := Lib.hid hV2
      clear hmv hV2 hY5
      go_wp2_with fail
      rw [← HV2.out]
      refine bodyPost_ret (v := .agg #[.int .i64 v, .int .i64 m, .slice (some ⟨g, o, none⟩) L.length c3]) (by simp [results, Tryz.results67, go_sem, d0, d1, d2]) rfl ?_
      have hr9 := HR.out.mod HMV.out (fun a ha => by injection ha with ha; subst ha; have := HYG.out; simp only; omega)
      have hc9 := HC.out.mod HMV.out (fun k hk => hk.2.2.1) (fun k hk e => by have h4 := HXY.out; have h6 := HXE.out; omega)
      rw [HI.out] at hc9
      refine ⟨some ⟨g, o, none⟩, c3, rfl, ⟨us, row_toC hr9 (fun a ha => by injection ha with ha; subst ha; have h4 := HXY.out; have h5 := HYG.out; have h6 := HXE.out; simp only; omega), fun j q hq => ?_⟩, hr9.2.1, hr9.2.2.1, ?_⟩
      · obtain ⟨A', c', h1, h2, h3⟩ := hc9.2 j q hq
        rw [if_pos (List.getElem?_eq_some_iff.1 hq).1] at h2
        exact ⟨A', c', h1, h2.imp (fun k hk => hk.1), h3⟩
      · exact (HB4.out.trans (HMO.out.below w.heap.size HB4.out.size (fun k hk e => by have h4 := HXY.out; have h5 := HYG.out; have h6 := HXE.out; omega))).trans (HMV.out.below w.heap.size (by have := HB4.out.size; have := HMO.out.size; omega) (fun k hk e => by have h4 := HXY.out; have h6 := HXE.out; omega))
end Go.Proofs.YtckdofjpoajblaaGreat
