/- Part 2 of the proof of leastTells_holds: what it rests on. -/
import Derived.Test.YtckdofjpoajblaaGreatZk1
namespace Go.Proofs.YtckdofjpoajblaaGreat
open Go.ChangeShapes Go.WideShapes Go.ChangeAt Go.RowKit
set_option linter.unusedVariables false
theorem pick_list {α : Type} {P : Nat → α → Prop} : ∀ n, (∀ j, j < n → ∃ x, P j x) → ∃ xs : List α, xs.length = n ∧ ∀ j x, xs[j]? = some x → P j x
  | 0, _ => ⟨[], rfl, fun j x h => by simp at h⟩
  | n + 1, h => by
    obtain ⟨xs, hl, hx⟩ := pick_list n (fun j hj => h j (by omega))
    obtain ⟨x, hp⟩ := h n (by omega)
    refine ⟨xs ++ [x], by simp [hl], fun j y hy => ?_⟩
    rcases Nat.lt_or_ge j xs.length with hj | hj
    · rw [List.getElem?_append_left hj] at hy
      exact hx j y hy
    · rw [List.getElem?_append_right hj] at hy
      have : j - xs.length = 0 := by
        rcases Nat.eq_zero_or_pos (j - xs.length) with h0 | h0
        · exact h0
        · rw [List.getElem?_eq_none (by simp; omega)] at hy; cases hy
      rw [this] at hy
      simp at hy
      subst hy
      have : j = n := by omega
      subst this
      exact hp
theorem mapM_some {α β : Type} {f : α → Option β} : ∀ {l : List α} {ys : List β}, l.mapM f = some ys → ∀ x ∈ l, ∃ y, f x = some y
  | [], _, _, x, hx => by cases hx
  | a :: l, ys, h, x, hx => by
    rw [List.mapM_cons] at h
    cases ha : f a with
    | none => rw [ha] at h; cases h
    | some b =>
      rw [ha] at h
      cases hl : l.mapM f with
      | none => rw [hl] at h; cases h
      | some bs =>
        rcases List.mem_cons.1 hx with rfl | hx
        · exact ⟨b, ha⟩
        · exact mapM_some hl x hx
theorem mapM_get {α β : Type} {f : α → Option β} : ∀ {l : List α} {ys : List β}, l.mapM f = some ys → ys.length = l.length ∧ ∀ (i : Nat) x, l[i]? = some x → ys[i]? = f x
  | [], ys, h => by
    rw [List.mapM_nil] at h
    cases h
    exact ⟨rfl, fun i x h => by simp at h⟩
  | a :: l, ys, h => by
    rw [List.mapM_cons] at h
    cases ha : f a with
    | none => rw [ha] at h; cases h
    | some b =>
      rw [ha] at h
      cases hl : l.mapM f with
      | none => rw [hl] at h; cases h
      | some bs =>
        rw [hl] at h
        cases h
        obtain ⟨h1, h2⟩ := mapM_get hl
        refine ⟨by simp [h1], fun i x hx => ?_⟩
        cases i with
        | zero => simp at hx; subst hx; simp [ha]
        | succ i => simpa using h2 i x (by simpa using hx)
section
variable {H : Type} {enc : TypeId × Value → H} {P : Program} {w : World} {base : Nat} {spare : Nat → Bool} {held : Bool} {fuel : Nat} {t e : TypeId} {cs : List Value} {y : DataW H × List MemPlace}
theorem tr_int {k : IntKind} (ht : P.underlying t = some (.int k)) (h : DataW.trod enc P w base spare held fuel t cs = some y) : ∃ n, cs = [.int k n] ∧ (Lit.int k n).wf = true := by
  cases fuel with
  | zero => simp [DataW.trod] at h
  | succ fuel =>
    unfold DataW.trod at h
    rw [ht] at h
    split at h <;> simp_all
theorem tr_struct {fs : Array Field} (ht : P.underlying t = some (.struct fs)) (h : DataW.trod enc P w base spare held fuel t cs = some y) :
    cs.length = P.cellsOf t ∧ ∃ fuel', ∀ f ∈ fs.toList, ∃ y', DataW.trod enc P w base spare held fuel' f.type ((cs.drop f.offset).take (P.cellsOf f.type)) = some y' := by
  cases fuel with
  | zero => simp [DataW.trod] at h
  | succ fuel =>
    unfold DataW.trod at h
    rw [ht] at h
    split at h <;> simp_all
    obtain ⟨hl, ys, hm, _⟩ := h
    exact ⟨fuel, fun f hf => by obtain ⟨⟨a, b⟩, h⟩ := mapM_some hm f (by simpa using hf); exact ⟨a, b, h⟩⟩
theorem tr_slice (ht : P.underlying t = some (.slice e)) {A : Option Addr} {n cap : Nat} (h : DataW.trod enc P w base spare held fuel t [.slice A n cap] = some y) :
    n ≤ cap ∧ cap ≤ maxLen ∧ (A = none → n = 0 ∧ cap = 0) ∧ ∃ fuel', ∀ j, j < n → ∃ a, A = some a ∧ ∃ c y', (w.cells? base (a.add (j * P.cellsOf e)) (P.cellsOf e)) = some c ∧ DataW.trod enc P w base spare held fuel' e c = some y' := by
  cases fuel with
  | zero => simp [DataW.trod] at h
  | succ fuel =>
    unfold DataW.trod at h
    rw [ht] at h
    cases A with
    | none =>
      cases n with
      | succ n => simp at h
      | zero =>
        cases cap with
        | succ n => simp at h
        | zero => exact ⟨by omega, by simp [maxLen], fun _ => ⟨rfl, rfl⟩, fuel, fun j hj => by omega⟩
    | some a =>
      simp only at h
      split at h
      · rename_i hh
        obtain ⟨hb, h1, h2⟩ := hh
        rw [Option.bind_eq_some_iff] at h
        obtain ⟨elems, hm, _⟩ := h
        refine ⟨h1, h2, fun h => (by cases h), fuel, fun j hj => ⟨a, rfl, ?_⟩⟩
        obtain ⟨y', hy⟩ := mapM_some hm j (by simpa using hj)
        cases hc : w.cells? base (a.add (j * P.cellsOf e)) (P.cellsOf e) with
        | none => rw [hc] at hy; cases hy
        | some c => rw [hc] at hy; exact ⟨c, _, rfl, hy⟩
      · cases h
end
theorem Rd.below {w w' : World} {sz : Nat} {A : Option Addr} {n : Nat} {cs : List Value} (h : Rd w sz A n cs) {B : Nat} (hb : Below B w w') (hB : w.heap.size ≤ B) : Rd w' sz A n cs := by
  refine ⟨h.1, fun h0 => ?_⟩
  obtain ⟨g, o, hA, hg, hc⟩ := h.2 h0
  exact ⟨g, o, hA, Nat.lt_of_lt_of_le hg hb.size, fun j hj => (World.cell?_of_block (hb.block g (by omega))).trans (hc j hj)⟩
def RdB (w : World) (B sz : Nat) (A : Option Addr) (n : Nat) (cs : List Value) : Prop :=
  cs.length = n * sz ∧ (0 < n * sz → ∃ g o, A = some ⟨g, o, none⟩ ∧ g < B ∧ ∀ j, j < n * sz → w.cell? ⟨g, o + j, none⟩ = cs[j]?)
theorem Rd.toB {w : World} {sz : Nat} {A : Option Addr} {n : Nat} {cs : List Value} (h : Rd w sz A n cs) : RdB w w.heap.size sz A n cs := h
theorem RdB.below {w w' : World} {B sz : Nat} {A : Option Addr} {n : Nat} {cs : List Value} (h : RdB w B sz A n cs) (hb : Below B w w') : RdB w' B sz A n cs := by
  refine ⟨h.1, fun h0 => ?_⟩
  obtain ⟨g, o, hA, hg, hc⟩ := h.2 h0
  exact ⟨g, o, hA, hg, fun j hj => (World.cell?_of_block (hb.block g hg)).trans (hc j hj)⟩
section
variable {H : Type} {enc : TypeId × Value → H} {P : Program} {w : World} {base : Nat} {spare : Nat → Bool} {held : Bool} {fuel : Nat} {t e : TypeId} {cs : List Value} {y : DataW H × List MemPlace}
theorem cells_of {w : World} {base n : Nat} {a : Addr} {c : List Value} (h : w.cells? base a n = some c) : c.length = n ∧ ∀ i, i < n → w.cell? (a.add i) = c[i]? := by
  unfold World.cells? at h
  split at h
  · obtain ⟨h1, h2⟩ := mapM_get h
    refine ⟨by simpa using h1, fun i hi => ?_⟩
    exact (h2 i i (by simp [hi])).symm
  · cases h
theorem tr_list {α : Type} {f : α → List Value} {good : α → Prop} {sz : Nat} (hsz : 0 < sz) (ht : P.underlying t = some (.slice e)) (hcs : P.cellsOf e = sz)
    (hel : ∀ fuel c y, c.length = sz → DataW.trod enc P w base spare held fuel e c = some y → ∃ x, c = f x ∧ good x)
    {A : Option Addr} {n cap : Nat} (h : DataW.trod enc P w base spare held fuel t [.slice A n cap] = some y) :
    ∃ xs : List α, xs.length = n ∧ (∀ x ∈ xs, good x) ∧ Rd w sz A n (xs.flatMap f) ∧ n ≤ cap ∧ cap ≤ maxLen := by
  obtain ⟨h1, h2, h3, fuel', h4⟩ := tr_slice ht h
  rw [hcs] at h4
  obtain ⟨xs, hl, hx⟩ := pick_list (P := fun j x => ∃ a, A = some a ∧ (f x).length = sz ∧ good x ∧ ∀ i, i < sz → w.cell? ((a.add (j * sz)).add i) = (f x)[i]?) n (fun j hj => by
    obtain ⟨a, hA, c, y', hc, hy⟩ := h4 j hj
    obtain ⟨hcl, hci⟩ := cells_of hc
    obtain ⟨x, rfl, hg⟩ := hel fuel' c y' hcl hy
    exact ⟨x, a, hA, hcl, hg, hci⟩)
  have hlen : ∀ x ∈ xs, (f x).length = sz := fun x hm => by
    obtain ⟨j, hj⟩ := List.getElem?_of_mem hm
    obtain ⟨a, _, h, _⟩ := hx j x hj
    exact h
  have hfl : (xs.flatMap f).length = n * sz := by
    rw [← hl]
    clear h4 hx hl
    induction xs with
    | nil => simp
    | cons x xs ih =>
      rw [List.flatMap_cons, List.length_append, hlen x (by simp), ih (fun z hz => hlen z (by simp [hz])), List.length_cons, Nat.add_mul]
      omega
  refine ⟨xs, hl, fun x hm => ?_, ⟨hfl, fun h0 => ?_⟩, h1, h2⟩
  · obtain ⟨j, hj⟩ := List.getElem?_of_mem hm
    obtain ⟨a, _, _, h, _⟩ := hx j x hj
    exact h
  · have hn : 0 < n := by
      rcases Nat.eq_zero_or_pos n with h | h
      · rw [h] at h0; simp at h0
      · exact h
    obtain ⟨a, hA, _, _, hc0⟩ := hx 0 _ (List.getElem?_eq_getElem (by omega))
    obtain ⟨g, o, s⟩ := a
    have hs : s = none := by
      have h5 := hc0 0 hsz
      have h6 : ((⟨g, o, s⟩ : Addr).add (0 * sz)).add 0 = ⟨g, o, s⟩ := by simp [Addr.add]
      rw [h6] at h5
      cases s with
      | none => rfl
      | some s =>
        have hl0 := hlen _ (List.getElem_mem (show 0 < xs.length by omega))
        rw [List.getElem?_eq_getElem (by omega)] at h5
        unfold World.cell? at h5
        split at h5 <;> simp at h5
    subst hs
    refine ⟨g, o, hA, ?_, fun j hj => ?_⟩
    · have h5 := hc0 0 hsz
      have hl0 := hlen _ (List.getElem_mem (show 0 < xs.length by omega))
      rw [List.getElem?_eq_getElem (by omega)] at h5
      have := World.block_lt_of_cell? w _ h5
      simpa [addr_add] using this
    · -- cell j is cell j % sz of element j / sz
      have hq : j / sz < xs.length := by rw [hl]; exact (Nat.div_lt_iff_lt_mul hsz).2 hj
      obtain ⟨a', hA', _, _, hcj⟩ := hx (j / sz) _ (List.getElem?_eq_getElem hq)
      rw [hA] at hA'
      injection hA' with hA'
      subst hA'
      have h5 := hcj (j % sz) (Nat.mod_lt _ hsz)
      rw [addr_add, addr_add] at h5
      have hdm : o + j / sz * sz + j % sz = o + j := by
        have := Nat.div_add_mod j sz
        rw [Nat.mul_comm] at this
        omega
      rw [hdm] at h5
      rw [h5]
      clear h5 hcj hc0 h4 hfl
      have key : ∀ (xs : List α) (hlen : ∀ x ∈ xs, (f x).length = sz) (q r : Nat) (hq : q < xs.length) (hr : r < sz), (f xs[q])[r]? = (xs.flatMap f)[q * sz + r]? := by
        intro xs
        induction xs with
        | nil => intro _ q r hq; cases hq
        | cons x xs ih =>
          intro hlen q r hq hr
          have hx0 := hlen x (by simp)
          cases q with
          | zero =>
            rw [List.flatMap_cons, List.getElem?_append_left (by omega)]
            simp
          | succ q =>
            rw [List.flatMap_cons, List.getElem?_append_right (by rw [hx0, Nat.add_mul]; omega)]
            have : (q + 1) * sz + r - (f x).length = q * sz + r := by rw [hx0, Nat.add_mul]; omega
            rw [this]
            simpa using ih (fun z hz => hlen z (by simp [hz])) q r (by simpa using hq) hr
      rw [key xs hlen (j / sz) (j % sz) hq (Nat.mod_lt _ hsz)]
      congr 1
      have := Nat.div_add_mod j sz
      rw [Nat.mul_comm] at this
      omega
end
theorem flat_get {α : Type} {f : α → List Value} {sz : Nat} (hf : ∀ x, (f x).length = sz) : ∀ (xs : List α) (q r : Nat) (hq : q < xs.length) (hr : r < sz), (xs.flatMap f)[q * sz + r]? = (f xs[q])[r]? := by
  intro xs
  induction xs with
  | nil => intro q r hq; cases hq
  | cons x xs ih =>
    intro q r hq hr
    cases q with
    | zero =>
      rw [List.flatMap_cons, List.getElem?_append_left (by rw [hf]; omega)]
      simp
    | succ q =>
      rw [List.flatMap_cons, List.getElem?_append_right (by rw [hf, Nat.add_mul]; omega)]
      have : (q + 1) * sz + r - (f x).length = q * sz + r := by rw [hf, Nat.add_mul]; omega
      rw [this]
      simpa using ih q r (by simpa using hq) hr
theorem flat_len {α : Type} {f : α → List Value} {sz : Nat} (hf : ∀ x, (f x).length = sz) (xs : List α) : (xs.flatMap f).length = xs.length * sz := by
  induction xs with
  | nil => simp
  | cons x xs ih => rw [List.flatMap_cons, List.length_append, hf, ih, List.length_cons, Nat.add_mul]; omega
theorem Row.rd {w : World} {e sz : Nat} {A : Option Addr} {n cap : Nat} {cs : List Value} (h : Row w e sz A n cap cs) : Rd w sz A n cs := by
  refine ⟨h.1, fun h0 => ?_⟩
  have hn : 0 < n := by
    rcases Nat.eq_zero_or_pos n with h1 | h1
    · rw [h1] at h0; simp at h0
    · exact h1
  obtain ⟨g, o, hA⟩ := h.some_of_pos (by have := h.2.1; omega)
  subst hA
  exact ⟨g, o, rfl, h.lt, fun j hj => h.cell j hj⟩
theorem i64_bounds {n : Int} (h : (Lit.int .i64 n).wf = true) : -9223372036854775808 ≤ n ∧ n ≤ 9223372036854775807 := by
  simpa [Lit.wf, IntKind.min, IntKind.max, IntKind.signed, IntKind.bits] using h
end Go.Proofs.YtckdofjpoajblaaGreat
namespace Go.Proofs.YtckdofjpoajblaaGreat
open Go.RowKit
set_option linter.unusedVariables false
def encE (e : Ev) : List Value := [.int .i64 e.t, .int .i64 e.k, .int .i64 e.o, .bool e.f]
def valE (e : Ev) : Value := .agg #[.int .i64 e.t, .int .i64 e.k, .int .i64 e.o, .bool e.f]
def cls (e : Ev) : Int := if e.k = 2 ∨ e.k = 3 then 1 else if e.k = 4 ∨ e.k = 5 then 2 else 0
theorem cls_cases (e : Ev) : (cls e = 1 ∧ (e.k = 2 ∨ e.k = 3)) ∨ (cls e = 2 ∧ (e.k = 4 ∨ e.k = 5)) ∨ (cls e = 0 ∧ e.k ≠ 2 ∧ e.k ≠ 3 ∧ e.k ≠ 4 ∧ e.k ≠ 5) := by
  unfold cls
  by_cases h : e.k = 2 ∨ e.k = 3
  · rw [if_pos h]; exact .inl ⟨rfl, h⟩
  · by_cases h' : e.k = 4 ∨ e.k = 5
    · rw [if_neg h, if_pos h']; exact .inr (.inl ⟨rfl, h'⟩)
    · rw [if_neg h, if_neg h']; exact .inr (.inr ⟨rfl, by omega, by omega, by omega, by omega⟩)
theorem class_any (w : World) (e : Ev) : Calls Tryz.prog 186 #[valE e] w fun x w' => x = .returned (.int .i64 (cls e)) ∧ Below w.heap.size w w' := by
  obtain ⟨t, k, o, f⟩ := e
  have hb : ∀ O, Below w.heap.size w (w.alloc O) := fun O => (Below.refl _ _).alloc (Nat.le_refl _) _
  unfold valE cls
  simp only
  by_cases h2 : k = 2
  · subst h2
    go_enter Tryz.func186, Tryz.ntmps186
    go_wp2
    go_ret
    exact ⟨rfl, hb _⟩
  · by_cases h3 : k = 3
    · subst h3
      go_enter Tryz.func186, Tryz.ntmps186
      go_wp2
      go_ret
      exact ⟨rfl, hb _⟩
    · by_cases h4 : k = 4
      · subst h4
        go_enter Tryz.func186, Tryz.ntmps186
        go_wp2
        go_ret
        exact ⟨rfl, hb _⟩
      · by_cases h5 : k = 5
        · subst h5
          go_enter Tryz.func186, Tryz.ntmps186
          go_wp2
          go_ret
          exact ⟨rfl, hb _⟩
        · have e2 : (k == 2) = false := by simpa using h2
          have e3 : (k == 3) = false := by simpa using h3
          have e4 : (k == 4) = false := by simpa using h4
          have e5 : (k == 5) = false := by simpa using h5
          have hc : (if k = 2 ∨ k = 3 then (1 : Int) else if k = 4 ∨ k = 5 then 2 else 0) = 0 := by rw [if_neg (by omega), if_neg (by omega)]
          rw [hc]
          clear h2 h3 h4 h5 hc
          go_enter Tryz.func186, Tryz.ntmps186
          go_wp2
          go_ret
          exact ⟨rfl, hb _⟩
set_option maxHeartbeats 1000000 in
theorem right_any (w : World) (e : Ev) : Calls Tryz.prog 139 #[valE e] w fun x w' => x = .returned (.bool (Fo.right e)) ∧ Below w.heap.size w w' := by
  have hc := cls_cases e
  obtain ⟨w0, hw0⟩ : ∃ w0, w0 = w.alloc (Obj.cells #[.int .i64 e.t, .int .i64 e.k, .int .i64 e.o, .bool e.f] 51) := ⟨_, rfl⟩
  obtain ⟨X, hX⟩ : ∃ X, X = w.heap.size := ⟨_, rfl⟩
  have hk : w0.heap[X]? = some (.cells #[.int .i64 e.t, .int .i64 e.k, .int .i64 e.o, .bool e.f] 51 (0, 0)) := by rw [hw0, hX]; exact heap_alloc_new w _
  have hb0 : Below w.heap.size w w0 := by rw [hw0]; exact (Below.refl _ _).alloc (Nat.le_refl _) _
  have hcl := class_any w0 e
  unfold valE at hcl ⊢
  generalize cls e = c at *
  have c0 : w0.cell? ⟨X, 0, none⟩ = some (.int .i64 e.t) := by rw [cell_blk hk]; rfl
  have c1 : w0.cell? ⟨X, 1, none⟩ = some (.int .i64 e.k) := by rw [cell_blk hk]; rfl
  have c2 : w0.cell? ⟨X, 2, none⟩ = some (.int .i64 e.o) := by rw [cell_blk hk]; rfl
  have c3 : w0.cell? ⟨X, 3, none⟩ = some (.bool e.f) := by rw [cell_blk hk]; rfl
  have HCL := Lib.hid hcl
  have HK := Lib.hid hk
  have HB0 := Lib.hid hb0
  clear hcl hk hb0
  go_enter Tryz.func139, Tryz.ntmps139
  go_upto_region 2 with fail
  rw [← hw0, ← hX]
  have HX := Lib.hid hX
  clear hw0 hX
  go_wp2_with fail
  refine HCL.out.mono ?_
  rintro x w1 ⟨rfl, b1⟩
  have hk1 := (b1.block X (blk_lt HK.out)).trans HK.out
  have d0 : w1.cell? ⟨X, 0, none⟩ = some (.int .i64 e.t) := by rw [cell_blk hk1]; rfl
  have d1 : w1.cell? ⟨X, 1, none⟩ = some (.int .i64 e.k) := by rw [cell_blk hk1]; rfl
  have d2 : w1.cell? ⟨X, 2, none⟩ = some (.int .i64 e.o) := by rw [cell_blk hk1]; rfl
  have d3 : w1.cell? ⟨X, 3, none⟩ = some (.bool e.f) := by rw [cell_blk hk1]; rfl
  have hfin : Below w.heap.size w w1 := HB0.out.trans ⟨b1.os, b1.tape, b1.output, b1.size, fun i hi => b1.block i (by have := HB0.out.size; omega)⟩
  have HFIN := Lib.hid hfin
  clear b1 hk1 hfin c0 c1 c2 c3
  have HC := Lib.hid hc
  clear hc
  have fin : ∀ b : Bool, b = Fo.right e → Ending.returned (.bool b) = Ending.returned (.bool (Fo.right e)) ∧ Below w.heap.size w w1 := fun b hb => ⟨by rw [hb], HFIN.out⟩
  have FIN := Lib.hid fin
  clear fin
  rcases HC.out with ⟨rfl, hk⟩ | ⟨rfl, hk⟩ | ⟨rfl, hk⟩
  all_goals (have HKK := Lib.hid hk; clear hk)
  all_goals (go_wp2_with fail)
  all_goals (go_ret)
  all_goals (refine FIN.out _ ?_; have hkk := HKK.out; clear FIN HKK HFIN HC HB0 HK HCL HX d0 d1 d2 d3; unfold Fo.right; rw [Bool.eq_iff_iff, decide_eq_true_iff]; cases hf : e.f <;> simp [hf] at * <;> omega)
end Go.Proofs.YtckdofjpoajblaaGreat
namespace Go.Proofs.YtckdofjpoajblaaGreat
open Go.RowKit
set_option linter.unusedVariables false
theorem box2 (w : World) (a b : Ev) : ∃ W X Y, W = (w.alloc (Obj.cells #[.int .i64 a.t, .int .i64 a.k, .int .i64 a.o, .bool a.f] 51)).alloc (Obj.cells #[.int .i64 b.t, .int .i64 b.k, .int .i64 b.o, .bool b.f] 51) ∧ X = w.heap.size ∧ Y = w.heap.size + 1 ∧ Below w.heap.size w W ∧
    (∀ u, Below W.heap.size W u → (u.cell? ⟨X, 0, none⟩ = some (.int .i64 a.t) ∧ u.cell? ⟨X, 1, none⟩ = some (.int .i64 a.k) ∧ u.cell? ⟨X, 2, none⟩ = some (.int .i64 a.o) ∧ u.cell? ⟨X, 3, none⟩ = some (.bool a.f)) ∧
      (u.cell? ⟨Y, 0, none⟩ = some (.int .i64 b.t) ∧ u.cell? ⟨Y, 1, none⟩ = some (.int .i64 b.k) ∧ u.cell? ⟨Y, 2, none⟩ = some (.int .i64 b.o) ∧ u.cell? ⟨Y, 3, none⟩ = some (.bool b.f)) ∧ Below w.heap.size w u) := by
  refine ⟨_, _, _, rfl, rfl, rfl, ?_, fun u hu => ?_⟩
  · exact ((Below.refl _ _).alloc (Nat.le_refl _) _).alloc (by simp) _
  · have h1 : ((w.alloc (Obj.cells #[.int .i64 a.t, .int .i64 a.k, .int .i64 a.o, .bool a.f] 51)).alloc (Obj.cells #[.int .i64 b.t, .int .i64 b.k, .int .i64 b.o, .bool b.f] 51)).heap[w.heap.size]? = some (.cells #[.int .i64 a.t, .int .i64 a.k, .int .i64 a.o, .bool a.f] 51 (0, 0)) := by
      rw [heap_alloc_old _ _ (by simp), heap_alloc_new]
    have h2 : ((w.alloc (Obj.cells #[.int .i64 a.t, .int .i64 a.k, .int .i64 a.o, .bool a.f] 51)).alloc (Obj.cells #[.int .i64 b.t, .int .i64 b.k, .int .i64 b.o, .bool b.f] 51)).heap[w.heap.size + 1]? = some (.cells #[.int .i64 b.t, .int .i64 b.k, .int .i64 b.o, .bool b.f] 51 (0, 0)) := by
      have := heap_alloc_new (w.alloc (Obj.cells #[.int .i64 a.t, .int .i64 a.k, .int .i64 a.o, .bool a.f] 51)) (Obj.cells #[.int .i64 b.t, .int .i64 b.k, .int .i64 b.o, .bool b.f] 51)
      simpa using this
    have g1 := (hu.block _ (blk_lt h1)).trans h1
    have g2 := (hu.block _ (blk_lt h2)).trans h2
    refine ⟨⟨by rw [cell_blk g1]; rfl, by rw [cell_blk g1]; rfl, by rw [cell_blk g1]; rfl, by rw [cell_blk g1]; rfl⟩, ⟨by rw [cell_blk g2]; rfl, by rw [cell_blk g2]; rfl, by rw [cell_blk g2]; rfl, by rw [cell_blk g2]; rfl⟩, ?_⟩
    have hb : Below w.heap.size w ((w.alloc (Obj.cells #[.int .i64 a.t, .int .i64 a.k, .int .i64 a.o, .bool a.f] 51)).alloc (Obj.cells #[.int .i64 b.t, .int .i64 b.k, .int .i64 b.o, .bool b.f] 51)) := ((Below.refl _ _).alloc (Nat.le_refl _) _).alloc (by simp) _
    exact hb.trans ⟨hu.os, hu.tape, hu.output, hu.size, fun i hi => hu.block i (by have := hb.size; omega)⟩
theorem below2 {a b c : World} (h : Below a.heap.size a b) (k : Below b.heap.size b c) : Below a.heap.size a c := h.trans ⟨k.os, k.tape, k.output, k.size, fun i hi => k.block i (by have := h.size; omega)⟩
set_option maxHeartbeats 1000000 in
theorem depends_any (w : World) (a b : Ev) : Calls Tryz.prog 148 #[valE a, valE b] w fun x w' => x = .returned (.bool (Fo.dep a b)) ∧ Below w.heap.size w w' := by
  have ha := cls_cases a
  have hb := cls_cases b
  have HCA : Hid (∀ u, Calls Tryz.prog 186 #[valE a] u fun x w' => x = .returned (.int .i64 (cls a)) ∧ Below u.heap.size u w') := Lib.hid (fun u => class_any u a)
  have HCB : Hid (∀ u, Calls Tryz.prog 186 #[valE b] u fun x w' => x = .returned (.int .i64 (cls b)) ∧ Below u.heap.size u w') := Lib.hid (fun u => class_any u b)
  generalize cls a = ca at *
  generalize cls b = cb at *
  obtain ⟨W, X, Y, hW, hX, hY, hB, hcell⟩ := box2 w a b
  have hu := hcell W (Below.refl _ _)
  obtain ⟨⟨c0, c1, c2, c3⟩, ⟨d0, d1, d2, d3⟩, hw⟩ := hu
  unfold valE at HCA HCB ⊢
  go_enter Tryz.func148, Tryz.ntmps148
  go_upto_region 1 with fail
  rw [← hW, ← hY, ← hX]
  have HX := Lib.hid hX
  have HY := Lib.hid hY
  have HCELL := Lib.hid hcell
  have HA := Lib.hid ha
  have HB := Lib.hid hb
  clear hW hX hY hB hcell hw ha hb
  go_wp2_with fail
  refine (HCA.out _).mono ?_
  rintro x w1 ⟨rfl, b1⟩
  obtain ⟨⟨c0', c1', c2', c3'⟩, ⟨d0', d1', d2', d3'⟩, hw1⟩ := HCELL.out _ b1
  have HB1 := Lib.hid b1
  have HW1 := Lib.hid hw1
  clear c0 c1 c2 c3 d0 d1 d2 d3 b1 hw1
  have hcb := HCB.out w1
  have HCBW := Lib.hid hcb
  clear hcb
  have step : ∀ v, Below w1.heap.size w1 v → (v.cell? ⟨X, 1, none⟩ = some (.int .i64 a.k) ∧ v.cell? ⟨X, 2, none⟩ = some (.int .i64 a.o)) ∧ (v.cell? ⟨Y, 1, none⟩ = some (.int .i64 b.k) ∧ v.cell? ⟨Y, 2, none⟩ = some (.int .i64 b.o)) ∧ Below w.heap.size w v := fun v hv => by
    obtain ⟨⟨_, q1, q2, _⟩, ⟨_, r1, r2, _⟩, h⟩ := HCELL.out v (below2 HB1.out hv)
    exact ⟨⟨q1, q2⟩, ⟨r1, r2⟩, h⟩
  have STEP := Lib.hid step
  clear step
  have fin : ∀ (b' : Bool) v, b' = Fo.dep a b → Below w.heap.size w v → Ending.returned (.bool b') = Ending.returned (.bool (Fo.dep a b)) ∧ Below w.heap.size w v := fun b' v hb hv => ⟨by rw [hb], hv⟩
  have FIN := Lib.hid fin
  clear fin
  by_cases ht : a.t = b.t
  · have e1 : (a.t == b.t) = true := by simpa using ht
    have HT := Lib.hid ht
    clear ht
    go_wp2_with fail
    go_ret
    exact FIN.out _ _ (Fo.dep_thread HT.out).symm HW1.out
  · have e1 : (a.t == b.t) = false := by simpa using ht
    have HT := Lib.hid ht
    clear ht
    rcases HA.out with ⟨rfl, ha⟩ | ⟨rfl, ha⟩ | ⟨rfl, ha⟩
    rotate_left 2
    · have HA' := Lib.hid ha
      clear ha
      go_wp2_with fail
      go_ret
      refine FIN.out _ _ ?_ HW1.out
      have := HA'.out
      unfold Fo.dep Fo.memK Fo.mutK
      rw [decide_eq_false HT.out]
      simp [this.1, this.2.1, this.2.2.1, this.2.2.2]
    all_goals (have HA' := Lib.hid ha; clear ha)
    all_goals (go_wp2_with fail)
    all_goals (refine HCBW.out.mono ?_; rintro x w2 ⟨rfl, b2⟩; obtain ⟨⟨q1, q2⟩, ⟨r1, r2⟩, hw2⟩ := STEP.out w2 b2; have HW2 := Lib.hid hw2; clear b2 hw2 c1' c2' d1' d2')
    all_goals (rcases HB.out with ⟨rfl, hb⟩ | ⟨rfl, hb⟩ | ⟨rfl, hb⟩)
    all_goals (have HB' := Lib.hid hb; clear hb)
    all_goals (go_wp2_with fail)
    all_goals (go_ret)
    all_goals (refine FIN.out _ _ ?_ HW2.out; have ha := HA'.out; have hb := HB'.out; have ht := HT.out; clear FIN HA' HB' HT HA HB HCA HCB HCBW HCELL HB1 HW1 HW2 STEP HX HY q1 q2 r1 r2; unfold Fo.dep Fo.memK Fo.mutK; rw [decide_eq_false ht, Bool.eq_iff_iff]; simp at * <;> omega)
set_option maxHeartbeats 1000000 in
theorem refDepends_any (w : World) (a b : Ev) : Calls Tryz.prog 202 #[valE a, valE b] w fun x w' => x = .returned (.bool (Fo.dep a b)) ∧ Below w.heap.size w w' := by
  obtain ⟨W, X, Y, hW, hX, hY, hB, hcell⟩ := box2 w a b
  have hu := hcell W (Below.refl _ _)
  obtain ⟨⟨c0, c1, c2, c3⟩, ⟨d0, d1, d2, d3⟩, hw⟩ := hu
  unfold valE
  have fin : ∀ (b' : Bool), b' = Fo.dep a b → Ending.returned (.bool b') = Ending.returned (.bool (Fo.dep a b)) ∧ Below w.heap.size w W := fun b' hb => ⟨by rw [hb], hw⟩
  have FIN := Lib.hid fin
  clear fin hw
  go_enter Tryz.func202, Tryz.ntmps202
  go_upto_region 1 with fail
  rw [← hW, ← hY, ← hX]
  clear hW hX hY hB hcell
  by_cases ht : a.t = b.t
  · have e1 : (a.t == b.t) = true := by simpa using ht
    have HT := Lib.hid ht
    clear ht
    go_wp2_with fail
    go_ret
    exact FIN.out _ (Fo.dep_thread HT.out).symm
  · have e1 : (a.t == b.t) = false := by simpa using ht
    have HT := Lib.hid ht
    clear ht
    by_cases ho : a.o = b.o
    · have e2 : (a.o == b.o) = true := by simpa using ho
      have HO := Lib.hid ho
      clear ho
      go_wp2_with fail
      all_goals (go_ret)
      all_goals (refine FIN.out _ ?_; have ho := HO.out; have ht := HT.out; clear FIN HO HT c0 c1 c2 c3 d0 d1 d2 d3; unfold Fo.dep Fo.memK Fo.mutK; rw [decide_eq_false ht, decide_eq_true ho, Bool.eq_iff_iff]; simp at * <;> omega)
    · have e2 : (a.o == b.o) = false := by simpa using ho
      have HO := Lib.hid ho
      clear ho
      go_wp2_with fail
      go_ret
      refine FIN.out _ ?_
      unfold Fo.dep
      rw [decide_eq_false HT.out, decide_eq_false HO.out]
      rfl
end Go.Proofs.YtckdofjpoajblaaGreat
namespace Go.Proofs.YtckdofjpoajblaaGreat
open Go.RowKit
set_option linter.unusedVariables false
theorem encE_len (e : Ev) : (encE e).length = 4 := rfl
def EvAt (u : World) (g o : Nat) (e : Ev) : Prop := u.cell? ⟨g, o, none⟩ = some (.int .i64 e.t) ∧ u.cell? ⟨g, o + 1, none⟩ = some (.int .i64 e.k) ∧ u.cell? ⟨g, o + 2, none⟩ = some (.int .i64 e.o) ∧ u.cell? ⟨g, o + 3, none⟩ = some (.bool e.f)
theorem evs_cell {w : World} {B : Nat} {A : Option Addr} {l : List Ev} (h : RdB w B 4 A l.length (l.flatMap encE)) : ∀ k, (hk : k < l.length) → ∃ g o, A = some ⟨g, o, none⟩ ∧ g < B ∧ ∀ u, Below B w u → EvAt u g (o + k * 4) l[k] := fun k hk => by
  obtain ⟨g, o, hA, hg, hc⟩ := h.2 (by omega)
  refine ⟨g, o, hA, hg, fun u hu => ?_⟩
  have hcl : ∀ r, r < 4 → u.cell? ⟨g, o + k * 4 + r, none⟩ = (encE l[k])[r]? := fun r hr => by
    rw [Nat.add_assoc, World.cell?_of_block (hu.block g hg), hc (k * 4 + r) (by omega), flat_get (f := encE) (sz := 4) encE_len l k r hk hr]
  have v0 := hcl 0 (by omega)
  have v1 := hcl 1 (by omega)
  have v2 := hcl 2 (by omega)
  have v3 := hcl 3 (by omega)
  simp only [encE, List.getElem?_cons_succ, List.getElem?_cons_zero, Nat.add_zero] at v0 v1 v2 v3
  exact ⟨v0, v1, v2, v3⟩
set_option maxHeartbeats 1000000 in
theorem refRight_any (w : World) (e : Ev) : Calls Tryz.prog 199 #[valE e] w fun x w' => x = .returned (.bool (Fo.right e)) ∧ Below w.heap.size w w' := by
  have hb : ∀ O, Below w.heap.size w (w.alloc O) := fun O => (Below.refl _ _).alloc (Nat.le_refl _) _
  obtain ⟨w0, hw0⟩ : ∃ w0, w0 = w.alloc (Obj.cells #[.int .i64 e.t, .int .i64 e.k, .int .i64 e.o, .bool e.f] 51) := ⟨_, rfl⟩
  obtain ⟨X, hX⟩ : ∃ X, X = w.heap.size := ⟨_, rfl⟩
  have hk : w0.heap[X]? = some (.cells #[.int .i64 e.t, .int .i64 e.k, .int .i64 e.o, .bool e.f] 51 (0, 0)) := by rw [hw0, hX]; exact heap_alloc_new w _
  have hb0 : Below w.heap.size w w0 := by rw [hw0]; exact hb _
  have c0 : w0.cell? ⟨X, 0, none⟩ = some (.int .i64 e.t) := by rw [cell_blk hk]; rfl
  have c1 : w0.cell? ⟨X, 1, none⟩ = some (.int .i64 e.k) := by rw [cell_blk hk]; rfl
  have c2 : w0.cell? ⟨X, 2, none⟩ = some (.int .i64 e.o) := by rw [cell_blk hk]; rfl
  have c3 : w0.cell? ⟨X, 3, none⟩ = some (.bool e.f) := by rw [cell_blk hk]; rfl
  unfold valE
  have fin : ∀ b : Bool, b = Fo.right e → Ending.returned (.bool b) = Ending.returned (.bool (Fo.right e)) ∧ Below w.heap.size w w0 := fun b hb => ⟨by rw [hb], hb0⟩
  have FIN := Lib.hid fin
  clear fin hb0 hk hb
  go_enter Tryz.func199, Tryz.ntmps199
  go_upto_region 1 with fail
  rw [← hw0, ← hX]
  clear hw0 hX
  by_cases h1 : e.k = 1
  · have e1 : (e.k == 1) = true := by simpa using h1
    have H1 := Lib.hid h1
    clear h1
    go_wp2_with fail
    all_goals (go_ret)
    all_goals (refine FIN.out _ ?_; have h1 := H1.out; clear FIN H1 c0 c1 c2 c3; unfold Fo.right; rw [Bool.eq_iff_iff, decide_eq_true_iff]; cases hf : e.f <;> simp [hf] at * <;> omega)
  · have e1 : (e.k == 1) = false := by simpa using h1
    have H1 := Lib.hid h1
    clear h1
    go_wp2_with fail
    all_goals (go_ret)
    all_goals (refine FIN.out _ ?_; have h1 := H1.out; clear FIN H1 c0 c1 c2 c3; unfold Fo.right; rw [Bool.eq_iff_iff, decide_eq_true_iff]; cases hf : e.f <;> simp [hf] at * <;> omega)
theorem rights_take {l : List Ev} {k : Nat} (hk : k < l.length) : Fo.rights (l.take (k + 1)) = (Fo.rights (l.take k) && Fo.right l[k]) := by
  unfold Fo.rights
  rw [List.take_add_one, List.getElem?_eq_getElem hk, List.all_append]
  simp
theorem rights_false {l : List Ev} {k : Nat} (hk : k < l.length) (h : Fo.right l[k] = false) : Fo.rights l = false := by
  unfold Fo.rights
  rw [List.all_eq_false]
  exact ⟨l[k], List.getElem_mem hk, by simp [h]⟩
theorem rows_any (w : World) (A : Option Addr) (cap : Nat) (l : List Ev) (hr : Rd w 4 A l.length (l.flatMap encE)) (hl : l.length < 4611686018427387904) :
    Calls Tryz.prog 155 #[.slice A l.length cap] w fun x w' => x = .returned (.bool (Fo.rights l)) ∧ Below w.heap.size w w' := by
  have HC := Lib.hid (evs_cell hr.toB)
  clear hr
  go_enter Tryz.func155, Tryz.ntmps155
  go_wp2_with fail
  go_loopw [3] (fun v wr => ∃ k : Nat, k ≤ l.length ∧ v = .int .i64 k ∧ Hid (Fo.rights (l.take k) = true) ∧ Below w.heap.size w wr) (fun v _ => l.length - (intOf v).toNat)
  case atStart => exact ⟨0, Nat.zero_le _, rfl, Lib.hid rfl, Below.refl _ _⟩
  case round =>
    obtain ⟨k, hk, rfl, HRT, hb⟩ := hrel
    by_cases hlt : k < l.length
    · obtain ⟨g, o, rfl, hg, hcl⟩ := HC.out k hlt
      obtain ⟨v0, v1, v2, v3⟩ := hcl wr hb
      have k1 : (0 : Int) ≤ (k : Int) := Int.natCast_nonneg _
      have k2 : (k : Int) < (l.length : Int) := by omega
      have hcall := refRight_any wr l[k]
      have htk := rights_take hlt
      have hrf := rights_false hlt
      obtain ⟨b, hbb⟩ : ∃ b, b = Fo.right l[k] := ⟨_, rfl⟩
      rw [← hbb] at hcall htk hrf
      unfold valE at hcall
      have HCALL := Lib.hid hcall
      have HTK := Lib.hid htk
      have HRF := Lib.hid hrf
      have HB := Lib.hid hb
      clear hcall htk hrf hcl hbb hb
      go_wp2_with fail
      refine HCALL.out.mono ?_
      rintro x w1 ⟨rfl, b1⟩
      have hb2 : Below w.heap.size w w1 := HB.out.trans ⟨b1.os, b1.tape, b1.output, b1.size, fun i hi => b1.block i (by have := HB.out.size; omega)⟩
      have HB2 := Lib.hid hb2
      clear b1 hb2
      cases b with
      | true =>
        go_wp2_with fail
        go_roundw
        case rel => exact ⟨k + 1, by omega, by go_num, Lib.hid (by rw [HTK.out, HRT.out]; rfl), HB2.out⟩
        case measure => simp [intOf]; omega
      | false =>
        go_wp2_with fail
        go_ret
        exact ⟨by rw [HRF.out (by trivial)]; rfl, HB2.out⟩
    · have hkn : k = l.length := by omega
      have HK := Lib.hid hkn
      have HB := Lib.hid hb
      clear hkn hb
      go_wp2_with fail
      go_ret
      have := HRT.out
      rw [HK.out, List.take_length] at this
      exact ⟨by rw [this]; rfl, HB.out⟩
theorem any_take {l : List Ev} {p : Ev → Bool} {k : Nat} (hk : k < l.length) : (l.take (k + 1)).any p = ((l.take k).any p || p l[k]) := by
  rw [List.take_add_one, List.getElem?_eq_getElem hk, List.any_append]
  simp
theorem indexFunc_right1 (w : World) (A : Option Addr) (cap : Nat) (l : List Ev) (hr : Rd w 4 A l.length (l.flatMap encE)) (hl : l.length < 4611686018427387904) (p : Ev → Bool)
    (hf : ∀ u e, Below w.heap.size w u → Calls Tryz.prog 138 #[valE e] u fun x w' => x = .returned (.bool (p e)) ∧ Below u.heap.size u w') :
    Calls Tryz.prog 185 #[.slice A l.length cap, .func (.func 138) #[] #[]] w fun x w' => ∃ n : Int, x = .returned (.int .i64 n) ∧ ((0 ≤ n) ↔ l.any p = true) ∧ Below w.heap.size w w' := by
  have HC := Lib.hid (evs_cell hr.toB)
  have HF := Lib.hid hf
  clear hr hf
  go_enter Tryz.func185, Tryz.ntmps185
  go_wp2_with fail
  go_loopw [8] (fun v wr => ∃ k : Nat, k ≤ l.length ∧ v = .int .i64 k ∧ Hid ((l.take k).any p = false) ∧ Below w.heap.size w wr) (fun v _ => l.length - (intOf v).toNat)
  case atStart => exact ⟨0, Nat.zero_le _, rfl, Lib.hid rfl, Below.refl _ _⟩
  case round =>
    obtain ⟨k, hk, rfl, HRT, hb⟩ := hrel
    by_cases hlt : k < l.length
    · obtain ⟨g, o, rfl, hg, hcl⟩ := HC.out k hlt
      obtain ⟨v0, v1, v2, v3⟩ := hcl wr hb
      have k1 : (0 : Int) ≤ (k : Int) := Int.natCast_nonneg _
      have k2 : (k : Int) < (l.length : Int) := by omega
      have hcall := HF.out wr l[k] hb
      have htk := any_take (p := p) hlt
      obtain ⟨b, hbb⟩ : ∃ b, b = p l[k] := ⟨_, rfl⟩
      have hin : b = true → l.any p = true := fun h => List.any_eq_true.2 ⟨l[k], List.getElem_mem hlt, by rw [← hbb, h]⟩
      rw [← hbb] at hcall htk
      unfold valE at hcall
      have HCALL := Lib.hid hcall
      have HTK := Lib.hid htk
      have HIN := Lib.hid hin
      have HB := Lib.hid hb
      clear hcall htk hin hcl hbb hb
      go_wp2_with fail
      refine HCALL.out.mono ?_
      rintro x w1 ⟨rfl, b1⟩
      have hb2 : Below w.heap.size w w1 := HB.out.trans ⟨b1.os, b1.tape, b1.output, b1.size, fun i hi => b1.block i (by have := HB.out.size; omega)⟩
      have HB2 := Lib.hid hb2
      clear b1 hb2
      cases b with
      | true =>
        go_wp2_with fail
        go_ret
        exact ⟨k, rfl, ⟨fun _ => HIN.out (by trivial), fun _ => k1⟩, HB2.out⟩
      | false =>
        go_wp2_with fail
        go_roundw
        case rel => exact ⟨k + 1, by omega, by go_num, Lib.hid (by rw [HTK.out, HRT.out]; rfl), HB2.out⟩
        case measure => simp [intOf]; omega
    · have hkn : k = l.length := by omega
      have HK := Lib.hid hkn
      have HB := Lib.hid hb
      clear hkn hb
      go_wp2_with fail
      go_ret
      have := HRT.out
      rw [HK.out, List.take_length] at this
      exact ⟨-1, rfl, ⟨fun h => by omega, fun h => by rw [this] at h; cases h⟩, HB.out⟩
theorem containsFunc_right1 (w : World) (A : Option Addr) (cap : Nat) (l : List Ev) (hr : Rd w 4 A l.length (l.flatMap encE)) (hl : l.length < 4611686018427387904) (p : Ev → Bool)
    (hf : ∀ u e, Below w.heap.size w u → Calls Tryz.prog 138 #[valE e] u fun x w' => x = .returned (.bool (p e)) ∧ Below u.heap.size u w') :
    Calls Tryz.prog 137 #[.slice A l.length cap, .func (.func 138) #[] #[]] w fun x w' => x = .returned (.bool (l.any p)) ∧ Below w.heap.size w w' := by
  have H := Lib.hid (indexFunc_right1 w A cap l hr hl p hf)
  clear hr hf
  go_enter Tryz.func137, Tryz.ntmps137
  go_wp2_with fail
  refine H.out.mono ?_
  rintro x w1 ⟨n, rfl, hn, b1⟩
  have HN := Lib.hid hn
  have HB := Lib.hid b1
  clear hn b1
  go_wp2_with fail
  go_ret
  refine ⟨?_, HB.out⟩
  have : decide (0 ≤ n) = l.any p := by
    rw [Bool.eq_iff_iff, decide_eq_true_iff]; exact HN.out
  rw [← this]
  rfl
theorem indexFunc_lev1 (w : World) (X : Nat) (A : Option Addr) (cap : Nat) (l : List Ev) (hr : Rd w 4 A l.length (l.flatMap encE)) (hl : l.length < 4611686018427387904) (p : Ev → Bool)
    (hf : ∀ u e, Below w.heap.size w u → Calls Tryz.prog 147 #[valE e, .pointer (some ⟨X, 0, none⟩)] u fun x w' => x = .returned (.bool (p e)) ∧ Below u.heap.size u w') :
    Calls Tryz.prog 185 #[.slice A l.length cap, .func (.func 147) #[] #[.pointer (some ⟨X, 0, none⟩)]] w fun x w' => ∃ n : Int, x = .returned (.int .i64 n) ∧ ((0 ≤ n) ↔ l.any p = true) ∧ Below w.heap.size w w' := by
  have HC := Lib.hid (evs_cell hr.toB)
  have HF := Lib.hid hf
  clear hr hf
  go_enter Tryz.func185, Tryz.ntmps185
  go_wp2_with fail
  go_loopw [8] (fun v wr => ∃ k : Nat, k ≤ l.length ∧ v = .int .i64 k ∧ Hid ((l.take k).any p = false) ∧ Below w.heap.size w wr) (fun v _ => l.length - (intOf v).toNat)
  case atStart => exact ⟨0, Nat.zero_le _, rfl, Lib.hid rfl, Below.refl _ _⟩
  case round =>
    obtain ⟨k, hk, rfl, HRT, hb⟩ := hrel
    by_cases hlt : k < l.length
    · obtain ⟨g, o, rfl, hg, hcl⟩ := HC.out k hlt
      obtain ⟨v0, v1, v2, v3⟩ := hcl wr hb
      have k1 : (0 : Int) ≤ (k : Int) := Int.natCast_nonneg _
      have k2 : (k : Int) < (l.length : Int) := by omega
      have hcall := HF.out wr l[k] hb
      have htk := any_take (p := p) hlt
      obtain ⟨b, hbb⟩ : ∃ b, b = p l[k] := ⟨_, rfl⟩
      have hin : b = true → l.any p = true := fun h => List.any_eq_true.2 ⟨l[k], List.getElem_mem hlt, by rw [← hbb, h]⟩
      rw [← hbb] at hcall htk
      unfold valE at hcall
      have HCALL := Lib.hid hcall
      have HTK := Lib.hid htk
      have HIN := Lib.hid hin
      have HB := Lib.hid hb
      clear hcall htk hin hcl hbb hb
      go_wp2_with fail
      refine HCALL.out.mono ?_
      rintro x w1 ⟨rfl, b1⟩
      have hb2 : Below w.heap.size w w1 := HB.out.trans ⟨b1.os, b1.tape, b1.output, b1.size, fun i hi => b1.block i (by have := HB.out.size; omega)⟩
      have HB2 := Lib.hid hb2
      clear b1 hb2
      cases b with
      | true =>
        go_wp2_with fail
        go_ret
        exact ⟨k, rfl, ⟨fun _ => HIN.out (by trivial), fun _ => k1⟩, HB2.out⟩
      | false =>
        go_wp2_with fail
        go_roundw
        case rel => exact ⟨k + 1, by omega, by go_num, Lib.hid (by rw [HTK.out, HRT.out]; rfl), HB2.out⟩
        case measure => simp [intOf]; omega
    · have hkn : k = l.length := by omega
      have HK := Lib.hid hkn
      have HB := Lib.hid hb
      clear hkn hb
      go_wp2_with fail
      go_ret
      have := HRT.out
      rw [HK.out, List.take_length] at this
      exact ⟨-1, rfl, ⟨fun h => by omega, fun h => by rw [this] at h; cases h⟩, HB.out⟩
theorem containsFunc_lev1 (w : World) (X : Nat) (A : Option Addr) (cap : Nat) (l : List Ev) (hr : Rd w 4 A l.length (l.flatMap encE)) (hl : l.length < 4611686018427387904) (p : Ev → Bool)
    (hf : ∀ u e, Below w.heap.size w u → Calls Tryz.prog 147 #[valE e, .pointer (some ⟨X, 0, none⟩)] u fun x w' => x = .returned (.bool (p e)) ∧ Below u.heap.size u w') :
    Calls Tryz.prog 137 #[.slice A l.length cap, .func (.func 147) #[] #[.pointer (some ⟨X, 0, none⟩)]] w fun x w' => x = .returned (.bool (l.any p)) ∧ Below w.heap.size w w' := by
  have H := Lib.hid (indexFunc_lev1 w X A cap l hr hl p hf)
  clear hr hf
  go_enter Tryz.func137, Tryz.ntmps137
  go_wp2_with fail
  refine H.out.mono ?_
  rintro x w1 ⟨n, rfl, hn, b1⟩
  have HN := Lib.hid hn
  have HB := Lib.hid b1
  clear hn b1
  go_wp2_with fail
  go_ret
  refine ⟨?_, HB.out⟩
  have : decide (0 ≤ n) = l.any p := by
    rw [Bool.eq_iff_iff, decide_eq_true_iff]; exact HN.out
  rw [← this]
  rfl
end Go.Proofs.YtckdofjpoajblaaGreat
namespace Go.Proofs.YtckdofjpoajblaaGreat
open Go.RowKit
set_option linter.unusedVariables false
set_option maxRecDepth 100000 in
theorem evEq (a b : Ev) (w : World) : (Op.equalIn 10000 51 (.agg #[.int .i64 a.t, .int .i64 a.k, .int .i64 a.o, .bool a.f]) (.agg #[.int .i64 b.t, .int .i64 b.k, .int .i64 b.o, .bool b.f])).run Tryz.prog w = .ok (decide (a = b)) w := by
  have u3 := Tryz.underlying3
  have u4 := Tryz.underlying4
  have a3 := Tryz.isAgg3
  have z3 := Tryz.sizeOf3
  have a4 := Tryz.isAgg4
  have z4 := Tryz.sizeOf4
  have hS : Tryz.prog.underlying 51 = some (.struct (Tryz.prog.fieldsOf 51)) := by kernel_rfl
  have hp : Tryz.prog.stoodInHeld 51 = false := by kernel_rfl
  rw [show (10000 : Nat) = 9999 + 1 from rfl, run_equalIn_agg w 9999 51 _ _ hS hp]
  simp only [Program.fieldsOf, Tryz.underlying51]
  go_simp
  obtain ⟨t, k, o, f⟩ := a
  obtain ⟨t', k', o', f'⟩ := b
  simp only [Ev.mk.injEq]
  by_cases h1 : t = t' <;> by_cases h2 : k = k' <;> by_cases h3 : o = o' <;> by_cases h4 : f = f' <;> simp [h1, h2, h3, h4]
theorem evGuard (op : BinOp) (x y : Operand) (a b : Array Value) (w : World) : (eqGuard op 51 x y (.agg a) (.agg b)).run Tryz.prog w = .ok () w := run_eqGuard_agg w op 51 x y _ _ (by kernel_rfl)
end Go.Proofs.YtckdofjpoajblaaGreat
namespace Go.Proofs.YtckdofjpoajblaaGreat
open Go.RowKit
set_option linter.unusedVariables false
def LvAt (w : World) (B : Nat) (A : Option Addr) (L : List (List Ev)) : Prop :=
  ∃ vs : List Value, RdB w B 1 A L.length vs ∧ ∀ i, (hi : i < L.length) → ∃ A' c', vs[i]? = some (.slice A' L[i].length c') ∧ RdB w B 4 A' L[i].length (L[i].flatMap encE) ∧ L[i].length ≤ c' ∧ c' ≤ maxLen
theorem LvAt.below {w w' : World} {B : Nat} {A : Option Addr} {L : List (List Ev)} (h : LvAt w B A L) (hb : Below B w w') : LvAt w' B A L := by
  obtain ⟨vs, h1, h2⟩ := h
  refine ⟨vs, h1.below hb, fun i hi => ?_⟩
  obtain ⟨A', c', h3, h4, h5⟩ := h2 i hi
  exact ⟨A', c', h3, h4.below hb, h5⟩
theorem RdB.mono {w : World} {B B' sz : Nat} {A : Option Addr} {n : Nat} {cs : List Value} (h : RdB w B sz A n cs) (hB : B ≤ B') : RdB w B' sz A n cs := by
  refine ⟨h.1, fun h0 => ?_⟩
  obtain ⟨g, o, hA, hg, hc⟩ := h.2 h0
  exact ⟨g, o, hA, Nat.lt_of_lt_of_le hg hB, hc⟩
theorem LvAt.mono {w : World} {B B' : Nat} {A : Option Addr} {L : List (List Ev)} (h : LvAt w B A L) (hB : B ≤ B') : LvAt w B' A L := by
  obtain ⟨vs, h1, h2⟩ := h
  refine ⟨vs, h1.mono hB, fun i hi => ?_⟩
  obtain ⟨A', c', h3, h4, h5⟩ := h2 i hi
  exact ⟨A', c', h3, h4.mono hB, h5⟩
theorem LvAt.cell {w : World} {B : Nat} {A : Option Addr} {L : List (List Ev)} (h : LvAt w B A L) : ∀ k, (hk : k < L.length) → ∃ g o A' c', A = some ⟨g, o, none⟩ ∧ g < B ∧ RdB w B 4 A' L[k].length (L[k].flatMap encE) ∧ ∀ u, Below B w u → u.cell? ⟨g, o + k, none⟩ = some (.slice A' L[k].length c') := fun k hk => by
  obtain ⟨vs, h1, h2⟩ := h
  obtain ⟨g, o, hA, hg, hc⟩ := h1.2 (by omega)
  obtain ⟨A', c', h3, h4, _⟩ := h2 k hk
  refine ⟨g, o, A', c', hA, hg, h4, fun u hu => ?_⟩
  rw [World.cell?_of_block (hu.block g hg), hc k (by omega), h3]
theorem get_some {α : Type} {q : List α} {k : Nat} (h : k < q.length) : ∃ e, q[k]? = some e := ⟨_, List.getElem?_eq_getElem h⟩
set_option maxRecDepth 100000 in
set_option maxHeartbeats 2000000 in
theorem same_any (w : World) (A : Option Addr) (cap : Nat) (a : List (List Ev)) (B : Option Addr) (cap' : Nat) (b : List (List Ev)) (ha : LvAt w w.heap.size A a) (hb : LvAt w w.heap.size B b) (hl : a.length < 4611686018427387904) (hq : ∀ q ∈ a, q.length < 4611686018427387904) :
    Calls Tryz.prog 228 #[.slice A a.length cap, .slice B b.length cap'] w fun x w' => x = .returned (.bool (decide (a = b))) ∧ Below w.heap.size w w' := by
  have HC := Lib.hid ha.cell
  have HD := Lib.hid hb.cell
  have HQ := Lib.hid hq
  clear ha hb hq
  by_cases hlen : a.length = b.length
  · have hlen' : b.length = a.length := hlen.symm
    rw [hlen']
    have HL := Lib.hid hlen
    clear hlen hlen'
    go_enter Tryz.func228, Tryz.ntmps228
    go_wp2_with fail
    go_loopw [5] (fun v wr => ∃ k : Nat, k ≤ a.length ∧ v = .int .i64 k ∧ Hid (a.take k = b.take k) ∧ Below w.heap.size w wr) (fun v _ => a.length - (intOf v).toNat)
    case atStart => exact ⟨0, Nat.zero_le _, rfl, Lib.hid rfl, Below.refl _ _⟩
    case round =>
      obtain ⟨k, hk, rfl, HRT, hbw⟩ := hrel
      by_cases hlt : k < a.length
      · obtain ⟨g, o, P, pc, rfl, hg, hP, hcl⟩ := HC.out k hlt
        obtain ⟨g', o', Q, qc, rfl, hg', hQ, hcl'⟩ := HD.out k (by have := HL.out; omega)
        have v0 := hcl wr hbw
        have u0 := hcl' wr hbw
        have k1 : (0 : Int) ≤ (k : Int) := Int.natCast_nonneg _
        have k2 : (k : Int) < (a.length : Int) := by omega
        have htk : a.take (k + 1) = a.take k ++ [a[k]] := by rw [List.take_add_one, List.getElem?_eq_getElem hlt]; rfl
        have htk' : b.take (k + 1) = b.take k ++ [b[k]'(by have := HL.out; omega)] := by rw [List.take_add_one, List.getElem?_eq_getElem (by have := HL.out; omega)]; rfl
        have hne : a[k] ≠ b[k]'(by have := HL.out; omega) → a ≠ b := fun h e => h (by subst e; rfl)
        have hxl : a[k].length < 4611686018427387904 := HQ.out _ (List.getElem_mem hlt)
        generalize a[k] = x at *
        generalize b[k]'(by have := HL.out; omega) = y at *
        have lg : g < wr.heap.size := by have := hbw.size; omega
        have lg' : g' < wr.heap.size := by have := hbw.size; omega
        have HTK := Lib.hid htk
        have HTK' := Lib.hid htk'
        have HNE := Lib.hid hne
        have HBW := Lib.hid hbw
        have HP := Lib.hid (evs_cell hP)
        have HQQ := Lib.hid (evs_cell hQ)
        have HV := Lib.hid hcl
        have HU := Lib.hid hcl'
        clear htk htk' hne hcl hcl' hbw hP hQ
        by_cases hxy : x.length = y.length
        · have HXL := Lib.hid hxy
          rw [← hxy] at u0
          have HU' := Lib.hid (fun u (h : Below w.heap.size w u) => by have := HU.out u h; rw [← HXL.out] at this; exact this)
          clear hxy
          have gd := evGuard
          go_wp2_with fail
          refine wp_region_plan (by kernel_rfl) (fun u => Mod (fun _ => False) wr u) [] [(0, .pure), (1, .pure), (2, .pure), (3, .load), (4, .pure), (5, .pure), (6, .pure), (7, .pure), (8, .load), (9, .pure), (10, .pure)] (by simp only [List.map_cons, List.map_nil, List.getElem?_toArray, List.getElem?_cons_succ, List.getElem?_cons_zero]; rfl) (by kernel_rfl) (fun _ _ d _ _ h => by cases d <;> exact h) ((Mod.refl _ _).drew) ?_
          repeat (first
            | (refine plan_pure (v := ?_) (by rfl) (fun w1 => ?_) ?_
               rotate_left
               · go_simp <;> with_reducible rfl
               simp only [Act.put, List.setIfInBounds_toArray, List.set_cons_zero, List.set_cons_succ])
            | (refine plan_off (by rfl) ?_
               simp only [Act.put, List.setIfInBounds_toArray, List.set_cons_zero, List.set_cons_succ])
            | (refine plan_load_off (by rfl) ?_
               simp only [Act.put, List.setIfInBounds_toArray, List.set_cons_zero, List.set_cons_succ])
            | (refine plan_load (v := ?_) (by rfl) (fun w1 hw1 => ?_) ?_
               rotate_left
               · (have q0 := (hw1.cell g (o + k) lg id).trans v0
                  have p0 := (hw1.cell g' (o' + k) lg' id).trans u0
                  clear hw1
                  go_simp <;> with_reducible rfl)
               simp only [Act.put, List.setIfInBounds_toArray, List.set_cons_zero, List.set_cons_succ]))
          refine plan_end ?_
          go_wp2_with fail
          go_loopw [6] (fun v wr => ∃ j : Nat, j ≤ x.length ∧ v = .int .i64 j ∧ Hid (x.take j = y.take j) ∧ Below w.heap.size w wr) (fun v _ => x.length - (intOf v).toNat)
          case atStart => exact ⟨0, Nat.zero_le _, rfl, Lib.hid rfl, HBW.out.trans ⟨rfl, rfl, rfl, Nat.le_refl _, fun _ _ => rfl⟩⟩
          case round =>
            obtain ⟨j, hj, rfl, HRT2, hbw2⟩ := hrel
            have HBW2 := Lib.hid hbw2
            have v0' := HV.out _ hbw2
            have u0' := HU'.out _ hbw2
            clear hbw2
            by_cases hjl : j < x.length
            · obtain ⟨g2, o2, rfl, hg2, hcl2⟩ := HP.out j hjl
              obtain ⟨g3, o3, rfl, hg3, hcl3⟩ := HQQ.out j (by have := HXL.out; omega)
              obtain ⟨a0, a1, a2, a3⟩ := hcl2 _ HBW2.out
              obtain ⟨b0, b1, b2, b3⟩ := hcl3 _ HBW2.out
              have j1 : (0 : Int) ≤ (j : Int) := Int.natCast_nonneg _
              have j2 : (j : Int) < (x.length : Int) := by omega
              have heq : ∀ w, _ := evEq x[j] (y[j]'(by have := HXL.out; omega))
              have htk : x.take (j + 1) = x.take j ++ [x[j]] := by rw [List.take_add_one, List.getElem?_eq_getElem hjl]; rfl
              have htk' : y.take (j + 1) = y.take j ++ [y[j]'(by have := HXL.out; omega)] := by rw [List.take_add_one, List.getElem?_eq_getElem (by have := HXL.out; omega)]; rfl
              have hne : x[j] ≠ y[j]'(by have := HXL.out; omega) → x ≠ y := fun h e => h (by subst e; rfl)
              generalize x[j] = p at *
              generalize y[j]'(by have := HXL.out; omega) = q at *
              have l0 : g < wr.heap.size := by have := HBW2.out.size; omega
              have l1 : g' < wr.heap.size := by have := HBW2.out.size; omega
              have l2 : g2 < wr.heap.size := by have := HBW2.out.size; omega
              have l3 : g3 < wr.heap.size := by have := HBW2.out.size; omega
              have HTK2 := Lib.hid htk
              have HTK3 := Lib.hid htk'
              have HNE2 := Lib.hid hne
              clear htk htk' hne hcl2 hcl3
              go_wp2_with fail
              refine wp_region_plan (by kernel_rfl) (fun u => Mod (fun _ => False) wr u) [] [(0, .pure), (1, .pure), (2, .pure), (3, .load), (4, .pure), (5, .pure), (6, .load), (7, .pure), (8, .pure), (9, .pure), (10, .load), (11, .pure), (12, .pure), (13, .load), (14, .pure)] (by simp only [List.map_cons, List.map_nil, List.getElem?_toArray, List.getElem?_cons_succ, List.getElem?_cons_zero]; rfl) (by kernel_rfl) (fun _ _ d _ _ h => by cases d <;> exact h) ((Mod.refl _ _).drew) ?_
              repeat (first
                | (refine plan_pure (v := ?_) (by rfl) (fun w1 => ?_) ?_
                   rotate_left
                   · go_simp <;> with_reducible rfl
                   simp only [Act.put, List.setIfInBounds_toArray, List.set_cons_zero, List.set_cons_succ])
                | (refine plan_off (by rfl) ?_
                   simp only [Act.put, List.setIfInBounds_toArray, List.set_cons_zero, List.set_cons_succ])
                | (refine plan_load_off (by rfl) ?_
                   simp only [Act.put, List.setIfInBounds_toArray, List.set_cons_zero, List.set_cons_succ])
                | (refine plan_load (v := ?_) (by rfl) (fun w1 hw1 => ?_) ?_
                   rotate_left
                   · (have q0 := (hw1.cell g (o + k) l0 id).trans v0'
                      have p0 := (hw1.cell g' (o' + k) l1 id).trans u0'
                      have q1 := (hw1.cell g2 (o2 + j * 4) l2 id).trans a0
                      have q2 := (hw1.cell g2 (o2 + j * 4 + 1) l2 id).trans a1
                      have q3 := (hw1.cell g2 (o2 + j * 4 + 2) l2 id).trans a2
                      have q4 := (hw1.cell g2 (o2 + j * 4 + 3) l2 id).trans a3
                      have p1 := (hw1.cell g3 (o3 + j * 4) l3 id).trans b0
                      have p2 := (hw1.cell g3 (o3 + j * 4 + 1) l3 id).trans b1
                      have p3 := (hw1.cell g3 (o3 + j * 4 + 2) l3 id).trans b2
                      have p4 := (hw1.cell g3 (o3 + j * 4 + 3) l3 id).trans b3
                      clear hw1
                      go_simp <;> with_reducible rfl)
                   simp only [Act.put, List.setIfInBounds_toArray, List.set_cons_zero, List.set_cons_succ]))
              refine plan_end ?_
              by_cases hpq : p = q
              · have hd : decide (p = q) = true := decide_eq_true hpq
                rw [hd]
                have HPQ := Lib.hid hpq
                clear hpq hd heq
                go_wp2_with fail
                go_roundw
                case rel => exact ⟨j + 1, by omega, by go_num, Lib.hid (by rw [HTK2.out, HTK3.out, HRT2.out, HPQ.out]), HBW2.out.trans ⟨rfl, rfl, rfl, Nat.le_refl _, fun _ _ => rfl⟩⟩
                case measure => simp [intOf]; omega
              · have hd : decide (p = q) = false := decide_eq_false hpq
                rw [hd]
                have HPQ := Lib.hid hpq
                clear hpq hd heq
                go_wp2_with fail
                go_ret
                exact ⟨by rw [decide_eq_false (HNE.out (HNE2.out HPQ.out))]; rfl, HBW2.out.trans ⟨rfl, rfl, rfl, Nat.le_refl _, fun _ _ => rfl⟩⟩
            · have hkn : j = x.length := by omega
              have hxy : x = y := by
                have h1 := HRT2.out
                rw [hkn, List.take_length, HXL.out, List.take_length] at h1
                exact h1
              have HXY := Lib.hid hxy
              clear hkn hxy
              go_wp2_with fail
              go_roundw
              case rel => exact ⟨k + 1, by omega, by go_num, Lib.hid (by rw [HTK.out, HTK'.out, HRT.out, HXY.out]), HBW2.out.trans ⟨rfl, rfl, rfl, Nat.le_refl _, fun _ _ => rfl⟩⟩
              case measure => simp [intOf]; omega
        · have e0 : ((x.length : Int) == (y.length : Int)) = false := by simp; omega
          have hne : x ≠ y := fun e => hxy (by rw [e])
          have HNE2 := Lib.hid hne
          clear hxy hne
          go_wp2_with fail
          refine wp_region_plan (by kernel_rfl) (fun u => Mod (fun _ => False) wr u) [] [(0, .pure), (1, .pure), (2, .pure), (3, .load), (4, .pure), (5, .pure), (6, .pure), (7, .pure), (8, .load), (9, .pure), (10, .pure)] (by simp only [List.map_cons, List.map_nil, List.getElem?_toArray, List.getElem?_cons_succ, List.getElem?_cons_zero]; rfl) (by kernel_rfl) (fun _ _ d _ _ h => by cases d <;> exact h) ((Mod.refl _ _).drew) ?_
          repeat (first
            | (refine plan_pure (v := ?_) (by rfl) (fun w1 => ?_) ?_
               rotate_left
               · go_simp <;> with_reducible rfl
               simp only [Act.put, List.setIfInBounds_toArray, List.set_cons_zero, List.set_cons_succ])
            | (refine plan_off (by rfl) ?_
               simp only [Act.put, List.setIfInBounds_toArray, List.set_cons_zero, List.set_cons_succ])
            | (refine plan_load_off (by rfl) ?_
               simp only [Act.put, List.setIfInBounds_toArray, List.set_cons_zero, List.set_cons_succ])
            | (refine plan_load (v := ?_) (by rfl) (fun w1 hw1 => ?_) ?_
               rotate_left
               · (have q0 := (hw1.cell g (o + k) lg id).trans v0
                  have p0 := (hw1.cell g' (o' + k) lg' id).trans u0
                  clear hw1
                  go_simp <;> with_reducible rfl)
               simp only [Act.put, List.setIfInBounds_toArray, List.set_cons_zero, List.set_cons_succ]))
          refine plan_end ?_
          go_wp2_with fail
          go_ret
          exact ⟨by rw [decide_eq_false (HNE.out HNE2.out)]; rfl, HBW.out.trans ⟨rfl, rfl, rfl, Nat.le_refl _, fun _ _ => rfl⟩⟩
      · have hkn : k = a.length := by omega
        have HK := Lib.hid hkn
        have HBW := Lib.hid hbw
        clear hkn hbw
        go_wp2_with fail
        go_ret
        have h1 := HRT.out
        rw [HK.out, List.take_length, HL.out, List.take_length] at h1
        exact ⟨by rw [decide_eq_true h1]; rfl, HBW.out⟩
  · have hlen' : ¬ ((a.length : Int) = (b.length : Int)) := by omega
    have e1 : ((a.length : Int) == (b.length : Int)) = false := by simpa using hlen'
    have hne : a ≠ b := fun e => hlen (by rw [e])
    have HNE := Lib.hid hne
    clear hlen hlen' hne
    go_enter Tryz.func228, Tryz.ntmps228
    go_wp2_with fail
    go_ret
    exact ⟨by rw [decide_eq_false HNE.out]; rfl, Below.refl _ _⟩
end Go.Proofs.YtckdofjpoajblaaGreat
namespace Go.Proofs.YtckdofjpoajblaaGreat
open Go.ChangeShapes Go.WideShapes Go.ChangeAt Go.RowKit
set_option linter.unusedVariables false
theorem tr_slice0 {H : Type} {enc : TypeId × Value → H} {P : Program} {w : World} {base : Nat} {spare : Nat → Bool} {held : Bool} {fuel : Nat} {t e : TypeId} {cs : List Value} {y : DataW H × List MemPlace}
    (ht : P.underlying t = some (.slice e)) (h : DataW.trod enc P w base spare held fuel t cs = some y) : ∃ A n cap, cs = [.slice A n cap] := by
  cases fuel with
  | zero => simp [DataW.trod] at h
  | succ fuel =>
    unfold DataW.trod at h
    rw [ht] at h
    split at h <;> simp_all
structure SlE where
  A : Option Addr
  cap : Nat
  l : List Ev
end Go.Proofs.YtckdofjpoajblaaGreat
namespace Go.Proofs.YtckdofjpoajblaaGreat
open Go.RowKit
set_option linter.unusedVariables false
section
variable {P : Program}
theorem run_append_copy0 (w : World) (t ty e : TypeId) (i : TypeInfo) (z : Value) (sz bytes : Nat) (ht : P.underlying t = some (.slice e)) (hi : P.info? e = some i) (hz : i.zero = some z)
    (hsize : i.size = sz) (hby : i.bytes = bytes) (hzs : z.cells.size = sz) (hsz : 0 < sz)
    (b : Addr) (n : Nat) (cs : List Value) (hown : Row w e sz (some b) n n cs)
    (X : Option Addr) (m c : Nat) (news : List Value) (hx : Rd w sz X m news) (h63 : n + m ≤ maxLen) (hbytes : (n + m) * bytes ≤ 140737488355328) :
    ∃ g o cap' w', (Builtin.append_ #[t, t] ty #[.slice (some b) n n, .slice X m c]).run P w = .ok (.slice (some ⟨g, o, none⟩) (n + m) cap') w' ∧ Row w' e sz (some ⟨g, o, none⟩) (n + m) cap' (cs ++ news) ∧
      Below w.heap.size w w' ∧ ((m = 0 ∧ g = b.block) ∨ w.heap.size ≤ g) ∧ (o = 0 ∨ o = b.off) := by
  rcases Nat.eq_zero_or_pos m with hm | hm
  · subst hm
    have hn : news = [] := List.eq_nil_of_length_eq_zero (by rw [hx.1]; simp)
    subst hn
    subst hsize
    obtain ⟨hs, _⟩ := hown.2.2.2.2 b rfl
    obtain ⟨g, o, s⟩ := b
    simp at hs
    subst hs
    exact ⟨g, o, n, w, run_append_none w t ty e i ht hi _ n n cs hown X c, by simpa using hown, Below.refl _ _, .inl ⟨rfl, rfl⟩, .inr rfl⟩
  · obtain ⟨g, o, rfl, hg, hc⟩ := hx.2 (Nat.mul_pos hm hsz)
    obtain ⟨v', w', hr, ho, hgr⟩ := run_append_arg_grows (P := P) (w := w) t ty e i z sz bytes ht hi hz hsize hby hzs hsz b n n cs hown.1 hown.cells ⟨g, o, none⟩ m c news hx.1
      (fun j u hu => by rw [addr_add, hc j (by rw [← hx.1]; exact (List.getElem?_eq_some_iff.1 hu).1)]; exact hu) (by omega) h63 hbytes
    rcases ho.2 with ⟨_, h0⟩ | ⟨g', cap', cur, rfl, hb, hgh, hnc, hcm, hcsz, htk⟩
    · omega
    · refine ⟨g', 0, cap', w', hr, ⟨ho.1, hnc, hcm, fun h => (by cases h), fun a' ha' => ?_⟩, (Mod.of_grown hgr).below _ (Nat.le_refl _) (fun k _ hk => by cases hk), .inr hb, .inl rfl⟩
      injection ha' with ha'
      subst ha'
      exact ⟨rfl, cur, hgh, by simp only; omega, by simpa using htk⟩
theorem run_append_copy (w : World) (t ty e : TypeId) (i : TypeInfo) (z : Value) (sz bytes : Nat) (ht : P.underlying t = some (.slice e)) (hi : P.info? e = some i) (hz : i.zero = some z)
    (hsize : i.size = sz) (hby : i.bytes = bytes) (hzs : z.cells.size = sz) (hsz : 0 < sz)
    (b : Addr) (n : Nat) (cs : List Value) (hown : Row w e sz (some b) n n cs)
    (X : Option Addr) (m c : Nat) (news : List Value) (hx : Rd w sz X m news) (h63 : n + m ≤ maxLen) (hbytes : (n + m) * bytes ≤ 140737488355328) :
    ∃ g o cap' w', (Builtin.append_ #[t, t] ty #[.slice (some b) n n, .slice X m c]).run P w = .ok (.slice (some ⟨g, o, none⟩) (n + m) cap') w' ∧ Row w' e sz (some ⟨g, o, none⟩) (n + m) cap' (cs ++ news) ∧
      Below w.heap.size w w' ∧ ((m = 0 ∧ g = b.block) ∨ w.heap.size ≤ g) := by
  obtain ⟨g, o, cap', w', h1, h2, h3, h4, _⟩ := run_append_copy0 w t ty e i z sz bytes ht hi hz hsize hby hzs hsz b n cs hown X m c news hx h63 hbytes
  exact ⟨g, o, cap', w', h1, h2, h3, h4⟩
theorem wpList_append_copy {w : World} {ops : Array Oper} {rest : List Oper} {o : Oper} {a : Act} {Q : Exit → Act → World → Prop} (hgd : o.guard = none) (s x : Operand) (t : TypeId)
    (ho : o.op = .call { callee := .builtin .append, args := #[s, x], argTypes := #[t, t] })
    (e : TypeId) (i : TypeInfo) (z : Value) (sz bytes : Nat) (ht : P.underlying t = some (.slice e)) (hi : P.info? e = some i) (hz : i.zero = some z)
    (hsize : i.size = sz) (hby : i.bytes = bytes) (hzs : z.cells.size = sz) (hsz : 0 < sz)
    (b : Addr) (n : Nat) (cs : List Value) (hs : a.eval s = .slice (some b) n n) (hown : Row w e sz (some b) n n cs)
    (X : Option Addr) (m c : Nat) (news : List Value) (hx : a.eval x = .slice X m c) (hrd : Rd w sz X m news)
    (h63 : n + m ≤ maxLen) (hbytes : (n + m) * bytes ≤ 140737488355328)
    (h : ∀ g off cap' w', Row w' e sz (some ⟨g, off, none⟩) (n + m) cap' (cs ++ news) → Below w.heap.size w w' → ((m = 0 ∧ g = b.block) ∨ w.heap.size ≤ g) → wpList P ops Q rest (a.put o.dst (.slice (some ⟨g, off, none⟩) (n + m) cap')) w') : wpList P ops Q (o :: rest) a w := by
  refine wpList_plain hgd fun K hK => ?_
  obtain ⟨g, off, cap', w', hr, h2, h3, h4⟩ := run_append_copy (P := P) w t o.type e i z sz bytes ht hi hz hsize hby hzs hsz b n cs hown X m c news hrd h63 hbytes
  unfold Oper.wp execOp
  simp only [ho, resolve, invoke, builtin, Sem.run_bind, Sem.run_pure, Result.andThen_ok, List.map_toArray, List.map_cons, List.map_nil, hs, hx, hr]
  exact hK _ _ (h g off cap' w' h2 h3 h4)
theorem wpList_append_copy0 {w : World} {ops : Array Oper} {rest : List Oper} {o : Oper} {a : Act} {Q : Exit → Act → World → Prop} (hgd : o.guard = none) (s x : Operand) (t : TypeId)
    (ho : o.op = .call { callee := .builtin .append, args := #[s, x], argTypes := #[t, t] })
    (e : TypeId) (i : TypeInfo) (z : Value) (sz bytes : Nat) (ht : P.underlying t = some (.slice e)) (hi : P.info? e = some i) (hz : i.zero = some z)
    (hsize : i.size = sz) (hby : i.bytes = bytes) (hzs : z.cells.size = sz) (hsz : 0 < sz)
    (b : Addr) (n : Nat) (cs : List Value) (hs : a.eval s = .slice (some b) n n) (hown : Row w e sz (some b) n n cs)
    (X : Option Addr) (m c : Nat) (news : List Value) (hx : a.eval x = .slice X m c) (hrd : Rd w sz X m news)
    (h63 : n + m ≤ maxLen) (hbytes : (n + m) * bytes ≤ 140737488355328)
    (h : ∀ g off cap' w', Row w' e sz (some ⟨g, off, none⟩) (n + m) cap' (cs ++ news) → Below w.heap.size w w' → ((m = 0 ∧ g = b.block) ∨ w.heap.size ≤ g) → (off = 0 ∨ off = b.off) → wpList P ops Q rest (a.put o.dst (.slice (some ⟨g, off, none⟩) (n + m) cap')) w') : wpList P ops Q (o :: rest) a w := by
  refine wpList_plain hgd fun K hK => ?_
  obtain ⟨g, off, cap', w', hr, h2, h3, h4, h5⟩ := run_append_copy0 (P := P) w t o.type e i z sz bytes ht hi hz hsize hby hzs hsz b n cs hown X m c news hrd h63 hbytes
  unfold Oper.wp execOp
  simp only [ho, resolve, invoke, builtin, Sem.run_bind, Sem.run_pure, Result.andThen_ok, List.map_toArray, List.map_cons, List.map_nil, hs, hx, hr]
  exact hK _ _ (h g off cap' w' h2 h3 h4 h5)
end
theorem row_empty {w : World} {e sz Z : Nat} (h : w.heap[Z]? = some (.cells #[] e (0, 0))) : Row w e sz (some ⟨Z, 0, none⟩) 0 0 [] :=
  ⟨by simp, Nat.le_refl _, Nat.zero_le _, fun h => (by cases h), fun a ha => by injection ha with ha; subst ha; exact ⟨rfl, _, h, by simp, by simp⟩⟩
end Go.Proofs.YtckdofjpoajblaaGreat
namespace Go.Proofs.YtckdofjpoajblaaGreat
open Go.RowKit
set_option linter.unusedVariables false
def byteVs (bs : List UInt8) : List Value := bs.map fun b => .int .u8 b.toNat
theorem conv_bytes {P : Program} {w : World} {e : TypeId} {A : Option Addr} {n cap : Nat} {bs : List UInt8} (h : Row w e 1 A n cap (byteVs bs)) (src dst : TypeId) (hs : P.underlying src = some (.slice e)) (he : P.underlying e = some (.int .u8)) (hd : P.underlying dst = some .string) :
    (convert src dst (.slice A n cap)).run P w = .ok (.string ⟨bs.toArray⟩) w := by
  have hl := h.len
  unfold byteVs at hl
  rw [List.length_map] at hl
  cases A with
  | none =>
    have h0 := h.2.2.2.1 rfl
    have h1 := h.2.1
    rw [run_convert_bytes_nil w src e hs he n cap dst hd]
    have : bs = [] := List.eq_nil_of_length_eq_zero (by omega)
    subst this
    rfl
  | some a =>
    obtain ⟨hsp, _⟩ := h.2.2.2.2 a rfl
    obtain ⟨g, o, s⟩ := a
    simp only at hsp
    subst hsp
    rw [run_convert_bytes_arg w src e hs he g o n cap (bs.map fun b => (b.toNat : Int)) (by simp; omega) (fun i hi => by
      rw [h.cell i (by omega)]
      unfold byteVs
      rw [List.getElem?_map, List.getD_eq_getElem?_getD, List.getElem?_map, List.getElem?_eq_getElem (by omega)]
      rfl) dst hd]
    congr 2
    apply ByteArray.ext
    apply Array.toList_inj.1
    rw [strOfNums_data, List.map_map]
    conv => rhs; rw [show (⟨bs.toArray⟩ : ByteArray).data.toList = bs from rfl, ← List.map_id bs]
    apply List.map_congr_left
    intro x _
    simp
theorem acc_more {w wr w1 : World} {O : Obj} {g of : Nat} {A : Option Addr} (hA : ∀ a, A = some a → w.heap.size ≤ a.block) (hb : Below w.heap.size w wr)
    (hm : Mod (fun k => ∃ a, A = some a ∧ k = a.block) (wr.alloc O) w1) (hat : (∃ a, A = some a ∧ g = a.block) ∨ (wr.alloc O).heap.size ≤ g) :
    (∀ a, some (⟨g, of, none⟩ : Addr) = some a → w.heap.size ≤ a.block) ∧ Below w.heap.size w w1 := by
  have z := hb.size
  refine ⟨fun a ha => ?_, ?_⟩
  · injection ha with ha
    subst ha
    rcases hat with ⟨a, e1, e2⟩ | h
    · have := hA a e1; show w.heap.size ≤ g; omega
    · simp at h; show w.heap.size ≤ g; omega
  · have m1 : Mod (fun k => w.heap.size ≤ k) w wr := Mod.of_below hb
    have m2 : Mod (fun k => w.heap.size ≤ k) w (wr.alloc O) := m1.alloc O
    exact (m2.then hm (fun i hi ⟨a, e1, e2⟩ => by have := hA a e1; omega)).below _ (Nat.le_refl _) (fun k hk h => by omega)
theorem Tryz.infoU8 : (Tryz.prog.info? 5).map (fun i => (i.zero, i.size, i.bytes)) = some (some (.int .u8 0), 1, 1) := by kernel_rfl
theorem below_at {w a b : World} (h : Below w.heap.size w a) (k : Below a.heap.size a b) : Below w.heap.size w b := h.trans ⟨k.os, k.tape, k.output, k.size, fun i hi => k.block i (by have := h.size; omega)⟩
theorem bytes_take {l : List Ev} {k : Nat} (hk : k < l.length) : Fo.bytes (l.take (k + 1)) = Fo.bytes (l.take k) ++ [Fo.byteU l[k]] := by
  unfold Fo.bytes
  rw [List.take_add_one, List.getElem?_eq_getElem hk, List.map_append]
  rfl
theorem bytes_take_len {l : List Ev} {k : Nat} (hk : k ≤ l.length) : (Fo.bytes (l.take k)).length = k := by unfold Fo.bytes; simp; omega
theorem Row.alloc {w : World} {e sz : Nat} {A : Option Addr} {n cap : Nat} {cs : List Value} (h : Row w e sz A n cap cs) (O : Obj) : Row (w.alloc O) e sz A n cap cs :=
  h.move (fun a ha => by subst ha; exact heap_alloc_old w O h.lt)
def prE (l : List Ev) : List UInt8 := if Fo.rights l = true then Fo.bytes l else []
set_option maxHeartbeats 1000000 in
theorem refByte_any (w : World) (e : Ev) (hr : Fo.right e = true) : Calls Tryz.prog 229 #[valE e] w fun x w' => x = .returned (.int .i64 (Fo.byteI e)) ∧ Below w.heap.size w w' := by
  have hb : ∀ O, Below w.heap.size w (w.alloc O) := fun O => (Below.refl _ _).alloc (Nat.le_refl _) _
  obtain ⟨h1, h2, h3, h4, h5, h6, h7, h8⟩ := Fo.right_spec hr
  have hbi : Fo.byteI e = e.t + 4 * e.k + 32 * e.o + (if e.f then 128 else 0) := rfl
  rw [hbi]
  have w1 : IntKind.i64.wrap (4 * e.k) = 4 * e.k := IntWalk.i64_in _ (by omega)
  have w2 : IntKind.i64.wrap (e.t + 4 * e.k) = e.t + 4 * e.k := IntWalk.i64_in _ (by omega)
  have w3 : IntKind.i64.wrap (32 * e.o) = 32 * e.o := IntWalk.i64_in _ (by omega)
  have w4 : IntKind.i64.wrap (e.t + 4 * e.k + 32 * e.o) = e.t + 4 * e.k + 32 * e.o := IntWalk.i64_in _ (by omega)
  have w5 : IntKind.i64.wrap (e.t + 4 * e.k + 32 * e.o + 128) = e.t + 4 * e.k + 32 * e.o + 128 := IntWalk.i64_in _ (by omega)
  unfold valE
  clear hbi h7 h8
  cases hf : e.f with
  | true =>
    go_enter Tryz.func229, Tryz.ntmps229
    go_wp2
    go_ret
    exact ⟨rfl, hb _⟩
  | false =>
    go_enter Tryz.func229, Tryz.ntmps229
    go_wp2
    go_ret
    exact ⟨by simp, hb _⟩
set_option maxHeartbeats 1000000 in
theorem refPrint_any (w : World) (A : Option Addr) (cap : Nat) (l : List Ev) (hr : Rd w 4 A l.length (l.flatMap encE)) (hl : l.length < 1000000) :
    Calls Tryz.prog 201 #[.slice A l.length cap] w fun x w' => x = .returned (.string ⟨(prE l).toArray⟩) ∧ Below w.heap.size w w' := by
  have HC := Lib.hid (evs_cell hr.toB)
  obtain ⟨i0, hi0, hz0, hz1, hz2⟩ := info_parts Tryz.infoU8
  clear hr
  go_enter Tryz.func201, Tryz.ntmps201
  go_wp2_with fail
  go_loopw [3, 4] (fun v3 v wr => ∃ (k : Nat) (A' : Option Addr) (cap' : Nat), k ≤ l.length ∧ v = .int .i64 k ∧ v3 = .slice A' k cap' ∧ Hid (Fo.rights (l.take k) = true) ∧ Hid (Row wr 5 1 A' k cap' (byteVs (Fo.bytes (l.take k)))) ∧ Hid (∀ a, A' = some a → w.heap.size ≤ a.block) ∧ Below w.heap.size w wr) (fun _ v _ => l.length - (intOf v).toNat)
  case atStart => exact ⟨0, none, 0, Nat.zero_le _, rfl, rfl, Lib.hid rfl, Lib.hid (Row.nil _ _ _), Lib.hid (fun a h => (by cases h)), Below.refl _ _⟩
  case round =>
    obtain ⟨k, A', cap', hk, rfl, rfl, HRT, HRW, HA, hb⟩ := hrel
    by_cases hlt : k < l.length
    · obtain ⟨g, o, rfl, hg, hcl⟩ := HC.out k hlt
      obtain ⟨v0, v1, v2, v3⟩ := hcl wr hb
      have k1 : (0 : Int) ≤ (k : Int) := Int.natCast_nonneg _
      have k2 : (k : Int) < (l.length : Int) := by omega
      have htk := rights_take hlt
      have hrf := rights_false hlt
      have hbt := bytes_take hlt
      have hbl := bytes_take_len hk
      have hcall := refRight_any wr l[k]
      have hbyte : ∀ u, Fo.right l[k] = true → Calls Tryz.prog 229 #[valE l[k]] u fun x w' => x = .returned (.int .i64 (Fo.byteI l[k])) ∧ Below u.heap.size u w' := fun u h => refByte_any u _ h
      have hbu : Fo.right l[k] = true → IntKind.u8.wrap (Fo.byteI l[k]) = ((Fo.byteU l[k]).toNat : Int) := fun h => by
        rw [Fo.byteU_toNat h]
        have := Fo.byteI_lt h
        simp [IntKind.wrap, IntKind.signed, IntKind.bits]; omega
      have hcl2 : ∀ u, Below w.heap.size w u → EvAt u g (o + k * 4) l[k] := hcl
      generalize l[k] = e at *
      obtain ⟨b, hbb⟩ : ∃ b, b = Fo.right e := ⟨_, rfl⟩
      rw [← hbb] at hcall htk hrf hbyte hbu
      generalize Fo.byteI e = bi at *
      generalize Fo.byteU e = bu at *
      unfold valE at hcall hbyte
      have HCALL := Lib.hid hcall
      have HBYTE := Lib.hid hbyte
      have HBU := Lib.hid hbu
      have HTK := Lib.hid htk
      have HRF := Lib.hid hrf
      have HBT := Lib.hid hbt
      have HBL := Lib.hid hbl
      have HB := Lib.hid hb
      have HCL := Lib.hid hcl2
      clear hcall htk hrf hcl hbb hb hbyte hbu hbt hbl hcl2
      go_wp2_with fail
      refine HCALL.out.mono ?_
      rintro x w1 ⟨rfl, b1⟩
      have hb2 : Below w.heap.size w w1 := below_at HB.out b1
      obtain ⟨v0', v1', v2', v3'⟩ := HCL.out w1 hb2
      have hr1 : Row w1 5 1 A' k cap' (byteVs (Fo.bytes (l.take k))) := HRW.out.mod (Mod.of_below_size b1 (fun _ => False)) (fun _ _ h => h)
      have HR1 := Lib.hid hr1
      have HB2 := Lib.hid hb2
      clear b1 hb2 hr1 v0 v1 v2 v3
      cases b with
      | false =>
        go_wp2_with fail
        go_ret
        exact ⟨by unfold prE; rw [HRF.out (by trivial)]; rfl, HB2.out⟩
      | true =>
        go_wp2_with fail
        refine (HBYTE.out w1 (by trivial)).mono ?_
        rintro x w2 ⟨rfl, b2⟩
        have hb3 : Below w.heap.size w w2 := below_at HB2.out b2
        have hr2 : Row w2 5 1 A' k cap' (byteVs (Fo.bytes (l.take k))) := HR1.out.mod (Mod.of_below_size b2 (fun _ => False)) (fun _ _ h => h)
        have HR2 := Lib.hid hr2
        have HB3 := Lib.hid hb3
        have ew := HBU.out (by trivial)
        clear b2 hb3 hr2
        go_wp2_with (at_builtin; refine wpList_append_row (by rfl) _ _ _ (by rfl) 5 i0 _ 1 1 Tryz.underlying43 hi0 hz0 hz1 hz2 rfl (by omega) A' k cap' (byteVs (Fo.bytes (l.take k))) (by rfl) (HR2.out.alloc _) ⟨w2.heap.size, 0, none⟩ 1 1 [.int .u8 bu.toNat] (by rfl) (by rfl) (World.news_of_block (cs := #[.int .u8 bu.toNat]) (t := 5) (fr := (0, 0)) (heap_alloc_new w2 _)) (by simp [Value.oneCell']) (by omega) (by unfold maxLen; omega) (by omega) ?_; intro g1 of1 cap1 w3 hown hm hat; skip)
        obtain ⟨q1, q2⟩ := acc_more HA.out HB3.out hm hat (of := of1)
        have hr3 : Row w3 5 1 (some ⟨g1, of1, none⟩) (k + 1) cap1 (byteVs (Fo.bytes (l.take (k + 1)))) := by
          rw [HBT.out]; unfold byteVs at hown ⊢; rw [List.map_append]; exact hown
        go_roundw
        case rel => exact ⟨k + 1, some ⟨g1, of1, none⟩, cap1, by omega, by go_num, rfl, Lib.hid (by rw [HTK.out, HRT.out]; rfl), Lib.hid hr3, Lib.hid q1, q2⟩
        case measure => simp [intOf]; omega
    · have hkn : k = l.length := by omega
      have hcv := conv_bytes (P := Tryz.prog) HRW.out 43 9 Tryz.underlying43 Tryz.underlying5 Tryz.underlying9
      have HK := Lib.hid hkn
      have HB := Lib.hid hb
      clear hkn hb
      go_wp2_with fail
      go_ret
      have h1 := HRT.out
      rw [HK.out, List.take_length] at h1 ⊢
      exact ⟨by unfold prE; rw [if_pos h1]; rfl, HB.out⟩
end Go.Proofs.YtckdofjpoajblaaGreat
namespace Go.Proofs.YtckdofjpoajblaaGreat
open Go.RowKit
set_option linter.unusedVariables false
theorem byte_wraps {e : Ev} (h : Fo.right e = true) : IntKind.i64.wrap (4 * e.k) = 4 * e.k ∧ IntKind.i64.wrap (e.t + 4 * e.k) = e.t + 4 * e.k ∧ IntKind.i64.wrap (32 * e.o) = 32 * e.o ∧ IntKind.i64.wrap (e.t + 4 * e.k + 32 * e.o) = e.t + 4 * e.k + 32 * e.o ∧ IntKind.i64.wrap (e.t + 4 * e.k + 32 * e.o + 128) = e.t + 4 * e.k + 32 * e.o + 128 ∧
    (e.f = false → IntKind.u8.wrap (e.t + 4 * e.k + 32 * e.o) = ((Fo.byteU e).toNat : Int)) ∧ (e.f = true → IntKind.u8.wrap (e.t + 4 * e.k + 32 * e.o + 128) = ((Fo.byteU e).toNat : Int)) := by
  obtain ⟨h1, h2, h3, h4, h5, h6, h7, h8⟩ := Fo.right_spec h
  have hb := Fo.byteI_lt h
  have hu := Fo.byteU_toNat h
  refine ⟨IntWalk.i64_in _ (by omega), IntWalk.i64_in _ (by omega), IntWalk.i64_in _ (by omega), IntWalk.i64_in _ (by omega), IntWalk.i64_in _ (by omega), fun hf => ?_, fun hf => ?_⟩
  · rw [hu]
    unfold Fo.byteI at hb ⊢
    rw [hf] at hb ⊢
    simp [IntKind.wrap, IntKind.signed, IntKind.bits] at hb ⊢; omega
  · rw [hu]
    unfold Fo.byteI at hb ⊢
    rw [hf] at hb ⊢
    simp [IntKind.wrap, IntKind.signed, IntKind.bits] at hb ⊢; omega
set_option maxRecDepth 100000 in
set_option maxHeartbeats 2000000 in
theorem print_any (w : World) (A : Option Addr) (cap : Nat) (l : List Ev) (hr : Rd w 4 A l.length (l.flatMap encE)) (hl : l.length < 1000000) :
    Calls Tryz.prog 145 #[.slice A l.length cap] w fun x w' => x = .returned (.string ⟨(prE l).toArray⟩) ∧ Below w.heap.size w w' := by
  have HC := Lib.hid (evs_cell hr.toB)
  obtain ⟨i0, hi0, hz0, hz1, hz2⟩ := info_parts Tryz.infoU8
  have hmk := run_make (P := Tryz.prog) w 43 5 i0 (.int .u8 0) Tryz.underlying43 hi0 hz0 .i64 .i64 0 (l.length : Int) (by omega) (by omega) (by rw [hz2]; omega) (by omega)
  simp only [Int.toNat_natCast, Int.toNat_zero] at hmk
  clear hr
  go_enter Tryz.func145, Tryz.ntmps145
  go_upto_region 2 with fail
  obtain ⟨w0, hw0⟩ : ∃ w0, w0 = w.alloc (.cells (madeCells #[.int .u8 0] l.length) 5) := ⟨_, rfl⟩
  obtain ⟨Y, hY⟩ : ∃ Y, Y = w.heap.size := ⟨_, rfl⟩
  have hI : Row w0 5 1 (some ⟨Y, 0, none⟩) 0 l.length [] ∧ w.heap.size ≤ Y ∧ Below w.heap.size w w0 := by
    refine ⟨⟨by simp, Nat.zero_le _, by unfold maxLen; omega, fun h => (by cases h), fun a ha => ?_⟩, by omega, by rw [hw0]; exact (Below.refl _ _).alloc (Nat.le_refl _) _⟩
    injection ha with ha
    subst ha
    have hm : madeCells #[Value.int .u8 0] l.length = (List.replicate l.length (.int .u8 0)).toArray := by
      apply Array.ext'
      rw [toList_madeCells_one]
    exact ⟨rfl, _, by rw [hw0, hY]; exact heap_alloc_new w _, by rw [hm]; simp, by simp⟩
  have HI := Lib.hid hI
  rw [← hw0, ← hY]
  clear hw0 hY hmk hI
  go_wp2_with fail
  go_loopw [3, 12] (fun v3 v wr => ∃ (k : Nat) (A' : Option Addr) (cap' : Nat), k ≤ l.length ∧ v = .int .i64 k ∧ v3 = .slice A' k cap' ∧ Hid (Fo.rights (l.take k) = true) ∧ Hid (Row wr 5 1 A' k cap' (byteVs (Fo.bytes (l.take k)))) ∧ Hid (∀ a, A' = some a → w.heap.size ≤ a.block) ∧ Below w.heap.size w wr) (fun _ v _ => l.length - (intOf v).toNat)
  case atStart => exact ⟨0, some ⟨Y, 0, none⟩, l.length, Nat.zero_le _, rfl, rfl, Lib.hid rfl, Lib.hid HI.out.1, Lib.hid (fun a h => by injection h with h; subst h; exact HI.out.2.1), HI.out.2.2⟩
  case round =>
    clear HI
    obtain ⟨k, A', cap', hk, rfl, rfl, HRT, HRW, HA, hb⟩ := hrel
    by_cases hlt : k < l.length
    · obtain ⟨g, o, rfl, hg, hcl⟩ := HC.out k hlt
      obtain ⟨v0, v1, v2, v3⟩ := hcl wr hb
      have k1 : (0 : Int) ≤ (k : Int) := Int.natCast_nonneg _
      have k2 : (k : Int) < (l.length : Int) := by omega
      have htk := rights_take hlt
      have hrf := rights_false hlt
      have hbt := bytes_take hlt
      have hcall : ∀ u, Calls Tryz.prog 139 #[valE l[k]] u fun x w' => x = .returned (.bool (Fo.right l[k])) ∧ Below u.heap.size u w' := fun u => right_any u _
      have hws : Fo.right l[k] = true → _ := fun h => byte_wraps (e := l[k]) h
      generalize l[k] = e at *
      obtain ⟨b, hbb⟩ : ∃ b, b = Fo.right e := ⟨_, rfl⟩
      rw [← hbb] at htk hrf hws
      have hcall : ∀ u, Calls Tryz.prog 139 #[valE e] u fun x w' => x = .returned (.bool b) ∧ Below u.heap.size u w' := fun u => by rw [hbb]; exact hcall u
      generalize Fo.byteU e = bu at *
      unfold valE at hcall
      have HCALL := Lib.hid hcall
      have HWS := Lib.hid hws
      have HTK := Lib.hid htk
      have HRF := Lib.hid hrf
      have HBT := Lib.hid hbt
      have HB := Lib.hid hb
      clear hcall htk hrf hcl hbb hb hws hbt
      go_upto_region 5 with fail
      obtain ⟨X, hX⟩ : ∃ X, X = wr.heap.size := ⟨_, rfl⟩
      obtain ⟨W1, hW1⟩ : ∃ W1, W1 = wr.alloc (Obj.cells #[.int .i64 e.t, .int .i64 e.k, .int .i64 e.o, .bool e.f] 51) := ⟨_, rfl⟩
      have t1 : Below wr.heap.size wr W1 := by rw [hW1]; exact (Below.refl _ _).alloc (Nat.le_refl _) _
      have hk1 : W1.heap[X]? = some (.cells #[.int .i64 e.t, .int .i64 e.k, .int .i64 e.o, .bool e.f] 51 (0, 0)) := by rw [hW1, hX]; exact heap_alloc_new wr _
      have c0 : W1.cell? ⟨X, 0, none⟩ = some (.int .i64 e.t) := by rw [cell_blk hk1]; rfl
      have c1 : W1.cell? ⟨X, 1, none⟩ = some (.int .i64 e.k) := by rw [cell_blk hk1]; rfl
      have c2 : W1.cell? ⟨X, 2, none⟩ = some (.int .i64 e.o) := by rw [cell_blk hk1]; rfl
      have c3 : W1.cell? ⟨X, 3, none⟩ = some (.bool e.f) := by rw [cell_blk hk1]; rfl
      rw [← hW1, ← hX]
      have HK1 := Lib.hid hk1
      have T1 := Lib.hid t1
      have HX := Lib.hid hX
      clear hW1 hX v0 v1 v2 v3 t1 hk1
      go_wp2_with fail
      refine (HCALL.out W1).mono ?_
      rintro x w1 ⟨rfl, b1⟩
      have hb2 : Below w.heap.size w w1 := below_at (below_at HB.out T1.out) b1
      have hk2 := (b1.block X (blk_lt HK1.out)).trans HK1.out
      have d0 : w1.cell? ⟨X, 0, none⟩ = some (.int .i64 e.t) := by rw [cell_blk hk2]; rfl
      have d1 : w1.cell? ⟨X, 1, none⟩ = some (.int .i64 e.k) := by rw [cell_blk hk2]; rfl
      have d2 : w1.cell? ⟨X, 2, none⟩ = some (.int .i64 e.o) := by rw [cell_blk hk2]; rfl
      have d3 : w1.cell? ⟨X, 3, none⟩ = some (.bool e.f) := by rw [cell_blk hk2]; rfl
      have hr1 : Row w1 5 1 A' k cap' (byteVs (Fo.bytes (l.take k))) := (HRW.out.mod (Mod.of_below_size T1.out (fun _ => False)) (fun _ _ h => h)).mod (Mod.of_below_size b1 (fun _ => False)) (fun _ _ h => h)
      have HR1 := Lib.hid hr1
      have HB2 := Lib.hid hb2
      clear b1 hb2 hr1 c0 c1 c2 c3 hk2
      cases b with
      | false =>
        go_wp2_with fail
        go_ret
        exact ⟨by unfold prE; rw [HRF.out (by trivial)]; rfl, HB2.out⟩
      | true =>
        obtain ⟨e1, e2, e3, e4, e5, e6, e7⟩ := HWS.out (by trivial)
        have E6 := Lib.hid e6
        have E7 := Lib.hid e7
        clear e6 e7
        cases hf : e.f with
        | true =>
          rw [hf] at d3
          have ew := E7.out hf
          go_wp2_with (at_builtin; refine wpList_append_row (by rfl) _ _ _ (by rfl) 5 i0 _ 1 1 Tryz.underlying43 hi0 hz0 hz1 hz2 rfl (by omega) A' k cap' (byteVs (Fo.bytes (l.take k))) (by rfl) (HR1.out.alloc _) ⟨w1.heap.size, 0, none⟩ 1 1 [.int .u8 bu.toNat] (by rfl) (by rfl) (World.news_of_block (cs := #[.int .u8 bu.toNat]) (t := 5) (fr := (0, 0)) (heap_alloc_new w1 _)) (by simp [Value.oneCell']) (by omega) (by unfold maxLen; omega) (by omega) ?_; intro g1 of1 cap1 w3 hown hm hat; skip)
          obtain ⟨q1, q2⟩ := acc_more HA.out HB2.out hm hat (of := of1)
          have hr3 : Row w3 5 1 (some ⟨g1, of1, none⟩) (k + 1) cap1 (byteVs (Fo.bytes (l.take (k + 1)))) := by
            rw [HBT.out]; unfold byteVs at hown ⊢; rw [List.map_append]; exact hown
          go_roundw
          case rel => exact ⟨k + 1, some ⟨g1, of1, none⟩, cap1, by omega, by go_num, rfl, Lib.hid (by rw [HTK.out, HRT.out]; rfl), Lib.hid hr3, Lib.hid q1, q2⟩
          case measure => simp [intOf]; omega
        | false =>
          rw [hf] at d3
          have ew := E6.out hf
          go_wp2_with (at_builtin; refine wpList_append_row (by rfl) _ _ _ (by rfl) 5 i0 _ 1 1 Tryz.underlying43 hi0 hz0 hz1 hz2 rfl (by omega) A' k cap' (byteVs (Fo.bytes (l.take k))) (by rfl) (HR1.out.alloc _) ⟨w1.heap.size, 0, none⟩ 1 1 [.int .u8 bu.toNat] (by rfl) (by rfl) (World.news_of_block (cs := #[.int .u8 bu.toNat]) (t := 5) (fr := (0, 0)) (heap_alloc_new w1 _)) (by simp [Value.oneCell']) (by omega) (by unfold maxLen; omega) (by omega) ?_; intro g1 of1 cap1 w3 hown hm hat; skip)
          obtain ⟨q1, q2⟩ := acc_more HA.out HB2.out hm hat (of := of1)
          have hr3 : Row w3 5 1 (some ⟨g1, of1, none⟩) (k + 1) cap1 (byteVs (Fo.bytes (l.take (k + 1)))) := by
            rw [HBT.out]; unfold byteVs at hown ⊢; rw [List.map_append]; exact hown
          go_roundw
          case rel => exact ⟨k + 1, some ⟨g1, of1, none⟩, cap1, by omega, by go_num, rfl, Lib.hid (by rw [HTK.out, HRT.out]; rfl), Lib.hid hr3, Lib.hid q1, q2⟩
          case measure => simp [intOf]; omega
    · have hkn : k = l.length := by omega
      have hcv := conv_bytes (P := Tryz.prog) HRW.out 43 9 Tryz.underlying43 Tryz.underlying5 Tryz.underlying9
      have HK := Lib.hid hkn
      have HB := Lib.hid hb
      clear hkn hb
      go_wp2_with fail
      go_ret
      have h1 := HRT.out
      rw [HK.out, List.take_length] at h1 ⊢
      exact ⟨by unfold prE; rw [if_pos h1]; rfl, HB.out⟩
end Go.Proofs.YtckdofjpoajblaaGreat
namespace Go.Proofs.YtckdofjpoajblaaGreat
open Go.RowKit
set_option linter.unusedVariables false
theorem Tryz.infoEv : (Tryz.prog.info? 51).map (fun i => (i.zero, i.size, i.bytes)) = some (some (.agg #[.int .i64 0, .int .i64 0, .int .i64 0, .bool false]), 4, 32) := by kernel_rfl
end Go.Proofs.YtckdofjpoajblaaGreat
namespace Go.Proofs.YtckdofjpoajblaaGreat
open Go.RowKit
set_option linter.unusedVariables false
end Go.Proofs.YtckdofjpoajblaaGreat
