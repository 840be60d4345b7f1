/- What an argument that reads as data looks like in memory: own readers over the form's own word. No program in sight. -/
import Derived.Test.YtcaapoacmfjnmaaGreatBase
import Derived.ProofKit
import Derived.OpenShut
import Derived.ShutString
import Derived.ChangeOld
import Derived.Below
import Derived.SizedLaws
import Derived.Lib.Hide
namespace Go.Proofs.YtcaapoacmfjnmaaGreat
open Go.ChangeShapes Go.WideShapes Go.ChangeAt Go.RowKit
set_option linter.unusedVariables false

theorem pick_list {α : Type} {P : Nat → α → Prop} : ∀ n, (∀ j, j < n → ∃ x, P j x) → ∃ xs : List α, xs.length = n ∧ ∀ j x, xs[j]? = some x → P j x
  | 0, _ => ⟨[], rfl, fun j x h => by simp at h⟩
  | n + 1, h => by
    obtain ⟨xs, hl, hx⟩ := pick_list n (fun j hj => h j (by omega))
    obtain ⟨x, hp⟩ := h n (by omega)
    refine ⟨xs ++ [x], by simp [hl], fun j y hy => ?_⟩
    rcases Nat.lt_or_ge j xs.length with hj | hj
    · rw [List.getElem?_append_left hj] at hy
      exact hx j y hy
    · rw [List.getElem?_append_right hj] at hy
      have : j - xs.length = 0 := by
        rcases Nat.eq_zero_or_pos (j - xs.length) with h0 | h0
        · exact h0
        · rw [List.getElem?_eq_none (by simp; omega)] at hy; cases hy
      rw [this] at hy
      simp at hy
      subst hy
      have : j = n := by omega
      subst this
      exact hp

theorem mapM_some {α β : Type} {f : α → Option β} : ∀ {l : List α} {ys : List β}, l.mapM f = some ys → ∀ x ∈ l, ∃ y, f x = some y
  | [], _, _, x, hx => by cases hx
  | a :: l, ys, h, x, hx => by
    rw [List.mapM_cons] at h
    cases ha : f a with
    | none => rw [ha] at h; cases h
    | some b =>
      rw [ha] at h
      cases hl : l.mapM f with
      | none => rw [hl] at h; cases h
      | some bs =>
        rcases List.mem_cons.1 hx with rfl | hx
        · exact ⟨b, ha⟩
        · exact mapM_some hl x hx
theorem mapM_get {α β : Type} {f : α → Option β} : ∀ {l : List α} {ys : List β}, l.mapM f = some ys → ys.length = l.length ∧ ∀ (i : Nat) x, l[i]? = some x → ys[i]? = f x
  | [], ys, h => by
    rw [List.mapM_nil] at h
    cases h
    exact ⟨rfl, fun i x h => by simp at h⟩
  | a :: l, ys, h => by
    rw [List.mapM_cons] at h
    cases ha : f a with
    | none => rw [ha] at h; cases h
    | some b =>
      rw [ha] at h
      cases hl : l.mapM f with
      | none => rw [hl] at h; cases h
      | some bs =>
        rw [hl] at h
        cases h
        obtain ⟨h1, h2⟩ := mapM_get hl
        refine ⟨by simp [h1], fun i x hx => ?_⟩
        cases i with
        | zero => simp at hx; subst hx; simp [ha]
        | succ i => simpa using h2 i x (by simpa using hx)

section
variable {H : Type} {enc : TypeId × Value → H} {P : Program} {w : World} {base : Nat} {spare : Nat → Bool} {held : Bool} {fuel : Nat} {t e : TypeId} {cs : List Value} {y : DataW H × List MemPlace}

theorem tr_int {k : IntKind} (ht : P.underlying t = some (.int k)) (h : DataW.trod enc P w base spare held fuel t cs = some y) : ∃ n, cs = [.int k n] ∧ (Lit.int k n).wf = true := by
  cases fuel with
  | zero => simp [DataW.trod] at h
  | succ fuel =>
    unfold DataW.trod at h
    rw [ht] at h
    split at h <;> simp_all
theorem tr_bool (ht : P.underlying t = some .bool) (h : DataW.trod enc P w base spare held fuel t cs = some y) : ∃ b, cs = [.bool b] := by
  cases fuel with
  | zero => simp [DataW.trod] at h
  | succ fuel =>
    unfold DataW.trod at h
    rw [ht] at h
    split at h <;> simp_all
theorem tr_string (ht : P.underlying t = some .string) (h : DataW.trod enc P w base spare held fuel t cs = some y) : ∃ s : ByteArray, cs = [.string s] ∧ s.size ≤ maxLen := by
  cases fuel with
  | zero => simp [DataW.trod] at h
  | succ fuel =>
    unfold DataW.trod at h
    rw [ht] at h
    split at h <;> simp_all
theorem tr_struct {fs : Array Field} (ht : P.underlying t = some (.struct fs)) (h : DataW.trod enc P w base spare held fuel t cs = some y) :
    cs.length = P.cellsOf t ∧ ∃ fuel', ∀ f ∈ fs.toList, ∃ y', DataW.trod enc P w base spare held fuel' f.type ((cs.drop f.offset).take (P.cellsOf f.type)) = some y' := by
  cases fuel with
  | zero => simp [DataW.trod] at h
  | succ fuel =>
    unfold DataW.trod at h
    rw [ht] at h
    split at h <;> simp_all
    obtain ⟨hl, ys, hm, _⟩ := h
    exact ⟨fuel, fun f hf => by obtain ⟨⟨a, b⟩, h⟩ := mapM_some hm f (by simpa using hf); exact ⟨a, b, h⟩⟩
theorem tr_slice (ht : P.underlying t = some (.slice e)) {A : Option Addr} {n cap : Nat} (h : DataW.trod enc P w base spare held fuel t [.slice A n cap] = some y) :
    n ≤ cap ∧ cap ≤ maxLen ∧ (A = none → n = 0 ∧ cap = 0) ∧ ∃ fuel', ∀ j, j < n → ∃ a, A = some a ∧ ∃ c y', (w.cells? base (a.add (j * P.cellsOf e)) (P.cellsOf e)) = some c ∧ DataW.trod enc P w base spare held fuel' e c = some y' := by
  cases fuel with
  | zero => simp [DataW.trod] at h
  | succ fuel =>
    unfold DataW.trod at h
    rw [ht] at h
    cases A with
    | none =>
      cases n with
      | succ n => simp at h
      | zero =>
        cases cap with
        | succ n => simp at h
        | zero => exact ⟨by omega, by simp [maxLen], fun _ => ⟨rfl, rfl⟩, fuel, fun j hj => by omega⟩
    | some a =>
      simp only at h
      split at h
      · rename_i hh
        obtain ⟨hb, h1, h2⟩ := hh
        rw [Option.bind_eq_some_iff] at h
        obtain ⟨elems, hm, _⟩ := h
        refine ⟨h1, h2, fun h => (by cases h), fuel, fun j hj => ⟨a, rfl, ?_⟩⟩
        obtain ⟨y', hy⟩ := mapM_some hm j (by simpa using hj)
        cases hc : w.cells? base (a.add (j * P.cellsOf e)) (P.cellsOf e) with
        | none => rw [hc] at hy; cases hy
        | some c => rw [hc] at hy; exact ⟨c, _, rfl, hy⟩
      · cases h
end


theorem Rd.below {w w' : World} {sz : Nat} {A : Option Addr} {n : Nat} {cs : List Value} (h : Rd w sz A n cs) {B : Nat} (hb : Below B w w') (hB : w.heap.size ≤ B) : Rd w' sz A n cs := by
  refine ⟨h.1, fun h0 => ?_⟩
  obtain ⟨g, o, hA, hg, hc⟩ := h.2 h0
  exact ⟨g, o, hA, Nat.lt_of_lt_of_le hg hb.size, fun j hj => (World.cell?_of_block (hb.block g (by omega))).trans (hc j hj)⟩
/-- below B: where the arguments lie -/
def RdB (w : World) (B sz : Nat) (A : Option Addr) (n : Nat) (cs : List Value) : Prop :=
  cs.length = n * sz ∧ (0 < n * sz → ∃ g o, A = some ⟨g, o, none⟩ ∧ g < B ∧ ∀ j, j < n * sz → w.cell? ⟨g, o + j, none⟩ = cs[j]?)
theorem Rd.toB {w : World} {sz : Nat} {A : Option Addr} {n : Nat} {cs : List Value} (h : Rd w sz A n cs) : RdB w w.heap.size sz A n cs := h
theorem RdB.below {w w' : World} {B sz : Nat} {A : Option Addr} {n : Nat} {cs : List Value} (h : RdB w B sz A n cs) (hb : Below B w w') : RdB w' B sz A n cs := by
  refine ⟨h.1, fun h0 => ?_⟩
  obtain ⟨g, o, hA, hg, hc⟩ := h.2 h0
  exact ⟨g, o, hA, hg, fun j hj => (World.cell?_of_block (hb.block g hg)).trans (hc j hj)⟩

section
variable {H : Type} {enc : TypeId × Value → H} {P : Program} {w : World} {base : Nat} {spare : Nat → Bool} {held : Bool} {fuel : Nat} {t e : TypeId} {cs : List Value} {y : DataW H × List MemPlace}
theorem cells_of {w : World} {base n : Nat} {a : Addr} {c : List Value} (h : w.cells? base a n = some c) : c.length = n ∧ ∀ i, i < n → w.cell? (a.add i) = c[i]? := by
  unfold World.cells? at h
  split at h
  · obtain ⟨h1, h2⟩ := mapM_get h
    refine ⟨by simpa using h1, fun i hi => ?_⟩
    exact (h2 i i (by simp [hi])).symm
  · cases h
theorem tr_list {α : Type} {f : α → List Value} {good : α → Prop} {sz : Nat} (hsz : 0 < sz) (ht : P.underlying t = some (.slice e)) (hcs : P.cellsOf e = sz)
    (hel : ∀ fuel c y, c.length = sz → DataW.trod enc P w base spare held fuel e c = some y → ∃ x, c = f x ∧ good x)
    {A : Option Addr} {n cap : Nat} (h : DataW.trod enc P w base spare held fuel t [.slice A n cap] = some y) :
    ∃ xs : List α, xs.length = n ∧ (∀ x ∈ xs, good x) ∧ Rd w sz A n (xs.flatMap f) ∧ n ≤ cap ∧ cap ≤ maxLen := by
  obtain ⟨h1, h2, h3, fuel', h4⟩ := tr_slice ht h
  rw [hcs] at h4
  obtain ⟨xs, hl, hx⟩ := pick_list (P := fun j x => ∃ a, A = some a ∧ (f x).length = sz ∧ good x ∧ ∀ i, i < sz → w.cell? ((a.add (j * sz)).add i) = (f x)[i]?) n (fun j hj => by
    obtain ⟨a, hA, c, y', hc, hy⟩ := h4 j hj
    obtain ⟨hcl, hci⟩ := cells_of hc
    obtain ⟨x, rfl, hg⟩ := hel fuel' c y' hcl hy
    exact ⟨x, a, hA, hcl, hg, hci⟩)
  have hlen : ∀ x ∈ xs, (f x).length = sz := fun x hm => by
    obtain ⟨j, hj⟩ := List.getElem?_of_mem hm
    obtain ⟨a, _, h, _⟩ := hx j x hj
    exact h
  have hfl : (xs.flatMap f).length = n * sz := by
    rw [← hl]
    clear h4 hx hl
    induction xs with
    | nil => simp
    | cons x xs ih =>
      rw [List.flatMap_cons, List.length_append, hlen x (by simp), ih (fun z hz => hlen z (by simp [hz])), List.length_cons, Nat.add_mul]
      omega
  refine ⟨xs, hl, fun x hm => ?_, ⟨hfl, fun h0 => ?_⟩, h1, h2⟩
  · obtain ⟨j, hj⟩ := List.getElem?_of_mem hm
    obtain ⟨a, _, _, h, _⟩ := hx j x hj
    exact h
  · have hn : 0 < n := by
      rcases Nat.eq_zero_or_pos n with h | h
      · rw [h] at h0; simp at h0
      · exact h
    obtain ⟨a, hA, _, _, hc0⟩ := hx 0 _ (List.getElem?_eq_getElem (by omega))
    obtain ⟨g, o, s⟩ := a
    have hs : s = none := by
      have h5 := hc0 0 hsz
      have h6 : ((⟨g, o, s⟩ : Addr).add (0 * sz)).add 0 = ⟨g, o, s⟩ := by simp [Addr.add]
      rw [h6] at h5
      cases s with
      | none => rfl
      | some s =>
        have hl0 := hlen _ (List.getElem_mem (show 0 < xs.length by omega))
        rw [List.getElem?_eq_getElem (by omega)] at h5
        unfold World.cell? at h5
        split at h5 <;> simp at h5
    subst hs
    refine ⟨g, o, hA, ?_, fun j hj => ?_⟩
    · have h5 := hc0 0 hsz
      have hl0 := hlen _ (List.getElem_mem (show 0 < xs.length by omega))
      rw [List.getElem?_eq_getElem (by omega)] at h5
      have := World.block_lt_of_cell? w _ h5
      simpa [addr_add] using this
    · -- cell j is cell j % sz of element j / sz
      have hq : j / sz < xs.length := by rw [hl]; exact (Nat.div_lt_iff_lt_mul hsz).2 hj
      obtain ⟨a', hA', _, _, hcj⟩ := hx (j / sz) _ (List.getElem?_eq_getElem hq)
      rw [hA] at hA'
      injection hA' with hA'
      subst hA'
      have h5 := hcj (j % sz) (Nat.mod_lt _ hsz)
      rw [addr_add, addr_add] at h5
      have hdm : o + j / sz * sz + j % sz = o + j := by
        have := Nat.div_add_mod j sz
        rw [Nat.mul_comm] at this
        omega
      rw [hdm] at h5
      rw [h5]
      clear h5 hcj hc0 h4 hfl
      have key : ∀ (xs : List α) (hlen : ∀ x ∈ xs, (f x).length = sz) (q r : Nat) (hq : q < xs.length) (hr : r < sz), (f xs[q])[r]? = (xs.flatMap f)[q * sz + r]? := by
        intro xs
        induction xs with
        | nil => intro _ q r hq; cases hq
        | cons x xs ih =>
          intro hlen q r hq hr
          have hx0 := hlen x (by simp)
          cases q with
          | zero =>
            rw [List.flatMap_cons, List.getElem?_append_left (by omega)]
            simp
          | succ q =>
            rw [List.flatMap_cons, List.getElem?_append_right (by rw [hx0, Nat.add_mul]; omega)]
            have : (q + 1) * sz + r - (f x).length = q * sz + r := by rw [hx0, Nat.add_mul]; omega
            rw [this]
            simpa using ih (fun z hz => hlen z (by simp [hz])) q r (by simpa using hq) hr
      rw [key xs hlen (j / sz) (j % sz) hq (Nat.mod_lt _ hsz)]
      congr 1
      have := Nat.div_add_mod j sz
      rw [Nat.mul_comm] at this
      omega
end
theorem flat_get {α : Type} {f : α → List Value} {sz : Nat} (hf : ∀ x, (f x).length = sz) : ∀ (xs : List α) (q r : Nat) (hq : q < xs.length) (hr : r < sz), (xs.flatMap f)[q * sz + r]? = (f xs[q])[r]? := by
  intro xs
  induction xs with
  | nil => intro q r hq; cases hq
  | cons x xs ih =>
    intro q r hq hr
    cases q with
    | zero =>
      rw [List.flatMap_cons, List.getElem?_append_left (by rw [hf]; omega)]
      simp
    | succ q =>
      rw [List.flatMap_cons, List.getElem?_append_right (by rw [hf, Nat.add_mul]; omega)]
      have : (q + 1) * sz + r - (f x).length = q * sz + r := by rw [hf, Nat.add_mul]; omega
      rw [this]
      simpa using ih q r (by simpa using hq) hr
theorem flat_len {α : Type} {f : α → List Value} {sz : Nat} (hf : ∀ x, (f x).length = sz) (xs : List α) : (xs.flatMap f).length = xs.length * sz := by
  induction xs with
  | nil => simp
  | cons x xs ih => rw [List.flatMap_cons, List.length_append, hf, ih, List.length_cons, Nat.add_mul]; omega
theorem flat_take {α : Type} {f : α → List Value} {sz : Nat} (hf : ∀ x, (f x).length = sz) (xs : List α) (k : Nat) (hk : k ≤ xs.length) : (xs.flatMap f).take (k * sz) = (xs.take k).flatMap f := by
  have h := flat_len hf (xs.take k)
  rw [List.length_take, Nat.min_eq_left hk] at h
  conv => lhs; rw [← List.take_append_drop k xs]
  rw [List.flatMap_append, ← h, List.take_left]
theorem flat_drop {α : Type} {f : α → List Value} {sz : Nat} (hf : ∀ x, (f x).length = sz) (xs : List α) (k : Nat) (hk : k ≤ xs.length) : (xs.flatMap f).drop (k * sz) = (xs.drop k).flatMap f := by
  have h := flat_len hf (xs.take k)
  rw [List.length_take, Nat.min_eq_left hk] at h
  conv => lhs; rw [← List.take_append_drop k xs]
  rw [List.flatMap_append, ← h, List.drop_left]
theorem Row.rd {w : World} {e sz : Nat} {A : Option Addr} {n cap : Nat} {cs : List Value} (h : Row w e sz A n cap cs) : Rd w sz A n cs := by
  refine ⟨h.1, fun h0 => ?_⟩
  have hn : 0 < n := by
    rcases Nat.eq_zero_or_pos n with h1 | h1
    · rw [h1] at h0; simp at h0
    · exact h1
  obtain ⟨g, o, hA⟩ := h.some_of_pos (by have := h.2.1; omega)
  subst hA
  exact ⟨g, o, rfl, h.lt, fun j hj => h.cell j hj⟩


theorem u8_bounds {n : Int} (h : (Lit.int .u8 n).wf = true) : ∃ m : Nat, n = m ∧ m ≤ 255 := by
  have hx : 0 ≤ n ∧ n ≤ 255 := by simpa [Lit.wf, IntKind.min, IntKind.max, IntKind.signed, IntKind.bits] using h
  exact ⟨n.toNat, by omega, by omega⟩
theorem i64_bounds {n : Int} (h : (Lit.int .i64 n).wf = true) : -9223372036854775808 ≤ n ∧ n ≤ 9223372036854775807 := by
  simpa [Lit.wf, IntKind.min, IntKind.max, IntKind.signed, IntKind.bits] using h
end Go.Proofs.YtcaapoacmfjnmaaGreat
