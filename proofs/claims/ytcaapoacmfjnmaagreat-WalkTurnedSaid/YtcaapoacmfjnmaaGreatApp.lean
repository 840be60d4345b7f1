/- append onto a slice without room: nothing that was is changed. No program in sight. -/
import Derived.Test.YtcaapoacmfjnmaaGreatBase
namespace Go.Proofs.YtcaapoacmfjnmaaGreat
open Go.RowKit
set_option linter.unusedVariables false

section
variable {P : Program}
theorem run_append_copy0 (w : World) (t ty e : TypeId) (i : TypeInfo) (z : Value) (sz bytes : Nat) (ht : P.underlying t = some (.slice e)) (hi : P.info? e = some i) (hz : i.zero = some z)
    (hsize : i.size = sz) (hby : i.bytes = bytes) (hzs : z.cells.size = sz) (hsz : 0 < sz)
    (b : Addr) (n : Nat) (cs : List Value) (hown : Row w e sz (some b) n n cs)
    (X : Option Addr) (m c : Nat) (news : List Value) (hx : Rd w sz X m news) (h63 : n + m ≤ maxLen) (hbytes : (n + m) * bytes ≤ 140737488355328) :
    ∃ g o cap' w', (Builtin.append_ #[t, t] ty #[.slice (some b) n n, .slice X m c]).run P w = .ok (.slice (some ⟨g, o, none⟩) (n + m) cap') w' ∧ Row w' e sz (some ⟨g, o, none⟩) (n + m) cap' (cs ++ news) ∧
      Below w.heap.size w w' ∧ ((m = 0 ∧ g = b.block) ∨ w.heap.size ≤ g) ∧ (o = 0 ∨ o = b.off) := by
  rcases Nat.eq_zero_or_pos m with hm | hm
  · subst hm
    have hn : news = [] := List.eq_nil_of_length_eq_zero (by rw [hx.1]; simp)
    subst hn
    subst hsize
    obtain ⟨hs, _⟩ := hown.2.2.2.2 b rfl
    obtain ⟨g, o, s⟩ := b
    simp at hs
    subst hs
    exact ⟨g, o, n, w, run_append_none w t ty e i ht hi _ n n cs hown X c, by simpa using hown, Below.refl _ _, .inl ⟨rfl, rfl⟩, .inr rfl⟩
  · obtain ⟨g, o, rfl, hg, hc⟩ := hx.2 (Nat.mul_pos hm hsz)
    obtain ⟨v', w', hr, ho, hgr⟩ := run_append_arg_grows (P := P) (w := w) t ty e i z sz bytes ht hi hz hsize hby hzs hsz b n n cs hown.1 hown.cells ⟨g, o, none⟩ m c news hx.1
      (fun j u hu => by rw [addr_add, hc j (by rw [← hx.1]; exact (List.getElem?_eq_some_iff.1 hu).1)]; exact hu) (by omega) h63 hbytes
    rcases ho.2 with ⟨_, h0⟩ | ⟨g', cap', cur, rfl, hb, hgh, hnc, hcm, hcsz, htk⟩
    · omega
    · refine ⟨g', 0, cap', w', hr, ⟨ho.1, hnc, hcm, fun h => (by cases h), fun a' ha' => ?_⟩, (Mod.of_grown hgr).below _ (Nat.le_refl _) (fun k _ hk => by cases hk), .inr hb, .inl rfl⟩
      injection ha' with ha'
      subst ha'
      exact ⟨rfl, cur, hgh, by simp only; omega, by simpa using htk⟩
theorem run_append_copy (w : World) (t ty e : TypeId) (i : TypeInfo) (z : Value) (sz bytes : Nat) (ht : P.underlying t = some (.slice e)) (hi : P.info? e = some i) (hz : i.zero = some z)
    (hsize : i.size = sz) (hby : i.bytes = bytes) (hzs : z.cells.size = sz) (hsz : 0 < sz)
    (b : Addr) (n : Nat) (cs : List Value) (hown : Row w e sz (some b) n n cs)
    (X : Option Addr) (m c : Nat) (news : List Value) (hx : Rd w sz X m news) (h63 : n + m ≤ maxLen) (hbytes : (n + m) * bytes ≤ 140737488355328) :
    ∃ g o cap' w', (Builtin.append_ #[t, t] ty #[.slice (some b) n n, .slice X m c]).run P w = .ok (.slice (some ⟨g, o, none⟩) (n + m) cap') w' ∧ Row w' e sz (some ⟨g, o, none⟩) (n + m) cap' (cs ++ news) ∧
      Below w.heap.size w w' ∧ ((m = 0 ∧ g = b.block) ∨ w.heap.size ≤ g) := by
  obtain ⟨g, o, cap', w', h1, h2, h3, h4, _⟩ := run_append_copy0 w t ty e i z sz bytes ht hi hz hsize hby hzs hsz b n cs hown X m c news hx h63 hbytes
  exact ⟨g, o, cap', w', h1, h2, h3, h4⟩
theorem wpList_append_copy {w : World} {ops : Array Oper} {rest : List Oper} {o : Oper} {a : Act} {Q : Exit → Act → World → Prop} (hgd : o.guard = none) (s x : Operand) (t : TypeId)
    (ho : o.op = .call { callee := .builtin .append, args := #[s, x], argTypes := #[t, t] })
    (e : TypeId) (i : TypeInfo) (z : Value) (sz bytes : Nat) (ht : P.underlying t = some (.slice e)) (hi : P.info? e = some i) (hz : i.zero = some z)
    (hsize : i.size = sz) (hby : i.bytes = bytes) (hzs : z.cells.size = sz) (hsz : 0 < sz)
    (b : Addr) (n : Nat) (cs : List Value) (hs : a.eval s = .slice (some b) n n) (hown : Row w e sz (some b) n n cs)
    (X : Option Addr) (m c : Nat) (news : List Value) (hx : a.eval x = .slice X m c) (hrd : Rd w sz X m news)
    (h63 : n + m ≤ maxLen) (hbytes : (n + m) * bytes ≤ 140737488355328)
    (h : ∀ g off cap' w', Row w' e sz (some ⟨g, off, none⟩) (n + m) cap' (cs ++ news) → Below w.heap.size w w' → ((m = 0 ∧ g = b.block) ∨ w.heap.size ≤ g) → wpList P ops Q rest (a.put o.dst (.slice (some ⟨g, off, none⟩) (n + m) cap')) w') : wpList P ops Q (o :: rest) a w := by
  refine wpList_plain hgd fun K hK => ?_
  obtain ⟨g, off, cap', w', hr, h2, h3, h4⟩ := run_append_copy (P := P) w t o.type e i z sz bytes ht hi hz hsize hby hzs hsz b n cs hown X m c news hrd h63 hbytes
  unfold Oper.wp execOp
  simp only [ho, resolve, invoke, builtin, Sem.run_bind, Sem.run_pure, Result.andThen_ok, List.map_toArray, List.map_cons, List.map_nil, hs, hx, hr]
  exact hK _ _ (h g off cap' w' h2 h3 h4)
theorem wpList_append_copy0 {w : World} {ops : Array Oper} {rest : List Oper} {o : Oper} {a : Act} {Q : Exit → Act → World → Prop} (hgd : o.guard = none) (s x : Operand) (t : TypeId)
    (ho : o.op = .call { callee := .builtin .append, args := #[s, x], argTypes := #[t, t] })
    (e : TypeId) (i : TypeInfo) (z : Value) (sz bytes : Nat) (ht : P.underlying t = some (.slice e)) (hi : P.info? e = some i) (hz : i.zero = some z)
    (hsize : i.size = sz) (hby : i.bytes = bytes) (hzs : z.cells.size = sz) (hsz : 0 < sz)
    (b : Addr) (n : Nat) (cs : List Value) (hs : a.eval s = .slice (some b) n n) (hown : Row w e sz (some b) n n cs)
    (X : Option Addr) (m c : Nat) (news : List Value) (hx : a.eval x = .slice X m c) (hrd : Rd w sz X m news)
    (h63 : n + m ≤ maxLen) (hbytes : (n + m) * bytes ≤ 140737488355328)
    (h : ∀ g off cap' w', Row w' e sz (some ⟨g, off, none⟩) (n + m) cap' (cs ++ news) → Below w.heap.size w w' → ((m = 0 ∧ g = b.block) ∨ w.heap.size ≤ g) → (off = 0 ∨ off = b.off) → wpList P ops Q rest (a.put o.dst (.slice (some ⟨g, off, none⟩) (n + m) cap')) w') : wpList P ops Q (o :: rest) a w := by
  refine wpList_plain hgd fun K hK => ?_
  obtain ⟨g, off, cap', w', hr, h2, h3, h4, h5⟩ := run_append_copy0 (P := P) w t o.type e i z sz bytes ht hi hz hsize hby hzs hsz b n cs hown X m c news hrd h63 hbytes
  unfold Oper.wp execOp
  simp only [ho, resolve, invoke, builtin, Sem.run_bind, Sem.run_pure, Result.andThen_ok, List.map_toArray, List.map_cons, List.map_nil, hs, hx, hr]
  exact hK _ _ (h g off cap' w' h2 h3 h4 h5)
end
/-- a block without room for an element -/
theorem row_empty {w : World} {e sz Z : Nat} (h : w.heap[Z]? = some (.cells #[] e (0, 0))) : Row w e sz (some ⟨Z, 0, none⟩) 0 0 [] :=
  ⟨by simp, Nat.le_refl _, Nat.zero_le _, fun h => (by cases h), fun a ha => by injection ha with ha; subst ha; exact ⟨rfl, _, h, by simp, by simp⟩⟩
end Go.Proofs.YtcaapoacmfjnmaaGreat
