/- Readers: events, rows and levels as arguments. -/
import Derived.Test.YtgahjibjladafaaRows
import Derived.Test.YtgahjibjladafaaFoM
namespace Go.Proofs.Ytgahjibjladafaa
open Go.ChangeShapes Go.WideShapes Go.ChangeAt Go.RowKit
set_option linter.unusedVariables false

theorem tr_slice0 {H : Type} {enc : TypeId × Value → H} {P : Program} {w : World} {base : Nat} {spare : Nat → Bool} {held : Bool} {fuel : Nat} {t e : TypeId} {cs : List Value} {y : DataW H × List MemPlace}
    (ht : P.underlying t = some (.slice e)) (h : DataW.trod enc P w base spare held fuel t cs = some y) : ∃ A n cap, cs = [.slice A n cap] := by
  cases fuel with
  | zero => simp [DataW.trod] at h
  | succ fuel =>
    unfold DataW.trod at h
    rw [ht] at h
    split at h <;> simp_all

set_option maxRecDepth 100000 in
theorem ev_read {H : Type} {enc : TypeId × Value → H} {w : World} {base : Nat} {spare : Nat → Bool} {held : Bool} (fuel : Nat) (cs : List Value) (y : DataW H × List MemPlace) (_ : cs.length = 4)
    (h : DataW.trod enc Try.prog w base spare held fuel 39 cs = some y) : ∃ e : Ev, cs = encE e ∧ True := by
  obtain ⟨hl, fuel', hf⟩ := tr_struct Try.underlying39 h
  have hl4 : cs.length = 4 := hl.trans (by kernel_rfl)
  match cs, hl4 with
  | [a, b, c, d], _ =>
    simp only [List.mem_cons, List.not_mem_nil, or_false, forall_eq_or_imp, forall_eq] at hf
    rw [show Try.prog.cellsOf 3 = 1 by kernel_rfl, show Try.prog.cellsOf 4 = 1 by kernel_rfl] at hf
    obtain ⟨⟨_, h1⟩, ⟨_, h2⟩, ⟨_, h3⟩, ⟨_, h4⟩⟩ := hf
    obtain ⟨t, e1, w1⟩ := tr_int Try.underlying3 h1
    obtain ⟨k, e2, w2⟩ := tr_int Try.underlying3 h2
    obtain ⟨o, e3, w3⟩ := tr_int Try.underlying3 h3
    obtain ⟨f, e4⟩ := tr_bool Try.underlying4 h4
    simp at e1 e2 e3 e4
    subst e1 e2 e3 e4
    exact ⟨⟨t, k, o, f⟩, rfl, trivial⟩
set_option maxRecDepth 100000 in
/-- a row of events -/
theorem row_read {H : Type} {enc : TypeId × Value → H} {w : World} {base : Nat} {spare : Nat → Bool} {held : Bool} {fuel : Nat} {A : Option Addr} {n cap : Nat} {y : DataW H × List MemPlace}
    (h : DataW.trod enc Try.prog w base spare held fuel 22 [.slice A n cap] = some y) : ∃ l : List Ev, l.length = n ∧ Rd w 4 A n (l.flatMap encE) ∧ n ≤ cap ∧ cap ≤ maxLen := by
  obtain ⟨l, hl, _, hr, h1, h2⟩ := tr_list (f := encE) (sz := 4) (by omega) Try.underlying22 (by kernel_rfl) ev_read h
  exact ⟨l, hl, hr, h1, h2⟩

structure SlE where
  A : Option Addr
  cap : Nat
  l : List Ev
def encS (x : SlE) : List Value := [.slice x.A x.l.length x.cap]
set_option maxRecDepth 100000 in
/-- levels -/
theorem lv_read {H : Type} {enc : TypeId × Value → H} {w : World} {base : Nat} {spare : Nat → Bool} {held : Bool} {fuel : Nat} {A : Option Addr} {n cap : Nat} {y : DataW H × List MemPlace}
    (h : DataW.trod enc Try.prog w base spare held fuel 24 [.slice A n cap] = some y) : ∃ L : List (List Ev), L.length = n ∧ LvAt w w.heap.size A L ∧ n ≤ maxLen ∧ ∀ q ∈ L, q.length ≤ maxLen := by
  obtain ⟨xs, hl, hg, hr, h1, h2⟩ := tr_list (f := encS) (sz := 1) (good := fun x => Rd w 4 x.A x.l.length (x.l.flatMap encE) ∧ x.l.length ≤ x.cap ∧ x.cap ≤ maxLen) (by omega) Try.underlying24 (by kernel_rfl) (fun fuel c y hc h => by
    obtain ⟨A, n, cap, rfl⟩ := tr_slice0 Try.underlying22 h
    obtain ⟨l, rfl, hr, hm⟩ := row_read h
    exact ⟨⟨A, cap, l⟩, rfl, hr, hm⟩) h
  subst hl
  have hlen : (xs.map SlE.l).length = xs.length := by simp
  have hat : ∀ i, (hi : i < xs.length) → (xs.flatMap encS)[i]? = some (.slice xs[i].A xs[i].l.length xs[i].cap) := fun i hi => by
    have := flat_get (f := encS) (sz := 1) (fun x => rfl) xs i 0 hi (by omega)
    rw [Nat.mul_one, Nat.add_zero] at this
    rw [this]; rfl
  refine ⟨xs.map SlE.l, hlen, ⟨xs.flatMap encS, hlen ▸ hr.toB, fun i hi => ?_⟩, Nat.le_trans h1 h2, fun q hq => ?_⟩
  · have hi' : i < xs.length := by rw [hlen] at hi; exact hi
    refine ⟨xs[i].A, xs[i].cap, ?_, ?_⟩
    · rw [hat i hi', List.getElem_map]
    · rw [List.getElem_map]; exact ⟨(hg _ (List.getElem_mem hi')).1.toB, (hg _ (List.getElem_mem hi')).2⟩
  · obtain ⟨x, hx, rfl⟩ := List.mem_map.1 hq
    exact Nat.le_trans (hg x hx).2.1 (hg x hx).2.2
end Go.Proofs.Ytgahjibjladafaa
