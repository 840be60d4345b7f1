/- The closures; may a row be? -/
import Derived.Test.YtcaapoacmfjnmaaGreatFoA
import Derived.Test.YtcaapoacmfjnmaaGreatFoTh
namespace Go.Proofs.YtcaapoacmfjnmaaGreat
open Go.RowKit
set_option linter.unusedVariables false

theorem one_box (w : World) (e : Ev) : ∃ W X, W = w.alloc (Obj.cells #[.int .i64 e.t, .int .i64 e.k, .int .i64 e.o, .bool e.f] 57) ∧ X = w.heap.size ∧ Below w.heap.size w W ∧
    W.cell? ⟨X, 0, none⟩ = some (.int .i64 e.t) ∧ W.cell? ⟨X, 1, none⟩ = some (.int .i64 e.k) ∧ W.cell? ⟨X, 2, none⟩ = some (.int .i64 e.o) ∧ W.cell? ⟨X, 3, none⟩ = some (.bool e.f) := by
  refine ⟨_, _, rfl, rfl, (Below.refl _ _).alloc (Nat.le_refl _) _, ?_, ?_, ?_, ?_⟩ <;> (rw [cell_blk (heap_alloc_new w _)]; rfl)

theorem right1_any (w : World) (e : Ev) : Calls Tryz.prog 121 #[valE e] w fun x w' => x = .returned (.bool (!Fo.right e)) ∧ Below w.heap.size w w' := by
  obtain ⟨W, X, hW, hX, hB, c0, c1, c2, c3⟩ := one_box w e
  have hcall : ∀ u, Calls Tryz.prog 37 #[valE e] u fun x w' => x = .returned (.bool (Fo.right e)) ∧ Below u.heap.size u w' := fun u => right_any u e
  obtain ⟨b, hb⟩ : ∃ b, b = Fo.right e := ⟨_, rfl⟩
  rw [← hb] at hcall ⊢
  unfold valE at hcall ⊢
  have HCALL := Lib.hid hcall
  have HB := Lib.hid hB
  have HX := Lib.hid hX
  clear hcall hB hb
  go_enter Tryz.func121, Tryz.ntmps121
  go_upto_region 1 with fail
  rw [← hW, ← hX]
  clear hW hX
  go_wp2_with fail
  refine (HCALL.out _).mono ?_
  rintro x w1 ⟨rfl, b1⟩
  have hb2 : Below w.heap.size w w1 := below2 HB.out b1
  go_wp2_with fail
  go_ret
  exact ⟨rfl, hb2⟩

theorem any_not {l : List Ev} {p : Ev → Bool} : (l.any fun e => !p e) = !(l.all p) := by
  induction l with
  | nil => rfl
  | cons x l ih => rw [List.any_cons, List.all_cons, ih, Bool.not_and]


/-- foata.right -/
theorem fright_any (w : World) (A : Option Addr) (cap : Nat) (l : List Ev) (hr : Rd w 4 A l.length (l.flatMap encE)) (hl : l.length < 4611686018427387904) :
    Calls Tryz.prog 77 #[.slice A l.length cap] w fun x w' => x = .returned (.bool (Fo.okRow l)) ∧ Below w.heap.size w w' := by
  have h := containsFunc_right1 w A cap l hr hl (fun e => !Fo.right e) (fun u e _ => right1_any u e)
  rw [any_not] at h
  obtain ⟨b, hb⟩ : ∃ b, b = Fo.rights l := ⟨_, rfl⟩
  have hb' : l.all Fo.right = b := by rw [hb]; rfl
  rw [hb'] at h
  have hok : Fo.okRow l = (decide (l.length ≤ 200) && b) := by rw [hb]; rfl
  rw [hok]
  have H := Lib.hid h
  clear h hb hb' hr hok
  by_cases hn : l.length ≤ 200
  · have e1 : decide (l.length ≤ 200) = true := decide_eq_true hn
    have hn' : (l.length : Int) ≤ 200 := by omega
    rw [e1]
    clear hn e1
    go_enter Tryz.func77, Tryz.ntmps77
    go_wp2_with fail
    refine H.out.mono ?_
    rintro x w1 ⟨rfl, b1⟩
    have HB := Lib.hid b1
    clear b1
    go_wp2_with fail
    go_ret
    exact ⟨by simp, HB.out⟩
  · have e1 : decide (l.length ≤ 200) = false := decide_eq_false hn
    have hn' : ¬ (l.length : Int) ≤ 200 := by omega
    rw [e1]
    clear hn e1
    go_enter Tryz.func77, Tryz.ntmps77
    go_wp2_with fail
    go_ret
    exact ⟨by simp, Below.refl _ _⟩

/-- The closure over an event in block X. -/
theorem lev1_any (w : World) (X : Nat) (e e' : Ev) (hX : ∃ cur t fr, w.heap[X]? = some (.cells cur t fr)) (h : EvAt w X 0 e) :
    Calls Tryz.prog 128 #[valE e', .pointer (some ⟨X, 0, none⟩)] w fun x w' => x = .returned (.bool (Fo.dep e' e)) ∧ Below w.heap.size w w' := by
  obtain ⟨cur, t, fr, hc⟩ := hX
  have lX := blk_lt hc
  obtain ⟨W, Y, hW, hY, hB, c0, c1, c2, c3⟩ := one_box w e'
  obtain ⟨d0, d1, d2, d3⟩ := h
  have mv : ∀ o v, w.cell? ⟨X, o, none⟩ = some v → W.cell? ⟨X, o, none⟩ = some v := fun o v hv => (World.cell?_of_block (hB.block X lX)).trans hv
  replace d0 := mv _ _ d0
  replace d1 := mv _ _ d1
  replace d2 := mv _ _ d2
  replace d3 := mv _ _ d3
  simp only [Nat.zero_add] at d1 d2 d3
  have hcall : ∀ u, Calls Tryz.prog 129 #[valE e', valE e] u fun x w' => x = .returned (.bool (Fo.dep e' e)) ∧ Below u.heap.size u w' := fun u => depends_any u e' e
  obtain ⟨b, hb⟩ : ∃ b, b = Fo.dep e' e := ⟨_, rfl⟩
  rw [← hb] at hcall ⊢
  unfold valE at hcall ⊢
  have HCALL := Lib.hid hcall
  have HB := Lib.hid hB
  have HY := Lib.hid hY
  clear hcall hB hb mv hc lX
  go_enter Tryz.func128, Tryz.ntmps128
  go_upto_region 1 with fail
  rw [← hW, ← hY]
  clear hW hY
  go_wp2_with fail
  refine (HCALL.out _).mono ?_
  rintro x w1 ⟨rfl, b1⟩
  have hb2 : Below w.heap.size w w1 := below2 HB.out b1
  go_wp2_with fail
  go_ret
  exact ⟨rfl, hb2⟩
end Go.Proofs.YtcaapoacmfjnmaaGreat
