/- The reference's Copy; the sum of a walk, in memory. -/
import Derived.Test.YtcaapoacmfjnmaaGreatRsK
import Derived.Test.YtcaapoacmfjnmaaGreatWkT
import Derived.Test.YtcaapoacmfjnmaaGreatPut
namespace Go.Proofs.YtcaapoacmfjnmaaGreat
open Go.RowKit
set_option linter.unusedVariables false

theorem blk_stepW {v v' : World} {Z : Nat} {o : Obj} (h : v.heap[Z]? = some o) (hb : Below v.heap.size v v') : v'.heap[Z]? = some o := (hb.block _ (blk_lt h)).trans h
theorem more_rowW {u : World} {A : Option Addr} {l : List Ev} {e : Ev} (h : Rd u 4 A (l.length + 1) (l.flatMap encE ++ [.int .i64 e.t, .int .i64 e.k, .int .i64 e.o, .bool e.f])) : Rd u 4 A (l ++ [e]).length ((l ++ [e]).flatMap encE) := by
  rw [List.flatMap_append, List.length_append]
  simpa [encE] using h
theorem more_belowW {W v u : World} {g o : Nat} (h : Below W.heap.size W v) (hg : W.heap.size ≤ g) (hm : Mod (fun k => ∃ a, some (⟨g, o, none⟩ : Addr) = some a ∧ k = a.block) v u) : Below W.heap.size W u :=
  h.trans (hm.below _ h.size (fun k hk ⟨a, e1, e2⟩ => by injection e1 with e1; subst e1; simp only at e2; omega))

namespace Pr
/-- what a walk gathers -/
structure Sm where
  keys : List (List UInt8)
  runs : Nat
  stuck : Nat
def at6 (s : St) (row : List Ev) (a : Sm) : Sm := ⟨Ky.insG a.keys (Fo.key row), a.runs + 1, a.stuck + if waits s = true then 1 else 0⟩
def Good (x : Nat × Sm) : Prop := x.2.keys.length ≤ x.2.runs ∧ x.2.runs ≤ x.1 ∧ x.2.stuck ≤ x.1
theorem good_at {c : Nat} {a : Sm} {s : St} {row : List Ev} (h : Good (c, a)) : Good (c + 1, at6 s row a) := by
  obtain ⟨h1, h2, h3⟩ := h
  simp only at h1 h2 h3
  refine ⟨?_, ?_, ?_⟩
  · show (Ky.insG a.keys (Fo.key row)).length ≤ a.runs + 1
    rw [Ky.insG_len]
    split <;> omega
  · show a.runs + 1 ≤ c + 1
    omega
  · show a.stuck + (if waits s = true then 1 else 0) ≤ c + 1
    split <;> omega
theorem good_up {c : Nat} {a : Sm} (h : Good (c, a)) : Good (c + 1, a) := ⟨h.1, Nat.le_succ_of_le h.2.1, Nat.le_succ_of_le h.2.2⟩
theorem over_good (most : Nat) : ∀ n s row x, Good x → Good (over at6 most n s row x) := by
  intro n
  induction n with
  | zero =>
    intro s row x h
    simp only [over]
    split
    · exact good_up h
    · exact good_at h
  | succ n ih =>
    intro s row x h
    simp only [over]
    split
    · exact good_up h
    · have go : ∀ (l : List Nat) (y : Nat × Sm), Good y → Good (l.foldl (fun y t => over at6 most n (stepS s t) (row ++ [evAt s t]) y) y) := by
        intro l
        induction l with
        | nil => intro y hy; exact hy
        | cons t l ih2 => intro y hy; exact ih2 _ (ih _ _ _ hy)
      refine go _ _ ?_
      split
      · exact good_at h
      · exact good_up h
/-- one step of the walk: the children, from the left -/
def kids (most n : Nat) (s : St) (row : List Ev) (l : List Nat) (x : Nat × Sm) : Nat × Sm := l.foldl (fun y t => over at6 most n (stepS s t) (row ++ [evAt s t]) y) x
theorem kids_good (most n : Nat) (s : St) (row : List Ev) : ∀ (l : List Nat) (x : Nat × Sm), Good x → Good (kids most n s row l x) := by
  intro l
  induction l with
  | nil => intro y hy; exact hy
  | cons t l ih2 => intro y hy; exact ih2 _ (over_good most _ _ _ _ hy)
theorem over_now {α : Type} {at_ : St → List Ev → α → α} {most n : Nat} {s : St} {row : List Ev} {x : Nat × α} (h : most < x.1 + 1) : over at_ most n s row x = (x.1 + 1, x.2) := by
  cases n <;> simp only [over, if_pos h]
theorem kids_bound (most n : Nat) (s : St) (row : List Ev) (hw : Wf s) : ∀ (l : List Nat) (x : Nat × Sm), (kids most n s row l x).1 ≤ max x.1 (most + 1 + 4 * n) + l.length := by
  intro l
  induction l with
  | nil => intro x; show x.1 ≤ _; omega
  | cons t l ih =>
    intro x
    refine Nat.le_trans (ih _) ?_
    rw [List.length_cons]
    show max (over at6 most n (stepS s t) (row ++ [evAt s t]) x).1 (most + 1 + 4 * n) + l.length ≤ max x.1 (most + 1 + 4 * n) + (l.length + 1)
    by_cases hf : most < x.1 + 1
    · rw [over_now hf]; simp only; omega
    · have := over_bound at6 most n (stepS s t) (row ++ [evAt s t]) x (stepS_wf t hw).1
      omega
theorem kids_snoc {most n : Nat} {s : St} {row : List Ev} {l : List Nat} {i t : Nat} {x : Nat × Sm} (h : l[i]? = some t) : kids most n s row (l.take (i + 1)) x = over at6 most n (stepS s t) (row ++ [evAt s t]) (kids most n s row (l.take i) x) := by
  rw [List.take_add_one, h]
  unfold kids
  rw [List.foldl_append]
  rfl
theorem over_go {most n : Nat} {s : St} {row : List Ev} {c : Nat} {a : Sm} (h : ¬ most < c + 1) (ha : all s ≠ []) (hw : Wf s) (hf : fuels s ≤ n) : over at6 most n s row (c, a) = kids most (n - 1) s row (all s) (c + 1, a) := by
  cases n with
  | zero => exact absurd (all_nil_of hw (by omega)) ha
  | succ n => simp only [over, if_neg h, if_neg ha]; rfl
theorem over_nil {most n : Nat} {s : St} {row : List Ev} {c : Nat} {a : Sm} (h : ¬ most < c + 1) (ha : all s = []) : over at6 most n s row (c, a) = (c + 1, at6 s row a) := by
  cases n with
  | zero => simp only [over, if_neg h]
  | succ n => simp only [over, if_neg h, if_pos ha]; rw [ha]; rfl
end Pr
def smCells (A : Option Addr) (cap : Nat) (x : Nat × Pr.Sm) : Array Value := #[.slice A x.2.keys.length cap, .int .i64 x.2.runs, .int .i64 x.1, .int .i64 x.2.stuck]
/-- the reference's sum lies in block M -/
def SumAt (w : World) (M : Nat) (x : Nat × Pr.Sm) : Prop := ∃ A cap, w.heap[M]? = some (.cells (smCells A cap x) 46 (0, 0)) ∧ (∀ b, A = some b → b.block ≠ M) ∧ Rd w 1 A x.2.keys.length (x.2.keys.map sv) ∧ x.2.keys.length ≤ cap ∧ cap ≤ maxLen
theorem SumAt.below {w w' : World} {M : Nat} {x : Nat × Pr.Sm} (h : SumAt w M x) (hb : Below w.heap.size w w') : SumAt w' M x := by
  obtain ⟨A, cap, h1, h2, h3, h4⟩ := h
  exact ⟨A, cap, blk_stepW h1 hb, h2, h3.below hb (Nat.le_refl _), h4⟩
theorem SumAt.lt {w : World} {M : Nat} {x : Nat × Pr.Sm} (h : SumAt w M x) : M < w.heap.size := by
  obtain ⟨A, cap, h1, _⟩ := h
  exact blk_lt h1
/-- rows of other blocks stay where one block is written -/
theorem Rd.setB {w : World} {sz : Nat} {A : Option Addr} {n : Nat} {cs : List Value} (h : Rd w sz A n cs) {M k : Nat} (v : Value) (hA : ∀ b, A = some b → b.block ≠ M) : Rd (w.setCell ⟨M, k, none⟩ v) sz A n cs := by
  refine ⟨h.1, fun hn => ?_⟩
  obtain ⟨g, o, hA', hg, hc⟩ := h.2 hn
  have hm : Mod (fun k => k = M) w (w.setCell ⟨M, k, none⟩ v) := (Mod.refl (fun k => k = M) w).setCell (p := ⟨M, k, none⟩) (fun _ => rfl) v
  refine ⟨g, o, hA', Nat.lt_of_lt_of_le hg hm.size, fun j hj => ?_⟩
  rw [hm.cell g (o + j) hg (fun e => hA _ hA' e)]
  exact hc j hj

/-- what a copy leaves -/
def RefCopyOut (w : World) (C : Nat → Prop) (s : St) (x : Ending) (w' : World) : Prop := ∃ S' T' o', x = .returned (.pointer (some ⟨S', 0, none⟩)) ∧ RAt w' C S' T' o' s ∧ w.heap.size ≤ S' ∧ w.heap.size ≤ T' ∧ Below w.heap.size w w'
set_option maxRecDepth 100000 in
set_option maxHeartbeats 2000000 in
theorem refCopy_any (w : World) (C : Nat → Prop) (S T o : Nat) (s : St) (h : RAt w C S T o s) (hC : ∀ k, C k → k < w.heap.size) (hn4 : s.th.length ≤ 4) :
    Calls Tryz.prog 100 #[.pointer (some ⟨S, 0, none⟩)] w (RefCopyOut w C s) := by
  obtain ⟨i0, hi0, hz0, hz1, hz2⟩ := info_parts Tryz.infoRTh
  have hlen := h.len
  obtain ⟨PA, pc, tc, h1, h2, h3, h4, h5, h6, h7⟩ := h
  have c0 : ∀ j, w.cell? ⟨S, j, none⟩ = (rfCells s PA pc T o tc)[j]? := fun j => cell_blk h1 j
  have g0 := c0 0
  have g1 := c0 1
  have g2 := c0 2
  have g3 := c0 3
  have g4 := c0 4
  have g5 := c0 5
  have g6 := c0 6
  have g7 := c0 7
  have g8 := c0 8
  have g9 := c0 9
  simp only [rfCells, List.getElem?_toArray, List.getElem?_cons_succ, List.getElem?_cons_zero] at g0 g1 g2 g3 g4 g5 g6 g7 g8 g9
  have sl := blk_lt h1
  have HS := Lib.hid (And.intro h1 (And.intro h2.rd (And.intro h3 hlen)))
  have HC := Lib.hid hC
  obtain ⟨n, hn⟩ : ∃ n, n = s.th.length := ⟨_, rfl⟩
  obtain ⟨m, hm⟩ : ∃ m, m = s.p.code.length := ⟨_, rfl⟩
  rw [← hn] at g3 hn4
  rw [← hm] at g2
  have HN := Lib.hid (And.intro hn hm)
  have HSC : Hid (w.heap[S]? = some (.cells #[.int .i64 s.p.vars, .int .i64 s.p.mtx, .slice PA m pc, .slice (some ⟨T, o, none⟩) n tc, .int .i64 (s.v 0), .int .i64 (s.v 1), .int .i64 (s.v 2), .int .i64 (s.v 3), .int .i64 (s.h 0), .int .i64 (s.h 1)] 151 (0, 0))) := Lib.hid (by rw [hn, hm]; exact h1)
  clear c0 h1 h2 h3 h4 h5 h6 h7 hlen hC hn hm
  go_enter Tryz.func100, Tryz.ntmps100
  go_upto_region 2 with fail
  obtain ⟨W1, hW1⟩ : ∃ z, z = w.alloc (Obj.cells #[.int .i64 s.p.vars, .int .i64 s.p.mtx, .slice PA m pc, .slice (some ⟨T, o, none⟩) n tc, .int .i64 (s.v 0), .int .i64 (s.v 1), .int .i64 (s.v 2), .int .i64 (s.v 3), .int .i64 (s.h 0), .int .i64 (s.h 1)] 151) := ⟨_, rfl⟩
  obtain ⟨S1, hS1⟩ : ∃ z, z = w.heap.size := ⟨_, rfl⟩
  rw [← hW1, ← hS1]
  have hk1 : W1.heap[S1]? = some (.cells #[.int .i64 s.p.vars, .int .i64 s.p.mtx, .slice PA m pc, .slice (some ⟨T, o, none⟩) n tc, .int .i64 (s.v 0), .int .i64 (s.v 1), .int .i64 (s.v 2), .int .i64 (s.v 3), .int .i64 (s.h 0), .int .i64 (s.h 1)] 151 (0, 0)) := by rw [hW1, hS1]; exact heap_alloc_new w _
  have hb1 : Below w.heap.size w W1 := by rw [hW1]; exact (Below.refl _ _).alloc (Nat.le_refl _) _
  have HK1 := Lib.hid hk1
  have HB1 := Lib.hid hb1
  have HSW := Lib.hid (Nat.le_of_eq hS1.symm)
  have hx := (HS.out.2.1.below hb1 (Nat.le_refl _)).below (w' := W1.alloc (Obj.cells #[] 153)) ((Below.refl W1.heap.size W1).alloc (Nat.le_refl _) _) (Nat.le_refl _)
  rw [← HN.out.1] at hx
  have HRD := Lib.hid hx
  clear hk1 hb1 hx hW1 hS1 g0 g1 g2 g4 g5 g6 g7 g8 g9
  have g3 := (World.cell?_of_block (HB1.out.block S sl)).trans g3
  have sl : S < W1.heap.size := Nat.lt_of_lt_of_le sl HB1.out.size
  go_wp2_with (at_builtin; refine wpList_append_copy (by rfl) _ _ _ (by rfl) 153 i0 _ 4 32 Tryz.underlying149 hi0 hz0 hz1 hz2 rfl (by omega) ⟨W1.heap.size, 0, none⟩ 0 [] (by rfl) (row_empty (heap_alloc_new W1 _)) (some ⟨T, o, none⟩) n tc (s.th.flatMap encT) (by rfl) HRD.out (by unfold maxLen; omega) (by omega) ?_; intro g7 o7 cap7 u hown hb hgz; have hk2 := blk_stepW (blk_stepW HK1.out ((Below.refl W1.heap.size W1).alloc (Nat.le_refl _) (Obj.cells #[] 153))) hb; have c3 : u.cell? ⟨S1, 3, none⟩ = some (.slice (some ⟨T, o, none⟩) n tc) := cell_blk hk2 3; have fz := free_blk hk2 3; have ll := blk_lt hk2; skip)
  rw [Nat.zero_add, List.nil_append] at hown
  have hm : Mod (fun k => k = S1) u (u.setCell ⟨S1, 3, none⟩ (.slice (some ⟨g7, o7, none⟩) n cap7)) := (Mod.refl (fun k => k = S1) u).setCell (p := ⟨S1, 3, none⟩) (fun _ => rfl) _
  have hgS : S1 < g7 := by
    have := blk_lt HK1.out
    rcases hgz with ⟨_, e⟩ | e
    · omega
    · rw [World.size_alloc] at e; omega
  have hbu : Below w.heap.size w u := below_at HB1.out (below_at ((Below.refl W1.heap.size W1).alloc (Nat.le_refl _) (Obj.cells #[] 153)) hb)
  have hk3 : (u.setCell ⟨S1, 3, none⟩ (.slice (some ⟨g7, o7, none⟩) n cap7)).heap[S1]? = some (.cells (rfCells s PA pc g7 o7 cap7) 151 (0, 0)) := by
    rw [set_blk hk2, HN.out.1, HN.out.2]; simp [rfCells]
  have hbz : Below w.heap.size w (u.setCell ⟨S1, 3, none⟩ (.slice (some ⟨g7, o7, none⟩) n cap7)) := hbu.setCell (p := ⟨S1, 3, none⟩) HSW.out _
  have hrow := hown.mod hm (fun a ha e => by injection ha with ha; subst ha; simp only at e; omega)
  have hrow : Row (u.setCell ⟨S1, 3, none⟩ (.slice (some ⟨g7, o7, none⟩) n cap7)) 153 4 (some ⟨g7, o7, none⟩) s.th.length cap7 (s.th.flatMap encT) := by rw [← HN.out.1]; exact hrow
  refine bodyPost_ret (v := .pointer (some ⟨S1, 0, none⟩)) (by simp [results, Tryz.results100, go_sem]) rfl ?_
  have hCw : ∀ k, C k → k < w.heap.size := HC.out
  have hsw := HSW.out
  exact ⟨S1, g7, o7, rfl, ⟨PA, pc, cap7, hk3, hrow, (HS.out.2.2.1.mod (Mod.of_below_size hbz (fun _ => False)) (fun _ _ h => h)), fun hk => by have := hCw _ hk; omega, fun hk => by have := hCw _ hk; omega, fun e => by omega, HS.out.2.2.2⟩, hsw, by omega, hbz⟩
end Go.Proofs.YtcaapoacmfjnmaaGreat
