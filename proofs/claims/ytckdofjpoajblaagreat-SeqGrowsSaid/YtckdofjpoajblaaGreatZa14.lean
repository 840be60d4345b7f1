/- Part 14 of the proof of seqExact_holds: what it rests on. -/
import Derived.Test.YtckdofjpoajblaaGreatZa13
namespace Go.Proofs.YtckdofjpoajblaaGreat
open Go.RowKit
set_option linter.unusedVariables false
theorem blk_stepW {v v' : World} {Z : Nat} {o : Obj} (h : v.heap[Z]? = some o) (hb : Below v.heap.size v v') : v'.heap[Z]? = some o := (hb.block _ (blk_lt h)).trans h
theorem more_rowW {u : World} {A : Option Addr} {l : List Ev} {e : Ev} (h : Rd u 4 A (l.length + 1) (l.flatMap encE ++ [.int .i64 e.t, .int .i64 e.k, .int .i64 e.o, .bool e.f])) : Rd u 4 A (l ++ [e]).length ((l ++ [e]).flatMap encE) := by
  rw [List.flatMap_append, List.length_append]
  simpa [encE] using h
theorem more_belowW {W v u : World} {g o : Nat} (h : Below W.heap.size W v) (hg : W.heap.size ≤ g) (hm : Mod (fun k => ∃ a, some (⟨g, o, none⟩ : Addr) = some a ∧ k = a.block) v u) : Below W.heap.size W u :=
  h.trans (hm.below _ h.size (fun k hk ⟨a, e1, e2⟩ => by injection e1 with e1; subst e1; simp only at e2; omega))
namespace Pr
structure Sm where
  keys : List (List UInt8)
  runs : Nat
  stuck : Nat
def at6 (s : St) (row : List Ev) (a : Sm) : Sm := ⟨Ky.insG a.keys (Fo.key row), a.runs + 1, a.stuck + if waits s = true then 1 else 0⟩
def Good (x : Nat × Sm) : Prop := x.2.keys.length ≤ x.2.runs ∧ x.2.runs ≤ x.1 ∧ x.2.stuck ≤ x.1
theorem good_at {c : Nat} {a : Sm} {s : St} {row : List Ev} (h : Good (c, a)) : Good (c + 1, at6 s row a) := by
  obtain ⟨h1, h2, h3⟩ := h
  simp only at h1 h2 h3
  refine ⟨?_, ?_, ?_⟩
  · show (Ky.insG a.keys (Fo.key row)).length ≤ a.runs + 1
    rw [Ky.insG_len]
    split <;> omega
  · show a.runs + 1 ≤ c + 1
    omega
  · show a.stuck + (if waits s = true then 1 else 0) ≤ c + 1
    split <;> omega
theorem good_up {c : Nat} {a : Sm} (h : Good (c, a)) : Good (c + 1, a) := ⟨h.1, Nat.le_succ_of_le h.2.1, Nat.le_succ_of_le h.2.2⟩
theorem over_good (most : Nat) : ∀ n s row x, Good x → Good (over at6 most n s row x) := by
  intro n
  induction n with
  | zero =>
    intro s row x h
    simp only [over]
    split
    · exact good_up h
    · exact good_at h
  | succ n ih =>
    intro s row x h
    simp only [over]
    split
    · exact good_up h
    · have go : ∀ (l : List Nat) (y : Nat × Sm), Good y → Good (l.foldl (fun y t => over at6 most n (stepS s t) (row ++ [evAt s t]) y) y) := by
        intro l
        induction l with
        | nil => intro y hy; exact hy
        | cons t l ih2 => intro y hy; exact ih2 _ (ih _ _ _ hy)
      refine go _ _ ?_
      split
      · exact good_at h
      · exact good_up h
def kids (most n : Nat) (s : St) (row : List Ev) (l : List Nat) (x : Nat × Sm) : Nat × Sm := l.foldl (fun y t => over at6 most n (stepS s t) (row ++ [evAt s t]) y) x
theorem kids_good (most n : Nat) (s : St) (row : List Ev) : ∀ (l : List Nat) (x : Nat × Sm), Good x → Good (kids most n s row l x) := by
  intro l
  induction l with
  | nil => intro y hy; exact hy
  | cons t l ih2 => intro y hy; exact ih2 _ (over_good most _ _ _ _ hy)
theorem over_now {α : Type} {at_ : St → List Ev → α → α} {most n : Nat} {s : St} {row : List Ev} {x : Nat × α} (h : most < x.1 + 1) : over at_ most n s row x = (x.1 + 1, x.2) := by
  cases n <;> simp only [over, if_pos h]
theorem kids_bound (most n : Nat) (s : St) (row : List Ev) (hw : Wf s) : ∀ (l : List Nat) (x : Nat × Sm), (kids most n s row l x).1 ≤ max x.1 (most + 1 + 4 * n) + l.length := by
  intro l
  induction l with
  | nil => intro x; show x.1 ≤ _; omega
  | cons t l ih =>
    intro x
    refine Nat.le_trans (ih _) ?_
    rw [List.length_cons]
    show max (over at6 most n (stepS s t) (row ++ [evAt s t]) x).1 (most + 1 + 4 * n) + l.length ≤ max x.1 (most + 1 + 4 * n) + (l.length + 1)
    by_cases hf : most < x.1 + 1
    · rw [over_now hf]; simp only; omega
    · have := over_bound at6 most n (stepS s t) (row ++ [evAt s t]) x (stepS_wf t hw).1
      omega
theorem kids_snoc {most n : Nat} {s : St} {row : List Ev} {l : List Nat} {i t : Nat} {x : Nat × Sm} (h : l[i]? = some t) : kids most n s row (l.take (i + 1)) x = over at6 most n (stepS s t) (row ++ [evAt s t]) (kids most n s row (l.take i) x) := by
  rw [List.take_add_one, h]
  unfold kids
  rw [List.foldl_append]
  rfl
theorem over_go {most n : Nat} {s : St} {row : List Ev} {c : Nat} {a : Sm} (h : ¬ most < c + 1) (ha : all s ≠ []) (hw : Wf s) (hf : fuels s ≤ n) : over at6 most n s row (c, a) = kids most (n - 1) s row (all s) (c + 1, a) := by
  cases n with
  | zero => exact absurd (all_nil_of hw (by omega)) ha
  | succ n => simp only [over, if_neg h, if_neg ha]; rfl
theorem over_nil {most n : Nat} {s : St} {row : List Ev} {c : Nat} {a : Sm} (h : ¬ most < c + 1) (ha : all s = []) : over at6 most n s row (c, a) = (c + 1, at6 s row a) := by
  cases n with
  | zero => simp only [over, if_neg h]
  | succ n => simp only [over, if_neg h, if_pos ha]; rw [ha]; rfl
end Pr
def smCells (A : Option Addr) (cap : Nat) (x : Nat × Pr.Sm) : Array Value := #[.slice A x.2.keys.length cap, .int .i64 x.2.runs, .int .i64 x.1, .int .i64 x.2.stuck]
def SumAt (w : World) (M : Nat) (x : Nat × Pr.Sm) : Prop := ∃ A cap, w.heap[M]? = some (.cells (smCells A cap x) 29 (0, 0)) ∧ (∀ b, A = some b → b.block ≠ M) ∧ Rd w 1 A x.2.keys.length (x.2.keys.map sv) ∧ x.2.keys.length ≤ cap ∧ cap ≤ maxLen
theorem SumAt.below {w w' : World} {M : Nat} {x : Nat × Pr.Sm} (h : SumAt w M x) (hb : Below w.heap.size w w') : SumAt w' M x := by
  obtain ⟨A, cap, h1, h2, h3, h4⟩ := h
  exact ⟨A, cap, blk_stepW h1 hb, h2, h3.below hb (Nat.le_refl _), h4⟩
theorem SumAt.lt {w : World} {M : Nat} {x : Nat × Pr.Sm} (h : SumAt w M x) : M < w.heap.size := by
  obtain ⟨A, cap, h1, _⟩ := h
  exact blk_lt h1
theorem Rd.setB {w : World} {sz : Nat} {A : Option Addr} {n : Nat} {cs : List Value} (h : Rd w sz A n cs) {M k : Nat} (v : Value) (hA : ∀ b, A = some b → b.block ≠ M) : Rd (w.setCell ⟨M, k, none⟩ v) sz A n cs := by
  refine ⟨h.1, fun hn => ?_⟩
  obtain ⟨g, o, hA', hg, hc⟩ := h.2 hn
  have hm : Mod (fun k => k = M) w (w.setCell ⟨M, k, none⟩ v) := (Mod.refl (fun k => k = M) w).setCell (p := ⟨M, k, none⟩) (fun _ => rfl) v
  refine ⟨g, o, hA', Nat.lt_of_lt_of_le hg hm.size, fun j hj => ?_⟩
  rw [hm.cell g (o + j) hg (fun e => hA _ hA' e)]
  exact hc j hj
def RefCopyOut (w : World) (C : Nat → Prop) (s : St) (x : Ending) (w' : World) : Prop := ∃ S' T' o', x = .returned (.pointer (some ⟨S', 0, none⟩)) ∧ RAt w' C S' T' o' s ∧ w.heap.size ≤ S' ∧ w.heap.size ≤ T' ∧ Below w.heap.size w w'
set_option maxRecDepth 100000 in
set_option maxHeartbeats 2000000 in
theorem refCopy_any (w : World) (C : Nat → Prop) (S T o : Nat) (s : St) (h : RAt w C S T o s) (hC : ∀ k, C k → k < w.heap.size) (hn4 : s.th.length ≤ 4) :
    Calls Tryz.prog 87 #[.pointer (some ⟨S, 0, none⟩)] w (RefCopyOut w C s) := by
  obtain ⟨i0, hi0, hz0, hz1, hz2⟩ := info_parts Tryz.infoRTh
  have hlen := h.len
  obtain ⟨PA, pc, tc, h1, h2, h3, h4, h5, h6, h7⟩ := h
  have c0 : ∀ j, w.cell? ⟨S, j, none⟩ = (rfCells s PA pc T o tc)[j]? := fun j => cell_blk h1 j
  have g0 := c0 0
  have g1 := c0 1
  have g2 := c0 2
  have g3 := c0 3
  have g4 := c0 4
  have g5 := c0 5
  have g6 := c0 6
  have g7 := c0 7
  have g8 := c0 8
  have g9 := c0 9
  simp only [rfCells, List.getElem?_toArray, List.getElem?_cons_succ, List.getElem?_cons_zero] at g0 g1 g2 g3 g4 g5 g6 g7 g8 g9
  have sl := blk_lt h1
  have HS := Lib.hid (And.intro h1 (And.intro h2.rd (And.intro h3 hlen)))
  have HC := Lib.hid hC
  obtain ⟨n, hn⟩ : ∃ n, n = s.th.length := ⟨_, rfl⟩
  obtain ⟨m, hm⟩ : ∃ m, m = s.p.code.length := ⟨_, rfl⟩
  rw [← hn] at g3 hn4
  rw [← hm] at g2
  have HN := Lib.hid (And.intro hn hm)
  have HSC : Hid (w.heap[S]? = some (.cells #[.int .i64 s.p.vars, .int .i64 s.p.mtx, .slice PA m pc, .slice (some ⟨T, o, none⟩) n tc, .int .i64 (s.v 0), .int .i64 (s.v 1), .int .i64 (s.v 2), .int .i64 (s.v 3), .int .i64 (s.h 0), .int .i64 (s.h 1)] 156 (0, 0))) := Lib.hid (by rw [hn, hm]; exact h1)
  clear c0 h1 h2 h3 h4 h5 h6 h7 hlen hC hn hm
  go_enter Tryz.func87, Tryz.ntmps87
  go_upto_region 2 with fail
  obtain ⟨W1, hW1⟩ : ∃ z, z = w.alloc (Obj.cells #[.int .i64 s.p.vars, .int .i64 s.p.mtx, .slice PA m pc, .slice (some ⟨T, o, none⟩) n tc, .int .i64 (s.v 0), .int .i64 (s.v 1), .int .i64 (s.v 2), .int .i64 (s.v 3), .int .i64 (s.h 0), .int .i64 (s.h 1)] 156) := ⟨_, rfl⟩
  obtain ⟨S1, hS1⟩ : ∃ z, z = w.heap.size := ⟨_, rfl⟩
  rw [← hW1, ← hS1]
  have hk1 : W1.heap[S1]? = some (.cells #[.int .i64 s.p.vars, .int .i64 s.p.mtx, .slice PA m pc, .slice (some ⟨T, o, none⟩) n tc, .int .i64 (s.v 0), .int .i64 (s.v 1), .int .i64 (s.v 2), .int .i64 (s.v 3), .int .i64 (s.h 0), .int .i64 (s.h 1)] 156 (0, 0)) := by rw [hW1, hS1]; exact heap_alloc_new w _
  have hb1 : Below w.heap.size w W1 := by rw [hW1]; exact (Below.refl _ _).alloc (Nat.le_refl _) _
  have HK1 := Lib.hid hk1
  have HB1 := Lib.hid hb1
  have HSW := Lib.hid (Nat.le_of_eq hS1.symm)
  have hx := (HS.out.2.1.below hb1 (Nat.le_refl _)).below (w' := W1.alloc (Obj.cells #[] 162)) ((Below.refl W1.heap.size W1).alloc (Nat.le_refl _) _) (Nat.le_refl _)
  rw [← HN.out.1] at hx
  have HRD := Lib.hid hx
  clear hk1 hb1 hx hW1 hS1 g0 g1 g2 g4 g5 g6 g7 g8 g9
  have g3 := (World.cell?_of_block (HB1.out.block S sl)).trans g3
  have sl : S < W1.heap.size := Nat.lt_of_lt_of_le sl HB1.out.size
  go_wp2_with (at_builtin; refine wpList_append_copy (by rfl) _ _ _ (by rfl) 162 i0 _ 4 32 Tryz.underlying154 hi0 hz0 hz1 hz2 rfl (by omega) ⟨W1.heap.size, 0, none⟩ 0 [] (by rfl) (row_empty (heap_alloc_new W1 _)) (some ⟨T, o, none⟩) n tc (s.th.flatMap encT) (by rfl) HRD.out (by unfold maxLen; omega) (by omega) ?_; intro g7 o7 cap7 u hown hb hgz; have hk2 := blk_stepW (blk_stepW HK1.out ((Below.refl W1.heap.size W1).alloc (Nat.le_refl _) (Obj.cells #[] 162))) hb; have c3 : u.cell? ⟨S1, 3, none⟩ = some (.slice (some ⟨T, o, none⟩) n tc) := cell_blk hk2 3; have fz := free_blk hk2 3; have ll := blk_lt hk2; skip)
  rw [Nat.zero_add, List.nil_append] at hown
  have hm : Mod (fun k => k = S1) u (u.setCell ⟨S1, 3, none⟩ (.slice (some ⟨g7, o7, none⟩) n cap7)) := (Mod.refl (fun k => k = S1) u).setCell (p := ⟨S1, 3, none⟩) (fun _ => rfl) _
  have hgS : S1 < g7 := by
    have := blk_lt HK1.out
    rcases hgz with ⟨_, e⟩ | e
    · omega
    · rw [World.size_alloc] at e; omega
  have hbu : Below w.heap.size w u := below_at HB1.out (below_at ((Below.refl W1.heap.size W1).alloc (Nat.le_refl _) (Obj.cells #[] 162)) hb)
  have hk3 : (u.setCell ⟨S1, 3, none⟩ (.slice (some ⟨g7, o7, none⟩) n cap7)).heap[S1]? = some (.cells (rfCells s PA pc g7 o7 cap7) 156 (0, 0)) := by
    rw [set_blk hk2, HN.out.1, HN.out.2]; simp [rfCells]
  have hbz : Below w.heap.size w (u.setCell ⟨S1, 3, none⟩ (.slice (some ⟨g7, o7, none⟩) n cap7)) := hbu.setCell (p := ⟨S1, 3, none⟩) HSW.out _
  have hrow := hown.mod hm (fun a ha e => by injection ha with ha; subst ha; simp only at e; omega)
  have hrow : Row (u.setCell ⟨S1, 3, none⟩ (.slice (some ⟨g7, o7, none⟩) n cap7)) 162 4 (some ⟨g7, o7, none⟩) s.th.length cap7 (s.th.flatMap encT) := by rw [← HN.out.1]; exact hrow
  refine bodyPost_ret (v := .pointer (some ⟨S1, 0, none⟩)) (by simp [results, Tryz.results87, go_sem]) rfl ?_
  have hCw : ∀ k, C k → k < w.heap.size := HC.out
  have hsw := HSW.out
  exact ⟨S1, g7, o7, rfl, ⟨PA, pc, cap7, hk3, hrow, (HS.out.2.2.1.mod (Mod.of_below_size hbz (fun _ => False)) (fun _ _ h => h)), fun hk => by have := hCw _ hk; omega, fun hk => by have := hCw _ hk; omega, fun e => by omega, HS.out.2.2.2⟩, hsw, by omega, hbz⟩
end Go.Proofs.YtckdofjpoajblaaGreat
namespace Go.Proofs.YtckdofjpoajblaaGreat
open Go.RowKit
set_option linter.unusedVariables false
def RefOverC (n : Nat) (s : St) : Prop := ∀ (w : World) (C : Nat → Prop) (S T o : Nat) (row : List Ev) (A : Option Addr) (cap M c : Nat) (a : Pr.Sm) (most : Nat), RAt w C S T o s → (∀ k, C k → k < w.heap.size) →
  Rd w 4 A row.length (row.flatMap encE) → row.length + n ≤ 100 → M ≠ S → M ≠ T → ¬ C M → (∀ b, A = some b → b.block ≠ M) → SumAt w M (c, a) → Pr.Good (c, a) → c + 4 * n ≤ most + 300 → most ≤ 100000 →
  Calls Tryz.prog 53 #[.pointer (some ⟨M, 0, none⟩), .pointer (some ⟨S, 0, none⟩), .slice A row.length cap, .int .i64 (most : Int)] w fun x w' => x = .returned (.tuple #[]) ∧ SumAt w' M (Pr.over Pr.at6 most n s row (c, a)) ∧ Mod (fun k => k = M) w w'
set_option maxRecDepth 100000 in
set_option maxHeartbeats 8000000 in
theorem refOver_full (n : Nat) (s : St) (hw : Pr.Wf s) (w : World) (C : Nat → Prop) (S T o : Nat) (row : List Ev) (A : Option Addr) (cap M c : Nat) (a : Pr.Sm) (most : Nat) (h : RAt w C S T o s) (hC : ∀ k, C k → k < w.heap.size)
    (hr : Rd w 4 A row.length (row.flatMap encE)) (hrl : row.length + n ≤ 100) (hMS : M ≠ S) (hMT : M ≠ T) (hMC : ¬ C M) (hAM : ∀ b, A = some b → b.block ≠ M) (hs : SumAt w M (c, a)) (hg : Pr.Good (c, a)) (hc : c ≤ most + 300) (hmost : most ≤ 100000) (hf : most < c + 1) :
    Calls Tryz.prog 53 #[.pointer (some ⟨M, 0, none⟩), .pointer (some ⟨S, 0, none⟩), .slice A row.length cap, .int .i64 (most : Int)] w fun x w' => x = .returned (.tuple #[]) ∧ SumAt w' M (c + 1, a) ∧ Mod (fun k => k = M) w w' := by
  obtain ⟨KA, kc, hM, hKM, hkr, hk1, hk2⟩ := hs
  have m0 : w.cell? ⟨M, 0, none⟩ = some (.slice KA a.keys.length kc) := cell_blk hM 0
  have m1 : w.cell? ⟨M, 1, none⟩ = some (.int .i64 a.runs) := cell_blk hM 1
  have m2 : w.cell? ⟨M, 2, none⟩ = some (.int .i64 c) := cell_blk hM 2
  have m3 : w.cell? ⟨M, 3, none⟩ = some (.int .i64 a.stuck) := cell_blk hM 3
  have ml := blk_lt hM
  have f2 := free_blk hM 2
  have hm1 : Mod (fun k => k = M) w (w.setCell ⟨M, 2, none⟩ (.int .i64 ((c : Int) + 1))) := (Mod.refl (fun k => k = M) w).setCell (p := ⟨M, 2, none⟩) (fun _ => rfl) _
  have hM1 : (w.setCell ⟨M, 2, none⟩ (.int .i64 ((c : Int) + 1))).heap[M]? = some (.cells (smCells KA kc (c + 1, a)) 29 (0, 0)) := by rw [set_blk hM]; simp [smCells]
  have hS1 := h.mod hm1 (fun k hk e => hMC (e ▸ hk)) (fun e => hMS e.symm) (fun e => hMT e.symm)
  have hr1 := hr.setB (M := M) (k := 2) (.int .i64 ((c : Int) + 1)) hAM
  have hk3 := hkr.setB (M := M) (k := 2) (.int .i64 ((c : Int) + 1)) hKM
  have e1 : wrap64 ((c : Int) + 1) = (c : Int) + 1 := IntWalk.wrap64_in _ (by omega)
  have HE1 := Lib.hid e1
  have d1 : decide ((most : Int) < (c : Int) + 1) = true := decide_eq_true (by omega)
  have d2 : (most : Int) < (c : Int) + 1 := by omega
  have HR := Lib.hid (show SumAt (w.setCell ⟨M, 2, none⟩ (.int .i64 ((c : Int) + 1))) M (c + 1, a) from ⟨KA, kc, hM1, hKM, hk3, hk1, hk2⟩)
  have HM := Lib.hid hm1
  have HM1 := Lib.hid hM1
  clear h hC hr hw hg hM hkr hk3 hm1 hM1 hS1 hr1 hKM hAM hMC hMS hMT e1 hk1 hk2
  go_enter Tryz.func53, Tryz.ntmps53
  go_upto_region 1 with fail
  try rw [HE1.out]
  obtain ⟨W1, hW1⟩ : ∃ z, z = w.setCell ⟨M, 2, none⟩ (.int .i64 ((c : Int) + 1)) := ⟨_, rfl⟩
  rw [← hW1] at HR HM HM1 ⊢
  clear hW1 m0 m1 m2 m3 ml f2
  have m2 : W1.cell? ⟨M, 2, none⟩ = some (.int .i64 ((c : Int) + 1)) := by rw [cell_blk HM1.out]; rfl
  have ml := blk_lt HM1.out
  go_wp2_with fail
  refine bodyPost_ret (v := .tuple #[]) (by simp [results, Tryz.results53, go_sem]) rfl ?_
  exact ⟨rfl, HR.out, HM.out⟩
set_option maxRecDepth 100000 in
set_option maxHeartbeats 8000000 in
theorem refOver_end (n : Nat) (s : St) (hw : Pr.Wf s) (w : World) (C : Nat → Prop) (S T o : Nat) (row : List Ev) (A : Option Addr) (cap M c : Nat) (a : Pr.Sm) (most : Nat) (h : RAt w C S T o s) (hC : ∀ k, C k → k < w.heap.size)
    (hr : Rd w 4 A row.length (row.flatMap encE)) (hrl : row.length + n ≤ 100) (hMS : M ≠ S) (hMT : M ≠ T) (hMC : ¬ C M) (hAM : ∀ b, A = some b → b.block ≠ M) (hs : SumAt w M (c, a)) (hg : Pr.Good (c, a)) (hc : c ≤ most + 300) (hmost : most ≤ 100000) (hf : ¬ most < c + 1) (ha : Pr.all s = []) :
    Calls Tryz.prog 53 #[.pointer (some ⟨M, 0, none⟩), .pointer (some ⟨S, 0, none⟩), .slice A row.length cap, .int .i64 (most : Int)] w fun x w' => x = .returned (.tuple #[]) ∧ SumAt w' M (c + 1, Pr.at6 s row a) ∧ Mod (fun k => k = M) w w' := by
  obtain ⟨KA, kc, hM, hKM, hkr, hk1, hk2⟩ := hs
  have m0 : w.cell? ⟨M, 0, none⟩ = some (.slice KA a.keys.length kc) := cell_blk hM 0
  have m1 : w.cell? ⟨M, 1, none⟩ = some (.int .i64 a.runs) := cell_blk hM 1
  have m2 : w.cell? ⟨M, 2, none⟩ = some (.int .i64 c) := cell_blk hM 2
  have m3 : w.cell? ⟨M, 3, none⟩ = some (.int .i64 a.stuck) := cell_blk hM 3
  have ml := blk_lt hM
  have f2 := free_blk hM 2
  have hm1 : Mod (fun k => k = M) w (w.setCell ⟨M, 2, none⟩ (.int .i64 ((c : Int) + 1))) := (Mod.refl (fun k => k = M) w).setCell (p := ⟨M, 2, none⟩) (fun _ => rfl) _
  have hM1 : (w.setCell ⟨M, 2, none⟩ (.int .i64 ((c : Int) + 1))).heap[M]? = some (.cells (smCells KA kc (c + 1, a)) 29 (0, 0)) := by rw [set_blk hM]; simp [smCells]
  have hS1 := h.mod hm1 (fun k hk e => hMC (e ▸ hk)) (fun e => hMS e.symm) (fun e => hMT e.symm)
  have hr1 := hr.setB (M := M) (k := 2) (.int .i64 ((c : Int) + 1)) hAM
  have hk3 := hkr.setB (M := M) (k := 2) (.int .i64 ((c : Int) + 1)) hKM
  have e1 : wrap64 ((c : Int) + 1) = (c : Int) + 1 := IntWalk.wrap64_in _ (by omega)
  have HE1 := Lib.hid e1
  have d1 : decide ((most : Int) < (c : Int) + 1) = false := decide_eq_false (by omega)
  have d2 : ¬ (most : Int) < (c : Int) + 1 := by omega
  obtain ⟨W1, hW1⟩ : ∃ z, z = w.setCell ⟨M, 2, none⟩ (.int .i64 ((c : Int) + 1)) := ⟨_, rfl⟩
  rw [← hW1] at hm1 hM1 hS1 hr1 hk3
  have hall := refAll_any W1 C S T o s hS1 hw
  have hlen : ((Pr.all s).map (fun (t : Nat) => (t : Int))).length = (Pr.all s).length := by simp
  rw [hlen] at hall
  obtain ⟨nt, hnt⟩ : ∃ nt, nt = s.th.length := ⟨_, rfl⟩
  have hn4 := hw.n4
  rw [← hnt] at hn4
  rw [ha] at hall
  have hall0 : Calls Tryz.prog 85 #[.pointer (some ⟨S, 0, none⟩)] W1 fun x w' => ∃ A cap, x = .returned (.slice A 0 cap) ∧ Below W1.heap.size W1 w' := hall.mono fun x w' ⟨A, cap, h1, _, h3⟩ => ⟨A, cap, h1, h3⟩
  have hgood := hg
  obtain ⟨hg1, hg2, hg3⟩ := hgood
  simp only at hg1 hg2 hg3
  have HALL := Lib.hid hall0
  have HS1 := Lib.hid hS1
  have HR1 := Lib.hid hr1
  have HK3 := Lib.hid (And.intro hk3 (And.intro hKM (And.intro hk1 hk2)))
  have HM := Lib.hid hm1
  have HM1 := Lib.hid hM1
  have HW1 := Lib.hid hW1
  have HWF := Lib.hid hw
  have HNT := Lib.hid hnt
  have HRL := Lib.hid hrl
  have HNM := Lib.hid (And.intro hMS (And.intro hMT (And.intro hMC hAM)))
  have HGG := Lib.hid (And.intro hg1 (And.intro hg2 hg3))
  have hrun : a.runs ≤ 200000 := by omega
  have hstu : a.stuck ≤ 200000 := by omega
  clear h hC hr hw hg hM hkr hk3 hm1 hM1 hS1 hr1 hKM hAM hMC hMS hMT e1 hk1 hk2 hall hall0 hW1 ha hlen hnt hrl hg1 hg2 hg3
  go_enter Tryz.func53, Tryz.ntmps53
  go_upto_region 1 with fail
  try rw [HE1.out]
  rw [← HW1.out]
  clear m0 m1 m2 m3 ml f2 HW1
  have m2 : W1.cell? ⟨M, 2, none⟩ = some (.int .i64 ((c : Int) + 1)) := by rw [cell_blk HM1.out]; rfl
  have ml := blk_lt HM1.out
  go_wp2_with fail
  refine HALL.out.mono ?_
  rintro y w2 ⟨A2, c2, rfl, b2⟩
  have HM2 := Lib.hid (blk_stepW HM1.out b2)
  have HS2 := Lib.hid (HS1.out.below b2)
  have HR2 := Lib.hid (HR1.out.below b2 (Nat.le_refl _))
  have HK2 := Lib.hid (HK3.out.1.below b2 (Nat.le_refl _))
  have HMO := Lib.hid (HM.out.trans (Mod.of_below_size b2 _))
  clear m2 ml HALL HM1 HS1 HR1 HM b2
  have m1 : w2.cell? ⟨M, 1, none⟩ = some (.int .i64 a.runs) := by rw [cell_blk HM2.out]; rfl
  have ml := blk_lt HM2.out
  have f1 := free_blk HM2.out 1
  go_upto_region 5 with fail
  have e2 : wrap64 ((a.runs : Int) + 1) = (a.runs : Int) + 1 := IntWalk.wrap64_in _ (by omega)
  try rw [e2]
  obtain ⟨W3, hW3⟩ : ∃ z, z = w2.setCell ⟨M, 1, none⟩ (.int .i64 ((a.runs : Int) + 1)) := ⟨_, rfl⟩
  rw [← hW3]
  have hm3 : Mod (fun k => k = M) w2 W3 := by rw [hW3]; exact (Mod.refl (fun k => k = M) w2).setCell (p := ⟨M, 1, none⟩) (fun _ => rfl) _
  have hM3 : W3.heap[M]? = some (.cells (smCells KA kc (c + 1, ⟨a.keys, a.runs + 1, a.stuck⟩)) 29 (0, 0)) := by rw [hW3, set_blk HM2.out]; simp [smCells]
  have HS3 := Lib.hid (HS2.out.mod hm3 (fun k hk e => HNM.out.2.2.1 (e ▸ hk)) (fun e => HNM.out.1 e.symm) (fun e => HNM.out.2.1 e.symm))
  have HR3 := Lib.hid (show Rd W3 4 A row.length (row.flatMap encE) by rw [hW3]; exact HR2.out.setB _ HNM.out.2.2.2)
  have HK4 := Lib.hid (show Rd W3 1 KA a.keys.length (a.keys.map sv) by rw [hW3]; exact HK2.out.setB _ HK3.out.2.1)
  have HM3 := Lib.hid hM3
  have HMO3 := Lib.hid (HMO.out.trans hm3)
  clear hW3 hm3 hM3 e2 m1 ml f1 HM2 HS2 HR2 HK2 HMO
  refine wp_region_planF (by kernel_rfl) (fun u => Below W3.heap.size W3 u) [7, 10] [(0, .pure), (1, .pure), (2, .pure), (3, .pure), (4, .load), (5, .pure), (6, .eff), (7, .last), (8, .pure), (9, .pure), (10, .last)] (by simp only [List.map_cons, List.map_nil, List.getElem?_toArray, List.getElem?_cons_succ, List.getElem?_cons_zero]; rfl) (by kernel_rfl) (fun _ _ d _ _ h => by cases d <;> exact h) ((Below.refl _ _).drew) ?_
  obtain ⟨Wd, hWd⟩ : ∃ z, z = W3.drew := ⟨_, rfl⟩
  rw [← hWd]
  have hbd : Below W3.heap.size W3 Wd := by rw [hWd]; exact (Below.refl _ _).drew
  have HBD := Lib.hid hbd
  clear hWd hbd
  repeat (first
    | (refine plan_pure (v := ?_) (by rfl) (fun w1 => ?_) ?_
       rotate_left
       · go_simp <;> with_reducible rfl
       simp only [Act.put, List.setIfInBounds_toArray, List.set_cons_zero, List.set_cons_succ])
    | (refine plan_off (by rfl) ?_
       simp only [Act.put, List.setIfInBounds_toArray, List.set_cons_zero, List.set_cons_succ])
    | (refine plan_load_off (by rfl) ?_
       simp only [Act.put, List.setIfInBounds_toArray, List.set_cons_zero, List.set_cons_succ])
    | (refine plan_load (v := ?_) (by rfl) (fun w1 hw1 => ?_) ?_
       rotate_left
       · (have qm := blk_stepW HM3.out hw1
          have m0 : w1.cell? ⟨M, 0, none⟩ = some (.slice KA a.keys.length kc) := cell_blk qm 0
          have ml := blk_lt qm
          clear qm
          clear hw1
          go_simp <;> with_reducible rfl)
       simp only [Act.put, List.setIfInBounds_toArray, List.set_cons_zero, List.set_cons_succ]))
  have hkey := refKey_any Wd A cap row (HR3.out.below HBD.out (Nat.le_refl _)) (by have := HRL.out; omega)
  obtain ⟨ky, hky⟩ : ∃ ky, ky = Fo.key row := ⟨_, rfl⟩
  rw [← hky] at hkey
  have HKY := Lib.hid hky
  have HKEY := Lib.hid hkey
  clear hkey hky
  refine plan_eff ?_
  go_wp2_with fail
  refine HKEY.out.mono ?_
  rintro y w4 ⟨rfl, b4⟩
  have HB4 := Lib.hid (below_at HBD.out b4)
  clear b4 HKEY
  go_wp2_with fail
  refine plan_on (fun _ h => h) HB4.out ?_
  repeat (first
    | (refine plan_pure (v := ?_) (by rfl) (fun w1 => ?_) ?_
       rotate_left
       · go_simp <;> with_reducible rfl
       simp only [Act.put, List.setIfInBounds_toArray, List.set_cons_zero, List.set_cons_succ])
    | (refine plan_off (by rfl) ?_
       simp only [Act.put, List.setIfInBounds_toArray, List.set_cons_zero, List.set_cons_succ])
    | (refine plan_load_off (by rfl) ?_
       simp only [Act.put, List.setIfInBounds_toArray, List.set_cons_zero, List.set_cons_succ])
    | (refine plan_load (v := ?_) (by rfl) (fun w1 hw1 => ?_) ?_
       rotate_left
       · (have qm := blk_stepW HM3.out hw1
          have m0 : w1.cell? ⟨M, 0, none⟩ = some (.slice KA a.keys.length kc) := cell_blk qm 0
          have ml := blk_lt qm
          clear qm
          clear hw1
          go_simp <;> with_reducible rfl)
       simp only [Act.put, List.setIfInBounds_toArray, List.set_cons_zero, List.set_cons_succ]))
  have hput := put_any w4 KA kc a.keys ky (HK4.out.below HB4.out (Nat.le_refl _)) HK3.out.2.2.1 HK3.out.2.2.2 (by have := HGG.out; omega)
  have HPUT := Lib.hid hput
  clear hput
  refine plan_last ?_
  go_wp2_with fail
  refine HPUT.out.mono ?_
  rintro y w5 ⟨A5, c5, rfl, ⟨r5, l5, u5⟩, b5, q5⟩
  have HB5 := Lib.hid (below_at HB4.out b5)
  have HP5 := Lib.hid (And.intro r5 (And.intro l5 u5))
  have HA5 : Hid (∀ b, A5 = some b → b.block ≠ M) := Lib.hid (fun b hb e => by
    rcases q5 with q5 | q5
    · exact HK3.out.2.1 b (q5 ▸ hb) e
    · have := q5 b hb; have := blk_lt HM3.out; have := HB4.out.size; omega)
  clear r5 l5 u5 b5 q5 HPUT
  go_wp2_with fail
  repeat (first
    | (refine plan_pure (v := ?_) (by rfl) (fun w1 => ?_) ?_
       rotate_left
       · go_simp <;> with_reducible rfl
       simp only [Act.put, List.setIfInBounds_toArray, List.set_cons_zero, List.set_cons_succ])
    | (refine plan_off (by rfl) ?_
       simp only [Act.put, List.setIfInBounds_toArray, List.set_cons_zero, List.set_cons_succ])
    | (refine plan_load_off (by rfl) ?_
       simp only [Act.put, List.setIfInBounds_toArray, List.set_cons_zero, List.set_cons_succ])
    | (refine plan_load (v := ?_) (by rfl) (fun w1 hw1 => ?_) ?_
       rotate_left
       · (skip
          clear hw1
          go_simp <;> with_reducible rfl)
       simp only [Act.put, List.setIfInBounds_toArray, List.set_cons_zero, List.set_cons_succ]))
  have hM5 := blk_stepW HM3.out HB5.out
  have m0 : w5.cell? ⟨M, 0, none⟩ = some (.slice KA a.keys.length kc) := cell_blk hM5 0
  have f0 := free_blk hM5 0
  have ml := blk_lt hM5
  have HM5 := Lib.hid hM5
  clear hM5
  refine plan_last ?_
  go_wp2_with fail
  repeat (first
    | (refine plan_pure (v := ?_) (by rfl) (fun w1 => ?_) ?_
       rotate_left
       · go_simp <;> with_reducible rfl
       simp only [Act.put, List.setIfInBounds_toArray, List.set_cons_zero, List.set_cons_succ])
    | (refine plan_off (by rfl) ?_
       simp only [Act.put, List.setIfInBounds_toArray, List.set_cons_zero, List.set_cons_succ])
    | (refine plan_load_off (by rfl) ?_
       simp only [Act.put, List.setIfInBounds_toArray, List.set_cons_zero, List.set_cons_succ])
    | (refine plan_load (v := ?_) (by rfl) (fun w1 hw1 => ?_) ?_
       rotate_left
       · (skip
          clear hw1
          go_simp <;> with_reducible rfl)
       simp only [Act.put, List.setIfInBounds_toArray, List.set_cons_zero, List.set_cons_succ]))
  refine plan_end ?_
  obtain ⟨W6, hW6⟩ : ∃ z, z = w5.setCell ⟨M, 0, none⟩ (.slice A5 (Ky.insG a.keys ky).length c5) := ⟨_, rfl⟩
  rw [← hW6]
  have hm6 : Mod (fun k => k = M) w5 W6 := by rw [hW6]; exact (Mod.refl (fun k => k = M) w5).setCell (p := ⟨M, 0, none⟩) (fun _ => rfl) _
  have hM6 : W6.heap[M]? = some (.cells (smCells A5 c5 (c + 1, ⟨Ky.insG a.keys ky, a.runs + 1, a.stuck⟩)) 29 (0, 0)) := by rw [hW6, set_blk HM5.out]; simp [smCells]
  have HS6 := Lib.hid ((HS3.out.below HB5.out).mod hm6 (fun k hk e => HNM.out.2.2.1 (e ▸ hk)) (fun e => HNM.out.1 e.symm) (fun e => HNM.out.2.1 e.symm))
  have HK6 := Lib.hid (show Rd W6 1 A5 (Ky.insG a.keys ky).length ((Ky.insG a.keys ky).map sv) by rw [hW6]; exact HP5.out.1.setB _ HA5.out)
  have HM6 := Lib.hid hM6
  have HMO6 := Lib.hid ((HMO3.out.trans (Mod.of_below_size HB5.out _)).trans hm6)
  clear hW6 hm6 hM6 m0 f0 ml HM5 HM3 HB5 HB4 HBD HK4 HR3 HMO3 HS3
  have hW6 := HM6.out
  have hM6l := blk_lt HM6.out
  have HML := Lib.hid hM6l
  clear hW6 hM6l
  obtain ⟨ks, hks⟩ : ∃ ks, ks = Ky.insG a.keys ky := ⟨_, rfl⟩
  rw [← hks] at HP5 HK6 HM6
  have HKS := Lib.hid hks
  clear hks
  -- who waits
  go_wp2_with fail
  go_loopw [9, 10] (fun v9 v10 wr => ∃ (i : Nat) (b : Bool), i ≤ nt ∧ v10 = .int .i64 i ∧ v9 = .bool b ∧ Hid (b = (List.range i).any fun t => (Pr.next s t).isSome) ∧ Hid (Below W6.heap.size W6 wr)) (fun _ v _ => nt - (intOf v).toNat)
  case atStart => exact ⟨0, false, Nat.zero_le _, rfl, rfl, Lib.hid rfl, Lib.hid (Below.refl _ _)⟩
  case round =>
    obtain ⟨i, b, hi, rfl, rfl, HBB, HB⟩ := hrel
    obtain ⟨z3, sl⟩ : (∃ tc, wr.cell? ⟨S, 3, none⟩ = some (.slice (some ⟨T, o, none⟩) nt tc)) ∧ S < wr.heap.size := by
      obtain ⟨PA, pc, tc, _, _, _, z3, _⟩ := (HS6.out.below HB.out).cells
      exact ⟨⟨tc, by rw [HNT.out]; exact z3⟩, (HS6.out.below HB.out).lt.1⟩
    obtain ⟨tc, z3⟩ := z3
    by_cases hlt : i < nt
    · have hnx := refNext_any wr C S T o s i (HS6.out.below HB.out) HWF.out (by rw [← HNT.out]; exact hlt)
      obtain ⟨⟨et, ek, eo, ef⟩, he⟩ : ∃ e, e = (Pr.next s i).getD Pr.zeroE := ⟨_, rfl⟩
      obtain ⟨ok, hok⟩ : ∃ ok, ok = (Pr.next s i).isSome := ⟨_, rfl⟩
      rw [← he, ← hok] at hnx
      simp only [valE] at hnx
      have HNX := Lib.hid hnx
      have hb2 : (b || ok) = (List.range (i + 1)).any fun t => (Pr.next s t).isSome := by rw [List.range_succ, List.any_append, ← HBB.out, hok]; simp
      have HB2 := Lib.hid hb2
      have k1 : (0 : Int) ≤ (i : Int) := Int.natCast_nonneg _
      have k2 : (i : Int) < (nt : Int) := by omega
      clear hnx he hok hb2 HBB
      go_wp2_with fail
      refine HNX.out.mono ?_
      rintro y w7 ⟨rfl, b7⟩
      have HB7 := Lib.hid (below_at HB.out b7)
      clear b7 HNX z3 sl
      cases b with
      | true =>
        go_wp2_with fail
        go_roundw
        case rel => exact ⟨i + 1, true, by omega, by go_num, rfl, Lib.hid (by rw [← HB2.out]; rfl), Lib.hid (HB7.out.alloc HB7.out.size _)⟩
        case measure => simp [intOf]; omega
      | false =>
        go_wp2_with fail
        go_roundw
        case rel => exact ⟨i + 1, ok, by omega, by go_num, rfl, Lib.hid (by rw [← HB2.out]; rfl), Lib.hid (HB7.out.alloc HB7.out.size _)⟩
        case measure => simp [intOf]; omega
    · obtain rfl : i = nt := by omega
      have hM7 := blk_stepW HM6.out HB.out
      have m3 : wr.cell? ⟨M, 3, none⟩ = some (.int .i64 a.stuck) := cell_blk hM7 3
      have f3 := free_blk hM7 3
      have ml := blk_lt hM7
      have HM7 := Lib.hid hM7
      have HK7 := Lib.hid (HK6.out.below HB.out (Nat.le_refl _))
      have HMO7 := Lib.hid (HMO6.out.trans (Mod.of_below_size HB.out _))
      have hww : b = Pr.waits s := by rw [HBB.out]; unfold Pr.waits; rw [HNT.out]
      have HWW := Lib.hid hww
      have hat : Pr.at6 s row a = ⟨ks, a.runs + 1, a.stuck + if b = true then 1 else 0⟩ := by unfold Pr.at6; rw [HKS.out, HKY.out, ← hww]
      have HAT := Lib.hid hat
      clear hM7 hww hat HKS HKY HBB HM6 HK6 HMO6 HS6
      cases b with
      | true =>
        go_upto_region 14 with fail
        have e3 : wrap64 ((a.stuck : Int) + 1) = (a.stuck : Int) + 1 := IntWalk.wrap64_in _ (by omega)
        try rw [e3]
        obtain ⟨W8, hW8⟩ : ∃ z, z = wr.setCell ⟨M, 3, none⟩ (.int .i64 ((a.stuck : Int) + 1)) := ⟨_, rfl⟩
        rw [← hW8]
        have hm8 : Mod (fun k => k = M) wr W8 := by rw [hW8]; exact (Mod.refl (fun k => k = M) wr).setCell (p := ⟨M, 3, none⟩) (fun _ => rfl) _
        have hM8 : W8.heap[M]? = some (.cells (smCells A5 c5 (c + 1, ⟨ks, a.runs + 1, a.stuck + 1⟩)) 29 (0, 0)) := by rw [hW8, set_blk HM7.out]; simp [smCells]
        have HK8 := Lib.hid (show Rd W8 1 A5 ks.length (ks.map sv) by rw [hW8]; exact HK7.out.setB _ HA5.out)
        have HM8 := Lib.hid hM8
        have HMO8 := Lib.hid (HMO7.out.trans hm8)
        clear hW8 hm8 hM8 e3 m3 f3 ml
        go_wp2_with fail
        go_loopw [13] (fun v wz => v = .int .i64 0 ∧ wz = W8) (fun v _ => 0)
        case atStart => exact ⟨rfl, rfl⟩
        case round =>
          obtain ⟨rfl, rfl⟩ := hrel
          go_wp2_with fail
          go_end0
          exact ⟨rfl, ⟨A5, c5, by rw [HAT.out]; exact HM8.out, HA5.out, by rw [HAT.out]; exact HK8.out, by rw [HAT.out]; exact HP5.out.2.1, HP5.out.2.2⟩, HMO8.out⟩
      | false =>
        go_upto_region 14 with fail
        go_wp2_with fail
        go_loopw [13] (fun v wz => v = .int .i64 0 ∧ wz = wr) (fun v _ => 0)
        case atStart => exact ⟨rfl, rfl⟩
        case round =>
          obtain ⟨rfl, rfl⟩ := hrel
          go_wp2_with fail
          go_end0
          exact ⟨rfl, ⟨A5, c5, by rw [HAT.out]; exact HM7.out, HA5.out, by rw [HAT.out]; exact HK7.out, by rw [HAT.out]; exact HP5.out.2.1, HP5.out.2.2⟩, HMO7.out⟩
set_option maxRecDepth 100000 in
set_option maxHeartbeats 8000000 in
theorem refOver_more (n : Nat) (s : St) (hw : Pr.Wf s) (w : World) (C : Nat → Prop) (S T o : Nat) (row : List Ev) (A : Option Addr) (cap M c : Nat) (a : Pr.Sm) (most : Nat) (h : RAt w C S T o s) (hC : ∀ k, C k → k < w.heap.size)
    (hr : Rd w 4 A row.length (row.flatMap encE)) (hrl : row.length + n ≤ 100) (hMS : M ≠ S) (hMT : M ≠ T) (hMC : ¬ C M) (hAM : ∀ b, A = some b → b.block ≠ M) (hs : SumAt w M (c, a)) (hg : Pr.Good (c, a)) (hc : c ≤ most + 300) (hmost : most ≤ 100000) (hf : ¬ most < c + 1) (ha : Pr.all s ≠ []) (hn32 : n ≤ 32) (hcn : c + 4 * n ≤ most + 300) (hn0 : 0 < n) (ih : ∀ t ∈ Pr.all s, RefOverC (n - 1) (Pr.stepS s t)) :
    Calls Tryz.prog 53 #[.pointer (some ⟨M, 0, none⟩), .pointer (some ⟨S, 0, none⟩), .slice A row.length cap, .int .i64 (most : Int)] w fun x w' => x = .returned (.tuple #[]) ∧ SumAt w' M (Pr.kids most (n - 1) s row (Pr.all s) (c + 1, a)) ∧ Mod (fun k => k = M) w w' := by
  obtain ⟨KA, kc, hM, hKM, hkr, hk1, hk2⟩ := hs
  have m0 : w.cell? ⟨M, 0, none⟩ = some (.slice KA a.keys.length kc) := cell_blk hM 0
  have m1 : w.cell? ⟨M, 1, none⟩ = some (.int .i64 a.runs) := cell_blk hM 1
  have m2 : w.cell? ⟨M, 2, none⟩ = some (.int .i64 c) := cell_blk hM 2
  have m3 : w.cell? ⟨M, 3, none⟩ = some (.int .i64 a.stuck) := cell_blk hM 3
  have ml := blk_lt hM
  have f2 := free_blk hM 2
  have hm1 : Mod (fun k => k = M) w (w.setCell ⟨M, 2, none⟩ (.int .i64 ((c : Int) + 1))) := (Mod.refl (fun k => k = M) w).setCell (p := ⟨M, 2, none⟩) (fun _ => rfl) _
  have hM1 : (w.setCell ⟨M, 2, none⟩ (.int .i64 ((c : Int) + 1))).heap[M]? = some (.cells (smCells KA kc (c + 1, a)) 29 (0, 0)) := by rw [set_blk hM]; simp [smCells]
  have hS1 := h.mod hm1 (fun k hk e => hMC (e ▸ hk)) (fun e => hMS e.symm) (fun e => hMT e.symm)
  have hr1 := hr.setB (M := M) (k := 2) (.int .i64 ((c : Int) + 1)) hAM
  have hk3 := hkr.setB (M := M) (k := 2) (.int .i64 ((c : Int) + 1)) hKM
  have e1 : wrap64 ((c : Int) + 1) = (c : Int) + 1 := IntWalk.wrap64_in _ (by omega)
  have HE1 := Lib.hid e1
  have d1 : decide ((most : Int) < (c : Int) + 1) = false := decide_eq_false (by omega)
  have d2 : ¬ (most : Int) < (c : Int) + 1 := by omega
  obtain ⟨W1, hW1⟩ : ∃ z, z = w.setCell ⟨M, 2, none⟩ (.int .i64 ((c : Int) + 1)) := ⟨_, rfl⟩
  rw [← hW1] at hm1 hM1 hS1 hr1 hk3
  have hall := refAll_any W1 C S T o s hS1 hw
  have hlen : ((Pr.all s).map (fun (t : Nat) => (t : Int))).length = (Pr.all s).length := by simp
  rw [hlen] at hall
  obtain ⟨nt, hnt⟩ : ∃ nt, nt = s.th.length := ⟨_, rfl⟩
  have hn4 := hw.n4
  rw [← hnt] at hn4
  obtain ⟨na, hna⟩ : ∃ na, na = (Pr.all s).length := ⟨_, rfl⟩
  have hna0 : na ≠ 0 := by rw [hna]; exact fun h => ha (List.eq_nil_of_length_eq_zero h)
  have hna4 : na ≤ 4 := by rw [hna]; exact Pr.all_len hw
  rw [← hna] at hall
  obtain ⟨rl, hrl2⟩ : ∃ rl, rl = row.length := ⟨_, rfl⟩
  rw [← hrl2] at hr1 hrl ⊢
  have HALL := Lib.hid hall
  have HS1 := Lib.hid hS1
  have HR1 := Lib.hid hr1
  have HSUM0 : Hid (SumAt W1 M (c + 1, a)) := Lib.hid ⟨KA, kc, hM1, hKM, hk3, hk1, hk2⟩
  have HM := Lib.hid hm1
  have HM1 := Lib.hid hM1
  have HW1 := Lib.hid hW1
  have HWF := Lib.hid hw
  have HNT := Lib.hid hnt
  have HRL := Lib.hid (And.intro hrl hrl2)
  have HNM := Lib.hid (And.intro hMS (And.intro hMT (And.intro hMC hAM)))
  have HGG := Lib.hid (Pr.good_up hg)
  have HC := Lib.hid hC
  have HNA := Lib.hid hna
  have HIH := Lib.hid ih
  have HCN := Lib.hid (And.intro hcn (And.intro hn32 hn0))
  have HMW := Lib.hid ml
  have hrl9 : rl ≤ 100 := by omega
  have e0 : ((na : Int) == 0) = false := by simpa using hna0
  clear h hC hr hw hg hM hkr hk3 hm1 hM1 hS1 hr1 hKM hAM hMC hMS hMT e1 hk1 hk2 hall hW1 ha hlen hnt hrl hrl2 hna ih hcn hn32 hn0 hna0
  go_enter Tryz.func53, Tryz.ntmps53
  go_upto_region 1 with fail
  try rw [HE1.out]
  rw [← HW1.out]
  clear m0 m1 m2 m3 ml f2
  have m2 : W1.cell? ⟨M, 2, none⟩ = some (.int .i64 ((c : Int) + 1)) := by rw [cell_blk HM1.out]; rfl
  have ml := blk_lt HM1.out
  go_wp2_with fail
  refine HALL.out.mono ?_
  rintro y w2 ⟨A2, c2, rfl, hints, b2⟩
  have hlen : ((Pr.all s).map (fun (t : Nat) => (t : Int))).length = na := by rw [List.length_map, HNA.out]
  have hrd : RdB w2 w2.heap.size 1 A2 ((Pr.all s).map (fun (t : Nat) => (t : Int))).length (((Pr.all s).map (fun (t : Nat) => (t : Int))).map iv) := hints.1.rd.toB
  have hatA : ∀ b, A2 = some b → W1.heap.size ≤ b.block := hints.2
  have HIC := Lib.hid (int_cell hrd)
  have HATA := Lib.hid hatA
  have HS2 := Lib.hid (HS1.out.below b2)
  have HR2 := Lib.hid (HR1.out.below b2 (Nat.le_refl _))
  have HSUM2 := Lib.hid (HSUM0.out.below b2)
  have HMO := Lib.hid (HM.out.trans (Mod.of_below_size b2 _))
  have HW12 := Lib.hid (And.intro b2.size HM.out.size)
  clear m2 ml HALL HM1 HS1 HR1 HM b2 HSUM0 hints hrd hatA hlen HW1 HE1
  go_wp2_with fail
  obtain ⟨i0, hi0, hz0, hz1, hz2⟩ := info_parts Tryz.infoEv
  go_loopw [13] (fun v wr => ∃ i : Nat, i ≤ na ∧ v = .int .i64 i ∧ Hid (SumAt wr M (Pr.kids most (n - 1) s row ((Pr.all s).take i) (c + 1, a))) ∧ Hid (Mod (fun k => k = M) w2 wr)) (fun v _ => na - (intOf v).toNat)
  case atStart => exact ⟨0, Nat.zero_le _, rfl, HSUM2, Lib.hid (Mod.refl _ _)⟩
  case round =>
    clear HSUM2
    obtain ⟨i, hi, rfl, HSU, HMV0⟩ := hrel
    by_cases hlt : i < na
    · obtain ⟨t, ht⟩ := get_some (show i < (Pr.all s).length by rw [← HNA.out]; exact hlt)
      have hen := (Pr.all_iff (s := s) (t := t)).1 (List.mem_of_getElem? ht)
      obtain ⟨e, ii, hnx, h8, h9⟩ := Pr.enabled_next hen
      clear h8 h9
      have htl := Pr.en_lt hen
      have hti : ((Pr.all s).map (fun (t : Nat) => (t : Int)))[i]? = some (t : Int) := by rw [List.getElem?_map, ht]; rfl
      obtain ⟨g, og, rfl, hgl, hcl⟩ := HIC.out i _ hti
      have hgM : g ≠ M := by have h1 : W1.heap.size ≤ g := HATA.out _ rfl; have := HMW.out; have := HW12.out; omega
      have hbW : ∀ u, Below wr.heap.size wr u → u.cell? ⟨g, og + i, none⟩ = some (.int .i64 (t : Int)) ∧ g < u.heap.size := fun u hu => by
        have hg2 : g < wr.heap.size := Nat.lt_of_lt_of_le hgl HMV0.out.size
        refine ⟨?_, Nat.lt_of_lt_of_le hg2 hu.size⟩
        rw [World.cell?_of_block (hu.block g hg2), HMV0.out.cell g (og + i) hgl hgM]
        exact hcl w2 (Below.refl _ _)
      have hSr : RAt wr C S T o s := HS2.out.mod HMV0.out (fun k hk e => HNM.out.2.2.1 (e ▸ hk)) (fun e => HNM.out.1 e.symm) (fun e => HNM.out.2.1 e.symm)
      have hwsz : w.heap.size ≤ wr.heap.size := by have := HW12.out; have := HMV0.out.size; omega
      have hcopy := refCopy_any wr C S T o s hSr (fun k hk => Nat.lt_of_lt_of_le (HC.out k hk) hwsz) HWF.out.n4
      have HCOPY := Lib.hid hcopy
      have HBW := Lib.hid hbW
      have HT := Lib.hid (And.intro ht (And.intro hen (And.intro hnx htl)))
      have HWZ := Lib.hid hwsz
      have k1 : (0 : Int) ≤ (i : Int) := Int.natCast_nonneg _
      have k2 : (i : Int) < (na : Int) := by omega
      clear hcopy hbW ht hen hnx htl hti hcl hgM hgl hSr hwsz
      go_wp2_with fail
      refine HCOPY.out.mono ?_
      rintro y w3 ⟨S', T', o', rfl, hR3, hS', hT', b3⟩
      obtain ⟨ca, lg⟩ := HBW.out w3 b3
      obtain ⟨et, ek, eo, ef⟩ := e
      have hstep := refStep_ok w3 C S' T' o' s t ⟨et, ek, eo, ef⟩ hR3 HWF.out HT.out.2.2.2 HT.out.2.1 HT.out.2.2.1
      simp only [valE] at hstep
      have HSTEP := Lib.hid hstep
      have HR3 := Lib.hid hR3
      have HB3 := Lib.hid b3
      have HST := Lib.hid (And.intro hS' hT')
      clear hstep hR3 b3 hS' hT' HCOPY HBW
      go_wp2_with fail
      refine HSTEP.out.mono ?_
      rintro y w4 ⟨rfl, hR4, hm4⟩
      have hb4 : Below wr.heap.size wr w4 := HB3.out.trans (hm4.below _ HB3.out.size (fun k hk e => by have := HST.out; omega))
      obtain ⟨V0, Z, hV0, hZ, hBz, hZl, hZe⟩ := ev_box w4 ⟨et, ek, eo, ef⟩
      simp only at hV0
      have hb5 : Below wr.heap.size wr V0 := below_at hb4 hBz
      have hR5 := hR4.below hBz
      have hmz : M < wr.heap.size := HSU.out.lt
      have HZM := Lib.hid (show Z ≠ M by rw [hZ]; have := hb4.size; omega)
      have HXE := Lib.hid hZe
      have hrr : Rd wr 4 A rl (row.flatMap encE) := (show Rd wr 4 A rl (row.flatMap encE) from by
        refine ⟨HR2.out.1, fun hp => ?_⟩
        obtain ⟨g, o, hA, hgl, hc⟩ := HR2.out.2 hp
        exact ⟨g, o, hA, Nat.lt_of_lt_of_le hgl HMV0.out.size, fun j hj => by rw [HMV0.out.cell g (o + j) hgl (fun e => HNM.out.2.2.2 _ hA e)]; exact hc j hj⟩)
      have HRD := Lib.hid (fun (u : World) (hu : Below V0.heap.size V0 u) => hrr.below (below_at hb5 hu) (Nat.le_refl _))
      have hrec : ∀ (u : World) (g8 o8 cap8 : Nat), Below V0.heap.size V0 u → V0.heap.size ≤ g8 → Rd u 4 (some ⟨g8, o8, none⟩) (rl + 1) (row.flatMap encE ++ [.int .i64 et, .int .i64 ek, .int .i64 eo, .bool ef]) →
          Calls Tryz.prog 53 #[.pointer (some ⟨M, 0, none⟩), .pointer (some ⟨S', 0, none⟩), .slice (some ⟨g8, o8, none⟩) (rl + 1) cap8, .int .i64 (most : Int)] u fun x w' => x = .returned (.tuple #[]) ∧ SumAt w' M (Pr.kids most (n - 1) s row ((Pr.all s).take (i + 1)) (c + 1, a)) ∧ Mod (fun k => k = M) u w' := fun u g8 o8 cap8 hu hg8 hrd => by
        obtain ⟨ci, ai, hx⟩ : ∃ ci ai, Pr.kids most (n - 1) s row ((Pr.all s).take i) (c + 1, a) = (ci, ai) := ⟨_, _, rfl⟩
        have hs := (HSU.out.below hb5).below hu
        have hgd := Pr.kids_good most (n - 1) s row ((Pr.all s).take i) (c + 1, a) HGG.out
        have hbd := Pr.kids_bound most (n - 1) s row HWF.out ((Pr.all s).take i) (c + 1, a)
        have hev : Pr.evAt s t = ⟨et, ek, eo, ef⟩ := by unfold Pr.evAt; rw [HT.out.2.2.1]; rfl
        rw [hx] at hs hgd hbd
        rw [Pr.kids_snoc HT.out.1, hx, hev]
        have hl2 : (row ++ [(⟨et, ek, eo, ef⟩ : Ev)]).length = rl + 1 := by rw [List.length_append, ← HRL.out.2]; rfl
        have hlt2 : ((Pr.all s).take i).length ≤ 3 := by rw [List.length_take]; omega
        have hcn := HCN.out
        simp only at hbd
        have hu5 := hu.size
        have hz5 := hb5.size
        have hwz := HWZ.out
        have hst := HST.out
        have hc3 := HR3.out.lt
        have hss := hR5.lt
        have := HIH.out t (List.mem_of_getElem? HT.out.1) u C S' T' o' (row ++ [⟨et, ek, eo, ef⟩]) (some ⟨g8, o8, none⟩) cap8 M ci ai most (hR5.below hu) (fun k hk => by have := HC.out k hk; omega)
          (more_rowW (e := ⟨et, ek, eo, ef⟩) (by rw [← HRL.out.2]; exact hrd)) (by rw [hl2]; have := HRL.out.1; omega) (by omega) (by omega) HNM.out.2.2.1 (fun b hb => by injection hb with hb; subst hb; simp only; omega) hs hgd (by omega) hmost
        rw [hl2] at this
        exact this
      have HREC := Lib.hid hrec
      have HMV := Lib.hid (HMV0.out.trans (Mod.of_below_size hb5 _))
      clear hrec hR5 hb5 hR4 hm4 hb4 hrr hmz hBz hZl hZe HSTEP HR3 HB3 HSU HMV0 ca lg
      go_upto_region 19 with fail
      rw [← hV0, ← hZ]
      clear hV0 hZ
      refine wp_region_pt (by kernel_rfl) (fun u => EvAt u Z 0 ⟨et, ek, eo, ef⟩) [] (.cons 0 .pure (.cons 1 .pure (.cons 3 .pure (.cons 5 .load (.cons 8 .pure (.fork 2 (.fork 4 (.cons 6 .eff (.cons 7 .eff (.cons 9 .eff .nil))) 6 (.cons 4 .eff (.cons 7 .eff (.cons 9 .eff .nil)))) 6 (.cons 2 .eff (.cons 4 .eff (.cons 7 .eff (.cons 9 .eff .nil)))))))))) (by simp only [PT.map, List.getElem?_toArray, List.getElem?_cons_succ, List.getElem?_cons_zero]; rfl) (by kernel_rfl) (fun _ _ d _ _ h => by cases d <;> exact h) ((HXE.out V0.drew (Below.refl V0.heap.size V0).drew).1) ?_
      have HB := Lib.hid (Below.refl V0.heap.size V0).drew
      obtain ⟨v, hv⟩ : ∃ v, v = V0.drew := ⟨_, rfl⟩
      rw [← hv] at HB ⊢
      clear hv
      repeat (first
        | (refine pt_pure (v := ?_) (by rfl) (fun w1 => ?_) ?_
           rotate_left
           · go_simp <;> with_reducible rfl
           simp only [Act.put, List.setIfInBounds_toArray, List.set_cons_zero, List.set_cons_succ])
        | (refine pt_off (by rfl) ?_
           simp only [Act.put, List.setIfInBounds_toArray, List.set_cons_zero, List.set_cons_succ])
        | (refine pt_load_off (by rfl) ?_
           simp only [Act.put, List.setIfInBounds_toArray, List.set_cons_zero, List.set_cons_succ])
        | (refine pt_load (v := ?_) (by rfl) (fun w1 hw1 => ?_) ?_
           rotate_left
           · (have x0 := hw1.1
              have x1 := hw1.2.1
              have x2 := hw1.2.2.1
              have x3 := hw1.2.2.2
              simp only [Nat.zero_add] at x1 x2 x3
              clear hw1
              go_simp <;> with_reducible rfl)
           simp only [Act.put, List.setIfInBounds_toArray, List.set_cons_zero, List.set_cons_succ]))
      refine pt_fork ?_ ?_
      · go_wp2_with fail
        obtain ⟨E, hE⟩ : ∃ Z, Z = v.heap.size := ⟨_, rfl⟩
        obtain ⟨u, hu⟩ : ∃ u, u = v.alloc (Obj.cells #[] 51) := ⟨_, rfl⟩
        rw [← hu, ← hE]
        have hb : Below v.heap.size v u := by rw [hu]; exact (Below.refl _ _).alloc (Nat.le_refl _) _
        have hk : u.heap[E]? = some (.cells #[] 51 (0, 0)) := by rw [hu, hE]; exact heap_alloc_new v _
        have H2 := Lib.hid (And.intro hk (show V0.heap.size ≤ E by rw [hE]; exact HB.out.size))
        have HB := Lib.hid (below_at HB.out hb)
        (try have H6 := Lib.hid (blk_stepW H6.out hb))
        clear hb hk hu hE
        rename World => v
        refine pt_on (fun u h => h) (HXE.out _ HB.out).1 ?_
        refine pt_fork ?_ ?_
        · have HR := Lib.hid (HRD.out v HB.out)
          have HE := Lib.hid (row_empty (sz := 4) H2.out.1)
          go_wp2_with (at_builtin; refine wpList_append_copy (by rfl) _ _ _ (by rfl) 51 i0 _ 4 32 Tryz.underlying55 hi0 hz0 hz1 hz2 rfl (by omega) ⟨E, 0, none⟩ 0 [] (by rfl) HE.out A rl cap (row.flatMap encE) (by rfl) HR.out (by unfold maxLen; omega) (by omega) ?_; intro g7 o7 cap7 u hown hb hgz)
          rw [Nat.zero_add, List.nil_append] at hown
          have hg1 : V0.heap.size ≤ g7 := by rcases hgz with ⟨_, h⟩ | h; (rw [h]; exact H2.out.2); exact Nat.le_trans HB.out.size h
          have H4 := Lib.hid (And.intro hown hg1)
          have HB := Lib.hid (below_at HB.out hb)
          (try have H6 := Lib.hid (blk_stepW H6.out hb))
          clear hown hb hgz hg1 HR HE
          rename World => v
          refine pt_on (fun u h => h) (HXE.out _ HB.out).1 ?_
          refine pt_eff ?_
          go_wp2_with fail
          obtain ⟨Y, hY⟩ : ∃ Z, Z = v.heap.size := ⟨_, rfl⟩
          obtain ⟨u, hu⟩ : ∃ u, u = v.alloc (Obj.cells #[.int .i64 et, .int .i64 ek, .int .i64 eo, .bool ef] 51) := ⟨_, rfl⟩
          rw [← hu, ← hY]
          have hb : Below v.heap.size v u := by rw [hu]; exact (Below.refl _ _).alloc (Nat.le_refl _) _
          have hk : u.heap[Y]? = some (.cells #[.int .i64 et, .int .i64 ek, .int .i64 eo, .bool ef] 51 (0, 0)) := by rw [hu, hY]; exact heap_alloc_new v _
          have H6 := Lib.hid hk
          have HB := Lib.hid (below_at HB.out hb)
          (try have H2 := Lib.hid (And.intro (blk_stepW H2.out.1 hb) H2.out.2))
          (try have H4 := Lib.hid (And.intro (row_stepS H4.out.1 hb) H4.out.2))
          clear hb hk hu hY
          rename World => v
          refine pt_on (fun u h => h) (HXE.out _ HB.out).1 ?_
          refine pt_eff ?_
          go_wp2_with (at_builtin; refine wpList_append_row (by rfl) _ _ _ (by rfl) 51 i0 _ 4 32 Tryz.underlying55 hi0 hz0 hz1 hz2 rfl (by omega) (some ⟨g7, o7, none⟩) rl cap7 (row.flatMap encE) (by rfl) H4.out.1 ⟨Y, 0, none⟩ 1 1 [.int .i64 et, .int .i64 ek, .int .i64 eo, .bool ef] (by rfl) (by rfl) (World.news_of_block (cs := #[.int .i64 et, .int .i64 ek, .int .i64 eo, .bool ef]) (t := 51) (fr := (0, 0)) H6.out) (by simp [Value.oneCell']) (by omega) (by unfold maxLen; omega) (by omega) ?_; intro g8 o8 cap8 u hown hm hat)
          have H7 := Lib.hid (show Rd u 4 (some ⟨g8, o8, none⟩) (rl + 1) (row.flatMap encE ++ [.int .i64 et, .int .i64 ek, .int .i64 eo, .bool ef]) from hown.rd)
          have H8 := Lib.hid (show V0.heap.size ≤ g8 by rcases hat with ⟨a, e1, e2⟩ | h; (injection e1 with e1; subst e1; simp only at e2; rw [e2]; exact H4.out.2); exact Nat.le_trans HB.out.size h)
          have HB := Lib.hid (more_belowW HB.out H4.out.2 hm)
          clear hown hm hat
          rename World => v
          refine pt_on (fun u h => h) (HXE.out _ HB.out).1 ?_
          refine pt_eff ?_
          go_wp2_with fail
          refine (HREC.out _ _ _ _ HB.out H8.out H7.out).mono ?_
          rintro y w9 ⟨rfl, hsum, hmod⟩
          have hxe := HXE.out _ HB.out
          have hzm : Z ≠ M := HZM.out
          have hev : EvAt w9 Z 0 ⟨et, ek, eo, ef⟩ := ⟨(hmod.cell Z 0 hxe.2 hzm).trans hxe.1.1, (hmod.cell Z (0 + 1) hxe.2 hzm).trans hxe.1.2.1, (hmod.cell Z (0 + 2) hxe.2 hzm).trans hxe.1.2.2.1, (hmod.cell Z (0 + 3) hxe.2 hzm).trans hxe.1.2.2.2⟩
          have HSUM := Lib.hid hsum
          have HMOD := Lib.hid ((Mod.of_below_size HB.out _).trans hmod)
          have HEV := Lib.hid hev
          clear hsum hmod hxe hzm hev
          go_wp2_with fail
          refine pt_on (fun u h => h) HEV.out ?_
          refine pt_end ?_
          go_wp2_with fail
          go_roundw
          case rel => exact ⟨i + 1, by omega, by go_num, HSUM, Lib.hid ((HMV.out.trans HMOD.out))⟩
          case measure => simp [intOf]; omega
        · go_wp2_with fail
          obtain ⟨Y, hY⟩ : ∃ Z, Z = v.heap.size := ⟨_, rfl⟩
          obtain ⟨u, hu⟩ : ∃ u, u = v.alloc (Obj.cells #[.int .i64 et, .int .i64 ek, .int .i64 eo, .bool ef] 51) := ⟨_, rfl⟩
          rw [← hu, ← hY]
          have hb : Below v.heap.size v u := by rw [hu]; exact (Below.refl _ _).alloc (Nat.le_refl _) _
          have hk : u.heap[Y]? = some (.cells #[.int .i64 et, .int .i64 ek, .int .i64 eo, .bool ef] 51 (0, 0)) := by rw [hu, hY]; exact heap_alloc_new v _
          have H6 := Lib.hid hk
          have HB := Lib.hid (below_at HB.out hb)
          (try have H2 := Lib.hid (And.intro (blk_stepW H2.out.1 hb) H2.out.2))
          (try have H4 := Lib.hid (And.intro (row_stepS H4.out.1 hb) H4.out.2))
          clear hb hk hu hY
          rename World => v
          refine pt_on (fun u h => h) (HXE.out _ HB.out).1 ?_
          refine pt_eff ?_
          have HR := Lib.hid (HRD.out v HB.out)
          have HE := Lib.hid (row_empty (sz := 4) H2.out.1)
          go_wp2_with (at_builtin; refine wpList_append_copy (by rfl) _ _ _ (by rfl) 51 i0 _ 4 32 Tryz.underlying55 hi0 hz0 hz1 hz2 rfl (by omega) ⟨E, 0, none⟩ 0 [] (by rfl) HE.out A rl cap (row.flatMap encE) (by rfl) HR.out (by unfold maxLen; omega) (by omega) ?_; intro g7 o7 cap7 u hown hb hgz)
          rw [Nat.zero_add, List.nil_append] at hown
          have hg1 : V0.heap.size ≤ g7 := by rcases hgz with ⟨_, h⟩ | h; (rw [h]; exact H2.out.2); exact Nat.le_trans HB.out.size h
          have H4 := Lib.hid (And.intro hown hg1)
          have HB := Lib.hid (below_at HB.out hb)
          (try have H6 := Lib.hid (blk_stepW H6.out hb))
          clear hown hb hgz hg1 HR HE
          rename World => v
          refine pt_on (fun u h => h) (HXE.out _ HB.out).1 ?_
          refine pt_eff ?_
          go_wp2_with (at_builtin; refine wpList_append_row (by rfl) _ _ _ (by rfl) 51 i0 _ 4 32 Tryz.underlying55 hi0 hz0 hz1 hz2 rfl (by omega) (some ⟨g7, o7, none⟩) rl cap7 (row.flatMap encE) (by rfl) H4.out.1 ⟨Y, 0, none⟩ 1 1 [.int .i64 et, .int .i64 ek, .int .i64 eo, .bool ef] (by rfl) (by rfl) (World.news_of_block (cs := #[.int .i64 et, .int .i64 ek, .int .i64 eo, .bool ef]) (t := 51) (fr := (0, 0)) H6.out) (by simp [Value.oneCell']) (by omega) (by unfold maxLen; omega) (by omega) ?_; intro g8 o8 cap8 u hown hm hat)
          have H7 := Lib.hid (show Rd u 4 (some ⟨g8, o8, none⟩) (rl + 1) (row.flatMap encE ++ [.int .i64 et, .int .i64 ek, .int .i64 eo, .bool ef]) from hown.rd)
          have H8 := Lib.hid (show V0.heap.size ≤ g8 by rcases hat with ⟨a, e1, e2⟩ | h; (injection e1 with e1; subst e1; simp only at e2; rw [e2]; exact H4.out.2); exact Nat.le_trans HB.out.size h)
          have HB := Lib.hid (more_belowW HB.out H4.out.2 hm)
          clear hown hm hat
          rename World => v
          refine pt_on (fun u h => h) (HXE.out _ HB.out).1 ?_
          refine pt_eff ?_
          go_wp2_with fail
          refine (HREC.out _ _ _ _ HB.out H8.out H7.out).mono ?_
          rintro y w9 ⟨rfl, hsum, hmod⟩
          have hxe := HXE.out _ HB.out
          have hzm : Z ≠ M := HZM.out
          have hev : EvAt w9 Z 0 ⟨et, ek, eo, ef⟩ := ⟨(hmod.cell Z 0 hxe.2 hzm).trans hxe.1.1, (hmod.cell Z (0 + 1) hxe.2 hzm).trans hxe.1.2.1, (hmod.cell Z (0 + 2) hxe.2 hzm).trans hxe.1.2.2.1, (hmod.cell Z (0 + 3) hxe.2 hzm).trans hxe.1.2.2.2⟩
          have HSUM := Lib.hid hsum
          have HMOD := Lib.hid ((Mod.of_below_size HB.out _).trans hmod)
          have HEV := Lib.hid hev
          clear hsum hmod hxe hzm hev
          go_wp2_with fail
          refine pt_on (fun u h => h) HEV.out ?_
          refine pt_end ?_
          go_wp2_with fail
          go_roundw
          case rel => exact ⟨i + 1, by omega, by go_num, HSUM, Lib.hid ((HMV.out.trans HMOD.out))⟩
          case measure => simp [intOf]; omega
      · go_wp2_with fail
        obtain ⟨Y, hY⟩ : ∃ Z, Z = v.heap.size := ⟨_, rfl⟩
        obtain ⟨u, hu⟩ : ∃ u, u = v.alloc (Obj.cells #[.int .i64 et, .int .i64 ek, .int .i64 eo, .bool ef] 51) := ⟨_, rfl⟩
        rw [← hu, ← hY]
        have hb : Below v.heap.size v u := by rw [hu]; exact (Below.refl _ _).alloc (Nat.le_refl _) _
        have hk : u.heap[Y]? = some (.cells #[.int .i64 et, .int .i64 ek, .int .i64 eo, .bool ef] 51 (0, 0)) := by rw [hu, hY]; exact heap_alloc_new v _
        have H6 := Lib.hid hk
        have HB := Lib.hid (below_at HB.out hb)
        (try have H2 := Lib.hid (And.intro (blk_stepW H2.out.1 hb) H2.out.2))
        (try have H4 := Lib.hid (And.intro (row_stepS H4.out.1 hb) H4.out.2))
        clear hb hk hu hY
        rename World => v
        refine pt_on (fun u h => h) (HXE.out _ HB.out).1 ?_
        refine pt_eff ?_
        go_wp2_with fail
        obtain ⟨E, hE⟩ : ∃ Z, Z = v.heap.size := ⟨_, rfl⟩
        obtain ⟨u, hu⟩ : ∃ u, u = v.alloc (Obj.cells #[] 51) := ⟨_, rfl⟩
        rw [← hu, ← hE]
        have hb : Below v.heap.size v u := by rw [hu]; exact (Below.refl _ _).alloc (Nat.le_refl _) _
        have hk : u.heap[E]? = some (.cells #[] 51 (0, 0)) := by rw [hu, hE]; exact heap_alloc_new v _
        have H2 := Lib.hid (And.intro hk (show V0.heap.size ≤ E by rw [hE]; exact HB.out.size))
        have HB := Lib.hid (below_at HB.out hb)
        (try have H6 := Lib.hid (blk_stepW H6.out hb))
        clear hb hk hu hE
        rename World => v
        refine pt_on (fun u h => h) (HXE.out _ HB.out).1 ?_
        refine pt_eff ?_
        have HR := Lib.hid (HRD.out v HB.out)
        have HE := Lib.hid (row_empty (sz := 4) H2.out.1)
        go_wp2_with (at_builtin; refine wpList_append_copy (by rfl) _ _ _ (by rfl) 51 i0 _ 4 32 Tryz.underlying55 hi0 hz0 hz1 hz2 rfl (by omega) ⟨E, 0, none⟩ 0 [] (by rfl) HE.out A rl cap (row.flatMap encE) (by rfl) HR.out (by unfold maxLen; omega) (by omega) ?_; intro g7 o7 cap7 u hown hb hgz)
        rw [Nat.zero_add, List.nil_append] at hown
        have hg1 : V0.heap.size ≤ g7 := by rcases hgz with ⟨_, h⟩ | h; (rw [h]; exact H2.out.2); exact Nat.le_trans HB.out.size h
        have H4 := Lib.hid (And.intro hown hg1)
        have HB := Lib.hid (below_at HB.out hb)
        (try have H6 := Lib.hid (blk_stepW H6.out hb))
        clear hown hb hgz hg1 HR HE
        rename World => v
        refine pt_on (fun u h => h) (HXE.out _ HB.out).1 ?_
        refine pt_eff ?_
        go_wp2_with (at_builtin; refine wpList_append_row (by rfl) _ _ _ (by rfl) 51 i0 _ 4 32 Tryz.underlying55 hi0 hz0 hz1 hz2 rfl (by omega) (some ⟨g7, o7, none⟩) rl cap7 (row.flatMap encE) (by rfl) H4.out.1 ⟨Y, 0, none⟩ 1 1 [.int .i64 et, .int .i64 ek, .int .i64 eo, .bool ef] (by rfl) (by rfl) (World.news_of_block (cs := #[.int .i64 et, .int .i64 ek, .int .i64 eo, .bool ef]) (t := 51) (fr := (0, 0)) H6.out) (by simp [Value.oneCell']) (by omega) (by unfold maxLen; omega) (by omega) ?_; intro g8 o8 cap8 u hown hm hat)
        have H7 := Lib.hid (show Rd u 4 (some ⟨g8, o8, none⟩) (rl + 1) (row.flatMap encE ++ [.int .i64 et, .int .i64 ek, .int .i64 eo, .bool ef]) from hown.rd)
        have H8 := Lib.hid (show V0.heap.size ≤ g8 by rcases hat with ⟨a, e1, e2⟩ | h; (injection e1 with e1; subst e1; simp only at e2; rw [e2]; exact H4.out.2); exact Nat.le_trans HB.out.size h)
        have HB := Lib.hid (more_belowW HB.out H4.out.2 hm)
        clear hown hm hat
        rename World => v
        refine pt_on (fun u h => h) (HXE.out _ HB.out).1 ?_
        refine pt_eff ?_
        go_wp2_with fail
        refine (HREC.out _ _ _ _ HB.out H8.out H7.out).mono ?_
        rintro y w9 ⟨rfl, hsum, hmod⟩
        have hxe := HXE.out _ HB.out
        have hzm : Z ≠ M := HZM.out
        have hev : EvAt w9 Z 0 ⟨et, ek, eo, ef⟩ := ⟨(hmod.cell Z 0 hxe.2 hzm).trans hxe.1.1, (hmod.cell Z (0 + 1) hxe.2 hzm).trans hxe.1.2.1, (hmod.cell Z (0 + 2) hxe.2 hzm).trans hxe.1.2.2.1, (hmod.cell Z (0 + 3) hxe.2 hzm).trans hxe.1.2.2.2⟩
        have HSUM := Lib.hid hsum
        have HMOD := Lib.hid ((Mod.of_below_size HB.out _).trans hmod)
        have HEV := Lib.hid hev
        clear hsum hmod hxe hzm hev
        go_wp2_with fail
        refine pt_on (fun u h => h) HEV.out ?_
        refine pt_end ?_
        go_wp2_with fail
        go_roundw
        case rel => exact ⟨i + 1, by omega, by go_num, HSUM, Lib.hid ((HMV.out.trans HMOD.out))⟩
        case measure => simp [intOf]; omega
    · obtain rfl : i = na := by omega
      go_wp2_with fail
      go_end0
      have hs := HSU.out
      rw [List.take_of_length_le (by rw [HNA.out]; exact Nat.le_refl _)] at hs
      exact ⟨rfl, hs, HMO.out.trans HMV0.out⟩
theorem refOver_any : ∀ (n : Nat) (s : St), Pr.Wf s → Pr.fuels s ≤ n → n ≤ 32 → RefOverC n s := by
  intro n
  induction n with
  | zero =>
    intro s hw hf _ w C S T o row A cap M c a most h hC hr hrl hMS hMT hMC hAM hs hg hc hmost
    by_cases h1 : most < c + 1
    · rw [Pr.over_now h1]
      exact refOver_full 0 s hw w C S T o row A cap M c a most h hC hr hrl hMS hMT hMC hAM hs hg (by omega) hmost h1
    · have ha := Pr.all_nil_of hw (by omega)
      rw [Pr.over_nil h1 ha]
      exact refOver_end 0 s hw w C S T o row A cap M c a most h hC hr hrl hMS hMT hMC hAM hs hg (by omega) hmost h1 ha
  | succ n ih =>
    intro s hw hf hn w C S T o row A cap M c a most h hC hr hrl hMS hMT hMC hAM hs hg hc hmost
    by_cases h1 : most < c + 1
    · rw [Pr.over_now h1]
      exact refOver_full (n + 1) s hw w C S T o row A cap M c a most h hC hr hrl hMS hMT hMC hAM hs hg (by omega) hmost h1
    · by_cases ha : Pr.all s = []
      · rw [Pr.over_nil h1 ha]
        exact refOver_end (n + 1) s hw w C S T o row A cap M c a most h hC hr hrl hMS hMT hMC hAM hs hg (by omega) hmost h1 ha
      · rw [Pr.over_go h1 ha hw hf]
        exact refOver_more (n + 1) s hw w C S T o row A cap M c a most h hC hr hrl hMS hMT hMC hAM hs hg (by omega) hmost h1 ha hn hc (Nat.succ_pos _) (fun t ht => by
          have hen := Pr.all_iff.1 ht
          have := Pr.fuels_step hw hen
          exact ih (Pr.stepS s t) (Pr.stepS_wf t hw).1 (by omega) (by omega))
end Go.Proofs.YtckdofjpoajblaaGreat
namespace Go.Proofs.YtckdofjpoajblaaGreat
open Go.RowKit
set_option linter.unusedVariables false
namespace Pr
def sm0 : Sm := ⟨[], 0, 0⟩
def all6 (p : Pg) (f : Int) (most : Nat) : (Nat × Sm) × Int :=
  if may p f then
    let x := over at6 most 32 (start p f.toNat) [] (0, sm0)
    if most < x.1 then ((0, sm0), 5) else (x, 0)
  else ((0, sm0), 1)
def small (p : Pg) (f : Int) : Bool := few p && decide (Ok p) && decide (0 ≤ f ∧ f ≤ 8) && ((all6 p f 600).2 == 0)
end Pr
def All6Out (w : World) (r : (Nat × Pr.Sm) × Int) (x : Ending) (w' : World) : Prop :=
  ∃ A cap, x = .returned (.tuple #[.agg #[.slice A r.1.2.keys.length cap, .int .i64 r.1.2.runs, .int .i64 r.1.1, .int .i64 r.1.2.stuck], .int .i64 r.2]) ∧ Rd w' 1 A r.1.2.keys.length (r.1.2.keys.map sv) ∧ r.1.2.keys.length ≤ cap ∧ cap ≤ maxLen ∧ Below w.heap.size w w'
theorem Rd.str_not4 {w : World} {A : Option Addr} {ks : List Ky.K} {Z : Nat} {sa : Option Addr} {sb sc : Nat} {x y z : Int} {T : TypeId} (h : Rd w 1 A ks.length (ks.map sv)) (hZ : w.heap[Z]? = some (.cells #[.slice sa sb sc, .int .i64 x, .int .i64 y, .int .i64 z] T (0, 0))) {g o : Nat} (hA : A = some ⟨g, o, none⟩) (hn : 0 < ks.length) : g ≠ Z := by
  obtain ⟨g', o', hA', hg, hc⟩ := h.2 (by omega)
  rw [hA] at hA'
  injection hA' with e
  injection e with e1 e2
  subst e1 e2
  intro e
  subst e
  have h0 := hc 0 (by omega)
  rw [cell_blk hZ, List.getElem?_map, List.getElem?_eq_getElem hn] at h0
  rcases (show o + 0 = 0 ∨ o + 0 = 1 ∨ o + 0 = 2 ∨ o + 0 = 3 ∨ 4 ≤ o + 0 by omega) with e | e | e | e | e
  · rw [e] at h0; simp [sv] at h0
  · rw [e] at h0; simp [sv] at h0
  · rw [e] at h0; simp [sv] at h0
  · rw [e] at h0; simp [sv] at h0
  · rw [Array.getElem?_eq_none (by simpa using e)] at h0; simp [sv] at h0
theorem PgIn.alloc {w : World} {p : Pg} {A : Option Addr} (h : PgIn w p A) (o : Obj) : PgIn (w.alloc o) p A := h.below ((Below.refl _ _).alloc (Nat.le_refl _) o)
set_option maxRecDepth 100000 in
set_option maxHeartbeats 4000000 in
theorem refAll6_any (w : World) (p : Pg) (A : Option Addr) (cap : Nat) (f : Int) (most : Nat) (hp : PgIn w p A) (hmost : most ≤ 100000) :
    Calls Tryz.prog 19 #[valP p A cap, .int .i64 f, .int .i64 (most : Int)] w (All6Out w (Pr.all6 p f most)) := by
  obtain ⟨Wa, X, hWa, hX, hBa, hXl, hXe⟩ := pg_box w p.vars p.mtx A p.code.length cap
  obtain ⟨Wb, hWb⟩ : ∃ z, z = Wa.alloc (Obj.cells #[.slice none 0 0, .int .i64 0, .int .i64 0, .int .i64 0] 29) := ⟨_, rfl⟩
  obtain ⟨Z, hZ⟩ : ∃ z, z = Wa.heap.size := ⟨_, rfl⟩
  have hZX : X + 1 = Z := by rw [hZ, hWa, World.size_alloc, hX]
  have hZk : Wb.heap[Z]? = some (.cells #[.slice none 0 0, .int .i64 0, .int .i64 0, .int .i64 0] 29 (0, 0)) := by rw [hWb, hZ]; exact heap_alloc_new Wa _
  have hBb : Below Wa.heap.size Wa Wb := by rw [hWb]; exact (Below.refl _ _).alloc (Nat.le_refl _) _
  have hpb := (hp.below hBa).below hBb
  have hZW : w.heap.size ≤ Z := by rw [hZ]; exact hBa.size
  have HBB := Lib.hid (below_at hBa hBb)
  have HZW := Lib.hid hZW
  have HZK := Lib.hid hZk
  have HXE := Lib.hid (fun (u : World) (hu : Below Wb.heap.size Wb u) => hXe u (below_at hBb hu))
  obtain ⟨x0, x1, x2, xl⟩ := hXe Wb hBb
  by_cases hm : Pr.may p f
  · obtain ⟨m, rfl⟩ : ∃ m : Nat, f = m := ⟨f.toNat, by have := hm.2.1; omega⟩
    have hm8 : m ≤ 8 := by have := hm.2.2; omega
    have hnew := refNew_ok Wb p A cap m hpb hm.1 hm8
    obtain ⟨s0, hs0⟩ : ∃ s0, s0 = Pr.start p m := ⟨_, rfl⟩
    obtain ⟨⟨c, a⟩, hx⟩ : ∃ x, x = Pr.over Pr.at6 most 32 (Pr.start p m) [] (0, Pr.sm0) := ⟨_, rfl⟩
    have hres : Pr.all6 p m most = if most < c then ((0, Pr.sm0), 5) else ((c, a), 0) := by
      unfold Pr.all6
      rw [if_pos hm, Int.toNat_natCast, ← hx]
    have hwf := Pr.start_wf hm.1 hm8
    have hfu := Pr.fuels_start hm.1 hm8
    have hcb := Pr.over_bound Pr.at6 most 32 (Pr.start p m) [] (0, Pr.sm0) hwf
    have hgd := Pr.over_good most 32 (Pr.start p m) [] (0, Pr.sm0) ⟨Nat.le_refl _, Nat.le_refl _, Nat.le_refl _⟩
    rw [← hx] at hcb hgd
    rw [← hs0] at hnew hx hwf hfu
    obtain ⟨res, hr⟩ : ∃ r, r = Pr.all6 p m most := ⟨_, rfl⟩
    rw [← hr] at hres ⊢
    unfold valP at hnew ⊢
    have hc9 : c ≤ 200000 := by simp only at hcb; omega
    have HNEW := Lib.hid hnew
    have HRES := Lib.hid hres
    have HWF := Lib.hid (And.intro hwf hfu)
    have HX := Lib.hid hx
    have HGD := Lib.hid hgd
    clear hXe hp hpb hnew hres hwf hfu hx hm hs0 hr hBa hBb hcb hgd hZk hZW hm8
    go_enter Tryz.func19, Tryz.ntmps19
    go_upto_region 1 with fail
    rw [← hWa, ← hX, ← hWb, hZX]
    clear hWa hX hWb hZ hZX
    go_wp2_with fail
    refine HNEW.out.mono ?_
    rintro y w1 ⟨S, T, o, rfl, hR, hS, hT, b1⟩
    have HB1 := Lib.hid b1
    obtain ⟨W2, hW2⟩ : ∃ z, z = w1.alloc (Obj.cells #[.slice none 0 0, .int .i64 0, .int .i64 0, .int .i64 0] 29) := ⟨_, rfl⟩
    obtain ⟨M, hM⟩ : ∃ z, z = w1.heap.size := ⟨_, rfl⟩
    have hMk : W2.heap[M]? = some (.cells #[.slice none 0 0, .int .i64 0, .int .i64 0, .int .i64 0] 29 (0, 0)) := by rw [hW2, hM]; exact heap_alloc_new w1 _
    have hb2 : Below w1.heap.size w1 W2 := by rw [hW2]; exact (Below.refl _ _).alloc (Nat.le_refl _) _
    have hsl := hR.lt
    have hbz := b1.size
    have hall := refOver_any 32 s0 HWF.out.1 HWF.out.2 (Nat.le_refl _) W2 _ S T o [] none 0 M 0 Pr.sm0 most (hR.below hb2) (fun k hk => by have := hb2.size; omega) (Row.nil W2 51 4).rd (by simp) (by omega) (by omega) (by omega) (fun b hb => by cases hb)
      ⟨none, 0, hMk, fun b hb => (by cases hb), (Row.nil W2 9 1).rd, Nat.le_refl _, Nat.zero_le _⟩ ⟨Nat.le_refl _, Nat.le_refl _, Nat.le_refl _⟩ (by omega) hmost
    rw [← HX.out] at hall
    have HALL := Lib.hid hall
    have HB2 := Lib.hid (below_at b1 hb2)
    have HMZ := Lib.hid (show Z < M ∧ Wb.heap.size ≤ M ∧ Z < Wb.heap.size by rw [hM]; have := blk_lt HZK.out; omega)
    clear b1 hR hS hT hMk hb2 hsl hbz hall HNEW x0 x1 x2 xl
    go_upto_region 5 with fail
    rw [← hW2, ← hM]
    clear hW2 hM
    go_wp2_with fail
    refine HALL.out.mono ?_
    rintro y w3 ⟨rfl, ⟨KA, kc, hM3, hKM, hkr, hk1, hk2⟩, hmo⟩
    have m0 : w3.cell? ⟨M, 0, none⟩ = some (.slice KA a.keys.length kc) := cell_blk hM3 0
    have m1 : w3.cell? ⟨M, 1, none⟩ = some (.int .i64 a.runs) := cell_blk hM3 1
    have m2 : w3.cell? ⟨M, 2, none⟩ = some (.int .i64 c) := cell_blk hM3 2
    have m3 : w3.cell? ⟨M, 3, none⟩ = some (.int .i64 a.stuck) := cell_blk hM3 3
    have ml := blk_lt hM3
    have hb3 : Below Wb.heap.size Wb w3 := HB2.out.trans (hmo.below _ HB2.out.size (fun k hk e => by have := HMZ.out; omega))
    have hZ3 : w3.heap[Z]? = some (.cells #[.slice none 0 0, .int .i64 0, .int .i64 0, .int .i64 0] 29 (0, 0)) := (hb3.block Z HMZ.out.2.2).trans HZK.out
    have HB3 := Lib.hid (below_at HBB.out hb3)
    have HKR := Lib.hid (And.intro hkr (And.intro hk1 hk2))
    clear hM3 hKM hkr hk1 hk2 hmo hb3 HALL HB2 HB1
    by_cases hfull : most < c
    · have d1 : decide ((most : Int) < (c : Int)) = true := decide_eq_true (by omega)
      have d2 : (most : Int) < (c : Int) := by omega
      have hres : res = ((0, Pr.sm0), 5) := by rw [HRES.out, if_pos hfull]
      have HR := Lib.hid hres
      obtain ⟨V2, hV2, ⟨e0, e1, e2, e3⟩, hmv⟩ := in4_exit hZ3 (.slice none 0 0) (.int .i64 0) (.int .i64 0) (.int .i64 0)
      obtain ⟨⟨y0, y1, y2, y3⟩, el, g0, g1, g2, g3⟩ := in4_cells hZ3
      have HV2 := Lib.hid hV2
      have HMV := Lib.hid hmv
      clear hV2 hmv hres hZ3 hfull HRES
      go_wp2_with fail
      rw [← HV2.out]
      refine bodyPost_ret (v := .tuple #[.agg #[.slice none 0 0, .int .i64 0, .int .i64 0, .int .i64 0], .int .i64 5]) (by simp [results, Tryz.results19, go_sem, e0, e1, e2, e3]) rfl ?_
      rw [HR.out]
      exact ⟨none, 0, rfl, (Row.nil V2 9 1).rd, Nat.le_refl _, Nat.zero_le _, HB3.out.trans (HMV.out.below _ HB3.out.size (fun k hk e => by have := HZW.out; omega))⟩
    · have HZ3 := Lib.hid hZ3
      have d1 : decide ((most : Int) < (c : Int)) = false := decide_eq_false (by omega)
      have d2 : ¬ (most : Int) < (c : Int) := by omega
      have hres : res = ((c, a), 0) := by rw [HRES.out, if_neg hfull]
      have HR := Lib.hid hres
      obtain ⟨V2, hV2, ⟨e0, e1, e2, e3⟩, hmv⟩ := in4_exit hZ3 (.slice KA a.keys.length kc) (.int .i64 a.runs) (.int .i64 c) (.int .i64 a.stuck)
      obtain ⟨⟨y0, y1, y2, y3⟩, el, g0, g1, g2, g3⟩ := in4_cells hZ3
      have HV2 := Lib.hid hV2
      have HMV := Lib.hid hmv
      clear hV2 hmv hres hZ3 hfull HRES
      go_wp2_with fail
      rw [← HV2.out]
      refine bodyPost_ret (v := .tuple #[.agg #[.slice KA a.keys.length kc, .int .i64 a.runs, .int .i64 c, .int .i64 a.stuck], .int .i64 0]) (by simp [results, Tryz.results19, go_sem, e0, e1, e2, e3]) rfl ?_
      rw [HR.out]
      refine ⟨KA, kc, rfl, ?_, HKR.out.2.1, HKR.out.2.2, HB3.out.trans (HMV.out.below _ HB3.out.size (fun k hk e => by have := HZW.out; omega))⟩
      refine ⟨HKR.out.1.1, fun hp => ?_⟩
      obtain ⟨g, o, hA, hgl, hcc⟩ := HKR.out.1.2 hp
      have hne := HKR.out.1.str_not4 HZ3.out hA (by simp only at hp; omega)
      exact ⟨g, o, hA, Nat.lt_of_lt_of_le hgl HMV.out.size, fun j hj => (HMV.out.cell g (o + j) hgl hne).trans (hcc j hj)⟩
  · have hnew := refNew_bad Wb p A cap f hpb hm
    have hres : Pr.all6 p f most = ((0, Pr.sm0), 1) := by unfold Pr.all6; rw [if_neg hm]
    rw [hres]
    unfold valP at hnew ⊢
    have HNEW := Lib.hid hnew
    clear hXe hp hpb hnew hres hm hBa hBb hZk hZW
    go_enter Tryz.func19, Tryz.ntmps19
    go_upto_region 1 with fail
    rw [← hWa, ← hX, ← hWb, hZX]
    clear hWa hX hWb hZ hZX
    go_wp2_with fail
    refine HNEW.out.mono ?_
    rintro y w1 ⟨rfl, b1⟩
    have hZ3 := (b1.block Z (blk_lt HZK.out)).trans HZK.out
    obtain ⟨V2, hV2, ⟨e0, e1, e2, e3⟩, hmv⟩ := in4_exit hZ3 (.slice none 0 0) (.int .i64 0) (.int .i64 0) (.int .i64 0)
    obtain ⟨⟨y0, y1, y2, y3⟩, el, g0, g1, g2, g3⟩ := in4_cells hZ3
    have HB3 := Lib.hid (below_at HBB.out b1)
    have HV2 := Lib.hid hV2
    have HMV := Lib.hid hmv
    clear hV2 hmv hZ3 b1
    go_wp2_with fail
    rw [← HV2.out]
    refine bodyPost_ret (v := .tuple #[.agg #[.slice none 0 0, .int .i64 0, .int .i64 0, .int .i64 0], .int .i64 1]) (by simp [results, Tryz.results19, go_sem, e0, e1, e2, e3]) rfl ?_
    exact ⟨none, 0, rfl, (Row.nil V2 9 1).rd, Nat.le_refl _, Nat.zero_le _, HB3.out.trans (HMV.out.below _ HB3.out.size (fun k hk e => by have := HZW.out; omega))⟩
set_option maxRecDepth 100000 in
set_option maxHeartbeats 2000000 in
theorem small_any (w : World) (p : Pg) (A : Option Addr) (cap : Nat) (f : Int) (hp : PgIn w p A) :
    Calls Tryz.prog 29 #[valP p A cap, .int .i64 f] w fun x w' => x = .returned (.bool (Pr.small p f)) ∧ Below w.heap.size w w' := by
  obtain ⟨Wa, X, hWa, hX, hBa, hXl, hXe⟩ := pg_box w p.vars p.mtx A p.code.length cap
  have hpa := hp.below hBa
  have hfew : Calls Tryz.prog 18 #[valP p A cap] Wa fun x w' => x = .returned (.bool (Pr.few p)) ∧ Below Wa.heap.size Wa w' := fewP_any Wa p A cap hpa.1 hpa.2.1 hpa.2.2
  have hright : ∀ u, Below Wa.heap.size Wa u → _ := fun u hu => refPRight_any u p A cap (hpa.below hu)
  have hall : ∀ u, Below Wa.heap.size Wa u → _ := fun u hu => refAll6_any u p A cap f 600 (hpa.below hu) (by omega)
  obtain ⟨fk, hfk⟩ : ∃ fk, fk = Pr.few p := ⟨_, rfl⟩
  obtain ⟨rt, hrt⟩ : ∃ rt, rt = decide (Pr.Ok p) := ⟨_, rfl⟩
  obtain ⟨⟨⟨c, a⟩, e⟩, hr⟩ : ∃ r, r = Pr.all6 p f 600 := ⟨_, rfl⟩
  have hres : Pr.small p f = (fk && rt && decide (0 ≤ f ∧ f ≤ 8) && (e == 0)) := by unfold Pr.small; rw [← hfk, ← hrt, ← hr]
  obtain ⟨res, hrr⟩ : ∃ r, r = Pr.small p f := ⟨_, rfl⟩
  rw [← hrr] at hres ⊢
  rw [← hfk] at hfew
  rw [← hrt] at hright
  rw [← hr] at hall
  unfold valP at hfew hright hall ⊢
  have HXE := Lib.hid hXe
  have HB := Lib.hid hBa
  have HFEW := Lib.hid hfew
  have HRT := Lib.hid hright
  have HALL := Lib.hid hall
  have HRES := Lib.hid hres
  obtain ⟨x0, x1, x2, xl⟩ := hXe Wa (Below.refl _ _)
  clear hXe hBa hfew hright hall hres hpa hp hrr hfk hrt hr
  go_enter Tryz.func29, Tryz.ntmps29
  go_upto_region 1 with fail
  rw [← hWa, ← hX]
  clear hWa hX
  go_wp2_with fail
  refine HFEW.out.mono ?_
  rintro y w1 ⟨rfl, b1⟩
  have HB1 := Lib.hid b1
  clear b1 x0 x1 x2 xl
  obtain ⟨x0, x1, x2, xl⟩ := HXE.out w1 HB1.out
  cases fk with
  | false =>
    go_wp2_with fail
    go_ret
    exact ⟨by rw [HRES.out]; rfl, below_at HB.out HB1.out⟩
  | true =>
    go_wp2_with fail
    refine (HRT.out w1 HB1.out).mono ?_
    rintro y w2 ⟨rfl, b2⟩
    have HB2 := Lib.hid (below_at HB1.out b2)
    clear b2 x0 x1 x2 xl
    obtain ⟨x0, x1, x2, xl⟩ := HXE.out w2 HB2.out
    cases rt with
    | false =>
      go_wp2_with fail
      go_ret
      exact ⟨by rw [HRES.out]; rfl, below_at HB.out HB2.out⟩
    | true =>
      by_cases h0 : f < 0
      · have HH := Lib.hid (decide_eq_false (show ¬ (0 ≤ f ∧ f ≤ 8) by omega))
        go_wp2_with fail
        go_ret
        exact ⟨by rw [HRES.out, HH.out]; rfl, below_at HB.out HB2.out⟩
      · by_cases h8 : 8 < f
        · have HH := Lib.hid (decide_eq_false (show ¬ (0 ≤ f ∧ f ≤ 8) by omega))
          go_wp2_with fail
          go_ret
          exact ⟨by rw [HRES.out, HH.out]; rfl, below_at HB.out HB2.out⟩
        · have HH := Lib.hid (decide_eq_true (show 0 ≤ f ∧ f ≤ 8 by omega))
          have HC := Lib.hid (HALL.out w2 HB2.out)
          go_wp2_with fail
          refine HC.out.mono ?_
          rintro y w3 ⟨KA, kc, rfl, _, _, _, b3⟩
          have HB3 := Lib.hid (below_at HB2.out b3)
          clear b3 HC HALL
          go_wp2_with fail
          go_ret
          exact ⟨by rw [HRES.out, HH.out]; rfl, (below_at HB.out HB3.out).alloc (below_at HB.out HB3.out).size _⟩
end Go.Proofs.YtckdofjpoajblaaGreat
namespace Go.Proofs.YtckdofjpoajblaaGreat
set_option linter.unusedVariables false
namespace Pr
def Cls (p : Pg) (m : Nat) (k : List UInt8) : Prop := ∃ s l, Ex (start p m) l s ∧ all s = [] ∧ Fo.key l = k
def sumOf (L : List (St × List Ev)) : Sm := L.foldl (fun a z => at6 z.1 z.2 a) sm0
theorem sumOf_at (L : List (St × List Ev)) : ∀ a : Sm, (L.foldl (fun a z => at6 z.1 z.2 a) a) = ⟨(L.map fun z => Fo.key z.2).foldl Ky.insG a.keys, a.runs + L.length, a.stuck + (L.filter fun z => waits z.1).length⟩ := by
  induction L with
  | nil => intro a; rfl
  | cons z L ih =>
    intro a
    rw [List.foldl_cons, ih]
    unfold at6
    by_cases h : waits z.1 = true
    · simp [h]; omega
    · simp [h]; omega
theorem sumOf_eq (L : List (St × List Ev)) : sumOf L = ⟨Ky.gather (L.map fun z => Fo.key z.2), L.length, (L.filter fun z => waits z.1).length⟩ := by
  unfold sumOf
  rw [sumOf_at]
  simp [sm0, Ky.gather]
theorem small_spec {p : Pg} {f : Int} (h : small p f = true) : ∃ m : Nat, f = m ∧ m ≤ 8 ∧ Ok p ∧ few p = true ∧ cnt 32 (start p m) ≤ 600 ∧ all6 p f 600 = ((cnt 32 (start p m), sumOf (ends 32 (start p m) [])), 0) := by
  unfold small at h
  simp only [Bool.and_eq_true, decide_eq_true_eq, beq_iff_eq] at h
  obtain ⟨⟨⟨h1, h2⟩, h3⟩, h4⟩ := h
  obtain ⟨m, rfl⟩ : ∃ m : Nat, f = m := ⟨f.toNat, by omega⟩
  refine ⟨m, rfl, by omega, h2, h1, ?_⟩
  have hm : may p m := ⟨h2, h3.1, h3.2⟩
  unfold all6 at h4 ⊢
  rw [if_pos hm, Int.toNat_natCast] at h4 ⊢
  by_cases hc : 0 + cnt 32 (start p m) ≤ 600
  · refine ⟨by omega, ?_⟩
    rw [over_eq at6 600 32 (start p m) [] (0, sm0) hc]
    simp only [Nat.zero_add]
    rw [if_neg (by omega)]
    rfl
  · have := over_full at6 600 32 (start p m) [] (0, sm0) (by simp only; omega)
    simp only at h4
    rw [if_pos this] at h4
    cases h4
theorem keys_cls {p : Pg} {m : Nat} (h : Ok p) (hm : m ≤ 8) (k : List UInt8) : k ∈ (sumOf (ends 32 (start p m) [])).keys ↔ Cls p m k := by
  rw [sumOf_eq]
  simp only
  rw [Ky.gather_mem, List.mem_map]
  have hw := start_wf h hm
  have hf := fuels_start h hm
  constructor
  · rintro ⟨⟨s, l⟩, hin, rfl⟩
    obtain ⟨l', e, hex, ha⟩ := (mem_ends 32 _ [] hw hf s l).1 hin
    rw [List.nil_append] at e
    subst e
    exact ⟨s, l, hex, ha, rfl⟩
  · rintro ⟨s, l, hex, ha, rfl⟩
    exact ⟨(s, l), (mem_ends 32 _ [] hw hf s l).2 ⟨l, rfl, hex, ha⟩, rfl⟩
theorem keys_len {p : Pg} {m : Nat} : (sumOf (ends 32 (start p m) [])).keys.length ≤ (ends 32 (start p m) []).length := by
  have h := kids_good 0 0 (start p m) [] [] (0, sm0) ⟨Nat.le_refl _, Nat.le_refl _, Nat.le_refl _⟩
  have : ∀ (L : List (St × List Ev)) (a : Sm), a.keys.length ≤ a.runs → (L.foldl (fun a z => at6 z.1 z.2 a) a).keys.length ≤ (L.foldl (fun a z => at6 z.1 z.2 a) a).runs := by
    intro L
    induction L with
    | nil => intro a h; exact h
    | cons z L ih =>
      intro a h
      rw [List.foldl_cons]
      refine ih _ ?_
      unfold at6
      simp only
      rw [Ky.insG_len]
      split <;> omega
  have h2 := this (ends 32 (start p m) []) sm0 (Nat.le_refl _)
  have h3 := sumOf_eq (ends 32 (start p m) [])
  unfold sumOf at h3 ⊢
  rw [h3] at h2 ⊢
  exact h2
theorem ends_len : ∀ (n : Nat) (s : St) (row : List Ev), (ends n s row).length ≤ cnt n s := by
  intro n
  induction n with
  | zero => intro s row; simp [ends, cnt]
  | succ n ih =>
    intro s row
    simp only [ends, cnt]
    by_cases ha : all s = []
    · simp [ha]
    · rw [if_neg ha, List.length_flatMap]
      have : ∀ l : List Nat, (l.map fun t => (ends n (stepS s t) (row ++ [evAt s t])).length).sum ≤ (l.map fun t => cnt n (stepS s t)).sum := by
        intro l
        induction l with
        | nil => simp
        | cons t l ih2 => simp only [List.map_cons, List.sum_cons]; have := ih (stepS s t) (row ++ [evAt s t]); omega
      have := this (all s)
      omega
end Pr
end Go.Proofs.YtckdofjpoajblaaGreat
namespace Go.Proofs.YtckdofjpoajblaaGreat
open Bs
set_option linter.unusedVariables false
theorem Ky.strict_nd {l : List Ky.K} (h : Ky.Strict l) : l.Nodup := by
  refine List.Pairwise.imp (fun {a b} hab e => ?_) h
  rw [e, Ky.lt_irr] at hab
  cases hab
theorem Ky.gather_len {l : List Ky.K} (h : l.Nodup) : (Ky.gather l).length = l.length :=
  Nat.le_antisymm (Pr.nodup_len _ _ (Ky.strict_nd (Ky.gather_strict l)) (fun x hx => (Ky.gather_mem l x).1 hx)) (Pr.nodup_len _ _ h (fun x hx => (Ky.gather_mem l x).2 hx))
namespace Pr
def ksE (s : St) (bg : Nat) (od : List Nat) : List Ky.K := Ky.gather (explX s bg od).1.keys
def ksA (s : St) : List Ky.K := (sumOf (ends 32 s [])).keys
theorem mem_ksA {s : St} (hs : Wf s) (hf : fuels s ≤ 32) (k : Ky.K) : k ∈ ksA s ↔ ∃ s' l, Ex s l s' ∧ all s' = [] ∧ Fo.key l = k := by
  unfold ksA
  rw [sumOf_eq]
  simp only
  rw [Ky.gather_mem, List.mem_map]
  constructor
  · rintro ⟨⟨s', l⟩, hin, rfl⟩
    obtain ⟨l', e, hex, ha⟩ := (mem_ends 32 _ [] hs hf s' l).1 hin
    rw [List.nil_append] at e
    subst e
    exact ⟨s', l, hex, ha, rfl⟩
  · rintro ⟨s', l, hex, ha, rfl⟩
    exact ⟨(s', l), (mem_ends 32 _ [] hs hf s' l).2 ⟨l, rfl, hex, ha⟩, rfl⟩
theorem ksA_strict (s : St) : Ky.Strict (ksA s) := by
  unfold ksA
  rw [sumOf_eq]
  exact Ky.gather_strict _
theorem ksE_strict (s : St) (bg : Nat) (od : List Nat) : Ky.Strict (ksE s bg od) := Ky.gather_strict _
structure ExplOk (s0 : St) (bg : Nat) (od : List Nat) : Prop where
  nodes : (explX s0 bg od).1.nodes ≤ bg
  nodes2 : (explX s0 bg od).1.nodes ≤ cnt 32 s0
  runs : (explX s0 bg od).1.runs = (ksE s0 bg od).length
  klen : (explX s0 bg od).1.keys.length = (explX s0 bg od).1.runs
  mem : ∀ k ∈ ksE s0 bg od, k ∈ ksA s0
  blk : (explX s0 bg od).1.runs + (explX s0 bg od).1.blk ≤ (explX s0 bg od).1.nodes
  full : (explX s0 bg od).2 = true → ksE s0 bg od = ksA s0
  compl : cnt 32 s0 ≤ bg → (explX s0 bg od).2 = true
theorem expl_ok {s0 : St} (hs : Wf s0) (hf : fuels s0 ≤ 32) (bg : Nat) (od : List Nat) (h1 : 1 ≤ bg) : ExplOk s0 bg od := by
  have hf2 : fuels s0 ≤ 200 := by omega
  have hlaw := expl_law hs bg od h1
  obtain ⟨g, hT, hn, hk, hr, hb, hbg⟩ : ∃ g, TreeG s0 g ∧ (explX s0 bg od).1.nodes = g.H.length ∧ (explX s0 bg od).1.keys = (g.H.filter (isEnd s0)).map Fo.key ∧ (explX s0 bg od).1.runs = (g.H.filter (isEnd s0)).length ∧ (explX s0 bg od).1.runs + (explX s0 bg od).1.blk ≤ (explX s0 bg od).1.nodes ∧ (explX s0 bg od).1.nodes ≤ bg := by
    cases hc : (explX s0 bg od).2 with
    | true =>
      obtain ⟨g, F, h2, _⟩ := hlaw.1 hc
      exact ⟨g, F.tree, F.nodes, F.keys, F.runs, F.blk, h2⟩
    | false =>
      obtain ⟨g, I, h2, _⟩ := hlaw.2 hc
      exact ⟨g, I.tree, I.nodes, I.keys, I.runs, I.blk, Nat.le_of_eq h2⟩
  have hnd : (explX s0 bg od).1.keys.Nodup := by rw [hk]; exact hT.keys_nodup hs hf2
  have hkl : (explX s0 bg od).1.keys.length = (explX s0 bg od).1.runs := by rw [hk, hr, List.length_map]
  refine ⟨hbg, by rw [hn]; exact hT.small hs hf, ?_, hkl, fun k hm => ?_, hb, fun hc => ?_, fun hc => expl_all hs hf bg od hc h1⟩
  · unfold ksE
    rw [Ky.gather_len hnd, hkl]
  · unfold ksE at hm
    rw [Ky.gather_mem, hk] at hm
    exact (mem_ksA hs hf k).2 (hT.keys_cls hs hf2 hm)
  · obtain ⟨g', F, _, _⟩ := hlaw.1 hc
    refine Ky.strict_ext (ksE_strict s0 bg od) (ksA_strict s0) fun k => ⟨fun hm => ?_, fun hm => ?_⟩
    · unfold ksE at hm
      rw [Ky.gather_mem, hk] at hm
      exact (mem_ksA hs hf k).2 (hT.keys_cls hs hf2 hm)
    · obtain ⟨s', l, hex, ha, rfl⟩ := (mem_ksA hs hf k).1 hm
      unfold ksE
      rw [Ky.gather_mem, F.keys]
      exact F.all_cls hs hf2 hex ha
theorem cnt_pos (n : Nat) (s : St) : 1 ≤ cnt n s := by cases n <;> simp [cnt]
end Pr
end Go.Proofs.YtckdofjpoajblaaGreat
namespace Go.Proofs.YtckdofjpoajblaaGreat
open Go.RowKit Bs
set_option linter.unusedVariables false
def ExpOut (w : World) (s0 : St) (bg : Nat) (od : List Nat) (x : Ending) (w' : World) : Prop :=
  ∃ KA kc, x = .returned (.tuple #[.agg #[.slice KA (Pr.ksE s0 bg od).length kc, .int .i64 ((Pr.explX s0 bg od).1.nodes : Int), .int .i64 ((Pr.explX s0 bg od).1.runs : Int), .int .i64 ((Pr.explX s0 bg od).1.blk : Int), .bool (Pr.explX s0 bg od).2], .int .i64 0]) ∧ Rd w' 1 KA (Pr.ksE s0 bg od).length ((Pr.ksE s0 bg od).map sv) ∧ (∀ a, KA = some a → w.heap.size ≤ a.block) ∧ Below w.heap.size w w'
theorem five_exit {V : World} {X : Nat} {T : TypeId} {a0 a1 a2 a3 a4 : Value} (hk : V.heap[X]? = some (.cells #[a0, a1, a2, a3, a4] T (0, 0))) (v0 v1 v2 v3 v4 : Value) :
    ∃ V2, V2 = ((((V.setCell ⟨X, 0, none⟩ v0).setCell ⟨X, 1, none⟩ v1).setCell ⟨X, 2, none⟩ v2).setCell ⟨X, 3, none⟩ v3).setCell ⟨X, 4, none⟩ v4 ∧ V2.cell? ⟨X, 0, none⟩ = some v0 ∧ V2.cell? ⟨X, 1, none⟩ = some v1 ∧ V2.cell? ⟨X, 2, none⟩ = some v2 ∧ V2.cell? ⟨X, 3, none⟩ = some v3 ∧ V2.cell? ⟨X, 4, none⟩ = some v4 ∧ Mod (fun q => q = X) V V2 := by
  have hk2 := set_blk (set_blk (set_blk (set_blk (set_blk hk 0 v0) 1 v1) 2 v2) 3 v3) 4 v4
  refine ⟨_, rfl, by rw [cell_blk hk2]; rfl, by rw [cell_blk hk2]; rfl, by rw [cell_blk hk2]; rfl, by rw [cell_blk hk2]; rfl, by rw [cell_blk hk2]; rfl, ?_⟩
  exact (((((Mod.refl (fun q => q = X) V).setCell (p := ⟨X, 0, none⟩) (fun _ => rfl) _).setCell (p := ⟨X, 1, none⟩) (fun _ => rfl) _).setCell (p := ⟨X, 2, none⟩) (fun _ => rfl) _).setCell (p := ⟨X, 3, none⟩) (fun _ => rfl) _).setCell (p := ⟨X, 4, none⟩) (fun _ => rfl) _
theorem XA.start (w : World) (C : Nat → Prop) (hC : ∀ k, C k → k < w.heap.size) (OA : Option Addr) (oc : Nat) (od : List Nat) (bg : Nat) :
    XA ⟨w, w.heap.size, C, w.heap.size, OA, oc, od, bg⟩ (w.alloc (.cells (xOf ⟨w, w.heap.size, C, w.heap.size, OA, oc, od, bg⟩ Pr.x0 none 0 none 0 none 0) 135)) (paint (fun _ => 0) w.heap.size 1) Pr.x0 none 0 none 0 none 0 [] :=
  ⟨(Fr.start w).step (Chg.alloc 9 1 _) (by decide), hC, BlkC.made w _ 1 _, RowC.nil _ _ _ _ _, RowC.nil _ _ _ _ _, RowC.nil _ _ _ _ _, ⟨rfl, by simp, fun i q n h => by simp at h⟩⟩
theorem Pr.expl_start {s0 : St} (hs : Pr.Wf s0) (bg : Nat) (od : List Nat) (h1 : 1 ≤ bg) (K : XK) (hb : K.bg = bg) (ho : K.od = od) : RunAt K s0 (Pr.explX s0 bg od) (2 * bg + 2) (Pr.openX od Pr.x0 s0 0#8) := by
  obtain ⟨td', I⟩ := Pr.open_inv od hs Pr.x0 Pr.g0 [] [] rfl rfl (Pr.g0_tree s0) rfl rfl rfl (fun y _ => ⟨rfl, rfl⟩) (fun {y q} hy _ => by cases hy) (fun {y q e i} hy _ _ _ _ => by cases hy) (fun {y q} hy _ _ => by cases hy) (fun {y} hy _ _ _ => by cases hy) rfl rfl rfl (Nat.le_refl _) rfl
  have I' : Pr.Inv s0 (Pr.openX od Pr.x0 s0 0#8) { Pr.g0 with td := td' } := I
  have hn : (Pr.openX od Pr.x0 s0 0#8).nodes = 1 := I'.nodes
  have hl : (Pr.openX od Pr.x0 s0 0#8).path.length = 1 := by rw [I'.path, Pr.pathOf_len, Pr.openX_ev]; rfl
  have hc := (Pr.openX_ch od Pr.x0 s0 0#8).1
  have hc0 : Pr.x0.ch = 0 := rfl
  refine ⟨by rw [hb, ho]; rfl, .inr ⟨_, I'⟩, by rw [hn, hb]; exact h1, by rw [hn]; omega, by rw [hn, hl, hb]; omega⟩
set_option maxRecDepth 100000 in
set_option maxHeartbeats 8000000 in
theorem explore_ok (w : World) (p : Pg) (A : Option Addr) (cap m b : Nat) (OA : Option Addr) (oc : Nat) (od : List Nat) (hp : PgIn w p A) (hm8 : m ≤ 8) (hok : Pr.Ok p) (hb : b ≤ 1000) (hr : Rd w 1 OA od.length (od.map fun (b : Nat) => Value.int .u8 (b : Int))) (h255 : ∀ b ∈ od, b ≤ 255) (hol : od.length ≤ 1000) :
    Calls Tryz.prog 36 #[valP p A cap, .int .i64 (m : Int), .int .i64 (b : Int), .slice OA od.length oc] w (ExpOut w (Pr.start p m) (max b 1) od) := by
  have hs0 := Pr.start_wf hok hm8
  have hf0 := Pr.fuels_start hok hm8
  obtain ⟨s0, hs⟩ : ∃ z, z = Pr.start p m := ⟨_, rfl⟩
  rw [← hs] at hs0 hf0 ⊢
  obtain ⟨bg, hbg⟩ : ∃ z, z = max b 1 := ⟨_, rfl⟩
  have hb1 : 1 ≤ bg := by omega
  have hb2 : bg ≤ 1000 := by omega
  have hmx : max (b : Int) 1 = (bg : Int) := by omega
  rw [← hbg]
  have okx := Pr.expl_ok hs0 hf0 bg od hb1
  obtain ⟨X0, hX0⟩ : ∃ z, z = w.heap.size := ⟨_, rfl⟩
  obtain ⟨W1, hW1⟩ : ∃ z, z = w.alloc (Obj.cells #[.int .i64 p.vars, .int .i64 p.mtx, .slice A p.code.length cap] 24) := ⟨_, rfl⟩
  obtain ⟨W2, hW2⟩ : ∃ z, z = W1.alloc (Obj.cells #[.slice none 0 0, .int .i64 0, .int .i64 0, .int .i64 0, .bool false] 60) := ⟨_, rfl⟩
  have z1 : W1.heap.size = X0 + 1 := by rw [hW1, World.size_alloc, hX0]
  have b1 : Below w.heap.size w W1 := by rw [hW1]; exact (Below.refl _ _).alloc (Nat.le_refl _) _
  have b2 : Below W1.heap.size W1 W2 := by rw [hW2]; exact (Below.refl _ _).alloc (Nat.le_refl _) _
  have b12 := below_at b1 b2
  have hXk : W2.heap[X0]? = some (.cells #[.int .i64 p.vars, .int .i64 p.mtx, .slice A p.code.length cap] 24 (0, 0)) := by
    refine (b2.block _ (by omega)).trans ?_
    rw [hW1, hX0]; exact heap_alloc_new w _
  have hZk : W2.heap[X0 + 1]? = some (.cells #[.slice none 0 0, .int .i64 0, .int .i64 0, .int .i64 0, .bool false] 60 (0, 0)) := by rw [hW2, ← z1]; exact heap_alloc_new W1 _
  have hnew := new_ok W2 p A cap m (hp.below b12).1 hok hm8
  rw [← hs] at hnew
  unfold valP at hnew ⊢
  have x0 : W2.cell? ⟨X0, 0, none⟩ = some (.int .i64 p.vars) := cell_blk hXk 0
  have x1 : W2.cell? ⟨X0, 1, none⟩ = some (.int .i64 p.mtx) := cell_blk hXk 1
  have x2 : W2.cell? ⟨X0, 2, none⟩ = some (.slice A p.code.length cap) := cell_blk hXk 2
  have xl := blk_lt hXk
  have HNEW := Lib.hid hnew
  have HB := Lib.hid b12
  have HZ := Lib.hid hZk
  have HR := Lib.hid (hr.below b12 (Nat.le_refl _))
  have HOD := Lib.hid (And.intro h255 hol)
  have HS0 := Lib.hid (And.intro hs0 hf0)
  have HOK := Lib.hid okx
  have HMX := Lib.hid hmx
  have HX0 := Lib.hid hX0
  have HB1 := Lib.hid (And.intro hb1 hb2)
  unfold ExpOut
  obtain ⟨R, hR⟩ : ∃ z, z = Pr.explX s0 bg od := ⟨_, rfl⟩
  have hks : Pr.ksE s0 bg od = Ky.gather R.1.keys := by rw [hR]; rfl
  have hkl : R.1.keys.length ≤ 1000 := by
    rw [hR, okx.klen]
    have := okx.nodes
    have := okx.blk
    omega
  obtain ⟨ks, hkse⟩ : ∃ z, z = Pr.ksE s0 bg od := ⟨_, rfl⟩
  rw [← hR, ← hkse]
  rw [← hkse] at hks
  obtain ⟨⟨R1, r2⟩, hRR⟩ : ∃ z, z = R := ⟨_, rfl⟩
  rw [← hRR] at hR hks hkl ⊢
  simp only at hks hkl ⊢
  have HR0 := Lib.hid (And.intro hR (And.intro hkse hRR))
  have HKS := Lib.hid (And.intro hks hkl)
  clear hs0 hf0 hs hok hp hm8 hr h255 hol okx hmx hbg b1 b2 b12 z1 hXk hZk hnew hb1 hb2 hR hks hkl hkse hRR
  go_enter Tryz.func36, Tryz.ntmps36
  go_upto_region 1 with fail
  rw [← hX0, ← hW1, ← hW2]
  clear hX0 hW1 hW2
  go_wp2_with fail
  refine HNEW.out.mono ?_
  rintro y w3 ⟨S0, T0, C0, rfl, hs3, hS3, hT3, hC3, b3⟩
  obtain ⟨C, hC⟩ : ∃ z, z = fun k => C0 k ∧ k < w3.heap.size := ⟨_, rfl⟩
  have hs4 := hs3.bound
  rw [← hC] at hs4
  have hCl : ∀ k, C k → k < w3.heap.size := fun k hk => by rw [hC] at hk; exact hk.2
  have HS3 := Lib.hid hs4
  have HCL := Lib.hid hCl
  have HB3 := Lib.hid b3
  clear hs3 hS3 hT3 hC3 b3 hC hs4 hCl HNEW x0 x1 x2 xl
  go_upto_region 5 with fail
  try rw [HMX.out]
  obtain ⟨W4, hW4⟩ : ∃ z, z = w3.alloc (Obj.cells #[.slice none 0 0, .slice none 0 0, .slice OA od.length oc, .int .i64 0, .int .i64 (bg : Int), .slice none 0 0, .int .i64 0, .int .i64 0, .int .i64 0, .bool false] 135) := ⟨_, rfl⟩
  obtain ⟨K, hK⟩ : ∃ z : XK, z = ⟨w3, w3.heap.size, C, w3.heap.size, OA, oc, od, bg⟩ := ⟨_, rfl⟩
  have hKX : w3.heap.size = K.X := by rw [hK]
  have hKo : K.od = od := by rw [hK]
  have hKb : K.bg = bg := by rw [hK]
  rw [← hW4, hKX]
  have hA4 : XA K W4 (paint (fun _ => 0) w3.heap.size 1) Pr.x0 none 0 none 0 none 0 [] := by rw [hW4, hK]; exact XA.start w3 C HCL.out OA oc od bg
  have hK0 : KOk K := by rw [hK]; exact ⟨HR.out.below HB3.out (Nat.le_refl _), rfl, HOD.out.1, HOD.out.2, HB1.out.2⟩
  have hs4 : SAt W4 K.C S0 T0 s0 := by
    have : SAt W4 C S0 T0 s0 := HS3.out.below (by rw [hW4]; exact (Below.refl _ _).alloc (Nat.le_refl _) _)
    rw [hK]
    exact this
  have hop := open_any hA4 hK0 S0 T0 s0 0#8 hs4 (paint_old HS3.out.lt.1) (paint_old HS3.out.lt.2) HS0.out.1 ⟨fun n h => (by cases h), Nat.zero_le _, rfl, Nat.zero_le _, Nat.zero_le _, Nat.zero_le _, Nat.zero_le _, Nat.zero_le _⟩ rfl
  rw [hKo, show sv8 0#8 = .int .u8 0 from rfl] at hop
  have hra := Pr.expl_start HS0.out.1 bg od HB1.out.1 K hKb hKo
  rw [← HR0.out.1] at hra
  have hfr : ∀ (w6 : World) (c6 : Nat → Nat), Fr K.base c6 K.W w6 → Below w3.heap.size w3 w6 ∧ ∀ k, k < w3.heap.size → c6 k = 0 := fun w6 c6 h => by rw [hK] at h; exact ⟨h.2.1, h.2.2⟩
  have hrun := fun (u : World) (hE : XE K u (Pr.openX od Pr.x0 s0 0#8)) => run_any hK0 HS0.out.1 HS0.out.2 hE hra
  have HOP := Lib.hid hop
  have HRUN := Lib.hid hrun
  have HFR := Lib.hid hfr
  have HKX := Lib.hid hKX
  clear hW4 hK hKX hKo hKb hA4 hK0 hs4 hop hra hfr hrun HOK HOD HR0 HR HCL HS3 HMX
  go_wp2_with fail
  refine HOP.out.mono ?_
  rintro y w5 ⟨rfl, hE⟩
  have HRN := Lib.hid (HRUN.out w5 hE)
  clear hE HOP HRUN
  go_wp2_with fail
  refine HRN.out.mono ?_
  rintro y w6 ⟨rfl, c6, PA, pc, EA, ec, KA, kc, Q, hA6⟩
  obtain ⟨hb36, hc0⟩ := HFR.out w6 c6 hA6.fr
  have hblk := hA6.blk.1
  have hXs := blk_lt hblk
  have hX3 : w3.heap.size ≤ K.X := Nat.le_of_eq HKX.out
  have hKA : ∀ a, KA = some a → w3.heap.size ≤ a.block ∧ a.block ≠ K.X := fun a ha => by
    have h4 := hA6.keys.2 a ha
    refine ⟨Nat.le_of_not_lt fun h => ?_, fun e => ?_⟩
    · rw [hc0 _ h] at h4; cases h4
    · rw [e, hA6.blk.2] at h4; cases h4
  have x9 : w6.cell? ⟨K.X, 9, none⟩ = some (.bool false) := hA6.blk.cell 9
  have xf9 : w6.frozen? ⟨K.X, 9, none⟩ = false := hA6.blk.free 9
  obtain ⟨W7, hW7⟩ : ∃ z, z = w6.setCell ⟨K.X, 9, none⟩ (.bool r2) := ⟨_, rfl⟩
  have hb7 := set_blk hblk 9 (.bool r2)
  have hm7 : Mod (fun k => k = K.X) w6 W7 := by rw [hW7]; exact (Mod.refl (fun k => k = K.X) w6).setCell (p := ⟨K.X, 9, none⟩) (fun _ => rfl) _
  have hr7 : Row W7 9 1 KA R1.keys.length kc (R1.keys.map sv) := hA6.keys.1.mod hm7 (fun a ha e => (hKA a ha).2 e)
  rw [← hW7] at hb7
  have HB6 := Lib.hid hb36
  have HM7 := Lib.hid hm7
  have HB7 := Lib.hid hb7
  have HR7 := Lib.hid hr7
  have HKA := Lib.hid hKA
  have HX3 := Lib.hid hX3
  clear hblk hA6 hb36 hc0 hb7 hm7 hr7 hKA hX3 HRN HFR HKX
  go_upto_region 7 with fail
  rw [← hW7]
  clear hW7 x9 xf9 hXs
  have x5 : W7.cell? ⟨K.X, 5, none⟩ = some (.slice KA R1.keys.length kc) := by rw [cell_blk HB7.out]; rfl
  have xl7 := blk_lt HB7.out
  obtain ⟨nk, hnk⟩ : ∃ z, z = R1.keys.length := ⟨_, rfl⟩
  have hso := sortS_any W7 KA kc R1.keys HR7.out (by have := HKS.out.2; omega)
  obtain ⟨sk, hsk⟩ : ∃ z, z = R1.keys.mergeSort fun x y => decide (x ≤ y) := ⟨_, rfl⟩
  have hskl : sk.length = R1.keys.length := by rw [hsk]; exact (List.mergeSort_perm _ _).length_eq
  rw [← hsk] at hso
  have hkc : Lib.compact sk = ks := by rw [hsk, HKS.out.1]; exact Ky.sort_compact _
  have hnkl : nk ≤ 1000 := by rw [hnk]; exact HKS.out.2
  rw [← hnk] at hso x5 hskl
  have HSO := Lib.hid hso
  have HSK := Lib.hid (And.intro hskl hkc)
  have HNK := Lib.hid hnk
  clear hso hsk hskl hkc hnk HR7 HKS
  go_wp2_with fail
  refine HSO.out.mono ?_
  rintro y w8 ⟨rfl, r8, m8⟩
  have hb8 := (m8.block _ xl7 (fun ⟨a, e1, e2⟩ => (HKA.out a e1).2 e2.symm)).trans HB7.out
  have hco := compactS_any w8 KA kc sk (by rw [HSK.out.1]; exact r8) (by rw [HSK.out.1]; omega)
  rw [HSK.out.2, HSK.out.1] at hco
  have HB8 := Lib.hid hb8
  have HM8 := Lib.hid m8
  have HCO := Lib.hid hco
  clear r8 m8 hb8 hco x5 xl7 HSO HSK
  have x5 : w8.cell? ⟨K.X, 5, none⟩ = some (.slice KA nk kc) := by rw [cell_blk HB8.out, HNK.out]; rfl
  have xl8 := blk_lt HB8.out
  go_wp2_with fail
  refine HCO.out.mono ?_
  rintro y w9 ⟨rfl, r9, m9⟩
  have hb9 := (m9.block _ xl8 (fun ⟨a, e1, e2⟩ => (HKA.out a e1).2 e2.symm)).trans HB8.out
  have x5' : w9.cell? ⟨K.X, 5, none⟩ = some (.slice KA nk kc) := by rw [cell_blk hb9, HNK.out]; rfl
  have xf5 : w9.frozen? ⟨K.X, 5, none⟩ = false := free_blk hb9 5
  have xl9 := blk_lt hb9
  obtain ⟨W10, hW10⟩ : ∃ z, z = w9.setCell ⟨K.X, 5, none⟩ (.slice KA ks.length kc) := ⟨_, rfl⟩
  have hb10 := set_blk hb9 5 (.slice KA ks.length kc)
  have hm10 : Mod (fun k => k = K.X) w9 W10 := by rw [hW10]; exact (Mod.refl (fun k => k = K.X) w9).setCell (p := ⟨K.X, 5, none⟩) (fun _ => rfl) _
  rw [← hW10] at hb10
  have hr10 : Row W10 9 1 KA ks.length kc (ks.map sv) := r9.mod hm10 (fun a ha e => (HKA.out a ha).2 e)
  have hm3 : Mod (fun k => w3.heap.size ≤ k) w3 W10 := by
    have n1 : Mod (fun k => w3.heap.size ≤ k) w3 w6 := Mod.of_below HB6.out
    have n2 := n1.then HM7.out (fun i hi e => by have := HX3.out; omega)
    have n3 := n2.then HM8.out (fun i hi ⟨a, e1, e2⟩ => by have := (HKA.out a e1).1; omega)
    have n4 := n3.then m9 (fun i hi ⟨a, e1, e2⟩ => by have := (HKA.out a e1).1; omega)
    exact n4.then hm10 (fun i hi e => by have := HX3.out; omega)
  have hZ10 : W10.heap[X0 + 1]? = _ := (hm3.block (X0 + 1) (Nat.lt_of_lt_of_le (blk_lt HZ.out) HB3.out.size) (fun e => by have h1 := blk_lt HZ.out; have h2 := HB3.out.size; omega)).trans ((HB3.out.block _ (blk_lt HZ.out)).trans HZ.out)
  have HB10 := Lib.hid hb10
  have HR10 := Lib.hid hr10
  have HM3 := Lib.hid hm3
  have HZL := Lib.hid (blk_lt HZ.out)
  have HZ10 := Lib.hid hZ10
  clear r9 m9 hb9 hb10 hm10 hr10 hm3 hZ10 HCO HM8 HM7 HB7 HB8 HB6 HZ x5 xl8
  go_upto_region 9 with fail
  rw [← hW10]
  clear hW10 x5' xf5 xl9
  have y5 : W10.cell? ⟨K.X, 5, none⟩ = some (.slice KA ks.length kc) := by rw [cell_blk HB10.out]; rfl
  have y6 : W10.cell? ⟨K.X, 6, none⟩ = some (.int .i64 (R1.nodes : Int)) := by rw [cell_blk HB10.out]; rfl
  have y7 : W10.cell? ⟨K.X, 7, none⟩ = some (.int .i64 (R1.runs : Int)) := by rw [cell_blk HB10.out]; rfl
  have y8 : W10.cell? ⟨K.X, 8, none⟩ = some (.int .i64 (R1.blk : Int)) := by rw [cell_blk HB10.out]; rfl
  have y9 : W10.cell? ⟨K.X, 9, none⟩ = some (.bool r2) := by rw [cell_blk HB10.out]; rfl
  have yl := blk_lt HB10.out
  have z0 : W10.cell? ⟨X0 + 1, 0, none⟩ = some (.slice none 0 0) := cell_blk HZ10.out 0
  have z1 : W10.cell? ⟨X0 + 1, 1, none⟩ = some (.int .i64 0) := cell_blk HZ10.out 1
  have z2 : W10.cell? ⟨X0 + 1, 2, none⟩ = some (.int .i64 0) := cell_blk HZ10.out 2
  have z3 : W10.cell? ⟨X0 + 1, 3, none⟩ = some (.int .i64 0) := cell_blk HZ10.out 3
  have z4 : W10.cell? ⟨X0 + 1, 4, none⟩ = some (.bool false) := cell_blk HZ10.out 4
  have zl := blk_lt HZ10.out
  have g0 := free_blk HZ10.out 0
  have g1 := free_blk HZ10.out 1
  have g2 := free_blk HZ10.out 2
  have g3 := free_blk HZ10.out 3
  have g4 := free_blk HZ10.out 4
  obtain ⟨V2, hV2, d0, d1, d2, d3, d4, hmv⟩ := five_exit HZ10.out (.slice KA ks.length kc) (.int .i64 (R1.nodes : Int)) (.int .i64 (R1.runs : Int)) (.int .i64 (R1.blk : Int)) (.bool r2)
  have HV2 := Lib.hid hV2
  have HMV := Lib.hid hmv
  clear hV2 hmv
  go_wp2_with fail
  rw [← HV2.out]
  refine bodyPost_ret (v := .tuple #[.agg #[.slice KA ks.length kc, .int .i64 (R1.nodes : Int), .int .i64 (R1.runs : Int), .int .i64 (R1.blk : Int), .bool r2], .int .i64 0]) (by simp [results, Tryz.results36, go_sem, d0, d1, d2, d3, d4]) rfl ?_
  refine ⟨KA, kc, rfl, ?_, fun a ha => ?_, ?_⟩
  · refine (HR10.out.mod HMV.out (fun a ha e => ?_)).rd
    have h1 := (HKA.out a ha).1
    have h2 := HB3.out.size
    have h3 := HZL.out
    omega
  · have h1 := (HKA.out a ha).1
    have h2 := HB3.out.size
    have h4 := HB.out.size
    omega
  · have n1 : Mod (fun k => w.heap.size ≤ k) w w3 := Mod.of_below (below_at HB.out HB3.out)
    have n2 := n1.then HM3.out (fun i hi e => by have h2 := HB3.out.size; have h4 := HB.out.size; omega)
    have n3 := n2.then HMV.out (fun i hi e => by have h3 := HX0.out; omega)
    exact n3.below w.heap.size (Nat.le_refl _) (fun k hk e => by omega)
end Go.Proofs.YtckdofjpoajblaaGreat
namespace Go.Proofs.YtckdofjpoajblaaGreat
open Go.RowKit
set_option linter.unusedVariables false
theorem rd_toC {w : World} {sz : Nat} {A : Option Addr} {n : Nat} {cs : List Value} (h : Rd w sz A n cs) : RdC w (fun k => k < w.heap.size) sz A n cs :=
  ⟨h.1, fun h0 => by obtain ⟨g, o, hA, hg, hc⟩ := h.2 h0; exact ⟨g, o, hA, hg, hg, hc⟩⟩
theorem pgin_two (w : World) (v m : Int) (q1 q2 : List Ins) (A1 A2 : Option Addr) (c1 c2 : Nat) (r1 : Rd w 4 A1 q1.length (q1.flatMap encI)) (r2 : Rd w 4 A2 q2.length (q2.flatMap encI)) (h1 : q1.length ≤ c1) (h2 : q2.length ≤ c2) (m1 : c1 ≤ maxLen) (m2 : c2 ≤ maxLen) :
    PgIn (w.alloc (Obj.cells #[.slice A1 q1.length c1, .slice A2 q2.length c2] 67)) ⟨v, m, [q1, q2]⟩ (some ⟨w.heap.size, 0, none⟩) := by
  have hb : Below w.heap.size w (w.alloc (Obj.cells #[.slice A1 q1.length c1, .slice A2 q2.length c2] 67)) := (Below.refl _ _).alloc (Nat.le_refl _) _
  have hk := heap_alloc_new w (Obj.cells #[.slice A1 q1.length c1, .slice A2 q2.length c2] 67)
  have e1 := rd_toC (r1.below hb (Nat.le_refl _))
  have e2 := rd_toC (r2.below hb (Nat.le_refl _))
  refine ⟨⟨[.slice A1 q1.length c1, .slice A2 q2.length c2], ⟨rfl, fun _ => ⟨_, 0, rfl, blk_lt hk, blk_lt hk, fun j hj => ?_⟩⟩, fun i q hi => ?_⟩, by simp [maxLen], fun q hq => ?_⟩
  · rw [cell_blk hk]
    rcases (show j = 0 ∨ j = 1 by simp at hj; omega) with rfl | rfl <;> rfl
  · match i, hi with
    | 0, hi => simp at hi; subst hi; exact ⟨A1, c1, rfl, e1, h1, m1⟩
    | 1, hi => simp at hi; subst hi; exact ⟨A2, c2, rfl, e2, h2, m2⟩
    | n + 2, hi => simp at hi
  · simp at hq
    rcases hq with rfl | rfl
    · exact Nat.le_trans h1 m1
    · exact Nat.le_trans h2 m2
end Go.Proofs.YtckdofjpoajblaaGreat
