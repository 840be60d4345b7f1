/- Colours: who owns which block. A step changes blocks of one colour alone; what has another colour stays. No program in sight. -/
import Derived.Test.YtcaapoacmfjnmaaGreatBase
import Derived.Test.YtcaapoacmfjnmaaGreatMap
namespace Go.Proofs.YtcaapoacmfjnmaaGreat
open Go.RowKit
set_option linter.unusedVariables false

/-- new blocks get colour j -/
def paint (c : Nat → Nat) (n j : Nat) : Nat → Nat := fun k => if k < n then c k else j
theorem paint_old {c : Nat → Nat} {n j k : Nat} (h : k < n) : paint c n j k = c k := if_pos h
theorem paint_new {c : Nat → Nat} {n j k : Nat} (h : n ≤ k) : paint c n j k = j := if_neg (by omega)

/-- blocks of colour j are changed, and new ones made; old ones keep their colour -/
def Chg (j : Nat) (c : Nat → Nat) (w : World) (c' : Nat → Nat) (w' : World) : Prop := Mod (fun k => c k = j) w w' ∧ ∀ k, k < w.heap.size → c' k = c k
theorem Chg.trans {j : Nat} {c c' c'' : Nat → Nat} {w w' w'' : World} (h : Chg j c w c' w') (k : Chg j c' w' c'' w'') : Chg j c w c'' w'' :=
  ⟨h.1.then k.1 (fun i hi e => by rw [← h.2 i hi]; exact e), fun i hi => (k.2 i (by have := h.1.size; omega)).trans (h.2 i hi)⟩
theorem Chg.size {j : Nat} {c c' : Nat → Nat} {w w' : World} (h : Chg j c w c' w') : w.heap.size ≤ w'.heap.size := h.1.size
theorem Chg.refl (j : Nat) (c : Nat → Nat) (w : World) : Chg j c w c w := ⟨Mod.refl _ _, fun _ _ => rfl⟩
theorem Chg.mod {j : Nat} {c : Nat → Nat} {w w' : World} (i : Nat) (h : Mod (fun k => c k = j) w w') : Chg j c w (paint c w.heap.size i) w' := ⟨h, fun k hk => paint_old hk⟩
theorem Chg.below {c : Nat → Nat} {w w' : World} (j i : Nat) (h : Below w.heap.size w w') : Chg j c w (paint c w.heap.size i) w' := ⟨Mod.of_below_size h _, fun k hk => paint_old hk⟩
theorem Chg.alloc {c : Nat → Nat} {w : World} (j i : Nat) (o : Obj) : Chg j c w (paint c w.heap.size i) (w.alloc o) := .below j i ((Below.refl _ _).alloc (Nat.le_refl _) _)
theorem Chg.drew {j : Nat} {c c' : Nat → Nat} {w w' : World} (h : Chg j c w c' w') : Chg j c w c' w'.drew := ⟨h.1.drew, h.2⟩
theorem Chg.drewN {j : Nat} {c c' : Nat → Nat} {w w' : World} (h : Chg j c w c' w') (n : Nat) : Chg j c w c' (w'.drewN n) := ⟨h.1.drewN n, h.2⟩
theorem Chg.block {j : Nat} {c c' : Nat → Nat} {w w' : World} (h : Chg j c w c' w') {k : Nat} (hk : k < w.heap.size) (hj : c k ≠ j) : w'.heap[k]? = w.heap[k]? := h.1.block k hk hj

/-- since W, where all blocks had colour 0 -/
def Fr (base : Nat) (c : Nat → Nat) (W w : World) : Prop := base ≤ w.heap.size ∧ Below base W w ∧ ∀ k, k < base → c k = 0
theorem Fr.start (W : World) : Fr W.heap.size (fun _ => 0) W W := ⟨Nat.le_refl _, Below.refl _ _, fun _ _ => rfl⟩
theorem Fr.step {base j : Nat} {c c' : Nat → Nat} {W w w' : World} (h : Fr base c W w) (k : Chg j c w c' w') (hj : j ≠ 0) : Fr base c' W w' :=
  ⟨Nat.le_trans h.1 k.size, h.2.1.trans (k.1.below base h.1 (fun q hq e => hj (by rw [← e, h.2.2 q hq]))), fun q hq => (k.2 q (by have := h.1; omega)).trans (h.2.2 q hq)⟩
theorem Fr.below {base : Nat} {c : Nat → Nat} {W w : World} (h : Fr base c W w) : Below base W w := h.2.1

/-- a row whose block has colour j -/
def RowC (w : World) (c : Nat → Nat) (j : Nat) (e sz : Nat) (A : Option Addr) (n cap : Nat) (cs : List Value) : Prop := Row w e sz A n cap cs ∧ ∀ a, A = some a → c a.block = j
theorem RowC.stay {i j e sz n cap : Nat} {A : Option Addr} {cs : List Value} {c c' : Nat → Nat} {w w' : World} (h : RowC w c i e sz A n cap cs) (k : Chg j c w c' w') (hij : i ≠ j) : RowC w' c' i e sz A n cap cs :=
  ⟨h.1.mod k.1 (fun a ha hj => hij ((h.2 a ha).symm.trans hj)), fun a ha => by subst ha; rw [k.2 _ h.1.lt]; exact h.2 a rfl⟩
theorem RowC.nil (w : World) (c : Nat → Nat) (j e sz : Nat) : RowC w c j e sz none 0 0 [] := ⟨Row.nil _ _ _, fun a h => (by cases h)⟩
/-- behind a step that wrote the row: an append, a store -/
theorem RowC.put {j e sz n cap n' cap' : Nat} {A A' : Option Addr} {cs cs' : List Value} {c : Nat → Nat} {w w' : World} (h : RowC w c j e sz A n cap cs)
    (hr : Row w' e sz A' n' cap' cs') (hm : Mod (fun k => ∃ a, A = some a ∧ k = a.block) w w') (hat : ∀ a', A' = some a' → (∃ a, A = some a ∧ a'.block = a.block) ∨ w.heap.size ≤ a'.block) :
    RowC w' (paint c w.heap.size j) j e sz A' n' cap' cs' ∧ Chg j c w (paint c w.heap.size j) w' :=
  ⟨⟨hr, fun a' ha' => by
    rcases hat a' ha' with ⟨a, h1, h2⟩ | h1
    · rw [h2, paint_old (by subst h1; exact h.1.lt)]; exact h.2 a h1
    · exact paint_new h1⟩, .mod j (hm.mono (fun k _ ⟨a, h1, h2⟩ => h2 ▸ h.2 a h1))⟩
/-- a new row -/
theorem RowC.fresh {j e sz n cap : Nat} {A : Option Addr} {cs : List Value} {c : Nat → Nat} {w w' : World} (hr : Row w' e sz A n cap cs) (hat : ∀ a, A = some a → w.heap.size ≤ a.block) : RowC w' (paint c w.heap.size j) j e sz A n cap cs :=
  ⟨hr, fun a ha => paint_new (hat a ha)⟩

/-- a block of colour j, and what it holds -/
def BlkC (w : World) (c : Nat → Nat) (j k : Nat) (o : Obj) : Prop := w.heap[k]? = some o ∧ c k = j
theorem BlkC.lt {w : World} {c : Nat → Nat} {j k : Nat} {o : Obj} (h : BlkC w c j k o) : k < w.heap.size := (Array.getElem?_eq_some_iff.1 h.1).1
theorem BlkC.stay {i j k : Nat} {o : Obj} {c c' : Nat → Nat} {w w' : World} (h : BlkC w c i k o) (s : Chg j c w c' w') (hij : i ≠ j) : BlkC w' c' i k o :=
  ⟨(s.block h.lt (fun e => hij (h.2.symm.trans e))).trans h.1, (s.2 k h.lt).trans h.2⟩
theorem BlkC.made (w : World) (c : Nat → Nat) (j : Nat) (o : Obj) : BlkC (w.alloc o) (paint c w.heap.size j) j w.heap.size o := ⟨heap_alloc_new w o, paint_new (Nat.le_refl _)⟩
theorem BlkC.cell {w : World} {c : Nat → Nat} {j g : Nat} {cur : Array Value} {e : TypeId} {fr : Nat × Nat} (h : BlkC w c j g (.cells cur e fr)) (o : Nat) : w.cell? ⟨g, o, none⟩ = cur[o]? := cell_blk h.1 o
theorem BlkC.free {w : World} {c : Nat → Nat} {j g : Nat} {cur : Array Value} {e : TypeId} (h : BlkC w c j g (.cells cur e (0, 0))) (o : Nat) : w.frozen? ⟨g, o, none⟩ = false := free_blk h.1 o
theorem BlkC.set {w : World} {c : Nat → Nat} {j g : Nat} {cur : Array Value} {e : TypeId} (h : BlkC w c j g (.cells cur e (0, 0))) (o : Nat) (v : Value) :
    BlkC (w.setCell ⟨g, o, none⟩ v) (paint c w.heap.size j) j g (.cells (cur.setIfInBounds o v) e (0, 0)) ∧ Chg j c w (paint c w.heap.size j) (w.setCell ⟨g, o, none⟩ v) :=
  ⟨⟨set_blk h.1 o v, (paint_old h.lt).trans h.2⟩, .mod j ((Mod.refl _ w).setCell (p := ⟨g, o, none⟩) (fun _ => h.2) v)⟩

section
variable {P : Program} {kt : TypeId} {K : Type} [DecidableEq K]
/-- a map whose block has colour j -/
def MapC (kd : KeyK P kt K) (w : World) (c : Nat → Nat) (j r : Nat) (m : List (K × Value)) : Prop := MapAt kd w r m ∧ c r = j
variable {kd : KeyK P kt K}
theorem MapC.stay {i j r : Nat} {m : List (K × Value)} {c c' : Nat → Nat} {w w' : World} (h : MapC kd w c i r m) (s : Chg j c w c' w') (hij : i ≠ j) : MapC kd w' c' i r m :=
  ⟨h.1.move (s.block h.1.lt (fun e => hij (h.2.symm.trans e))), (s.2 r h.1.lt).trans h.2⟩
theorem MapC.put {j r : Nat} {m m' : List (K × Value)} {c : Nat → Nat} {w w' : World} (h : MapC kd w c j r m) (h' : MapAt kd w' r m') (hm : Mod (fun q => q = r) w w') :
    MapC kd w' (paint c w.heap.size j) j r m' ∧ Chg j c w (paint c w.heap.size j) w' :=
  ⟨⟨h', (paint_old h.1.lt).trans h.2⟩, .mod j (hm.mono (fun k _ e => e ▸ h.2))⟩
theorem MapC.made (kd : KeyK P kt K) (w : World) (c : Nat → Nat) (j n : Nat) : MapC kd (w.alloc (.map #[] n)) (paint c w.heap.size j) j w.heap.size [] := ⟨MapAt.made kd w n, paint_new (Nat.le_refl _)⟩
end

theorem RowC.set {w : World} {c : Nat → Nat} {j e sz g o n cap : Nat} {cs : List Value} (h : RowC w c j e sz (some ⟨g, o, none⟩) n cap cs) (q : Nat) (hq : q < n * sz) (v : Value) :
    RowC (w.setCell ⟨g, o + q, none⟩ v) (paint c w.heap.size j) j e sz (some ⟨g, o, none⟩) n cap (cs.set q v) ∧ Chg j c w (paint c w.heap.size j) (w.setCell ⟨g, o + q, none⟩ v) :=
  ⟨⟨h.1.set q hq v, fun a ha => by injection ha with ha; subst ha; rw [paint_old h.1.lt]; exact h.2 _ rfl⟩, .mod j ((Mod.refl _ w).setCell (p := ⟨g, o + q, none⟩) (fun _ => h.2 _ rfl) v)⟩
end Go.Proofs.YtcaapoacmfjnmaaGreat
