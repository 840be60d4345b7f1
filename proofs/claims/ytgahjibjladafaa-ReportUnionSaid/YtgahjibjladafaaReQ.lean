/- three lists of texts in a row of slices, whose blocks are apart -/
import Derived.Test.YtgahjibjladafaaReN
import Derived.Test.YtgahjibjladafaaFoLv
import Derived.JoinedTies
import GoSem.Claim
import Derived.KernelRfl
namespace Go.Proofs.Ytgahjibjladafaa
open Go.RowKit
set_option linter.unusedVariables false

def upd (f : Nat → List Ky.K) (k : Nat) (l : List Ky.K) : Nat → List Ky.K := fun j => if j = k then l else f j
structure Ls (w : World) (B Z T : Nat) (f : Nat → List Ky.K) (v : Nat → Option Addr × Nat) : Prop where
  blk : w.heap[Z]? = some (.cells #[.slice (v 0).1 (f 0).length (v 0).2, .slice (v 1).1 (f 1).length (v 1).2, .slice (v 2).1 (f 2).length (v 2).2] T (0, 0))
  old : B ≤ Z
  row : ∀ i, i < 3 → Row w 9 1 (v i).1 (f i).length (v i).2 ((f i).map sv)
  far : ∀ i, i < 3 → ∀ a, (v i).1 = some a → B ≤ a.block ∧ a.block ≠ Z
  two : ∀ i j, i < 3 → j < 3 → i ≠ j → ∀ a b, (v i).1 = some a → (v j).1 = some b → a.block ≠ b.block
theorem Ls.cell {w : World} {B Z T : Nat} {f : Nat → List Ky.K} {v : Nat → Option Addr × Nat} (h : Ls w B Z T f v) {k : Nat} (hk : k < 3) : w.cell? ⟨Z, k, none⟩ = some (.slice (v k).1 (f k).length (v k).2) := by
  rcases (show k = 0 ∨ k = 1 ∨ k = 2 by omega) with rfl | rfl | rfl <;> (rw [cell_blk h.blk]; rfl)
theorem Ls.free {w : World} {B Z T : Nat} {f : Nat → List Ky.K} {v : Nat → Option Addr × Nat} (h : Ls w B Z T f v) (k : Nat) : w.frozen? ⟨Z, k, none⟩ = false := free_blk h.blk k
theorem Ls.lt {w : World} {B Z T : Nat} {f : Nat → List Ky.K} {v : Nat → Option Addr × Nat} (h : Ls w B Z T f v) : Z < w.heap.size := blk_lt h.blk
theorem Ls.move {w w' : World} {B Z T : Nat} {f : Nat → List Ky.K} {v : Nat → Option Addr × Nat} (h : Ls w B Z T f v) (hb : Below w.heap.size w w') : Ls w' B Z T f v :=
  ⟨(hb.block _ h.lt).trans h.blk, h.old, fun i hi => (h.row i hi).move fun a ha => hb.block _ (by have := h.row i hi; rw [ha] at this; exact this.lt), h.far, h.two⟩
theorem Ls.put {w w' : World} {B Z T : Nat} {f : Nat → List Ky.K} {v : Nat → Option Addr × Nat} (h : Ls w B Z T f v) {k : Nat} (hk : k < 3) {g o n cap : Nat} {l : List Ky.K} (hn : n = l.length)
    (hm : Mod (fun x => ∃ a, (v k).1 = some a ∧ x = a.block) w w') (hr : Row w' 9 1 (some ⟨g, o, none⟩) n cap (l.map sv)) (hg : (∃ a, (v k).1 = some a ∧ g = a.block) ∨ w.heap.size ≤ g) :
    Ls (w'.setCell ⟨Z, k, none⟩ (.slice (some ⟨g, o, none⟩) n cap)) B Z T (upd f k l) (fun j => if j = k then (some ⟨g, o, none⟩, cap) else v j) ∧ Below B w (w'.setCell ⟨Z, k, none⟩ (.slice (some ⟨g, o, none⟩) n cap)) := by
  subst hn
  have hZ := h.lt
  have hZF : ¬ ∃ a, (v k).1 = some a ∧ Z = a.block := by rintro ⟨a, ha, rfl⟩; exact (h.far k hk a ha).2 rfl
  have hZ' : w'.heap[Z]? = _ := (hm.block Z hZ hZF).trans h.blk
  have hgB : B ≤ g ∧ g ≠ Z := by
    rcases hg with ⟨a, ha, rfl⟩ | hg
    · exact h.far k hk a ha
    · have := h.old; omega
  have hmv : ∀ x, x ≠ Z → (w'.setCell ⟨Z, k, none⟩ (.slice (some ⟨g, o, none⟩) l.length cap)).heap[x]? = w'.heap[x]? := fun x hx => by
    by_cases hlt : x < w'.heap.size
    · exact ((Mod.refl (fun y => y = Z) w').setCell (p := ⟨Z, k, none⟩) (fun _ => rfl) _).block x hlt hx
    · have hs : (w'.setCell ⟨Z, k, none⟩ (.slice (some ⟨g, o, none⟩) l.length cap)).heap.size = w'.heap.size := by simp [World.setCell]
      rw [Array.getElem?_eq_none (by omega), Array.getElem?_eq_none (by omega)]
  have hBw : B ≤ w.heap.size := by have := h.old; omega
  refine ⟨⟨?_, h.old, fun i hi => ?_, fun i hi a ha => ?_, fun i j hi hj hij a b ha hb => ?_⟩, ?_⟩
  · rw [set_blk hZ']
    rcases (show k = 0 ∨ k = 1 ∨ k = 2 by omega) with rfl | rfl | rfl <;> simp [upd]
  · by_cases hik : i = k
    · subst hik
      simp only [upd, if_true]
      exact hr.move fun a ha => by injection ha with ha; subst ha; exact hmv _ hgB.2
    · simp only [upd, if_neg hik]
      exact ((h.row i hi).mod hm (fun a ha hF => by obtain ⟨b, hb, e⟩ := hF; exact h.two i k hi hk hik a b ha hb e)).move fun a ha => hmv _ (h.far i hi a ha).2
  · by_cases hik : i = k
    · subst hik
      simp only [if_true] at ha
      injection ha with ha
      subst ha
      exact hgB
    · simp only [if_neg hik] at ha
      exact h.far i hi a ha
  · have key : ∀ (j : Nat) (b : Addr), j < 3 → j ≠ k → (v j).1 = some b → b.block ≠ g := fun j b hj hjk hb' => by
      rcases hg with ⟨c, hc, rfl⟩ | hg
      · exact h.two j k hj hk hjk b c hb' hc
      · have := h.row j hj
        rw [hb'] at this
        have := this.lt
        omega
    by_cases hik : i = k
    · subst hik
      simp only [if_true] at ha
      injection ha with ha
      subst ha
      have hji : j ≠ i := fun e => hij e.symm
      simp only [if_neg hji] at hb
      exact fun e => key j b hj hji hb e.symm
    · simp only [if_neg hik] at ha
      by_cases hjk : j = k
      · subst hjk
        simp only [if_true] at hb
        injection hb with hb
        subst hb
        exact key i a hi hik ha
      · simp only [if_neg hjk] at hb
        exact h.two i j hi hj hij a b ha hb
  · refine ((Mod.mono (G := fun x => B ≤ x) hm ?_).setCell (p := ⟨Z, k, none⟩) (fun _ => h.old) _).below B hBw (fun x h1 h2 => by omega)
    rintro x _ ⟨a, ha, rfl⟩
    exact (h.far k hk a ha).1
theorem Ls.begun (w : World) (T B : Nat) (hB : B ≤ w.heap.size) : Ls (w.alloc (.cells #[.slice none 0 0, .slice none 0 0, .slice none 0 0] T)) B w.heap.size T (fun _ => []) (fun _ => (none, 0)) :=
  ⟨heap_alloc_new w _, hB, fun i _ => Row.nil _ _ _, fun i _ a h => (by cases h), fun i j _ _ _ a b h => (by cases h)⟩
theorem Ls.stAt {w : World} {B Z T : Nat} {f : Nat → List Ky.K} {v : Nat → Option Addr × Nat} (h : Ls w B Z T f v) : StAt w w.heap.size (some ⟨Z, 0, none⟩) [f 0, f 1, f 2] := by
  refine ⟨[.slice (v 0).1 (f 0).length (v 0).2, .slice (v 1).1 (f 1).length (v 1).2, .slice (v 2).1 (f 2).length (v 2).2], ⟨rfl, fun _ => ⟨Z, 0, rfl, h.lt, fun j hj => ?_⟩⟩, fun i hi => ?_⟩
  · rw [cell_blk h.blk]; simp
  · rcases (show i = 0 ∨ i = 1 ∨ i = 2 by simp at hi; omega) with rfl | rfl | rfl
    · exact ⟨_, _, rfl, (h.row 0 (by omega)).rd.toB, (h.row 0 (by omega)).2.1, (h.row 0 (by omega)).2.2.1⟩
    · exact ⟨_, _, rfl, (h.row 1 (by omega)).rd.toB, (h.row 1 (by omega)).2.1, (h.row 1 (by omega)).2.2.1⟩
    · exact ⟨_, _, rfl, (h.row 2 (by omega)).rd.toB, (h.row 2 (by omega)).2.1, (h.row 2 (by omega)).2.2.1⟩
/-- one list, in a row of its own -/
theorem one_stAt (w : World) (T : Nat) (A : Option Addr) (cap : Nat) (a : List Ky.K) (hr : Rd w 1 A a.length (a.map sv)) (h1 : a.length ≤ cap) (h2 : cap ≤ maxLen) :
    StAt (w.alloc (.cells #[.slice A a.length cap] T)) (w.alloc (.cells #[.slice A a.length cap] T)).heap.size (some ⟨w.heap.size, 0, none⟩) [a] := by
  have hn := heap_alloc_new w (.cells #[.slice A a.length cap] T)
  have hb : Below w.heap.size w (w.alloc (.cells #[.slice A a.length cap] T)) := (Below.refl _ _).alloc (Nat.le_refl _) _
  generalize w.alloc (.cells #[.slice A a.length cap] T) = U at *
  refine ⟨[.slice A a.length cap], ⟨rfl, fun _ => ⟨w.heap.size, 0, rfl, blk_lt hn, fun j hj => ?_⟩⟩, fun i hi => ?_⟩
  · rw [cell_blk hn]; simp
  · obtain rfl : i = 0 := by simp at hi; omega
    exact ⟨_, _, rfl, (hr.below hb (Nat.le_refl _)).toB, h1, h2⟩
/-- a block of one -/
theorem row_one {w : World} {e Z : Nat} {x : Value} (h : w.heap[Z]? = some (.cells #[x] e (0, 0))) : Row w e 1 (some ⟨Z, 0, none⟩) 1 1 [x] :=
  ⟨by simp, Nat.le_refl _, by unfold maxLen; omega, fun h => (by cases h), fun a ha => by injection ha with ha; subst ha; exact ⟨rfl, _, h, by simp, by simp⟩⟩
theorem u8_cell {w : World} {B : Nat} {A : Option Addr} {ts : List Nat} (h : RdB w B 1 A ts.length (ts.map (fun (t : Nat) => Value.int .u8 (t : Int)))) : ∀ (k : Nat) (s : Nat), ts[k]? = some s → ∃ g o, A = some ⟨g, o, none⟩ ∧ g < B ∧ ∀ u, Below B w u → u.cell? ⟨g, o + k, none⟩ = some (.int .u8 (s : Int)) := fun k s hs => by
  obtain ⟨hk, rfl⟩ := List.getElem?_eq_some_iff.1 hs
  obtain ⟨g, o, hA, hg, hc⟩ := h.2 (by omega)
  refine ⟨g, o, hA, hg, fun u hu => ?_⟩
  rw [World.cell?_of_block (hu.block g hg), hc k (by omega), List.getElem?_map, List.getElem?_eq_getElem hk]
  rfl

/-- who is in the lists -/
def InLs (f : Nat → List Ky.K) (x : Ky.K) : Prop := ∃ j, j < 3 ∧ x ∈ f j
theorem upd_in {f : Nat → List Ky.K} {k : Nat} (hk : k < 3) {l : List Ky.K} {s : Ky.K} (hl : ∀ x, x ∈ l ↔ x = s ∨ x ∈ f k) (x : Ky.K) : InLs (upd f k l) x ↔ x = s ∨ InLs f x := by
  constructor
  · rintro ⟨j, hj, hx⟩
    by_cases hjk : j = k
    · simp only [upd, if_pos hjk] at hx
      rcases (hl x).1 hx with h | h
      · exact .inl h
      · exact .inr ⟨k, hk, h⟩
    · simp only [upd, if_neg hjk] at hx
      exact .inr ⟨j, hj, hx⟩
  · rintro (rfl | ⟨j, hj, hx⟩)
    · exact ⟨k, hk, by simp only [upd, if_true]; exact (hl x).2 (.inl rfl)⟩
    · by_cases hjk : j = k
      · exact ⟨k, hk, by simp only [upd, if_true]; exact (hl x).2 (.inr (hjk ▸ hx))⟩
      · exact ⟨j, hj, by simp only [upd, if_neg hjk]; exact hx⟩
theorem upd_len {f : Nat → List Ky.K} {k n : Nat} {l : List Ky.K} (hf : ∀ j, (f j).length ≤ n) (hl : l.length ≤ n + 1) (j : Nat) : (upd f k l j).length ≤ n + 1 := by
  unfold upd
  split
  · exact hl
  · have := hf j; omega
theorem in_gather {f : Nat → List Ky.K} {a : List Ky.K} (h : ∀ x, InLs f x ↔ x ∈ a) : Ky.gather [f 0, f 1, f 2].flatten = Ky.gather a := by
  refine Ky.gather_ext fun x => (Iff.trans ?_ (h x))
  simp only [List.flatten_cons, List.flatten_nil, List.append_nil, List.mem_append]
  constructor
  · rintro (h | h | h)
    · exact ⟨0, by omega, h⟩
    · exact ⟨1, by omega, h⟩
    · exact ⟨2, by omega, h⟩
  · rintro ⟨j, hj, h⟩
    rcases (show j = 0 ∨ j = 1 ∨ j = 2 by omega) with rfl | rfl | rfl
    · exact .inl h
    · exact .inr (.inl h)
    · exact .inr (.inr h)
theorem in_step {f f' : Nat → List Ky.K} {a : List Ky.K} {i : Nat} {s : Ky.K} (hs : a[i]? = some s) (h : ∀ x, InLs f x ↔ x ∈ a.take i) (h' : ∀ x, InLs f' x ↔ x = s ∨ InLs f x) (x : Ky.K) : InLs f' x ↔ x ∈ a.take (i + 1) := by
  rw [h', h, List.take_add_one, hs]
  simp only [Option.toList, List.mem_append, List.mem_singleton]
  exact ⟨fun h => h.symm, fun h => h.symm⟩
theorem in_again {f f' : Nat → List Ky.K} {a : List Ky.K} {i : Nat} {s : Ky.K} (hs : a[i]? = some s) (h : ∀ x, InLs f x ↔ x ∈ a.take (i + 1)) (h' : ∀ x, InLs f' x ↔ x = s ∨ InLs f x) (x : Ky.K) : InLs f' x ↔ x ∈ a.take (i + 1) := by
  rw [h', h]
  constructor
  · rintro (rfl | h)
    · rw [List.take_add_one, hs]; simp
    · exact h
  · exact .inr
theorem Ls.at_mod {w w' : World} {B Z T : Nat} {f : Nat → List Ky.K} {v : Nat → Option Addr × Nat} (h : Ls w B Z T f v) {k : Nat} (hk : k < 3) (hm : Mod (fun x => ∃ a, (v k).1 = some a ∧ x = a.block) w w') {j : Nat} (hj : j < 3) :
    w'.cell? ⟨Z, j, none⟩ = some (.slice (v j).1 (f j).length (v j).2) ∧ w'.frozen? ⟨Z, j, none⟩ = false ∧ Z < w'.heap.size := by
  have hZF : ¬ ∃ a, (v k).1 = some a ∧ Z = a.block := by rintro ⟨a, ha, rfl⟩; exact (h.far k hk a ha).2 rfl
  exact ⟨(hm.cell Z j h.lt hZF).trans (h.cell hj), (hm.frozen Z j h.lt hZF).trans (h.free j), Nat.lt_of_lt_of_le h.lt hm.size⟩
namespace Ky
theorem few_factsQ {ks : List K} (h : fewK ks = true) : ks.length ≤ 60 ∧ ∀ k ∈ ks, k.length ≤ 200 := by
  unfold fewK at h
  rw [Bool.and_eq_true] at h
  exact ⟨by simpa using h.2, fun k hk => by simpa using List.all_eq_true.1 h.1 k hk⟩
end Ky
open Go.ChangeShapes Go.WideShapes Go.ChangeAt
theorem str_readQ {H : Type} {enc : TypeId × Value → H} {w : World} {base : Nat} {spare : Nat → Bool} {held : Bool} (fuel : Nat) (cs : List Value) (y : DataW H × List MemPlace) (hl : cs.length = 1)
    (h : DataW.trod enc Try.prog w base spare held fuel 9 cs = some y) : ∃ x : Ky.K, cs = [sv x] ∧ x.length ≤ maxLen := by
  obtain ⟨p, e, hm⟩ := tr_string Try.underlying9 h
  exact ⟨p.data.toList, by rw [e, sv, ba_back], by simpa using hm⟩
theorem flat_svQ (xs : List Ky.K) : xs.flatMap (fun s => [sv s]) = xs.map sv := by induction xs <;> simp_all
set_option maxRecDepth 100000 in
/-- a row of texts -/
theorem strs_readQ {H : Type} {enc : TypeId × Value → H} {w : World} {base : Nat} {spare : Nat → Bool} {held : Bool} {fuel : Nat} {A : Option Addr} {n cap : Nat} {y : DataW H × List MemPlace}
    (h : DataW.trod enc Try.prog w base spare held fuel 67 [.slice A n cap] = some y) : ∃ ks : List Ky.K, ks.length = n ∧ Rd w 1 A n (ks.map sv) ∧ n ≤ cap ∧ cap ≤ maxLen ∧ ∀ k ∈ ks, k.length ≤ maxLen := by
  obtain ⟨ks, hl, hg, hr, h1, h2⟩ := tr_list (f := fun s => [sv s]) (sz := 1) (good := fun k => k.length ≤ maxLen) (by omega) Try.underlying67 (by kernel_rfl) str_readQ h
  exact ⟨ks, hl, flat_svQ ks ▸ hr, h1, h2, hg⟩
end Go.Proofs.Ytgahjibjladafaa
