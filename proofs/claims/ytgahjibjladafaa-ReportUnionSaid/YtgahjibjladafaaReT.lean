/- what ReportUnion wants beside ReportMerges: two lists in one row, a map of texts that are had -/
import Derived.Test.YtgahjibjladafaaReQ
import Derived.Test.YtgahjibjladafaaMap
namespace Go.Proofs.Ytgahjibjladafaa
open Go.RowKit
set_option linter.unusedVariables false

noncomputable abbrev Try.keyS : KeyK Try.prog 9 ByteArray := keyStr Try.underlying9
/-- two lists, in a row of their own -/
theorem two_stAt (w : World) (T : Nat) (A : Option Addr) (cap : Nat) (a : List Ky.K) (B : Option Addr) (cap' : Nat) (b : List Ky.K) (hr : Rd w 1 A a.length (a.map sv)) (h1 : a.length ≤ cap) (h2 : cap ≤ maxLen) (hr' : Rd w 1 B b.length (b.map sv)) (h1' : b.length ≤ cap') (h2' : cap' ≤ maxLen) :
    StAt (w.alloc (.cells #[.slice A a.length cap, .slice B b.length cap'] T)) (w.alloc (.cells #[.slice A a.length cap, .slice B b.length cap'] T)).heap.size (some ⟨w.heap.size, 0, none⟩) [a, b] := by
  have hn := heap_alloc_new w (.cells #[.slice A a.length cap, .slice B b.length cap'] T)
  have hb : Below w.heap.size w (w.alloc (.cells #[.slice A a.length cap, .slice B b.length cap'] T)) := (Below.refl _ _).alloc (Nat.le_refl _) _
  generalize w.alloc (.cells #[.slice A a.length cap, .slice B b.length cap'] T) = U at *
  refine ⟨[.slice A a.length cap, .slice B b.length cap'], ⟨rfl, fun _ => ⟨w.heap.size, 0, rfl, blk_lt hn, fun j hj => ?_⟩⟩, fun i hi => ?_⟩
  · rw [cell_blk hn]; simp
  · rcases (show i = 0 ∨ i = 1 by simp at hi; omega) with rfl | rfl
    · exact ⟨_, _, rfl, (hr.below hb (Nat.le_refl _)).toB, h1, h2⟩
    · exact ⟨_, _, rfl, (hr'.below hb (Nat.le_refl _)).toB, h1', h2'⟩
namespace Ky
theorem strict_nodup {l : List K} (h : Strict l) : l.Nodup := by
  refine List.Pairwise.imp (fun {a b} hab e => ?_) h
  rw [e, lt_irr] at hab
  cases hab
theorem take_new {l : List K} (h : l.Nodup) {i : Nat} {s : K} (hs : l[i]? = some s) : s ∉ l.take i := by
  intro hm
  obtain ⟨j, hj, e⟩ := List.mem_take_iff_getElem.1 hm
  obtain ⟨hi, e2⟩ := List.getElem?_eq_some_iff.1 hs
  have := (List.pairwise_iff_getElem.1 h) j i (by omega) hi (by omega)
  exact this (e.trans e2.symm)
theorem gather_join (a b : List K) : gather [gather a, gather b].flatten = gather (a ++ b) := gather_ext fun x => by simp [gather_mem]
theorem gather_two (a b : List K) : gather [a, b].flatten = gather (a ++ b) := by simp
theorem gather_one (a : List K) : gather [gather a].flatten = gather a := by
  rw [show [gather a].flatten = gather a by simp]
  exact gather_again (gather_strict a)
end Ky
/-- which of the texts are had -/
def HasK (m : List (ByteArray × Value)) (l : List Ky.K) : Prop := ∀ x : Ky.K, mget m ⟨x.toArray⟩ = if x ∈ l then some (.bool true) else none
theorem hasK_nil : HasK [] [] := fun x => by simp [mget]
theorem hasK_put {m : List (ByteArray × Value)} {U : List Ky.K} {i : Nat} {s : Ky.K} (hs : U[i]? = some s) (h : HasK m (U.take i)) : HasK (mput m ⟨s.toArray⟩ (.bool true)) (U.take (i + 1)) := fun x => by
  rw [mget_mput, h x, List.take_add_one, hs]
  have e : ((⟨x.toArray⟩ : ByteArray) = ⟨s.toArray⟩) ↔ x = s := ⟨fun e => by injection e with e; simpa using congrArg Array.toList e, fun e => by rw [e]⟩
  by_cases hx : x = s
  · subst hx
    rw [if_pos rfl, if_pos (by simp)]
  · rw [if_neg (fun h => hx (e.1 h))]
    simp [hx]
theorem hasK_len {m : List (ByteArray × Value)} {U : List Ky.K} {i : Nat} {s : Ky.K} (hn : U.Nodup) (hs : U[i]? = some s) (h : HasK m (U.take i)) : (mput m ⟨s.toArray⟩ (.bool true)).length = m.length + 1 := by
  rw [mput_length, h s, if_neg (Ky.take_new hn hs)]
  simp
theorem HasK.look {w : World} {K : Nat} {m : List (ByteArray × Value)} {l : List Ky.K} (hm : MapAt Try.keyS w K m) (h : HasK m l) {s : Ky.K} (hs : s ∈ l) : (Instr.lookup 86 (.map (some K)) (.string ⟨s.toArray⟩) false).run Try.prog w = .ok (.bool true) w := by
  have := run_lookup Try.keyS (w := w) Try.underlying86 (z := .bool false) (fun w => by kernel_rfl) hm ⟨s.toArray⟩ false
  rw [h s, if_pos hs] at this
  exact this
/-- how many are had -/
theorem mapAt_len {w : World} {K : Nat} {m : List (ByteArray × Value)} (hm : MapAt Try.keyS w K m) (ty : TypeId) : (Builtin.len_ #[86] ty #[.map (some K)]).run Try.prog w = .ok (.int .i64 (m.length : Nat)) w := by
  obtain ⟨es, c, h1, h2⟩ := hm.size
  have := run_len_map (P := Try.prog) w 86 ty K es c (by kernel_rfl) h1
  rw [this, h2]
  rfl
end Go.Proofs.Ytgahjibjladafaa
