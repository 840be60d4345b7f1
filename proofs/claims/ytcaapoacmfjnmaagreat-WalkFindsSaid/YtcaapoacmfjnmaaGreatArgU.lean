/- Arguments, read: rows of bytes. -/
import Derived.Test.YtcaapoacmfjnmaaGreatArg
namespace Go.Proofs.YtcaapoacmfjnmaaGreat
open Go.RowKit
set_option linter.unusedVariables false

theorem u8_cellW {w : World} {B : Nat} {A : Option Addr} {ts : List Nat} (h : RdB w B 1 A ts.length (ts.map (fun (t : Nat) => Value.int .u8 (t : Int)))) : ∀ (k : Nat) (s : Nat), ts[k]? = some s → ∃ g o, A = some ⟨g, o, none⟩ ∧ g < B ∧ ∀ u, Below B w u → u.cell? ⟨g, o + k, none⟩ = some (.int .u8 (s : Int)) := fun k s hs => by
  obtain ⟨hk, rfl⟩ := List.getElem?_eq_some_iff.1 hs
  obtain ⟨g, o, hA, hg, hc⟩ := h.2 (by omega)
  refine ⟨g, o, hA, hg, fun u hu => ?_⟩
  rw [World.cell?_of_block (hu.block g hg), hc k (by omega), List.getElem?_map, List.getElem?_eq_getElem hk]
  rfl
open Go.ChangeShapes Go.WideShapes Go.ChangeAt
set_option maxRecDepth 100000 in
theorem u8_readW {H : Type} {enc : TypeId × Value → H} {w : World} {base : Nat} {spare : Nat → Bool} {held : Bool} (fuel : Nat) (cs : List Value) (y : DataW H × List MemPlace) (hl : cs.length = 1)
    (h : DataW.trod enc Tryz.prog w base spare held fuel 5 cs = some y) : ∃ x : Nat, cs = [.int .u8 x] ∧ x ≤ 255 := by
  obtain ⟨p, e, w⟩ := tr_int Tryz.underlying5 h
  obtain ⟨m, rfl, h⟩ := u8_bounds w
  exact ⟨m, e, h⟩
theorem flat_u8sW (xs : List Nat) : xs.flatMap (fun (s : Nat) => [Value.int .u8 (s : Int)]) = xs.map (fun (t : Nat) => Value.int .u8 (t : Int)) := by induction xs <;> simp_all
set_option maxRecDepth 100000 in
/-- a row of bytes, handed in as an argument -/
theorem u8s_arg {H : Type} {enc : TypeId × Value → H} {W : World} {base : Nat} {v : Value} {d : DataW H} {q : List MemPlace}
    (o : Value.okWide Tryz.prog W .any base 68 v) (h : DataW.Trod enc Tryz.prog W 0 (fun _ => true) true 68 v d q) : ∃ (ts : List Nat) (A : Option Addr) (cap : Nat), v = .slice A ts.length cap ∧ Rd W 1 A ts.length (ts.map (fun (t : Nat) => Value.int .u8 (t : Int))) ∧ ts.length ≤ maxLen ∧ ∀ t ∈ ts, t ≤ 255 := by
  obtain ⟨f2, hf2⟩ := h
  obtain ⟨C, len2, cap2, rfl⟩ := okWide_slice Tryz.underlying68 o
  obtain ⟨ss, hl, hg, hr2, h5, h6⟩ := tr_list (f := fun (s : Nat) => [Value.int .u8 (s : Int)]) (sz := 1) (by omega) Tryz.underlying68 (by kernel_rfl) u8_readW (by simpa [Value.cells] using hf2)
  subst hl
  exact ⟨ss, C, cap2, rfl, flat_u8sW ss ▸ hr2, Nat.le_trans h5 h6, hg⟩
end Go.Proofs.YtcaapoacmfjnmaaGreat
