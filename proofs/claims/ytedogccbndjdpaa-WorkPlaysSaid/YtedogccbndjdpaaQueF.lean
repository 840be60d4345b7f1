/- Queues, sixth part: the document's Ahead and Put; awake. -/
import Derived.Test.YtedogccbndjdpaaQueE
import Derived.Test.YtedogccbndjdpaaRead
namespace Go.Proofs.Ytedogccbndjdpaa
open Go.RowKit
set_option linter.unusedVariables false

theorem ahead_any (w : World) (a b : ByteArray) : Calls Try.prog 27 #[.string a, .string b] w fun e w' => e = .returned (.bool (ahead a b)) ∧ w = w' := by
  by_cases h1 : b.size < a.size
  · have hv : ahead a b = true := by simp [ahead, h1]
    go_enter Try.func27, Try.ntmps27
    go_wp2
    go_ret
    exact ⟨by rw [hv]; rfl, rfl⟩
  · by_cases h2 : a.size = b.size
    · have hv : ahead a b = Op.bytesLess a.toList b.toList := by simp [ahead, h2]
      have HV := Lib.hid hv
      clear hv
      have h3 : ((a.size : Int) == (b.size : Int)) = true := by simp [h2]
      obtain ⟨c, hc⟩ : ∃ c, c = Op.bytesLess a.toList b.toList := ⟨_, rfl⟩
      rw [← hc] at HV
      have hc' := hc.symm
      clear hc
      go_enter Try.func27, Try.ntmps27
      go_wp2
      go_ret
      exact ⟨by rw [HV.out]; rfl, rfl⟩
    · have hv : ahead a b = false := by simp [ahead, h1, h2]
      have h3 : ((a.size : Int) == (b.size : Int)) = false := by rw [beq_eq_false_iff_ne]; omega
      have HV := Lib.hid hv
      clear hv
      go_enter Try.func27, Try.ntmps27
      go_wp2
      go_ret
      exact ⟨by rw [HV.out]; rfl, rfl⟩

theorem Row.alloc {w : World} {e sz : Nat} {A : Option Addr} {n cap : Nat} {cs : List Value} (h : Row w e sz A n cap cs) (O : Obj) : Row (w.alloc O) e sz A n cap cs :=
  h.move (fun a ha => by subst ha; exact heap_alloc_old w O h.lt)

/-- what Put has made: out, of the first k -/
def PutInv (w : World) (l : List ByteArray) (s : ByteArray) (k : Nat) (dn : Bool) (out : List ByteArray) (A : Option Addr) (cap : Nat) (wr : World) : Prop :=
  Row wr 9 1 A out.length cap (out.map .string) ∧ (∀ a, A = some a → w.heap.size ≤ a.block) ∧ Below w.heap.size w wr ∧ out ++ (if dn then l.drop k else Hp.putF ahead (l.drop k) s) = Hp.putF ahead l s ∧ out.length = k + (if dn then 1 else 0)

/-- one append more -/
theorem put_more {w wr w1 : World} {O : Obj} {out : List ByteArray} {A : Option Addr} {cap g of cap' : Nat} {x : ByteArray} (hrow : Row wr 9 1 A out.length cap (out.map .string)) (hA : ∀ a, A = some a → w.heap.size ≤ a.block) (hb : Below w.heap.size w wr)
    (hown : Row w1 9 1 (some ⟨g, of, none⟩) (out.length + 1) cap' (out.map .string ++ [.string x])) (hm : Mod (fun k => ∃ a, A = some a ∧ k = a.block) (wr.alloc O) w1) (hat : (∃ a, A = some a ∧ g = a.block) ∨ (wr.alloc O).heap.size ≤ g) :
    Row w1 9 1 (some ⟨g, of, none⟩) (out ++ [x]).length cap' ((out ++ [x]).map .string) ∧ (∀ a, some (⟨g, of, none⟩ : Addr) = some a → w.heap.size ≤ a.block) ∧ Below w.heap.size w w1 := by
  have z := hb.size
  refine ⟨by simpa using hown, fun a ha => ?_, ?_⟩
  · injection ha with ha
    subst ha
    rcases hat with ⟨a, e1, e2⟩ | h
    · have := hA a e1; show w.heap.size ≤ g; omega
    · simp at h; show w.heap.size ≤ g; omega
  · have m1 : Mod (fun k => w.heap.size ≤ k) w wr := Mod.of_below hb
    have m2 : Mod (fun k => w.heap.size ≤ k) w (wr.alloc O) := m1.alloc O
    exact (m2.then hm (fun i hi ⟨a, e1, e2⟩ => by have := hA a e1; omega)).below _ (Nat.le_refl _) (fun k hk h => by omega)

set_option maxRecDepth 100000 in
set_option maxHeartbeats 1000000 in
theorem put_any (w : World) (A : Option Addr) (cap : Nat) (l : List ByteArray) (s : ByteArray) (hr : Rd w 1 A l.length (l.map .string)) (hl : l.length < 100000) :
    Calls Try.prog 23 #[.slice A l.length cap, .string s] w fun e w' => ∃ A' cap', e = .returned (.slice A' (Hp.putF ahead l s).length cap') ∧ Row w' 9 1 A' (Hp.putF ahead l s).length cap' ((Hp.putF ahead l s).map .string) ∧ (∀ a, A' = some a → w.heap.size ≤ a.block) ∧ Below w.heap.size w w' := by
  obtain ⟨i0, hi0, hz0, hz1, hz2⟩ := info_parts Try.infoStr
  have hcell : ∀ k, (hk : k < l.length) → ∃ g o, A = some ⟨g, o, none⟩ ∧ g < w.heap.size ∧ w.cell? ⟨g, o + k, none⟩ = some (.string l[k]) := fun k hk => by
    obtain ⟨g, o, hA, hg, hc⟩ := hr.2 (by omega)
    exact ⟨g, o, hA, hg, by rw [hc k (by omega)]; simp [hk]⟩
  have HC := Lib.hid hcell
  clear hr hcell
  go_enter Try.func23, Try.ntmps23
  go_wp2_with fail
  go_loopw [5, 6, 7] (fun o d i wr => ∃ (k : Nat) (dn : Bool) (out : List ByteArray) (A' : Option Addr) (cap' : Nat), k ≤ l.length ∧ i = .int .i64 k ∧ d = .bool dn ∧ o = .slice A' out.length cap' ∧ Hid (PutInv w l s k dn out A' cap' wr)) (fun _ _ i _ => l.length - (intOf i).toNat)
  case atStart => exact ⟨0, false, [], none, 0, Nat.zero_le _, rfl, rfl, rfl, Lib.hid ⟨Row.nil _ _ _, fun a h => (by cases h), Below.refl _ _, by simp, by simp⟩⟩
  case round =>
    obtain ⟨k, dn, out, A', cap', hk, rfl, rfl, rfl, HI⟩ := hrel
    obtain ⟨hrow, hA', hb, heq, hol⟩ := HI.out
    have HROW := Lib.hid hrow
    have HA := Lib.hid hA'
    have HBE := Lib.hid hb
    have HEQ := Lib.hid heq
    have zb := hb.size
    have hol' : out.length ≤ k + 1 := by rw [hol]; cases dn <;> simp
    have HOL := Lib.hid hol
    clear HI hrow hA' hb heq hol
    by_cases hlt : k < l.length
    · obtain ⟨g, o, rfl, hg, hc⟩ := HC.out k hlt
      have c0 : wr.cell? ⟨g, o + k, none⟩ = some (.string l[k]) := by rw [World.cell?_of_block (HBE.out.block g hg)]; exact hc
      have k1 : (0 : Int) ≤ (k : Int) := Int.natCast_nonneg _
      have k2 : (k : Int) < (l.length : Int) := by omega
      have hdrop : l.drop k = l[k] :: l.drop (k + 1) := List.drop_eq_getElem_cons hlt
      have HD := Lib.hid hdrop
      clear hc hdrop
      cases dn with
      | true =>
        go_wp2_with (at_builtin; refine wpList_append_row (by rfl) _ _ _ (by rfl) 9 i0 _ 1 16 Try.underlying50 hi0 hz0 hz1 hz2 rfl (by omega) A' out.length cap' (out.map .string) (by rfl) (HROW.out.alloc _) ⟨wr.heap.size, 0, none⟩ 1 1 [.string l[k]] (by rfl) (by rfl) (World.news_of_block (cs := #[.string l[k]]) (t := 9) (fr := (0, 0)) (heap_alloc_new wr _)) (by simp [Value.oneCell']) (by omega) (by unfold maxLen; omega) (by omega) ?_; intro g1 of1 cap1 w1 hown hm hat; skip)
        go_roundw
        case rel =>
          obtain ⟨p1, p2, p3⟩ := put_more HROW.out HA.out HBE.out hown hm hat
          exact ⟨k + 1, true, out ++ [l[k]], _, cap1, by omega, by go_num, rfl, by simp, Lib.hid ⟨p1, p2, p3, by rw [← HEQ.out, HD.out]; simp, by have := HOL.out; simp at this ⊢; omega⟩⟩
        case measure => simp [intOf]; omega
      | false =>
        have hah := ahead_any wr s l[k]
        cases hsa : ahead s l[k] with
        | false =>
          rw [hsa] at hah
          have HAH := Lib.hid hah
          clear hah
          go_wp2_with (first | (go_at_call 27; refine HAH.out.mono ?_; rintro e w0 ⟨rfl, rfl⟩) | (at_builtin; refine wpList_append_row (by rfl) _ _ _ (by rfl) 9 i0 _ 1 16 Try.underlying50 hi0 hz0 hz1 hz2 rfl (by omega) A' out.length cap' (out.map .string) (by rfl) (HROW.out.alloc _) ⟨wr.heap.size, 0, none⟩ 1 1 [.string l[k]] (by rfl) (by rfl) (World.news_of_block (cs := #[.string l[k]]) (t := 9) (fr := (0, 0)) (heap_alloc_new wr _)) (by simp [Value.oneCell']) (by omega) (by unfold maxLen; omega) (by omega) ?_; intro g1 of1 cap1 w1 hown hm hat; skip))
          go_roundw
          case rel =>
            obtain ⟨p1, p2, p3⟩ := put_more HROW.out HA.out HBE.out hown hm hat
            exact ⟨k + 1, false, out ++ [l[k]], _, cap1, by omega, by go_num, rfl, by simp, Lib.hid ⟨p1, p2, p3, by rw [← HEQ.out, HD.out]; simp [Hp.putF, hsa], by have := HOL.out; simp at this ⊢; omega⟩⟩
          case measure => simp [intOf]; omega
        | true =>
          rw [hsa] at hah
          have HAH := Lib.hid hah
          clear hah
          go_upto_region 8 with (first | (go_at_call 27; refine HAH.out.mono ?_; rintro e w0 ⟨rfl, rfl⟩) | (at_builtin; refine wpList_append_row (by rfl) _ _ _ (by rfl) 9 i0 _ 1 16 Try.underlying50 hi0 hz0 hz1 hz2 rfl (by omega) A' out.length cap' (out.map .string) (by rfl) (HROW.out.alloc _) ⟨wr.heap.size, 0, none⟩ 1 1 [.string s] (by rfl) (by rfl) (World.news_of_block (cs := #[.string s]) (t := 9) (fr := (0, 0)) (heap_alloc_new wr _)) (by simp [Value.oneCell']) (by omega) (by unfold maxLen; omega) (by omega) ?_; intro g2 of2 cap2 w2 hown hm hat; skip))
          obtain ⟨p1, p2, p3⟩ := put_more HROW.out HA.out HBE.out hown hm hat
          have c1 : w2.cell? ⟨g, o + k, none⟩ = some (.string l[k]) := (World.cell?_of_block (p3.block g hg)).trans ((World.cell?_of_block (HBE.out.block g hg)).symm.trans c0)
          have P1 := Lib.hid p1
          have P2 := Lib.hid p2
          have P3 := Lib.hid p3
          have hol2 : (out ++ [s]).length = out.length + 1 := by simp
          clear hown hm hat c0 p1 p2 p3
          rw [show (out.length + 1) = (out ++ [s]).length from hol2.symm]
          go_wp2_with (at_builtin; refine wpList_append_row (by rfl) _ _ _ (by rfl) 9 i0 _ 1 16 Try.underlying50 hi0 hz0 hz1 hz2 rfl (by omega) (some ⟨g2, of2, none⟩) (out ++ [s]).length cap2 ((out ++ [s]).map .string) (by rfl) (P1.out.alloc _) ⟨w2.heap.size, 0, none⟩ 1 1 [.string l[k]] (by rfl) (by rfl) (World.news_of_block (cs := #[.string l[k]]) (t := 9) (fr := (0, 0)) (heap_alloc_new w2 _)) (by simp [Value.oneCell']) (by omega) (by unfold maxLen; omega) (by omega) ?_; intro g1 of1 cap1 w1 hown hm hat; skip)
          go_roundw
          case rel =>
            obtain ⟨q1, q2, q3⟩ := put_more P1.out P2.out P3.out hown hm hat
            exact ⟨k + 1, true, out ++ [s] ++ [l[k]], _, cap1, by omega, by go_num, rfl, by simp, Lib.hid ⟨q1, q2, q3, by rw [← HEQ.out, HD.out]; simp [Hp.putF, hsa], by have := HOL.out; simp at this ⊢; omega⟩⟩
          case measure => simp [intOf]; omega
    · have hkn : k = l.length := by omega
      have HK := Lib.hid hkn
      clear hkn
      cases dn with
      | true =>
        go_wp2_with fail
        go_ret
        have e : out = Hp.putF ahead l s := by rw [← HEQ.out, HK.out]; simp
        rw [← e]
        exact ⟨A', cap', rfl, HROW.out, HA.out, HBE.out⟩
      | false =>
        go_wp2_with (at_builtin; refine wpList_append_row (by rfl) _ _ _ (by rfl) 9 i0 _ 1 16 Try.underlying50 hi0 hz0 hz1 hz2 rfl (by omega) A' out.length cap' (out.map .string) (by rfl) (HROW.out.alloc _) ⟨wr.heap.size, 0, none⟩ 1 1 [.string s] (by rfl) (by rfl) (World.news_of_block (cs := #[.string s]) (t := 9) (fr := (0, 0)) (heap_alloc_new wr _)) (by simp [Value.oneCell']) (by omega) (by unfold maxLen; omega) (by omega) ?_; intro g2 of2 cap2 w2 hown hm hat; skip)
        go_ret
        obtain ⟨p1, p2, p3⟩ := put_more HROW.out HA.out HBE.out hown hm hat
        have e : out ++ [s] = Hp.putF ahead l s := by rw [← HEQ.out, HK.out]; simp [Hp.putF]
        rw [← e]
        exact ⟨_, cap2, by simp, p1, p2, p3⟩
end Go.Proofs.Ytedogccbndjdpaa
