/- The document's own letters: First and Count. -/
import Derived.Test.YtedogccbndjdpaaMailC
import Derived.Test.YtedogccbndjdpaaRead
namespace Go.Proofs.Ytedogccbndjdpaa
open Go.RowKit
set_option linter.unusedVariables false

/-- a letter of the document: to whom, which set, its prefix -/
abbrev WLtr := Int × Nat × ByteArray
def encW (l : WLtr) : List Value := [.int .i64 l.1, .int .i64 l.2.1, .string l.2.2]

/-- the place of the first letter to i, or none -/
def firstW (ws : List WLtr) (i : Int) : Option Nat := ws.findIdx? (fun l => l.1 == i)
def firstVal (ws : List WLtr) (i : Int) : Int := match firstW ws i with | some k => (k : Int) | none => -1
theorem firstVal_at {ws : List WLtr} {i : Int} {k : Nat} (hk : k < ws.length) (he : ws[k].1 = i) (hno : ∀ q, q < k → ∀ hq' : q < ws.length, ws[q].1 ≠ i) : firstVal ws i = k := by
  have : firstW ws i = some k := by
    unfold firstW
    rw [List.findIdx?_eq_some_iff_getElem]
    exact ⟨hk, by simpa using he, fun j hj => by simpa using hno j hj (by omega)⟩
  unfold firstVal
  rw [this]
theorem firstVal_none {ws : List WLtr} {i : Int} (hno : ∀ q, (hq' : q < ws.length) → ws[q].1 ≠ i) : firstVal ws i = -1 := by
  have : firstW ws i = none := by
    unfold firstW
    rw [List.findIdx?_eq_none_iff]
    intro x hx
    obtain ⟨q, hq, rfl⟩ := List.getElem_of_mem hx
    simpa using hno q hq
  unfold firstVal
  rw [this]
def countW (ws : List WLtr) (i : Int) : Nat := (ws.filter (fun l => l.1 == i)).length
theorem countW_take {ws : List WLtr} {i : Int} {k : Nat} (hk : k < ws.length) : countW (ws.take (k + 1)) i = countW (ws.take k) i + if ws[k].1 = i then 1 else 0 := by
  unfold countW
  rw [List.take_succ_eq_append_getElem hk, List.filter_append, List.length_append]
  by_cases h : ws[k].1 = i <;> simp [h]
theorem countW_le (ws : List WLtr) (i : Int) (k : Nat) : countW (ws.take k) i ≤ k := by
  unfold countW
  exact Nat.le_trans (List.length_filter_le _ _) (by simp; omega)

set_option maxHeartbeats 400000 in
theorem first_any (w : World) (A : Option Addr) (cap : Nat) (ws : List WLtr) (i : Int) (hr : Rd w 3 A ws.length (ws.flatMap encW)) (hm : ws.length < 1000000) :
    Calls Try.prog 16 #[.slice A ws.length cap, .int .i64 i] w fun e w' => e = .returned (.int .i64 (firstVal ws i)) ∧ w = w' := by
  by_cases hn : ws.length = 0
  · have : ws = [] := List.eq_nil_of_length_eq_zero hn
    subst this
    clear hr hn
    go_enter Try.func16, Try.ntmps16
    go_wp2
    refine wp_loop_rounds 1 ?_
    rw [rounds_succ]
    go_wp2
    go_ret
    exact ⟨rfl, rfl⟩
  · obtain ⟨g, o, rfl, hg, hc⟩ := hr.2 (by omega)
    have hcell : ∀ k, (hk : k < ws.length) → w.cell? ⟨g, o + k * 3, none⟩ = some (.int .i64 ws[k].1) := fun k hk => by
      rw [hc (k * 3) (by omega)]
      have := flat_get (f := encW) (sz := 3) (fun _ => rfl) ws k 0 hk (by omega)
      simpa [encW] using this
    have HN := Lib.hid hn
    clear hr hc hn
    have HC := Lib.hid hcell
    clear hcell
    go_enter Try.func16, Try.ntmps16
    go_wp2
    go_loop [5] (fun j => ∃ k : Nat, k ≤ ws.length ∧ j = .int .i64 k ∧ ∀ q, q < k → ∀ hq' : q < ws.length, ws[q].1 ≠ i) (fun j => ws.length - (intOf j).toNat)
    case atStart => exact ⟨0, Nat.zero_le _, rfl, fun q hq => by omega⟩
    case round =>
      obtain ⟨k, hk, rfl, hno⟩ := hrel
      have HO := Lib.hid hno
      clear hno
      by_cases hlt : k < ws.length
      · have c := HC.out k hlt
        by_cases he : ws[k].1 = i
        · have he' : (ws[k].1 == i) = true := by simpa using he
          have HE := Lib.hid he
          clear he
          go_wp2
          go_ret
          exact ⟨by rw [firstVal_at hlt HE.out HO.out]; rfl, rfl⟩
        · have he' : (ws[k].1 == i) = false := by simpa using he
          go_wp2
          go_round
          case rel =>
            refine ⟨k + 1, by omega, by go_num, fun q hq hq' => ?_⟩
            by_cases hqk : q = k
            · subst hqk; exact he
            · exact HO.out q (by omega) hq'
          case measure => simp [intOf]; omega
      · have hkn : k = ws.length := by omega
        have HK := Lib.hid hkn
        clear hkn
        go_wp2
        go_ret
        exact ⟨by rw [firstVal_none (fun q hq => HO.out q (by rw [HK.out]; exact hq) hq)]; rfl, rfl⟩

set_option maxHeartbeats 400000 in
theorem count_any (w : World) (A : Option Addr) (cap : Nat) (ws : List WLtr) (i : Int) (hr : Rd w 3 A ws.length (ws.flatMap encW)) (hm : ws.length < 1000000) :
    Calls Try.prog 18 #[.slice A ws.length cap, .int .i64 i] w fun e w' => e = .returned (.int .i64 (countW ws i)) ∧ w = w' := by
  by_cases hn : ws.length = 0
  · have : ws = [] := List.eq_nil_of_length_eq_zero hn
    subst this
    clear hr hn
    go_enter Try.func18, Try.ntmps18
    go_wp2
    refine wp_loop_rounds 1 ?_
    rw [rounds_succ]
    go_wp2
    go_ret
    exact ⟨rfl, rfl⟩
  · obtain ⟨g, o, rfl, hg, hc⟩ := hr.2 (by omega)
    have hcell : ∀ k, (hk : k < ws.length) → w.cell? ⟨g, o + k * 3, none⟩ = some (.int .i64 ws[k].1) := fun k hk => by
      rw [hc (k * 3) (by omega)]
      have := flat_get (f := encW) (sz := 3) (fun _ => rfl) ws k 0 hk (by omega)
      simpa [encW] using this
    have HN := Lib.hid hn
    clear hr hc hn
    have HC := Lib.hid hcell
    clear hcell
    go_enter Try.func18, Try.ntmps18
    go_wp2
    go_loop [5, 6] (fun n j => ∃ k c : Nat, k ≤ ws.length ∧ j = .int .i64 k ∧ n = .int .i64 c ∧ c ≤ k ∧ Hid (c = countW (ws.take k) i)) (fun _ j => ws.length - (intOf j).toNat)
    case atStart => exact ⟨0, 0, Nat.zero_le _, rfl, rfl, Nat.le_refl _, Lib.hid (by simp [countW])⟩
    case round =>
      obtain ⟨k, c, hk, rfl, rfl, hck, HQ⟩ := hrel
      by_cases hlt : k < ws.length
      · have hc := HC.out k hlt
        by_cases he : ws[k].1 = i
        · have he' : (ws[k].1 == i) = true := by simpa using he
          have HE := Lib.hid he
          clear he
          go_wp2
          go_round
          case rel => exact ⟨k + 1, c + 1, by omega, by go_num, by go_num, by omega, Lib.hid (by rw [countW_take hlt, if_pos HE.out, HQ.out])⟩
          case measure => simp [intOf]; omega
        · have he' : (ws[k].1 == i) = false := by simpa using he
          go_wp2
          go_round
          case rel => exact ⟨k + 1, c, by omega, by go_num, rfl, by omega, Lib.hid (by rw [countW_take hlt, if_neg he, HQ.out]; rfl)⟩
          case measure => simp [intOf]; omega
      · have hkn : k = ws.length := by omega
        have HK := Lib.hid hkn
        clear hkn
        go_wp2
        go_ret
        refine ⟨?_, rfl⟩
        have : c = countW ws i := by rw [HQ.out, HK.out, List.take_length]
        rw [this]; rfl
end Go.Proofs.Ytedogccbndjdpaa
