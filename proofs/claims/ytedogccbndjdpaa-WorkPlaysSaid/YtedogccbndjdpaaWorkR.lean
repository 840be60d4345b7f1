/- The document's work: its functions. -/
import Derived.Test.YtedogccbndjdpaaWorkC
import Derived.Test.YtedogccbndjdpaaQueF
namespace Go.Proofs.Ytedogccbndjdpaa
open Go.RowKit
set_option linter.unusedVariables false

theorem RowC.set {w : World} {c : Nat → Nat} {j e sz g o n cap : Nat} {cs : List Value} (h : RowC w c j e sz (some ⟨g, o, none⟩) n cap cs) (q : Nat) (hq : q < n * sz) (v : Value) :
    RowC (w.setCell ⟨g, o + q, none⟩ v) (paint c w.heap.size j) j e sz (some ⟨g, o, none⟩) n cap (cs.set q v) ∧ Chg j c w (paint c w.heap.size j) (w.setCell ⟨g, o + q, none⟩ v) :=
  ⟨⟨h.1.set q hq v, fun a ha => by injection ha with ha; subst ha; rw [paint_old h.1.lt]; exact h.2 _ rfl⟩, .mod j ((Mod.refl _ w).setCell (p := ⟨g, o + q, none⟩) (fun _ => h.2 _ rfl) v)⟩

structure RefD (w : World) (d : Nat → Nat) (B : Nat) (A : Option Addr) (cap : Nat) (vs : List Value) (ls : List (List ByteArray)) : Prop where
  blk : BlkC w d 1 B (.cells #[.slice A vs.length cap] 71 (0, 0))
  row : RowC w d 2 50 1 A vs.length cap vs
  len : vs.length = ls.length
  rows : ∀ (i : Nat) (l : List ByteArray), ls[i]? = some l → ∃ A' c', vs[i]? = some (.slice A' l.length c') ∧ RowC w d 3 9 1 A' l.length c' (l.map .string)

def RefW (w : World) (F : Nat → Prop) (B : Nat) (ls : List (List ByteArray)) : Prop := ∃ d A cap vs, RefD w d B A cap vs ls ∧ Foot F w d

section
variable {w w' : World} {d d' : Nat → Nat} {B : Nat} {A : Option Addr} {cap : Nat} {vs : List Value} {ls : List (List ByteArray)} {F G : Nat → Prop}
theorem RefD.stay0 (h : RefD w d B A cap vs ls) (c : Chg 0 d w d' w') : RefD w' d' B A cap vs ls :=
  ⟨h.blk.stay c (by omega), h.row.stay c (by omega), h.len, fun i l hl => by
    obtain ⟨A', c', h1, h2⟩ := h.rows i l hl
    exact ⟨A', c', h1, h2.stay c (by omega)⟩⟩
theorem RefW.mod (h : RefW w F B ls) (hm : Mod G w w') (hG : ∀ k, F k → ¬ G k) : RefW w' F B ls := by
  obtain ⟨d, A, cap, vs, h1, h3⟩ := h
  have c : Chg 0 d w (paint d w.heap.size 0) w' := .mod 0 (hm.mono (fun k hk g => by
    by_cases e : d k = 0
    · exact e
    · exact ((hG k (h3 k hk e)) g).elim))
  refine ⟨_, A, cap, vs, h1.stay0 c, fun k hk hd => ?_⟩
  by_cases e : k < w.heap.size
  · rw [paint_old e] at hd; exact h3 k e hd
  · rw [paint_new (by omega)] at hd; exact (hd rfl).elim
theorem RefW.below (h : RefW w F B ls) (hb : Below w.heap.size w w') : RefW w' F B ls := h.mod (Mod.of_below_size hb (fun _ => False)) (fun _ _ h => h)
theorem RefW.foot (h : RefW w F B ls) (hG : ∀ k, F k → k < w.heap.size → G k) : RefW w G B ls := by
  obtain ⟨d, A, cap, vs, h1, h3⟩ := h
  exact ⟨d, A, cap, vs, h1, fun k hk hd => hG k (h3 k hk hd) hk⟩
theorem RefW.lt (h : RefW w F B ls) : B < w.heap.size := by
  obtain ⟨d, A, cap, vs, h1, h3⟩ := h
  exact h1.blk.lt
/-- one row is put in another's place -/
theorem RefD.put (h : RefD w d B A cap vs ls) (i : Nat) (hi : i < ls.length) {A' : Option Addr} {c' : Nat} {l' : List ByteArray} (g o : Nat) (hA : A = some ⟨g, o, none⟩)
    (hr : RowC w d 3 9 1 A' l'.length c' (l'.map .string)) :
    RefD (w.setCell ⟨g, o + i, none⟩ (.slice A' l'.length c')) (paint d w.heap.size 2) B A cap (vs.set i (.slice A' l'.length c')) (ls.set i l') ∧ Chg 2 d w (paint d w.heap.size 2) (w.setCell ⟨g, o + i, none⟩ (.slice A' l'.length c')) := by
  subst hA
  obtain ⟨r, c⟩ := h.row.set i (by rw [h.len]; omega) (.slice A' l'.length c')
  refine ⟨⟨by rw [List.length_set]; exact h.blk.stay c (by omega), by rw [List.length_set]; exact r, by rw [List.length_set, List.length_set]; exact h.len, fun k l hl => ?_⟩, c⟩
  by_cases e : i = k
  · subst e
    rw [List.getElem?_set_self hi] at hl
    injection hl with hl
    subst hl
    exact ⟨A', c', List.getElem?_set_self (by rw [h.len]; exact hi), hr.stay c (by omega)⟩
  · rw [List.getElem?_set_ne e] at hl
    obtain ⟨A2, c2, h1, h2⟩ := h.rows k l hl
    exact ⟨A2, c2, by rw [List.getElem?_set_ne e]; exact h1, h2.stay c (by omega)⟩
/-- the cells of one row -/
theorem RefD.cell (h : RefD w d B A cap vs ls) (i : Nat) (hi : i < ls.length) : ∃ g o A' c', A = some ⟨g, o, none⟩ ∧ g < w.heap.size ∧ w.cell? ⟨B, 0, none⟩ = some (.slice (some ⟨g, o, none⟩) ls.length cap) ∧ w.cell? ⟨g, o + i, none⟩ = some (.slice A' ls[i].length c') ∧ RowC w d 3 9 1 A' ls[i].length c' (ls[i].map .string) := by
  obtain ⟨A', c', h1, h2⟩ := h.rows i ls[i] (List.getElem?_eq_getElem hi)
  obtain ⟨g, o, rfl⟩ := h.row.1.some_of_pos (by have := h.row.1.2.1; have := h.len; omega)
  refine ⟨g, o, A', c', rfl, h.row.1.lt, by rw [h.blk.cell, ← h.len]; rfl, ?_, h2⟩
  rw [h.row.1.cell i (by rw [h.len]; omega)]
  exact h1
end

/-- is there that worker? -/
def inR (n : Nat) (i : Int) : Bool := decide (0 ≤ i) && decide (i < (n : Int))

theorem ref_is (w : World) (B n cap : Nat) (A : Option Addr) (i : Int) (hl : w.cell? ⟨B, 0, none⟩ = some (.slice A n cap)) :
    Calls Try.prog 46 #[ptrV B, .int .i64 i] w fun e w' => e = .returned (.bool (inR n i)) ∧ w = w' := by
  unfold ptrV inR
  by_cases h0 : 0 ≤ i
  · rw [decide_eq_true h0, Bool.true_and]
    go_enter Try.func46, Try.ntmps46
    go_wp2
    go_ret
    exact ⟨rfl, rfl⟩
  · rw [decide_eq_false h0, Bool.false_and]
    go_enter Try.func46, Try.ntmps46
    go_wp2
    go_ret
    exact ⟨rfl, rfl⟩
theorem RefD.is {w : World} {d : Nat → Nat} {B : Nat} {A : Option Addr} {cap : Nat} {vs : List Value} {ls : List (List ByteArray)} (h : RefD w d B A cap vs ls) (i : Int) :
    Calls Try.prog 46 #[ptrV B, .int .i64 i] w fun e w' => e = .returned (.bool (inR ls.length i)) ∧ w = w' :=
  ref_is w B ls.length cap A i (by rw [h.blk.cell, ← h.len]; rfl)

theorem take_sum {l : List Nat} {k : Nat} (h : k < l.length) : (l.take (k + 1)).sum = (l.take k).sum + l[k] := by
  rw [List.take_add_one, List.getElem?_eq_getElem h, List.sum_append]; simp

set_option maxRecDepth 100000 in
theorem ref_total (w : World) (F : Nat → Prop) (B : Nat) (ls : List (List ByteArray)) (hW : RefW w F B ls) (hn : ls.length ≤ 64) (hl : ls.flatten.length < 1000000) :
    Calls Try.prog 38 #[ptrV B] w fun e w' => e = .returned (.int .i64 ls.flatten.length) ∧ w = w' := by
  obtain ⟨d, A, cap, vs, h1, h3⟩ := hW
  have c0 : w.cell? ⟨B, 0, none⟩ = some (.slice A ls.length cap) := by rw [h1.blk.cell, ← h1.len]; rfl
  obtain ⟨ns, hns⟩ : ∃ ns, ns = ls.map List.length := ⟨_, rfl⟩
  have hnl : ns.length = ls.length := by rw [hns]; simp
  have hsum : ls.flatten.length = ns.sum := by rw [hns, List.length_flatten]
  have hc : ∀ k, (hk : k < ls.length) → ∃ g o A' c', A = some ⟨g, o, none⟩ ∧ w.cell? ⟨g, o + k, none⟩ = some (.slice A' (ns[k]'(by omega)) c') := fun k hk => by
    obtain ⟨g, o, A', c', h, _, _, h2, _⟩ := h1.cell k hk
    exact ⟨g, o, A', c', h, by rw [h2]; simp [hns]⟩
  have hle : ∀ k, k ≤ ns.length → (ns.take k).sum ≤ ns.sum := fun k hk => by
    have := List.sum_append (l₁ := ns.take k) (l₂ := ns.drop k)
    rw [List.take_append_drop] at this
    omega
  rw [hsum] at hl ⊢
  have HC := Lib.hid hc
  have HLE := Lib.hid hle
  clear h1 h3 hc hle hns hsum
  unfold ptrV
  go_enter Try.func38, Try.ntmps38
  go_wp2_with fail
  go_loopw [3, 4] (fun v3 v4 wr => ∃ k : Nat, k ≤ ls.length ∧ v4 = .int .i64 k ∧ v3 = .int .i64 (ns.take k).sum ∧ w = wr) (fun _ v4 _ => ls.length - (intOf v4).toNat)
  case atStart => exact ⟨0, Nat.zero_le _, rfl, by simp, rfl⟩
  case round =>
    obtain ⟨k, hk, rfl, rfl, rfl⟩ := hrel
    by_cases hlt : k < ls.length
    · obtain ⟨g, o, A', c', rfl, c1⟩ := HC.out k hlt
      have k1 : (0 : Int) ≤ (k : Int) := Int.natCast_nonneg _
      have k2 : (k : Int) < (ls.length : Int) := by omega
      have hts := take_sum (l := ns) (k := k) (by omega)
      have hb := HLE.out (k + 1) (by omega)
      generalize hm : (ns.take k).sum = m at *
      generalize hx : ns[k]'(by omega) = x at *
      go_wp2
      go_roundw
      case rel => exact ⟨k + 1, by omega, by go_num, by rw [hts]; go_num, by trivial⟩
      case measure => simp [intOf]; omega
    · have hkn : k = ls.length := by omega
      have e1 : (ns.take k).sum = ns.sum := by rw [hkn, ← hnl, List.take_length]
      rw [e1]
      go_wp2
      go_ret
      exact ⟨rfl, rfl⟩

set_option maxRecDepth 100000 in
set_option maxHeartbeats 1000000 in
theorem ref_has (w : World) (F : Nat → Prop) (B : Nat) (ls : List (List ByteArray)) (hW : RefW w F B ls) (hn : ls.length ≤ 64) (hl : ls.flatten.length < 1000000) (s : ByteArray) :
    Calls Try.prog 40 #[ptrV B, .string s] w fun e w' => e = .returned (.bool (inB s ls.flatten)) ∧ w = w' := by
  obtain ⟨d, A, cap, vs, h1, h3⟩ := hW
  have c0 : w.cell? ⟨B, 0, none⟩ = some (.slice A ls.length cap) := by rw [h1.blk.cell, ← h1.len]; rfl
  have hc : ∀ k, (hk : k < ls.length) → ∃ g o A' c', A = some ⟨g, o, none⟩ ∧ w.cell? ⟨g, o + k, none⟩ = some (.slice A' ls[k].length c') ∧ ∀ j, (hj : j < ls[k].length) → ∃ g' o', A' = some ⟨g', o', none⟩ ∧ w.cell? ⟨g', o' + j, none⟩ = some (.string ls[k][j]) := fun k hk => by
    obtain ⟨g, o, A', c', h, _, _, h2, h4⟩ := h1.cell k hk
    refine ⟨g, o, A', c', h, h2, fun j hj => ?_⟩
    obtain ⟨g', o', rfl⟩ := h4.1.some_of_pos (by have := h4.1.2.1; omega)
    exact ⟨g', o', rfl, by rw [h4.1.cell j (by omega)]; simp [hj]⟩
  have hlen : ∀ k, (hk : k < ls.length) → ls[k].length < 1000000 := fun k hk => by
    obtain ⟨R, r1, _⟩ := flat_set ls k hk
    have := r1.length_eq
    rw [List.length_append] at this
    omega
  have HC := Lib.hid hc
  have HLEN := Lib.hid hlen
  clear h1 h3 hc hlen hl
  unfold ptrV
  go_enter Try.func40, Try.ntmps40
  go_wp2_with fail
  go_loopw [5] (fun v5 wr => ∃ k : Nat, k ≤ ls.length ∧ v5 = .int .i64 k ∧ Hid (∀ l ∈ ls.take k, s ∉ l) ∧ w = wr) (fun v5 _ => ls.length - (intOf v5).toNat)
  case atStart => exact ⟨0, Nat.zero_le _, rfl, Lib.hid (fun l h => by simp at h), rfl⟩
  case round =>
    obtain ⟨k, hk, rfl, HN, rfl⟩ := hrel
    by_cases hlt : k < ls.length
    · obtain ⟨g, o, A', c', rfl, c1, hc2⟩ := HC.out k hlt
      have HC2 := Lib.hid hc2
      have k1 : (0 : Int) ≤ (k : Int) := Int.natCast_nonneg _
      have k2 : (k : Int) < (ls.length : Int) := by omega
      have hlk := HLEN.out k hlt
      have hlm : ls[k] ∈ ls := List.getElem_mem hlt
      have htk : ls.take (k + 1) = ls.take k ++ [ls[k]] := by rw [List.take_add_one, List.getElem?_eq_getElem hlt]; rfl
      have HTK := Lib.hid htk
      have HLM := Lib.hid hlm
      clear hc2 htk hlm
      generalize ls[k] = l at *
      go_wp2_with fail
      go_loopw [6] (fun v6 wr => ∃ j : Nat, j ≤ l.length ∧ v6 = .int .i64 j ∧ Hid (s ∉ l.take j) ∧ w = wr) (fun v6 _ => l.length - (intOf v6).toNat)
      case atStart => exact ⟨0, Nat.zero_le _, rfl, Lib.hid (by simp), rfl⟩
      case round =>
        obtain ⟨j, hj, rfl, HJ, rfl⟩ := hrel
        by_cases hjt : j < l.length
        · obtain ⟨g', o', rfl, c2⟩ := HC2.out j hjt
          have j1 : (0 : Int) ≤ (j : Int) := Int.natCast_nonneg _
          have j2 : (j : Int) < (l.length : Int) := by omega
          have htj : l.take (j + 1) = l.take j ++ [l[j]] := by rw [List.take_add_one, List.getElem?_eq_getElem hjt]; rfl
          have HTJ := Lib.hid htj
          have hxm : l[j] ∈ l := List.getElem_mem hjt
          have HXM := Lib.hid hxm
          clear htj hxm
          generalize l[j] = x at *
          have hbt := ba_tl x s
          by_cases e : x = s
          · subst e
            rw [decide_eq_true rfl] at hbt
            go_wp2
            go_ret
            exact ⟨by rw [inB_iff.2 (List.mem_flatten.2 ⟨l, HLM.out, HXM.out⟩)]; rfl, rfl⟩
          · rw [decide_eq_false e] at hbt
            go_wp2
            go_roundw
            case rel => exact ⟨j + 1, by omega, by go_num, Lib.hid (by rw [HTJ.out]; simp only [List.mem_append, List.mem_singleton, not_or]; exact ⟨HJ.out, fun h => e h.symm⟩), by trivial⟩
            case measure => simp [intOf]; omega
        · have hjn : j = l.length := by omega
          go_wp2
          go_roundw
          case rel => exact ⟨k + 1, by omega, by go_num, Lib.hid (by rw [HTK.out]; intro l' h'; rcases List.mem_append.1 h' with h' | h'; exact HN.out l' h'; rw [List.mem_singleton] at h'; subst h'; have := HJ.out; rwa [hjn, List.take_length] at this), by trivial⟩
          case measure => simp [intOf]; omega
    · have hkn : k = ls.length := by omega
      have e : inB s ls.flatten = false := inB_false.2 (fun h => by
        obtain ⟨l, h1, h2⟩ := List.mem_flatten.1 h
        exact HN.out l (by rw [hkn, List.take_length]; exact h1) h2)
      go_wp2
      go_ret
      exact ⟨by rw [e]; rfl, rfl⟩
end Go.Proofs.Ytedogccbndjdpaa
