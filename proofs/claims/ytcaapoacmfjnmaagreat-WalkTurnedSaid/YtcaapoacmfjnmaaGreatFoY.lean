/- foata.Print, foata.Key -/
import Derived.Test.YtcaapoacmfjnmaaGreatFoX
import Derived.Test.YtcaapoacmfjnmaaGreatFoR
import Derived.Test.YtcaapoacmfjnmaaGreatFoEv
import Derived.Test.YtcaapoacmfjnmaaGreatFoTh
import Derived.Lib.AppendIntMem
namespace Go.Proofs.YtcaapoacmfjnmaaGreat
open Go.RowKit
set_option linter.unusedVariables false

namespace Fo
/-- what is written of levels, without the end -/
def encP (L : List (List Ev)) : List UInt8 := L.flatMap (fun l => UInt8.ofNat l.length :: bytes l)
theorem enc_eq (L : List (List Ev)) : enc L = encP L ++ [0] := rfl
theorem encP_succ {L : List (List Ev)} {k : Nat} (hk : k < L.length) : encP (L.take (k + 1)) = encP (L.take k) ++ [UInt8.ofNat L[k].length] ++ bytes L[k] := by
  unfold encP
  rw [List.take_add_one, List.getElem?_eq_getElem hk, List.flatMap_append, List.append_assoc]
  simp
theorem encP_len {L : List (List Ev)} (k : Nat) : (encP (L.take k)).length ≤ L.flatten.length + L.length := by
  have h : ∀ M : List (List Ev), (encP M).length = M.flatten.length + M.length := by
    intro M
    induction M with
    | nil => rfl
    | cons q M ih =>
      have : encP (q :: M) = (UInt8.ofNat q.length :: bytes q) ++ encP M := rfl
      rw [this, List.length_append, ih, List.flatten_cons, List.length_append, List.length_cons, List.length_cons]
      unfold bytes
      rw [List.length_map]
      omega
  rw [h]
  have := sumN_le L k
  unfold sumN at this
  have := List.length_take (l := L) (i := k)
  omega
theorem okL_eq {L : List (List Ev)} (h : okRow L.flatten = true) : okL L = decide (lev L.flatten = L) := by
  unfold okL
  unfold okRow at h
  rw [h, Bool.true_and]
theorem okL_no {L : List (List Ev)} (h : okRow L.flatten = false) : okL L = false := by
  unfold okL
  unfold okRow at h
  rw [h, Bool.false_and]
end Fo

theorem prE_right {l : List Ev} (h : Fo.rights l = true) : prE l = Fo.bytes l := by unfold prE; rw [if_pos h]

theorem Bld.move {B b : Nat} {bs : List Value} {w w' : World} (h : Bld B b bs w) (hb : Below w.heap.size w w') : Bld B b bs w' := by
  have go : ∀ p, Lib.BuilderAt 175 5 B b p bs w → Lib.BuilderAt 175 5 B b p bs w' := fun p h => by
    obtain ⟨hB, v, hk, ⟨h1, h2⟩, hne⟩ := h
    refine ⟨hB, v, (hb.block b (blk_lt hk)).trans hk, ⟨h1, ?_⟩, hne⟩
    rcases h2 with h2 | ⟨g, cap, cur, a1, a2, a3, a4⟩
    · exact .inl h2
    · exact .inr ⟨g, cap, cur, a1, a2, (hb.block g (blk_lt a3)).trans a3, a4⟩
  exact h.elim (fun h => .inl (go _ h)) (fun h => .inr (go _ h))

theorem u8_conv (n : Nat) (h : n ≤ 200) : (Value.int .u8 (n : Int)) = Value.int .u8 ((UInt8.ofNat n).toNat : Int) := by
  have : (UInt8.ofNat n).toNat = n := by simp; omega
  rw [this]

set_option maxRecDepth 100000 in
set_option maxHeartbeats 4000000 in
theorem fprint_any (w : World) (A : Option Addr) (cap : Nat) (L : List (List Ev)) (h : LvAt w w.heap.size A L) (hl : L.length ≤ 1000000) (ht : L.flatten.length ≤ 1000000) :
    Calls Tryz.prog 78 #[.slice A L.length cap] w fun x w' => x = .returned (.string ⟨(Fo.printL L).toArray⟩) ∧ Below w.heap.size w w' := by
  have hrow := frow_any w A cap L h hl ht
  have hno : Fo.okRow L.flatten = false → Fo.printL L = [] := fun e => by unfold Fo.printL; rw [Fo.okL_no e]; rfl
  have hny : Fo.okRow L.flatten = true → Fo.lev L.flatten ≠ L → Fo.printL L = [] := fun e e2 => by unfold Fo.printL; rw [Fo.okL_eq e, decide_eq_false e2]; rfl
  have hyy : Fo.okRow L.flatten = true → Fo.lev L.flatten = L → Fo.printL L = Fo.encP L ++ [0] ∧ ∀ q ∈ L, q.length ≤ 4 ∧ Fo.rights q = true := fun e e2 => by
    have hk : Fo.okL L = true := by rw [Fo.okL_eq e, decide_eq_true e2]
    refine ⟨by unfold Fo.printL; rw [if_pos hk]; rfl, fun q hq => (Fo.okL_mem hk hq).2⟩
  have hlv : Fo.okRow L.flatten = true → Fo.levR L.flatten = Fo.lev L.flatten := fun e => by unfold Fo.levR; rw [if_pos e]
  have hel := fun k => Fo.encP_len (L := L) k
  have hq4 : ∀ q ∈ Fo.lev L.flatten, q.length ≤ 1000000 := fun q hq => Nat.le_trans (Fo.lev_in_len _ _ hq) ht
  have hl4 : (Fo.lev L.flatten).length ≤ 1000000 := Nat.le_trans (Fo.lev_len_le _) ht
  generalize Fo.printL L = P at *
  generalize L.flatten = R at *
  have HL := Lib.hid h
  have HROW := Lib.hid hrow
  have HNO := Lib.hid hno
  have HNY := Lib.hid hny
  have HYY := Lib.hid hyy
  have HLV := Lib.hid hlv
  have HEL := Lib.hid hel
  have HQ4 := Lib.hid hq4
  have HL4 := Lib.hid hl4
  clear h hrow hno hny hyy hlv hel hq4 hl4
  go_enter Tryz.func78, Tryz.ntmps78
  go_wp2_with fail
  refine HROW.out.mono ?_
  rintro x w1 ⟨A1, cap1, rfl, ⟨hrd, _⟩, hb1⟩
  have hcall := fright_any w1 A1 cap1 R hrd (by omega)
  have hcall2 : ∀ w2, Below w1.heap.size w1 w2 → Calls Tryz.prog 79 #[.slice A1 R.length cap1] w2 (LvOut w2 (Fo.levR R)) := fun w2 hb => levels_any w2 A1 cap1 R (hrd.below hb (Nat.le_refl _)) (by omega)
  generalize hbb : Fo.okRow R = b at *
  have HB1 := Lib.hid hb1
  have HC1 := Lib.hid hcall
  have HC2 := Lib.hid hcall2
  clear hb1 hcall hcall2 hrd hbb
  go_wp2_with fail
  refine HC1.out.mono ?_
  rintro x w2 ⟨rfl, b2⟩
  have hb2 := below_at HB1.out b2
  have hcall := HC2.out w2 b2
  have HB2 := Lib.hid hb2
  cases b with
  | false =>
    clear hcall b2 hb2
    go_wp2_with fail
    go_ret
    exact ⟨by rw [HNO.out (by trivial)]; rfl, HB2.out⟩
  | true =>
    rw [HLV.out (by trivial)] at hcall
    have HC3 := Lib.hid hcall
    clear hcall b2 hb2
    go_wp2_with fail
    refine HC3.out.mono ?_
    rintro x w3 ⟨A3, cap3, rfl, hlv3, b3⟩
    have hb3 := below_at HB2.out b3
    have hcall := equalFunc_any w3 A3 cap3 (Fo.lev R) A cap L hlv3 ((HL.out.below hb3).mono hb3.size) (by have := HL4.out; omega) (fun q hq => by have := HQ4.out q hq; omega)
    have HB3 := Lib.hid hb3
    have HC4 := Lib.hid hcall
    clear hlv3 b3 hb3 hcall
    go_wp2_with fail
    refine HC4.out.mono ?_
    rintro x w4 ⟨rfl, b4⟩
    have HB4 := Lib.hid (below_at HB3.out b4)
    clear b4
    by_cases heq : Fo.lev R = L
    · have hyy := HYY.out (by trivial) heq
      rw [decide_eq_true heq]
      have HEQ := Lib.hid heq
      have HP := Lib.hid hyy.1
      have HQ := Lib.hid hyy.2
      clear heq hyy HC4
      go_upto_region 5 with fail
      obtain ⟨w5, hw5⟩ : ∃ w5, w5 = w4.alloc (Obj.cells #[.pointer none, .slice none 0 0] 175) := ⟨_, rfl⟩
      obtain ⟨X, hX⟩ : ∃ X, X = w4.heap.size := ⟨_, rfl⟩
      have hbld : Bld w.heap.size X (Lib.byteCells (Fo.encP (L.take 0))) w5 := .inl ⟨by have := HB4.out.size; omega, _, by rw [hw5, hX]; exact heap_alloc_new w4 _, ⟨rfl, .inl ⟨rfl, rfl⟩⟩, by simp [Value.ownBlock]⟩
      have hb5 : Below w.heap.size w w5 := by rw [hw5]; exact HB4.out.alloc HB4.out.size _
      rw [← hw5, ← hX]
      have HBLD := Lib.hid hbld
      have HB5 := Lib.hid hb5
      clear hw5 hX hbld hb5
      go_wp2_with fail
      go_loopw [21] (fun v wr => ∃ k : Nat, k ≤ L.length ∧ v = .int .i64 k ∧ Hid (Bld w.heap.size X (Lib.byteCells (Fo.encP (L.take k))) wr) ∧ Below w.heap.size w wr) (fun v _ => L.length - (intOf v).toNat)
      case atStart => exact ⟨0, Nat.zero_le _, rfl, HBLD, HB5.out⟩
      case round =>
        obtain ⟨k, hk, rfl, HBL, hbw⟩ := hrel
        by_cases hlt : k < L.length
        · obtain ⟨g, o, A', c', hA, hg, hP, hcl⟩ := HL.out.cell k hlt
          subst hA
          have v0 := hcl wr hbw
          have k1 : (0 : Int) ≤ (k : Int) := Int.natCast_nonneg _
          have k2 : (k : Int) < (L.length : Int) := by omega
          have hsn := Fo.encP_succ hlt
          obtain ⟨hq4, hqr⟩ := HQ.out L[k] (List.getElem_mem hlt)
          have hel := HEL.out k
          have hel2 := HEL.out (k + 1)
          rw [hsn, List.length_append, List.length_append, List.length_singleton] at hel2
          have hpr : ∀ u, Below w.heap.size w u → Calls Tryz.prog 126 #[.slice A' L[k].length c'] u fun x w' => x = .returned (.string ⟨(Fo.bytes L[k]).toArray⟩) ∧ Below u.heap.size u w' := fun u hu => by
            have := print_any u A' c' L[k] ((hP.below hu).mono hu.size) (by omega)
            rwa [prE_right hqr] at this
          generalize L[k] = q at v0 hsn hq4 hel2 hpr
          generalize Fo.encP (L.take k) = E at HBL hsn hel hel2
          have hby := bld_byte w.heap.size X (Lib.byteCells E) (q.length : Int) wr HBL.out (by rw [Lib.byteCells_length]; omega) hbw.size
          have HBY := Lib.hid hby
          have HPR := Lib.hid hpr
          have HSN := Lib.hid hsn
          have HBW := Lib.hid hbw
          have hwr : IntKind.u8.wrap (q.length : Int) = (q.length : Int) := by unfold IntKind.wrap; simp [IntKind.bits, IntKind.signed]; omega
          clear hby hpr hsn hbw hcl hP hqr
          go_wp2_with fail
          refine HBY.out.mono ?_
          rintro x w6 ⟨rfl, hbl, hb⟩
          have hb6 := HBW.out.trans hb
          have hcall := HPR.out w6 hb6
          have HBL6 := Lib.hid hbl
          have HB6 := Lib.hid hb6
          have HC6 := Lib.hid hcall
          clear hbl hb hb6 hcall HBY
          go_wp2_with fail
          refine HC6.out.mono ?_
          rintro x w7 ⟨rfl, b7⟩
          have hb7 := below_at HB6.out b7
          have hst := bld_str w.heap.size X (Lib.byteCells E ++ [.int .u8 (q.length : Int)]) ⟨(Fo.bytes q).toArray⟩ w7 (HBL6.out.move b7) (by
            rw [List.length_append, Lib.byteCells_length, List.length_singleton]
            have : ByteArray.size ⟨(Fo.bytes q).toArray⟩ = (Fo.bytes q).length := by simp [ByteArray.size]
            omega) hb7.size
          have HST := Lib.hid hst
          have HB7 := Lib.hid hb7
          clear b7 hb7 hst HC6
          go_wp2_with fail
          refine HST.out.mono ?_
          rintro x w8 ⟨rfl, hbl, hb⟩
          have HBL8 := Lib.hid hbl
          have HB8 := Lib.hid (HB7.out.trans hb)
          clear hbl hb HST
          go_wp2_with fail
          go_roundw
          case rel =>
            refine ⟨k + 1, by omega, by go_num, ?_, HB8.out⟩
            rw [HSN.out, Lib.byteCells_append, Lib.byteCells_append]
            have := HBL8.out
            rw [u8_conv q.length (by omega), Lib.strCells_toArray] at this
            exact Lib.hid this
          case measure => simp [intOf]; omega
        · have hkn : k = L.length := by omega
          have hbl := HBL.out
          have hel := HEL.out k
          rw [hkn, List.take_length] at hbl hel
          have hby := bld_byte w.heap.size X (Lib.byteCells (Fo.encP L)) 0 wr hbl (by rw [Lib.byteCells_length]; omega) hbw.size
          have HBY := Lib.hid hby
          have HBW := Lib.hid hbw
          have HK := Lib.hid hkn
          clear hby hbl hbw hkn
          go_wp2_with fail
          refine HBY.out.mono ?_
          rintro x w6 ⟨rfl, hbl, hb⟩
          have hb6 := HBW.out.trans hb
          have hbl2 : Bld w.heap.size X (Lib.byteCells (Fo.encP L ++ [0])) w6 := by rw [Lib.byteCells_append]; exact hbl
          have hst := Tryz.Builder_String_any w.heap.size X (Fo.encP L ++ [0]) w6 hbl2 hb6.size
          change Calls Tryz.prog 127 _ _ _ at hst
          rw [← HP.out] at hst
          have HST := Lib.hid hst
          have HB6 := Lib.hid hb6
          clear hb hbl hbl2 hb6 hst HBY
          go_wp2_with fail
          refine HST.out.mono ?_
          rintro x w7 ⟨rfl, hb⟩
          have HB7 := Lib.hid (HB6.out.trans hb)
          clear hb HST
          go_wp2_with fail
          go_ret
          exact ⟨rfl, HB7.out⟩
    · have hny := HNY.out (by trivial) heq
      rw [decide_eq_false heq]
      have HNN := Lib.hid hny
      clear heq hny HC4
      go_wp2_with fail
      go_ret
      exact ⟨by rw [HNN.out]; rfl, HB4.out⟩

set_option maxRecDepth 100000 in
theorem fkey_any (w : World) (A : Option Addr) (cap : Nat) (l : List Ev) (hr : Rd w 4 A l.length (l.flatMap encE)) (hl : l.length < 4611686018427387904) :
    Calls Tryz.prog 38 #[.slice A l.length cap] w fun x w' => x = .returned (.string ⟨(Fo.key l).toArray⟩) ∧ Below w.heap.size w w' := by
  have hcall := fright_any w A cap l hr hl
  have hcall2 : ∀ w2, Below w.heap.size w w2 → Calls Tryz.prog 79 #[.slice A l.length cap] w2 (LvOut w2 (Fo.levR l)) := fun w2 hb => levels_any w2 A cap l (hr.below hb (Nat.le_refl _)) hl
  have hno : Fo.okRow l = false → Fo.key l = [] := fun e => by unfold Fo.key; rw [if_neg (by rw [e]; decide)]
  have hyes : Fo.okRow l = true → Fo.key l = Fo.printL (Fo.lev l) ∧ Fo.levR l = Fo.lev l ∧ l.length ≤ 200 := fun e => by
    refine ⟨by unfold Fo.key; rw [if_pos e], by unfold Fo.levR; rw [if_pos e], ?_⟩
    unfold Fo.okRow at e
    simp at e
    exact e.1
  have hfl := (Fo.lev_flat l).length_eq
  have hle := Fo.lev_len_le l
  generalize Fo.key l = K at *
  generalize Fo.okRow l = b at *
  have HC1 := Lib.hid hcall
  have HC2 := Lib.hid hcall2
  have HNO := Lib.hid hno
  have HYES := Lib.hid hyes
  have HFL := Lib.hid hfl
  have HLE := Lib.hid hle
  clear hcall hcall2 hno hyes hfl hle hr
  go_enter Tryz.func38, Tryz.ntmps38
  go_wp2_with fail
  refine HC1.out.mono ?_
  rintro x w1 ⟨rfl, b1⟩
  have HB1 := Lib.hid b1
  cases b with
  | false =>
    clear b1
    go_wp2_with fail
    go_ret
    exact ⟨by rw [HNO.out (by trivial)]; rfl, HB1.out⟩
  | true =>
    obtain ⟨h1, h2, h3⟩ := HYES.out (by trivial)
    have hcall := HC2.out w1 b1
    rw [h2] at hcall
    have HC3 := Lib.hid hcall
    have HK := Lib.hid h1
    clear b1 hcall h1 h2
    go_wp2_with fail
    refine HC3.out.mono ?_
    rintro x w2 ⟨A2, cap2, rfl, hlv, b2⟩
    have hpr := fprint_any w2 A2 cap2 (Fo.lev l) hlv (by have := HLE.out; omega) (by rw [HFL.out]; omega)
    rw [← HK.out] at hpr
    have HP := Lib.hid hpr
    have HB2 := Lib.hid (below_at HB1.out b2)
    clear hlv b2 hpr
    go_wp2_with fail
    refine HP.out.mono ?_
    rintro x w3 ⟨rfl, b3⟩
    have HB3 := Lib.hid (below_at HB2.out b3)
    clear b3
    go_wp2_with fail
    go_ret
    exact ⟨rfl, HB3.out⟩
end Go.Proofs.YtcaapoacmfjnmaaGreat
/- The document's Right (of levels). -/
namespace Go.Proofs.YtcaapoacmfjnmaaGreat
open Go.RowKit
set_option linter.unusedVariables false

set_option maxRecDepth 100000 in
set_option maxHeartbeats 4000000 in
theorem refRightL_any (w : World) (A : Option Addr) (cap : Nat) (L : List (List Ev)) (h : LvAt w w.heap.size A L) (hl : L.length ≤ 1000000) (ht : L.flatten.length ≤ 1000000) :
    Calls Tryz.prog 137 #[.slice A L.length cap] w fun x w' => x = .returned (.bool (Fo.okL L)) ∧ Below w.heap.size w w' := by
  have hrow := refRow_any w A cap L h hl ht
  have hemp : ∀ q ∈ L, q.length = 0 → Fo.okL L = false := fun q hq h0 => by
    cases hb : Fo.okL L with
    | false => rfl
    | true => have := (Fo.okL_mem hb hq).1; omega
  have hno : Fo.okRow L.flatten = false → Fo.okL L = false := Fo.okL_no
  have hyes : Fo.okRow L.flatten = true → Fo.okL L = decide (Fo.lev L.flatten = L) ∧ Fo.levR L.flatten = Fo.lev L.flatten := fun e => ⟨Fo.okL_eq e, by unfold Fo.levR; rw [if_pos e]⟩
  have hok : Fo.okRow L.flatten = (decide (L.flatten.length ≤ 200) && Fo.rights L.flatten) := rfl
  have hq4 : ∀ q ∈ Fo.lev L.flatten, q.length ≤ 1000000 := fun q hq => Nat.le_trans (Fo.lev_in_len _ _ hq) ht
  have hl4 : (Fo.lev L.flatten).length ≤ 1000000 := Nat.le_trans (Fo.lev_len_le _) ht
  generalize Fo.okL L = K at *
  generalize L.flatten = R at *
  have HL := Lib.hid h
  have HROW := Lib.hid hrow
  have HEMP := Lib.hid hemp
  have HNO := Lib.hid hno
  have HYES := Lib.hid hyes
  have HOK := Lib.hid hok
  have HQ4 := Lib.hid hq4
  have HL4 := Lib.hid hl4
  clear h hrow hemp hno hyes hok hq4 hl4
  go_enter Tryz.func137, Tryz.ntmps137
  go_wp2_with fail
  go_loopw [3] (fun v wr => ∃ k : Nat, k ≤ L.length ∧ v = .int .i64 k ∧ w = wr) (fun v _ => L.length - (intOf v).toNat)
  case atStart => exact ⟨0, Nat.zero_le _, rfl, rfl⟩
  case round =>
    obtain ⟨k, hk, rfl, rfl⟩ := hrel
    by_cases hlt : k < L.length
    · obtain ⟨g, o, A', c', rfl, hg, hP, hcl⟩ := HL.out.cell k hlt
      have v0 := hcl w (Below.refl _ _)
      have k1 : (0 : Int) ≤ (k : Int) := Int.natCast_nonneg _
      have k2 : (k : Int) < (L.length : Int) := by omega
      have hem := HEMP.out L[k] (List.getElem_mem hlt)
      generalize L[k] = q at v0 hem
      clear hcl hP
      generalize q.length = m at *
      by_cases hz : m = 0
      · have e1 : ((m : Int) == 0) = true := by simp; omega
        have HF := Lib.hid (hem hz)
        clear hem hz
        go_wp2_with fail
        go_ret
        exact ⟨by rw [HF.out]; rfl, Below.refl _ _⟩
      · have e1 : ((m : Int) == 0) = false := by simp; omega
        clear hem hz
        go_wp2_with fail
        go_roundw
        case rel => exact ⟨k + 1, by omega, by go_num, by trivial⟩
        case measure => simp [intOf]; omega
    · have hkn : ¬ (k : Int) < (L.length : Int) := by omega
      go_wp2_with fail
      refine HROW.out.mono ?_
      rintro x w1 ⟨A1, cap1, rfl, ⟨hrd, _⟩, hb1⟩
      have hc1 := rows_any w1 A1 cap1 R hrd (by omega)
      have hc2 : ∀ w2, Below w1.heap.size w1 w2 → Calls Tryz.prog 94 #[.slice A1 R.length cap1] w2 (LvOut w2 (Fo.levR R)) := fun w2 hb => refLevels_any w2 A1 cap1 R (hrd.below hb (Nat.le_refl _)) (by omega)
      have HB1 := Lib.hid hb1
      have HC1 := Lib.hid hc1
      have HC2 := Lib.hid hc2
      clear hb1 hrd hc1 hc2
      by_cases h200 : R.length ≤ 200
      · have hn : (R.length : Int) ≤ 200 := by omega
        have hok2 : Fo.okRow R = Fo.rights R := by rw [HOK.out, decide_eq_true h200, Bool.true_and]
        have HO2 := Lib.hid hok2
        clear hok2 h200
        obtain ⟨b, hb⟩ : ∃ b, b = Fo.rights R := ⟨_, rfl⟩
        rw [← hb] at HC1 HO2
        clear hb
        go_wp2_with fail
        refine HC1.out.mono ?_
        rintro x w2 ⟨rfl, b2⟩
        have hb2 := below_at HB1.out b2
        have HB2 := Lib.hid hb2
        cases b with
        | false =>
          clear b2 hb2
          go_wp2_with fail
          go_ret
          exact ⟨by rw [HNO.out HO2.out]; rfl, HB2.out⟩
        | true =>
          obtain ⟨h1, h2⟩ := HYES.out HO2.out
          have hcall := HC2.out w2 b2
          rw [h2] at hcall
          have HC3 := Lib.hid hcall
          have HK := Lib.hid h1
          clear hcall h1 h2 b2 hb2
          go_wp2_with fail
          refine HC3.out.mono ?_
          rintro x w3 ⟨A3, cap3, rfl, hlv3, b3⟩
          have hb3 := below_at HB2.out b3
          have hcall := same_any w3 A3 cap3 (Fo.lev R) A cap L hlv3 ((HL.out.below hb3).mono hb3.size) (by have := HL4.out; omega) (fun q hq => by have := HQ4.out q hq; omega)
          rw [← HK.out] at hcall
          have HB3 := Lib.hid hb3
          have HC4 := Lib.hid hcall
          clear hlv3 b3 hb3 hcall
          go_wp2_with fail
          refine HC4.out.mono ?_
          rintro x w4 ⟨rfl, b4⟩
          have HB4 := Lib.hid (below_at HB3.out b4)
          clear b4
          go_wp2_with fail
          go_ret
          exact ⟨rfl, HB4.out⟩
      · have hn : ¬ (R.length : Int) ≤ 200 := by omega
        have hok2 : Fo.okRow R = false := by rw [HOK.out, decide_eq_false h200, Bool.false_and]
        have HO2 := Lib.hid hok2
        clear hok2 h200
        go_wp2_with fail
        go_ret
        exact ⟨by rw [HNO.out HO2.out]; rfl, HB1.out⟩
end Go.Proofs.YtcaapoacmfjnmaaGreat
