/- The document's Read (of levels). -/
import Derived.Test.YtgahjibjladafaaFq
namespace Go.Proofs.Ytgahjibjladafaa
open Go.RowKit
set_option linter.unusedVariables false

def ReadOutB (w : World) (s : List UInt8) (x : Ending) (w' : World) : Prop :=
  (∃ A cap L, Fo.readL s = some L ∧ x = .returned (.tuple #[.slice A L.length cap, .bool true]) ∧ LvAt w' w'.heap.size A L ∧ Below w.heap.size w w') ∨
  (Fo.readL s = none ∧ x = .returned (.tuple #[.slice none 0 0, .bool false]) ∧ Below w.heap.size w w')

theorem encP_snoc (L : List (List Ev)) (q : List Ev) : (Fo.encP (L ++ [q])).length = (Fo.encP L).length + 1 + q.length := by
  unfold Fo.encP Fo.bytes
  rw [List.flatMap_append, List.length_append]
  simp
  omega
theorem printL_len {L : List (List Ev)} {s : List UInt8} (h : Fo.printL L = s) (hs : s ≠ []) : s.length = (Fo.encP L).length + 1 := by
  unfold Fo.printL at h
  split at h
  · rw [← h, Fo.enc_eq, List.length_append]; rfl
  · exact (hs h.symm).elim

set_option maxRecDepth 100000 in
set_option maxHeartbeats 4000000 in
theorem refReadL_any (w : World) (s : ByteArray) (hl : s.size < 100000) :
    Calls Try.prog 23 #[.string s] w (ReadOutB w s.data.toList) := by
  obtain ⟨i1, hi1, hy0, hy1, hy2⟩ := info_parts Try.infoSl2
  obtain ⟨ss, hss⟩ : ∃ ss, ss = s.data.toList := ⟨_, rfl⟩
  have hsl : s.size = ss.length := by rw [hss]; simp
  have hix : ∀ a, (ha : a < ss.length) → ∀ W, (Instr.index 9 (.string s) (.int .i64 (a : Int))).run Try.prog W = .ok (.int .u8 (ss[a]).toNat) W := fun a ha W => by
    subst hss
    rw [run_index_string W _ _ _ _ Try.underlying9, dif_pos ⟨by omega, by omega⟩]; rfl
  have hex : ∀ a n, a + 1 + n ≤ ss.length → (s.extract (a + 1) (a + 1 + n)).data.toList = (ss.drop (a + 1)).take n := fun a n _ => by
    subst hss
    rw [ByteArray.data_extract, Array.toList_extract]; simp
  rw [← hss]
  have HSS := Lib.hid hss
  have HIX := Lib.hid hix
  have HEX := Lib.hid hex
  have HSL := Lib.hid hsl
  have hl2 : ss.length < 100000 := by omega
  clear hss hix hex hl
  go_enter Try.func23, Try.ntmps23
  go_wp2_with fail
  go_loopw [4, 5] (fun v4 v5 wr => ∃ (a : Nat) (A : Option Addr) (cap : Nat) (c : Nat → Nat) (L : List (List Ev)), v5 = .int .i64 a ∧ v4 = .slice A L.length cap ∧ a ≤ ss.length ∧ L.flatten.length + L.length ≤ a ∧ Hid ((Fo.encP L).length = a) ∧ Hid (Fo.parseS ss = (Fo.parseS (ss.drop a)).map (L ++ ·)) ∧ Hid (LvC wr c A cap L) ∧ Hid (Fr w.heap.size c w wr)) (fun _ v5 _ => ss.length - (intOf v5).toNat)
  case atStart => exact ⟨0, none, 0, _, [], rfl, rfl, Nat.zero_le _, Nat.le_refl _, Lib.hid rfl, Lib.hid (by simp), Lib.hid (LvC.nil _ _), Lib.hid (Fr.start w)⟩
  case round =>
    obtain ⟨a, A, cap, c, L, rfl, rfl, ha, hsz, HEL, HPS, HLV, HFR⟩ := hrel
    have a1 : (0 : Int) ≤ (a : Int) := Int.natCast_nonneg _
    by_cases hlt : a < ss.length
    · have hidx := HIX.out a hlt
      have hdr : ss.drop a = ss[a] :: ss.drop (a + 1) := List.drop_eq_getElem_cons hlt
      have a2 : (a : Int) < (ss.length : Int) := by omega
      generalize ss[a] = b at hidx hdr
      have HDR := Lib.hid hdr
      clear hdr
      by_cases hb0 : b = 0
      · have hps : Fo.parseS ss = some L := by rw [HPS.out, HDR.out, hb0, Fo.parseS_zero]; simp
        subst hb0
        by_cases hla : a + 1 = ss.length
        · have e5 : ((a : Int) == (ss.length : Int) - 1) = true := by simp; omega
          have e6 : ((a : Int) = (ss.length : Int) - 1) := by omega
          have hs0 : ss ≠ [] := fun h => by rw [h] at hlt; cases hlt
          have hpr := refPrintL_any wr A cap L HLV.out.lv (by omega) (by omega)
          have hrd : Fo.readL ss = if Fo.printL L = ss then some L else none := by
            rw [Fo.readL_eq, hps, Option.bind_some]
            by_cases hq : Fo.printL L = ss
            · rw [if_pos hq, if_pos ⟨hs0, hq⟩]
            · rw [if_neg hq, if_neg (fun h => hq h.2)]
          have hts : (⟨(Fo.printL L).toArray⟩ : ByteArray) = s ↔ Fo.printL L = ss := ⟨fun h => by rw [HSS.out, ← h], fun h => ByteArray.ext (by show (Fo.printL L).toArray = s.data; rw [h, HSS.out])⟩
          generalize (⟨(Fo.printL L).toArray⟩ : ByteArray) = t at hpr hts
          have HPR := Lib.hid hpr
          have HRD := Lib.hid hrd
          have HTS := Lib.hid hts
          have HLA := Lib.hid hla
          have HE6 := Lib.hid e6
          clear hpr hrd hts hps hs0 hla e6
          go_wp2_with fail
          refine HPR.out.mono ?_
          rintro x w1 ⟨rfl, b1⟩
          have HB := Lib.hid (below_at (w := w) HFR.out.below ⟨b1.os, b1.tape, b1.output, b1.size, b1.block⟩)
          have HLV1 := Lib.hid ((HLV.out.lv.below b1).mono b1.size)
          by_cases hq : t = s
          · have hrd : Fo.readL ss = some L := by rw [HRD.out, if_pos (HTS.out.1 hq)]
            have HR := Lib.hid hrd
            subst hq
            clear hrd b1
            go_wp2_with fail
            go_ret2
            exact .inl ⟨A, cap, L, HR.out, rfl, HLV1.out, HB.out⟩
          · have hrd : Fo.readL ss = none := by rw [HRD.out, if_neg (fun h => hq (HTS.out.2 h))]
            have HR := Lib.hid hrd
            have e8 : (t.toList == s.toList) = false := by
              rw [ByteArray.toList_eq, ByteArray.toList_eq, beq_eq_false_iff_ne]
              exact fun h => hq (ByteArray.ext (Array.toList_inj.1 h))
            have e9 : ¬ t.toList = s.toList := by
              rw [ByteArray.toList_eq, ByteArray.toList_eq]
              exact fun h => hq (ByteArray.ext (Array.toList_inj.1 h))
            clear hrd b1
            go_wp2_with fail
            go_ret2
            exact .inr ⟨HR.out, rfl, HB.out⟩
        · have hno : Fo.readL ss = none := by
            rw [Fo.readL_eq, hps, Option.bind_some, if_neg (fun h => hla (by have := printL_len h.2 h.1; rw [this, HEL.out]))]
          have e5 : ((a : Int) == (ss.length : Int) - 1) = false := by simp; omega
          have e6 : ¬ ((a : Int) = (ss.length : Int) - 1) := by omega
          have HNO := Lib.hid hno
          clear hno hps hla
          go_wp2_with fail
          go_ret2
          exact .inr ⟨HNO.out, rfl, HFR.out.below⟩
      · have hbn : b.toNat ≠ 0 := fun h => hb0 (UInt8.toNat_inj.1 h)
        have hn2 : b.toNat ≤ 255 := by have := b.toNat_lt; omega
        have HB0 := Lib.hid hb0
        generalize hn : b.toNat = n at *
        have HN := Lib.hid hn
        have n1 : (0 : Int) < (n : Int) := by omega
        clear hb0 hn hbn
        by_cases hsh : ss.length < a + 1 + n
        · have h5 : ((ss.length : Int) < (a : Int) + 1 + (n : Int)) := by omega
          have hno : Fo.readL ss = none := by
            rw [Fo.readL_eq, HPS.out, HDR.out, Fo.parseS_short HB0.out (by rw [HN.out, List.length_drop]; omega)]
            rfl
          have HNO := Lib.hid hno
          clear hno hsh
          go_wp2_with fail
          go_ret2
          exact .inr ⟨HNO.out, rfl, HFR.out.below⟩
        · have h5 : ¬ ((ss.length : Int) < (a : Int) + 1 + (n : Int)) := by omega
          have h6 : ((a : Int) + 1 + (n : Int)) ≤ (ss.length : Int) := by omega
          go_wp2_with fail
          have hE1 := HEX.out a n (by omega)
          refine (refReadE_any wr (s.extract (a + 1) (a + 1 + n)) (by simp [ByteArray.size_extract]; omega)).mono ?_
          rintro x w1 (⟨A', c', q, hq, rfl, hrow, hfr, hb1⟩ | ⟨hq, rfl, hb1⟩)
          · have hqn : q.length = n := by have := Fo.evs_len hq; rw [hE1, List.length_take, List.length_drop] at this; omega
            have hdd : (ss.drop (a + 1)).drop n = ss.drop (a + 1 + n) := by rw [List.drop_drop]
            have hps : Fo.parseS ss = (Fo.parseS (ss.drop (a + 1 + n))).map ((L ++ [q]) ++ ·) := by
              rw [HPS.out, HDR.out, Fo.parseS_cons HB0.out (by rw [HN.out, List.length_drop]; omega), HN.out, ← hE1, hq, hdd]
              cases Fo.parseS (ss.drop (a + 1 + n)) with
              | none => rfl
              | some M => simp
            have hel : (Fo.encP (L ++ [q])).length = a + 1 + n := by rw [encP_snoc, HEL.out, hqn]
            have hsz2 : (L ++ [q]).flatten.length + (L ++ [q]).length ≤ a + 1 + n := by
              rw [List.flatten_append, List.length_append, List.length_append, List.length_singleton]
              simp only [List.flatten_cons, List.flatten_nil, List.append_nil]
              omega
            have hrq := RowC.fresh (c := c) (w := wr) (j := 10 + L.length) hrow hfr
            have hst : Chg 3 c wr (paint c wr.heap.size (10 + L.length)) w1 := .below 3 _ hb1
            have hlv := HLV.out.stay hst (by decide) (by decide)
            have hfr1 := HFR.out.step hst (by decide)
            generalize paint c wr.heap.size (10 + L.length) = c1 at hrq hst hlv hfr1
            have hal : Chg 4 c1 w1 (paint c1 w1.heap.size 3) (w1.alloc (Obj.cells #[.slice A' q.length c'] 22)) := .alloc 4 3 _
            obtain ⟨vs, hv, hin⟩ := hlv.stay hal (by decide) (by decide)
            have HV := Lib.hid hv
            have HIN := Lib.hid hin
            have HRQ := Lib.hid (hrq.stay hal (by omega))
            have HFR1 := Lib.hid (hfr1.step hal (by decide))
            have HPS2 := Lib.hid hps
            have HSZ2 := Lib.hid hsz2
            have HEL2 := Lib.hid hel
            have hfl : L.length < 100000 := by omega
            clear hqn hdd hq hrow hfr hb1 hps hsz2 hrq hst hlv hfr1 hal hv hin hsz hel hE1
            go_wp2_with (at_builtin; refine wpList_append_row (by rfl) _ _ _ (by rfl) 22 i1 _ 1 24 Try.underlying24 hi1 hy0 hy1 hy2 rfl (by omega) A L.length cap vs (by rfl) HV.out.1 ⟨w1.heap.size, 0, none⟩ 1 1 [.slice A' q.length c'] (by rfl) (by rfl) (World.news_of_block (cs := #[.slice A' q.length c']) (t := 22) (fr := (0, 0)) (heap_alloc_new w1 _)) (by simp [Value.oneCell']) (by omega) (by unfold maxLen; omega) (by omega) ?_; intro g4 of4 cap4 w8 hown hm hat; skip)
            obtain ⟨z1, z2⟩ := LvC.push HV.out HIN.out HRQ.out hown hm (fun a' ha' => by injection ha' with ha'; subst ha'; exact hat)
            go_roundw
            case rel => exact ⟨a + 1 + n, some ⟨g4, of4, none⟩, cap4, _, L ++ [q], by first | rfl | (congr 1; omega), by rw [List.length_append]; rfl, by omega, HSZ2.out, HEL2, HPS2, Lib.hid z1, Lib.hid (HFR1.out.step z2 (by decide))⟩
            case measure => simp [intOf]; omega
          · have hno : Fo.readL ss = none := by
              rw [Fo.readL_eq, HPS.out, HDR.out, Fo.parseS_cons HB0.out (by rw [HN.out, List.length_drop]; omega), HN.out, ← hE1, hq]
              rfl
            have HNO := Lib.hid hno
            have HF := Lib.hid ((HFR.out.step (Chg.below 3 3 hb1) (by decide)).below)
            clear hno hq hb1 hE1
            go_wp2_with fail
            go_ret2
            exact .inr ⟨HNO.out, rfl, HF.out⟩
    · have hps : Fo.parseS ss = some L := by rw [HPS.out, List.drop_eq_nil_of_le (by omega)]; simp [Fo.parseS_nil]
      have hla : ¬ a + 1 = ss.length := by omega
      have hlt2 : ¬ (a : Int) < (ss.length : Int) := by omega
      have hno : Fo.readL ss = none := by
        rw [Fo.readL_eq, hps, Option.bind_some, if_neg (fun h => hla (by have := printL_len h.2 h.1; rw [this, HEL.out]))]
      have e5 : ((a : Int) == (ss.length : Int) - 1) = false := by simp; omega
      have e6 : ¬ ((a : Int) = (ss.length : Int) - 1) := by omega
      have HNO := Lib.hid hno
      clear hno hps hla
      go_wp2_with fail
      go_ret2
      exact .inr ⟨HNO.out, rfl, HFR.out.below⟩
end Go.Proofs.Ytgahjibjladafaa
