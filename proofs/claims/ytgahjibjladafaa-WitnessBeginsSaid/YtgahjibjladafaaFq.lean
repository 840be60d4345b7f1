/- foata.Read -/
import Derived.Test.YtgahjibjladafaaFp
import Derived.Test.YtgahjibjladafaaFoEv
namespace Go.Proofs.Ytgahjibjladafaa
open Go.RowKit
set_option linter.unusedVariables false

/-- what a function that reads levels leaves -/
def ReadOut (w : World) (s : List UInt8) (x : Ending) (w' : World) : Prop :=
  (∃ A cap L, Fo.readL s = some L ∧ x = .returned (.tuple #[.slice A L.length cap, .int .i64 0]) ∧ LvAt w' w'.heap.size A L ∧ Below w.heap.size w w') ∨
  (Fo.readL s = none ∧ x = .returned (.tuple #[.slice none 0 0, .int .i64 3]) ∧ Below w.heap.size w w')

/-- a row more -/
theorem LvC.push {cap cap' c' : Nat} {A A2 A' : Option Addr} {L : List (List Ev)} {c : Nat → Nat} {w w' : World} {vs : List Value} {q : List Ev} (hv : RowC w c 1 22 1 A L.length cap vs)
    (hin : ∀ i, (hi : i < L.length) → ∃ A' c', vs[i]? = some (.slice A' L[i].length c') ∧ RowC w c (10 + i) 39 4 A' L[i].length c' (L[i].flatMap encE))
    (hq : RowC w c (10 + L.length) 39 4 A' q.length c' (q.flatMap encE))
    (hr : Row w' 22 1 A2 (L.length + 1) cap' (vs ++ [.slice A' q.length c'])) (hm : Mod (fun k => ∃ a, A = some a ∧ k = a.block) w w')
    (hat : ∀ a', A2 = some a' → (∃ a, A = some a ∧ a'.block = a.block) ∨ w.heap.size ≤ a'.block) :
    LvC w' (paint c w.heap.size 1) A2 cap' (L ++ [q]) ∧ Chg 1 c w (paint c w.heap.size 1) w' := by
  have hl : vs.length = L.length := by have := hv.1.1; omega
  obtain ⟨h1, h2⟩ := RowC.put hv hr hm hat
  refine ⟨⟨vs ++ [.slice A' q.length c'], by rw [List.length_append]; exact h1, fun i hi => ?_⟩, h2⟩
  rw [List.length_append, List.length_singleton] at hi
  rcases Nat.lt_or_ge i L.length with h3 | h3
  · obtain ⟨A', c', e, r⟩ := hin i h3
    refine ⟨A', c', ?_, ?_⟩
    · rw [List.getElem?_append_left (by omega), e, List.getElem_append_left h3]
    · rw [List.getElem_append_left h3]; exact r.stay h2 (by omega)
  · obtain rfl : i = L.length := by omega
    refine ⟨A', c', ?_, ?_⟩
    · rw [List.getElem?_append_right (by omega)]; simp [hl]
    · simp only [List.getElem_append_right (Nat.le_refl _), Nat.sub_self, List.getElem_cons_zero]; exact hq.stay h2 (by omega)

namespace Fo
/-- what is read of all of it -/
def parseS (s : List UInt8) : Option (List (List Ev)) := parse s.length s
theorem parseS_nil : parseS [] = some [] := rfl
theorem parseS_zero (r : List UInt8) : parseS (0 :: r) = some [] := rfl
theorem parseS_short {b : UInt8} {r : List UInt8} (hb : b ≠ 0) (h : r.length < b.toNat) : parseS (b :: r) = none := by
  unfold parseS
  rw [List.length_cons, parse, if_neg hb, if_pos h]
theorem parseS_cons {b : UInt8} {r : List UInt8} (hb : b ≠ 0) (h : ¬ r.length < b.toNat) : parseS (b :: r) = (evs (r.take b.toNat)).bind fun l => (parseS (r.drop b.toNat)).map (l :: ·) := by
  unfold parseS
  rw [List.length_cons, parse, if_neg hb, if_neg h, parse_more r.length (r.drop b.toNat) (by rw [List.length_drop]; omega)]
theorem evs_len {bs : List UInt8} {q : List Ev} (h : evs bs = some q) : q.length = bs.length := by
  unfold evs at h
  split at h
  · injection h with h; rw [← h, List.length_map]
  · cases h
theorem readL_eq (s : List UInt8) : readL s = (parseS s).bind fun L => if s ≠ [] ∧ printL L = s then some L else none := rfl
end Fo

set_option maxRecDepth 100000 in
set_option maxHeartbeats 4000000 in
theorem fread_any (w : World) (s : ByteArray) (hl : s.size < 100000) :
    Calls Try.prog 18 #[.string s] w (ReadOut w s.data.toList) := by
  obtain ⟨i1, hi1, hy0, hy1, hy2⟩ := info_parts Try.infoSl2
  go_enter Try.func18, Try.ntmps18
  go_wp2_with fail
  go_loopw [2, 4] (fun v2 v4 wr => ∃ (r : ByteArray) (A : Option Addr) (cap : Nat) (c : Nat → Nat) (L : List (List Ev)), v4 = .string r ∧ v2 = .slice A L.length cap ∧ L.flatten.length + L.length + r.size ≤ s.size ∧ Hid (Fo.parseS s.data.toList = (Fo.parseS r.data.toList).map (L ++ ·)) ∧ Hid (LvC wr c A cap L) ∧ Hid (Fr w.heap.size c w wr)) (fun _ v4 _ => match v4 with | .string r => r.size | _ => 0)
  case atStart => exact ⟨s, none, 0, _, [], rfl, rfl, by simp, Lib.hid (by simp), Lib.hid (LvC.nil _ _), Lib.hid (Fr.start w)⟩
  case round =>
    obtain ⟨r, A, cap, c, L, rfl, rfl, hsz, HPS, HLV, HFR⟩ := hrel
    by_cases hne : r.size = 0
    · have e0 : r = ⟨#[]⟩ := ByteArray.ext (Array.eq_empty_of_size_eq_zero hne)
      have hps : Fo.parseS s.data.toList = some L := by rw [HPS.out, e0]; simp [Fo.parseS_nil]
      subst e0
      clear hne HPS
      by_cases hs0 : s.data.toList = []
      · have he_s : s.toList.isEmpty = true := by rw [ByteArray.toList_eq, hs0]; rfl
        have hno : Fo.readL s.data.toList = none := by rw [Fo.readL_eq, hps, Option.bind_some, if_neg (fun h => h.1 hs0)]
        have HNO := Lib.hid hno
        clear hno hps hs0
        go_wp2_with fail
        go_ret2
        exact .inr ⟨HNO.out, rfl, HFR.out.below⟩
      · have he_s : s.toList.isEmpty = false := by rw [ByteArray.toList_eq]; cases hx : s.data.toList with
          | nil => exact (hs0 hx).elim
          | cons _ _ => rfl
        have hpr := fprint_any wr A cap L HLV.out.lv (by omega) (by omega)
        have hrd : Fo.readL s.data.toList = if Fo.printL L = s.data.toList then some L else none := by
          rw [Fo.readL_eq, hps, Option.bind_some]
          by_cases hq : Fo.printL L = s.data.toList
          · rw [if_pos hq, if_pos ⟨hs0, hq⟩]
          · rw [if_neg hq, if_neg (fun h => hq h.2)]
        have hts : (⟨(Fo.printL L).toArray⟩ : ByteArray) = s ↔ Fo.printL L = s.data.toList := ⟨fun h => by rw [← h], fun h => ByteArray.ext (by show (Fo.printL L).toArray = s.data; rw [h])⟩
        generalize (⟨(Fo.printL L).toArray⟩ : ByteArray) = t at hpr hts
        have HPR := Lib.hid hpr
        have HRD := Lib.hid hrd
        have HTS := Lib.hid hts
        clear hpr hrd hts hps hs0
        go_wp2_with fail
        refine HPR.out.mono ?_
        rintro x w1 ⟨rfl, b1⟩
        have HB := Lib.hid (below_at (w := w) HFR.out.below ⟨b1.os, b1.tape, b1.output, b1.size, b1.block⟩)
        have HLV1 := Lib.hid ((HLV.out.lv.below b1).mono b1.size)
        by_cases hq : t = s
        · have hrd : Fo.readL s.data.toList = some L := by rw [HRD.out, if_pos (HTS.out.1 hq)]
          have HR := Lib.hid hrd
          subst hq
          clear hrd b1
          go_wp2_with fail
          go_ret2
          exact .inl ⟨A, cap, L, HR.out, rfl, HLV1.out, HB.out⟩
        · have hrd : Fo.readL s.data.toList = none := by rw [HRD.out, if_neg (fun h => hq (HTS.out.2 h))]
          have HR := Lib.hid hrd
          have e8 : (t.toList == s.toList) = false := by
            rw [ByteArray.toList_eq, ByteArray.toList_eq, beq_eq_false_iff_ne]
            exact fun h => hq (ByteArray.ext (Array.toList_inj.1 h))
          have e9 : ¬ t.toList = s.toList := by
            rw [ByteArray.toList_eq, ByteArray.toList_eq]
            exact fun h => hq (ByteArray.ext (Array.toList_inj.1 h))
          clear hrd b1
          go_wp2_with fail
          go_ret2
          exact .inr ⟨HR.out, rfl, HB.out⟩
    · have hp : 0 < r.size := by omega
      have hp2 : (0 : Int) < (r.size : Int) := by omega
      obtain ⟨b, hb⟩ : ∃ b, b = r[0]'hp := ⟨_, rfl⟩
      have hidx : ∀ W, (Instr.index 9 (.string r) (.int .i64 0)).run Try.prog W = .ok (.int .u8 b.toNat) W := fun W => by
        rw [run_index_string W _ _ _ _ Try.underlying9, dif_pos ⟨Int.le_refl _, hp2⟩, hb]; rfl
      obtain ⟨bs, hbs⟩ : ∃ bs, r.data.toList = b :: bs := by
        have hp' : 0 < r.data.toList.length := by simpa using hp
        cases hx : r.data.toList with
        | nil => rw [hx] at hp'; cases hp'
        | cons c cs =>
          refine ⟨cs, ?_⟩
          have : r.data.toList[0]'hp' = r[0]'hp := rfl
          rw [hb, ← this]
          simp [hx]
      have hrs : r.size = bs.length + 1 := by
        have : r.data.toList.length = r.size := by simp
        rw [hbs] at this; simpa using this.symm
      have he : r.toList.isEmpty = false := by rw [ByteArray.toList_eq, hbs]; rfl
      have hE1 : ∀ n, (r.extract 1 (n + 1)).data.toList = bs.take n := fun n => by
        rw [ByteArray.data_extract, Array.toList_extract, hbs]; simp
      have hE2 : ∀ n, (r.extract (n + 1) r.size).data.toList = bs.drop n := fun n => by
        rw [ByteArray.data_extract, Array.toList_extract, hbs, hrs]; simp [List.take_of_length_le]
      have HBS := Lib.hid hbs
      have HB := Lib.hid hb
      clear hb hbs
      by_cases hb0 : b = 0
      · have hps : Fo.parseS s.data.toList = some L := by rw [HPS.out, HBS.out, hb0, Fo.parseS_zero]; simp
        subst hb0
        by_cases hs0 : s.data.toList = []
        · have he_s : s.toList.isEmpty = true := by rw [ByteArray.toList_eq, hs0]; rfl
          have hno : Fo.readL s.data.toList = none := by rw [Fo.readL_eq, hps, Option.bind_some, if_neg (fun h => h.1 hs0)]
          have HNO := Lib.hid hno
          clear hno hps hs0
          go_wp2_with fail
          go_ret2
          exact .inr ⟨HNO.out, rfl, HFR.out.below⟩
        · have he_s : s.toList.isEmpty = false := by rw [ByteArray.toList_eq]; cases hx : s.data.toList with
            | nil => exact (hs0 hx).elim
            | cons _ _ => rfl
          have hpr := fprint_any wr A cap L HLV.out.lv (by omega) (by omega)
          have hrd : Fo.readL s.data.toList = if Fo.printL L = s.data.toList then some L else none := by
            rw [Fo.readL_eq, hps, Option.bind_some]
            by_cases hq : Fo.printL L = s.data.toList
            · rw [if_pos hq, if_pos ⟨hs0, hq⟩]
            · rw [if_neg hq, if_neg (fun h => hq h.2)]
          have hts : (⟨(Fo.printL L).toArray⟩ : ByteArray) = s ↔ Fo.printL L = s.data.toList := ⟨fun h => by rw [← h], fun h => ByteArray.ext (by show (Fo.printL L).toArray = s.data; rw [h])⟩
          generalize (⟨(Fo.printL L).toArray⟩ : ByteArray) = t at hpr hts
          have HPR := Lib.hid hpr
          have HRD := Lib.hid hrd
          have HTS := Lib.hid hts
          clear hpr hrd hts hps hs0
          go_wp2_with fail
          refine HPR.out.mono ?_
          rintro x w1 ⟨rfl, b1⟩
          have HB := Lib.hid (below_at (w := w) HFR.out.below ⟨b1.os, b1.tape, b1.output, b1.size, b1.block⟩)
          have HLV1 := Lib.hid ((HLV.out.lv.below b1).mono b1.size)
          by_cases hq : t = s
          · have hrd : Fo.readL s.data.toList = some L := by rw [HRD.out, if_pos (HTS.out.1 hq)]
            have HR := Lib.hid hrd
            subst hq
            clear hrd b1
            go_wp2_with fail
            go_ret2
            exact .inl ⟨A, cap, L, HR.out, rfl, HLV1.out, HB.out⟩
          · have hrd : Fo.readL s.data.toList = none := by rw [HRD.out, if_neg (fun h => hq (HTS.out.2 h))]
            have HR := Lib.hid hrd
            have e8 : (t.toList == s.toList) = false := by
              rw [ByteArray.toList_eq, ByteArray.toList_eq, beq_eq_false_iff_ne]
              exact fun h => hq (ByteArray.ext (Array.toList_inj.1 h))
            have e9 : ¬ t.toList = s.toList := by
              rw [ByteArray.toList_eq, ByteArray.toList_eq]
              exact fun h => hq (ByteArray.ext (Array.toList_inj.1 h))
            clear hrd b1
            go_wp2_with fail
            go_ret2
            exact .inr ⟨HR.out, rfl, HB.out⟩
      · have hbn : b.toNat ≠ 0 := fun h => hb0 (UInt8.toNat_inj.1 h)
        have hn2 : b.toNat ≤ 255 := by have := b.toNat_lt; omega
        have HB0 := Lib.hid hb0
        generalize hn : b.toNat = n at *
        have HN := Lib.hid hn
        have n1 : (0 : Int) < (n : Int) := by omega
        clear hb0 hn hbn
        by_cases hsh : bs.length < n
        · have h3 : ((r.size : Int) ≤ (n : Int)) := by omega
          have hno : Fo.readL s.data.toList = none := by
            rw [Fo.readL_eq, HPS.out, HBS.out, Fo.parseS_short HB0.out (by rw [HN.out]; exact hsh)]
            rfl
          have HNO := Lib.hid hno
          have HSH := Lib.hid hsh
          have h5 : ((bs.length : Int) + 1 ≤ (n : Int)) := by omega
          clear hno hsh
          go_wp2_with fail
          go_ret2
          exact .inr ⟨HNO.out, rfl, HFR.out.below⟩
        · have h3 : ¬ ((r.size : Int) ≤ (n : Int)) := by omega
          have h4 : ((n : Int) + 1) ≤ (r.size : Int) := by omega
          go_wp2_with fail
          refine (readE_any wr (r.extract 1 (n + 1)) (by simp [ByteArray.size_extract]; omega)).mono ?_
          rintro x w1 (⟨A', c', q, hq, rfl, hrow, hfr, hb1⟩ | ⟨hq, rfl, hb1⟩)
          · have hqn : q.length = n := by have := Fo.evs_len hq; rw [hE1, List.length_take] at this; omega
            have hps : Fo.parseS s.data.toList = (Fo.parseS (r.extract (n + 1) r.size).data.toList).map ((L ++ [q]) ++ ·) := by
              rw [HPS.out, HBS.out, Fo.parseS_cons HB0.out (by rw [HN.out]; exact hsh), HN.out, ← hE1, hq, hE2]
              cases Fo.parseS (bs.drop n) with
              | none => rfl
              | some M => simp
            have hsz2 : (L ++ [q]).flatten.length + (L ++ [q]).length + (r.extract (n + 1) r.size).size ≤ s.size := by
              have hx : (r.extract (n + 1) r.size).size = bs.length - n := by rw [ByteArray.size_extract]; omega
              rw [hx, List.flatten_append, List.length_append, List.length_append, List.length_singleton]
              simp only [List.flatten_cons, List.flatten_nil, List.append_nil]
              omega
            have hrq := RowC.fresh (c := c) (w := wr) (j := 10 + L.length) hrow hfr
            have hst : Chg 3 c wr (paint c wr.heap.size (10 + L.length)) w1 := .below 3 _ hb1
            have hlv := HLV.out.stay hst (by decide) (by decide)
            have hfr1 := HFR.out.step hst (by decide)
            generalize paint c wr.heap.size (10 + L.length) = c1 at hrq hst hlv hfr1
            have hal : Chg 4 c1 w1 (paint c1 w1.heap.size 3) (w1.alloc (Obj.cells #[.slice A' q.length c'] 22)) := .alloc 4 3 _
            obtain ⟨vs, hv, hin⟩ := hlv.stay hal (by decide) (by decide)
            have HV := Lib.hid hv
            have HIN := Lib.hid hin
            have HRQ := Lib.hid (hrq.stay hal (by omega))
            have HFR1 := Lib.hid (hfr1.step hal (by decide))
            have HPS2 := Lib.hid hps
            have HSZ2 := Lib.hid hsz2
            have hfl : L.length < 100000 := by omega
            have hxs : (r.extract (n + 1) r.size).size < r.size := by rw [ByteArray.size_extract]; omega
            have HXS := Lib.hid hxs
            clear hqn hq hrow hfr hb1 hps hsz2 hrq hst hlv hfr1 hal hv hin hsz hxs
            go_wp2_with (at_builtin; refine wpList_append_row (by rfl) _ _ _ (by rfl) 22 i1 _ 1 24 Try.underlying24 hi1 hy0 hy1 hy2 rfl (by omega) A L.length cap vs (by rfl) HV.out.1 ⟨w1.heap.size, 0, none⟩ 1 1 [.slice A' q.length c'] (by rfl) (by rfl) (World.news_of_block (cs := #[.slice A' q.length c']) (t := 22) (fr := (0, 0)) (heap_alloc_new w1 _)) (by simp [Value.oneCell']) (by omega) (by unfold maxLen; omega) (by omega) ?_; intro g4 of4 cap4 w8 hown hm hat; skip)
            obtain ⟨z1, z2⟩ := LvC.push HV.out HIN.out HRQ.out hown hm (fun a' ha' => by injection ha' with ha'; subst ha'; exact hat)
            go_roundw
            case rel => exact ⟨r.extract (n + 1) r.size, some ⟨g4, of4, none⟩, cap4, _, L ++ [q], by rw [hrs], by rw [List.length_append]; rfl, HSZ2.out, HPS2, Lib.hid z1, Lib.hid (HFR1.out.step z2 (by decide))⟩
            case measure =>
              show (r.extract (n + 1) (bs.length + 1)).size < r.size
              rw [← hrs]
              exact HXS.out
          · have hno : Fo.readL s.data.toList = none := by
              rw [Fo.readL_eq, HPS.out, HBS.out, Fo.parseS_cons HB0.out (by rw [HN.out]; exact hsh), HN.out, ← hE1, hq]
              rfl
            have HNO := Lib.hid hno
            have HF := Lib.hid ((HFR.out.step (Chg.below 3 3 hb1) (by decide)).below)
            clear hno hq hb1
            go_wp2_with fail
            go_ret2
            exact .inr ⟨HNO.out, rfl, HF.out⟩
end Go.Proofs.Ytgahjibjladafaa
