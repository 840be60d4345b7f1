/- QueueAll. -/
import Derived.Test.YtedogccbndjdpaaQuePlays
import Derived.Maps.Own
namespace Go.Proofs.Ytedogccbndjdpaa
open Go.RowKit
set_option linter.unusedVariables false

def cnt (l : List ByteArray) (s : ByteArray) : Nat := (l.filter (fun x => decide (x = s))).length
theorem cnt_perm {l r : List ByteArray} (h : l.Perm r) (s : ByteArray) : cnt l s = cnt r s := (h.filter _).length_eq
theorem cnt_cons (x : ByteArray) (l : List ByteArray) (s : ByteArray) : cnt (x :: l) s = cnt l s + if s = x then 1 else 0 := by
  unfold cnt
  rw [List.filter_cons]
  by_cases h : x = s
  · subst h; simp
  · have h' : ¬ s = x := fun e => h e.symm
    simp [h, h']
theorem cnt_le (l : List ByteArray) (s : ByteArray) : cnt l s ≤ l.length := List.length_filter_le _ _

theorem Que.sorted {w : World} {F : Nat → Prop} {Q : Nat} {l : List ByteArray} (h : Que w F Q l) : Hp.Sorted ahead l := by
  obtain ⟨_, _, h2⟩ := h; exact h2.2.2
theorem sorted_eq {l r : List ByteArray} (hl : Hp.Sorted ahead l) (hr : Hp.Sorted ahead r) (hp : l.Perm r) : l = r :=
  List.Perm.eq_of_pairwise (le := Hp.le ahead) (fun a b _ _ h1 h2 => ahead_tot.antisymm h1 h2) hl hr hp
/-- what was just popped, put back -/
theorem put_back {x : ByteArray} {r : List ByteArray} (h : Hp.Sorted ahead (x :: r)) : Hp.putF ahead r x = x :: r :=
  sorted_eq (Hp.putF_sorted ahead_tot (List.pairwise_cons.1 h).2 x) h (Hp.putF_perm ahead r x)

noncomputable abbrev Try.keyS : KeyK Try.prog 9 ByteArray := keyStr Try.underlying9

/-- a queue of lq, and a map that counts what is in lm -/
def QA (base : Nat) (W : World) (Q M : Nat) (lq lm : List ByteArray) (wr : World) : Prop :=
  ∃ (F : Nat → Prop) (m : List (ByteArray × Value)), Que wr F Q lq ∧ MapAt Try.keyS wr M m ∧ ¬ F M ∧ base ≤ M ∧ (∀ q, F q → base ≤ q ∧ q < wr.heap.size) ∧ Below base W wr ∧ ∀ s, (mget m s).getD (.int .i64 0) = .int .i64 (cnt lm s)

/-- a step on the queue -/
theorem QA.queue {base : Nat} {W : World} {Q M : Nat} {lm lq' : List ByteArray} {wr w3 : World} {F F3 : Nat → Prop} {m : List (ByteArray × Value)}
    (hM : MapAt Try.keyS wr M m) (hn : ¬ F M) (hb : base ≤ M) (hF : ∀ q, F q → base ≤ q ∧ q < wr.heap.size) (hbel : Below base W wr) (hc : ∀ s, (mget m s).getD (.int .i64 0) = .int .i64 (cnt lm s))
    (hq : Que w3 F3 Q lq') (hF3 : ∀ q, F3 q → F q ∨ wr.heap.size ≤ q) (hm : Mod F wr w3) (hz : base ≤ wr.heap.size) : QA base W Q M lq' lm w3 := by
  have hl := hM.lt
  have hs := hm.size
  refine ⟨fun q => (F q ∨ wr.heap.size ≤ q) ∧ q < w3.heap.size, m, hq.foot (fun q h1 h2 => ⟨hF3 q h1, h2⟩), hM.move (hm.block M hl hn), fun h => ?_, hb, fun q h => ⟨?_, h.2⟩, hbel.trans (hm.below base hz (fun q hq h => by have := (hF q h).1; omega)), hc⟩
  · rcases h.1 with h | h
    · exact hn h
    · omega
  · rcases h.1 with h | h
    · exact (hF q h).1
    · omega
/-- a step on the map -/
theorem QA.map {base : Nat} {W : World} {Q M : Nat} {lq lm' : List ByteArray} {w3 w4 : World} {F : Nat → Prop} {m' : List (ByteArray × Value)}
    (hq : Que w3 F Q lq) (hn : ¬ F M) (hb : base ≤ M) (hF : ∀ q, F q → base ≤ q ∧ q < w3.heap.size) (hbel : Below base W w3)
    (hM : MapAt Try.keyS w4 M m') (hm : Mod (fun q => q = M) w3 w4) (hc : ∀ s, (mget m' s).getD (.int .i64 0) = .int .i64 (cnt lm' s)) (hz : base ≤ w3.heap.size) : QA base W Q M lq lm' w4 :=
  ⟨F, m', hq.mod hm (fun q h e => hn (e ▸ h)), hM, hn, hb, fun q h => ⟨(hF q h).1, by have := (hF q h).2; have := hm.size; omega⟩, hbel.trans (hm.below base hz (fun q hq h => by omega)), hc⟩

theorem QA.look {base : Nat} {W : World} {Q M : Nat} {lq lm : List ByteArray} {w : World} (h : QA base W Q M lq lm w) (s : ByteArray) : (Instr.lookup 59 (.map (some M)) (.string s) false).run Try.prog w = .ok (.int .i64 (cnt lm s)) w := by
  obtain ⟨F, m, h1, h2, h3, h4, h5, h6, h7⟩ := h
  have := run_lookup Try.keyS (w := w) Try.underlying59 (z := .int .i64 0) (fun w => by kernel_rfl) h2 s false
  rw [h7 s] at this
  exact this
theorem QA.size {base : Nat} {W : World} {Q M : Nat} {lq lm : List ByteArray} {w : World} (h : QA base W Q M lq lm w) : Hp.Sorted ahead lq := by
  obtain ⟨F, m, h1, h2, h3, h4, h5, h6, h7⟩ := h
  exact h1.sorted

theorem que_push_nil (w : World) (s : ByteArray) : Calls Try.prog 22 #[.pointer none, .string s] w fun e w' => e = .returned (.tuple #[]) ∧ w = w' := by
  go_enter Try.func22, Try.ntmps22
  go_wp2
  go_end0
  exact ⟨rfl, rfl⟩

/-- what of the deep end, and of the other one, was taken last -/
def Edge (dv sv : ByteArray) (l : List ByteArray) : Prop := (dv ≠ ⟨#[]⟩ → ∀ x ∈ l, ahead x dv = false) ∧ (sv ≠ ⟨#[]⟩ → ∀ x ∈ l, ahead sv x = false)
theorem Edge.low {dv sv y : ByteArray} {r : List ByteArray} (h : Edge dv sv (r ++ [y])) (hs : Hp.Sorted ahead (r ++ [y])) : Edge dv y r :=
  ⟨fun hd x hx => h.1 hd x (by simp [hx]), fun _ x hx => (List.pairwise_append.1 hs).2.2 x hx y (by simp)⟩
theorem Edge.deep {dv sv y : ByteArray} {r : List ByteArray} (h : Edge dv sv (y :: r)) (hs : Hp.Sorted ahead (y :: r)) : Edge y sv r :=
  ⟨fun _ x hx => (List.pairwise_cons.1 hs).1 x hx, fun hd x hx => h.2 hd x (by simp [hx])⟩

set_option maxRecDepth 100000 in
set_option maxHeartbeats 2000000 in
theorem queueAll_any (W : World) (A0 : Option Addr) (cap0 : Nat) (xs : List ByteArray) (A1 : Option Addr) (cap1 : Nat) (bs : List Bool) (hr : Rd W 1 A0 xs.length (xs.map .string)) (hr2 : Rd W 1 A1 bs.length (bs.map .bool)) (hmax : xs.length ≤ maxLen) (hmax2 : bs.length ≤ maxLen) :
    Calls Try.prog 7 #[.slice A0 xs.length cap0, .slice A1 bs.length cap1] W fun e w' => e = .returned (.bool true) ∧ Below W.heap.size W w' := by
  have HR := Lib.hid hr
  have HR2 := Lib.hid hr2
  have hmx : xs.length < 9223372036854775808 := by unfold maxLen at hmax; omega
  have hmx2 : bs.length < 9223372036854775808 := by unfold maxLen at hmax2; omega
  clear hr hr2 hmax hmax2
  by_cases hbig : 200 < xs.length ∨ 300 < bs.length
  · have fin : ∀ w1 w2, Below W.heap.size W w1 → Below w1.heap.size w1 w2 → Below W.heap.size W w2 := fun _ _ => below_tr
    have FIN := Lib.hid fin
    clear fin
    by_cases hb1 : 200 < xs.length
    · clear hbig
      go_enter Try.func7, Try.ntmps7
      go_wp2_with fail
      refine (awake11 _).mono ?_
      rintro e w1 ⟨rfl, b1⟩
      go_wp2_with fail
      refine (awake11 _).mono ?_
      rintro e w2 ⟨rfl, b2⟩
      go_wp2_with fail
      go_ret
      exact ⟨rfl, FIN.out _ _ b1 b2⟩
    · have hb2 : 300 < bs.length := by omega
      clear hbig
      go_enter Try.func7, Try.ntmps7
      go_wp2_with fail
      refine (awake11 _).mono ?_
      rintro e w1 ⟨rfl, b1⟩
      go_wp2_with fail
      refine (awake11 _).mono ?_
      rintro e w2 ⟨rfl, b2⟩
      go_wp2_with fail
      go_ret
      exact ⟨rfl, FIN.out _ _ b1 b2⟩
  have hx2 : xs.length ≤ 200 := by omega
  have hb2 : bs.length ≤ 300 := by omega
  obtain ⟨base, hbase⟩ : ∃ base, base = W.heap.size := ⟨_, rfl⟩
  rw [← hbase]
  have hWb : base ≤ W.heap.size := by omega
  have hmk := @run_makeMap Try.prog
  clear hbig hmx hmx2
  go_enter Try.func7, Try.ntmps7
  go_wp2_with fail
  refine (awake11 _).mono ?_
  rintro e w1 ⟨rfl, b1⟩
  have z1 : base ≤ w1.heap.size := by have := b1.size; omega
  rw [← hbase] at b1
  go_wp2_with fail
  refine (que_new _).mono ?_
  rintro e w2 ⟨Q, rfl, hq, b2⟩
  have b3 := qop_tail b1 b2 z1
  go_upto_region 5 with fail
  obtain ⟨M, hM⟩ : ∃ M, M = w2.heap.size := ⟨_, rfl⟩
  obtain ⟨W3, hW3⟩ : ∃ W3, W3 = w2.alloc (Obj.map #[] 0) := ⟨_, rfl⟩
  have bz := b2.size
  have hI : QA base W Q M [] [] W3 := by
    have b4 : Below w2.heap.size w2 W3 := by rw [hW3]; exact (Below.refl _ _).alloc (Nat.le_refl _) _
    refine ⟨fun q => w1.heap.size ≤ q ∧ q < w2.heap.size, [], (hq.foot (fun q h1 h2 => ⟨h1, h2⟩)).below b4, ?_, fun h => by omega, by omega, fun q h => ⟨by omega, by have := b4.size; omega⟩, qop_tail b3 b4 (by omega), fun s => rfl⟩
    rw [hM, hW3]; exact MapAt.made _ _ _
  have hWz : base ≤ W3.heap.size := by rw [hW3]; simp; omega
  have HI := Lib.hid hI
  have HBASE := Lib.hid hbase
  rw [← hW3, ← hM]
  clear hM hW3 hI hq b1 b2 b3 bz hmk hbase z1
  go_wp2_with fail
  go_loopw [37] (fun v wr => ∃ (k : Nat) (l : List ByteArray), k ≤ xs.length ∧ v = .int .i64 k ∧ l.length = k ∧ base ≤ wr.heap.size ∧ Hid (QA base W Q M l l wr)) (fun v _ => xs.length - (intOf v).toNat)
  case atStart => exact ⟨0, [], Nat.zero_le _, rfl, rfl, hWz, HI⟩
  case round =>
    clear HI hWz
    obtain ⟨k, l, hk, rfl, hlk, hz, HX⟩ := hrel
    obtain ⟨F, m, hQ, hmp, hn, hbM, hF, hbel, hc⟩ := HX.out
    have HQ := Lib.hid hQ
    have HMP := Lib.hid hmp
    have HN := Lib.hid hn
    have HF := Lib.hid hF
    have HBEL := Lib.hid hbel
    have HCN := Lib.hid hc
    clear hQ hmp hn hF hbel hc
    by_cases hlt : k < xs.length
    · obtain ⟨g0, o0, rfl, hg0, hc0⟩ := HR.out.2 (by omega)
      obtain ⟨s, hs⟩ : ∃ s, xs[k]? = some s := ⟨_, List.getElem?_eq_getElem hlt⟩
      have c0 : wr.cell? ⟨g0, o0 + k, none⟩ = some (.string s) := by
        rw [World.cell?_of_block (HBEL.out.block g0 (by have := HBASE.out; omega)), hc0 k (by omega)]; simp [hs]
      clear hc0 hs
      by_cases hsz : 100 < s.size
      · go_wp2
        go_ret
        exact ⟨rfl, HBEL.out⟩
      · go_wp2_with fail
        refine (que_push wr F Q l HQ.out s (by omega)).mono ?_
        rintro e w3 ⟨rfl, hq3, hm3⟩
        have hqa := QA.queue HMP.out HN.out hbM HF.out HBEL.out HCN.out hq3 (fun q h => h) hm3 hz
        obtain ⟨F4, m4, hQ4, hmp4, hn4, hbM4, hF4, hbel4, hc4⟩ := hqa
        have hlook := (show QA base W Q M _ l w3 from ⟨F4, m4, hQ4, hmp4, hn4, hbM4, hF4, hbel4, hc4⟩).look s
        have HQ4 := Lib.hid hQ4
        have HMP4 := Lib.hid hmp4
        have HN4 := Lib.hid hn4
        have HF4 := Lib.hid hF4
        have HBEL4 := Lib.hid hbel4
        have HC4 := Lib.hid hc4
        have hz3 : base ≤ w3.heap.size := by have := hm3.size; omega
        have hcl : cnt l s < 1000 := by have := cnt_le l s; omega
        clear hq3 hm3 hQ4 hmp4 hn4 hF4 hbel4 hc4
        go_wp2_with (at_mapUpdate; refine wpList_mapUpdate Try.keyS (by rfl) _ _ _ 59 3 (by rfl) Try.underlying59 M m4 (by rfl) HMP4.out s (by rfl) _ (by rfl) ?_; intro w4 mp5 m5)
        go_roundw
        case rel =>
          refine ⟨k + 1, Hp.putF ahead l s, by omega, by go_num, by rw [Hp.putF_len]; omega, by have := m5.size; omega, Lib.hid (QA.map HQ4.out HN4.out hbM HF4.out HBEL4.out mp5 m5 (fun t => ?_) hz3)⟩
          rw [mget_mput, cnt_perm (Hp.putF_perm ahead l s) t, cnt_cons]
          by_cases h : t = s
          · subst h; simp only [if_pos]; simp; go_num
          · rw [if_neg h, if_neg h]; simpa using HC4.out t
        case measure => simp [intOf]; omega
    · have hkn : k = xs.length := by omega
      have HK := Lib.hid hkn
      clear hkn HQ HMP HN HF HCN
      go_wp2_with fail
      go_loopw [9, 10, 54] (fun vd vs v wr => ∃ (k : Nat) (l : List ByteArray) (dv sv : ByteArray), k ≤ xs.length ∧ v = .int .i64 k ∧ vd = .string dv ∧ vs = .string sv ∧ l.length + k = xs.length ∧ base ≤ wr.heap.size ∧ Hid (QA base W Q M l l wr) ∧ Hid (Edge dv sv l)) (fun _ _ v _ => xs.length - (intOf v).toNat)
      case atStart => exact ⟨0, l, _, _, Nat.zero_le _, rfl, rfl, rfl, by have := HK.out; omega, hz, HX, Lib.hid ⟨fun h => (h rfl).elim, fun h => (h rfl).elim⟩⟩
      case round =>
        clear HX HBEL HK
        obtain ⟨k, l, dv, sv, hk, rfl, rfl, rfl, hlk, hz, HX, HE⟩ := hrel
        obtain ⟨F, m, hQ, hmp, hn, hbM, hF, hbel, hc⟩ := HX.out
        have hSort := hQ.sorted
        have HQ := Lib.hid hQ
        have HMP := Lib.hid hmp
        have HN := Lib.hid hn
        have HF := Lib.hid hF
        have HBEL := Lib.hid hbel
        have HCN := Lib.hid hc
        have HSO := Lib.hid hSort
        clear hQ hmp hn hF hbel hc hSort
        by_cases hlt : k < xs.length
        · go_upto_region 17 with fail
          go_cut [12] (fun v w2 => wr = w2 ∧ ∃ b, v = .bool b)
          case first =>
            by_cases hkb : k < bs.length
            · obtain ⟨g1, o1, rfl, hg1, hc1⟩ := HR2.out.2 (by omega)
              obtain ⟨b, hb⟩ : ∃ b, bs[k]? = some b := ⟨_, List.getElem?_eq_getElem hkb⟩
              have c1 : wr.cell? ⟨g1, o1 + k, none⟩ = some (.bool b) := by
                rw [World.cell?_of_block (HBEL.out.block g1 (by have := HBASE.out; omega)), hc1 k (by omega)]; simp [hb]
              clear hc1 hb
              go_wp2_with fail
              go_meet
              exact ⟨rfl, _, rfl⟩
            · go_wp2_with fail
              go_meet
              exact ⟨rfl, _, rfl⟩
          case rest =>
            obtain ⟨rfl, b, rfl⟩ := hcut
            obtain ⟨x, r, hl⟩ : ∃ x r, l = x :: r := List.exists_cons_of_length_pos (by omega)
            subst hl
            have hrl : r.length < 1000 := by simp at hlk; omega
            go_wp2_with fail
            refine (que_pop wr F Q x r HQ.out (by omega)).mono ?_
            rintro e w2 ⟨rfl, hq2, hm2⟩
            have HQ2 := Lib.hid hq2
            have HM2 := Lib.hid hm2
            clear hq2 hm2
            go_upto_if 72 with fail
            go_cut [9, 10, 13, 14] (fun v9 v10 v13 v14 w4 => ∃ y r' dv' sv', v9 = .string dv' ∧ v10 = .string sv' ∧ v13 = .string y ∧ v14 = .bool true ∧ r'.length = r.length ∧ base ≤ w4.heap.size ∧ Hid (QA base W Q M r' (x :: r) w4) ∧ Hid ((x :: r).Perm (y :: r')) ∧ Hid (Edge dv' sv' r'))
            case first =>
              have y2 := HM2.out.size
              cases b with
              | true =>
                go_wp2_with fail
                refine (que_push w2 F Q r HQ2.out x (by omega)).mono ?_
                rintro e w3 ⟨rfl, hq3, hm3⟩
                rw [put_back HSO.out] at hq3
                obtain ⟨r', y, hry⟩ := last_split (show x :: r ≠ [] by simp)
                have hrl' : r'.length = r.length := by have := congrArg List.length hry; simp at this; omega
                rw [hry] at hq3
                have hst := que_steal w3 _ Q y r' hq3 (by omega)
                have HST := Lib.hid hst
                have HM3 := Lib.hid hm3
                have he : sv ≠ ⟨#[]⟩ → ahead sv y = false := fun h => HE.out.2 h y (by rw [hry]; simp)
                have hed : Edge dv y r' := (show Edge dv sv (r' ++ [y]) from hry ▸ HE.out).low (hry ▸ HSO.out)
                have HED := Lib.hid hed
                have hpm : (x :: r).Perm (y :: r') := by rw [hry]; exact List.perm_append_comm
                have HPM := Lib.hid hpm
                clear hq3 hm3 hst hed hpm hry
                go_wp2_with fail
                refine HST.out.mono ?_
                rintro e w4 ⟨rfl, hq4, hm4⟩
                have y3 := HM3.out.size
                have y4 := hm4.size
                have hfin : QA base W Q M r' (x :: r) w4 := QA.queue HMP.out HN.out hbM HF.out HBEL.out HCN.out hq4 (fun q h => h.imp id (fun h => by omega)) ((HM2.out.trans HM3.out).then hm4 (fun i hi h => h.elim id (fun h => by omega))) hz
                have HFIN := Lib.hid hfin
                clear hq4 hm4 hfin
                by_cases hsv : sv = ⟨#[]⟩
                · subst hsv
                  go_wp2_with fail
                  go_meet
                  exact ⟨y, r', dv, y, rfl, rfl, rfl, rfl, hrl', by omega, HFIN, HPM, HED⟩
                · have hah := ahead_any w4 sv y
                  rw [he hsv] at hah
                  have HAH := Lib.hid hah
                  clear hah he
                  go_wp2_with (go_at_call 27; refine HAH.out.mono ?_; rintro e w0 ⟨rfl, rfl⟩)
                  all_goals (go_meet)
                  all_goals exact ⟨y, r', dv, y, rfl, rfl, rfl, rfl, hrl', by omega, HFIN, HPM, HED⟩
              | false =>
                have he : dv ≠ ⟨#[]⟩ → ahead x dv = false := fun h => HE.out.1 h x (by simp)
                have hed : Edge x sv r := HE.out.deep HSO.out
                have HED := Lib.hid hed
                have hfin : QA base W Q M r (x :: r) w2 := QA.queue HMP.out HN.out hbM HF.out HBEL.out HCN.out HQ2.out (fun q h => .inl h) HM2.out hz
                have HFIN := Lib.hid hfin
                clear hed hfin
                by_cases hdv : dv = ⟨#[]⟩
                · subst hdv
                  go_wp2_with fail
                  go_meet
                  exact ⟨x, r, x, sv, rfl, rfl, rfl, rfl, rfl, by omega, HFIN, Lib.hid (List.Perm.refl _), HED⟩
                · have hah := ahead_any w2 x dv
                  rw [he hdv] at hah
                  have HAH := Lib.hid hah
                  clear hah he
                  go_wp2_with (go_at_call 27; refine HAH.out.mono ?_; rintro e w0 ⟨rfl, rfl⟩)
                  all_goals (go_meet)
                  all_goals exact ⟨x, r, x, sv, rfl, rfl, rfl, rfl, rfl, by omega, HFIN, Lib.hid (List.Perm.refl _), HED⟩
            case rest =>
              obtain ⟨y, r', dv', sv', rfl, rfl, rfl, rfl, hrl', hz4, HX4, HPM, HE4⟩ := hcut
              obtain ⟨F4, m4, hQ4, hmp4, hn4, hbM4, hF4, hbel4, hc4⟩ := HX4.out
              have hlook := HX4.out.look y
              obtain ⟨c, hcd⟩ : ∃ c, c = cnt r' y := ⟨_, rfl⟩
              have hc1 : cnt (x :: r) y = c + 1 := by rw [cnt_perm HPM.out y, cnt_cons, hcd]; simp
              have hcl : c < 1000 := by rw [hcd]; have := cnt_le r' y; omega
              rw [hc1, show ((c + 1 : Nat) : Int) = (c : Int) + 1 by omega] at hlook
              have ew0 : (c : Int) + 1 - 1 = (c : Int) := by omega
              have ew2 : IntKind.i64.wrap (c : Int) = (c : Int) := IntWalk.i64_in _ (by omega)
              have HQ4 := Lib.hid hQ4
              have HMP4 := Lib.hid hmp4
              have HN4 := Lib.hid hn4
              have HF4 := Lib.hid hF4
              have HBEL4 := Lib.hid hbel4
              have HC4 := Lib.hid hc4
              have HCD := Lib.hid hcd
              clear hQ4 hmp4 hn4 hF4 hbel4 hc4 hc1 hcd HX4
              go_upto_region 29 with (at_mapUpdate; refine wpList_mapUpdate Try.keyS (by rfl) _ _ _ 59 3 (by rfl) Try.underlying59 M m4 (by rfl) HMP4.out y (by rfl) (.int .i64 c) (by rfl) ?_; intro w5 mp5 m5)
              have hl5 : (Instr.lookup 59 (.map (some M)) (.string y) false).run Try.prog w5 = .ok (.int .i64 c) w5 := by
                have := run_lookup Try.keyS (w := w5) Try.underlying59 (z := .int .i64 0) (fun w => by kernel_rfl) mp5 y false
                rw [mget_mput, if_pos rfl] at this
                exact this
              have hfin : QA base W Q M r' r' w5 := QA.map HQ4.out HN4.out hbM HF4.out HBEL4.out mp5 m5 (fun t => by
                rw [mget_mput]
                by_cases h : t = y
                · subst h; rw [if_pos rfl, ← HCD.out]; rfl
                · rw [if_neg h, HC4.out t, cnt_perm HPM.out t, cnt_cons, if_neg h]; rfl) hz4
              have HFIN := Lib.hid hfin
              have y5 := m5.size
              have hc0 : ¬ (c : Int) < 0 := by omega
              clear hfin mp5 m5 hlook
              go_wp2_with fail
              go_roundw
              case rel => exact ⟨k + 1, r', dv', sv', by omega, by go_num, rfl, rfl, by simp at hlk; omega, by omega, HFIN, HE4⟩
              case measure => simp [intOf]; omega
        · have hl0 : l = [] := List.eq_nil_of_length_eq_zero (by omega)
          subst hl0
          clear HE HSO
          go_wp2_with fail
          refine (que_push_nil wr _).mono ?_
          rintro e w2 ⟨rfl, rfl⟩
          go_wp2_with fail
          refine (que_pop_nil wr).mono ?_
          rintro e w2 ⟨rfl, rfl⟩
          go_wp2_with fail
          refine (que_steal_nil wr).mono ?_
          rintro e w2 ⟨rfl, rfl⟩
          go_wp2_with fail
          refine (que_len wr F Q [] HQ.out).mono ?_
          rintro e w2 ⟨rfl, rfl⟩
          go_wp2_with fail
          refine (queLen_nil wr).mono ?_
          rintro e w2 ⟨rfl, rfl⟩
          go_wp2_with fail
          go_ret
          exact ⟨rfl, HBEL.out⟩

open Go.ChangeShapes Go.WideShapes Go.ChangeAt
theorem flat_str (xs : List ByteArray) : xs.flatMap (fun s => [Value.string s]) = xs.map Value.string := by induction xs <;> simp_all
theorem flat_bool (xs : List Bool) : xs.flatMap (fun s => [Value.bool s]) = xs.map Value.bool := by induction xs <;> simp_all
theorem flat_u8 (xs : List Nat) : xs.flatMap (fun (s : Nat) => [Value.int .u8 (s : Int)]) = xs.map (fun (t : Nat) => Value.int .u8 (t : Int)) := by induction xs <;> simp_all

set_option maxRecDepth 100000 in
theorem strs_read {H : Type} {enc : TypeId × Value → H} {w : World} {base : Nat} {spare : Nat → Bool} {held : Bool} (fuel : Nat) (cs : List Value) (y : DataW H × List MemPlace) (hl : cs.length = 1)
    (h : DataW.trod enc Try.prog w base spare held fuel 9 cs = some y) : ∃ x : ByteArray, cs = [.string x] ∧ x.size ≤ maxLen := by
  obtain ⟨p, e, w⟩ := tr_string Try.underlying9 h
  exact ⟨p, e, w⟩
theorem bools_read {H : Type} {enc : TypeId × Value → H} {w : World} {base : Nat} {spare : Nat → Bool} {held : Bool} (fuel : Nat) (cs : List Value) (y : DataW H × List MemPlace) (hl : cs.length = 1)
    (h : DataW.trod enc Try.prog w base spare held fuel 4 cs = some y) : ∃ x : Bool, cs = [.bool x] ∧ True := by
  obtain ⟨p, e⟩ := tr_bool Try.underlying4 h
  exact ⟨p, e, trivial⟩
theorem u8s_read {H : Type} {enc : TypeId × Value → H} {w : World} {base : Nat} {spare : Nat → Bool} {held : Bool} (fuel : Nat) (cs : List Value) (y : DataW H × List MemPlace) (hl : cs.length = 1)
    (h : DataW.trod enc Try.prog w base spare held fuel 5 cs = some y) : ∃ x : Nat, cs = [.int .u8 x] ∧ x ≤ 255 := by
  obtain ⟨p, e, w⟩ := tr_int Try.underlying5 h
  obtain ⟨m, rfl, h⟩ := u8_bounds w
  exact ⟨m, e, h⟩

set_option maxRecDepth 100000 in
theorem QueueAll_walk {H : Type} {enc : TypeId × Value → H} (W : World) {base : Nat} {v0 v1 : Value} {d0 d1 : DataW H} {p0 p1 : List MemPlace}
    (o0 : Value.okWide Try.prog W .any base 50 v0) (h0 : DataW.Trod enc Try.prog W 0 (fun _ => true) true 50 v0 d0 p0)
    (o1 : Value.okWide Try.prog W .any base 58 v1) (h1 : DataW.Trod enc Try.prog W 0 (fun _ => true) true 58 v1 d1 p1) :
    Calls Try.prog 7 #[v0, v1] W fun e w' => e = .returned (.bool true) ∧ Below W.heap.size W w' := by
  obtain ⟨A, len, cap, rfl⟩ := okWide_slice Try.underlying50 o0
  obtain ⟨A', len', cap', rfl⟩ := okWide_slice Try.underlying58 o1
  obtain ⟨fuel, hf⟩ := h0
  obtain ⟨fuel', hf'⟩ := h1
  obtain ⟨xs, hl, hg, hr, h1, h2⟩ := tr_list (f := fun s => [Value.string s]) (sz := 1) (by omega) Try.underlying50 (by kernel_rfl) strs_read (by simpa [Value.cells] using hf)
  obtain ⟨bs, hl', hg', hr', h1', h2'⟩ := tr_list (f := fun s => [Value.bool s]) (sz := 1) (by omega) Try.underlying58 (by kernel_rfl) bools_read (by simpa [Value.cells] using hf')
  subst hl
  subst hl'
  exact queueAll_any W A cap xs A' cap' bs (flat_str xs ▸ hr) (flat_bool bs ▸ hr') (by omega) (by omega)
namespace queueAll
theorem own : ownKnob Try.prog.godebug = none := by kernel_rfl
theorem laidOut : laidOutB Try.prog = true := by kernel_rfl
set_option maxRecDepth 100000 in
theorem lifted (os : Os) (started : os.Started) (H : Type) (enc : TypeId × Value → H) :
    ReturnsInHanded {} Try.checked os 7 .any (Rows.queueAllSpec.pre6 enc Try.prog Try.f7 Rows.queueAllRow.domain false) (Rows.queueAllSpec.post enc Try.prog Try.f7 false true false false) := by
  refine returnsInHanded_of_change_sized (C := Try.checked) own started (by kernel_rfl) Try.func7
    (ChangeSpec.witness6 (enc := enc) (C := Try.checked) false ⟨#[], #[.slice none 0 0, .slice none 0 0], []⟩ 8 (by kernel_rfl) (by kernel_rfl) (by kernel_rfl) (by kernel_rfl)) ?_
  intro W base args ds gs before hval0 hW hcnd hsz0 _
  have hval : ∀ (j : Nat) t v, Try.f7.params[j]? = some t → args[j]? = some v → Value.okWide Try.prog W .any base t v := hval0
  have hW' := hW
  obtain ⟨p, q, hA0, hV, rfl, hfz, hnd⟩ := hW
  have hA : DataW.TrodAll enc Try.prog W 0 (fun _ => true) true Try.f7.params.toList args.toList ds p := hA0
  rw [Try.params7] at hA hval
  obtain ⟨v0, vs0, d0, ds0, p0, q0, hargs, rfl, rfl, h0, r0⟩ := trodAll_cons hA
  obtain ⟨v1, vs1, d1, ds1, p1, q1, rfl, rfl, rfl, h1, r1⟩ := trodAll_cons r0
  obtain ⟨rfl, rfl, rfl⟩ := trodAll_nil r1
  obtain rfl : args = #[v0, v1] := by cases args; simp_all
  obtain ⟨rfl, rfl⟩ := trodVars_none hV
  have lt0 : ∀ x ∈ p0, x.block < W.heap.size := by obtain ⟨m, hm⟩ := h0; exact DataW.trod_lt m _ _ _ hm
  have lt1 : ∀ x ∈ p1, x.block < W.heap.size := by obtain ⟨m, hm⟩ := h1; exact DataW.trod_lt m _ _ _ hm
  clear hA0 hval0 hsz0
  refine (QueueAll_walk W (hval 0 50 v0 rfl rfl) h0 (hval 1 58 v1 rfl rfl) h1).mono fun e W' ⟨he, bel⟩ => ?_
  subst he
  exact ⟨_, rfl, _, _, _, [], _, [], hW', trodAll_mk1 (shut_bool Try.underlying4 _), (trodAll_cons_mk (Below.trod laidOut (by kernel_rfl) (of_decide_eq_true (by kernel_rfl)) h0 bel lt0) (trodAll_cons_mk (Below.trod laidOut (by kernel_rfl) (of_decide_eq_true (by kernel_rfl)) h1 bel lt1) trodAll_mk0)), rfl, bel.frame _, fun h => (by cases h)⟩
theorem over : Rows.queueAllRow.holds Try.pinned (OpenSpec.ofChange Rows.queueAllSpec) :=
  OpenClaim.holds_of_wide 7 Try.f7 rfl rfl rfl rfl rfl rfl rfl ⟨rfl, rfl, rfl, rfl, rfl⟩ rfl rfl rfl rfl rfl (by kernel_rfl) Try.func7 (by kernel_rfl)
    (of_decide_eq_true (by kernel_rfl)) (by unfold Func.isWrapper; first | (rw [if_pos (by decide +kernel)]; kernel_rfl) | (rw [if_neg (by decide +kernel)]; exact ⟨rfl, rfl⟩))
    (fun os started H enc _ => lifted os started H enc)
end queueAll
/-- The row. -/
theorem queueAll_holds : Rows.QueueAllSaid := queueAll.over
#print axioms queueAll_holds
end Go.Proofs.Ytedogccbndjdpaa
