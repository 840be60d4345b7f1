/- Part 10 of the proof of seqExact_holds: what it rests on. -/
import Derived.Test.YtckdofjpoajblaaGreatZa9
namespace Go.Proofs.YtckdofjpoajblaaGreat
open Go.RowKit Bs
set_option linter.unusedVariables false
def Bs.left (a d t : BitVec 8) : List Nat := Bs.all ((t &&& ~~~d) &&& ~~~a)
set_option maxRecDepth 100000 in
theorem left_any (w : World) (N : Nat) (T : TypeId) (v0 : Value) (a d t : BitVec 8) (hN : w.heap[N]? = some (.cells #[v0, sv8 a, sv8 d, sv8 t] T (0, 0))) :
    Calls Tryz.prog 127 #[.pointer (some ⟨N, 0, none⟩)] w fun x w' => ∃ A cap, x = .returned (.slice A (natI (Bs.left a d t)).length cap) ∧ IntsAt w w' A cap (natI (Bs.left a d t)) ∧ Below w.heap.size w w' := by
  have hc : ∀ u, Below w.heap.size w u → u.cell? ⟨N, 1, none⟩ = some (.int .u8 (a.toNat : Int)) ∧ u.cell? ⟨N, 2, none⟩ = some (.int .u8 (d.toNat : Int)) ∧ u.cell? ⟨N, 3, none⟩ = some (.int .u8 (t.toNat : Int)) ∧ N < u.heap.size := fun u hu => by
    have h := (hu.block N (blk_lt hN)).trans hN
    exact ⟨cell_blk h 1, cell_blk h 2, cell_blk h 3, blk_lt h⟩
  have e1 := andNot_u8 t d
  have e2 := andNot_u8 (t &&& ~~~d) a
  unfold Bs.left
  have hall := fun u => setAll_any u ((t &&& ~~~d) &&& ~~~a)
  obtain ⟨r, hr⟩ : ∃ r, r = (t &&& ~~~d) &&& ~~~a := ⟨_, rfl⟩
  rw [← hr] at e2 hall ⊢
  obtain ⟨m, hm⟩ : ∃ m, m = t &&& ~~~d := ⟨_, rfl⟩
  rw [← hm] at e1 e2
  obtain ⟨q, hq⟩ : ∃ q, q = (natI (Bs.all r)).length := ⟨_, rfl⟩
  simp only [← hq] at hall
  rw [← hq]
  unfold sv8 at hall
  have HC := Lib.hid hc
  have HALL := Lib.hid hall
  obtain ⟨D, hD⟩ : ∃ z, z = w.drew := ⟨_, rfl⟩
  have HD : Hid (Below w.heap.size w D) := Lib.hid (by rw [hD]; exact (Below.refl _ _).drew)
  clear hc hall hr hm hq hN
  go_enter Tryz.func127, Tryz.ntmps127
  go_upto_region 1 with fail
  refine wp_region_planF (by kernel_rfl) (fun u => Below w.heap.size w u) [14] [(0, .pure), (1, .pure), (2, .pure), (3, .load), (4, .pure), (5, .pure), (6, .pure), (7, .load), (8, .pure), (9, .pure), (10, .pure), (11, .pure), (12, .load), (13, .pure), (14, .last), (15, .pure)] (by simp only [List.map_cons, List.map_nil, List.getElem?_toArray, List.getElem?_cons_succ, List.getElem?_cons_zero]; rfl) (by kernel_rfl) (fun _ _ d _ _ h => by cases d <;> exact h) ((Below.refl _ _).drew) ?_
  rw [← hD]
  clear hD
  repeat (first
    | (refine plan_pure (v := ?_) (by rfl) (fun w1 => ?_) ?_
       rotate_left
       · go_simp <;> with_reducible rfl
       simp only [Act.put, List.setIfInBounds_toArray, List.set_cons_zero, List.set_cons_succ])
    | (refine plan_off (by rfl) ?_
       simp only [Act.put, List.setIfInBounds_toArray, List.set_cons_zero, List.set_cons_succ])
    | (refine plan_load_off (by rfl) ?_
       simp only [Act.put, List.setIfInBounds_toArray, List.set_cons_zero, List.set_cons_succ])
    | (refine plan_load (v := ?_) (by rfl) (fun w1 hw1 => ?_) ?_
       rotate_left
       · (have qq := HC.out w1 hw1
          obtain ⟨q0, q1, q2, q3⟩ := qq
          clear hw1
          go_simp <;> with_reducible rfl)
       simp only [Act.put, List.setIfInBounds_toArray, List.set_cons_zero, List.set_cons_succ]))
  refine plan_last ?_
  try rw [e1]
  try rw [e2]
  go_wp2_with fail
  refine (HALL.out D).mono ?_
  rintro y w2 ⟨A, c, rfl, ⟨hi, hf⟩, b2⟩
  have H2 := Lib.hid (And.intro hi (And.intro hf b2))
  clear hi hf b2
  go_wp2_with fail
  repeat (first
    | (refine plan_pure (v := ?_) (by rfl) (fun w1 => ?_) ?_
       rotate_left
       · go_simp <;> with_reducible rfl
       simp only [Act.put, List.setIfInBounds_toArray, List.set_cons_zero, List.set_cons_succ])
    | (refine plan_off (by rfl) ?_
       simp only [Act.put, List.setIfInBounds_toArray, List.set_cons_zero, List.set_cons_succ])
    | (refine plan_load_off (by rfl) ?_
       simp only [Act.put, List.setIfInBounds_toArray, List.set_cons_zero, List.set_cons_succ])
    | (refine plan_load (v := ?_) (by rfl) (fun w1 hw1 => ?_) ?_
       rotate_left
       · (skip
          clear hw1
          go_simp <;> with_reducible rfl)
       simp only [Act.put, List.setIfInBounds_toArray, List.set_cons_zero, List.set_cons_succ]))
  refine plan_end ?_
  go_wp2_with fail
  go_ret
  exact ⟨A, c, rfl, ⟨H2.out.1, fun a ha => Nat.le_trans HD.out.size (H2.out.2.1 a ha)⟩, below_at HD.out H2.out.2.2⟩
def idxF (p : Nat → Bool) (L : List Nat) : Int := match L.findIdx? p with | some i => (i : Int) | none => -1
theorem idxF_none {p : Nat → Bool} {L : List Nat} (h : ∀ x ∈ L, p x = false) : idxF p L = -1 := by
  unfold idxF
  rw [List.findIdx?_eq_none_iff.2 h]
theorem idxF_some {p : Nat → Bool} {L : List Nat} {i x : Nat} (hx : L[i]? = some x) (hp : p x = true) (h : ∀ y ∈ L.take i, p y = false) : idxF p L = (i : Int) := by
  have : L.findIdx? p = some i := by
    rw [List.findIdx?_eq_some_iff_getElem]
    obtain ⟨hi, rfl⟩ := List.getElem?_eq_some_iff.1 hx
    refine ⟨hi, hp, fun j hj => ?_⟩
    have := h L[j] (by rw [List.mem_take_iff_getElem]; exact ⟨j, by omega, rfl⟩)
    simp [this]
  unfold idxF
  rw [this]
set_option maxRecDepth 100000 in
set_option maxHeartbeats 4000000 in
theorem idxHas_any (w : World) (A : Option Addr) (cap : Nat) (L : List Nat) (a : BitVec 8) (hr : Rd w 1 A L.length (L.map fun (t : Nat) => Value.int .i64 (t : Int))) (hl : L.length ≤ 100000) :
    Calls Tryz.prog 166 #[.slice A L.length cap, .func (.func 124) #[sv8 a] #[]] w fun x w' => x = .returned (.int .i64 (idxF (has a) L)) ∧ w = w' := by
  obtain ⟨n, hn⟩ : ∃ n, n = L.length := ⟨_, rfl⟩
  obtain ⟨r, hres⟩ : ∃ r, r = idxF (has a) L := ⟨_, rfl⟩
  rw [← hn] at hr hl ⊢
  rw [← hres]
  have HR := Lib.hid hr
  have HN := Lib.hid hn
  have HRES := Lib.hid hres
  unfold sv8
  clear hr hn hres
  go_enter Tryz.func166, Tryz.ntmps166
  go_wp2_with fail
  go_loopw [8] (fun v wr => ∃ i : Nat, i ≤ n ∧ v = .int .i64 i ∧ Hid (∀ x ∈ L.take i, has a x = false) ∧ wr = w) (fun v _ => n - (intOf v).toNat)
  case atStart => exact ⟨0, Nat.zero_le _, rfl, Lib.hid (fun x hx => by simp at hx), rfl⟩
  case round =>
    obtain ⟨i, hi, rfl, HNO, rfl⟩ := hrel
    rename World => w
    by_cases hlt : i < n
    · obtain ⟨t, ht⟩ := get_some (show i < L.length by rw [← HN.out]; exact hlt)
      obtain ⟨g, o, rfl, hg, hc⟩ := HR.out.2 (by omega)
      have h1 := hc i (by omega)
      rw [List.getElem?_map, ht] at h1
      simp only [Option.map_some] at h1
      have hcall := has_any w a t
      unfold sv8 at hcall
      obtain ⟨b, hb⟩ : ∃ b, b = has a t := ⟨_, rfl⟩
      rw [← hb] at hcall
      have k1 : (0 : Int) ≤ (i : Int) := Int.natCast_nonneg _
      have k2 : (i : Int) < (n : Int) := by omega
      have HCALL := Lib.hid hcall
      have HB := Lib.hid hb
      have HT := Lib.hid ht
      clear hcall hb ht hc
      go_wp2_with fail
      refine HCALL.out.mono ?_
      rintro y w1 ⟨rfl, rfl⟩
      cases b with
      | true =>
        have hr : r = (i : Int) := by rw [HRES.out]; exact idxF_some HT.out HB.out.symm HNO.out
        subst hr
        go_wp2_with fail
        go_ret
        exact ⟨rfl, rfl⟩
      | false =>
        go_wp2_with fail
        go_roundw
        case rel => exact ⟨i + 1, by omega, by go_num, Lib.hid (fun z hz => by
          rw [List.take_add_one, HT.out] at hz
          rcases List.mem_append.1 hz with h | h
          · exact HNO.out z h
          · simp at h; subst h; exact HB.out.symm), by first | rfl | trivial⟩
        case measure => simp [intOf]; omega
    · obtain rfl : i = n := by omega
      have hr : r = -1 := by
        rw [HRES.out]
        refine idxF_none fun x hx => HNO.out x ?_
        rw [List.take_of_length_le (by rw [← HN.out]; exact Nat.le_refl _)]
        exact hx
      subst hr
      have k4 : ¬ (i : Int) < (i : Int) := by omega
      go_wp2_with fail
      go_ret
      exact ⟨rfl, rfl⟩
end Go.Proofs.YtckdofjpoajblaaGreat
namespace Go.Proofs.YtckdofjpoajblaaGreat
open Go.RowKit Bs
set_option linter.unusedVariables false
def valT (t : Nat) : Value := .int .i64 (t : Int)
def freeOf (a : BitVec 8) (L : List Nat) : List Nat := L.filter fun t => !has a t
theorem freeOf_take {a : BitVec 8} {L : List Nat} {j t : Nat} (h : L[j]? = some t) : freeOf a (L.take (j + 1)) = if has a t = true then freeOf a (L.take j) else freeOf a (L.take j) ++ [t] := by
  unfold freeOf
  rw [List.take_add_one, h, List.filter_append]
  cases hh : has a t <;> simp [hh]
theorem freeOf_same {a : BitVec 8} {L : List Nat} (h : ∀ x ∈ L, has a x = false) : freeOf a L = L := List.filter_eq_self.2 fun x hx => by rw [h x hx]; rfl
theorem idxF_cases (p : Nat → Bool) (L : List Nat) : (idxF p L = -1 ∧ ∀ x ∈ L, p x = false) ∨ ∃ (i t : Nat), idxF p L = (i : Int) ∧ L[i]? = some t ∧ p t = true ∧ ∀ y ∈ L.take i, p y = false := by
  by_cases h : ∃ x ∈ L, p x = true
  · right
    cases hf : L.findIdx? p with
    | none =>
      rw [List.findIdx?_eq_none_iff] at hf
      obtain ⟨x, hx, hp⟩ := h
      rw [hf x hx] at hp
      cases hp
    | some i =>
      have h1 := hf
      rw [List.findIdx?_eq_some_iff_getElem] at h1
      obtain ⟨hi, hp, hall⟩ := h1
      refine ⟨i, L[i], by unfold idxF; rw [hf], List.getElem?_eq_getElem hi, hp, fun y hy => ?_⟩
      rw [List.mem_take_iff_getElem] at hy
      obtain ⟨j, hj, rfl⟩ := hy
      have := hall j (by omega)
      simpa using this
  · left
    have h' : ∀ x ∈ L, p x = false := fun x hx => by
      cases hp : p x with
      | false => rfl
      | true => exact (h ⟨x, hx, hp⟩).elim
    exact ⟨idxF_none h', h'⟩
theorem Row.behind {w : World} {e g o i cap : Nat} {cs : List Value} (h : Row w e 1 (some ⟨g, o, none⟩) i cap cs) (vs : List Value) (hv : i + vs.length ≤ cap) : Row (w.setCells g (o + i) vs) e 1 (some ⟨g, o, none⟩) i cap cs := by
  obtain ⟨h1, h2, h3, h4, h5⟩ := h
  refine ⟨h1, h2, h3, h4, fun a ha => ?_⟩
  injection ha with ha
  subst ha
  obtain ⟨hs, cur, hc, hsz, ht⟩ := h5 _ rfl
  simp only at hs hc hsz ht
  obtain ⟨cur', hc', hs', hg⟩ := setCells_blk vs (o + i) w cur hc (by omega)
  refine ⟨rfl, cur', hc', by simp only; omega, ?_⟩
  simp only
  rw [← ht]
  apply List.ext_getElem?
  intro q
  simp only [List.getElem?_take, List.getElem?_drop]
  by_cases hq : q < i * 1
  · simp only [if_pos hq]
    rw [hg, if_neg (by omega)]
  · simp only [if_neg hq]
set_option maxRecDepth 100000 in
set_option maxHeartbeats 4000000 in
theorem deleteHas_any (w : World) (A : Option Addr) (cap : Nat) (L : List Nat) (a : BitVec 8) (hr : Row w 3 1 A L.length cap (L.map valT)) (hl : L.length ≤ 1000) :
    Calls Tryz.prog 123 #[.slice A L.length cap, .func (.func 124) #[sv8 a] #[]] w fun x w' => x = .returned (.slice A (freeOf a L).length cap) ∧ Row w' 3 1 A (freeOf a L).length cap ((freeOf a L).map valT) ∧ Mod (fun q => ∃ b, A = some b ∧ q = b.block) w w' := by
  have hidx := idxHas_any w A cap L a hr.rd (by omega)
  obtain ⟨n, hn⟩ : ∃ n, n = L.length := ⟨_, rfl⟩
  obtain ⟨F, hF⟩ : ∃ F, F = freeOf a L := ⟨_, rfl⟩
  rw [← hF]
  rcases idxF_cases (has a) L with ⟨hm, hno⟩ | ⟨i0, t0, hm, ht0, hp0, hno⟩
  · have hFL : F = L := by rw [hF]; exact freeOf_same hno
    rw [hFL]
    rw [hm] at hidx
    rw [← hn] at hidx hr hl ⊢
    have HI := Lib.hid hidx
    have HR := Lib.hid hr
    unfold sv8 at HI ⊢
    clear hidx hr hm hno hF hFL hn
    go_enter Tryz.func123, Tryz.ntmps123
    go_wp2_with fail
    refine HI.out.mono ?_
    rintro y w1 ⟨rfl, rfl⟩
    go_wp2_with fail
    go_ret
    exact ⟨rfl, HR.out, Mod.refl _ _⟩
  · rw [hm] at hidx
    have hi0 : i0 < n := by rw [hn]; exact (List.getElem?_eq_some_iff.1 ht0).1
    obtain ⟨g, o, rfl⟩ := hr.some_of_pos (by have := hr.2.1; omega)
    have hst : freeOf a (L.take (i0 + 1)) = L.take i0 := by rw [freeOf_take ht0, if_pos hp0]; exact freeOf_same hno
    rw [← hn] at hidx hr hl ⊢
    have hcap := hr.2.1
    have hcm := hr.2.2.1
    have HI := Lib.hid hidx
    have HR := Lib.hid hr
    have HN := Lib.hid hn
    have HF := Lib.hid hF
    have HST := Lib.hid hst
    unfold sv8 at HI ⊢
    clear hidx hr hm hno hF hn hst ht0 hp0
    have k0 : ¬ (i0 : Int) = -1 := by omega
    have k0b : ((i0 : Int) == -1) = false := beq_eq_false_iff_ne.2 k0
    go_enter Tryz.func123, Tryz.ntmps123
    go_wp2_with fail
    refine HI.out.mono ?_
    rintro y w1 ⟨rfl, rfl⟩
    rename World => w
    clear HI
    go_wp2_with fail
    go_loopw [5, 6] (fun v5 v6 wr => ∃ (i j : Nat) (M : List Nat), i < j ∧ j ≤ n ∧ v5 = .int .i64 i ∧ v6 = .int .i64 j ∧ Hid (M.length = n ∧ M.take i = freeOf a (L.take j) ∧ M.drop j = L.drop j ∧ i = (freeOf a (L.take j)).length) ∧ Hid (Row wr 3 1 (some ⟨g, o, none⟩) n cap (M.map valT)) ∧ Hid (Mod (fun q => q = g) w wr)) (fun _ v6 _ => n - (intOf v6).toNat)
    case atStart => exact ⟨i0, i0 + 1, L, by omega, by omega, rfl, by go_num, Lib.hid ⟨HN.out.symm, HST.out.symm, rfl, by rw [HST.out, List.length_take, ← HN.out]; omega⟩, HR, Lib.hid (Mod.refl _ _)⟩
    case round =>
      clear HR
      obtain ⟨i, j, M, hij, hj, rfl, rfl, HM, HR, HMO⟩ := hrel
      rename World => V
      by_cases hlt : j < n
      · obtain ⟨t, ht⟩ := get_some (show j < L.length by rw [← HN.out]; exact hlt)
        have hMt : M[j]? = some t := by
          have h1 : (M.drop j)[0]? = (L.drop j)[0]? := by rw [HM.out.2.2.1]
          rw [List.getElem?_drop, List.getElem?_drop, Nat.add_zero] at h1
          rw [h1, ht]
        have hcell := HR.out.cell j (by omega)
        rw [List.getElem?_map, hMt] at hcell
        have hci := HR.out.cell i (by omega)
        obtain ⟨ti, hti⟩ := get_some (show i < M.length by rw [HM.out.1]; omega)
        rw [List.getElem?_map, hti] at hci
        simp only [Option.map_some, valT] at hcell hci
        have hgl := HR.out.lt
        have hfz := HR.out.free (o + i)
        have hcall := has_any V a t
        unfold sv8 at hcall
        obtain ⟨b, hb⟩ : ∃ b, b = has a t := ⟨_, rfl⟩
        have hft := freeOf_take (a := a) ht
        rw [← hb] at hcall hft
        have hset := HR.out.set i (by omega) (.int .i64 (t : Int))
        have hms : Mod (fun q => q = g) w (V.setCell ⟨g, o + i, none⟩ (.int .i64 (t : Int))) := HMO.out.setCell (p := ⟨g, o + i, none⟩) (fun _ => rfl) _
        have k1 : (0 : Int) ≤ (i : Int) := Int.natCast_nonneg _
        have k2 : (j : Int) < (n : Int) := by omega
        have k3 : (0 : Int) ≤ (j : Int) := Int.natCast_nonneg _
        have k5 : (i : Int) < (n : Int) := by omega
        have HCALL := Lib.hid hcall
        have HFT := Lib.hid hft
        have HSET := Lib.hid hset
        have HMS := Lib.hid hms
        have HTT := Lib.hid ht
        clear hcall hft hset hms ht hMt hti hb
        go_wp2_with fail
        refine HCALL.out.mono ?_
        rintro y w1 ⟨rfl, rfl⟩
        cases b with
        | true =>
          have hft := HFT.out
          rw [if_pos rfl] at hft
          have HFT2 := Lib.hid hft
          clear hft
          go_wp2_with fail
          go_roundw
          case rel => exact ⟨i, j + 1, M, by omega, by omega, rfl, by go_num, Lib.hid ⟨HM.out.1, by rw [HFT2.out]; exact HM.out.2.1, by rw [← List.drop_drop, ← List.drop_drop, HM.out.2.2.1], by rw [HFT2.out]; exact HM.out.2.2.2⟩, HR, HMO⟩
          case measure => simp [intOf]; omega
        | false =>
          have hft := HFT.out
          rw [if_neg (by simp)] at hft
          have HFT2 := Lib.hid hft
          clear hft
          go_wp2_with fail
          go_roundw
          case rel =>
            refine ⟨i + 1, j + 1, M.set i t, by omega, by omega, by go_num, by go_num, Lib.hid ⟨?_, ?_, ?_, ?_⟩, Lib.hid ?_, HMS⟩
            · rw [List.length_set]; exact HM.out.1
            · rw [HFT2.out, ← HM.out.2.1, List.take_add_one, List.getElem?_set_self (by rw [HM.out.1]; omega), List.take_set, List.set_eq_of_length_le (by rw [List.length_take]; omega)]
              rfl
            · rw [List.drop_set_of_lt (by omega), ← List.drop_drop, ← List.drop_drop, HM.out.2.2.1]
            · rw [HFT2.out, List.length_append, ← HM.out.2.2.2]; rfl
            · have h1 := HSET.out
              rw [show (Value.int IntKind.i64 (t : Int)) = valT t from rfl, ← List.map_set] at h1
              exact h1
          case measure => simp [intOf]; omega
      · obtain rfl : j = n := by omega
        have hfi : i = F.length := by rw [HF.out, HM.out.2.2.2, List.take_of_length_le (by rw [← HN.out]; exact Nat.le_refl _)]
        have hMF : M.take i = F := by rw [HM.out.2.1, HF.out, List.take_of_length_le (by rw [← HN.out]; exact Nat.le_refl _)]
        have hrow := HR.out
        have hgl := hrow.lt
        have hcl := fun ty => Lib.run_clear_slice (P := Tryz.prog) V 32 3 ty (.int .i64 0) Tryz.underlying32 (fun w => rfl) rfl rfl g (o + i) (j - i) (cap - i) (by omega) (fun q hq => by
          rw [show o + i + q = o + (i + q) by omega, hrow.cell (i + q) (by omega)]
          rw [List.getElem?_eq_getElem (by rw [List.length_map, HM.out.1]; omega)]; rfl) (fun q hq => hrow.free _)
        have k1 : (0 : Int) ≤ (i : Int) := Int.natCast_nonneg _
        have k2 : (i : Int) ≤ (j : Int) := by omega
        have k3 : (j : Int) ≤ (cap : Int) := by omega
        have k4 : ¬ (j : Int) < (j : Int) := by omega
        have k6 : (i : Int) ≤ (cap : Int) := by omega
        have k7 : i ≤ j := by omega
        have hcs : Row V 3 1 (some ⟨g, o, none⟩) i cap (F.map valT) := by
          have := hrow.take (k := i) (by omega)
          rw [Nat.mul_one, ← List.map_take, hMF] at this
          exact this
        have HCS := Lib.hid hcs
        have HFI := Lib.hid (And.intro hfi hMF)
        have HROW := Lib.hid hrow
        clear hcs hfi hMF hrow
        go_wp2_with fail
        go_ret
        rw [← HFI.out.1]
        exact ⟨rfl, HCS.out.behind _ (by rw [List.length_replicate]; omega), HMO.out.trans (setCells_mod g _ (o + i) V)⟩
end Go.Proofs.YtckdofjpoajblaaGreat
namespace Go.Proofs.YtckdofjpoajblaaGreat
set_option linter.unusedVariables false
structure Tree {σ : Type} (S : Sys σ) (s0 : σ) where
  node : List Ev → Prop
  dn : List Ev → List Ev
  slp : List Ev → Nat → Prop
  root : node []
  pre : ∀ {z e}, node (z ++ [e]) → node z ∧ e ∈ dn z
  can : ∀ {z e}, node z → e ∈ dn z → S.en (S.aft s0 z) e.t.toNat = true ∧ S.next (S.aft s0 z) e.t.toNat = some e ∧ ¬ slp z e.t.toNat
  slp0 : ∀ q, ¬ slp [] q
  slpK : ∀ {z e a b q}, node z → dn z = a ++ e :: b → node (z ++ [e]) → (slp (z ++ [e]) q ↔ (slp z q ∨ ∃ f ∈ a, f.t.toNat = q) ∧ ∃ f, S.next (S.aft s0 z) q = some f ∧ Fo.dep f e = false)
structure Tree.Closed {σ : Type} {S : Sys σ} {s0 : σ} (T : Tree S s0) : Prop where
  kid : ∀ {z e}, T.node z → e ∈ T.dn z → T.node (z ++ [e])
  pick : ∀ {z q}, T.node z → S.en (S.aft s0 z) q = true → ¬ T.slp z q → T.dn z ≠ []
  race : ∀ {z q e i}, T.node z → S.next (S.aft s0 z) q = some e → Fo.RaceAt z i e → ∀ t, S.en (S.aft s0 (z.take i)) t = true → T.slp (z.take i) t ∨ ∃ f ∈ T.dn (z.take i), f.t.toNat = t
namespace Tree
variable {σ : Type} {S : Sys σ} {s0 : σ} (T : Tree S s0)
theorem pre_app {z : List Ev} : ∀ u : List Ev, T.node (z ++ u) → T.node z := by
  intro u
  refine Fo.snoc_ind (p := fun u => T.node (z ++ u) → T.node z) (fun h => by simpa using h) (fun l e ih h => ?_) u
  rw [← List.append_assoc] at h
  exact ih (T.pre h).1
theorem way (z : List Ev) (h : T.node z) : S.Can s0 z := by
  revert h
  refine Fo.snoc_ind (p := fun z => T.node z → S.Can s0 z) (fun _ => trivial) (fun l e ih h => ?_) z
  obtain ⟨h1, h2⟩ := T.pre h
  obtain ⟨h3, h4, _⟩ := T.can h1 h2
  exact S.can_app.2 ⟨ih h1, h3, h4, trivial⟩
theorem aft_snoc (z : List Ev) (e : Ev) : S.aft s0 (z ++ [e]) = S.step (S.aft s0 z) e.t.toNat := by rw [S.aft_app]; rfl
theorem slp_kid (hs : S.ok s0) {z a b : List Ev} {e f : Ev} {q : Nat} (hz : T.node z) (hk : T.node (z ++ [e])) (hab : T.dn z = a ++ e :: b) (hq : T.slp (z ++ [e]) q) (hn : S.next (S.aft s0 (z ++ [e])) q = some f) :
    (T.slp z q ∨ ∃ g ∈ a, g.t.toNat = q) ∧ S.next (S.aft s0 z) q = some f ∧ Fo.dep f e = false := by
  obtain ⟨h1, g, hg, hd⟩ := (T.slpK hz hab hk).1 hq
  obtain ⟨h3, h4, _⟩ := T.can hz (e := e) (by rw [hab]; simp)
  rw [aft_snoc, S.stay (S.can_ok hs (T.way z hz)) h3 (fun e1 => by
    have a1 := S.nextT hg
    have a2 := S.nextT h4
    rw [Fo.dep_thread (by omega)] at hd; cases hd), hg] at hn
  injection hn with hn
  subst hn
  exact ⟨h1, hg, hd⟩
theorem split_dep (p : Ev) : ∀ w : List Ev, (∀ x ∈ w, Fo.dep x p = false) ∨ ∃ a e b, w = a ++ e :: b ∧ (∀ x ∈ a, Fo.dep x p = false) ∧ Fo.dep e p = true
  | [] => .inl fun x hx => by cases hx
  | e :: w => by
    cases he : Fo.dep e p with
    | true => exact .inr ⟨[], e, w, rfl, fun x hx => (by cases hx), he⟩
    | false =>
      rcases split_dep p w with h | ⟨a, x, b, rfl, ha, hx⟩
      · refine .inl fun x hx => ?_
        rcases List.mem_cons.1 hx with rfl | hx
        · exact he
        · exact h x hx
      · refine .inr ⟨e :: a, x, b, rfl, fun y hy => ?_, hx⟩
        rcases List.mem_cons.1 hy with rfl | hy
        · exact he
        · exact ha y hy
theorem cover (hs : S.ok s0) (C : T.Closed) : ∀ (n : Nat) (z w : List Ev), S.fuel (S.aft s0 z) ≤ n → T.node z → S.Can (S.aft s0 z) w → (∀ q f, T.slp z q → S.next (S.aft s0 z) q = some f → ¬ Fo.Ini f w) → ∃ u v, T.node (z ++ u) ∧ Fo.Eqv u (w ++ v) := by
  intro n
  induction n with
  | zero =>
    intro z w hf hz hw _
    cases w with
    | nil => exact ⟨[], [], by simpa using hz, .refl _⟩
    | cons e w => have := S.fuelS (S.can_ok hs (T.way z hz)) hw.1; omega
  | succ n ih =>
    intro z w hf hz hw hsl
    have hok := S.can_ok hs (T.way z hz)
    cases hwe : w with
    | nil => exact ⟨[], [], by simpa using hz, .refl _⟩
    | cons e0 w0 =>
      have hi0 : Fo.Ini e0 w := by rw [hwe]; exact Fo.Ini.head _ _
      have hw0 := hw
      rw [hwe] at hw0
      have hns0 : ¬ T.slp z e0.t.toNat := fun h => hsl _ e0 h hw0.2.1 hi0
      have hdn := C.pick hz hw0.1 hns0
      rw [← hwe]
      by_cases hA : ∃ f ∈ T.dn z, Fo.Ini f w
      · -- one of them begins it
        obtain ⟨a, f, b, hab, hfi, hfa⟩ := Fo.first_of hA
        have hmem : f ∈ T.dn z := by rw [hab]; simp
        obtain ⟨h1, h2, _⟩ := T.can hz hmem
        have hk := C.kid hz hmem
        have hmv := hfi.move
        have hc1 := ((S.can_eqv hmv hok).1 hw).1
        have hfu := S.fuelS hok h1
        have haft := aft_snoc (S := S) (s0 := s0) z f
        obtain ⟨u, v, hu, hv⟩ := ih (z ++ [f]) (Fo.del f.t w) (by rw [haft]; omega) hk (by rw [haft]; exact hc1.2.2) (fun q g hq hn hin => by
          obtain ⟨h3, h4, h5⟩ := T.slp_kid hs hz hk hab hq hn
          have hgw : Fo.Ini g w := (Fo.Eqv.ini hmv).2 (by
            simp only [Fo.Ini]
            rw [if_neg (fun e1 => by rw [Fo.dep_thread e1.symm] at h5; cases h5)]
            exact ⟨by rw [Fo.dep_comm]; exact h5, hin⟩)
          rcases h3 with h3 | ⟨g', hg', ht⟩
          · exact hsl q g h3 h4 hgw
          · have hgm : g' ∈ T.dn z := by rw [hab]; exact List.mem_append_left _ hg'
            have h6 := (T.can hz hgm).2.1
            rw [ht, h4] at h6
            injection h6 with h6
            exact hfa g' hg' (by rw [← h6]; exact hgw))
        refine ⟨f :: u, v, by simpa using hu, ?_⟩
        have h6 : Fo.Eqv (f :: u) (f :: (Fo.del f.t w ++ v)) := by simpa using hv.left [f]
        have h7 : Fo.Eqv (f :: (Fo.del f.t w ++ v)) (w ++ v) := by simpa using (hmv.right v).symm
        exact h6.trans h7
      · -- none of them does: no race is seen here
        cases hd : T.dn z with
        | nil => exact (hdn hd).elim
        | cons p b =>
          have hmem : p ∈ T.dn z := by rw [hd]; simp
          obtain ⟨h1, h2, _⟩ := T.can hz hmem
          have hk := C.kid hz hmem
          have hnp : ¬ Fo.Ini p w := fun h => hA ⟨p, hmem, h⟩
          have haft := aft_snoc (S := S) (s0 := s0) z p
          have hfu := S.fuelS hok h1
          have hsl2 : ∀ w', (∀ g, Fo.Ini g w' → Fo.Ini g w) → ∀ q g, T.slp (z ++ [p]) q → S.next (S.aft s0 (z ++ [p])) q = some g → ¬ Fo.Ini g w' := fun w' hin q g hq hn hi => by
            obtain ⟨h3, h4, h5⟩ := T.slp_kid hs hz hk (a := []) hd hq hn
            rcases h3 with h3 | ⟨g', hg', _⟩
            · exact hsl q g h3 h4 (hin g hi)
            · cases hg'
          rcases split_dep p w with hall | ⟨w1, e, w2, hw1, hall, hdep⟩
          · -- it may stand ahead of all
            obtain ⟨g1, g2, g3, g4⟩ := S.can_push hok h1 h2 hw hall
            obtain ⟨u, v, hu, hv⟩ := ih (z ++ [p]) w (by rw [haft]; omega) hk (by rw [haft]; exact g1) (hsl2 w fun g h => h)
            refine ⟨p :: u, p :: v, by simpa using hu, ?_⟩
            have h6 : Fo.Eqv (p :: u) (p :: (w ++ v)) := by simpa using hv.left [p]
            exact h6.trans (Fo.Eqv.front hall v)
          · -- what depends on it comes behind: a race
            refine (?_ : False).elim
            rw [hw1] at hw
            obtain ⟨hwA, hwB⟩ := S.can_app.1 hw
            have hep : e.t ≠ p.t := fun h => by
              have g4 := (S.can_push hok h1 h2 hwA hall).2.2.2
              have g5 := hwB.2.1
              rw [h, g4] at g5
              injection g5 with g5
              refine hnp ?_
              rw [hw1, ← g5]
              exact Fo.Ini.far hall _
            obtain ⟨g1, g2, g3, g4⟩ := S.can_push hok h1 h2 hwA hall
            obtain ⟨u, v, hu, hv⟩ := ih (z ++ [p]) w1 (by rw [haft]; omega) hk (by rw [haft]; exact g1) (hsl2 w1 fun g h => by rw [hw1]; exact h.app _)
            have hcu := S.can_app.1 (T.way _ hu)
            have hokp : S.ok (S.aft s0 (z ++ [p])) := S.can_ok hs hcu.1
            have hcv := ((S.can_eqv hv hokp).1 hcu.2).1
            obtain ⟨k, hkd⟩ : ∃ k, k = Fo.cnt_ w1 e.t.toNat := ⟨_, rfl⟩
            have hpt := S.nextT h2
            have het := S.nextT hwB.2.1
            have htt : p.t.toNat ≠ e.t.toNat := fun h => hep (by omega)
            have htold := S.told_of hokp hcv hkd.symm
            have htold2 := (S.told_eqv hv hokp hcu.2).2 htold
            have hnext : S.next (S.aft (S.aft s0 (z ++ [p])) w1) e.t.toNat = some e := by
              rw [haft, g2, S.stay (S.can_ok hok hwA) g3 htt]
              exact hwB.2.1
            obtain ⟨u1, u2, hu12, hcnt⟩ : ∃ a b, u = a ++ b ∧ Fo.cnt_ a e.t.toNat = k := Fo.cnt_cut (by rw [Fo.cnt_perm hv.perm, Fo.cnt_app]; omega)
            have hnx := htold2 u1 u2 hu12 hcnt
            rw [hnext, ← S.aft_app] at hnx
            have hnode : T.node (z ++ [p] ++ u1) := by
              rw [hu12, ← List.append_assoc] at hu
              exact T.pre_app _ hu
            -- p is not known
            have hpos : ∀ x ∈ z ++ [p] ++ u1, 0 ≤ x.t := S.can_pos (T.way _ hnode)
            have hlst := Fo.lastC_spec (z ++ [p] ++ u1) hpos e.t.toNat
            have hc0 : Fo.cnt_ w1 p.t.toNat = 0 := Fo.cnt_none fun x hx h => by
              have hx0 := S.can_pos hwA x hx
              have := hall x hx
              rw [Fo.dep_thread (by omega)] at this; cases this
            have hknown : Fo.lastC (z ++ [p] ++ u1) e.t.toNat p.t.toNat ≤ Fo.cnt_ z p.t.toNat := by
              rcases Nat.eq_zero_or_pos (Fo.cnt_ (z ++ [p] ++ u1) e.t.toNat) with h0 | h0
              · rw [hlst.1 h0]; exact Nat.zero_le _
              · obtain ⟨c, hcm, hct, hcn, hcc⟩ := hlst.2 h0
                rw [hcc]
                have e1 : Fo.cnt_ (z ++ [p] ++ u1) e.t.toNat = Fo.cnt_ (z ++ w1) e.t.toNat := by
                  simp only [Fo.cnt_app, Fo.cnt_cons, if_neg htt, Fo.cnt_nil]; omega
                have hm1 : c ∈ Fo.cl (z ++ [p] ++ u) := by
                  rw [hu12, ← List.append_assoc, Fo.cl_append]
                  have key : ∀ (m : List Ev) (L : List Fo.Ent), c ∈ L → c ∈ Fo.ents_ L m := by
                    intro m
                    induction m with
                    | nil => intro L h; exact h
                    | cons x m ihm => intro L h; exact ihm _ (List.mem_append_left _ h)
                  exact key _ _ hcm
                have hm2 : c ∈ Fo.cl (z ++ w1 ++ (p :: v)) := by
                  have hq : Fo.Eqv (z ++ [p] ++ u) (z ++ w1 ++ (p :: v)) := by
                    have q1 := hv.left (z ++ [p])
                    have q2 := (Fo.Eqv.front hall v).left z
                    exact .trans q1 (by simpa using q2)
                  exact (Fo.eqv_cl hq).mem_iff.1 hm1
                have hcan2 : S.Can s0 (z ++ w1) := S.can_app.2 ⟨T.way z hz, hwA⟩
                have hpos2 : ∀ x ∈ z ++ w1, 0 ≤ x.t := S.can_pos hcan2
                have hok2 := Fo.clkOk (z ++ w1) hpos2
                obtain ⟨c', hm3, hct', hcn'⟩ := hok2.last e.t.toNat (by omega)
                have hm4 : c' ∈ Fo.cl (z ++ w1 ++ (p :: v)) := by
                  rw [Fo.cl_append]
                  have key : ∀ (m : List Ev) (L : List Fo.Ent), c' ∈ L → c' ∈ Fo.ents_ L m := by
                    intro m
                    induction m with
                    | nil => intro L h; exact h
                    | cons x m ihm => intro L h; exact ihm _ (List.mem_append_left _ h)
                  exact key _ _ hm3
                have hpos3 : ∀ x ∈ z ++ w1 ++ (p :: v), 0 ≤ x.t := by
                  have hq : Fo.Eqv (z ++ [p] ++ u) (z ++ w1 ++ (p :: v)) := by
                    have q1 := hv.left (z ++ [p])
                    have q2 := (Fo.Eqv.front hall v).left z
                    exact .trans q1 (by simpa using q2)
                  exact S.can_pos ((S.can_eqv hq hs).1 (T.way _ hu)).1
                have heq : c = c' := by
                  refine Fo.cl_one hpos3 hm2 hm4 ⟨?_, by rw [hcn, hcn', e1]⟩
                  have a1 := Fo.cl_t hpos3 hm2
                  have a2 := Fo.cl_t hpos3 hm4
                  omega
                subst heq
                have := hok2.le c hm3 p.t.toNat
                rw [Fo.cnt_app, hc0] at this
                exact this
            have hrace : Fo.RaceAt (z ++ [p] ++ u1) z.length e := by
              refine ⟨p, by simp, fun h => hep h.symm, by rw [Fo.dep_comm]; exact hdep, ?_⟩
              have e2 : (z ++ [p] ++ u1).take (z.length + 1) = z ++ [p] := by
                rw [List.take_append_of_le_length (by simp)]
                exact List.take_of_length_le (by simp)
              rw [e2]
              have : Fo.cnt_ (z ++ [p]) p.t.toNat = Fo.cnt_ z p.t.toNat + 1 := by rw [Fo.cnt_snoc, if_pos rfl]
              omega
            have htake : (z ++ [p] ++ u1).take z.length = z := by rw [List.append_assoc, List.take_left]
            have := C.race hnode hnx hrace e0.t.toNat (by rw [htake]; exact hw0.1)
            rw [htake] at this
            rcases this with h | ⟨f, hf, hft⟩
            · exact hns0 h
            · have h6 := (T.can hz hf).2.1
              rw [hft, hw0.2.1] at h6
              injection h6 with h6
              exact hA ⟨f, hf, by rw [← h6]; exact hi0⟩
theorem asleep (hs : S.ok s0) : ∀ (r z : List Ev) (q : Nat) (f : Ev), T.slp z q → S.next (S.aft s0 z) q = some f → T.node (z ++ r) → Fo.Ini f r → False
  | [], z, q, f, _, _, _, hi => hi
  | x :: r, z, q, f, hq, hn, hz, hi => by
    have hz' : T.node (z ++ [x] ++ r) := by simpa using hz
    have hzx := T.pre_app _ hz'
    obtain ⟨h1, h2⟩ := T.pre hzx
    obtain ⟨h3, h4, h5⟩ := T.can h1 h2
    simp only [Fo.Ini] at hi
    have hft := S.nextT hn
    by_cases hx : x.t = f.t
    · rw [if_pos hx] at hi
      subst hi
      exact h5 (by rw [hft, Int.toNat_natCast]; exact hq)
    · rw [if_neg hx] at hi
      obtain ⟨a, b, hab⟩ := List.append_of_mem h2
      have hsl : T.slp (z ++ [x]) q := (T.slpK h1 hab hzx).2 ⟨.inl hq, f, hn, by rw [Fo.dep_comm]; exact hi.1⟩
      refine asleep hs r (z ++ [x]) q f hsl ?_ hz' hi.2
      rw [aft_snoc, S.stay (S.can_ok hs (T.way z h1)) h3 (fun e1 => hx (by have := S.nextT h4; omega))]
      exact hn
theorem once (hs : S.ok s0) : ∀ (r1 r2 z : List Ev), T.node (z ++ r1) → T.node (z ++ r2) → Fo.Eqv r1 r2 → r1 = r2
  | [], r2, z, _, _, h => by
    have := h.perm.length_eq
    cases r2 with
    | nil => rfl
    | cons _ _ => simp at this
  | e1 :: r1, [], z, _, _, h => by have := h.perm.length_eq; simp at this
  | e1 :: r1, e2 :: r2, z, hz1, hz2, h => by
    have h1 : T.node (z ++ [e1] ++ r1) := by simpa using hz1
    have h2 : T.node (z ++ [e2] ++ r2) := by simpa using hz2
    obtain ⟨a1, a2⟩ := T.pre (T.pre_app _ h1)
    obtain ⟨b1, b2⟩ := T.pre (T.pre_app _ h2)
    obtain ⟨a3, a4, a5⟩ := T.can a1 a2
    obtain ⟨b3, b4, b5⟩ := T.can b1 b2
    by_cases he : e1 = e2
    · subst he
      rw [once hs r1 r2 (z ++ [e1]) h1 h2 h.tail]
    · have htt : e1.t ≠ e2.t := fun ht => he (by rw [ht, b4] at a4; injection a4 with a4; exact a4.symm)
      have key : ∀ {x y : Ev} {r s a b : List Ev}, T.node (z ++ [y] ++ s) → T.dn z = a ++ y :: b → x ∈ a → x.t ≠ y.t → Fo.Eqv (x :: r) (y :: s) → S.next (S.aft s0 z) x.t.toNat = some x → S.next (S.aft s0 z) y.t.toNat = some y → S.en (S.aft s0 z) y.t.toNat = true → False := fun {x y r s a b} hn hab hx ht hq hnx hny hen => by
        have hi := (Fo.Eqv.ini (e := x) hq).1 (Fo.Ini.head _ _)
        simp only [Fo.Ini] at hi
        rw [if_neg (Ne.symm ht)] at hi
        have hsl : T.slp (z ++ [y]) x.t.toNat := (T.slpK a1 hab (T.pre_app _ hn)).2 ⟨.inr ⟨x, hx, rfl⟩, x, hnx, by rw [Fo.dep_comm]; exact hi.1⟩
        refine T.asleep hs s (z ++ [y]) x.t.toNat x hsl ?_ hn hi.2
        rw [aft_snoc, S.stay (S.can_ok hs (T.way z a1)) hen (fun e1 => ht (by have := S.nextT hnx; have := S.nextT hny; omega))]
        exact hnx
      obtain ⟨a, b, hab⟩ := List.append_of_mem a2
      have hm : e2 ∈ a ∨ e2 ∈ b := by
        rw [hab] at b2
        rcases List.mem_append.1 b2 with b2 | b2
        · exact .inl b2
        · rcases List.mem_cons.1 b2 with b2 | b2
          · exact (he b2.symm).elim
          · exact .inr b2
      rcases hm with hm | hm
      · exact (key h1 hab hm (Ne.symm htt) h.symm b4 a4 a3).elim
      · obtain ⟨c, d, hcd⟩ := List.append_of_mem hm
        exact (key h2 (a := a ++ e1 :: c) (b := d) (by rw [hab, hcd]; simp) (by simp) htt h a4 b4 b3).elim
theorem each (hs : S.ok s0) (C : T.Closed) {w : List Ev} (hw : S.Can s0 w) (he : ∀ t, S.en (S.aft s0 w) t = false) : ∃ u, T.node u ∧ Fo.Eqv u w := by
  obtain ⟨u, v, hu, hv⟩ := T.cover hs C (S.fuel s0) [] w (Nat.le_refl _) T.root hw (fun q f h => (T.slp0 q h).elim)
  have hu' : T.node u := by simpa using hu
  have h1 := ((S.can_eqv hv hs).1 (T.way u hu')).1
  cases v with
  | nil => exact ⟨u, hu', by simpa using hv⟩
  | cons e v =>
    have h2 := (S.can_app.1 h1).2.1
    rw [he] at h2
    cases h2
end Tree
end Go.Proofs.YtckdofjpoajblaaGreat
namespace Go.Proofs.YtckdofjpoajblaaGreat
set_option linter.unusedVariables false
namespace Pr
def fuels (s : St) : Nat := (s.th.map Th.fuel).sum
theorem sum_set {l : List Nat} : ∀ {t x y : Nat}, l[t]? = some x → y + 1 = x → (l.set t y).sum + 1 = l.sum := by
  induction l with
  | nil => intro t x y h; cases h
  | cons a l ih =>
    intro t x y h e
    cases t with
    | zero => simp at h; subst h; simp; omega
    | succ t => simp at h; have := ih h e; simp; omega
theorem fuels_step {s : St} {t : Nat} (hw : Wf s) (h : enabled s t = true) : fuels (stepS s t) + 1 = fuels s := by
  obtain ⟨x, i, hc⟩ := can_of h
  obtain ⟨n, h0, h8, hok⟩ := hw.insOk hc.ins
  rw [stepS_can hc, doI_eq i hc.th ⟨hok.1, hok.2.1⟩]
  unfold fuels
  rw [List.map_set]
  refine sum_set (x := x.fuel) (by rw [List.getElem?_map, hc.th]; rfl) ?_
  have hf : x.fuel ≠ 0 := fun h0 => by
    have := hc.ins
    unfold Pr.ins at this
    rw [hc.th] at this
    revert this
    cases s.p.code[t]? <;> simp [h0]
  have : (nth s x i).fuel = x.fuel - 1 := by
    unfold nth
    repeat' split
    all_goals rfl
  omega
theorem all_iff {s : St} {t : Nat} : t ∈ all s ↔ enabled s t = true := by
  unfold all
  rw [List.mem_filter, List.mem_range]
  exact ⟨fun h => h.2, fun h => ⟨en_lt h, h⟩⟩
theorem all_nil_of {s : St} (hw : Wf s) (h : fuels s = 0) : all s = [] := by
  refine List.eq_nil_iff_forall_not_mem.2 (fun t ht => ?_)
  have := fuels_step hw (all_iff.1 ht)
  omega
theorem all_len {s : St} (hw : Wf s) : (all s).length ≤ 4 := by
  unfold all
  have := hw.n4
  exact Nat.le_trans (List.length_filter_le _ _) (by simpa using this)
def evAt (s : St) (t : Nat) : Ev := (next s t).getD zeroE
def waits (s : St) : Bool := (List.range s.th.length).any fun t => (next s t).isSome
def cnt : Nat → St → Nat
  | 0, _ => 1
  | n + 1, s => 1 + ((all s).map fun t => cnt n (stepS s t)).sum
def ends : Nat → St → List Ev → List (St × List Ev)
  | 0, s, row => [(s, row)]
  | n + 1, s, row => if all s = [] then [(s, row)] else (all s).flatMap fun t => ends n (stepS s t) (row ++ [evAt s t])
def over {α : Type} (at_ : St → List Ev → α → α) (most : Nat) : Nat → St → List Ev → Nat × α → Nat × α
  | 0, s, row, x => if most < x.1 + 1 then (x.1 + 1, x.2) else (x.1 + 1, at_ s row x.2)
  | n + 1, s, row, x => if most < x.1 + 1 then (x.1 + 1, x.2) else
      (all s).foldl (fun y t => over at_ most n (stepS s t) (row ++ [evAt s t]) y) (x.1 + 1, if all s = [] then at_ s row x.2 else x.2)
theorem over_eq {α : Type} (at_ : St → List Ev → α → α) (most : Nat) : ∀ n s row x, x.1 + cnt n s ≤ most → over at_ most n s row x = (x.1 + cnt n s, (ends n s row).foldl (fun a z => at_ z.1 z.2 a) x.2) := by
  intro n
  induction n with
  | zero => intro s row x h; simp only [cnt] at h; simp only [over, cnt, ends, if_neg (show ¬ most < x.1 + 1 by omega)]; rfl
  | succ n ih =>
    intro s row x h
    simp only [cnt] at h
    simp only [over, cnt, ends, if_neg (show ¬ most < x.1 + 1 by omega)]
    have go : ∀ (l : List Nat) (c : Nat) (a : α), c + (l.map fun t => cnt n (stepS s t)).sum ≤ most →
        l.foldl (fun y t => over at_ most n (stepS s t) (row ++ [evAt s t]) y) (c, a) = (c + (l.map fun t => cnt n (stepS s t)).sum, (l.flatMap fun t => ends n (stepS s t) (row ++ [evAt s t])).foldl (fun a z => at_ z.1 z.2 a) a) := by
      intro l
      induction l with
      | nil => intro c a _; simp
      | cons t l ih2 =>
        intro c a hc
        simp only [List.map_cons, List.sum_cons] at hc
        rw [List.foldl_cons, ih _ _ (c, a) (by simp only; omega), ih2 _ _ (by omega)]
        simp only [List.map_cons, List.sum_cons, List.flatMap_cons, List.foldl_append, Nat.add_assoc]
    by_cases ha : all s = []
    · rw [ha, if_pos rfl]; rfl
    · rw [if_neg ha, go _ _ _ (by omega), if_neg ha, Nat.add_assoc]
theorem over_full {α : Type} (at_ : St → List Ev → α → α) (most : Nat) : ∀ n s row x, most < x.1 + cnt n s → most < (over at_ most n s row x).1 := by
  intro n
  induction n with
  | zero => intro s row x h; simp only [cnt] at h; simp only [over, if_pos h]; exact h
  | succ n ih =>
    intro s row x h
    simp only [cnt] at h
    simp only [over]
    split
    · assumption
    · have go : ∀ (l : List Nat) (y : Nat × α), most < y.1 + (l.map fun t => cnt n (stepS s t)).sum → most < (l.foldl (fun y t => over at_ most n (stepS s t) (row ++ [evAt s t]) y) y).1 := by
        intro l
        induction l with
        | nil => intro y hy; simpa using hy
        | cons t l ih2 =>
          intro y hy
          simp only [List.map_cons, List.sum_cons] at hy
          rw [List.foldl_cons]
          refine ih2 _ ?_
          by_cases hf : y.1 + cnt n (stepS s t) ≤ most
          · rw [over_eq at_ most n _ _ y hf]; simp only; omega
          · have := ih (stepS s t) (row ++ [evAt s t]) y (by omega)
            omega
      exact go _ _ (by simp only; omega)
theorem over_bound {α : Type} (at_ : St → List Ev → α → α) (most : Nat) : ∀ n s row x, Wf s → (over at_ most n s row x).1 ≤ max x.1 most + 1 + 4 * n := by
  intro n
  induction n with
  | zero => intro s row x _; simp only [over]; split <;> (simp only; omega)
  | succ n ih =>
    intro s row x hw
    simp only [over]
    split
    · simp only; omega
    · have full : ∀ m s row (x : Nat × α), most < x.1 + 1 → (over at_ most m s row x).1 = x.1 + 1 := by
        intro m s row x h
        cases m <;> simp only [over, if_pos h]
      have go : ∀ (l : List Nat) (y : Nat × α), (l.foldl (fun y t => over at_ most n (stepS s t) (row ++ [evAt s t]) y) y).1 ≤ max y.1 (most + 1 + 4 * n) + l.length := by
        intro l
        induction l with
        | nil => intro y; simp only [List.foldl_nil, List.length_nil]; omega
        | cons t l ih2 =>
          intro y
          rw [List.foldl_cons, List.length_cons]
          refine Nat.le_trans (ih2 _) ?_
          by_cases hf : most < y.1 + 1
          · rw [full n _ _ y hf]; omega
          · have := ih (stepS s t) (row ++ [evAt s t]) y (stepS_wf t hw).1
            omega
      have := go (all s) (x.1 + 1, if all s = [] then at_ s row x.2 else x.2)
      have := all_len hw
      simp only at *
      omega
theorem mem_ends : ∀ (n : Nat) (s : St) (row : List Ev), Wf s → fuels s ≤ n → ∀ (s' : St) (l' : List Ev), (s', l') ∈ ends n s row ↔ ∃ l, l' = row ++ l ∧ Ex s l s' ∧ all s' = [] := by
  intro n
  induction n with
  | zero =>
    intro s row hw hf s' l'
    have ha := all_nil_of hw (by omega)
    simp only [ends, List.mem_singleton, Prod.mk.injEq]
    constructor
    · rintro ⟨rfl, rfl⟩; exact ⟨[], by simp, .nil _, ha⟩
    · rintro ⟨l, rfl, hex, _⟩
      cases hex with
      | nil => simp
      | cons t e hen _ _ => have := all_iff.2 hen; rw [ha] at this; cases this
  | succ n ih =>
    intro s row hw hf s' l'
    simp only [ends]
    by_cases ha : all s = []
    · rw [if_pos ha]
      simp only [List.mem_singleton, Prod.mk.injEq]
      constructor
      · rintro ⟨rfl, rfl⟩; exact ⟨[], by simp, .nil _, ha⟩
      · rintro ⟨l, rfl, hex, _⟩
        cases hex with
        | nil => simp
        | cons t e hen _ _ => have := all_iff.2 hen; rw [ha] at this; cases this
    · rw [if_neg ha, List.mem_flatMap]
      constructor
      · rintro ⟨t, ht, h⟩
        have hen := all_iff.1 ht
        obtain ⟨e, i, hn, _, _⟩ := enabled_next hen
        obtain ⟨l, rfl, hex, he⟩ := (ih _ _ (stepS_wf t hw).1 (by have := fuels_step hw hen; omega) _ _).1 h
        refine ⟨e :: l, by simp [evAt, hn], .cons t e hen hn hex, he⟩
      · rintro ⟨l, rfl, hex, he⟩
        cases hex with
        | nil => exact absurd he ha
        | cons t e hen hn hex =>
          refine ⟨t, all_iff.2 hen, (ih _ _ (stepS_wf t hw).1 (by have := fuels_step hw hen; omega) _ _).2 ⟨_, ?_, hex, he⟩⟩
          simp [evAt, hn]
theorem fuels_start {p : Pg} {f : Nat} (h : Ok p) (hf : f ≤ 8) : fuels (start p f) ≤ 32 := by
  have h4 : p.code.length ≤ 4 := h.1.2.2.2.2.2
  unfold fuels start
  simp only [List.map_map]
  have : ∀ l : List (List Ins), (l.map (Th.fuel ∘ fun _ => (⟨0, f, fun _ => 0⟩ : Th))).sum = l.length * f := by
    intro l
    induction l with
    | nil => simp
    | cons a l ih => rw [List.map_cons, List.sum_cons, ih, List.length_cons, Nat.succ_mul]; simp [Nat.add_comm]
  rw [this]
  calc p.code.length * f ≤ 4 * 8 := Nat.mul_le_mul h4 hf
    _ = 32 := rfl
theorem ex_len {s s' : St} {l : List Ev} (h : Ex s l s') (hw : Wf s) : l.length + fuels s' = fuels s := by
  induction h with
  | nil s => simp
  | cons t e hen _ _ ih =>
    have := ih (stepS_wf t hw).1
    have := fuels_step hw hen
    simp only [List.length_cons]
    omega
end Pr
end Go.Proofs.YtckdofjpoajblaaGreat
namespace Go.Proofs.YtckdofjpoajblaaGreat
set_option linter.unusedVariables false
namespace Pr
theorem stay_next {s : St} {t u : Nat} (hw : Wf s) (h : enabled s t = true) (htu : t ≠ u) : next (stepS s t) u = next s u := by
  obtain ⟨x, i, hc⟩ := can_of h
  have hki : 1 ≤ i.k ∧ i.k ≤ 8 := by obtain ⟨n, _, _, hok⟩ := hw.insOk hc.ins; exact ⟨hok.1, hok.2.1⟩
  rw [stepS_can hc]
  unfold next
  have h1 : Pr.ins (doI s t i) u = Pr.ins s u := by rw [doI_eq i hc.th hki]; exact ins_other htu
  rw [h1]
  congr 1
  funext j
  exact ev_other htu hc hki
theorem apart_en {s : St} {t u : Nat} {e f : Ev} (hw : Wf s) (h : enabled s t = true) (he : next s t = some e) (hf : next s u = some f) (hd : Fo.dep e f = false) : enabled (stepS s t) u = enabled s u := by
  have htu : t ≠ u := fun hh => by
    rw [Fo.dep_thread (by rw [next_t he, next_t hf, hh])] at hd; cases hd
  obtain ⟨x, i, hc⟩ := can_of h
  have hki : 1 ≤ i.k ∧ i.k ≤ 8 := by obtain ⟨n, _, _, hok⟩ := hw.insOk hc.ins; exact ⟨hok.1, hok.2.1⟩
  have hxi : 0 ≤ i.x := by obtain ⟨n, _, _, hok⟩ := hw.insOk hc.ins; exact hok.2.2.2.2.2.1
  rw [stepS_can hc]
  have hf0 := hf
  unfold next at hf
  obtain ⟨j, hj, hje⟩ := Option.map_eq_some_iff.1 hf
  have hxj : 0 ≤ j.x := by obtain ⟨n, _, _, hok⟩ := hw.insOk hj; exact hok.2.2.2.2.2.1
  have h1 : Pr.ins (doI s t i) u = some j := by rw [doI_eq i hc.th hki, ins_other htu]; exact hj
  rw [next_can hc] at he
  injection he with he
  by_cases h5 : j.k = 5
  · have hh : (doI s t i).h j.x.toNat = s.h j.x.toNat := by
      rw [doI_eq i hc.th hki]
      exact nh_at (fun hh => by
        have := apart_mut (s := s) (t := t) (u := u) (i := i) (j := j) (by rw [he, hje]; exact hd) hh.1 (.inl h5)
        exact this (by have := hh.2; omega))
    rw [en_lock h1 h5, en_lock hj h5]
    simp only [hh]
  · rw [en_other h1 h5, en_other hj h5]
theorem comm_step {s : St} {t u : Nat} {e f : Ev} (hw : Wf s) (h : enabled s t = true) (h' : enabled s u = true) (he : next s t = some e) (hf : next s u = some f) (hd : Fo.dep e f = false) : stepS (stepS s t) u = stepS (stepS s u) t := by
  have htu : t ≠ u := fun hh => by
    rw [Fo.dep_thread (by rw [next_t he, next_t hf, hh])] at hd; cases hd
  have h2 := apart_en hw h he hf hd
  rw [h'] at h2
  have hn2 := stay_next hw h htu
  rw [hf] at hn2
  obtain ⟨x, i, hc⟩ := can_of h
  have e1 := stepS_can hc
  rw [e1] at h2 hn2
  obtain ⟨y, j, hcj⟩ := can_of h2
  rw [next_can hc] at he
  injection he with he
  rw [next_can hcj] at hn2
  injection hn2 with hn2
  obtain ⟨y', h1, h3, _, _, h5⟩ := diamond hw htu hc hcj.ins h2 (by rw [he, hn2]; exact hd)
  rw [e1, stepS_can hcj, stepS_can h1, stepS_can h3, h5]
def sys : Sys St where
  en := enabled
  step := stepS
  next := next
  ok := Wf
  fuel := fuels
  okS := fun h _ => (stepS_wf _ h).1
  enN := fun _ h => by obtain ⟨e, i, hn, _, _⟩ := enabled_next h; exact ⟨e, hn⟩
  nextT := fun h => next_t h
  fuelS := fun h he => by have := fuels_step h he; omega
  stay := fun h he hn => stay_next h he hn
  apart := fun h he hn hf hd => apart_en h he hn hf hd
  comm := fun h he hf hn hm hd => comm_step h he hf hn hm hd
theorem ex_can {s s' : St} {l : List Ev} : Ex s l s' ↔ sys.Can s l ∧ s' = sys.aft s l := by
  constructor
  · intro h
    induction h with
    | nil s => exact ⟨trivial, rfl⟩
    | cons t e hen hn _ ih =>
      have ht : e.t.toNat = t := by rw [next_t hn]; rfl
      exact ⟨⟨by rw [ht]; exact hen, by rw [ht]; exact hn, by rw [ht]; exact ih.1⟩, by rw [sys.aft_cons, ht]; exact ih.2⟩
  · rintro ⟨h, rfl⟩
    induction l generalizing s with
    | nil => exact .nil _
    | cons e l ih => exact .cons e.t.toNat e h.1 h.2.1 (ih h.2.2)
theorem all_nil {s : St} : all s = [] ↔ ∀ t, enabled s t = false := by
  constructor
  · intro h t
    cases he : enabled s t with
    | false => rfl
    | true => have := all_iff.2 he; rw [h] at this; cases this
  · intro h
    exact List.eq_nil_iff_forall_not_mem.2 fun t ht => by rw [all_iff, h] at ht; cases ht
end Pr
end Go.Proofs.YtckdofjpoajblaaGreat
namespace Go.Proofs.YtckdofjpoajblaaGreat
set_option linter.unusedVariables false
namespace Ky
abbrev K := List UInt8
abbrev lt (a b : K) : Bool := Op.bytesLess a b
theorem lt_irr : ∀ l : K, lt l l = false
  | [] => rfl
  | a :: l => by have := lt_irr l; simp only [lt] at this; simp [lt, Op.bytesLess, this]
theorem lt_tr : ∀ {a b c : K}, lt a b = true → lt b c = true → lt a c = true
  | [], [], _, h, _ => by simp [lt, Op.bytesLess] at h
  | [], _ :: _, [], _, h => by simp [lt, Op.bytesLess] at h
  | [], _ :: _, _ :: _, _, _ => rfl
  | _ :: _, [], _, h, _ => by simp [lt, Op.bytesLess] at h
  | _ :: _, _ :: _, [], _, h => by simp [lt, Op.bytesLess] at h
  | a :: x, b :: y, c :: z, h1, h2 => by
    simp only [lt, Op.bytesLess, Bool.or_eq_true, Bool.and_eq_true, decide_eq_true_eq, beq_iff_eq] at h1 h2 ⊢
    rcases h1 with h1 | ⟨h1, h1'⟩
    · rcases h2 with h2 | ⟨h2, h2'⟩
      · exact .inl (UInt8.lt_trans h1 h2)
      · subst h2; exact .inl h1
    · subst h1
      rcases h2 with h2 | ⟨h2, h2'⟩
      · exact .inl h2
      · exact .inr ⟨h2, lt_tr (a := x) (b := y) (c := z) h1' h2'⟩
theorem lt_tri : ∀ {a b : K}, lt a b = false → lt b a = false → a = b
  | [], [], _, _ => rfl
  | [], _ :: _, h, _ => by simp [lt, Op.bytesLess] at h
  | _ :: _, [], _, h => by simp [lt, Op.bytesLess] at h
  | a :: x, b :: y, h1, h2 => by
    simp only [lt, Op.bytesLess, Bool.or_eq_false_iff, decide_eq_false_iff_not, Bool.and_eq_false_iff, beq_eq_false_iff_ne] at h1 h2
    have hab : a = b := by
      have := UInt8.not_lt.1 h1.1
      have := UInt8.not_lt.1 h2.1
      exact UInt8.le_antisymm ‹_› ‹_›
    subst hab
    rw [lt_tri (a := x) (b := y) (by rcases h1.2 with h | h; exact absurd rfl h; exact h) (by rcases h2.2 with h | h; exact absurd rfl h; exact h)]
theorem lt_asym {a b : K} (h : lt a b = true) : lt b a = false := by
  cases h2 : lt b a with
  | false => rfl
  | true => have := lt_tr h h2; rw [lt_irr] at this; cases this
theorem le_eq (x y : K) : decide (x ≤ y) = !lt y x := by
  rw [lt, bytesLess_eq]
  by_cases h : y < x
  · rw [decide_eq_true h, decide_eq_false (fun e => e h)]; rfl
  · rw [decide_eq_false h, decide_eq_true (show x ≤ y from h)]; rfl
def Strict (l : List K) : Prop := l.Pairwise (fun a b => lt a b = true)
def ins (s : K) : List K → List K
  | [] => [s]
  | x :: xs => if lt s x = true then s :: x :: xs else x :: ins s xs
def insG (l : List K) (s : K) : List K := if s ∈ l then l else ins s l
def gather (l : List K) : List K := l.foldl insG []
theorem ins_mem (s : K) : ∀ l x, x ∈ ins s l ↔ x = s ∨ x ∈ l
  | [], x => by simp [ins]
  | y :: l, x => by
    simp only [ins]
    split
    · simp
    · simp only [List.mem_cons, ins_mem s l x]
      constructor
      · rintro (h | h | h); exact .inr (.inl h); exact .inl h; exact .inr (.inr h)
      · rintro (h | h | h); exact .inr (.inl h); exact .inl h; exact .inr (.inr h)
theorem ins_strict {s : K} : ∀ {l : List K}, s ∉ l → Strict l → Strict (ins s l)
  | [], _, _ => List.pairwise_cons.2 ⟨fun _ h => (by cases h), List.Pairwise.nil⟩
  | y :: l, hn, h => by
    obtain ⟨h1, h2⟩ := List.pairwise_cons.1 h
    simp only [ins]
    split
    · rename_i hs
      exact List.pairwise_cons.2 ⟨fun x hx => by rcases List.mem_cons.1 hx with rfl | hx; exact hs; exact lt_tr hs (h1 x hx), h⟩
    · rename_i hs
      have hys : lt y s = true := by
        cases hq : lt y s with
        | true => rfl
        | false => exact absurd (lt_tri (by simpa using hs) hq) (fun e => hn (e ▸ List.mem_cons_self))
      exact List.pairwise_cons.2 ⟨fun x hx => by rcases (ins_mem s l x).1 hx with rfl | hx; exact hys; exact h1 x hx, ins_strict (fun hm => hn (List.mem_cons_of_mem _ hm)) h2⟩
theorem insG_mem (l : List K) (s x : K) : x ∈ insG l s ↔ x = s ∨ x ∈ l := by
  unfold insG
  split
  · rename_i h
    exact ⟨.inr, fun e => by rcases e with rfl | e; exact h; exact e⟩
  · exact ins_mem s l x
theorem insG_strict {l : List K} (h : Strict l) (s : K) : Strict (insG l s) := by
  unfold insG
  split
  · exact h
  · rename_i hn; exact ins_strict hn h
theorem ins_len (s : K) : ∀ l, (ins s l).length = l.length + 1
  | [] => rfl
  | y :: l => by simp only [ins]; split <;> simp [ins_len s l]
theorem insG_len (l : List K) (s : K) : (insG l s).length = if s ∈ l then l.length else l.length + 1 := by
  unfold insG
  split
  · rfl
  · exact ins_len s l
theorem foldG_mem : ∀ (l acc : List K) (x : K), x ∈ l.foldl insG acc ↔ x ∈ acc ∨ x ∈ l
  | [], acc, x => by simp
  | y :: l, acc, x => by
    rw [List.foldl_cons, foldG_mem l, insG_mem, List.mem_cons]
    constructor
    · rintro ((h | h) | h); exact .inr (.inl h); exact .inl h; exact .inr (.inr h)
    · rintro (h | h | h); exact .inl (.inr h); exact .inl (.inl h); exact .inr h
theorem foldG_strict : ∀ (l acc : List K), Strict acc → Strict (l.foldl insG acc)
  | [], _, h => h
  | y :: l, acc, h => foldG_strict l _ (insG_strict h y)
theorem gather_mem (l : List K) (x : K) : x ∈ gather l ↔ x ∈ l := by unfold gather; rw [foldG_mem]; simp
theorem gather_strict (l : List K) : Strict (gather l) := foldG_strict l [] List.Pairwise.nil
theorem strict_ext : ∀ {l r : List K}, Strict l → Strict r → (∀ x, x ∈ l ↔ x ∈ r) → l = r
  | [], [], _, _, _ => rfl
  | [], y :: r, _, _, h => by have := (h y).2 List.mem_cons_self; cases this
  | x :: l, [], _, _, h => by have := (h x).1 List.mem_cons_self; cases this
  | x :: l, y :: r, hl, hr, h => by
    obtain ⟨l1, l2⟩ := List.pairwise_cons.1 hl
    obtain ⟨r1, r2⟩ := List.pairwise_cons.1 hr
    have hxy : x = y := by
      rcases List.mem_cons.1 ((h x).1 List.mem_cons_self) with e | e
      · exact e
      · rcases List.mem_cons.1 ((h y).2 List.mem_cons_self) with e' | e'
        · exact e'.symm
        · have := lt_tr (r1 x e) (l1 y e'); rw [lt_irr] at this; cases this
    subst hxy
    have nl : x ∉ l := fun e => by have := l1 x e; rw [lt_irr] at this; cases this
    have nr : x ∉ r := fun e => by have := r1 x e; rw [lt_irr] at this; cases this
    rw [strict_ext l2 r2 fun z => ⟨fun hz => ((List.mem_cons.1 ((h z).1 (List.mem_cons_of_mem _ hz))).resolve_left fun e => nl (e ▸ hz)), fun hz => ((List.mem_cons.1 ((h z).2 (List.mem_cons_of_mem _ hz))).resolve_left fun e => nr (e ▸ hz))⟩]
theorem compact_up (zs : List K) (hs : zs.Pairwise (fun a b => lt b a = false)) : ∀ m, m ≤ zs.length → Strict (Lib.compactUpTo zs.toArray m) ∧ (∀ x, x ∈ Lib.compactUpTo zs.toArray m ↔ x ∈ zs.take m) ∧ ∀ x ∈ Lib.compactUpTo zs.toArray m, ∀ y, 0 < m → zs[m - 1]? = some y → x = y ∨ lt x y = true
  | 0, _ => ⟨List.Pairwise.nil, fun x => by simp [Lib.compactUpTo], fun x hx => by simp [Lib.compactUpTo] at hx⟩
  | m + 1, hm => by
    obtain ⟨h1, h2, h3⟩ := compact_up zs hs m (by omega)
    have hg : zs.toArray[m]! = zs[m] := by rw [getElem!_pos _ m (by simp; omega)]; simp
    have hle : ∀ j, (hj : j < m) → lt zs[m] (zs[j]'(by omega)) = false := fun j hj => List.pairwise_iff_getElem.1 hs j m (by omega) (by omega) hj
    rw [Lib.compactUpTo_succ, hg]
    have hlast : ∀ y, 0 < m + 1 → zs[m + 1 - 1]? = some y → y = zs[m] := fun y _ h => by rw [Nat.add_sub_cancel, List.getElem?_eq_getElem (by omega)] at h; exact (Option.some.inj h).symm
    by_cases hk : Lib.keeps zs.toArray m = true
    · rw [if_pos hk]
      have hne : ∀ x ∈ Lib.compactUpTo zs.toArray m, lt x zs[m] = true := fun x hx => by
        rcases Nat.eq_zero_or_pos m with h0 | h0
        · subst h0; simp [Lib.compactUpTo] at hx
        · have hk' : zs[m] ≠ zs[m - 1]'(by omega) := by
            have e1 : zs.toArray[m - 1]! = zs[m - 1]'(by omega) := by rw [getElem!_pos _ (m - 1) (by simp; omega)]; simp
            unfold Lib.keeps at hk
            rw [hg, e1] at hk
            simpa [show m ≠ 0 by omega] using hk
          have hl : lt (zs[m - 1]'(by omega)) zs[m] = true := by
            cases hq : lt (zs[m - 1]'(by omega)) zs[m] with
            | true => rfl
            | false => exact absurd (lt_tri (hle (m - 1) (by omega)) hq) hk'
          rcases h3 x hx _ h0 (List.getElem?_eq_getElem (by omega)) with e | e
          · rw [e]; exact hl
          · exact lt_tr e hl
      refine ⟨?_, fun x => ?_, fun x hx y h0 hy => ?_⟩
      · exact List.pairwise_append.2 ⟨h1, List.pairwise_singleton _ _, fun a ha b hb => by rw [List.mem_singleton] at hb; rw [hb]; exact hne a ha⟩
      · rw [List.mem_append, h2, List.mem_singleton, List.take_add_one, List.getElem?_eq_getElem (by omega), List.mem_append]; simp
      · rw [hlast y h0 hy]
        rcases List.mem_append.1 hx with hx | hx
        · exact .inr (hne x hx)
        · exact .inl (List.mem_singleton.1 hx)
    · rw [if_neg hk, List.append_nil]
      have hk' : 0 < m ∧ ∀ h : 0 < m, zs[m] = zs[m - 1]'(by omega) := by
        unfold Lib.keeps at hk
        rcases Nat.eq_zero_or_pos m with h0 | h0
        · subst h0; simp at hk
        · have e1 : zs.toArray[m - 1]! = zs[m - 1]'(by omega) := by rw [getElem!_pos _ (m - 1) (by simp; omega)]; simp
          rw [hg, e1] at hk
          exact ⟨h0, fun _ => by simpa [show m ≠ 0 by omega] using hk⟩
      have he := hk'.2 hk'.1
      refine ⟨h1, fun x => ?_, fun x hx y h0 hy => ?_⟩
      · rw [h2, List.take_add_one, List.getElem?_eq_getElem (by omega), List.mem_append]
        constructor
        · exact .inl
        · rintro (h | h)
          · exact h
          · have : x = zs[m] := by simpa using h
            rw [this, he]
            exact List.mem_iff_getElem.2 ⟨m - 1, by rw [List.length_take]; omega, by rw [List.getElem_take]⟩
      · rw [hlast y h0 hy, he]
        exact h3 x hx _ hk'.1 (List.getElem?_eq_getElem (by omega))
theorem sort_compact (l : List K) : Lib.compact (l.mergeSort fun x y => decide (x ≤ y)) = gather l := by
  have hs : (l.mergeSort fun x y => decide (x ≤ y)).Pairwise (fun a b => lt b a = false) := by
    have := List.pairwise_mergeSort (le := fun x y : K => decide (x ≤ y)) (fun a b c h1 h2 => by
      rw [le_eq] at *
      simp only [Bool.not_eq_true'] at *
      cases hq : lt c a with
      | false => rfl
      | true =>
        cases h : lt a b with
        | true => have := lt_tr hq h; rw [h2] at this; cases this
        | false => have e := lt_tri h h1; subst e; rw [hq] at h2; cases h2) (fun a b => by
      rw [le_eq, le_eq]
      cases hq : lt b a with
      | false => rfl
      | true => rw [lt_asym hq]; rfl) l
    exact this.imp fun {a b} h => by rw [le_eq] at h; simpa using h
  obtain ⟨h1, h2, _⟩ := compact_up _ hs _ (Nat.le_refl _)
  refine strict_ext (l := Lib.compact _) h1 (gather_strict l) fun x => ?_
  rw [gather_mem]
  have := h2 x
  rw [List.take_length, (List.mergeSort_perm l _).mem_iff] at this
  exact this
end Ky
end Go.Proofs.YtckdofjpoajblaaGreat
namespace Go.Proofs.YtckdofjpoajblaaGreat
set_option linter.unusedVariables false
namespace Ky
end Ky
end Go.Proofs.YtckdofjpoajblaaGreat
namespace Go.Proofs.YtckdofjpoajblaaGreat
open Bs
set_option linter.unusedVariables false
namespace Pr
structure XNd where
  s : St
  a : BitVec 8
  d : BitVec 8
  t : BitVec 8
structure Sx where
  path : List XNd
  ev : List Ev
  ch : Nat
  keys : List Ky.K
  nodes : Nat
  runs : Nat
  blk : Nat
def mark1 (n : XNd) : XNd := { n with t := n.t ||| Bs.of (all n.s) }
def markAll (p : List XNd) (rs : List (Nat × Int)) : List XNd := rs.foldl (fun p r => p.modify r.1 mark1) p
def withT (u : Nat) (n : XNd) : XNd := { n with t := n.t ||| bit u }
def openX (od : List Nat) (x : Sx) (s : St) (a : BitVec 8) : Sx :=
  let p := markAll (x.path ++ [⟨s, a, 0#8, 0#8⟩]) (races s x.ev)
  let fr := freeOf a (all s)
  if all s = [] then { x with path := p, nodes := x.nodes + 1, runs := x.runs + 1, keys := x.keys ++ [Fo.key x.ev] }
  else if fr = [] then { x with path := p, nodes := x.nodes + 1, blk := x.blk + 1 }
  else { x with path := p.modify x.path.length (withT (fr.getD (pickI od x.ch fr.length) 0)), nodes := x.nodes + 1, ch := x.ch + 1 }
def goneD (u : Nat) (n : XNd) : XNd := { n with d := n.d ||| bit u }
def intoX (od : List Nat) (x : Sx) (n : XNd) (u : Nat) : Sx :=
  openX od { x with path := x.path.modify (x.path.length - 1) (goneD u), ev := x.ev ++ [evAt n.s u] } (stepS n.s u) (childOf n.s n.a n.d u)
def popX (x : Sx) : Sx := { x with path := x.path.dropLast, ev := x.ev.dropLast }
def runX (od : List Nat) (bg : Nat) : Nat → Sx → Sx × Bool
  | 0, x => (x, true)
  | k + 1, x => match x.path.getLast? with
    | none => (x, true)
    | some n =>
      if Bs.left n.a n.d n.t = [] then runX od bg k (popX x)
      else if bg ≤ x.nodes then (x, false)
      else runX od bg k (intoX od { x with ch := x.ch + 1 } n ((Bs.left n.a n.d n.t).getD (pickI od x.ch (Bs.left n.a n.d n.t).length) 0))
def x0 : Sx := ⟨[], [], 0, [], 0, 0, 0⟩
def explX (s : St) (bg : Nat) (od : List Nat) : Sx × Bool := runX od bg (2 * bg + 2) (openX od x0 s 0#8)
structure Gh where
  H : List (List Ev)
  dn : List Ev → List Ev
  sl : List Ev → BitVec 8
  td : List Ev → BitVec 8
def upd {α : Type} (f : List Ev → α) (z : List Ev) (v : α) : List Ev → α := fun y => if y = z then v else f y
def bitsE (l : List Ev) : BitVec 8 := Bs.of (l.map fun e => e.t.toNat)
abbrev at_ (s0 : St) (z : List Ev) : St := sys.aft s0 z
structure TreeG (s0 : St) (g : Gh) : Prop where
  root : [] ∈ g.H
  nodup : g.H.Nodup
  pre : ∀ {z e}, z ++ [e] ∈ g.H → z ∈ g.H ∧ e ∈ g.dn z
  kid : ∀ {z e}, z ∈ g.H → e ∈ g.dn z → z ++ [e] ∈ g.H
  can : ∀ {z e}, z ∈ g.H → e ∈ g.dn z → enabled (at_ s0 z) e.t.toNat = true ∧ next (at_ s0 z) e.t.toNat = some e ∧ has (g.sl z) e.t.toNat = false
  dnd : ∀ {z}, z ∈ g.H → ((g.dn z).map fun e => e.t.toNat).Nodup
  slp0 : g.sl [] = 0#8
  slpK : ∀ {z e a b}, z ∈ g.H → g.dn z = a ++ e :: b → z ++ [e] ∈ g.H → ∀ q, (has (g.sl (z ++ [e])) q = true ↔ (has (g.sl z) q = true ∨ ∃ f ∈ a, f.t.toNat = q) ∧ ∃ f, next (at_ s0 z) q = some f ∧ Fo.dep f e = false)
def TreeG.tree {s0 : St} {g : Gh} (h : TreeG s0 g) : Tree sys s0 where
  node := fun z => z ∈ g.H
  dn := g.dn
  slp := fun z q => has (g.sl z) q = true
  root := h.root
  pre := fun hz => h.pre hz
  can := fun hz he => by
    obtain ⟨h1, h2, h3⟩ := h.can hz he
    exact ⟨h1, h2, fun hh => by rw [h3] at hh; cases hh⟩
  slp0 := fun q hh => by rw [h.slp0, has_zero] at hh; cases hh
  slpK := fun hz hab hk => h.slpK hz hab hk _
structure Todo (s0 : St) (g : Gh) (ev : List Ev) (open_ : Bool) : Prop where
  en : ∀ {z q}, z ∈ g.H → has (g.td z) q = true → enabled (at_ s0 z) q = true
  race : ∀ {z q e i}, z ∈ g.H → next (at_ s0 z) q = some e → Fo.RaceAt z i e → ∀ t, enabled (at_ s0 (z.take i)) t = true → has (g.td (z.take i)) t = true
  pick : ∀ {z q}, z ∈ g.H → enabled (at_ s0 z) q = true → has (g.sl z) q = false → ∃ u, has (g.td z) u = true ∧ has (g.sl z) u = false
  done : ∀ {z}, z ∈ g.H → (open_ = false ∨ ¬ z <+: ev) → ∀ q, has (g.td z) q = true → has (g.sl z) q = true ∨ ∃ e ∈ g.dn z, e.t.toNat = q
theorem closed_of {s0 : St} {g : Gh} (h : TreeG s0 g) {ev : List Ev} (t : Todo s0 g ev false) : h.tree.Closed where
  kid := fun hz he => h.kid hz he
  pick := fun {z q} hz he hs => by
    have hs' : has (g.sl z) q = false := by
      cases hh : has (g.sl z) q with
      | false => rfl
      | true => exact (hs hh).elim
    obtain ⟨u, hu, hsu⟩ := t.pick hz he hs'
    rcases t.done hz (.inl rfl) u hu with h1 | ⟨e, he, _⟩
    · rw [hsu] at h1; cases h1
    · intro hd
      have hd' : g.dn z = [] := hd
      rw [hd'] at he
      cases he
  race := fun {z q e i} hz hn hr t0 ht => by
    have hzt : z.take i ∈ g.H := by
      have : z.take i ++ z.drop i ∈ g.H := by rw [List.take_append_drop]; exact hz
      exact h.tree.pre_app (z.drop i) this
    exact t.done hzt (.inl rfl) t0 (t.race hz hn hr t0 ht)
end Pr
end Go.Proofs.YtckdofjpoajblaaGreat
namespace Go.Proofs.YtckdofjpoajblaaGreat
open Go.RowKit
set_option linter.unusedVariables false
def sv (k : List UInt8) : Value := .string ⟨k.toArray⟩
theorem str_cell {w : World} {B : Nat} {A : Option Addr} {ks : List Ky.K} (h : RdB w B 1 A ks.length (ks.map sv)) : ∀ (k : Nat) (s : Ky.K), ks[k]? = some s → ∃ g o, A = some ⟨g, o, none⟩ ∧ g < B ∧ ∀ u, Below B w u → u.cell? ⟨g, o + k, none⟩ = some (.string ⟨s.toArray⟩) := fun k s hs => by
  obtain ⟨hk, rfl⟩ := List.getElem?_eq_some_iff.1 hs
  obtain ⟨g, o, hA, hg, hc⟩ := h.2 (by omega)
  refine ⟨g, o, hA, hg, fun u hu => ?_⟩
  rw [World.cell?_of_block (hu.block g hg), hc k (by omega), List.getElem?_map, List.getElem?_eq_getElem hk]
  rfl
theorem sv_way (x y : Ky.K) : ∃ bx by_ : ByteArray, (⟨x.toArray⟩ : ByteArray) = bx ∧ (⟨y.toArray⟩ : ByteArray) = by_ ∧ (bx.toList == by_.toList) = decide (x = y) ∧ (x = y → bx = by_) ∧ (x ≠ y → ¬ bx.toList = by_.toList) ∧ Op.bytesLess bx.toList by_.toList = Ky.lt x y ∧ Op.bytesLess by_.toList bx.toList = Ky.lt y x := by
  refine ⟨_, _, rfl, rfl, ?_, fun h => by rw [h], fun h e => h ?_, ?_, ?_⟩
  · rw [ByteArray.toList_eq, ByteArray.toList_eq]
    show (x == y) = _
    by_cases h : x = y
    · subst h; simp
    · rw [decide_eq_false h]; simpa using h
  · rw [ByteArray.toList_eq, ByteArray.toList_eq] at e; exact e
  · rw [ByteArray.toList_eq, ByteArray.toList_eq]
  · rw [ByteArray.toList_eq, ByteArray.toList_eq]
set_option maxRecDepth 100000 in
set_option maxHeartbeats 2000000 in
theorem same6_any (w : World) (A : Option Addr) (cap : Nat) (a : List Ky.K) (B : Option Addr) (cap' : Nat) (b : List Ky.K) (ha : Rd w 1 A a.length (a.map sv)) (hb : Rd w 1 B b.length (b.map sv)) (hl : a.length < 4611686018427387904) :
    Calls Tryz.prog 37 #[.slice A a.length cap, .slice B b.length cap'] w fun x w' => x = .returned (.bool (decide (a = b))) ∧ Below w.heap.size w w' := by
  have HC := Lib.hid (str_cell ha.toB)
  have HD := Lib.hid (str_cell hb.toB)
  clear ha hb
  by_cases hlen : a.length = b.length
  · have hlen' : b.length = a.length := hlen.symm
    rw [hlen']
    have HL := Lib.hid hlen
    clear hlen hlen'
    go_enter Tryz.func37, Tryz.ntmps37
    go_wp2_with fail
    go_loopw [5] (fun v wr => ∃ k : Nat, k ≤ a.length ∧ v = .int .i64 k ∧ Hid (a.take k = b.take k) ∧ Below w.heap.size w wr) (fun v _ => a.length - (intOf v).toNat)
    case atStart => exact ⟨0, Nat.zero_le _, rfl, Lib.hid rfl, Below.refl _ _⟩
    case round =>
      obtain ⟨k, hk, rfl, HRT, hbw⟩ := hrel
      by_cases hlt : k < a.length
      · obtain ⟨x, hx⟩ := get_some hlt
        obtain ⟨y, hy⟩ := get_some (show k < b.length by have := HL.out; omega)
        obtain ⟨g, o, rfl, hg, hcl⟩ := HC.out k x hx
        obtain ⟨g', o', rfl, hg', hcl'⟩ := HD.out k y hy
        have v0 := hcl wr hbw
        have u0 := hcl' wr hbw
        have k1 : (0 : Int) ≤ (k : Int) := Int.natCast_nonneg _
        have k2 : (k : Int) < (a.length : Int) := by omega
        obtain ⟨bx, by_, e1, e2, e3, e4, e5, _, _⟩ := sv_way x y
        rw [e1] at v0
        rw [e2] at u0
        have htk : a.take (k + 1) = a.take k ++ [x] := by rw [List.take_add_one, hx]; rfl
        have htk' : b.take (k + 1) = b.take k ++ [y] := by rw [List.take_add_one, hy]; rfl
        have hne : x ≠ y → a ≠ b := fun h e => by subst e; rw [hx] at hy; exact h (Option.some.inj hy)
        have lg : g < wr.heap.size := by have := hbw.size; omega
        have lg' : g' < wr.heap.size := by have := hbw.size; omega
        have HTK := Lib.hid htk
        have HTK' := Lib.hid htk'
        have HNE := Lib.hid hne
        have HBW := Lib.hid hbw
        clear htk htk' hne hcl hcl' hbw hx hy e1 e2
        by_cases hxy : x = y
        · obtain rfl := e4 hxy
          have HXY := Lib.hid hxy
          clear hxy e3 e4 e5
          go_wp2_with fail
          refine wp_region_plan (by kernel_rfl) (fun u => Mod (fun _ => False) wr u) [] [(0, .pure), (1, .pure), (2, .pure), (3, .load), (4, .pure), (5, .pure), (6, .pure), (7, .load), (8, .pure)] (by simp only [List.map_cons, List.map_nil, List.getElem?_toArray, List.getElem?_cons_succ, List.getElem?_cons_zero]; rfl) (by kernel_rfl) (fun _ _ d _ _ h => by cases d <;> exact h) ((Mod.refl _ _).drew) ?_
          repeat (first
            | (refine plan_pure (v := ?_) (by rfl) (fun w1 => ?_) ?_
               rotate_left
               · go_simp <;> with_reducible rfl
               simp only [Act.put, List.setIfInBounds_toArray, List.set_cons_zero, List.set_cons_succ])
            | (refine plan_off (by rfl) ?_
               simp only [Act.put, List.setIfInBounds_toArray, List.set_cons_zero, List.set_cons_succ])
            | (refine plan_load_off (by rfl) ?_
               simp only [Act.put, List.setIfInBounds_toArray, List.set_cons_zero, List.set_cons_succ])
            | (refine plan_load (v := ?_) (by rfl) (fun w1 hw1 => ?_) ?_
               rotate_left
               · (have q0 := (hw1.cell g (o + k) lg id).trans v0
                  have q1 := (hw1.cell g' (o' + k) lg' id).trans u0
                  clear hw1
                  go_simp <;> with_reducible rfl)
               simp only [Act.put, List.setIfInBounds_toArray, List.set_cons_zero, List.set_cons_succ]))
          refine plan_end ?_
          go_wp2_with fail
          go_roundw
          case rel => exact ⟨k + 1, by omega, by go_num, Lib.hid (by rw [HTK.out, HTK'.out, HRT.out, HXY.out]), HBW.out.trans ⟨rfl, rfl, rfl, Nat.le_refl _, fun _ _ => rfl⟩⟩
          case measure => simp [intOf]; omega
        · have e6 := e5 hxy
          rw [decide_eq_false hxy] at e3
          have HXY := Lib.hid hxy
          clear hxy e4 e5
          go_wp2_with fail
          refine wp_region_plan (by kernel_rfl) (fun u => Mod (fun _ => False) wr u) [] [(0, .pure), (1, .pure), (2, .pure), (3, .load), (4, .pure), (5, .pure), (6, .pure), (7, .load), (8, .pure)] (by simp only [List.map_cons, List.map_nil, List.getElem?_toArray, List.getElem?_cons_succ, List.getElem?_cons_zero]; rfl) (by kernel_rfl) (fun _ _ d _ _ h => by cases d <;> exact h) ((Mod.refl _ _).drew) ?_
          repeat (first
            | (refine plan_pure (v := ?_) (by rfl) (fun w1 => ?_) ?_
               rotate_left
               · go_simp <;> with_reducible rfl
               simp only [Act.put, List.setIfInBounds_toArray, List.set_cons_zero, List.set_cons_succ])
            | (refine plan_off (by rfl) ?_
               simp only [Act.put, List.setIfInBounds_toArray, List.set_cons_zero, List.set_cons_succ])
            | (refine plan_load_off (by rfl) ?_
               simp only [Act.put, List.setIfInBounds_toArray, List.set_cons_zero, List.set_cons_succ])
            | (refine plan_load (v := ?_) (by rfl) (fun w1 hw1 => ?_) ?_
               rotate_left
               · (have q0 := (hw1.cell g (o + k) lg id).trans v0
                  have q1 := (hw1.cell g' (o' + k) lg' id).trans u0
                  clear hw1
                  go_simp <;> with_reducible rfl)
               simp only [Act.put, List.setIfInBounds_toArray, List.set_cons_zero, List.set_cons_succ]))
          refine plan_end ?_
          go_wp2_with fail
          go_ret
          exact ⟨by rw [decide_eq_false (HNE.out HXY.out)]; rfl, HBW.out.trans ⟨rfl, rfl, rfl, Nat.le_refl _, fun _ _ => rfl⟩⟩
      · have hkn : k = a.length := by omega
        have HK := Lib.hid hkn
        have HBW := Lib.hid hbw
        clear hkn hbw
        go_wp2_with fail
        go_ret
        have h1 := HRT.out
        rw [HK.out, List.take_length, HL.out, List.take_length] at h1
        exact ⟨by rw [decide_eq_true h1]; rfl, HBW.out⟩
  · have e1 : ((a.length : Int) == (b.length : Int)) = false := by rw [beq_eq_false_iff_ne]; omega
    have hne : a ≠ b := fun e => hlen (by rw [e])
    have HNE := Lib.hid hne
    clear hlen hne
    go_enter Tryz.func37, Tryz.ntmps37
    go_wp2_with fail
    go_ret
    exact ⟨by rw [decide_eq_false HNE.out]; rfl, Below.refl _ _⟩
end Go.Proofs.YtckdofjpoajblaaGreat
namespace Go.Proofs.YtckdofjpoajblaaGreat
open Go.RowKit
set_option linter.unusedVariables false
namespace Ky
theorem ins_in {s x : K} : ∀ {l : List K}, (l.any fun y => lt s y) = true → ins s (l ++ [x]) = ins s l ++ [x]
  | [], h => by simp at h
  | y :: l, h => by
    simp only [List.cons_append, ins]
    by_cases hy : lt s y = true
    · rw [if_pos hy, if_pos hy]; rfl
    · rw [if_neg hy, if_neg hy, ins_in (l := l) (by simpa [hy] using h)]; rfl
theorem ins_out {s : K} : ∀ {l : List K}, (l.any fun y => lt s y) = false → ∀ r, ins s (l ++ r) = l ++ ins s r
  | [], _, _ => rfl
  | y :: l, h, r => by
    have h' : lt s y = false ∧ (l.any fun y => lt s y) = false := by simpa using h
    simp only [List.cons_append, ins]
    rw [if_neg (by rw [h'.1]; decide), ins_out h'.2]
end Ky
theorem Tryz.infoStrR : (Tryz.prog.info? 9).map (fun i => (i.zero, i.size, i.bytes)) = some (some (.string ByteArray.empty), 1, 16) := by kernel_rfl
end Go.Proofs.YtckdofjpoajblaaGreat
namespace Go.Proofs.YtckdofjpoajblaaGreat
open Go.RowKit
set_option linter.unusedVariables false
open Go.Sort Go.Lib in
theorem Row.holdsS {w : World} {g o cap : Nat} {q : List Ky.K} (h : Row w 9 1 (some ⟨g, o, none⟩) q.length cap (q.map sv)) : Holds encStr w g o q.toArray := by
  intro j hj
  have hj' : j < q.length := by simpa using hj
  refine ⟨?_, h.free _⟩
  rw [h.cell j (by omega), List.getElem?_map, List.getElem?_eq_getElem hj', getElem!_pos q.toArray j hj]
  rfl
theorem Row.cut {w : World} {e sz n cap : Nat} {A : Option Addr} {cs : List Value} (h : Row w e sz A n cap cs) {k : Nat} (hk : k ≤ n) : Row w e sz A k cap (cs.take (k * sz)) := by
  obtain ⟨h1, h2, h3, h4, h5⟩ := h
  have hm : k * sz ≤ n * sz := Nat.mul_le_mul_right _ hk
  refine ⟨by rw [List.length_take, h1]; omega, by omega, h3, h4, fun a ha => ?_⟩
  obtain ⟨hs, cur, hc, hsz, ht⟩ := h5 a ha
  exact ⟨hs, cur, hc, hsz, by rw [← ht, List.take_take, Nat.min_eq_left hm]⟩
open Go.Sort Go.Lib in
theorem putS_row {w : World} {g o cap m n : Nat} {cs : List Value} (h : Row w 9 1 (some ⟨g, o, none⟩) n cap cs) (q' : List Ky.K) (hq : q'.length = n) (os : Array Obj) :
    Row (grow (putRow encStr (Sort.ahead w m) g o q'.toArray) os) 9 1 (some ⟨g, o, none⟩) n cap (q'.map sv) ∧ Mod (fun k => k = g) w (grow (putRow encStr (Sort.ahead w m) g o q'.toArray) os) := by
  have lg : g < w.heap.size := h.lt
  obtain ⟨h1, h2, h3, h4, h5⟩ := h
  obtain ⟨_, cur, hc, hsz, ht⟩ := h5 _ rfl
  simp only at hc hsz ht
  have hblk : (grow (putRow encStr (Sort.ahead w m) g o q'.toArray) os).heap[g]? = some (.cells (putCells encStr o q'.toArray cur) 9 (0, 0)) := by
    unfold putRow mapBlock grow Sort.ahead
    simp only
    rw [Array.getElem?_append_left (by simpa using lg), Array.getElem?_modify, if_pos rfl, hc]
    rfl
  have hold : ∀ k, k < w.heap.size → k ≠ g → (grow (putRow encStr (Sort.ahead w m) g o q'.toArray) os).heap[k]? = w.heap[k]? := fun k hk hn => by
    unfold putRow mapBlock grow Sort.ahead
    simp only
    rw [Array.getElem?_append_left (by simpa using hk), Array.getElem?_modify, if_neg (Ne.symm hn)]
  refine ⟨⟨by rw [List.length_map, hq, Nat.mul_one], h2, h3, fun h => (by cases h), fun a ha => ?_⟩, ⟨rfl, rfl, rfl, ?_, fun k hk hn => hold k hk hn⟩⟩
  · injection ha with ha
    subst ha
    refine ⟨rfl, _, hblk, by simp [putCells]; simpa using hsz, ?_⟩
    apply List.ext_getElem?
    intro j
    by_cases hj : j < n * 1
    · rw [List.getElem?_take_of_lt hj, List.getElem?_drop]
      simp only [Array.getElem?_toList]
      unfold putCells
      have hj2 : o + j < cur.size := by omega
      have hjq : j < q'.length := by omega
      simp only [Array.getElem?_mapIdx, Array.getElem?_eq_getElem hj2, Option.map_some]
      rw [if_pos (by simp; omega), Nat.add_sub_cancel_left, List.getElem?_map, List.getElem?_eq_getElem hjq, getElem!_pos q'.toArray j (by simpa using hjq)]
      rfl
    · rw [List.getElem?_eq_none (by rw [List.length_take]; omega), List.getElem?_eq_none (by rw [List.length_map]; omega)]
  · unfold putRow mapBlock grow Sort.ahead
    simp
theorem sortS_any (w : World) (A : Option Addr) (cap : Nat) (q : List Ky.K) (hr : Row w 9 1 A q.length cap (q.map sv)) (hl : q.length ≤ 1000000) :
    Calls Tryz.prog 74 #[.slice A q.length cap] w fun x w' => x = .returned (.tuple #[]) ∧ Row w' 9 1 A q.length cap ((q.mergeSort fun x y => decide (x ≤ y)).map sv) ∧ Mod (fun k => ∃ a, A = some a ∧ k = a.block) w w' := by
  have hlen : (q.mergeSort fun x y => decide (x ≤ y)).length = q.length := (List.mergeSort_perm q _).length_eq
  rcases Nat.eq_zero_or_pos q.length with h0 | h0
  · have hq : q = [] := List.eq_nil_of_length_eq_zero h0
    subst hq
    have := Tryz.slices_Sort_string_none A cap w
    change Calls Tryz.prog 74 _ _ _ at this
    refine this.mono fun x w' ⟨h1, h2⟩ => ?_
    subst h1; subst h2
    exact ⟨rfl, by simpa using hr, Mod.refl _ _⟩
  · obtain ⟨g, o, rfl⟩ := hr.some_of_pos (by have := hr.2.1; omega)
    have := Tryz.slices_Sort_string g o cap q w hr.holdsS hr.lt (by omega)
    change Calls Tryz.prog 74 _ _ _ at this
    refine this.mono fun x w' ⟨h1, n, os, h2⟩ => ?_
    subst h1; subst h2
    obtain ⟨h3, h4⟩ := putS_row (m := n) hr (q.mergeSort fun x y => decide (x ≤ y)) hlen os
    exact ⟨rfl, h3, h4.mono fun k _ hk => ⟨_, rfl, hk⟩⟩
open Go.Sort Go.Lib in
/-- slices.Compact of texts -/
theorem compactS_any (w : World) (A : Option Addr) (cap : Nat) (q : List Ky.K) (hr : Row w 9 1 A q.length cap (q.map sv)) (hl : q.length ≤ 1000000) :
    Calls Tryz.prog 75 #[.slice A q.length cap] w fun x w' => x = .returned (.slice A (Lib.compact q).length cap) ∧ Row w' 9 1 A (Lib.compact q).length cap ((Lib.compact q).map sv) ∧ Mod (fun k => ∃ a, A = some a ∧ k = a.block) w w' := by
  have hle := Lib.compact_length_le q
  rcases Nat.eq_zero_or_pos q.length with h0 | h0
  · have hq : q = [] := List.eq_nil_of_length_eq_zero h0
    subst hq
    have := Tryz.slices_Compact_string_empty A cap w
    change Calls Tryz.prog 75 _ _ _ at this
    refine this.mono fun x w' ⟨h1, h2⟩ => ?_
    subst h1; subst h2
    exact ⟨rfl, hr, Mod.refl _ _⟩
  · obtain ⟨g, o, rfl⟩ := hr.some_of_pos (by have := hr.2.1; omega)
    have := Tryz.slices_Compact_string g o cap q w hr.holdsS (by omega) hr.2.1
    change Calls Tryz.prog 75 _ _ _ at this
    refine this.mono fun x w' ⟨h1, n, h2⟩ => ?_
    subst h1
    have hz : (Lib.compact q ++ List.replicate (q.length - (Lib.compact q).length) []).length = q.length := by rw [List.length_append, List.length_replicate]; omega
    obtain ⟨h3, h4⟩ := putS_row (m := n) hr _ hz #[]
    have hg : grow (putRow encStr (Sort.ahead w n) g o (Lib.compact q ++ List.replicate (q.length - (Lib.compact q).length) []).toArray) #[] = w' := by rw [grow_empty]; exact h2.symm
    rw [hg] at h3 h4
    have h5 := h3.cut hle
    rw [Nat.mul_one, List.map_append, List.take_append_of_le_length (by rw [List.length_map]; exact Nat.le_refl _), List.take_of_length_le (by rw [List.length_map]; exact Nat.le_refl _)] at h5
    exact ⟨rfl, h5, h4.mono fun k _ hk => ⟨_, rfl, hk⟩⟩
end Go.Proofs.YtckdofjpoajblaaGreat
namespace Go.Proofs.YtckdofjpoajblaaGreat
open Go.RowKit Bs
set_option linter.unusedVariables false
def Zer (w : World) (c : Nat → Nat) (w' : World) (c' : Nat → Nat) : Prop := Mod (fun k => c k ≠ 0) w w' ∧ ∀ k, k < w.heap.size → c k = 0 → c' k = 0
theorem Zer.refl (w : World) (c : Nat → Nat) : Zer w c w c := ⟨Mod.refl _ _, fun _ _ h => h⟩
theorem Zer.of {j : Nat} {w w' : World} {c c' : Nat → Nat} (h : Chg j c w c' w') (hj : j ≠ 0) : Zer w c w' c' := ⟨h.1.mono fun k _ e h0 => hj (e.symm.trans h0), fun k hk h0 => (h.2 k hk).trans h0⟩
theorem Zer.trans {w1 w2 w3 : World} {c1 c2 c3 : Nat → Nat} (h : Zer w1 c1 w2 c2) (k : Zer w2 c2 w3 c3) : Zer w1 c1 w3 c3 :=
  ⟨h.1.then k.1 (fun i hi e h0 => e (h.2 i hi h0)), fun i hi h0 => k.2 i (Nat.lt_of_lt_of_le hi h.1.size) (h.2 i hi h0)⟩
theorem SAt.zer {w w' : World} {c c' : Nat → Nat} {C : Nat → Prop} {S T : Nat} {s : St} (h : SAt w C S T s) (z : Zer w c w' c') (hC : ∀ k, C k → c k = 0) (h0 : c S = 0) (h1 : c T = 0) : SAt w' C S T s ∧ c' S = 0 ∧ c' T = 0 :=
  ⟨h.mod z.1 (fun k hk e => e (hC k hk)) (fun e => e h0) (fun e => e h1), z.2 _ h.lt.1 h0, z.2 _ h.lt.2 h1⟩
theorem RowC.zer {w w' : World} {c c' : Nat → Nat} {e sz n cap : Nat} {A : Option Addr} {cs : List Value} (h : RowC w c 0 e sz A n cap cs) (z : Zer w c w' c') : RowC w' c' 0 e sz A n cap cs :=
  ⟨h.1.mod z.1 (fun a ha e => e (h.2 a ha)), fun a ha => by subst ha; exact z.2 _ h.1.lt (h.2 a rfl)⟩
def ptrN (N : Nat) : Value := .pointer (some ⟨N, 0, none⟩)
def ndCells (S : Nat) (n : Pr.XNd) : Array Value := #[ptrN S, sv8 n.a, sv8 n.d, sv8 n.t]
structure NAd where
  N : Nat
  S : Nat
  T : Nat
structure XK where
  W : World
  base : Nat
  C : Nat → Prop
  X : Nat
  OA : Option Addr
  oc : Nat
  od : List Nat
  bg : Nat
def NdAt (w : World) (c : Nat → Nat) (C : Nat → Prop) (q : NAd) (n : Pr.XNd) : Prop :=
  BlkC w c 5 q.N (.cells (ndCells q.S n) 194 (0, 0)) ∧ SAt w C q.S q.T n.s ∧ c q.S = 0 ∧ c q.T = 0
theorem NdAt.stay {j : Nat} {w w' : World} {c c' : Nat → Nat} {C : Nat → Prop} {q : NAd} {n : Pr.XNd} (h : NdAt w c C q n) (k : Chg j c w c' w') (h5 : j ≠ 5) (h0 : j ≠ 0) (hC : ∀ k, C k → c k = 0) : NdAt w' c' C q n :=
  ⟨h.1.stay k (Ne.symm h5), h.2.1.zer (Zer.of k h0) hC h.2.2.1 h.2.2.2⟩
def Nds (w : World) (c : Nat → Nat) (C : Nat → Prop) (Q : List NAd) (p : List Pr.XNd) : Prop := Q.length = p.length ∧ (Q.map NAd.N).Nodup ∧ ∀ (i : Nat) (q : NAd) (n : Pr.XNd), Q[i]? = some q → p[i]? = some n → NdAt w c C q n
theorem Nds.stay {j : Nat} {w w' : World} {c c' : Nat → Nat} {C : Nat → Prop} {Q : List NAd} {p : List Pr.XNd} (h : Nds w c C Q p) (k : Chg j c w c' w') (h5 : j ≠ 5) (h0 : j ≠ 0) (hC : ∀ k, C k → c k = 0) : Nds w' c' C Q p :=
  ⟨h.1, h.2.1, fun i q n hq hn => (h.2.2 i q n hq hn).stay k h5 h0 hC⟩
theorem Nds.snoc {w : World} {c : Nat → Nat} {C : Nat → Prop} {Q : List NAd} {p : List Pr.XNd} (h : Nds w c C Q p) {q : NAd} {n : Pr.XNd} (hq : NdAt w c C q n) (hne : q.N ∉ Q.map NAd.N) : Nds w c C (Q ++ [q]) (p ++ [n]) := by
  obtain ⟨h1, h2, h3⟩ := h
  refine ⟨by simp [h1], by rw [List.map_append]; exact List.nodup_append.2 ⟨h2, by simp, fun a ha b hb => by simp at hb; subst hb; exact fun e => hne (e ▸ ha)⟩, fun i q' n' hq' hn' => ?_⟩
  by_cases hi : i < Q.length
  · rw [List.getElem?_append_left hi] at hq'
    rw [List.getElem?_append_left (by omega)] at hn'
    exact h3 i q' n' hq' hn'
  · rw [List.getElem?_append_right (by omega)] at hq'
    rw [List.getElem?_append_right (by omega)] at hn'
    rw [h1] at hq'
    obtain hz | ⟨z, hz⟩ : i - p.length = 0 ∨ ∃ z, i - p.length = z + 1 := by
      cases hh : i - p.length with
      | zero => exact .inl rfl
      | succ z => exact .inr ⟨z, rfl⟩
    · rw [hz] at hq' hn'
      simp only [List.getElem?_cons_zero, Option.some.injEq] at hq' hn'
      subst hq'; subst hn'
      exact hq
    · rw [hz] at hq'
      simp at hq'
theorem Nds.dropLast {w : World} {c : Nat → Nat} {C : Nat → Prop} {Q : List NAd} {p : List Pr.XNd} (h : Nds w c C Q p) : Nds w c C Q.dropLast p.dropLast := by
  obtain ⟨h1, h2, h3⟩ := h
  have hq : ∀ {α : Type} (l : List α) (i : Nat) (x : α), l.dropLast[i]? = some x → l[i]? = some x := fun l i x hx => by
    rw [List.dropLast_eq_take, List.getElem?_take] at hx
    split at hx
    · exact hx
    · cases hx
  refine ⟨by simp [h1], ?_, fun i q n hi hn => h3 i q n (hq Q i q hi) (hq p i n hn)⟩
  rw [List.map_dropLast]
  exact h2.sublist (List.dropLast_sublist _)
theorem Nds.set {w w' : World} {c : Nat → Nat} {C : Nat → Prop} {Q : List NAd} {p : List Pr.XNd} (h : Nds w c C Q p) (hC : ∀ k, C k → c k = 0) {i : Nat} {q : NAd} {n n' : Pr.XNd} (hq : Q[i]? = some q) (hn : p[i]? = some n) (hm : Mod (fun k => k = q.N) w w')
    (hb : w'.heap[q.N]? = some (.cells (ndCells q.S n') 194 (0, 0))) (hs : n'.s = n.s) : Nds w' (paint c w.heap.size 5) C Q (p.set i n') ∧ Chg 5 c w (paint c w.heap.size 5) w' := by
  obtain ⟨h1, h2, h3⟩ := h
  have hN := h3 i q n hq hn
  have hk : Chg 5 c w (paint c w.heap.size 5) w' := .mod 5 (hm.mono fun k _ e => e ▸ hN.1.2)
  refine ⟨⟨by rw [List.length_set]; exact h1, h2, fun j q' m hj hm' => ?_⟩, hk⟩
  by_cases hij : i = j
  · subst hij
    rw [hq] at hj
    injection hj with hj
    subst hj
    rw [List.getElem?_set_self (by obtain ⟨hl, _⟩ := List.getElem?_eq_some_iff.1 hn; exact hl)] at hm'
    injection hm' with hm'
    subst hm'
    refine ⟨⟨hb, (hk.2 _ hN.1.lt).trans hN.1.2⟩, ?_⟩
    rw [hs]
    exact hN.2.1.zer (Zer.of hk (by decide)) hC hN.2.2.1 hN.2.2.2
  · rw [List.getElem?_set_ne hij] at hm'
    have hJ := h3 j q' m hj hm'
    have hne : q'.N ≠ q.N := fun e => by
      have h5 : (Q.map NAd.N)[i]? = (Q.map NAd.N)[j]? := by rw [List.getElem?_map, List.getElem?_map, hq, hj]; simp [e]
      have hil : i < (Q.map NAd.N).length := by rw [List.length_map]; exact (List.getElem?_eq_some_iff.1 hq).1
      exact hij ((List.getElem?_inj hil h2).1 h5)
    exact ⟨⟨(hm.block _ hJ.1.lt hne).trans hJ.1.1, (hk.2 _ hJ.1.lt).trans hJ.1.2⟩, hJ.2.1.zer (Zer.of hk (by decide)) hC hJ.2.2.1 hJ.2.2.2⟩
def xOf (K : XK) (x : Pr.Sx) (PA : Option Addr) (pc : Nat) (EA : Option Addr) (ec : Nat) (KA : Option Addr) (kc : Nat) : Array Value :=
  xCells (.slice PA x.path.length pc) (.slice EA x.ev.length ec) K.OA K.od.length K.oc x.ch (.int .i64 (K.bg : Int)) (.slice KA x.keys.length kc) (.int .i64 (x.nodes : Int)) (.int .i64 (x.runs : Int)) (.int .i64 (x.blk : Int)) (.bool false)
structure XA (K : XK) (w : World) (c : Nat → Nat) (x : Pr.Sx) (PA : Option Addr) (pc : Nat) (EA : Option Addr) (ec : Nat) (KA : Option Addr) (kc : Nat) (Q : List NAd) : Prop where
  fr : Fr K.base c K.W w
  cb : ∀ k, K.C k → k < K.base
  blk : BlkC w c 1 K.X (.cells (xOf K x PA pc EA ec KA kc) 135 (0, 0))
  path : RowC w c 2 192 1 PA x.path.length pc (Q.map fun q => ptrN q.N)
  ev : RowC w c 3 51 4 EA x.ev.length ec (x.ev.flatMap encE)
  keys : RowC w c 4 9 1 KA x.keys.length kc (x.keys.map sv)
  nds : Nds w c K.C Q x.path
section
variable {K : XK} {w w' : World} {c c' : Nat → Nat} {x : Pr.Sx} {PA EA KA : Option Addr} {pc ec kc : Nat} {Q : List NAd}
theorem XA.c0 (h : XA K w c x PA pc EA ec KA kc Q) : ∀ k, K.C k → c k = 0 := fun k hk => h.fr.2.2 k (h.cb k hk)
theorem XA.grow (h : XA K w c x PA pc EA ec KA kc Q) (k : Chg 9 c w c' w') : XA K w' c' x PA pc EA ec KA kc Q ∧ Zer w c w' c' :=
  ⟨⟨h.fr.step k (by decide), h.cb, h.blk.stay k (by decide), h.path.stay k (by decide), h.ev.stay k (by decide), h.keys.stay k (by decide), h.nds.stay k (by decide) (by decide) h.c0⟩, Zer.of k (by decide)⟩
theorem XA.below (h : XA K w c x PA pc EA ec KA kc Q) (hb : Below w.heap.size w w') : XA K w' (paint c w.heap.size 0) x PA pc EA ec KA kc Q ∧ Zer w c w' (paint c w.heap.size 0) := h.grow (Chg.below 9 0 hb)
theorem XA.look (h : XA K w c x PA pc EA ec KA kc Q) : (w.cell? ⟨K.X, 0, none⟩ = some (.slice PA x.path.length pc) ∧ w.cell? ⟨K.X, 1, none⟩ = some (.slice EA x.ev.length ec) ∧ w.cell? ⟨K.X, 4, none⟩ = some (.int .i64 (K.bg : Int)) ∧ w.cell? ⟨K.X, 5, none⟩ = some (.slice KA x.keys.length kc)) ∧
    (w.cell? ⟨K.X, 6, none⟩ = some (.int .i64 (x.nodes : Int)) ∧ w.cell? ⟨K.X, 7, none⟩ = some (.int .i64 (x.runs : Int)) ∧ w.cell? ⟨K.X, 8, none⟩ = some (.int .i64 (x.blk : Int))) ∧ K.X < w.heap.size ∧ ∀ j, w.frozen? ⟨K.X, j, none⟩ = false :=
  ⟨⟨h.blk.cell 0, h.blk.cell 1, h.blk.cell 4, h.blk.cell 5⟩, ⟨h.blk.cell 6, h.blk.cell 7, h.blk.cell 8⟩, h.blk.lt, fun j => h.blk.free j⟩
theorem XA.off (h : XA K w c x PA pc EA ec KA kc Q) {F : Nat → Prop} (hm : Mod F w w') (hF : ∀ k, F k → c k ≠ 1) : K.X < w'.heap.size ∧ (∀ j, w'.frozen? ⟨K.X, j, none⟩ = false) ∧ ∀ j, w'.cell? ⟨K.X, j, none⟩ = (xOf K x PA pc EA ec KA kc)[j]? := by
  have hb : w'.heap[K.X]? = _ := (hm.block _ h.blk.lt (fun e => hF _ e h.blk.2)).trans h.blk.1
  exact ⟨blk_lt hb, fun j => free_blk hb j, fun j => cell_blk hb j⟩
theorem XA.offP (h : XA K w c x PA pc EA ec KA kc Q) (hm : Mod (fun k => ∃ a, PA = some a ∧ k = a.block) w w') : K.X < w'.heap.size ∧ w'.frozen? ⟨K.X, 0, none⟩ = false ∧ w'.cell? ⟨K.X, 0, none⟩ = some (.slice PA x.path.length pc) :=
  have hh := h.off hm fun k ⟨a, e1, e2⟩ e => by have := h.path.2 a e1; rw [← e2, e] at this; cases this
  ⟨hh.1, hh.2.1 _, hh.2.2 _⟩
theorem XA.offE (h : XA K w c x PA pc EA ec KA kc Q) (hm : Mod (fun k => ∃ a, EA = some a ∧ k = a.block) w w') : K.X < w'.heap.size ∧ w'.frozen? ⟨K.X, 1, none⟩ = false ∧ w'.cell? ⟨K.X, 1, none⟩ = some (.slice EA x.ev.length ec) :=
  have hh := h.off hm fun k ⟨a, e1, e2⟩ e => by have := h.ev.2 a e1; rw [← e2, e] at this; cases this
  ⟨hh.1, hh.2.1 _, hh.2.2 _⟩
theorem XA.offK (h : XA K w c x PA pc EA ec KA kc Q) (hm : Mod (fun k => ∃ a, KA = some a ∧ k = a.block) w w') : K.X < w'.heap.size ∧ w'.frozen? ⟨K.X, 5, none⟩ = false ∧ w'.cell? ⟨K.X, 5, none⟩ = some (.slice KA x.keys.length kc) :=
  have hh := h.off hm fun k ⟨a, e1, e2⟩ e => by have := h.keys.2 a e1; rw [← e2, e] at this; cases this
  ⟨hh.1, hh.2.1 _, hh.2.2 _⟩
theorem XA.nodeAt (h : XA K w c x PA pc EA ec KA kc Q) {i : Nat} {n : Pr.XNd} (hn : x.path[i]? = some n) : ∃ q, Q[i]? = some q ∧ NdAt w c K.C q n ∧ ∃ g o, PA = some ⟨g, o, none⟩ ∧ g < w.heap.size ∧ w.cell? ⟨g, o + i, none⟩ = some (ptrN q.N) := by
  obtain ⟨hi, _⟩ := List.getElem?_eq_some_iff.1 hn
  have hl := h.nds.1
  obtain ⟨q, hq⟩ := get_some (show i < Q.length by omega)
  obtain ⟨g, o, rfl⟩ := h.path.1.some_of_pos (by have := h.path.1.2.1; omega)
  refine ⟨q, hq, h.nds.2.2 i q n hq hn, g, o, rfl, h.path.1.lt, ?_⟩
  rw [h.path.1.cell i (by omega), List.getElem?_map, hq]
  rfl
theorem NdAt.look {C : Nat → Prop} {q : NAd} {n : Pr.XNd} (h : NdAt w c C q n) : (w.cell? ⟨q.N, 0, none⟩ = some (.pointer (some ⟨q.S, 0, none⟩)) ∧ w.cell? ⟨q.N, 1, none⟩ = some (.int .u8 (n.a.toNat : Int)) ∧ w.cell? ⟨q.N, 2, none⟩ = some (.int .u8 (n.d.toNat : Int)) ∧ w.cell? ⟨q.N, 3, none⟩ = some (.int .u8 (n.t.toNat : Int))) ∧ q.N < w.heap.size ∧ ∀ j, w.frozen? ⟨q.N, j, none⟩ = false :=
  ⟨⟨h.1.cell 0, h.1.cell 1, h.1.cell 2, h.1.cell 3⟩, h.1.lt, fun j => h.1.free j⟩
theorem XA.setX (h : XA K w c x PA pc EA ec KA kc Q) (j : Nat) (v : Value) (x' : Pr.Sx) (hp : x'.path = x.path) (he : x'.ev = x.ev) (hk : x'.keys = x.keys) (hc : (xOf K x PA pc EA ec KA kc).setIfInBounds j v = xOf K x' PA pc EA ec KA kc) :
    XA K (w.setCell ⟨K.X, j, none⟩ v) (paint c w.heap.size 1) x' PA pc EA ec KA kc Q ∧ Zer w c (w.setCell ⟨K.X, j, none⟩ v) (paint c w.heap.size 1) := by
  obtain ⟨hb, k⟩ := h.blk.set j v
  rw [hc] at hb
  exact ⟨⟨h.fr.step k (by decide), h.cb, hb, by rw [hp]; exact h.path.stay k (by decide), by rw [he]; exact h.ev.stay k (by decide), by rw [hk]; exact h.keys.stay k (by decide), by rw [hp]; exact h.nds.stay k (by decide) (by decide) h.c0⟩, Zer.of k (by decide)⟩
theorem XA.modX (h : XA K w c x PA pc EA ec KA kc Q) (x' : Pr.Sx) (hp : x'.path = x.path) (he : x'.ev = x.ev) (hk : x'.keys = x.keys) (hm : Mod (fun q => q = K.X) w w') (hb : w'.heap[K.X]? = some (.cells (xOf K x' PA pc EA ec KA kc) 135 (0, 0))) :
    XA K w' (paint c w.heap.size 1) x' PA pc EA ec KA kc Q ∧ Zer w c w' (paint c w.heap.size 1) := by
  have k : Chg 1 c w (paint c w.heap.size 1) w' := .mod 1 (hm.mono fun q _ e => e ▸ h.blk.2)
  exact ⟨⟨h.fr.step k (by decide), h.cb, ⟨hb, (k.2 _ h.blk.lt).trans h.blk.2⟩, by rw [hp]; exact h.path.stay k (by decide), by rw [he]; exact h.ev.stay k (by decide), by rw [hk]; exact h.keys.stay k (by decide), by rw [hp]; exact h.nds.stay k (by decide) (by decide) h.c0⟩, Zer.of k (by decide)⟩
theorem XA.node (h : XA K w c x PA pc EA ec KA kc Q) {i : Nat} {q : NAd} {n n' : Pr.XNd} (hq : Q[i]? = some q) (hn : x.path[i]? = some n) (j : Nat) (v : Value) (hs : n'.s = n.s) (hc : (ndCells q.S n).setIfInBounds j v = ndCells q.S n') :
    XA K (w.setCell ⟨q.N, j, none⟩ v) (paint c w.heap.size 5) { x with path := x.path.set i n' } PA pc EA ec KA kc Q ∧ Zer w c (w.setCell ⟨q.N, j, none⟩ v) (paint c w.heap.size 5) := by
  have hN := h.nds.2.2 i q n hq hn
  have hb := set_blk hN.1.1 j v
  rw [hc] at hb
  have hm : Mod (fun k => k = q.N) w (w.setCell ⟨q.N, j, none⟩ v) := (Mod.refl (fun k => k = q.N) w).setCell (p := ⟨q.N, j, none⟩) (fun _ => rfl) v
  obtain ⟨hnd, k⟩ := h.nds.set h.c0 hq hn hm hb hs
  have hl : (x.path.set i n').length = x.path.length := List.length_set ..
  refine ⟨⟨h.fr.step k (by decide), h.cb, ?_, ?_, h.ev.stay k (by decide), h.keys.stay k (by decide), hnd⟩, Zer.of k (by decide)⟩
  · have := h.blk.stay k (by decide)
    unfold xOf at this ⊢
    simp only [hl]
    exact this
  · have := h.path.stay k (by decide)
    simp only [hl]
    exact this
theorem XA.pushN (h : XA K w c x PA pc EA ec KA kc Q) {q : NAd} {n : Pr.XNd} (hq : NdAt w c K.C q n) (hne : q.N ∉ Q.map NAd.N) {w9 w10 : World} {A9 : Option Addr} {c9 : Nat} (hr : Row w9 192 1 A9 (x.path.length + 1) c9 ((Q.map fun q => ptrN q.N) ++ [ptrN q.N]))
    (hm : Mod (fun k => ∃ a, PA = some a ∧ k = a.block) w w9) (hat : ∀ a', A9 = some a' → (∃ a, PA = some a ∧ a'.block = a.block) ∨ w.heap.size ≤ a'.block) (hb : Below w9.heap.size w9 w10) :
    ∃ c', XA K (w10.setCell ⟨K.X, 0, none⟩ (.slice A9 (x.path.length + 1) c9)) c' { x with path := x.path ++ [n] } A9 c9 EA ec KA kc (Q ++ [q]) ∧ Zer w c (w10.setCell ⟨K.X, 0, none⟩ (.slice A9 (x.path.length + 1) c9)) c' := by
  obtain ⟨hr9, k9⟩ := h.path.put hr hm hat
  have k10 := Chg.below (c := paint c w.heap.size 2) 9 0 hb
  have c09 : ∀ k, K.C k → paint c w.heap.size 2 k = 0 := fun k hk => (h.fr.step k9 (by decide)).2.2 k (h.cb k hk)
  have c010 : ∀ k, K.C k → paint (paint c w.heap.size 2) w9.heap.size 0 k = 0 := fun k hk => ((h.fr.step k9 (by decide)).step k10 (by decide)).2.2 k (h.cb k hk)
  obtain ⟨hx, kx⟩ := ((h.blk.stay k9 (by decide)).stay k10 (by decide)).set 0 (.slice A9 (x.path.length + 1) c9)
  have hnd : Nds w c K.C (Q ++ [q]) (x.path ++ [n]) := h.nds.snoc hq hne
  refine ⟨_, ⟨((h.fr.step k9 (by decide)).step k10 (by decide)).step kx (by decide), h.cb, ?_, ?_, ((h.ev.stay k9 (by decide)).stay k10 (by decide)).stay kx (by decide), ((h.keys.stay k9 (by decide)).stay k10 (by decide)).stay kx (by decide), ((hnd.stay k9 (by decide) (by decide) h.c0).stay k10 (by decide) (by decide) c09).stay kx (by decide) (by decide) c010⟩, ((Zer.of k9 (by decide)).trans (Zer.of k10 (by decide))).trans (Zer.of kx (by decide))⟩
  · have e : (xOf K x PA pc EA ec KA kc).setIfInBounds 0 (.slice A9 (x.path.length + 1) c9) = xOf K { x with path := x.path ++ [n] } A9 c9 EA ec KA kc := by simp [xOf, xCells]
    rw [e] at hx
    exact hx
  · have := (hr9.stay k10 (by decide)).stay kx (by decide)
    simp only [List.length_append, List.length_cons, List.length_nil, List.map_append, List.map_cons, List.map_nil]
    exact this
theorem XA.pushE (h : XA K w c x PA pc EA ec KA kc Q) {e : Ev} {w9 w10 : World} {A9 : Option Addr} {c9 : Nat} (hr : Row w9 51 4 A9 (x.ev.length + 1) c9 (x.ev.flatMap encE ++ encE e))
    (hm : Mod (fun k => ∃ a, EA = some a ∧ k = a.block) w w9) (hat : ∀ a', A9 = some a' → (∃ a, EA = some a ∧ a'.block = a.block) ∨ w.heap.size ≤ a'.block) (hb : Below w9.heap.size w9 w10) :
    ∃ c', XA K (w10.setCell ⟨K.X, 1, none⟩ (.slice A9 (x.ev.length + 1) c9)) c' { x with ev := x.ev ++ [e] } PA pc A9 c9 KA kc Q ∧ Zer w c (w10.setCell ⟨K.X, 1, none⟩ (.slice A9 (x.ev.length + 1) c9)) c' := by
  obtain ⟨hr9, k9⟩ := h.ev.put hr hm hat
  have k10 := Chg.below (c := paint c w.heap.size 3) 9 0 hb
  have c09 : ∀ k, K.C k → paint c w.heap.size 3 k = 0 := fun k hk => (h.fr.step k9 (by decide)).2.2 k (h.cb k hk)
  have c010 : ∀ k, K.C k → paint (paint c w.heap.size 3) w9.heap.size 0 k = 0 := fun k hk => ((h.fr.step k9 (by decide)).step k10 (by decide)).2.2 k (h.cb k hk)
  obtain ⟨hx, kx⟩ := ((h.blk.stay k9 (by decide)).stay k10 (by decide)).set 1 (.slice A9 (x.ev.length + 1) c9)
  refine ⟨_, ⟨((h.fr.step k9 (by decide)).step k10 (by decide)).step kx (by decide), h.cb, ?_, ((h.path.stay k9 (by decide)).stay k10 (by decide)).stay kx (by decide), ?_, ((h.keys.stay k9 (by decide)).stay k10 (by decide)).stay kx (by decide), ((h.nds.stay k9 (by decide) (by decide) h.c0).stay k10 (by decide) (by decide) c09).stay kx (by decide) (by decide) c010⟩, ((Zer.of k9 (by decide)).trans (Zer.of k10 (by decide))).trans (Zer.of kx (by decide))⟩
  · have e : (xOf K x PA pc EA ec KA kc).setIfInBounds 1 (.slice A9 (x.ev.length + 1) c9) = xOf K { x with ev := x.ev ++ [e] } PA pc A9 c9 KA kc := by simp [xOf, xCells]
    rw [e] at hx
    exact hx
  · have := (hr9.stay k10 (by decide)).stay kx (by decide)
    simp only [List.length_append, List.length_cons, List.length_nil, List.flatMap_append, List.flatMap_cons, List.flatMap_nil, List.append_nil]
    exact this
theorem XA.pushK (h : XA K w c x PA pc EA ec KA kc Q) {k0 : Ky.K} {w9 w10 : World} {A9 : Option Addr} {c9 : Nat} (hr : Row w9 9 1 A9 (x.keys.length + 1) c9 (x.keys.map sv ++ [sv k0]))
    (hm : Mod (fun k => ∃ a, KA = some a ∧ k = a.block) w w9) (hat : ∀ a', A9 = some a' → (∃ a, KA = some a ∧ a'.block = a.block) ∨ w.heap.size ≤ a'.block) (hb : Below w9.heap.size w9 w10) :
    ∃ c', XA K (w10.setCell ⟨K.X, 5, none⟩ (.slice A9 (x.keys.length + 1) c9)) c' { x with keys := x.keys ++ [k0] } PA pc EA ec A9 c9 Q ∧ Zer w c (w10.setCell ⟨K.X, 5, none⟩ (.slice A9 (x.keys.length + 1) c9)) c' := by
  obtain ⟨hr9, k9⟩ := h.keys.put hr hm hat
  have k10 := Chg.below (c := paint c w.heap.size 4) 9 0 hb
  have c09 : ∀ k, K.C k → paint c w.heap.size 4 k = 0 := fun k hk => (h.fr.step k9 (by decide)).2.2 k (h.cb k hk)
  have c010 : ∀ k, K.C k → paint (paint c w.heap.size 4) w9.heap.size 0 k = 0 := fun k hk => ((h.fr.step k9 (by decide)).step k10 (by decide)).2.2 k (h.cb k hk)
  obtain ⟨hx, kx⟩ := ((h.blk.stay k9 (by decide)).stay k10 (by decide)).set 5 (.slice A9 (x.keys.length + 1) c9)
  refine ⟨_, ⟨((h.fr.step k9 (by decide)).step k10 (by decide)).step kx (by decide), h.cb, ?_, ((h.path.stay k9 (by decide)).stay k10 (by decide)).stay kx (by decide), ((h.ev.stay k9 (by decide)).stay k10 (by decide)).stay kx (by decide), ?_, ((h.nds.stay k9 (by decide) (by decide) h.c0).stay k10 (by decide) (by decide) c09).stay kx (by decide) (by decide) c010⟩, ((Zer.of k9 (by decide)).trans (Zer.of k10 (by decide))).trans (Zer.of kx (by decide))⟩
  · have e : (xOf K x PA pc EA ec KA kc).setIfInBounds 5 (.slice A9 (x.keys.length + 1) c9) = xOf K { x with keys := x.keys ++ [k0] } PA pc EA ec A9 c9 := by simp [xOf, xCells]
    rw [e] at hx
    exact hx
  · have := (hr9.stay k10 (by decide)).stay kx (by decide)
    simp only [List.length_append, List.length_cons, List.length_nil, List.map_append, List.map_cons, List.map_nil]
    exact this
theorem evFlat_len : ∀ l : List Ev, (l.flatMap encE).length = l.length * 4
  | [] => rfl
  | e :: l => by rw [List.flatMap_cons, List.length_append, evFlat_len l, List.length_cons, Nat.succ_mul, Nat.add_comm]; rfl
theorem flat_dropLast (l : List Ev) : (l.flatMap encE).take ((l.length - 1) * 4) = l.dropLast.flatMap encE := by
  rcases List.eq_nil_or_concat l with rfl | ⟨L, b, rfl⟩
  · rfl
  · have hL : (L.flatMap encE).length = L.length * 4 := evFlat_len L
    simp only [List.concat_eq_append, List.length_append, List.length_cons, List.length_nil, List.flatMap_append, List.dropLast_concat, Nat.add_sub_cancel]
    rw [List.take_append_of_le_length (by omega), List.take_of_length_le (by omega)]
theorem XA.popP (h : XA K w c x PA pc EA ec KA kc Q) : XA K (w.setCell ⟨K.X, 0, none⟩ (.slice PA (x.path.length - 1) pc)) (paint c w.heap.size 1) { x with path := x.path.dropLast } PA pc EA ec KA kc Q.dropLast := by
  obtain ⟨hb, k⟩ := h.blk.set 0 (.slice PA (x.path.length - 1) pc)
  have e : (xOf K x PA pc EA ec KA kc).setIfInBounds 0 (.slice PA (x.path.length - 1) pc) = xOf K { x with path := x.path.dropLast } PA pc EA ec KA kc := by simp [xOf, xCells]
  rw [e] at hb
  refine ⟨h.fr.step k (by decide), h.cb, hb, ?_, h.ev.stay k (by decide), h.keys.stay k (by decide), (h.nds.stay k (by decide) (by decide) h.c0).dropLast⟩
  obtain ⟨hr, hc⟩ := h.path.stay k (by decide)
  refine ⟨?_, hc⟩
  have := hr.take (k := x.path.length - 1) (by omega)
  rw [Nat.mul_one] at this
  simp only [List.length_dropLast]
  rw [List.map_dropLast, List.dropLast_eq_take, List.length_map, h.nds.1]
  exact this
theorem XA.popE (h : XA K w c x PA pc EA ec KA kc Q) : XA K (w.setCell ⟨K.X, 1, none⟩ (.slice EA (x.ev.length - 1) ec)) (paint c w.heap.size 1) { x with ev := x.ev.dropLast } PA pc EA ec KA kc Q := by
  obtain ⟨hb, k⟩ := h.blk.set 1 (.slice EA (x.ev.length - 1) ec)
  have e : (xOf K x PA pc EA ec KA kc).setIfInBounds 1 (.slice EA (x.ev.length - 1) ec) = xOf K { x with ev := x.ev.dropLast } PA pc EA ec KA kc := by simp [xOf, xCells]
  rw [e] at hb
  refine ⟨h.fr.step k (by decide), h.cb, hb, h.path.stay k (by decide), ?_, h.keys.stay k (by decide), h.nds.stay k (by decide) (by decide) h.c0⟩
  obtain ⟨hr, hc⟩ := h.ev.stay k (by decide)
  refine ⟨?_, hc⟩
  have := hr.take (k := x.ev.length - 1) (by omega)
  rw [flat_dropLast] at this
  simp only [List.length_dropLast]
  exact this
end
end Go.Proofs.YtckdofjpoajblaaGreat
namespace Go.Proofs.YtckdofjpoajblaaGreat
open Bs
set_option linter.unusedVariables false
namespace Pr
theorem has_bitsE {l : List Ev} (h : ∀ e ∈ l, e.t.toNat < 8) (q : Nat) : has (bitsE l) q = true ↔ ∃ f ∈ l, f.t.toNat = q := by
  unfold bitsE
  rw [has_of _ _ (fun t ht => by obtain ⟨e, he, rfl⟩ := List.mem_map.1 ht; exact h e he), decide_eq_true_eq, List.mem_map]
theorem has_child {s : St} {a d : BitVec 8} {t : Nat} {e : Ev} (he : next s t = some e) (q : Nat) : has (childOf s a d t) q = true ↔ (has a q = true ∨ has d q = true) ∧ ∃ f, next s q = some f ∧ Fo.dep f e = false := by
  unfold childOf
  rw [he]
  simp only
  rw [has_of _ _ (fun u hu => by
    have h1 := mem_all.1 (List.mem_filter.1 hu).1
    exact Classical.byContradiction fun hc => by rw [has_big (by omega)] at h1; cases h1), decide_eq_true_eq, List.mem_filter, mem_all, has_sub, has_or, has_bit]
  unfold apartB
  constructor
  · rintro ⟨h1, h2⟩
    rw [Bool.and_eq_true, Bool.or_eq_true] at h1
    refine ⟨h1.1, ?_⟩
    cases hn : next s q with
    | none => rw [hn] at h2; cases h2
    | some f => rw [hn] at h2; exact ⟨f, rfl, by simpa using h2⟩
  · rintro ⟨h1, f, hf, hd⟩
    rw [hf]
    refine ⟨?_, by simp [hd]⟩
    have hqt : t ≠ q := fun hh => by
      subst hh
      rw [he] at hf
      injection hf with hf
      rw [hf, Fo.dep_thread rfl] at hd
      cases hd
    rw [Bool.and_eq_true, Bool.or_eq_true]
    exact ⟨h1, by simp [hqt]⟩
def gInto (g : Gh) (z : List Ev) (e : Ev) (c : BitVec 8) : Gh := { H := g.H ++ [z ++ [e]], dn := upd g.dn z (g.dn z ++ [e]), sl := upd g.sl (z ++ [e]) c, td := g.td }
theorem upd_same {α : Type} (f : List Ev → α) (z : List Ev) (v : α) : upd f z v z = v := if_pos rfl
theorem upd_ne {α : Type} (f : List Ev → α) {z y : List Ev} (v : α) (h : y ≠ z) : upd f z v y = f y := if_neg h
theorem snoc_ne (z : List Ev) (e : Ev) : z ++ [e] ≠ z := fun h => by
  have := congrArg List.length h
  simp at this
theorem TreeG.into {s0 : St} {g : Gh} {z : List Ev} {e : Ev} (h : TreeG s0 g) (hout : ∀ y, y ∉ g.H → g.dn y = []) (hz : z ∈ g.H) (hen : enabled (at_ s0 z) e.t.toNat = true) (hn : next (at_ s0 z) e.t.toNat = some e)
    (hsl : has (g.sl z) e.t.toNat = false) (hnd : ∀ f ∈ g.dn z, f.t.toNat ≠ e.t.toNat) (h8 : ∀ f ∈ g.dn z, f.t.toNat < 8) :
    TreeG s0 (gInto g z e (childOf (at_ s0 z) (g.sl z) (bitsE (g.dn z)) e.t.toNat)) ∧ z ++ [e] ∉ g.H := by
  have hnew : z ++ [e] ∉ g.H := fun hc => hnd e (h.pre hc).2 rfl
  have hzn : z ≠ z ++ [e] := fun hc => snoc_ne z e hc.symm
  have hdz : upd g.dn z (g.dn z ++ [e]) (z ++ [e]) = [] := by rw [upd_ne _ _ (snoc_ne z e)]; exact hout _ hnew
  refine ⟨⟨?_, ?_, ?_, ?_, ?_, ?_, ?_, ?_⟩, hnew⟩
  · exact List.mem_append_left _ h.root
  · exact List.nodup_append.2 ⟨h.nodup, by simp, fun a ha b hb => by rw [List.mem_singleton] at hb; subst hb; exact fun hh => hnew (hh ▸ ha)⟩
  · intro y f hy
    rcases List.mem_append.1 hy with hy | hy
    · obtain ⟨h1, h2⟩ := h.pre hy
      refine ⟨List.mem_append_left _ h1, ?_⟩
      show f ∈ upd g.dn z _ y
      by_cases hyz : y = z
      · subst hyz; rw [upd_same]; exact List.mem_append_left _ h2
      · rw [upd_ne _ _ hyz]; exact h2
    · rw [List.mem_singleton] at hy
      obtain ⟨rfl, h2⟩ := List.append_inj' hy rfl
      injection h2 with h2
      subst h2
      exact ⟨List.mem_append_left _ hz, by show f ∈ upd g.dn y _ y; rw [upd_same]; simp⟩
  · intro y f hy hf
    have hf' : f ∈ upd g.dn z (g.dn z ++ [e]) y := hf
    by_cases hyz : y = z
    · subst hyz
      rw [upd_same] at hf'
      rcases List.mem_append.1 hf' with h1 | h1
      · exact List.mem_append_left _ (h.kid hz h1)
      · rw [List.mem_singleton] at h1; subst h1; exact List.mem_append_right _ (by simp)
    · rcases List.mem_append.1 hy with hy | hy
      · rw [upd_ne _ _ hyz] at hf'; exact List.mem_append_left _ (h.kid hy hf')
      · rw [List.mem_singleton] at hy; subst hy; rw [hdz] at hf'; cases hf'
  · intro y f hy hf
    have hf' : f ∈ upd g.dn z (g.dn z ++ [e]) y := hf
    show _ ∧ _ ∧ has (upd g.sl (z ++ [e]) _ y) _ = false
    by_cases hyz : y = z
    · subst hyz
      rw [upd_same] at hf'
      rw [upd_ne _ _ hzn]
      rcases List.mem_append.1 hf' with h1 | h1
      · exact h.can hz h1
      · rw [List.mem_singleton] at h1; subst h1; exact ⟨hen, hn, hsl⟩
    · rcases List.mem_append.1 hy with hy | hy
      · rw [upd_ne _ _ hyz] at hf'
        rw [upd_ne _ _ (fun hh => hnew (by rw [← hh]; exact hy))]
        exact h.can hy hf'
      · rw [List.mem_singleton] at hy; subst hy; rw [hdz] at hf'; cases hf'
  · intro y hy
    show ((upd g.dn z (g.dn z ++ [e]) y).map fun e => e.t.toNat).Nodup
    by_cases hyz : y = z
    · subst hyz
      rw [upd_same, List.map_append]
      refine List.nodup_append.2 ⟨h.dnd hz, by simp, fun a ha b hb => ?_⟩
      obtain ⟨f, hf, rfl⟩ := List.mem_map.1 ha
      simp only [List.map_cons, List.map_nil, List.mem_singleton] at hb
      rw [hb]
      exact hnd f hf
    · rcases List.mem_append.1 hy with hy | hy
      · rw [upd_ne _ _ hyz]; exact h.dnd hy
      · rw [List.mem_singleton] at hy; subst hy; rw [hdz]; simp
  · show upd g.sl (z ++ [e]) _ [] = 0#8
    rw [upd_ne _ _ (by simp)]
    exact h.slp0
  · intro y f a b hy hab hk q
    have hab' : upd g.dn z (g.dn z ++ [e]) y = a ++ f :: b := hab
    show has (upd g.sl (z ++ [e]) _ (y ++ [f])) q = true ↔ (has (upd g.sl (z ++ [e]) _ y) q = true ∨ _) ∧ _
    by_cases hyz : y = z
    · subst hyz
      rw [upd_same] at hab'
      rw [upd_ne _ _ hzn]
      by_cases hfe : f = e
      · subst hfe
        -- the new one
        have hb : b = [] ∧ a = g.dn y := by
          have hfa : f ∉ a := fun hc => by
            have : f ∈ g.dn y ++ [f] := by simp
            have hnd2 : ((g.dn y ++ [f]).map fun e => e.t.toNat).Nodup := by
              rw [List.map_append]
              refine List.nodup_append.2 ⟨h.dnd hz, by simp, fun a ha b hb => ?_⟩
              obtain ⟨f', hf', rfl⟩ := List.mem_map.1 ha
              simp only [List.map_cons, List.map_nil, List.mem_singleton] at hb
              rw [hb]
              exact hnd f' hf'
            rw [hab', List.map_append, List.map_cons] at hnd2
            have := (List.nodup_append.1 hnd2).2.2 f.t.toNat (List.mem_map.2 ⟨f, hc, rfl⟩) f.t.toNat List.mem_cons_self
            exact this rfl
          rcases List.eq_nil_or_concat b with hb | ⟨b', x, hb⟩
          · subst hb
            have := List.append_inj' hab' rfl
            exact ⟨rfl, this.1.symm⟩
          · subst hb
            have h1 : g.dn y ++ [f] = (a ++ f :: b') ++ [x] := by rw [hab']; simp
            have := List.append_inj' h1 rfl
            have hm : f ∈ g.dn y := by rw [this.1]; simp
            exact (hnd f hm rfl).elim
        rw [upd_same, has_child hn, has_bitsE h8, hb.2]
      · have hfm : f ∈ g.dn y := by
          have : f ∈ g.dn y ++ [e] := by rw [hab']; simp
          rcases List.mem_append.1 this with h1 | h1
          · exact h1
          · rw [List.mem_singleton] at h1; exact (hfe h1).elim
        rw [upd_ne _ _ (fun hh => hfe (by have := List.append_inj' hh rfl; injection this.2))]
        rcases List.eq_nil_or_concat b with hb | ⟨b', x, hb⟩
        · subst hb
          have := List.append_inj' hab' rfl
          injection this.2 with h1
          exact (hfe h1.symm).elim
        · subst hb
          have h1 : g.dn y ++ [e] = (a ++ f :: b') ++ [x] := by rw [hab']; simp
          have h2 := (List.append_inj' h1 rfl).1
          exact h.slpK hz h2 (h.kid hz hfm) q
    · rcases List.mem_append.1 hy with hy | hy
      · rw [upd_ne _ _ hyz] at hab'
        have hfm : f ∈ g.dn y := by rw [hab']; simp
        rw [upd_ne _ _ (show y ++ [f] ≠ z ++ [e] from fun hh => hyz (List.append_inj' hh rfl).1), upd_ne _ _ (show y ≠ z ++ [e] from fun hh => hnew (by rw [← hh]; exact hy))]
        exact h.slpK hy hab' (h.kid hy hfm) q
      · rw [List.mem_singleton] at hy; subst hy; rw [hdz] at hab'; simp at hab'
end Pr
end Go.Proofs.YtckdofjpoajblaaGreat
