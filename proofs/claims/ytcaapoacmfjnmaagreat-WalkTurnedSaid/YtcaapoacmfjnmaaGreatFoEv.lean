/- Writing events. -/
import Derived.Test.YtcaapoacmfjnmaaGreatFoA
import Derived.Laws.BytesArg
import Derived.Lib.ConvBytes
namespace Go.Proofs.YtcaapoacmfjnmaaGreat
open Go.RowKit
set_option linter.unusedVariables false

def byteVs (bs : List UInt8) : List Value := bs.map fun b => .int .u8 b.toNat
/-- bytes of a row as a string -/
theorem conv_bytes {P : Program} {w : World} {e : TypeId} {A : Option Addr} {n cap : Nat} {bs : List UInt8} (h : Row w e 1 A n cap (byteVs bs)) (src dst : TypeId) (hs : P.underlying src = some (.slice e)) (he : P.underlying e = some (.int .u8)) (hd : P.underlying dst = some .string) :
    (convert src dst (.slice A n cap)).run P w = .ok (.string ⟨bs.toArray⟩) w := by
  have hl := h.len
  unfold byteVs at hl
  rw [List.length_map] at hl
  cases A with
  | none =>
    have h0 := h.2.2.2.1 rfl
    have h1 := h.2.1
    rw [run_convert_bytes_nil w src e hs he n cap dst hd]
    have : bs = [] := List.eq_nil_of_length_eq_zero (by omega)
    subst this
    rfl
  | some a =>
    obtain ⟨hsp, _⟩ := h.2.2.2.2 a rfl
    obtain ⟨g, o, s⟩ := a
    simp only at hsp
    subst hsp
    rw [run_convert_bytes_arg w src e hs he g o n cap (bs.map fun b => (b.toNat : Int)) (by simp; omega) (fun i hi => by
      rw [h.cell i (by omega)]
      unfold byteVs
      rw [List.getElem?_map, List.getD_eq_getElem?_getD, List.getElem?_map, List.getElem?_eq_getElem (by omega)]
      rfl) dst hd]
    congr 2
    apply ByteArray.ext
    apply Array.toList_inj.1
    rw [strOfNums_data, List.map_map]
    conv => rhs; rw [show (⟨bs.toArray⟩ : ByteArray).data.toList = bs from rfl, ← List.map_id bs]
    apply List.map_congr_left
    intro x _
    simp

/-- one append more -/
theorem acc_more {w wr w1 : World} {O : Obj} {g of : Nat} {A : Option Addr} (hA : ∀ a, A = some a → w.heap.size ≤ a.block) (hb : Below w.heap.size w wr)
    (hm : Mod (fun k => ∃ a, A = some a ∧ k = a.block) (wr.alloc O) w1) (hat : (∃ a, A = some a ∧ g = a.block) ∨ (wr.alloc O).heap.size ≤ g) :
    (∀ a, some (⟨g, of, none⟩ : Addr) = some a → w.heap.size ≤ a.block) ∧ Below w.heap.size w w1 := by
  have z := hb.size
  refine ⟨fun a ha => ?_, ?_⟩
  · injection ha with ha
    subst ha
    rcases hat with ⟨a, e1, e2⟩ | h
    · have := hA a e1; show w.heap.size ≤ g; omega
    · simp at h; show w.heap.size ≤ g; omega
  · have m1 : Mod (fun k => w.heap.size ≤ k) w wr := Mod.of_below hb
    have m2 : Mod (fun k => w.heap.size ≤ k) w (wr.alloc O) := m1.alloc O
    exact (m2.then hm (fun i hi ⟨a, e1, e2⟩ => by have := hA a e1; omega)).below _ (Nat.le_refl _) (fun k hk h => by omega)

theorem Tryz.infoU8 : (Tryz.prog.info? 5).map (fun i => (i.zero, i.size, i.bytes)) = some (some (.int .u8 0), 1, 1) := by kernel_rfl

theorem below_at {w a b : World} (h : Below w.heap.size w a) (k : Below a.heap.size a b) : Below w.heap.size w b := h.trans ⟨k.os, k.tape, k.output, k.size, fun i hi => k.block i (by have := h.size; omega)⟩
theorem bytes_take {l : List Ev} {k : Nat} (hk : k < l.length) : Fo.bytes (l.take (k + 1)) = Fo.bytes (l.take k) ++ [Fo.byteU l[k]] := by
  unfold Fo.bytes
  rw [List.take_add_one, List.getElem?_eq_getElem hk, List.map_append]
  rfl
theorem bytes_take_len {l : List Ev} {k : Nat} (hk : k ≤ l.length) : (Fo.bytes (l.take k)).length = k := by unfold Fo.bytes; simp; omega

theorem Row.alloc {w : World} {e sz : Nat} {A : Option Addr} {n cap : Nat} {cs : List Value} (h : Row w e sz A n cap cs) (O : Obj) : Row (w.alloc O) e sz A n cap cs :=
  h.move (fun a ha => by subst ha; exact heap_alloc_old w O h.lt)
/-- what is written of a row of events -/
def prE (l : List Ev) : List UInt8 := if Fo.rights l = true then Fo.bytes l else []

set_option maxHeartbeats 1000000 in
theorem refByte_any (w : World) (e : Ev) (hr : Fo.right e = true) : Calls Tryz.prog 149 #[valE e] w fun x w' => x = .returned (.int .i64 (Fo.byteI e)) ∧ Below w.heap.size w w' := by
  have hb : ∀ O, Below w.heap.size w (w.alloc O) := fun O => (Below.refl _ _).alloc (Nat.le_refl _) _
  obtain ⟨h1, h2, h3, h4, h5, h6, h7, h8⟩ := Fo.right_spec hr
  have hbi : Fo.byteI e = e.t + 4 * e.k + 32 * e.o + (if e.f then 128 else 0) := rfl
  rw [hbi]
  have w1 : IntKind.i64.wrap (4 * e.k) = 4 * e.k := IntWalk.i64_in _ (by omega)
  have w2 : IntKind.i64.wrap (e.t + 4 * e.k) = e.t + 4 * e.k := IntWalk.i64_in _ (by omega)
  have w3 : IntKind.i64.wrap (32 * e.o) = 32 * e.o := IntWalk.i64_in _ (by omega)
  have w4 : IntKind.i64.wrap (e.t + 4 * e.k + 32 * e.o) = e.t + 4 * e.k + 32 * e.o := IntWalk.i64_in _ (by omega)
  have w5 : IntKind.i64.wrap (e.t + 4 * e.k + 32 * e.o + 128) = e.t + 4 * e.k + 32 * e.o + 128 := IntWalk.i64_in _ (by omega)
  unfold valE
  clear hbi h7 h8
  cases hf : e.f with
  | true =>
    go_enter Tryz.func149, Tryz.ntmps149
    go_wp2
    go_ret
    exact ⟨rfl, hb _⟩
  | false =>
    go_enter Tryz.func149, Tryz.ntmps149
    go_wp2
    go_ret
    exact ⟨by simp, hb _⟩

set_option maxHeartbeats 1000000 in
theorem refPrint_any (w : World) (A : Option Addr) (cap : Nat) (l : List Ev) (hr : Rd w 4 A l.length (l.flatMap encE)) (hl : l.length < 1000000) :
    Calls Tryz.prog 138 #[.slice A l.length cap] w fun x w' => x = .returned (.string ⟨(prE l).toArray⟩) ∧ Below w.heap.size w w' := by
  have HC := Lib.hid (evs_cell hr.toB)
  obtain ⟨i0, hi0, hz0, hz1, hz2⟩ := info_parts Tryz.infoU8
  clear hr
  go_enter Tryz.func138, Tryz.ntmps138
  go_wp2_with fail
  go_loopw [3, 4] (fun v3 v wr => ∃ (k : Nat) (A' : Option Addr) (cap' : Nat), k ≤ l.length ∧ v = .int .i64 k ∧ v3 = .slice A' k cap' ∧ Hid (Fo.rights (l.take k) = true) ∧ Hid (Row wr 5 1 A' k cap' (byteVs (Fo.bytes (l.take k)))) ∧ Hid (∀ a, A' = some a → w.heap.size ≤ a.block) ∧ Below w.heap.size w wr) (fun _ v _ => l.length - (intOf v).toNat)
  case atStart => exact ⟨0, none, 0, Nat.zero_le _, rfl, rfl, Lib.hid rfl, Lib.hid (Row.nil _ _ _), Lib.hid (fun a h => (by cases h)), Below.refl _ _⟩
  case round =>
    obtain ⟨k, A', cap', hk, rfl, rfl, HRT, HRW, HA, hb⟩ := hrel
    by_cases hlt : k < l.length
    · obtain ⟨g, o, rfl, hg, hcl⟩ := HC.out k hlt
      obtain ⟨v0, v1, v2, v3⟩ := hcl wr hb
      have k1 : (0 : Int) ≤ (k : Int) := Int.natCast_nonneg _
      have k2 : (k : Int) < (l.length : Int) := by omega
      have htk := rights_take hlt
      have hrf := rights_false hlt
      have hbt := bytes_take hlt
      have hbl := bytes_take_len hk
      have hcall := refRight_any wr l[k]
      have hbyte : ∀ u, Fo.right l[k] = true → Calls Tryz.prog 149 #[valE l[k]] u fun x w' => x = .returned (.int .i64 (Fo.byteI l[k])) ∧ Below u.heap.size u w' := fun u h => refByte_any u _ h
      have hbu : Fo.right l[k] = true → IntKind.u8.wrap (Fo.byteI l[k]) = ((Fo.byteU l[k]).toNat : Int) := fun h => by
        rw [Fo.byteU_toNat h]
        have := Fo.byteI_lt h
        simp [IntKind.wrap, IntKind.signed, IntKind.bits]; omega
      have hcl2 : ∀ u, Below w.heap.size w u → EvAt u g (o + k * 4) l[k] := hcl
      generalize l[k] = e at *
      obtain ⟨b, hbb⟩ : ∃ b, b = Fo.right e := ⟨_, rfl⟩
      rw [← hbb] at hcall htk hrf hbyte hbu
      generalize Fo.byteI e = bi at *
      generalize Fo.byteU e = bu at *
      unfold valE at hcall hbyte
      have HCALL := Lib.hid hcall
      have HBYTE := Lib.hid hbyte
      have HBU := Lib.hid hbu
      have HTK := Lib.hid htk
      have HRF := Lib.hid hrf
      have HBT := Lib.hid hbt
      have HBL := Lib.hid hbl
      have HB := Lib.hid hb
      have HCL := Lib.hid hcl2
      clear hcall htk hrf hcl hbb hb hbyte hbu hbt hbl hcl2
      go_wp2_with fail
      refine HCALL.out.mono ?_
      rintro x w1 ⟨rfl, b1⟩
      have hb2 : Below w.heap.size w w1 := below_at HB.out b1
      obtain ⟨v0', v1', v2', v3'⟩ := HCL.out w1 hb2
      have hr1 : Row w1 5 1 A' k cap' (byteVs (Fo.bytes (l.take k))) := HRW.out.mod (Mod.of_below_size b1 (fun _ => False)) (fun _ _ h => h)
      have HR1 := Lib.hid hr1
      have HB2 := Lib.hid hb2
      clear b1 hb2 hr1 v0 v1 v2 v3
      cases b with
      | false =>
        go_wp2_with fail
        go_ret
        exact ⟨by unfold prE; rw [HRF.out (by trivial)]; rfl, HB2.out⟩
      | true =>
        go_wp2_with fail
        refine (HBYTE.out w1 (by trivial)).mono ?_
        rintro x w2 ⟨rfl, b2⟩
        have hb3 : Below w.heap.size w w2 := below_at HB2.out b2
        have hr2 : Row w2 5 1 A' k cap' (byteVs (Fo.bytes (l.take k))) := HR1.out.mod (Mod.of_below_size b2 (fun _ => False)) (fun _ _ h => h)
        have HR2 := Lib.hid hr2
        have HB3 := Lib.hid hb3
        have ew := HBU.out (by trivial)
        clear b2 hb3 hr2
        go_wp2_with (at_builtin; refine wpList_append_row (by rfl) _ _ _ (by rfl) 5 i0 _ 1 1 Tryz.underlying68 hi0 hz0 hz1 hz2 rfl (by omega) A' k cap' (byteVs (Fo.bytes (l.take k))) (by rfl) (HR2.out.alloc _) ⟨w2.heap.size, 0, none⟩ 1 1 [.int .u8 bu.toNat] (by rfl) (by rfl) (World.news_of_block (cs := #[.int .u8 bu.toNat]) (t := 5) (fr := (0, 0)) (heap_alloc_new w2 _)) (by simp [Value.oneCell']) (by omega) (by unfold maxLen; omega) (by omega) ?_; intro g1 of1 cap1 w3 hown hm hat; skip)
        obtain ⟨q1, q2⟩ := acc_more HA.out HB3.out hm hat (of := of1)
        have hr3 : Row w3 5 1 (some ⟨g1, of1, none⟩) (k + 1) cap1 (byteVs (Fo.bytes (l.take (k + 1)))) := by
          rw [HBT.out]; unfold byteVs at hown ⊢; rw [List.map_append]; exact hown
        go_roundw
        case rel => exact ⟨k + 1, some ⟨g1, of1, none⟩, cap1, by omega, by go_num, rfl, Lib.hid (by rw [HTK.out, HRT.out]; rfl), Lib.hid hr3, Lib.hid q1, q2⟩
        case measure => simp [intOf]; omega
    · have hkn : k = l.length := by omega
      have hcv := conv_bytes (P := Tryz.prog) HRW.out 68 9 Tryz.underlying68 Tryz.underlying5 Tryz.underlying9
      have HK := Lib.hid hkn
      have HB := Lib.hid hb
      clear hkn hb
      go_wp2_with fail
      go_ret
      have h1 := HRT.out
      rw [HK.out, List.take_length] at h1 ⊢
      exact ⟨by unfold prE; rw [if_pos h1]; rfl, HB.out⟩
end Go.Proofs.YtcaapoacmfjnmaaGreat
/- The program's writing of events. -/
namespace Go.Proofs.YtcaapoacmfjnmaaGreat
open Go.RowKit
set_option linter.unusedVariables false

/-- a row of three adds, as it stands in an event's byte -/
theorem byte_wraps {e : Ev} (h : Fo.right e = true) : IntKind.i64.wrap (4 * e.k) = 4 * e.k ∧ IntKind.i64.wrap (e.t + 4 * e.k) = e.t + 4 * e.k ∧ IntKind.i64.wrap (32 * e.o) = 32 * e.o ∧ IntKind.i64.wrap (e.t + 4 * e.k + 32 * e.o) = e.t + 4 * e.k + 32 * e.o ∧ IntKind.i64.wrap (e.t + 4 * e.k + 32 * e.o + 128) = e.t + 4 * e.k + 32 * e.o + 128 ∧
    (e.f = false → IntKind.u8.wrap (e.t + 4 * e.k + 32 * e.o) = ((Fo.byteU e).toNat : Int)) ∧ (e.f = true → IntKind.u8.wrap (e.t + 4 * e.k + 32 * e.o + 128) = ((Fo.byteU e).toNat : Int)) := by
  obtain ⟨h1, h2, h3, h4, h5, h6, h7, h8⟩ := Fo.right_spec h
  have hb := Fo.byteI_lt h
  have hu := Fo.byteU_toNat h
  refine ⟨IntWalk.i64_in _ (by omega), IntWalk.i64_in _ (by omega), IntWalk.i64_in _ (by omega), IntWalk.i64_in _ (by omega), IntWalk.i64_in _ (by omega), fun hf => ?_, fun hf => ?_⟩
  · rw [hu]
    unfold Fo.byteI at hb ⊢
    rw [hf] at hb ⊢
    simp [IntKind.wrap, IntKind.signed, IntKind.bits] at hb ⊢; omega
  · rw [hu]
    unfold Fo.byteI at hb ⊢
    rw [hf] at hb ⊢
    simp [IntKind.wrap, IntKind.signed, IntKind.bits] at hb ⊢; omega

set_option maxRecDepth 100000 in
set_option maxHeartbeats 2000000 in
theorem print_any (w : World) (A : Option Addr) (cap : Nat) (l : List Ev) (hr : Rd w 4 A l.length (l.flatMap encE)) (hl : l.length < 1000000) :
    Calls Tryz.prog 126 #[.slice A l.length cap] w fun x w' => x = .returned (.string ⟨(prE l).toArray⟩) ∧ Below w.heap.size w w' := by
  have HC := Lib.hid (evs_cell hr.toB)
  obtain ⟨i0, hi0, hz0, hz1, hz2⟩ := info_parts Tryz.infoU8
  have hmk := run_make (P := Tryz.prog) w 68 5 i0 (.int .u8 0) Tryz.underlying68 hi0 hz0 .i64 .i64 0 (l.length : Int) (by omega) (by omega) (by rw [hz2]; omega) (by omega)
  simp only [Int.toNat_natCast, Int.toNat_zero] at hmk
  clear hr
  go_enter Tryz.func126, Tryz.ntmps126
  go_upto_region 2 with fail
  obtain ⟨w0, hw0⟩ : ∃ w0, w0 = w.alloc (.cells (madeCells #[.int .u8 0] l.length) 5) := ⟨_, rfl⟩
  obtain ⟨Y, hY⟩ : ∃ Y, Y = w.heap.size := ⟨_, rfl⟩
  have hI : Row w0 5 1 (some ⟨Y, 0, none⟩) 0 l.length [] ∧ w.heap.size ≤ Y ∧ Below w.heap.size w w0 := by
    refine ⟨⟨by simp, Nat.zero_le _, by unfold maxLen; omega, fun h => (by cases h), fun a ha => ?_⟩, by omega, by rw [hw0]; exact (Below.refl _ _).alloc (Nat.le_refl _) _⟩
    injection ha with ha
    subst ha
    have hm : madeCells #[Value.int .u8 0] l.length = (List.replicate l.length (.int .u8 0)).toArray := by
      apply Array.ext'
      rw [toList_madeCells_one]
    exact ⟨rfl, _, by rw [hw0, hY]; exact heap_alloc_new w _, by rw [hm]; simp, by simp⟩
  have HI := Lib.hid hI
  rw [← hw0, ← hY]
  clear hw0 hY hmk hI
  go_wp2_with fail
  go_loopw [3, 12] (fun v3 v wr => ∃ (k : Nat) (A' : Option Addr) (cap' : Nat), k ≤ l.length ∧ v = .int .i64 k ∧ v3 = .slice A' k cap' ∧ Hid (Fo.rights (l.take k) = true) ∧ Hid (Row wr 5 1 A' k cap' (byteVs (Fo.bytes (l.take k)))) ∧ Hid (∀ a, A' = some a → w.heap.size ≤ a.block) ∧ Below w.heap.size w wr) (fun _ v _ => l.length - (intOf v).toNat)
  case atStart => exact ⟨0, some ⟨Y, 0, none⟩, l.length, Nat.zero_le _, rfl, rfl, Lib.hid rfl, Lib.hid HI.out.1, Lib.hid (fun a h => by injection h with h; subst h; exact HI.out.2.1), HI.out.2.2⟩
  case round =>
    clear HI
    obtain ⟨k, A', cap', hk, rfl, rfl, HRT, HRW, HA, hb⟩ := hrel
    by_cases hlt : k < l.length
    · obtain ⟨g, o, rfl, hg, hcl⟩ := HC.out k hlt
      obtain ⟨v0, v1, v2, v3⟩ := hcl wr hb
      have k1 : (0 : Int) ≤ (k : Int) := Int.natCast_nonneg _
      have k2 : (k : Int) < (l.length : Int) := by omega
      have htk := rights_take hlt
      have hrf := rights_false hlt
      have hbt := bytes_take hlt
      have hcall : ∀ u, Calls Tryz.prog 37 #[valE l[k]] u fun x w' => x = .returned (.bool (Fo.right l[k])) ∧ Below u.heap.size u w' := fun u => right_any u _
      have hws : Fo.right l[k] = true → _ := fun h => byte_wraps (e := l[k]) h
      generalize l[k] = e at *
      obtain ⟨b, hbb⟩ : ∃ b, b = Fo.right e := ⟨_, rfl⟩
      rw [← hbb] at htk hrf hws
      have hcall : ∀ u, Calls Tryz.prog 37 #[valE e] u fun x w' => x = .returned (.bool b) ∧ Below u.heap.size u w' := fun u => by rw [hbb]; exact hcall u
      generalize Fo.byteU e = bu at *
      unfold valE at hcall
      have HCALL := Lib.hid hcall
      have HWS := Lib.hid hws
      have HTK := Lib.hid htk
      have HRF := Lib.hid hrf
      have HBT := Lib.hid hbt
      have HB := Lib.hid hb
      clear hcall htk hrf hcl hbb hb hws hbt
      go_upto_region 5 with fail
      obtain ⟨X, hX⟩ : ∃ X, X = wr.heap.size := ⟨_, rfl⟩
      obtain ⟨W1, hW1⟩ : ∃ W1, W1 = wr.alloc (Obj.cells #[.int .i64 e.t, .int .i64 e.k, .int .i64 e.o, .bool e.f] 57) := ⟨_, rfl⟩
      have t1 : Below wr.heap.size wr W1 := by rw [hW1]; exact (Below.refl _ _).alloc (Nat.le_refl _) _
      have hk1 : W1.heap[X]? = some (.cells #[.int .i64 e.t, .int .i64 e.k, .int .i64 e.o, .bool e.f] 57 (0, 0)) := by rw [hW1, hX]; exact heap_alloc_new wr _
      have c0 : W1.cell? ⟨X, 0, none⟩ = some (.int .i64 e.t) := by rw [cell_blk hk1]; rfl
      have c1 : W1.cell? ⟨X, 1, none⟩ = some (.int .i64 e.k) := by rw [cell_blk hk1]; rfl
      have c2 : W1.cell? ⟨X, 2, none⟩ = some (.int .i64 e.o) := by rw [cell_blk hk1]; rfl
      have c3 : W1.cell? ⟨X, 3, none⟩ = some (.bool e.f) := by rw [cell_blk hk1]; rfl
      rw [← hW1, ← hX]
      have HK1 := Lib.hid hk1
      have T1 := Lib.hid t1
      have HX := Lib.hid hX
      clear hW1 hX v0 v1 v2 v3 t1 hk1
      go_wp2_with fail
      refine (HCALL.out W1).mono ?_
      rintro x w1 ⟨rfl, b1⟩
      have hb2 : Below w.heap.size w w1 := below_at (below_at HB.out T1.out) b1
      have hk2 := (b1.block X (blk_lt HK1.out)).trans HK1.out
      have d0 : w1.cell? ⟨X, 0, none⟩ = some (.int .i64 e.t) := by rw [cell_blk hk2]; rfl
      have d1 : w1.cell? ⟨X, 1, none⟩ = some (.int .i64 e.k) := by rw [cell_blk hk2]; rfl
      have d2 : w1.cell? ⟨X, 2, none⟩ = some (.int .i64 e.o) := by rw [cell_blk hk2]; rfl
      have d3 : w1.cell? ⟨X, 3, none⟩ = some (.bool e.f) := by rw [cell_blk hk2]; rfl
      have hr1 : Row w1 5 1 A' k cap' (byteVs (Fo.bytes (l.take k))) := (HRW.out.mod (Mod.of_below_size T1.out (fun _ => False)) (fun _ _ h => h)).mod (Mod.of_below_size b1 (fun _ => False)) (fun _ _ h => h)
      have HR1 := Lib.hid hr1
      have HB2 := Lib.hid hb2
      clear b1 hb2 hr1 c0 c1 c2 c3 hk2
      cases b with
      | false =>
        go_wp2_with fail
        go_ret
        exact ⟨by unfold prE; rw [HRF.out (by trivial)]; rfl, HB2.out⟩
      | true =>
        obtain ⟨e1, e2, e3, e4, e5, e6, e7⟩ := HWS.out (by trivial)
        have E6 := Lib.hid e6
        have E7 := Lib.hid e7
        clear e6 e7
        cases hf : e.f with
        | true =>
          rw [hf] at d3
          have ew := E7.out hf
          go_wp2_with (at_builtin; refine wpList_append_row (by rfl) _ _ _ (by rfl) 5 i0 _ 1 1 Tryz.underlying68 hi0 hz0 hz1 hz2 rfl (by omega) A' k cap' (byteVs (Fo.bytes (l.take k))) (by rfl) (HR1.out.alloc _) ⟨w1.heap.size, 0, none⟩ 1 1 [.int .u8 bu.toNat] (by rfl) (by rfl) (World.news_of_block (cs := #[.int .u8 bu.toNat]) (t := 5) (fr := (0, 0)) (heap_alloc_new w1 _)) (by simp [Value.oneCell']) (by omega) (by unfold maxLen; omega) (by omega) ?_; intro g1 of1 cap1 w3 hown hm hat; skip)
          obtain ⟨q1, q2⟩ := acc_more HA.out HB2.out hm hat (of := of1)
          have hr3 : Row w3 5 1 (some ⟨g1, of1, none⟩) (k + 1) cap1 (byteVs (Fo.bytes (l.take (k + 1)))) := by
            rw [HBT.out]; unfold byteVs at hown ⊢; rw [List.map_append]; exact hown
          go_roundw
          case rel => exact ⟨k + 1, some ⟨g1, of1, none⟩, cap1, by omega, by go_num, rfl, Lib.hid (by rw [HTK.out, HRT.out]; rfl), Lib.hid hr3, Lib.hid q1, q2⟩
          case measure => simp [intOf]; omega
        | false =>
          rw [hf] at d3
          have ew := E6.out hf
          go_wp2_with (at_builtin; refine wpList_append_row (by rfl) _ _ _ (by rfl) 5 i0 _ 1 1 Tryz.underlying68 hi0 hz0 hz1 hz2 rfl (by omega) A' k cap' (byteVs (Fo.bytes (l.take k))) (by rfl) (HR1.out.alloc _) ⟨w1.heap.size, 0, none⟩ 1 1 [.int .u8 bu.toNat] (by rfl) (by rfl) (World.news_of_block (cs := #[.int .u8 bu.toNat]) (t := 5) (fr := (0, 0)) (heap_alloc_new w1 _)) (by simp [Value.oneCell']) (by omega) (by unfold maxLen; omega) (by omega) ?_; intro g1 of1 cap1 w3 hown hm hat; skip)
          obtain ⟨q1, q2⟩ := acc_more HA.out HB2.out hm hat (of := of1)
          have hr3 : Row w3 5 1 (some ⟨g1, of1, none⟩) (k + 1) cap1 (byteVs (Fo.bytes (l.take (k + 1)))) := by
            rw [HBT.out]; unfold byteVs at hown ⊢; rw [List.map_append]; exact hown
          go_roundw
          case rel => exact ⟨k + 1, some ⟨g1, of1, none⟩, cap1, by omega, by go_num, rfl, Lib.hid (by rw [HTK.out, HRT.out]; rfl), Lib.hid hr3, Lib.hid q1, q2⟩
          case measure => simp [intOf]; omega
    · have hkn : k = l.length := by omega
      have hcv := conv_bytes (P := Tryz.prog) HRW.out 68 9 Tryz.underlying68 Tryz.underlying5 Tryz.underlying9
      have HK := Lib.hid hkn
      have HB := Lib.hid hb
      clear hkn hb
      go_wp2_with fail
      go_ret
      have h1 := HRT.out
      rw [HK.out, List.take_length] at h1 ⊢
      exact ⟨by unfold prE; rw [if_pos h1]; rfl, HB.out⟩
end Go.Proofs.YtcaapoacmfjnmaaGreat
/- Reading events. -/
namespace Go.Proofs.YtcaapoacmfjnmaaGreat
open Go.RowKit
set_option linter.unusedVariables false

/-- the events that bytes may be -/
def evsB (bs : List UInt8) : List Ev := bs.map fun b => Fo.evOf b.toNat
theorem evsB_take {bs : List UInt8} {k : Nat} (hk : k < bs.length) : evsB (bs.take (k + 1)) = evsB (bs.take k) ++ [Fo.evOf bs[k].toNat] := by
  unfold evsB
  rw [List.take_add_one, List.getElem?_eq_getElem hk, List.map_append]
  rfl
theorem evsB_len (bs : List UInt8) : (evsB bs).length = bs.length := by unfold evsB; simp
theorem evs_eq (bs : List UInt8) : Fo.evs bs = if Fo.rights (evsB bs) = true then some (evsB bs) else none := rfl
theorem rights_snoc (l : List Ev) (e : Ev) : Fo.rights (l ++ [e]) = (Fo.rights l && Fo.right e) := by unfold Fo.rights; rw [List.all_append]; simp
theorem rights_mem {l : List Ev} {e : Ev} (h : e ∈ l) (hf : Fo.right e = false) : Fo.rights l = false := by
  unfold Fo.rights
  rw [List.all_eq_false]
  exact ⟨e, h, by simp [hf]⟩

theorem Tryz.infoEv : (Tryz.prog.info? 57).map (fun i => (i.zero, i.size, i.bytes)) = some (some (.agg #[.int .i64 0, .int .i64 0, .int .i64 0, .bool false]), 4, 32) := by kernel_rfl

theorem evOf_nums (n : Nat) (h : n < 256) : (wrap64 (n : Int)).tmod 4 = (Fo.evOf n).t ∧ (wrap64 ((wrap64 (n : Int)).tdiv 4)).tmod 8 = (Fo.evOf n).k ∧ (wrap64 ((wrap64 (n : Int)).tdiv 32)).tmod 4 = (Fo.evOf n).o ∧ decide (128 ≤ wrap64 (n : Int)) = (Fo.evOf n).f := by
  have e0 : wrap64 (n : Int) = n := by unfold wrap64; omega
  have e1 : (n : Int).tdiv 4 = ((n / 4 : Nat) : Int) := by rw [Int.tdiv_eq_ediv_of_nonneg (by omega)]; omega
  have e2 : (n : Int).tdiv 32 = ((n / 32 : Nat) : Int) := by rw [Int.tdiv_eq_ediv_of_nonneg (by omega)]; omega
  have e3 : wrap64 ((n / 4 : Nat) : Int) = ((n / 4 : Nat) : Int) := by unfold wrap64; omega
  have e4 : wrap64 ((n / 32 : Nat) : Int) = ((n / 32 : Nat) : Int) := by unfold wrap64; omega
  rw [e0, e1, e2, e3, e4, Int.tmod_eq_emod_of_nonneg (by omega), Int.tmod_eq_emod_of_nonneg (by omega), Int.tmod_eq_emod_of_nonneg (by omega)]
  unfold Fo.evOf
  refine ⟨by simp only; omega, by simp only; omega, by simp only; omega, ?_⟩
  simp only
  rw [decide_eq_decide]
  omega

set_option maxRecDepth 100000 in
set_option maxHeartbeats 2000000 in
theorem refReadE_any (w : World) (s : ByteArray) (hl : s.size < 1000000) :
    Calls Tryz.prog 90 #[.string s] w fun x w' => (∃ A cap l, Fo.evs s.data.toList = some l ∧ x = .returned (.tuple #[.slice A l.length cap, .bool true]) ∧ Row w' 57 4 A l.length cap (l.flatMap encE) ∧ (∀ a, A = some a → w.heap.size ≤ a.block) ∧ Below w.heap.size w w') ∨
      (Fo.evs s.data.toList = none ∧ x = .returned (.tuple #[.slice none 0 0, .bool false]) ∧ Below w.heap.size w w') := by
  obtain ⟨i0, hi0, hz0, hz1, hz2⟩ := info_parts Tryz.infoEv
  obtain ⟨bs, hbs⟩ : ∃ bs, bs = s.data.toList := ⟨_, rfl⟩
  have hsz : s.size = bs.length := by rw [hbs]; simp
  have hat : ∀ k, (hk : k < bs.length) → s.data[k]? = some bs[k] := fun k hk => by subst hbs; simp
  rw [← hbs]
  have HAT := Lib.hid hat
  clear hat hbs
  go_enter Tryz.func90, Tryz.ntmps90
  go_wp2_with fail
  go_loopw [4, 5] (fun v4 v wr => ∃ (k : Nat) (A' : Option Addr) (cap' : Nat), k ≤ bs.length ∧ v = .int .i64 k ∧ v4 = .slice A' k cap' ∧ Hid (Fo.rights (evsB (bs.take k)) = true) ∧ Hid (Row wr 57 4 A' k cap' ((evsB (bs.take k)).flatMap encE)) ∧ Hid (∀ a, A' = some a → w.heap.size ≤ a.block) ∧ Below w.heap.size w wr) (fun _ v _ => bs.length - (intOf v).toNat)
  case atStart => exact ⟨0, none, 0, Nat.zero_le _, rfl, rfl, Lib.hid rfl, Lib.hid (Row.nil _ _ _), Lib.hid (fun a h => (by cases h)), Below.refl _ _⟩
  case round =>
    obtain ⟨k, A', cap', hk, rfl, rfl, HRT, HRW, HA, hb⟩ := hrel
    by_cases hlt : k < bs.length
    · have hks : k < s.size := by omega
      have k1 : (0 : Int) ≤ (k : Int) := Int.natCast_nonneg _
      have k2 : (k : Int) < (s.size : Int) := by omega
      go_upto_region 7 with fail
      obtain ⟨r1, r2, r3, r4⟩ := evOf_nums (s[k]'hks).toNat (UInt8.toNat_lt _)
      have hkb : Fo.evOf (s[k]'hks).toNat = Fo.evOf bs[k].toNat := by
        have := HAT.out k hlt
        have h2 : s.data[k]? = some (s[k]'hks) := by simp [ByteArray.getElem_eq_getElem_data]
        rw [h2] at this
        injection this with this
        rw [this]
      rw [hkb] at r1 r2 r3 r4
      have htk := evsB_take hlt
      have hmem : Fo.evOf bs[k].toNat ∈ evsB bs := List.mem_map.2 ⟨bs[k], List.getElem_mem hlt, rfl⟩
      generalize Fo.evOf bs[k].toNat = e at *
      rw [r1, r2, r3, r4]
      obtain ⟨X, hX⟩ : ∃ X, X = wr.heap.size := ⟨_, rfl⟩
      obtain ⟨W1, hW1⟩ : ∃ W1, W1 = wr.alloc (Obj.cells #[.int .i64 e.t, .int .i64 e.k, .int .i64 e.o, .bool e.f] 57) := ⟨_, rfl⟩
      have t1 : Below wr.heap.size wr W1 := by rw [hW1]; exact (Below.refl _ _).alloc (Nat.le_refl _) _
      have hk1 : W1.heap[X]? = some (.cells #[.int .i64 e.t, .int .i64 e.k, .int .i64 e.o, .bool e.f] 57 (0, 0)) := by rw [hW1, hX]; exact heap_alloc_new wr _
      have c0 : W1.cell? ⟨X, 0, none⟩ = some (.int .i64 e.t) := by rw [cell_blk hk1]; rfl
      have c1 : W1.cell? ⟨X, 1, none⟩ = some (.int .i64 e.k) := by rw [cell_blk hk1]; rfl
      have c2 : W1.cell? ⟨X, 2, none⟩ = some (.int .i64 e.o) := by rw [cell_blk hk1]; rfl
      have c3 : W1.cell? ⟨X, 3, none⟩ = some (.bool e.f) := by rw [cell_blk hk1]; rfl
      rw [← hW1, ← hX]
      have hcall := refRight_any W1 e
      obtain ⟨b, hbb⟩ : ∃ b, b = Fo.right e := ⟨_, rfl⟩
      rw [← hbb] at hcall
      unfold valE at hcall
      have HCALL := Lib.hid hcall
      have HK1 := Lib.hid hk1
      have T1 := Lib.hid t1
      have HX := Lib.hid hX
      have HB := Lib.hid hb
      have HBB := Lib.hid hbb
      have HTK := Lib.hid htk
      have HMEM := Lib.hid hmem
      clear hW1 hX t1 hk1 hb hbb hcall r1 r2 r3 r4 hkb htk hmem
      go_wp2_with fail
      refine HCALL.out.mono ?_
      rintro x w1 ⟨rfl, b1⟩
      have hb2 : Below w.heap.size w w1 := below_at (below_at HB.out T1.out) b1
      have hk2 := (b1.block X (blk_lt HK1.out)).trans HK1.out
      have d0 : w1.cell? ⟨X, 0, none⟩ = some (.int .i64 e.t) := by rw [cell_blk hk2]; rfl
      have d1 : w1.cell? ⟨X, 1, none⟩ = some (.int .i64 e.k) := by rw [cell_blk hk2]; rfl
      have d2 : w1.cell? ⟨X, 2, none⟩ = some (.int .i64 e.o) := by rw [cell_blk hk2]; rfl
      have d3 : w1.cell? ⟨X, 3, none⟩ = some (.bool e.f) := by rw [cell_blk hk2]; rfl
      have hr1 : Row w1 57 4 A' k cap' ((evsB (bs.take k)).flatMap encE) := (HRW.out.mod (Mod.of_below_size T1.out (fun _ => False)) (fun _ _ h => h)).mod (Mod.of_below_size b1 (fun _ => False)) (fun _ _ h => h)
      have HR1 := Lib.hid hr1
      have HB2 := Lib.hid hb2
      clear b1 hb2 hr1 c0 c1 c2 c3 hk2
      cases b with
      | false =>
        go_wp2_with fail
        go_ret2
        exact .inr ⟨by rw [evs_eq, if_neg (by rw [rights_mem HMEM.out HBB.out.symm]; simp)], rfl, HB2.out⟩
      | true =>
        go_wp2_with (at_builtin; refine wpList_append_row (by rfl) _ _ _ (by rfl) 57 i0 _ 4 32 Tryz.underlying52 hi0 hz0 hz1 hz2 rfl (by omega) A' k cap' ((evsB (bs.take k)).flatMap encE) (by rfl) (HR1.out.alloc _) ⟨w1.heap.size, 0, none⟩ 1 1 [.int .i64 e.t, .int .i64 e.k, .int .i64 e.o, .bool e.f] (by rfl) (by rfl) (World.news_of_block (cs := #[.int .i64 e.t, .int .i64 e.k, .int .i64 e.o, .bool e.f]) (t := 57) (fr := (0, 0)) (heap_alloc_new w1 _)) (by simp [Value.oneCell']) (by omega) (by unfold maxLen; omega) (by omega) ?_; intro g1 of1 cap1 w3 hown hm hat; skip)
        obtain ⟨q1, q2⟩ := acc_more HA.out HB2.out hm hat (of := of1)
        have hr3 : Row w3 57 4 (some ⟨g1, of1, none⟩) (k + 1) cap1 ((evsB (bs.take (k + 1))).flatMap encE) := by
          rw [HTK.out, List.flatMap_append]; simpa [encE] using hown
        go_roundw
        case rel => exact ⟨k + 1, some ⟨g1, of1, none⟩, cap1, by omega, by go_num, rfl, Lib.hid (by rw [HTK.out, rights_snoc, HRT.out, ← HBB.out]; rfl), Lib.hid hr3, Lib.hid q1, q2⟩
        case measure => simp [intOf]; omega
    · have hkn : k = bs.length := by omega
      have hks : ¬ k < s.size := by omega
      have HK := Lib.hid hkn
      have HB := Lib.hid hb
      clear hkn hb
      go_wp2_with fail
      go_ret2
      have h1 := HRT.out
      have h2 := HRW.out
      rw [HK.out, List.take_length] at h1 h2
      have hl2 := evsB_len bs
      exact .inl ⟨A', cap', evsB bs, by rw [evs_eq, if_pos h1], by rw [hl2, ← HK.out]; rfl, by rw [hl2]; exact h2, HA.out, HB.out⟩
end Go.Proofs.YtcaapoacmfjnmaaGreat
/- The program's reading of events. -/
namespace Go.Proofs.YtcaapoacmfjnmaaGreat
open Go.RowKit
set_option linter.unusedVariables false

theorem evOf_nums2 (n : Nat) : (n : Int) % 4 = (Fo.evOf n).t ∧ (n : Int) / 4 % 8 = (Fo.evOf n).k ∧ (n : Int) / 32 % 4 = (Fo.evOf n).o ∧ decide (128 ≤ (n : Int)) = (Fo.evOf n).f := by
  unfold Fo.evOf
  refine ⟨by simp only; omega, by simp only; omega, by simp only; omega, ?_⟩
  simp only
  rw [decide_eq_decide]
  omega

set_option maxRecDepth 100000 in
set_option maxHeartbeats 2000000 in
theorem readE_any (w : World) (s : ByteArray) (hl : s.size < 1000000) :
    Calls Tryz.prog 88 #[.string s] w fun x w' => (∃ A cap l, Fo.evs s.data.toList = some l ∧ x = .returned (.tuple #[.slice A l.length cap, .int .i64 0]) ∧ Row w' 57 4 A l.length cap (l.flatMap encE) ∧ (∀ a, A = some a → w.heap.size ≤ a.block) ∧ Below w.heap.size w w') ∨
      (Fo.evs s.data.toList = none ∧ x = .returned (.tuple #[.slice none 0 0, .int .i64 3]) ∧ Below w.heap.size w w') := by
  obtain ⟨i0, hi0, hz0, hz1, hz2⟩ := info_parts Tryz.infoEv
  obtain ⟨bs, hbs⟩ : ∃ bs, bs = s.data.toList := ⟨_, rfl⟩
  have hsz : s.size = bs.length := by rw [hbs]; simp
  have hat : ∀ k, (hk : k < bs.length) → s.data[k]? = some bs[k] := fun k hk => by subst hbs; simp
  rw [← hbs]
  have hconv := Lib.run_convert_string_bytes (P := Tryz.prog) w 9 68 5 s Tryz.underlying9 Tryz.underlying68 Tryz.underlying5
  obtain ⟨w0, hw0⟩ : ∃ w0, w0 = Lib.bytesWorld w 5 s := ⟨_, rfl⟩
  obtain ⟨Z, hZ⟩ : ∃ Z, Z = w.heap.size := ⟨_, rfl⟩
  obtain ⟨zc, hzc⟩ : ∃ zc, zc = grownCap w s.size 0 5 := ⟨_, rfl⟩
  have hbw : Below w.heap.size w w0 := by rw [hw0]; exact ⟨rfl, rfl, rfl, by rw [Lib.bytesWorld_size]; omega, fun i hi => Lib.bytesWorld_at_old w _ s i hi⟩
  have hcell : ∀ k, (hk : k < bs.length) → w0.cell? ⟨Z, k, none⟩ = some (.int .u8 bs[k].toNat) := fun k hk => by
    rw [hw0, hZ, Lib.bytesWorld_cell w _ s k (by omega), ← hbs]
    simp [hk]
  have lZ : Z < w0.heap.size := by rw [hw0, hZ, Lib.bytesWorld_size]; omega
  rw [← hw0, ← hZ, ← hzc] at hconv
  have HCELL := Lib.hid hcell
  have HBW := Lib.hid hbw
  clear hat hbs hcell hw0 hZ hzc hbw
  rw [hsz] at hconv
  go_enter Tryz.func88, Tryz.ntmps88
  go_wp2_with fail
  go_loopw [2, 11] (fun v4 v wr => ∃ (k : Nat) (A' : Option Addr) (cap' : Nat), k ≤ bs.length ∧ v = .int .i64 k ∧ v4 = .slice A' k cap' ∧ Hid (Fo.rights (evsB (bs.take k)) = true) ∧ Hid (Row wr 57 4 A' k cap' ((evsB (bs.take k)).flatMap encE)) ∧ Hid (∀ a, A' = some a → w0.heap.size ≤ a.block) ∧ Below w0.heap.size w0 wr) (fun _ v _ => bs.length - (intOf v).toNat)
  case atStart => exact ⟨0, none, 0, Nat.zero_le _, rfl, rfl, Lib.hid rfl, Lib.hid (Row.nil _ _ _), Lib.hid (fun a h => (by cases h)), Below.refl _ _⟩
  case round =>
    obtain ⟨k, A', cap', hk, rfl, rfl, HRT, HRW, HA, hb⟩ := hrel
    by_cases hlt : k < bs.length
    · have k1 : (0 : Int) ≤ (k : Int) := Int.natCast_nonneg _
      have k2 : (k : Int) < (bs.length : Int) := by omega
      have cz : wr.cell? ⟨Z, k, none⟩ = some (.int .u8 bs[k].toNat) := by rw [World.cell?_of_block (hb.block Z lZ)]; exact HCELL.out k hlt
      have hnb := UInt8.toNat_lt bs[k]
      have htk := evsB_take hlt
      have hmem : Fo.evOf bs[k].toNat ∈ evsB bs := List.mem_map.2 ⟨bs[k], List.getElem_mem hlt, rfl⟩
      generalize bs[k].toNat = nb at *
      go_upto_region 6 with fail
      obtain ⟨r1, r2, r3, r4⟩ := evOf_nums2 nb
      generalize Fo.evOf nb = e at *
      rw [r1, r2, r3, r4]
      obtain ⟨X, hX⟩ : ∃ X, X = wr.heap.size := ⟨_, rfl⟩
      obtain ⟨W1, hW1⟩ : ∃ W1, W1 = wr.alloc (Obj.cells #[.int .i64 e.t, .int .i64 e.k, .int .i64 e.o, .bool e.f] 57) := ⟨_, rfl⟩
      have t1 : Below wr.heap.size wr W1 := by rw [hW1]; exact (Below.refl _ _).alloc (Nat.le_refl _) _
      have hk1 : W1.heap[X]? = some (.cells #[.int .i64 e.t, .int .i64 e.k, .int .i64 e.o, .bool e.f] 57 (0, 0)) := by rw [hW1, hX]; exact heap_alloc_new wr _
      have c0 : W1.cell? ⟨X, 0, none⟩ = some (.int .i64 e.t) := by rw [cell_blk hk1]; rfl
      have c1 : W1.cell? ⟨X, 1, none⟩ = some (.int .i64 e.k) := by rw [cell_blk hk1]; rfl
      have c2 : W1.cell? ⟨X, 2, none⟩ = some (.int .i64 e.o) := by rw [cell_blk hk1]; rfl
      have c3 : W1.cell? ⟨X, 3, none⟩ = some (.bool e.f) := by rw [cell_blk hk1]; rfl
      rw [← hW1, ← hX]
      have hcall := right_any W1 e
      obtain ⟨b, hbb⟩ : ∃ b, b = Fo.right e := ⟨_, rfl⟩
      rw [← hbb] at hcall
      unfold valE at hcall
      have HCALL := Lib.hid hcall
      have HK1 := Lib.hid hk1
      have T1 := Lib.hid t1
      have HX := Lib.hid hX
      have HB := Lib.hid hb
      have HBB := Lib.hid hbb
      have HTK := Lib.hid htk
      have HMEM := Lib.hid hmem
      clear hW1 hX t1 hk1 hb hbb hcall r1 r2 r3 r4 htk hmem cz
      go_wp2_with fail
      refine HCALL.out.mono ?_
      rintro x w1 ⟨rfl, b1⟩
      have hb2 : Below w0.heap.size w0 w1 := below_at (below_at HB.out T1.out) b1
      have hk2 := (b1.block X (blk_lt HK1.out)).trans HK1.out
      have d0 : w1.cell? ⟨X, 0, none⟩ = some (.int .i64 e.t) := by rw [cell_blk hk2]; rfl
      have d1 : w1.cell? ⟨X, 1, none⟩ = some (.int .i64 e.k) := by rw [cell_blk hk2]; rfl
      have d2 : w1.cell? ⟨X, 2, none⟩ = some (.int .i64 e.o) := by rw [cell_blk hk2]; rfl
      have d3 : w1.cell? ⟨X, 3, none⟩ = some (.bool e.f) := by rw [cell_blk hk2]; rfl
      have hr1 : Row w1 57 4 A' k cap' ((evsB (bs.take k)).flatMap encE) := (HRW.out.mod (Mod.of_below_size T1.out (fun _ => False)) (fun _ _ h => h)).mod (Mod.of_below_size b1 (fun _ => False)) (fun _ _ h => h)
      have HR1 := Lib.hid hr1
      have HB2 := Lib.hid hb2
      clear b1 hb2 hr1 c0 c1 c2 c3 hk2
      cases b with
      | false =>
        go_wp2_with fail
        go_ret2
        exact .inr ⟨by rw [evs_eq, if_neg (by rw [rights_mem HMEM.out HBB.out.symm]; simp)], rfl, below_at HBW.out HB2.out⟩
      | true =>
        go_wp2_with (at_builtin; refine wpList_append_row (by rfl) _ _ _ (by rfl) 57 i0 _ 4 32 Tryz.underlying52 hi0 hz0 hz1 hz2 rfl (by omega) A' k cap' ((evsB (bs.take k)).flatMap encE) (by rfl) (HR1.out.alloc _) ⟨w1.heap.size, 0, none⟩ 1 1 [.int .i64 e.t, .int .i64 e.k, .int .i64 e.o, .bool e.f] (by rfl) (by rfl) (World.news_of_block (cs := #[.int .i64 e.t, .int .i64 e.k, .int .i64 e.o, .bool e.f]) (t := 57) (fr := (0, 0)) (heap_alloc_new w1 _)) (by simp [Value.oneCell']) (by omega) (by unfold maxLen; omega) (by omega) ?_; intro g1 of1 cap1 w3 hown hm hat; skip)
        obtain ⟨q1, q2⟩ := acc_more HA.out HB2.out hm hat (of := of1)
        have hr3 : Row w3 57 4 (some ⟨g1, of1, none⟩) (k + 1) cap1 ((evsB (bs.take (k + 1))).flatMap encE) := by
          rw [HTK.out, List.flatMap_append]; simpa [encE] using hown
        go_roundw
        case rel => exact ⟨k + 1, some ⟨g1, of1, none⟩, cap1, by omega, by go_num, rfl, Lib.hid (by rw [HTK.out, rights_snoc, HRT.out, ← HBB.out]; rfl), Lib.hid hr3, Lib.hid q1, q2⟩
        case measure => simp [intOf]; omega
    · have hkn : k = bs.length := by omega
      have HK := Lib.hid hkn
      have HB := Lib.hid hb
      clear hkn hb
      go_wp2_with fail
      go_ret2
      have h1 := HRT.out
      have h2 := HRW.out
      rw [HK.out, List.take_length] at h1 h2
      have hl2 := evsB_len bs
      exact .inl ⟨A', cap', evsB bs, by rw [evs_eq, if_pos h1], by rw [hl2, ← HK.out]; rfl, by rw [hl2]; exact h2, fun a ha => by have := HA.out a ha; have := HBW.out.size; omega, below_at HBW.out HB.out⟩
end Go.Proofs.YtcaapoacmfjnmaaGreat
