/- Writing events. -/
import Derived.Test.YtgahjibjladafaaFoG
import Derived.Laws.BytesArg
namespace Go.Proofs.Ytgahjibjladafaa
open Go.RowKit
set_option linter.unusedVariables false

def byteVs (bs : List UInt8) : List Value := bs.map fun b => .int .u8 b.toNat
/-- bytes of a row as a string -/
theorem conv_bytes {P : Program} {w : World} {e : TypeId} {A : Option Addr} {n cap : Nat} {bs : List UInt8} (h : Row w e 1 A n cap (byteVs bs)) (src dst : TypeId) (hs : P.underlying src = some (.slice e)) (he : P.underlying e = some (.int .u8)) (hd : P.underlying dst = some .string) :
    (convert src dst (.slice A n cap)).run P w = .ok (.string ⟨bs.toArray⟩) w := by
  have hl := h.len
  unfold byteVs at hl
  rw [List.length_map] at hl
  cases A with
  | none =>
    have h0 := h.2.2.2.1 rfl
    have h1 := h.2.1
    rw [run_convert_bytes_nil w src e hs he n cap dst hd]
    have : bs = [] := List.eq_nil_of_length_eq_zero (by omega)
    subst this
    rfl
  | some a =>
    obtain ⟨hsp, _⟩ := h.2.2.2.2 a rfl
    obtain ⟨g, o, s⟩ := a
    simp only at hsp
    subst hsp
    rw [run_convert_bytes_arg w src e hs he g o n cap (bs.map fun b => (b.toNat : Int)) (by simp; omega) (fun i hi => by
      rw [h.cell i (by omega)]
      unfold byteVs
      rw [List.getElem?_map, List.getD_eq_getElem?_getD, List.getElem?_map, List.getElem?_eq_getElem (by omega)]
      rfl) dst hd]
    congr 2
    apply ByteArray.ext
    apply Array.toList_inj.1
    rw [strOfNums_data, List.map_map]
    conv => rhs; rw [show (⟨bs.toArray⟩ : ByteArray).data.toList = bs from rfl, ← List.map_id bs]
    apply List.map_congr_left
    intro x _
    simp

/-- one append more -/
theorem acc_more {w wr w1 : World} {O : Obj} {g of : Nat} {A : Option Addr} (hA : ∀ a, A = some a → w.heap.size ≤ a.block) (hb : Below w.heap.size w wr)
    (hm : Mod (fun k => ∃ a, A = some a ∧ k = a.block) (wr.alloc O) w1) (hat : (∃ a, A = some a ∧ g = a.block) ∨ (wr.alloc O).heap.size ≤ g) :
    (∀ a, some (⟨g, of, none⟩ : Addr) = some a → w.heap.size ≤ a.block) ∧ Below w.heap.size w w1 := by
  have z := hb.size
  refine ⟨fun a ha => ?_, ?_⟩
  · injection ha with ha
    subst ha
    rcases hat with ⟨a, e1, e2⟩ | h
    · have := hA a e1; show w.heap.size ≤ g; omega
    · simp at h; show w.heap.size ≤ g; omega
  · have m1 : Mod (fun k => w.heap.size ≤ k) w wr := Mod.of_below hb
    have m2 : Mod (fun k => w.heap.size ≤ k) w (wr.alloc O) := m1.alloc O
    exact (m2.then hm (fun i hi ⟨a, e1, e2⟩ => by have := hA a e1; omega)).below _ (Nat.le_refl _) (fun k hk h => by omega)

theorem Try.infoU8 : (Try.prog.info? 5).map (fun i => (i.zero, i.size, i.bytes)) = some (some (.int .u8 0), 1, 1) := by kernel_rfl

theorem below_at {w a b : World} (h : Below w.heap.size w a) (k : Below a.heap.size a b) : Below w.heap.size w b := h.trans ⟨k.os, k.tape, k.output, k.size, fun i hi => k.block i (by have := h.size; omega)⟩
theorem bytes_take {l : List Ev} {k : Nat} (hk : k < l.length) : Fo.bytes (l.take (k + 1)) = Fo.bytes (l.take k) ++ [Fo.byteU l[k]] := by
  unfold Fo.bytes
  rw [List.take_add_one, List.getElem?_eq_getElem hk, List.map_append]
  rfl
theorem bytes_take_len {l : List Ev} {k : Nat} (hk : k ≤ l.length) : (Fo.bytes (l.take k)).length = k := by unfold Fo.bytes; simp; omega

theorem Row.alloc {w : World} {e sz : Nat} {A : Option Addr} {n cap : Nat} {cs : List Value} (h : Row w e sz A n cap cs) (O : Obj) : Row (w.alloc O) e sz A n cap cs :=
  h.move (fun a ha => by subst ha; exact heap_alloc_old w O h.lt)
/-- what is written of a row of events -/
def prE (l : List Ev) : List UInt8 := if Fo.rights l = true then Fo.bytes l else []

set_option maxHeartbeats 1000000 in
theorem refByte_any (w : World) (e : Ev) (hr : Fo.right e = true) : Calls Try.prog 100 #[valE e] w fun x w' => x = .returned (.int .i64 (Fo.byteI e)) ∧ Below w.heap.size w w' := by
  have hb : ∀ O, Below w.heap.size w (w.alloc O) := fun O => (Below.refl _ _).alloc (Nat.le_refl _) _
  obtain ⟨h1, h2, h3, h4, h5, h6, h7, h8⟩ := Fo.right_spec hr
  have hbi : Fo.byteI e = e.t + 4 * e.k + 32 * e.o + (if e.f then 128 else 0) := rfl
  rw [hbi]
  have w1 : IntKind.i64.wrap (4 * e.k) = 4 * e.k := IntWalk.i64_in _ (by omega)
  have w2 : IntKind.i64.wrap (e.t + 4 * e.k) = e.t + 4 * e.k := IntWalk.i64_in _ (by omega)
  have w3 : IntKind.i64.wrap (32 * e.o) = 32 * e.o := IntWalk.i64_in _ (by omega)
  have w4 : IntKind.i64.wrap (e.t + 4 * e.k + 32 * e.o) = e.t + 4 * e.k + 32 * e.o := IntWalk.i64_in _ (by omega)
  have w5 : IntKind.i64.wrap (e.t + 4 * e.k + 32 * e.o + 128) = e.t + 4 * e.k + 32 * e.o + 128 := IntWalk.i64_in _ (by omega)
  unfold valE
  clear hbi h7 h8
  cases hf : e.f with
  | true =>
    go_enter Try.func100, Try.ntmps100
    go_wp2
    go_ret
    exact ⟨rfl, hb _⟩
  | false =>
    go_enter Try.func100, Try.ntmps100
    go_wp2
    go_ret
    exact ⟨by simp, hb _⟩

set_option maxHeartbeats 1000000 in
theorem refPrint_any (w : World) (A : Option Addr) (cap : Nat) (l : List Ev) (hr : Rd w 4 A l.length (l.flatMap encE)) (hl : l.length < 1000000) :
    Calls Try.prog 69 #[.slice A l.length cap] w fun x w' => x = .returned (.string ⟨(prE l).toArray⟩) ∧ Below w.heap.size w w' := by
  have HC := Lib.hid (evs_cell hr.toB)
  obtain ⟨i0, hi0, hz0, hz1, hz2⟩ := info_parts Try.infoU8
  clear hr
  go_enter Try.func69, Try.ntmps69
  go_wp2_with fail
  go_loopw [3, 4] (fun v3 v wr => ∃ (k : Nat) (A' : Option Addr) (cap' : Nat), k ≤ l.length ∧ v = .int .i64 k ∧ v3 = .slice A' k cap' ∧ Hid (Fo.rights (l.take k) = true) ∧ Hid (Row wr 5 1 A' k cap' (byteVs (Fo.bytes (l.take k)))) ∧ Hid (∀ a, A' = some a → w.heap.size ≤ a.block) ∧ Below w.heap.size w wr) (fun _ v _ => l.length - (intOf v).toNat)
  case atStart => exact ⟨0, none, 0, Nat.zero_le _, rfl, rfl, Lib.hid rfl, Lib.hid (Row.nil _ _ _), Lib.hid (fun a h => (by cases h)), Below.refl _ _⟩
  case round =>
    obtain ⟨k, A', cap', hk, rfl, rfl, HRT, HRW, HA, hb⟩ := hrel
    by_cases hlt : k < l.length
    · obtain ⟨g, o, rfl, hg, hcl⟩ := HC.out k hlt
      obtain ⟨v0, v1, v2, v3⟩ := hcl wr hb
      have k1 : (0 : Int) ≤ (k : Int) := Int.natCast_nonneg _
      have k2 : (k : Int) < (l.length : Int) := by omega
      have htk := rights_take hlt
      have hrf := rights_false hlt
      have hbt := bytes_take hlt
      have hbl := bytes_take_len hk
      have hcall := refRight_any wr l[k]
      have hbyte : ∀ u, Fo.right l[k] = true → Calls Try.prog 100 #[valE l[k]] u fun x w' => x = .returned (.int .i64 (Fo.byteI l[k])) ∧ Below u.heap.size u w' := fun u h => refByte_any u _ h
      have hbu : Fo.right l[k] = true → IntKind.u8.wrap (Fo.byteI l[k]) = ((Fo.byteU l[k]).toNat : Int) := fun h => by
        rw [Fo.byteU_toNat h]
        have := Fo.byteI_lt h
        simp [IntKind.wrap, IntKind.signed, IntKind.bits]; omega
      have hcl2 : ∀ u, Below w.heap.size w u → EvAt u g (o + k * 4) l[k] := hcl
      generalize l[k] = e at *
      obtain ⟨b, hbb⟩ : ∃ b, b = Fo.right e := ⟨_, rfl⟩
      rw [← hbb] at hcall htk hrf hbyte hbu
      generalize Fo.byteI e = bi at *
      generalize Fo.byteU e = bu at *
      unfold valE at hcall hbyte
      have HCALL := Lib.hid hcall
      have HBYTE := Lib.hid hbyte
      have HBU := Lib.hid hbu
      have HTK := Lib.hid htk
      have HRF := Lib.hid hrf
      have HBT := Lib.hid hbt
      have HBL := Lib.hid hbl
      have HB := Lib.hid hb
      have HCL := Lib.hid hcl2
      clear hcall htk hrf hcl hbb hb hbyte hbu hbt hbl hcl2
      go_wp2_with fail
      refine HCALL.out.mono ?_
      rintro x w1 ⟨rfl, b1⟩
      have hb2 : Below w.heap.size w w1 := below_at HB.out b1
      obtain ⟨v0', v1', v2', v3'⟩ := HCL.out w1 hb2
      have hr1 : Row w1 5 1 A' k cap' (byteVs (Fo.bytes (l.take k))) := HRW.out.mod (Mod.of_below_size b1 (fun _ => False)) (fun _ _ h => h)
      have HR1 := Lib.hid hr1
      have HB2 := Lib.hid hb2
      clear b1 hb2 hr1 v0 v1 v2 v3
      cases b with
      | false =>
        go_wp2_with fail
        go_ret
        exact ⟨by unfold prE; rw [HRF.out (by trivial)]; rfl, HB2.out⟩
      | true =>
        go_wp2_with fail
        refine (HBYTE.out w1 (by trivial)).mono ?_
        rintro x w2 ⟨rfl, b2⟩
        have hb3 : Below w.heap.size w w2 := below_at HB2.out b2
        have hr2 : Row w2 5 1 A' k cap' (byteVs (Fo.bytes (l.take k))) := HR1.out.mod (Mod.of_below_size b2 (fun _ => False)) (fun _ _ h => h)
        have HR2 := Lib.hid hr2
        have HB3 := Lib.hid hb3
        have ew := HBU.out (by trivial)
        clear b2 hb3 hr2
        go_wp2_with (at_builtin; refine wpList_append_row (by rfl) _ _ _ (by rfl) 5 i0 _ 1 1 Try.underlying43 hi0 hz0 hz1 hz2 rfl (by omega) A' k cap' (byteVs (Fo.bytes (l.take k))) (by rfl) (HR2.out.alloc _) ⟨w2.heap.size, 0, none⟩ 1 1 [.int .u8 bu.toNat] (by rfl) (by rfl) (World.news_of_block (cs := #[.int .u8 bu.toNat]) (t := 5) (fr := (0, 0)) (heap_alloc_new w2 _)) (by simp [Value.oneCell']) (by omega) (by unfold maxLen; omega) (by omega) ?_; intro g1 of1 cap1 w3 hown hm hat; skip)
        obtain ⟨q1, q2⟩ := acc_more HA.out HB3.out hm hat (of := of1)
        have hr3 : Row w3 5 1 (some ⟨g1, of1, none⟩) (k + 1) cap1 (byteVs (Fo.bytes (l.take (k + 1)))) := by
          rw [HBT.out]; unfold byteVs at hown ⊢; rw [List.map_append]; exact hown
        go_roundw
        case rel => exact ⟨k + 1, some ⟨g1, of1, none⟩, cap1, by omega, by go_num, rfl, Lib.hid (by rw [HTK.out, HRT.out]; rfl), Lib.hid hr3, Lib.hid q1, q2⟩
        case measure => simp [intOf]; omega
    · have hkn : k = l.length := by omega
      have hcv := conv_bytes (P := Try.prog) HRW.out 43 9 Try.underlying43 Try.underlying5 Try.underlying9
      have HK := Lib.hid hkn
      have HB := Lib.hid hb
      clear hkn hb
      go_wp2_with fail
      go_ret
      have h1 := HRT.out
      rw [HK.out, List.take_length] at h1 ⊢
      exact ⟨by unfold prE; rw [if_pos h1]; rfl, HB.out⟩
end Go.Proofs.Ytgahjibjladafaa
