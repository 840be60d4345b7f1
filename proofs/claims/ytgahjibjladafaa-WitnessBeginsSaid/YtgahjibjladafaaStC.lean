/- prog.Right: the whole of it. -/
import Derived.Test.YtgahjibjladafaaStB
import Derived.Test.YtgahjibjladafaaFoEv
namespace Go.Proofs.Ytgahjibjladafaa
open Go.RowKit
set_option linter.unusedVariables false

theorem ins_cell {w : World} {B : Nat} {A : Option Addr} {l : List Ins} (h : RdB w B 4 A l.length (l.flatMap encI)) : ∀ k, (hk : k < l.length) → ∃ g o, A = some ⟨g, o, none⟩ ∧ g < B ∧ ∀ u, Below B w u → InAt u g (o + k * 4) l[k] := fun k hk => by
  obtain ⟨g, o, hA, hg, hc⟩ := h.2 (by omega)
  refine ⟨g, o, hA, hg, fun u hu => ?_⟩
  have hcl : ∀ r, r < 4 → u.cell? ⟨g, o + k * 4 + r, none⟩ = (encI l[k])[r]? := fun r hr => by
    rw [Nat.add_assoc, World.cell?_of_block (hu.block g hg), hc (k * 4 + r) (by omega), flat_get (f := encI) (sz := 4) encI_len l k r hk hr]
  have v0 := hcl 0 (by omega)
  have v1 := hcl 1 (by omega)
  have v2 := hcl 2 (by omega)
  have v3 := hcl 3 (by omega)
  simp only [encI, List.getElem?_cons_succ, List.getElem?_cons_zero, Nat.add_zero] at v0 v1 v2 v3
  exact ⟨v0, v1, v2, v3⟩
theorem any_takeI {l : List Ins} {p : Ins → Bool} {k : Nat} (hk : k < l.length) : (l.take (k + 1)).any p = ((l.take k).any p || p l[k]) := by
  rw [List.take_add_one, List.getElem?_eq_getElem hk, List.any_append]
  simp
theorem indexFunc_pright1 (w : World) (X Y : Nat) (A : Option Addr) (cap : Nat) (l : List Ins) (hr : Rd w 4 A l.length (l.flatMap encI)) (hl : l.length < 4611686018427387904) (p : Ins → Bool)
    (hf : ∀ u e, Below w.heap.size w u → Calls Try.prog 104 #[valI e, .pointer (some ⟨X, 0, none⟩), .pointer (some ⟨Y, 0, none⟩)] u fun x w' => x = .returned (.bool (p e)) ∧ Below u.heap.size u w') :
    Calls Try.prog 131 #[.slice A l.length cap, .func (.func 104) #[] #[.pointer (some ⟨X, 0, none⟩), .pointer (some ⟨Y, 0, none⟩)]] w fun x w' => ∃ n : Int, x = .returned (.int .i64 n) ∧ ((0 ≤ n) ↔ l.any p = true) ∧ Below w.heap.size w w' := by
  have HC := Lib.hid (ins_cell hr.toB)
  have HF := Lib.hid hf
  clear hr hf
  go_enter Try.func131, Try.ntmps131
  go_wp2_with fail
  go_loopw [8] (fun v wr => ∃ k : Nat, k ≤ l.length ∧ v = .int .i64 k ∧ Hid ((l.take k).any p = false) ∧ Below w.heap.size w wr) (fun v _ => l.length - (intOf v).toNat)
  case atStart => exact ⟨0, Nat.zero_le _, rfl, Lib.hid rfl, Below.refl _ _⟩
  case round =>
    obtain ⟨k, hk, rfl, HRT, hb⟩ := hrel
    by_cases hlt : k < l.length
    · obtain ⟨g, o, rfl, hg, hcl⟩ := HC.out k hlt
      obtain ⟨v0, v1, v2, v3⟩ := hcl wr hb
      have k1 : (0 : Int) ≤ (k : Int) := Int.natCast_nonneg _
      have k2 : (k : Int) < (l.length : Int) := by omega
      have hcall := HF.out wr l[k] hb
      have htk := any_takeI (p := p) hlt
      obtain ⟨b, hbb⟩ : ∃ b, b = p l[k] := ⟨_, rfl⟩
      have hin : b = true → l.any p = true := fun h => List.any_eq_true.2 ⟨l[k], List.getElem_mem hlt, by rw [← hbb, h]⟩
      rw [← hbb] at hcall htk
      unfold valI at hcall
      have HCALL := Lib.hid hcall
      have HTK := Lib.hid htk
      have HIN := Lib.hid hin
      have HB := Lib.hid hb
      clear hcall htk hin hcl hbb hb
      go_wp2_with fail
      refine HCALL.out.mono ?_
      rintro x w1 ⟨rfl, b1⟩
      have hb2 : Below w.heap.size w w1 := HB.out.trans ⟨b1.os, b1.tape, b1.output, b1.size, fun i hi => b1.block i (by have := HB.out.size; omega)⟩
      have HB2 := Lib.hid hb2
      clear b1 hb2
      cases b with
      | true =>
        go_wp2_with fail
        go_ret
        exact ⟨k, rfl, ⟨fun _ => HIN.out (by trivial), fun _ => k1⟩, HB2.out⟩
      | false =>
        go_wp2_with fail
        go_roundw
        case rel => exact ⟨k + 1, by omega, by go_num, Lib.hid (by rw [HTK.out, HRT.out]; rfl), HB2.out⟩
        case measure => simp [intOf]; omega
    · have hkn : k = l.length := by omega
      have HK := Lib.hid hkn
      have HB := Lib.hid hb
      clear hkn hb
      go_wp2_with fail
      go_ret
      have := HRT.out
      rw [HK.out, List.take_length] at this
      exact ⟨-1, rfl, ⟨fun h => by omega, fun h => by rw [this] at h; cases h⟩, HB.out⟩

theorem containsFunc_pright1 (w : World) (X Y : Nat) (A : Option Addr) (cap : Nat) (l : List Ins) (hr : Rd w 4 A l.length (l.flatMap encI)) (hl : l.length < 4611686018427387904) (p : Ins → Bool)
    (hf : ∀ u e, Below w.heap.size w u → Calls Try.prog 104 #[valI e, .pointer (some ⟨X, 0, none⟩), .pointer (some ⟨Y, 0, none⟩)] u fun x w' => x = .returned (.bool (p e)) ∧ Below u.heap.size u w') :
    Calls Try.prog 106 #[.slice A l.length cap, .func (.func 104) #[] #[.pointer (some ⟨X, 0, none⟩), .pointer (some ⟨Y, 0, none⟩)]] w fun x w' => x = .returned (.bool (l.any p)) ∧ Below w.heap.size w w' := by
  have H := Lib.hid (indexFunc_pright1 w X Y A cap l hr hl p hf)
  clear hr hf
  go_enter Try.func106, Try.ntmps106
  go_wp2_with fail
  refine H.out.mono ?_
  rintro x w1 ⟨n, rfl, hn, b1⟩
  have HN := Lib.hid hn
  have HB := Lib.hid b1
  clear hn b1
  go_wp2_with fail
  go_ret
  refine ⟨?_, HB.out⟩
  have : decide (0 ≤ n) = l.any p := by
    rw [Bool.eq_iff_iff, decide_eq_true_iff]; exact HN.out
  rw [← this]
  rfl


theorem pright1_any (w : World) (X Y : Nat) (vars mtx : Int) (A : Option Addr) (n cap : Nat) (i : Ins) (c0 : w.cell? ⟨X, 0, none⟩ = some (.int .i64 vars)) (c1 : w.cell? ⟨X, 1, none⟩ = some (.int .i64 mtx)) (hX : X < w.heap.size)
    (y0 : w.cell? ⟨Y, 0, none⟩ = some (.slice A n cap)) (hY : Y < w.heap.size) (hv : 0 ≤ vars ∧ vars ≤ 4) (hm : 0 ≤ mtx ∧ mtx ≤ 2) (hn : n ≤ 8) :
    Calls Try.prog 104 #[valI i, .pointer (some ⟨X, 0, none⟩), .pointer (some ⟨Y, 0, none⟩)] w fun x w' => x = .returned (.bool (!decide (Pr.InsOk vars mtx n i))) ∧ Below w.heap.size w w' := by
  obtain ⟨W, Z, hW, hZ, hB, hZl, hZe⟩ := ins_box w i
  have hb := hB
  have hcall := instrOk_any W X vars mtx (n : Int) i ((World.cell?_of_block (hB.block X hX)).trans c0) ((World.cell?_of_block (hB.block X hX)).trans c1) (by have := hB.size; omega) hv hm (by omega)
  obtain ⟨b, hbb⟩ : ∃ b, b = decide (Pr.InsOk vars mtx n i) := ⟨_, rfl⟩
  rw [← hbb] at hcall ⊢
  obtain ⟨⟨z0, z1, z2, z3⟩, zl⟩ := hZe W (Below.refl _ _)
  simp only [Nat.zero_add] at z1 z2 z3
  have y0' : W.cell? ⟨Y, 0, none⟩ = some (.slice A n cap) := (World.cell?_of_block (hB.block Y hY)).trans y0
  have yl : Y < W.heap.size := by have := hB.size; omega
  unfold valI at hcall ⊢
  have HCALL := Lib.hid hcall
  have HB := Lib.hid hB
  have HZ := Lib.hid hZ
  clear hcall hB hbb hb hZ hZe c0 c1 y0
  go_enter Try.func104, Try.ntmps104
  go_upto_region 1 with fail
  rw [← hW, ← HZ.out]
  clear hW
  go_wp2_with fail
  refine HCALL.out.mono ?_
  rintro x w1 ⟨rfl, b1⟩
  have hb2 : Below w.heap.size w w1 := below2 HB.out b1
  go_wp2_with fail
  go_ret
  exact ⟨rfl, hb2⟩
/-- a program's box -/
theorem pg_box (w : World) (v m : Int) (A : Option Addr) (n cap : Nat) : ∃ W X, W = w.alloc (Obj.cells #[.int .i64 v, .int .i64 m, .slice A n cap] 47) ∧ X = w.heap.size ∧ Below w.heap.size w W ∧ X < W.heap.size ∧ ∀ u, Below W.heap.size W u → u.cell? ⟨X, 0, none⟩ = some (.int .i64 v) ∧ u.cell? ⟨X, 1, none⟩ = some (.int .i64 m) ∧ u.cell? ⟨X, 2, none⟩ = some (.slice A n cap) ∧ X < u.heap.size := by
  refine ⟨_, _, rfl, rfl, (Below.refl _ _).alloc (Nat.le_refl _) _, by simp, fun u hu => ?_⟩
  have h1 := heap_alloc_new w (Obj.cells #[.int .i64 v, .int .i64 m, .slice A n cap] 47)
  have g1 := (hu.block _ (blk_lt h1)).trans h1
  exact ⟨by rw [cell_blk g1]; rfl, by rw [cell_blk g1]; rfl, by rw [cell_blk g1]; rfl, blk_lt g1⟩
theorem sl_box (w : World) (T : TypeId) (A : Option Addr) (n cap : Nat) : ∃ W X, W = w.alloc (Obj.cells #[.slice A n cap] T) ∧ X = w.heap.size ∧ Below w.heap.size w W ∧ X < W.heap.size ∧ ∀ u, Below W.heap.size W u → u.cell? ⟨X, 0, none⟩ = some (.slice A n cap) ∧ X < u.heap.size := by
  refine ⟨_, _, rfl, rfl, (Below.refl _ _).alloc (Nat.le_refl _) _, by simp, fun u hu => ?_⟩
  have h1 := heap_alloc_new w (Obj.cells #[.slice A n cap] T)
  have g1 := (hu.block _ (blk_lt h1)).trans h1
  exact ⟨by rw [cell_blk g1]; rfl, blk_lt g1⟩
def valP (p : Pg) (A : Option Addr) (cap : Nat) : Value := .agg #[.int .i64 p.vars, .int .i64 p.mtx, .slice A p.code.length cap]
theorem not_any {vars mtx : Int} {q : List Ins} : (q.any fun i => !decide (Pr.InsOk vars mtx q.length i)) = !decide (∀ i ∈ q, Pr.InsOk vars mtx q.length i) := by
  rw [Bool.eq_iff_iff]
  simp
theorem code_take {vars mtx : Int} {L : List (List Ins)} {k : Nat} {q : List Ins} (hq : L[k]? = some q) (h : ∀ c ∈ L.take k, Pr.CodeOk vars mtx c) (hc : Pr.CodeOk vars mtx q) : ∀ c ∈ L.take (k + 1), Pr.CodeOk vars mtx c := fun c hm => by
  rw [List.take_add_one, hq] at hm
  rcases List.mem_append.1 hm with h1 | h1
  · exact h c h1
  · simp at h1; subst h1; exact hc
set_option maxRecDepth 100000 in
set_option maxHeartbeats 4000000 in
theorem pright_any (w : World) (p : Pg) (A : Option Addr) (cap : Nat) (hcd : CdAt w (fun k => k < w.heap.size) A p.code) (hl : p.code.length ≤ maxLen) (hq : ∀ q ∈ p.code, q.length ≤ maxLen) :
    Calls Try.prog 75 #[valP p A cap] w fun x w' => x = .returned (.bool (decide (Pr.Ok p))) ∧ Below w.heap.size w w' := by
  obtain ⟨v, m, L⟩ := p
  unfold valP
  simp only at hcd hl hq ⊢
  have hll : L.length < 9223372036854775808 := by unfold maxLen at hl; omega
  obtain ⟨W, X, hW, hX, hB, hXl, hXe⟩ := pg_box w v m A L.length cap
  have HX := Lib.hid hXe
  obtain ⟨x0, x1, x2, xl⟩ := hXe W (Below.refl _ _)
  have HB := Lib.hid hB
  have HCD := Lib.hid hcd
  have HLQ := Lib.hid hq
  obtain ⟨b1, hb1⟩ : ∃ b, b = decide (0 ≤ v ∧ v ≤ 4) := ⟨_, rfl⟩
  obtain ⟨b2, hb2⟩ : ∃ b, b = decide (0 ≤ m ∧ m ≤ 2) := ⟨_, rfl⟩
  obtain ⟨b3, hb3⟩ : ∃ b, b = decide (1 ≤ (L.length : Int) ∧ (L.length : Int) ≤ 4) := ⟨_, rfl⟩
  have hc1 : ∀ u, Calls Try.prog 103 #[.int .i64 v, .int .i64 0, .int .i64 4] u fun x w' => x = .returned (.bool b1) ∧ u = w' := fun u => by rw [hb1]; exact within_any u v 0 4
  have hc2 : ∀ u, Calls Try.prog 103 #[.int .i64 m, .int .i64 0, .int .i64 2] u fun x w' => x = .returned (.bool b2) ∧ u = w' := fun u => by rw [hb2]; exact within_any u m 0 2
  have hc3 : ∀ u, Calls Try.prog 103 #[.int .i64 (L.length : Int), .int .i64 1, .int .i64 4] u fun x w' => x = .returned (.bool b3) ∧ u = w' := fun u => by rw [hb3]; exact within_any u (L.length : Int) 1 4
  have HC1 := Lib.hid hc1
  have HC2 := Lib.hid hc2
  have HC3 := Lib.hid hc3
  have HB1 := Lib.hid hb1
  have HB2 := Lib.hid hb2
  have HB3 := Lib.hid hb3
  clear hc1 hc2 hc3 hb1 hb2 hb3 hB hXe hcd hq hl
  go_enter Try.func75, Try.ntmps75
  go_upto_region 1 with fail
  rw [← hW, ← hX]
  clear hW hX
  go_wp2_with fail
  refine (HC1.out _).mono ?_
  rintro x w1 ⟨rfl, rfl⟩
  cases b1 with
  | false =>
    go_wp2_with fail
    go_ret
    exact ⟨by rw [decide_eq_false (fun h => of_decide_eq_false HB1.out.symm ⟨h.1.1, h.1.2.1⟩)]; rfl, HB.out⟩
  | true =>
    have q1 := of_decide_eq_true HB1.out.symm
    go_wp2_with fail
    refine (HC2.out _).mono ?_
    rintro x w1 ⟨rfl, rfl⟩
    cases b2 with
    | false =>
      go_wp2_with fail
      go_ret
      exact ⟨by rw [decide_eq_false (fun h => of_decide_eq_false HB2.out.symm ⟨h.1.2.2.1, h.1.2.2.2.1⟩)]; rfl, HB.out⟩
    | true =>
      have q2 := of_decide_eq_true HB2.out.symm
      go_wp2_with fail
      refine (HC3.out _).mono ?_
      rintro x w1 ⟨rfl, rfl⟩
      cases b3 with
      | false =>
        go_wp2_with fail
        go_ret
        exact ⟨by rw [decide_eq_false (fun h => of_decide_eq_false HB3.out.symm (by have h1 := h.1.2.2.2.2.1; have h2 := h.1.2.2.2.2.2; simp only at h1 h2; omega))]; rfl, HB.out⟩
      | true =>
        have q3 := of_decide_eq_true HB3.out.symm
        have hhd : Pr.HeadOk ⟨v, m, L⟩ := ⟨q1.1, q1.2, q2.1, q2.2, by simp only; omega, by simp only; omega⟩
        have HHD := Lib.hid hhd
        clear hhd
        go_wp2_with fail
        go_loopw [26] (fun x wr => ∃ k : Nat, k ≤ L.length ∧ x = .int .i64 k ∧ Hid (∀ c ∈ L.take k, Pr.CodeOk v m c) ∧ Hid (Below W.heap.size W wr)) (fun x _ => L.length - (intOf x).toNat)
        case atStart => exact ⟨0, Nat.zero_le _, rfl, Lib.hid (fun c h => by simp at h), Lib.hid (Below.refl _ _)⟩
        case round =>
          clear x0 x1 x2
          obtain ⟨k, hk, rfl, HOK, HW⟩ := hrel
          by_cases hlt : k < L.length
          · obtain ⟨q, hq⟩ := get_some hlt
            obtain ⟨g, o, A', c', rfl, hg, hlg, hrq, hqc, hcm, hcell⟩ := HCD.out.get k q hq
            have ca := hcell wr (((below_at HB.out HW.out).block g hlg))
            have lg : g < wr.heap.size := by have := (below_at HB.out HW.out).size; omega
            have hqm := HLQ.out q (List.mem_of_getElem? hq)
            have hql : q.length < 9223372036854775808 := by unfold maxLen at hqm; omega
            have k1 : (0 : Int) ≤ (k : Int) := Int.natCast_nonneg _
            have k2 : (k : Int) < (L.length : Int) := by omega
            have HRQ := Lib.hid (hrq.below (below_at HB.out HW.out))
            have HQ := Lib.hid hq
            clear hq hcell hrq hqm
            obtain ⟨W2, Y, hW2, hY, hB2, hYl, hYe⟩ := sl_box wr 116 A' q.length c'
            go_upto_region 6 with fail
            rw [← hW2, ← hY]
            have HW2 := Lib.hid (below_at HW.out hB2)
            obtain ⟨y0, yl⟩ := hYe W2 (Below.refl _ _)
            have HY := Lib.hid hYe
            have HRQ := Lib.hid ((HRQ.out.below hB2).rd)
            clear hW2 hY hB2 hYl hYe ca lg
            by_cases h8 : q.length ≤ 8
            · have h8' : ¬ (8 : Int) < (q.length : Int) := by omega
              have hd : decide (8 < q.length) = false := by simp; omega
              have hcall := containsFunc_pright1 W2 X Y A' c' q HRQ.out (by omega) (fun i => !decide (Pr.InsOk v m q.length i)) (fun u e hu => by
                obtain ⟨c0, c1, _, cl⟩ := HX.out u (below_at HW2.out hu)
                obtain ⟨d0, dl⟩ := HY.out u hu
                exact pright1_any u X Y v m A' q.length c' e c0 c1 cl d0 dl q1 q2 h8)
              obtain ⟨b, hb⟩ : ∃ b, b = q.any (fun i => !decide (Pr.InsOk v m q.length i)) := ⟨_, rfl⟩
              rw [← hb] at hcall
              rw [not_any] at hb
              have HCALL := Lib.hid hcall
              have HBB := Lib.hid hb
              clear hcall hb
              go_wp2_with fail
              refine HCALL.out.mono ?_
              rintro x w3 ⟨rfl, b3⟩
              have HW3 := Lib.hid (below_at HW2.out b3)
              clear b3
              cases b with
              | false =>
                go_wp2_with fail
                go_roundw
                case rel =>
                  exact ⟨k + 1, by omega, by go_num, Lib.hid (code_take HQ.out HOK.out ⟨h8, of_decide_eq_true (by have := HBB.out; simpa using this)⟩), HW3.out |> Lib.hid⟩
                case measure => simp [intOf]; omega
              | true =>
                go_wp2_with fail
                go_ret
                exact ⟨by rw [decide_eq_false (fun h => by have h1 := (h.2 q (List.mem_of_getElem? HQ.out)).2; have h2 := HBB.out; simp only [decide_eq_true h1] at h2; cases h2)]; rfl, below_at HB.out HW3.out⟩
            · have h8' : (8 : Int) < (q.length : Int) := by omega
              have hd : decide (8 < q.length) = true := by simp; omega
              go_wp2_with fail
              go_ret
              exact ⟨by rw [decide_eq_false (fun h => h8 (h.2 q (List.mem_of_getElem? HQ.out)).1)]; rfl, below_at HB.out HW2.out⟩
          · have hkn : k = L.length := by omega
            have hok := HOK.out
            rw [hkn, List.take_length] at hok
            have HOK := Lib.hid hok
            clear hok
            go_wp2_with fail
            go_ret
            exact ⟨by rw [decide_eq_true (show Pr.Ok ⟨v, m, L⟩ from ⟨HHD.out, HOK.out⟩)]; rfl, below_at HB.out HW.out⟩
end Go.Proofs.Ytgahjibjladafaa
