/- ReportPrints: any report has the bytes that the document says, or none, and is read as it was; any bytes are the report that it says, or are refused. -/
import Derived.Test.YtgahjibjladafaaReN
import Derived.Test.YtgahjibjladafaaFoLv
import Derived.JoinedTies
import GoSem.Claim
import Derived.KernelRfl
namespace Go.Proofs.Ytgahjibjladafaa
open Go.RowKit
set_option linter.unusedVariables false

namespace Ky
theorem read_facts (s : List UInt8) : ∃ (R1 : List K) (R2 : Bool) (R3 : Nat), readK s = (R1, R2, R3) ∧ R1.length ≤ 65535 ∧ (∀ k ∈ R1, k.length ≤ 401) ∧ (R3 = 0 → printK R1 R2 = s) ∧ R3 ≤ 4 := by
  rcases h : readK s with ⟨R1, R2, R3⟩
  refine ⟨R1, R2, R3, rfl, ?_⟩
  by_cases h0 : R3 = 0
  · subst h0
    obtain ⟨h1, h2⟩ := print_read h
    exact ⟨by unfold rightK at h2; simp at h2; exact h2.2, right_len h2, fun _ => h1, by omega⟩
  · have : R1 = [] ∧ R3 ≤ 4 := by
      unfold readK at h
      split at h
      · simp only [Prod.mk.injEq] at h; exact ⟨h.1.symm, by omega⟩
      · split at h
        · simp only [Prod.mk.injEq] at h; exact ⟨h.1.symm, by omega⟩
        · split at h
          · simp only [Prod.mk.injEq] at h; exact ⟨h.1.symm, by omega⟩
          · simp only [Prod.mk.injEq] at h; exact absurd h.2.2.symm h0
    obtain ⟨rfl, h1⟩ := this
    exact ⟨by simp, fun k hk => (by cases hk), fun h => absurd h h0, h1⟩
theorem few_facts {ks : List K} (h : fewK ks = true) : ks.length ≤ 60 ∧ ∀ k ∈ ks, k.length ≤ 200 := by
  unfold fewK at h
  rw [Bool.and_eq_true] at h
  exact ⟨by simpa using h.2, fun k hk => by simpa using List.all_eq_true.1 h.1 k hk⟩
end Ky

set_option maxRecDepth 100000 in
set_option maxHeartbeats 8000000 in
theorem reportPrints_any (W : World) (A : Option Addr) (cap : Nat) (ks : List Ky.K) (c : Bool) (s : ByteArray) (hr : Rd W 1 A ks.length (ks.map sv)) (hl : ks.length ≤ maxLen) (hk : ∀ k ∈ ks, k.length ≤ maxLen) (hs : s.size ≤ maxLen) :
    Calls Try.prog 9 #[.slice A ks.length cap, .bool c, .string s] W fun e w' => e = .returned (.bool true) ∧ Below W.heap.size W w' := by
  have hm1 : s.size < 9223372036854775808 := by unfold maxLen at hs; omega
  have hfew : ∀ u, Below W.heap.size W u → Calls Try.prog 42 #[.slice A ks.length cap] u fun x w' => x = .returned (.bool (fewK ks)) ∧ Below u.heap.size u w' := fun u hu => few_any u A cap ks (hr.below hu (Nat.le_refl _)) hl hk
  obtain ⟨fk, hfk⟩ : ∃ fk, fk = fewK ks := ⟨_, rfl⟩
  rw [← hfk] at hfew
  have HFK := Lib.hid hfk
  have HFEW := Lib.hid hfew
  have HR := Lib.hid hr
  clear hr hl hk hs hfew hfk
  go_enter Try.func9, Try.ntmps9
  go_upto_region 1 with fail
  go_cut [27] (fun v w2 => Below W.heap.size W w2 ∧ ∃ z, v = .bool z ∧ (z = false → fk = true ∧ s.size ≤ 600))
  case first =>
    go_wp2_with fail
    refine (awake15 _).mono ?_
    rintro x w1 ⟨rfl, b1⟩
    have HB1 := Lib.hid b1
    have HC := Lib.hid (HFEW.out w1 b1)
    clear b1
    go_wp2_with fail
    refine HC.out.mono ?_
    rintro x w2 ⟨rfl, b2⟩
    have HB2 := Lib.hid (below_at HB1.out b2)
    clear b2
    cases fk with
    | false =>
      go_wp2_with fail
      go_meet
      exact ⟨HB2.out, _, rfl, fun h => by cases h⟩
    | true =>
      go_wp2_with fail
      all_goals (go_meet)
      all_goals (exact ⟨HB2.out, _, rfl, fun h => ⟨by trivial, by first | (cases h; done) | (simp at h; omega) | omega⟩⟩)
  case rest =>
    obtain ⟨b1, z, rfl, hz⟩ := hcut
    have HB1 := Lib.hid b1
    clear b1
    cases z with
    | true =>
      go_wp2_with fail
      refine (awake15 _).mono ?_
      rintro e w2 ⟨rfl, b2⟩
      go_wp2_with fail
      go_ret
      exact ⟨rfl, below_at HB1.out b2⟩
    | false =>
      obtain ⟨rfl, h6⟩ := hz rfl
      obtain ⟨hk6, hk2⟩ := Ky.few_facts HFK.out.symm
      clear hz hm1 HFEW
      obtain ⟨i0, hi0, hz0, hz1, hz2⟩ := info_parts Try.infoStrR
      have HK2 := Lib.hid hk2
      have HX := Lib.hid (HR.out.below (HB1.out.alloc HB1.out.size (Obj.cells #[] 9)) (Nat.le_refl _))
      clear hk2
      go_upto_region 4 with (at_builtin; refine wpList_append_copy (by rfl) _ _ _ (by rfl) 9 i0 _ 1 16 Try.underlying67 hi0 hz0 hz1 hz2 rfl (by omega) ⟨wc.heap.size, 0, none⟩ 0 [] (by rfl) (row_empty (heap_alloc_new wc _)) A ks.length cap (ks.map sv) (by rfl) HX.out (by unfold maxLen; omega) (by omega) ?_; intro g7 o7 cap7 w2 hown hb2 hg7)
      rw [Nat.zero_add, List.nil_append] at hown
      have HB2 := Lib.hid (below_at (HB1.out.alloc HB1.out.size _) hb2)
      have HR2 := Lib.hid hown.rd
      obtain ⟨W3, X, hW3, hX, hBW, hXl, hXe⟩ := box_rep w2 70 (some ⟨g7, o7, none⟩) ks.length cap7 c
      rw [← hW3, ← hX]
      have HX3 := Lib.hid hXe
      have HB3 := Lib.hid (below_at HB2.out hBW)
      have HR3 := Lib.hid (HR2.out.below hBW (Nat.le_refl _))
      obtain ⟨x0, x1, xl⟩ := hXe W3 (Below.refl _ _)
      -- the contracts for these keys
      have hks : ∀ k ∈ ks, k.length < 100000 := fun k hk => by have := HK2.out k hk; omega
      obtain ⟨P, hP⟩ : ∃ P : ByteArray, P = ⟨(Ky.printK ks c).toArray⟩ := ⟨_, rfl⟩
      obtain ⟨rk, hrk⟩ : ∃ rk, rk = Ky.rightK ks := ⟨_, rfl⟩
      have hpr : ∀ (u : World) (A' : Option Addr) (cap' : Nat), Rd u 1 A' ks.length (ks.map sv) → Calls Try.prog 43 #[.agg #[.slice A' ks.length cap', .bool c]] u fun x w' => x = .returned (.string P) ∧ Below u.heap.size u w' := fun u A' cap' h => by rw [hP]; exact rprint_any u A' cap' ks c h (by omega) hks
      have hpr2 : ∀ (u : World), Below W.heap.size W u → Calls Try.prog 46 #[.agg #[.slice A ks.length cap, .bool c]] u fun x w' => x = .returned (.string P) ∧ Below u.heap.size u w' := fun u hu => by rw [hP]; exact refPrint15_any u A cap ks c (HR.out.below hu (Nat.le_refl _)) (by omega) hks
      have hrt : ∀ (u : World) (A' : Option Addr) (cap' : Nat), Rd u 1 A' ks.length (ks.map sv) → Calls Try.prog 47 #[.agg #[.slice A' ks.length cap', .bool c]] u fun x w' => x = .returned (.bool rk) ∧ Below u.heap.size u w' := fun u A' cap' h => by rw [hrk]; exact rright_any u A' cap' ks c h (by omega) hks
      have hrt2 : ∀ (u : World), Below W.heap.size W u → Calls Try.prog 48 #[.agg #[.slice A ks.length cap, .bool c]] u fun x w' => x = .returned (.bool rk) ∧ Below u.heap.size u w' := fun u hu => by rw [hrk]; exact refRight15_any u A cap ks c (HR.out.below hu (Nat.le_refl _)) (by omega) hks
      obtain ⟨R1, R2, R3, hRK, hR1, hR4, hRp, hR5⟩ := Ky.read_facts s.data.toList
      have hR1k : ∀ k ∈ R1, k.length < 100000 := fun k hk => by have := hR4 k hk; omega
      have hrd : ∀ u, Calls Try.prog 44 #[.string s] u fun x w' => ∃ A' cap', x = .returned (.tuple #[.agg #[.slice A' R1.length cap', .bool R2], .int .i64 (R3 : Nat)]) ∧ Rd w' 1 A' R1.length (R1.map sv) ∧ Below u.heap.size u w' := fun u => by
        have := rread_any u s (by omega)
        rw [hRK] at this
        exact this.mono fun x w' h => by obtain ⟨A', cap', a1, a2, a3⟩ := h; exact ⟨A', cap', a1, a2.1, a3⟩
      have hrd2 : ∀ u, Calls Try.prog 45 #[.string s] u fun x w' => ∃ A' cap', x = .returned (.tuple #[.agg #[.slice A' R1.length cap', .bool R2], .int .i64 (R3 : Nat)]) ∧ Rd w' 1 A' R1.length (R1.map sv) ∧ Below u.heap.size u w' := fun u => by
        have := refRead15_any u s (by omega)
        rw [hRK] at this
        exact this.mono fun x w' h => by obtain ⟨A', cap', a1, a2, a3⟩ := h; exact ⟨A', cap', a1, a2.1, a3⟩
      have hsm : ∀ (u : World) (A' : Option Addr) (cap' : Nat) (B' : Option Addr) (cap'' : Nat), Rd u 1 A' R1.length (R1.map sv) → Rd u 1 B' R1.length (R1.map sv) → Calls Try.prog 49 #[.slice A' R1.length cap', .slice B' R1.length cap''] u fun x w' => x = .returned (.bool true) ∧ Below u.heap.size u w' := fun u A' cap' B' cap'' h1 h2 => by
        have := same6_any u A' cap' R1 B' cap'' R1 h1 h2 (by omega)
        rwa [decide_eq_true rfl] at this
      have hps : R3 = 0 → ∀ (u : World) (A' : Option Addr) (cap' : Nat), Rd u 1 A' R1.length (R1.map sv) → Calls Try.prog 43 #[.agg #[.slice A' R1.length cap', .bool R2]] u fun x w' => x = .returned (.string s) ∧ Below u.heap.size u w' := fun h0 u A' cap' h => by
        have := rprint_any u A' cap' R1 R2 h (by omega) hR1k
        rw [hRp h0, ba_back] at this
        exact this
      have hfin : (rk = true → P.toList.isEmpty = false ∧ ∀ u, Calls Try.prog 44 #[.string P] u fun x w' => ∃ A' cap', x = .returned (.tuple #[.agg #[.slice A' ks.length cap', .bool c], .int .i64 0]) ∧ Rd w' 1 A' ks.length (ks.map sv) ∧ Below u.heap.size u w') ∧
          (rk = false → P = ⟨#[]⟩) := by
        refine ⟨fun h => ?_, fun h => ?_⟩
        · have h1 : Ky.printK ks c ≠ [] := fun e => by have := Ky.print_ne.1 e; rw [← hrk, h] at this; cases this
          refine ⟨by rw [hP, ByteArray.toList_eq]; cases hq : Ky.printK ks c with
            | nil => exact (h1 hq).elim
            | cons _ _ => rfl, fun u => ?_⟩
          have hsz : P.size ≤ 3 + 60 * 403 := by
            have hel := Ky.encUp_len (c := c) (Ky.right_len (ks := ks) (by rw [← hrk]; exact h)) ks.length
            have : P.size = (Ky.printK ks c).length := by rw [hP]; show (Ky.printK ks c).toArray.size = _; simp
            rw [this]
            unfold Ky.printK Ky.enc15
            rw [if_pos (by rw [← hrk]; exact h)]
            unfold Ky.encUp at hel
            rw [List.take_length] at hel
            omega
          have := rread_any u P (by omega)
          rw [show P.data.toList = Ky.printK ks c by rw [hP], Ky.read_print (by rw [← hrk]; exact h) (fun k hk => by have := HK2.out k hk; omega)] at this
          exact this.mono fun x w' h => by obtain ⟨A', cap', a1, a2, a3⟩ := h; exact ⟨A', cap', a1, a2.1, a3⟩
        · rw [hP, Ky.print_ne.2 (by rw [← hrk]; exact h)]
      have hsk : ∀ (u : World) (A' : Option Addr) (cap' : Nat), Below W.heap.size W u → Rd u 1 A' ks.length (ks.map sv) → Calls Try.prog 49 #[.slice A' ks.length cap', .slice A ks.length cap] u fun x w' => x = .returned (.bool true) ∧ Below u.heap.size u w' := fun u A' cap' hu h1 => by
        have := same6_any u A' cap' ks A cap ks h1 (HR.out.below hu (Nat.le_refl _)) (by omega)
        rwa [decide_eq_true rfl] at this
      have HPR := Lib.hid hpr
      have HPR2 := Lib.hid hpr2
      have HRT := Lib.hid hrt
      have HRT2 := Lib.hid hrt2
      have HRD := Lib.hid hrd
      have HRD2 := Lib.hid hrd2
      have HSM := Lib.hid hsm
      have HPS := Lib.hid hps
      have HFIN := Lib.hid hfin
      have HSK := Lib.hid hsk
      clear hW3 hX hBW hXl hXe hown hb2 hg7 hks hP hrk hpr hpr2 hrt hrt2 hRK hR4 hRp hR1k hrd hrd2 hsm hps hfin hsk HX HR2 HB2
      go_wp2_with fail
      refine (HPR.out W3 _ _ HR3.out).mono ?_
      rintro x w4 ⟨rfl, b4⟩
      have HB4 := Lib.hid (below_at HB3.out b4)
      have HF4 := Lib.hid b4
      clear b4 x0 x1 xl
      go_upto_region 6 with fail
      obtain ⟨W5, Y, hW5, hY, hBW, hYl, hYe⟩ := box_rep w4 72 A ks.length cap c
      rw [← hW5, ← hY]
      have HY5 := Lib.hid hYe
      have HB5 := Lib.hid (below_at HB4.out hBW)
      have HF5 := Lib.hid (below_at HF4.out hBW)
      clear hW5 hY hBW hYl hYe
      go_wp2_with fail
      refine (HRD.out W5).mono ?_
      rintro x w6 ⟨A6, cap6, rfl, hr6, b6⟩
      have HB6 := Lib.hid (below_at HB5.out b6)
      have HF6 := Lib.hid (below_at HF5.out b6)
      have HG6 := Lib.hid b6
      have HR6 := Lib.hid hr6
      clear b6 hr6
      go_upto_region 7 with fail
      obtain ⟨W7, Z, hW7, hZ, hBW, hZl, hZe⟩ := box_rep w6 70 A6 R1.length cap6 R2
      rw [← hW7, ← hZ]
      have HZ7 := Lib.hid hZe
      have HB7 := Lib.hid (below_at HB6.out hBW)
      have HF7 := Lib.hid (below_at HF6.out hBW)
      have HG7 := Lib.hid (below_at HG6.out hBW)
      have HR7 := Lib.hid (HR6.out.below hBW (Nat.le_refl _))
      clear hW7 hZ hBW hZl hZe HR6
      go_wp2_with fail
      refine (HRD2.out W7).mono ?_
      rintro x w8 ⟨A8, cap8, rfl, hr8, b8⟩
      have HB8 := Lib.hid (below_at HB7.out b8)
      have HF8 := Lib.hid (below_at HF7.out b8)
      have HG8 := Lib.hid (below_at HG7.out b8)
      have HI8 := Lib.hid b8
      have HR8 := Lib.hid hr8
      clear b8 hr8
      go_upto_region 8 with fail
      obtain ⟨W9, Q, hW9, hQ, hBW, hQl, hQe⟩ := box_rep w8 72 A8 R1.length cap8 R2
      rw [← hW9, ← hQ]
      have HQ9 := Lib.hid hQe
      have HB9 := Lib.hid (below_at HB8.out hBW)
      have HF9 := Lib.hid (below_at HF8.out hBW)
      have HG9 := Lib.hid (below_at HG8.out hBW)
      have HI9 := Lib.hid (below_at HI8.out hBW)
      have HR9 := Lib.hid (HR8.out.below hBW (Nat.le_refl _))
      clear hW9 hQ hBW hQl hQe HR8
      -- what may be read behind it
      have hq : ∀ u, Below W9.heap.size W9 u → (u.cell? ⟨X, 0, none⟩ = some (.slice (some ⟨g7, o7, none⟩) ks.length cap7) ∧ u.cell? ⟨X, 1, none⟩ = some (.bool c)) ∧ (u.cell? ⟨Y, 0, none⟩ = some (.slice A ks.length cap) ∧ u.cell? ⟨Y, 1, none⟩ = some (.bool c)) ∧
          (u.cell? ⟨Z, 0, none⟩ = some (.slice A6 R1.length cap6) ∧ u.cell? ⟨Z, 1, none⟩ = some (.bool R2)) ∧ u.cell? ⟨Q, 0, none⟩ = some (.slice A8 R1.length cap8) ∧ u.cell? ⟨Q, 1, none⟩ = some (.bool R2) := fun u hu => by
        obtain ⟨a1, a2, _⟩ := HX3.out u (below_at HF9.out hu)
        obtain ⟨b1, b2, _⟩ := HY5.out u (below_at HG9.out hu)
        obtain ⟨c1, c2, _⟩ := HZ7.out u (below_at HI9.out hu)
        obtain ⟨d1, d2, _⟩ := HQ9.out u hu
        exact ⟨⟨a1, a2⟩, ⟨b1, b2⟩, ⟨c1, c2⟩, d1, d2⟩
      have HQ := Lib.hid hq
      have hS : Below W9.heap.size W9 W9.drew := (Below.refl _ _).drew
      clear hq
      have h3 : (R3 = 0 ∧ ((R3 : Int) == 0) = true) ∨ (R3 ≠ 0 ∧ ((R3 : Int) == 0) = false) := by
        by_cases h : R3 = 0
        · exact .inl ⟨h, by rw [h]; rfl⟩
        · exact .inr ⟨h, by rw [beq_eq_false_iff_ne]; omega⟩
      go_cut [89] (fun v w2 => v = .bool false ∧ Below W9.heap.size W9 w2)
      case first =>
        rcases h3 with ⟨h3, h3i⟩ | ⟨h3, h3i⟩
        · have HPS0 := Lib.hid (HPS.out h3)
          have H3 := Lib.hid h3
          clear h3 HPS
          refine wp_region_plan (by kernel_rfl) (fun u => Below W9.heap.size W9 u) [36] [(0, .pure), (1, .load), (2, .eff), (3, .pure), (4, .pure), (5, .load), (7, .load), (6, .eff), (8, .eff), (9, .pure), (10, .pure), (11, .pure), (12, .pure), (13, .pure), (14, .pure), (15, .pure), (16, .pure), (17, .pure), (18, .load), (19, .pure), (20, .load), (21, .eff), (22, .pure), (23, .pure), (24, .pure), (25, .pure), (26, .load), (27, .pure), (28, .load), (29, .pure), (30, .pure), (31, .pure), (32, .pure), (33, .pure), (34, .pure), (35, .load), (37, .pure), (36, .last), (38, .pure), (39, .pure), (40, .pure)] (by simp only [List.map_cons, List.map_nil, List.getElem?_toArray, List.getElem?_cons_succ, List.getElem?_cons_zero]; rfl) (by kernel_rfl) (fun _ _ d _ _ h => by cases d <;> exact h) (hS) ?_
          repeat (first
            | (refine plan_pure (v := ?_) (by rfl) (fun w1 => ?_) ?_
               rotate_left
               · go_simp <;> with_reducible rfl
               simp only [Act.put, List.setIfInBounds_toArray, List.set_cons_zero, List.set_cons_succ])
            | (refine plan_off (by rfl) ?_
               simp only [Act.put, List.setIfInBounds_toArray, List.set_cons_zero, List.set_cons_succ])
            | (refine plan_load_off (by rfl) ?_
               simp only [Act.put, List.setIfInBounds_toArray, List.set_cons_zero, List.set_cons_succ])
            | (refine plan_load (v := ?_) (by rfl) (fun w1 hw1 => ?_) ?_
               rotate_left
               · (have q := HQ.out w1 hw1
                  obtain ⟨⟨q0, q1⟩, ⟨q2, q3⟩, ⟨q4, q5⟩, q6, q7⟩ := q
                  clear hw1
                  go_simp <;> with_reducible rfl)
               simp only [Act.put, List.setIfInBounds_toArray, List.set_cons_zero, List.set_cons_succ]))
          refine plan_eff ?_
          go_wp2_with fail
          refine (HPR2.out _ HB9.out.drew).mono ?_
          rintro x v1 ⟨rfl, cc⟩
          have S1 := Lib.hid (below_at hS cc)
          clear cc
          go_wp2_with fail
          refine plan_on (fun _ h => h) S1.out ?_
          repeat (first
            | (refine plan_pure (v := ?_) (by rfl) (fun w1 => ?_) ?_
               rotate_left
               · go_simp <;> with_reducible rfl
               simp only [Act.put, List.setIfInBounds_toArray, List.set_cons_zero, List.set_cons_succ])
            | (refine plan_off (by rfl) ?_
               simp only [Act.put, List.setIfInBounds_toArray, List.set_cons_zero, List.set_cons_succ])
            | (refine plan_load_off (by rfl) ?_
               simp only [Act.put, List.setIfInBounds_toArray, List.set_cons_zero, List.set_cons_succ])
            | (refine plan_load (v := ?_) (by rfl) (fun w1 hw1 => ?_) ?_
               rotate_left
               · (have q := HQ.out w1 hw1
                  obtain ⟨⟨q0, q1⟩, ⟨q2, q3⟩, ⟨q4, q5⟩, q6, q7⟩ := q
                  clear hw1
                  go_simp <;> with_reducible rfl)
               simp only [Act.put, List.setIfInBounds_toArray, List.set_cons_zero, List.set_cons_succ]))
          refine plan_eff ?_
          go_wp2_with fail
          refine (HRT.out v1 _ _ (HR3.out.below (below_at HF9.out S1.out) (Nat.le_refl _))).mono ?_
          rintro x v2 ⟨rfl, cc⟩
          have S2 := Lib.hid (below_at S1.out cc)
          clear cc
          go_wp2_with fail
          refine plan_on (fun _ h => h) S2.out ?_
          repeat (first
            | (refine plan_pure (v := ?_) (by rfl) (fun w1 => ?_) ?_
               rotate_left
               · go_simp <;> with_reducible rfl
               simp only [Act.put, List.setIfInBounds_toArray, List.set_cons_zero, List.set_cons_succ])
            | (refine plan_off (by rfl) ?_
               simp only [Act.put, List.setIfInBounds_toArray, List.set_cons_zero, List.set_cons_succ])
            | (refine plan_load_off (by rfl) ?_
               simp only [Act.put, List.setIfInBounds_toArray, List.set_cons_zero, List.set_cons_succ])
            | (refine plan_load (v := ?_) (by rfl) (fun w1 hw1 => ?_) ?_
               rotate_left
               · (have q := HQ.out w1 hw1
                  obtain ⟨⟨q0, q1⟩, ⟨q2, q3⟩, ⟨q4, q5⟩, q6, q7⟩ := q
                  clear hw1
                  go_simp <;> with_reducible rfl)
               simp only [Act.put, List.setIfInBounds_toArray, List.set_cons_zero, List.set_cons_succ]))
          refine plan_eff ?_
          go_wp2_with fail
          refine (HRT2.out v2 (below_at HB9.out S2.out)).mono ?_
          rintro x v3 ⟨rfl, cc⟩
          have S3 := Lib.hid (below_at S2.out cc)
          clear cc
          go_wp2_with fail
          refine plan_on (fun _ h => h) S3.out ?_
          repeat (first
            | (refine plan_pure (v := ?_) (by rfl) (fun w1 => ?_) ?_
               rotate_left
               · go_simp <;> with_reducible rfl
               simp only [Act.put, List.setIfInBounds_toArray, List.set_cons_zero, List.set_cons_succ])
            | (refine plan_off (by rfl) ?_
               simp only [Act.put, List.setIfInBounds_toArray, List.set_cons_zero, List.set_cons_succ])
            | (refine plan_load_off (by rfl) ?_
               simp only [Act.put, List.setIfInBounds_toArray, List.set_cons_zero, List.set_cons_succ])
            | (refine plan_load (v := ?_) (by rfl) (fun w1 hw1 => ?_) ?_
               rotate_left
               · (have q := HQ.out w1 hw1
                  obtain ⟨⟨q0, q1⟩, ⟨q2, q3⟩, ⟨q4, q5⟩, q6, q7⟩ := q
                  clear hw1
                  go_simp <;> with_reducible rfl)
               simp only [Act.put, List.setIfInBounds_toArray, List.set_cons_zero, List.set_cons_succ]))
          refine plan_eff ?_
          go_wp2_with fail
          refine (HSM.out v3 _ _ _ _ (HR7.out.below (below_at HI9.out S3.out) (Nat.le_refl _)) (HR9.out.below S3.out (Nat.le_refl _))).mono ?_
          rintro x v4 ⟨rfl, cc⟩
          have S4 := Lib.hid (below_at S3.out cc)
          clear cc
          go_wp2_with fail
          refine plan_on (fun _ h => h) S4.out ?_
          repeat (first
            | (refine plan_pure (v := ?_) (by rfl) (fun w1 => ?_) ?_
               rotate_left
               · go_simp <;> with_reducible rfl
               simp only [Act.put, List.setIfInBounds_toArray, List.set_cons_zero, List.set_cons_succ])
            | (refine plan_off (by rfl) ?_
               simp only [Act.put, List.setIfInBounds_toArray, List.set_cons_zero, List.set_cons_succ])
            | (refine plan_load_off (by rfl) ?_
               simp only [Act.put, List.setIfInBounds_toArray, List.set_cons_zero, List.set_cons_succ])
            | (refine plan_load (v := ?_) (by rfl) (fun w1 hw1 => ?_) ?_
               rotate_left
               · (have q := HQ.out w1 hw1
                  obtain ⟨⟨q0, q1⟩, ⟨q2, q3⟩, ⟨q4, q5⟩, q6, q7⟩ := q
                  clear hw1
                  go_simp <;> with_reducible rfl)
               simp only [Act.put, List.setIfInBounds_toArray, List.set_cons_zero, List.set_cons_succ]))
          refine plan_last ?_
          go_wp2_with fail
          refine (HPS0.out v4 _ _ (HR7.out.below (below_at HI9.out S4.out) (Nat.le_refl _))).mono ?_
          rintro x v5 ⟨rfl, cc⟩
          have S5 := Lib.hid (below_at S4.out cc)
          clear cc
          go_wp2_with fail
          repeat (first
            | (refine plan_pure (v := ?_) (by rfl) (fun w1 => ?_) ?_
               rotate_left
               · go_simp <;> with_reducible rfl
               simp only [Act.put, List.setIfInBounds_toArray, List.set_cons_zero, List.set_cons_succ])
            | (refine plan_off (by rfl) ?_
               simp only [Act.put, List.setIfInBounds_toArray, List.set_cons_zero, List.set_cons_succ])
            | (refine plan_load_off (by rfl) ?_
               simp only [Act.put, List.setIfInBounds_toArray, List.set_cons_zero, List.set_cons_succ])
            | (refine plan_load (v := ?_) (by rfl) (fun w1 hw1 => ?_) ?_
               rotate_left
               · (skip
                  clear hw1
                  go_simp <;> with_reducible rfl)
               simp only [Act.put, List.setIfInBounds_toArray, List.set_cons_zero, List.set_cons_succ]))
          refine plan_end ?_
          go_wp2_with fail
          go_meet
          exact ⟨by simp, S5.out⟩
        · have H3 := Lib.hid h3
          clear h3 HPS
          refine wp_region_plan (by kernel_rfl) (fun u => Below W9.heap.size W9 u) [36] [(0, .pure), (1, .load), (2, .eff), (3, .pure), (4, .pure), (5, .load), (7, .load), (6, .eff), (8, .eff), (9, .pure), (10, .pure), (11, .pure), (12, .pure), (13, .pure), (14, .pure), (15, .pure), (16, .pure), (17, .pure), (18, .load), (19, .pure), (20, .load), (21, .eff), (22, .pure), (23, .pure), (24, .pure), (25, .pure), (26, .load), (27, .pure), (28, .load), (29, .pure), (30, .pure), (31, .pure), (32, .pure), (33, .pure), (34, .pure), (35, .load), (37, .pure), (36, .last), (38, .pure), (39, .pure), (40, .pure)] (by simp only [List.map_cons, List.map_nil, List.getElem?_toArray, List.getElem?_cons_succ, List.getElem?_cons_zero]; rfl) (by kernel_rfl) (fun _ _ d _ _ h => by cases d <;> exact h) (hS) ?_
          repeat (first
            | (refine plan_pure (v := ?_) (by rfl) (fun w1 => ?_) ?_
               rotate_left
               · go_simp <;> with_reducible rfl
               simp only [Act.put, List.setIfInBounds_toArray, List.set_cons_zero, List.set_cons_succ])
            | (refine plan_off (by rfl) ?_
               simp only [Act.put, List.setIfInBounds_toArray, List.set_cons_zero, List.set_cons_succ])
            | (refine plan_load_off (by rfl) ?_
               simp only [Act.put, List.setIfInBounds_toArray, List.set_cons_zero, List.set_cons_succ])
            | (refine plan_load (v := ?_) (by rfl) (fun w1 hw1 => ?_) ?_
               rotate_left
               · (have q := HQ.out w1 hw1
                  obtain ⟨⟨q0, q1⟩, ⟨q2, q3⟩, ⟨q4, q5⟩, q6, q7⟩ := q
                  clear hw1
                  go_simp <;> with_reducible rfl)
               simp only [Act.put, List.setIfInBounds_toArray, List.set_cons_zero, List.set_cons_succ]))
          refine plan_eff ?_
          go_wp2_with fail
          refine (HPR2.out _ HB9.out.drew).mono ?_
          rintro x v1 ⟨rfl, cc⟩
          have S1 := Lib.hid (below_at hS cc)
          clear cc
          go_wp2_with fail
          refine plan_on (fun _ h => h) S1.out ?_
          repeat (first
            | (refine plan_pure (v := ?_) (by rfl) (fun w1 => ?_) ?_
               rotate_left
               · go_simp <;> with_reducible rfl
               simp only [Act.put, List.setIfInBounds_toArray, List.set_cons_zero, List.set_cons_succ])
            | (refine plan_off (by rfl) ?_
               simp only [Act.put, List.setIfInBounds_toArray, List.set_cons_zero, List.set_cons_succ])
            | (refine plan_load_off (by rfl) ?_
               simp only [Act.put, List.setIfInBounds_toArray, List.set_cons_zero, List.set_cons_succ])
            | (refine plan_load (v := ?_) (by rfl) (fun w1 hw1 => ?_) ?_
               rotate_left
               · (have q := HQ.out w1 hw1
                  obtain ⟨⟨q0, q1⟩, ⟨q2, q3⟩, ⟨q4, q5⟩, q6, q7⟩ := q
                  clear hw1
                  go_simp <;> with_reducible rfl)
               simp only [Act.put, List.setIfInBounds_toArray, List.set_cons_zero, List.set_cons_succ]))
          refine plan_eff ?_
          go_wp2_with fail
          refine (HRT.out v1 _ _ (HR3.out.below (below_at HF9.out S1.out) (Nat.le_refl _))).mono ?_
          rintro x v2 ⟨rfl, cc⟩
          have S2 := Lib.hid (below_at S1.out cc)
          clear cc
          go_wp2_with fail
          refine plan_on (fun _ h => h) S2.out ?_
          repeat (first
            | (refine plan_pure (v := ?_) (by rfl) (fun w1 => ?_) ?_
               rotate_left
               · go_simp <;> with_reducible rfl
               simp only [Act.put, List.setIfInBounds_toArray, List.set_cons_zero, List.set_cons_succ])
            | (refine plan_off (by rfl) ?_
               simp only [Act.put, List.setIfInBounds_toArray, List.set_cons_zero, List.set_cons_succ])
            | (refine plan_load_off (by rfl) ?_
               simp only [Act.put, List.setIfInBounds_toArray, List.set_cons_zero, List.set_cons_succ])
            | (refine plan_load (v := ?_) (by rfl) (fun w1 hw1 => ?_) ?_
               rotate_left
               · (have q := HQ.out w1 hw1
                  obtain ⟨⟨q0, q1⟩, ⟨q2, q3⟩, ⟨q4, q5⟩, q6, q7⟩ := q
                  clear hw1
                  go_simp <;> with_reducible rfl)
               simp only [Act.put, List.setIfInBounds_toArray, List.set_cons_zero, List.set_cons_succ]))
          refine plan_eff ?_
          go_wp2_with fail
          refine (HRT2.out v2 (below_at HB9.out S2.out)).mono ?_
          rintro x v3 ⟨rfl, cc⟩
          have S3 := Lib.hid (below_at S2.out cc)
          clear cc
          go_wp2_with fail
          refine plan_on (fun _ h => h) S3.out ?_
          repeat (first
            | (refine plan_pure (v := ?_) (by rfl) (fun w1 => ?_) ?_
               rotate_left
               · go_simp <;> with_reducible rfl
               simp only [Act.put, List.setIfInBounds_toArray, List.set_cons_zero, List.set_cons_succ])
            | (refine plan_off (by rfl) ?_
               simp only [Act.put, List.setIfInBounds_toArray, List.set_cons_zero, List.set_cons_succ])
            | (refine plan_load_off (by rfl) ?_
               simp only [Act.put, List.setIfInBounds_toArray, List.set_cons_zero, List.set_cons_succ])
            | (refine plan_load (v := ?_) (by rfl) (fun w1 hw1 => ?_) ?_
               rotate_left
               · (have q := HQ.out w1 hw1
                  obtain ⟨⟨q0, q1⟩, ⟨q2, q3⟩, ⟨q4, q5⟩, q6, q7⟩ := q
                  clear hw1
                  go_simp <;> with_reducible rfl)
               simp only [Act.put, List.setIfInBounds_toArray, List.set_cons_zero, List.set_cons_succ]))
          refine plan_eff ?_
          go_wp2_with fail
          refine (HSM.out v3 _ _ _ _ (HR7.out.below (below_at HI9.out S3.out) (Nat.le_refl _)) (HR9.out.below S3.out (Nat.le_refl _))).mono ?_
          rintro x v4 ⟨rfl, cc⟩
          have S4 := Lib.hid (below_at S3.out cc)
          clear cc
          go_wp2_with fail
          refine plan_on (fun _ h => h) S4.out ?_
          repeat (first
            | (refine plan_pure (v := ?_) (by rfl) (fun w1 => ?_) ?_
               rotate_left
               · go_simp <;> with_reducible rfl
               simp only [Act.put, List.setIfInBounds_toArray, List.set_cons_zero, List.set_cons_succ])
            | (refine plan_off (by rfl) ?_
               simp only [Act.put, List.setIfInBounds_toArray, List.set_cons_zero, List.set_cons_succ])
            | (refine plan_load_off (by rfl) ?_
               simp only [Act.put, List.setIfInBounds_toArray, List.set_cons_zero, List.set_cons_succ])
            | (refine plan_load (v := ?_) (by rfl) (fun w1 hw1 => ?_) ?_
               rotate_left
               · (have q := HQ.out w1 hw1
                  obtain ⟨⟨q0, q1⟩, ⟨q2, q3⟩, ⟨q4, q5⟩, q6, q7⟩ := q
                  clear hw1
                  go_simp <;> with_reducible rfl)
               simp only [Act.put, List.setIfInBounds_toArray, List.set_cons_zero, List.set_cons_succ]))
          refine plan_end ?_
          go_wp2_with fail
          go_meet
          exact ⟨by simp, S4.out⟩
      case rest =>
        obtain ⟨rfl, S5⟩ := hcut
        have HB10 := Lib.hid (below_at HB9.out S5)
        clear h3 S5 hS HPR HPR2 HRT HRT2 HRD HRD2 HSM HPS HQ
        cases rk with
        | false =>
          have hP := HFIN.out.2 (by simp)
          have hrd0 : Calls Try.prog 44 #[.string ⟨#[]⟩] wc fun x w' => ∃ A' cap', x = .returned (.tuple #[.agg #[.slice A' 0 cap', .bool false], .int .i64 4]) ∧ Below wc.heap.size wc w' := by
            have := rread_any wc ⟨#[]⟩ (by decide)
            rw [show Ky.readK (⟨#[]⟩ : ByteArray).data.toList = ([], false, 4) from rfl] at this
            exact this.mono fun x w' h => by obtain ⟨A', cap', a1, a2, a3⟩ := h; exact ⟨A', cap', a1, a3⟩
          have HRD0 := Lib.hid hrd0
          clear hrd0 HFIN
          subst hP
          go_wp2_with fail
          refine HRD0.out.mono ?_
          rintro x w11 ⟨A11, cap11, rfl, b11⟩
          have HB11 := Lib.hid (below_at HB10.out b11)
          clear b11
          go_wp2_with fail
          go_ret
          exact ⟨rfl, HB11.out.alloc HB11.out.size _⟩
        | true =>
          obtain ⟨he, hrd⟩ := HFIN.out.1 (by simp)
          have HRD := Lib.hid (hrd wc)
          clear hrd HFIN
          go_wp2_with fail
          refine HRD.out.mono ?_
          rintro x w11 ⟨A11, cap11, rfl, hr11, b11⟩
          have HB11 := Lib.hid (below_at HB10.out b11)
          have HR11 := Lib.hid hr11
          clear b11 hr11
          go_upto_region 11 with fail
          obtain ⟨W12, V, hW12, hV, hBW, hVl, hVe⟩ := box_rep w11 70 A11 ks.length cap11 c
          rw [← hW12, ← hV]
          have HV := Lib.hid hVe
          have HB12 := Lib.hid (below_at HB11.out hBW)
          have HSK2 := Lib.hid (HSK.out W12 A11 cap11 HB12.out (HR11.out.below hBW (Nat.le_refl _)))
          obtain ⟨x0, x1, xl⟩ := hVe W12 (Below.refl _ _)
          clear hW12 hV hBW hVl hVe
          go_wp2_with fail
          refine HSK2.out.mono ?_
          rintro x w13 ⟨rfl, b13⟩
          have HB13 := Lib.hid (below_at HB12.out b13)
          clear x0 x1 xl
          obtain ⟨x0, x1, xl⟩ := HV.out w13 b13
          clear b13
          go_wp2_with fail
          go_ret
          exact ⟨by simp, HB13.out⟩

open Go.ChangeShapes Go.WideShapes Go.ChangeAt
theorem str_read {H : Type} {enc : TypeId × Value → H} {w : World} {base : Nat} {spare : Nat → Bool} {held : Bool} (fuel : Nat) (cs : List Value) (y : DataW H × List MemPlace) (hl : cs.length = 1)
    (h : DataW.trod enc Try.prog w base spare held fuel 9 cs = some y) : ∃ x : Ky.K, cs = [sv x] ∧ x.length ≤ maxLen := by
  obtain ⟨p, e, hm⟩ := tr_string Try.underlying9 h
  exact ⟨p.data.toList, by rw [e, sv, ba_back], by simpa using hm⟩
theorem flat_sv (xs : List Ky.K) : xs.flatMap (fun s => [sv s]) = xs.map sv := by induction xs <;> simp_all
set_option maxRecDepth 100000 in
/-- a row of texts -/
theorem strs_read {H : Type} {enc : TypeId × Value → H} {w : World} {base : Nat} {spare : Nat → Bool} {held : Bool} {fuel : Nat} {A : Option Addr} {n cap : Nat} {y : DataW H × List MemPlace}
    (h : DataW.trod enc Try.prog w base spare held fuel 67 [.slice A n cap] = some y) : ∃ ks : List Ky.K, ks.length = n ∧ Rd w 1 A n (ks.map sv) ∧ n ≤ cap ∧ cap ≤ maxLen ∧ ∀ k ∈ ks, k.length ≤ maxLen := by
  obtain ⟨ks, hl, hg, hr, h1, h2⟩ := tr_list (f := fun s => [sv s]) (sz := 1) (good := fun k => k.length ≤ maxLen) (by omega) Try.underlying67 (by kernel_rfl) str_read h
  exact ⟨ks, hl, flat_sv ks ▸ hr, h1, h2, hg⟩
set_option maxRecDepth 100000 in
theorem ReportPrints_walk {H : Type} {enc : TypeId × Value → H} (W : World) {base : Nat} {v0 v1 v2 : Value} {d0 d1 d2 : DataW H} {p0 p1 p2 : List MemPlace}
    (o0 : Value.okWide Try.prog W .any base 67 v0) (h0 : DataW.Trod enc Try.prog W 0 (fun _ => true) true 67 v0 d0 p0)
    (o1 : Value.okWide Try.prog W .any base 4 v1) (h1 : DataW.Trod enc Try.prog W 0 (fun _ => true) true 4 v1 d1 p1)
    (o2 : Value.okWide Try.prog W .any base 9 v2) (h2 : DataW.Trod enc Try.prog W 0 (fun _ => true) true 9 v2 d2 p2) :
    Calls Try.prog 9 #[v0, v1, v2] W fun e w' => e = .returned (.bool true) ∧ Below W.heap.size W w' := by
  obtain ⟨f0, hf0⟩ := h0
  obtain ⟨f1, hf1⟩ := h1
  obtain ⟨f2, hf2⟩ := h2
  obtain ⟨A, len, cap, rfl⟩ := okWide_slice Try.underlying67 o0
  obtain ⟨c, rfl⟩ := okWide_bool Try.underlying4 o1
  obtain ⟨s, rfl⟩ := okWide_string Try.underlying9 o2
  obtain ⟨ks, rfl, hr, h3, h4, hk⟩ := strs_read (by simpa [Value.cells] using hf0)
  obtain ⟨s', e, hs⟩ := tr_string Try.underlying9 (by simpa [Value.cells] using hf2)
  obtain rfl : s = s' := by simpa using e
  exact reportPrints_any W A cap ks c s hr (Nat.le_trans h3 h4) hk hs
namespace reportPrints
theorem own : ownKnob Try.prog.godebug = none := by kernel_rfl
theorem laidOut : laidOutB Try.prog = true := by kernel_rfl
set_option maxRecDepth 100000 in
theorem lifted (os : Os) (started : os.Started) (H : Type) (enc : TypeId × Value → H) :
    ReturnsInHanded {} Try.checked os 9 .any (Rows.reportPrintsSpec.pre6 enc Try.prog Try.f9 Rows.reportPrintsRow.domain false) (Rows.reportPrintsSpec.post enc Try.prog Try.f9 false true false false) := by
  refine returnsInHanded_of_change_sized (C := Try.checked) own started (by kernel_rfl) Try.func9
    (ChangeSpec.witness6 (enc := enc) (C := Try.checked) false ⟨#[], #[.slice none 0 0, .bool false, .string ByteArray.empty], []⟩ 8 (by kernel_rfl) (by kernel_rfl) (by kernel_rfl) (by kernel_rfl)) ?_
  intro W base args ds gs before hval0 hW hcnd hsz0 _
  have hval : ∀ (j : Nat) t v, Try.f9.params[j]? = some t → args[j]? = some v → Value.okWide Try.prog W .any base t v := hval0
  have hW' := hW
  obtain ⟨p, q, hA0, hV, rfl, hfz, hnd⟩ := hW
  have hA : DataW.TrodAll enc Try.prog W 0 (fun _ => true) true Try.f9.params.toList args.toList ds p := hA0
  rw [Try.params9] at hA hval
  obtain ⟨v0, vs0, d0, ds0, p0, q0, hargs, rfl, rfl, h0, r0⟩ := trodAll_cons hA
  obtain ⟨v1, vs1, d1, ds1, p1, q1, rfl, rfl, rfl, h1, r1⟩ := trodAll_cons r0
  obtain ⟨v2, vs2, d2, ds2, p2, q2, rfl, rfl, rfl, h2, r2⟩ := trodAll_cons r1
  obtain ⟨rfl, rfl, rfl⟩ := trodAll_nil r2
  obtain rfl : args = #[v0, v1, v2] := by cases args; simp_all
  obtain ⟨rfl, rfl⟩ := trodVars_none hV
  have lt0 : ∀ x ∈ p0, x.block < W.heap.size := by obtain ⟨m, hm⟩ := h0; exact DataW.trod_lt m _ _ _ hm
  have lt1 : ∀ x ∈ p1, x.block < W.heap.size := by obtain ⟨m, hm⟩ := h1; exact DataW.trod_lt m _ _ _ hm
  have lt2 : ∀ x ∈ p2, x.block < W.heap.size := by obtain ⟨m, hm⟩ := h2; exact DataW.trod_lt m _ _ _ hm
  clear hA0 hval0 hsz0
  refine (ReportPrints_walk W (hval 0 67 v0 rfl rfl) h0 (hval 1 4 v1 rfl rfl) h1 (hval 2 9 v2 rfl rfl) h2).mono fun e W' ⟨he, bel⟩ => ?_
  subst he
  exact ⟨_, rfl, _, _, _, [], _, [], hW', trodAll_mk1 (shut_bool Try.underlying4 _), (trodAll_cons_mk (Below.trod laidOut (by kernel_rfl) (of_decide_eq_true (by kernel_rfl)) h0 bel lt0) (trodAll_cons_mk (Below.trod laidOut (by kernel_rfl) (of_decide_eq_true (by kernel_rfl)) h1 bel lt1) (trodAll_cons_mk (Below.trod laidOut (by kernel_rfl) (of_decide_eq_true (by kernel_rfl)) h2 bel lt2) trodAll_mk0))), rfl, bel.frame _, fun h => (by cases h)⟩
theorem over : Rows.reportPrintsRow.holds Try.pinned (OpenSpec.ofChange Rows.reportPrintsSpec) :=
  OpenClaim.holds_of_wide 9 Try.f9 rfl rfl rfl rfl rfl rfl rfl ⟨rfl, rfl, rfl, rfl, rfl⟩ rfl rfl rfl rfl rfl (by kernel_rfl) Try.func9 (by kernel_rfl)
    (of_decide_eq_true (by kernel_rfl)) (by unfold Func.isWrapper; first | (rw [if_pos (by decide +kernel)]; kernel_rfl) | (rw [if_neg (by decide +kernel)]; exact ⟨rfl, rfl⟩))
    (fun os started H enc _ => lifted os started H enc)
end reportPrints
/-- The row. -/
theorem reportPrints_holds : Rows.ReportPrintsSaid := reportPrints.over
#print axioms reportPrints_holds
end Go.Proofs.Ytgahjibjladafaa
