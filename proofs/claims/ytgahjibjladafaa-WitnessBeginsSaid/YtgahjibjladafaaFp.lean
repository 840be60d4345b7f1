/- The document's Print (of levels). -/
import Derived.Test.YtgahjibjladafaaFoZ
import Derived.Test.YtgahjibjladafaaPlanT
namespace Go.Proofs.Ytgahjibjladafaa
open Go.RowKit
set_option linter.unusedVariables false

set_option maxRecDepth 100000 in
set_option maxHeartbeats 4000000 in
theorem refPrintL_any (w : World) (A : Option Addr) (cap : Nat) (L : List (List Ev)) (h : LvAt w w.heap.size A L) (hl : L.length ≤ 1000000) (ht : L.flatten.length ≤ 1000000) :
    Calls Try.prog 24 #[.slice A L.length cap] w fun x w' => x = .returned (.string ⟨(Fo.printL L).toArray⟩) ∧ Below w.heap.size w w' := by
  have hcall := refRightL_any w A cap L h hl ht
  have hno : Fo.okL L = false → Fo.printL L = [] := fun e => by unfold Fo.printL; rw [if_neg (by rw [e]; decide)]
  have hyes : Fo.okL L = true → Fo.printL L = Fo.encP L ++ [0] ∧ ∀ q ∈ L, q.length ≤ 4 ∧ Fo.rights q = true := fun hk => ⟨by unfold Fo.printL; rw [if_pos hk]; rfl, fun q hq => (Fo.okL_mem hk hq).2⟩
  have hel : ∀ k, (Fo.encP (L.take k)).length ≤ 2000000 := fun k => by have := Fo.encP_len (L := L) k; omega
  generalize Fo.okL L = b at *
  generalize Fo.printL L = P at *
  have HL := Lib.hid h
  have HC1 := Lib.hid hcall
  have HNO := Lib.hid hno
  have HYES := Lib.hid hyes
  have HEL := Lib.hid hel
  clear h hcall hno hyes ht hel
  go_enter Try.func24, Try.ntmps24
  go_wp2_with fail
  refine HC1.out.mono ?_
  rintro x w1 ⟨rfl, b1⟩
  have HB1 := Lib.hid b1
  clear b1
  cases b with
  | false =>
    go_wp2_with fail
    go_ret
    exact ⟨by rw [HNO.out (by trivial)]; rfl, HB1.out⟩
  | true =>
    obtain ⟨h1, h2⟩ := HYES.out (by trivial)
    have HP := Lib.hid h1
    have HQ := Lib.hid h2
    clear h1 h2
    go_wp2_with fail
    go_loopw [3, 4] (fun v3 v wr => ∃ k : Nat, k ≤ L.length ∧ v = .int .i64 k ∧ v3 = .string ⟨(Fo.encP (L.take k)).toArray⟩ ∧ Below w.heap.size w wr) (fun _ v _ => L.length - (intOf v).toNat)
    case atStart => exact ⟨0, Nat.zero_le _, rfl, rfl, HB1.out⟩
    case round =>
      obtain ⟨k, hk, rfl, rfl, hbw⟩ := hrel
      by_cases hlt : k < L.length
      · obtain ⟨g, o, A', c', hA, hg, hP, hcl⟩ := HL.out.cell k hlt
        subst hA
        have v0 := hcl wr hbw
        have k1 : (0 : Int) ≤ (k : Int) := Int.natCast_nonneg _
        have k2 : (k : Int) < (L.length : Int) := by omega
        have hsn := Fo.encP_succ hlt
        obtain ⟨hq4, hqr⟩ := HQ.out L[k] (List.getElem_mem hlt)
        have hpr : ∀ u, Below w.heap.size w u → Calls Try.prog 69 #[.slice A' L[k].length c'] u fun x w' => x = .returned (.string ⟨(Fo.bytes L[k]).toArray⟩) ∧ Below u.heap.size u w' := fun u hu => by
          have := refPrint_any u A' c' L[k] ((hP.below hu).mono hu.size) (by omega)
          rwa [prE_right hqr] at this
        have hu8 := u8_conv L[k].length (by omega)
        have hel := HEL.out k
        generalize L[k] = q at v0 hsn hq4 hpr hu8
        generalize Fo.encP (L.take k) = E at hsn hel
        have HPR := Lib.hid hpr
        have HSN := Lib.hid hsn
        have HBW := Lib.hid hbw
        have hwr : IntKind.u8.wrap (q.length : Int) = (q.length : Int) := by unfold IntKind.wrap; simp [IntKind.bits, IntKind.signed]; omega
        have lg : g < wr.heap.size := by have := hbw.size; omega
        have hrow : ∀ V : World, Row (V.alloc (Obj.cells #[.int .u8 (q.length : Int)] 5)) 5 1 (some ⟨V.heap.size, 0, none⟩) 1 1 (byteVs [UInt8.ofNat q.length]) := fun V => by
          rw [hu8]
          exact ⟨rfl, Nat.le_refl _, by unfold maxLen; omega, fun h => (by cases h), fun a ha => by injection ha with ha; subst ha; exact ⟨rfl, _, heap_alloc_new V _, by simp, rfl⟩⟩
        have hconv : ∀ V u : World, Mod (fun _ => False) (V.alloc (Obj.cells #[.int .u8 (q.length : Int)] 5)) u → (convert 43 9 (.slice (some ⟨V.heap.size, 0, none⟩) 1 1)).run Try.prog u = .ok (.string ⟨#[UInt8.ofNat q.length]⟩) u := fun V u hu =>
          conv_bytes ((hrow V).mod hu (fun _ _ => id)) 43 9 Try.underlying43 Try.underlying5 Try.underlying9
        have hfin : Value.string (⟨E.toArray⟩ ++ (⟨#[UInt8.ofNat q.length]⟩ ++ ⟨(Fo.bytes q).toArray⟩)) = .string ⟨(E ++ [UInt8.ofNat q.length] ++ Fo.bytes q).toArray⟩ := by
          congr 1
          apply ByteArray.ext
          apply Array.toList_inj.1
          simp [ByteArray.data_append]
        have HCV := Lib.hid hconv
        have HFIN := Lib.hid hfin
        generalize UInt8.ofNat q.length = u8 at HSN HCV HFIN
        have z0 : ByteArray.size ⟨E.toArray⟩ ≤ 2000000 := by simpa [ByteArray.size] using hel
        have z1 : ByteArray.size ⟨#[u8]⟩ = 1 := rfl
        have z2 : ByteArray.size ⟨(Fo.bytes q).toArray⟩ ≤ 4 := by unfold Fo.bytes; simp [ByteArray.size]; omega
        generalize (⟨#[u8]⟩ : ByteArray) = t1 at HCV HFIN z1
        generalize (⟨(Fo.bytes q).toArray⟩ : ByteArray) = t2 at HPR HFIN z2
        generalize (⟨E.toArray⟩ : ByteArray) = t0 at HFIN z0 ⊢
        have s1 : ¬ (9223372036854775807 < t1.size + t2.size) := by omega
        have s2 : ¬ (9223372036854775807 < t0.size + (t1.size + t2.size)) := by omega
        have s3 : ¬ (9223372036854775807 < t0.size + (t1 ++ t2).size) := by rw [ByteArray.size_append]; omega
        clear z0 z1 z2 hel
        clear hpr hsn hbw hcl hP hqr hrow hconv hu8 hfin
        go_wp2_with fail
        refine wp_region_pt (by kernel_rfl) (fun u => Mod (fun _ => False) wr u) [] (.cons 0 .pure (.cons 1 .pure (.cons 2 .pure (.cons 3 .pure (.cons 4 .load (.cons 5 .pure (.cons 6 .pure (.cons 9 .pure (.cons 10 .pure (.cons 11 .pure (.cons 12 .load (.fork 7 (.cons 8 .load (.cons 13 .eff (.cons 14 .pure (.cons 15 .pure (.cons 16 .pure .nil))))) 13 (.cons 7 .eff (.cons 8 .load (.cons 14 .pure (.cons 15 .pure (.cons 16 .pure .nil))))))))))))))))) (by simp only [PT.map, List.getElem?_toArray, List.getElem?_cons_succ, List.getElem?_cons_zero]; rfl) (by kernel_rfl) (fun _ _ d _ _ h => by cases d <;> exact h) ((Mod.refl _ _).drew) ?_
        repeat (first
          | (refine pt_pure (v := ?_) (by rfl) (fun w1 => ?_) ?_
             rotate_left
             · go_simp <;> with_reducible rfl
             simp only [Act.put, List.setIfInBounds_toArray, List.set_cons_zero, List.set_cons_succ])
          | (refine pt_off (by rfl) ?_
             simp only [Act.put, List.setIfInBounds_toArray, List.set_cons_zero, List.set_cons_succ])
          | (refine pt_load_off (by rfl) ?_
             simp only [Act.put, List.setIfInBounds_toArray, List.set_cons_zero, List.set_cons_succ])
          | (refine pt_load (v := ?_) (by rfl) (fun w1 hw1 => ?_) ?_
             rotate_left
             · (have q0 := (hw1.cell g (o + k) lg id).trans v0
                clear hw1
                go_simp <;> with_reducible rfl)
             simp only [Act.put, List.setIfInBounds_toArray, List.set_cons_zero, List.set_cons_succ]))
        refine pt_fork ?_ ?_
        · go_wp2_with fail
          refine pt_on (S' := fun u => Mod (fun _ => False) (wr.alloc (Obj.cells #[.int .u8 (q.length : Int)] 5)) u) (fun u h => ((Mod.refl _ _).alloc _).trans h) (by first | exact Mod.refl _ _ | exact (Mod.refl _ _).drew) ?_
          repeat (first
            | (refine pt_pure (v := ?_) (by rfl) (fun w1 => ?_) ?_
               rotate_left
               · go_simp <;> with_reducible rfl
               simp only [Act.put, List.setIfInBounds_toArray, List.set_cons_zero, List.set_cons_succ])
            | (refine pt_off (by rfl) ?_
               simp only [Act.put, List.setIfInBounds_toArray, List.set_cons_zero, List.set_cons_succ])
            | (refine pt_load_off (by rfl) ?_
               simp only [Act.put, List.setIfInBounds_toArray, List.set_cons_zero, List.set_cons_succ])
            | (refine pt_load (v := ?_) (by rfl) (fun w1 hw1 => ?_) ?_
               rotate_left
               · (have q0 := HCV.out wr w1 hw1
                  clear hw1
                  go_simp <;> with_reducible rfl)
               simp only [Act.put, List.setIfInBounds_toArray, List.set_cons_zero, List.set_cons_succ]))
          refine pt_eff ?_
          go_wp2_with fail
          refine (HPR.out _ (by first | exact (HBW.out.alloc HBW.out.size _).drew | exact (HBW.out.drew).alloc HBW.out.size _)).mono ?_
          rintro x w7 ⟨rfl, b7⟩
          have HB7 := Lib.hid (below_at (w := w) (by first | exact (HBW.out.alloc HBW.out.size _).drew | exact (HBW.out.drew).alloc HBW.out.size _) b7)
          have hm7 : Mod (fun _ => False) (wr.alloc (Obj.cells #[.int .u8 (q.length : Int)] 5)) w7 := (Mod.refl (fun _ => False) (wr.alloc (Obj.cells #[.int .u8 (q.length : Int)] 5))).drew.trans ((Mod.of_below_size b7 (fun _ => False)))
          clear b7
          go_wp2_with fail
          refine pt_on (S' := fun u => Mod (fun _ => False) w7 u) (fun u h => hm7.trans h) (Mod.refl _ _) ?_
          repeat (first
            | (refine pt_pure (v := ?_) (by rfl) (fun w1 => ?_) ?_
               rotate_left
               · go_simp <;> with_reducible rfl
               simp only [Act.put, List.setIfInBounds_toArray, List.set_cons_zero, List.set_cons_succ])
            | (refine pt_off (by rfl) ?_
               simp only [Act.put, List.setIfInBounds_toArray, List.set_cons_zero, List.set_cons_succ])
            | (refine pt_load_off (by rfl) ?_
               simp only [Act.put, List.setIfInBounds_toArray, List.set_cons_zero, List.set_cons_succ])
            | (refine pt_load (v := ?_) (by rfl) (fun w1 hw1 => ?_) ?_
               rotate_left
               · (skip
                  clear hw1
                  go_simp <;> with_reducible rfl)
               simp only [Act.put, List.setIfInBounds_toArray, List.set_cons_zero, List.set_cons_succ]))
          refine pt_end ?_
          go_wp2_with fail
          go_roundw
          case rel => exact ⟨k + 1, by omega, by go_num, by rw [HSN.out]; exact HFIN.out, HB7.out⟩
          case measure => simp [intOf]; omega
        · go_wp2_with fail
          refine (HPR.out _ HBW.out.drew).mono ?_
          rintro x w7 ⟨rfl, b7⟩
          have HB7 := Lib.hid (below_at HBW.out.drew b7)
          have hm7 : Mod (fun _ => False) wr w7 := (Mod.refl (fun _ => False) wr).drew.trans (Mod.of_below_size b7 (fun _ => False))
          have v7 := (World.cell?_of_block (b7.block g lg)).trans v0
          clear b7
          go_wp2_with fail
          refine pt_on (S' := fun u => Mod (fun _ => False) w7 u) (fun u h => hm7.trans h) (Mod.refl _ _) ?_
          refine pt_eff ?_
          go_wp2_with fail
          refine pt_on (S' := fun u => Mod (fun _ => False) (w7.alloc (Obj.cells #[.int .u8 (q.length : Int)] 5)) u) (fun u h => ((Mod.refl _ _).alloc _).trans h) (by first | exact Mod.refl _ _ | exact (Mod.refl _ _).drew) ?_
          repeat (first
            | (refine pt_pure (v := ?_) (by rfl) (fun w1 => ?_) ?_
               rotate_left
               · go_simp <;> with_reducible rfl
               simp only [Act.put, List.setIfInBounds_toArray, List.set_cons_zero, List.set_cons_succ])
            | (refine pt_off (by rfl) ?_
               simp only [Act.put, List.setIfInBounds_toArray, List.set_cons_zero, List.set_cons_succ])
            | (refine pt_load_off (by rfl) ?_
               simp only [Act.put, List.setIfInBounds_toArray, List.set_cons_zero, List.set_cons_succ])
            | (refine pt_load (v := ?_) (by rfl) (fun w1 hw1 => ?_) ?_
               rotate_left
               · (have q0 := HCV.out w7 w1 hw1
                  clear hw1
                  go_simp <;> with_reducible rfl)
               simp only [Act.put, List.setIfInBounds_toArray, List.set_cons_zero, List.set_cons_succ]))
          refine pt_end ?_
          go_wp2_with fail
          go_roundw
          case rel => exact ⟨k + 1, by omega, by go_num, by rw [HSN.out]; exact HFIN.out, by first | exact HB7.out.alloc HB7.out.size _ | exact (HB7.out.alloc HB7.out.size _).drew⟩
          case measure => simp [intOf]; omega
      · have hkn : k = L.length := by omega
        have hel := HEL.out k
        rw [hkn, List.take_length] at hel ⊢
        have hrow : Row (wr.alloc (Obj.cells #[.int .u8 0] 5)) 5 1 (some ⟨wr.heap.size, 0, none⟩) 1 1 (byteVs [0]) :=
          ⟨rfl, Nat.le_refl _, by unfold maxLen; omega, fun h => (by cases h), fun a ha => by injection ha with ha; subst ha; exact ⟨rfl, _, heap_alloc_new wr _, by simp, rfl⟩⟩
        have hconv := conv_bytes hrow 43 9 Try.underlying43 Try.underlying5 Try.underlying9
        have hfin : Value.string (⟨(Fo.encP L).toArray⟩ ++ ⟨[(0 : UInt8)].toArray⟩) = .string ⟨P.toArray⟩ := by
          rw [HP.out]
          refine congrArg Value.string (ByteArray.ext (Array.toList_inj.1 ?_))
          simp [ByteArray.data_append]
        have z0 : ByteArray.size ⟨(Fo.encP L).toArray⟩ ≤ 2000000 := by simpa [ByteArray.size] using hel
        have z1 : ByteArray.size ⟨[(0 : UInt8)].toArray⟩ = 1 := rfl
        have hlt' : ¬ (L.length : Int) < (L.length : Int) := by omega
        generalize (⟨(Fo.encP L).toArray⟩ : ByteArray) = t0 at hfin z0 ⊢
        generalize (⟨[(0 : UInt8)].toArray⟩ : ByteArray) = t1 at hconv hfin z1
        have s1 : ¬ (9223372036854775807 < t0.size + t1.size) := by omega
        have HFIN := Lib.hid hfin
        have HB9 := Lib.hid (hbw.alloc hbw.size (Obj.cells #[.int .u8 0] 5))
        clear hfin hrow hel hkn hbw z0 z1 hlt
        go_wp2_with fail
        go_ret
        exact ⟨by rw [← HFIN.out]; rfl, HB9.out⟩

set_option maxRecDepth 100000 in
theorem refKey_any (w : World) (A : Option Addr) (cap : Nat) (l : List Ev) (hr : Rd w 4 A l.length (l.flatMap encE)) (hl : l.length < 4611686018427387904) :
    Calls Try.prog 17 #[.slice A l.length cap] w fun x w' => x = .returned (.string ⟨(Fo.key l).toArray⟩) ∧ Below w.heap.size w w' := by
  have hcall := rows_any w A cap l hr hl
  have hcall2 : ∀ w2, Below w.heap.size w w2 → Calls Try.prog 16 #[.slice A l.length cap] w2 (LvOut w2 (Fo.levR l)) := fun w2 hb => refLevels_any w2 A cap l (hr.below hb (Nat.le_refl _)) hl
  have hok : Fo.okRow l = (decide (l.length ≤ 200) && Fo.rights l) := rfl
  have hno : Fo.okRow l = false → Fo.key l = [] := fun e => by unfold Fo.key; rw [if_neg (by rw [e]; decide)]
  have hyes : Fo.okRow l = true → Fo.key l = Fo.printL (Fo.lev l) ∧ Fo.levR l = Fo.lev l := fun e => ⟨by unfold Fo.key; rw [if_pos e], by unfold Fo.levR; rw [if_pos e]⟩
  have hfl := (Fo.lev_flat l).length_eq
  have hle := Fo.lev_len_le l
  generalize Fo.key l = K at *
  generalize Fo.okRow l = ok at *
  generalize Fo.rights l = b at *
  have HC1 := Lib.hid hcall
  have HC2 := Lib.hid hcall2
  have HNO := Lib.hid hno
  have HYES := Lib.hid hyes
  have HFL := Lib.hid hfl
  have HLE := Lib.hid hle
  have HOK := Lib.hid hok
  clear hcall hcall2 hno hyes hfl hle hr hok
  go_enter Try.func17, Try.ntmps17
  go_wp2_with fail
  refine HC1.out.mono ?_
  rintro x w1 ⟨rfl, b1⟩
  have HB1 := Lib.hid b1
  cases b with
  | false =>
    clear b1
    go_wp2_with fail
    go_ret
    exact ⟨by rw [HNO.out (by rw [HOK.out, Bool.and_false])]; rfl, HB1.out⟩
  | true =>
    by_cases h200 : l.length ≤ 200
    · obtain ⟨h1, h2⟩ := HYES.out (by rw [HOK.out, decide_eq_true h200]; rfl)
      have hcall := HC2.out w1 b1
      rw [h2] at hcall
      have HC3 := Lib.hid hcall
      have HK := Lib.hid h1
      have hn : ¬ (200 : Int) < (l.length : Int) := by omega
      clear b1 hcall h1 h2
      go_wp2_with fail
      refine HC3.out.mono ?_
      rintro x w2 ⟨A2, cap2, rfl, hlv, b2⟩
      have hpr := refPrintL_any w2 A2 cap2 (Fo.lev l) hlv (by have := HLE.out; omega) (by rw [HFL.out]; omega)
      rw [← HK.out] at hpr
      have HP := Lib.hid hpr
      have HB2 := Lib.hid (below_at HB1.out b2)
      clear hlv b2 hpr
      go_wp2_with fail
      refine HP.out.mono ?_
      rintro x w3 ⟨rfl, b3⟩
      have HB3 := Lib.hid (below_at HB2.out b3)
      clear b3
      go_wp2_with fail
      go_ret
      exact ⟨rfl, HB3.out⟩
    · have hn : (200 : Int) < (l.length : Int) := by omega
      have HN := Lib.hid h200
      clear b1 h200
      go_wp2_with fail
      go_ret
      exact ⟨by rw [HNO.out (by rw [HOK.out, decide_eq_false HN.out]; rfl)]; rfl, HB1.out⟩
end Go.Proofs.Ytgahjibjladafaa
