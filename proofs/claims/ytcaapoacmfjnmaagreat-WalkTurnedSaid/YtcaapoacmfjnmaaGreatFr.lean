/- The document's Print (of levels). -/
import Derived.Test.YtcaapoacmfjnmaaGreatFoY
import Derived.Test.YtcaapoacmfjnmaaGreatPlan
import Derived.Test.YtcaapoacmfjnmaaGreatFoEv
namespace Go.Proofs.YtcaapoacmfjnmaaGreat
open Go.RowKit
set_option linter.unusedVariables false

set_option maxRecDepth 100000 in
set_option maxHeartbeats 4000000 in
theorem refPrintL_any (w : World) (A : Option Addr) (cap : Nat) (L : List (List Ev)) (h : LvAt w w.heap.size A L) (hl : L.length ≤ 1000000) (ht : L.flatten.length ≤ 1000000) :
    Calls Tryz.prog 91 #[.slice A L.length cap] w fun x w' => x = .returned (.string ⟨(Fo.printL L).toArray⟩) ∧ Below w.heap.size w w' := by
  have hcall := refRightL_any w A cap L h hl ht
  have hno : Fo.okL L = false → Fo.printL L = [] := fun e => by unfold Fo.printL; rw [if_neg (by rw [e]; decide)]
  have hyes : Fo.okL L = true → Fo.printL L = Fo.encP L ++ [0] ∧ ∀ q ∈ L, q.length ≤ 4 ∧ Fo.rights q = true := fun hk => ⟨by unfold Fo.printL; rw [if_pos hk]; rfl, fun q hq => (Fo.okL_mem hk hq).2⟩
  have hel : ∀ k, (Fo.encP (L.take k)).length ≤ 2000000 := fun k => by have := Fo.encP_len (L := L) k; omega
  generalize Fo.okL L = b at *
  generalize Fo.printL L = P at *
  have HL := Lib.hid h
  have HC1 := Lib.hid hcall
  have HNO := Lib.hid hno
  have HYES := Lib.hid hyes
  have HEL := Lib.hid hel
  clear h hcall hno hyes ht hel
  go_enter Tryz.func91, Tryz.ntmps91
  go_wp2_with fail
  refine HC1.out.mono ?_
  rintro x w1 ⟨rfl, b1⟩
  have HB1 := Lib.hid b1
  clear b1
  cases b with
  | false =>
    go_wp2_with fail
    go_ret
    exact ⟨by rw [HNO.out (by trivial)]; rfl, HB1.out⟩
  | true =>
    obtain ⟨h1, h2⟩ := HYES.out (by trivial)
    have HP := Lib.hid h1
    have HQ := Lib.hid h2
    clear h1 h2
    go_wp2_with fail
    go_loopw [3, 4] (fun v3 v wr => ∃ k : Nat, k ≤ L.length ∧ v = .int .i64 k ∧ v3 = .string ⟨(Fo.encP (L.take k)).toArray⟩ ∧ Below w.heap.size w wr) (fun _ v _ => L.length - (intOf v).toNat)
    case atStart => exact ⟨0, Nat.zero_le _, rfl, rfl, HB1.out⟩
    case round =>
      obtain ⟨k, hk, rfl, rfl, hbw⟩ := hrel
      by_cases hlt : k < L.length
      · obtain ⟨g, o, A', c', hA, hg, hP, hcl⟩ := HL.out.cell k hlt
        subst hA
        have v0 := hcl wr hbw
        have k1 : (0 : Int) ≤ (k : Int) := Int.natCast_nonneg _
        have k2 : (k : Int) < (L.length : Int) := by omega
        have hsn := Fo.encP_succ hlt
        obtain ⟨hq4, hqr⟩ := HQ.out L[k] (List.getElem_mem hlt)
        have hpr : ∀ u, Below w.heap.size w u → Calls Tryz.prog 138 #[.slice A' L[k].length c'] u fun x w' => x = .returned (.string ⟨(Fo.bytes L[k]).toArray⟩) ∧ Below u.heap.size u w' := fun u hu => by
          have := refPrint_any u A' c' L[k] ((hP.below hu).mono hu.size) (by omega)
          rwa [prE_right hqr] at this
        have hu8 := u8_conv L[k].length (by omega)
        have hel := HEL.out k
        generalize L[k] = q at v0 hsn hq4 hpr hu8
        generalize Fo.encP (L.take k) = E at hsn hel
        have HPR := Lib.hid hpr
        have HSN := Lib.hid hsn
        have HBW := Lib.hid hbw
        have hwr : IntKind.u8.wrap (q.length : Int) = (q.length : Int) := by unfold IntKind.wrap; simp [IntKind.bits, IntKind.signed]; omega
        have lg : g < wr.heap.size := by have := hbw.size; omega
        have hrow : ∀ V : World, Row (V.alloc (Obj.cells #[.int .u8 (q.length : Int)] 5)) 5 1 (some ⟨V.heap.size, 0, none⟩) 1 1 (byteVs [UInt8.ofNat q.length]) := fun V => by
          rw [hu8]
          exact ⟨rfl, Nat.le_refl _, by unfold maxLen; omega, fun h => (by cases h), fun a ha => by injection ha with ha; subst ha; exact ⟨rfl, _, heap_alloc_new V _, by simp, rfl⟩⟩
        have hconv : ∀ V u : World, Mod (fun _ => False) (V.alloc (Obj.cells #[.int .u8 (q.length : Int)] 5)) u → (convert 68 9 (.slice (some ⟨V.heap.size, 0, none⟩) 1 1)).run Tryz.prog u = .ok (.string ⟨#[UInt8.ofNat q.length]⟩) u := fun V u hu =>
          conv_bytes ((hrow V).mod hu (fun _ _ => id)) 68 9 Tryz.underlying68 Tryz.underlying5 Tryz.underlying9
        have hfin : Value.string (⟨E.toArray⟩ ++ (⟨#[UInt8.ofNat q.length]⟩ ++ ⟨(Fo.bytes q).toArray⟩)) = .string ⟨(E ++ [UInt8.ofNat q.length] ++ Fo.bytes q).toArray⟩ := by
          congr 1
          apply ByteArray.ext
          apply Array.toList_inj.1
          simp [ByteArray.data_append]
        have HCV := Lib.hid hconv
        have HFIN := Lib.hid hfin
        generalize UInt8.ofNat q.length = u8 at HSN HCV HFIN
        have z0 : ByteArray.size ⟨E.toArray⟩ ≤ 2000000 := by simpa [ByteArray.size] using hel
        have z1 : ByteArray.size ⟨#[u8]⟩ = 1 := rfl
        have z2 : ByteArray.size ⟨(Fo.bytes q).toArray⟩ ≤ 4 := by unfold Fo.bytes; simp [ByteArray.size]; omega
        generalize (⟨#[u8]⟩ : ByteArray) = t1 at HCV HFIN z1
        generalize (⟨(Fo.bytes q).toArray⟩ : ByteArray) = t2 at HPR HFIN z2
        generalize (⟨E.toArray⟩ : ByteArray) = t0 at HFIN z0 ⊢
        have s1 : ¬ (9223372036854775807 < t1.size + t2.size) := by omega
        have s2 : ¬ (9223372036854775807 < t0.size + (t1.size + t2.size)) := by omega
        have s3 : ¬ (9223372036854775807 < t0.size + (t1 ++ t2).size) := by rw [ByteArray.size_append]; omega
        clear z0 z1 z2 hel
        clear hpr hsn hbw hcl hP hqr hrow hconv hu8 hfin
        go_wp2_with fail
        refine wp_region_pt (by kernel_rfl) (fun u => Mod (fun _ => False) wr u) [] (.cons 0 .pure (.cons 1 .pure (.cons 2 .pure (.cons 3 .pure (.cons 4 .load (.cons 5 .pure (.cons 6 .pure (.cons 9 .pure (.cons 10 .pure (.cons 11 .pure (.cons 12 .load (.fork 7 (.cons 8 .load (.cons 13 .eff (.cons 14 .pure (.cons 15 .pure (.cons 16 .pure .nil))))) 13 (.cons 7 .eff (.cons 8 .load (.cons 14 .pure (.cons 15 .pure (.cons 16 .pure .nil))))))))))))))))) (by simp only [PT.map, List.getElem?_toArray, List.getElem?_cons_succ, List.getElem?_cons_zero]; rfl) (by kernel_rfl) (fun _ _ d _ _ h => by cases d <;> exact h) ((Mod.refl _ _).drew) ?_
        repeat (first
          | (refine pt_pure (v := ?_) (by rfl) (fun w1 => ?_) ?_
             rotate_left
             · go_simp <;> with_reducible rfl
             simp only [Act.put, List.setIfInBounds_toArray, List.set_cons_zero, List.set_cons_succ])
          | (refine pt_off (by rfl) ?_
             simp only [Act.put, List.setIfInBounds_toArray, List.set_cons_zero, List.set_cons_succ])
          | (refine pt_load_off (by rfl) ?_
             simp only [Act.put, List.setIfInBounds_toArray, List.set_cons_zero, List.set_cons_succ])
          | (refine pt_load (v := ?_) (by rfl) (fun w1 hw1 => ?_) ?_
             rotate_left
             · (have q0 := (hw1.cell g (o + k) lg id).trans v0
                clear hw1
                go_simp <;> with_reducible rfl)
             simp only [Act.put, List.setIfInBounds_toArray, List.set_cons_zero, List.set_cons_succ]))
        refine pt_fork ?_ ?_
        · go_wp2_with fail
          refine pt_on (S' := fun u => Mod (fun _ => False) (wr.alloc (Obj.cells #[.int .u8 (q.length : Int)] 5)) u) (fun u h => ((Mod.refl _ _).alloc _).trans h) (by first | exact Mod.refl _ _ | exact (Mod.refl _ _).drew) ?_
          repeat (first
            | (refine pt_pure (v := ?_) (by rfl) (fun w1 => ?_) ?_
               rotate_left
               · go_simp <;> with_reducible rfl
               simp only [Act.put, List.setIfInBounds_toArray, List.set_cons_zero, List.set_cons_succ])
            | (refine pt_off (by rfl) ?_
               simp only [Act.put, List.setIfInBounds_toArray, List.set_cons_zero, List.set_cons_succ])
            | (refine pt_load_off (by rfl) ?_
               simp only [Act.put, List.setIfInBounds_toArray, List.set_cons_zero, List.set_cons_succ])
            | (refine pt_load (v := ?_) (by rfl) (fun w1 hw1 => ?_) ?_
               rotate_left
               · (have q0 := HCV.out wr w1 hw1
                  clear hw1
                  go_simp <;> with_reducible rfl)
               simp only [Act.put, List.setIfInBounds_toArray, List.set_cons_zero, List.set_cons_succ]))
          refine pt_eff ?_
          go_wp2_with fail
          refine (HPR.out _ (by first | exact (HBW.out.alloc HBW.out.size _).drew | exact (HBW.out.drew).alloc HBW.out.size _)).mono ?_
          rintro x w7 ⟨rfl, b7⟩
          have HB7 := Lib.hid (below_at (w := w) (by first | exact (HBW.out.alloc HBW.out.size _).drew | exact (HBW.out.drew).alloc HBW.out.size _) b7)
          have hm7 : Mod (fun _ => False) (wr.alloc (Obj.cells #[.int .u8 (q.length : Int)] 5)) w7 := (Mod.refl (fun _ => False) (wr.alloc (Obj.cells #[.int .u8 (q.length : Int)] 5))).drew.trans ((Mod.of_below_size b7 (fun _ => False)))
          clear b7
          go_wp2_with fail
          refine pt_on (S' := fun u => Mod (fun _ => False) w7 u) (fun u h => hm7.trans h) (Mod.refl _ _) ?_
          repeat (first
            | (refine pt_pure (v := ?_) (by rfl) (fun w1 => ?_) ?_
               rotate_left
               · go_simp <;> with_reducible rfl
               simp only [Act.put, List.setIfInBounds_toArray, List.set_cons_zero, List.set_cons_succ])
            | (refine pt_off (by rfl) ?_
               simp only [Act.put, List.setIfInBounds_toArray, List.set_cons_zero, List.set_cons_succ])
            | (refine pt_load_off (by rfl) ?_
               simp only [Act.put, List.setIfInBounds_toArray, List.set_cons_zero, List.set_cons_succ])
            | (refine pt_load (v := ?_) (by rfl) (fun w1 hw1 => ?_) ?_
               rotate_left
               · (skip
                  clear hw1
                  go_simp <;> with_reducible rfl)
               simp only [Act.put, List.setIfInBounds_toArray, List.set_cons_zero, List.set_cons_succ]))
          refine pt_end ?_
          go_wp2_with fail
          go_roundw
          case rel => exact ⟨k + 1, by omega, by go_num, by rw [HSN.out]; exact HFIN.out, HB7.out⟩
          case measure => simp [intOf]; omega
        · go_wp2_with fail
          refine (HPR.out _ HBW.out.drew).mono ?_
          rintro x w7 ⟨rfl, b7⟩
          have HB7 := Lib.hid (below_at HBW.out.drew b7)
          have hm7 : Mod (fun _ => False) wr w7 := (Mod.refl (fun _ => False) wr).drew.trans (Mod.of_below_size b7 (fun _ => False))
          have v7 := (World.cell?_of_block (b7.block g lg)).trans v0
          clear b7
          go_wp2_with fail
          refine pt_on (S' := fun u => Mod (fun _ => False) w7 u) (fun u h => hm7.trans h) (Mod.refl _ _) ?_
          refine pt_eff ?_
          go_wp2_with fail
          refine pt_on (S' := fun u => Mod (fun _ => False) (w7.alloc (Obj.cells #[.int .u8 (q.length : Int)] 5)) u) (fun u h => ((Mod.refl _ _).alloc _).trans h) (by first | exact Mod.refl _ _ | exact (Mod.refl _ _).drew) ?_
          repeat (first
            | (refine pt_pure (v := ?_) (by rfl) (fun w1 => ?_) ?_
               rotate_left
               · go_simp <;> with_reducible rfl
               simp only [Act.put, List.setIfInBounds_toArray, List.set_cons_zero, List.set_cons_succ])
            | (refine pt_off (by rfl) ?_
               simp only [Act.put, List.setIfInBounds_toArray, List.set_cons_zero, List.set_cons_succ])
            | (refine pt_load_off (by rfl) ?_
               simp only [Act.put, List.setIfInBounds_toArray, List.set_cons_zero, List.set_cons_succ])
            | (refine pt_load (v := ?_) (by rfl) (fun w1 hw1 => ?_) ?_
               rotate_left
               · (have q0 := HCV.out w7 w1 hw1
                  clear hw1
                  go_simp <;> with_reducible rfl)
               simp only [Act.put, List.setIfInBounds_toArray, List.set_cons_zero, List.set_cons_succ]))
          refine pt_end ?_
          go_wp2_with fail
          go_roundw
          case rel => exact ⟨k + 1, by omega, by go_num, by rw [HSN.out]; exact HFIN.out, by first | exact HB7.out.alloc HB7.out.size _ | exact (HB7.out.alloc HB7.out.size _).drew⟩
          case measure => simp [intOf]; omega
      · have hkn : k = L.length := by omega
        have hel := HEL.out k
        rw [hkn, List.take_length] at hel ⊢
        have hrow : Row (wr.alloc (Obj.cells #[.int .u8 0] 5)) 5 1 (some ⟨wr.heap.size, 0, none⟩) 1 1 (byteVs [0]) :=
          ⟨rfl, Nat.le_refl _, by unfold maxLen; omega, fun h => (by cases h), fun a ha => by injection ha with ha; subst ha; exact ⟨rfl, _, heap_alloc_new wr _, by simp, rfl⟩⟩
        have hconv := conv_bytes hrow 68 9 Tryz.underlying68 Tryz.underlying5 Tryz.underlying9
        have hfin : Value.string (⟨(Fo.encP L).toArray⟩ ++ ⟨[(0 : UInt8)].toArray⟩) = .string ⟨P.toArray⟩ := by
          rw [HP.out]
          refine congrArg Value.string (ByteArray.ext (Array.toList_inj.1 ?_))
          simp [ByteArray.data_append]
        have z0 : ByteArray.size ⟨(Fo.encP L).toArray⟩ ≤ 2000000 := by simpa [ByteArray.size] using hel
        have z1 : ByteArray.size ⟨[(0 : UInt8)].toArray⟩ = 1 := rfl
        have hlt' : ¬ (L.length : Int) < (L.length : Int) := by omega
        generalize (⟨(Fo.encP L).toArray⟩ : ByteArray) = t0 at hfin z0 ⊢
        generalize (⟨[(0 : UInt8)].toArray⟩ : ByteArray) = t1 at hconv hfin z1
        have s1 : ¬ (9223372036854775807 < t0.size + t1.size) := by omega
        have HFIN := Lib.hid hfin
        have HB9 := Lib.hid (hbw.alloc hbw.size (Obj.cells #[.int .u8 0] 5))
        clear hfin hrow hel hkn hbw z0 z1 hlt
        go_wp2_with fail
        go_ret
        exact ⟨by rw [← HFIN.out]; rfl, HB9.out⟩

set_option maxRecDepth 100000 in
theorem refKey_any (w : World) (A : Option Addr) (cap : Nat) (l : List Ev) (hr : Rd w 4 A l.length (l.flatMap encE)) (hl : l.length < 4611686018427387904) :
    Calls Tryz.prog 57 #[.slice A l.length cap] w fun x w' => x = .returned (.string ⟨(Fo.key l).toArray⟩) ∧ Below w.heap.size w w' := by
  have hcall := rows_any w A cap l hr hl
  have hcall2 : ∀ w2, Below w.heap.size w w2 → Calls Tryz.prog 94 #[.slice A l.length cap] w2 (LvOut w2 (Fo.levR l)) := fun w2 hb => refLevels_any w2 A cap l (hr.below hb (Nat.le_refl _)) hl
  have hok : Fo.okRow l = (decide (l.length ≤ 200) && Fo.rights l) := rfl
  have hno : Fo.okRow l = false → Fo.key l = [] := fun e => by unfold Fo.key; rw [if_neg (by rw [e]; decide)]
  have hyes : Fo.okRow l = true → Fo.key l = Fo.printL (Fo.lev l) ∧ Fo.levR l = Fo.lev l := fun e => ⟨by unfold Fo.key; rw [if_pos e], by unfold Fo.levR; rw [if_pos e]⟩
  have hfl := (Fo.lev_flat l).length_eq
  have hle := Fo.lev_len_le l
  generalize Fo.key l = K at *
  generalize Fo.okRow l = ok at *
  generalize Fo.rights l = b at *
  have HC1 := Lib.hid hcall
  have HC2 := Lib.hid hcall2
  have HNO := Lib.hid hno
  have HYES := Lib.hid hyes
  have HFL := Lib.hid hfl
  have HLE := Lib.hid hle
  have HOK := Lib.hid hok
  clear hcall hcall2 hno hyes hfl hle hr hok
  go_enter Tryz.func57, Tryz.ntmps57
  go_wp2_with fail
  refine HC1.out.mono ?_
  rintro x w1 ⟨rfl, b1⟩
  have HB1 := Lib.hid b1
  cases b with
  | false =>
    clear b1
    go_wp2_with fail
    go_ret
    exact ⟨by rw [HNO.out (by rw [HOK.out, Bool.and_false])]; rfl, HB1.out⟩
  | true =>
    by_cases h200 : l.length ≤ 200
    · obtain ⟨h1, h2⟩ := HYES.out (by rw [HOK.out, decide_eq_true h200]; rfl)
      have hcall := HC2.out w1 b1
      rw [h2] at hcall
      have HC3 := Lib.hid hcall
      have HK := Lib.hid h1
      have hn : ¬ (200 : Int) < (l.length : Int) := by omega
      clear b1 hcall h1 h2
      go_wp2_with fail
      refine HC3.out.mono ?_
      rintro x w2 ⟨A2, cap2, rfl, hlv, b2⟩
      have hpr := refPrintL_any w2 A2 cap2 (Fo.lev l) hlv (by have := HLE.out; omega) (by rw [HFL.out]; omega)
      rw [← HK.out] at hpr
      have HP := Lib.hid hpr
      have HB2 := Lib.hid (below_at HB1.out b2)
      clear hlv b2 hpr
      go_wp2_with fail
      refine HP.out.mono ?_
      rintro x w3 ⟨rfl, b3⟩
      have HB3 := Lib.hid (below_at HB2.out b3)
      clear b3
      go_wp2_with fail
      go_ret
      exact ⟨rfl, HB3.out⟩
    · have hn : (200 : Int) < (l.length : Int) := by omega
      have HN := Lib.hid h200
      clear b1 h200
      go_wp2_with fail
      go_ret
      exact ⟨by rw [HNO.out (by rw [HOK.out, decide_eq_false HN.out]; rfl)]; rfl, HB1.out⟩
end Go.Proofs.YtcaapoacmfjnmaaGreat
/- foata.Read -/
namespace Go.Proofs.YtcaapoacmfjnmaaGreat
open Go.RowKit
set_option linter.unusedVariables false

/-- what a function that reads levels leaves -/
def ReadOut (w : World) (s : List UInt8) (x : Ending) (w' : World) : Prop :=
  (∃ A cap L, Fo.readL s = some L ∧ x = .returned (.tuple #[.slice A L.length cap, .int .i64 0]) ∧ LvAt w' w'.heap.size A L ∧ Below w.heap.size w w') ∨
  (Fo.readL s = none ∧ x = .returned (.tuple #[.slice none 0 0, .int .i64 3]) ∧ Below w.heap.size w w')

/-- a row more -/
theorem LvC.push {cap cap' c' : Nat} {A A2 A' : Option Addr} {L : List (List Ev)} {c : Nat → Nat} {w w' : World} {vs : List Value} {q : List Ev} (hv : RowC w c 1 52 1 A L.length cap vs)
    (hin : ∀ i, (hi : i < L.length) → ∃ A' c', vs[i]? = some (.slice A' L[i].length c') ∧ RowC w c (10 + i) 57 4 A' L[i].length c' (L[i].flatMap encE))
    (hq : RowC w c (10 + L.length) 57 4 A' q.length c' (q.flatMap encE))
    (hr : Row w' 52 1 A2 (L.length + 1) cap' (vs ++ [.slice A' q.length c'])) (hm : Mod (fun k => ∃ a, A = some a ∧ k = a.block) w w')
    (hat : ∀ a', A2 = some a' → (∃ a, A = some a ∧ a'.block = a.block) ∨ w.heap.size ≤ a'.block) :
    LvC w' (paint c w.heap.size 1) A2 cap' (L ++ [q]) ∧ Chg 1 c w (paint c w.heap.size 1) w' := by
  have hl : vs.length = L.length := by have := hv.1.1; omega
  obtain ⟨h1, h2⟩ := RowC.put hv hr hm hat
  refine ⟨⟨vs ++ [.slice A' q.length c'], by rw [List.length_append]; exact h1, fun i hi => ?_⟩, h2⟩
  rw [List.length_append, List.length_singleton] at hi
  rcases Nat.lt_or_ge i L.length with h3 | h3
  · obtain ⟨A', c', e, r⟩ := hin i h3
    refine ⟨A', c', ?_, ?_⟩
    · rw [List.getElem?_append_left (by omega), e, List.getElem_append_left h3]
    · rw [List.getElem_append_left h3]; exact r.stay h2 (by omega)
  · obtain rfl : i = L.length := by omega
    refine ⟨A', c', ?_, ?_⟩
    · rw [List.getElem?_append_right (by omega)]; simp [hl]
    · simp only [List.getElem_append_right (Nat.le_refl _), Nat.sub_self, List.getElem_cons_zero]; exact hq.stay h2 (by omega)

namespace Fo
/-- what is read of all of it -/
def parseS (s : List UInt8) : Option (List (List Ev)) := parse s.length s
theorem parseS_nil : parseS [] = some [] := rfl
theorem parseS_zero (r : List UInt8) : parseS (0 :: r) = some [] := rfl
theorem parseS_short {b : UInt8} {r : List UInt8} (hb : b ≠ 0) (h : r.length < b.toNat) : parseS (b :: r) = none := by
  unfold parseS
  rw [List.length_cons, parse, if_neg hb, if_pos h]
theorem parseS_cons {b : UInt8} {r : List UInt8} (hb : b ≠ 0) (h : ¬ r.length < b.toNat) : parseS (b :: r) = (evs (r.take b.toNat)).bind fun l => (parseS (r.drop b.toNat)).map (l :: ·) := by
  unfold parseS
  rw [List.length_cons, parse, if_neg hb, if_neg h, parse_more r.length (r.drop b.toNat) (by rw [List.length_drop]; omega)]
theorem evs_len {bs : List UInt8} {q : List Ev} (h : evs bs = some q) : q.length = bs.length := by
  unfold evs at h
  split at h
  · injection h with h; rw [← h, List.length_map]
  · cases h
theorem readL_eq (s : List UInt8) : readL s = (parseS s).bind fun L => if s ≠ [] ∧ printL L = s then some L else none := rfl
end Fo

set_option maxRecDepth 100000 in
set_option maxHeartbeats 4000000 in
theorem fread_any (w : World) (s : ByteArray) (hl : s.size < 100000) :
    Calls Tryz.prog 50 #[.string s] w (ReadOut w s.data.toList) := by
  obtain ⟨i1, hi1, hy0, hy1, hy2⟩ := info_parts Tryz.infoSl2
  go_enter Tryz.func50, Tryz.ntmps50
  go_wp2_with fail
  go_loopw [2, 4] (fun v2 v4 wr => ∃ (r : ByteArray) (A : Option Addr) (cap : Nat) (c : Nat → Nat) (L : List (List Ev)), v4 = .string r ∧ v2 = .slice A L.length cap ∧ L.flatten.length + L.length + r.size ≤ s.size ∧ Hid (Fo.parseS s.data.toList = (Fo.parseS r.data.toList).map (L ++ ·)) ∧ Hid (LvC wr c A cap L) ∧ Hid (Fr w.heap.size c w wr)) (fun _ v4 _ => match v4 with | .string r => r.size | _ => 0)
  case atStart => exact ⟨s, none, 0, _, [], rfl, rfl, by simp, Lib.hid (by simp), Lib.hid (LvC.nil _ _), Lib.hid (Fr.start w)⟩
  case round =>
    obtain ⟨r, A, cap, c, L, rfl, rfl, hsz, HPS, HLV, HFR⟩ := hrel
    by_cases hne : r.size = 0
    · have e0 : r = ⟨#[]⟩ := ByteArray.ext (Array.eq_empty_of_size_eq_zero hne)
      have hps : Fo.parseS s.data.toList = some L := by rw [HPS.out, e0]; simp [Fo.parseS_nil]
      subst e0
      clear hne HPS
      by_cases hs0 : s.data.toList = []
      · have he_s : s.toList.isEmpty = true := by rw [ByteArray.toList_eq, hs0]; rfl
        have hno : Fo.readL s.data.toList = none := by rw [Fo.readL_eq, hps, Option.bind_some, if_neg (fun h => h.1 hs0)]
        have HNO := Lib.hid hno
        clear hno hps hs0
        go_wp2_with fail
        go_ret2
        exact .inr ⟨HNO.out, rfl, HFR.out.below⟩
      · have he_s : s.toList.isEmpty = false := by rw [ByteArray.toList_eq]; cases hx : s.data.toList with
          | nil => exact (hs0 hx).elim
          | cons _ _ => rfl
        have hpr := fprint_any wr A cap L HLV.out.lv (by omega) (by omega)
        have hrd : Fo.readL s.data.toList = if Fo.printL L = s.data.toList then some L else none := by
          rw [Fo.readL_eq, hps, Option.bind_some]
          by_cases hq : Fo.printL L = s.data.toList
          · rw [if_pos hq, if_pos ⟨hs0, hq⟩]
          · rw [if_neg hq, if_neg (fun h => hq h.2)]
        have hts : (⟨(Fo.printL L).toArray⟩ : ByteArray) = s ↔ Fo.printL L = s.data.toList := ⟨fun h => by rw [← h], fun h => ByteArray.ext (by show (Fo.printL L).toArray = s.data; rw [h])⟩
        generalize (⟨(Fo.printL L).toArray⟩ : ByteArray) = t at hpr hts
        have HPR := Lib.hid hpr
        have HRD := Lib.hid hrd
        have HTS := Lib.hid hts
        clear hpr hrd hts hps hs0
        go_wp2_with fail
        refine HPR.out.mono ?_
        rintro x w1 ⟨rfl, b1⟩
        have HB := Lib.hid (below_at (w := w) HFR.out.below ⟨b1.os, b1.tape, b1.output, b1.size, b1.block⟩)
        have HLV1 := Lib.hid ((HLV.out.lv.below b1).mono b1.size)
        by_cases hq : t = s
        · have hrd : Fo.readL s.data.toList = some L := by rw [HRD.out, if_pos (HTS.out.1 hq)]
          have HR := Lib.hid hrd
          subst hq
          clear hrd b1
          go_wp2_with fail
          go_ret2
          exact .inl ⟨A, cap, L, HR.out, rfl, HLV1.out, HB.out⟩
        · have hrd : Fo.readL s.data.toList = none := by rw [HRD.out, if_neg (fun h => hq (HTS.out.2 h))]
          have HR := Lib.hid hrd
          have e8 : (t.toList == s.toList) = false := by
            rw [ByteArray.toList_eq, ByteArray.toList_eq, beq_eq_false_iff_ne]
            exact fun h => hq (ByteArray.ext (Array.toList_inj.1 h))
          have e9 : ¬ t.toList = s.toList := by
            rw [ByteArray.toList_eq, ByteArray.toList_eq]
            exact fun h => hq (ByteArray.ext (Array.toList_inj.1 h))
          clear hrd b1
          go_wp2_with fail
          go_ret2
          exact .inr ⟨HR.out, rfl, HB.out⟩
    · have hp : 0 < r.size := by omega
      have hp2 : (0 : Int) < (r.size : Int) := by omega
      obtain ⟨b, hb⟩ : ∃ b, b = r[0]'hp := ⟨_, rfl⟩
      have hidx : ∀ W, (Instr.index 9 (.string r) (.int .i64 0)).run Tryz.prog W = .ok (.int .u8 b.toNat) W := fun W => by
        rw [run_index_string W _ _ _ _ Tryz.underlying9, dif_pos ⟨Int.le_refl _, hp2⟩, hb]; rfl
      obtain ⟨bs, hbs⟩ : ∃ bs, r.data.toList = b :: bs := by
        have hp' : 0 < r.data.toList.length := by simpa using hp
        cases hx : r.data.toList with
        | nil => rw [hx] at hp'; cases hp'
        | cons c cs =>
          refine ⟨cs, ?_⟩
          have : r.data.toList[0]'hp' = r[0]'hp := rfl
          rw [hb, ← this]
          simp [hx]
      have hrs : r.size = bs.length + 1 := by
        have : r.data.toList.length = r.size := by simp
        rw [hbs] at this; simpa using this.symm
      have he : r.toList.isEmpty = false := by rw [ByteArray.toList_eq, hbs]; rfl
      have hE1 : ∀ n, (r.extract 1 (n + 1)).data.toList = bs.take n := fun n => by
        rw [ByteArray.data_extract, Array.toList_extract, hbs]; simp
      have hE2 : ∀ n, (r.extract (n + 1) r.size).data.toList = bs.drop n := fun n => by
        rw [ByteArray.data_extract, Array.toList_extract, hbs, hrs]; simp [List.take_of_length_le]
      have HBS := Lib.hid hbs
      have HB := Lib.hid hb
      clear hb hbs
      by_cases hb0 : b = 0
      · have hps : Fo.parseS s.data.toList = some L := by rw [HPS.out, HBS.out, hb0, Fo.parseS_zero]; simp
        subst hb0
        by_cases hs0 : s.data.toList = []
        · have he_s : s.toList.isEmpty = true := by rw [ByteArray.toList_eq, hs0]; rfl
          have hno : Fo.readL s.data.toList = none := by rw [Fo.readL_eq, hps, Option.bind_some, if_neg (fun h => h.1 hs0)]
          have HNO := Lib.hid hno
          clear hno hps hs0
          go_wp2_with fail
          go_ret2
          exact .inr ⟨HNO.out, rfl, HFR.out.below⟩
        · have he_s : s.toList.isEmpty = false := by rw [ByteArray.toList_eq]; cases hx : s.data.toList with
            | nil => exact (hs0 hx).elim
            | cons _ _ => rfl
          have hpr := fprint_any wr A cap L HLV.out.lv (by omega) (by omega)
          have hrd : Fo.readL s.data.toList = if Fo.printL L = s.data.toList then some L else none := by
            rw [Fo.readL_eq, hps, Option.bind_some]
            by_cases hq : Fo.printL L = s.data.toList
            · rw [if_pos hq, if_pos ⟨hs0, hq⟩]
            · rw [if_neg hq, if_neg (fun h => hq h.2)]
          have hts : (⟨(Fo.printL L).toArray⟩ : ByteArray) = s ↔ Fo.printL L = s.data.toList := ⟨fun h => by rw [← h], fun h => ByteArray.ext (by show (Fo.printL L).toArray = s.data; rw [h])⟩
          generalize (⟨(Fo.printL L).toArray⟩ : ByteArray) = t at hpr hts
          have HPR := Lib.hid hpr
          have HRD := Lib.hid hrd
          have HTS := Lib.hid hts
          clear hpr hrd hts hps hs0
          go_wp2_with fail
          refine HPR.out.mono ?_
          rintro x w1 ⟨rfl, b1⟩
          have HB := Lib.hid (below_at (w := w) HFR.out.below ⟨b1.os, b1.tape, b1.output, b1.size, b1.block⟩)
          have HLV1 := Lib.hid ((HLV.out.lv.below b1).mono b1.size)
          by_cases hq : t = s
          · have hrd : Fo.readL s.data.toList = some L := by rw [HRD.out, if_pos (HTS.out.1 hq)]
            have HR := Lib.hid hrd
            subst hq
            clear hrd b1
            go_wp2_with fail
            go_ret2
            exact .inl ⟨A, cap, L, HR.out, rfl, HLV1.out, HB.out⟩
          · have hrd : Fo.readL s.data.toList = none := by rw [HRD.out, if_neg (fun h => hq (HTS.out.2 h))]
            have HR := Lib.hid hrd
            have e8 : (t.toList == s.toList) = false := by
              rw [ByteArray.toList_eq, ByteArray.toList_eq, beq_eq_false_iff_ne]
              exact fun h => hq (ByteArray.ext (Array.toList_inj.1 h))
            have e9 : ¬ t.toList = s.toList := by
              rw [ByteArray.toList_eq, ByteArray.toList_eq]
              exact fun h => hq (ByteArray.ext (Array.toList_inj.1 h))
            clear hrd b1
            go_wp2_with fail
            go_ret2
            exact .inr ⟨HR.out, rfl, HB.out⟩
      · have hbn : b.toNat ≠ 0 := fun h => hb0 (UInt8.toNat_inj.1 h)
        have hn2 : b.toNat ≤ 255 := by have := b.toNat_lt; omega
        have HB0 := Lib.hid hb0
        generalize hn : b.toNat = n at *
        have HN := Lib.hid hn
        have n1 : (0 : Int) < (n : Int) := by omega
        clear hb0 hn hbn
        by_cases hsh : bs.length < n
        · have h3 : ((r.size : Int) ≤ (n : Int)) := by omega
          have hno : Fo.readL s.data.toList = none := by
            rw [Fo.readL_eq, HPS.out, HBS.out, Fo.parseS_short HB0.out (by rw [HN.out]; exact hsh)]
            rfl
          have HNO := Lib.hid hno
          have HSH := Lib.hid hsh
          have h5 : ((bs.length : Int) + 1 ≤ (n : Int)) := by omega
          clear hno hsh
          go_wp2_with fail
          go_ret2
          exact .inr ⟨HNO.out, rfl, HFR.out.below⟩
        · have h3 : ¬ ((r.size : Int) ≤ (n : Int)) := by omega
          have h4 : ((n : Int) + 1) ≤ (r.size : Int) := by omega
          go_wp2_with fail
          refine (readE_any wr (r.extract 1 (n + 1)) (by simp [ByteArray.size_extract]; omega)).mono ?_
          rintro x w1 (⟨A', c', q, hq, rfl, hrow, hfr, hb1⟩ | ⟨hq, rfl, hb1⟩)
          · have hqn : q.length = n := by have := Fo.evs_len hq; rw [hE1, List.length_take] at this; omega
            have hps : Fo.parseS s.data.toList = (Fo.parseS (r.extract (n + 1) r.size).data.toList).map ((L ++ [q]) ++ ·) := by
              rw [HPS.out, HBS.out, Fo.parseS_cons HB0.out (by rw [HN.out]; exact hsh), HN.out, ← hE1, hq, hE2]
              cases Fo.parseS (bs.drop n) with
              | none => rfl
              | some M => simp
            have hsz2 : (L ++ [q]).flatten.length + (L ++ [q]).length + (r.extract (n + 1) r.size).size ≤ s.size := by
              have hx : (r.extract (n + 1) r.size).size = bs.length - n := by rw [ByteArray.size_extract]; omega
              rw [hx, List.flatten_append, List.length_append, List.length_append, List.length_singleton]
              simp only [List.flatten_cons, List.flatten_nil, List.append_nil]
              omega
            have hrq := RowC.fresh (c := c) (w := wr) (j := 10 + L.length) hrow hfr
            have hst : Chg 3 c wr (paint c wr.heap.size (10 + L.length)) w1 := .below 3 _ hb1
            have hlv := HLV.out.stay hst (by decide) (by decide)
            have hfr1 := HFR.out.step hst (by decide)
            generalize paint c wr.heap.size (10 + L.length) = c1 at hrq hst hlv hfr1
            have hal : Chg 4 c1 w1 (paint c1 w1.heap.size 3) (w1.alloc (Obj.cells #[.slice A' q.length c'] 52)) := .alloc 4 3 _
            obtain ⟨vs, hv, hin⟩ := hlv.stay hal (by decide) (by decide)
            have HV := Lib.hid hv
            have HIN := Lib.hid hin
            have HRQ := Lib.hid (hrq.stay hal (by omega))
            have HFR1 := Lib.hid (hfr1.step hal (by decide))
            have HPS2 := Lib.hid hps
            have HSZ2 := Lib.hid hsz2
            have hfl : L.length < 100000 := by omega
            have hxs : (r.extract (n + 1) r.size).size < r.size := by rw [ByteArray.size_extract]; omega
            have HXS := Lib.hid hxs
            clear hqn hq hrow hfr hb1 hps hsz2 hrq hst hlv hfr1 hal hv hin hsz hxs
            go_wp2_with (at_builtin; refine wpList_append_row (by rfl) _ _ _ (by rfl) 52 i1 _ 1 24 Tryz.underlying89 hi1 hy0 hy1 hy2 rfl (by omega) A L.length cap vs (by rfl) HV.out.1 ⟨w1.heap.size, 0, none⟩ 1 1 [.slice A' q.length c'] (by rfl) (by rfl) (World.news_of_block (cs := #[.slice A' q.length c']) (t := 52) (fr := (0, 0)) (heap_alloc_new w1 _)) (by simp [Value.oneCell']) (by omega) (by unfold maxLen; omega) (by omega) ?_; intro g4 of4 cap4 w8 hown hm hat; skip)
            obtain ⟨z1, z2⟩ := LvC.push HV.out HIN.out HRQ.out hown hm (fun a' ha' => by injection ha' with ha'; subst ha'; exact hat)
            go_roundw
            case rel => exact ⟨r.extract (n + 1) r.size, some ⟨g4, of4, none⟩, cap4, _, L ++ [q], by rw [hrs], by rw [List.length_append]; rfl, HSZ2.out, HPS2, Lib.hid z1, Lib.hid (HFR1.out.step z2 (by decide))⟩
            case measure =>
              show (r.extract (n + 1) (bs.length + 1)).size < r.size
              rw [← hrs]
              exact HXS.out
          · have hno : Fo.readL s.data.toList = none := by
              rw [Fo.readL_eq, HPS.out, HBS.out, Fo.parseS_cons HB0.out (by rw [HN.out]; exact hsh), HN.out, ← hE1, hq]
              rfl
            have HNO := Lib.hid hno
            have HF := Lib.hid ((HFR.out.step (Chg.below 3 3 hb1) (by decide)).below)
            clear hno hq hb1
            go_wp2_with fail
            go_ret2
            exact .inr ⟨HNO.out, rfl, HF.out⟩
end Go.Proofs.YtcaapoacmfjnmaaGreat
/- The document's Read (of levels). -/
namespace Go.Proofs.YtcaapoacmfjnmaaGreat
open Go.RowKit
set_option linter.unusedVariables false

def ReadOutB (w : World) (s : List UInt8) (x : Ending) (w' : World) : Prop :=
  (∃ A cap L, Fo.readL s = some L ∧ x = .returned (.tuple #[.slice A L.length cap, .bool true]) ∧ LvAt w' w'.heap.size A L ∧ Below w.heap.size w w') ∨
  (Fo.readL s = none ∧ x = .returned (.tuple #[.slice none 0 0, .bool false]) ∧ Below w.heap.size w w')

theorem encP_snoc (L : List (List Ev)) (q : List Ev) : (Fo.encP (L ++ [q])).length = (Fo.encP L).length + 1 + q.length := by
  unfold Fo.encP Fo.bytes
  rw [List.flatMap_append, List.length_append]
  simp
  omega
theorem printL_len {L : List (List Ev)} {s : List UInt8} (h : Fo.printL L = s) (hs : s ≠ []) : s.length = (Fo.encP L).length + 1 := by
  unfold Fo.printL at h
  split at h
  · rw [← h, Fo.enc_eq, List.length_append]; rfl
  · exact (hs h.symm).elim

set_option maxRecDepth 100000 in
set_option maxHeartbeats 4000000 in
theorem refReadL_any (w : World) (s : ByteArray) (hl : s.size < 100000) :
    Calls Tryz.prog 53 #[.string s] w (ReadOutB w s.data.toList) := by
  obtain ⟨i1, hi1, hy0, hy1, hy2⟩ := info_parts Tryz.infoSl2
  obtain ⟨ss, hss⟩ : ∃ ss, ss = s.data.toList := ⟨_, rfl⟩
  have hsl : s.size = ss.length := by rw [hss]; simp
  have hix : ∀ a, (ha : a < ss.length) → ∀ W, (Instr.index 9 (.string s) (.int .i64 (a : Int))).run Tryz.prog W = .ok (.int .u8 (ss[a]).toNat) W := fun a ha W => by
    subst hss
    rw [run_index_string W _ _ _ _ Tryz.underlying9, dif_pos ⟨by omega, by omega⟩]; rfl
  have hex : ∀ a n, a + 1 + n ≤ ss.length → (s.extract (a + 1) (a + 1 + n)).data.toList = (ss.drop (a + 1)).take n := fun a n _ => by
    subst hss
    rw [ByteArray.data_extract, Array.toList_extract]; simp
  rw [← hss]
  have HSS := Lib.hid hss
  have HIX := Lib.hid hix
  have HEX := Lib.hid hex
  have HSL := Lib.hid hsl
  have hl2 : ss.length < 100000 := by omega
  clear hss hix hex hl
  go_enter Tryz.func53, Tryz.ntmps53
  go_wp2_with fail
  go_loopw [4, 5] (fun v4 v5 wr => ∃ (a : Nat) (A : Option Addr) (cap : Nat) (c : Nat → Nat) (L : List (List Ev)), v5 = .int .i64 a ∧ v4 = .slice A L.length cap ∧ a ≤ ss.length ∧ L.flatten.length + L.length ≤ a ∧ Hid ((Fo.encP L).length = a) ∧ Hid (Fo.parseS ss = (Fo.parseS (ss.drop a)).map (L ++ ·)) ∧ Hid (LvC wr c A cap L) ∧ Hid (Fr w.heap.size c w wr)) (fun _ v5 _ => ss.length - (intOf v5).toNat)
  case atStart => exact ⟨0, none, 0, _, [], rfl, rfl, Nat.zero_le _, Nat.le_refl _, Lib.hid rfl, Lib.hid (by simp), Lib.hid (LvC.nil _ _), Lib.hid (Fr.start w)⟩
  case round =>
    obtain ⟨a, A, cap, c, L, rfl, rfl, ha, hsz, HEL, HPS, HLV, HFR⟩ := hrel
    have a1 : (0 : Int) ≤ (a : Int) := Int.natCast_nonneg _
    by_cases hlt : a < ss.length
    · have hidx := HIX.out a hlt
      have hdr : ss.drop a = ss[a] :: ss.drop (a + 1) := List.drop_eq_getElem_cons hlt
      have a2 : (a : Int) < (ss.length : Int) := by omega
      generalize ss[a] = b at hidx hdr
      have HDR := Lib.hid hdr
      clear hdr
      by_cases hb0 : b = 0
      · have hps : Fo.parseS ss = some L := by rw [HPS.out, HDR.out, hb0, Fo.parseS_zero]; simp
        subst hb0
        by_cases hla : a + 1 = ss.length
        · have e5 : ((a : Int) == (ss.length : Int) - 1) = true := by simp; omega
          have e6 : ((a : Int) = (ss.length : Int) - 1) := by omega
          have hs0 : ss ≠ [] := fun h => by rw [h] at hlt; cases hlt
          have hpr := refPrintL_any wr A cap L HLV.out.lv (by omega) (by omega)
          have hrd : Fo.readL ss = if Fo.printL L = ss then some L else none := by
            rw [Fo.readL_eq, hps, Option.bind_some]
            by_cases hq : Fo.printL L = ss
            · rw [if_pos hq, if_pos ⟨hs0, hq⟩]
            · rw [if_neg hq, if_neg (fun h => hq h.2)]
          have hts : (⟨(Fo.printL L).toArray⟩ : ByteArray) = s ↔ Fo.printL L = ss := ⟨fun h => by rw [HSS.out, ← h], fun h => ByteArray.ext (by show (Fo.printL L).toArray = s.data; rw [h, HSS.out])⟩
          generalize (⟨(Fo.printL L).toArray⟩ : ByteArray) = t at hpr hts
          have HPR := Lib.hid hpr
          have HRD := Lib.hid hrd
          have HTS := Lib.hid hts
          have HLA := Lib.hid hla
          have HE6 := Lib.hid e6
          clear hpr hrd hts hps hs0 hla e6
          go_wp2_with fail
          refine HPR.out.mono ?_
          rintro x w1 ⟨rfl, b1⟩
          have HB := Lib.hid (below_at (w := w) HFR.out.below ⟨b1.os, b1.tape, b1.output, b1.size, b1.block⟩)
          have HLV1 := Lib.hid ((HLV.out.lv.below b1).mono b1.size)
          by_cases hq : t = s
          · have hrd : Fo.readL ss = some L := by rw [HRD.out, if_pos (HTS.out.1 hq)]
            have HR := Lib.hid hrd
            subst hq
            clear hrd b1
            go_wp2_with fail
            go_ret2
            exact .inl ⟨A, cap, L, HR.out, rfl, HLV1.out, HB.out⟩
          · have hrd : Fo.readL ss = none := by rw [HRD.out, if_neg (fun h => hq (HTS.out.2 h))]
            have HR := Lib.hid hrd
            have e8 : (t.toList == s.toList) = false := by
              rw [ByteArray.toList_eq, ByteArray.toList_eq, beq_eq_false_iff_ne]
              exact fun h => hq (ByteArray.ext (Array.toList_inj.1 h))
            have e9 : ¬ t.toList = s.toList := by
              rw [ByteArray.toList_eq, ByteArray.toList_eq]
              exact fun h => hq (ByteArray.ext (Array.toList_inj.1 h))
            clear hrd b1
            go_wp2_with fail
            go_ret2
            exact .inr ⟨HR.out, rfl, HB.out⟩
        · have hno : Fo.readL ss = none := by
            rw [Fo.readL_eq, hps, Option.bind_some, if_neg (fun h => hla (by have := printL_len h.2 h.1; rw [this, HEL.out]))]
          have e5 : ((a : Int) == (ss.length : Int) - 1) = false := by simp; omega
          have e6 : ¬ ((a : Int) = (ss.length : Int) - 1) := by omega
          have HNO := Lib.hid hno
          clear hno hps hla
          go_wp2_with fail
          go_ret2
          exact .inr ⟨HNO.out, rfl, HFR.out.below⟩
      · have hbn : b.toNat ≠ 0 := fun h => hb0 (UInt8.toNat_inj.1 h)
        have hn2 : b.toNat ≤ 255 := by have := b.toNat_lt; omega
        have HB0 := Lib.hid hb0
        generalize hn : b.toNat = n at *
        have HN := Lib.hid hn
        have n1 : (0 : Int) < (n : Int) := by omega
        clear hb0 hn hbn
        by_cases hsh : ss.length < a + 1 + n
        · have h5 : ((ss.length : Int) < (a : Int) + 1 + (n : Int)) := by omega
          have hno : Fo.readL ss = none := by
            rw [Fo.readL_eq, HPS.out, HDR.out, Fo.parseS_short HB0.out (by rw [HN.out, List.length_drop]; omega)]
            rfl
          have HNO := Lib.hid hno
          clear hno hsh
          go_wp2_with fail
          go_ret2
          exact .inr ⟨HNO.out, rfl, HFR.out.below⟩
        · have h5 : ¬ ((ss.length : Int) < (a : Int) + 1 + (n : Int)) := by omega
          have h6 : ((a : Int) + 1 + (n : Int)) ≤ (ss.length : Int) := by omega
          go_wp2_with fail
          have hE1 := HEX.out a n (by omega)
          refine (refReadE_any wr (s.extract (a + 1) (a + 1 + n)) (by simp [ByteArray.size_extract]; omega)).mono ?_
          rintro x w1 (⟨A', c', q, hq, rfl, hrow, hfr, hb1⟩ | ⟨hq, rfl, hb1⟩)
          · have hqn : q.length = n := by have := Fo.evs_len hq; rw [hE1, List.length_take, List.length_drop] at this; omega
            have hdd : (ss.drop (a + 1)).drop n = ss.drop (a + 1 + n) := by rw [List.drop_drop]
            have hps : Fo.parseS ss = (Fo.parseS (ss.drop (a + 1 + n))).map ((L ++ [q]) ++ ·) := by
              rw [HPS.out, HDR.out, Fo.parseS_cons HB0.out (by rw [HN.out, List.length_drop]; omega), HN.out, ← hE1, hq, hdd]
              cases Fo.parseS (ss.drop (a + 1 + n)) with
              | none => rfl
              | some M => simp
            have hel : (Fo.encP (L ++ [q])).length = a + 1 + n := by rw [encP_snoc, HEL.out, hqn]
            have hsz2 : (L ++ [q]).flatten.length + (L ++ [q]).length ≤ a + 1 + n := by
              rw [List.flatten_append, List.length_append, List.length_append, List.length_singleton]
              simp only [List.flatten_cons, List.flatten_nil, List.append_nil]
              omega
            have hrq := RowC.fresh (c := c) (w := wr) (j := 10 + L.length) hrow hfr
            have hst : Chg 3 c wr (paint c wr.heap.size (10 + L.length)) w1 := .below 3 _ hb1
            have hlv := HLV.out.stay hst (by decide) (by decide)
            have hfr1 := HFR.out.step hst (by decide)
            generalize paint c wr.heap.size (10 + L.length) = c1 at hrq hst hlv hfr1
            have hal : Chg 4 c1 w1 (paint c1 w1.heap.size 3) (w1.alloc (Obj.cells #[.slice A' q.length c'] 52)) := .alloc 4 3 _
            obtain ⟨vs, hv, hin⟩ := hlv.stay hal (by decide) (by decide)
            have HV := Lib.hid hv
            have HIN := Lib.hid hin
            have HRQ := Lib.hid (hrq.stay hal (by omega))
            have HFR1 := Lib.hid (hfr1.step hal (by decide))
            have HPS2 := Lib.hid hps
            have HSZ2 := Lib.hid hsz2
            have HEL2 := Lib.hid hel
            have hfl : L.length < 100000 := by omega
            clear hqn hdd hq hrow hfr hb1 hps hsz2 hrq hst hlv hfr1 hal hv hin hsz hel hE1
            go_wp2_with (at_builtin; refine wpList_append_row (by rfl) _ _ _ (by rfl) 52 i1 _ 1 24 Tryz.underlying89 hi1 hy0 hy1 hy2 rfl (by omega) A L.length cap vs (by rfl) HV.out.1 ⟨w1.heap.size, 0, none⟩ 1 1 [.slice A' q.length c'] (by rfl) (by rfl) (World.news_of_block (cs := #[.slice A' q.length c']) (t := 52) (fr := (0, 0)) (heap_alloc_new w1 _)) (by simp [Value.oneCell']) (by omega) (by unfold maxLen; omega) (by omega) ?_; intro g4 of4 cap4 w8 hown hm hat; skip)
            obtain ⟨z1, z2⟩ := LvC.push HV.out HIN.out HRQ.out hown hm (fun a' ha' => by injection ha' with ha'; subst ha'; exact hat)
            go_roundw
            case rel => exact ⟨a + 1 + n, some ⟨g4, of4, none⟩, cap4, _, L ++ [q], by first | rfl | (congr 1; omega), by rw [List.length_append]; rfl, by omega, HSZ2.out, HEL2, HPS2, Lib.hid z1, Lib.hid (HFR1.out.step z2 (by decide))⟩
            case measure => simp [intOf]; omega
          · have hno : Fo.readL ss = none := by
              rw [Fo.readL_eq, HPS.out, HDR.out, Fo.parseS_cons HB0.out (by rw [HN.out, List.length_drop]; omega), HN.out, ← hE1, hq]
              rfl
            have HNO := Lib.hid hno
            have HF := Lib.hid ((HFR.out.step (Chg.below 3 3 hb1) (by decide)).below)
            clear hno hq hb1 hE1
            go_wp2_with fail
            go_ret2
            exact .inr ⟨HNO.out, rfl, HF.out⟩
    · have hps : Fo.parseS ss = some L := by rw [HPS.out, List.drop_eq_nil_of_le (by omega)]; simp [Fo.parseS_nil]
      have hla : ¬ a + 1 = ss.length := by omega
      have hlt2 : ¬ (a : Int) < (ss.length : Int) := by omega
      have hno : Fo.readL ss = none := by
        rw [Fo.readL_eq, hps, Option.bind_some, if_neg (fun h => hla (by have := printL_len h.2 h.1; rw [this, HEL.out]))]
      have e5 : ((a : Int) == (ss.length : Int) - 1) = false := by simp; omega
      have e6 : ¬ ((a : Int) = (ss.length : Int) - 1) := by omega
      have HNO := Lib.hid hno
      clear hno hps hla
      go_wp2_with fail
      go_ret2
      exact .inr ⟨HNO.out, rfl, HFR.out.below⟩
end Go.Proofs.YtcaapoacmfjnmaaGreat
