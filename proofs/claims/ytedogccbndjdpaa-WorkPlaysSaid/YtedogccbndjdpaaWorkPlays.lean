/- WorkPlays: in every order of pushes, pops and thefts who has what is the document's. No condition. -/
import Derived.Test.YtedogccbndjdpaaWorkU
import Derived.Test.YtedogccbndjdpaaWorkV
import Derived.Deep.CutBlock
namespace Go.Proofs.Ytedogccbndjdpaa
open Go.RowKit
set_option linter.unusedVariables false

/-- the work, the document's, and a call's own struct -/
def WBoth (base : Nat) (W : World) (B R : Nat) (ls rs : List (List ByteArray)) (w : World) : Prop := ∃ c, Fr base c W w ∧ WorkC w c 1 B ls ∧ RefC w c 2 R rs
/-- .. and block X is as it was -/
def WBothX (base : Nat) (W : World) (B R : Nat) (ls rs : List (List ByteArray)) (X : Nat) (o : Obj) (w : World) : Prop := ∃ c, Fr base c W w ∧ WorkC w c 1 B ls ∧ RefC w c 2 R rs ∧ BlkC w c 3 X o

theorem WBothX.blk {base : Nat} {W : World} {B R : Nat} {ls rs : List (List ByteArray)} {X : Nat} {o : Obj} {w : World} (h : WBothX base W B R ls rs X o w) : w.heap[X]? = some o := by obtain ⟨c, _, _, _, h⟩ := h; exact h.1
theorem WBothX.drew {base : Nat} {W : World} {B R : Nat} {ls rs : List (List ByteArray)} {X : Nat} {o : Obj} {w : World} (h : WBothX base W B R ls rs X o w) : WBothX base W B R ls rs X o w.drew := by
  obtain ⟨c, h1, h2, h3, h4⟩ := h
  have s : Chg 0 c w c w.drew := (Chg.refl 0 c w).drew
  exact ⟨c, ⟨h1.1, h1.2.1.trans ⟨rfl, rfl, rfl, Nat.le_refl _, fun _ _ => rfl⟩, h1.2.2⟩, h2.stay s (by omega), h3.stay s (by omega), h4.stay s (by omega)⟩
theorem WBothX.forget {base : Nat} {W : World} {B R : Nat} {ls rs : List (List ByteArray)} {X : Nat} {o : Obj} {w : World} (h : WBothX base W B R ls rs X o w) : WBoth base W B R ls rs w := by obtain ⟨c, h1, h2, h3, h4⟩ := h; exact ⟨c, h1, h2, h3⟩
theorem WBoth.with {base : Nat} {W : World} {B R : Nat} {ls rs : List (List ByteArray)} {w : World} (h : WBoth base W B R ls rs w) (o : Obj) : WBothX base W B R ls rs w.heap.size o (w.alloc o) := by
  obtain ⟨c, h1, h2, h3⟩ := h
  have s : Chg 3 c w (paint c w.heap.size 3) (w.alloc o) := Chg.alloc 3 3 o
  exact ⟨_, h1.step s (by omega), h2.stay s (by omega), h3.stay s (by omega), BlkC.made w c 3 o⟩
theorem WBoth.below {base : Nat} {W : World} {B R : Nat} {ls rs : List (List ByteArray)} {w : World} (h : WBoth base W B R ls rs w) : Below base W w := by obtain ⟨c, h1, _⟩ := h; exact h1.below

section
variable {base : Nat} {W : World} {B R : Nat} {ls rs : List (List ByteArray)} {X : Nat} {o : Obj} {w : World}
theorem wb_push (h : WBothX base W B R ls rs X o w) (hl : ls.flatten.length < 100000) (i : Int) (s : ByteArray) :
    Calls Try.prog 30 #[ptrV B, .int .i64 i, .string s] w fun e w' => e = .returned (.bool (pushOk ls i s)) ∧ WBothX base W B R (pushL ls i s) rs X o w' := by
  obtain ⟨c, h1, h2, h3, h4⟩ := h
  refine (work_push_any w _ B ls h2 hl i s).mono ?_
  rintro e w' ⟨rfl, hw, hm⟩
  obtain ⟨q, s⟩ := WorkC.put hw hm
  exact ⟨rfl, _, h1.step s (by omega), q, h3.stay s (by omega), h4.stay s (by omega)⟩
theorem rb_push (h : WBothX base W B R ls rs X o w) (hn : rs.length ≤ 64) (hl : rs.flatten.length < 100000) (i : Int) (s : ByteArray) :
    Calls Try.prog 31 #[ptrV R, .int .i64 i, .string s] w fun e w' => e = .returned (.bool (pushOk rs i s)) ∧ WBothX base W B R ls (pushL rs i s) X o w' := by
  obtain ⟨c, h1, h2, h3, h4⟩ := h
  refine (ref_push_any w _ R rs h3 hn hl i s).mono ?_
  rintro e w' ⟨rfl, hw, hm⟩
  obtain ⟨q, s⟩ := RefC.put hw hm
  exact ⟨rfl, _, h1.step s (by omega), h2.stay s (by omega), q, h4.stay s (by omega)⟩
theorem wb_pop (h : WBothX base W B R ls rs X o w) (hl : ls.flatten.length < 100000) (i : Int) :
    Calls Try.prog 32 #[ptrV B, .int .i64 i] w fun e w' => e = .returned (.tuple #[.string (popS ls i).1, .bool (popS ls i).2.1]) ∧ WBothX base W B R (popS ls i).2.2 rs X o w' := by
  obtain ⟨c, h1, h2, h3, h4⟩ := h
  refine (work_pop_any w _ B ls h2 hl i).mono ?_
  rintro e w' ⟨rfl, hw, hm⟩
  obtain ⟨q, s⟩ := WorkC.put hw hm
  exact ⟨rfl, _, h1.step s (by omega), q, h3.stay s (by omega), h4.stay s (by omega)⟩
theorem rb_pop (h : WBothX base W B R ls rs X o w) (hl : rs.flatten.length < 100000) (i : Int) :
    Calls Try.prog 33 #[ptrV R, .int .i64 i] w fun e w' => e = .returned (.tuple #[.string (popS rs i).1, .bool (popS rs i).2.1]) ∧ WBothX base W B R ls (popS rs i).2.2 X o w' := by
  obtain ⟨c, h1, h2, h3, h4⟩ := h
  refine (ref_pop_any w _ R rs h3 hl i).mono ?_
  rintro e w' ⟨rfl, hw, hm⟩
  obtain ⟨q, s⟩ := RefC.put hw hm
  exact ⟨rfl, _, h1.step s (by omega), h2.stay s (by omega), q, h4.stay s (by omega)⟩
theorem wb_steal (h : WBothX base W B R ls rs X o w) (hl : ls.flatten.length < 100000) (i k : Int) :
    Calls Try.prog 34 #[ptrV B, .int .i64 i, .int .i64 k] w fun e w' => e = .returned (.tuple #[.string (stealS ls i k).1, .bool (stealS ls i k).2.1]) ∧ WBothX base W B R (stealS ls i k).2.2 rs X o w' := by
  obtain ⟨c, h1, h2, h3, h4⟩ := h
  refine (work_steal_any w _ B ls h2 hl i k).mono ?_
  rintro e w' ⟨rfl, hw, hm⟩
  obtain ⟨q, s⟩ := WorkC.put hw hm
  exact ⟨rfl, _, h1.step s (by omega), q, h3.stay s (by omega), h4.stay s (by omega)⟩
theorem rb_steal (h : WBothX base W B R ls rs X o w) (hl : rs.flatten.length < 100000) (i k : Int) :
    Calls Try.prog 35 #[ptrV R, .int .i64 i, .int .i64 k] w fun e w' => e = .returned (.tuple #[.string (stealS rs i k).1, .bool (stealS rs i k).2.1]) ∧ WBothX base W B R ls (stealS rs i k).2.2 X o w' := by
  obtain ⟨c, h1, h2, h3, h4⟩ := h
  refine (ref_steal_any w _ R rs h3 hl i k).mono ?_
  rintro e w' ⟨rfl, hw, hm⟩
  obtain ⟨q, s⟩ := RefC.put hw hm
  exact ⟨rfl, _, h1.step s (by omega), h2.stay s (by omega), q, h4.stay s (by omega)⟩
end

theorem Try.infoRow : (Try.prog.info? 50).map (fun i => (i.zero, i.size, i.bytes)) = some (some (.slice none 0 0), 1, 24) := by kernel_rfl

/-- the document's work, when it is made -/
theorem ref_made (w : World) (n : Nat) (hmx : n ≤ maxLen) : RefW ((w.alloc (.cells (madeCells #[.slice none 0 0] n) 50)).alloc (.cells #[.slice (some ⟨w.heap.size, 0, none⟩) n n] 71)) (fun k => w.heap.size ≤ k) (w.heap.size + 1) (List.replicate n []) := by
  have hm : madeCells #[Value.slice none 0 0] n = (List.replicate n (.slice none 0 0)).toArray := by
    apply Array.ext'
    rw [toList_madeCells_one]
  have hb1 : ((w.alloc (.cells (madeCells #[.slice none 0 0] n) 50)).alloc (.cells #[.slice (some ⟨w.heap.size, 0, none⟩) n n] 71)).heap[w.heap.size]? = some (.cells (List.replicate n (.slice none 0 0)).toArray 50 (0, 0)) := by
    rw [heap_alloc_old _ _ (by simp), heap_alloc_new, hm]
  have hb2 : ((w.alloc (.cells (madeCells #[.slice none 0 0] n) 50)).alloc (.cells #[.slice (some ⟨w.heap.size, 0, none⟩) n n] 71)).heap[w.heap.size + 1]? = some (.cells #[.slice (some ⟨w.heap.size, 0, none⟩) n n] 71 (0, 0)) := by
    have := heap_alloc_new (w.alloc (.cells (madeCells #[.slice none 0 0] n) 50)) (.cells #[.slice (some ⟨w.heap.size, 0, none⟩) n n] 71)
    simpa using this
  · refine ⟨fun k => if k = w.heap.size then 2 else if k = w.heap.size + 1 then 1 else 0, some ⟨w.heap.size, 0, none⟩, n, List.replicate n (.slice none 0 0), ⟨⟨by simpa using hb2, by simp⟩, ⟨⟨by simp, by simp, by simpa using hmx, fun h => (by cases h), fun a ha => ?_⟩, fun a ha => ?_⟩, by simp, fun i l hi => ?_⟩, fun k _ hd => ?_⟩
    · injection ha with ha
      subst ha
      exact ⟨rfl, _, hb1, by simp, by simp⟩
    · injection ha with ha
      subst ha
      simp
    · rw [List.getElem?_replicate] at hi
      split at hi
      · injection hi with hi
        subst hi
        rename_i hin
        exact ⟨none, 0, by rw [List.getElem?_replicate, if_pos hin]; rfl, RowC.nil _ _ _ _ _⟩
      · cases hi
    · by_cases e1 : k = w.heap.size
      · omega
      · by_cases e2 : k = w.heap.size + 1
        · omega
        · simp [e1, e2] at hd

set_option maxRecDepth 100000 in
set_option maxHeartbeats 2000000 in
theorem workPlays_any (W : World) (n : Int) (A0 : Option Addr) (cap0 : Nat) (ops : List WOp) (hr : Rd W 4 A0 ops.length (ops.flatMap encW)) (hmax : ops.length ≤ maxLen) (hO : ∀ x ∈ ops, -9223372036854775808 ≤ x.1 ∧ x.1 ≤ 9223372036854775807) :
    Calls Try.prog 9 #[.int .i64 n, .slice A0 ops.length cap0] W fun e w' => e = .returned (.bool true) ∧ Below W.heap.size W w' := by
  have HR := Lib.hid hr
  have HO := Lib.hid hO
  have hmx : ops.length < 9223372036854775808 := by unfold maxLen at hmax; omega
  clear hr hO hmax
  go_enter Try.func9, Try.ntmps9
  go_upto_region 1 with fail
  go_cut [21] (fun v w2 => Below W.heap.size W w2 ∧ ∃ b, v = .bool b ∧ (b = false → ops.length ≤ 200))
  case first =>
    go_wp2_with fail
    refine (awake13 _).mono ?_
    rintro e w1 ⟨rfl, b1⟩
    go_wp2_with fail
    all_goals (go_meet)
    all_goals (exact ⟨b1, _, rfl, fun h => by first | (cases h; done) | (simp at h; omega) | omega⟩)
  case rest =>
    obtain ⟨b1, b, rfl, hb⟩ := hcut
    have HB1 := Lib.hid b1
    clear b1
    cases b with
    | true =>
      go_wp2_with fail
      refine (awake13 _).mono ?_
      rintro e w2 ⟨rfl, b2⟩
      go_wp2_with fail
      go_ret
      exact ⟨rfl, below_tr HB1.out b2⟩
    | false =>
      have h0 := hb rfl
      clear hb hmx
      by_cases hbad : n < 1 ∨ 64 < n
      · go_wp2_with fail
        refine (work_new_bad n wc hbad).mono ?_
        rintro e w2 ⟨rfl, rfl⟩
        by_cases hb1 : n < 1
        · clear hbad
          go_wp2_with fail
          go_ret
          exact ⟨rfl, HB1.out⟩
        · have hb2 : 64 < n := by omega
          clear hbad
          go_wp2_with fail
          go_ret
          exact ⟨rfl, HB1.out⟩
      · obtain ⟨n, rfl⟩ := Int.eq_ofNat_of_zero_le (show 0 ≤ n by omega)
        have hn1 : 1 ≤ n := by omega
        have hn2 : n ≤ 64 := by omega
        clear hbad
        obtain ⟨base, hbase⟩ : ∃ base, base = W.heap.size := ⟨_, rfl⟩
        have hend : ∀ w, Below base W w → Below W.heap.size W w := fun w h => hbase ▸ h
        have HEND := Lib.hid hend
        have HF : Hid (Fr base (fun _ => 0) W wc) := Lib.hid ⟨by have := HB1.out.size; omega, hbase ▸ HB1.out, fun _ _ => rfl⟩
        have HBASE := Lib.hid hbase
        clear hbase hend
        go_wp2_with fail
        refine (work_new wc n hn1 hn2).mono ?_
        rintro e w2 ⟨B, rfl, hw2, b2⟩
        have s2 := Chg.below (c := fun _ => 0) 1 1 b2
        have hI2 : Fr base (paint (fun _ => 0) wc.heap.size 1) W w2 ∧ WorkC w2 (paint (fun _ => 0) wc.heap.size 1) 1 B (List.replicate n []) :=
          ⟨HF.out.step s2 (by omega), hw2.foot (fun k h _ => paint_new h)⟩
        have HI2 := Lib.hid hI2
        clear hw2 b2 s2 hI2 HF
        unfold ptrV
        obtain ⟨i0, hi0, hz0, hz1, hz2⟩ := info_parts Try.infoRow
        have hmk := run_make (P := Try.prog) w2 69 50 i0 (.slice none 0 0) Try.underlying69 hi0 hz0 .i64 .i64 (n : Int) (n : Int) (by omega) (Int.le_refl _) (by rw [hz2]; omega) (by omega)
        simp only [Int.toNat_natCast] at hmk
        go_upto_region 7 with fail
        have hI : WBoth base W B (w2.heap.size + 1) (List.replicate n []) (List.replicate n []) ((w2.alloc (.cells (madeCells #[.slice none 0 0] n) 50)).alloc (.cells #[.slice (some ⟨w2.heap.size, 0, none⟩) n n] 71)) := by
          have b3 : Below w2.heap.size w2 ((w2.alloc (.cells (madeCells #[.slice none 0 0] n) 50)).alloc (.cells #[.slice (some ⟨w2.heap.size, 0, none⟩) n n] 71)) := ((Below.refl _ _).alloc (Nat.le_refl _) _).alloc (by simp) _
          have s3 := Chg.below (c := paint (fun _ => 0) wc.heap.size 1) 2 2 b3
          exact ⟨_, HI2.out.1.step s3 (by omega), HI2.out.2.stay s3 (by omega), (ref_made w2 n (by unfold maxLen; omega)).foot (fun k h _ => paint_new h)⟩
        obtain ⟨R, hR⟩ : ∃ R, R = w2.heap.size + 1 := ⟨_, rfl⟩
        obtain ⟨w4, hw4⟩ : ∃ w4, w4 = ((w2.alloc (.cells (madeCells #[.slice none 0 0] n) 50)).alloc (.cells #[.slice (some ⟨w2.heap.size, 0, none⟩) n n] 71)) := ⟨_, rfl⟩
        rw [← hR, ← hw4] at hI
        have HI := Lib.hid hI
        rw [← hw4, ← hR]
        clear hw4 hR hI hmk HI2
        go_wp2_with fail
        go_loopw [46] (fun v wr => ∃ (k : Nat) (ls : List (List ByteArray)), k ≤ ops.length ∧ v = .int .i64 k ∧ ls.length = n ∧ Hid (ls.flatten.length ≤ k) ∧ Hid (WBoth base W B R ls ls wr)) (fun v _ => ops.length - (intOf v).toNat)
        case atStart => exact ⟨0, _, Nat.zero_le _, rfl, by simp, Lib.hid (by simp), HI⟩
        case round =>
          clear HI
          obtain ⟨k, ls, hk, rfl, hln, HLF, HX⟩ := hrel
          by_cases hlt : k < ops.length
          · obtain ⟨g0, o0, rfl, hg0, hc0⟩ := HR.out.2 (by omega)
            obtain ⟨kd, a, b, s, hop⟩ : ∃ kd a b s, ops[k] = (kd, a, b, s) := ⟨_, _, _, _, rfl⟩
            have hbd := HO.out _ (List.getElem_mem hlt)
            have hcl : ∀ q, q < 4 → wr.cell? ⟨g0, o0 + k * 4 + q, none⟩ = (encW (kd, a, b, s))[q]? := fun q hq => by
              rw [Nat.add_assoc, World.cell?_of_block (HX.out.below.block g0 (by have := HBASE.out; omega)), hc0 (k * 4 + q) (by omega), flat_get (f := encW) (sz := 4) (fun _ => rfl) ops k q hlt hq, hop]
            rw [hop] at hbd
            have v0 := hcl 0 (by omega)
            have v1 := hcl 1 (by omega)
            have v2 := hcl 2 (by omega)
            have v3 := hcl 3 (by omega)
            simp only [encW, List.getElem?_cons_succ, List.getElem?_cons_zero, Nat.add_zero] at v0 v1 v2 v3
            clear hc0 hcl hop
            go_upto_region 10 with fail
            have hx := HX.out.with (Obj.cells #[.int .i64 kd, .int .i64 a, .int .i64 b, .string s] 73)
            obtain ⟨X, hXe⟩ : ∃ X, X = wr.heap.size := ⟨_, rfl⟩
            obtain ⟨W1, hW1⟩ : ∃ W1, W1 = wr.alloc (Obj.cells #[.int .i64 kd, .int .i64 a, .int .i64 b, .string s] 73) := ⟨_, rfl⟩
            rw [← hW1, ← hXe] at hx
            have hkX := hx.blk
            have c0 : W1.cell? ⟨X, 0, none⟩ = some (.int .i64 kd) := by rw [cell_blk hkX]; rfl
            have c1 : W1.cell? ⟨X, 1, none⟩ = some (.int .i64 a) := by rw [cell_blk hkX]; rfl
            have c2 : W1.cell? ⟨X, 2, none⟩ = some (.int .i64 b) := by rw [cell_blk hkX]; rfl
            have c3 : W1.cell? ⟨X, 3, none⟩ = some (.string s) := by rw [cell_blk hkX]; rfl
            have HX1 := Lib.hid hx
            have HKX := Lib.hid hkX
            rw [← hW1, ← hXe]
            clear hW1 hXe v0 v1 v2 v3 hx hkX HX
            by_cases hsz : 50 < s.size
            · go_wp2
              go_ret
              exact ⟨rfl, HEND.out _ HX1.out.forget.below⟩
            · go_upto_block 2 with fail
              go_cut [10, 11, 12, 13] (fun v10 v11 v12 v13 w2 => ∃ (t : ByteArray) (ok : Bool) (ls' : List (List ByteArray)), v10 = .string t ∧ v11 = .string t ∧ v12 = .bool ok ∧ v13 = .bool ok ∧ ls'.length = n ∧ Hid (ls'.flatten.length ≤ k + 1) ∧ Hid (WBothX base W B R ls' ls' X (Obj.cells #[.int .i64 kd, .int .i64 a, .int .i64 b, .string s] 73) w2))
              case first =>
                have hfl := HLF.out
                have HSM : Hid (ls.flatten.length < 100000) := Lib.hid (by omega)
                clear hfl
                by_cases hkd : kd = 1
                · have e1 : (kd == 1) = true := by simpa using hkd
                  have HKD := Lib.hid hkd
                  clear hkd
                  go_wp2_with fail
                  refine wp_region_plan (by kernel_rfl) (fun u => u.heap[X]? = some (Obj.cells #[.int .i64 kd, .int .i64 a, .int .i64 b, .string s] 73)) [11] [(0, .pure), (1, .pure), (2, .load), (3, .pure), (4, .load), (6, .pure), (7, .pure), (8, .load), (9, .pure), (10, .load), (5, .eff), (11, .last), (12, .pure), (13, .pure)] (by simp only [List.map_cons, List.map_nil, List.getElem?_toArray, List.getElem?_cons_succ, List.getElem?_cons_zero]; rfl) (by kernel_rfl) (fun _ _ d _ _ h => by cases d <;> exact h) (HKX.out) ?_
                  repeat (first
                    | (refine plan_pure (v := ?_) (by rfl) (fun w1 => ?_) ?_
                       rotate_left
                       · go_simp <;> with_reducible rfl
                       simp only [Act.put, List.setIfInBounds_toArray, List.set_cons_zero, List.set_cons_succ])
                    | (refine plan_off (by rfl) ?_
                       simp only [Act.put, List.setIfInBounds_toArray, List.set_cons_zero, List.set_cons_succ])
                    | (refine plan_load_off (by rfl) ?_
                       simp only [Act.put, List.setIfInBounds_toArray, List.set_cons_zero, List.set_cons_succ])
                    | (refine plan_load (v := ?_) (by rfl) (fun w1 hw1 => ?_) ?_
                       rotate_left
                       · (have q1 : w1.cell? ⟨X, 1, none⟩ = some (.int .i64 a) := by rw [cell_blk hw1]; rfl
                          have q3 : w1.cell? ⟨X, 3, none⟩ = some (.string s) := by rw [cell_blk hw1]; rfl
                          clear hw1
                          go_simp <;> with_reducible rfl)
                       simp only [Act.put, List.setIfInBounds_toArray, List.set_cons_zero, List.set_cons_succ]))
                  refine plan_eff ?_
                  go_wp2_with fail
                  refine (wb_push HX1.out.drew HSM.out a s).mono ?_
                  rintro e w3 ⟨rfl, hx3⟩
                  have HX3 := Lib.hid hx3
                  clear hx3
                  go_wp2_with fail
                  refine plan_on (fun _ h => h) HX3.out.blk ?_
                  refine plan_last ?_
                  go_wp2_with fail
                  refine (rb_push HX3.out (by omega) HSM.out a s).mono ?_
                  rintro e w4 ⟨rfl, hx4⟩
                  have HX4 := Lib.hid hx4
                  clear hx4
                  go_wp2_with fail
                  repeat (first
                    | (refine plan_pure (v := ?_) (by rfl) (fun w1 => ?_) ?_
                       rotate_left
                       · go_simp <;> with_reducible rfl
                       simp only [Act.put, List.setIfInBounds_toArray, List.set_cons_zero, List.set_cons_succ])
                    | (refine plan_off (by rfl) ?_
                       simp only [Act.put, List.setIfInBounds_toArray, List.set_cons_zero, List.set_cons_succ])
                    | (refine plan_load_off (by rfl) ?_
                       simp only [Act.put, List.setIfInBounds_toArray, List.set_cons_zero, List.set_cons_succ])
                    | (refine plan_load (v := ?_) (by rfl) (fun w1 hw1 => ?_) ?_
                       rotate_left
                       · (skip
                          clear hw1
                          go_simp <;> with_reducible rfl)
                       simp only [Act.put, List.setIfInBounds_toArray, List.set_cons_zero, List.set_cons_succ]))
                  refine plan_end ?_
                  go_wp2_with fail
                  go_meet
                  exact ⟨_, _, pushL ls a s, rfl, rfl, rfl, rfl, by rw [pushL_len]; exact hln, Lib.hid (by have := pushL_flat ls a s; have := HLF.out; omega), HX4⟩
                · have e1 : (kd == 1) = false := by simpa using hkd
                  by_cases hk2 : kd = 2
                  · have e2 : (kd == 2) = true := by simpa using hk2
                    have HKD := Lib.hid hk2
                    clear hk2 hkd
                    go_wp2_with fail
                    refine (wb_pop HX1.out HSM.out a).mono ?_
                    rintro e w3 ⟨rfl, hx3⟩
                    have d1 : w3.cell? ⟨X, 1, none⟩ = some (.int .i64 a) := by rw [cell_blk hx3.blk]; rfl
                    have HX3 := Lib.hid hx3
                    clear hx3
                    go_wp2_with fail
                    refine (rb_pop HX3.out HSM.out a).mono ?_
                    rintro e w4 ⟨rfl, hx4⟩
                    have HX4 := Lib.hid hx4
                    clear hx4
                    go_wp2_with fail
                    go_meet
                    exact ⟨_, _, (popS ls a).2.2, rfl, rfl, rfl, rfl, by rw [popS_len]; exact hln, Lib.hid (by have := popS_flat ls a; have := HLF.out; omega), HX4⟩
                  · have e2 : (kd == 2) = false := by simpa using hk2
                    have HKD := Lib.hid hk2
                    clear hk2 hkd
                    go_wp2_with fail
                    refine (wb_steal HX1.out HSM.out a b).mono ?_
                    rintro e w3 ⟨rfl, hx3⟩
                    have d1 : w3.cell? ⟨X, 1, none⟩ = some (.int .i64 a) := by rw [cell_blk hx3.blk]; rfl
                    have d2 : w3.cell? ⟨X, 2, none⟩ = some (.int .i64 b) := by rw [cell_blk hx3.blk]; rfl
                    have HX3 := Lib.hid hx3
                    clear hx3
                    go_wp2_with fail
                    refine (rb_steal HX3.out HSM.out a b).mono ?_
                    rintro e w4 ⟨rfl, hx4⟩
                    have HX4 := Lib.hid hx4
                    clear hx4
                    go_wp2_with fail
                    go_meet
                    exact ⟨_, _, (stealS ls a b).2.2, rfl, rfl, rfl, rfl, by rw [stealS_len]; exact hln, Lib.hid (by have := (stealS_perm ls a b).length_eq; have := HLF.out; omega), HX4⟩
              case rest =>
                obtain ⟨t, ok, ls', rfl, rfl, rfl, rfl, hln', HLF', HX'⟩ := hcut
                clear HX1 HKX c0 c1 c2 c3 HLF hln ls
                generalize wc = w5 at *
                have hkX := HX'.out.blk
                have c1 : w5.cell? ⟨X, 1, none⟩ = some (.int .i64 a) := by rw [cell_blk hkX]; rfl
                have HKX := Lib.hid hkX
                have lX := blk_lt hkX
                clear hkX
                go_upto_region 22 with fail
                go_cut [112] (fun v w6 => w5 = w6 ∧ v = .bool (inR n a))
                case first =>
                  by_cases h0 : 0 ≤ a
                  · by_cases h1 : a < (n : Int)
                    · go_wp2_with fail
                      go_meet
                      exact ⟨rfl, by unfold inR; simp [h0, h1]⟩
                    · go_wp2_with fail
                      go_meet
                      exact ⟨rfl, by unfold inR; simp [h0, h1]⟩
                  · go_wp2_with fail
                    go_meet
                    exact ⟨rfl, by unfold inR; rw [decide_eq_false (show ¬ 0 ≤ a by omega)]; rfl⟩
                case rest =>
                  obtain ⟨rfl, rfl⟩ := hcut
                  obtain ⟨bb, hbb⟩ : ∃ bb, bb = inR n a := ⟨_, rfl⟩
                  rw [← hbb]
                  have HBB := Lib.hid hbb
                  clear hbb
                  go_upto_if 112 with fail
                  go_cut [14] (fun v14 w6 => v14 = .int .i64 (rowOf ls' a).length ∧ WBothX base W B R ls' ls' X (Obj.cells #[.int .i64 kd, .int .i64 a, .int .i64 b, .string s] 73) w6)
                  case first =>
                    cases bb with
                    | true =>
                      obtain ⟨m, rfl, hm⟩ := inR_true HBB.out.symm
                      obtain ⟨c, _, _, ⟨d, A, cap, vs, hd, hf⟩, _⟩ := HX'.out
                      obtain ⟨g, o, A', c', rfl, lg, f0, f1, _⟩ := hd.cell m (by omega)
                      have lR := hd.blk.lt
                      have k1 : (0 : Int) ≤ (m : Int) := Int.natCast_nonneg _
                      have k2 : (m : Int) < (ls'.length : Int) := by omega
                      clear hd hf
                      go_wp2_with fail
                      refine wp_region_plan (by kernel_rfl) (fun u => Mod (fun _ => False) w5 u) [] [(0, .pure), (1, .pure), (2, .pure), (3, .load), (4, .pure), (5, .load), (6, .pure), (7, .load), (8, .pure), (9, .pure)] (by simp only [List.map_cons, List.map_nil, List.getElem?_toArray, List.getElem?_cons_succ, List.getElem?_cons_zero]; rfl) (by kernel_rfl) (fun _ _ d _ _ h => by cases d <;> exact h) ((Mod.refl _ _).drew) ?_
                      repeat (first
                        | (refine plan_pure (v := ?_) (by rfl) (fun w1 => ?_) ?_
                           rotate_left
                           · go_simp <;> with_reducible rfl
                           simp only [Act.put, List.setIfInBounds_toArray, List.set_cons_zero, List.set_cons_succ])
                        | (refine plan_off (by rfl) ?_
                           simp only [Act.put, List.setIfInBounds_toArray, List.set_cons_zero, List.set_cons_succ])
                        | (refine plan_load_off (by rfl) ?_
                           simp only [Act.put, List.setIfInBounds_toArray, List.set_cons_zero, List.set_cons_succ])
                        | (refine plan_load (v := ?_) (by rfl) (fun w1 hw1 => ?_) ?_
                           rotate_left
                           · (have q0 := (hw1.cell R 0 lR id).trans f0
                              have q1 := (hw1.cell X 1 lX id).trans c1
                              have q2 := (hw1.cell g (o + m) lg id).trans f1
                              clear hw1
                              go_simp <;> with_reducible rfl)
                           simp only [Act.put, List.setIfInBounds_toArray, List.set_cons_zero, List.set_cons_succ]))
                      refine plan_end ?_
                      go_wp2_with fail
                      go_meet
                      exact ⟨by rw [rowOf_in (by omega)], HX'.out.drew⟩
                    | false =>
                      go_wp2_with fail
                      go_meet
                      exact ⟨by rw [rowOf_out (by have := inR_false HBB.out.symm; omega)]; rfl, HX'.out⟩
                  case rest =>
                    obtain ⟨rfl, hx6⟩ := hcut
                    clear HX' HKX c1 lX
                    have hsm := HLF'.out
                    have hkX := hx6.drew.blk
                    have HB6 := Lib.hid hx6.drew
                    obtain ⟨c, hc1, hw6, hr6, hc4⟩ := hx6.drew
                    have hcl := work_len wc.drew _ B ls' hw6 a
                    have hct := work_total wc.drew _ B ls' hw6
                    have hch := work_has wc.drew _ B ls' hw6 s
                    have hrt := ref_total wc.drew _ R ls' hr6 (by omega) (by omega)
                    have hrh := ref_has wc.drew _ R ls' hr6 (by omega) (by omega) s
                    generalize (rowOf ls' a).length = len at *
                    generalize inB s ls'.flatten = hb at *
                    generalize htot : ls'.flatten.length = tot at *
                    have HTOT := Lib.hid htot
                    clear htot
                    have HCL := Lib.hid hcl
                    have HCT := Lib.hid hct
                    have HCH := Lib.hid hch
                    have HRT := Lib.hid hrt
                    have HRH := Lib.hid hrh
                    have HKX := Lib.hid hkX
                    clear hcl hct hch hrt hrh hkX hw6 hr6 hc1 hc4 c hx6
                    go_wp2_with fail
                    refine wp_region_plan (by kernel_rfl) (fun u => u.heap[X]? = some (Obj.cells #[.int .i64 kd, .int .i64 a, .int .i64 b, .string s] 73)) [31] [(0, .pure), (1, .pure), (2, .pure), (3, .pure), (4, .pure), (5, .pure), (6, .pure), (7, .pure), (8, .pure), (9, .pure), (10, .pure), (11, .load), (13, .pure), (12, .eff), (14, .pure), (15, .pure), (16, .pure), (17, .pure), (19, .pure), (18, .eff), (20, .eff), (21, .pure), (22, .pure), (23, .pure), (24, .pure), (25, .pure), (26, .load), (28, .pure), (29, .pure), (30, .load), (27, .eff), (31, .last), (32, .pure), (33, .pure)] (by simp only [List.map_cons, List.map_nil, List.getElem?_toArray, List.getElem?_cons_succ, List.getElem?_cons_zero]; rfl) (by kernel_rfl) (fun _ _ d _ _ h => by cases d <;> exact h) (HKX.out) ?_
                    repeat (first
                      | (refine plan_pure (v := ?_) (by rfl) (fun w1 => ?_) ?_
                         rotate_left
                         · go_simp <;> with_reducible rfl
                         simp only [Act.put, List.setIfInBounds_toArray, List.set_cons_zero, List.set_cons_succ])
                      | (refine plan_off (by rfl) ?_
                         simp only [Act.put, List.setIfInBounds_toArray, List.set_cons_zero, List.set_cons_succ])
                      | (refine plan_load_off (by rfl) ?_
                         simp only [Act.put, List.setIfInBounds_toArray, List.set_cons_zero, List.set_cons_succ])
                      | (refine plan_load (v := ?_) (by rfl) (fun w1 hw1 => ?_) ?_
                         rotate_left
                         · (have q1 : w1.cell? ⟨X, 1, none⟩ = some (.int .i64 a) := by rw [cell_blk hw1]; rfl
                            have q3 : w1.cell? ⟨X, 3, none⟩ = some (.string s) := by rw [cell_blk hw1]; rfl
                            clear hw1
                            go_simp <;> with_reducible rfl)
                         simp only [Act.put, List.setIfInBounds_toArray, List.set_cons_zero, List.set_cons_succ]))
                    refine plan_eff ?_
                    go_wp2_with fail
                    refine HCL.out.mono ?_
                    rintro e w7 ⟨rfl, rfl⟩
                    go_wp2_with fail
                    refine plan_on (fun _ h => h) HKX.out ?_
                    repeat (first
                      | (refine plan_pure (v := ?_) (by rfl) (fun w1 => ?_) ?_
                         rotate_left
                         · go_simp <;> with_reducible rfl
                         simp only [Act.put, List.setIfInBounds_toArray, List.set_cons_zero, List.set_cons_succ])
                      | (refine plan_off (by rfl) ?_
                         simp only [Act.put, List.setIfInBounds_toArray, List.set_cons_zero, List.set_cons_succ])
                      | (refine plan_load_off (by rfl) ?_
                         simp only [Act.put, List.setIfInBounds_toArray, List.set_cons_zero, List.set_cons_succ])
                      | (refine plan_load (v := ?_) (by rfl) (fun w1 hw1 => ?_) ?_
                         rotate_left
                         · (have q1 : w1.cell? ⟨X, 1, none⟩ = some (.int .i64 a) := by rw [cell_blk hw1]; rfl
                            have q3 : w1.cell? ⟨X, 3, none⟩ = some (.string s) := by rw [cell_blk hw1]; rfl
                            clear hw1
                            go_simp <;> with_reducible rfl)
                         simp only [Act.put, List.setIfInBounds_toArray, List.set_cons_zero, List.set_cons_succ]))
                    refine plan_eff ?_
                    go_wp2_with fail
                    refine HCT.out.mono ?_
                    rintro e w7 ⟨rfl, rfl⟩
                    go_wp2_with fail
                    refine plan_on (fun _ h => h) HKX.out ?_
                    refine plan_eff ?_
                    go_wp2_with fail
                    refine HRT.out.mono ?_
                    rintro e w7 ⟨rfl, rfl⟩
                    go_wp2_with fail
                    refine plan_on (fun _ h => h) HKX.out ?_
                    repeat (first
                      | (refine plan_pure (v := ?_) (by rfl) (fun w1 => ?_) ?_
                         rotate_left
                         · go_simp <;> with_reducible rfl
                         simp only [Act.put, List.setIfInBounds_toArray, List.set_cons_zero, List.set_cons_succ])
                      | (refine plan_off (by rfl) ?_
                         simp only [Act.put, List.setIfInBounds_toArray, List.set_cons_zero, List.set_cons_succ])
                      | (refine plan_load_off (by rfl) ?_
                         simp only [Act.put, List.setIfInBounds_toArray, List.set_cons_zero, List.set_cons_succ])
                      | (refine plan_load (v := ?_) (by rfl) (fun w1 hw1 => ?_) ?_
                         rotate_left
                         · (have q1 : w1.cell? ⟨X, 1, none⟩ = some (.int .i64 a) := by rw [cell_blk hw1]; rfl
                            have q3 : w1.cell? ⟨X, 3, none⟩ = some (.string s) := by rw [cell_blk hw1]; rfl
                            clear hw1
                            go_simp <;> with_reducible rfl)
                         simp only [Act.put, List.setIfInBounds_toArray, List.set_cons_zero, List.set_cons_succ]))
                    refine plan_eff ?_
                    go_wp2_with fail
                    refine HCH.out.mono ?_
                    rintro e w7 ⟨rfl, rfl⟩
                    go_wp2_with fail
                    refine plan_on (fun _ h => h) HKX.out ?_
                    refine plan_last ?_
                    go_wp2_with fail
                    refine HRH.out.mono ?_
                    rintro e w7 ⟨rfl, rfl⟩
                    go_wp2_with fail
                    repeat (first
                      | (refine plan_pure (v := ?_) (by rfl) (fun w1 => ?_) ?_
                         rotate_left
                         · go_simp <;> with_reducible rfl
                         simp only [Act.put, List.setIfInBounds_toArray, List.set_cons_zero, List.set_cons_succ])
                      | (refine plan_off (by rfl) ?_
                         simp only [Act.put, List.setIfInBounds_toArray, List.set_cons_zero, List.set_cons_succ])
                      | (refine plan_load_off (by rfl) ?_
                         simp only [Act.put, List.setIfInBounds_toArray, List.set_cons_zero, List.set_cons_succ])
                      | (refine plan_load (v := ?_) (by rfl) (fun w1 hw1 => ?_) ?_
                         rotate_left
                         · (skip
                            clear hw1
                            go_simp <;> with_reducible rfl)
                         simp only [Act.put, List.setIfInBounds_toArray, List.set_cons_zero, List.set_cons_succ]))
                    refine plan_end ?_
                    go_wp2_with fail
                    go_roundw
                    case rel => exact ⟨k + 1, ls', by omega, by go_num, hln', Lib.hid (HTOT.out ▸ HLF'.out), Lib.hid HB6.out.forget⟩
                    case measure => simp [intOf]; omega
          · go_wp2_with fail
            go_ret
            exact ⟨rfl, HEND.out _ HX.out.below⟩

open Go.ChangeShapes Go.WideShapes Go.ChangeAt
set_option maxRecDepth 100000 in
theorem WorkPlays_walk {H : Type} {enc : TypeId × Value → H} (W : World) {base : Nat} {v0 v1 : Value} {d0 d1 : DataW H} {p0 p1 : List MemPlace}
    (o0 : Value.okWide Try.prog W .any base 3 v0) (h0 : DataW.Trod enc Try.prog W 0 (fun _ => true) true 3 v0 d0 p0)
    (o1 : Value.okWide Try.prog W .any base 64 v1) (h1 : DataW.Trod enc Try.prog W 0 (fun _ => true) true 64 v1 d1 p1) :
    Calls Try.prog 9 #[v0, v1] W fun e w' => e = .returned (.bool true) ∧ Below W.heap.size W w' := by
  obtain ⟨n, rfl, _⟩ := okWide_int Try.underlying3 o0
  obtain ⟨A, len, cap, rfl⟩ := okWide_slice Try.underlying64 o1
  obtain ⟨fuel, hf⟩ := h1
  obtain ⟨ops, hl, hg, hr, h1, h2⟩ := tr_list (f := encW) (sz := 4) (by omega) Try.underlying64 (by kernel_rfl) wop_read (by simpa [Value.cells] using hf)
  subst hl
  exact workPlays_any W n A cap ops hr (by omega) hg
namespace workPlays
theorem own : ownKnob Try.prog.godebug = none := by kernel_rfl
theorem laidOut : laidOutB Try.prog = true := by kernel_rfl
set_option maxRecDepth 100000 in
theorem lifted (os : Os) (started : os.Started) (H : Type) (enc : TypeId × Value → H) :
    ReturnsInHanded {} Try.checked os 9 .any (Rows.workPlaysSpec.pre6 enc Try.prog Try.f9 Rows.workPlaysRow.domain false) (Rows.workPlaysSpec.post enc Try.prog Try.f9 false true false false) := by
  refine returnsInHanded_of_change_sized (C := Try.checked) own started (by kernel_rfl) Try.func9
    (ChangeSpec.witness6 (enc := enc) (C := Try.checked) false ⟨#[], #[.int .i64 0, .slice none 0 0], []⟩ 8 (by kernel_rfl) (by kernel_rfl) (by kernel_rfl) (by kernel_rfl)) ?_
  intro W base args ds gs before hval0 hW hcnd hsz0 _
  have hval : ∀ (j : Nat) t v, Try.f9.params[j]? = some t → args[j]? = some v → Value.okWide Try.prog W .any base t v := hval0
  have hW' := hW
  obtain ⟨p, q, hA0, hV, rfl, hfz, hnd⟩ := hW
  have hA : DataW.TrodAll enc Try.prog W 0 (fun _ => true) true Try.f9.params.toList args.toList ds p := hA0
  rw [Try.params9] at hA hval
  obtain ⟨v0, vs0, d0, ds0, p0, q0, hargs, rfl, rfl, h0, r0⟩ := trodAll_cons hA
  obtain ⟨v1, vs1, d1, ds1, p1, q1, rfl, rfl, rfl, h1, r1⟩ := trodAll_cons r0
  obtain ⟨rfl, rfl, rfl⟩ := trodAll_nil r1
  obtain rfl : args = #[v0, v1] := by cases args; simp_all
  obtain ⟨rfl, rfl⟩ := trodVars_none hV
  have lt0 : ∀ x ∈ p0, x.block < W.heap.size := by obtain ⟨m, hm⟩ := h0; exact DataW.trod_lt m _ _ _ hm
  have lt1 : ∀ x ∈ p1, x.block < W.heap.size := by obtain ⟨m, hm⟩ := h1; exact DataW.trod_lt m _ _ _ hm
  clear hA0 hval0 hsz0
  refine (WorkPlays_walk W (hval 0 3 v0 rfl rfl) h0 (hval 1 64 v1 rfl rfl) h1).mono fun e W' ⟨he, bel⟩ => ?_
  subst he
  exact ⟨_, rfl, _, _, _, [], _, [], hW', trodAll_mk1 (shut_bool Try.underlying4 _), (trodAll_cons_mk (Below.trod laidOut (by kernel_rfl) (of_decide_eq_true (by kernel_rfl)) h0 bel lt0) (trodAll_cons_mk (Below.trod laidOut (by kernel_rfl) (of_decide_eq_true (by kernel_rfl)) h1 bel lt1) trodAll_mk0)), rfl, bel.frame _, fun h => (by cases h)⟩
theorem over : Rows.workPlaysRow.holds Try.pinned (OpenSpec.ofChange Rows.workPlaysSpec) :=
  OpenClaim.holds_of_wide 9 Try.f9 rfl rfl rfl rfl rfl rfl rfl ⟨rfl, rfl, rfl, rfl, rfl⟩ rfl rfl rfl rfl rfl (by kernel_rfl) Try.func9 (by kernel_rfl)
    (of_decide_eq_true (by kernel_rfl)) (by unfold Func.isWrapper; first | (rw [if_pos (by decide +kernel)]; kernel_rfl) | (rw [if_neg (by decide +kernel)]; exact ⟨rfl, rfl⟩))
    (fun os started H enc _ => lifted os started H enc)
end workPlays
/-- The row. -/
theorem workPlays_holds : Rows.WorkPlaysSaid := workPlays.over
#print axioms workPlays_holds
end Go.Proofs.Ytedogccbndjdpaa
