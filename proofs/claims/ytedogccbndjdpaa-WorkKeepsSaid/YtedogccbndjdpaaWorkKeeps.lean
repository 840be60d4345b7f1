/- WorkKeeps: what is pushed is there till it is popped; thefts move it, and lose none. No condition. -/
import Derived.Test.YtedogccbndjdpaaWorkU
import Derived.Test.YtedogccbndjdpaaWorkV
import Derived.Deep.CutBlock
namespace Go.Proofs.Ytedogccbndjdpaa
open Go.RowKit
set_option linter.unusedVariables false

theorem workers8 (n : Int) : ∃ m : Nat, wrap64 (1 + wrap64 ((IntKind.u64.wrap n).tmod 8)) = m ∧ 1 ≤ m ∧ m ≤ 8 := by
  have h0 : 0 ≤ IntKind.u64.wrap n := by simp [IntKind.wrap, IntKind.signed, IntKind.bits]; omega
  generalize IntKind.u64.wrap n = u at h0
  have h1 : u.tmod 8 = u % 8 := Int.tmod_eq_emod_of_nonneg h0
  rw [h1]
  refine ⟨(1 + u % 8).toNat, ?_, by omega, by omega⟩
  unfold wrap64
  omega

/-- the work, a map of what is there, and a call's own struct -/
def WK (base : Nat) (W : World) (B M : Nat) (ls : List (List ByteArray)) (m : List (ByteArray × Value)) (w : World) : Prop := ∃ c, Fr base c W w ∧ WorkC w c 1 B ls ∧ MapC Try.keyS w c 2 M m
def WKX (base : Nat) (W : World) (B M : Nat) (ls : List (List ByteArray)) (m : List (ByteArray × Value)) (X : Nat) (o : Obj) (w : World) : Prop := ∃ c, Fr base c W w ∧ WorkC w c 1 B ls ∧ MapC Try.keyS w c 2 M m ∧ BlkC w c 3 X o

section
variable {base : Nat} {W : World} {B M : Nat} {ls : List (List ByteArray)} {m : List (ByteArray × Value)} {X : Nat} {o : Obj} {w : World}
theorem WKX.blk (h : WKX base W B M ls m X o w) : w.heap[X]? = some o := by obtain ⟨c, _, _, _, h⟩ := h; exact h.1
theorem WKX.forget (h : WKX base W B M ls m X o w) : WK base W B M ls m w := by obtain ⟨c, h1, h2, h3, h4⟩ := h; exact ⟨c, h1, h2, h3⟩
theorem WK.with (h : WK base W B M ls m w) (o : Obj) : WKX base W B M ls m w.heap.size o (w.alloc o) := by
  obtain ⟨c, h1, h2, h3⟩ := h
  have s : Chg 3 c w (paint c w.heap.size 3) (w.alloc o) := Chg.alloc 3 3 o
  exact ⟨_, h1.step s (by omega), h2.stay s (by omega), h3.stay s (by omega), BlkC.made w c 3 o⟩
theorem WK.below (h : WK base W B M ls m w) : Below base W w := by obtain ⟨c, h1, _⟩ := h; exact h1.below
theorem WKX.at (h : WKX base W B M ls m X o w) : MapAt Try.keyS w M m := by obtain ⟨c, _, _, h3, _⟩ := h; exact h3.1
theorem WK.at (h : WK base W B M ls m w) : MapAt Try.keyS w M m := by obtain ⟨c, _, _, h3⟩ := h; exact h3.1
theorem WKX.look (h : WKX base W B M ls m X o w) (hk : Keys m ls) (s : ByteArray) : (Instr.lookup 80 (.map (some M)) (.string s) false).run Try.prog w = .ok (.bool (inB s ls.flatten)) w := by
  have := run_lookup Try.keyS (w := w) Try.underlying80 (z := .bool false) (fun w => by kernel_rfl) h.at s false
  rw [hk.2 s] at this
  cases hb : inB s ls.flatten with
  | true => rw [hb] at this; exact this
  | false => rw [hb] at this; exact this
theorem WKX.map {m' : List (ByteArray × Value)} {w' : World} (h : WKX base W B M ls m X o w) (hp : MapAt Try.keyS w' M m') (hm : Mod (fun q => q = M) w w') : WKX base W B M ls m' X o w' := by
  obtain ⟨c, h1, h2, h3, h4⟩ := h
  obtain ⟨q, s⟩ := h3.put hp hm
  exact ⟨_, h1.step s (by omega), h2.stay s (by omega), q, h4.stay s (by omega)⟩
theorem wk_push (h : WKX base W B M ls m X o w) (hl : ls.flatten.length < 100000) (i : Int) (s : ByteArray) :
    Calls Try.prog 30 #[ptrV B, .int .i64 i, .string s] w fun e w' => e = .returned (.bool (pushOk ls i s)) ∧ WKX base W B M (pushL ls i s) m X o w' := by
  obtain ⟨c, h1, h2, h3, h4⟩ := h
  refine (work_push_any w _ B ls h2 hl i s).mono ?_
  rintro e w' ⟨rfl, hw, hm⟩
  obtain ⟨q, s⟩ := WorkC.put hw hm
  exact ⟨rfl, _, h1.step s (by omega), q, h3.stay s (by omega), h4.stay s (by omega)⟩
theorem wk_pop (h : WKX base W B M ls m X o w) (hl : ls.flatten.length < 100000) (i : Int) :
    Calls Try.prog 32 #[ptrV B, .int .i64 i] w fun e w' => e = .returned (.tuple #[.string (popS ls i).1, .bool (popS ls i).2.1]) ∧ WKX base W B M (popS ls i).2.2 m X o w' := by
  obtain ⟨c, h1, h2, h3, h4⟩ := h
  refine (work_pop_any w _ B ls h2 hl i).mono ?_
  rintro e w' ⟨rfl, hw, hm⟩
  obtain ⟨q, s⟩ := WorkC.put hw hm
  exact ⟨rfl, _, h1.step s (by omega), q, h3.stay s (by omega), h4.stay s (by omega)⟩
theorem wk_steal (h : WKX base W B M ls m X o w) (hl : ls.flatten.length < 100000) (i k : Int) :
    Calls Try.prog 34 #[ptrV B, .int .i64 i, .int .i64 k] w fun e w' => e = .returned (.tuple #[.string (stealS ls i k).1, .bool (stealS ls i k).2.1]) ∧ WKX base W B M (stealS ls i k).2.2 m X o w' := by
  obtain ⟨c, h1, h2, h3, h4⟩ := h
  refine (work_steal_any w _ B ls h2 hl i k).mono ?_
  rintro e w' ⟨rfl, hw, hm⟩
  obtain ⟨q, s⟩ := WorkC.put hw hm
  exact ⟨rfl, _, h1.step s (by omega), q, h3.stay s (by omega), h4.stay s (by omega)⟩
theorem WK.len (h : WK base W B M ls m w) (i : Int) : Calls Try.prog 36 #[ptrV B, .int .i64 i] w fun e w' => e = .returned (.int .i64 (rowOf ls i).length) ∧ w = w' := by
  obtain ⟨c, _, h2, _⟩ := h; exact work_len w _ B ls h2 i
theorem WK.total (h : WK base W B M ls m w) : Calls Try.prog 37 #[ptrV B] w fun e w' => e = .returned (.int .i64 ls.flatten.length) ∧ w = w' := by
  obtain ⟨c, _, h2, _⟩ := h; exact work_total w _ B ls h2
theorem WK.has (h : WK base W B M ls m w) (s : ByteArray) : Calls Try.prog 39 #[ptrV B, .string s] w fun e w' => e = .returned (.bool (inB s ls.flatten)) ∧ w = w' := by
  obtain ⟨c, _, h2, _⟩ := h; exact work_has w _ B ls h2 s
end
/-- .. and an iterator over the map -/
def WKI (base : Nat) (W : World) (B M : Nat) (ls : List (List ByteArray)) (m : List (ByteArray × Value)) (it : Nat) (w : World) : Prop := ∃ c, Fr base c W w ∧ WorkC w c 1 B ls ∧ MapC Try.keyS w c 2 M m ∧ c it = 4
theorem WKI.step {base : Nat} {W : World} {B M : Nat} {ls : List (List ByteArray)} {m : List (ByteArray × Value)} {it : Nat} {w w' : World} (h : WKI base W B M ls m it w) (hm : Mod (fun q => q = it) w w') (hz : w'.heap.size = w.heap.size) : WKI base W B M ls m it w' := by
  obtain ⟨c, h1, h2, h3, h4⟩ := h
  have s : Chg 4 c w c w' := ⟨hm.mono (fun k _ e => e ▸ h4), fun _ _ => rfl⟩
  exact ⟨c, h1.step s (by omega), h2.stay s (by omega), h3.stay s (by omega), h4⟩
theorem WKI.forget {base : Nat} {W : World} {B M : Nat} {ls : List (List ByteArray)} {m : List (ByteArray × Value)} {it : Nat} {w : World} (h : WKI base W B M ls m it w) : WK base W B M ls m w := by obtain ⟨c, h1, h2, h3, _⟩ := h; exact ⟨c, h1, h2, h3⟩
theorem WK.iter {base : Nat} {W : World} {B M : Nat} {ls : List (List ByteArray)} {m : List (ByteArray × Value)} {w w' : World} (h : WK base W B M ls m w) (hb : Below w.heap.size w w') : WKI base W B M ls m w.heap.size w' := by
  obtain ⟨c, h1, h2, h3⟩ := h
  have s := Chg.below (c := c) 4 4 hb
  exact ⟨_, h1.step s (by omega), h2.stay s (by omega), h3.stay s (by omega), paint_new (Nat.le_refl _)⟩
theorem Keys.mem {m : List (ByteArray × Value)} {ls : List (List ByteArray)} (h : Keys m ls) {k : ByteArray} {v : Value} (hk : (k, v) ∈ m) : inB k ls.flatten = true := by
  have h1 := h.2 k
  cases hb : inB k ls.flatten with
  | true => rfl
  | false =>
    rw [hb] at h1
    exact (mget_none.1 h1 (List.mem_map.2 ⟨_, hk, rfl⟩)).elim
theorem steal_has {ls : List (List ByteArray)} {i k : Int} (h : (stealS ls i k).2.1 = true) : (stealS ls i k).1 ∈ ls.flatten ∧ (rowOf (stealS ls i k).2.2 i).length = (rowOf ls i).length + 1 := by
  unfold stealS at h ⊢
  by_cases hc : inR ls.length i = true ∧ i ≠ k
  · rw [if_pos hc] at h ⊢
    cases hx : (rowOf ls k).getLast? with
    | none => rw [hx] at h; cases h
    | some x =>
      simp only
      obtain ⟨i, rfl, hi⟩ := inR_true hc.1
      obtain ⟨k, rfl, hk, e⟩ := rowOf_ne (ls := ls) (i := k) (by intro h0; rw [h0] at hx; cases hx)
      refine ⟨List.mem_flatten.2 ⟨ls[k], List.getElem_mem hk, ?_⟩, ?_⟩
      · rw [← e, getLast_split hx]; simp
      · rw [rowOf_in (by simpa using hi), rowOf_in hi]
        simp only [Int.toNat_natCast, List.getElem_set_self, Hp.putF_len]
  · rw [if_neg hc] at h; cases h
/-- how many the first k workers have -/
def firstN (ls : List (List ByteArray)) (k : Nat) : Nat := ((ls.take k).map List.length).sum
theorem firstN_step {ls : List (List ByteArray)} {k : Nat} (h : k < ls.length) : firstN ls (k + 1) = firstN ls k + (rowOf ls k).length := by
  unfold firstN
  rw [List.map_take, List.map_take, take_sum (by simpa using h), rowOf_in h]
  simp
theorem firstN_all {ls : List (List ByteArray)} {k : Nat} (h : ls.length ≤ k) : firstN ls k = ls.flatten.length := by
  unfold firstN
  rw [List.take_of_length_le h, List.length_flatten]
theorem firstN_le (ls : List (List ByteArray)) (k : Nat) : firstN ls k ≤ ls.flatten.length := by
  unfold firstN
  rw [List.length_flatten]
  have := List.sum_append (l₁ := (ls.take k).map List.length) (l₂ := (ls.drop k).map List.length)
  rw [← List.map_append, List.take_append_drop] at this
  omega

set_option maxRecDepth 100000 in
set_option maxHeartbeats 2000000 in
theorem workKeeps_any (W : World) (n0 : Int) (A0 : Option Addr) (cap0 : Nat) (ops : List WOp) (hr : Rd W 4 A0 ops.length (ops.flatMap encW)) (hmax : ops.length ≤ maxLen) (hO : ∀ x ∈ ops, -9223372036854775808 ≤ x.1 ∧ x.1 ≤ 9223372036854775807) :
    Calls Try.prog 11 #[.int .i64 n0, .slice A0 ops.length cap0] W fun e w' => e = .returned (.bool true) ∧ Below W.heap.size W w' := by
  have HR := Lib.hid hr
  have HO := Lib.hid hO
  have hmx : ops.length < 9223372036854775808 := by unfold maxLen at hmax; omega
  obtain ⟨n, hn, hn1, hn2⟩ := workers8 n0
  have HN := Lib.hid hn
  clear hr hO hmax hn
  go_enter Try.func11, Try.ntmps11
  go_upto_region 2 with fail
  rw [HN.out]
  go_cut [29] (fun v w2 => Below W.heap.size W w2 ∧ ∃ b, v = .bool b ∧ (b = false → ops.length ≤ 200))
  case first =>
    go_wp2_with fail
    refine (awake13 _).mono ?_
    rintro e w1 ⟨rfl, b1⟩
    go_wp2_with fail
    all_goals (go_meet)
    all_goals (exact ⟨b1, _, rfl, fun h => by first | (cases h; done) | (simp at h; omega) | omega⟩)
  case rest =>
    obtain ⟨b1, b, rfl, hb⟩ := hcut
    have HB1 := Lib.hid b1
    clear b1
    cases b with
    | true =>
      go_wp2_with fail
      refine (awake13 _).mono ?_
      rintro e w2 ⟨rfl, b2⟩
      go_wp2_with fail
      go_ret
      exact ⟨rfl, below_tr HB1.out b2⟩
    | false =>
      have h0 := hb rfl
      clear hb hmx
      obtain ⟨base, hbase⟩ : ∃ base, base = W.heap.size := ⟨_, rfl⟩
      have hend : ∀ w, Below base W w → Below W.heap.size W w := fun w h => hbase ▸ h
      have HEND := Lib.hid hend
      have HF : Hid (Fr base (fun _ => 0) W wc) := Lib.hid ⟨by have := HB1.out.size; omega, hbase ▸ HB1.out, fun _ _ => rfl⟩
      have HBASE := Lib.hid hbase
      clear hbase hend
      go_wp2_with fail
      refine (work_new wc n hn1 (by omega)).mono ?_
      rintro e w2 ⟨B, rfl, hw2, b2⟩
      have s2 := Chg.below (c := fun _ => 0) 1 1 b2
      have hI2 : Fr base (paint (fun _ => 0) wc.heap.size 1) W w2 ∧ WorkC w2 (paint (fun _ => 0) wc.heap.size 1) 1 B (List.replicate n []) :=
        ⟨HF.out.step s2 (by omega), hw2.foot (fun k h _ => paint_new h)⟩
      have HI2 := Lib.hid hI2
      clear hw2 b2 s2 hI2 HF
      unfold ptrV
      have hmk := @run_makeMap Try.prog
      go_upto_region 8 with fail
      obtain ⟨M, hM⟩ : ∃ M, M = w2.heap.size := ⟨_, rfl⟩
      obtain ⟨w3, hw3⟩ : ∃ w3, w3 = w2.alloc (Obj.map #[] 0) := ⟨_, rfl⟩
      have hI : WK base W B M (List.replicate n []) [] w3 := by
        have s3 : Chg 2 (paint (fun _ => 0) wc.heap.size 1) w2 (paint (paint (fun _ => 0) wc.heap.size 1) w2.heap.size 2) w3 := by rw [hw3]; exact Chg.alloc _ _ _
        refine ⟨_, HI2.out.1.step s3 (by omega), HI2.out.2.stay s3 (by omega), ?_⟩
        rw [hw3, hM]; exact MapC.made _ _ _ _ _
      have HI := Lib.hid hI
      rw [← hw3, ← hM]
      clear hw3 hM hI hmk HI2
      go_wp2_with fail
      go_loopw [41] (fun v wr => ∃ (k : Nat) (ls : List (List ByteArray)) (m : List (ByteArray × Value)), k ≤ ops.length ∧ v = .int .i64 k ∧ ls.length = n ∧ Hid (ls.flatten.length ≤ k) ∧ Hid (Keys m ls) ∧ Hid (WK base W B M ls m wr)) (fun v _ => ops.length - (intOf v).toNat)
      case atStart => exact ⟨0, _, [], Nat.zero_le _, rfl, by simp, Lib.hid (by simp), Lib.hid ⟨by simp, fun s => by simp [mget, inB]⟩, HI⟩
      case round =>
        clear HI
        obtain ⟨k, ls, m, hk, rfl, hln, HLF, HKEY, HX⟩ := hrel
        by_cases hlt : k < ops.length
        · obtain ⟨g0, o0, rfl, hg0, hc0⟩ := HR.out.2 (by omega)
          obtain ⟨kd, a, b, s, hop⟩ : ∃ kd a b s, ops[k] = (kd, a, b, s) := ⟨_, _, _, _, rfl⟩
          have hbd := HO.out _ (List.getElem_mem hlt)
          have hcl : ∀ q, q < 4 → wr.cell? ⟨g0, o0 + k * 4 + q, none⟩ = (encW (kd, a, b, s))[q]? := fun q hq => by
            rw [Nat.add_assoc, World.cell?_of_block (HX.out.below.block g0 (by have := HBASE.out; omega)), hc0 (k * 4 + q) (by omega), flat_get (f := encW) (sz := 4) (fun _ => rfl) ops k q hlt hq, hop]
          rw [hop] at hbd
          have v0 := hcl 0 (by omega)
          have v1 := hcl 1 (by omega)
          have v2 := hcl 2 (by omega)
          have v3 := hcl 3 (by omega)
          simp only [encW, List.getElem?_cons_succ, List.getElem?_cons_zero, Nat.add_zero] at v0 v1 v2 v3
          clear hc0 hcl hop
          go_upto_region 11 with fail
          have hx := HX.out.with (Obj.cells #[.int .i64 kd, .int .i64 a, .int .i64 b, .string s] 73)
          obtain ⟨X, hXe⟩ : ∃ X, X = wr.heap.size := ⟨_, rfl⟩
          obtain ⟨W1, hW1⟩ : ∃ W1, W1 = wr.alloc (Obj.cells #[.int .i64 kd, .int .i64 a, .int .i64 b, .string s] 73) := ⟨_, rfl⟩
          rw [← hW1, ← hXe] at hx
          have hkX := hx.blk
          have c0 : W1.cell? ⟨X, 0, none⟩ = some (.int .i64 kd) := by rw [cell_blk hkX]; rfl
          have c1 : W1.cell? ⟨X, 1, none⟩ = some (.int .i64 a) := by rw [cell_blk hkX]; rfl
          have c2 : W1.cell? ⟨X, 2, none⟩ = some (.int .i64 b) := by rw [cell_blk hkX]; rfl
          have c3 : W1.cell? ⟨X, 3, none⟩ = some (.string s) := by rw [cell_blk hkX]; rfl
          have HX1 := Lib.hid hx
          rw [← hW1, ← hXe]
          clear hW1 hXe v0 v1 v2 v3 hx hkX HX
          by_cases hsz : 50 < s.size
          · go_wp2
            go_ret
            exact ⟨rfl, HEND.out _ HX1.out.forget.below⟩
          · go_upto_block 2 with fail
            go_cut [10, 11, 12, 13, 14] (fun _ _ _ _ _ w2 => ∃ (ls' : List (List ByteArray)) (m' : List (ByteArray × Value)), ls'.length = n ∧ Hid (ls'.flatten.length ≤ k + 1) ∧ Hid (Keys m' ls') ∧ Hid (WK base W B M ls' m' w2))
            case first =>
              have hfl := HLF.out
              have HSM : Hid (ls.flatten.length < 100000) := Lib.hid (by omega)
              clear hfl
              by_cases hkd : kd = 1
              · have e1 : (kd == 1) = true := by simpa using hkd
                have HKD := Lib.hid hkd
                clear hkd
                go_wp2_with fail
                refine (wk_push HX1.out HSM.out a s).mono ?_
                rintro e w3 ⟨rfl, hx3⟩
                have hlen := pushL_len ls a s
                have hflat := pushL_flat ls a s
                have HX3 := Lib.hid hx3
                have d3 : w3.cell? ⟨X, 3, none⟩ = some (.string s) := by rw [cell_blk hx3.blk]; rfl
                have HLEN := Lib.hid hlen
                have HFLAT := Lib.hid hflat
                clear hx3 hlen hflat
                cases hpk : pushOk ls a s with
                | false =>
                  have e : pushL ls a s = ls := by unfold pushL; rw [hpk]; rfl
                  have HPK := Lib.hid hpk
                  have HE := Lib.hid e
                  clear hpk e
                  go_wp2_with fail
                  go_meet
                  exact ⟨pushL ls a s, m, HLEN.out.trans hln, Lib.hid (by have := HFLAT.out; have := HLF.out; omega), Lib.hid (by rw [HE.out]; exact HKEY.out), Lib.hid HX3.out.forget⟩
                | true =>
                  have hnin : s ∉ ls.flatten := by
                    unfold pushOk at hpk
                    simp only [Bool.and_eq_true, Bool.not_eq_true'] at hpk
                    exact inB_false.1 hpk.2
                  have hlook : (Instr.lookup 80 (.map (some M)) (.string s) false).run Try.prog w3 = .ok (.bool false) w3 := by
                    have := run_lookup Try.keyS (w := w3) Try.underlying80 (z := .bool false) (fun w => by kernel_rfl) HX3.out.at s false
                    rw [HKEY.out.2 s, inB_false.2 hnin] at this
                    exact this
                  have HPK := Lib.hid (pushL_perm hpk)
                  have HNI := Lib.hid hnin
                  clear hpk hnin
                  go_wp2_with (at_mapUpdate; refine wpList_mapUpdate Try.keyS (by rfl) _ _ _ 80 4 (by rfl) Try.underlying80 M m (by rfl) HX3.out.at s (by rfl) (.bool true) (by rfl) ?_; intro w4 mp4 m4)
                  go_meet
                  exact ⟨pushL ls a s, mput m s (.bool true), HLEN.out.trans hln, Lib.hid (by have := HFLAT.out; have := HLF.out; omega), Lib.hid (HKEY.out.add HNI.out HPK.out), Lib.hid (HX3.out.map mp4 m4).forget⟩
              · have e1 : (kd == 1) = false := by simpa using hkd
                by_cases hk2 : kd = 2
                · have e2 : (kd == 2) = true := by simpa using hk2
                  have HKD := Lib.hid hk2
                  clear hk2 hkd
                  go_wp2_with fail
                  refine (wk_pop HX1.out HSM.out a).mono ?_
                  rintro e w3 ⟨rfl, hx3⟩
                  have hlen := popS_len ls a
                  have hflat := popS_flat ls a
                  have hpm : (popS ls a).2.1 = true → ls.flatten.Perm ((popS ls a).1 :: (popS ls a).2.2.flatten) := popS_perm
                  have hst : (popS ls a).2.1 = false → (popS ls a).2.2 = ls := by
                    unfold popS
                    split
                    · intro _; rfl
                    · intro h; cases h
                  generalize popS ls a = p at *
                  obtain ⟨x, ok, ls'⟩ := p
                  simp only at hx3 hlen hflat hpm hst
                  have HX3 := Lib.hid hx3
                  have HLEN := Lib.hid hlen
                  have HFLAT := Lib.hid hflat
                  have HPM := Lib.hid hpm
                  have HST := Lib.hid hst
                  clear hx3 hlen hflat hpm hst
                  cases ok with
                  | false =>
                    go_wp2_with fail
                    go_meet
                    exact ⟨ls', m, HLEN.out.trans hln, Lib.hid (by have := HFLAT.out; have := HLF.out; omega), Lib.hid (by rw [HST.out (by trivial)]; exact HKEY.out), Lib.hid HX3.out.forget⟩
                  | true =>
                    have hlook : (Instr.lookup 80 (.map (some M)) (.string x) false).run Try.prog w3 = .ok (.bool true) w3 := by
                      have := run_lookup Try.keyS (w := w3) Try.underlying80 (z := .bool false) (fun w => by kernel_rfl) HX3.out.at x false
                      rw [HKEY.out.2 x, inB_iff.2 ((HPM.out (by trivial)).mem_iff.2 (by simp))] at this
                      exact this
                    go_wp2_with (at_delete; refine wpList_mapDelete Try.keyS (by rfl) _ _ _ (by rfl) 80 4 (by rfl) Try.underlying80 M m (by rfl) HX3.out.at x (by rfl) ?_; intro w4 mp4 m4)
                    go_meet
                    obtain ⟨_, _, _, _, hnd, _⟩ := HX3.out.at
                    exact ⟨ls', mdel m x, HLEN.out.trans hln, Lib.hid (by have := HFLAT.out; have := HLF.out; omega), Lib.hid (HKEY.out.del hnd (HPM.out (by trivial))), Lib.hid (HX3.out.map mp4 m4).forget⟩
                · have e2 : (kd == 2) = false := by simpa using hk2
                  have HKD := Lib.hid hk2
                  clear hk2 hkd
                  go_wp2_with fail
                  refine (HX1.out.forget.len a).mono ?_
                  rintro e w3 ⟨rfl, rfl⟩
                  go_wp2_with fail
                  refine (wk_steal HX1.out HSM.out a b).mono ?_
                  rintro e w3 ⟨rfl, hx3⟩
                  have hlen := stealS_len ls a b
                  have hpm := stealS_perm ls a b
                  have hh := @steal_has ls a b
                  have hsm : (rowOf ls a).length < 100000 := by
                    by_cases hz : rowOf ls a = []
                    · rw [hz]; simp
                    · obtain ⟨i, rfl, hi, e⟩ := rowOf_ne hz
                      rw [e]
                      have := row_le hi
                      have := HSM.out
                      omega
                  have d1 : w3.cell? ⟨X, 1, none⟩ = some (.int .i64 a) := by rw [cell_blk hx3.blk]; rfl
                  have hL := hx3.forget.len a
                  generalize stealS ls a b = p at *
                  obtain ⟨x, ok, ls'⟩ := p
                  simp only at hx3 hlen hpm hh hL
                  have HX3 := Lib.hid hx3
                  have HLEN := Lib.hid hlen
                  have HPM := Lib.hid hpm
                  have HH := Lib.hid hh
                  have HL := Lib.hid hL
                  clear hx3 hlen hpm hh hL
                  generalize (rowOf ls a).length = l0 at *
                  generalize (rowOf ls' a).length = l1 at *
                  have fin : Hid (∃ (ls' : List (List ByteArray)) (m' : List (ByteArray × Value)), ls'.length = n ∧ Hid (ls'.flatten.length ≤ k + 1) ∧ Hid (Keys m' ls') ∧ Hid (WK base W B M ls' m' w3)) :=
                    Lib.hid ⟨ls', m, HLEN.out.trans hln, Lib.hid (by have := HPM.out.length_eq; have := HLF.out; omega), Lib.hid (HKEY.out.perm HPM.out), Lib.hid HX3.out.forget⟩
                  cases ok with
                  | false =>
                    go_wp2_with fail
                    go_meet
                    exact fin.out
                  | true =>
                    obtain ⟨h1, h2⟩ := HH.out (by trivial)
                    have hlook : (Instr.lookup 80 (.map (some M)) (.string x) false).run Try.prog w3 = .ok (.bool true) w3 := by
                      have := run_lookup Try.keyS (w := w3) Try.underlying80 (z := .bool false) (fun w => by kernel_rfl) HX3.out.at x false
                      rw [HKEY.out.2 x, inB_iff.2 h1] at this
                      exact this
                    subst h2
                    have ew : ((l0 + 1 : Nat) : Int) = (l0 : Int) + 1 := by omega
                    rw [ew] at HL
                    go_wp2_with (go_at_call 36; refine HL.out.mono ?_; rintro e w4 ⟨rfl, rfl⟩)
                    go_meet
                    exact fin.out
            case rest =>
              obtain ⟨ls', m', hln', HLF', HKEY', HX'⟩ := hcut
              clear HX1 c0 c1 c2 c3 HLF HKEY hln ls m
              generalize wc = w5 at *
              have hfl := HLF'.out
              have HSM : Hid (ls'.flatten.length < 100000) := Lib.hid (by omega)
              clear hfl
              go_wp2_with fail
              go_loopw [15, 112] (fun v15 v wr => ∃ i : Nat, i ≤ n ∧ v = .int .i64 i ∧ v15 = .int .i64 (firstN ls' i) ∧ w5 = wr) (fun _ v _ => n - (intOf v).toNat)
              case atStart => exact ⟨0, Nat.zero_le _, rfl, rfl, rfl⟩
              case round =>
                obtain ⟨i, hi, rfl, rfl, rfl⟩ := hrel
                by_cases hit : i < n
                · have hL := HX'.out.len i
                  have hst := firstN_step (ls := ls') (k := i) (by omega)
                  have hle := firstN_le ls' (i + 1)
                  have hsm := HSM.out
                  rw [hst] at hle
                  have hle2 : firstN ls' i + (rowOf ls' i).length < 100000 := by omega
                  have HST := Lib.hid hst
                  have HL := Lib.hid hL
                  clear hst hL hle hsm
                  generalize (rowOf ls' (i : Int)).length = l1 at *
                  generalize hf : firstN ls' i = f at *
                  go_wp2_with fail
                  refine HL.out.mono ?_
                  rintro e w6 ⟨rfl, rfl⟩
                  go_wp2_with fail
                  go_roundw
                  case rel => exact ⟨i + 1, by omega, by go_num, by rw [HST.out]; go_num, by trivial⟩
                  case measure => simp [intOf]; omega
                · have e0 : firstN ls' i = ls'.flatten.length := firstN_all (by omega)
                  rw [e0]
                  have hT := HX'.out.total
                  have hnd := HX'.out.at
                  have hlenm := fun ty => HX'.out.at.runLen Try.underlying80 ty
                  obtain ⟨_, _, _, _, hnd2, _⟩ := hnd
                  rw [HKEY'.out.len hnd2] at hlenm
                  have HND := Lib.hid hnd2
                  clear hnd2 e0
                  have hsm := HSM.out
                  generalize htot : ls'.flatten.length = tot at *
                  have HTOT := Lib.hid htot
                  have HT := Lib.hid hT
                  clear hT htot
                  go_wp2_with fail
                  refine HT.out.mono ?_
                  rintro e w6 ⟨rfl, rfl⟩
                  go_wp2_with (at_range; refine wpList_mapRange (kd := Try.keyS) (by rfl) _ 80 4 (by rfl) Try.underlying80 M m' (by rfl) HX'.out.at ?_; intro w7 hit7 b7 z7)
                  obtain ⟨it, hite⟩ : ∃ it, it = w5.heap.size := ⟨_, rfl⟩
                  have hw7 : WKI base W B M ls' m' it w7 := hite ▸ HX'.out.iter b7
                  rw [← hite] at hit7 ⊢
                  have HW7 := Lib.hid hw7
                  have HIT7 := Lib.hid hit7
                  clear b7 z7 hw7 hit7 hite hlenm
                  go_frame
                  go_loopw [17] (fun _ wr => ∃ cnt : Nat, Hid (MapIt Try.keyS wr M it m' cnt) ∧ Hid (WKI base W B M ls' m' it wr)) (fun _ wr => wr.rangeLeft M it)
                  case atStart => exact ⟨_, HIT7, HW7⟩
                  case round =>
                    clear HIT7 HW7
                    obtain ⟨cnt, HIT, HWI⟩ := hrel
                    go_wp2_with (at_next; refine wpList_mapNextS (by rfl) _ (by rfl) M it m' cnt (by rfl) HIT.out ?_ ?_; rotate_left; intro q v w8 cnt8 hqv hit8 hlt8 hm8 hz8 hen8; rotate_left; intro hc0)
                    case roundEnd =>
                      refine ⟨⟨k + 1, ls', m', by omega, by go_num, hln', Lib.hid (HTOT.out ▸ HLF'.out), HKEY', Lib.hid HWI.out.forget⟩, ?_⟩
                      simp [intOf]; omega
                    have hw8 := HWI.out.step hm8 hz8
                    have hh := hw8.forget.has q
                    rw [HKEY'.out.mem hqv] at hh
                    have HH8 := Lib.hid hh
                    have HW8 := Lib.hid hw8
                    have HIT8 := Lib.hid hit8
                    have hle := HIT.out.left_eq
                    have HLE := Lib.hid hle
                    clear hw8 hh hit8 hm8 hz8 hle
                    refine HH8.out.mono ?_
                    rintro e w9 ⟨rfl, rfl⟩
                    go_wp2_with fail
                    go_roundw
                    case rel => exact ⟨cnt8, HIT8, HW8⟩
                    case measure => rw [HIT8.out.left_eq, HLE.out]; omega
        · go_wp2_with fail
          go_ret
          exact ⟨rfl, HEND.out _ HX.out.below⟩

open Go.ChangeShapes Go.WideShapes Go.ChangeAt
set_option maxRecDepth 100000 in
theorem WorkKeeps_walk {H : Type} {enc : TypeId × Value → H} (W : World) {base : Nat} {v0 v1 : Value} {d0 d1 : DataW H} {p0 p1 : List MemPlace}
    (o0 : Value.okWide Try.prog W .any base 3 v0) (h0 : DataW.Trod enc Try.prog W 0 (fun _ => true) true 3 v0 d0 p0)
    (o1 : Value.okWide Try.prog W .any base 64 v1) (h1 : DataW.Trod enc Try.prog W 0 (fun _ => true) true 64 v1 d1 p1) :
    Calls Try.prog 11 #[v0, v1] W fun e w' => e = .returned (.bool true) ∧ Below W.heap.size W w' := by
  obtain ⟨n, rfl, _⟩ := okWide_int Try.underlying3 o0
  obtain ⟨A, len, cap, rfl⟩ := okWide_slice Try.underlying64 o1
  obtain ⟨fuel, hf⟩ := h1
  obtain ⟨ops, hl, hg, hr, h1, h2⟩ := tr_list (f := encW) (sz := 4) (by omega) Try.underlying64 (by kernel_rfl) wop_read (by simpa [Value.cells] using hf)
  subst hl
  exact workKeeps_any W n A cap ops hr (by omega) hg
namespace workKeeps
theorem own : ownKnob Try.prog.godebug = none := by kernel_rfl
theorem laidOut : laidOutB Try.prog = true := by kernel_rfl
set_option maxRecDepth 100000 in
theorem lifted (os : Os) (started : os.Started) (H : Type) (enc : TypeId × Value → H) :
    ReturnsInHanded {} Try.checked os 11 .any (Rows.workKeepsSpec.pre6 enc Try.prog Try.f11 Rows.workKeepsRow.domain false) (Rows.workKeepsSpec.post enc Try.prog Try.f11 false true false false) := by
  refine returnsInHanded_of_change_sized (C := Try.checked) own started (by kernel_rfl) Try.func11
    (ChangeSpec.witness6 (enc := enc) (C := Try.checked) false ⟨#[], #[.int .i64 0, .slice none 0 0], []⟩ 8 (by kernel_rfl) (by kernel_rfl) (by kernel_rfl) (by kernel_rfl)) ?_
  intro W base args ds gs before hval0 hW hcnd hsz0 _
  have hval : ∀ (j : Nat) t v, Try.f11.params[j]? = some t → args[j]? = some v → Value.okWide Try.prog W .any base t v := hval0
  have hW' := hW
  obtain ⟨p, q, hA0, hV, rfl, hfz, hnd⟩ := hW
  have hA : DataW.TrodAll enc Try.prog W 0 (fun _ => true) true Try.f11.params.toList args.toList ds p := hA0
  rw [Try.params11] at hA hval
  obtain ⟨v0, vs0, d0, ds0, p0, q0, hargs, rfl, rfl, h0, r0⟩ := trodAll_cons hA
  obtain ⟨v1, vs1, d1, ds1, p1, q1, rfl, rfl, rfl, h1, r1⟩ := trodAll_cons r0
  obtain ⟨rfl, rfl, rfl⟩ := trodAll_nil r1
  obtain rfl : args = #[v0, v1] := by cases args; simp_all
  obtain ⟨rfl, rfl⟩ := trodVars_none hV
  have lt0 : ∀ x ∈ p0, x.block < W.heap.size := by obtain ⟨m, hm⟩ := h0; exact DataW.trod_lt m _ _ _ hm
  have lt1 : ∀ x ∈ p1, x.block < W.heap.size := by obtain ⟨m, hm⟩ := h1; exact DataW.trod_lt m _ _ _ hm
  clear hA0 hval0 hsz0
  refine (WorkKeeps_walk W (hval 0 3 v0 rfl rfl) h0 (hval 1 64 v1 rfl rfl) h1).mono fun e W' ⟨he, bel⟩ => ?_
  subst he
  exact ⟨_, rfl, _, _, _, [], _, [], hW', trodAll_mk1 (shut_bool Try.underlying4 _), (trodAll_cons_mk (Below.trod laidOut (by kernel_rfl) (of_decide_eq_true (by kernel_rfl)) h0 bel lt0) (trodAll_cons_mk (Below.trod laidOut (by kernel_rfl) (of_decide_eq_true (by kernel_rfl)) h1 bel lt1) trodAll_mk0)), rfl, bel.frame _, fun h => (by cases h)⟩
theorem over : Rows.workKeepsRow.holds Try.pinned (OpenSpec.ofChange Rows.workKeepsSpec) :=
  OpenClaim.holds_of_wide 11 Try.f11 rfl rfl rfl rfl rfl rfl rfl ⟨rfl, rfl, rfl, rfl, rfl⟩ rfl rfl rfl rfl rfl (by kernel_rfl) Try.func11 (by kernel_rfl)
    (of_decide_eq_true (by kernel_rfl)) (by unfold Func.isWrapper; first | (rw [if_pos (by decide +kernel)]; kernel_rfl) | (rw [if_neg (by decide +kernel)]; exact ⟨rfl, rfl⟩))
    (fun os started H enc _ => lifted os started H enc)
end workKeeps
/-- The row. -/
theorem workKeeps_holds : Rows.WorkKeepsSaid := workKeeps.over
#print axioms workKeeps_holds
end Go.Proofs.Ytedogccbndjdpaa
