/- Work: the functions that change it. -/
import Derived.Test.YtedogccbndjdpaaWorkA
import Derived.Test.YtedogccbndjdpaaPlan
import Derived.Maps.OwnSet
namespace Go.Proofs.Ytedogccbndjdpaa
open Go.RowKit
set_option linter.unusedVariables false

section
variable {P : Program} {kt : TypeId} {K : Type} [DecidableEq K] (kd : KeyK P kt K)
theorem wpList_mapDelete {w : World} {ops : Array Oper} {rest : List Oper} {o : Oper} {a : Act} {Q : Exit → Act → World → Prop} (hgd : o.guard = none) (ma x : Operand) (ts : Array TypeId)
    (ho : o.op = .call { callee := .builtin .delete, args := #[ma, x], argTypes := ts }) (mt e : TypeId) (hts : ts[0]? = some mt)
    (ht : P.underlying mt = some (.map kt e)) (r : Nat) (m : List (K × Value)) (hm : a.eval ma = .map (some r)) (h : MapAt kd w r m) (k : K) (hx : a.eval x = kd.kk k)
    (hK : ∀ w', MapAt kd w' r (mdel m k) → Mod (fun q => q = r) w w' → wpList P ops Q rest (a.put o.dst (.tuple #[])) w') : wpList P ops Q (o :: rest) a w := by
  refine wpList_plain hgd fun K' hK' => ?_
  obtain ⟨w', hr, h1, h2⟩ := run_mapDelete kd (ty := o.type) ht h k ts hts
  unfold Oper.wp execOp
  simp only [ho, resolve, invoke, builtin, Sem.run_bind, Sem.run_pure, Result.andThen_ok, List.map_toArray, List.map_cons, List.map_nil, hm, hx, hr]
  exact hK' _ _ (hK w' h1 h2)
end

section
variable {w w' : World} {d : Nat → Nat} {B : Nat} {A : Option Addr} {cap M : Nat} {m m' : List (ByteArray × Value)} {Qs : List Nat} {ls : List (List ByteArray)}
theorem WorkD.stepQ (h : WorkD w d B A cap M m Qs ls) {i Q : Nat} {l' : List ByteArray} (hQ : Qs[i]? = some Q)
    (hq : Que w' (fun k => d k = 4 + i ∨ w.heap.size ≤ k) Q l') (hm : Mod (fun k => d k = 4 + i) w w') :
    WorkD w' (paint d w.heap.size (4 + i)) B A cap M m Qs (ls.set i l') ∧ Chg (4 + i) d w (paint d w.heap.size (4 + i)) w' := by
  obtain ⟨q, c⟩ := QueC.put hq hm
  refine ⟨⟨h.blk.stay c (by omega), h.row.stay c (by omega), h.map.stay c (by omega), by rw [List.length_set]; exact h.len, fun k Q' l h1 h2 => ?_⟩, c⟩
  by_cases e : i = k
  · subst e
    rw [hQ] at h1
    injection h1 with h1
    subst h1
    rw [List.getElem?_set_self (by rw [← h.len]; exact (List.getElem?_eq_some_iff.1 hQ).1)] at h2
    injection h2 with h2
    subst h2
    exact q
  · rw [List.getElem?_set_ne e] at h2
    exact (h.que k Q' l h1 h2).stay c (by omega)
theorem WorkD.stepM (h : WorkD w d B A cap M m Qs ls) (hp : MapAt Try.keyS w' M m') (hm : Mod (fun q => q = M) w w') :
    WorkD w' (paint d w.heap.size 3) B A cap M m' Qs ls ∧ Chg 3 d w (paint d w.heap.size 3) w' := by
  obtain ⟨q, c⟩ := h.map.put hp hm
  exact ⟨⟨h.blk.stay c (by omega), h.row.stay c (by omega), q, h.len, fun k Q' l h1 h2 => (h.que k Q' l h1 h2).stay c (by omega)⟩, c⟩
theorem Foot.wide {F G : Nat → Prop} {w : World} {d : Nat → Nat} (h : Foot F w d) (hG : ∀ k, k < w.heap.size → F k → G k) : Foot G w d := fun k hk hd => hG k hk (h k hk hd)
end

/-! Push -/
theorem work_push_no (w : World) (F : Nat → Prop) (B : Nat) (ls : List (List ByteArray)) (hW : Work w F B ls) (i : Int) (s : ByteArray) (hno : i < 0 ∨ (ls.length : Int) ≤ i ∨ s ∈ ls.flatten) :
    Calls Try.prog 30 #[ptrV B, .int .i64 i, .string s] w fun e w' => e = .returned (.bool false) ∧ w = w' := by
  obtain ⟨d, A, cap, M, m, Qs, h1, h2, h3⟩ := hW
  have hlk := h1.look h2 s
  have c1 : w.cell? ⟨B, 1, none⟩ = some (.map (some M)) := by rw [h1.blk.cell]; rfl
  by_cases hi : i < 0 ∨ (ls.length : Int) ≤ i
  · have HO := Lib.hid (h1.of_out i hi)
    clear h1 h2 h3 hlk c1
    unfold ptrV at HO ⊢
    go_enter Try.func30, Try.ntmps30
    go_wp2_with fail
    refine HO.out.mono ?_
    rintro e w1 ⟨rfl, rfl⟩
    go_wp2_with fail
    go_ret
    exact ⟨rfl, rfl⟩
  · obtain ⟨k, rfl⟩ := Int.eq_ofNat_of_zero_le (show 0 ≤ i by omega)
    have hk : k < ls.length := by omega
    obtain ⟨Q, hQ, ho⟩ := h1.of_in k hk
    have HO := Lib.hid ho
    have hs : s ∈ ls.flatten := by
      rcases hno with h | h | h
      · omega
      · omega
      · exact h
    rw [inB_iff.2 hs] at hlk
    clear h1 h2 h3 ho hQ
    unfold ptrV at HO ⊢
    go_enter Try.func30, Try.ntmps30
    go_wp2_with fail
    refine HO.out.mono ?_
    rintro e w1 ⟨rfl, rfl⟩
    go_wp2_with fail
    go_ret
    exact ⟨rfl, rfl⟩
theorem work_push_nil (w : World) (i : Int) (s : ByteArray) : Calls Try.prog 30 #[.pointer none, .int .i64 i, .string s] w fun e w' => e = .returned (.bool false) ∧ w = w' := by
  have HO := Lib.hid (of_nil w i)
  go_enter Try.func30, Try.ntmps30
  go_wp2_with fail
  refine HO.out.mono ?_
  rintro e w1 ⟨rfl, rfl⟩
  go_wp2_with fail
  go_ret
  exact ⟨rfl, rfl⟩

set_option maxRecDepth 100000 in
theorem work_push (w : World) (F : Nat → Prop) (B : Nat) (ls : List (List ByteArray)) (hW : Work w F B ls) (i : Nat) (hi : i < ls.length) (s : ByteArray) (hs : s ∉ ls.flatten) (hl : ls[i].length < 900000) :
    Calls Try.prog 30 #[ptrV B, .int .i64 i, .string s] w fun e w' => e = .returned (.bool true) ∧ Work w' (fun k => F k ∨ w.heap.size ≤ k) B (ls.set i (Hp.putF ahead ls[i] s)) ∧ Mod F w w' := by
  obtain ⟨d, A, cap, M, m, Qs, h1, h2, h3⟩ := hW
  have hlk := h1.look h2 s
  have c1 : w.cell? ⟨B, 1, none⟩ = some (.map (some M)) := by rw [h1.blk.cell]; rfl
  obtain ⟨Q, hQ, ho⟩ := h1.of_in i hi
  have HO := Lib.hid ho
  rw [inB_false.2 hs] at hlk
  have H1 := Lib.hid h1
  have H2 := Lib.hid h2
  have H3 := Lib.hid h3
  have HQ := Lib.hid hQ
  clear h1 h2 h3 ho hQ
  unfold ptrV at HO ⊢
  go_enter Try.func30, Try.ntmps30
  go_wp2_with fail
  refine HO.out.mono ?_
  rintro e w1 ⟨rfl, rfl⟩
  go_upto_region 5 with (at_mapUpdate; refine wpList_mapUpdate Try.keyS (by rfl) _ _ _ 80 4 (by rfl) Try.underlying80 M m (by rfl) H1.out.map.1 s (by rfl) (.bool true) (by rfl) ?_; intro w1 mp1 m1)
  obtain ⟨g1, k1⟩ := H1.out.stepM mp1 m1
  have G1 := Lib.hid g1
  have K1 := Lib.hid k1
  clear g1 k1 mp1 m1
  go_wp2_with fail
  refine (que_push w1 _ Q ls[i] (G1.out.que i Q ls[i] HQ.out (List.getElem?_eq_getElem hi)) s hl).mono ?_
  rintro e w2 ⟨rfl, hq2, hm2⟩
  obtain ⟨g2, k2⟩ := G1.out.stepQ HQ.out hq2 hm2
  have G2 := Lib.hid g2
  have K2 := Lib.hid k2
  clear g2 k2 hq2 hm2
  go_wp2_with fail
  go_ret
  have z1 := K1.out.size
  obtain ⟨R, r1, r2⟩ := flat_set ls i hi
  refine ⟨rfl, ⟨_, _, _, _, _, _, G2.out, H2.out.add hs ?_, ((H3.out.step K1.out).step K2.out).wide (fun k hk h => h.elim id (fun h => .inr (by omega)))⟩, (K1.out.foot H3.out (by omega)).then (K2.out.foot (H3.out.step K1.out) (by omega)) (fun k hk h => h.elim id (fun h => by omega))⟩
  exact (r2 _).trans (((Hp.putF_perm ahead ls[i] s).append_right R).trans (by simpa using r1.symm.cons s))

/-! Pop -/
theorem work_pop_nil (w : World) (i : Int) : Calls Try.prog 32 #[.pointer none, .int .i64 i] w fun e w' => e = .returned (.tuple #[.string ⟨#[]⟩, .bool false]) ∧ w = w' := by
  have HO := Lib.hid (of_nil w i)
  go_enter Try.func32, Try.ntmps32
  go_wp2_with fail
  refine HO.out.mono ?_
  rintro e w1 ⟨rfl, rfl⟩
  go_wp2_with fail
  refine (que_pop_nil w).mono ?_
  rintro e w1 ⟨rfl, rfl⟩
  go_wp2_with fail
  go_ret2
  exact ⟨rfl, rfl⟩
theorem work_pop_no (w : World) (F : Nat → Prop) (B : Nat) (ls : List (List ByteArray)) (hW : Work w F B ls) (i : Int) (hno : rowOf ls i = []) :
    Calls Try.prog 32 #[ptrV B, .int .i64 i] w fun e w' => e = .returned (.tuple #[.string ⟨#[]⟩, .bool false]) ∧ w = w' := by
  obtain ⟨d, A, cap, M, m, Qs, h1, h2, h3⟩ := hW
  by_cases hi : i < 0 ∨ (ls.length : Int) ≤ i
  · have HO := Lib.hid (h1.of_out i hi)
    clear h1 h2 h3
    unfold ptrV at HO ⊢
    go_enter Try.func32, Try.ntmps32
    go_wp2_with fail
    refine HO.out.mono ?_
    rintro e w1 ⟨rfl, rfl⟩
    go_wp2_with fail
    refine (que_pop_nil w).mono ?_
    rintro e w1 ⟨rfl, rfl⟩
    go_wp2_with fail
    go_ret2
    exact ⟨rfl, rfl⟩
  · obtain ⟨k, rfl⟩ := Int.eq_ofNat_of_zero_le (show 0 ≤ i by omega)
    have hk : k < ls.length := by omega
    obtain ⟨Q, hQ, ho⟩ := h1.of_in k hk
    rw [rowOf_in hk] at hno
    have hq := h1.que k Q ls[k] hQ (List.getElem?_eq_getElem hk)
    rw [hno] at hq
    have HQ := Lib.hid hq
    have HO := Lib.hid ho
    clear h1 h2 h3 ho hQ hq
    unfold ptrV at HO ⊢
    go_enter Try.func32, Try.ntmps32
    go_wp2_with fail
    refine HO.out.mono ?_
    rintro e w1 ⟨rfl, rfl⟩
    go_wp2_with fail
    refine (que_pop_none w _ Q HQ.out).mono ?_
    rintro e w1 ⟨rfl, rfl⟩
    go_wp2_with fail
    go_ret2
    exact ⟨rfl, rfl⟩
set_option maxRecDepth 100000 in
theorem work_pop (w : World) (F : Nat → Prop) (B : Nat) (ls : List (List ByteArray)) (hW : Work w F B ls) (i : Nat) (hi : i < ls.length) (x : ByteArray) (r : List ByteArray) (hx : ls[i] = x :: r) (hl : r.length < 800000) :
    Calls Try.prog 32 #[ptrV B, .int .i64 i] w fun e w' => e = .returned (.tuple #[.string x, .bool true]) ∧ Work w' (fun k => F k ∨ w.heap.size ≤ k) B (ls.set i r) ∧ Mod F w w' := by
  obtain ⟨d, A, cap, M, m, Qs, h1, h2, h3⟩ := hW
  obtain ⟨Q, hQ, ho⟩ := h1.of_in i hi
  have HO := Lib.hid ho
  have hq := h1.que i Q ls[i] hQ (List.getElem?_eq_getElem hi)
  rw [hx] at hq
  have HQ0 := Lib.hid hq
  have H1 := Lib.hid h1
  have H2 := Lib.hid h2
  have H3 := Lib.hid h3
  have HQ := Lib.hid hQ
  have HX := Lib.hid hx
  clear h1 h2 h3 ho hQ hq hx
  unfold ptrV at HO ⊢
  go_enter Try.func32, Try.ntmps32
  go_wp2_with fail
  refine HO.out.mono ?_
  rintro e w1 ⟨rfl, rfl⟩
  go_wp2_with fail
  refine (que_pop w _ Q x r HQ0.out hl).mono ?_
  rintro e w1 ⟨rfl, hq1, hm1⟩
  obtain ⟨g1, k1⟩ := H1.out.stepQ HQ.out (hq1.foot (fun k h _ => .inl h)) hm1
  have c1 : w1.cell? ⟨B, 1, none⟩ = some (.map (some M)) := by rw [g1.blk.cell]; rfl
  have G1 := Lib.hid g1
  have K1 := Lib.hid k1
  clear g1 k1 hq1 hm1
  go_wp2_with (at_delete; refine wpList_mapDelete Try.keyS (by rfl) _ _ _ (by rfl) 80 4 (by rfl) Try.underlying80 M m (by rfl) G1.out.map.1 x (by rfl) ?_; intro w2 mp2 m2)
  go_ret2
  obtain ⟨g2, k2⟩ := G1.out.stepM mp2 m2
  have z1 := K1.out.size
  obtain ⟨R, r1, r2⟩ := flat_set ls i hi
  obtain ⟨_, _, _, _, hnd, _⟩ := H1.out.map.1
  refine ⟨rfl, ⟨_, _, _, _, _, _, g2, H2.out.del hnd ?_, ((H3.out.step K1.out).step k2).wide (fun k hk h => h.elim id (fun h => .inr (by omega)))⟩, (K1.out.foot H3.out (by omega)).then (k2.foot (H3.out.step K1.out) (by omega)) (fun k hk h => h.elim id (fun h => by omega))⟩
  rw [HX.out] at r1
  exact r1.trans ((r2 r).symm.cons x)

/-! Steal -/
theorem work_steal_nil (w : World) (i k : Int) : Calls Try.prog 34 #[.pointer none, .int .i64 i, .int .i64 k] w fun e w' => e = .returned (.tuple #[.string ⟨#[]⟩, .bool false]) ∧ w = w' := by
  have HO := Lib.hid (of_nil w i)
  go_enter Try.func34, Try.ntmps34
  go_wp2_with fail
  refine HO.out.mono ?_
  rintro e w1 ⟨rfl, rfl⟩
  go_wp2_with fail
  go_ret2
  exact ⟨rfl, rfl⟩
theorem work_steal_no (w : World) (F : Nat → Prop) (B : Nat) (ls : List (List ByteArray)) (hW : Work w F B ls) (i k : Int) (hno : i < 0 ∨ (ls.length : Int) ≤ i ∨ i = k ∨ rowOf ls k = []) :
    Calls Try.prog 34 #[ptrV B, .int .i64 i, .int .i64 k] w fun e w' => e = .returned (.tuple #[.string ⟨#[]⟩, .bool false]) ∧ w = w' := by
  obtain ⟨d, A, cap, M, m, Qs, h1, h2, h3⟩ := hW
  by_cases hi : i < 0 ∨ (ls.length : Int) ≤ i
  · have HO := Lib.hid (h1.of_out i hi)
    clear h1 h2 h3
    unfold ptrV at HO ⊢
    go_enter Try.func34, Try.ntmps34
    go_wp2_with fail
    refine HO.out.mono ?_
    rintro e w1 ⟨rfl, rfl⟩
    go_wp2_with fail
    go_ret2
    exact ⟨rfl, rfl⟩
  · obtain ⟨i, rfl⟩ := Int.eq_ofNat_of_zero_le (show 0 ≤ i by omega)
    obtain ⟨Q, hQ, ho⟩ := h1.of_in i (by omega)
    have HO := Lib.hid ho
    by_cases hik : (i : Int) = k
    · subst hik
      clear h1 h2 h3 ho hQ
      unfold ptrV at HO ⊢
      go_enter Try.func34, Try.ntmps34
      go_wp2_with fail
      refine HO.out.mono ?_
      rintro e w1 ⟨rfl, rfl⟩
      go_wp2_with fail
      go_ret2
      exact ⟨rfl, rfl⟩
    · have hr : rowOf ls k = [] := by
        rcases hno with h | h | h | h
        · omega
        · omega
        · exact (hik h).elim
        · exact h
      by_cases hk : k < 0 ∨ (ls.length : Int) ≤ k
      · have HO2 := Lib.hid (h1.of_out k hk)
        clear h1 h2 h3 ho hQ
        unfold ptrV at HO HO2 ⊢
        go_enter Try.func34, Try.ntmps34
        go_wp2_with fail
        refine HO.out.mono ?_
        rintro e w1 ⟨rfl, rfl⟩
        go_wp2_with fail
        refine HO2.out.mono ?_
        rintro e w1 ⟨rfl, rfl⟩
        go_wp2_with fail
        refine (que_steal_nil w).mono ?_
        rintro e w1 ⟨rfl, rfl⟩
        go_wp2_with fail
        go_ret2
        exact ⟨rfl, rfl⟩
      · obtain ⟨k, rfl⟩ := Int.eq_ofNat_of_zero_le (show 0 ≤ k by omega)
        have hk' : k < ls.length := by omega
        obtain ⟨Q2, hQ2, ho2⟩ := h1.of_in k hk'
        rw [rowOf_in hk'] at hr
        have hq := h1.que k Q2 ls[k] hQ2 (List.getElem?_eq_getElem hk')
        rw [hr] at hq
        have HQ := Lib.hid hq
        have HO2 := Lib.hid ho2
        have hik' : ¬ ((i : Int) = (k : Int)) := hik
        clear h1 h2 h3 ho hQ ho2 hQ2 hq
        unfold ptrV at HO HO2 ⊢
        go_enter Try.func34, Try.ntmps34
        go_wp2_with fail
        refine HO.out.mono ?_
        rintro e w1 ⟨rfl, rfl⟩
        go_wp2_with fail
        refine HO2.out.mono ?_
        rintro e w1 ⟨rfl, rfl⟩
        go_wp2_with fail
        refine (que_steal_none w _ Q2 HQ.out).mono ?_
        rintro e w1 ⟨rfl, rfl⟩
        go_wp2_with fail
        go_ret2
        exact ⟨rfl, rfl⟩
set_option maxRecDepth 100000 in
theorem work_steal (w : World) (F : Nat → Prop) (B : Nat) (ls : List (List ByteArray)) (hW : Work w F B ls) (i k : Nat) (hi : i < ls.length) (hk : k < ls.length) (hik : i ≠ k) (x : ByteArray) (r : List ByteArray) (hx : ls[k] = r ++ [x]) (hl : r.length < 800000) (hl2 : ls[i].length < 900000) :
    Calls Try.prog 34 #[ptrV B, .int .i64 i, .int .i64 k] w fun e w' => e = .returned (.tuple #[.string x, .bool true]) ∧ Work w' (fun k => F k ∨ w.heap.size ≤ k) B ((ls.set k r).set i (Hp.putF ahead ls[i] x)) ∧ Mod F w w' := by
  obtain ⟨d, A, cap, M, m, Qs, h1, h2, h3⟩ := hW
  obtain ⟨Q, hQ, ho⟩ := h1.of_in i hi
  obtain ⟨Q2, hQ2, ho2⟩ := h1.of_in k hk
  have HO := Lib.hid ho
  have HO2 := Lib.hid ho2
  have hq := h1.que k Q2 ls[k] hQ2 (List.getElem?_eq_getElem hk)
  rw [hx] at hq
  have HQ0 := Lib.hid hq
  have H1 := Lib.hid h1
  have H2 := Lib.hid h2
  have H3 := Lib.hid h3
  have HQ := Lib.hid hQ
  have HQ2 := Lib.hid hQ2
  have HX := Lib.hid hx
  have hik' : ¬ ((i : Int) = (k : Int)) := by omega
  clear h1 h2 h3 ho ho2 hQ hQ2 hq hx
  unfold ptrV at HO HO2 ⊢
  go_enter Try.func34, Try.ntmps34
  go_wp2_with fail
  refine HO.out.mono ?_
  rintro e w1 ⟨rfl, rfl⟩
  go_wp2_with fail
  refine HO2.out.mono ?_
  rintro e w1 ⟨rfl, rfl⟩
  go_wp2_with fail
  refine (que_steal w _ Q2 x r HQ0.out hl).mono ?_
  rintro e w1 ⟨rfl, hq1, hm1⟩
  obtain ⟨g1, k1⟩ := H1.out.stepQ HQ2.out (hq1.foot (fun k h _ => .inl h)) hm1
  have G1 := Lib.hid g1
  have K1 := Lib.hid k1
  clear g1 k1 hq1 hm1
  go_wp2_with fail
  refine (que_push w1 _ Q ls[i] (G1.out.que i Q ls[i] HQ.out (by rw [List.getElem?_set_ne (Ne.symm hik)]; exact List.getElem?_eq_getElem hi)) x hl2).mono ?_
  rintro e w2 ⟨rfl, hq2, hm2⟩
  obtain ⟨g2, k2⟩ := G1.out.stepQ HQ.out hq2 hm2
  have G2 := Lib.hid g2
  have K2 := Lib.hid k2
  clear g2 k2 hq2 hm2
  go_wp2_with fail
  go_ret2
  have z1 := K1.out.size
  obtain ⟨R, r1, r2⟩ := flat_set ls k hk
  obtain ⟨R', r1', r2'⟩ := flat_set (ls.set k r) i (by simpa using hi)
  refine ⟨rfl, ⟨_, _, _, _, _, _, G2.out, H2.out.perm ?_, ((H3.out.step K1.out).step K2.out).wide (fun k hk h => h.elim id (fun h => .inr (by omega)))⟩, (K1.out.foot H3.out (by omega)).then (K2.out.foot (H3.out.step K1.out) (by omega)) (fun k hk h => h.elim id (fun h => by omega))⟩
  rw [HX.out] at r1
  rw [List.getElem_set_ne (Ne.symm hik)] at r1'
  refine (r2' _).trans (((Hp.putF_perm ahead ls[i] x).append_right R').trans ?_)
  refine (List.Perm.cons x (r1'.symm.trans (r2 r))).trans ?_
  refine List.Perm.trans ?_ r1.symm
  rw [List.append_assoc]
  exact (List.perm_middle (a := x) (l₁ := r) (l₂ := R)).symm
end Go.Proofs.Ytedogccbndjdpaa
