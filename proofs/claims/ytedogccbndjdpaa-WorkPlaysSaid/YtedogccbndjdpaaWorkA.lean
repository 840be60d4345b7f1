/- Work: what it is in memory, and the functions that only read it. -/
import Derived.Test.YtedogccbndjdpaaCol
import Derived.Test.YtedogccbndjdpaaKey
import Derived.Maps.OwnSet
namespace Go.Proofs.Ytedogccbndjdpaa
open Go.RowKit
set_option linter.unusedVariables false

/-! lists of lists -/
theorem flat_set {α : Type} : ∀ (ls : List (List α)) (i : Nat) (h : i < ls.length), ∃ R : List α, ls.flatten.Perm (ls[i] ++ R) ∧ ∀ l', (ls.set i l').flatten.Perm (l' ++ R)
  | [], i, h => by cases h
  | l :: ls, 0, h => ⟨ls.flatten, by simp, fun l' => by simp⟩
  | l :: ls, i + 1, h => by
    obtain ⟨R, h1, h2⟩ := flat_set ls i (by simpa using h)
    refine ⟨l ++ R, ?_, fun l' => ?_⟩
    · rw [List.flatten_cons, List.getElem_cons_succ]
      exact (h1.append_left l).trans (by rw [← List.append_assoc, ← List.append_assoc]; exact (List.perm_append_comm).append_right R)
    · rw [List.set_cons_succ, List.flatten_cons]
      exact ((h2 l').append_left l).trans (by rw [← List.append_assoc, ← List.append_assoc]; exact (List.perm_append_comm).append_right R)

/-- is it in the list? -/
def inB (s : ByteArray) (l : List ByteArray) : Bool := l.any fun x => decide (x = s)
theorem inB_iff {s : ByteArray} {l : List ByteArray} : inB s l = true ↔ s ∈ l := by
  unfold inB
  rw [List.any_eq_true]
  exact ⟨fun ⟨x, h, e⟩ => (of_decide_eq_true e) ▸ h, fun h => ⟨s, h, decide_eq_true rfl⟩⟩
theorem inB_false {s : ByteArray} {l : List ByteArray} : inB s l = false ↔ s ∉ l := by
  rw [← inB_iff]; simp
theorem inB_perm {s : ByteArray} {l r : List ByteArray} (h : l.Perm r) : inB s l = inB s r := by
  rw [Bool.eq_iff_iff, inB_iff, inB_iff]; exact h.mem_iff
theorem inB_cons {s x : ByteArray} {l : List ByteArray} : inB s (x :: l) = (decide (x = s) || inB s l) := rfl

/-- who has what, and the set of all -/
def Keys (m : List (ByteArray × Value)) (ls : List (List ByteArray)) : Prop := ls.flatten.Nodup ∧ ∀ s, mget m s = if inB s ls.flatten = true then some (.bool true) else none
theorem Keys.perm {m : List (ByteArray × Value)} {ls ls' : List (List ByteArray)} (h : Keys m ls) (hp : ls'.flatten.Perm ls.flatten) : Keys m ls' :=
  ⟨hp.nodup_iff.2 h.1, fun s => by rw [h.2 s, inB_perm hp]⟩
theorem Keys.add {m : List (ByteArray × Value)} {ls ls' : List (List ByteArray)} {s : ByteArray} (h : Keys m ls) (hs : s ∉ ls.flatten) (hp : ls'.flatten.Perm (s :: ls.flatten)) : Keys (mput m s (.bool true)) ls' :=
  ⟨hp.nodup_iff.2 (List.nodup_cons.2 ⟨hs, h.1⟩), fun t => by
    rw [mget_mput, h.2 t, inB_perm hp, inB_cons]
    by_cases e : t = s
    · simp [e]
    · rw [if_neg e, decide_eq_false (fun h => e h.symm), Bool.false_or]⟩
theorem Keys.del {m : List (ByteArray × Value)} {ls ls' : List (List ByteArray)} {s : ByteArray} (h : Keys m ls) (hn : (m.map (·.1)).Nodup) (hp : ls.flatten.Perm (s :: ls'.flatten)) : Keys (mdel m s) ls' := by
  have hnd := List.nodup_cons.1 (hp.nodup_iff.1 h.1)
  refine ⟨hnd.2, fun t => ?_⟩
  rw [mget_mdel hn, h.2 t, inB_perm hp, inB_cons]
  by_cases e : t = s
  · subst e; rw [if_pos rfl, inB_false.2 hnd.1]; rfl
  · rw [if_neg e, decide_eq_false (fun h => e h.symm), Bool.false_or]
theorem Keys.len {m : List (ByteArray × Value)} {ls : List (List ByteArray)} (h : Keys m ls) (hn : (m.map (·.1)).Nodup) : m.length = ls.flatten.length := by
  have hp : (m.map (·.1)).Perm ls.flatten := (List.perm_ext_iff_of_nodup hn h.1).2 (fun s => by
    have h1 := h.2 s
    have h2 := @mget_none ByteArray Value _ m s
    by_cases e : s ∈ ls.flatten
    · rw [if_pos (inB_iff.2 e)] at h1
      refine ⟨fun _ => e, fun _ => Classical.byContradiction fun hc => ?_⟩
      rw [h2.2 hc] at h1
      cases h1
    · rw [inB_false.2 e] at h1
      exact ⟨fun hm => (h2.1 h1 hm).elim, fun he => (e he).elim⟩)
  have := hp.length_eq
  simpa using this

def ptrV (Q : Nat) : Value := .pointer (some ⟨Q, 0, none⟩)

structure WorkD (w : World) (d : Nat → Nat) (B : Nat) (A : Option Addr) (cap M : Nat) (m : List (ByteArray × Value)) (Qs : List Nat) (ls : List (List ByteArray)) : Prop where
  blk : BlkC w d 1 B (.cells #[.slice A Qs.length cap, .map (some M)] 92 (0, 0))
  row : RowC w d 2 48 1 A Qs.length cap (Qs.map ptrV)
  map : MapC Try.keyS w d 3 M m
  len : Qs.length = ls.length
  que : ∀ (i Q : Nat) (l : List ByteArray), Qs[i]? = some Q → ls[i]? = some l → QueC w d (4 + i) Q l

def Foot (F : Nat → Prop) (w : World) (d : Nat → Nat) : Prop := ∀ k, k < w.heap.size → d k ≠ 0 → F k
theorem Foot.step {F : Nat → Prop} {w w' : World} {d d' : Nat → Nat} {j : Nat} (h : Foot F w d) (c : Chg j d w d' w') : Foot (fun k => F k ∨ w.heap.size ≤ k) w' d' := fun k hk hd => by
  by_cases h1 : k < w.heap.size
  · exact .inl (h k h1 (by rw [← c.2 k h1]; exact hd))
  · exact .inr (by omega)
theorem Chg.foot {F : Nat → Prop} {w w' : World} {d d' : Nat → Nat} {j : Nat} (c : Chg j d w d' w') (h : Foot F w d) (hj : j ≠ 0) : Mod F w w' := c.1.mono (fun k hk e => h k hk (by rw [e]; exact hj))

/-- the work of all workers: each one's prefixes, in order; its blocks are among F -/
def Work (w : World) (F : Nat → Prop) (B : Nat) (ls : List (List ByteArray)) : Prop :=
  ∃ d A cap M m Qs, WorkD w d B A cap M m Qs ls ∧ Keys m ls ∧ Foot F w d

theorem WorkD.stay0 {w w' : World} {d d' : Nat → Nat} {B : Nat} {A : Option Addr} {cap M : Nat} {m : List (ByteArray × Value)} {Qs : List Nat} {ls : List (List ByteArray)} (h : WorkD w d B A cap M m Qs ls) (c : Chg 0 d w d' w') : WorkD w' d' B A cap M m Qs ls :=
  ⟨h.blk.stay c (by omega), h.row.stay c (by omega), h.map.stay c (by omega), h.len, fun i Q l h1 h2 => (h.que i Q l h1 h2).stay c (by omega)⟩
theorem Work.mod {w w' : World} {F G : Nat → Prop} {B : Nat} {ls : List (List ByteArray)} (h : Work w F B ls) (hm : Mod G w w') (hG : ∀ k, F k → ¬ G k) : Work w' F B ls := by
  obtain ⟨d, A, cap, M, m, Qs, h1, h2, h3⟩ := h
  have c : Chg 0 d w (paint d w.heap.size 0) w' := .mod 0 (hm.mono (fun k hk g => by
    by_cases e : d k = 0
    · exact e
    · exact ((hG k (h3 k hk e)) g).elim))
  refine ⟨_, A, cap, M, m, Qs, h1.stay0 c, h2, fun k hk hd => ?_⟩
  by_cases e : k < w.heap.size
  · rw [paint_old e] at hd; exact h3 k e hd
  · rw [paint_new (by omega)] at hd; exact (hd rfl).elim
theorem Work.below {w w' : World} {F : Nat → Prop} {B : Nat} {ls : List (List ByteArray)} (h : Work w F B ls) (hb : Below w.heap.size w w') : Work w' F B ls := h.mod (Mod.of_below_size hb (fun _ => False)) (fun _ _ h => h)
theorem Work.foot {w : World} {F G : Nat → Prop} {B : Nat} {ls : List (List ByteArray)} (h : Work w F B ls) (hG : ∀ k, F k → k < w.heap.size → G k) : Work w G B ls := by
  obtain ⟨d, A, cap, M, m, Qs, h1, h2, h3⟩ := h
  exact ⟨d, A, cap, M, m, Qs, h1, h2, fun k hk hd => hG k (h3 k hk hd) hk⟩
theorem Work.lt {w : World} {F : Nat → Prop} {B : Nat} {ls : List (List ByteArray)} (h : Work w F B ls) : B < w.heap.size := by
  obtain ⟨d, A, cap, M, m, Qs, h1, h2, h3⟩ := h
  exact h1.blk.lt
theorem Work.nodup {w : World} {F : Nat → Prop} {B : Nat} {ls : List (List ByteArray)} (h : Work w F B ls) : ls.flatten.Nodup := by
  obtain ⟨d, A, cap, M, m, Qs, h1, h2, h3⟩ := h
  exact h2.1

theorem WorkD.look {w : World} {d : Nat → Nat} {B : Nat} {A : Option Addr} {cap M : Nat} {m : List (ByteArray × Value)} {Qs : List Nat} {ls : List (List ByteArray)} (h : WorkD w d B A cap M m Qs ls) (hk : Keys m ls) (s : ByteArray) :
    (Instr.lookup 80 (.map (some M)) (.string s) false).run Try.prog w = .ok (.bool (inB s ls.flatten)) w := by
  have := run_lookup Try.keyS (w := w) Try.underlying80 (z := .bool false) (fun w => by kernel_rfl) h.map.1 s false
  rw [hk.2 s] at this
  cases hb : inB s ls.flatten with
  | true => rw [hb] at this; exact this
  | false => rw [hb] at this; exact this

/-! who has a queue -/
theorem of_nil (w : World) (i : Int) : Calls Try.prog 45 #[.pointer none, .int .i64 i] w fun e w' => e = .returned (.pointer none) ∧ w = w' := by
  go_enter Try.func45, Try.ntmps45
  go_wp2
  go_ret
  exact ⟨rfl, rfl⟩
theorem of_out (w : World) (B n cap : Nat) (A : Option Addr) (i : Int) (hl : w.cell? ⟨B, 0, none⟩ = some (.slice A n cap)) (hi : i < 0 ∨ (n : Int) ≤ i) :
    Calls Try.prog 45 #[ptrV B, .int .i64 i] w fun e w' => e = .returned (.pointer none) ∧ w = w' := by
  unfold ptrV
  by_cases h0 : i < 0
  · go_enter Try.func45, Try.ntmps45
    go_wp2
    go_ret
    exact ⟨rfl, rfl⟩
  · have h1 : (n : Int) ≤ i := by omega
    go_enter Try.func45, Try.ntmps45
    go_wp2
    go_ret
    exact ⟨rfl, rfl⟩
theorem of_in (w : World) (B n cap g o i Q : Nat) (hl : w.cell? ⟨B, 0, none⟩ = some (.slice (some ⟨g, o, none⟩) n cap)) (hi : i < n) (hq : w.cell? ⟨g, o + i, none⟩ = some (ptrV Q)) :
    Calls Try.prog 45 #[ptrV B, .int .i64 i] w fun e w' => e = .returned (ptrV Q) ∧ w = w' := by
  unfold ptrV at hq ⊢
  have k1 : (0 : Int) ≤ (i : Int) := Int.natCast_nonneg _
  have k2 : (i : Int) < (n : Int) := by omega
  go_enter Try.func45, Try.ntmps45
  go_wp2
  go_ret
  exact ⟨rfl, rfl⟩

section
variable {w : World} {d : Nat → Nat} {B : Nat} {A : Option Addr} {cap M : Nat} {m : List (ByteArray × Value)} {Qs : List Nat} {ls : List (List ByteArray)}
theorem WorkD.of_out (h : WorkD w d B A cap M m Qs ls) (i : Int) (hi : i < 0 ∨ (ls.length : Int) ≤ i) :
    Calls Try.prog 45 #[ptrV B, .int .i64 i] w fun e w' => e = .returned (.pointer none) ∧ w = w' :=
  Proofs.Ytedogccbndjdpaa.of_out w B Qs.length cap A i (by rw [h.blk.cell]; rfl) (by rw [h.len]; exact hi)
theorem WorkD.of_in (h : WorkD w d B A cap M m Qs ls) (i : Nat) (hi : i < ls.length) : ∃ Q, Qs[i]? = some Q ∧
    Calls Try.prog 45 #[ptrV B, .int .i64 i] w fun e w' => e = .returned (ptrV Q) ∧ w = w' := by
  have hl : i < Qs.length := by rw [h.len]; exact hi
  obtain ⟨g, o, rfl⟩ := h.row.1.some_of_pos (by have := h.row.1.2.1; omega)
  refine ⟨Qs[i], List.getElem?_eq_getElem hl, Proofs.Ytedogccbndjdpaa.of_in w B Qs.length cap g o i _ (by rw [h.blk.cell]; rfl) hl ?_⟩
  rw [h.row.1.cell i (by omega), List.getElem?_map, List.getElem?_eq_getElem hl]
  rfl
end

/-! Has, Len, Total -/
theorem work_has (w : World) (F : Nat → Prop) (B : Nat) (ls : List (List ByteArray)) (hW : Work w F B ls) (s : ByteArray) :
    Calls Try.prog 39 #[ptrV B, .string s] w fun e w' => e = .returned (.bool (inB s ls.flatten)) ∧ w = w' := by
  obtain ⟨d, A, cap, M, m, Qs, h1, h2, h3⟩ := hW
  have hlk := h1.look h2 s
  have c1 : w.cell? ⟨B, 1, none⟩ = some (.map (some M)) := by rw [h1.blk.cell]; rfl
  unfold ptrV
  obtain ⟨b, hb⟩ : ∃ b, b = inB s ls.flatten := ⟨_, rfl⟩
  rw [← hb] at hlk ⊢
  clear h1 h2 h3 hb
  go_enter Try.func39, Try.ntmps39
  go_wp2
  go_ret
  exact ⟨rfl, rfl⟩
theorem work_has_nil (w : World) (s : ByteArray) : Calls Try.prog 39 #[.pointer none, .string s] w fun e w' => e = .returned (.bool false) ∧ w = w' := by
  go_enter Try.func39, Try.ntmps39
  go_wp2
  go_ret
  exact ⟨rfl, rfl⟩

/-- what a worker has -/
def rowOf (ls : List (List ByteArray)) (i : Int) : List ByteArray := if 0 ≤ i then ls.getD i.toNat [] else []
theorem rowOf_in {ls : List (List ByteArray)} {i : Nat} (h : i < ls.length) : rowOf ls i = ls[i] := by
  unfold rowOf
  rw [if_pos (by omega)]
  simp [h]
theorem rowOf_out {ls : List (List ByteArray)} {i : Int} (h : i < 0 ∨ (ls.length : Int) ≤ i) : rowOf ls i = [] := by
  unfold rowOf
  split
  · rw [List.getD_eq_getElem?_getD, List.getElem?_eq_none (by omega)]; rfl
  · rfl

theorem work_len_nil (w : World) (i : Int) : Calls Try.prog 36 #[.pointer none, .int .i64 i] w fun e w' => e = .returned (.int .i64 0) ∧ w = w' := by
  have ho := of_nil w i
  have HO := Lib.hid ho
  clear ho
  go_enter Try.func36, Try.ntmps36
  go_wp2_with fail
  refine HO.out.mono ?_
  rintro e w1 ⟨rfl, rfl⟩
  go_wp2_with fail
  refine (queLen_nil w).mono ?_
  rintro e w1 ⟨rfl, rfl⟩
  go_wp2_with fail
  go_ret
  exact ⟨rfl, rfl⟩
theorem work_len (w : World) (F : Nat → Prop) (B : Nat) (ls : List (List ByteArray)) (hW : Work w F B ls) (i : Int) :
    Calls Try.prog 36 #[ptrV B, .int .i64 i] w fun e w' => e = .returned (.int .i64 (rowOf ls i).length) ∧ w = w' := by
  obtain ⟨d, A, cap, M, m, Qs, h1, h2, h3⟩ := hW
  by_cases hi : i < 0 ∨ (ls.length : Int) ≤ i
  · have HO := Lib.hid (h1.of_out i hi)
    rw [rowOf_out hi]
    clear h1 h2 h3
    unfold ptrV at HO ⊢
    go_enter Try.func36, Try.ntmps36
    go_wp2_with fail
    refine HO.out.mono ?_
    rintro e w1 ⟨rfl, rfl⟩
    go_wp2_with fail
    refine (queLen_nil w).mono ?_
    rintro e w1 ⟨rfl, rfl⟩
    go_wp2_with fail
    go_ret
    exact ⟨rfl, rfl⟩
  · obtain ⟨k, rfl⟩ := Int.eq_ofNat_of_zero_le (show 0 ≤ i by omega)
    have hk : k < ls.length := by omega
    obtain ⟨Q, hQ, ho⟩ := h1.of_in k hk
    have HO := Lib.hid ho
    have HQ := Lib.hid (h1.que k Q ls[k] hQ (List.getElem?_eq_getElem hk))
    rw [rowOf_in hk]
    clear h1 h2 h3 ho hQ
    unfold ptrV at HO ⊢
    go_enter Try.func36, Try.ntmps36
    go_wp2_with fail
    refine HO.out.mono ?_
    rintro e w1 ⟨rfl, rfl⟩
    go_wp2_with fail
    refine (que_len w _ Q _ HQ.out).mono ?_
    rintro e w1 ⟨rfl, rfl⟩
    go_wp2_with fail
    go_ret
    exact ⟨rfl, rfl⟩

theorem work_total_nil (w : World) : Calls Try.prog 37 #[.pointer none] w fun e w' => e = .returned (.int .i64 0) ∧ w = w' := by
  go_enter Try.func37, Try.ntmps37
  go_wp2
  go_ret
  exact ⟨rfl, rfl⟩
theorem MapAt.runLen {P : Program} {kt : TypeId} {K : Type} [DecidableEq K] {kd : KeyK P kt K} {w : World} {r : Nat} {m : List (K × Value)} {mt e : TypeId} (h : MapAt kd w r m) (ht : P.underlying mt = some (.map kt e)) (ty : TypeId) :
    (Builtin.len_ #[mt] ty #[.map (some r)]).run P w = .ok (.int .i64 m.length) w := by
  obtain ⟨es, c, hb, hes, _⟩ := h
  have hn : es.size = m.length := by
    have := congrArg List.length hes
    simpa [ents] using this
  rw [← hn]
  simp [Builtin.len_, run_underlying ht, MapKept.run_getObj_map hb, goInt, Result.andThen]

set_option maxRecDepth 100000 in
theorem work_total (w : World) (F : Nat → Prop) (B : Nat) (ls : List (List ByteArray)) (hW : Work w F B ls) :
    Calls Try.prog 37 #[ptrV B] w fun e w' => e = .returned (.int .i64 ls.flatten.length) ∧ w = w' := by
  obtain ⟨d, A, cap, M, m, Qs, h1, h2, h3⟩ := hW
  have hlen := fun ty => h1.map.1.runLen Try.underlying80 ty
  obtain ⟨_, _, _, _, hnd, _⟩ := h1.map.1
  rw [h2.len hnd] at hlen
  generalize ls.flatten.length = n at hlen ⊢
  have c1 : w.cell? ⟨B, 1, none⟩ = some (.map (some M)) := by rw [h1.blk.cell]; rfl
  unfold ptrV
  clear h1 h2 h3 hnd
  go_enter Try.func37, Try.ntmps37
  go_wp2
  go_ret
  exact ⟨rfl, rfl⟩
end Go.Proofs.Ytedogccbndjdpaa
