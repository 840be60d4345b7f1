/- What is proved: MailAll: all letters that were sent to workers are taken, by each its own, in order; then all boxes are empty. No condition. -/
import Derived.Test.YtedogccbndjdpaaMailM
import Derived.Test.YtedogccbndjdpaaMailO
import Derived.Deep.DeepCutAuto
import Derived.Deep.CutBlock
import Derived.IntWalk
namespace Go.Proofs.Ytedogccbndjdpaa
open Go.ChangeShapes Go.WideShapes Go.ChangeAt Go.RowKit
set_option linter.unusedVariables false

/-- a call: its kind, its worker, prefix, set -/
abbrev AOp := Int × Int × ByteArray × Nat
def encA (o : AOp) : List Value := [.int .i64 o.1, .int .i64 o.2.1, .string o.2.2.1, .int .u8 o.2.2.2]

theorem workers_is (n : Int) : ∃ m : Nat, wrap64 (1 + wrap64 ((IntKind.u64.wrap n).tmod 64)) = m ∧ 1 ≤ m ∧ m ≤ 64 := by
  have h0 : 0 ≤ IntKind.u64.wrap n := by simp [IntKind.wrap, IntKind.signed, IntKind.bits]; omega
  generalize IntKind.u64.wrap n = u at h0
  have h1 : u.tmod 64 = u % 64 := Int.tmod_eq_emod_of_nonneg h0
  rw [h1]
  refine ⟨(1 + u % 64).toNat, ?_, by omega, by omega⟩
  unfold wrap64
  omega

/-- the boxes are what the statement's map says -/
def WRel (m : Nat) (ls : List (List Ltr)) (lm : List (Int × List Ltr)) (c : Nat) : Prop :=
  ls.length = m ∧ totL ls = c ∧ ∀ (i : Nat) (h : i < ls.length), (mget lm (i : Int)).getD [] = ls[i]
theorem WRel.start (m : Nat) : WRel m (List.replicate m []) [] 0 := ⟨by simp, by simp [totL], fun i h => by simp [mget]⟩
theorem WRel.send {m : Nat} {ls : List (List Ltr)} {lm : List (Int × List Ltr)} {c : Nat} (h : WRel m ls lm c) (t : Nat) (ht : t < ls.length) (x : Ltr) :
    WRel m (ls.set t (ls[t] ++ [x])) (mput lm (t : Int) ((mget lm (t : Int)).getD [] ++ [x])) (c + 1) := by
  obtain ⟨h1, h2, h3⟩ := h
  refine ⟨by simp [h1], ?_, fun i hi => ?_⟩
  · have := totL_set ht (ls[t] ++ [x])
    simp only [List.length_append, List.length_singleton] at this
    omega
  · have hi' : i < ls.length := by simpa using hi
    rw [mget_mput]
    by_cases hit : i = t
    · subst hit
      rw [if_pos rfl, List.getElem_set_self, Option.getD_some, h3 i hi']
    · rw [if_neg (by omega), List.getElem_set_ne (fun e => hit e.symm), h3 i hi']

def AInv (base : Nat) (W : World) (B r m k : Nat) (v : Value) (wr : World) : Prop :=
  ∃ ls mm lm F G c, v = .int .i64 ((c : Nat) : Int) ∧ Boxes wr F B ls ∧ Want wr G r mm lm ∧ (∀ q, F q → base ≤ q ∧ q < wr.heap.size) ∧ (∀ q, G q → base ≤ q ∧ q < wr.heap.size) ∧ (∀ q, F q → ¬ G q) ∧ Below base W wr ∧ WRel m ls lm c ∧ c ≤ k

/-- the taking: the boxes below i are empty, i's holds 'rest', the later ones what the map says -/
def CInv (base : Nat) (W : World) (B r m i : Nat) (rest : Option (List Ltr)) (A : Option Addr) (n c : Nat) (l : List Ltr) (wr : World) : Prop :=
  ∃ ls mm lm F G, Boxes wr F B ls ∧ Want wr G r mm lm ∧ (∀ q, F q → base ≤ q ∧ q < wr.heap.size) ∧ (∀ q, G q → base ≤ q ∧ q < wr.heap.size) ∧ (∀ q, F q → ¬ G q) ∧ Below base W wr ∧ ls.length = m ∧ totL ls < 1000000 ∧
    (∀ q, (h : q < ls.length) → q < i → ls[q] = []) ∧ (∀ q, (h : q < ls.length) → i < q → ls[q] = (mget lm (q : Int)).getD []) ∧ (∀ h : i < ls.length, ls[i] = rest.getD ((mget lm (i : Int)).getD [])) ∧
    (rest.isSome = true → n = l.length ∧ Row wr 34 2 A l.length c (l.flatMap encL) ∧ ∀ a, A = some a → G a.block)

set_option maxRecDepth 100000 in
set_option maxHeartbeats 4000000 in
theorem mailAll_any (W : World) (n : Int) (A0 : Option Addr) (cap0 : Nat) (ops : List AOp) (hn : -9223372036854775808 ≤ n ∧ n ≤ 9223372036854775807) (hops : ∀ o ∈ ops, -9223372036854775808 ≤ o.1 ∧ o.1 ≤ 9223372036854775807 ∧ -9223372036854775808 ≤ o.2.1 ∧ o.2.1 ≤ 9223372036854775807 ∧ o.2.2.2 ≤ 255)
    (hr : RdB W W.heap.size 4 A0 ops.length (ops.flatMap encA)) (hmax : ops.length ≤ maxLen) :
    Calls Try.prog 5 #[.int .i64 n, .slice A0 ops.length cap0] W fun e w' => e = .returned (.bool true) ∧ Below W.heap.size W w' := by
  unfold maxLen at hmax
  have HR := Lib.hid hr
  have HO := Lib.hid hops
  clear hr hops
  obtain ⟨m, hm, hm1, hm2⟩ := workers_is n
  have HMM := Lib.hid hm
  clear hm
  obtain ⟨base, hbase⟩ : ∃ base, base = W.heap.size := ⟨_, rfl⟩
  have hWb : base ≤ W.heap.size := by omega
  rw [← hbase] at HR ⊢
  have hst : ∀ w1, Below W.heap.size W w1 → Below base W w1 := fun w1 h => by rw [hbase]; exact h
  have HST := Lib.hid hst
  clear hst hbase
  by_cases hlen : 300 < ops.length
  · go_enter Try.func5, Try.ntmps5
    go_upto_region 2 with fail
    rw [HMM.out]
    go_wp2_with fail
    refine (awake12 _).mono ?_
    rintro e w1 ⟨rfl, b1⟩
    go_wp2_with fail
    refine (awake12 _).mono ?_
    rintro e w2 ⟨rfl, b2⟩
    go_wp2_with fail
    go_ret
    exact ⟨rfl, HST.out _ (below_tail b1 b2 b1.size)⟩
  go_enter Try.func5, Try.ntmps5
  go_upto_region 2 with fail
  rw [HMM.out]
  go_wp2_with fail
  refine (awake12 _).mono ?_
  rintro e w1 ⟨rfl, b1⟩
  go_wp2_with fail
  refine (new_good m _ hm1 hm2).mono ?_
  rintro e w2 ⟨B, rfl, hB, b2⟩
  have HB0 := Lib.hid hB
  have hmk := @run_makeMap Try.prog
  clear hB
  go_upto_region 8 with fail
  obtain ⟨r, hr0⟩ : ∃ r, r = w2.heap.size := ⟨_, rfl⟩
  obtain ⟨W3, hW3⟩ : ∃ W3, W3 = w2.alloc (Obj.map #[] 0) := ⟨_, rfl⟩
  have b3 : Below w2.heap.size w2 W3 := by rw [hW3]; exact (Below.refl _ _).alloc (Nat.le_refl _) _
  have hI : AInv base W B r m 0 (.int .i64 0) W3 := by
    have q1 := (HST.out _ b1).size
    have q0 := b1.size
    have q2 := b2.size
    have hW3s : W3.heap.size = w2.heap.size + 1 := by rw [hW3]; simp
    refine ⟨_, [], [], fun q => w1.heap.size ≤ q ∧ q < w2.heap.size, fun q => q = r, 0, rfl, (HB0.out.foot (G := fun q => w1.heap.size ≤ q ∧ q < w2.heap.size) (fun q h h' => ⟨h, h'⟩)).below b3, ⟨rfl, ⟨rfl, fun i l h => by simp at h, fun i j a b n c n' c' _ h => by simp at h⟩, ?_, rfl⟩, fun q h => ⟨by omega, by omega⟩, fun q h => ⟨by omega, by omega⟩, fun q h h' => by omega, ?_, WRel.start m, Nat.le_refl _⟩
    · rw [hr0, hW3]; exact MapAt.made _ _ _
    · exact below_tail (below_tail (HST.out _ b1) b2 (by omega)) b3 (by omega)
  rw [← hW3, ← hr0]
  clear hW3 hr0 b1 b2 b3 hmk
  go_wp2_with fail
  go_loopw [8, 40] (fun v i wr => ∃ k : Nat, k ≤ ops.length ∧ i = .int .i64 k ∧ AInv base W B r m k v wr) (fun _ i _ => ops.length - (intOf i).toNat)
  case atStart => exact ⟨0, Nat.zero_le _, rfl, hI⟩
  case round =>
    clear hI HB0
    obtain ⟨k, hk, rfl, hM⟩ := hrel
    have HM := Lib.hid hM
    obtain ⟨ls, mm, lm, F, G, c, rfl, hB, hW, hF, hG, hFG, hbel, hrel, hck⟩ := hM
    have HBX := Lib.hid hB
    have HW := Lib.hid hW
    have HREL := Lib.hid hrel
    have HF := Lib.hid hF
    have HG := Lib.hid hG
    have HFG := Lib.hid hFG
    clear hB hW hrel hF hG hFG
    by_cases hlt : k < ops.length
    · obtain ⟨g0, o0, rfl, hg0, hc0⟩ := HR.out.2 (by omega)
      obtain ⟨kd, tw, p, s, hop⟩ : ∃ kd tw p s, ops[k] = (kd, tw, p, s) := ⟨_, _, _, _, rfl⟩
      have hbd := HO.out _ (List.getElem_mem hlt)
      have hcl : ∀ q, q < 4 → wr.cell? ⟨g0, o0 + k * 4 + q, none⟩ = (encA (kd, tw, p, s))[q]? := fun q hq => by
        rw [Nat.add_assoc, World.cell?_of_block (hbel.block g0 hg0), hc0 (k * 4 + q) (by omega), flat_get (f := encA) (sz := 4) (fun _ => rfl) ops k q hlt hq, hop]
      rw [hop] at hbd
      have v0 := hcl 0 (by omega)
      have v1 := hcl 1 (by omega)
      have v2 := hcl 2 (by omega)
      have v3 := hcl 3 (by omega)
      simp only [encA, List.getElem?_cons_succ, List.getElem?_cons_zero, Nat.add_zero] at v0 v1 v2 v3
      have HBEL := Lib.hid hbel
      clear hc0 hcl hop hbel
      go_upto_region 12 with fail
      obtain ⟨X, hX⟩ : ∃ X, X = wr.heap.size := ⟨_, rfl⟩
      obtain ⟨W1, hW1⟩ : ∃ W1, W1 = wr.alloc (Obj.cells #[.int .i64 kd, .int .i64 tw, .string p, .int .u8 s] 30) := ⟨_, rfl⟩
      have t1 : Below wr.heap.size wr W1 := by rw [hW1]; exact (Below.refl _ _).alloc (Nat.le_refl _) _
      have hk1 : W1.heap[X]? = some (.cells #[.int .i64 kd, .int .i64 tw, .string p, .int .u8 s] 30 (0, 0)) := by rw [hW1, hX]; exact heap_alloc_new wr _
      have lX : X < W1.heap.size := blk_lt hk1
      have c1 : W1.cell? ⟨X, 1, none⟩ = some (.int .i64 tw) := by rw [cell_blk hk1]; rfl
      have c2 : W1.cell? ⟨X, 2, none⟩ = some (.string p) := by rw [cell_blk hk1]; rfl
      have c3 : W1.cell? ⟨X, 3, none⟩ = some (.int .u8 s) := by rw [cell_blk hk1]; rfl
      have HX := Lib.hid hX
      rw [← hW1, ← hX]
      clear hW1 hX v0 v1 v2 v3
      by_cases hsz : 50 < p.size
      · go_wp2
        go_ret
        exact ⟨rfl, below_tail HBEL.out t1 (by have := HBEL.out.size; omega)⟩
      · go_upto_region 15 with fail
        obtain ⟨Y, hY⟩ : ∃ Y, Y = W1.heap.size := ⟨_, rfl⟩
        obtain ⟨W2, hW2⟩ : ∃ W2, W2 = W1.alloc (Obj.cells #[.string p, .int .u8 s] 34) := ⟨_, rfl⟩
        have t2 : Below wr.heap.size wr W2 := by rw [hW2]; exact t1.alloc t1.size _
        have hk2 : W2.heap[Y]? = some (.cells #[.string p, .int .u8 s] 34 (0, 0)) := by rw [hW2, hY]; exact heap_alloc_new W1 _
        have lY : Y < W2.heap.size := blk_lt hk2
        have hkX : W2.heap[X]? = some (.cells #[.int .i64 kd, .int .i64 tw, .string p, .int .u8 s] 30 (0, 0)) := by rw [hW2, heap_alloc_old W1 _ lX]; exact hk1
        have d1 : W2.cell? ⟨X, 1, none⟩ = some (.int .i64 tw) := by rw [cell_blk hkX]; rfl
        have d2 : W2.cell? ⟨Y, 0, none⟩ = some (.string p) := by rw [cell_blk hk2]; rfl
        have d3 : W2.cell? ⟨Y, 1, none⟩ = some (.int .u8 s) := by rw [cell_blk hk2]; rfl
        have zX : X < W2.heap.size := blk_lt hkX
        have hXY : wr.heap.size ≤ X ∧ wr.heap.size ≤ Y := by have := HX.out; have := t1.size; omega
        have hB2 := HBX.out.below t2
        have HB2 := Lib.hid hB2
        have hWn2 : Want W2 G r mm lm := HW.out.mod (Mod.of_below t2) (fun q h1 h2 h3 => by omega)
        have HW2 := Lib.hid hWn2
        have htot : totL ls < 1000000 := by have := HREL.out.2.1; omega
        rw [← hW2, ← hY]
        clear hW2 hY c1 c2 c3 hB2 hWn2 t1 hk1 lX
        by_cases hin : 0 ≤ tw ∧ tw < m
        · obtain ⟨t, rfl⟩ := Int.eq_ofNat_of_zero_le hin.1
          have ht : t < ls.length := by have := HREL.out.1; omega
          go_wp2_with fail
          refine (send_in W2 F B ls t p s HB2.out ht htot).mono ?_
          rintro e w3 ⟨rfl, hB3, hm3⟩
          have HB3 := Lib.hid hB3
          have hXF : ¬ F X := fun h => by have := (HF.out X h).2; omega
          have hYF : ¬ F Y := fun h => by have := (HF.out Y h).2; omega
          have gX := (hm3.block X zX hXF).trans hkX
          have gY := (hm3.block Y lY hYF).trans hk2
          have f1 : w3.cell? ⟨X, 1, none⟩ = some (.int .i64 t) := by rw [cell_blk gX]; rfl
          have f2 : w3.cell? ⟨Y, 0, none⟩ = some (.string p) := by rw [cell_blk gY]; rfl
          have f3 : w3.cell? ⟨Y, 1, none⟩ = some (.int .u8 s) := by rw [cell_blk gY]; rfl
          have hW3 : Want w3 G r mm lm := HW2.out.mod hm3 (fun q h1 h2 h3 => HFG.out q h3 h1)
          obtain ⟨A, cp, hget, hrow, hAG⟩ := hW3.get t
          have HW3 := Lib.hid hW3
          have HGET := Lib.hid hget
          have HROW := Lib.hid hrow
          have HAG := Lib.hid hAG
          obtain ⟨l0, hl0⟩ : ∃ l0, l0 = (mget lm (t : Int)).getD [] := ⟨_, rfl⟩
          rw [← hl0] at hrow hget
          have nr : ∀ a, A = some a → a.block ≠ r := fun a ha e => by
            subst ha
            obtain ⟨_, cur, hc, _⟩ := hrow.2.2.2.2 _ rfl
            obtain ⟨es, ck, hb, _⟩ := hW3.2.2.1
            rw [e, hb] at hc
            injection hc with hc
            cases hc
          have hlook : ∀ u, Mod (fun q => ∃ a, A = some a ∧ q = a.block) w3 u → (Instr.lookup 45 (.map (some r)) (.int .i64 t) false).run Try.prog u = .ok (.slice A l0.length cp) u := fun u hu => by
            have := run_lookup Try.keyI (w := u) Try.underlying45 (z := .slice none 0 0) (fun w => by kernel_rfl) (hW3.2.2.1.move (hu.block r hW3.2.2.1.lt (fun ⟨a, h1, h2⟩ => nr a h1 h2.symm))) (t : Int) false
            rw [hget] at this
            exact this
          have hAlt : ∀ a, A = some a → a.block < W2.heap.size := fun a ha => by have := (HG.out _ (hAG a ha)).2; have := t2.size; omega
          have hAXY : ∀ a, A = some a → a.block ≠ X ∧ a.block ≠ Y := fun a ha => by have := (HG.out _ (hAG a ha)).2; omega
          have HLK := Lib.hid hlook
          have HL0 := Lib.hid hl0
          have HNR := Lib.hid nr
          have HALT := Lib.hid hAlt
          have zz := hm3.size
          have nX : ¬ ∃ a, A = some a ∧ X = a.block := fun ⟨a, h1, h2⟩ => (hAXY a h1).1 h2.symm
          have nY : ¬ ∃ a, A = some a ∧ Y = a.block := fun ⟨a, h1, h2⟩ => (hAXY a h1).2 h2.symm
          have hlen0 : l0.length ≤ 1000 := by
            have h1 := HREL.out.2.2 t ht
            have h2 := totL_ge ht
            have h3 := HREL.out.2.1
            rw [← h1, ← HL0.out] at h2
            omega
          clear hB3 hW3 hget hl0 nr hlook hAlt hAXY d1 d2 d3 hAG
          have HR3 := Lib.hid hrow
          clear hrow
          obtain ⟨i0, hi0, hz0, hz1, hz2⟩ := info_parts Try.infoLetter
          go_wp2_with fail
          refine wp_region_plan (by kernel_rfl) (fun u => Mod (fun q => ∃ a, A = some a ∧ q = a.block) w3 u) [10] [(0, .pure), (1, .pure), (2, .load), (3, .pure), (4, .pure), (5, .load), (6, .load), (7, .load), (8, .eff), (9, .eff), (10, .last)] (by simp only [List.map_cons, List.map_nil, List.getElem?_toArray, List.getElem?_cons_succ, List.getElem?_cons_zero]; rfl) (by kernel_rfl) (fun _ _ d _ _ h => by cases d <;> exact h) ((Mod.refl _ _).drew) ?_
          repeat (first
            | (refine plan_pure (v := ?_) (by rfl) (fun w1 => ?_) ?_
               rotate_left
               · go_simp <;> with_reducible rfl
               simp only [Act.put, List.setIfInBounds_toArray, List.set_cons_zero, List.set_cons_succ])
            | (refine plan_off (by rfl) ?_
               simp only [Act.put, List.setIfInBounds_toArray, List.set_cons_zero, List.set_cons_succ])
            | (refine plan_load_off (by rfl) ?_
               simp only [Act.put, List.setIfInBounds_toArray, List.set_cons_zero, List.set_cons_succ])
            | (refine plan_load (v := ?_) (by rfl) (fun w1 hw1 => ?_) ?_
               rotate_left
               · (have q0 := (hw1.cell X 1 (by omega) nX).trans f1
                  have q1 := (hw1.cell Y 0 (by omega) nY).trans f2
                  have q2 := (hw1.cell Y 1 (by omega) nY).trans f3
                  have q3 := HLK.out _ hw1
                  clear hw1
                  go_simp <;> with_reducible rfl)
               simp only [Act.put, List.setIfInBounds_toArray, List.set_cons_zero, List.set_cons_succ]))
          refine plan_eff ?_
          go_wp2_with fail
          refine plan_on (fun _ h => h) ((Mod.refl _ _).drew.alloc _) ?_
          have hR4 : ∀ O : Obj, Row (w3.alloc O).drew 34 2 A l0.length cp (l0.flatMap encL) := fun O => HR3.out.move (fun a ha => heap_alloc_old w3 O (by have := HALT.out a ha; omega))
          have HR4 := Lib.hid hR4
          clear hR4
          refine plan_eff ?_
          refine wpList_append_row (by rfl) _ _ _ (by rfl) 34 i0 _ 2 24 Try.underlying46 hi0 hz0 hz1 hz2 rfl (by omega) A l0.length cp (l0.flatMap encL) (by rfl) (HR4.out _) ⟨w3.heap.size, 0, none⟩ 1 1 [.string p, .int .u8 s] (by rfl) (by rfl) (World.news_of_block (cs := #[.string p, .int .u8 s]) (t := 34) (fr := (0, 0)) (heap_alloc_new w3 _)) (by simp [Value.oneCell']) (by omega) (by unfold maxLen; omega) (by omega) ?_
          intro g of cap' w4 hown4 hgrow4 hat4
          have m4 : Mod (fun q => ∃ a, A = some a ∧ q = a.block) w3 w4 := (((Mod.refl _ _).alloc _).drew).trans hgrow4
          have mp4 : MapAt Try.keyI w4 r mm := HW3.out.2.2.1.move (m4.block r HW3.out.2.2.1.lt (fun ⟨a, h1, h2⟩ => HNR.out a h1 h2.symm))
          have HOWN4 := Lib.hid hown4
          have HM4 := Lib.hid m4
          have HMP4 := Lib.hid mp4
          have HAT4 := Lib.hid hat4
          clear hown4 m4 hat4 hgrow4
          go_wp2_with fail
          refine plan_on (fun _ h => h) HM4.out ?_
          refine plan_last ?_
          refine wpList_mapUpdate Try.keyI (by rfl) _ _ _ 45 46 (by rfl) Try.underlying45 r mm (by rfl) HMP4.out (t : Int) (by rfl) (.slice (some ⟨g, of, none⟩) (l0.length + 1) cap') (by rfl) ?_
          intro w5 mp5 m5
          have HMP5 := Lib.hid mp5
          have HM5 := Lib.hid m5
          clear mp5 m5 mp4
          go_wp2_with fail
          refine plan_end ?_
          go_wp2_with fail
          go_roundw
          case rel =>
            have z2 := t2.size
            have z3 := hm3.size
            have z4 := HM4.out.size
            have z5 := HM5.out.size
            have zb := HBEL.out.size
            have hr0 : G r := HW.out.2.2.2
            have hrw : r < wr.heap.size := (HG.out r hr0).2
            have hp := Want.put (F' := fun q => G q ∨ w3.heap.size ≤ q) HW3.out (t : Int) (A := A) (A' := some ⟨g, of, none⟩) (c := cp) (c' := cap') (l' := l0 ++ [(p, s)]) HGET.out HM4.out (by simpa [List.flatMap_append, encL] using HOWN4.out) (fun a' ha' => by injection ha' with ha'; subst ha'; rcases HAT4.out with h | h; exact .inl h; right; simp at h; show w3.heap.size ≤ g; omega) HM5.out (by simpa using HMP5.out) (fun q h => .inl h) (fun a' _ h => .inr h)
            have hA0 : ∀ a, A = some a → G a.block := HAG.out
            have hBx : Boxes w5 (fun q => (F q ∨ W2.heap.size ≤ q) ∧ q < w3.heap.size) B (ls.set t (ls[t] ++ [(p, s)])) :=
              ((HB3.out.foot (G := fun q => (F q ∨ W2.heap.size ≤ q) ∧ q < w3.heap.size) (fun q h1 h2 => ⟨h1, h2⟩)).mod HM4.out (fun q h ⟨a, h1, h2⟩ => by
                have h3 := hA0 a h1
                rw [← h2] at h3
                rcases h.1 with h4 | h4
                · exact HFG.out q h4 h3
                · have := (HG.out q h3).2; omega)).mod HM5.out (fun q h h2 => by
                subst h2
                rcases h.1 with h4 | h4
                · exact HFG.out q h4 hr0
                · omega)
            refine ⟨k + 1, by omega, by go_num, _, _, _, _, fun q => (G q ∨ w3.heap.size ≤ q) ∧ q < w5.heap.size, c + 1, by go_num, hBx, hp.foot (fun q h1 h2 => ⟨h1, h2⟩), fun q h => ⟨?_, by omega⟩, fun q h => ⟨?_, h.2⟩, fun q h h' => ?_, ?_, ?_, by omega⟩
            · rcases h.1 with h4 | h4
              · exact (HF.out q h4).1
              · omega
            · rcases h.1 with h4 | h4
              · exact (HG.out q h4).1
              · omega
            · rcases h'.1 with h5 | h5
              · rcases h.1 with h4 | h4
                · exact HFG.out q h4 h5
                · have := (HG.out q h5).2; omega
              · omega
            · refine ((below_tail HBEL.out t2 (by omega)).trans (hm3.below base (by omega) (fun q hq h => by have := (HF.out q h).1; omega))).trans ((HM4.out.below base (by omega) (fun q hq ⟨a, h1, h2⟩ => by have h3 := (HG.out _ (hA0 a h1)).1; omega)).trans (HM5.out.below base (by omega) (fun q hq h => by subst h; have := (HG.out _ hr0).1; omega)))
            · have := HREL.out.send t ht (p, s)
              rw [← HL0.out] at this
              exact this
          case measure => simp [intOf]; omega
        · have hout : tw < 0 ∨ (ls.length : Int) ≤ tw := by have := HREL.out.1; omega
          go_wp2_with fail
          refine (send_out W2 F B ls HB2.out tw hout p s).mono ?_
          rintro e w3 ⟨rfl, hb3⟩
          go_wp2_with fail
          go_roundw
          case rel =>
            have z2 := t2.size
            have z3 := hb3.size
            have zb := HBEL.out.size
            refine ⟨k + 1, by omega, by go_num, ls, mm, lm, F, G, c, rfl, HB2.out.below hb3, HW2.out.mod (Mod.of_below hb3) (fun q h1 h2 h3 => by omega), fun q h => ⟨(HF.out q h).1, by have := (HF.out q h).2; omega⟩, fun q h => ⟨(HG.out q h).1, by have := (HG.out q h).2; omega⟩, HFG.out, below_tail (below_tail HBEL.out t2 (by omega)) hb3 (by omega), HREL.out, by omega⟩
          case measure => simp [intOf]; omega
    · clear HO HR
      go_wp2_with fail
      refine (total_any wr F B ls HBX.out).mono ?_
      rintro e w1 ⟨rfl, rfl⟩
      rw [HREL.out.2.1]
      go_wp2_with fail
      have hI : CInv base W B r m 0 none none 0 0 [] wr :=
        ⟨ls, mm, lm, F, G, HBX.out, HW.out, HF.out, HG.out, HFG.out, hbel, HREL.out.1, by have := HREL.out.2.1; omega, fun q h h' => by omega, fun q h _ => (HREL.out.2.2 q h).symm, fun h => (HREL.out.2.2 0 h).symm, fun h => by cases h⟩
      clear HBX HW HREL HF HG HFG hbel HM
      go_loopw [77] (fun v wr => ∃ i : Nat, i ≤ m ∧ v = .int .i64 i ∧ CInv base W B r m i none none 0 0 [] wr) (fun v _ => m - (intOf v).toNat)
      case atStart => exact ⟨0, Nat.zero_le _, rfl, hI⟩
      case round =>
        clear hI
        obtain ⟨i, hi, rfl, hC⟩ := hrel
        have HC := Lib.hid hC
        clear hC
        by_cases hlt2 : i < m
        · obtain ⟨ls, mm, lm, F, G, hB, hW, hF, hG, hFG, hbel, hlen, htot, hlo, hhi, hat, _⟩ := HC.out
          obtain ⟨A, cp, hget, hrow, hAG⟩ := hW.get (i : Int)
          obtain ⟨l, hl⟩ : ∃ l, l = (mget lm (i : Int)).getD [] := ⟨_, rfl⟩
          rw [← hl] at hget hrow
          have hlook : ∀ u, Below wr.heap.size wr u → (Instr.lookup 45 (.map (some r)) (.int .i64 i) false).run Try.prog u = .ok (.slice A l.length cp) u := fun u hu => by
            have := run_lookup Try.keyI (w := u) Try.underlying45 (z := .slice none 0 0) (fun w => by kernel_rfl) (hW.2.2.1.move (hu.block r hW.2.2.1.lt)) (i : Int) false
            rw [hget] at this
            exact this
          have hlk := hlook wr (Below.refl _ _)
          have hI : CInv base W B r m i (some (l.drop 0)) A l.length cp l wr := ⟨ls, mm, lm, F, G, hB, hW, hF, hG, hFG, hbel, hlen, htot, hlo, hhi, fun h => by rw [hat h, hl]; rfl, fun _ => ⟨rfl, hrow, hAG⟩⟩
          have hl1000 : l.length ≤ 1000000 := by
            have h1 := hat (by omega)
            have h2 := totL_ge (ls := ls) (i := i) (by omega)
            rw [h1] at h2
            simp only [Option.getD_none] at h2
            rw [← hl] at h2
            omega
          clear hB hW hF hG hFG hbel hlen htot hlo hhi hat hget hrow hAG hl hlook
          go_wp2_with fail
          obtain ⟨wo, hwo⟩ : ∃ wo, wo = wr := ⟨_, rfl⟩
          subst hwo
          go_loopw [84] (fun v wi => ∃ j : Nat, j ≤ l.length ∧ v = .int .i64 j ∧ CInv base W B r m i (some (l.drop j)) A l.length cp l wi) (fun v _ => l.length - (intOf v).toNat)
          case atStart => exact ⟨0, Nat.zero_le _, rfl, hI⟩
          case round =>
            clear hI hlk HC
            obtain ⟨j, hj, rfl, hC⟩ := hrel
            have HC := Lib.hid hC
            obtain ⟨ls, mm, lm, F, G, hB, hW, hF, hG, hFG, hbel, hlen, htot, hlo, hhi, hat, hx⟩ := hC
            obtain ⟨_, hrow, hAG⟩ := hx rfl
            have hil : i < ls.length := by omega
            have hat0 : ls[i] = l.drop j := hat hil
            clear hx hat
            by_cases hjl : j < l.length
            · obtain ⟨p, s, hps⟩ : ∃ p s, l[j] = (p, s) := ⟨_, _, rfl⟩
              have hdrop : ls[i] = (p, s) :: l.drop (j + 1) := by rw [hat0, List.drop_eq_getElem_cons hjl, hps]
              obtain ⟨g, o, hAg⟩ := hrow.some_of_pos (by have := hrow.2.1; omega)
              subst hAg
              have hc : ∀ q, q < 2 → wr.cell? ⟨g, o + j * 2 + q, none⟩ = (encL (p, s))[q]? := fun q hq => by
                rw [Nat.add_assoc, hrow.cell (j * 2 + q) (by omega), flat_get (f := encL) (sz := 2) (fun _ => rfl) l j q hjl hq, hps]
              have c0 := hc 0 (by omega)
              have c1 := hc 1 (by omega)
              simp only [encL, List.getElem?_cons_succ, List.getElem?_cons_zero, Nat.add_zero] at c0 c1
              have HB := Lib.hid hB
              have HW := Lib.hid hW
              have HF := Lib.hid hF
              have HG := Lib.hid hG
              have HFG := Lib.hid hFG
              have HBEL := Lib.hid hbel
              have HLEN := Lib.hid hlen
              have HLO := Lib.hid hlo
              have HHI := Lib.hid hhi
              have HROW := Lib.hid hrow
              have HAG := Lib.hid hAG
              have HD := Lib.hid hdrop
              clear hB hW hF hG hFG hbel hlen hlo hhi hrow hAG hdrop hat0 hps hc
              go_upto_region 27 with fail
              obtain ⟨Z, hZ⟩ : ∃ Z, Z = wr.heap.size := ⟨_, rfl⟩
              obtain ⟨W1, hW1⟩ : ∃ W1, W1 = wr.alloc (Obj.cells #[.string p, .int .u8 s] 34) := ⟨_, rfl⟩
              have t1 : Below wr.heap.size wr W1 := by rw [hW1]; exact (Below.refl _ _).alloc (Nat.le_refl _) _
              have hk1 : W1.heap[Z]? = some (.cells #[.string p, .int .u8 s] 34 (0, 0)) := by rw [hW1, hZ]; exact heap_alloc_new wr _
              have lZ : Z < W1.heap.size := blk_lt hk1
              have HZ := Lib.hid hZ
              have hT := take_some W1 F B ls (HB.out.below t1) i hil p s (l.drop (j + 1)) HD.out htot
              have HT := Lib.hid hT
              rw [← hW1, ← hZ]
              clear hW1 hZ c0 c1 hT
              go_wp2_with fail
              refine HT.out.mono ?_
              rintro e w2 ⟨rfl, hB2, hm2⟩
              have HB2 := Lib.hid hB2
              have hZF : ¬ F Z := fun h => by have := (HF.out Z h).2; have := HZ.out; omega
              have hk2 := (hm2.block Z lZ hZF).trans hk1
              have lZ2 := blk_lt hk2
              clear hB2 hk1
              go_upto_region 28 with fail
              obtain ⟨Y, hY⟩ : ∃ Y, Y = w2.heap.size := ⟨_, rfl⟩
              obtain ⟨W2, hW2⟩ : ∃ W2, W2 = w2.alloc (Obj.cells #[.string p, .int .u8 s] 34) := ⟨_, rfl⟩
              have t2 : Below w2.heap.size w2 W2 := by rw [hW2]; exact (Below.refl _ _).alloc (Nat.le_refl _) _
              have hkY : W2.heap[Y]? = some (.cells #[.string p, .int .u8 s] 34 (0, 0)) := by rw [hW2, hY]; exact heap_alloc_new w2 _
              have hkZ := (t2.block Z lZ2).trans hk2
              have d0 : W2.cell? ⟨Z, 0, none⟩ = some (.string p) := by rw [cell_blk hkZ]; rfl
              have d1 : W2.cell? ⟨Z, 1, none⟩ = some (.int .u8 s) := by rw [cell_blk hkZ]; rfl
              have d2 : W2.cell? ⟨Y, 0, none⟩ = some (.string p) := by rw [cell_blk hkY]; rfl
              have d3 : W2.cell? ⟨Y, 1, none⟩ = some (.int .u8 s) := by rw [cell_blk hkY]; rfl
              rw [← hW2, ← hY]
              clear hW2 hY hkY hkZ hk2
              go_wp2_with fail
              go_roundw
              case rel =>
                have y1 := t1.size
                have y2 := hm2.size
                have y3 := t2.size
                have zb := HBEL.out.size
                have hW2' : Want W2 G r mm lm := ((HW.out.mod (Mod.of_below t1) (fun q h1 h2 h3 => by omega)).mod hm2 (fun q h1 h2 h3 => HFG.out q h3 h1)).mod (Mod.of_below t2) (fun q h1 h2 h3 => by omega)
                have hrow2 := ((HROW.out.mod (Mod.of_below_size t1 (fun _ => False)) (fun _ _ h => h)).mod hm2 (fun a ha h => HFG.out _ h (HAG.out a ha))).mod (Mod.of_below_size t2 (fun _ => False)) (fun _ _ h => h)
                refine ⟨j + 1, by omega, by go_num, ls.set i (l.drop (j + 1)), mm, lm, fun q => (F q ∨ W1.heap.size ≤ q) ∧ q < w2.heap.size, G, (HB2.out.foot (G := fun q => (F q ∨ W1.heap.size ≤ q) ∧ q < w2.heap.size) (fun q h1 h2 => ⟨h1, h2⟩)).below t2, hW2', fun q h => ⟨?_, by omega⟩, fun q h => ⟨(HG.out q h).1, by have := (HG.out q h).2; omega⟩, fun q h h' => ?_, ?_, by rw [List.length_set]; exact HLEN.out, ?_, fun q h hq => ?_, fun q h hq => ?_, fun h => ?_, fun _ => ⟨rfl, hrow2, HAG.out⟩⟩
                · rcases h.1 with h4 | h4
                  · exact (HF.out q h4).1
                  · omega
                · rcases h.1 with h4 | h4
                  · exact HFG.out q h4 h'
                  · have := (HG.out q h').2; omega
                · exact below_tail ((below_tail HBEL.out t1 (by omega)).trans (hm2.below base (by omega) (fun q hq h => by have := (HF.out q h).1; omega))) t2 (by omega)
                · have := totL_set hil (l.drop (j + 1))
                  rw [HD.out] at this
                  simp only [List.length_cons] at this
                  omega
                · rw [List.getElem_set_ne (by omega)]
                  exact HLO.out q (by simpa using h) hq
                · rw [List.getElem_set_ne (by omega)]
                  exact HHI.out q (by simpa using h) hq
                · rw [List.getElem_set_self]
                  rfl
              case measure => simp [intOf]; omega
            · have hjl' : j = l.length := by omega
              have hz : boxLen ls i = 0 := by
                unfold boxLen
                rw [if_pos (by omega), List.getD_eq_getElem?_getD]
                simp only [Int.toNat_natCast]
                rw [List.getElem?_eq_getElem hil, Option.getD_some, hat0, hjl', List.drop_length]
                rfl
              have HZ := Lib.hid hz
              have hI2 : CInv base W B r m (i + 1) none none 0 0 [] wr := by
                refine ⟨ls, mm, lm, F, G, hB, hW, hF, hG, hFG, hbel, hlen, htot, fun q h hq => ?_, fun q h hq => hhi q h (by omega), fun h => hhi (i + 1) h (by omega), fun h => by cases h⟩
                by_cases hqi : q = i
                · subst hqi
                  rw [hat0, hjl', List.drop_length]
                · exact hlo q h (by omega)
              have HI2 := Lib.hid hI2
              have HB := Lib.hid hB
              clear hz hjl' hB hW hF hG hFG hbel hlen hlo hhi hrow hAG hat0 hI2
              go_wp2_with fail
              refine (len_any wr F B ls HB.out i).mono ?_
              rintro e w1 ⟨rfl, rfl⟩
              rw [HZ.out]
              go_wp2_with fail
              go_roundw
              case rel => exact ⟨i + 1, by omega, by go_num, HI2.out⟩
              case measure => simp [intOf]; omega
        · obtain ⟨ls, mm, lm, F, G, hB, hW, hF, hG, hFG, hbel, hlen, htot, hlo, hhi, hat, _⟩ := HC.out
          have hz : totL ls = 0 := by
            have : ∀ l ∈ ls, l = [] := fun l hl => by
              obtain ⟨q, hq, rfl⟩ := List.getElem_of_mem hl
              exact hlo q hq (by omega)
            unfold totL
            clear hB hlo hhi hat hlen htot
            induction ls with
            | nil => rfl
            | cons a ls ih => simp [this a (by simp)]; simpa using ih (fun l hl => this l (by simp [hl]))
          have HZ := Lib.hid hz
          have HB := Lib.hid hB
          have HBEL := Lib.hid hbel
          clear hz hB hW hF hG hFG hbel hlen hlo hhi hat
          go_wp2_with fail
          refine (total_any wr F B ls HB.out).mono ?_
          rintro e w1 ⟨rfl, rfl⟩
          rw [HZ.out]
          go_wp2_with fail
          go_ret
          exact ⟨rfl, HBEL.out⟩

theorem encA_read {H : Type} {enc : TypeId × Value → H} {w : World} {base : Nat} {spare : Nat → Bool} {held : Bool} (fuel : Nat) (c : List Value) (y : DataW H × List MemPlace) (_ : c.length = 4)
    (h : DataW.trod enc Try.prog w base spare held fuel 30 c = some y) : ∃ x : AOp, c = encA x ∧ (-9223372036854775808 ≤ x.1 ∧ x.1 ≤ 9223372036854775807 ∧ -9223372036854775808 ≤ x.2.1 ∧ x.2.1 ≤ 9223372036854775807 ∧ x.2.2.2 ≤ 255) := by
  obtain ⟨kd, tw, p, s, rfl, w1, w2, w3⟩ := op_read h
  obtain ⟨s, rfl, hs⟩ := u8_bounds w3
  exact ⟨(kd, tw, p, s), rfl, (i64_bounds w1).1, (i64_bounds w1).2, (i64_bounds w2).1, (i64_bounds w2).2, hs⟩

set_option maxRecDepth 100000 in
theorem MailAll_walk {H : Type} {enc : TypeId × Value → H} (W : World) {base : Nat} {v0 v1 : Value} {d0 d1 : DataW H} {p0 p1 : List MemPlace}
    (o0 : Value.okWide Try.prog W .any base 3 v0) (h0 : DataW.Trod enc Try.prog W 0 (fun _ => true) true 3 v0 d0 p0)
    (o1 : Value.okWide Try.prog W .any base 22 v1) (h1 : DataW.Trod enc Try.prog W 0 (fun _ => true) true 22 v1 d1 p1) :
    Calls Try.prog 5 #[v0, v1] W fun e w' => e = .returned (.bool true) ∧ Below W.heap.size W w' := by
  obtain ⟨n, rfl, rfl, rfl, wn⟩ := open_int Try.underlying3 o0 h0
  obtain ⟨A, len, cap, rfl⟩ := okWide_slice Try.underlying22 o1
  obtain ⟨fuel, hf⟩ := h1
  obtain ⟨ops, hl, hg, hr, h1, h2⟩ := tr_list (f := encA) (sz := 4) (by omega) Try.underlying22 (by kernel_rfl) encA_read (by simpa [Value.cells] using hf)
  subst hl
  exact mailAll_any W n A cap ops (i64_bounds wn) hg hr.toB (by omega)
namespace mailAll
theorem own : ownKnob Try.prog.godebug = none := by kernel_rfl
theorem laidOut : laidOutB Try.prog = true := by kernel_rfl
set_option maxRecDepth 100000 in
theorem lifted (os : Os) (started : os.Started) (H : Type) (enc : TypeId × Value → H) :
    ReturnsInHanded {} Try.checked os 5 .any (Rows.mailAllSpec.pre6 enc Try.prog Try.f5 Rows.mailAllRow.domain false) (Rows.mailAllSpec.post enc Try.prog Try.f5 false true false false) := by
  refine returnsInHanded_of_change_sized (C := Try.checked) own started (by kernel_rfl) Try.func5
    (ChangeSpec.witness6 (enc := enc) (C := Try.checked) false ⟨#[], #[.int .i64 0, .slice none 0 0], []⟩ 8 (by kernel_rfl) (by kernel_rfl) (by kernel_rfl) (by kernel_rfl)) ?_
  intro W base args ds gs before hval0 hW hcnd hsz0 _
  have hval : ∀ (j : Nat) t v, Try.f5.params[j]? = some t → args[j]? = some v → Value.okWide Try.prog W .any base t v := hval0
  have hW' := hW
  obtain ⟨p, q, hA0, hV, rfl, hfz, hnd⟩ := hW
  have hA : DataW.TrodAll enc Try.prog W 0 (fun _ => true) true Try.f5.params.toList args.toList ds p := hA0
  rw [Try.params5] at hA hval
  obtain ⟨v0, vs0, d0, ds0, p0, q0, hargs, rfl, rfl, h0, r0⟩ := trodAll_cons hA
  obtain ⟨v1, vs1, d1, ds1, p1, q1, rfl, rfl, rfl, h1, r1⟩ := trodAll_cons r0
  obtain ⟨rfl, rfl, rfl⟩ := trodAll_nil r1
  obtain rfl : args = #[v0, v1] := by cases args; simp_all
  obtain ⟨rfl, rfl⟩ := trodVars_none hV
  have lt0 : ∀ x ∈ p0, x.block < W.heap.size := by obtain ⟨m, hm⟩ := h0; exact DataW.trod_lt m _ _ _ hm
  have lt1 : ∀ x ∈ p1, x.block < W.heap.size := by obtain ⟨m, hm⟩ := h1; exact DataW.trod_lt m _ _ _ hm
  clear hA0 hval0 hsz0
  refine (MailAll_walk W (hval 0 3 v0 rfl rfl) h0 (hval 1 22 v1 rfl rfl) h1).mono fun e W' ⟨he, bel⟩ => ?_
  subst he
  exact ⟨_, rfl, _, _, _, [], _, [], hW', trodAll_mk1 (shut_bool Try.underlying4 _), (trodAll_cons_mk (Below.trod laidOut (by kernel_rfl) (of_decide_eq_true (by kernel_rfl)) h0 bel lt0) (trodAll_cons_mk (Below.trod laidOut (by kernel_rfl) (of_decide_eq_true (by kernel_rfl)) h1 bel lt1) trodAll_mk0)), rfl, bel.frame _, fun h => (by cases h)⟩
theorem over : Rows.mailAllRow.holds Try.pinned (OpenSpec.ofChange Rows.mailAllSpec) :=
  OpenClaim.holds_of_wide 5 Try.f5 rfl rfl rfl rfl rfl rfl rfl ⟨rfl, rfl, rfl, rfl, rfl⟩ rfl rfl rfl rfl rfl (by kernel_rfl) Try.func5 (by kernel_rfl)
    (of_decide_eq_true (by kernel_rfl)) (by unfold Func.isWrapper; first | (rw [if_pos (by decide +kernel)]; kernel_rfl) | (rw [if_neg (by decide +kernel)]; exact ⟨rfl, rfl⟩))
    (fun os started H enc _ => lifted os started H enc)
end mailAll
/-- The row. -/
theorem mailAll_holds : Rows.MailAllSaid := mailAll.over
#print axioms mailAll_holds
end Go.Proofs.Ytedogccbndjdpaa
