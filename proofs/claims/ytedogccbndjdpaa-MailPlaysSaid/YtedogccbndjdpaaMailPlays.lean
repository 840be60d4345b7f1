/- What is proved: MailPlays: in every order of sending and taking each letter comes once, to its worker, in order; lengths and totals are the document's. No condition. -/
import Derived.Test.YtedogccbndjdpaaMailP
import Derived.Test.YtedogccbndjdpaaMailO
import Derived.Deep.DeepCutAuto
import Derived.Deep.CutBlock
import Derived.IntWalk
namespace Go.Proofs.Ytedogccbndjdpaa
open Go.ChangeShapes Go.WideShapes Go.ChangeAt Go.RowKit
set_option linter.unusedVariables false

/-- a call: its kind, its worker, prefix, set -/
abbrev MOp := Int × Int × ByteArray × Nat
def encO (o : MOp) : List Value := [.int .i64 o.1, .int .i64 o.2.1, .string o.2.2.1, .int .u8 o.2.2.2]
theorem Try.infoW : (Try.prog.info? 36).map (fun i => (i.zero, i.size, i.bytes)) = some (some (.agg #[.int .i64 0, .int .i64 0, .string ⟨#[]⟩]), 3, 32) := by kernel_rfl

def inR (t : Int) (m : Nat) : Bool := decide (0 ≤ t ∧ t < m)
/-- what the loop keeps -/
def MInv (base : Nat) (W : World) (B n k : Nat) (v : Value) (wr : World) : Prop :=
  ∃ A cap ls ws F, v = .slice A ws.length cap ∧ Row wr 36 3 A ws.length cap (ws.flatMap encW) ∧ Boxes wr F B ls ∧ (∀ q, F q → base ≤ q ∧ q < wr.heap.size) ∧ (∀ a, A = some a → ¬ F a.block ∧ base ≤ a.block) ∧ Below base W wr ∧ Rel n ls ws ∧ ws.length ≤ k ∧ (∀ l ∈ ws, l.2.1 ≤ 255)

/-- the loop's word, out of the boxes at one world and the list at a later one -/
theorem minv_mk {base : Nat} {W w2 w3 : World} {B m k : Nat} {ls : List (List Ltr)} {ws : List WLtr} {F G : Nat → Prop} {A : Option Addr} {cap n : Nat} (hn : n = ws.length) (hWb : base ≤ W.heap.size) (hb : Below base W w2) (hB : Boxes w2 F B ls) (hF : ∀ q, F q → base ≤ q)
    (hm : Mod G w2 w3) (hG : ∀ q, q < w2.heap.size → G q → ¬ F q ∧ base ≤ q) (hr : Row w3 36 3 A ws.length cap (ws.flatMap encW)) (hA : ∀ a, A = some a → (a.block < w2.heap.size → ¬ F a.block) ∧ base ≤ a.block) (hrel : Rel m ls ws) (hk : ws.length ≤ k) (h255 : ∀ l ∈ ws, l.2.1 ≤ 255) :
    MInv base W B m k (.slice A n cap) w3 := by
  subst hn
  have hsz := hm.size
  refine ⟨A, cap, ls, ws, fun q => F q ∧ q < w2.heap.size, rfl, hr, (hB.foot (G := fun q => F q ∧ q < w2.heap.size) (fun q h1 h2 => ⟨h1, h2⟩)).mod hm (fun q h1 h2 => (hG q h1.2 h2).1 h1.1), fun q h => ⟨hF q h.1, by omega⟩, fun a ha => ⟨fun h => (hA a ha).1 h.2 h.1, (hA a ha).2⟩, ?_, hrel, hk, h255⟩
  have hs2 := hb.size
  exact hb.trans (hm.below base (by omega) (fun q hq h => by have := (hG q (by omega) h).2; omega))

theorem MInv.drew {base : Nat} {W w : World} {B m k : Nat} {v : Value} (h : MInv base W B m k v w) : MInv base W B m k v w.drew := by
  obtain ⟨A, cap, ls, ws, F, hv, hr, hB, hF, hA, hb, hrel, hk, h255⟩ := h
  exact ⟨A, cap, ls, ws, F, hv, hr.mod ((Mod.refl (fun _ => False) _).drew) (fun _ _ h => h), hB.below ((Below.refl _ _).drew), hF, hA, hb.drew, hrel, hk, h255⟩

set_option maxRecDepth 100000 in
set_option maxHeartbeats 4000000 in
theorem mailPlays_any (W : World) (n : Int) (A0 : Option Addr) (cap0 : Nat) (ops : List MOp) (hn : -9223372036854775808 ≤ n ∧ n ≤ 9223372036854775807) (hops : ∀ o ∈ ops, -9223372036854775808 ≤ o.1 ∧ o.1 ≤ 9223372036854775807 ∧ -9223372036854775808 ≤ o.2.1 ∧ o.2.1 ≤ 9223372036854775807 ∧ o.2.2.2 ≤ 255)
    (hr : RdB W W.heap.size 4 A0 ops.length (ops.flatMap encO)) (hmax : ops.length ≤ maxLen) :
    Calls Try.prog 3 #[.int .i64 n, .slice A0 ops.length cap0] W fun e w' => e = .returned (.bool true) ∧ Below W.heap.size W w' := by
  unfold maxLen at hmax
  obtain ⟨i1, hi1, hy0, hy1, hy2⟩ := info_parts Try.infoW
  have HR := Lib.hid hr
  have HO := Lib.hid hops
  clear hr hops
  by_cases hlen : 300 < ops.length
  · go_enter Try.func3, Try.ntmps3
    go_wp2_with fail
    refine (awake12 _).mono ?_
    rintro e w1 ⟨rfl, b1⟩
    go_wp2_with fail
    refine (awake12 _).mono ?_
    rintro e w2 ⟨rfl, b2⟩
    go_wp2_with fail
    go_ret
    exact ⟨rfl, below_tail b1 b2 b1.size⟩
  by_cases hbad : n < 1 ∨ 64 < n
  · have HB := Lib.hid hbad
    rcases hbad with hbad | hbad
    all_goals
      go_enter Try.func3, Try.ntmps3
      go_wp2_with fail
      refine (awake12 _).mono ?_
      rintro e w1 ⟨rfl, b1⟩
      go_wp2_with fail
      refine (new_bad n _ HB.out).mono ?_
      rintro e w2 ⟨rfl, rfl⟩
      go_wp2_with fail
      go_ret
      exact ⟨rfl, b1⟩
  obtain ⟨m, rfl⟩ : ∃ m : Nat, n = m := ⟨n.toNat, by omega⟩
  have hm1 : 1 ≤ m := by omega
  have hm2 : m ≤ 64 := by omega
  obtain ⟨base, hbase⟩ : ∃ base, base = W.heap.size := ⟨_, rfl⟩
  rw [← hbase] at HR ⊢
  have hWb : base ≤ W.heap.size := by omega
  go_enter Try.func3, Try.ntmps3
  go_wp2_with fail
  refine (awake12 _).mono ?_
  rintro e w1 ⟨rfl, b1⟩
  have z1 : base ≤ w1.heap.size := by have := b1.size; omega
  rw [← hbase] at b1
  go_wp2_with fail
  refine (new_good m _ hm1 hm2).mono ?_
  rintro e w2 ⟨B, rfl, hB, b2⟩
  have b3 := below_tail b1 b2 z1
  have hI : MInv base W B m 0 (.slice none 0 0) w2 := ⟨none, 0, _, [], _, rfl, Row.nil _ _ _, hB.foot (G := fun k => w1.heap.size ≤ k ∧ k < w2.heap.size) (fun k h1 h2 => ⟨h1, h2⟩), fun q h => ⟨by omega, h.2⟩, fun a h => (by cases h), b3, Rel.start m, Nat.le_refl _, fun l h => (by cases h)⟩
  clear hB b1 b2 b3 z1 hbase hbad
  go_wp2_with fail
  go_loopw [7, 42] (fun v i wr => ∃ k : Nat, k ≤ ops.length ∧ i = .int .i64 k ∧ MInv base W B m k v wr) (fun _ i _ => ops.length - (intOf i).toNat)
  case atStart => exact ⟨0, Nat.zero_le _, rfl, hI⟩
  case round =>
    clear hI
    obtain ⟨k, hk, rfl, hM⟩ := hrel
    have HM := Lib.hid hM
    obtain ⟨A, cap, ls, ws, F, rfl, hrow, hB, hF, hA, hbel, hrel, hwk, h255⟩ := hM
    have H255 := Lib.hid h255
    clear h255
    have HROW := Lib.hid hrow
    have HBX := Lib.hid hB
    have HREL := Lib.hid hrel
    have HA := Lib.hid hA
    clear hrow hB hrel hA
    by_cases hlt : k < ops.length
    · obtain ⟨g0, o0, rfl, hg0, hc0⟩ := HR.out.2 (by omega)
      obtain ⟨kd, tw, p, s, hop⟩ : ∃ kd tw p s, ops[k] = (kd, tw, p, s) := ⟨_, _, _, _, rfl⟩
      have hbd := HO.out _ (List.getElem_mem hlt)
      have hcl : ∀ r, r < 4 → wr.cell? ⟨g0, o0 + k * 4 + r, none⟩ = (encO (kd, tw, p, s))[r]? := fun r hr => by
        rw [Nat.add_assoc, World.cell?_of_block (hbel.block g0 hg0), hc0 (k * 4 + r) (by omega), flat_get (f := encO) (sz := 4) (fun _ => rfl) ops k r hlt hr, hop]
      rw [hop] at hbd
      have v0 := hcl 0 (by omega)
      have v1 := hcl 1 (by omega)
      have v2 := hcl 2 (by omega)
      have v3 := hcl 3 (by omega)
      simp only [encO, List.getElem?_cons_succ, List.getElem?_cons_zero, Nat.add_zero] at v0 v1 v2 v3
      have HOP := Lib.hid hop
      have HBEL := Lib.hid hbel
      have HF := Lib.hid hF
      clear hc0 hcl hop hbel hF
      go_upto_region 10 with fail
      obtain ⟨X, hX⟩ : ∃ X, X = wr.heap.size := ⟨_, rfl⟩
      obtain ⟨W1, hW1⟩ : ∃ W1, W1 = wr.alloc (Obj.cells #[.int .i64 kd, .int .i64 tw, .string p, .int .u8 s] 30) := ⟨_, rfl⟩
      have t1 : Below wr.heap.size wr W1 := by rw [hW1]; exact (Below.refl _ _).alloc (Nat.le_refl _) _
      have hk1 : W1.heap[X]? = some (.cells #[.int .i64 kd, .int .i64 tw, .string p, .int .u8 s] 30 (0, 0)) := by rw [hW1, hX]; exact heap_alloc_new wr _
      have lX : X < W1.heap.size := blk_lt hk1
      have c0 : W1.cell? ⟨X, 0, none⟩ = some (.int .i64 kd) := by rw [cell_blk hk1]; rfl
      have c1 : W1.cell? ⟨X, 1, none⟩ = some (.int .i64 tw) := by rw [cell_blk hk1]; rfl
      have c2 : W1.cell? ⟨X, 2, none⟩ = some (.string p) := by rw [cell_blk hk1]; rfl
      have c3 : W1.cell? ⟨X, 3, none⟩ = some (.int .u8 s) := by rw [cell_blk hk1]; rfl
      have HX := Lib.hid hX
      rw [← hW1, ← hX]
      clear hW1 hX
      by_cases hsz : 50 < p.size
      · go_wp2
        go_ret
        exact ⟨rfl, below_tail HBEL.out t1 (by have := HBEL.out.size; omega)⟩
      · go_upto_region 12 with fail
        go_cut [10] (fun v w2 => v = .bool (inR tw m) ∧ W1 = w2)
        case first =>
          by_cases h1 : 0 ≤ tw
          · by_cases h2 : tw < m
            · have hb : inR tw m = true := by unfold inR; simp; omega
              go_wp2
              go_meet
              exact ⟨by rw [hb], rfl⟩
            · have hb : inR tw m = false := by unfold inR; simp; omega
              go_wp2
              go_meet
              exact ⟨by rw [hb], rfl⟩
          · have hb : inR tw m = false := by unfold inR; simp; omega
            go_wp2
            go_meet
            exact ⟨by rw [hb], rfl⟩
        case rest =>
          obtain ⟨rfl, rfl⟩ := hcut
          obtain ⟨b, hb⟩ : ∃ b, b = inR tw m := ⟨_, rfl⟩
          rw [← hb]
          have HBB := Lib.hid hb
          clear hb
          go_upto_if 61 with fail
          go_cut [7] (fun v w2 => MInv base W B m (k + 1) v w2 ∧ w2.heap[X]? = some (.cells #[.int .i64 kd, .int .i64 tw, .string p, .int .u8 s] 30 (0, 0)))
          case first =>
            have hB1 : Boxes W1 F B ls := HBX.out.below t1
            have HB1 := Lib.hid hB1
            have hbel1 : Below base W W1 := below_tail HBEL.out t1 (by have := HBEL.out.size; omega)
            have HBEL1 := Lib.hid hbel1
            have hrow1 : Row W1 36 3 A ws.length cap (ws.flatMap encW) := HROW.out.mod (Mod.of_below_size t1 (fun _ => False)) (fun _ _ h => h)
            have HROW1 := Lib.hid hrow1
            have htot : totL ls < 1000000 := by have := HREL.out.2.1; omega
            have hXF : ¬ F X := fun h => by have := (HF.out X h).2; have := HX.out; omega
            clear hB1 hbel1 hrow1
            by_cases hkd : kd = 1
            · have e1 : (kd == 1) = true := by simpa using hkd
              have HKD := Lib.hid hkd
              clear hkd
              cases b with
              | true =>
                --[
                have hb' : 0 ≤ tw ∧ tw < m := by have hb := HBB.out; unfold inR at hb; simpa using hb.symm
                obtain ⟨t, rfl⟩ := Int.eq_ofNat_of_zero_le hb'.1
                have ht : t < ls.length := by have := HREL.out.1; omega
                go_wp2_with fail
                refine (send_in W1 F B ls t p s HB1.out ht htot).mono ?_
                rintro e w2 ⟨rfl, hB2, hm2⟩
                have HB2 := Lib.hid hB2
                have hk2 := (hm2.block X lX hXF).trans hk1
                have d1 : w2.cell? ⟨X, 1, none⟩ = some (.int .i64 t) := by rw [cell_blk hk2]; rfl
                have d2 : w2.cell? ⟨X, 2, none⟩ = some (.string p) := by rw [cell_blk hk2]; rfl
                have d3 : w2.cell? ⟨X, 3, none⟩ = some (.int .u8 s) := by rw [cell_blk hk2]; rfl
                have hs255 : s ≤ 255 := hbd.2.2.2.2
                have hrow2 : Row w2 36 3 A ws.length cap (ws.flatMap encW) := HROW1.out.mod hm2 (fun a ha => (HA.out a ha).1)
                have HROW2 := Lib.hid hrow2
                have hrow2' : ∀ O : Obj, Row (w2.alloc O) 36 3 A ws.length cap (ws.flatMap encW) := fun O => HROW2.out.move (fun a ha => heap_alloc_old w2 O (by subst ha; exact HROW2.out.lt))
                have hwl : ws.length < 1000 := by omega
                clear hB2 hrow2
                go_wp2_with (at_builtin; refine wpList_append_row (by rfl) _ _ _ (by rfl) 36 i1 _ 3 32 Try.underlying28 hi1 hy0 hy1 hy2 rfl (by omega) A ws.length cap (ws.flatMap encW) (by rfl) (hrow2' _) ⟨w2.heap.size, 0, none⟩ 1 1 [.int .i64 t, .int .i64 s, .string p] (by rfl) (by rfl) (World.news_of_block (cs := #[.int .i64 t, .int .i64 s, .string p]) (t := 36) (fr := (0, 0)) (heap_alloc_new w2 _)) (by simp [Value.oneCell']) (by omega) (by unfold maxLen; omega) (by omega) ?_; intro g of cap' w3 hown3 hgrow3 hat3)
                go_meet
                have a2 : Below w2.heap.size w2 (w2.alloc (Obj.cells #[.int .i64 t, .int .i64 s, .string p] 36)) := (Below.refl _ _).alloc (Nat.le_refl _) _
                have hm3 : Mod (fun q => ∃ a, A = some a ∧ q = a.block) w2 w3 := (Mod.of_below_size a2 _).trans hgrow3
                have zb := HBEL.out.size
                have z1 := t1.size
                have z2 := hm2.size
                have xx := HX.out
                refine ⟨minv_mk (ws := ws ++ [((t : Int), s, p)]) (by simp) hWb (HBEL1.out.trans (hm2.below base (by omega) (fun q hq h => by have := (HF.out q h).1; omega))) HB2.out (fun q h => by rcases h with h | h; exact (HF.out q h).1; omega) hm3 ?_ (by simpa [List.flatMap_append, encW] using hown3) ?_ (HREL.out.send t ht p s) (by simp; omega) (fun l hl => by rcases List.mem_append.1 hl with hl | hl; exact H255.out l hl; simp only [List.mem_singleton] at hl; subst hl; exact hs255), (hm3.block X (by omega) ?_).trans hk2⟩
                · rintro q hq ⟨a, h1, rfl⟩
                  have hA1 := HA.out a h1
                  have hlt1 : a.block < W1.heap.size := by subst h1; exact HROW1.out.lt
                  exact ⟨fun h => by rcases h with h | h; exact hA1.1 h; omega, hA1.2⟩
                · intro a ha
                  injection ha with ha
                  subst ha
                  rcases hat3 with ⟨a, h1, h2⟩ | h
                  · have hA1 := HA.out a h1
                    have hlt1 : a.block < W1.heap.size := by subst h1; exact HROW1.out.lt
                    simp only at h2 ⊢
                    rw [h2]
                    exact ⟨fun _ h => by rcases h with h | h; exact hA1.1 h; omega, hA1.2⟩
                  · simp at h
                    simp only
                    exact ⟨fun h' => by omega, by omega⟩
                · rintro ⟨a, h1, h2⟩
                  have hlt1 : a.block < wr.heap.size := by subst h1; exact HROW.out.lt
                  omega
                --]
              | false =>
                --[
                have hb' : ¬ (0 ≤ tw ∧ tw < m) := by have hb := HBB.out; unfold inR at hb; simpa using hb.symm
                have hout : tw < 0 ∨ (ls.length : Int) ≤ tw := by have := HREL.out.1; omega
                go_wp2_with fail
                refine (send_out W1 F B ls HB1.out tw hout p s).mono ?_
                rintro e w2 ⟨rfl, hb2⟩
                go_wp2_with fail
                go_meet
                have z1 := t1.size
                have zb := HBEL.out.size
                have zw := hb2.size
                refine ⟨minv_mk (G := fun _ => False) rfl hWb (below_tail HBEL1.out hb2 (by omega)) (HB1.out.below hb2) (fun q h => (HF.out q h).1) (Mod.refl _ _) (fun _ _ h => h.elim) (HROW1.out.mod (Mod.of_below_size hb2 (fun _ => False)) (fun _ _ h => h)) (fun a ha => ⟨fun _ => (HA.out a ha).1, (HA.out a ha).2⟩) HREL.out (by omega) H255.out, (hb2.block X lX).trans hk1⟩
                --]
            · have e1 : (kd == 1) = false := by simpa using hkd
              have hwl : ws.length < 1000 := by omega
              rcases first_cases ws tw with ⟨hc0, hfv⟩ | ⟨j, hj, hje, hfv, hcpos, hno⟩
              · --[
                have HFV := Lib.hid hfv
                have hl0 : boxLen ls tw = 0 := by rw [HREL.out.len]; exact hc0
                have HL0 := Lib.hid hl0
                clear hc0 hfv hl0 hkd
                go_wp2_with fail
                refine (take_none W1 F B ls HB1.out tw HL0.out).mono ?_
                rintro e w2 ⟨rfl, hb2⟩
                obtain ⟨W2, hW2⟩ : ∃ W2, W2 = w2.alloc (Obj.cells #[.string ⟨#[]⟩, .int .u8 0] 34) := ⟨_, rfl⟩
                have hb3 : Below W1.heap.size W1 W2 := by rw [hW2]; exact hb2.alloc hb2.size _
                have hk2 : W2.heap[w2.heap.size]? = some (.cells #[.string ⟨#[]⟩, .int .u8 0] 34 (0, 0)) := by rw [hW2]; exact heap_alloc_new w2 _
                have lW2 := blk_lt hk2
                obtain ⟨Y, hY⟩ : ∃ Y, Y = w2.heap.size := ⟨_, rfl⟩
                have d0 : W2.cell? ⟨X, 1, none⟩ = some (.int .i64 tw) := by rw [cell_blk ((hb3.block X lX).trans hk1)]; rfl
                rw [← hY] at hk2 lW2
                have d1 : W2.cell? ⟨Y, 0, none⟩ = some (.string ⟨#[]⟩) := by rw [cell_blk hk2]; rfl
                have d2 : W2.cell? ⟨Y, 1, none⟩ = some (.int .u8 0) := by rw [cell_blk hk2]; rfl
                have hrow2 : Row W2 36 3 A ws.length cap (ws.flatMap encW) := HROW1.out.mod (Mod.of_below_size hb3 (fun _ => False)) (fun _ _ h => h)
                have HROW2 := Lib.hid hrow2
                clear hb2 hrow2
                go_upto_region 20 with fail
                rw [← hW2, ← hY]
                clear hW2 hY
                go_wp2_with fail
                refine (first_any W2 A cap ws tw HROW2.out.rd (by omega)).mono ?_
                rintro e w3 ⟨rfl, rfl⟩
                rw [HFV.out]
                go_wp2_with fail
                refine wp_region_plan (by kernel_rfl) (fun u => Mod (fun _ => False) W2 u) [] [(0, .pure), (1, .pure), (2, .pure), (3, .pure), (4, .pure), (5, .pure), (6, .pure), (7, .pure), (8, .load), (9, .pure), (10, .pure), (11, .pure), (12, .pure), (13, .load), (14, .pure), (15, .pure), (16, .pure), (17, .load), (18, .pure), (19, .pure), (20, .pure), (21, .pure), (22, .pure), (23, .load), (24, .pure), (25, .pure), (26, .pure), (27, .pure), (28, .pure), (29, .pure), (30, .pure), (31, .pure), (32, .load), (33, .pure), (34, .pure), (35, .pure), (36, .pure)] (by simp only [List.map_cons, List.map_nil, List.getElem?_toArray, List.getElem?_cons_succ, List.getElem?_cons_zero]; rfl) (by kernel_rfl) (fun _ _ d _ _ h => by cases d <;> exact h) ((Mod.refl _ _).drew) ?_
                repeat (first
                  | (refine plan_pure (v := ?_) (by rfl) (fun w1 => ?_) ?_
                     rotate_left
                     · go_simp <;> with_reducible rfl
                     simp only [Act.put, List.setIfInBounds_toArray, List.set_cons_zero, List.set_cons_succ])
                  | (refine plan_off (by rfl) ?_
                     simp only [Act.put, List.setIfInBounds_toArray, List.set_cons_zero, List.set_cons_succ])
                  | (refine plan_load_off (by rfl) ?_
                     simp only [Act.put, List.setIfInBounds_toArray, List.set_cons_zero, List.set_cons_succ])
                  | (refine plan_load (v := ?_) (by rfl) (fun w1 hw1 => ?_) ?_
                     rotate_left
                     · (have q0 := (hw1.cell Y 0 lW2 id).trans d1
                        have q1 := (hw1.cell Y 1 lW2 id).trans d2
                        clear hw1
                        go_simp <;> with_reducible rfl)
                     simp only [Act.put, List.setIfInBounds_toArray, List.set_cons_zero, List.set_cons_succ]))
                refine plan_end ?_
                go_wp2_with fail
                go_meet
                have z1 := t1.size
                have zb := HBEL.out.size
                have zw := hb3.size
                refine ⟨minv_mk (G := fun _ => False) rfl hWb (below_tail HBEL1.out hb3 (by omega)) (HB1.out.below hb3) (fun q h => (HF.out q h).1) ((Mod.refl _ _).drew) (fun _ _ h => h.elim) (HROW2.out.mod ((Mod.refl (fun _ => False) _).drew) (fun _ _ h => h)) (fun a ha => ⟨fun _ => (HA.out a ha).1, (HA.out a ha).2⟩) HREL.out (by omega) H255.out, (hb3.block X lX).trans hk1⟩
                --]
              · --[
                obtain ⟨hi0, him⟩ := HREL.out.count_range hcpos
                obtain ⟨t, rfl⟩ := Int.eq_ofNat_of_zero_le hi0
                have ht : t < ls.length := by have := HREL.out.1; omega
                obtain ⟨r, hlr, hrel2⟩ := HREL.out.take j t hj ht hje hno
                obtain ⟨to', s', p', hwj⟩ : ∃ to' s' p', ws[j] = (to', s', p') := ⟨_, _, _, rfl⟩
                have hlr' : ls[t] = (p', s') :: r := by rw [hlr, hwj]; rfl
                have HREL2 := Lib.hid hrel2
                have HLR := Lib.hid hlr'
                have HFV := Lib.hid hfv
                have HNO := Lib.hid hno
                have HWJ := Lib.hid hwj
                clear hrel2 hlr' hlr hfv hno hwj hje hcpos hkd
                have hT := take_some W1 (fun q => F q ∧ q < X) B ls (HB1.out.foot (fun q h _ => ⟨h, by have := (HF.out q h).2; have := HX.out; omega⟩)) t ht p' s' r HLR.out htot
                have HT := Lib.hid hT
                clear hT
                go_wp2_with fail
                refine HT.out.mono ?_
                rintro e w2 ⟨rfl, hB2, hm2⟩
                have HB2 := Lib.hid hB2
                have hX2 := (hm2.block X lX (fun h => by omega)).trans hk1
                obtain ⟨W2, hW2⟩ : ∃ W2, W2 = w2.alloc (Obj.cells #[.string p', .int .u8 s'] 34) := ⟨_, rfl⟩
                have hb3 : Below w2.heap.size w2 W2 := by rw [hW2]; exact (Below.refl _ _).alloc (Nat.le_refl _) _
                have hk2 : W2.heap[w2.heap.size]? = some (.cells #[.string p', .int .u8 s'] 34 (0, 0)) := by rw [hW2]; exact heap_alloc_new w2 _
                have lW2 := blk_lt hk2
                obtain ⟨Y, hY⟩ : ∃ Y, Y = w2.heap.size := ⟨_, rfl⟩
                have hX3 := (hb3.block X (blk_lt hX2)).trans hX2
                have d0 : W2.cell? ⟨X, 1, none⟩ = some (.int .i64 t) := by rw [cell_blk hX3]; rfl
                rw [← hY] at hk2 lW2
                have d1 : W2.cell? ⟨Y, 0, none⟩ = some (.string p') := by rw [cell_blk hk2]; rfl
                have d2 : W2.cell? ⟨Y, 1, none⟩ = some (.int .u8 s') := by rw [cell_blk hk2]; rfl
                have hrow2 : Row W2 36 3 A ws.length cap (ws.flatMap encW) := (HROW1.out.mod hm2 (fun a ha h => (HA.out a ha).1 h.1)).mod (Mod.of_below_size hb3 (fun _ => False)) (fun _ _ h => h)
                have HROW2 := Lib.hid hrow2
                obtain ⟨g, o, hAg⟩ := hrow2.some_of_pos (by have := hrow2.2.1; omega)
                have hd : ∀ q, q < 3 → W2.cell? ⟨g, o + j * 3 + q, none⟩ = (encW (to', s', p'))[q]? := fun q hq => by
                  have hh := hrow2
                  rw [hAg] at hh
                  rw [Nat.add_assoc, hh.cell (j * 3 + q) (by omega), flat_get (f := encW) (sz := 3) (fun _ => rfl) ws j q hj hq, HWJ.out]
                have d3 := hd 1 (by omega)
                have d4 := hd 2 (by omega)
                simp only [encW, List.getElem?_cons_succ, List.getElem?_cons_zero] at d3 d4
                have lg : g < W2.heap.size := by have hh := hrow2; rw [hAg] at hh; exact hh.lt
                obtain ⟨i1', hi1', hy0', hy1', hy2'⟩ := info_parts Try.infoW
                have hto := hrow2.rd
                have cutA := cut_to (P := Try.prog) (A := A) (n := ws.length) (cap := cap) 28 36 Try.underlying28 hi1 .i64 j (by have := hrow2.2.1; omega)
                obtain ⟨A2, c2', cutB, hrowB, hA2⟩ := hrow2.cut_from 28 Try.underlying28 hi1 hy1 .i64 (j + 1) (by omega)
                have cutB' : ∀ W : World, (Instr.slice 28 (.slice A ws.length cap) (some (.int .i64 ((j : Int) + 1))) none none).run Try.prog W = .ok (.slice A2 (ws.length - (j + 1)) c2') W := fun W => by simpa using cutB W
                have hAlt : ∀ a, A = some a → a.block < wr.heap.size := fun a ha => by have hh := HROW.out; subst ha; exact hh.lt
                have HAL := Lib.hid hAlt
                have k1 : (0 : Int) ≤ (j : Int) := Int.natCast_nonneg _
                have k2 : (j : Int) < (ws.length : Int) := by omega
                have zt : (to' : Int) = to' := rfl
                subst hAg
                have hsA : (0 : Int) ≤ (s' : Int) := Int.natCast_nonneg _
                have hsB : (s' : Int) ≤ 255 := by have := H255.out _ (List.getElem_mem hj); rw [HWJ.out] at this; simp only at this; omega
                clear hB2 hrow2 cutB hd hAlt zt
                go_upto_region 20 with fail
                rw [← hW2, ← hY]
                clear hW2 hY
                go_wp2_with fail
                refine (first_any W2 (some ⟨g, o, none⟩) cap ws t HROW2.out.rd (by omega)).mono ?_
                rintro e w3 ⟨rfl, rfl⟩
                rw [HFV.out]
                go_wp2_with fail
                have ew : IntKind.i64.wrap (s' : Int) = (s' : Int) := IntWalk.i64_in _ (by omega)
                refine wp_region_plan (by kernel_rfl) (fun u => Mod (fun _ => False) W2 u) [] [(0, .pure), (1, .pure), (2, .pure), (3, .pure), (4, .pure), (5, .pure), (6, .pure), (7, .pure), (8, .load), (9, .pure), (10, .pure), (11, .pure), (12, .pure), (13, .load), (14, .pure), (15, .pure), (16, .pure), (17, .load), (18, .pure), (19, .pure), (20, .pure), (21, .pure), (22, .pure), (23, .load), (24, .pure), (25, .pure), (26, .pure), (27, .pure), (28, .pure), (29, .pure), (30, .pure), (31, .pure), (32, .load), (33, .pure), (34, .pure), (35, .pure), (36, .pure)] (by simp only [List.map_cons, List.map_nil, List.getElem?_toArray, List.getElem?_cons_succ, List.getElem?_cons_zero]; rfl) (by kernel_rfl) (fun _ _ d _ _ h => by cases d <;> exact h) ((Mod.refl _ _).drew) ?_
                repeat (first
                  | (refine plan_pure (v := ?_) (by rfl) (fun w1 => ?_) ?_
                     rotate_left
                     · go_simp <;> with_reducible rfl
                     simp only [Act.put, List.setIfInBounds_toArray, List.set_cons_zero, List.set_cons_succ])
                  | (refine plan_off (by rfl) ?_
                     simp only [Act.put, List.setIfInBounds_toArray, List.set_cons_zero, List.set_cons_succ])
                  | (refine plan_load_off (by rfl) ?_
                     simp only [Act.put, List.setIfInBounds_toArray, List.set_cons_zero, List.set_cons_succ])
                  | (refine plan_load (v := ?_) (by rfl) (fun w1 hw1 => ?_) ?_
                     rotate_left
                     · (have q0 := (hw1.cell Y 0 lW2 id).trans d1
                        have q1 := (hw1.cell Y 1 lW2 id).trans d2
                        have q2 := (hw1.cell g _ lg id).trans d3
                        have q3 := (hw1.cell g _ lg id).trans d4
                        clear hw1
                        go_simp <;> with_reducible rfl)
                     simp only [Act.put, List.setIfInBounds_toArray, List.set_cons_zero, List.set_cons_succ]))
                clear ew
                refine plan_end ?_
                go_upto_region 24 with fail
                obtain ⟨V, hV⟩ : ∃ V, V = W2.drew := ⟨_, rfl⟩
                have bV : Below W2.heap.size W2 V := by rw [hV]; exact (Below.refl _ _).drew
                have hrowV : Row V 36 3 (some ⟨g, o, none⟩) ws.length cap (ws.flatMap encW) := HROW2.out.mod (Mod.of_below_size bV (fun _ => False)) (fun _ _ h => h)
                have hrowBV : Row V 36 3 A2 (ws.length - (j + 1)) c2' ((ws.flatMap encW).drop ((j + 1) * 3)) := hrowB.mod (Mod.of_below_size bV (fun _ => False)) (fun _ _ h => h)
                have HBV := Lib.hid bV
                have HRV := Lib.hid hrowV
                have HRBV := Lib.hid hrowBV
                rw [← hV]
                clear hV bV hrowV hrowBV
                have ew : IntKind.i64.wrap ((j : Int) + 1) = (j : Int) + 1 := IntWalk.i64_in _ (by omega)
                refine wp_region_plan (by kernel_rfl) (fun u => True) [0, 4, 9] [(1, .pure), (2, .pure), (3, .pure), (5, .pure), (6, .pure), (7, .pure), (8, .pure), (0, .last), (4, .last), (9, .last), (10, .pure)] (by simp only [List.map_cons, List.map_nil, List.getElem?_toArray, List.getElem?_cons_succ, List.getElem?_cons_zero]; rfl) (by kernel_rfl) (fun _ _ d _ _ h => by cases d <;> exact h) (trivial) ?_
                repeat (first
                  | (refine plan_pure (v := ?_) (by rfl) (fun w1 => ?_) ?_
                     rotate_left
                     · go_simp <;> with_reducible rfl
                     simp only [Act.put, List.setIfInBounds_toArray, List.set_cons_zero, List.set_cons_succ])
                  | (refine plan_off (by rfl) ?_
                     simp only [Act.put, List.setIfInBounds_toArray, List.set_cons_zero, List.set_cons_succ])
                  | (refine plan_load_off (by rfl) ?_
                     simp only [Act.put, List.setIfInBounds_toArray, List.set_cons_zero, List.set_cons_succ])
                  | (refine plan_load (v := ?_) (by rfl) (fun w1 hw1 => ?_) ?_
                     rotate_left
                     · (skip
                        clear hw1
                        go_simp <;> with_reducible rfl)
                     simp only [Act.put, List.setIfInBounds_toArray, List.set_cons_zero, List.set_cons_succ]))
                clear ew
                refine plan_last ?_
                go_wp2_with fail
                obtain ⟨V1, hV1⟩ : ∃ V1, V1 = (V.alloc (Obj.cells #[] 36)).drew := ⟨_, rfl⟩
                have b1 : Below V.heap.size V V1 := by rw [hV1]; exact ((Below.refl _ _).alloc (Nat.le_refl _) _).drew
                have hrow1 : Row V1 36 3 (some ⟨V.heap.size, 0, none⟩) 0 0 [] := by
                  rw [hV1]
                  exact ⟨rfl, Nat.le_refl _, Nat.zero_le _, fun _ => rfl, fun a ha => by injection ha with ha; subst ha; exact ⟨rfl, #[], heap_alloc_new V _, by simp, by simp⟩⟩
                have HB1' := Lib.hid b1
                have HR1 := Lib.hid hrow1
                have lV := hrow1.lt
                rw [← hV1]
                clear hV1 b1 hrow1
                have hin1 : ∀ u ∈ ws.flatMap encW, u.oneCell' = true := fun u hu => by
                  obtain ⟨l, _, hl⟩ := List.mem_flatMap.1 hu
                  simp only [encW, List.mem_cons, List.not_mem_nil, or_false] at hl
                  rcases hl with rfl | rfl | rfl <;> rfl
                refine plan_last ?_
                refine wpList_append_rd (by rfl) _ _ _ (by rfl) 36 i1 _ 3 32 Try.underlying28 hi1 hy0 hy1 hy2 rfl (by omega) (some ⟨V.heap.size, 0, none⟩) 0 0 [] (by rfl) HR1.out (some ⟨g, o, none⟩) j cap ((ws.flatMap encW).take (j * 3)) (by rfl) (((HRV.out.mod (Mod.of_below_size HB1'.out (fun _ => False)) (fun _ _ h => h)).take (by omega)).rd) (fun u hu => hin1 u (List.mem_of_mem_take hu)) (by unfold maxLen; omega) (by omega) ?_
                intro A3 cap3 V2 hrow2 hm2' hat2
                simp only [Nat.zero_add, List.nil_append] at hrow2
                have H2 := Lib.hid hrow2
                have HM2 := Lib.hid hm2'
                have HAT2 := Lib.hid hat2
                have lv1 := HB1'.out.size
                have hne2 : ∀ a, A2 = some a → a.block < V.heap.size := fun a ha => by have hh := HRBV.out; subst ha; exact hh.lt
                have HNE2 := Lib.hid hne2
                clear hrow2 hm2' hat2 hne2
                go_wp2_with fail
                refine plan_last ?_
                refine wpList_append_rd (by rfl) _ _ _ (by rfl) 36 i1 _ 3 32 Try.underlying28 hi1 hy0 hy1 hy2 rfl (by omega) A3 j cap3 ((ws.flatMap encW).take (j * 3)) (by rfl) H2.out A2 (ws.length - (j + 1)) c2' ((ws.flatMap encW).drop ((j + 1) * 3)) (by rfl) (((HRBV.out.mod (Mod.of_below_size HB1'.out (fun _ => False)) (fun _ _ h => h)).mod HM2.out (fun a ha h => by obtain ⟨b, h1, h2⟩ := h; injection h1 with h1; subst h1; have := HNE2.out a ha; simp only at h2; omega)).rd) (fun u hu => hin1 u (List.mem_of_mem_drop hu)) (by unfold maxLen; omega) (by omega) ?_
                intro A4 cap4 V3 hrow3 hm3 hat3
                have H3 := Lib.hid hrow3
                have HM3 := Lib.hid hm3
                have HAT3 := Lib.hid hat3
                clear hrow3 hm3 hat3
                go_wp2_with fail
                repeat (first
                  | (refine plan_pure (v := ?_) (by rfl) (fun w1 => ?_) ?_
                     rotate_left
                     · go_simp <;> with_reducible rfl
                     simp only [Act.put, List.setIfInBounds_toArray, List.set_cons_zero, List.set_cons_succ])
                  | (refine plan_off (by rfl) ?_
                     simp only [Act.put, List.setIfInBounds_toArray, List.set_cons_zero, List.set_cons_succ])
                  | (refine plan_load_off (by rfl) ?_
                     simp only [Act.put, List.setIfInBounds_toArray, List.set_cons_zero, List.set_cons_succ])
                  | (refine plan_load (v := ?_) (by rfl) (fun w1 hw1 => ?_) ?_
                     rotate_left
                     · (skip
                        clear hw1
                        go_simp <;> with_reducible rfl)
                     simp only [Act.put, List.setIfInBounds_toArray, List.set_cons_zero, List.set_cons_succ]))
                refine plan_end ?_
                go_wp2_with fail
                go_meet
                have y1 := t1.size
                have y2 := hm2.size
                have y3 := hb3.size
                have y4 := HBV.out.size
                have y5 := HB1'.out.size
                have y6 := HM2.out.size
                have zb := HBEL.out.size
                have xx := HX.out
                have hA3 : ∀ a, A3 = some a → w2.heap.size ≤ a.block := fun a ha => by
                  rcases HAT2.out a ha with ⟨b, h1, h2⟩ | h
                  · injection h1 with h1
                    subst h1
                    simp only at h2
                    omega
                  · omega
                have m1 : Mod (fun q => w2.heap.size ≤ q) w2 V2 :=
                  (((Mod.of_below hb3).trans ((Mod.of_below HBV.out).mono (fun q _ h => by omega))).trans ((Mod.of_below HB1'.out).mono (fun q _ h => by omega))).trans (HM2.out.mono (fun q _ ⟨a, h1, h2⟩ => by injection h1 with h1; subst h1; simp only at h2; omega))
                have m2 : Mod (fun q => w2.heap.size ≤ q) w2 V3 := m1.trans (HM3.out.mono (fun q _ ⟨a, h1, h2⟩ => by have := hA3 a h1; omega))
                have hfl : (ws.flatMap encW).take (j * 3) ++ (ws.flatMap encW).drop ((j + 1) * 3) = (ws.take j ++ ws.drop (j + 1)).flatMap encW := by
                  rw [flat_take (f := encW) (sz := 3) (fun _ => rfl) ws j (by omega), flat_drop (f := encW) (sz := 3) (fun _ => rfl) ws (j + 1) (by omega), List.flatMap_append]
                have hln : (ws.take j ++ ws.drop (j + 1)).length = j + (ws.length - (j + 1)) := by simp; omega
                have hr3 := H3.out
                rw [hfl, ← hln] at hr3
                refine ⟨minv_mk (ls := ls.set t r) (ws := ws.take j ++ ws.drop (j + 1)) hln.symm hWb (HBEL1.out.trans (hm2.below base (by omega) (fun q hq h => by have := (HF.out q h.1).1; omega))) HB2.out (fun q h => by rcases h with h | h; exact (HF.out q h.1).1; omega) m2 (fun q h1 h2 => by omega) hr3 (fun a ha => ?_) HREL2.out (by omega) (fun l hl => ?_), (m2.block X (by omega) (by omega)).trans hX2⟩
                · have : w2.heap.size ≤ a.block := by
                    rcases HAT3.out a ha with ⟨b, h1, h2⟩ | h
                    · have := hA3 b h1; omega
                    · omega
                  exact ⟨fun h => by omega, by omega⟩
                · rcases List.mem_append.1 hl with hl | hl
                  · exact H255.out l (List.mem_of_mem_take hl)
                  · exact H255.out l (List.mem_of_mem_drop hl)
                --]
          case rest =>
            clear HROW HBX HREL HA HBEL HF H255 HX HM v0 v1 v2 v3 c0 c1 c2 c3 hk1 lX t1 hbd hwk
            obtain ⟨hM, hX2⟩ := hcut
            have HM2 := Lib.hid hM
            obtain ⟨A', cap', ls', ws', F', hv, hrow, hB, hF, hA, hbel, hrel, hwk, h255⟩ := hM
            subst hv
            have HB := Lib.hid hB
            have HROW := Lib.hid hrow
            have hlen : boxLen ls' tw = countW ws' tw := hrel.len tw
            have HLEN := Lib.hid hlen
            have htl : totL ls' = ws'.length := hrel.2.1
            have HTL := Lib.hid htl
            clear hB hrow hF hA hbel hrel h255 hlen htl
            have lX := blk_lt hX2
            have d1 : wc.cell? ⟨X, 1, none⟩ = some (.int .i64 tw) := by rw [cell_blk hX2]; rfl
            clear hX2
            go_wp2_with fail
            refine wp_region_plan (by kernel_rfl) (fun u => Mod (fun _ => False) wc u) [7, 11] [(0, .pure), (1, .pure), (2, .load), (4, .pure), (5, .pure), (6, .load), (3, .eff), (7, .last), (8, .pure), (9, .pure), (10, .pure), (12, .pure), (13, .pure), (11, .last), (14, .pure), (15, .pure)] (by simp only [List.map_cons, List.map_nil, List.getElem?_toArray, List.getElem?_cons_succ, List.getElem?_cons_zero]; rfl) (by kernel_rfl) (fun _ _ d _ _ h => by cases d <;> exact h) ((Mod.refl _ _).drew) ?_
            repeat (first
              | (refine plan_pure (v := ?_) (by rfl) (fun w1 => ?_) ?_
                 rotate_left
                 · go_simp <;> with_reducible rfl
                 simp only [Act.put, List.setIfInBounds_toArray, List.set_cons_zero, List.set_cons_succ])
              | (refine plan_off (by rfl) ?_
                 simp only [Act.put, List.setIfInBounds_toArray, List.set_cons_zero, List.set_cons_succ])
              | (refine plan_load_off (by rfl) ?_
                 simp only [Act.put, List.setIfInBounds_toArray, List.set_cons_zero, List.set_cons_succ])
              | (refine plan_load (v := ?_) (by rfl) (fun w1 hw1 => ?_) ?_
                 rotate_left
                 · (have q0 := (hw1.cell X 1 lX id).trans d1
                    clear hw1
                    go_simp <;> with_reducible rfl)
                 simp only [Act.put, List.setIfInBounds_toArray, List.set_cons_zero, List.set_cons_succ]))
            refine plan_eff ?_
            go_wp2_with fail
            refine (len_any _ F' B ls' (HB.out.below ((Below.refl _ _).drew)) tw).mono ?_
            rintro e w3 ⟨rfl, rfl⟩
            rw [HLEN.out]
            go_wp2_with fail
            refine plan_on (fun _ h => h) ((Mod.refl _ _).drew) ?_
            repeat (first
              | (refine plan_pure (v := ?_) (by rfl) (fun w1 => ?_) ?_
                 rotate_left
                 · go_simp <;> with_reducible rfl
                 simp only [Act.put, List.setIfInBounds_toArray, List.set_cons_zero, List.set_cons_succ])
              | (refine plan_off (by rfl) ?_
                 simp only [Act.put, List.setIfInBounds_toArray, List.set_cons_zero, List.set_cons_succ])
              | (refine plan_load_off (by rfl) ?_
                 simp only [Act.put, List.setIfInBounds_toArray, List.set_cons_zero, List.set_cons_succ])
              | (refine plan_load (v := ?_) (by rfl) (fun w1 hw1 => ?_) ?_
                 rotate_left
                 · (have q0 := (hw1.cell X 1 lX id).trans d1
                    clear hw1
                    go_simp <;> with_reducible rfl)
                 simp only [Act.put, List.setIfInBounds_toArray, List.set_cons_zero, List.set_cons_succ]))
            refine plan_last ?_
            go_wp2_with fail
            refine (count_any _ A' cap' ws' tw (HROW.out.mod ((Mod.refl (fun _ => False) _).drew) (fun _ _ h => h)).rd (by omega)).mono ?_
            rintro e w3 ⟨rfl, rfl⟩
            go_wp2_with fail
            repeat (first
              | (refine plan_pure (v := ?_) (by rfl) (fun w1 => ?_) ?_
                 rotate_left
                 · go_simp <;> with_reducible rfl
                 simp only [Act.put, List.setIfInBounds_toArray, List.set_cons_zero, List.set_cons_succ])
              | (refine plan_off (by rfl) ?_
                 simp only [Act.put, List.setIfInBounds_toArray, List.set_cons_zero, List.set_cons_succ])
              | (refine plan_load_off (by rfl) ?_
                 simp only [Act.put, List.setIfInBounds_toArray, List.set_cons_zero, List.set_cons_succ])
              | (refine plan_load (v := ?_) (by rfl) (fun w1 hw1 => ?_) ?_
                 rotate_left
                 · (have q0 := (hw1.cell X 1 lX id).trans d1
                    clear hw1
                    go_simp <;> with_reducible rfl)
                 simp only [Act.put, List.setIfInBounds_toArray, List.set_cons_zero, List.set_cons_succ]))
            refine plan_last ?_
            go_wp2_with fail
            refine (total_any _ F' B ls' (HB.out.below ((Below.refl _ _).drew))).mono ?_
            rintro e w3 ⟨rfl, rfl⟩
            rw [HTL.out]
            go_wp2_with fail
            repeat (first
              | (refine plan_pure (v := ?_) (by rfl) (fun w1 => ?_) ?_
                 rotate_left
                 · go_simp <;> with_reducible rfl
                 simp only [Act.put, List.setIfInBounds_toArray, List.set_cons_zero, List.set_cons_succ])
              | (refine plan_off (by rfl) ?_
                 simp only [Act.put, List.setIfInBounds_toArray, List.set_cons_zero, List.set_cons_succ])
              | (refine plan_load_off (by rfl) ?_
                 simp only [Act.put, List.setIfInBounds_toArray, List.set_cons_zero, List.set_cons_succ])
              | (refine plan_load (v := ?_) (by rfl) (fun w1 hw1 => ?_) ?_
                 rotate_left
                 · (have q0 := (hw1.cell X 1 lX id).trans d1
                    clear hw1
                    go_simp <;> with_reducible rfl)
                 simp only [Act.put, List.setIfInBounds_toArray, List.set_cons_zero, List.set_cons_succ]))
            refine plan_end ?_
            go_wp2_with fail
            go_roundw
            case rel => exact ⟨k + 1, by omega, by go_num, HM2.out.drew⟩
            case measure => simp [intOf]; omega
    · go_wp2_with fail
      go_ret
      obtain ⟨A, cap, ls, ws, F, _, _, _, _, _, hbel, _⟩ := HM.out
      exact ⟨rfl, hbel⟩

theorem encO_read {H : Type} {enc : TypeId × Value → H} {w : World} {base : Nat} {spare : Nat → Bool} {held : Bool} (fuel : Nat) (c : List Value) (y : DataW H × List MemPlace) (_ : c.length = 4)
    (h : DataW.trod enc Try.prog w base spare held fuel 30 c = some y) : ∃ x : MOp, c = encO x ∧ (-9223372036854775808 ≤ x.1 ∧ x.1 ≤ 9223372036854775807 ∧ -9223372036854775808 ≤ x.2.1 ∧ x.2.1 ≤ 9223372036854775807 ∧ x.2.2.2 ≤ 255) := by
  obtain ⟨kd, tw, p, s, rfl, w1, w2, w3⟩ := op_read h
  obtain ⟨s, rfl, hs⟩ := u8_bounds w3
  exact ⟨(kd, tw, p, s), rfl, (i64_bounds w1).1, (i64_bounds w1).2, (i64_bounds w2).1, (i64_bounds w2).2, hs⟩

set_option maxRecDepth 100000 in
theorem MailPlays_walk {H : Type} {enc : TypeId × Value → H} (W : World) {base : Nat} {v0 v1 : Value} {d0 d1 : DataW H} {p0 p1 : List MemPlace}
    (o0 : Value.okWide Try.prog W .any base 3 v0) (h0 : DataW.Trod enc Try.prog W 0 (fun _ => true) true 3 v0 d0 p0)
    (o1 : Value.okWide Try.prog W .any base 22 v1) (h1 : DataW.Trod enc Try.prog W 0 (fun _ => true) true 22 v1 d1 p1) :
    Calls Try.prog 3 #[v0, v1] W fun e w' => e = .returned (.bool true) ∧ Below W.heap.size W w' := by
  obtain ⟨n, rfl, rfl, rfl, wn⟩ := open_int Try.underlying3 o0 h0
  obtain ⟨A, len, cap, rfl⟩ := okWide_slice Try.underlying22 o1
  obtain ⟨fuel, hf⟩ := h1
  obtain ⟨ops, hl, hg, hr, h1, h2⟩ := tr_list (f := encO) (sz := 4) (by omega) Try.underlying22 (by kernel_rfl) encO_read (by simpa [Value.cells] using hf)
  subst hl
  exact mailPlays_any W n A cap ops (i64_bounds wn) hg hr.toB (by omega)
namespace mailPlays
theorem own : ownKnob Try.prog.godebug = none := by kernel_rfl
theorem laidOut : laidOutB Try.prog = true := by kernel_rfl
set_option maxRecDepth 100000 in
theorem lifted (os : Os) (started : os.Started) (H : Type) (enc : TypeId × Value → H) :
    ReturnsInHanded {} Try.checked os 3 .any (Rows.mailPlaysSpec.pre6 enc Try.prog Try.f3 Rows.mailPlaysRow.domain false) (Rows.mailPlaysSpec.post enc Try.prog Try.f3 false true false false) := by
  refine returnsInHanded_of_change_sized (C := Try.checked) own started (by kernel_rfl) Try.func3
    (ChangeSpec.witness6 (enc := enc) (C := Try.checked) false ⟨#[], #[.int .i64 0, .slice none 0 0], []⟩ 8 (by kernel_rfl) (by kernel_rfl) (by kernel_rfl) (by kernel_rfl)) ?_
  intro W base args ds gs before hval0 hW hcnd hsz0 _
  have hval : ∀ (j : Nat) t v, Try.f3.params[j]? = some t → args[j]? = some v → Value.okWide Try.prog W .any base t v := hval0
  have hW' := hW
  obtain ⟨p, q, hA0, hV, rfl, hfz, hnd⟩ := hW
  have hA : DataW.TrodAll enc Try.prog W 0 (fun _ => true) true Try.f3.params.toList args.toList ds p := hA0
  rw [Try.params3] at hA hval
  obtain ⟨v0, vs0, d0, ds0, p0, q0, hargs, rfl, rfl, h0, r0⟩ := trodAll_cons hA
  obtain ⟨v1, vs1, d1, ds1, p1, q1, rfl, rfl, rfl, h1, r1⟩ := trodAll_cons r0
  obtain ⟨rfl, rfl, rfl⟩ := trodAll_nil r1
  obtain rfl : args = #[v0, v1] := by cases args; simp_all
  obtain ⟨rfl, rfl⟩ := trodVars_none hV
  have lt0 : ∀ x ∈ p0, x.block < W.heap.size := by obtain ⟨m, hm⟩ := h0; exact DataW.trod_lt m _ _ _ hm
  have lt1 : ∀ x ∈ p1, x.block < W.heap.size := by obtain ⟨m, hm⟩ := h1; exact DataW.trod_lt m _ _ _ hm
  clear hA0 hval0 hsz0
  refine (MailPlays_walk W (hval 0 3 v0 rfl rfl) h0 (hval 1 22 v1 rfl rfl) h1).mono fun e W' ⟨he, bel⟩ => ?_
  subst he
  exact ⟨_, rfl, _, _, _, [], _, [], hW', trodAll_mk1 (shut_bool Try.underlying4 _), (trodAll_cons_mk (Below.trod laidOut (by kernel_rfl) (of_decide_eq_true (by kernel_rfl)) h0 bel lt0) (trodAll_cons_mk (Below.trod laidOut (by kernel_rfl) (of_decide_eq_true (by kernel_rfl)) h1 bel lt1) trodAll_mk0)), rfl, bel.frame _, fun h => (by cases h)⟩
theorem over : Rows.mailPlaysRow.holds Try.pinned (OpenSpec.ofChange Rows.mailPlaysSpec) :=
  OpenClaim.holds_of_wide 3 Try.f3 rfl rfl rfl rfl rfl rfl rfl ⟨rfl, rfl, rfl, rfl, rfl⟩ rfl rfl rfl rfl rfl (by kernel_rfl) Try.func3 (by kernel_rfl)
    (of_decide_eq_true (by kernel_rfl)) (by unfold Func.isWrapper; first | (rw [if_pos (by decide +kernel)]; kernel_rfl) | (rw [if_neg (by decide +kernel)]; exact ⟨rfl, rfl⟩))
    (fun os started H enc _ => lifted os started H enc)
end mailPlays
/-- The row. -/
theorem mailPlays_holds : Rows.MailPlaysSaid := mailPlays.over
#print axioms mailPlays_holds
end Go.Proofs.Ytedogccbndjdpaa
