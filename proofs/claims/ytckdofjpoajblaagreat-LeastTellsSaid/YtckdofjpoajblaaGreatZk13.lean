/- Part 13 of the proof of leastTells_holds: what it rests on. -/
import Derived.Test.YtckdofjpoajblaaGreatZk12
namespace Go.Proofs.YtckdofjpoajblaaGreat
open Go.RowKit
set_option linter.unusedVariables false
namespace Pr
theorem all6_ok {p : Pg} {f : Int} {most : Nat} (h : (all6 p f most).2 = 0) : ∃ m : Nat, f = m ∧ m ≤ 8 ∧ Ok p ∧ cnt 32 (start p m) ≤ most := by
  unfold all6 at h
  by_cases hm : may p f
  · rw [if_pos hm] at h
    obtain ⟨m, rfl⟩ : ∃ m : Nat, f = m := ⟨f.toNat, by have := hm.2.1; omega⟩
    refine ⟨m, rfl, by have := hm.2.2; omega, hm.1, ?_⟩
    rw [Int.toNat_natCast] at h
    by_cases hc : 0 + cnt 32 (start p m) ≤ most
    · omega
    · have := over_full at6 most 32 (start p m) [] (0, sm0) (by simp only; omega)
      simp only at h
      rw [if_pos this] at h
      cases h
  · rw [if_neg hm] at h
    cases h
end Pr
def FindOut (w : World) (r : Option Pr.Nd) (x : Ending) (w' : World) : Prop :=
  match r with
  | none => x = .returned (.tuple #[.slice none 0 0, .bool false, .int .i64 0]) ∧ Below w.heap.size w w'
  | some d => ∃ A c, x = .returned (.tuple #[.slice A d.w.length c, .bool true, .int .i64 0]) ∧ Rd w' 1 A d.w.length (d.w.map iv) ∧ Below w.heap.size w w'
def lenAt (v : Value) (w : World) : Nat :=
  match v with
  | .slice (some a) n _ => if n = 0 then 0 else match w.cell? ⟨a.block, a.off + 1, none⟩ with
    | some (.slice _ m _) => 34 - m
    | _ => 0
  | _ => 0
theorem lenAt_node {V : World} {D : Nat → Prop} {B : Option Addr} {cb n k : Nat} {xs : List Nc} {s0 : St} (h : NodesAt V D B cb xs) (hn : n = xs.length) (h0 : n ≠ 0) (hl : Pr.Lvl s0 k (xs.map Nc.d)) : lenAt (.slice B n cb) V = 34 - k := by
  obtain ⟨x, hx⟩ := get_some (show 0 < xs.length by omega)
  obtain ⟨g, o, rfl, hg, hnd, _, _⟩ := h.node hx (Below.refl _ _)
  have h1 := hnd.2.1
  rw [Nat.zero_mul, Nat.add_zero] at h1
  have hw := hl.way x.d (List.mem_map.2 ⟨x, List.mem_of_getElem? hx, rfl⟩)
  unfold lenAt
  simp only [if_neg h0, h1, hw]
theorem lenAt_le {V : World} {D : Nat → Prop} {B : Option Addr} {cb n k : Nat} {xs : List Nc} {s0 : St} (h : NodesAt V D B cb xs) (hn : n = xs.length) (hl : Pr.Lvl s0 k (xs.map Nc.d)) : lenAt (.slice B n cb) V ≤ 34 - k := by
  by_cases h0 : n = 0
  · subst h0
    cases B <;> simp [lenAt]
  · exact Nat.le_of_eq (lenAt_node h hn h0 hl)
theorem NodesAt.below_row {w : World} {C : Nat → Prop} {B : Option Addr} {cap : Nat} {xs : List Nc} (h : NodesAt w C B cap xs) : ∀ a, B = some a → a.block < w.heap.size := fun a ha => by subst ha; exact h.1.lt
theorem NodesAt.kid {P v u : World} {D : Nat → Prop} {Z : Option Addr} {nz cz g9 o9 c9 g13 o13 c13 S' T' : Nat} {zs : List Nc} {d : Pr.Nd} {t : Nat} {et ek eo : Int} {ef : Bool} (h : NodesAt P D Z cz zs) (hb : Below P.heap.size P v)
    (hs : SAt v D S' T' (Pr.stepS d.s t)) (h9 : Row v 3 1 (some ⟨g9, o9, none⟩) (d.w.length + 1) c9 (d.w.map iv ++ [.int .i64 (t : Int)])) (hg9 : P.heap.size ≤ g9) (hST : P.heap.size ≤ S' ∧ P.heap.size ≤ T')
    (he : Pr.evAt d.s t = ⟨et, ek, eo, ef⟩) (hnz : zs.length = nz) (hown : Row u 104 6 (some ⟨g13, o13, none⟩) (nz + 1) c13 (zs.flatMap encNc ++ [.pointer (some ⟨S', 0, none⟩), .slice (some ⟨g9, o9, none⟩) (d.w.length + 1) c9, .int .i64 et, .int .i64 ek, .int .i64 eo, .bool ef]))
    (hm : Mod (fun k => ∃ a, Z = some a ∧ k = a.block) v u) (hat : (∃ a, Z = some a ∧ g13 = a.block) ∨ v.heap.size ≤ g13) (hC : ∀ k, D k → offB Z k) : NodesAt u D (some ⟨g13, o13, none⟩) c13 (zs ++ [⟨S', T', c9, some ⟨g9, o9, none⟩, Pr.kidN d t⟩]) := by
  have hZl : ∀ a, Z = some a → a.block < P.heap.size := fun a ha => by subst ha; exact h.1.lt
  refine h.snoc (w8 := v) hb ⟨hs, ?_, fun a ha => ?_, fun a ha => ?_⟩ ?_ hm hat hC
  · have hr := row_toC (C := offB Z) h9 (fun a ha a' ha' => by injection ha with ha; subst ha; have h1 := hZl a' ha'; simp only; omega)
    simpa [Pr.kidN, iv] using hr
  · have h1 := hZl a ha; have h2 := hST.1; simp only; omega
  · have h1 := hZl a ha; have h2 := hST.2; simp only; omega
  · rw [hnz]
    simpa [encNc, Pr.kidN, he] using hown
set_option maxRecDepth 100000 in
set_option maxHeartbeats 8000000 in
theorem find_ok {G : Nat} {caps : Array Value} {is : Pr.Nd → Bool} (w : World) (p : Pg) (A : Option Addr) (cap m most : Nat) (hp : PgIn w p A) (hmost : most ≤ 100000) (his : IsS G caps w is) (hm8 : m ≤ 8) (hok : Pr.Ok p) (hcnt : Pr.cnt 32 (Pr.start p m) ≤ most) (h6 : (Pr.all6 p m most).2 = 0) :
    Calls Tryz.prog 54 #[valP p A cap, .int .i64 (m : Int), .int .i64 (most : Int), .func (.func G) #[] caps] w (FindOut w (Pr.leastN is (Pr.start p m))) := by
  obtain ⟨i0, hi0, hz0, hz1, hz2⟩ := info_parts Tryz.infoWay
  obtain ⟨j0, hj0, hjz0, hjz1, hjz2⟩ := info_parts Tryz.infoInt
  obtain ⟨Wa, X, hWa, hX, hBa, hXl, hXe⟩ := pg_box w p.vars p.mtx A p.code.length cap
  have hpa := hp.below hBa
  have hall : Calls Tryz.prog 59 #[valP p A cap, .int .i64 (m : Int), .int .i64 (most : Int)] Wa fun x w' => (∃ (A' : Option Addr) (n c' r k : Nat), x = .returned (.tuple #[.agg #[.slice A' n c', .int .i64 r, .int .i64 k], .int .i64 0])) ∧ Below Wa.heap.size Wa w' := (walkAll_any Wa p A cap m most hpa hmost).mono fun x w' ⟨A', c', hx, _, _, _, hb⟩ => ⟨⟨A', (Pr.all6 p m most).1.2.keys.length, c', (Pr.all6 p m most).1.2.runs, (Pr.all6 p m most).1.1, by rw [hx, h6]⟩, hb⟩
  have hnew : ∀ u, Below Wa.heap.size Wa u → _ := fun u hu => new_ok u p A cap m (hpa.below hu).1 hok hm8
  obtain ⟨s0, hs0⟩ : ∃ z, z = Pr.start p m := ⟨_, rfl⟩
  have hw0 : Pr.Wf s0 := by rw [hs0]; exact Pr.start_wf hok hm8
  have hf0 : Pr.fuels s0 ≤ 32 := by rw [hs0]; exact Pr.fuels_start hok hm8
  rw [← hs0] at hcnt hnew
  rw [← hs0]
  obtain ⟨res, hres⟩ : ∃ r, r = Pr.leastN is s0 := ⟨_, rfl⟩
  rw [← hres]
  unfold valP at hall hnew ⊢
  have HALL := Lib.hid hall
  have HNEW := Lib.hid hnew
  have HXE := Lib.hid hXe
  have HB := Lib.hid hBa
  have HIS := Lib.hid his
  have HRES := Lib.hid hres
  have HW0 := Lib.hid hw0
  have HF0 := Lib.hid hf0
  have HCN := Lib.hid hcnt
  obtain ⟨x0, x1, x2, xl⟩ := hXe Wa (Below.refl _ _)
  clear hall hnew hXe hBa his hres hw0 hf0 hcnt hs0 hpa hp h6 hok
  go_enter Tryz.func54, Tryz.ntmps54
  go_upto_region 1 with fail
  rw [← hWa, ← hX]
  clear hWa hX
  go_wp2_with fail
  refine HALL.out.mono ?_
  rintro y w1 ⟨⟨A1, n1, c1, r1, k1, rfl⟩, b1⟩
  obtain ⟨W2, hW2⟩ : ∃ z, z = w1.alloc (Obj.cells #[.slice A1 n1 c1, .int .i64 r1, .int .i64 k1] 110) := ⟨_, rfl⟩
  have hb2 : Below Wa.heap.size Wa W2 := by rw [hW2]; exact b1.alloc b1.size _
  have HB2 := Lib.hid hb2
  clear b1 hb2 HALL x0 x1 x2 xl
  go_upto_region 4 with fail
  rw [← hW2]
  clear hW2
  obtain ⟨x0, x1, x2, xl⟩ := HXE.out W2 HB2.out
  go_wp2_with fail
  refine (HNEW.out W2 HB2.out).mono ?_
  rintro y w3 ⟨S0, T0, C, rfl, hS0, _, _, hC0, b3⟩
  have HB3 := Lib.hid (below_at HB2.out b3)
  have HC0 : Hid (∀ k, (C k ∧ k < w3.heap.size) → k < w3.heap.size) := Lib.hid fun k hk => hk.2
  have HS0 := Lib.hid hS0.bound
  obtain ⟨D, hD⟩ : ∃ D, D = fun k => C k ∧ k < w3.heap.size := ⟨_, rfl⟩
  rw [← hD] at HS0
  have HDL : Hid (∀ k, D k → k < w3.heap.size) := Lib.hid (by rw [hD]; exact fun k hk => hk.2)
  clear b3 hS0 HC0 hC0 hD HNEW x0 x1 x2 xl
  go_upto_block 0 with fail
  obtain ⟨W4, hW4⟩ : ∃ z, z = w3.alloc (Obj.cells #[.pointer (some ⟨S0, 0, none⟩), .slice none 0 0, .int .i64 0, .int .i64 0, .int .i64 0, .bool false] 104) := ⟨_, rfl⟩
  obtain ⟨g0, hg0⟩ : ∃ z, z = w3.heap.size := ⟨_, rfl⟩
  rw [← hW4, ← hg0]
  have hk4 : W4.heap[g0]? = some (.cells #[.pointer (some ⟨S0, 0, none⟩), .slice none 0 0, .int .i64 0, .int .i64 0, .int .i64 0, .bool false] 104 (0, 0)) := by rw [hW4, hg0]; exact heap_alloc_new w3 _
  have hb4 : Below w3.heap.size w3 W4 := by rw [hW4]; exact (Below.refl _ _).alloc (Nat.le_refl _) _
  have hgs : g0 = w3.heap.size := hg0
  clear hW4 hg0
  have hx0 : NodesAt W4 D (some ⟨g0, 0, none⟩) 1 [⟨S0, T0, 0, none, Pr.node0 s0⟩] := by
    refine ⟨⟨rfl, Nat.le_refl _, by simp [maxLen], fun h => (by cases h), fun a ha => ?_⟩, fun x hx => ?_⟩
    · injection ha with ha
      subst ha
      exact ⟨rfl, _, hk4, Nat.le_refl _, rfl⟩
    · rw [List.mem_singleton.1 hx]
      have hlt := HS0.out.lt
      refine ⟨HS0.out.below hb4, ⟨rfl, fun h => by simp [Pr.node0] at h⟩, fun a ha => ?_, fun a ha => ?_⟩ <;> (injection ha with ha; subst ha; simp only; omega)
  have hr0 : res = Pr.bfs is (33 - 0) [Pr.node0 s0] := HRES.out
  have HX0 := Lib.hid hx0
  have HR0 := Lib.hid hr0
  have HL0 := Lib.hid (Pr.Lvl.start HW0.out)
  have HB4 := Lib.hid (below_at HB3.out hb4)
  have HD4 : Hid (∀ k, D k → k < W4.heap.size) := Lib.hid fun k hk => Nat.lt_of_lt_of_le (HDL.out k hk) hb4.size
  clear hx0 hr0 hk4 hb4 hgs HS0 HRES HDL HB3 HB2 HXE
  go_wp2_with fail
  go_loopw [15] (fun v wr => ∃ (k n cb : Nat) (B : Option Addr) (xs : List Nc), n ≤ 100000 ∧ v = .slice B n cb ∧ Hid (n = xs.length) ∧ Hid (Pr.Lvl s0 k (xs.map Nc.d)) ∧ Hid (res = Pr.bfs is (33 - k) (xs.map Nc.d)) ∧ Hid (NodesAt wr D B cb xs) ∧ Hid (Below W4.heap.size W4 wr)) (fun v wr => lenAt v wr)
  case atStart => exact ⟨0, 1, 1, some ⟨g0, 0, none⟩, [⟨S0, T0, 0, none, Pr.node0 s0⟩], by omega, rfl, Lib.hid rfl, HL0, HR0, HX0, Lib.hid (Below.refl _ _)⟩
  case round =>
    clear HX0 HR0 HL0
    obtain ⟨k, n, cb, B, xs, hn, rfl, HN, HL, HR, HX, HBR⟩ := hrel
    rename World => V
    by_cases h0 : n = 0
    · subst h0
      have hxs : xs = [] := List.length_eq_zero_iff.1 HN.out.symm
      have hr : res = none := by rw [HR.out, hxs]; exact Pr.bfs_nil is _
      subst hr
      clear hxs
      go_wp2_with fail
      exact bodyPost_ret (v := .tuple #[.slice none 0 0, .bool false, .int .i64 0]) (by simp [results, Tryz.results54, go_sem]) rfl ⟨rfl, below_at HB.out (below_at HB4.out HBR.out)⟩
    · have hpos : (0 : Int) < (n : Int) := by omega
      have hk : k ≤ 32 := by
        obtain ⟨x, hx⟩ := get_some (show 0 < xs.length by have := HN.out; omega)
        have h1 := HL.out.fuel x.d (List.mem_map.2 ⟨x, List.mem_of_getElem? hx, rfl⟩)
        have h2 := HF0.out
        omega
      have hr : res = match (xs.map Nc.d).find? is with | some d => some d | none => Pr.bfs is (32 - k) ((xs.map Nc.d).flatMap Pr.kids_) := by
        rw [HR.out, show 33 - k = (32 - k) + 1 by omega]; rfl
      have HR1 := Lib.hid hr
      have HK := Lib.hid hk
      have H0 := Lib.hid h0
      clear hr hk h0 HR
      go_wp2_with fail
      go_loopw [51, 16] (fun iv nx wz => ∃ (i ny cb' : Nat) (B' : Option Addr) (ys : List Nc), i ≤ n ∧ ny ≤ 4 * i ∧ iv = .int .i64 i ∧ nx = .slice B' ny cb' ∧ Hid (ny = ys.length) ∧ Hid (ys.map Nc.d = ((xs.map Nc.d).take i).flatMap Pr.kids_) ∧ Hid (((xs.map Nc.d).take i).find? is = none) ∧ Hid (NodesAt wz D B' cb' ys) ∧ Hid (∀ a, B' = some a → V.heap.size ≤ a.block) ∧ Hid (Below V.heap.size V wz)) (fun iv _ _ => n - (intOf iv).toNat)
      case atStart => exact ⟨0, 0, 0, none, [], Nat.zero_le _, Nat.le_refl _, rfl, rfl, Lib.hid rfl, Lib.hid rfl, Lib.hid rfl, Lib.hid (NodesAt.nil _ _), Lib.hid (fun a ha => by cases ha), Lib.hid (Below.refl _ _)⟩
      case round =>
        obtain ⟨i, ny, cb', B', ys, hi, hny, rfl, rfl, HNY, HYS, HNF, HY, HBY, HBZ⟩ := hrel
        rename World => U
        by_cases hlt : i < n
        · obtain ⟨x, hx⟩ := get_some (show i < xs.length by rw [← HN.out]; exact hlt)
          obtain ⟨g, o, rfl, hg, hnd, hsx, hrd⟩ := HX.out.node hx HBZ.out
          have hmem : x.d ∈ xs.map Nc.d := List.mem_map.2 ⟨x, List.mem_of_getElem? hx, rfl⟩
          have hwx := HL.out.wf x.d hmem
          have hcall := HIS.out.call U D x.S x.T g (o + i * 6) x.d x.WA x.wc (below_at HB.out (below_at HB4.out (below_at HBR.out HBZ.out))) hsx hwx hnd
          obtain ⟨b, hb⟩ : ∃ b, b = is x.d := ⟨_, rfl⟩
          rw [← hb] at hcall
          have htk : (xs.map Nc.d).take (i + 1) = (xs.map Nc.d).take i ++ [x.d] := by rw [List.take_add_one, List.getElem?_map, hx]; rfl
          have hfd : ((xs.map Nc.d).take (i + 1)).find? is = if b = true then some x.d else none := by
            rw [htk, List.find?_append, HNF.out, hb]
            cases hxd : is x.d <;> simp [List.find?, hxd]
          have hfd2 : b = true → (xs.map Nc.d).find? is = some x.d := fun hbt => by
            rw [← List.take_append_drop (i + 1) (xs.map Nc.d), List.find?_append, hfd, if_pos hbt]; rfl
          have k1 : (0 : Int) ≤ (i : Int) := Int.natCast_nonneg _
          have k2 : (i : Int) < (n : Int) := by omega
          have HCALL := Lib.hid hcall
          have HND := Lib.hid hnd
          have HSX := Lib.hid hsx
          have HXM := Lib.hid (List.mem_of_getElem? hx)
          have HRD : Hid (Rd U 1 x.WA x.d.w.length (x.d.w.map iv)) := Lib.hid ⟨hrd.1, fun h0 => by obtain ⟨g2, o2, h1, h2, h3⟩ := hrd.2 h0; exact ⟨g2, o2, h1, Nat.lt_of_lt_of_le h2 HBZ.out.size, h3⟩⟩
          have HWX := Lib.hid hwx
          have HTK := Lib.hid htk
          have HFD := Lib.hid hfd
          have HFD2 := Lib.hid hfd2
          have HG := Lib.hid hg
          clear hcall hnd hsx hrd hwx htk hfd hfd2 hmem hx hb hg
          go_wp2_with fail
          rw [HIS.out.enters, Oper.upon_enter]
          refine HCALL.out.mono ?_
          rintro y u1 ⟨rfl, b1⟩
          have HND1 := Lib.hid (HND.out.block (b1.block g HND.out.2.2.2.2.2.2) b1.size)
          have HB1 := Lib.hid b1
          clear b1 HCALL
          obtain ⟨c0, c1, _, _, _, _, cl⟩ := HND1.out
          cases b with
          | true =>
            have hr : res = some x.d := by rw [HR1.out, HFD2.out rfl]
            subst hr
            go_wp2_with fail
            exact bodyPost_ret (v := .tuple #[.slice x.WA x.d.w.length x.wc, .bool true, .int .i64 0]) (by simp [results, Tryz.results54, go_sem]) rfl ⟨x.WA, x.wc, rfl, HRD.out.below HB1.out (Nat.le_refl _), below_at HB.out (below_at HB4.out (below_at HBR.out (below_at HBZ.out HB1.out)))⟩
          | false =>
            have hall := all_any u1 D x.S x.T x.d.s (HSX.out.below HB1.out) HWX.out
            have hal4 : ((Pr.all x.d.s).map (fun (t : Nat) => (t : Int))).length ≤ 4 := by rw [List.length_map]; exact Pr.all_len HWX.out
            obtain ⟨al, hal⟩ : ∃ z, z = (Pr.all x.d.s).map (fun (t : Nat) => (t : Int)) := ⟨_, rfl⟩
            rw [← hal] at hall hal4
            obtain ⟨na, hna⟩ : ∃ z, z = al.length := ⟨_, rfl⟩
            rw [← hna] at hall hal4
            have HAL := Lib.hid (And.intro hal hna)
            have HALL := Lib.hid hall
            clear hall hal hna
            go_wp2_with fail
            refine HALL.out.mono ?_
            rintro y u2 ⟨A2, c2, rfl, ⟨hr2, ha2⟩, b2⟩
            have HB2 := Lib.hid (below_at HB1.out b2)
            have HND2 := Lib.hid (HND1.out.block (b2.block g HND1.out.2.2.2.2.2.2) b2.size)
            have HSX2 := Lib.hid (HSX.out.below HB2.out)
            have HR2 := Lib.hid hr2
            have HA2 : Hid (∀ a, A2 = some a → U.heap.size ≤ a.block) := Lib.hid fun a ha => Nat.le_trans HB1.out.size (ha2 a ha)
            have HY2 := Lib.hid (HY.out.below HB2.out)
            have HBF : Hid (∀ a, B' = some a → a.block < U.heap.size) := Lib.hid fun a ha => by subst ha; exact HY.out.1.lt
            clear hr2 ha2 b2 HALL HND1 HSX HB1 c0 c1 cl HRD HND
            go_wp2_with fail
            go_loopw [70, 16] (fun jv nx wz => ∃ (j nz cz : Nat) (Z : Option Addr) (zs : List Nc), j ≤ na ∧ nz = ny + j ∧ jv = .int .i64 j ∧ nx = .slice Z nz cz ∧ Hid (nz = zs.length) ∧ Hid (zs.map Nc.d = ys.map Nc.d ++ ((Pr.all x.d.s).take j).map (Pr.kidN x.d)) ∧ Hid (NodesAt wz D Z cz zs) ∧ Hid (∀ a, Z = some a → V.heap.size ≤ a.block) ∧ Hid (∀ a, Z = some a → (∃ a1, B' = some a1 ∧ a.block = a1.block) ∨ u2.heap.size ≤ a.block) ∧ Hid (Mod (fun k => ∃ a, B' = some a ∧ k = a.block) u2 wz)) (fun jv _ _ => na - (intOf jv).toNat)
            case atStart => exact ⟨0, ny, cb', B', ys, Nat.zero_le _, rfl, rfl, rfl, HNY, Lib.hid (by simp), HY2, HBY, Lib.hid (fun a ha => .inl ⟨a, ha, rfl⟩), Lib.hid (Mod.refl _ _)⟩
            case round =>
              clear HY2
              obtain ⟨j, nz, cz, Z, zs, hj, hnz, rfl, rfl, HNZ, HZS, HZ, HZB, HZF, HMZ⟩ := hrel
              subst hnz
              rename World => P
              by_cases hltj : j < na
              · obtain ⟨t, ht⟩ := get_some (show j < (Pr.all x.d.s).length by have h1 := HAL.out.2; rw [HAL.out.1, List.length_map] at h1; omega)
                have hta : al[j]? = some (t : Int) := by rw [HAL.out.1, List.getElem?_map, ht]; rfl
                have hen := Pr.all_iff.1 (List.mem_of_getElem? ht)
                obtain ⟨ga, oa, rfl⟩ := HR2.out.some_of_pos (by have := HR2.out.2.1; have := HAL.out.2; omega)
                have hrP : Row P 3 1 (some ⟨ga, oa, none⟩) al.length c2 (al.map iv) := HR2.out.mod HMZ.out (fun a ha ⟨a1, h1, h2⟩ => by injection ha with ha; subst ha; have h3 := HA2.out _ rfl; have h4 := HBF.out a1 h1; simp only at h2 h3; omega)
                have ca : P.cell? ⟨ga, oa + j, none⟩ = some (.int .i64 (t : Int)) := by
                  rw [hrP.cell j (by have := HAL.out.2; omega), List.getElem?_map, hta]; rfl
                have lga : ga < P.heap.size := hrP.lt
                have hgP : ∀ k, k < V.heap.size → P.heap[k]? = u2.heap[k]? := fun k hk => HMZ.out.block k (by have := HBZ.out.size; have := HB2.out.size; omega) (fun ⟨a, h1, h2⟩ => by have := HBY.out a h1; omega)
                have hndP := HND2.out.block (hgP g HG.out) HMZ.out.size
                have hVx : NcAt V D (offB (some ⟨g, o, none⟩)) x := HX.out.2 x (HXM.out)
                have hVP : Below V.heap.size V P := (below_at HBZ.out HB2.out).trans (HMZ.out.below V.heap.size (by have := HBZ.out.size; have := HB2.out.size; omega) (fun k hk ⟨a, h1, h2⟩ => by have := HBY.out a h1; omega))
                have hsP : SAt P D x.S x.T x.d.s := hVx.1.below hVP
                have hwP : Rd P 1 x.WA x.d.w.length (x.d.w.map iv) := (hVx.2.1.below hVP).rd
                have hDP : ∀ k, D k → k < P.heap.size := fun k hk => Nat.lt_of_lt_of_le (HD4.out k hk) (Nat.le_trans HBR.out.size hVP.size)
                have hcop := copyS_any P D x.S x.T x.d.s hsP hDP HWX.out.n4
                have k1 : (0 : Int) ≤ (j : Int) := Int.natCast_nonneg _
                have k2 : (j : Int) < (na : Int) := by omega
                have HEN := Lib.hid (And.intro hen ht)
                have HNDP := Lib.hid hndP
                have HWP := Lib.hid hwP
                have HCOP := Lib.hid hcop
                obtain ⟨c0, c1, _, _, _, _, cl⟩ := hndP
                clear ht hta hen hrP hgP hVx hVP hsP hwP hDP hcop
                go_wp2_with fail
                refine HCOP.out.mono ?_
                rintro y w3 ⟨S', T', rfl, hs3, hS3, hT3, b3⟩
                have ht := Pr.en_lt HEN.out.1
                obtain ⟨e, he, hev⟩ : ∃ e, Pr.next x.d.s t = some e ∧ Pr.evAt x.d.s t = e := by
                  obtain ⟨e, i, hn, _, _⟩ := Pr.enabled_next HEN.out.1
                  exact ⟨e, hn, by unfold Pr.evAt; rw [hn]; rfl⟩
                have hst := step_ok w3 D S' T' x.d.s t e hs3 HWX.out ht HEN.out.1 he
                obtain ⟨et, ek, eo, ef⟩ := e
                simp only [valE] at hst
                have HST := Lib.hid hst
                have HEV := Lib.hid hev
                have HB3 := Lib.hid b3
                have HST3 := Lib.hid (And.intro hS3 hT3)
                clear hst hev he ht hs3 hS3 hT3 b3 c0 c1 cl ca lga HCOP
                go_wp2_with fail
                refine HST.out.mono ?_
                rintro y w4 ⟨rfl, hs4, hm4⟩
                obtain ⟨E, hE⟩ : ∃ z, z = w4.heap.size := ⟨_, rfl⟩
                obtain ⟨V0, hV0⟩ : ∃ z, z = w4.alloc (Obj.cells #[.int .i64 et, .int .i64 ek, .int .i64 eo, .bool ef] 51) := ⟨_, rfl⟩
                have hk5 : V0.heap[E]? = some (.cells #[.int .i64 et, .int .i64 ek, .int .i64 eo, .bool ef] 51 (0, 0)) := by rw [hV0, hE]; exact heap_alloc_new w4 _
                have hb5 : Below w4.heap.size w4 V0 := by rw [hV0]; exact (Below.refl _ _).alloc (Nat.le_refl _) _
                have hb4 : Below P.heap.size P w4 := HB3.out.trans (hm4.below P.heap.size HB3.out.size (fun k hk h => by have := HST3.out; omega))
                have hb4s := hb4.size
                have HB5 := Lib.hid (below_at hb4 hb5)
                have HS5 := Lib.hid (hs4.below hb5)
                have HK5 := Lib.hid hk5
                clear hs4 hm4 hk5 hb5 hb4 HST HB3
                go_upto_region 21 with fail
                rw [← hV0, ← hE]
                have HEP : Hid (P.heap.size ≤ E) := Lib.hid (by rw [hE]; exact hb4s)
                clear hV0 hE hb4s
                have hnd0 := HNDP.out.block (HB5.out.block g HNDP.out.2.2.2.2.2.2) HB5.out.size
                have hwl : x.d.w.length ≤ 33 := by have h1 := HL.out.way x.d (List.mem_map.2 ⟨x, HXM.out, rfl⟩); have h2 := HK.out; omega
                have hEl := blk_lt HK5.out
                have HSS : Hid (∀ u, Below V0.heap.size V0 u → u.cell? ⟨g, o + i * 6 + 1, none⟩ = some (.slice x.WA x.d.w.length x.wc) ∧ g < u.heap.size ∧ E < u.heap.size ∧ EvAt u E 0 ⟨et, ek, eo, ef⟩) := Lib.hid fun u hu => by
                  have hk := (hu.block E hEl).trans HK5.out
                  exact ⟨(World.cell?_of_block (hu.block g hnd0.2.2.2.2.2.2)).trans hnd0.2.1, Nat.lt_of_lt_of_le hnd0.2.2.2.2.2.2 hu.size, Nat.lt_of_lt_of_le hEl hu.size, by rw [cell_blk hk]; rfl, by rw [cell_blk hk]; rfl, by rw [cell_blk hk]; rfl, by rw [cell_blk hk]; rfl⟩
                have HWV : Hid (∀ u, Below V0.heap.size V0 u → Rd u 1 x.WA x.d.w.length (x.d.w.map iv)) := Lib.hid fun u hu => (HWP.out.below HB5.out (Nat.le_refl _)).below hu (Nat.le_refl _)
                have HZL : Hid (∀ a, Z = some a → a.block < P.heap.size) := Lib.hid HZ.out.below_row
                clear hnd0 hEl
                refine wp_region_pt (by kernel_rfl) (fun u => u.cell? ⟨g, o + i * 6 + 1, none⟩ = some (.slice x.WA x.d.w.length x.wc) ∧ g < u.heap.size ∧ E < u.heap.size ∧ EvAt u E 0 ⟨et, ek, eo, ef⟩) [] (.cons 0 .pure (.cons 1 .pure (.cons 2 .pure (.cons 3 .pure (.cons 4 .pure (.cons 5 .load (.cons 7 .pure (.cons 10 .load (.fork 6 (.cons 8 .eff (.cons 9 .eff (.cons 11 .pure (.cons 12 .eff (.cons 13 .eff (.cons 14 .pure .nil)))))) 8 (.cons 6 .eff (.cons 9 .eff (.cons 11 .pure (.cons 12 .eff (.cons 13 .eff (.cons 14 .pure .nil))))))))))))))) (by simp only [PT.map, List.getElem?_toArray, List.getElem?_cons_succ, List.getElem?_cons_zero]; rfl) (by kernel_rfl) (fun _ _ d _ _ h => by cases d <;> exact h) (HSS.out V0.drew (Below.refl V0.heap.size V0).drew) ?_
                have HB := Lib.hid (Below.refl V0.heap.size V0).drew
                obtain ⟨v, hv⟩ : ∃ v, v = V0.drew := ⟨_, rfl⟩
                rw [← hv] at HB ⊢
                clear hv
                repeat (first
                  | (refine pt_pure (v := ?_) (by rfl) (fun w1 => ?_) ?_
                     rotate_left
                     · go_simp <;> with_reducible rfl
                     simp only [Act.put, List.setIfInBounds_toArray, List.set_cons_zero, List.set_cons_succ])
                  | (refine pt_off (by rfl) ?_
                     simp only [Act.put, List.setIfInBounds_toArray, List.set_cons_zero, List.set_cons_succ])
                  | (refine pt_load_off (by rfl) ?_
                     simp only [Act.put, List.setIfInBounds_toArray, List.set_cons_zero, List.set_cons_succ])
                  | (refine pt_load (v := ?_) (by rfl) (fun w1 hw1 => ?_) ?_
                     rotate_left
                     · (have q0 := hw1.1
                        have q1 := hw1.2.1
                        have q2 := hw1.2.2.1
                        have x0 := hw1.2.2.2.1
                        have x1 := hw1.2.2.2.2.1
                        have x2 := hw1.2.2.2.2.2.1
                        have x3 := hw1.2.2.2.2.2.2
                        simp only [Nat.zero_add] at x1 x2 x3
                        clear hw1
                        go_simp <;> with_reducible rfl)
                     simp only [Act.put, List.setIfInBounds_toArray, List.set_cons_zero, List.set_cons_succ]))
                refine pt_fork ?_ ?_
                · go_wp2_with fail
                  refine (cloneInt_any v x.WA x.d.w.length x.wc (x.d.w.map iv) (HWV.out v HB.out) (by omega)).mono ?_
                  rintro y u ⟨A6, c6, rfl, r6, a6, b6⟩
                  have H6 : Hid (Row u 3 1 A6 x.d.w.length c6 (x.d.w.map iv) ∧ ∀ a, A6 = some a → V0.heap.size ≤ a.block) := Lib.hid ⟨r6, fun a ha => Nat.le_trans HB.out.size (a6 a ha)⟩
                  have HB := Lib.hid (below_at HB.out b6)
                  (try have H8 := Lib.hid (blk_stepW H8.out b6))
                  clear r6 a6 b6
                  rename World => v
                  go_wp2_with fail
                  refine pt_on (fun u h => h) (HSS.out v HB.out) ?_
                  refine pt_eff ?_
                  go_wp2_with fail
                  obtain ⟨Y, hY⟩ : ∃ z, z = v.heap.size := ⟨_, rfl⟩
                  obtain ⟨u, hu⟩ : ∃ u, u = v.alloc (Obj.cells #[.int .i64 (t : Int)] 3) := ⟨_, rfl⟩
                  rw [← hu, ← hY]
                  have hb : Below v.heap.size v u := by rw [hu]; exact (Below.refl _ _).alloc (Nat.le_refl _) _
                  have hk : u.heap[Y]? = some (.cells #[.int .i64 (t : Int)] 3 (0, 0)) := by rw [hu, hY]; exact heap_alloc_new v _
                  have H8 := Lib.hid hk
                  have HB := Lib.hid (below_at HB.out hb)
                  (try have H6 := Lib.hid (And.intro (row_stepS H6.out.1 hb) H6.out.2))
                  clear hb hk hu hY
                  rename World => v
                  refine pt_on (fun u h => h) (HSS.out v HB.out) ?_
                  refine pt_eff ?_
                  go_wp2_with (at_builtin; refine wpList_append_row (by rfl) _ _ _ (by rfl) 3 j0 _ 1 8 Tryz.underlying32 hj0 hjz0 hjz1 hjz2 rfl (by omega) A6 x.d.w.length c6 (x.d.w.map iv) (by rfl) H6.out.1 ⟨Y, 0, none⟩ 1 1 [.int .i64 (t : Int)] (by rfl) (by rfl) (World.news_of_block (cs := #[.int .i64 (t : Int)]) (t := 3) (fr := (0, 0)) H8.out) (by simp [Value.oneCell']) (by omega) (by unfold maxLen; omega) (by omega) ?_; intro g9 o9 c9 u hown hm hat)
                  have hg9 : V0.heap.size ≤ g9 := by rcases hat with ⟨a, h1, h2⟩ | h; (have := H6.out.2 a h1; omega); exact Nat.le_trans HB.out.size h
                  have H9 : Hid (Row u 3 1 (some ⟨g9, o9, none⟩) (x.d.w.length + 1) c9 (x.d.w.map iv ++ [.int .i64 (t : Int)]) ∧ V0.heap.size ≤ g9) := Lib.hid ⟨hown, hg9⟩
                  have HB := Lib.hid (HB.out.trans (hm.below V0.heap.size HB.out.size (fun k hk ⟨a, h1, h2⟩ => by have := H6.out.2 a h1; omega)))
                  clear hown hm hat hg9
                  rename World => v
                  refine pt_on (fun u h => h) (HSS.out v HB.out) ?_
                  repeat (first
                    | (refine pt_pure (v := ?_) (by rfl) (fun w1 => ?_) ?_
                       rotate_left
                       · go_simp <;> with_reducible rfl
                       simp only [Act.put, List.setIfInBounds_toArray, List.set_cons_zero, List.set_cons_succ])
                    | (refine pt_off (by rfl) ?_
                       simp only [Act.put, List.setIfInBounds_toArray, List.set_cons_zero, List.set_cons_succ])
                    | (refine pt_load_off (by rfl) ?_
                       simp only [Act.put, List.setIfInBounds_toArray, List.set_cons_zero, List.set_cons_succ])
                    | (refine pt_load (v := ?_) (by rfl) (fun w1 hw1 => ?_) ?_
                       rotate_left
                       · (skip
                          clear hw1
                          go_simp <;> with_reducible rfl)
                       simp only [Act.put, List.setIfInBounds_toArray, List.set_cons_zero, List.set_cons_succ]))
                  refine pt_eff ?_
                  go_wp2_with fail
                  obtain ⟨K, hK⟩ : ∃ z, z = v.heap.size := ⟨_, rfl⟩
                  obtain ⟨u, hu⟩ : ∃ u, u = v.alloc (Obj.cells #[.pointer (some ⟨S', 0, none⟩), .slice (some ⟨g9, o9, none⟩) (x.d.w.length + 1) c9, .int .i64 et, .int .i64 ek, .int .i64 eo, .bool ef] 104) := ⟨_, rfl⟩
                  rw [← hu, ← hK]
                  have hb : Below v.heap.size v u := by rw [hu]; exact (Below.refl _ _).alloc (Nat.le_refl _) _
                  have hk : u.heap[K]? = some (.cells #[.pointer (some ⟨S', 0, none⟩), .slice (some ⟨g9, o9, none⟩) (x.d.w.length + 1) c9, .int .i64 et, .int .i64 ek, .int .i64 eo, .bool ef] 104 (0, 0)) := by rw [hu, hK]; exact heap_alloc_new v _
                  have H12 := Lib.hid hk
                  have HB := Lib.hid (below_at HB.out hb)
                  have H9 := Lib.hid (And.intro (row_stepS H9.out.1 hb) H9.out.2)
                  clear hb hk hu hK
                  rename World => v
                  refine pt_on (fun u h => h) (HSS.out v HB.out) ?_
                  refine pt_eff ?_
                  have HZV := Lib.hid (row_stepS HZ.out.1 (below_at HB5.out HB.out))
                  have hnz2 : zs.length = ny + j := HNZ.out.symm
                  rw [hnz2] at HZV
                  go_wp2_with (at_builtin; refine wpList_append_row (by rfl) _ _ _ (by rfl) 104 i0 _ 6 64 Tryz.underlying169 hi0 hz0 hz1 hz2 rfl (by omega) Z (ny + j) cz (zs.flatMap encNc) (by rfl) HZV.out ⟨K, 0, none⟩ 1 1 [.pointer (some ⟨S', 0, none⟩), .slice (some ⟨g9, o9, none⟩) (x.d.w.length + 1) c9, .int .i64 et, .int .i64 ek, .int .i64 eo, .bool ef] (by rfl) (by rfl) (World.news_of_block (cs := #[.pointer (some ⟨S', 0, none⟩), .slice (some ⟨g9, o9, none⟩) (x.d.w.length + 1) c9, .int .i64 et, .int .i64 ek, .int .i64 eo, .bool ef]) (t := 104) (fr := (0, 0)) H12.out) (by simp [Value.oneCell']) (by omega) (by unfold maxLen; omega) (by omega) ?_; intro g13 o13 c13 u hown hm hat)
                  have hP5 := HB5.out.size
                  have hnew := HZ.out.kid (below_at HB5.out HB.out) (HS5.out.below HB.out) H9.out.1 (Nat.le_trans hP5 H9.out.2) HST3.out HEV.out hnz2 hown hm hat (fun k hk a ha => Nat.ne_of_lt (Nat.lt_of_lt_of_le (HD4.out k hk) (Nat.le_trans HBR.out.size (HZB.out a ha))))
                  have hs := HSS.out v HB.out
                  have hgz : ¬ ∃ a, Z = some a ∧ g = a.block := fun ⟨a, h1, h2⟩ => Nat.lt_irrefl g (Nat.lt_of_lt_of_le HG.out (Nat.le_trans (HZB.out a h1) (Nat.le_of_eq h2.symm)))
                  have hez : ¬ ∃ a, Z = some a ∧ E = a.block := fun ⟨a, h1, h2⟩ => Nat.lt_irrefl E (Nat.lt_of_lt_of_le (Nat.lt_of_le_of_lt (Nat.le_of_eq h2) (HZL.out a h1)) HEP.out)
                  have hs13 : u.cell? ⟨g, o + i * 6 + 1, none⟩ = some (.slice x.WA x.d.w.length x.wc) ∧ g < u.heap.size ∧ E < u.heap.size ∧ EvAt u E 0 ⟨et, ek, eo, ef⟩ := ⟨(hm.cell g _ hs.2.1 hgz).trans hs.1, Nat.lt_of_lt_of_le hs.2.1 hm.size, Nat.lt_of_lt_of_le hs.2.2.1 hm.size, (hm.cell E _ hs.2.2.1 hez).trans hs.2.2.2.1, (hm.cell E _ hs.2.2.1 hez).trans hs.2.2.2.2.1, (hm.cell E _ hs.2.2.1 hez).trans hs.2.2.2.2.2.1, (hm.cell E _ hs.2.2.1 hez).trans hs.2.2.2.2.2.2⟩
                  have hf0 : (∃ a1, B' = some a1 ∧ g13 = a1.block) ∨ u2.heap.size ≤ g13 := Or.elim hat (fun ⟨a, h1, h2⟩ => Or.elim (HZF.out a h1) (fun ⟨a1, h3, h4⟩ => .inl ⟨a1, h3, h2.trans h4⟩) (fun h => .inr (Nat.le_trans h (Nat.le_of_eq h2.symm)))) (fun h => .inr (Nat.le_trans HMZ.out.size (Nat.le_trans HB5.out.size (Nat.le_trans HB.out.size h))))
                  have hfr : ∀ a, (some ⟨g13, o13, none⟩ : Option Addr) = some a → (∃ a1, B' = some a1 ∧ a.block = a1.block) ∨ u2.heap.size ≤ a.block := fun a ha => by cases ha; exact hf0
                  have hmz : Mod (fun k => ∃ a, B' = some a ∧ k = a.block) u2 u := (HMZ.out.trans (Mod.of_below_size (below_at HB5.out HB.out) _)).then hm (fun k hk ⟨a, h1, h2⟩ => Or.elim (HZF.out a h1) (fun ⟨a1, h3, h4⟩ => ⟨a1, h3, h2.trans h4⟩) (fun h => absurd hk (Nat.not_lt.2 (Nat.le_trans h (Nat.le_of_eq h2.symm)))))
                  have hvb : ∀ a, (some ⟨g13, o13, none⟩ : Option Addr) = some a → V.heap.size ≤ a.block := fun a ha => by cases ha; exact Or.elim hf0 (fun ⟨a1, h1, h2⟩ => Nat.le_trans (HBY.out a1 h1) (Nat.le_of_eq h2.symm)) (fun h => Nat.le_trans HBZ.out.size (Nat.le_trans HB2.out.size h))
                  have HNEW := Lib.hid hnew
                  have HS13 := Lib.hid hs13
                  have HFR := Lib.hid hfr
                  have HMZ2 := Lib.hid hmz
                  have HVB := Lib.hid hvb
                  clear hown hm hat hnew hs13 hfr hmz hvb hP5 hs hgz hez hf0
                  refine pt_on (fun u h => h) HS13.out ?_
                  repeat (first
                    | (refine pt_pure (v := ?_) (by rfl) (fun w1 => ?_) ?_
                       rotate_left
                       · go_simp <;> with_reducible rfl
                       simp only [Act.put, List.setIfInBounds_toArray, List.set_cons_zero, List.set_cons_succ])
                    | (refine pt_off (by rfl) ?_
                       simp only [Act.put, List.setIfInBounds_toArray, List.set_cons_zero, List.set_cons_succ])
                    | (refine pt_load_off (by rfl) ?_
                       simp only [Act.put, List.setIfInBounds_toArray, List.set_cons_zero, List.set_cons_succ])
                    | (refine pt_load (v := ?_) (by rfl) (fun w1 hw1 => ?_) ?_
                       rotate_left
                       · (skip
                          clear hw1
                          go_simp <;> with_reducible rfl)
                       simp only [Act.put, List.setIfInBounds_toArray, List.set_cons_zero, List.set_cons_succ]))
                  refine pt_end ?_
                  go_wp2_with fail
                  go_roundw
                  case rel => exact ⟨j + 1, ny + j + 1, c13, some ⟨g13, o13, none⟩, zs ++ [⟨S', T', c9, some ⟨g9, o9, none⟩, Pr.kidN x.d t⟩], by omega, by omega, by go_num, rfl, Lib.hid (by rw [List.length_append, ← HNZ.out]; rfl), Lib.hid (by rw [List.map_append, HZS.out, List.take_add_one, HEN.out.2, List.map_append, List.append_assoc]; rfl), HNEW, HVB, HFR, HMZ2⟩
                  case measure => simp [intOf]; omega
                · go_wp2_with fail
                  obtain ⟨Y, hY⟩ : ∃ z, z = v.heap.size := ⟨_, rfl⟩
                  obtain ⟨u, hu⟩ : ∃ u, u = v.alloc (Obj.cells #[.int .i64 (t : Int)] 3) := ⟨_, rfl⟩
                  rw [← hu, ← hY]
                  have hb : Below v.heap.size v u := by rw [hu]; exact (Below.refl _ _).alloc (Nat.le_refl _) _
                  have hk : u.heap[Y]? = some (.cells #[.int .i64 (t : Int)] 3 (0, 0)) := by rw [hu, hY]; exact heap_alloc_new v _
                  have H8 := Lib.hid hk
                  have HB := Lib.hid (below_at HB.out hb)
                  (try have H6 := Lib.hid (And.intro (row_stepS H6.out.1 hb) H6.out.2))
                  clear hb hk hu hY
                  rename World => v
                  refine pt_on (fun u h => h) (HSS.out v HB.out) ?_
                  refine pt_eff ?_
                  go_wp2_with fail
                  refine (cloneInt_any v x.WA x.d.w.length x.wc (x.d.w.map iv) (HWV.out v HB.out) (by omega)).mono ?_
                  rintro y u ⟨A6, c6, rfl, r6, a6, b6⟩
                  have H6 : Hid (Row u 3 1 A6 x.d.w.length c6 (x.d.w.map iv) ∧ ∀ a, A6 = some a → V0.heap.size ≤ a.block) := Lib.hid ⟨r6, fun a ha => Nat.le_trans HB.out.size (a6 a ha)⟩
                  have HB := Lib.hid (below_at HB.out b6)
                  (try have H8 := Lib.hid (blk_stepW H8.out b6))
                  clear r6 a6 b6
                  rename World => v
                  go_wp2_with fail
                  refine pt_on (fun u h => h) (HSS.out v HB.out) ?_
                  refine pt_eff ?_
                  go_wp2_with (at_builtin; refine wpList_append_row (by rfl) _ _ _ (by rfl) 3 j0 _ 1 8 Tryz.underlying32 hj0 hjz0 hjz1 hjz2 rfl (by omega) A6 x.d.w.length c6 (x.d.w.map iv) (by rfl) H6.out.1 ⟨Y, 0, none⟩ 1 1 [.int .i64 (t : Int)] (by rfl) (by rfl) (World.news_of_block (cs := #[.int .i64 (t : Int)]) (t := 3) (fr := (0, 0)) H8.out) (by simp [Value.oneCell']) (by omega) (by unfold maxLen; omega) (by omega) ?_; intro g9 o9 c9 u hown hm hat)
                  have hg9 : V0.heap.size ≤ g9 := by rcases hat with ⟨a, h1, h2⟩ | h; (have := H6.out.2 a h1; omega); exact Nat.le_trans HB.out.size h
                  have H9 : Hid (Row u 3 1 (some ⟨g9, o9, none⟩) (x.d.w.length + 1) c9 (x.d.w.map iv ++ [.int .i64 (t : Int)]) ∧ V0.heap.size ≤ g9) := Lib.hid ⟨hown, hg9⟩
                  have HB := Lib.hid (HB.out.trans (hm.below V0.heap.size HB.out.size (fun k hk ⟨a, h1, h2⟩ => by have := H6.out.2 a h1; omega)))
                  clear hown hm hat hg9
                  rename World => v
                  refine pt_on (fun u h => h) (HSS.out v HB.out) ?_
                  repeat (first
                    | (refine pt_pure (v := ?_) (by rfl) (fun w1 => ?_) ?_
                       rotate_left
                       · go_simp <;> with_reducible rfl
                       simp only [Act.put, List.setIfInBounds_toArray, List.set_cons_zero, List.set_cons_succ])
                    | (refine pt_off (by rfl) ?_
                       simp only [Act.put, List.setIfInBounds_toArray, List.set_cons_zero, List.set_cons_succ])
                    | (refine pt_load_off (by rfl) ?_
                       simp only [Act.put, List.setIfInBounds_toArray, List.set_cons_zero, List.set_cons_succ])
                    | (refine pt_load (v := ?_) (by rfl) (fun w1 hw1 => ?_) ?_
                       rotate_left
                       · (skip
                          clear hw1
                          go_simp <;> with_reducible rfl)
                       simp only [Act.put, List.setIfInBounds_toArray, List.set_cons_zero, List.set_cons_succ]))
                  refine pt_eff ?_
                  go_wp2_with fail
                  obtain ⟨K, hK⟩ : ∃ z, z = v.heap.size := ⟨_, rfl⟩
                  obtain ⟨u, hu⟩ : ∃ u, u = v.alloc (Obj.cells #[.pointer (some ⟨S', 0, none⟩), .slice (some ⟨g9, o9, none⟩) (x.d.w.length + 1) c9, .int .i64 et, .int .i64 ek, .int .i64 eo, .bool ef] 104) := ⟨_, rfl⟩
                  rw [← hu, ← hK]
                  have hb : Below v.heap.size v u := by rw [hu]; exact (Below.refl _ _).alloc (Nat.le_refl _) _
                  have hk : u.heap[K]? = some (.cells #[.pointer (some ⟨S', 0, none⟩), .slice (some ⟨g9, o9, none⟩) (x.d.w.length + 1) c9, .int .i64 et, .int .i64 ek, .int .i64 eo, .bool ef] 104 (0, 0)) := by rw [hu, hK]; exact heap_alloc_new v _
                  have H12 := Lib.hid hk
                  have HB := Lib.hid (below_at HB.out hb)
                  have H9 := Lib.hid (And.intro (row_stepS H9.out.1 hb) H9.out.2)
                  clear hb hk hu hK
                  rename World => v
                  refine pt_on (fun u h => h) (HSS.out v HB.out) ?_
                  refine pt_eff ?_
                  have HZV := Lib.hid (row_stepS HZ.out.1 (below_at HB5.out HB.out))
                  have hnz2 : zs.length = ny + j := HNZ.out.symm
                  rw [hnz2] at HZV
                  go_wp2_with (at_builtin; refine wpList_append_row (by rfl) _ _ _ (by rfl) 104 i0 _ 6 64 Tryz.underlying169 hi0 hz0 hz1 hz2 rfl (by omega) Z (ny + j) cz (zs.flatMap encNc) (by rfl) HZV.out ⟨K, 0, none⟩ 1 1 [.pointer (some ⟨S', 0, none⟩), .slice (some ⟨g9, o9, none⟩) (x.d.w.length + 1) c9, .int .i64 et, .int .i64 ek, .int .i64 eo, .bool ef] (by rfl) (by rfl) (World.news_of_block (cs := #[.pointer (some ⟨S', 0, none⟩), .slice (some ⟨g9, o9, none⟩) (x.d.w.length + 1) c9, .int .i64 et, .int .i64 ek, .int .i64 eo, .bool ef]) (t := 104) (fr := (0, 0)) H12.out) (by simp [Value.oneCell']) (by omega) (by unfold maxLen; omega) (by omega) ?_; intro g13 o13 c13 u hown hm hat)
                  have hP5 := HB5.out.size
                  have hnew := HZ.out.kid (below_at HB5.out HB.out) (HS5.out.below HB.out) H9.out.1 (Nat.le_trans hP5 H9.out.2) HST3.out HEV.out hnz2 hown hm hat (fun k hk a ha => Nat.ne_of_lt (Nat.lt_of_lt_of_le (HD4.out k hk) (Nat.le_trans HBR.out.size (HZB.out a ha))))
                  have hs := HSS.out v HB.out
                  have hgz : ¬ ∃ a, Z = some a ∧ g = a.block := fun ⟨a, h1, h2⟩ => Nat.lt_irrefl g (Nat.lt_of_lt_of_le HG.out (Nat.le_trans (HZB.out a h1) (Nat.le_of_eq h2.symm)))
                  have hez : ¬ ∃ a, Z = some a ∧ E = a.block := fun ⟨a, h1, h2⟩ => Nat.lt_irrefl E (Nat.lt_of_lt_of_le (Nat.lt_of_le_of_lt (Nat.le_of_eq h2) (HZL.out a h1)) HEP.out)
                  have hs13 : u.cell? ⟨g, o + i * 6 + 1, none⟩ = some (.slice x.WA x.d.w.length x.wc) ∧ g < u.heap.size ∧ E < u.heap.size ∧ EvAt u E 0 ⟨et, ek, eo, ef⟩ := ⟨(hm.cell g _ hs.2.1 hgz).trans hs.1, Nat.lt_of_lt_of_le hs.2.1 hm.size, Nat.lt_of_lt_of_le hs.2.2.1 hm.size, (hm.cell E _ hs.2.2.1 hez).trans hs.2.2.2.1, (hm.cell E _ hs.2.2.1 hez).trans hs.2.2.2.2.1, (hm.cell E _ hs.2.2.1 hez).trans hs.2.2.2.2.2.1, (hm.cell E _ hs.2.2.1 hez).trans hs.2.2.2.2.2.2⟩
                  have hf0 : (∃ a1, B' = some a1 ∧ g13 = a1.block) ∨ u2.heap.size ≤ g13 := Or.elim hat (fun ⟨a, h1, h2⟩ => Or.elim (HZF.out a h1) (fun ⟨a1, h3, h4⟩ => .inl ⟨a1, h3, h2.trans h4⟩) (fun h => .inr (Nat.le_trans h (Nat.le_of_eq h2.symm)))) (fun h => .inr (Nat.le_trans HMZ.out.size (Nat.le_trans HB5.out.size (Nat.le_trans HB.out.size h))))
                  have hfr : ∀ a, (some ⟨g13, o13, none⟩ : Option Addr) = some a → (∃ a1, B' = some a1 ∧ a.block = a1.block) ∨ u2.heap.size ≤ a.block := fun a ha => by cases ha; exact hf0
                  have hmz : Mod (fun k => ∃ a, B' = some a ∧ k = a.block) u2 u := (HMZ.out.trans (Mod.of_below_size (below_at HB5.out HB.out) _)).then hm (fun k hk ⟨a, h1, h2⟩ => Or.elim (HZF.out a h1) (fun ⟨a1, h3, h4⟩ => ⟨a1, h3, h2.trans h4⟩) (fun h => absurd hk (Nat.not_lt.2 (Nat.le_trans h (Nat.le_of_eq h2.symm)))))
                  have hvb : ∀ a, (some ⟨g13, o13, none⟩ : Option Addr) = some a → V.heap.size ≤ a.block := fun a ha => by cases ha; exact Or.elim hf0 (fun ⟨a1, h1, h2⟩ => Nat.le_trans (HBY.out a1 h1) (Nat.le_of_eq h2.symm)) (fun h => Nat.le_trans HBZ.out.size (Nat.le_trans HB2.out.size h))
                  have HNEW := Lib.hid hnew
                  have HS13 := Lib.hid hs13
                  have HFR := Lib.hid hfr
                  have HMZ2 := Lib.hid hmz
                  have HVB := Lib.hid hvb
                  clear hown hm hat hnew hs13 hfr hmz hvb hP5 hs hgz hez hf0
                  refine pt_on (fun u h => h) HS13.out ?_
                  repeat (first
                    | (refine pt_pure (v := ?_) (by rfl) (fun w1 => ?_) ?_
                       rotate_left
                       · go_simp <;> with_reducible rfl
                       simp only [Act.put, List.setIfInBounds_toArray, List.set_cons_zero, List.set_cons_succ])
                    | (refine pt_off (by rfl) ?_
                       simp only [Act.put, List.setIfInBounds_toArray, List.set_cons_zero, List.set_cons_succ])
                    | (refine pt_load_off (by rfl) ?_
                       simp only [Act.put, List.setIfInBounds_toArray, List.set_cons_zero, List.set_cons_succ])
                    | (refine pt_load (v := ?_) (by rfl) (fun w1 hw1 => ?_) ?_
                       rotate_left
                       · (skip
                          clear hw1
                          go_simp <;> with_reducible rfl)
                       simp only [Act.put, List.setIfInBounds_toArray, List.set_cons_zero, List.set_cons_succ]))
                  refine pt_end ?_
                  go_wp2_with fail
                  go_roundw
                  case rel => exact ⟨j + 1, ny + j + 1, c13, some ⟨g13, o13, none⟩, zs ++ [⟨S', T', c9, some ⟨g9, o9, none⟩, Pr.kidN x.d t⟩], by omega, by omega, by go_num, rfl, Lib.hid (by rw [List.length_append, ← HNZ.out]; rfl), Lib.hid (by rw [List.map_append, HZS.out, List.take_add_one, HEN.out.2, List.map_append, List.append_assoc]; rfl), HNEW, HVB, HFR, HMZ2⟩
                  case measure => simp [intOf]; omega
              · obtain rfl : j = na := by omega
                have hall : (Pr.all x.d.s).take j = Pr.all x.d.s := List.take_of_length_le (by have h1 := HAL.out.2; rw [HAL.out.1, List.length_map] at h1; omega)
                have hzs := HZS.out
                rw [hall] at hzs
                have hzs2 : zs.map Nc.d = ((xs.map Nc.d).take (i + 1)).flatMap Pr.kids_ := by
                  rw [HTK.out, List.flatMap_append, hzs, HYS.out]; simp [Pr.kids_]
                have hb : Below V.heap.size V P := (below_at HBZ.out HB2.out).trans (HMZ.out.below V.heap.size (by have := HBZ.out.size; have := HB2.out.size; omega) (fun k hk ⟨a, h1, h2⟩ => by have := HBY.out a h1; omega))
                have HZS2 := Lib.hid hzs2
                have HNF2 : Hid (∀ d ∈ (xs.map Nc.d).take (i + 1), is d = false) := Lib.hid fun d hd => by
                  have h1 := HFD.out
                  rw [if_neg (by simp)] at h1
                  have := List.find?_eq_none.1 h1 d hd
                  simpa using this
                have HBN := Lib.hid hb
                have k4 : ¬ (j : Int) < (j : Int) := by omega
                clear hall hzs hzs2 hb
                go_wp2_with fail
                go_roundw
                case rel => exact ⟨_, _, _, _, _, _, _, _, _, _, .int .i64 ((i + 1 : Nat) : Int), ⟨i + 1, by omega, ny + j, by omega, rfl, cz, Z, rfl, zs, HNZ, HZS2, HNF2, HZ, HZB⟩, rfl, rfl, rfl, rfl, rfl, rfl, rfl, rfl, rfl, rfl, by simp⟩
                case measure => simp [intOf]; omega
        · obtain rfl : i = n := by omega
          have ht : (xs.map Nc.d).take i = xs.map Nc.d := List.take_of_length_le (by rw [List.length_map]; have := HN.out; omega)
          have hys := HYS.out
          have hnf := HNF.out
          rw [ht] at hys hnf
          have hlv := HL.out.next
          rw [← hys] at hlv
          have hsm := hlv.small HF0.out
          have hres := HR1.out
          rw [hnf] at hres
          simp only at hres
          rw [← hys] at hres
          have hny2 : ny ≤ 100000 := by have h1 := HCN.out; have h2 := HNY.out; rw [List.length_map] at hsm; omega
          have hmeas : lenAt (.slice B' ny cb') U < lenAt (.slice B i cb) V := by
            have h1 := lenAt_le HY.out HNY.out hlv
            have h2 := lenAt_node HX.out HN.out H0.out HL.out
            have h3 := HK.out
            omega
          have HLV := Lib.hid hlv
          have HRS := Lib.hid hres
          have HMEAS := Lib.hid hmeas
          clear ht hys hnf hlv hsm hres hmeas
          have k4 : ¬ (i : Int) < (i : Int) := by omega
          go_wp2_with fail
          go_roundw
          case rel => exact ⟨k + 1, ny, cb', B', ys, hny2, rfl, HNY, HLV, Lib.hid (by rw [show 33 - (k + 1) = 32 - k by omega]; exact HRS.out), HY, Lib.hid (below_at HBR.out HBZ.out)⟩
          case measure => exact HMEAS.out
end Go.Proofs.YtckdofjpoajblaaGreat
namespace Go.Proofs.YtckdofjpoajblaaGreat
open Go.RowKit
set_option linter.unusedVariables false
namespace Pr
def wayOf (r : Option Nd) : List Int := match r with | some d => d.w | none => []
def leastR (is : Nd → Bool) (p : Pg) (f : Int) (most : Nat) : Option Nd := if (all6 p f most).2 = 0 then leastN is (start p f.toNat) else none
end Pr
def LeastOut (w : World) (k : Int) (r : Option Pr.Nd) (x : Ending) (w' : World) : Prop :=
  ∃ A c, x = .returned (.tuple #[.slice A (Pr.wayOf r).length c, .bool r.isSome, .int .i64 k]) ∧ Rd w' 1 A (Pr.wayOf r).length ((Pr.wayOf r).map iv) ∧ Below w.heap.size w w'
theorem rd_nil1 (w : World) (sz : Nat) (A : Option Addr) : Rd w sz A 0 [] := ⟨by simp, fun h => absurd h (by omega)⟩
set_option maxRecDepth 100000 in
set_option maxHeartbeats 2000000 in
theorem find_bad {G : Nat} {caps : Array Value} (w : World) (p : Pg) (A : Option Addr) (cap : Nat) (f : Int) (most : Nat) (hp : PgIn w p A) (hmost : most ≤ 100000) (h6 : (Pr.all6 p f most).2 ≠ 0) :
    Calls Tryz.prog 54 #[valP p A cap, .int .i64 f, .int .i64 (most : Int), .func (.func G) #[] caps] w fun x w' => x = .returned (.tuple #[.slice none 0 0, .bool false, .int .i64 (Pr.all6 p f most).2]) ∧ Below w.heap.size w w' := by
  obtain ⟨Wa, X, hWa, hX, hBa, hXl, hXe⟩ := pg_box w p.vars p.mtx A p.code.length cap
  have hpa := hp.below hBa
  have hall : Calls Tryz.prog 59 #[valP p A cap, .int .i64 f, .int .i64 (most : Int)] Wa fun x w' => (∃ (A' : Option Addr) (n c' r k : Nat), x = .returned (.tuple #[.agg #[.slice A' n c', .int .i64 r, .int .i64 k], .int .i64 (Pr.all6 p f most).2])) ∧ Below Wa.heap.size Wa w' := (walkAll_any Wa p A cap f most hpa hmost).mono fun x w' ⟨A', c', hx, _, _, _, hb⟩ => ⟨⟨A', (Pr.all6 p f most).1.2.keys.length, c', (Pr.all6 p f most).1.2.runs, (Pr.all6 p f most).1.1, hx⟩, hb⟩
  obtain ⟨e, he⟩ : ∃ e, e = (Pr.all6 p f most).2 := ⟨_, rfl⟩
  rw [← he] at hall h6 ⊢
  unfold valP at hall ⊢
  have he0 : (e == 0) = false := by simpa using h6
  have he1 : (e != 0) = true := by simpa using h6
  have HALL := Lib.hid hall
  have HXE := Lib.hid hXe
  have HB := Lib.hid hBa
  obtain ⟨x0, x1, x2, xl⟩ := hXe Wa (Below.refl _ _)
  clear hall hXe hBa hpa hp he
  go_enter Tryz.func54, Tryz.ntmps54
  go_upto_region 1 with fail
  rw [← hWa, ← hX]
  clear hWa hX
  go_wp2_with fail
  refine HALL.out.mono ?_
  rintro y w1 ⟨⟨A1, n1, c1, r1, k1, rfl⟩, b1⟩
  have HB1 := Lib.hid (below_at HB.out (b1.alloc b1.size (Obj.cells #[.slice A1 n1 c1, .int .i64 r1, .int .i64 k1] 110)))
  clear b1 HALL x0 x1 x2 xl
  go_wp2_with fail
  exact bodyPost_ret (v := .tuple #[.slice none 0 0, .bool false, .int .i64 e]) (by simp [results, Tryz.results54, go_sem]) rfl ⟨rfl, HB1.out⟩
theorem find_any {G : Nat} {caps : Array Value} {is : Pr.Nd → Bool} (w : World) (p : Pg) (A : Option Addr) (cap : Nat) (f : Int) (most : Nat) (hp : PgIn w p A) (hmost : most ≤ 100000) (his : IsS G caps w is) :
    Calls Tryz.prog 54 #[valP p A cap, .int .i64 f, .int .i64 (most : Int), .func (.func G) #[] caps] w (LeastOut w (Pr.all6 p f most).2 (Pr.leastR is p f most)) := by
  by_cases h6 : (Pr.all6 p f most).2 = 0
  · obtain ⟨m, rfl, hm8, hok, hcnt⟩ := Pr.all6_ok h6
    refine (find_ok w p A cap m most hp hmost his hm8 hok hcnt h6).mono fun x w' h => ?_
    have hr : Pr.leastR is p m most = Pr.leastN is (Pr.start p m) := by unfold Pr.leastR; rw [if_pos h6]; rfl
    rw [hr, h6]
    unfold FindOut at h
    cases hl : Pr.leastN is (Pr.start p m) with
    | none => rw [hl] at h; exact ⟨none, 0, h.1, rd_nil1 _ _ _, h.2⟩
    | some d => rw [hl] at h; obtain ⟨A', c', h1, h2, h3⟩ := h; exact ⟨A', c', h1, h2, h3⟩
  · refine (find_bad w p A cap f most hp hmost h6).mono fun x w' h => ?_
    have hr : Pr.leastR is p f most = none := by unfold Pr.leastR; rw [if_neg h6]
    rw [hr]
    exact ⟨none, 0, h.1, rd_nil1 _ _ _, h.2⟩
set_option maxRecDepth 100000 in
theorem failing_any (w : World) (p : Pg) (A : Option Addr) (cap : Nat) (f : Int) (most : Nat) (hp : PgIn w p A) (hmost : most ≤ 100000) :
    Calls Tryz.prog 20 #[valP p A cap, .int .i64 f, .int .i64 (most : Int)] w (LeastOut w (Pr.all6 p f most).2 (Pr.leastR Pr.isFail p f most)) := by
  obtain ⟨Wa, X, hWa, hX, hBa, hXl, hXe⟩ := pg_box w p.vars p.mtx A p.code.length cap
  have hpa := hp.below hBa
  have hcall := find_any Wa p A cap f most hpa hmost (fail_is Wa)
  obtain ⟨e, he⟩ : ∃ e, e = (Pr.all6 p f most).2 := ⟨_, rfl⟩
  obtain ⟨r, hr⟩ : ∃ r, r = Pr.leastR Pr.isFail p f most := ⟨_, rfl⟩
  rw [← he, ← hr] at hcall ⊢
  unfold LeastOut at hcall ⊢
  obtain ⟨b, hb⟩ : ∃ b, b = r.isSome := ⟨_, rfl⟩
  obtain ⟨q, hq⟩ : ∃ q, q = (Pr.wayOf r).length := ⟨_, rfl⟩
  rw [← hb, ← hq] at hcall ⊢
  unfold valP at hcall ⊢
  have HCALL := Lib.hid hcall
  have HB := Lib.hid hBa
  obtain ⟨x0, x1, x2, xl⟩ := hXe Wa (Below.refl _ _)
  clear hcall hXe hBa hpa hp he hr hb hq
  go_enter Tryz.func20, Tryz.ntmps20
  go_upto_region 1 with fail
  rw [← hWa, ← hX]
  clear hWa hX
  go_wp2_with fail
  refine HCALL.out.mono ?_
  rintro y w1 ⟨A1, c1, rfl, r1, b1⟩
  have H1 := Lib.hid (And.intro r1 (below_at HB.out b1))
  clear r1 b1 HCALL x0 x1 x2 xl
  go_wp2_with fail
  exact bodyPost_ret (v := .tuple #[.slice A1 q c1, .bool b, .int .i64 e]) (by simp [results, Tryz.results20, go_sem]) rfl ⟨A1, c1, rfl, H1.out.1, H1.out.2⟩
set_option maxRecDepth 100000 in
theorem waiting_any (w : World) (p : Pg) (A : Option Addr) (cap : Nat) (f : Int) (most : Nat) (hp : PgIn w p A) (hmost : most ≤ 100000) :
    Calls Tryz.prog 21 #[valP p A cap, .int .i64 f, .int .i64 (most : Int)] w (LeastOut w (Pr.all6 p f most).2 (Pr.leastR Pr.isWait p f most)) := by
  obtain ⟨Wa, X, hWa, hX, hBa, hXl, hXe⟩ := pg_box w p.vars p.mtx A p.code.length cap
  have hpa := hp.below hBa
  have hcall := find_any Wa p A cap f most hpa hmost (wait_is Wa)
  obtain ⟨e, he⟩ : ∃ e, e = (Pr.all6 p f most).2 := ⟨_, rfl⟩
  obtain ⟨r, hr⟩ : ∃ r, r = Pr.leastR Pr.isWait p f most := ⟨_, rfl⟩
  rw [← he, ← hr] at hcall ⊢
  unfold LeastOut at hcall ⊢
  obtain ⟨b, hb⟩ : ∃ b, b = r.isSome := ⟨_, rfl⟩
  obtain ⟨q, hq⟩ : ∃ q, q = (Pr.wayOf r).length := ⟨_, rfl⟩
  rw [← hb, ← hq] at hcall ⊢
  unfold valP at hcall ⊢
  have HCALL := Lib.hid hcall
  have HB := Lib.hid hBa
  obtain ⟨x0, x1, x2, xl⟩ := hXe Wa (Below.refl _ _)
  clear hcall hXe hBa hpa hp he hr hb hq
  go_enter Tryz.func21, Tryz.ntmps21
  go_upto_region 1 with fail
  rw [← hWa, ← hX]
  clear hWa hX
  go_wp2_with fail
  refine HCALL.out.mono ?_
  rintro y w1 ⟨A1, c1, rfl, r1, b1⟩
  have H1 := Lib.hid (And.intro r1 (below_at HB.out b1))
  clear r1 b1 HCALL x0 x1 x2 xl
  go_wp2_with fail
  exact bodyPost_ret (v := .tuple #[.slice A1 q c1, .bool b, .int .i64 e]) (by simp [results, Tryz.results21, go_sem]) rfl ⟨A1, c1, rfl, H1.out.1, H1.out.2⟩
namespace Pr
def reachE (p : Pg) (f : Int) (most : Nat) (x : Int) : Int := if (all6 p f most).2 = 0 then (if x < 0 ∨ p.vars ≤ x then 2 else 0) else (all6 p f most).2
def reachR (p : Pg) (f : Int) (most : Nat) (x v : Int) : Option Nd := if x < 0 ∨ p.vars ≤ x then none else leastR (isReach x.toNat v) p f most
end Pr
set_option maxRecDepth 100000 in
set_option maxHeartbeats 2000000 in
theorem reaching_any (w : World) (p : Pg) (A : Option Addr) (cap : Nat) (f : Int) (most : Nat) (x v : Int) (hp : PgIn w p A) (hmost : most ≤ 100000) :
    Calls Tryz.prog 22 #[valP p A cap, .int .i64 f, .int .i64 (most : Int), .int .i64 x, .int .i64 v] w (LeastOut w (Pr.reachE p f most x) (Pr.reachR p f most x v)) := by
  obtain ⟨Wa, X, hWa, hX, hBa, hXl, hXe⟩ := pg_box w p.vars p.mtx A p.code.length cap
  obtain ⟨Wb, hWb⟩ : ∃ z, z = Wa.alloc (Obj.cells #[.int .i64 x] 3) := ⟨_, rfl⟩
  obtain ⟨Y, hY⟩ : ∃ z, z = Wa.heap.size := ⟨_, rfl⟩
  obtain ⟨Wc, hWc⟩ : ∃ z, z = Wb.alloc (Obj.cells #[.int .i64 v] 2) := ⟨_, rfl⟩
  obtain ⟨Z, hZ⟩ : ∃ z, z = Wb.heap.size := ⟨_, rfl⟩
  have hYZ : Z = Y + 1 := by rw [hZ, hY, hWb]; simp
  have hXY : Y = X + 1 := by rw [hX, hY, hWa]; simp
  have hbb : Below Wa.heap.size Wa Wb := by rw [hWb]; exact (Below.refl _ _).alloc (Nat.le_refl _) _
  have hbc : Below Wb.heap.size Wb Wc := by rw [hWc]; exact (Below.refl _ _).alloc (Nat.le_refl _) _
  have hcY : CellAt Wc Y (.int .i64 x) := by
    refine CellAt.below (w := Wb) ⟨3, ?_⟩ hbc
    rw [hWb, hY]; exact heap_alloc_new Wa _
  have hcZ : CellAt Wc Z (.int .i64 v) := ⟨2, by rw [hWc, hZ]; exact heap_alloc_new Wb _⟩
  have hBac : Below Wa.heap.size Wa Wc := below_at hbb hbc
  have hBwc : Below w.heap.size w Wc := below_at hBa hBac
  have hpc := hp.below hBwc
  have hall : Calls Tryz.prog 59 #[valP p A cap, .int .i64 f, .int .i64 (most : Int)] Wc fun x w' => (∃ (A' : Option Addr) (n c' r k : Nat), x = .returned (.tuple #[.agg #[.slice A' n c', .int .i64 r, .int .i64 k], .int .i64 (Pr.all6 p f most).2])) ∧ Below Wc.heap.size Wc w' := (walkAll_any Wc p A cap f most hpc hmost).mono fun x w' ⟨A', c', hx, _, _, _, hb⟩ => ⟨⟨A', (Pr.all6 p f most).1.2.keys.length, c', (Pr.all6 p f most).1.2.runs, (Pr.all6 p f most).1.1, hx⟩, hb⟩
  have hfind : ∀ u, Below Wc.heap.size Wc u → (Pr.all6 p f most).2 = 0 → ¬ (x < 0 ∨ p.vars ≤ x) → Calls Tryz.prog 54 #[valP p A cap, .int .i64 f, .int .i64 (most : Int), .func (.func 60) #[] #[.pointer (some ⟨Y, 0, none⟩), .pointer (some ⟨Z, 0, none⟩)]] u (LeastOut u 0 (Pr.leastR (Pr.isReach x.toNat v) p f most)) := fun u hu h0 hx => by
    obtain ⟨m, rfl, hm8, hok, hcnt⟩ := Pr.all6_ok h0
    have hv : p.vars ≤ 4 := hok.1.2.1
    have hxn : x = (x.toNat : Int) := by omega
    have hx4 : x.toNat < 4 := by omega
    have h1 : CellAt u Y (.int .i64 (x.toNat : Int)) := by rw [← hxn]; exact hcY.below hu
    have := find_any u p A cap m most (hpc.below hu) hmost (reach_is u Y Z x.toNat v hx4 h1 (hcZ.below hu))
    rw [h0] at this
    exact this
  have hE : Pr.reachE p f most x = if (Pr.all6 p f most).2 = 0 then (if x < 0 ∨ p.vars ≤ x then 2 else 0) else (Pr.all6 p f most).2 := rfl
  have hR : Pr.reachR p f most x v = if x < 0 ∨ p.vars ≤ x then none else Pr.leastR (Pr.isReach x.toNat v) p f most := rfl
  have hL : (Pr.all6 p f most).2 ≠ 0 → Pr.leastR (Pr.isReach x.toNat v) p f most = none := fun h => by unfold Pr.leastR; rw [if_neg h]
  obtain ⟨e, he⟩ : ∃ e, e = (Pr.all6 p f most).2 := ⟨_, rfl⟩
  obtain ⟨r, hr⟩ : ∃ r, r = Pr.leastR (Pr.isReach x.toNat v) p f most := ⟨_, rfl⟩
  rw [← hr] at hfind hR hL
  rw [← he] at hall hfind hE hL
  obtain ⟨E, hEE⟩ : ∃ z, z = Pr.reachE p f most x := ⟨_, rfl⟩
  obtain ⟨R, hRR⟩ : ∃ z, z = Pr.reachR p f most x v := ⟨_, rfl⟩
  rw [← hEE] at hE ⊢
  rw [← hRR] at hR ⊢
  unfold valP at hall hfind ⊢
  have HALL := Lib.hid hall
  have HFIND := Lib.hid hfind
  have HXE := Lib.hid hXe
  have HB := Lib.hid hBwc
  have HE := Lib.hid hE
  have HR := Lib.hid hR
  have HL := Lib.hid hL
  have HCY := Lib.hid hcY
  have HBA := Lib.hid hBac
  have hl : ∀ u, Below Wc.heap.size Wc u → u.cell? ⟨X, 0, none⟩ = some (.int .i64 p.vars) ∧ u.cell? ⟨X, 1, none⟩ = some (.int .i64 p.mtx) ∧ u.cell? ⟨X, 2, none⟩ = some (.slice A p.code.length cap) ∧ X < u.heap.size ∧ u.cell? ⟨Y, 0, none⟩ = some (.int .i64 x) ∧ Y < u.heap.size := fun u hu => by
    obtain ⟨x0, x1, x2, xl⟩ := hXe u (below_at hBac hu)
    obtain ⟨y0, yl, _⟩ := (hcY.below hu).cell
    exact ⟨x0, x1, x2, xl, y0, yl⟩
  have HLX := Lib.hid hl
  obtain ⟨x0, x1, x2, xl, y0, yl⟩ := hl Wc (Below.refl _ _)
  clear hall hfind hXe hBwc hE hR hL hcY hBac hpc hp he hr hEE hRR hBa hbb hbc hcZ hl
  go_enter Tryz.func22, Tryz.ntmps22
  go_upto_region 1 with fail
  simp only [← hWa, ← hX, ← hWb, ← hY, ← hWc, ← hZ, ← hXY, ← hYZ]
  clear hWa hX hWb hY hWc hZ hXY hYZ
  go_wp2_with fail
  refine HALL.out.mono ?_
  rintro y w1 ⟨⟨A1, n1, c1, r1, k1, rfl⟩, b1⟩
  have HB1 := Lib.hid (b1.alloc b1.size (Obj.cells #[.slice A1 n1 c1, .int .i64 r1, .int .i64 k1] 110))
  obtain ⟨W2, hW2⟩ : ∃ z, z = w1.alloc (Obj.cells #[.slice A1 n1 c1, .int .i64 r1, .int .i64 k1] 110) := ⟨_, rfl⟩
  rw [← hW2] at HB1
  clear b1 HALL x0 x1 x2 xl y0 yl
  by_cases h0 : e = 0
  · subst h0
    obtain ⟨x0, x1, x2, xl, y0, yl⟩ := HLX.out W2 HB1.out
    by_cases hneg : x < 0
    · have hE2 : E = 2 := by rw [HE.out, if_pos rfl, if_pos (.inl hneg)]
      have hR2 : R = none := by rw [HR.out, if_pos (.inl hneg)]
      subst hE2; subst hR2
      go_upto_region 4 with fail
      rw [← hW2]
      clear hW2
      go_wp2_with fail
      exact bodyPost_ret (v := .tuple #[.slice none 0 0, .bool false, .int .i64 2]) (by simp [results, Tryz.results22, go_sem]) rfl ⟨none, 0, rfl, rd_nil1 _ _ _, below_at HB.out HB1.out⟩
    · by_cases hbig : p.vars ≤ x
      · have hE2 : E = 2 := by rw [HE.out, if_pos rfl, if_pos (.inr hbig)]
        have hR2 : R = none := by rw [HR.out, if_pos (.inr hbig)]
        subst hE2; subst hR2
        go_upto_region 4 with fail
        rw [← hW2]
        clear hW2
        go_wp2_with fail
        exact bodyPost_ret (v := .tuple #[.slice none 0 0, .bool false, .int .i64 2]) (by simp [results, Tryz.results22, go_sem]) rfl ⟨none, 0, rfl, rd_nil1 _ _ _, below_at HB.out HB1.out⟩
      · have hno : ¬ (x < 0 ∨ p.vars ≤ x) := fun h => h.elim hneg hbig
        have hE2 : E = 0 := by rw [HE.out, if_pos rfl, if_neg hno]
        have hR2 : R = r := by rw [HR.out, if_neg hno]
        subst hE2; subst hR2
        have hf := HFIND.out W2 HB1.out rfl hno
        unfold LeastOut at hf
        obtain ⟨b, hb⟩ : ∃ b, b = R.isSome := ⟨_, rfl⟩
        obtain ⟨q, hq⟩ : ∃ q, q = (Pr.wayOf R).length := ⟨_, rfl⟩
        rw [← hb, ← hq] at hf
        have HF := Lib.hid hf
        have HQ := Lib.hid (And.intro hb hq)
        clear hf hb hq hno
        go_upto_region 4 with fail
        rw [← hW2]
        clear hW2
        go_wp2_with fail
        refine HF.out.mono ?_
        rintro y w3 ⟨A3, c3, rfl, r3, b3⟩
        have H3 := Lib.hid (And.intro r3 (below_at (below_at HB.out HB1.out) b3))
        clear r3 b3 HF x0 x1 x2 xl y0 yl
        go_wp2_with fail
        exact bodyPost_ret (v := .tuple #[.slice A3 q c3, .bool b, .int .i64 0]) (by simp [results, Tryz.results22, go_sem]) rfl ⟨A3, c3, by rw [← HQ.out.1, ← HQ.out.2], by rw [← HQ.out.2]; exact H3.out.1, H3.out.2⟩
  · have he0 : (e == 0) = false := by simpa using h0
    have he1 : (e != 0) = true := by simpa using h0
    have hE2 : E = e := by rw [HE.out, if_neg h0]
    have hR2 : R = none := by rw [HR.out, HL.out h0]; split <;> rfl
    subst hE2; subst hR2
    go_wp2_with fail
    rw [← hW2]
    exact bodyPost_ret (v := .tuple #[.slice none 0 0, .bool false, .int .i64 E]) (by simp [results, Tryz.results22, go_sem]) rfl ⟨none, 0, rfl, rd_nil1 _ _ _, below_at HB.out HB1.out⟩
end Go.Proofs.YtckdofjpoajblaaGreat
namespace Go.Proofs.YtckdofjpoajblaaGreat
open Go.RowKit
set_option linter.unusedVariables false
theorem rd_toC {w : World} {sz : Nat} {A : Option Addr} {n : Nat} {cs : List Value} (h : Rd w sz A n cs) : RdC w (fun k => k < w.heap.size) sz A n cs :=
  ⟨h.1, fun h0 => by obtain ⟨g, o, hA, hg, hc⟩ := h.2 h0; exact ⟨g, o, hA, hg, hg, hc⟩⟩
theorem pgin_two (w : World) (v m : Int) (q1 q2 : List Ins) (A1 A2 : Option Addr) (c1 c2 : Nat) (r1 : Rd w 4 A1 q1.length (q1.flatMap encI)) (r2 : Rd w 4 A2 q2.length (q2.flatMap encI)) (h1 : q1.length ≤ c1) (h2 : q2.length ≤ c2) (m1 : c1 ≤ maxLen) (m2 : c2 ≤ maxLen) :
    PgIn (w.alloc (Obj.cells #[.slice A1 q1.length c1, .slice A2 q2.length c2] 67)) ⟨v, m, [q1, q2]⟩ (some ⟨w.heap.size, 0, none⟩) := by
  have hb : Below w.heap.size w (w.alloc (Obj.cells #[.slice A1 q1.length c1, .slice A2 q2.length c2] 67)) := (Below.refl _ _).alloc (Nat.le_refl _) _
  have hk := heap_alloc_new w (Obj.cells #[.slice A1 q1.length c1, .slice A2 q2.length c2] 67)
  have e1 := rd_toC (r1.below hb (Nat.le_refl _))
  have e2 := rd_toC (r2.below hb (Nat.le_refl _))
  refine ⟨⟨[.slice A1 q1.length c1, .slice A2 q2.length c2], ⟨rfl, fun _ => ⟨_, 0, rfl, blk_lt hk, blk_lt hk, fun j hj => ?_⟩⟩, fun i q hi => ?_⟩, by simp [maxLen], fun q hq => ?_⟩
  · rw [cell_blk hk]
    rcases (show j = 0 ∨ j = 1 by simp at hj; omega) with rfl | rfl <;> rfl
  · match i, hi with
    | 0, hi => simp at hi; subst hi; exact ⟨A1, c1, rfl, e1, h1, m1⟩
    | 1, hi => simp at hi; subst hi; exact ⟨A2, c2, rfl, e2, h2, m2⟩
    | n + 2, hi => simp at hi
  · simp at hq
    rcases hq with rfl | rfl
    · exact Nat.le_trans h1 m1
    · exact Nat.le_trans h2 m2
end Go.Proofs.YtckdofjpoajblaaGreat
namespace Go.Proofs.YtckdofjpoajblaaGreat
open Go.RowKit
set_option linter.unusedVariables false
namespace Aw20
def q1 : List Ins := [⟨3, 0, 0, 3⟩, ⟨2, 0, 0, 0⟩]
def q2 : List Ins := [⟨8, 0, 0, 0⟩, ⟨5, 0, 0, 0⟩, ⟨5, 0, 0, 0⟩]
def p : Pg := ⟨1, 1, [q1, q2]⟩
theorem e1 : (Pr.all6 p 8 500).2 = 0 := by kernel_rfl
theorem e2 : (Pr.all6 p 8 2).2 = 5 := by kernel_rfl
theorem a1 : Pr.wayOf (Pr.leastR Pr.isFail p 8 500) = [1] := by kernel_rfl
theorem a2 : (Pr.leastR Pr.isFail p 8 500).isSome = true := by kernel_rfl
theorem b1 : Pr.wayOf (Pr.leastR Pr.isWait p 8 500) = [0, 0, 1, 1] := by kernel_rfl
theorem b2 : (Pr.leastR Pr.isWait p 8 500).isSome = true := by kernel_rfl
theorem c0 : Pr.reachE p 8 500 0 = 0 := by kernel_rfl
theorem c1 : Pr.wayOf (Pr.reachR p 8 500 0 3) = [0, 0] := by kernel_rfl
theorem c2 : (Pr.reachR p 8 500 0 3).isSome = true := by kernel_rfl
theorem d1 : (Pr.reachR p 8 500 0 4).isSome = false := by kernel_rfl
theorem i0 : Pr.reachE p 8 500 1 = 2 := by kernel_rfl
theorem s1 : Pr.sw [0, 0, 1, 1] = 1 := by kernel_rfl
end Aw20
def O1 : Obj := .cells #[.int .i64 3, .int .i64 0, .int .i64 0, .int .i64 3, .int .i64 2, .int .i64 0, .int .i64 0, .int .i64 0] 98
def O2 : Obj := .cells #[.int .i64 8, .int .i64 0, .int .i64 0, .int .i64 0, .int .i64 5, .int .i64 0, .int .i64 0, .int .i64 0, .int .i64 5, .int .i64 0, .int .i64 0, .int .i64 0] 98
theorem pg20 (w : World) : PgIn (((w.alloc O1).alloc O2).alloc (.cells #[.slice (some ⟨w.heap.size, 0, none⟩) 2 2, .slice (some ⟨w.heap.size + 1, 0, none⟩) 3 3] 67)) Aw20.p (some ⟨w.heap.size + 2, 0, none⟩) := by
  have h1 := heap_alloc_new w O1
  have h2 := heap_alloc_new (w.alloc O1) O2
  have hb : Below (w.alloc O1).heap.size (w.alloc O1) ((w.alloc O1).alloc O2) := (Below.refl _ _).alloc (Nat.le_refl _) _
  have h1' := (hb.block _ (blk_lt h1)).trans h1
  have r1 : Rd ((w.alloc O1).alloc O2) 4 (some ⟨w.heap.size, 0, none⟩) Aw20.q1.length (Aw20.q1.flatMap encI) := ⟨rfl, fun _ => ⟨_, 0, rfl, blk_lt h1', fun j hj => by
    rw [cell_blk h1']
    rcases (show j = 0 ∨ j = 1 ∨ j = 2 ∨ j = 3 ∨ j = 4 ∨ j = 5 ∨ j = 6 ∨ j = 7 by simp [Aw20.q1] at hj; omega) with rfl | rfl | rfl | rfl | rfl | rfl | rfl | rfl <;> rfl⟩⟩
  have r2 : Rd ((w.alloc O1).alloc O2) 4 (some ⟨w.heap.size + 1, 0, none⟩) Aw20.q2.length (Aw20.q2.flatMap encI) := ⟨rfl, fun _ => ⟨_, 0, rfl, by simp, fun j hj => by
    have e : (w.alloc O1).heap.size = w.heap.size + 1 := by simp
    rw [← e, cell_blk h2]
    rcases (show j = 0 ∨ j = 1 ∨ j = 2 ∨ j = 3 ∨ j = 4 ∨ j = 5 ∨ j = 6 ∨ j = 7 ∨ j = 8 ∨ j = 9 ∨ j = 10 ∨ j = 11 by simp [Aw20.q2] at hj; omega) with rfl | rfl | rfl | rfl | rfl | rfl | rfl | rfl | rfl | rfl | rfl | rfl <;> rfl⟩⟩
  have := pgin_two ((w.alloc O1).alloc O2) 1 1 Aw20.q1 Aw20.q2 _ _ 2 3 r1 r2 (Nat.le_refl _) (Nat.le_refl _) (by simp [maxLen]) (by simp [maxLen])
  have e : ((w.alloc O1).alloc O2).heap.size = w.heap.size + 2 := by simp
  rw [e] at this
  exact this
theorem box20 (w : World) : ∃ W X A, W = (((w.alloc O1).alloc O2).alloc (.cells #[.slice (some ⟨w.heap.size, 0, none⟩) 2 2, .slice (some ⟨w.heap.size + 1, 0, none⟩) 3 3] 67)).alloc (.cells #[.int .i64 1, .int .i64 1, .slice (some ⟨w.heap.size + 2, 0, none⟩) 2 2] 24) ∧ X = w.heap.size + 3 ∧ A = some ⟨w.heap.size + 2, 0, none⟩ ∧
    Below w.heap.size w W ∧ ∀ u, Below W.heap.size W u → PgIn u Aw20.p A ∧ u.cell? ⟨X, 0, none⟩ = some (.int .i64 1) ∧ u.cell? ⟨X, 1, none⟩ = some (.int .i64 1) ∧ u.cell? ⟨X, 2, none⟩ = some (.slice A 2 2) ∧ X < u.heap.size := by
  refine ⟨_, _, _, rfl, rfl, rfl, ?_, fun u hu => ?_⟩
  · refine ((((Below.refl _ _).alloc ?_ _).alloc ?_ _).alloc ?_ _).alloc ?_ _ <;> simp <;> omega
  · obtain ⟨V, hV⟩ : ∃ V, V = (((w.alloc O1).alloc O2).alloc (.cells #[.slice (some ⟨w.heap.size, 0, none⟩) 2 2, .slice (some ⟨w.heap.size + 1, 0, none⟩) 3 3] 67)) := ⟨_, rfl⟩
    have hp := pg20 w
    rw [← hV] at hp hu
    have hVs : V.heap.size = w.heap.size + 3 := by rw [hV]; simp
    have hk := heap_alloc_new V (.cells #[.int .i64 1, .int .i64 1, .slice (some ⟨w.heap.size + 2, 0, none⟩) 2 2] 24)
    rw [hVs] at hk
    have hb : Below V.heap.size V (V.alloc (.cells #[.int .i64 1, .int .i64 1, .slice (some ⟨w.heap.size + 2, 0, none⟩) 2 2] 24)) := (Below.refl _ _).alloc (Nat.le_refl _) _
    have hk' := (hu.block _ (blk_lt hk)).trans hk
    exact ⟨hp.below (below_at hb hu), by rw [cell_blk hk']; rfl, by rw [cell_blk hk']; rfl, by rw [cell_blk hk']; rfl, blk_lt hk'⟩
theorem ints_new (w : World) (l : List Int) : Rd (w.alloc (.cells (l.map iv).toArray 3)) 1 (some ⟨w.heap.size, 0, none⟩) l.length (l.map iv) := by
  have hk := heap_alloc_new w (.cells (l.map iv).toArray 3)
  refine ⟨by simp, fun _ => ⟨_, 0, rfl, blk_lt hk, fun j hj => ?_⟩⟩
  rw [cell_blk hk]
  simp
set_option maxRecDepth 100000 in
set_option maxHeartbeats 4000000 in
theorem awake20 (w : World) : Calls Tryz.prog 17 #[] w fun x w' => x = .returned (.bool true) ∧ Below w.heap.size w w' := by
  obtain ⟨W, X, A, hW, hX, hA, hB, hWA⟩ := box20 w
  have hcA : ∀ u, Below W.heap.size W u → Calls Tryz.prog 20 #[.agg #[.int .i64 1, .int .i64 1, .slice A 2 2], .int .i64 8, .int .i64 500] u fun x w' => ∃ A' c, x = .returned (.tuple #[.slice A' 1 c, .bool true, .int .i64 0]) ∧ Rd w' 1 A' 1 (([1] : List Int).map iv) ∧ Below u.heap.size u w' := fun u hu => by
    have := failing_any u Aw20.p A 2 8 500 (hWA u hu).1 (by omega)
    unfold LeastOut at this
    rw [Aw20.e1, Aw20.a1, Aw20.a2] at this
    exact this
  have hcB : ∀ u, Below W.heap.size W u → Calls Tryz.prog 21 #[.agg #[.int .i64 1, .int .i64 1, .slice A 2 2], .int .i64 8, .int .i64 500] u fun x w' => ∃ A' c, x = .returned (.tuple #[.slice A' 4 c, .bool true, .int .i64 0]) ∧ Rd w' 1 A' 4 (([0, 0, 1, 1] : List Int).map iv) ∧ Below u.heap.size u w' := fun u hu => by
    have := waiting_any u Aw20.p A 2 8 500 (hWA u hu).1 (by omega)
    unfold LeastOut at this
    rw [Aw20.e1, Aw20.b1, Aw20.b2] at this
    exact this
  have hcC : ∀ u, Below W.heap.size W u → Calls Tryz.prog 22 #[.agg #[.int .i64 1, .int .i64 1, .slice A 2 2], .int .i64 8, .int .i64 500, .int .i64 0, .int .i64 3] u fun x w' => ∃ A' c, x = .returned (.tuple #[.slice A' 2 c, .bool true, .int .i64 0]) ∧ Rd w' 1 A' 2 (([0, 0] : List Int).map iv) ∧ Below u.heap.size u w' := fun u hu => by
    have := reaching_any u Aw20.p A 2 8 500 0 3 (hWA u hu).1 (by omega)
    unfold LeastOut at this
    rw [Aw20.c0, Aw20.c1, Aw20.c2] at this
    exact this
  have hcD : ∀ u, Below W.heap.size W u → Calls Tryz.prog 22 #[.agg #[.int .i64 1, .int .i64 1, .slice A 2 2], .int .i64 8, .int .i64 500, .int .i64 0, .int .i64 4] u fun x w' => (∃ A' n c, x = .returned (.tuple #[.slice A' n c, .bool false, .int .i64 0])) ∧ Below u.heap.size u w' := fun u hu => by
    have := reaching_any u Aw20.p A 2 8 500 0 4 (hWA u hu).1 (by omega)
    unfold LeastOut at this
    rw [Aw20.c0, Aw20.d1] at this
    exact this.mono fun x w' ⟨A', c, h1, _, h3⟩ => ⟨⟨A', _, c, h1⟩, h3⟩
  have hcE : ∀ u, Below W.heap.size W u → Calls Tryz.prog 22 #[.agg #[.int .i64 1, .int .i64 1, .slice A 2 2], .int .i64 8, .int .i64 500, .int .i64 1, .int .i64 3] u fun x w' => (∃ A' n c b, x = .returned (.tuple #[.slice A' n c, .bool b, .int .i64 2])) ∧ Below u.heap.size u w' := fun u hu => by
    have := reaching_any u Aw20.p A 2 8 500 1 3 (hWA u hu).1 (by omega)
    unfold LeastOut at this
    rw [Aw20.i0] at this
    exact this.mono fun x w' ⟨A', c, h1, _, h3⟩ => ⟨⟨A', _, c, _, h1⟩, h3⟩
  have hcF : ∀ u, Below W.heap.size W u → Calls Tryz.prog 20 #[.agg #[.int .i64 1, .int .i64 1, .slice A 2 2], .int .i64 8, .int .i64 2] u fun x w' => (∃ A' n c b, x = .returned (.tuple #[.slice A' n c, .bool b, .int .i64 5])) ∧ Below u.heap.size u w' := fun u hu => by
    have := failing_any u Aw20.p A 2 8 2 (hWA u hu).1 (by omega)
    unfold LeastOut at this
    rw [Aw20.e2] at this
    exact this.mono fun x w' ⟨A', c, h1, _, h3⟩ => ⟨⟨A', _, c, _, h1⟩, h3⟩
  have HA := Lib.hid hcA
  have HB := Lib.hid hcB
  have HC := Lib.hid hcC
  have HD := Lib.hid hcD
  have HE := Lib.hid hcE
  have HF := Lib.hid hcF
  have HX := Lib.hid (fun u hu => (hWA u hu).2)
  have HBW := Lib.hid hB
  skip
  clear hcA hcB hcC hcD hcE hcF hWA hB hA
  go_enter Tryz.func17, Tryz.ntmps17
  go_upto_region 3 with fail
  simp only [World.size_alloc, Nat.add_assoc, Nat.reduceAdd]
  rw [show (Obj.cells #[Value.int IntKind.i64 3, Value.int IntKind.i64 0, Value.int IntKind.i64 0, Value.int IntKind.i64 3, Value.int IntKind.i64 2, Value.int IntKind.i64 0, Value.int IntKind.i64 0, Value.int IntKind.i64 0] 98) = O1 from rfl, show (Obj.cells #[.int .i64 8, .int .i64 0, .int .i64 0, .int .i64 0, .int .i64 5, .int .i64 0, .int .i64 0, .int .i64 0, .int .i64 5, .int .i64 0, .int .i64 0, .int .i64 0] 98) = O2 from rfl]
  rw [← hW, ← hX]
  clear hW hX
  obtain ⟨x0, x1, x2, xl⟩ := HX.out W (Below.refl _ _)
  go_wp2_with fail
  refine (HA.out W (Below.refl _ _)).mono ?_
  rintro y w1 ⟨A1, c1, rfl, r1, b1⟩
  have HR1 := Lib.hid r1
  have HB1 := Lib.hid b1
  clear x0 x1 x2 xl r1 b1
  obtain ⟨x0, x1, x2, xl⟩ := HX.out w1 HB1.out
  go_wp2_with fail
  refine (HB.out w1 HB1.out).mono ?_
  rintro y w2 ⟨A2, c2, rfl, r2, b2⟩
  have HR2 := Lib.hid r2
  have HR1 := Lib.hid (HR1.out.below b2 (Nat.le_refl _))
  have HB2 := Lib.hid (below_at HB1.out b2)
  clear x0 x1 x2 xl r2 b2
  obtain ⟨x0, x1, x2, xl⟩ := HX.out w2 HB2.out
  go_wp2_with fail
  refine (HC.out w2 HB2.out).mono ?_
  rintro y w3 ⟨A3, c3, rfl, r3, b3⟩
  have HR3 := Lib.hid r3
  have HR1 := Lib.hid (HR1.out.below b3 (Nat.le_refl _))
  have HR2 := Lib.hid (HR2.out.below b3 (Nat.le_refl _))
  have HB3 := Lib.hid (below_at HB2.out b3)
  clear x0 x1 x2 xl r3 b3
  obtain ⟨x0, x1, x2, xl⟩ := HX.out w3 HB3.out
  go_wp2_with fail
  refine (HD.out w3 HB3.out).mono ?_
  rintro y w4 ⟨⟨A4, n4, c4, rfl⟩, b4⟩
  have HR1 := Lib.hid (HR1.out.below b4 (Nat.le_refl _))
  have HR2 := Lib.hid (HR2.out.below b4 (Nat.le_refl _))
  have HR3 := Lib.hid (HR3.out.below b4 (Nat.le_refl _))
  have HB4 := Lib.hid (below_at HB3.out b4)
  clear x0 x1 x2 xl b4
  obtain ⟨x0, x1, x2, xl⟩ := HX.out w4 HB4.out
  go_wp2_with fail
  refine (HE.out w4 HB4.out).mono ?_
  rintro y w5 ⟨⟨A5, n5, c5, t5, rfl⟩, b5⟩
  have HR1 := Lib.hid (HR1.out.below b5 (Nat.le_refl _))
  have HR2 := Lib.hid (HR2.out.below b5 (Nat.le_refl _))
  have HR3 := Lib.hid (HR3.out.below b5 (Nat.le_refl _))
  have HB5 := Lib.hid (below_at HB4.out b5)
  clear x0 x1 x2 xl b5
  obtain ⟨x0, x1, x2, xl⟩ := HX.out w5 HB5.out
  go_wp2_with fail
  refine (HF.out w5 HB5.out).mono ?_
  rintro y w6 ⟨⟨A6, n6, c6, t6, rfl⟩, b6⟩
  have HR1 := Lib.hid (HR1.out.below b6 (Nat.le_refl _))
  have HR2 := Lib.hid (HR2.out.below b6 (Nat.le_refl _))
  have HR3 := Lib.hid (HR3.out.below b6 (Nat.le_refl _))
  have HB6 := Lib.hid (below_at HB5.out b6)
  have hS : ∀ (l : List Int) (A' : Option Addr) (c : Nat), l.length < 1000 → Rd w6 1 A' l.length (l.map iv) → ∀ u, Below w6.heap.size w6 u → Calls Tryz.prog 24 #[.slice A' l.length c, .slice (some ⟨u.heap.size, 0, none⟩) l.length l.length] (u.alloc (.cells (l.map iv).toArray 3)) fun x w' => x = .returned (.bool true) ∧ Below u.heap.size u w' := fun l A' c hl hr u hu => by
    have hb : Below u.heap.size u (u.alloc (.cells (l.map iv).toArray 3)) := (Below.refl _ _).alloc (Nat.le_refl _) _
    refine (sameInts_any (u.alloc (.cells (l.map iv).toArray 3)) A' c l _ l.length l (hr.below (below_at hu hb) (Nat.le_refl _)) (ints_new u l) (by omega)).mono fun x w' ⟨h1, h2⟩ => ⟨by rw [h1, decide_eq_true rfl], below_at hb h2⟩
  have S1 := Lib.hid (hS [1] A1 c1 (by simp) HR1.out)
  have S2 := Lib.hid (hS [0, 0, 1, 1] A2 c2 (by simp) HR2.out)
  have S3 := Lib.hid (hS [0, 0] A3 c3 (by simp) HR3.out)
  have hW : ∀ u, Below w6.heap.size w6 u → Calls Tryz.prog 27 #[.slice A2 4 c2] u fun x w' => x = .returned (.int .i64 1) ∧ Below u.heap.size u w' := fun u hu => by
    have := switches_any u A2 c2 [0, 0, 1, 1] (HR2.out.below hu (Nat.le_refl _)) (by simp)
    rw [Aw20.s1] at this
    exact this
  have hH : ∀ u, Below w6.heap.size w6 u → Calls Tryz.prog 25 #[.slice A1 1 c1, .slice A3 2 c3] u fun x w' => x = .returned (.bool true) ∧ Below u.heap.size u w' := fun u hu =>
    ahead_any u A1 c1 [1] A3 c3 [0, 0] (HR1.out.below hu (Nat.le_refl _)) (HR3.out.below hu (Nat.le_refl _)) (by simp) (by simp)
  have hI : ∀ u, Below w6.heap.size w6 u → Calls Tryz.prog 25 #[.slice A3 2 c3, .slice A3 2 c3] u fun x w' => x = .returned (.bool false) ∧ Below u.heap.size u w' := fun u hu =>
    ahead_any u A3 c3 [0, 0] A3 c3 [0, 0] (HR3.out.below hu (Nat.le_refl _)) (HR3.out.below hu (Nat.le_refl _)) (by simp) (by simp)
  have S4 := Lib.hid hW
  have S5 := Lib.hid hH
  have S6 := Lib.hid hI
  clear x0 x1 x2 xl b6 HA HB HC HD HE HF HX HB1 HB2 HB3 HB4 HB5 hS hW hH hI HR1 HR2 HR3
  go_wp2_with fail
  refine (S1.out w6 (Below.refl _ _)).mono ?_
  rintro y v1 ⟨rfl, b1⟩
  have K1 := Lib.hid b1
  clear b1 S1
  go_wp2_with fail
  refine (S2.out v1 K1.out).mono ?_
  rintro y v2 ⟨rfl, b2⟩
  have K2 := Lib.hid (below_at K1.out b2)
  clear b2 S2
  go_wp2_with fail
  refine (S3.out v2 K2.out).mono ?_
  rintro y v3 ⟨rfl, b3⟩
  have K3 := Lib.hid (below_at K2.out b3)
  clear b3 S3
  go_wp2_with fail
  refine (S4.out v3 K3.out).mono ?_
  rintro y v4 ⟨rfl, b4⟩
  have K4 := Lib.hid (below_at K3.out b4)
  clear b4 S4
  go_wp2_with fail
  refine (S5.out v4 K4.out).mono ?_
  rintro y v5 ⟨rfl, b5⟩
  have K5 := Lib.hid (below_at K4.out b5)
  clear b5 S5
  go_wp2_with fail
  refine (S6.out v5 K5.out).mono ?_
  rintro y v6 ⟨rfl, b6⟩
  have K6 := Lib.hid (below_at K5.out b6)
  clear b6 S6
  go_wp2_with fail
  go_ret
  exact ⟨rfl, below_at HBW.out (below_at HB6.out K6.out)⟩
end Go.Proofs.YtckdofjpoajblaaGreat
namespace Go.Proofs.YtckdofjpoajblaaGreat
open Go.RowKit
set_option linter.unusedVariables false
open Go.ChangeShapes Go.WideShapes Go.ChangeAt
set_option maxRecDepth 100000 in
/-- a program, handed in as an argument -/
theorem prog_arg {H : Type} {enc : TypeId × Value → H} {W : World} {base : Nat} {v : Value} {d : DataW H} {q : List MemPlace}
    (o : Value.okWide Tryz.prog W .any base 24 v) (h : DataW.Trod enc Tryz.prog W 0 (fun _ => true) true 24 v d q) : ∃ (p : Pg) (A : Option Addr) (cap : Nat), v = valP p A cap ∧ PgIn W p A := by
  obtain ⟨cs, rfl, hsz⟩ := okWide_struct Tryz.underlying24 o
  obtain ⟨fuel, hf⟩ := h
  obtain ⟨p, A, cap, hcs, hcd, h1, h2, h3, _⟩ := prog_read fuel cs.toList _ (by simpa [Value.cells] using hf)
  obtain rfl : cs = #[.int .i64 p.vars, .int .i64 p.mtx, .slice A p.code.length cap] := by
    apply Array.ext'
    simpa using hcs
  exact ⟨p, A, cap, rfl, hcd, Nat.le_trans h1 h2, h3⟩
end Go.Proofs.YtckdofjpoajblaaGreat
namespace Go.Proofs.YtckdofjpoajblaaGreat
open Go.RowKit
set_option linter.unusedVariables false
namespace Pr
theorem Reach.trans {a b c : Nd} (h : Reach a b) (k : Reach b c) : Reach a c := by
  induction h with
  | refl => exact k
  | step h1 _ ih => exact .step h1 (ih k)
theorem reach_wf {a b : Nd} (h : Reach a b) : Wf a.s → Wf b.s ∧ fuels b.s + b.w.length = fuels a.s + a.w.length := by
  induction h with
  | refl => exact fun h => ⟨h, rfl⟩
  | @step d c d' hc _ ih =>
    intro hw
    obtain ⟨h1, h2⟩ := kid_wf hw hc
    obtain ⟨h3, h4⟩ := ih h1
    obtain ⟨t, _, rfl⟩ := List.mem_map.1 hc
    refine ⟨h3, ?_⟩
    simp only [kidN, List.length_append, List.length_singleton] at h4 h2
    omega
end Pr
open Go.ChangeShapes Go.WideShapes Go.ChangeAt
end Go.Proofs.YtckdofjpoajblaaGreat
namespace Go.Proofs.YtckdofjpoajblaaGreat
open Go.RowKit
set_option linter.unusedVariables false
set_option maxRecDepth 100000 in
set_option maxHeartbeats 4000000 in
theorem refFind_ok (w : World) (p : Pg) (A : Option Addr) (cap m k x : Nat) (v : Int) (hp : PgIn w p A) (hok : Pr.Ok p) (hm8 : m ≤ 8) (hk : k = 1 ∨ k = 2 ∨ k = 3 ∧ x < 4) :
    Calls Tryz.prog 23 #[valP p A cap, .int .i64 (m : Int), .int .i64 (k : Int), .int .i64 (x : Int), .int .i64 v] w fun y w' => ∃ A' c, y = .returned (.tuple #[.slice A' (Pr.wayOf (Pr.leastN (Pr.isK k x v) (Pr.start p m))).length c, .bool (Pr.leastN (Pr.isK k x v) (Pr.start p m)).isSome]) ∧ Rd w' 1 A' (Pr.wayOf (Pr.leastN (Pr.isK k x v) (Pr.start p m))).length ((Pr.wayOf (Pr.leastN (Pr.isK k x v) (Pr.start p m))).map iv) ∧ Below w.heap.size w w' := by
  obtain ⟨Wa, X, hWa, hX, hBa, hXl, hXe⟩ := pg_box w p.vars p.mtx A p.code.length cap
  obtain ⟨Wb, hWb⟩ : ∃ z, z = Wa.alloc (Obj.cells #[.int .i64 (k : Int), .int .i64 (x : Int), .int .i64 v, .slice none 0 0, .bool false] 115) := ⟨_, rfl⟩
  obtain ⟨M, hM⟩ : ∃ z, z = Wa.heap.size := ⟨_, rfl⟩
  have hXM : M = X + 1 := by rw [hX, hM, hWa]; simp
  have hbb : Below Wa.heap.size Wa Wb := by rw [hWb]; exact (Below.refl _ _).alloc (Nat.le_refl _) _
  have hMk : Wb.heap[M]? = some (.cells #[.int .i64 (k : Int), .int .i64 (x : Int), .int .i64 v, .slice none 0 0, .bool false] 115 (0, 0)) := by rw [hWb, hM]; exact heap_alloc_new Wa _
  have hpb := hp.below (below_at hBa hbb)
  have hMw : w.heap.size ≤ M := by rw [hM]; exact hBa.size
  have hMb : M < Wb.heap.size := blk_lt hMk
  have hcC : CdAt Wb (fun q => q < Wb.heap.size ∧ q ≠ M) A p.code := (hp.1.below (below_at hBa hbb)).imp (fun q hq => ⟨by omega, by omega⟩)
  have hnew := refNew_okC Wb p A cap m _ hcC (fun q hq => hq.1) hpb hok hm8
  obtain ⟨s0, hs0⟩ : ∃ z, z = Pr.start p m := ⟨_, rfl⟩
  have hw0 : Pr.Wf s0 := by rw [hs0]; exact Pr.start_wf hok hm8
  have hf0 : Pr.fuels s0 ≤ 32 := by rw [hs0]; exact Pr.fuels_start hok hm8
  have hdl := Pr.dfs_least (is := Pr.isK k x v) hw0 hf0
  rw [← hs0] at hnew ⊢
  obtain ⟨r, hr⟩ : ∃ r, r = Pr.leastN (Pr.isK k x v) s0 := ⟨_, rfl⟩
  rw [← hr] at hdl ⊢
  have hgd : ((r.map Pr.Nd.w).getD []) = Pr.wayOf r := by cases r <;> rfl
  have hgs : (r.map Pr.Nd.w).isSome = r.isSome := by cases r <;> rfl
  have hover : ∀ (u : World) (S T o : Nat), RAt u (fun q => q < Wb.heap.size ∧ q ≠ M) S T o s0 → M ≠ S → M ≠ T → Below Wb.heap.size Wb u → Calls Tryz.prog 61 #[.pointer (some ⟨M, 0, none⟩), .pointer (some ⟨S, 0, none⟩), .slice none 0 0, .bool false] u fun y w' => y = .returned (.tuple #[]) ∧ BestAt w' M k x v (r.map Pr.Nd.w) ∧ Mod (fun q => q = M) u w' := fun u S T o hR h1 h2 hu => by
    have hb0 : BestAt u M k x v none := by
      refine ⟨none, 0, blk_stepW hMk hu, ?_, rd_nil1 _ _ _, Nat.zero_le _⟩
      intro a ha
      cases ha
    have := best_any 32 k x v hk (Pr.node0 s0) hw0 hf0 u _ S T o none 0 M none hR (fun q hq => Nat.lt_of_lt_of_le hq.1 hu.size) (rd_nil1 _ _ _) (by show 0 + 33 ≤ 100; omega) h1 h2 (fun h => h.2 rfl) (by intro a ha; cases ha) hb0
    rw [hdl] at this
    exact this
  obtain ⟨q, hq⟩ : ∃ q, q = (Pr.wayOf r).length := ⟨_, rfl⟩
  obtain ⟨bb, hbb2⟩ : ∃ b, b = r.isSome := ⟨_, rfl⟩
  rw [← hq, ← hbb2]
  have HNEW := Lib.hid hnew
  have HOV := Lib.hid hover
  have HG := Lib.hid (And.intro hgd (And.intro hgs (And.intro hq hbb2)))
  have HB := Lib.hid (below_at hBa hbb)
  have HMS := Lib.hid (And.intro hMw hMb)
  have HXE := Lib.hid hXe
  obtain ⟨x0, x1, x2, xl⟩ := hXe Wb hbb
  unfold valP at HNEW ⊢
  clear hnew hover hgd hgs hq hbb2 hMw hMb hcC hp hpb hXe hr hdl hs0 hw0 hf0 hbb hMk hBa hk hok
  go_enter Tryz.func23, Tryz.ntmps23
  go_upto_region 2 with fail
  simp only [← hWa, ← hX, ← hWb, ← hM, ← hXM]
  clear hWa hX hWb hM hXM
  go_wp2_with fail
  refine HNEW.out.mono ?_
  rintro y w2 ⟨S, T, o, rfl, hR, hS, hT, b2⟩
  have HB2 := Lib.hid (below_at HB.out b2)
  have HO2 := Lib.hid (HOV.out w2 S T o hR (by have := HMS.out; omega) (by have := HMS.out; omega) b2)
  clear hR hS hT b2 HNEW HOV x0 x1 x2 xl
  go_wp2_with fail
  refine HO2.out.mono ?_
  rintro y w3 ⟨rfl, ⟨RA, rc, hM3, _, hr3, _⟩, hmod⟩
  rw [HG.out.1, HG.out.2.1] at hM3
  rw [HG.out.1] at hr3
  rw [← HG.out.2.2.1, ← HG.out.2.2.2] at hM3
  rw [← HG.out.2.2.1] at hr3
  have HM3 := Lib.hid hM3
  have HR3 := Lib.hid hr3
  have HB3 := Lib.hid (HB2.out.trans (hmod.below w.heap.size HB2.out.size (fun j hj e => by have := HMS.out; omega)))
  clear hM3 hr3 hmod HO2
  go_upto_region 3 with fail
  refine wp_region_planF (by kernel_rfl) (fun u => Below w3.heap.size w3 u) [] [(0, .pure), (1, .pure), (2, .pure), (3, .load), (4, .pure), (5, .pure), (6, .pure), (7, .load), (8, .pure), (9, .pure)] (by simp only [List.map_cons, List.map_nil, List.getElem?_toArray, List.getElem?_cons_succ, List.getElem?_cons_zero]; rfl) (by kernel_rfl) (fun _ _ d _ _ h => by cases d <;> exact h) ((Below.refl _ _).drew) ?_
  repeat (first
    | (refine plan_pure (v := ?_) (by rfl) (fun w1 => ?_) ?_
       rotate_left
       · go_simp <;> with_reducible rfl
       simp only [Act.put, List.setIfInBounds_toArray, List.set_cons_zero, List.set_cons_succ])
    | (refine plan_off (by rfl) ?_
       simp only [Act.put, List.setIfInBounds_toArray, List.set_cons_zero, List.set_cons_succ])
    | (refine plan_load_off (by rfl) ?_
       simp only [Act.put, List.setIfInBounds_toArray, List.set_cons_zero, List.set_cons_succ])
    | (refine plan_load (v := ?_) (by rfl) (fun w1 hw1 => ?_) ?_
       rotate_left
       · (have qm := blk_stepW HM3.out hw1
          have m3 : w1.cell? ⟨M, 3, none⟩ = some (.slice RA q rc) := cell_blk qm 3
          have m4 : w1.cell? ⟨M, 4, none⟩ = some (.bool bb) := cell_blk qm 4
          have ml := blk_lt qm
          clear qm
          clear hw1
          go_simp <;> with_reducible rfl)
       simp only [Act.put, List.setIfInBounds_toArray, List.set_cons_zero, List.set_cons_succ]))
  refine plan_end ?_
  have hbd : Below w3.heap.size w3 w3.drew := (Below.refl _ _).drew
  go_wp2_with fail
  exact bodyPost_ret (v := .tuple #[.slice RA q rc, .bool bb]) (by simp [results, Tryz.results23, go_sem]) rfl ⟨RA, rc, rfl, HR3.out.below hbd (Nat.le_refl _), below_at HB3.out hbd⟩
namespace Pr
theorem isK1 : isK 1 0 0 = isFail := by funext d; rfl
theorem isK2 : isK 2 0 0 = isWait := by funext d; rfl
theorem isK3 (x : Nat) (v : Int) : isK 3 x v = isReach x v := by funext d; rfl
end Pr
set_option maxRecDepth 100000 in
set_option maxHeartbeats 8000000 in
theorem leastTells_any (W : World) (p : Pg) (A : Option Addr) (cap : Nat) (f x v : Int) (hp : PgIn W p A) :
    Calls Tryz.prog 3 #[valP p A cap, .int .i64 f, .int .i64 x, .int .i64 v] W fun e w' => e = .returned (.bool true) ∧ Below W.heap.size W w' := by
  obtain ⟨Wa, X, hWa, hX, hBa, hXl, hXe⟩ := pg_box W p.vars p.mtx A p.code.length cap
  have hpa := hp.below hBa
  have hfew : ∀ u, Below Wa.heap.size Wa u → _ := fun u hu => fewP_any u p A cap (hpa.below hu).1 (hpa.below hu).2.1 (hpa.below hu).2.2
  have hall : ∀ u, Below Wa.heap.size Wa u → _ := fun u hu => refAll6_any u p A cap f 600 (hpa.below hu) (by omega)
  have hfa : ∀ u, Below Wa.heap.size Wa u → _ := fun u hu => failing_any u p A cap f 600 (hpa.below hu) (by omega)
  have hwa : ∀ u, Below Wa.heap.size Wa u → _ := fun u hu => waiting_any u p A cap f 600 (hpa.below hu) (by omega)
  have hre : ∀ u, Below Wa.heap.size Wa u → _ := fun u hu => reaching_any u p A cap f 600 x v (hpa.below hu) (by omega)
  obtain ⟨fw, hfw⟩ : ∃ b, b = Pr.few p := ⟨_, rfl⟩
  rw [← hfw] at hfew
  obtain ⟨E, hE⟩ : ∃ e, e = (Pr.all6 p f 600).2 := ⟨_, rfl⟩
  obtain ⟨ra, hra⟩ : ∃ r, r = Pr.leastR Pr.isFail p f 600 := ⟨_, rfl⟩
  obtain ⟨rb, hrb⟩ : ∃ r, r = Pr.leastR Pr.isWait p f 600 := ⟨_, rfl⟩
  obtain ⟨rc, hrc⟩ : ∃ r, r = Pr.reachR p f 600 x v := ⟨_, rfl⟩
  obtain ⟨G, hG⟩ : ∃ e, e = Pr.reachE p f 600 x := ⟨_, rfl⟩
  rw [← hE, ← hra] at hfa
  rw [← hE, ← hrb] at hwa
  rw [← hG, ← hrc] at hre
  obtain ⟨na, hna⟩ : ∃ n, n = (Pr.wayOf ra).length := ⟨_, rfl⟩
  obtain ⟨nb, hnb⟩ : ∃ n, n = (Pr.wayOf rb).length := ⟨_, rfl⟩
  obtain ⟨nc, hnc⟩ : ∃ n, n = (Pr.wayOf rc).length := ⟨_, rfl⟩
  obtain ⟨ba, hba⟩ : ∃ n, n = ra.isSome := ⟨_, rfl⟩
  obtain ⟨bb, hbb⟩ : ∃ n, n = rb.isSome := ⟨_, rfl⟩
  obtain ⟨bc, hbc⟩ : ∃ n, n = rc.isSome := ⟨_, rfl⟩
  unfold LeastOut at hfa hwa hre
  unfold All6Out at hall
  rw [← hE] at hall
  rw [← hna, ← hba] at hfa
  rw [← hnb, ← hbb] at hwa
  rw [← hnc, ← hbc] at hre
  obtain ⟨⟨⟨c6, ⟨ks, rn, sk⟩⟩, e6⟩, h6⟩ : ∃ r, r = Pr.all6 p f 600 := ⟨_, rfl⟩
  rw [← h6] at hall
  simp only at hall
  obtain ⟨nk, hnk⟩ : ∃ n, n = ks.length := ⟨_, rfl⟩
  rw [← hnk] at hall
  -- with an error nothing is told
  have hbad : E ≠ 0 → na = 0 ∧ nb = 0 ∧ nc = 0 ∧ ba = false ∧ bb = false ∧ bc = false ∧ G = E := fun h0 => by
    have h0' : (Pr.all6 p f 600).2 ≠ 0 := by rw [← hE]; exact h0
    have e1 : ∀ is, Pr.leastR is p f 600 = none := fun is => by unfold Pr.leastR; rw [if_neg h0']
    have e2 : rc = none := by rw [hrc]; unfold Pr.reachR; rw [e1]; split <;> rfl
    have e3 : ra = none := by rw [hra, e1]
    have e4 : rb = none := by rw [hrb, e1]
    have e5 : G = E := by rw [hG, hE]; unfold Pr.reachE; rw [if_neg h0']
    rw [hna, hnb, hnc, hba, hbb, hbc, e2, e3, e4]
    exact ⟨rfl, rfl, rfl, rfl, rfl, rfl, e5⟩
  -- without one the reference tells the same
  have hgood : E = 0 → ∃ m : Nat, f = m ∧ (∀ u, Below Wa.heap.size Wa u → Calls Tryz.prog 23 #[valP p A cap, .int .i64 (m : Int), .int .i64 1, .int .i64 0, .int .i64 0] u fun y w' => ∃ A' c, y = .returned (.tuple #[.slice A' na c, .bool ba]) ∧ Rd w' 1 A' na ((Pr.wayOf ra).map iv) ∧ Below u.heap.size u w') ∧
      (∀ u, Below Wa.heap.size Wa u → Calls Tryz.prog 23 #[valP p A cap, .int .i64 (m : Int), .int .i64 2, .int .i64 0, .int .i64 0] u fun y w' => ∃ A' c, y = .returned (.tuple #[.slice A' nb c, .bool bb]) ∧ Rd w' 1 A' nb ((Pr.wayOf rb).map iv) ∧ Below u.heap.size u w') ∧
      ((x < 0 ∨ p.vars ≤ x) → G = 2 ∧ bc = false) ∧ (¬ (x < 0 ∨ p.vars ≤ x) → G = 0 ∧ ∀ u, Below Wa.heap.size Wa u → Calls Tryz.prog 23 #[valP p A cap, .int .i64 (m : Int), .int .i64 3, .int .i64 x, .int .i64 v] u fun y w' => ∃ A' c, y = .returned (.tuple #[.slice A' nc c, .bool bc]) ∧ Rd w' 1 A' nc ((Pr.wayOf rc).map iv) ∧ Below u.heap.size u w') := fun h0 => by
    have h0' : (Pr.all6 p f 600).2 = 0 := by rw [← hE]; exact h0
    obtain ⟨m, rfl, hm8, hok, _⟩ := Pr.all6_ok h0'
    have e1 : ∀ is, Pr.leastR is p m 600 = Pr.leastN is (Pr.start p m) := fun is => by unfold Pr.leastR; rw [if_pos h0']; rfl
    have hv4 : p.vars ≤ 4 := hok.1.2.1
    refine ⟨m, rfl, fun u hu => ?_, fun u hu => ?_, fun hx => ?_, fun hx => ⟨?_, fun u hu => ?_⟩⟩
    · have := refFind_ok u p A cap m 1 0 0 (hpa.below hu) hok hm8 (.inl rfl)
      rw [Pr.isK1, ← e1, ← hra, ← hna, ← hba] at this
      exact this
    · have := refFind_ok u p A cap m 2 0 0 (hpa.below hu) hok hm8 (.inr (.inl rfl))
      rw [Pr.isK2, ← e1, ← hrb, ← hnb, ← hbb] at this
      exact this
    · refine ⟨by rw [hG]; unfold Pr.reachE; rw [if_pos h0', if_pos hx], ?_⟩
      rw [hbc, hrc]; unfold Pr.reachR; rw [if_pos hx]; rfl
    · rw [hG]; unfold Pr.reachE; rw [if_pos h0', if_neg hx]
    · obtain ⟨xn, rfl⟩ : ∃ n : Nat, x = n := ⟨x.toNat, by omega⟩
      have := refFind_ok u p A cap m 3 xn v (hpa.below hu) hok hm8 (.inr (.inr ⟨rfl, by omega⟩))
      have e2 : rc = Pr.leastN (Pr.isK 3 xn v) (Pr.start p m) := by rw [hrc]; unfold Pr.reachR; rw [if_neg hx, e1, Pr.isK3]; rfl
      rw [← e2, ← hnc, ← hbc] at this
      exact this
  have hsm : ∀ (l : List Int) (n : Nat), n = l.length → ∀ (u : World) (A1 A2 : Option Addr) (d1 d2 : Nat), n < 1000000 → Rd u 1 A1 n (l.map iv) → Rd u 1 A2 n (l.map iv) → Calls Tryz.prog 24 #[.slice A1 n d1, .slice A2 n d2] u fun y w' => y = .returned (.bool true) ∧ Below u.heap.size u w' := fun l n hn u A1 A2 d1 d2 hl h1 h2 => by
    subst hn
    have := sameInts_any u A1 d1 l A2 d2 l h1 h2 (by omega)
    rw [decide_eq_true rfl] at this
    exact this
  have hbnd : E = 0 → na ≤ 32 ∧ nb ≤ 32 ∧ nc ≤ 32 := fun h0 => by
    have h0' : (Pr.all6 p f 600).2 = 0 := by rw [← hE]; exact h0
    obtain ⟨m, rfl, hm8, hok, _⟩ := Pr.all6_ok h0'
    have hwf := Pr.start_wf hok hm8
    have hfu := Pr.fuels_start hok hm8
    have e1 : ∀ is, (Pr.wayOf (Pr.leastR is p m 600)).length ≤ 32 := fun is => by
      unfold Pr.leastR
      rw [if_pos h0']
      cases hd : Pr.leastN is (Pr.start p (m : Int).toNat) with
      | none => exact Nat.zero_le _
      | some d =>
        have h1 := ((Pr.least_mem (is := is) hwf hfu).1 d hd).1
        have h2 := (Pr.reach_wf h1 hwf).2
        simp only [Pr.node0, List.length_nil] at h2
        show d.w.length ≤ 32
        omega
    refine ⟨by rw [hna, hra]; exact e1 _, by rw [hnb, hrb]; exact e1 _, ?_⟩
    rw [hnc, hrc]
    unfold Pr.reachR
    split
    · exact Nat.zero_le _
    · exact e1 _
  unfold valP at hfew hall hfa hwa hre hgood ⊢
  have HFEW := Lib.hid hfew
  have HALL := Lib.hid hall
  have HFA := Lib.hid hfa
  have HWA := Lib.hid hwa
  have HRE := Lib.hid hre
  have HBAD := Lib.hid hbad
  have HGOOD := Lib.hid hgood
  have HSM := Lib.hid hsm
  have HBND := Lib.hid hbnd
  have HNN := Lib.hid (And.intro hna (And.intro hnb hnc))
  have HXE := Lib.hid hXe
  have HB := Lib.hid hBa
  obtain ⟨x0, x1, x2, xl⟩ := hXe Wa (Below.refl _ _)
  clear hfew hall hfa hwa hre hbad hgood hsm hbnd hna hnb hnc hba hbb hbc hra hrb hrc hE hG h6 hnk hXe hBa hpa hp hfw
  go_enter Tryz.func3, Tryz.ntmps3
  go_upto_region 1 with fail
  rw [← hWa, ← hX]
  clear hWa hX
  go_cut [32] (fun v w2 => Below Wa.heap.size Wa w2 ∧ ∃ z, v = .bool z)
  case first =>
    go_wp2_with fail
    refine (awake20 _).mono ?_
    rintro y w1 ⟨rfl, b1⟩
    have HB1 := Lib.hid b1
    clear b1 x0 x1 x2 xl
    obtain ⟨x0, x1, x2, xl⟩ := HXE.out w1 HB1.out
    go_wp2_with fail
    refine (HFEW.out w1 HB1.out).mono ?_
    rintro y w2 ⟨rfl, b2⟩
    have HB2 := Lib.hid (below_at HB1.out b2)
    clear b2
    go_wp2_with fail
    all_goals (go_meet)
    all_goals (exact ⟨HB2.out, _, rfl⟩)
  case rest =>
    obtain ⟨b1, z, rfl⟩ := hcut
    have HB1 := Lib.hid b1
    clear b1 x0 x1 x2 xl
    cases z with
    | true =>
      go_wp2_with fail
      refine (awake20 _).mono ?_
      rintro e w2 ⟨rfl, b2⟩
      go_wp2_with fail
      go_ret
      exact ⟨rfl, below_at HB.out (below_at HB1.out b2)⟩
    | false =>
      obtain ⟨x0, x1, x2, xl⟩ := HXE.out wc HB1.out
      go_wp2_with fail
      refine (HALL.out wc HB1.out).mono ?_
      rintro y w1 ⟨KA, kc, rfl, _, _, _, b1⟩
      obtain ⟨W2, hW2⟩ : ∃ z, z = w1.alloc (Obj.cells #[.slice KA nk kc, .int .i64 rn, .int .i64 c6, .int .i64 sk] 29) := ⟨_, rfl⟩
      have HB2 := Lib.hid (show Below Wa.heap.size Wa W2 from by rw [hW2]; exact below_at HB1.out (b1.alloc b1.size _))
      clear b1 x0 x1 x2 xl
      obtain ⟨x0, x1, x2, xl⟩ := HXE.out W2 HB2.out
      go_upto_region 4 with fail
      rw [← hW2]
      clear hW2
      go_wp2_with fail
      refine (HFA.out W2 HB2.out).mono ?_
      rintro y w3 ⟨A3, c3, rfl, r3, b3⟩
      have HR3 := Lib.hid r3
      have HB3 := Lib.hid (below_at HB2.out b3)
      clear r3 b3 x0 x1 x2 xl
      obtain ⟨x0, x1, x2, xl⟩ := HXE.out w3 HB3.out
      go_wp2_with fail
      refine (HWA.out w3 HB3.out).mono ?_
      rintro y w4 ⟨A4, c4, rfl, r4, b4⟩
      have HR4 := Lib.hid r4
      have HR34 := Lib.hid (HR3.out.below b4 (Nat.le_refl _))
      have HB4 := Lib.hid (below_at HB3.out b4)
      clear r4 b4 x0 x1 x2 xl HR3
      obtain ⟨x0, x1, x2, xl⟩ := HXE.out w4 HB4.out
      go_wp2_with fail
      refine (HRE.out w4 HB4.out).mono ?_
      rintro y w5 ⟨A5, c5, rfl, r5, b5⟩
      have HR5 := Lib.hid r5
      have HR35 := Lib.hid (HR34.out.below b5 (Nat.le_refl _))
      have HR45 := Lib.hid (HR4.out.below b5 (Nat.le_refl _))
      have HB5 := Lib.hid (below_at HB4.out b5)
      clear r5 b5 x0 x1 x2 xl HR34 HR4 HALL HFA HWA HRE HFEW
      by_cases h0 : E = 0
      · subst h0
        obtain ⟨m, rfl, hf1, hf2, hx1, hx2⟩ := HGOOD.out rfl
        obtain ⟨l1, l2, l3⟩ := HBND.out rfl
        have HF1 := Lib.hid hf1
        have HF2 := Lib.hid hf2
        have HX1 := Lib.hid hx1
        have HX2 := Lib.hid hx2
        clear hf1 hf2 hx1 hx2 HGOOD HBND HBAD
        obtain ⟨x0, x1, x2, xl⟩ := HXE.out w5 HB5.out
        go_wp2_with fail
        refine (HF1.out w5 HB5.out).mono ?_
        rintro y w6 ⟨A6, c6', rfl, r6, b6⟩
        have HR6 := Lib.hid r6
        have HR36 := Lib.hid (HR35.out.below b6 (Nat.le_refl _))
        have HR46 := Lib.hid (HR45.out.below b6 (Nat.le_refl _))
        have HR56 := Lib.hid (HR5.out.below b6 (Nat.le_refl _))
        have HB6 := Lib.hid (below_at HB5.out b6)
        clear r6 b6 x0 x1 x2 xl HR35 HR45 HR5 HF1
        obtain ⟨x0, x1, x2, xl⟩ := HXE.out w6 HB6.out
        go_wp2_with fail
        refine (HF2.out w6 HB6.out).mono ?_
        rintro y w7 ⟨A7, c7, rfl, r7, b7⟩
        have HS1 := Lib.hid (HSM.out _ na HNN.out.1 w7 A3 A6 c3 c6' (by omega) (HR36.out.below b7 (Nat.le_refl _)) (HR6.out.below b7 (Nat.le_refl _)))
        have HR47 := Lib.hid (HR46.out.below b7 (Nat.le_refl _))
        have HR57 := Lib.hid (HR56.out.below b7 (Nat.le_refl _))
        have HR7 := Lib.hid r7
        have HB7 := Lib.hid (below_at HB6.out b7)
        clear r7 b7 x0 x1 x2 xl HR46 HR56 HR36 HR6 HF2
        obtain ⟨x0, x1, x2, xl⟩ := HXE.out w7 HB7.out
        go_wp2_with fail
        refine HS1.out.mono ?_
        rintro y w8 ⟨rfl, b8⟩
        have HS2 := Lib.hid (HSM.out _ nb HNN.out.2.1 w8 A4 A7 c4 c7 (by omega) (HR47.out.below b8 (Nat.le_refl _)) (HR7.out.below b8 (Nat.le_refl _)))
        have HR58 := Lib.hid (HR57.out.below b8 (Nat.le_refl _))
        have HB8 := Lib.hid (below_at HB7.out b8)
        clear b8 x0 x1 x2 xl HR47 HR57 HR7 HS1
        obtain ⟨x0, x1, x2, xl⟩ := HXE.out w8 HB8.out
        go_wp2_with fail
        refine HS2.out.mono ?_
        rintro y w9 ⟨rfl, b9⟩
        have HR59 := Lib.hid (HR58.out.below b9 (Nat.le_refl _))
        have HB9 := Lib.hid (below_at HB8.out b9)
        clear b9 x0 x1 x2 xl HR58 HS2
        obtain ⟨x0, x1, x2, xl⟩ := HXE.out w9 HB9.out
        by_cases hx : x < 0 ∨ p.vars ≤ x
        · obtain ⟨g2, bf⟩ := HX1.out hx
          subst g2
          subst bf
          rcases hx with hx | hx
          · go_wp2_with fail
            go_ret
            exact ⟨rfl, below_at HB.out HB9.out⟩
          · by_cases hx0 : x < 0
            · go_wp2_with fail
              go_ret
              exact ⟨rfl, below_at HB.out HB9.out⟩
            · go_wp2_with fail
              go_ret
              exact ⟨rfl, below_at HB.out HB9.out⟩
        · obtain ⟨g0, hf3⟩ := HX2.out hx
          subst g0
          have hxa : ¬ x < 0 := fun h => hx (.inl h)
          have hxb : ¬ p.vars ≤ x := fun h => hx (.inr h)
          have HF3 := Lib.hid (hf3 w9 HB9.out)
          clear hf3 HX1 HX2 hx
          go_wp2_with fail
          refine HF3.out.mono ?_
          rintro y w10 ⟨A10, c10, rfl, r10, b10⟩
          have HS3 := Lib.hid (HSM.out _ nc HNN.out.2.2 w10 A5 A10 c5 c10 (by omega) (HR59.out.below b10 (Nat.le_refl _)) r10)
          have HB10 := Lib.hid (below_at HB9.out b10)
          clear r10 b10 x0 x1 x2 xl HF3
          go_wp2_with fail
          refine HS3.out.mono ?_
          rintro y w11 ⟨rfl, b11⟩
          have HB11 := Lib.hid (below_at HB10.out b11)
          clear b11 HS3
          go_wp2_with fail
          go_ret
          exact ⟨by simp, below_at HB.out HB11.out⟩
      · obtain ⟨q1, q2, q3, q4, q5, q6, q7⟩ := HBAD.out h0
        subst q1 q2 q3 q4 q5 q6 q7
        have e0 : (G == 0) = false := by simpa using h0
        have e1 : (G != 0) = true := by simpa using h0
        go_wp2_with fail
        go_ret
        exact ⟨by simp, below_at HB.out HB5.out⟩
open Go.ChangeShapes Go.WideShapes Go.ChangeAt
set_option maxRecDepth 100000 in
theorem LeastTells_walk {H : Type} {enc : TypeId × Value → H} (W : World) {base : Nat} {v0 v1 v2 v3 : Value} {d0 d1 d2 d3 : DataW H} {p0 p1 p2 p3 : List MemPlace}
    (o0 : Value.okWide Tryz.prog W .any base 24 v0) (h0 : DataW.Trod enc Tryz.prog W 0 (fun _ => true) true 24 v0 d0 p0)
    (o1 : Value.okWide Tryz.prog W .any base 3 v1) (h1 : DataW.Trod enc Tryz.prog W 0 (fun _ => true) true 3 v1 d1 p1)
    (o2 : Value.okWide Tryz.prog W .any base 3 v2) (h2 : DataW.Trod enc Tryz.prog W 0 (fun _ => true) true 3 v2 d2 p2)
    (o3 : Value.okWide Tryz.prog W .any base 2 v3) (h3 : DataW.Trod enc Tryz.prog W 0 (fun _ => true) true 2 v3 d3 p3) :
    Calls Tryz.prog 3 #[v0, v1, v2, v3] W fun e w' => e = .returned (.bool true) ∧ Below W.heap.size W w' := by
  obtain ⟨p, A, cap, rfl, hin⟩ := prog_arg o0 h0
  obtain ⟨f, rfl, rfl, rfl, _⟩ := open_int Tryz.underlying3 o1 h1
  obtain ⟨x, rfl, rfl, rfl, _⟩ := open_int Tryz.underlying3 o2 h2
  obtain ⟨v, rfl, rfl, rfl, _⟩ := open_int Tryz.underlying2 o3 h3
  exact leastTells_any W p A cap f x v hin
end Go.Proofs.YtckdofjpoajblaaGreat
