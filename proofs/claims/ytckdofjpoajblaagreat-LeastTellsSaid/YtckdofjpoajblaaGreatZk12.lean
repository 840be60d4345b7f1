/- Part 12 of the proof of leastTells_holds: what it rests on. -/
import Derived.Test.YtckdofjpoajblaaGreatZk11
namespace Go.Proofs.YtckdofjpoajblaaGreat
open Go.RowKit
set_option linter.unusedVariables false
def BestAt (w : World) (M k x : Nat) (v : Int) (b : Option (List Int)) : Prop :=
  ∃ RA rc, w.heap[M]? = some (.cells #[.int .i64 (k : Int), .int .i64 (x : Int), .int .i64 v, .slice RA (b.getD []).length rc, .bool b.isSome] 115 (0, 0)) ∧ (∀ a, RA = some a → a.block ≠ M) ∧ Rd w 1 RA (b.getD []).length ((b.getD []).map iv) ∧ (b.getD []).length ≤ 1000
theorem BestAt.below {w w' : World} {M k x : Nat} {v : Int} {b : Option (List Int)} (h : BestAt w M k x v b) (hb : Below w.heap.size w w') : BestAt w' M k x v b := by
  obtain ⟨RA, rc, h1, h2, h3, h4⟩ := h
  exact ⟨RA, rc, blk_stepW h1 hb, h2, h3.below hb (Nat.le_refl _), h4⟩
theorem BestAt.lt {w : World} {M k x : Nat} {v : Int} {b : Option (List Int)} (h : BestAt w M k x v b) : M < w.heap.size := by
  obtain ⟨RA, rc, h1, _⟩ := h
  exact blk_lt h1
def BestC (n k x : Nat) (v : Int) (d : Pr.Nd) : Prop :=
  ∀ (w : World) (C : Nat → Prop) (S T o : Nat) (A : Option Addr) (cap M : Nat) (b : Option (List Int)), RAt w C S T o d.s → (∀ q, C q → q < w.heap.size) → Rd w 1 A d.w.length (d.w.map iv) → d.w.length + n ≤ 100 → M ≠ S → M ≠ T → ¬ C M → (∀ a, A = some a → a.block ≠ M) → BestAt w M k x v b →
    Calls Tryz.prog 61 #[.pointer (some ⟨M, 0, none⟩), .pointer (some ⟨S, 0, none⟩), .slice A d.w.length cap, .bool d.e.f] w fun y w' => y = .returned (.tuple #[]) ∧ BestAt w' M k x v (Pr.dfs (Pr.isK k x v) n d b) ∧ Mod (fun q => q = M) w w'
namespace Pr
def kidsB (is : Nd → Bool) (n : Nat) (d : Nd) (l : List Nat) (b : Option (List Int)) : Option (List Int) := l.foldl (fun b t => dfs is n (kidN d t) b) b
theorem kidsB_all (is : Nd → Bool) (n : Nat) (d : Nd) (b : Option (List Int)) : kidsB is n d (all d.s) (take_ is d b) = dfs is (n + 1) d b := by
  simp only [kidsB, dfs, kids_, List.foldl_map]
theorem kidsB_snoc {is : Nd → Bool} {n : Nat} {d : Nd} {l : List Nat} {i t : Nat} (h : l[i]? = some t) (b : Option (List Int)) : kidsB is n d (l.take (i + 1)) b = dfs is n (kidN d t) (kidsB is n d (l.take i) b) := by
  unfold kidsB
  rw [List.take_add_one, h, List.foldl_append]
  rfl
end Pr
set_option maxRecDepth 100000 in
set_option maxHeartbeats 8000000 in
theorem best_step (n k x : Nat) (v : Int) (d : Pr.Nd) (hw : Pr.Wf d.s) (hk : k = 1 ∨ k = 2 ∨ k = 3 ∧ x < 4) (w : World) (C : Nat → Prop) (S T o : Nat) (A : Option Addr) (cap M : Nat) (b : Option (List Int)) (h : RAt w C S T o d.s) (hC : ∀ q, C q → q < w.heap.size)
    (hr : Rd w 1 A d.w.length (d.w.map iv)) (hrl : d.w.length + (n + 1) ≤ 100) (hMS : M ≠ S) (hMT : M ≠ T) (hMC : ¬ C M) (hAM : ∀ a, A = some a → a.block ≠ M) (hs : BestAt w M k x v b) (ih : ∀ t ∈ Pr.all d.s, BestC n k x v (Pr.kidN d t)) :
    Calls Tryz.prog 61 #[.pointer (some ⟨M, 0, none⟩), .pointer (some ⟨S, 0, none⟩), .slice A d.w.length cap, .bool d.e.f] w fun y w' => y = .returned (.tuple #[]) ∧ BestAt w' M k x v (Pr.kidsB (Pr.isK k x v) n d (Pr.all d.s) (Pr.take_ (Pr.isK k x v) d b)) ∧ Mod (fun q => q = M) w w' := by
  obtain ⟨RA, rc, hM, hRM, hrb, hbl⟩ := hs
  have m0 : w.cell? ⟨M, 0, none⟩ = some (.int .i64 (k : Int)) := cell_blk hM 0
  have m1 : w.cell? ⟨M, 1, none⟩ = some (.int .i64 (x : Int)) := cell_blk hM 1
  have m2 : w.cell? ⟨M, 2, none⟩ = some (.int .i64 v) := cell_blk hM 2
  have ml := blk_lt hM
  have hfit := fit_any w C M S T o k x v d hk m0 m1 m2 ml h hw
  have hahd := fun (u : World) (hu : Below w.heap.size w u) => refAhead_any u A cap d.w RA rc (b.getD []) (hr.below hu (Nat.le_refl _)) (hrb.below hu (Nat.le_refl _)) (by omega) (by omega)
  have hall := fun (u : World) (hu : RAt u C S T o d.s) => refAll_any u C S T o d.s hu hw
  have hlen : ((Pr.all d.s).map (fun (t : Nat) => (t : Int))).length = (Pr.all d.s).length := by simp
  rw [hlen] at hall
  obtain ⟨z, hz⟩ : ∃ z, z = (Pr.isK k x v d && match b with | none => true | some w => Pr.aheadI d.w w) := ⟨_, rfl⟩
  have htk : Pr.take_ (Pr.isK k x v) d b = if z = true then some d.w else b := by rw [hz]; rfl
  obtain ⟨b', hb'⟩ : ∃ b', b' = Pr.take_ (Pr.isK k x v) d b := ⟨_, rfl⟩
  rw [← hb'] at htk ⊢
  obtain ⟨f1, hf1⟩ : ∃ f, f = Pr.isK k x v d := ⟨_, rfl⟩
  rw [← hf1] at hfit hz
  obtain ⟨fl, hfl⟩ : ∃ f, f = d.e.f := ⟨_, rfl⟩
  rw [← hfl] at hfit ⊢
  obtain ⟨na, hna⟩ : ∃ na, na = (Pr.all d.s).length := ⟨_, rfl⟩
  have hna4 : na ≤ 4 := by rw [hna]; exact Pr.all_len hw
  rw [← hna] at hall
  obtain ⟨rl, hrl2⟩ : ∃ rl, rl = d.w.length := ⟨_, rfl⟩
  obtain ⟨bl, hbl2⟩ : ∃ bl, bl = (b.getD []).length := ⟨_, rfl⟩
  rw [← hrl2] at hr hrl hahd ⊢
  rw [← hbl2] at hahd hM hrb hbl
  have HALL := Lib.hid hall
  have HFIT := Lib.hid hfit
  have HAHD := Lib.hid hahd
  have HS := Lib.hid h
  have HR := Lib.hid hr
  have HM := Lib.hid hM
  have HRB := Lib.hid (And.intro hrb (And.intro hbl hRM))
  have HWF := Lib.hid hw
  have HRL := Lib.hid (And.intro hrl hrl2)
  have HBL := Lib.hid hbl2
  have HNM := Lib.hid (And.intro hMS (And.intro hMT (And.intro hMC hAM)))
  have HC := Lib.hid hC
  have HNA := Lib.hid hna
  have HIH := Lib.hid ih
  have HZ := Lib.hid hz
  have HTK := Lib.hid htk
  have HFL := Lib.hid hfl
  have HML := Lib.hid ml
  have hrl9 : rl ≤ 100 := by omega
  obtain ⟨i0, hi0, hz0, hz1, hz2⟩ := info_parts Tryz.infoInt
  clear h hC hr hw hM hRM hrb hAM hMC hMS hMT hall hfit hahd hlen hrl hrl2 hna ih hz htk hb' hf1 hfl hbl2 hk m0 m1 m2 ml
  go_enter Tryz.func61, Tryz.ntmps61
  go_upto_region 0 with fail
  go_cut [31] (fun v w2 => v = .bool z ∧ Below w.heap.size w w2)
  case first =>
    go_wp2_with fail
    refine HFIT.out.mono ?_
    rintro y w1 ⟨rfl, b1⟩
    have HB1 := Lib.hid b1
    have hM1 := blk_stepW HM.out b1
    have m3 : w1.cell? ⟨M, 3, none⟩ = some (.slice RA bl rc) := cell_blk hM1 3
    have m4 : w1.cell? ⟨M, 4, none⟩ = some (.bool b.isSome) := cell_blk hM1 4
    have ml := blk_lt hM1
    have HA1 := Lib.hid (HAHD.out w1 b1)
    clear b1 hM1 HFIT HAHD
    cases f1 with
    | false =>
      have hzz : z = false := HZ.out
      subst hzz
      go_wp2_with fail
      go_meet
      exact ⟨rfl, HB1.out⟩
    | true =>
      cases b with
      | none =>
        have hzz : z = true := HZ.out
        subst hzz
        simp only [Option.isSome_none] at m4
        go_wp2_with fail
        go_meet
        exact ⟨rfl, HB1.out⟩
      | some r =>
        have hzz : z = Pr.aheadI d.w r := HZ.out
        simp only [Option.isSome_some] at m4
        simp only [Option.getD_some] at HA1
        rw [← hzz] at HA1
        clear hzz
        go_wp2_with fail
        refine HA1.out.mono ?_
        rintro y w2 ⟨rfl, b2⟩
        have HB2 := Lib.hid (below_at HB1.out b2)
        clear b2 HA1 m3 m4 ml
        go_wp2_with fail
        go_meet
        exact ⟨by first | rfl | trivial, HB2.out⟩
  case rest =>
    obtain ⟨rfl, b1⟩ := hcut
    have HB1 := Lib.hid b1
    have HM1 := Lib.hid (blk_stepW HM.out b1)
    clear b1 HFIT HAHD
    go_upto_if 31 with fail
    go_cut [31] (fun v31 w2 => v31 = .bool z ∧ BestAt w2 M k x v b' ∧ Mod (fun q => q = M) w w2)
    case first =>
      cases z with
      | false =>
        have hb : b' = b := HTK.out
        go_wp2_with fail
        go_meet
        exact ⟨rfl, by rw [hb]; exact ⟨RA, rc, by rw [← HBL.out]; exact HM1.out, HRB.out.2.2, by rw [← HBL.out]; exact HRB.out.1.below HB1.out (Nat.le_refl _), by rw [← HBL.out]; exact HRB.out.2.1⟩, Mod.of_below_size HB1.out _⟩
      | true =>
        have hb : b' = some d.w := HTK.out
        have HB' := Lib.hid hb
        clear hb
        have hal : Below wc.heap.size wc (wc.alloc (Obj.cells #[] 3)) := (Below.refl _ _).alloc (Nat.le_refl _) _
        have HRd := Lib.hid (HR.out.below (below_at HB1.out hal) (Nat.le_refl _))
        have HAL := Lib.hid hal
        clear hal
        go_upto_region 2 with (at_builtin; refine wpList_append_copy (by rfl) _ _ _ (by rfl) 3 i0 _ 1 8 Tryz.underlying32 hi0 hz0 hz1 hz2 rfl (by omega) ⟨wc.heap.size, 0, none⟩ 0 [] (by rfl) (row_empty (heap_alloc_new wc _)) A rl cap (d.w.map iv) (by rfl) HRd.out (by unfold maxLen; omega) (by omega) ?_; intro g7 o7 cap7 w3 hown hb3 hg7; have hm3 := blk_stepW HM1.out (below_at HAL.out hb3); have ml3 := blk_lt hm3; have fr3 := free_blk hm3 3; have cm3 : w3.cell? ⟨M, 3, none⟩ = some (.slice RA bl rc) := cell_blk hm3 3)
        rw [Nat.zero_add, List.nil_append] at hown
        obtain ⟨W4, hW4⟩ : ∃ z, z = w3.setCell ⟨M, 3, none⟩ (.slice (some ⟨g7, o7, none⟩) rl cap7) := ⟨_, rfl⟩
        have hg7M : wc.heap.size ≤ g7 := by rcases hg7 with ⟨_, h⟩ | h; (exact Nat.le_of_eq h.symm); (simp at h; omega)
        have hMlt := blk_lt HM1.out
        have hM4 : W4.heap[M]? = some (.cells #[.int .i64 (k : Int), .int .i64 (x : Int), .int .i64 v, .slice (some ⟨g7, o7, none⟩) rl cap7, .bool b.isSome] 115 (0, 0)) := by rw [hW4, set_blk hm3]; simp
        have hr4 : Rd W4 1 (some ⟨g7, o7, none⟩) rl (d.w.map iv) := by rw [hW4]; exact hown.rd.setB _ (fun a ha => by injection ha with ha; subst ha; simp only; omega)
        have hmo4 : Mod (fun q => q = M) w W4 := by
          rw [hW4]
          have hq := Mod.of_below_size (below_at HB1.out (below_at HAL.out hb3)) (fun q => q = M)
          exact hq.setCell (p := ⟨M, 3, none⟩) (fun _ => rfl) _
        have HM4 := Lib.hid hM4
        have HR4 := Lib.hid hr4
        have HMO4 := Lib.hid hmo4
        have HG7 := Lib.hid (And.intro hg7M hMlt)
        have ml4 := blk_lt hM4
        have f4 := free_blk hM4 4
        have m4 : W4.cell? ⟨M, 4, none⟩ = some (.bool b.isSome) := cell_blk hM4 4
        rw [← hW4]
        clear hW4 hM4 hr4 hmo4 hown hb3 hg7 hm3 ml3 fr3 cm3 hg7M hMlt
        go_wp2_with fail
        go_meet
        refine ⟨rfl, ?_, HMO4.out.setCell (p := ⟨M, 4, none⟩) (fun _ => rfl) _⟩
        rw [HB'.out]
        refine ⟨some ⟨g7, o7, none⟩, cap7, ?_, fun a ha => by injection ha with ha; subst ha; have := HG7.out; simp only; omega, ?_, ?_⟩
        · rw [set_blk HM4.out]; simp [HRL.out.2]
        · rw [Option.getD_some, ← HRL.out.2]; exact HR4.out.setB _ (fun a ha => by injection ha with ha; subst ha; have := HG7.out; simp only; omega)
        · rw [Option.getD_some, ← HRL.out.2]; omega
    case rest =>
      obtain ⟨hv31, hbest, hmo⟩ := hcut
      rename World => W1
      subst hv31
      have HS1 := Lib.hid (HS.out.mod hmo (fun q hq e => HNM.out.2.2.1 (e ▸ hq)) (fun e => HNM.out.1 e.symm) (fun e => HNM.out.2.1 e.symm))
      have HR1 : Hid (Rd W1 1 A rl (d.w.map iv)) := Lib.hid (by
        refine ⟨HR.out.1, fun hp => ?_⟩
        obtain ⟨g, o, hA, hgl, hc⟩ := HR.out.2 hp
        exact ⟨g, o, hA, Nat.lt_of_lt_of_le hgl hmo.size, fun j hj => by rw [hmo.cell g (o + j) hgl (fun e => HNM.out.2.2.2 _ hA e)]; exact hc j hj⟩)
      have HSUM0 := Lib.hid hbest
      have HMO0 := Lib.hid hmo
      have HALL1 := Lib.hid (HALL.out W1 HS1.out)
      clear hbest hmo HB1 HM1 HR HS HM HRB HALL HTK HZ
      go_wp2_with fail
      refine HALL1.out.mono ?_
      rintro y w2 ⟨A2, c2, rfl, hints, b2⟩
      have hlen : ((Pr.all d.s).map (fun (t : Nat) => (t : Int))).length = na := by rw [List.length_map, HNA.out]
      have hrd : RdB w2 w2.heap.size 1 A2 ((Pr.all d.s).map (fun (t : Nat) => (t : Int))).length (((Pr.all d.s).map (fun (t : Nat) => (t : Int))).map iv) := hints.1.rd.toB
      have hatA : ∀ b, A2 = some b → W1.heap.size ≤ b.block := hints.2
      have HIC := Lib.hid (int_cell hrd)
      have HATA := Lib.hid hatA
      have HS2 := Lib.hid (HS1.out.below b2)
      have HR2 := Lib.hid (HR1.out.below b2 (Nat.le_refl _))
      have HSUM2 := Lib.hid (HSUM0.out.below b2)
      have HMO := Lib.hid (HMO0.out.trans (Mod.of_below_size b2 _))
      have HW12 := Lib.hid (And.intro b2.size HMO0.out.size)
      clear HALL1 HS1 HR1 HMO0 b2 HSUM0 hints hrd hatA hlen
      go_wp2_with fail
      go_loopw [9] (fun v9 wr => ∃ i : Nat, i ≤ na ∧ v9 = .int .i64 i ∧ Hid (BestAt wr M k x v (Pr.kidsB (Pr.isK k x v) n d ((Pr.all d.s).take i) b')) ∧ Hid (Mod (fun q => q = M) w2 wr)) (fun v9 _ => na - (intOf v9).toNat)
      case atStart => exact ⟨0, Nat.zero_le _, rfl, HSUM2, Lib.hid (Mod.refl _ _)⟩
      case round =>
        clear HSUM2
        obtain ⟨i, hi, rfl, HSU, HMV0⟩ := hrel
        rename World => wr
        by_cases hlt : i < na
        · obtain ⟨t, ht⟩ := get_some (show i < (Pr.all d.s).length by rw [← HNA.out]; exact hlt)
          have hen := (Pr.all_iff (s := d.s) (t := t)).1 (List.mem_of_getElem? ht)
          obtain ⟨e, ii, hnx, h8, h9⟩ := Pr.enabled_next hen
          clear h8 h9
          have htl := Pr.en_lt hen
          have hti : ((Pr.all d.s).map (fun (t : Nat) => (t : Int)))[i]? = some (t : Int) := by rw [List.getElem?_map, ht]; rfl
          obtain ⟨g, og, rfl, hgl, hcl⟩ := HIC.out i _ hti
          have hgM : g ≠ M := by have h1 : W1.heap.size ≤ g := HATA.out _ rfl; have := HML.out; have := HW12.out; omega
          have hbW : ∀ u, Below wr.heap.size wr u → u.cell? ⟨g, og + i, none⟩ = some (.int .i64 (t : Int)) ∧ g < u.heap.size := fun u hu => by
            have hg2 : g < wr.heap.size := Nat.lt_of_lt_of_le hgl HMV0.out.size
            refine ⟨?_, Nat.lt_of_lt_of_le hg2 hu.size⟩
            rw [World.cell?_of_block (hu.block g hg2), HMV0.out.cell g (og + i) hgl hgM]
            exact hcl w2 (Below.refl _ _)
          have hSr : RAt wr C S T o d.s := HS2.out.mod HMV0.out (fun q hq e => HNM.out.2.2.1 (e ▸ hq)) (fun e => HNM.out.1 e.symm) (fun e => HNM.out.2.1 e.symm)
          have hwsz : w.heap.size ≤ wr.heap.size := by have := HW12.out; have := HMV0.out.size; omega
          have hcopy := refCopy_any wr C S T o d.s hSr (fun q hq => Nat.lt_of_lt_of_le (HC.out q hq) hwsz) HWF.out.n4
          have HCOPY := Lib.hid hcopy
          have HBW := Lib.hid hbW
          have HT := Lib.hid (And.intro ht (And.intro hen (And.intro hnx htl)))
          have HWZ := Lib.hid hwsz
          have k1 : (0 : Int) ≤ (i : Int) := Int.natCast_nonneg _
          have k2 : (i : Int) < (na : Int) := by omega
          clear hcopy hbW ht hen hnx htl hti hcl hgM hgl hSr hwsz
          go_wp2_with fail
          refine HCOPY.out.mono ?_
          rintro y w3 ⟨S', T', o', rfl, hR3, hS', hT', b3⟩
          obtain ⟨ca, lg⟩ := HBW.out w3 b3
          obtain ⟨et, ek, eo, ef⟩ := e
          have hstep := refStep_ok w3 C S' T' o' d.s t ⟨et, ek, eo, ef⟩ hR3 HWF.out HT.out.2.2.2 HT.out.2.1 HT.out.2.2.1
          simp only [valE] at hstep
          have HSTEP := Lib.hid hstep
          have HR3 := Lib.hid hR3
          have HB3 := Lib.hid b3
          have HST := Lib.hid (And.intro hS' hT')
          clear hstep hR3 b3 hS' hT' HCOPY
          go_wp2_with fail
          refine HSTEP.out.mono ?_
          rintro y w4 ⟨rfl, hR4, hm4⟩
          have hb4 : Below wr.heap.size wr w4 := HB3.out.trans (hm4.below _ HB3.out.size (fun q hq e => by have := HST.out; omega))
          obtain ⟨V0, Z, hV0, hZ, hBz, hZl, hZe⟩ := ev_box w4 ⟨et, ek, eo, ef⟩
          simp only at hV0
          have hb5 : Below wr.heap.size wr V0 := below_at hb4 hBz
          have hR5 := hR4.below hBz
          have hmz : M < wr.heap.size := HSU.out.lt
          have HZM := Lib.hid (show Z ≠ M by rw [hZ]; have := hb4.size; omega)
          have hgw := HBW.out wr (Below.refl _ _)
          have HXE : Hid (∀ u, Below V0.heap.size V0 u → (EvAt u Z 0 ⟨et, ek, eo, ef⟩ ∧ u.cell? ⟨g, og + i, none⟩ = some (.int .i64 (t : Int)) ∧ g < u.heap.size) ∧ Z < u.heap.size) := Lib.hid (fun u hu => ⟨⟨(hZe u hu).1, HBW.out u (below_at hb5 hu)⟩, (hZe u hu).2⟩)
          have hrr : Rd wr 1 A rl (d.w.map iv) := (show Rd wr 1 A rl (d.w.map iv) from by
            refine ⟨HR2.out.1, fun hp => ?_⟩
            obtain ⟨g, o, hA, hgl, hc⟩ := HR2.out.2 hp
            exact ⟨g, o, hA, Nat.lt_of_lt_of_le hgl HMV0.out.size, fun j hj => by rw [HMV0.out.cell g (o + j) hgl (fun e => HNM.out.2.2.2 _ hA e)]; exact hc j hj⟩)
          have HRD := Lib.hid (fun (u : World) (hu : Below V0.heap.size V0 u) => hrr.below (below_at hb5 hu) (Nat.le_refl _))
          have hrec : ∀ (u : World) (g8 o8 cap8 : Nat), Below V0.heap.size V0 u → V0.heap.size ≤ g8 → Rd u 1 (some ⟨g8, o8, none⟩) (rl + 1) (d.w.map iv ++ [.int .i64 (t : Int)]) →
              Calls Tryz.prog 61 #[.pointer (some ⟨M, 0, none⟩), .pointer (some ⟨S', 0, none⟩), .slice (some ⟨g8, o8, none⟩) (rl + 1) cap8, .bool ef] u fun x' w' => x' = .returned (.tuple #[]) ∧ BestAt w' M k x v (Pr.kidsB (Pr.isK k x v) n d ((Pr.all d.s).take (i + 1)) b') ∧ Mod (fun q => q = M) u w' := fun u g8 o8 cap8 hu hg8 hrd => by
            have hs := (HSU.out.below hb5).below hu
            have hev : Pr.evAt d.s t = ⟨et, ek, eo, ef⟩ := by unfold Pr.evAt; rw [HT.out.2.2.1]; rfl
            rw [Pr.kidsB_snoc HT.out.1]
            have hl2 : (Pr.kidN d t).w.length = rl + 1 := by simp only [Pr.kidN]; rw [List.length_append, ← HRL.out.2]; rfl
            have hu5 := hu.size
            have hz5 := hb5.size
            have hwz := HWZ.out
            have hst := HST.out
            have hss := hR5.lt
            have := HIH.out t (List.mem_of_getElem? HT.out.1) u C S' T' o' (some ⟨g8, o8, none⟩) cap8 M _ (hR5.below hu) (fun q hq => by have := HC.out q hq; omega)
              (by rw [hl2]; simpa [Pr.kidN, iv] using hrd) (by rw [hl2]; have := HRL.out.1; omega) (by omega) (by omega) HNM.out.2.2.1 (fun a ha => by injection ha with ha; subst ha; simp only; omega) hs
            rw [hl2] at this
            simp only [Pr.kidN, hev] at this
            simp only [Pr.kidN, hev]
            exact this
          have HREC := Lib.hid hrec
          have HMV := Lib.hid (HMV0.out.trans (Mod.of_below_size hb5 _))
          have HGM : Hid (g ≠ M) := Lib.hid (by have h1 : W1.heap.size ≤ g := HATA.out _ rfl; have := HML.out; have := HW12.out; omega)
          clear hrec hR5 hb5 hR4 hm4 hb4 hrr hmz hBz hZl hZe HSTEP HR3 HB3 HSU HMV0 ca lg hgw HBW
          go_upto_region 9 with fail
          rw [← hV0, ← hZ]
          clear hV0 hZ
          refine wp_region_pt (by kernel_rfl) (fun u => EvAt u Z 0 ⟨et, ek, eo, ef⟩ ∧ u.cell? ⟨g, og + i, none⟩ = some (.int .i64 (t : Int)) ∧ g < u.heap.size) [] (.cons 0 .pure (.cons 1 .pure (.cons 3 .pure (.cons 5 .pure (.cons 6 .pure (.cons 7 .pure (.cons 8 .load (.cons 11 .pure (.cons 12 .load (.fork 2 (.fork 4 (.cons 9 .eff (.cons 10 .eff (.cons 13 .eff .nil))) 9 (.cons 4 .eff (.cons 10 .eff (.cons 13 .eff .nil)))) 9 (.cons 2 .eff (.cons 4 .eff (.cons 10 .eff (.cons 13 .eff .nil)))))))))))))) (by simp only [PT.map, List.getElem?_toArray, List.getElem?_cons_succ, List.getElem?_cons_zero]; rfl) (by kernel_rfl) (fun _ _ d _ _ h => by cases d <;> exact h) ((HXE.out V0.drew (Below.refl V0.heap.size V0).drew).1) ?_
          have HB := Lib.hid (Below.refl V0.heap.size V0).drew
          obtain ⟨vw, hv⟩ : ∃ vw, vw = V0.drew := ⟨_, rfl⟩
          rw [← hv] at HB ⊢
          clear hv
          repeat (first
            | (refine pt_pure (v := ?_) (by rfl) (fun w1 => ?_) ?_
               rotate_left
               · go_simp <;> with_reducible rfl
               simp only [Act.put, List.setIfInBounds_toArray, List.set_cons_zero, List.set_cons_succ])
            | (refine pt_off (by rfl) ?_
               simp only [Act.put, List.setIfInBounds_toArray, List.set_cons_zero, List.set_cons_succ])
            | (refine pt_load_off (by rfl) ?_
               simp only [Act.put, List.setIfInBounds_toArray, List.set_cons_zero, List.set_cons_succ])
            | (refine pt_load (v := ?_) (by rfl) (fun w1 hw1 => ?_) ?_
               rotate_left
               · (have x0 := hw1.1.1
                  have x1 := hw1.1.2.1
                  have x2 := hw1.1.2.2.1
                  have x3 := hw1.1.2.2.2
                  have x4 := hw1.2.1
                  have x5 := hw1.2.2
                  simp only [Nat.zero_add] at x1 x2 x3
                  clear hw1
                  go_simp <;> with_reducible rfl)
               simp only [Act.put, List.setIfInBounds_toArray, List.set_cons_zero, List.set_cons_succ]))
          refine pt_fork ?_ ?_
          · go_wp2_with fail
            obtain ⟨E, hE⟩ : ∃ Z, Z = vw.heap.size := ⟨_, rfl⟩
            obtain ⟨u, hu⟩ : ∃ u, u = vw.alloc (Obj.cells #[] 3) := ⟨_, rfl⟩
            rw [← hu, ← hE]
            have hb : Below vw.heap.size vw u := by rw [hu]; exact (Below.refl _ _).alloc (Nat.le_refl _) _
            have hk : u.heap[E]? = some (.cells #[] 3 (0, 0)) := by rw [hu, hE]; exact heap_alloc_new vw _
            have H2 := Lib.hid (And.intro hk (show V0.heap.size ≤ E by rw [hE]; exact HB.out.size))
            have HB := Lib.hid (below_at HB.out hb)
            (try have H9 := Lib.hid (blk_stepW H9.out hb))
            clear hb hk hu hE
            rename World => vw
            refine pt_on (fun u h => h) (HXE.out _ HB.out).1 ?_
            refine pt_fork ?_ ?_
            · have HR := Lib.hid (HRD.out vw HB.out)
              have HE := Lib.hid (row_empty (sz := 1) H2.out.1)
              go_wp2_with (at_builtin; refine wpList_append_copy (by rfl) _ _ _ (by rfl) 3 i0 _ 1 8 Tryz.underlying32 hi0 hz0 hz1 hz2 rfl (by omega) ⟨E, 0, none⟩ 0 [] (by rfl) HE.out A rl cap (d.w.map iv) (by rfl) HR.out (by unfold maxLen; omega) (by omega) ?_; intro g7 o7 cap7 u hown hb hgz)
              rw [Nat.zero_add, List.nil_append] at hown
              have hg1 : V0.heap.size ≤ g7 := by rcases hgz with ⟨_, h⟩ | h; (rw [h]; exact H2.out.2); exact Nat.le_trans HB.out.size h
              have H4 := Lib.hid (And.intro hown hg1)
              have HB := Lib.hid (below_at HB.out hb)
              (try have H9 := Lib.hid (blk_stepW H9.out hb))
              clear hown hb hgz hg1 HR HE
              rename World => vw
              refine pt_on (fun u h => h) (HXE.out _ HB.out).1 ?_
              refine pt_eff ?_
              go_wp2_with fail
              obtain ⟨Y, hY⟩ : ∃ Z, Z = vw.heap.size := ⟨_, rfl⟩
              obtain ⟨u, hu⟩ : ∃ u, u = vw.alloc (Obj.cells #[.int .i64 (t : Int)] 3) := ⟨_, rfl⟩
              rw [← hu, ← hY]
              have hb : Below vw.heap.size vw u := by rw [hu]; exact (Below.refl _ _).alloc (Nat.le_refl _) _
              have hk : u.heap[Y]? = some (.cells #[.int .i64 (t : Int)] 3 (0, 0)) := by rw [hu, hY]; exact heap_alloc_new vw _
              have H9 := Lib.hid hk
              have HB := Lib.hid (below_at HB.out hb)
              (try have H2 := Lib.hid (And.intro (blk_stepW H2.out.1 hb) H2.out.2))
              (try have H4 := Lib.hid (And.intro (row_stepS H4.out.1 hb) H4.out.2))
              clear hb hk hu hY
              rename World => vw
              refine pt_on (fun u h => h) (HXE.out _ HB.out).1 ?_
              refine pt_eff ?_
              go_wp2_with (at_builtin; refine wpList_append_row (by rfl) _ _ _ (by rfl) 3 i0 _ 1 8 Tryz.underlying32 hi0 hz0 hz1 hz2 rfl (by omega) (some ⟨g7, o7, none⟩) rl cap7 (d.w.map iv) (by rfl) H4.out.1 ⟨Y, 0, none⟩ 1 1 [.int .i64 (t : Int)] (by rfl) (by rfl) (World.news_of_block (cs := #[.int .i64 (t : Int)]) (t := 3) (fr := (0, 0)) H9.out) (by simp [Value.oneCell']) (by omega) (by unfold maxLen; omega) (by omega) ?_; intro g8 o8 cap8 u hown hm hat)
              have H7 := Lib.hid (show Rd u 1 (some ⟨g8, o8, none⟩) (rl + 1) (d.w.map iv ++ [.int .i64 (t : Int)]) from hown.rd)
              have H8 := Lib.hid (show V0.heap.size ≤ g8 by rcases hat with ⟨a, e1, e2⟩ | h; (injection e1 with e1; subst e1; simp only at e2; rw [e2]; exact H4.out.2); exact Nat.le_trans HB.out.size h)
              have HB := Lib.hid (more_belowW HB.out H4.out.2 hm)
              clear hown hm hat
              rename World => vw
              refine pt_on (fun u h => h) (HXE.out _ HB.out).1 ?_
              refine pt_eff ?_
              go_wp2_with fail
              refine (HREC.out _ _ _ _ HB.out H8.out H7.out).mono ?_
              rintro y w9 ⟨rfl, hsum, hmod⟩
              have hxe := HXE.out _ HB.out
              have hzm : Z ≠ M := HZM.out
              have hev : EvAt w9 Z 0 ⟨et, ek, eo, ef⟩ ∧ w9.cell? ⟨g, og + i, none⟩ = some (.int .i64 (t : Int)) ∧ g < w9.heap.size := ⟨⟨(hmod.cell Z 0 hxe.2 hzm).trans hxe.1.1.1, (hmod.cell Z (0 + 1) hxe.2 hzm).trans hxe.1.1.2.1, (hmod.cell Z (0 + 2) hxe.2 hzm).trans hxe.1.1.2.2.1, (hmod.cell Z (0 + 3) hxe.2 hzm).trans hxe.1.1.2.2.2⟩, (hmod.cell g (og + i) hxe.1.2.2 HGM.out).trans hxe.1.2.1, Nat.lt_of_lt_of_le hxe.1.2.2 hmod.size⟩
              have HSUM := Lib.hid hsum
              have HMOD := Lib.hid ((Mod.of_below_size HB.out _).trans hmod)
              have HEV := Lib.hid hev
              clear hsum hmod hxe hzm hev
              go_wp2_with fail
              refine pt_on (fun u h => h) HEV.out ?_
              refine pt_end ?_
              go_wp2_with fail
              go_roundw
              case rel => exact ⟨i + 1, by omega, by go_num, HSUM, Lib.hid ((HMV.out.trans HMOD.out))⟩
              case measure => simp [intOf]; omega
            · go_wp2_with fail
              obtain ⟨Y, hY⟩ : ∃ Z, Z = vw.heap.size := ⟨_, rfl⟩
              obtain ⟨u, hu⟩ : ∃ u, u = vw.alloc (Obj.cells #[.int .i64 (t : Int)] 3) := ⟨_, rfl⟩
              rw [← hu, ← hY]
              have hb : Below vw.heap.size vw u := by rw [hu]; exact (Below.refl _ _).alloc (Nat.le_refl _) _
              have hk : u.heap[Y]? = some (.cells #[.int .i64 (t : Int)] 3 (0, 0)) := by rw [hu, hY]; exact heap_alloc_new vw _
              have H9 := Lib.hid hk
              have HB := Lib.hid (below_at HB.out hb)
              (try have H2 := Lib.hid (And.intro (blk_stepW H2.out.1 hb) H2.out.2))
              (try have H4 := Lib.hid (And.intro (row_stepS H4.out.1 hb) H4.out.2))
              clear hb hk hu hY
              rename World => vw
              refine pt_on (fun u h => h) (HXE.out _ HB.out).1 ?_
              refine pt_eff ?_
              have HR := Lib.hid (HRD.out vw HB.out)
              have HE := Lib.hid (row_empty (sz := 1) H2.out.1)
              go_wp2_with (at_builtin; refine wpList_append_copy (by rfl) _ _ _ (by rfl) 3 i0 _ 1 8 Tryz.underlying32 hi0 hz0 hz1 hz2 rfl (by omega) ⟨E, 0, none⟩ 0 [] (by rfl) HE.out A rl cap (d.w.map iv) (by rfl) HR.out (by unfold maxLen; omega) (by omega) ?_; intro g7 o7 cap7 u hown hb hgz)
              rw [Nat.zero_add, List.nil_append] at hown
              have hg1 : V0.heap.size ≤ g7 := by rcases hgz with ⟨_, h⟩ | h; (rw [h]; exact H2.out.2); exact Nat.le_trans HB.out.size h
              have H4 := Lib.hid (And.intro hown hg1)
              have HB := Lib.hid (below_at HB.out hb)
              (try have H9 := Lib.hid (blk_stepW H9.out hb))
              clear hown hb hgz hg1 HR HE
              rename World => vw
              refine pt_on (fun u h => h) (HXE.out _ HB.out).1 ?_
              refine pt_eff ?_
              go_wp2_with (at_builtin; refine wpList_append_row (by rfl) _ _ _ (by rfl) 3 i0 _ 1 8 Tryz.underlying32 hi0 hz0 hz1 hz2 rfl (by omega) (some ⟨g7, o7, none⟩) rl cap7 (d.w.map iv) (by rfl) H4.out.1 ⟨Y, 0, none⟩ 1 1 [.int .i64 (t : Int)] (by rfl) (by rfl) (World.news_of_block (cs := #[.int .i64 (t : Int)]) (t := 3) (fr := (0, 0)) H9.out) (by simp [Value.oneCell']) (by omega) (by unfold maxLen; omega) (by omega) ?_; intro g8 o8 cap8 u hown hm hat)
              have H7 := Lib.hid (show Rd u 1 (some ⟨g8, o8, none⟩) (rl + 1) (d.w.map iv ++ [.int .i64 (t : Int)]) from hown.rd)
              have H8 := Lib.hid (show V0.heap.size ≤ g8 by rcases hat with ⟨a, e1, e2⟩ | h; (injection e1 with e1; subst e1; simp only at e2; rw [e2]; exact H4.out.2); exact Nat.le_trans HB.out.size h)
              have HB := Lib.hid (more_belowW HB.out H4.out.2 hm)
              clear hown hm hat
              rename World => vw
              refine pt_on (fun u h => h) (HXE.out _ HB.out).1 ?_
              refine pt_eff ?_
              go_wp2_with fail
              refine (HREC.out _ _ _ _ HB.out H8.out H7.out).mono ?_
              rintro y w9 ⟨rfl, hsum, hmod⟩
              have hxe := HXE.out _ HB.out
              have hzm : Z ≠ M := HZM.out
              have hev : EvAt w9 Z 0 ⟨et, ek, eo, ef⟩ ∧ w9.cell? ⟨g, og + i, none⟩ = some (.int .i64 (t : Int)) ∧ g < w9.heap.size := ⟨⟨(hmod.cell Z 0 hxe.2 hzm).trans hxe.1.1.1, (hmod.cell Z (0 + 1) hxe.2 hzm).trans hxe.1.1.2.1, (hmod.cell Z (0 + 2) hxe.2 hzm).trans hxe.1.1.2.2.1, (hmod.cell Z (0 + 3) hxe.2 hzm).trans hxe.1.1.2.2.2⟩, (hmod.cell g (og + i) hxe.1.2.2 HGM.out).trans hxe.1.2.1, Nat.lt_of_lt_of_le hxe.1.2.2 hmod.size⟩
              have HSUM := Lib.hid hsum
              have HMOD := Lib.hid ((Mod.of_below_size HB.out _).trans hmod)
              have HEV := Lib.hid hev
              clear hsum hmod hxe hzm hev
              go_wp2_with fail
              refine pt_on (fun u h => h) HEV.out ?_
              refine pt_end ?_
              go_wp2_with fail
              go_roundw
              case rel => exact ⟨i + 1, by omega, by go_num, HSUM, Lib.hid ((HMV.out.trans HMOD.out))⟩
              case measure => simp [intOf]; omega
          · go_wp2_with fail
            obtain ⟨Y, hY⟩ : ∃ Z, Z = vw.heap.size := ⟨_, rfl⟩
            obtain ⟨u, hu⟩ : ∃ u, u = vw.alloc (Obj.cells #[.int .i64 (t : Int)] 3) := ⟨_, rfl⟩
            rw [← hu, ← hY]
            have hb : Below vw.heap.size vw u := by rw [hu]; exact (Below.refl _ _).alloc (Nat.le_refl _) _
            have hk : u.heap[Y]? = some (.cells #[.int .i64 (t : Int)] 3 (0, 0)) := by rw [hu, hY]; exact heap_alloc_new vw _
            have H9 := Lib.hid hk
            have HB := Lib.hid (below_at HB.out hb)
            (try have H2 := Lib.hid (And.intro (blk_stepW H2.out.1 hb) H2.out.2))
            (try have H4 := Lib.hid (And.intro (row_stepS H4.out.1 hb) H4.out.2))
            clear hb hk hu hY
            rename World => vw
            refine pt_on (fun u h => h) (HXE.out _ HB.out).1 ?_
            refine pt_eff ?_
            go_wp2_with fail
            obtain ⟨E, hE⟩ : ∃ Z, Z = vw.heap.size := ⟨_, rfl⟩
            obtain ⟨u, hu⟩ : ∃ u, u = vw.alloc (Obj.cells #[] 3) := ⟨_, rfl⟩
            rw [← hu, ← hE]
            have hb : Below vw.heap.size vw u := by rw [hu]; exact (Below.refl _ _).alloc (Nat.le_refl _) _
            have hk : u.heap[E]? = some (.cells #[] 3 (0, 0)) := by rw [hu, hE]; exact heap_alloc_new vw _
            have H2 := Lib.hid (And.intro hk (show V0.heap.size ≤ E by rw [hE]; exact HB.out.size))
            have HB := Lib.hid (below_at HB.out hb)
            (try have H9 := Lib.hid (blk_stepW H9.out hb))
            clear hb hk hu hE
            rename World => vw
            refine pt_on (fun u h => h) (HXE.out _ HB.out).1 ?_
            refine pt_eff ?_
            have HR := Lib.hid (HRD.out vw HB.out)
            have HE := Lib.hid (row_empty (sz := 1) H2.out.1)
            go_wp2_with (at_builtin; refine wpList_append_copy (by rfl) _ _ _ (by rfl) 3 i0 _ 1 8 Tryz.underlying32 hi0 hz0 hz1 hz2 rfl (by omega) ⟨E, 0, none⟩ 0 [] (by rfl) HE.out A rl cap (d.w.map iv) (by rfl) HR.out (by unfold maxLen; omega) (by omega) ?_; intro g7 o7 cap7 u hown hb hgz)
            rw [Nat.zero_add, List.nil_append] at hown
            have hg1 : V0.heap.size ≤ g7 := by rcases hgz with ⟨_, h⟩ | h; (rw [h]; exact H2.out.2); exact Nat.le_trans HB.out.size h
            have H4 := Lib.hid (And.intro hown hg1)
            have HB := Lib.hid (below_at HB.out hb)
            (try have H9 := Lib.hid (blk_stepW H9.out hb))
            clear hown hb hgz hg1 HR HE
            rename World => vw
            refine pt_on (fun u h => h) (HXE.out _ HB.out).1 ?_
            refine pt_eff ?_
            go_wp2_with (at_builtin; refine wpList_append_row (by rfl) _ _ _ (by rfl) 3 i0 _ 1 8 Tryz.underlying32 hi0 hz0 hz1 hz2 rfl (by omega) (some ⟨g7, o7, none⟩) rl cap7 (d.w.map iv) (by rfl) H4.out.1 ⟨Y, 0, none⟩ 1 1 [.int .i64 (t : Int)] (by rfl) (by rfl) (World.news_of_block (cs := #[.int .i64 (t : Int)]) (t := 3) (fr := (0, 0)) H9.out) (by simp [Value.oneCell']) (by omega) (by unfold maxLen; omega) (by omega) ?_; intro g8 o8 cap8 u hown hm hat)
            have H7 := Lib.hid (show Rd u 1 (some ⟨g8, o8, none⟩) (rl + 1) (d.w.map iv ++ [.int .i64 (t : Int)]) from hown.rd)
            have H8 := Lib.hid (show V0.heap.size ≤ g8 by rcases hat with ⟨a, e1, e2⟩ | h; (injection e1 with e1; subst e1; simp only at e2; rw [e2]; exact H4.out.2); exact Nat.le_trans HB.out.size h)
            have HB := Lib.hid (more_belowW HB.out H4.out.2 hm)
            clear hown hm hat
            rename World => vw
            refine pt_on (fun u h => h) (HXE.out _ HB.out).1 ?_
            refine pt_eff ?_
            go_wp2_with fail
            refine (HREC.out _ _ _ _ HB.out H8.out H7.out).mono ?_
            rintro y w9 ⟨rfl, hsum, hmod⟩
            have hxe := HXE.out _ HB.out
            have hzm : Z ≠ M := HZM.out
            have hev : EvAt w9 Z 0 ⟨et, ek, eo, ef⟩ ∧ w9.cell? ⟨g, og + i, none⟩ = some (.int .i64 (t : Int)) ∧ g < w9.heap.size := ⟨⟨(hmod.cell Z 0 hxe.2 hzm).trans hxe.1.1.1, (hmod.cell Z (0 + 1) hxe.2 hzm).trans hxe.1.1.2.1, (hmod.cell Z (0 + 2) hxe.2 hzm).trans hxe.1.1.2.2.1, (hmod.cell Z (0 + 3) hxe.2 hzm).trans hxe.1.1.2.2.2⟩, (hmod.cell g (og + i) hxe.1.2.2 HGM.out).trans hxe.1.2.1, Nat.lt_of_lt_of_le hxe.1.2.2 hmod.size⟩
            have HSUM := Lib.hid hsum
            have HMOD := Lib.hid ((Mod.of_below_size HB.out _).trans hmod)
            have HEV := Lib.hid hev
            clear hsum hmod hxe hzm hev
            go_wp2_with fail
            refine pt_on (fun u h => h) HEV.out ?_
            refine pt_end ?_
            go_wp2_with fail
            go_roundw
            case rel => exact ⟨i + 1, by omega, by go_num, HSUM, Lib.hid ((HMV.out.trans HMOD.out))⟩
            case measure => simp [intOf]; omega
        · obtain rfl : i = na := by omega
          go_wp2_with fail
          go_end0
          have hs := HSU.out
          rw [List.take_of_length_le (by rw [HNA.out]; exact Nat.le_refl _)] at hs
          exact ⟨rfl, hs, HMO.out.trans HMV0.out⟩
theorem best_any : ∀ (n : Nat) (k x : Nat) (v : Int), (k = 1 ∨ k = 2 ∨ k = 3 ∧ x < 4) → ∀ d : Pr.Nd, Pr.Wf d.s → Pr.fuels d.s ≤ n → ∀ (w : World) (C : Nat → Prop) (S T o : Nat) (A : Option Addr) (cap M : Nat) (b : Option (List Int)), RAt w C S T o d.s → (∀ q, C q → q < w.heap.size) → Rd w 1 A d.w.length (d.w.map iv) → d.w.length + (n + 1) ≤ 100 → M ≠ S → M ≠ T → ¬ C M → (∀ a, A = some a → a.block ≠ M) → BestAt w M k x v b →
    Calls Tryz.prog 61 #[.pointer (some ⟨M, 0, none⟩), .pointer (some ⟨S, 0, none⟩), .slice A d.w.length cap, .bool d.e.f] w fun y w' => y = .returned (.tuple #[]) ∧ BestAt w' M k x v (Pr.dfs (Pr.isK k x v) n d b) ∧ Mod (fun q => q = M) w w' := by
  intro n k x v hk
  induction n with
  | zero =>
    intro d hw hf w C S T o A cap M b h hC hr hrl hMS hMT hMC hAM hs
    have ha := Pr.all_nil_of hw (by omega)
    have := best_step 0 k x v d hw hk w C S T o A cap M b h hC hr hrl hMS hMT hMC hAM hs (fun t ht => by rw [ha] at ht; cases ht)
    rw [ha] at this
    exact this
  | succ n ih =>
    intro d hw hf w C S T o A cap M b h hC hr hrl hMS hMT hMC hAM hs
    rw [← Pr.kidsB_all]
    exact best_step n k x v d hw hk w C S T o A cap M b h hC hr (by omega) hMS hMT hMC hAM hs (fun t ht => by
      have hen := Pr.all_iff.1 ht
      have hfs := Pr.fuels_step hw hen
      have hl : (Pr.kidN d t).w.length = d.w.length + 1 := by simp [Pr.kidN]
      intro w' C' S' T' o' A' cap' M' b' h1 h2 h3 h4 h5 h6 h7 h8 h9
      exact ih (Pr.kidN d t) (Pr.stepS_wf t hw).1 (by show Pr.fuels (Pr.stepS d.s t) ≤ n; omega) w' C' S' T' o' A' cap' M' b' h1 h2 h3 (by omega) h5 h6 h7 h8 h9)
end Go.Proofs.YtckdofjpoajblaaGreat
namespace Go.Proofs
open Go.Shelf
def Tryz.keys101_ren : Go.Shelf.Ren := ⟨fun | 7 => 101 | 10 => 161 | n => n, fun | 23 => 140 | 26 => 9 | 3 => 4 | 28 => 177 | 0 => 0 | 27 => 176 | 33 => 235 | 4 => 4 | n => n, fun | n => n⟩
theorem Tryz.keys101 : Go.Proofs.SlLaysZ.n7 Tryz.prog Tryz.keys101_ren := {
  mixed := by kernel_rfl
  f7 := ⟨Tryz.f101.name, by decide, Tryz.func101.trans (congrArg some (by kernel_rfl))⟩
  f10 := ⟨Tryz.f161.name, by decide, Tryz.func161.trans (congrArg some (by kernel_rfl))⟩
  t0 := Tryz.underlying0
  a0 := Tryz.isAgg0
  z0 := Tryz.sizeOf0
  v0 := Tryz.zeroValue0
  t4 := Tryz.underlying4
  a4 := Tryz.isAgg4
  z4 := Tryz.sizeOf4
  v4 := Tryz.zeroValue4
  t23 := Tryz.underlying140
  a23 := Tryz.isAgg140
  z23 := Tryz.sizeOf140
  v23 := Tryz.zeroValue140
  t26 := Tryz.underlying9
  a26 := Tryz.isAgg9
  z26 := Tryz.sizeOf9
  v26 := Tryz.zeroValue9
  t27 := Tryz.underlying176
  a27 := Tryz.isAgg176
  z27 := Tryz.sizeOf176
  v27 := Tryz.zeroValue176
  t28 := Tryz.underlying177
  a28 := Tryz.isAgg177
  z28 := Tryz.sizeOf177
  v28 := Tryz.zeroValue177
  t33 := Tryz.underlying235
  a33 := Tryz.isAgg235
  z33 := Tryz.sizeOf235
  v33 := Tryz.zeroValue235 }
def Tryz.sorted100_ren : Go.Shelf.Ren := ⟨fun | 6 => 100 | 8 => 160 | 9 => 74 | 11 => 203 | 13 => 130 | 12 => 129 | 23 => 178 | 24 => 179 | 14 => 169 | 15 => 170 | 16 => 171 | 17 => 172 | 18 => 173 | 19 => 174 | 20 => 175 | 21 => 176 | 22 => 177 | 25 => 207 | 26 => 208 | 27 => 209 | 28 => 210 | 29 => 211 | 30 => 212 | 31 => 231 | n => n, fun | 26 => 9 | 28 => 177 | 24 => 27 | 0 => 0 | 3 => 3 | 37 => 45 | 48 => 250 | 50 => 252 | 4 => 4 | 40 => 242 | 39 => 241 | 45 => 247 | 5 => 5 | 9 => 9 | 51 => 273 | 55 => 277 | 57 => 296 | 58 => 297 | 33 => 235 | n => n, fun | n => n⟩
theorem Tryz.sorted100 : Go.Proofs.SlLaysZ.n6 Tryz.prog Tryz.sorted100_ren := {
  mixed := by kernel_rfl
  f6 := ⟨Tryz.f100.name, by decide, Tryz.func100.trans (congrArg some (by kernel_rfl))⟩
  f8 := ⟨Tryz.f160.name, by decide, Tryz.func160.trans (congrArg some (by kernel_rfl))⟩
  f11 := ⟨Tryz.f203.name, by decide, Tryz.func203.trans (congrArg some (by kernel_rfl))⟩
  t0 := Tryz.underlying0
  a0 := Tryz.isAgg0
  z0 := Tryz.sizeOf0
  v0 := Tryz.zeroValue0
  t24 := Tryz.underlying27
  a24 := Tryz.isAgg27
  z24 := Tryz.sizeOf27
  v24 := Tryz.zeroValue27
  t26 := Tryz.underlying9
  a26 := Tryz.isAgg9
  z26 := Tryz.sizeOf9
  v26 := Tryz.zeroValue9
  t28 := Tryz.underlying177
  a28 := Tryz.isAgg177
  z28 := Tryz.sizeOf177
  v28 := Tryz.zeroValue177
  i26 := by kernel_rfl }
def Tryz.sort74_ren : Go.Shelf.Ren := ⟨fun | 6 => 74 | 8 => 130 | 9 => 129 | 19 => 178 | 20 => 179 | 21 => 169 | 22 => 170 | 23 => 171 | 24 => 172 | 25 => 173 | 26 => 174 | 27 => 175 | 28 => 176 | 29 => 177 | 36 => 207 | 31 => 208 | 32 => 209 | 37 => 210 | 38 => 211 | 39 => 212 | 41 => 231 | n => n, fun | 27 => 27 | 29 => 9 | 3 => 3 | 32 => 45 | 26 => 27 | 0 => 0 | 44 => 250 | 46 => 252 | 4 => 4 | 36 => 242 | 35 => 241 | 41 => 247 | 5 => 5 | 9 => 9 | 53 => 273 | 57 => 277 | 63 => 296 | 64 => 297 | n => n, fun | n => n⟩
theorem Tryz.sort74 : Go.Proofs.SlLaysM.n6 Tryz.prog Tryz.sort74_ren := {
  mixed := by kernel_rfl
  f6 := ⟨Tryz.f74.name, by decide, Tryz.func74.trans (congrArg some (by kernel_rfl))⟩
  f8 := Tryz.func130.trans (congrArg some (by kernel_rfl))
  f9 := ⟨Tryz.f129.name, by decide, Tryz.func129.trans (congrArg some (by kernel_rfl))⟩
  f19 := Tryz.func178.trans (congrArg some (by kernel_rfl))
  f20 := Tryz.func179.trans (congrArg some (by kernel_rfl))
  f21 := ⟨Tryz.f169.name, by decide, Tryz.func169.trans (congrArg some (by kernel_rfl))⟩
  f22 := ⟨Tryz.f170.name, by decide, Tryz.func170.trans (congrArg some (by kernel_rfl))⟩
  f23 := ⟨Tryz.f171.name, by decide, Tryz.func171.trans (congrArg some (by kernel_rfl))⟩
  f24 := ⟨Tryz.f172.name, by decide, Tryz.func172.trans (congrArg some (by kernel_rfl))⟩
  f25 := ⟨Tryz.f173.name, by decide, Tryz.func173.trans (congrArg some (by kernel_rfl))⟩
  f26 := ⟨Tryz.f174.name, by decide, Tryz.func174.trans (congrArg some (by kernel_rfl))⟩
  f27 := ⟨Tryz.f175.name, by decide, Tryz.func175.trans (congrArg some (by kernel_rfl))⟩
  f28 := ⟨Tryz.f176.name, by decide, Tryz.func176.trans (congrArg some (by kernel_rfl))⟩
  f29 := ⟨Tryz.f177.name, by decide, Tryz.func177.trans (congrArg some (by kernel_rfl))⟩
  f31 := Tryz.func208.trans (congrArg some (by kernel_rfl))
  f32 := Tryz.func209.trans (congrArg some (by kernel_rfl))
  f36 := ⟨Tryz.f207.name, by decide, Tryz.func207.trans (congrArg some (by kernel_rfl))⟩
  f37 := ⟨Tryz.f210.name, by decide, Tryz.func210.trans (congrArg some (by kernel_rfl))⟩
  f38 := ⟨Tryz.f211.name, by decide, Tryz.func211.trans (congrArg some (by kernel_rfl))⟩
  f39 := ⟨Tryz.f212.name, by decide, Tryz.func212.trans (congrArg some (by kernel_rfl))⟩
  f41 := ⟨Tryz.f231.name, by decide, Tryz.func231.trans (congrArg some (by kernel_rfl))⟩
  t0 := Tryz.underlying0
  a0 := Tryz.isAgg0
  z0 := Tryz.sizeOf0
  v0 := Tryz.zeroValue0
  t3 := Tryz.underlying3
  a3 := Tryz.isAgg3
  z3 := Tryz.sizeOf3
  v3 := Tryz.zeroValue3
  t4 := Tryz.underlying4
  a4 := Tryz.isAgg4
  z4 := Tryz.sizeOf4
  v4 := Tryz.zeroValue4
  t5 := Tryz.underlying5
  a5 := Tryz.isAgg5
  z5 := Tryz.sizeOf5
  v5 := Tryz.zeroValue5
  t9 := Tryz.underlying9
  a9 := Tryz.isAgg9
  z9 := Tryz.sizeOf9
  v9 := Tryz.zeroValue9
  t26 := Tryz.underlying27
  a26 := Tryz.isAgg27
  z26 := Tryz.sizeOf27
  v26 := Tryz.zeroValue27
  t27 := Tryz.underlying27
  a27 := Tryz.isAgg27
  z27 := Tryz.sizeOf27
  v27 := Tryz.zeroValue27
  t29 := Tryz.underlying9
  a29 := Tryz.isAgg9
  z29 := Tryz.sizeOf9
  v29 := Tryz.zeroValue9
  t32 := Tryz.underlying45
  a32 := Tryz.isAgg45
  z32 := Tryz.sizeOf45
  v32 := Tryz.zeroValue45
  t35 := Tryz.underlying241
  a35 := Tryz.isAgg241
  z35 := Tryz.sizeOf241
  v35 := Tryz.zeroValue241
  t36 := Tryz.underlying242
  a36 := Tryz.isAgg242
  z36 := Tryz.sizeOf242
  v36 := Tryz.zeroValue242
  t41 := Tryz.underlying247
  a41 := Tryz.isAgg247
  z41 := Tryz.sizeOf247
  v41 := Tryz.zeroValue247
  t44 := Tryz.underlying250
  a44 := Tryz.isAgg250
  z44 := Tryz.sizeOf250
  v44 := Tryz.zeroValue250
  t46 := Tryz.underlying252
  a46 := Tryz.isAgg252
  z46 := Tryz.sizeOf252
  v46 := Tryz.zeroValue252
  t53 := Tryz.underlying273
  a53 := Tryz.isAgg273
  z53 := Tryz.sizeOf273
  v53 := Tryz.zeroValue273
  t57 := Tryz.underlying277
  a57 := Tryz.isAgg277
  z57 := Tryz.sizeOf277
  v57 := Tryz.zeroValue277
  t63 := Tryz.underlying296
  a63 := Tryz.isAgg296
  z63 := Tryz.sizeOf296
  v63 := Tryz.zeroValue296
  t64 := Tryz.underlying297
  a64 := Tryz.isAgg297
  z64 := Tryz.sizeOf297
  v64 := Tryz.zeroValue297 }
end Go.Proofs
namespace Go.Proofs.YtckdofjpoajblaaGreat
open Go.RowKit
noncomputable abbrev Tryz.keyS : KeyK Tryz.prog 9 ByteArray := keyStr Tryz.underlying9
end Go.Proofs.YtckdofjpoajblaaGreat
namespace Go.Proofs.YtckdofjpoajblaaGreat
open Go.RowKit Go.Maps Go.Sort Go.Shelf
set_option linter.unusedVariables false
theorem sorts_any (m : Nat) : AnyZ.SortsIn Tryz.prog Tryz.sorted100_ren Fence.wide m :=
  ⟨fun blk off cap ss W hH hblk hsz => callsIn_wide.2 (AnyM.slices_Sort_string Tryz.sort74 blk off cap ss W hH hblk hsz),
   fun p cap W => callsIn_wide.2 (AnyM.slices_Sort_string_none Tryz.sort74 p cap W)⟩
theorem mapKeys_any (mb : Option Nat) (W : World) : Calls Tryz.prog 101 #[.map mb] W fun e w' => e = .returned (.func (.func 161) #[] #[.pointer (some ⟨W.heap.size, 0, none⟩)]) ∧ w' = W.alloc (.cells #[.map mb] 140) :=
  callsIn_wide.1 (AnyZ.keys_in Tryz.keys101 Fence.wide 5 trivial rfl mb W)
set_option maxHeartbeats 1000000 in
theorem sortedKeys_any {H : Type} (b nn : Nat) (D0 : DataW H) (R : Value → Option (DataW H × List MemPlace)) (w : World) (hown : w.ownsMap Tryz.prog 9 R b nn D0) (hmax : Maps.size D0 ≤ maxLen) (hbytes : Maps.size D0 * 16 ≤ 140737488355328) :
    Calls Tryz.prog 100 #[.func (.func 161) #[] #[.pointer (some ⟨w.heap.size, 0, none⟩)]] (w.alloc (.cells #[.map (some b)] 140)) fun e w' => ∃ (v : Value) (ss : List (List UInt8)), e = .returned v ∧ ss.Perm (strKeys D0) ∧
      w'.ownsRow (w.alloc (.cells #[.map (some b)] 140)).heap.size 9 1 v ss.length ((ss.mergeSort (fun x y => decide (x ≤ y))).map encStr) ∧ (v = .slice none 0 0 ↔ ss = []) ∧ Below (w.alloc (.cells #[.map (some b)] 140)).heap.size (w.alloc (.cells #[.map (some b)] 140)) w' := by
  have hbl := hown.lt
  have hseq : SeqGives Fence.wide 2 Tryz.prog 161 #[.pointer (some ⟨w.heap.size, 0, none⟩)] encStr (fun ss => ss.Perm (strKeys D0)) (Maps.size D0) (w.alloc (.cells #[.map (some b)] 140)) :=
    AnyZ.keys_gives (ρ := Tryz.keys101_ren) { Tryz.keys101 with } Fence.wide _ trivial rfl (by omega) w.heap.size b nn D0 _ (by simp) (by simp) (by
      obtain ⟨es, clock, hb, Ft, hs, hD⟩ := hown
      exact ⟨es, clock, (Below.heap_alloc _ _ b hbl).trans hb, Ft, hs, hD⟩)
  exact callsIn_wide.1 (AnyZ.sorted_in Tryz.sorted100 Fence.wide 5 trivial trivial trivial trivial rfl (by omega) (sorts_any _) (enters_of Tryz.func74 (by kernel_rfl) rfl) 161 #[.pointer (some ⟨w.heap.size, 0, none⟩)] trivial (enters_of Tryz.func161 (by kernel_rfl) rfl) _ _ hmax hbytes _ hseq)
theorem insert_perm {H : Type} (x : Lit × DataW H) : ∀ l : List (Lit × DataW H), (DataW.insert x l).Perm (x :: l)
  | [] => List.Perm.refl _
  | y :: l => by
    unfold DataW.insert
    split
    · exact List.Perm.refl _
    · exact ((insert_perm x l).cons y).trans (List.Perm.swap x y l)
theorem foldr_insert_perm {H : Type} (l : List (Lit × DataW H)) : (l.foldr DataW.insert []).Perm l := by
  induction l with
  | nil => exact List.Perm.refl _
  | cons x l ih => exact (insert_perm x _).trans (ih.cons x)
def txt (v : Value) : List UInt8 := match v with | .string s => s.data.toList | _ => []
namespace Ky
theorem sorted_nodup {l L : List K} (hn : l.Nodup) (hm : ∀ x, x ∈ l ↔ x ∈ L) : l.mergeSort (fun x y => decide (x ≤ y)) = gather L := by
  have hp := List.mergeSort_perm l (fun x y => decide (x ≤ y))
  refine strict_ext ?_ (gather_strict L) (fun x => by rw [hp.mem_iff, gather_mem, hm])
  have hs : (l.mergeSort (fun x y => decide (x ≤ y))).Pairwise (fun a b => decide (a ≤ b) = true) := List.pairwise_mergeSort (by
    intro a b c h1 h2
    rw [le_eq, Bool.not_eq_true'] at h1 h2 ⊢
    cases h : lt c a with
    | false => rfl
    | true =>
      cases hbc : lt b c with
      | true => rw [lt_tr hbc h] at h1; cases h1
      | false =>
        have := lt_tri hbc h2
        subst this
        rw [h] at h1; cases h1) (by
    intro a b
    rw [le_eq, le_eq]
    cases h : lt b a with
    | false => rfl
    | true => rw [lt_asym h]; rfl) l
  have hn2 : (l.mergeSort (fun x y => decide (x ≤ y))).Nodup := hp.nodup_iff.2 hn
  refine (hs.and hn2).imp (fun {a b} h => ?_)
  obtain ⟨h1, h2⟩ := h
  rw [le_eq, Bool.not_eq_true'] at h1
  cases hab : lt a b with
  | true => rfl
  | false => exact (h2 (lt_tri hab h1)).elim
end Ky
set_option maxHeartbeats 1000000 in
/-- the keys of a map, rising -/
theorem sortedMap_any (w : World) (b : Nat) (m : List (ByteArray × Value)) (hm : MapAt Tryz.keyS w b m) (hl : m.length ≤ 1000000) (hk : ∀ p ∈ m, p.1.size ≤ maxLen) (L : List Ky.K) (hL : ∀ k, k ∈ L ↔ k ∈ m.map (fun p => p.1.data.toList)) :
    Calls Tryz.prog 100 #[.func (.func 161) #[] #[.pointer (some ⟨w.heap.size, 0, none⟩)]] (w.alloc (.cells #[.map (some b)] 140)) (StrOut (w.alloc (.cells #[.map (some b)] 140)) (Ky.gather L)) := by
  obtain ⟨es, clock, hb, hent, hnd, hst⟩ := hm
  have hes : es.size = m.length := by have := congrArg List.length hent; simpa [ents] using this
  have hkeys : es.toList.map (fun e => e.key) = m.map (fun p => Value.string p.1) := by
    have := congrArg (List.map Prod.fst) hent
    have h2 : es.toList.map (fun e => e.key) = m.map (fun p => Tryz.keyS.kk p.1) := by simpa [ents, List.map_map, Function.comp_def] using this
    exact h2
  have hstr : ∀ x ∈ es.toList, ∃ s : ByteArray, x.key = .string s ∧ s.size ≤ maxLen := fun x hx => by
    have : x.key ∈ m.map (fun p => Value.string p.1) := by rw [← hkeys]; exact List.mem_map.2 ⟨x, hx, rfl⟩
    obtain ⟨p, hp, e⟩ := List.mem_map.1 this
    exact ⟨p.1, e.symm, hk p hp⟩
  have hrd : ∀ x ∈ es.toList, Go.WideElems.rd (H := Unit) Tryz.prog 9 (fun _ => some (.nil, [])) x = some (.string (txt x.key), .nil) := fun x hx => by
    obtain ⟨s, e, hs⟩ := hstr x hx
    unfold Go.WideElems.rd
    rw [e, Go.WideMaps.keyOf_string_mk Tryz.underlying9 hs]
    rfl
  have hown : w.ownsMap (H := Unit) Tryz.prog 9 (fun _ => some (.nil, [])) b es.size (.map ((es.toList.map (Go.WideElems.rg Tryz.prog 9 (fun _ => some (.nil, [])))).foldr DataW.insert [])) :=
    ⟨es, clock, hb, ⟨by rw [hes]; unfold maxLen; omega, hst, fun x hx => ⟨_, hrd x hx⟩⟩, Nat.le_refl _, rfl⟩
  have hks : (strKeys (DataW.map ((es.toList.map (Go.WideElems.rg (H := Unit) Tryz.prog 9 (fun _ => some (.nil, [])))).foldr DataW.insert []))).Perm (m.map fun p : ByteArray × Value => p.1.data.toList) := by
    show (List.map (fun p : Lit × DataW Unit => strOf p.1) _).Perm _
    refine ((foldr_insert_perm _).map _).trans ?_
    rw [List.map_map]
    have h1 : es.toList.map ((fun p : Lit × DataW Unit => strOf p.1) ∘ Go.WideElems.rg Tryz.prog 9 (fun _ => some (.nil, []))) = (es.toList.map (fun e => e.key)).map txt := by
      rw [List.map_map]
      refine List.map_congr_left (fun x hx => ?_)
      simp only [Function.comp]
      rw [Go.WideElems.rg_of (hrd x hx)]
      rfl
    rw [h1, hkeys, List.map_map]
    exact List.Perm.refl _
  have hnd2 : (m.map fun p => p.1.data.toList).Nodup := by
    have : (m.map fun p => p.1.data.toList) = (m.map (·.1)).map (fun s : ByteArray => s.data.toList) := by rw [List.map_map]; rfl
    rw [this]
    refine List.pairwise_map.2 (hnd.imp (fun {a b} hab e => hab ?_))
    obtain ⟨a⟩ := a
    obtain ⟨b⟩ := b
    simp only at e
    rw [show a = b from by simpa using congrArg List.toArray e]
  have hsz : Maps.size (DataW.map ((es.toList.map (Go.WideElems.rg (H := Unit) Tryz.prog 9 (fun _ => some (.nil, [])))).foldr DataW.insert [])) ≤ 1000000 := Nat.le_trans hown.size_le (by omega)
  refine (sortedKeys_any b es.size _ _ w hown (by unfold maxLen; omega) (by omega)).mono ?_
  rintro e w' ⟨v, ss, rfl, hp, hrow, hnil, hbel⟩
  have hss : ss.mergeSort (fun x y => decide (x ≤ y)) = Ky.gather L := Ky.sorted_nodup ((hp.trans hks).nodup_iff.2 hnd2) (fun x => by rw [(hp.trans hks).mem_iff, hL])
  have hlen : (Ky.gather L).length = ss.length := by rw [← hss, List.length_mergeSort]
  have hsv : (Ky.gather L).map encStr = (Ky.gather L).map sv := List.map_congr_left (fun x _ => rfl)
  rw [hss, hsv, ← hlen] at hrow
  obtain ⟨hr1, hr2⟩ := hrow
  rcases hr2 with ⟨rfl, hz⟩ | ⟨g, cap, cur, rfl, hg, hc, hn1, hn2, hn3, hn4⟩
  · refine ⟨none, 0, by rw [hz], ?_, hbel⟩
    have : Ky.gather L = [] := List.eq_nil_of_length_eq_zero hz
    rw [this]
    exact ⟨(Row.nil w' 9 1).rd, Nat.le_refl _, Nat.zero_le _⟩
  · refine ⟨some ⟨g, 0, none⟩, cap, rfl, ⟨⟨hr1, fun _ => ⟨g, 0, rfl, blk_lt hc, fun j hj => ?_⟩⟩, hn1, hn2⟩, hbel⟩
    rw [cell_blk hc, ← hn4, List.getElem?_take, if_pos hj, Nat.zero_add]
    simp
end Go.Proofs.YtckdofjpoajblaaGreat
namespace Go.Proofs.YtckdofjpoajblaaGreat
open Go.RowKit
set_option linter.unusedVariables false
theorem key_eqW (k k' : List UInt8) : ((⟨k.toArray⟩ : ByteArray) = ⟨k'.toArray⟩) ↔ k = k' := ⟨fun e => by injection e with e; simpa using congrArg Array.toList e, fun e => by rw [e]⟩
theorem mget_isSome {m : List (ByteArray × Value)} {k : ByteArray} : (mget m k).isSome = true ↔ k ∈ m.map (·.1) := by
  induction m with
  | nil => simp [mget]
  | cons p m ih =>
    obtain ⟨a, v⟩ := p
    simp only [mget, List.map_cons, List.mem_cons]
    by_cases h : k = a
    · simp [h]
    · rw [if_neg h, ih]; simp [h]
theorem memK (m : List (ByteArray × Value)) (k : List UInt8) : (k ∈ m.map (fun p => p.1.data.toList)) ↔ ((⟨k.toArray⟩ : ByteArray) ∈ m.map (·.1)) := by
  simp only [List.mem_map]
  constructor
  · rintro ⟨p, hp, rfl⟩; exact ⟨p, hp, by simp⟩
  · rintro ⟨p, hp, h⟩; exact ⟨p, hp, by rw [h]⟩
theorem wrap_up (n : Nat) : wrap64 (wrap64 (n : Int) + 1) = wrap64 ((n + 1 : Nat) : Int) := by
  simp only [wrap64]
  omega
def IAll (Rn Mc B : Nat) (a : Pr.Sm) (w : World) : Prop := CellAt w Rn (.int .i64 (wrap64 (a.runs : Int))) ∧ CellAt w Mc (.map (some B)) ∧ ∃ m, MapAt Tryz.keyS w B m ∧ (∀ k, k ∈ a.keys ↔ k ∈ m.map (fun p => p.1.data.toList)) ∧ (∀ p ∈ m, p.1.size ≤ 1000) ∧ m.length ≤ a.keys.length
theorem key_le (row : List Ev) (h : row.length ≤ 100) : (Fo.key row).length ≤ 1000 := by
  by_cases hk : Fo.okRow row = true
  · have h1 := (Fo.lev_flat row).length_eq
    have h2 : (Fo.lev row).length ≤ row.length := by rw [Fo.lev_len]; exact Fo.levU_len row
    have h3 := Fo.encP_len (L := Fo.lev row) (Fo.lev row).length
    rw [List.take_length] at h3
    rw [Fo.key_enc hk, Fo.enc_eq, List.length_append, List.length_singleton]
    omega
  · rw [Fo.key_none (by simpa using hk)]; simp
set_option maxRecDepth 100000 in
set_option maxHeartbeats 2000000 in
theorem all_at (Rn Mc B : Nat) (hRM : Rn ≠ Mc) (hRB : Rn ≠ B) (hMB : Mc ≠ B) : AtS 99 #[.pointer (some ⟨Rn, 0, none⟩), .pointer (some ⟨Mc, 0, none⟩)] (fun k => k = Rn ∨ k = Mc ∨ k = B) (IAll Rn Mc B) Pr.at6 where
  enters := Go.Proofs.enters_of Tryz.func99 (by kernel_rfl) rfl
  keep := fun x u u' H hi hm hF => by
    obtain ⟨h1, h2, m, h3, h4, h5, h6⟩ := hi
    exact ⟨h1.mod hm (fun h => hF _ h (.inl rfl)), h2.mod hm (fun h => hF _ h (.inr (.inl rfl))), m, h3.move (hm.block B h3.lt (fun h => hF _ h (.inr (.inr rfl)))), h4, h5, h6⟩
  call := by
    intro u C S T s row A cap x h hw hr hl hF hi
    obtain ⟨h1, h2, m, h3, h4, h5, h6⟩ := hi
    obtain ⟨c0, cl, cf⟩ := h1.cell
    obtain ⟨hs, hm⟩ := h1.set (.int .i64 (wrap64 ((x.runs + 1 : Nat) : Int)))
    obtain ⟨z, hz⟩ : ∃ z, z = wrap64 (x.runs : Int) := ⟨_, rfl⟩
    have hz2 : wrap64 (z + 1) = wrap64 ((x.runs + 1 : Nat) : Int) := by rw [hz]; exact wrap_up _
    rw [← hz] at c0
    have h2' := h2.mod hm (fun e => hRM e.symm)
    have h3' := h3.move (hm.block B h3.lt (fun e => hRB e.symm))
    have hrR := hr.setB (M := Rn) (k := 0) (.int .i64 (wrap64 ((x.runs + 1 : Nat) : Int))) (fun b hb => (hF Rn (.inl rfl)).2.2.2 b hb)
    obtain ⟨W1, hW1⟩ : ∃ z, z = u.setCell ⟨Rn, 0, none⟩ (.int .i64 (wrap64 ((x.runs + 1 : Nat) : Int))) := ⟨_, rfl⟩
    rw [← hW1] at hs hm h2' h3' hrR
    have hkey : ∀ v, Below W1.heap.size W1 v → Calls Tryz.prog 46 #[.slice A row.length cap] v fun y w' => y = .returned (.string ⟨(Fo.key row).toArray⟩) ∧ Below v.heap.size v w' := fun v hv => fkey_any v A cap row (hrR.below hv (Nat.le_refl _)) (by omega)
    obtain ⟨ky, hky⟩ : ∃ ky, ky = Fo.key row := ⟨_, rfl⟩
    have hkl : ky.length ≤ 1000 := by rw [hky]; exact key_le row hl
    rw [← hky] at hkey
    have hat : Pr.at6 s row x = ⟨Ky.insG x.keys ky, x.runs + 1, x.stuck + if Pr.waits s = true then 1 else 0⟩ := by rw [hky]; rfl
    have HKEY := Lib.hid hkey
    have HZ := Lib.hid hz2
    have HW1 := Lib.hid hW1
    have HS := Lib.hid hs
    have HM := Lib.hid (show Mod (fun k => k = Rn ∨ k = Mc ∨ k = B) u W1 from hm.mono (fun k _ e => .inl e))
    have H2 := Lib.hid h2'
    have H3 := Lib.hid (And.intro h3' (And.intro h4 (And.intro h5 (And.intro h6 hkl))))
    have HAT := Lib.hid hat
    have HNE := Lib.hid (And.intro hRM (And.intro hRB hMB))
    show Calls Tryz.prog 99 #[.pointer (some ⟨S, 0, none⟩), .slice A row.length cap, .pointer (some ⟨Rn, 0, none⟩), .pointer (some ⟨Mc, 0, none⟩)] u _
    clear h hw hr hF h1 h2 h3 h4 h5 h6 hs hm hz hz2 h2' h3' hrR hW1 hkey hky hkl hat hRM hRB hMB
    go_enter Tryz.func99, Tryz.ntmps99
    go_upto_region 1 with fail
    rw [HZ.out, ← HW1.out]
    clear c0 cl cf
    refine wp_region_planF (by kernel_rfl) (fun v => Below W1.heap.size W1 v) [3] [(0, .load), (1, .pure), (2, .eff), (3, .last)] (by simp only [List.map_cons, List.map_nil, List.getElem?_toArray, List.getElem?_cons_succ, List.getElem?_cons_zero]; rfl) (by kernel_rfl) (fun _ _ d _ _ h => by cases d <;> exact h) ((Below.refl _ _).drew) ?_
    obtain ⟨Wd, hWd⟩ : ∃ z, z = W1.drew := ⟨_, rfl⟩
    rw [← hWd]
    have hbd : Below W1.heap.size W1 Wd := by rw [hWd]; exact (Below.refl _ _).drew
    have HBD := Lib.hid hbd
    clear hWd hbd
    repeat (first
      | (refine plan_pure (v := ?_) (by rfl) (fun w1 => ?_) ?_
         rotate_left
         · go_simp <;> with_reducible rfl
         simp only [Act.put, List.setIfInBounds_toArray, List.set_cons_zero, List.set_cons_succ])
      | (refine plan_off (by rfl) ?_
         simp only [Act.put, List.setIfInBounds_toArray, List.set_cons_zero, List.set_cons_succ])
      | (refine plan_load_off (by rfl) ?_
         simp only [Act.put, List.setIfInBounds_toArray, List.set_cons_zero, List.set_cons_succ])
      | (refine plan_load (v := ?_) (by rfl) (fun w1 hw1 => ?_) ?_
         rotate_left
         · (have qm := (H2.out.below hw1).cell
            obtain ⟨q0, ql, _⟩ := qm
            clear hw1
            go_simp <;> with_reducible rfl)
         simp only [Act.put, List.setIfInBounds_toArray, List.set_cons_zero, List.set_cons_succ]))
    have HK := Lib.hid (HKEY.out Wd HBD.out)
    refine plan_eff ?_
    go_wp2_with fail
    refine HK.out.mono ?_
    rintro y w4 ⟨rfl, b4⟩
    have HB4 := Lib.hid (below_at HBD.out b4)
    clear b4 HK HKEY
    go_wp2_with fail
    refine plan_on (fun _ h => h) HB4.out ?_
    repeat (first
      | (refine plan_pure (v := ?_) (by rfl) (fun w1 => ?_) ?_
         rotate_left
         · go_simp <;> with_reducible rfl
         simp only [Act.put, List.setIfInBounds_toArray, List.set_cons_zero, List.set_cons_succ])
      | (refine plan_off (by rfl) ?_
         simp only [Act.put, List.setIfInBounds_toArray, List.set_cons_zero, List.set_cons_succ])
      | (refine plan_load_off (by rfl) ?_
         simp only [Act.put, List.setIfInBounds_toArray, List.set_cons_zero, List.set_cons_succ])
      | (refine plan_load (v := ?_) (by rfl) (fun w1 hw1 => ?_) ?_
         rotate_left
         · (have qm := (H2.out.below hw1).cell
            obtain ⟨q0, ql, _⟩ := qm
            clear hw1
            go_simp <;> with_reducible rfl)
         simp only [Act.put, List.setIfInBounds_toArray, List.set_cons_zero, List.set_cons_succ]))
    have HMP := Lib.hid (H3.out.1.move (HB4.out.block B H3.out.1.lt))
    refine plan_last ?_
    go_wp2_with (at_mapUpdate; refine wpList_mapUpdate Tryz.keyS (by rfl) _ _ _ 140 4 (by rfl) Tryz.underlying140 B m (by rfl) HMP.out ⟨ky.toArray⟩ (by rfl) (.bool true) (by rfl) ?_; intro w8 mp8 m8)
    repeat (first
      | (refine plan_pure (v := ?_) (by rfl) (fun w1 => ?_) ?_
         rotate_left
         · go_simp <;> with_reducible rfl
         simp only [Act.put, List.setIfInBounds_toArray, List.set_cons_zero, List.set_cons_succ])
      | (refine plan_off (by rfl) ?_
         simp only [Act.put, List.setIfInBounds_toArray, List.set_cons_zero, List.set_cons_succ])
      | (refine plan_load_off (by rfl) ?_
         simp only [Act.put, List.setIfInBounds_toArray, List.set_cons_zero, List.set_cons_succ])
      | (refine plan_load (v := ?_) (by rfl) (fun w1 hw1 => ?_) ?_
         rotate_left
         · (skip
            clear hw1
            go_simp <;> with_reducible rfl)
         simp only [Act.put, List.setIfInBounds_toArray, List.set_cons_zero, List.set_cons_succ]))
    refine plan_end ?_
    have HS8 := Lib.hid ((HS.out.below HB4.out).mod m8 HNE.out.2.1)
    have HM8 := Lib.hid ((H2.out.below HB4.out).mod m8 HNE.out.2.2)
    have HX8 := Lib.hid mp8
    have HMO := Lib.hid ((HM.out.trans (Mod.of_below_size HB4.out _)).trans (m8.mono (fun k _ e => .inr (.inr e))))
    clear m8 mp8
    go_wp2_with fail
    go_end0
    refine ⟨rfl, ?_, HMO.out⟩
    rw [HAT.out]
    refine ⟨HS8.out, HM8.out, _, HX8.out, fun k => ?_, fun p hp => ?_, ?_⟩
    · rw [Ky.insG_mem, H3.out.2.1 k]
      rw [memK, memK, mput_keys, key_eqW]
    · have : p.1 ∈ (mput m ⟨ky.toArray⟩ (Value.bool true)).map (·.1) := List.mem_map.2 ⟨p, hp, rfl⟩
      rw [mput_keys] at this
      rcases this with h | h
      · rw [h]; show ky.toArray.size ≤ 1000; simpa using H3.out.2.2.2.2
      · obtain ⟨p2, hp2, h⟩ := List.mem_map.1 h
        rw [← h]; exact H3.out.2.2.1 p2 hp2
    · show (mput m ⟨ky.toArray⟩ (Value.bool true)).length ≤ (Ky.insG x.keys ky).length
      rw [mput_length, Ky.insG_len]
      by_cases hm : ky ∈ x.keys
      · rw [if_pos hm]
        have : (mget m (⟨ky.toArray⟩ : ByteArray)).isSome = true := mget_isSome.2 ((memK m ky).1 ((H3.out.2.1 ky).1 hm))
        rw [if_pos this]
        exact H3.out.2.2.2.1
      · rw [if_neg hm]
        have := H3.out.2.2.2.1
        split <;> omega
end Go.Proofs.YtckdofjpoajblaaGreat
namespace Go.Proofs.YtckdofjpoajblaaGreat
open Go.RowKit
set_option linter.unusedVariables false
def OverOut {α : Type} (w : World) (F : Nat → Prop) (I : α → World → Prop) (at_ : St → List Ev → α → α) (p : Pg) (f : Int) (most : Nat) (x : α) (e : Ending) (w' : World) : Prop :=
  if Pr.may p f then
    e = .returned (.tuple #[.int .i64 (if most < (Pr.over at_ most 32 (Pr.start p f.toNat) [] (0, x)).1 then 0 else ((Pr.over at_ most 32 (Pr.start p f.toNat) [] (0, x)).1 : Int)), .int .i64 (if most < (Pr.over at_ most 32 (Pr.start p f.toNat) [] (0, x)).1 then 5 else 0)]) ∧ I (Pr.over at_ most 32 (Pr.start p f.toNat) [] (0, x)).2 w' ∧ Mod F w w'
  else e = .returned (.tuple #[.int .i64 0, .int .i64 1]) ∧ Below w.heap.size w w'
set_option maxRecDepth 100000 in
set_option maxHeartbeats 4000000 in
theorem over_any {α : Type} {G : Nat} {caps : Array Value} {F : Nat → Prop} {I : α → World → Prop} {at_ : St → List Ev → α → α} (hat : AtS G caps F I at_) (w : World) (p : Pg) (A : Option Addr) (cap : Nat) (f : Int) (most : Nat) (x : α) (hp : PgIn w p A) (hmost : most ≤ 100000) (hF : ∀ k, F k → k < w.heap.size) (hI : I x w) :
    Calls Tryz.prog 98 #[valP p A cap, .int .i64 f, .int .i64 (most : Int), .func (.func G) #[] caps] w (OverOut w F I at_ p f most x) := by
  obtain ⟨Wa, X, hWa, hX, hBa, hXl, hXe⟩ := pg_box w p.vars p.mtx A p.code.length cap
  obtain ⟨Wb, hWb⟩ : ∃ z, z = Wa.alloc (Obj.cells #[.int .i64 (most : Int)] 3) := ⟨_, rfl⟩
  obtain ⟨Wc, hWc⟩ : ∃ z, z = Wb.alloc (Obj.cells #[.func (.func G) #[] caps] 174) := ⟨_, rfl⟩
  have hbA : Below Wa.heap.size Wa Wb := by rw [hWb]; exact (Below.refl _ _).alloc (Nat.le_refl _) _
  have hbB : Below Wb.heap.size Wb Wc := by rw [hWc]; exact (Below.refl _ _).alloc (Nat.le_refl _) _
  obtain ⟨P, hP⟩ : ∃ z, z = Wa.heap.size := ⟨_, rfl⟩
  obtain ⟨Q, hQ⟩ : ∃ z, z = Wb.heap.size := ⟨_, rfl⟩
  have hsA : Wa.heap.size = w.heap.size + 1 := by rw [hWa, World.size_alloc]
  have hsB : Wb.heap.size = w.heap.size + 1 + 1 := by rw [hWb, World.size_alloc, hsA]
  have hsC : Wc.heap.size = Wb.heap.size + 1 := by rw [hWc, World.size_alloc]
  have hPk : CellAt Wc P (.int .i64 (most : Int)) := by
    have : CellAt Wb P (.int .i64 (most : Int)) := by rw [hWb, hP]; exact cellAt_new Wa _ _
    exact this.below hbB
  have hQk : CellAt Wc Q (.func (.func G) #[] caps) := by rw [hWc, hQ]; exact cellAt_new Wb _ _
  have hbc : Below w.heap.size w Wc := below_at (below_at hBa hbA) hbB
  have hpc := hp.below hbc
  have hIc := hat.below hI hbc
  have hPQ : P ≠ Q := by omega
  have hwP : w.heap.size < P := by omega
  have hPl : P < Wc.heap.size := by omega
  have hQl : Q < Wc.heap.size := by omega
  have HXE := Lib.hid (fun (u : World) (hu : Below Wc.heap.size Wc u) => hXe u (below_at (below_at hbA hbB) hu))
  obtain ⟨x0, x1, x2, xl⟩ := hXe Wc (below_at hbA hbB)
  have e1 : w.heap.size + 1 = P := by omega
  have e2 : w.heap.size + 1 + 1 = Q := by omega
  have HE1 := Lib.hid e1
  have HE2 := Lib.hid e2
  have HWC := Lib.hid (And.intro hWa (And.intro hWb (And.intro hWc hX)))
  have HPK := Lib.hid (And.intro hPk hQk)
  have HBC := Lib.hid hbc
  have HP := Lib.hid (And.intro hPQ (And.intro hwP (And.intro hPl (And.intro hQl (show w.heap.size < Q by omega)))))
  have HF := Lib.hid hF
  have HAT := Lib.hid hat
  have HI := Lib.hid hIc
  by_cases hm : Pr.may p f
  · obtain ⟨m, rfl⟩ : ∃ m : Nat, f = m := ⟨f.toNat, by have := hm.2.1; omega⟩
    have hm8 : m ≤ 8 := by have := hm.2.2; omega
    have hnew := new_ok Wc p A cap m hpc.1 hm.1 hm8
    have hwf := Pr.start_wf hm.1 hm8
    have hfu := Pr.fuels_start hm.1 hm8
    obtain ⟨s0, hs0⟩ : ∃ s0, s0 = Pr.start p m := ⟨_, rfl⟩
    obtain ⟨⟨c, a⟩, hz⟩ : ∃ z, z = Pr.over at_ most 32 (Pr.start p m) [] (0, x) := ⟨_, rfl⟩
    have hcb := Pr.over_bound at_ most 32 (Pr.start p m) [] (0, x) hwf
    rw [← hz] at hcb
    have hc9 : c ≤ 200000 := by simp only at hcb; omega
    have hout : OverOut w F I at_ p m most x = fun e w' => e = .returned (.tuple #[.int .i64 (if most < c then 0 else (c : Int)), .int .i64 (if most < c then 5 else 0)]) ∧ I a w' ∧ Mod F w w' := by
      funext e w'
      unfold OverOut
      rw [if_pos hm, Int.toNat_natCast, ← hz]
    rw [hout]
    rw [← hs0] at hnew hwf hfu hz
    unfold valP at hnew ⊢
    have HNEW := Lib.hid hnew
    have HWF := Lib.hid (And.intro hwf hfu)
    have HZ := Lib.hid hz
    clear hp hF hI hat hWa hX hBa hXl hXe hWb hWc hbA hbB hP hQ hsA hsB hsC hPk hQk hbc hpc hIc hPQ hwP hPl hQl e1 e2 hnew hwf hfu hz hs0 hcb hout hm hm8
    go_enter Tryz.func98, Tryz.ntmps98
    go_upto_region 1 with fail
    rw [← HWC.out.1, ← HWC.out.2.1, ← HWC.out.2.2.1, HE2.out, HE1.out, ← HWC.out.2.2.2]
    clear HWC
    go_wp2_with fail
    refine HNEW.out.mono ?_
    rintro y w1 ⟨S, T, C0, rfl, hsat, hS, hT, hC, b1⟩
    obtain ⟨N, hN⟩ : ∃ z, z = w1.heap.size := ⟨_, rfl⟩
    obtain ⟨Wn, hWn⟩ : ∃ z, z = w1.alloc (Obj.cells #[.int .i64 0] 3) := ⟨_, rfl⟩
    obtain ⟨W2, hW2⟩ : ∃ z, z = Wn.alloc (Obj.cells #[.func (.func 159) #[] #[.pointer (some ⟨N, 0, none⟩), .pointer (some ⟨P, 0, none⟩), .pointer (some ⟨Q, 0, none⟩), .pointer (some ⟨N + 1, 0, none⟩)]] 174) := ⟨_, rfl⟩
    have hbn : Below w1.heap.size w1 Wn := by rw [hWn]; exact (Below.refl _ _).alloc (Nat.le_refl _) _
    have hbm : Below Wn.heap.size Wn W2 := by rw [hW2]; exact (Below.refl _ _).alloc (Nat.le_refl _) _
    have hsn : Wn.heap.size = N + 1 := by rw [hWn, World.size_alloc, hN]
    have hs2 : W2.heap.size = N + 1 + 1 := by rw [hW2, World.size_alloc, hsn]
    have hb2 : Below w1.heap.size w1 W2 := below_at hbn hbm
    have hNk : CellAt W2 N (.int .i64 ((0 : Nat) : Int)) := by
      have : CellAt Wn N (.int .i64 ((0 : Nat) : Int)) := by rw [hWn, hN]; exact cellAt_new w1 _ _
      exact this.below hbm
    have hRk : CellAt W2 (N + 1) (.func (.func 159) #[] #[.pointer (some ⟨N, 0, none⟩), .pointer (some ⟨P, 0, none⟩), .pointer (some ⟨Q, 0, none⟩), .pointer (some ⟨N + 1, 0, none⟩)]) := by rw [hW2, ← hsn]; exact cellAt_new Wn _ _
    have hcb := HP.out
    have hw1 := b1.size
    have hww := HBC.out.size
    have hlt := hsat.lt
    have hFw := HF.out
    have hov : Ov W2 N P Q (N + 1) 0 most G caps := ⟨hNk, (HPK.out.1.below b1).below hb2, (HPK.out.2.below b1).below hb2, hRk, by omega, by omega, by omega⟩
    have hsat2 := hsat.bound.below hb2
    have hap : ∀ k, (k = N ∨ F k) → k ≠ S ∧ k ≠ T ∧ ¬ (C0 k ∧ k < w1.heap.size) ∧ (∀ b, (none : Option Addr) = some b → b.block ≠ k) ∧ k < W2.heap.size := fun k hk => by
      rcases hk with h | h
      · subst h
        exact ⟨by omega, by omega, fun hc => by have := hc.2; omega, fun b hb => (by cases hb), by omega⟩
      · have h1 := hFw _ h
        exact ⟨by omega, by omega, fun hc => by have := hC _ hc.1; omega, fun b hb => (by cases hb), by omega⟩
    have hcall := over1_any (N := N) (P := P) (Q := Q) (R := N + 1) (most := most) HAT.out (fun h => by have := hFw _ h; omega) (fun h => by have := hFw _ h; omega) (fun h => by have := hFw _ h; omega) (fun h => by have := hFw _ h; omega) hmost 32 s0 HWF.out.1 HWF.out.2 (Nat.le_refl _) W2 _ S T [] none 0 0 x hsat2 (fun k hk => Nat.lt_of_lt_of_le hk.2 (by omega)) (Row.nil W2 51 4) (by simp)
      hap
      hov (HAT.out.below (HAT.out.below HI.out b1) hb2) (by omega)
    rw [← HZ.out] at hcall
    simp only at hcall
    have HCALL := Lib.hid hcall
    have HB2 := Lib.hid (below_at HBC.out (below_at b1 hb2))
    have HRK := Lib.hid hRk
    have HNW := Lib.hid (show w.heap.size ≤ N by omega)
    have HN := Lib.hid hN
    have HW2 := Lib.hid (And.intro hWn hW2)
    have hR0 := hRk.cell
    clear hsat hS hT hC b1 HNEW x0 x1 x2 xl hN hWn hW2 hbn hbm hsn hs2 hb2 hNk hRk hcb hw1 hww hlt hFw hov hsat2 hcall
    go_upto_region 7 with fail
    rw [← HN.out, ← HW2.out.1, ← HW2.out.2]
    obtain ⟨r0, rl, _⟩ := hR0
    go_wp2_with fail
    refine HCALL.out.mono ?_
    rintro y w3 ⟨rfl, ho3, hi3, hm3⟩
    obtain ⟨n0, nl, _⟩ := ho3.n.cell
    obtain ⟨p0, pl, _⟩ := ho3.p.cell
    have HI3 := Lib.hid hi3
    have HM3 := Lib.hid (show Mod F w w3 from (Mod.of_below_size HB2.out F).then hm3 (fun k hk e => by rcases e with h | h; (have := HNW.out; omega); exact h))
    clear ho3 hi3 hm3 HCALL r0 rl
    by_cases hfull : most < c
    · have d1 : decide ((most : Int) < (c : Int)) = true := decide_eq_true (by omega)
      have d2 : (most : Int) < (c : Int) := by omega
      go_wp2_with fail
      refine bodyPost_ret (v := .tuple #[.int .i64 0, .int .i64 5]) (by simp [results, Tryz.results98, go_sem]) rfl ?_
      exact ⟨by simp [hfull], HI3.out, HM3.out⟩
    · have d1 : decide ((most : Int) < (c : Int)) = false := decide_eq_false (by omega)
      have d2 : ¬ (most : Int) < (c : Int) := by omega
      go_wp2_with fail
      refine bodyPost_ret (v := .tuple #[.int .i64 (c : Int), .int .i64 0]) (by simp [results, Tryz.results98, go_sem]) rfl ?_
      exact ⟨by simp [hfull], HI3.out, HM3.out⟩
  · have hnew := new_bad Wc p A cap f hpc.1 hpc.2.1 hpc.2.2 hm
    have hout : OverOut w F I at_ p f most x = fun e w' => e = .returned (.tuple #[.int .i64 0, .int .i64 1]) ∧ Below w.heap.size w w' := by
      funext e w'
      unfold OverOut
      rw [if_neg hm]
    rw [hout]
    unfold valP at hnew ⊢
    have HNEW := Lib.hid hnew
    clear hp hF hI hat hWa hX hBa hXl hXe hWb hWc hbA hbB hP hQ hsA hsB hsC hPk hQk hbc hpc hIc hPQ hwP hPl hQl e1 e2 hnew hout hm
    go_enter Tryz.func98, Tryz.ntmps98
    go_upto_region 1 with fail
    rw [← HWC.out.1, ← HWC.out.2.1, ← HWC.out.2.2.1, HE2.out, HE1.out, ← HWC.out.2.2.2]
    clear HWC
    go_wp2_with fail
    refine HNEW.out.mono ?_
    rintro y w1 ⟨rfl, b1⟩
    have HB1 := Lib.hid (below_at HBC.out b1)
    clear b1
    go_wp2_with fail
    refine bodyPost_ret (v := .tuple #[.int .i64 0, .int .i64 1]) (by simp [results, Tryz.results98, go_sem]) rfl ?_
    exact ⟨rfl, HB1.out⟩
end Go.Proofs.YtckdofjpoajblaaGreat
namespace Go.Proofs.YtckdofjpoajblaaGreat
open Go.RowKit
set_option linter.unusedVariables false
namespace Pr
theorem over_inv {α : Type} {at_ : St → List Ev → α → α} {J : α → Prop} (hJ : ∀ s row a, J a → J (at_ s row a)) (most : Nat) : ∀ n s row x, J x.2 → J (over at_ most n s row x).2 := by
  intro n
  induction n with
  | zero =>
    intro s row x h
    simp only [over]
    split
    · exact h
    · exact hJ _ _ _ h
  | succ n ih =>
    intro s row x h
    simp only [over]
    split
    · exact h
    · have go : ∀ (l : List Nat) (y : Nat × α), J y.2 → J (l.foldl (fun y t => over at_ most n (stepS s t) (row ++ [evAt s t]) y) y).2 := by
        intro l
        induction l with
        | nil => intro y hy; exact hy
        | cons t l ih2 => intro y hy; exact ih2 _ (ih _ _ _ hy)
      refine go _ _ ?_
      split
      · exact hJ _ _ _ h
      · exact h
end Pr
theorem Rd.str_not3 {w : World} {A : Option Addr} {ks : List Ky.K} {Z : Nat} {sa : Option Addr} {sb sc : Nat} {x y : Int} {T : TypeId} (h : Rd w 1 A ks.length (ks.map sv)) (hZ : w.heap[Z]? = some (.cells #[.slice sa sb sc, .int .i64 x, .int .i64 y] T (0, 0))) {g o : Nat} (hA : A = some ⟨g, o, none⟩) (hn : 0 < ks.length) : g ≠ Z := by
  obtain ⟨g', o', hA', hg, hc⟩ := h.2 (by omega)
  rw [hA] at hA'
  injection hA' with e
  injection e with e1 e2
  subst e1 e2
  intro e
  subst e
  have h0 := hc 0 (by omega)
  rw [cell_blk hZ, List.getElem?_map, List.getElem?_eq_getElem hn] at h0
  rcases (show o + 0 = 0 ∨ o + 0 = 1 ∨ o + 0 = 2 ∨ 3 ≤ o + 0 by omega) with e | e | e | e
  · rw [e] at h0; simp [sv] at h0
  · rw [e] at h0; simp [sv] at h0
  · rw [e] at h0; simp [sv] at h0
  · rw [Array.getElem?_eq_none (by simpa using e)] at h0; simp [sv] at h0
def WAllOut (w : World) (r : (Nat × Pr.Sm) × Int) (x : Ending) (w' : World) : Prop :=
  ∃ A cap, x = .returned (.tuple #[.agg #[.slice A r.1.2.keys.length cap, .int .i64 r.1.2.runs, .int .i64 r.1.1], .int .i64 r.2]) ∧ Rd w' 1 A r.1.2.keys.length (r.1.2.keys.map sv) ∧ r.1.2.keys.length ≤ cap ∧ cap ≤ maxLen ∧ Below w.heap.size w w'
set_option maxRecDepth 100000 in
set_option maxHeartbeats 4000000 in
theorem walkAll_any (w : World) (p : Pg) (A : Option Addr) (cap : Nat) (f : Int) (most : Nat) (hp : PgIn w p A) (hmost : most ≤ 100000) :
    Calls Tryz.prog 59 #[valP p A cap, .int .i64 f, .int .i64 (most : Int)] w (WAllOut w (Pr.all6 p f most)) := by
  have hmk := @run_makeMap Tryz.prog
  obtain ⟨X, hX⟩ : ∃ z, z = w.heap.size := ⟨_, rfl⟩
  obtain ⟨W1, hW1⟩ : ∃ z, z = w.alloc (Obj.cells #[.int .i64 p.vars, .int .i64 p.mtx, .slice A p.code.length cap] 24) := ⟨_, rfl⟩
  obtain ⟨W2, hW2⟩ : ∃ z, z = W1.alloc (Obj.cells #[.slice none 0 0, .int .i64 0, .int .i64 0] 110) := ⟨_, rfl⟩
  obtain ⟨W3, hW3⟩ : ∃ z, z = W2.alloc (Obj.map #[] 0) := ⟨_, rfl⟩
  obtain ⟨W4, hW4⟩ : ∃ z, z = W3.alloc (Obj.cells #[.map (some (X + 1 + 1))] 140) := ⟨_, rfl⟩
  obtain ⟨W5, hW5⟩ : ∃ z, z = W4.alloc (Obj.cells #[.int .i64 0] 3) := ⟨_, rfl⟩
  have s1 : W1.heap.size = X + 1 := by rw [hW1, World.size_alloc, hX]
  have s2 : W2.heap.size = X + 1 + 1 := by rw [hW2, World.size_alloc, s1]
  have s3 : W3.heap.size = X + 1 + 1 + 1 := by rw [hW3, World.size_alloc, s2]
  have s4 : W4.heap.size = X + 1 + 1 + 1 + 1 := by rw [hW4, World.size_alloc, s3]
  have s5 : W5.heap.size = X + 1 + 1 + 1 + 1 + 1 := by rw [hW5, World.size_alloc, s4]
  have b1 : Below w.heap.size w W1 := by rw [hW1]; exact (Below.refl _ _).alloc (Nat.le_refl _) _
  have b2 : Below W1.heap.size W1 W2 := by rw [hW2]; exact (Below.refl _ _).alloc (Nat.le_refl _) _
  have b3 : Below W2.heap.size W2 W3 := by rw [hW3]; exact (Below.refl _ _).alloc (Nat.le_refl _) _
  have b4 : Below W3.heap.size W3 W4 := by rw [hW4]; exact (Below.refl _ _).alloc (Nat.le_refl _) _
  have b5 : Below W4.heap.size W4 W5 := by rw [hW5]; exact (Below.refl _ _).alloc (Nat.le_refl _) _
  have b25 : Below W2.heap.size W2 W5 := below_at (below_at b3 b4) b5
  have b15 : Below W1.heap.size W1 W5 := below_at b2 b25
  have b05 : Below w.heap.size w W5 := below_at b1 b15
  have hXk : W1.heap[X]? = some (.cells #[.int .i64 p.vars, .int .i64 p.mtx, .slice A p.code.length cap] 24 (0, 0)) := by rw [hW1, hX]; exact heap_alloc_new w _
  have hXk5 := blk_stepW hXk b15
  have hZk : W2.heap[X + 1]? = some (.cells #[.slice none 0 0, .int .i64 0, .int .i64 0] 110 (0, 0)) := by rw [hW2, ← s1]; exact heap_alloc_new W1 _
  have hZk5 := blk_stepW hZk b25
  have hBk : MapAt Tryz.keyS W5 (X + 1 + 1) [] := by
    have : MapAt Tryz.keyS W3 (X + 1 + 1) [] := by rw [hW3, ← s2]; exact MapAt.made Tryz.keyS W2 0
    exact this.move ((below_at b4 b5).block _ this.lt)
  have hMk : CellAt W5 (X + 1 + 1 + 1) (.map (some (X + 1 + 1))) := by
    have : CellAt W4 (X + 1 + 1 + 1) (.map (some (X + 1 + 1))) := by rw [hW4, ← s3]; exact cellAt_new W3 _ _
    exact this.below b5
  have hRk : CellAt W5 (X + 1 + 1 + 1 + 1) (.int .i64 0) := by rw [hW5, ← s4]; exact cellAt_new W4 _ _
  have hI : IAll (X + 1 + 1 + 1 + 1) (X + 1 + 1 + 1) (X + 1 + 1) Pr.sm0 W5 := by
    have e : wrap64 ((Pr.sm0.runs : Nat) : Int) = 0 := IntWalk.wrap64_in _ (by simp [Pr.sm0])
    refine ⟨by rw [e]; exact hRk, hMk, [], hBk, fun k => by simp [Pr.sm0], fun p hp => (by cases hp), Nat.le_refl _⟩
  have hcall := over_any (all_at (X + 1 + 1 + 1 + 1) (X + 1 + 1 + 1) (X + 1 + 1) (by omega) (by omega) (by omega)) W5 p A cap f most Pr.sm0 (hp.below b05) hmost (fun k hk => by rcases hk with h | h | h <;> omega) hI
  have x0 : W5.cell? ⟨X, 0, none⟩ = some (.int .i64 p.vars) := cell_blk hXk5 0
  have x1 : W5.cell? ⟨X, 1, none⟩ = some (.int .i64 p.mtx) := cell_blk hXk5 1
  have x2 : W5.cell? ⟨X, 2, none⟩ = some (.slice A p.code.length cap) := cell_blk hXk5 2
  have xl : X < W5.heap.size := blk_lt hXk5
  have HB := Lib.hid b05
  have HW := Lib.hid (And.intro hX (And.intro hW1 (And.intro hW2 (And.intro hW3 (And.intro hW4 hW5)))))
  have HZK := Lib.hid hZk5
  have HXW := Lib.hid (Nat.le_of_eq hX.symm)
  have HS5 := Lib.hid s5
  by_cases hm : Pr.may p f
  · obtain ⟨⟨c, a⟩, hz⟩ : ∃ z, z = Pr.over Pr.at6 most 32 (Pr.start p f.toNat) [] (0, Pr.sm0) := ⟨_, rfl⟩
    have hgd := Pr.over_good most 32 (Pr.start p f.toNat) [] (0, Pr.sm0) ⟨Nat.le_refl _, Nat.le_refl _, Nat.le_refl _⟩
    have hcb := Pr.over_bound Pr.at6 most 32 (Pr.start p f.toNat) [] (0, Pr.sm0) (Pr.start_wf hm.1 (by have := hm.2.1; have := hm.2.2; omega))
    have hstr := Pr.over_inv (at_ := Pr.at6) (J := fun a => Ky.Strict a.keys) (fun s row a h => Ky.insG_strict h _) most 32 (Pr.start p f.toNat) [] (0, Pr.sm0) List.Pairwise.nil
    rw [← hz] at hgd hcb hstr
    simp only at hstr
    have hgd1 := hgd.1
    have hgd2 := hgd.2.1
    simp only at hgd1 hgd2 hcb
    have hst : a.runs ≤ 200000 := by omega
    have hkl : a.keys.length ≤ 200000 := by omega
    have hres : Pr.all6 p f most = if most < c then ((0, Pr.sm0), 5) else ((c, a), 0) := by unfold Pr.all6; rw [if_pos hm, ← hz]
    unfold OverOut at hcall
    simp only [if_pos hm, ← hz] at hcall
    unfold valP at hcall ⊢
    have HSTR := Lib.hid hstr
    by_cases hfull : most < c
    · rw [hres, if_pos hfull]
      simp only [if_pos hfull] at hcall
      have HCALL := Lib.hid hcall
      clear hp hX hW1 hW2 hW3 hW4 hW5 s1 s2 s3 s4 s5 b1 b2 b3 b4 b5 b25 b15 b05 hXk hXk5 hZk hZk5 hBk hMk hRk hI hcall hm hz hgd hcb hstr hgd1 hgd2 hres hfull
      go_enter Tryz.func59, Tryz.ntmps59
      go_upto_region 3 with fail
      rw [← HW.out.1, ← HW.out.2.1, ← HW.out.2.2.1, ← HW.out.2.2.2.1, ← HW.out.2.2.2.2.1, ← HW.out.2.2.2.2.2]
      clear HW
      go_wp2_with fail
      refine HCALL.out.mono ?_
      rintro y w3 ⟨rfl, hi3, hm3⟩
      have hZ3 := (hm3.block (X + 1) (blk_lt HZK.out) (fun h => by rcases h with h | h | h <;> omega)).trans HZK.out
      have HM := Lib.hid (HB.out.trans (hm3.below _ HB.out.size (fun k hk e => by have := HXW.out; rcases e with h | h | h <;> omega)))
      obtain ⟨V2, hV2, d0, d1, d2, hmv⟩ := pg_exit hZ3 (.slice none 0 0) (.int .i64 0) (.int .i64 0)
      have z0 : w3.cell? ⟨X + 1, 0, none⟩ = some (.slice none 0 0) := cell_blk hZ3 0
      have z1 : w3.cell? ⟨X + 1, 1, none⟩ = some (.int .i64 0) := cell_blk hZ3 1
      have z2 : w3.cell? ⟨X + 1, 2, none⟩ = some (.int .i64 0) := cell_blk hZ3 2
      have zl := blk_lt hZ3
      have g0 := free_blk hZ3 0
      have g1 := free_blk hZ3 1
      have g2 := free_blk hZ3 2
      have HV2 := Lib.hid hV2
      have HMV := Lib.hid hmv
      clear hi3 hm3 hV2 hmv hZ3 x0 x1 x2 xl
      go_wp2_with fail
      rw [← HV2.out]
      refine bodyPost_ret (v := .tuple #[.agg #[.slice none 0 0, .int .i64 0, .int .i64 0], .int .i64 5]) (by simp [results, Tryz.results59, go_sem, d0, d1, d2]) rfl ?_
      exact ⟨none, 0, rfl, (Row.nil V2 9 1).rd, Nat.le_refl _, Nat.zero_le _, HM.out.trans (HMV.out.below _ HM.out.size (fun k hk e => by have := HXW.out; omega))⟩
    · rw [hres, if_neg hfull]
      simp only [if_neg hfull] at hcall
      have HCALL := Lib.hid hcall
      clear hp hX hW1 hW2 hW3 hW4 hW5 s1 s2 s3 s4 s5 b1 b2 b3 b4 b5 b25 b15 b05 hXk hXk5 hZk hZk5 hBk hMk hRk hI hcall hm hz hgd hcb hstr hgd1 hgd2 hres hfull
      go_enter Tryz.func59, Tryz.ntmps59
      go_upto_region 3 with fail
      rw [← HW.out.1, ← HW.out.2.1, ← HW.out.2.2.1, ← HW.out.2.2.2.1, ← HW.out.2.2.2.2.1, ← HW.out.2.2.2.2.2]
      clear HW
      go_wp2_with fail
      refine HCALL.out.mono ?_
      rintro y w3 ⟨rfl, hi3, hm3⟩
      have hZ3 := (hm3.block (X + 1) (blk_lt HZK.out) (fun h => by rcases h with h | h | h <;> omega)).trans HZK.out
      have HM := Lib.hid (HB.out.trans (hm3.below _ HB.out.size (fun k hk e => by have := HXW.out; rcases e with h | h | h <;> omega)))
      obtain ⟨hi1, hi2, mm, hmp, hmk1, hmk2, hmk3⟩ := hi3
      rw [IntWalk.wrap64_in _ (by omega)] at hi1
      have HI1 := Lib.hid hi1
      have HI2 := Lib.hid hi2
      have HMP := Lib.hid (And.intro hmp (And.intro hmk1 (And.intro hmk2 hmk3)))
      have HZ3 := Lib.hid hZ3
      clear hm3 hi1 hi2 hmp hmk1 hmk2 hmk3 hZ3 x0 x1 x2 xl
      go_upto_region 6 with fail
      refine wp_region_planF (by kernel_rfl) (fun u => Below w3.heap.size w3 u) [6] [(0, .load), (3, .load), (4, .pure), (1, .eff), (2, .eff), (5, .pure), (6, .last), (7, .pure)] (by simp only [List.map_cons, List.map_nil, List.getElem?_toArray, List.getElem?_cons_succ, List.getElem?_cons_zero]; rfl) (by kernel_rfl) (fun _ _ d _ _ h => by cases d <;> exact h) ((Below.refl _ _).drew) ?_
      obtain ⟨v1, hv1⟩ : ∃ z, z = w3.drew := ⟨_, rfl⟩
      rw [← hv1]
      have hbv : Below w3.heap.size w3 v1 := by rw [hv1]; exact (Below.refl _ _).drew
      have HBV := Lib.hid hbv
      clear hv1 hbv
      repeat (first
        | (refine plan_pure (v := ?_) (by rfl) (fun w1 => ?_) ?_
           rotate_left
           · go_simp <;> with_reducible rfl
           simp only [Act.put, List.setIfInBounds_toArray, List.set_cons_zero, List.set_cons_succ])
        | (refine plan_off (by rfl) ?_
           simp only [Act.put, List.setIfInBounds_toArray, List.set_cons_zero, List.set_cons_succ])
        | (refine plan_load_off (by rfl) ?_
           simp only [Act.put, List.setIfInBounds_toArray, List.set_cons_zero, List.set_cons_succ])
        | (refine plan_load (v := ?_) (by rfl) (fun w1 hw1 => ?_) ?_
           rotate_left
           · (have q1 := (HI1.out.below hw1).cell
              obtain ⟨q1, q2, _⟩ := q1
              have q3 := (HI2.out.below hw1).cell
              obtain ⟨q3, q4, _⟩ := q3
              clear hw1
              go_simp <;> with_reducible rfl)
           simp only [Act.put, List.setIfInBounds_toArray, List.set_cons_zero, List.set_cons_succ]))
      refine plan_eff ?_
      go_wp2_with fail
      refine (mapKeys_any (some (X + 1 + 1)) v1).mono ?_
      rintro y v2 ⟨rfl, hv2⟩
      have hmp1 : MapAt Tryz.keyS v1 (X + 1 + 1) mm := HMP.out.1.move (HBV.out.block _ HMP.out.1.lt)
      have hsort := sortedMap_any v1 (X + 1 + 1) mm hmp1 (by have := HMP.out.2.2.2; omega) (fun p hp => Nat.le_trans (HMP.out.2.2.1 p hp) (by unfold maxLen; omega)) a.keys HMP.out.2.1
      rw [Ky.gather_again HSTR.out, ← hv2] at hsort
      have HSORT := Lib.hid hsort
      have HB2 := Lib.hid (show Below w3.heap.size w3 v2 by rw [hv2]; exact HBV.out.alloc HBV.out.size _)
      clear hmp1 hsort hv2
      go_wp2_with fail
      refine plan_on (fun _ h => h) HB2.out ?_
      repeat (first
        | (refine plan_pure (v := ?_) (by rfl) (fun w1 => ?_) ?_
           rotate_left
           · go_simp <;> with_reducible rfl
           simp only [Act.put, List.setIfInBounds_toArray, List.set_cons_zero, List.set_cons_succ])
        | (refine plan_off (by rfl) ?_
           simp only [Act.put, List.setIfInBounds_toArray, List.set_cons_zero, List.set_cons_succ])
        | (refine plan_load_off (by rfl) ?_
           simp only [Act.put, List.setIfInBounds_toArray, List.set_cons_zero, List.set_cons_succ])
        | (refine plan_load (v := ?_) (by rfl) (fun w1 hw1 => ?_) ?_
           rotate_left
           · (skip
              clear hw1
              go_simp <;> with_reducible rfl)
           simp only [Act.put, List.setIfInBounds_toArray, List.set_cons_zero, List.set_cons_succ]))
      refine plan_eff ?_
      go_wp2_with fail
      refine HSORT.out.mono ?_
      rintro y v3 ⟨A3, c3, rfl, ⟨r3, l3, u3⟩, b3⟩
      have HB3 := Lib.hid (below_at HB2.out b3)
      have HR3 := Lib.hid (And.intro r3 (And.intro l3 u3))
      clear r3 l3 u3 b3 HSORT
      go_wp2_with fail
      refine plan_on (fun _ h => h) HB3.out ?_
      repeat (first
        | (refine plan_pure (v := ?_) (by rfl) (fun w1 => ?_) ?_
           rotate_left
           · go_simp <;> with_reducible rfl
           simp only [Act.put, List.setIfInBounds_toArray, List.set_cons_zero, List.set_cons_succ])
        | (refine plan_off (by rfl) ?_
           simp only [Act.put, List.setIfInBounds_toArray, List.set_cons_zero, List.set_cons_succ])
        | (refine plan_load_off (by rfl) ?_
           simp only [Act.put, List.setIfInBounds_toArray, List.set_cons_zero, List.set_cons_succ])
        | (refine plan_load (v := ?_) (by rfl) (fun w1 hw1 => ?_) ?_
           rotate_left
           · (skip
              clear hw1
              go_simp <;> with_reducible rfl)
           simp only [Act.put, List.setIfInBounds_toArray, List.set_cons_zero, List.set_cons_succ]))
      have hZ9 := blk_stepW HZ3.out HB3.out
      obtain ⟨V2, hV2, d0, d1, d2, hmv⟩ := pg_exit hZ9 (.slice A3 a.keys.length c3) (.int .i64 a.runs) (.int .i64 c)
      have z0 : v3.cell? ⟨X + 1, 0, none⟩ = some (.slice none 0 0) := cell_blk hZ9 0
      have z1 : v3.cell? ⟨X + 1, 1, none⟩ = some (.int .i64 0) := cell_blk hZ9 1
      have z2 : v3.cell? ⟨X + 1, 2, none⟩ = some (.int .i64 0) := cell_blk hZ9 2
      have zl := blk_lt hZ9
      have g0 := free_blk hZ9 0
      have g1 := free_blk hZ9 1
      have g2 := free_blk hZ9 2
      have HV2 := Lib.hid hV2
      have HMV := Lib.hid hmv
      have HZ9 := Lib.hid hZ9
      clear hV2 hmv hZ9
      refine plan_last ?_
      go_wp2_with fail
      repeat (first
        | (refine plan_pure (v := ?_) (by rfl) (fun w1 => ?_) ?_
           rotate_left
           · go_simp <;> with_reducible rfl
           simp only [Act.put, List.setIfInBounds_toArray, List.set_cons_zero, List.set_cons_succ])
        | (refine plan_off (by rfl) ?_
           simp only [Act.put, List.setIfInBounds_toArray, List.set_cons_zero, List.set_cons_succ])
        | (refine plan_load_off (by rfl) ?_
           simp only [Act.put, List.setIfInBounds_toArray, List.set_cons_zero, List.set_cons_succ])
        | (refine plan_load (v := ?_) (by rfl) (fun w1 hw1 => ?_) ?_
           rotate_left
           · (skip
              clear hw1
              go_simp <;> with_reducible rfl)
           simp only [Act.put, List.setIfInBounds_toArray, List.set_cons_zero, List.set_cons_succ]))
      refine plan_end ?_
      rw [← HV2.out]
      go_wp2_with fail
      refine bodyPost_ret (v := .tuple #[.agg #[.slice A3 a.keys.length c3, .int .i64 a.runs, .int .i64 c], .int .i64 0]) (by simp [results, Tryz.results59, go_sem, d0, d1, d2]) rfl ?_
      refine ⟨A3, c3, rfl, ?_, HR3.out.2.1, HR3.out.2.2, (below_at HM.out HB3.out).trans (HMV.out.below _ (below_at HM.out HB3.out).size (fun k hk e => by have := HXW.out; omega))⟩
      refine ⟨HR3.out.1.1, fun hp => ?_⟩
      obtain ⟨g, o, hA, hgl, hcc⟩ := HR3.out.1.2 hp
      have hne : g ≠ X + 1 := HR3.out.1.str_not3 HZ9.out hA (by simp only at hp; omega)
      exact ⟨g, o, hA, Nat.lt_of_lt_of_le hgl HMV.out.size, fun j hj => (HMV.out.cell g (o + j) hgl hne).trans (hcc j hj)⟩
  · have hres : Pr.all6 p f most = ((0, Pr.sm0), 1) := by unfold Pr.all6; rw [if_neg hm]
    unfold OverOut at hcall
    simp only [if_neg hm] at hcall
    unfold valP at hcall ⊢
    rw [hres]
    have HCALL := Lib.hid hcall
    clear hp hX hW1 hW2 hW3 hW4 hW5 s1 s2 s3 s4 s5 b1 b2 b3 b4 b5 b25 b15 b05 hXk hXk5 hZk hZk5 hBk hMk hRk hI hcall hm hres
    go_enter Tryz.func59, Tryz.ntmps59
    go_upto_region 3 with fail
    rw [← HW.out.1, ← HW.out.2.1, ← HW.out.2.2.1, ← HW.out.2.2.2.1, ← HW.out.2.2.2.2.1, ← HW.out.2.2.2.2.2]
    clear HW
    go_wp2_with fail
    refine HCALL.out.mono ?_
    rintro y w3 ⟨rfl, b3⟩
    have hZ3 := blk_stepW HZK.out b3
    have HM := Lib.hid (below_at HB.out b3)
    obtain ⟨V2, hV2, d0, d1, d2, hmv⟩ := pg_exit hZ3 (.slice none 0 0) (.int .i64 0) (.int .i64 0)
    have z0 : w3.cell? ⟨X + 1, 0, none⟩ = some (.slice none 0 0) := cell_blk hZ3 0
    have z1 : w3.cell? ⟨X + 1, 1, none⟩ = some (.int .i64 0) := cell_blk hZ3 1
    have z2 : w3.cell? ⟨X + 1, 2, none⟩ = some (.int .i64 0) := cell_blk hZ3 2
    have zl := blk_lt hZ3
    have g0 := free_blk hZ3 0
    have g1 := free_blk hZ3 1
    have g2 := free_blk hZ3 2
    have HV2 := Lib.hid hV2
    have HMV := Lib.hid hmv
    clear b3 hV2 hmv hZ3 x0 x1 x2 xl
    go_wp2_with fail
    rw [← HV2.out]
    refine bodyPost_ret (v := .tuple #[.agg #[.slice none 0 0, .int .i64 0, .int .i64 0], .int .i64 1]) (by simp [results, Tryz.results59, go_sem, d0, d1, d2]) rfl ?_
    exact ⟨none, 0, rfl, (Row.nil V2 9 1).rd, Nat.le_refl _, Nat.zero_le _, HM.out.trans (HMV.out.below _ HM.out.size (fun k hk e => by have := HXW.out; omega))⟩
end Go.Proofs.YtckdofjpoajblaaGreat
