/- Part 12 of the proof of seqExact_holds: what it rests on. -/
import Derived.Test.YtckdofjpoajblaaGreatZa11
namespace Go.Proofs.YtckdofjpoajblaaGreat
open Go.RowKit Bs
set_option linter.unusedVariables false
namespace Pr
theorem run_step {od : List Nat} {bg k : Nat} {s0 : St} {x : Sx} {g : Gh} (I : Inv s0 x g) : runX od bg (k + 1) x = if Bs.left (g.sl x.ev) (bitsE (g.dn x.ev)) (g.td x.ev) = [] then runX od bg k (popX x) else if bg ≤ x.nodes then (x, false) else runX od bg k (intoX od { x with ch := x.ch + 1 } (ndOf s0 g x.ev) ((Bs.left (g.sl x.ev) (bitsE (g.dn x.ev)) (g.td x.ev)).getD (pickI od x.ch (Bs.left (g.sl x.ev) (bitsE (g.dn x.ev)) (g.td x.ev)).length) 0)) := by
  have hlast : x.path.getLast? = some (ndOf s0 g x.ev) := by rw [I.path]; exact pathOf_last _ _ _
  conv => lhs; unfold runX
  rw [hlast]
  rfl
theorem Inv.chX {s0 : St} {x : Sx} {g : Gh} (I : Inv s0 x g) (c : Nat) : Inv s0 { x with ch := c } g := ⟨I.tree, I.todo, I.out, I.path, I.on, I.nodes, I.keys, I.runs, I.blk, I.blkc⟩
end Pr
def RunAt (K : XK) (s0 : St) (R : Pr.Sx × Bool) (k : Nat) (y : Pr.Sx) : Prop := R = Pr.runX K.od K.bg k y ∧ (y.path = [] ∨ ∃ g, Pr.Inv s0 y g) ∧ y.nodes ≤ K.bg ∧ y.ch ≤ 2 * y.nodes ∧ 2 * (K.bg - y.nodes) + y.path.length ≤ k
set_option maxRecDepth 100000 in
set_option maxHeartbeats 8000000 in
theorem run_any {K : XK} {w : World} (hK : KOk K) {s0 : St} (hs : Pr.Wf s0) (hf : Pr.fuels s0 ≤ 32) {x : Pr.Sx} {k : Nat} {R : Pr.Sx × Bool} (h : XE K w x) (hr : RunAt K s0 R k x) :
    Calls Tryz.prog 73 #[.pointer (some ⟨K.X, 0, none⟩)] w fun y w' => y = .returned (.bool R.2) ∧ XE K w' R.1 := by
  have H0 := Lib.hid h
  have R0 := Lib.hid hr
  have HK := Lib.hid hK
  have HS := Lib.hid hs
  have HF := Lib.hid hf
  have hKb := hK.bg
  clear h hr hK hs hf
  go_enter Tryz.func73, Tryz.ntmps73
  go_wp2_with fail
  go_loopg [] k (fun gk wr => ∃ y, Hid (XE K wr y) ∧ Hid (RunAt K s0 R gk y))
  case atStart => exact ⟨x, H0, R0⟩
  case round =>
    clear H0 R0
    obtain ⟨y, HE, HR⟩ := hrel
    rename World => V
    obtain ⟨c, PA, pc, EA, ec, KA, kc, Q, hA⟩ := HE.out
    obtain ⟨hRR, hI, hnb, hch, hgk⟩ := HR.out
    clear HE HR
    by_cases hp : y.path = []
    · have hR2 : R = (y, true) := by rw [hRR, Pr.run_done hp]
      have hl0 : y.path.length = 0 := by rw [hp]; rfl
      have x0 : V.cell? ⟨K.X, 0, none⟩ = some (.slice PA 0 pc) := by have h0 := hA.look.1.1; rw [hl0] at h0; exact h0
      have xl := hA.look.2.2.1
      have HA := Lib.hid hA
      have HR2 := Lib.hid hR2
      clear hA hR2 hRR hI hnb hch hgk hp hl0
      go_wp2_with fail
      go_ret
      exact ⟨by rw [HR2.out]; rfl, by rw [HR2.out]; exact ⟨_, _, _, _, _, _, _, _, HA.out⟩⟩
    · obtain ⟨g, I⟩ : ∃ g, Pr.Inv s0 y g := by
        rcases hI with h | h
        · exact (hp h).elim
        · exact h
      obtain ⟨hok, hpl, hel⟩ := I.okx HS.out HF.out (by omega) hch
      obtain ⟨k1, rfl⟩ : ∃ k1, gk = k1 + 1 := ⟨gk - 1, by omega⟩
      have hst := hRR
      rw [Pr.run_step I] at hst
      have hlast : y.path[y.ev.length]? = some (Pr.ndOf s0 g y.ev) := by rw [I.path, Pr.pathOf_get (Nat.le_refl _), List.take_length]
      obtain ⟨q, hq, hnat, gp, op, hPA, hgp, hpc⟩ := hA.nodeAt hlast
      subst hPA
      obtain ⟨np, hnp⟩ : ∃ z, z = y.path.length := ⟨_, rfl⟩
      obtain ⟨m, hm⟩ : ∃ z, z = y.ev.length := ⟨_, rfl⟩
      have hpcc := hA.path.1.2.1
      have hpcm := hA.path.1.2.2.1
      have hecc := hA.ev.1.2.1
      have hecm := hA.ev.1.2.2.1
      have hlk : ∀ u, Below V.heap.size V u → (u.cell? ⟨K.X, 0, none⟩ = some (.slice (some ⟨gp, op, none⟩) np pc) ∧ u.cell? ⟨K.X, 1, none⟩ = some (.slice EA m ec) ∧ u.cell? ⟨K.X, 4, none⟩ = some (.int .i64 (K.bg : Int)) ∧ u.cell? ⟨K.X, 6, none⟩ = some (.int .i64 (y.nodes : Int)) ∧ u.cell? ⟨gp, op + m, none⟩ = some (.pointer (some ⟨q.N, 0, none⟩))) ∧ (K.X < u.heap.size ∧ gp < u.heap.size) ∧ ∀ j, u.frozen? ⟨K.X, j, none⟩ = false := fun u hu => by
        obtain ⟨⟨a0, a1, a4, _⟩, ⟨a6, _, _⟩, al, af⟩ := (hA.below hu).1.look
        exact ⟨⟨by rw [hnp]; exact a0, by rw [hm]; exact a1, a4, a6, by rw [hm]; exact (World.cell?_of_block (hu.block _ hgp)).trans hpc⟩, ⟨al, Nat.lt_of_lt_of_le hgp hu.size⟩, af⟩
      have hleft := fun u (hu : Below V.heap.size V u) => left_any u q.N 194 (.pointer (some ⟨q.S, 0, none⟩)) (g.sl y.ev) (Pr.bitsE (g.dn y.ev)) (g.td y.ev) ((hu.block _ hnat.1.lt).trans hnat.1.1)
      obtain ⟨L, hL⟩ : ∃ z, z = Bs.left (g.sl y.ev) (Pr.bitsE (g.dn y.ev)) (g.td y.ev) := ⟨_, rfl⟩
      rw [← hL] at hst
      simp only [← hL] at hleft
      have hnl : (natI L).length = L.length := List.length_map ..
      rw [hnl] at hleft
      obtain ⟨nl, hnle⟩ : ∃ z, z = L.length := ⟨_, rfl⟩
      rw [← hnle] at hleft hst
      rw [← hnp, ← hm] at hpl
      rw [← hnp] at hpcc hgk
      rw [← hm] at hecc hel
      have eW : IntKind.i64.wrap ((np : Int) - 1) = (m : Int) := by rw [IntWalk.i64_in _ (by omega)]; omega
      have kk1 : (0 : Int) < (np : Int) := by omega
      have kk2 : (m : Int) < (np : Int) := by omega
      have kk3 : (0 : Int) ≤ (m : Int) := Int.natCast_nonneg _
      have HA := Lib.hid hA
      have HI := Lib.hid I
      have HOK := Lib.hid hok
      have HST := Lib.hid hst
      have HLA := Lib.hid (And.intro hlast hq)
      have HLK := Lib.hid hlk
      have HLF := Lib.hid hleft
      have HL := Lib.hid (And.intro hL hnle)
      have HNP := Lib.hid (And.intro hnp hm)
      have HPLE := Lib.hid hpl
      clear hA I hok hst hlast hq hnat hgp hpc hlk hleft hL hnle hRR hI hp hnp hm hnl hpl
      obtain ⟨⟨x0, x1, x4, x6, xp⟩, ⟨xl, xg⟩, xf⟩ := HLK.out V (Below.refl _ _)
      obtain ⟨D, hD⟩ : ∃ z, z = V.drew := ⟨_, rfl⟩
      have HBD : Hid (Below V.heap.size V D) := Lib.hid (by rw [hD]; exact (Below.refl _ _).drew)
      go_upto_region 2 with fail
      refine wp_region_planF (by kernel_rfl) (fun u => Below V.heap.size V u) [] [(0, .pure), (1, .pure), (2, .pure), (3, .load), (4, .pure), (5, .pure), (6, .pure), (7, .load), (8, .pure), (9, .pure), (10, .pure), (11, .load), (12, .pure)] (by simp only [List.map_cons, List.map_nil, List.getElem?_toArray, List.getElem?_cons_succ, List.getElem?_cons_zero]; rfl) (by kernel_rfl) (fun _ _ d _ _ h => by cases d <;> exact h) ((Below.refl _ _).drew) ?_
      rw [← hD]
      clear hD x0 x1 x4 x6 xp xl xg xf
      repeat (first
        | (refine plan_pure (v := ?_) (by rfl) (fun w1 => ?_) ?_
           rotate_left
           · go_simp <;> with_reducible rfl
           simp only [Act.put, List.setIfInBounds_toArray, List.set_cons_zero, List.set_cons_succ])
        | (refine plan_off (by rfl) ?_
           simp only [Act.put, List.setIfInBounds_toArray, List.set_cons_zero, List.set_cons_succ])
        | (refine plan_load_off (by rfl) ?_
           simp only [Act.put, List.setIfInBounds_toArray, List.set_cons_zero, List.set_cons_succ])
        | (refine plan_load (v := ?_) (by rfl) (fun w1 hw1 => ?_) ?_
           rotate_left
           · (obtain ⟨⟨q0, q1, q4, q6, qp⟩, ⟨ql, qg⟩, qf⟩ := HLK.out w1 hw1
              clear hw1
              go_simp <;> with_reducible rfl)
           simp only [Act.put, List.setIfInBounds_toArray, List.set_cons_zero, List.set_cons_succ]))
      refine plan_end ?_
      go_wp2_with fail
      refine (HLF.out D HBD.out).mono ?_
      rintro z1 w2 ⟨LA, lc, rfl, ⟨hL2, hLf⟩, b2⟩
      rw [natI, List.length_map, all_valT, ← HL.out.2] at hL2
      have HB2 := Lib.hid (below_at HBD.out b2)
      have HLR := Lib.hid (And.intro hL2 (fun a (ha : LA = some a) => Nat.le_trans HBD.out.size (hLf a ha)))
      clear hL2 hLf b2 HLF HBD
      by_cases hl0 : nl = 0
      · -- nobody is left
        have hLn : L = [] := List.eq_nil_of_length_eq_zero (by rw [← HL.out.2]; exact hl0)
        have hst := HST.out
        rw [if_pos hLn] at hst
        have hrun : RunAt K s0 R k1 (Pr.popX y) := by
          refine ⟨hst, ?_, hnb, hch, ?_⟩
          · rcases Pr.pop_inv HS.out HI.out (by rw [← HL.out.1]; exact hLn) with h | h
            · exact .inl h.1
            · exact .inr ⟨g, h⟩
          · unfold Pr.popX
            simp only
            rw [List.length_dropLast, ← HNP.out.1]
            have := HPLE.out
            omega
        have HRUN := Lib.hid hrun
        subst hl0
        clear hLn hst hrun HST HLR
        go_upto_region 6 with fail
        obtain ⟨D6, hD6⟩ : ∃ z, z = w2.drew := ⟨_, rfl⟩
        have hb6 : Below V.heap.size V D6 := below_at HB2.out (by rw [hD6]; exact (Below.refl _ _).drew)
        have hA7 := (HA.out.below hb6).1.popP
        rw [← HNP.out.1, show np - 1 = m by have := HPLE.out; omega] at hA7
        obtain ⟨W7, hW7⟩ : ∃ z, z = D6.setCell ⟨K.X, 0, none⟩ (.slice (some ⟨gp, op, none⟩) m pc) := ⟨_, rfl⟩
        rw [← hW7] at hA7
        have HA7 := Lib.hid hA7
        have HB6 := Lib.hid hb6
        have kk4 : (m : Int) ≤ (pc : Int) := by have := HPLE.out; omega
        clear hA7 hb6
        refine wp_region_planF (by kernel_rfl) (fun u => Below w2.heap.size w2 u) [14] [(0, .pure), (1, .pure), (2, .pure), (3, .pure), (4, .load), (5, .pure), (6, .pure), (7, .pure), (8, .load), (9, .pure), (10, .pure), (11, .pure), (12, .pure), (13, .pure), (14, .last)] (by simp only [List.map_cons, List.map_nil, List.getElem?_toArray, List.getElem?_cons_succ, List.getElem?_cons_zero]; rfl) (by kernel_rfl) (fun _ _ d _ _ h => by cases d <;> exact h) ((Below.refl _ _).drew) ?_
        rw [← hD6]
        clear hD6
        repeat (first
          | (refine plan_pure (v := ?_) (by rfl) (fun w1 => ?_) ?_
             rotate_left
             · go_simp <;> with_reducible rfl
             simp only [Act.put, List.setIfInBounds_toArray, List.set_cons_zero, List.set_cons_succ])
          | (refine plan_off (by rfl) ?_
             simp only [Act.put, List.setIfInBounds_toArray, List.set_cons_zero, List.set_cons_succ])
          | (refine plan_load_off (by rfl) ?_
             simp only [Act.put, List.setIfInBounds_toArray, List.set_cons_zero, List.set_cons_succ])
          | (refine plan_load (v := ?_) (by rfl) (fun w1 hw1 => ?_) ?_
             rotate_left
             · (obtain ⟨⟨q0, q1, q4, q6, qp⟩, ⟨ql, qg⟩, qf⟩ := HLK.out w1 (below_at HB2.out hw1)
                clear hw1
                go_simp <;> with_reducible rfl)
             simp only [Act.put, List.setIfInBounds_toArray, List.set_cons_zero, List.set_cons_succ]))
        refine plan_last ?_
        obtain ⟨⟨q0, q1, q4, q6, qp⟩, ⟨ql, qg⟩, qf⟩ := HLK.out D6 HB6.out
        have qf0 := qf 0
        go_wp2_with fail
        refine plan_end ?_
        rw [← hW7]
        clear hW7 q0 q1 q4 q6 qp ql qg qf qf0
        go_upto_region 7 with fail
        obtain ⟨D8, hD8⟩ : ∃ z, z = W7.drew := ⟨_, rfl⟩
        have hb8 : Below W7.heap.size W7 D8 := by rw [hD8]; exact (Below.refl _ _).drew
        have hA8 := (HA7.out.below hb8).1
        have hlk8 : ∀ u, Below W7.heap.size W7 u → u.cell? ⟨K.X, 1, none⟩ = some (.slice EA m ec) ∧ K.X < u.heap.size ∧ ∀ j, u.frozen? ⟨K.X, j, none⟩ = false := fun u hu => by
          obtain ⟨⟨_, a1, _, _⟩, _, al, af⟩ := (HA7.out.below hu).1.look
          exact ⟨by rw [HNP.out.2]; exact a1, al, af⟩
        have hA9 := hA8.popE
        simp only at hA9
        rw [← HNP.out.2] at hA9
        have HA9 := Lib.hid hA9
        have HLK8 := Lib.hid hlk8
        have HB8 := Lib.hid hb8
        clear hb8 hA8 hlk8 hA9 HA7
        have eM : IntKind.i64.wrap ((m : Int) - 1) = (m : Int) - 1 := by rw [IntWalk.i64_in _ (by omega)]
        have eX : max ((m : Int) - 1) 0 = ((m - 1 : Nat) : Int) := by omega
        obtain ⟨m1, hm1⟩ : ∃ z, z = m - 1 := ⟨_, rfl⟩
        rw [← hm1] at eX HA9
        have kk5 : (0 : Int) ≤ (m1 : Int) := Int.natCast_nonneg _
        have kk6 : (m1 : Int) ≤ (ec : Int) := by omega
        clear hm1
        refine wp_region_planF (by kernel_rfl) (fun u => Below W7.heap.size W7 u) [15] [(0, .pure), (1, .pure), (2, .pure), (3, .pure), (4, .load), (5, .pure), (6, .pure), (7, .pure), (8, .load), (9, .pure), (10, .pure), (11, .eff), (12, .pure), (13, .pure), (14, .pure), (15, .last)] (by simp only [List.map_cons, List.map_nil, List.getElem?_toArray, List.getElem?_cons_succ, List.getElem?_cons_zero]; rfl) (by kernel_rfl) (fun _ _ d _ _ h => by cases d <;> exact h) ((Below.refl _ _).drew) ?_
        rw [← hD8]
        clear hD8
        repeat (first
          | (refine plan_pure (v := ?_) (by rfl) (fun w1 => ?_) ?_
             rotate_left
             · go_simp <;> with_reducible rfl
             simp only [Act.put, List.setIfInBounds_toArray, List.set_cons_zero, List.set_cons_succ])
          | (refine plan_off (by rfl) ?_
             simp only [Act.put, List.setIfInBounds_toArray, List.set_cons_zero, List.set_cons_succ])
          | (refine plan_load_off (by rfl) ?_
             simp only [Act.put, List.setIfInBounds_toArray, List.set_cons_zero, List.set_cons_succ])
          | (refine plan_load (v := ?_) (by rfl) (fun w1 hw1 => ?_) ?_
             rotate_left
             · (obtain ⟨q1, ql, qf⟩ := HLK8.out w1 hw1
                clear hw1
                go_simp <;> with_reducible rfl)
             simp only [Act.put, List.setIfInBounds_toArray, List.set_cons_zero, List.set_cons_succ]))
        refine plan_eff ?_
        go_wp2_with fail
        refine plan_on (fun _ h => h) HB8.out ?_
        repeat (first
          | (refine plan_pure (v := ?_) (by rfl) (fun w1 => ?_) ?_
             rotate_left
             · go_simp <;> with_reducible rfl
             simp only [Act.put, List.setIfInBounds_toArray, List.set_cons_zero, List.set_cons_succ])
          | (refine plan_off (by rfl) ?_
             simp only [Act.put, List.setIfInBounds_toArray, List.set_cons_zero, List.set_cons_succ])
          | (refine plan_load_off (by rfl) ?_
             simp only [Act.put, List.setIfInBounds_toArray, List.set_cons_zero, List.set_cons_succ])
          | (refine plan_load (v := ?_) (by rfl) (fun w1 hw1 => ?_) ?_
             rotate_left
             · (skip
                clear hw1
                go_simp <;> with_reducible rfl)
             simp only [Act.put, List.setIfInBounds_toArray, List.set_cons_zero, List.set_cons_succ]))
        refine plan_last ?_
        obtain ⟨q1, ql, qf⟩ := HLK8.out D8 HB8.out
        have qf1 := qf 1
        go_wp2_with fail
        refine plan_end ?_
        clear q1 ql qf qf1
        go_wp2_with fail
        go_roundg k1
        case measure => omega
        case rel => exact ⟨Pr.popX y, Lib.hid ⟨_, _, _, _, _, _, _, _, HA9.out⟩, HRUN⟩
      · have hpos : 0 < L.length := by rw [← HL.out.2]; omega
        have hLn : ¬ L = [] := fun e => by rw [e] at hpos; exact absurd hpos (by simp)
        have hst := HST.out
        rw [if_neg hLn] at hst
        have HST2 := Lib.hid hst
        have b0 : ((nl : Int) == 0) = false := beq_eq_false_iff_ne.2 (by omega)
        have b1 : ¬ (nl : Int) = 0 := by omega
        clear hst HST hLn hpos
        go_upto_region 8 with fail
        obtain ⟨D8, hD8⟩ : ∃ z, z = w2.drew := ⟨_, rfl⟩
        have hb8 : Below w2.heap.size w2 D8 := by rw [hD8]; exact (Below.refl _ _).drew
        have HB8 := Lib.hid (below_at HB2.out hb8)
        have HR8 := Lib.hid (row_stepS HLR.out.1 hb8)
        clear hb8
        by_cases hbg : K.bg ≤ y.nodes
        · have c1 : (K.bg : Int) ≤ (y.nodes : Int) := by omega
          have c2 : ¬ (y.nodes : Int) < (K.bg : Int) := by omega
          have hst := HST2.out
          rw [if_pos hbg] at hst
          have HST3 := Lib.hid hst
          clear hst HST2
          refine wp_region_planF (by kernel_rfl) (fun u => Below w2.heap.size w2 u) [] [(0, .pure), (1, .pure), (2, .pure), (3, .pure), (4, .load), (5, .pure), (6, .pure), (7, .pure), (8, .load), (9, .pure), (10, .pure)] (by simp only [List.map_cons, List.map_nil, List.getElem?_toArray, List.getElem?_cons_succ, List.getElem?_cons_zero]; rfl) (by kernel_rfl) (fun _ _ d _ _ h => by cases d <;> exact h) ((Below.refl _ _).drew) ?_
          rw [← hD8]
          clear hD8
          repeat (first
            | (refine plan_pure (v := ?_) (by rfl) (fun w1 => ?_) ?_
               rotate_left
               · go_simp <;> with_reducible rfl
               simp only [Act.put, List.setIfInBounds_toArray, List.set_cons_zero, List.set_cons_succ])
            | (refine plan_off (by rfl) ?_
               simp only [Act.put, List.setIfInBounds_toArray, List.set_cons_zero, List.set_cons_succ])
            | (refine plan_load_off (by rfl) ?_
               simp only [Act.put, List.setIfInBounds_toArray, List.set_cons_zero, List.set_cons_succ])
            | (refine plan_load (v := ?_) (by rfl) (fun w1 hw1 => ?_) ?_
               rotate_left
               · (obtain ⟨⟨q0, q1, q4, q6, qp⟩, ⟨ql, qg⟩, qf⟩ := HLK.out w1 (below_at HB2.out hw1)
                  clear hw1
                  go_simp <;> with_reducible rfl)
               simp only [Act.put, List.setIfInBounds_toArray, List.set_cons_zero, List.set_cons_succ]))
          refine plan_end ?_
          go_wp2_with fail
          go_ret
          exact ⟨by rw [HST3.out]; rfl, by rw [HST3.out]; exact ⟨_, _, _, _, _, _, _, _, (HA.out.below HB8.out).1⟩⟩
        · have c1 : ¬ (K.bg : Int) ≤ (y.nodes : Int) := by omega
          have c2 : (y.nodes : Int) < (K.bg : Int) := by omega
          have hst := HST2.out
          rw [if_neg hbg] at hst
          have HST3 := Lib.hid hst
          clear hst HST2
          refine wp_region_planF (by kernel_rfl) (fun u => Below w2.heap.size w2 u) [] [(0, .pure), (1, .pure), (2, .pure), (3, .pure), (4, .load), (5, .pure), (6, .pure), (7, .pure), (8, .load), (9, .pure), (10, .pure)] (by simp only [List.map_cons, List.map_nil, List.getElem?_toArray, List.getElem?_cons_succ, List.getElem?_cons_zero]; rfl) (by kernel_rfl) (fun _ _ d _ _ h => by cases d <;> exact h) ((Below.refl _ _).drew) ?_
          rw [← hD8]
          clear hD8
          repeat (first
            | (refine plan_pure (v := ?_) (by rfl) (fun w1 => ?_) ?_
               rotate_left
               · go_simp <;> with_reducible rfl
               simp only [Act.put, List.setIfInBounds_toArray, List.set_cons_zero, List.set_cons_succ])
            | (refine plan_off (by rfl) ?_
               simp only [Act.put, List.setIfInBounds_toArray, List.set_cons_zero, List.set_cons_succ])
            | (refine plan_load_off (by rfl) ?_
               simp only [Act.put, List.setIfInBounds_toArray, List.set_cons_zero, List.set_cons_succ])
            | (refine plan_load (v := ?_) (by rfl) (fun w1 hw1 => ?_) ?_
               rotate_left
               · (obtain ⟨⟨q0, q1, q4, q6, qp⟩, ⟨ql, qg⟩, qf⟩ := HLK.out w1 (below_at HB2.out hw1)
                  clear hw1
                  go_simp <;> with_reducible rfl)
               simp only [Act.put, List.setIfInBounds_toArray, List.set_cons_zero, List.set_cons_succ]))
          refine plan_end ?_
          obtain ⟨hA8, z8⟩ := HA.out.below HB8.out
          have hl8 : L.length ≤ 8 := by rw [HL.out.1]; unfold Bs.left Bs.all; exact Nat.le_trans (List.length_filter_le _ _) (by simp)
          have hpk := pick_xa hA8 HK.out LA lc L (by rw [← HL.out.2]; exact HR8.out.rd) (fun a ha e => by rw [paint_new (HLR.out.2 a ha)] at e; cases e) (by rw [← HL.out.2]; omega) hl8 (by have := HOK.out.c; omega)
          rw [← HL.out.2] at hpk
          have HPK := Lib.hid hpk
          clear hA8 z8 hl8 hpk
          go_wp2_with fail
          refine HPK.out.mono ?_
          rintro z1 w3 ⟨u, hu, rfl, hA3, z3, m3⟩
          have hum : u ∈ L := List.mem_of_getElem? hu
          have hget : L.getD (Pr.pickI K.od y.ch nl) 0 = u := by rw [List.getD_eq_getElem?_getD, hu]; rfl
          rw [HL.out.1] at hum
          obtain ⟨ht, hd, ha⟩ := Pr.mem_left.1 hum
          have I2 := HI.out.chX (y.ch + 1)
          have hen := HI.out.todo.en HI.out.on ht
          obtain ⟨g', J, hH⟩ := Pr.into_inv K.od HS.out I2 ht hd ha
          have hst := HST3.out
          rw [hget] at hst
          have hcn := Pr.intoX_ch K.od { y with ch := y.ch + 1 } (Pr.ndOf s0 g y.ev) u
          have hlen : (Pr.intoX K.od { y with ch := y.ch + 1 } (Pr.ndOf s0 g y.ev) u).path.length = y.path.length + 1 := by
            rw [J.path, Pr.pathOf_len]
            unfold Pr.intoX
            rw [Pr.openX_ev, ← HNP.out.1, HPLE.out]
            simp [HNP.out.2]
          have J' : Pr.Inv s0 (Pr.intoX K.od { y with ch := y.ch + 1 } (Pr.ndOf s0 g y.ev) u) g' := J
          have hok2 := (J'.okx HS.out HF.out (by have := hcn.2; simp only at this; omega) (by have := hcn.1; have := hcn.2; simp only at *; omega)).1.er
          have hrt : Fo.right (Pr.evAt (Pr.ndOf s0 g y.ev).s u) = true := by
            have he : (Pr.intoX K.od { y with ch := y.ch + 1 } (Pr.ndOf s0 g y.ev) u).ev = y.ev ++ [Pr.evAt (Pr.ndOf s0 g y.ev).s u] := by unfold Pr.intoX; rw [Pr.openX_ev]
            rw [he] at hok2
            simp only [Fo.rights, List.all_append, List.all_cons, List.all_nil, Bool.and_true, Bool.and_eq_true] at hok2
            exact hok2.2
          have hrun : RunAt K s0 R k1 (Pr.intoX K.od { y with ch := y.ch + 1 } (Pr.ndOf s0 g y.ev) u) := ⟨hst, .inr ⟨g', J⟩, by have := hcn.2; simp only at this; omega, by have h1 := hcn.1; have h2 := hcn.2; simp only at h1 h2; omega, by rw [hlen, ← HNP.out.1]; have h2 := hcn.2; simp only at h2; omega⟩
          obtain ⟨o1, o2, o3, o4, o5, o6, o7, o8⟩ := HOK.out
          have hin := into_any hA3 HK.out (x := { y with ch := y.ch + 1 }) ⟨o1, o2, o3, o4, o5, o6, o7, by simp only; omega⟩ (by simp only; rw [← HNP.out.2]; omega) (by simp only; rw [← HNP.out.1, ← HNP.out.2]; exact HPLE.out) q (Pr.ndOf s0 g y.ev) HLA.out.2 HLA.out.1 u hen (fun t htt => by
            rw [has_or, Bool.or_eq_true] at htt
            rcases htt with h | h
            · exact HI.out.tree.slt HS.out HI.out.on h
            · exact HI.out.tree.dlt HS.out HI.out.on h) hrt
          have HIN := Lib.hid hin
          have HRUN := Lib.hid hrun
          clear hu hA3 z3 m3 hum hget ht hd ha I2 hen J hH hst hcn hlen J' hok2 hrt hrun hin o1 o2 o3 o4 o5 o6 o7 o8 HPK
          go_wp2_with fail
          refine HIN.out.mono ?_
          rintro z1 w4 ⟨rfl, hE⟩
          have HE := Lib.hid hE
          clear hE
          go_wp2_with fail
          go_roundg k1
          case measure => omega
          case rel => exact ⟨_, HE, HRUN⟩
end Go.Proofs.YtckdofjpoajblaaGreat
namespace Go.Proofs.YtckdofjpoajblaaGreat
open Bs
set_option linter.unusedVariables false
namespace Pr
def prefs : Nat → St → List (List Ev)
  | 0, _ => [[]]
  | n + 1, s => [] :: (all s).flatMap fun t => (prefs n (stepS s t)).map fun l => evAt s t :: l
theorem prefs_len : ∀ (n : Nat) (s : St), (prefs n s).length = cnt n s
  | 0, s => rfl
  | n + 1, s => by
    simp only [prefs, cnt, List.length_cons, List.length_flatMap, List.length_map]
    rw [Nat.add_comm]
    congr 2
    exact List.map_congr_left fun t _ => prefs_len n (stepS s t)
theorem mem_prefs : ∀ (n : Nat) {s : St} (l : List Ev), Wf s → fuels s ≤ n → sys.Can s l → l ∈ prefs n s
  | 0, s, l, hw, hf, hc => by
    cases l with
    | nil => simp [prefs]
    | cons e l =>
      have := all_nil_of hw (by omega)
      have h1 := all_nil.1 this e.t.toNat
      have h2 := hc.1
      rw [show sys.en s e.t.toNat = enabled s e.t.toNat from rfl, h1] at h2
      cases h2
  | n + 1, s, l, hw, hf, hc => by
    cases l with
    | nil => simp [prefs]
    | cons e l =>
      obtain ⟨h1, h2, h3⟩ := hc
      have h1' : enabled s e.t.toNat = true := h1
      have h2' : next s e.t.toNat = some e := h2
      have h3' : sys.Can (stepS s e.t.toNat) l := h3
      have hev : evAt s e.t.toNat = e := by unfold evAt; rw [h2']; rfl
      have hm := mem_prefs n l (stepS_wf _ hw).1 (by have := fuels_step hw h1'; omega) h3'
      simp only [prefs, List.mem_cons, List.mem_flatMap, List.mem_map]
      exact .inr ⟨e.t.toNat, all_iff.2 h1', l, hm, by rw [hev]⟩
theorem nodup_len {α : Type} [DecidableEq α] : ∀ (l m : List α), l.Nodup → (∀ x ∈ l, x ∈ m) → l.length ≤ m.length
  | [], m, _, _ => Nat.zero_le _
  | x :: l, m, hn, hs => by
    obtain ⟨h1, h2⟩ := List.nodup_cons.1 hn
    have hx := hs x List.mem_cons_self
    have := nodup_len l (m.erase x) h2 (fun y hy => (List.mem_erase_of_ne (show y ≠ x from fun e => h1 (by rw [← e]; exact hy))).2 (hs y (List.mem_cons_of_mem _ hy)))
    rw [List.length_erase_of_mem hx] at this
    have hp := List.length_pos_of_mem hx
    rw [List.length_cons]
    omega
theorem TreeG.small {s0 : St} {g : Gh} (h : TreeG s0 g) (hs : Wf s0) {n : Nat} (hf : fuels s0 ≤ n) : g.H.length ≤ cnt n s0 := by
  rw [← prefs_len]
  exact nodup_len _ _ h.nodup fun z hz => mem_prefs n z hs hf (h.tree.way z hz)
theorem expl_all {s0 : St} (hs : Wf s0) {n : Nat} (hf : fuels s0 ≤ n) (bg : Nat) (od : List Nat) (hbg : cnt n s0 ≤ bg) (h1 : 1 ≤ bg) : (explX s0 bg od).2 = true := by
  cases hr : (explX s0 bg od).2 with
  | true => rfl
  | false =>
    obtain ⟨g, I, hn, u, hu⟩ := (expl_law hs bg od h1).2 hr
    obtain ⟨ht, hd, ha⟩ := mem_left.1 hu
    obtain ⟨g', J, hH⟩ := into_inv od hs I ht hd ha
    have h2 := J.tree.small hs hf
    rw [hH, List.length_append, ← I.nodes, hn] at h2
    simp at h2
    omega
end Pr
end Go.Proofs.YtckdofjpoajblaaGreat
namespace Go.Proofs.YtckdofjpoajblaaGreat
open Bs
set_option linter.unusedVariables false
namespace Pr
structure More (x y : Sx) : Prop where
  keys : x.keys <+: y.keys
  nodes : x.nodes ≤ y.nodes
  runs : x.runs ≤ y.runs
theorem More.refl (x : Sx) : More x x := ⟨List.prefix_refl _, Nat.le_refl _, Nat.le_refl _⟩
theorem More.trans {x y z : Sx} (h : More x y) (k : More y z) : More x z := ⟨h.keys.trans k.keys, Nat.le_trans h.nodes k.nodes, Nat.le_trans h.runs k.runs⟩
end Pr
end Go.Proofs.YtckdofjpoajblaaGreat
namespace Go.Proofs.YtckdofjpoajblaaGreat
open Bs
set_option linter.unusedVariables false
namespace Pr
def Apart (s0 : St) : Prop := ∀ z, sys.Can s0 z → ∀ q f, next (at_ s0 z) q = some f → ∀ x ∈ z, x.t ≠ f.t → Fo.dep x f = false
end Pr
end Go.Proofs.YtckdofjpoajblaaGreat
namespace Go.Proofs.YtckdofjpoajblaaGreat
open Bs
set_option linter.unusedVariables false
namespace Pr
theorem Apart.step {s : St} (h : Apart s) {e : Ev} (he : enabled s e.t.toNat = true) (hn : next s e.t.toNat = some e) : Apart (stepS s e.t.toNat) := fun z hz q f hf x hx hxf =>
  h (e :: z) ⟨he, hn, hz⟩ q f hf x (List.mem_cons_of_mem _ hx) hxf
end Pr
end Go.Proofs.YtckdofjpoajblaaGreat
namespace Go.Proofs.YtckdofjpoajblaaGreat
open Go.RowKit
set_option linter.unusedVariables false
theorem refWithin_any (w : World) (a lo hi : Int) : Calls Tryz.prog 104 #[.int .i64 a, .int .i64 lo, .int .i64 hi] w fun x w' => x = .returned (.bool (decide (lo ≤ a ∧ a ≤ hi))) ∧ w = w' := by
  by_cases h1 : lo ≤ a
  · by_cases h2 : a ≤ hi
    · go_enter Tryz.func104, Tryz.ntmps104
      go_wp2_with fail
      go_ret
      exact ⟨by rw [decide_eq_true ⟨h1, h2⟩]; rfl, rfl⟩
    · go_enter Tryz.func104, Tryz.ntmps104
      go_wp2_with fail
      go_ret
      exact ⟨by rw [decide_eq_false (show ¬ a ≤ hi by omega)]; rfl, rfl⟩
  · go_enter Tryz.func104, Tryz.ntmps104
    go_wp2_with fail
    go_ret
    exact ⟨by rw [decide_eq_false (show ¬ lo ≤ a by omega)]; rfl, rfl⟩
theorem insOk_ref {vars mtx n k r x m most : Int} (hmost : most = (if k = 1 ∨ k = 2 then vars - 1 else if k = 5 ∨ k = 6 then mtx - 1 else if k = 7 then n else 0)) :
    Pr.InsOk vars mtx n ⟨k, r, x, m⟩ ↔ (1 ≤ k ∧ k ≤ 8) ∧ (0 ≤ x ∧ x ≤ most) ∧ (0 ≤ r ∧ r ≤ 1) ∧ ((k = 5 ∨ k = 6) → r = 0) ∧ ((k = 3 ∨ k = 4) → -128 ≤ m ∧ m ≤ 127) ∧ (¬ (k = 3 ∨ k = 4) → m = 0) := by
  subst hmost
  unfold Pr.InsOk
  constructor
  · rintro ⟨h1, h8, h⟩
    simp only at h1 h8
    rcases (show k = 1 ∨ k = 2 ∨ k = 3 ∨ k = 4 ∨ k = 5 ∨ k = 6 ∨ k = 7 ∨ k = 8 by omega) with rfl | rfl | rfl | rfl | rfl | rfl | rfl | rfl <;> simp at h ⊢ <;> omega
  · rintro ⟨⟨h1, h8⟩, h⟩
    rcases (show k = 1 ∨ k = 2 ∨ k = 3 ∨ k = 4 ∨ k = 5 ∨ k = 6 ∨ k = 7 ∨ k = 8 by omega) with rfl | rfl | rfl | rfl | rfl | rfl | rfl | rfl <;> simp at h ⊢ <;> omega
set_option maxRecDepth 100000 in
set_option maxHeartbeats 4000000 in
theorem refInstr_any (w : World) (p : Pg) (A : Option Addr) (cap : Nat) (n : Int) (i : Ins) (hv : 0 ≤ p.vars ∧ p.vars ≤ 4) (hm : 0 ≤ p.mtx ∧ p.mtx ≤ 2) (hn : 0 ≤ n ∧ n ≤ 8) :
    Calls Tryz.prog 105 #[valP p A cap, .int .i64 n, valI i] w fun x w' => x = .returned (.bool (decide (Pr.InsOk p.vars p.mtx n i))) ∧ Below w.heap.size w w' := by
  obtain ⟨pv, pm, L⟩ := p
  simp only at hv hm
  unfold valP
  simp only
  obtain ⟨Wa, X, hWa, hX, hBa, hXl, hXe⟩ := pg_box w pv pm A L.length cap
  obtain ⟨W, Z, hW, hZ, hB, hZl, hZe⟩ := ins_box Wa i
  obtain ⟨⟨z0, z1, z2, z3⟩, zl⟩ := hZe W (Below.refl _ _)
  obtain ⟨x0, x1, x2, xl⟩ := hXe W hB
  have hZ' : Z = w.heap.size + 1 := by rw [hZ, hWa]; simp
  simp only [Nat.zero_add] at z1 z2 z3
  unfold valI
  have HB := Lib.hid (below_at hBa hB)
  obtain ⟨k, r, x, m⟩ := i
  obtain ⟨b0, hb0⟩ : ∃ b, b = decide (Pr.InsOk pv pm n ⟨k, r, x, m⟩) := ⟨_, rfl⟩
  rw [← hb0]
  have HB0 := Lib.hid hb0
  simp only at hW z0 z1 z2 z3
  clear hB hBa hZe hXe x2 hZ hb0
  go_enter Tryz.func105, Tryz.ntmps105
  go_upto_region 2 with fail
  rw [← hZ', ← hWa, ← hW, ← hX]
  clear hZ' hWa hW hX
  go_upto_block 0 with fail
  go_cut [7] (fun a w2 => w2 = W ∧ ∃ most : Int, a = .int .i64 most ∧ most = (if k = 1 ∨ k = 2 then pv - 1 else if k = 5 ∨ k = 6 then pm - 1 else if k = 7 then n else 0))
  case first =>
    have e1 : IntKind.i64.wrap (pv - 1) = pv - 1 := IntWalk.i64_in _ (by omega)
    have e2 : IntKind.i64.wrap (pm - 1) = pm - 1 := IntWalk.i64_in _ (by omega)
    rcases (show k = 1 ∨ k = 2 ∨ k = 5 ∨ k = 6 ∨ k = 7 ∨ (k ≠ 1 ∧ k ≠ 2 ∧ k ≠ 5 ∧ k ≠ 6 ∧ k ≠ 7) from by omega) with rfl | rfl | rfl | rfl | rfl | ⟨h1, h2, h5, h6, h7⟩
    · go_wp2_with fail
      go_meet
      exact ⟨rfl, pv - 1, by first | rfl | go_num, by simp⟩
    · go_wp2_with fail
      go_meet
      exact ⟨rfl, pv - 1, by first | rfl | go_num, by simp⟩
    · go_wp2_with fail
      go_meet
      exact ⟨rfl, pm - 1, by first | rfl | go_num, by simp⟩
    · go_wp2_with fail
      go_meet
      exact ⟨rfl, pm - 1, by first | rfl | go_num, by simp⟩
    · go_wp2_with fail
      go_meet
      exact ⟨rfl, n, by first | rfl | go_num, by simp⟩
    · go_wp2_with fail
      go_meet
      exact ⟨rfl, 0, rfl, by simp [h1, h2, h5, h6, h7]⟩
  case rest =>
    obtain ⟨hwc, most, rfl, hmost⟩ := hcut
    subst hwc
    have HI := Lib.hid (insOk_ref (r := r) (x := x) (m := m) hmost)
    clear hmost x0 x1 xl
    go_wp2_with fail
    refine (refWithin_any _ k 1 8).mono ?_
    rintro y w1 ⟨rfl, rfl⟩
    by_cases hk : 1 ≤ k ∧ k ≤ 8
    · rw [decide_eq_true hk]
      go_wp2_with fail
      refine (refWithin_any _ x 0 most).mono ?_
      rintro y w1 ⟨rfl, rfl⟩
      by_cases hx : 0 ≤ x ∧ x ≤ most
      · rw [decide_eq_true hx]
        go_wp2_with fail
        refine (refWithin_any _ r 0 1).mono ?_
        rintro y w1 ⟨rfl, rfl⟩
        by_cases hr : 0 ≤ r ∧ r ≤ 1
        · rw [decide_eq_true hr]
          have HKX := Lib.hid (And.intro hk (And.intro hx hr))
          rcases (show k = 1 ∨ k = 2 ∨ k = 3 ∨ k = 4 ∨ k = 5 ∨ k = 6 ∨ k = 7 ∨ k = 8 by omega) with rfl | rfl | rfl | rfl | rfl | rfl | rfl | rfl
          · by_cases h0 : m = 0
            · subst h0
              have HBT := Lib.hid (show b0 = true from by rw [HB0.out]; exact decide_eq_true (HI.out.2 ⟨HKX.out.1, HKX.out.2.1, HKX.out.2.2, fun h => by omega, fun h => by omega, fun h => by omega⟩))
              go_wp2_with fail
              go_ret
              exact ⟨by rw [HBT.out]; rfl, HB.out⟩
            · have e0 : (m == 0) = false := by simpa using h0
              have HBT := Lib.hid (show b0 = false from by rw [HB0.out]; exact decide_eq_false (fun h => by have := (HI.out.1 h).2.2.2.2.2 (by omega); omega))
              go_wp2_with fail
              go_ret
              exact ⟨by rw [HBT.out]; rfl, HB.out⟩
          · by_cases h0 : m = 0
            · subst h0
              have HBT := Lib.hid (show b0 = true from by rw [HB0.out]; exact decide_eq_true (HI.out.2 ⟨HKX.out.1, HKX.out.2.1, HKX.out.2.2, fun h => by omega, fun h => by omega, fun h => by omega⟩))
              go_wp2_with fail
              go_ret
              exact ⟨by rw [HBT.out]; rfl, HB.out⟩
            · have e0 : (m == 0) = false := by simpa using h0
              have HBT := Lib.hid (show b0 = false from by rw [HB0.out]; exact decide_eq_false (fun h => by have := (HI.out.1 h).2.2.2.2.2 (by omega); omega))
              go_wp2_with fail
              go_ret
              exact ⟨by rw [HBT.out]; rfl, HB.out⟩
          · by_cases h0 : -128 ≤ m
            · by_cases h1 : m ≤ 127
              · skip
                have HBT := Lib.hid (show b0 = true from by rw [HB0.out]; exact decide_eq_true (HI.out.2 ⟨HKX.out.1, HKX.out.2.1, HKX.out.2.2, fun h => by omega, fun h => by omega, fun h => by omega⟩))
                go_wp2_with fail
                go_ret
                exact ⟨by rw [HBT.out]; rfl, HB.out⟩
              · have e0 : decide (m ≤ 127) = false := decide_eq_false h1
                have HBT := Lib.hid (show b0 = false from by rw [HB0.out]; exact decide_eq_false (fun h => by have := (HI.out.1 h).2.2.2.2.1 (by omega); omega))
                go_wp2_with fail
                go_ret
                exact ⟨by rw [HBT.out]; rfl, HB.out⟩
            · skip
              have HBT := Lib.hid (show b0 = false from by rw [HB0.out]; exact decide_eq_false (fun h => by have := (HI.out.1 h).2.2.2.2.1 (by omega); omega))
              go_wp2_with fail
              go_ret
              exact ⟨by rw [HBT.out]; rfl, HB.out⟩
          · by_cases h0 : -128 ≤ m
            · by_cases h1 : m ≤ 127
              · skip
                have HBT := Lib.hid (show b0 = true from by rw [HB0.out]; exact decide_eq_true (HI.out.2 ⟨HKX.out.1, HKX.out.2.1, HKX.out.2.2, fun h => by omega, fun h => by omega, fun h => by omega⟩))
                go_wp2_with fail
                go_ret
                exact ⟨by rw [HBT.out]; rfl, HB.out⟩
              · have e0 : decide (m ≤ 127) = false := decide_eq_false h1
                have HBT := Lib.hid (show b0 = false from by rw [HB0.out]; exact decide_eq_false (fun h => by have := (HI.out.1 h).2.2.2.2.1 (by omega); omega))
                go_wp2_with fail
                go_ret
                exact ⟨by rw [HBT.out]; rfl, HB.out⟩
            · skip
              have HBT := Lib.hid (show b0 = false from by rw [HB0.out]; exact decide_eq_false (fun h => by have := (HI.out.1 h).2.2.2.2.1 (by omega); omega))
              go_wp2_with fail
              go_ret
              exact ⟨by rw [HBT.out]; rfl, HB.out⟩
          · by_cases hr0 : r = 0
            · subst hr0
              by_cases h0 : m = 0
              · subst h0
                have HBT := Lib.hid (show b0 = true from by rw [HB0.out]; exact decide_eq_true (HI.out.2 ⟨HKX.out.1, HKX.out.2.1, HKX.out.2.2, fun h => by omega, fun h => by omega, fun h => by omega⟩))
                go_wp2_with fail
                go_ret
                exact ⟨by rw [HBT.out]; rfl, HB.out⟩
              · have e0 : (m == 0) = false := by simpa using h0
                have HBT := Lib.hid (show b0 = false from by rw [HB0.out]; exact decide_eq_false (fun h => by have := (HI.out.1 h).2.2.2.2.2 (by omega); omega))
                go_wp2_with fail
                go_ret
                exact ⟨by rw [HBT.out]; rfl, HB.out⟩
            · have e1 : (r == 0) = false := by simpa using hr0
              have e2 : (r != 0) = true := by simpa using hr0
              have HBT := Lib.hid (show b0 = false from by rw [HB0.out]; exact decide_eq_false (fun h => by have := (HI.out.1 h).2.2.2.1 (by omega); omega))
              go_wp2_with fail
              go_ret
              exact ⟨by rw [HBT.out]; rfl, HB.out⟩
          · by_cases hr0 : r = 0
            · subst hr0
              by_cases h0 : m = 0
              · subst h0
                have HBT := Lib.hid (show b0 = true from by rw [HB0.out]; exact decide_eq_true (HI.out.2 ⟨HKX.out.1, HKX.out.2.1, HKX.out.2.2, fun h => by omega, fun h => by omega, fun h => by omega⟩))
                go_wp2_with fail
                go_ret
                exact ⟨by rw [HBT.out]; rfl, HB.out⟩
              · have e0 : (m == 0) = false := by simpa using h0
                have HBT := Lib.hid (show b0 = false from by rw [HB0.out]; exact decide_eq_false (fun h => by have := (HI.out.1 h).2.2.2.2.2 (by omega); omega))
                go_wp2_with fail
                go_ret
                exact ⟨by rw [HBT.out]; rfl, HB.out⟩
            · have e1 : (r == 0) = false := by simpa using hr0
              have e2 : (r != 0) = true := by simpa using hr0
              have HBT := Lib.hid (show b0 = false from by rw [HB0.out]; exact decide_eq_false (fun h => by have := (HI.out.1 h).2.2.2.1 (by omega); omega))
              go_wp2_with fail
              go_ret
              exact ⟨by rw [HBT.out]; rfl, HB.out⟩
          · by_cases h0 : m = 0
            · subst h0
              have HBT := Lib.hid (show b0 = true from by rw [HB0.out]; exact decide_eq_true (HI.out.2 ⟨HKX.out.1, HKX.out.2.1, HKX.out.2.2, fun h => by omega, fun h => by omega, fun h => by omega⟩))
              go_wp2_with fail
              go_ret
              exact ⟨by rw [HBT.out]; rfl, HB.out⟩
            · have e0 : (m == 0) = false := by simpa using h0
              have HBT := Lib.hid (show b0 = false from by rw [HB0.out]; exact decide_eq_false (fun h => by have := (HI.out.1 h).2.2.2.2.2 (by omega); omega))
              go_wp2_with fail
              go_ret
              exact ⟨by rw [HBT.out]; rfl, HB.out⟩
          · by_cases h0 : m = 0
            · subst h0
              have HBT := Lib.hid (show b0 = true from by rw [HB0.out]; exact decide_eq_true (HI.out.2 ⟨HKX.out.1, HKX.out.2.1, HKX.out.2.2, fun h => by omega, fun h => by omega, fun h => by omega⟩))
              go_wp2_with fail
              go_ret
              exact ⟨by rw [HBT.out]; rfl, HB.out⟩
            · have e0 : (m == 0) = false := by simpa using h0
              have HBT := Lib.hid (show b0 = false from by rw [HB0.out]; exact decide_eq_false (fun h => by have := (HI.out.1 h).2.2.2.2.2 (by omega); omega))
              go_wp2_with fail
              go_ret
              exact ⟨by rw [HBT.out]; rfl, HB.out⟩
        · rw [decide_eq_false hr]
          have HR := Lib.hid hr
          clear hr
          go_wp2_with fail
          go_ret
          exact ⟨by rw [HB0.out, decide_eq_false (fun h => HR.out (HI.out.1 h).2.2.1)]; rfl, HB.out⟩
      · rw [decide_eq_false hx]
        have HX := Lib.hid hx
        clear hx
        go_wp2_with fail
        go_ret
        exact ⟨by rw [HB0.out, decide_eq_false (fun h => HX.out (HI.out.1 h).2.1)]; rfl, HB.out⟩
    · rw [decide_eq_false hk]
      have HK := Lib.hid hk
      clear hk
      go_wp2_with fail
      go_ret
      exact ⟨by rw [HB0.out, decide_eq_false (fun h => HK.out (HI.out.1 h).1)]; rfl, HB.out⟩
end Go.Proofs.YtckdofjpoajblaaGreat
namespace Go.Proofs.YtckdofjpoajblaaGreat
open Go.RowKit
set_option linter.unusedVariables false
theorem ins_takeR {vars mtx n : Int} {q : List Ins} {k : Nat} {i : Ins} (hi : q[k]? = some i) (h : ∀ x ∈ q.take k, Pr.InsOk vars mtx n x) (hok : Pr.InsOk vars mtx n i) : ∀ x ∈ q.take (k + 1), Pr.InsOk vars mtx n x := fun x hx => by
  rw [List.take_add_one, hi] at hx
  rcases List.mem_append.1 hx with h1 | h1
  · exact h x h1
  · simp at h1; subst h1; exact hok
set_option maxRecDepth 100000 in
set_option maxHeartbeats 4000000 in
theorem refPRight_any (w : World) (p : Pg) (A : Option Addr) (cap : Nat) (hin : PgIn w p A) :
    Calls Tryz.prog 65 #[valP p A cap] w fun x w' => x = .returned (.bool (decide (Pr.Ok p))) ∧ Below w.heap.size w w' := by
  obtain ⟨hcd, hl, hq⟩ := hin
  obtain ⟨v, m, L⟩ := p
  unfold valP
  simp only at hcd hl hq ⊢
  have hll : L.length < 9223372036854775808 := by unfold maxLen at hl; omega
  obtain ⟨W, X, hW, hX, hB, hXl, hXe⟩ := pg_box w v m A L.length cap
  have HX := Lib.hid hXe
  obtain ⟨x0, x1, x2, xl⟩ := hXe W (Below.refl _ _)
  have HB := Lib.hid hB
  have HCD := Lib.hid hcd
  have HLQ := Lib.hid hq
  obtain ⟨b1, hb1⟩ : ∃ b, b = decide (0 ≤ v ∧ v ≤ 4) := ⟨_, rfl⟩
  obtain ⟨b2, hb2⟩ : ∃ b, b = decide (0 ≤ m ∧ m ≤ 2) := ⟨_, rfl⟩
  obtain ⟨b3, hb3⟩ : ∃ b, b = decide (1 ≤ (L.length : Int) ∧ (L.length : Int) ≤ 4) := ⟨_, rfl⟩
  have hc1 : ∀ u, Calls Tryz.prog 104 #[.int .i64 v, .int .i64 0, .int .i64 4] u fun x w' => x = .returned (.bool b1) ∧ u = w' := fun u => by rw [hb1]; exact refWithin_any u v 0 4
  have hc2 : ∀ u, Calls Tryz.prog 104 #[.int .i64 m, .int .i64 0, .int .i64 2] u fun x w' => x = .returned (.bool b2) ∧ u = w' := fun u => by rw [hb2]; exact refWithin_any u m 0 2
  have hc3 : ∀ u, Calls Tryz.prog 104 #[.int .i64 (L.length : Int), .int .i64 1, .int .i64 4] u fun x w' => x = .returned (.bool b3) ∧ u = w' := fun u => by rw [hb3]; exact refWithin_any u (L.length : Int) 1 4
  have HC1 := Lib.hid hc1
  have HC2 := Lib.hid hc2
  have HC3 := Lib.hid hc3
  have HB1 := Lib.hid hb1
  have HB2 := Lib.hid hb2
  have HB3 := Lib.hid hb3
  clear hc1 hc2 hc3 hb1 hb2 hb3 hB hXe hcd hq hl
  go_enter Tryz.func65, Tryz.ntmps65
  go_upto_region 1 with fail
  rw [← hW, ← hX]
  clear hW hX
  go_wp2_with fail
  refine (HC1.out _).mono ?_
  rintro x w1 ⟨rfl, rfl⟩
  cases b1 with
  | false =>
    go_wp2_with fail
    go_ret
    exact ⟨by rw [decide_eq_false (fun h => of_decide_eq_false HB1.out.symm ⟨h.1.1, h.1.2.1⟩)]; rfl, HB.out⟩
  | true =>
    have q1 := of_decide_eq_true HB1.out.symm
    go_wp2_with fail
    refine (HC2.out _).mono ?_
    rintro x w1 ⟨rfl, rfl⟩
    cases b2 with
    | false =>
      go_wp2_with fail
      go_ret
      exact ⟨by rw [decide_eq_false (fun h => of_decide_eq_false HB2.out.symm ⟨h.1.2.2.1, h.1.2.2.2.1⟩)]; rfl, HB.out⟩
    | true =>
      have q2 := of_decide_eq_true HB2.out.symm
      go_wp2_with fail
      refine (HC3.out _).mono ?_
      rintro x w1 ⟨rfl, rfl⟩
      cases b3 with
      | false =>
        go_wp2_with fail
        go_ret
        exact ⟨by rw [decide_eq_false (fun h => of_decide_eq_false HB3.out.symm (by have h1 := h.1.2.2.2.2.1; have h2 := h.1.2.2.2.2.2; simp only at h1 h2; omega))]; rfl, HB.out⟩
      | true =>
        have q3 := of_decide_eq_true HB3.out.symm
        have hhd : Pr.HeadOk ⟨v, m, L⟩ := ⟨q1.1, q1.2, q2.1, q2.2, by simp only; omega, by simp only; omega⟩
        have HHD := Lib.hid hhd
        have hinstr : ∀ (u : World) (n : Nat) (i : Ins), n ≤ 8 → Calls Tryz.prog 105 #[.agg #[.int .i64 v, .int .i64 m, .slice A L.length cap], .int .i64 (n : Int), valI i] u fun x w' => x = .returned (.bool (decide (Pr.InsOk v m n i))) ∧ Below u.heap.size u w' := fun u n i hn => refInstr_any u ⟨v, m, L⟩ A cap n i q1 q2 (by omega)
        have HINSTR := Lib.hid hinstr
        clear hhd hinstr
        go_wp2_with fail
        go_loopw [3] (fun x wr => ∃ k : Nat, k ≤ L.length ∧ x = .int .i64 k ∧ Hid (∀ c ∈ L.take k, Pr.CodeOk v m c) ∧ Hid (Below W.heap.size W wr)) (fun x _ => L.length - (intOf x).toNat)
        case atStart => exact ⟨0, Nat.zero_le _, rfl, Lib.hid (fun c h => by simp at h), Lib.hid (Below.refl _ _)⟩
        case round =>
          clear x0 x1 x2 xl
          obtain ⟨k, hk, rfl, HOK, HW⟩ := hrel
          generalize wr = V at *
          obtain ⟨x0, x1, x2, xl⟩ := HX.out V HW.out
          by_cases hlt : k < L.length
          · obtain ⟨q, hq⟩ := get_some hlt
            obtain ⟨g, o, A', c', rfl, hg, hlg, hrq, hqc, hcm, hcell⟩ := HCD.out.get k q hq
            have ca := hcell V (((below_at HB.out HW.out).block g hlg))
            have lg : g < V.heap.size := by have := (below_at HB.out HW.out).size; omega
            have hqm := HLQ.out q (List.mem_of_getElem? hq)
            have hql : q.length < 9223372036854775808 := by unfold maxLen at hqm; omega
            have k1 : (0 : Int) ≤ (k : Int) := Int.natCast_nonneg _
            have k2 : (k : Int) < (L.length : Int) := by omega
            have HRQ := Lib.hid (ins_cell (hrq.below (below_at HB.out HW.out)).rd.toB)
            have HQ := Lib.hid hq
            clear hq hcell hrq hqm
            by_cases h8 : q.length ≤ 8
            · have h8' : ¬ (8 : Int) < (q.length : Int) := by omega
              have hd : decide (8 < q.length) = false := by simp; omega
              go_wp2_with fail
              go_loopw [5] (fun x wr => ∃ j : Nat, j ≤ q.length ∧ x = .int .i64 j ∧ Hid (∀ i ∈ q.take j, Pr.InsOk v m q.length i) ∧ Hid (Below V.heap.size V wr)) (fun x _ => q.length - (intOf x).toNat)
              case atStart => exact ⟨0, Nat.zero_le _, rfl, Lib.hid (fun c h => by simp at h), Lib.hid (Below.refl _ _)⟩
              case round =>
                clear x0 x1 x2 xl
                obtain ⟨j, hj, rfl, HIN, HV⟩ := hrel
                by_cases hltj : j < q.length
                · obtain ⟨i, hi⟩ := get_some hltj
                  obtain ⟨g2, o2, rfl, hg2, hc2⟩ := HRQ.out j hltj
                  have hqi : q[j] = i := (List.getElem?_eq_some_iff.1 hi).2
                  rw [hqi] at hc2
                  have k3 : (0 : Int) ≤ (j : Int) := Int.natCast_nonneg _
                  have k4 : (j : Int) < (q.length : Int) := by omega
                  have HC2' := Lib.hid hc2
                  have HGL := Lib.hid hg2
                  have HI := Lib.hid hi
                  have hcall := fun u => HINSTR.out u q.length i h8
                  obtain ⟨b, hb⟩ : ∃ b, b = decide (Pr.InsOk v m q.length i) := ⟨_, rfl⟩
                  rw [← hb] at hcall
                  obtain ⟨ik, ir, ix, im⟩ := i
                  simp only [valI] at hcall
                  have HCALL := Lib.hid hcall
                  have HBB := Lib.hid hb
                  clear hc2 hg2 hi hcall hb hqi
                  go_upto_region 12 with fail
                  refine wp_region_planF (by kernel_rfl) (fun u => Below V.heap.size V u) [7] [(0, .load), (1, .pure), (2, .pure), (3, .pure), (4, .pure), (5, .pure), (6, .load), (7, .last), (8, .pure)] (by simp only [List.map_cons, List.map_nil, List.getElem?_toArray, List.getElem?_cons_succ, List.getElem?_cons_zero]; rfl) (by kernel_rfl) (fun _ _ d _ _ h => by cases d <;> exact h) (HV.out.drew) ?_
                  obtain ⟨Wd, hWd⟩ : ∃ z, z = wr.drew := ⟨_, rfl⟩
                  rw [← hWd]
                  have hbd : Below V.heap.size V Wd := by rw [hWd]; exact HV.out.drew
                  have HBD := Lib.hid hbd
                  clear hWd hbd
                  repeat (first
                    | (refine plan_pure (v := ?_) (by rfl) (fun w1 => ?_) ?_
                       rotate_left
                       · go_simp <;> with_reducible rfl
                       simp only [Act.put, List.setIfInBounds_toArray, List.set_cons_zero, List.set_cons_succ])
                    | (refine plan_off (by rfl) ?_
                       simp only [Act.put, List.setIfInBounds_toArray, List.set_cons_zero, List.set_cons_succ])
                    | (refine plan_load_off (by rfl) ?_
                       simp only [Act.put, List.setIfInBounds_toArray, List.set_cons_zero, List.set_cons_succ])
                    | (refine plan_load (v := ?_) (by rfl) (fun w1 hw1 => ?_) ?_
                       rotate_left
                       · (obtain ⟨x0, x1, x2, xl⟩ := HX.out w1 (below_at HW.out hw1)
                          have q0 := HC2'.out w1 hw1
                          have a0 := q0.1
                          have a1 := q0.2.1
                          have a2 := q0.2.2.1
                          have a3 := q0.2.2.2
                          clear q0
                          have ql : g2 < w1.heap.size := by have := hw1.size; have := HGL.out; omega
                          clear hw1
                          go_simp <;> with_reducible rfl)
                       simp only [Act.put, List.setIfInBounds_toArray, List.set_cons_zero, List.set_cons_succ]))
                  refine plan_last ?_
                  go_wp2_with fail
                  refine (HCALL.out Wd).mono ?_
                  rintro y w9 ⟨rfl, b9⟩
                  have HV9 := Lib.hid (below_at HBD.out b9)
                  clear b9
                  go_wp2_with fail
                  repeat (first
                    | (refine plan_pure (v := ?_) (by rfl) (fun w1 => ?_) ?_
                       rotate_left
                       · go_simp <;> with_reducible rfl
                       simp only [Act.put, List.setIfInBounds_toArray, List.set_cons_zero, List.set_cons_succ])
                    | (refine plan_off (by rfl) ?_
                       simp only [Act.put, List.setIfInBounds_toArray, List.set_cons_zero, List.set_cons_succ])
                    | (refine plan_load_off (by rfl) ?_
                       simp only [Act.put, List.setIfInBounds_toArray, List.set_cons_zero, List.set_cons_succ])
                    | (refine plan_load (v := ?_) (by rfl) (fun w1 hw1 => ?_) ?_
                       rotate_left
                       · (skip
                          clear hw1
                          go_simp <;> with_reducible rfl)
                       simp only [Act.put, List.setIfInBounds_toArray, List.set_cons_zero, List.set_cons_succ]))
                  refine plan_end ?_
                  cases b with
                  | true =>
                    go_wp2_with fail
                    go_roundw
                    case rel => exact ⟨j + 1, by omega, by go_num, Lib.hid (ins_takeR HI.out HIN.out (of_decide_eq_true HBB.out.symm)), HV9⟩
                    case measure => simp [intOf]; omega
                  | false =>
                    go_wp2_with fail
                    go_ret
                    exact ⟨by rw [decide_eq_false (fun h => of_decide_eq_false HBB.out.symm ((h.2 q (List.mem_of_getElem? HQ.out)).2 _ (List.mem_of_getElem? HI.out)))]; rfl, below_at HB.out (below_at HW.out HV9.out)⟩
                · have hjn : j = q.length := by omega
                  have hin := HIN.out
                  rw [hjn, List.take_length] at hin
                  have HIN2 := Lib.hid hin
                  have HV2 := Lib.hid (below_at HW.out HV.out)
                  clear hin hjn
                  go_wp2_with fail
                  go_roundw
                  case rel => exact ⟨k + 1, by omega, by go_num, Lib.hid (code_take HQ.out HOK.out ⟨h8, HIN2.out⟩), HV2⟩
                  case measure => simp [intOf]; omega
            · have h8' : (8 : Int) < (q.length : Int) := by omega
              have hd : decide (8 < q.length) = true := by simp; omega
              go_wp2_with fail
              go_ret
              exact ⟨by rw [decide_eq_false (fun h => h8 (h.2 q (List.mem_of_getElem? HQ.out)).1)]; rfl, below_at HB.out HW.out⟩
          · have hkn : k = L.length := by omega
            have hok := HOK.out
            rw [hkn, List.take_length] at hok
            have HOK := Lib.hid hok
            clear hok
            go_wp2_with fail
            go_ret
            exact ⟨by rw [decide_eq_true (show Pr.Ok ⟨v, m, L⟩ from ⟨HHD.out, HOK.out⟩)]; rfl, below_at HB.out HW.out⟩
end Go.Proofs.YtckdofjpoajblaaGreat
namespace Go.Proofs.YtckdofjpoajblaaGreat
open Go.RowKit
set_option linter.unusedVariables false
def rfCells (s : St) (PA : Option Addr) (pc T o tc : Nat) : Array Value :=
  #[.int .i64 s.p.vars, .int .i64 s.p.mtx, .slice PA s.p.code.length pc, .slice (some ⟨T, o, none⟩) s.th.length tc, .int .i64 (s.v 0), .int .i64 (s.v 1), .int .i64 (s.v 2), .int .i64 (s.v 3), .int .i64 (s.h 0), .int .i64 (s.h 1)]
def RAt (w : World) (C : Nat → Prop) (S T o : Nat) (s : St) : Prop :=
  ∃ PA pc tc, w.heap[S]? = some (.cells (rfCells s PA pc T o tc) 156 (0, 0)) ∧ Row w 162 4 (some ⟨T, o, none⟩) s.th.length tc (s.th.flatMap encT) ∧ CdAt w C PA s.p.code ∧ ¬ C S ∧ ¬ C T ∧ S ≠ T ∧ s.th.length = s.p.code.length
theorem RAt.lt {w : World} {C : Nat → Prop} {S T o : Nat} {s : St} (h : RAt w C S T o s) : S < w.heap.size ∧ T < w.heap.size := by
  obtain ⟨PA, pc, tc, h1, h2, _⟩ := h
  exact ⟨blk_lt h1, h2.lt⟩
theorem RAt.len {w : World} {C : Nat → Prop} {S T o : Nat} {s : St} (h : RAt w C S T o s) : s.th.length = s.p.code.length := by
  obtain ⟨PA, pc, tc, _, _, _, _, _, _, h⟩ := h
  exact h
theorem RAt.mod {w w' : World} {F C : Nat → Prop} {S T o : Nat} {s : St} (h : RAt w C S T o s) (hm : Mod F w w') (hC : ∀ k, C k → ¬ F k) (hS : ¬ F S) (hT : ¬ F T) : RAt w' C S T o s := by
  obtain ⟨PA, pc, tc, h1, h2, h3, h4⟩ := h
  exact ⟨PA, pc, tc, (hm.block S (blk_lt h1) hS).trans h1, h2.mod hm (fun a ha => by injection ha with ha; subst ha; exact hT), h3.mod hm hC, h4⟩
theorem RAt.below {w w' : World} {C : Nat → Prop} {S T o : Nat} {s : St} (h : RAt w C S T o s) (hb : Below w.heap.size w w') : RAt w' C S T o s := h.mod (F := fun _ => False) (Mod.of_below_size hb _) (fun _ _ h => h) (fun h => h) (fun h => h)
theorem RAt.cells {w : World} {C : Nat → Prop} {S T o : Nat} {s : St} (h : RAt w C S T o s) : ∃ PA pc tc, w.cell? ⟨S, 0, none⟩ = some (.int .i64 s.p.vars) ∧ w.cell? ⟨S, 1, none⟩ = some (.int .i64 s.p.mtx) ∧ w.cell? ⟨S, 2, none⟩ = some (.slice PA s.p.code.length pc) ∧ w.cell? ⟨S, 3, none⟩ = some (.slice (some ⟨T, o, none⟩) s.th.length tc) ∧
    (∀ x, x < 4 → w.cell? ⟨S, 4 + x, none⟩ = some (.int .i64 (s.v x))) ∧ (∀ x, x < 2 → w.cell? ⟨S, 8 + x, none⟩ = some (.int .i64 (s.h x))) ∧ CdAt w C PA s.p.code := by
  obtain ⟨PA, pc, tc, h1, h2, h3, h4⟩ := h
  refine ⟨PA, pc, tc, by rw [cell_blk h1]; rfl, by rw [cell_blk h1]; rfl, by rw [cell_blk h1]; rfl, by rw [cell_blk h1]; rfl, fun x hx => ?_, fun x hx => ?_, h3⟩
  · rw [cell_blk h1]
    rcases (show x = 0 ∨ x = 1 ∨ x = 2 ∨ x = 3 by omega) with rfl | rfl | rfl | rfl <;> rfl
  · rw [cell_blk h1]
    rcases (show x = 0 ∨ x = 1 by omega) with rfl | rfl <;> rfl
theorem RAt.thread {w : World} {C : Nat → Prop} {S T o : Nat} {s : St} (h : RAt w C S T o s) : ∀ (t : Nat) (x : Th), s.th[t]? = some x → w.cell? ⟨T, o + t * 4, none⟩ = some (.int .i64 (x.pc : Nat)) ∧ w.cell? ⟨T, o + t * 4 + 1, none⟩ = some (.int .i64 (x.fuel : Nat)) ∧ (∀ r, r < 2 → w.cell? ⟨T, o + t * 4 + 2 + r, none⟩ = some (.int .i64 (x.r r))) := fun t x hx => by
  obtain ⟨PA, pc, tc, h1, h2, h3⟩ := h
  obtain ⟨ht, rfl⟩ := List.getElem?_eq_some_iff.1 hx
  have hcl : ∀ r, r < 4 → w.cell? ⟨T, o + t * 4 + r, none⟩ = (encT s.th[t])[r]? := fun r hr => by
    have := h2.cell (t * 4 + r) (by omega)
    rw [← Nat.add_assoc] at this
    rw [this, flat_get (f := encT) (sz := 4) encT_len s.th t r ht hr]
  refine ⟨hcl 0 (by omega), hcl 1 (by omega), fun r hr => ?_⟩
  rw [Nat.add_assoc, hcl (2 + r) (by omega)]
  rcases (show r = 0 ∨ r = 1 by omega) with rfl | rfl <;> rfl
theorem RAt.free {w : World} {C : Nat → Prop} {S T o : Nat} {s : St} (h : RAt w C S T o s) : (∀ k, w.frozen? ⟨S, k, none⟩ = false) ∧ (∀ k, w.frozen? ⟨T, k, none⟩ = false) := by
  obtain ⟨PA, pc, tc, h1, h2, h3⟩ := h
  exact ⟨fun k => free_blk h1 k, fun k => h2.free k⟩
theorem RAt.set_th {w : World} {C : Nat → Prop} {S T o : Nat} {s : St} (h : RAt w C S T o s) {t : Nat} {x y : Th} (hx : s.th[t]? = some x) (r : Nat) (hr : r < 4) (v : Value) (hy : encT y = (encT x).set r v) :
    RAt (w.setCell ⟨T, o + t * 4 + r, none⟩ v) C S T o { s with th := s.th.set t y } ∧ Mod (fun k => k = T) w (w.setCell ⟨T, o + t * 4 + r, none⟩ v) := by
  have hm : Mod (fun k => k = T) w (w.setCell ⟨T, o + t * 4 + r, none⟩ v) := (Mod.refl (fun k => k = T) w).setCell (p := ⟨T, o + t * 4 + r, none⟩) (fun _ => rfl) v
  obtain ⟨PA, pc, tc, h1, h2, h3, h4, h5, h6, h7⟩ := h
  have ht := (List.getElem?_eq_some_iff.1 hx).1
  refine ⟨⟨PA, pc, tc, ?_, ?_, h3.mod hm (fun k hk e => h5 (e ▸ hk)), h4, h5, h6, by simp [h7]⟩, hm⟩
  · rw [hm.block S (blk_lt h1) h6, h1]
    simp [rfCells]
  · have := h2.set (t * 4 + r) (by omega) v
    rw [← Nat.add_assoc, flat_set (f := encT) encT_len hr hy s.th t hx] at this
    simpa using this
theorem RAt.set_v {w : World} {C : Nat → Prop} {S T o : Nat} {s : St} (h : RAt w C S T o s) {x : Nat} (hx : x < 4) (n : Int) :
    RAt (w.setCell ⟨S, 4 + x, none⟩ (.int .i64 n)) C S T o { s with v := updI s.v x n } ∧ Mod (fun k => k = S) w (w.setCell ⟨S, 4 + x, none⟩ (.int .i64 n)) := by
  have hm : Mod (fun k => k = S) w (w.setCell ⟨S, 4 + x, none⟩ (.int .i64 n)) := (Mod.refl (fun k => k = S) w).setCell (p := ⟨S, 4 + x, none⟩) (fun _ => rfl) _
  obtain ⟨PA, pc, tc, h1, h2, h3, h4, h5, h6, h7⟩ := h
  refine ⟨⟨PA, pc, tc, ?_, h2.mod hm (fun a ha e => by injection ha with ha; subst ha; exact h6 e.symm), h3.mod hm (fun k hk e => h4 (e ▸ hk)), h4, h5, h6, h7⟩, hm⟩
  rw [set_blk h1]
  rcases (show x = 0 ∨ x = 1 ∨ x = 2 ∨ x = 3 by omega) with rfl | rfl | rfl | rfl <;> simp [rfCells, updI]
theorem RAt.set_h {w : World} {C : Nat → Prop} {S T o : Nat} {s : St} (h : RAt w C S T o s) {x : Nat} (hx : x < 2) (n : Int) :
    RAt (w.setCell ⟨S, 8 + x, none⟩ (.int .i64 n)) C S T o { s with h := updI s.h x n } ∧ Mod (fun k => k = S) w (w.setCell ⟨S, 8 + x, none⟩ (.int .i64 n)) := by
  have hm : Mod (fun k => k = S) w (w.setCell ⟨S, 8 + x, none⟩ (.int .i64 n)) := (Mod.refl (fun k => k = S) w).setCell (p := ⟨S, 8 + x, none⟩) (fun _ => rfl) _
  obtain ⟨PA, pc, tc, h1, h2, h3, h4, h5, h6, h7⟩ := h
  refine ⟨⟨PA, pc, tc, ?_, h2.mod hm (fun a ha e => by injection ha with ha; subst ha; exact h6 e.symm), h3.mod hm (fun k hk e => h4 (e ▸ hk)), h4, h5, h6, h7⟩, hm⟩
  rw [set_blk h1]
  rcases (show x = 0 ∨ x = 1 by omega) with rfl | rfl <;> simp [rfCells, updI]
end Go.Proofs.YtckdofjpoajblaaGreat
namespace Go.Proofs.YtckdofjpoajblaaGreat
open Go.RowKit
set_option linter.unusedVariables false
theorem Tryz.infoRTh : (Tryz.prog.info? 162).map (fun i => (i.zero, i.size, i.bytes)) = some (some (.agg #[.int .i64 0, .int .i64 0, .int .i64 0, .int .i64 0]), 4, 32) := by kernel_rfl
def nwCells (p : Pg) (PA : Option Addr) (pc : Nat) (A : Option Addr) (i tc : Nat) : Array Value :=
  #[.int .i64 p.vars, .int .i64 p.mtx, .slice PA p.code.length pc, .slice A i tc, .int .i64 0, .int .i64 0, .int .i64 0, .int .i64 0, .int .i64 (-1), .int .i64 (-1)]
set_option maxRecDepth 100000 in
theorem refNew_bad (w : World) (p : Pg) (A : Option Addr) (cap : Nat) (fuel : Int) (hin : PgIn w p A) (hbad : ¬ (Pr.Ok p ∧ 0 ≤ fuel ∧ fuel ≤ 8)) :
    Calls Tryz.prog 49 #[valP p A cap, .int .i64 fuel] w fun x w' => x = .returned (.pointer none) ∧ Below w.heap.size w w' := by
  obtain ⟨Wa, X, hWa, hX, hBa, hXl, hXe⟩ := pg_box w p.vars p.mtx A p.code.length cap
  have hcall := refPRight_any Wa p A cap (hin.below hBa)
  obtain ⟨b, hb⟩ : ∃ b, b = decide (Pr.Ok p) := ⟨_, rfl⟩
  rw [← hb] at hcall
  unfold valP at hcall ⊢
  have HCALL := Lib.hid hcall
  have HB := Lib.hid hBa
  have HBB := Lib.hid hb
  have HBAD := Lib.hid hbad
  obtain ⟨x0, x1, x2, xl⟩ := hXe Wa (Below.refl _ _)
  clear hcall hBa hb hbad hin hXe
  go_enter Tryz.func49, Tryz.ntmps49
  go_upto_region 1 with fail
  rw [← hWa, ← hX]
  clear hWa hX
  go_wp2_with fail
  refine HCALL.out.mono ?_
  rintro x w1 ⟨rfl, b1⟩
  have HB1 := Lib.hid (below_at HB.out b1)
  clear b1
  cases b with
  | false =>
    go_wp2_with fail
    go_ret
    exact ⟨rfl, HB1.out⟩
  | true =>
    have hok : Pr.Ok p := of_decide_eq_true HBB.out.symm
    by_cases h0 : fuel < 0
    · go_wp2_with fail
      go_ret
      exact ⟨rfl, HB1.out⟩
    · by_cases h8 : 8 < fuel
      · go_wp2_with fail
        go_ret
        exact ⟨rfl, HB1.out⟩
      · exact (HBAD.out ⟨hok, by omega, by omega⟩).elim
set_option maxRecDepth 100000 in
set_option maxHeartbeats 4000000 in
theorem refNew_okC (w : World) (p : Pg) (A : Option Addr) (cap : Nat) (f : Nat) (C : Nat → Prop) (hcC : CdAt w C A p.code) (hCw : ∀ k, C k → k < w.heap.size) (hin : PgIn w p A) (hok : Pr.Ok p) (hf : f ≤ 8) :
    Calls Tryz.prog 49 #[valP p A cap, .int .i64 (f : Int)] w fun x w' => ∃ (S T o : Nat), x = .returned (.pointer (some ⟨S, 0, none⟩)) ∧ RAt w' C S T o (Pr.start p f) ∧ w.heap.size ≤ S ∧ w.heap.size ≤ T ∧ Below w.heap.size w w' := by
  obtain ⟨Wa, X, hWa, hX, hBa, hXl, hXe⟩ := pg_box w p.vars p.mtx A p.code.length cap
  have hcall := refPRight_any Wa p A cap (hin.below hBa)
  rw [decide_eq_true hok] at hcall
  have hl1 := hok.1.2.2.2.2.1
  have hl4 := hok.1.2.2.2.2.2
  obtain ⟨i0, hi0, hz0, hz1, hz2⟩ := info_parts Tryz.infoRTh
  unfold valP at hcall ⊢
  obtain ⟨n, hn⟩ : ∃ n, n = p.code.length := ⟨_, rfl⟩
  rw [← hn] at hcall hWa hXe hl1 hl4 ⊢
  have HN := Lib.hid hn
  have HCALL := Lib.hid hcall
  have HB := Lib.hid hBa
  have HXE := Lib.hid hXe
  have HIN := Lib.hid (And.intro hcC hCw)
  obtain ⟨x0, x1, x2, xl⟩ := hXe Wa (Below.refl _ _)
  clear hcall hBa hin hXe hok hn hcC hCw
  go_enter Tryz.func49, Tryz.ntmps49
  go_upto_region 1 with fail
  rw [← hWa, ← hX]
  clear hWa hX
  go_wp2_with fail
  refine HCALL.out.mono ?_
  rintro x w1 ⟨rfl, b1⟩
  have HB1 := Lib.hid b1
  clear b1 x0 x1 x2 xl
  obtain ⟨x0, x1, x2, xl⟩ := HXE.out w1 HB1.out
  have n0 : ¬ (f : Int) < 0 := by omega
  have n8 : ¬ (8 : Int) < (f : Int) := by omega
  go_upto_region 4 with fail
  obtain ⟨S, hS⟩ : ∃ S, S = w1.heap.size := ⟨_, rfl⟩
  obtain ⟨W2, hW2⟩ : ∃ W2, W2 = w1.alloc (Obj.cells (nwCells p A cap none 0 0) 156) := ⟨_, rfl⟩
  have hW2' := hW2
  unfold nwCells at hW2'
  rw [← HN.out] at hW2'
  rw [← hW2', ← hS]
  have hb2 : Below w1.heap.size w1 W2 := by rw [hW2]; exact (Below.refl _ _).alloc (Nat.le_refl _) _
  have hS2 : W2.heap[S]? = some (.cells (nwCells p A cap none 0 0) 156 (0, 0)) := by rw [hW2, hS]; exact heap_alloc_new w1 _
  have HB2 := Lib.hid (below_at HB1.out hb2)
  have HS2 := Lib.hid hS2
  have HSW := Lib.hid (show Wa.heap.size ≤ S by rw [hS]; exact HB1.out.size)
  have HSL := Lib.hid (blk_lt hS2)
  clear hW2 hW2' hb2 hS2 hS x0 x1 x2 xl n0 n8 HCALL HB1
  go_wp2_with fail
  go_loopw [6] (fun v wr => ∃ (i : Nat) (B : Option Addr) (tc : Nat), i ≤ n ∧ v = .int .i64 i ∧ Hid (wr.heap[S]? = some (.cells (nwCells p A cap B i tc) 156 (0, 0))) ∧ Hid (Row wr 162 4 B i tc ((List.replicate i (⟨0, f, fun _ => 0⟩ : Th)).flatMap encT)) ∧ Hid (∀ a, B = some a → W2.heap.size ≤ a.block) ∧ Hid (Mod (fun k => k = S) W2 wr)) (fun v _ => n - (intOf v).toNat)
  case atStart => exact ⟨0, none, 0, Nat.zero_le _, rfl, HS2, Lib.hid (Row.nil _ _ _), Lib.hid (fun a h => by cases h), Lib.hid (Mod.refl _ _)⟩
  case round =>
    obtain ⟨i, B, tc, hi, rfl, HS, HR, HA, HM⟩ := hrel
    have hbw : Below Wa.heap.size Wa wr := HB2.out.trans (HM.out.below _ HB2.out.size (fun k hk e => by have := HSW.out; omega))
    have HBW := Lib.hid hbw
    obtain ⟨x0, x1, x2, xl⟩ := HXE.out wr hbw
    clear hbw
    by_cases hlt : i < n
    · have k1 : (0 : Int) ≤ (i : Int) := Int.natCast_nonneg _
      have k2 : (i : Int) < (n : Int) := by omega
      have s3 : wr.cell? ⟨S, 3, none⟩ = some (.slice B i tc) := by rw [cell_blk HS.out]; rfl
      have f3 : ∀ u : World, u.heap[S]? = some (.cells (nwCells p A cap B i tc) 156 (0, 0)) → u.cell? ⟨S, 3, none⟩ = some (.slice B i tc) ∧ u.frozen? ⟨S, 3, none⟩ = false ∧ S < u.heap.size := fun u hu => ⟨by rw [cell_blk hu]; rfl, free_blk hu _, blk_lt hu⟩
      have F3 := Lib.hid f3
      have sl : S < wr.heap.size := blk_lt HS.out
      clear f3
      go_upto_region 6 with (at_builtin; refine wpList_append_row (by rfl) _ _ _ (by rfl) 162 i0 _ 4 32 Tryz.underlying154 hi0 hz0 hz1 hz2 rfl (by omega) B i tc ((List.replicate i (⟨0, f, fun _ => 0⟩ : Th)).flatMap encT) (by rfl) (HR.out.alloc _) ⟨wr.heap.size, 0, none⟩ 1 1 [.int .i64 0, .int .i64 (f : Int), .int .i64 0, .int .i64 0] (by rfl) (by rfl) (World.news_of_block (cs := #[.int .i64 0, .int .i64 (f : Int), .int .i64 0, .int .i64 0]) (t := 162) (fr := (0, 0)) (heap_alloc_new wr _)) (by simp [Value.oneCell']) (by omega) (by unfold maxLen; omega) (by omega) ?_; intro g1 of1 cap1 w3 hown hm hat; obtain ⟨s4, f4, l4⟩ := F3.out w3 ((hm.block S (by simp; have := HSL.out; have := HM.out.size; omega) (fun ⟨a, e1, e2⟩ => by have := HA.out a e1; have := HSL.out; omega)).trans ((((Below.refl wr.heap.size wr).alloc (Nat.le_refl _) _).block S (blk_lt HS.out)).trans HS.out)); have HOWN := Lib.hid hown; have HMM := Lib.hid hm; have HAT := Lib.hid hat; clear hown hm hat)
      have hal : Below wr.heap.size wr (wr.alloc (Obj.cells #[.int .i64 0, .int .i64 (f : Int), .int .i64 0, .int .i64 0] 162)) := (Below.refl _ _).alloc (Nat.le_refl _) _
      have hg1 : W2.heap.size ≤ g1 := by
        rcases HAT.out with ⟨a, e4, e5⟩ | h
        · have := HA.out a e4; omega
        · have := hal.size; have := HM.out.size; omega
      have hS3 : w3.heap[S]? = some (.cells (nwCells p A cap B i tc) 156 (0, 0)) := (HMM.out.block S (by have := hal.size; omega) (fun ⟨a, e1, e2⟩ => by have := HA.out a e1; have := HSL.out; omega)).trans ((hal.block S sl).trans HS.out)
      have hm3 : Mod (fun k => k = S) W2 w3 := (HM.out.trans (Mod.of_below_size hal _)).then HMM.out (fun q hq ⟨a, e4, e5⟩ => by have := HA.out a e4; omega)
      have hsc := (Mod.refl (fun k => k = S) w3).setCell (p := ⟨S, 3, none⟩) (fun _ => rfl) (.slice (some ⟨g1, of1, none⟩) (i + 1) cap1)
      have HG1 := Lib.hid hg1
      have HS3 := Lib.hid hS3
      have HM3 := Lib.hid hm3
      have HSC := Lib.hid hsc
      clear hal hg1 hS3 hm3 hsc
      go_wp2_with fail
      go_roundw
      case rel =>
        refine ⟨i + 1, some ⟨g1, of1, none⟩, cap1, by omega, by go_num, Lib.hid ?_, Lib.hid ?_, Lib.hid (fun a ha => by injection ha with ha; subst ha; exact HG1.out), Lib.hid (HM3.out.trans HSC.out)⟩
        · rw [set_blk HS3.out]; simp [nwCells]
        · have hr := HOWN.out.mod HSC.out (fun a ha e => by injection ha with ha; subst ha; have e' : g1 = S := e; have := HSL.out; have := HG1.out; omega)
          rw [List.replicate_succ', List.flatMap_append]
          simpa [encT] using hr
      case measure => simp [intOf]; omega
    · obtain rfl : i = n := by omega
      obtain ⟨g, o, rfl⟩ := HR.out.some_of_pos (by have := HR.out.2.1; omega)
      have hgl := HA.out _ rfl
      have HGL := Lib.hid hgl
      clear hgl
      go_wp2_with fail
      go_ret
      have hlen : (Pr.start p f).th = List.replicate i (⟨0, f, fun _ => 0⟩ : Th) := by
        unfold Pr.start
        simp only
        rw [HN.out, List.map_const']
      have hw2 : w.heap.size ≤ W2.heap.size := by have := HB.out.size; have := HB2.out.size; omega
      refine ⟨S, rfl, g, ⟨o, A, cap, tc, ?_, ?_, ?_, ?_, ?_, ?_, ?_⟩, by have := HB.out.size; have := HSW.out; omega, by have hgg : W2.heap.size ≤ g := HGL.out; omega, below_at HB.out HBW.out⟩
      · rw [HS.out]
        unfold nwCells rfCells
        rw [hlen, List.length_replicate]
        simp [Pr.start]
      · rw [hlen, List.length_replicate]; exact HR.out
      · exact HIN.out.1.below (below_at HB.out HBW.out)
      · intro h; have h := HIN.out.2 _ h; have := HB.out.size; have := HSW.out; omega
      · intro h; have h := HIN.out.2 _ h; have hgg : W2.heap.size ≤ g := HGL.out; omega
      · intro h; have hgg : W2.heap.size ≤ g := HGL.out; have := HSL.out; omega
      · rw [hlen, List.length_replicate]; exact HN.out
theorem refNew_ok (w : World) (p : Pg) (A : Option Addr) (cap : Nat) (f : Nat) (hin : PgIn w p A) (hok : Pr.Ok p) (hf : f ≤ 8) :
    Calls Tryz.prog 49 #[valP p A cap, .int .i64 (f : Int)] w fun x w' => ∃ (S T o : Nat), x = .returned (.pointer (some ⟨S, 0, none⟩)) ∧ RAt w' (fun k => k < w.heap.size) S T o (Pr.start p f) ∧ w.heap.size ≤ S ∧ w.heap.size ≤ T ∧ Below w.heap.size w w' :=
  refNew_okC w p A cap f _ hin.1 (fun k hk => hk) hin hok hf
end Go.Proofs.YtckdofjpoajblaaGreat
namespace Go.Proofs.YtckdofjpoajblaaGreat
open Go.RowKit
set_option linter.unusedVariables false
set_option maxRecDepth 100000 in
set_option maxHeartbeats 4000000 in
theorem refNext_any (w : World) (C : Nat → Prop) (S T o : Nat) (s : St) (t : Nat) (h : RAt w C S T o s) (hw : Pr.Wf s) (ht : t < s.th.length) :
    Calls Tryz.prog 84 #[.pointer (some ⟨S, 0, none⟩), .int .i64 (t : Int)] w fun x w' => x = .returned (.tuple #[valE ((Pr.next s t).getD Pr.zeroE), .bool (Pr.next s t).isSome]) ∧ Below w.heap.size w w' := by
  obtain ⟨Wa, X, hWa, hX, hBa, hXl, hXk⟩ := ev0_box w
  have hS := h.below hBa
  obtain ⟨x, hx⟩ := get_some ht
  obtain ⟨q, hq⟩ := get_some (show t < s.p.code.length by rw [← hw.len]; exact ht)
  have hn4 := hw.n4
  have hq8 := hw.q8 hq
  obtain ⟨hf8, hp8⟩ := hw.bnd t x hx
  obtain ⟨PA, pc, tc, _, _, z2, z3, _, _, zc⟩ := hS.cells
  obtain ⟨t0, t1, _⟩ := hS.thread t x hx
  obtain ⟨g, og, A', c', rfl, hCg, hgl, hrq, hqc, hcm, hcell⟩ := zc.get t q hq
  have hins : Pr.ins s t = if x.fuel = 0 then none else q[x.pc]? := by unfold Pr.ins; rw [hx, hq]
  obtain ⟨n, hn⟩ : ∃ n, n = s.th.length := ⟨_, rfl⟩
  rw [show s.p.code.length = n by rw [hn]; exact hw.len.symm] at z2
  rw [← hn] at z3 ht hn4
  have hf : ∀ u, Below Wa.heap.size Wa u → u.cell? ⟨S, 3, none⟩ = some (.slice (some ⟨T, o, none⟩) n tc) ∧ u.cell? ⟨S, 2, none⟩ = some (.slice (some ⟨g, og, none⟩) n pc) ∧ u.cell? ⟨T, o + t * 4, none⟩ = some (.int .i64 (x.pc : Nat)) ∧ u.cell? ⟨T, o + t * 4 + 1, none⟩ = some (.int .i64 (x.fuel : Nat)) ∧ u.cell? ⟨g, og + t, none⟩ = some (.slice A' q.length c') ∧ S < u.heap.size ∧ T < u.heap.size ∧ g < u.heap.size ∧ RAt u C S T o s := fun u hu => by
    have hb := hu.size
    exact ⟨(World.cell?_of_block (hu.block S hS.lt.1)).trans z3, (World.cell?_of_block (hu.block S hS.lt.1)).trans z2, (World.cell?_of_block (hu.block T hS.lt.2)).trans t0, (World.cell?_of_block (hu.block T hS.lt.2)).trans t1, hcell u (hu.block g hgl), by have := hS.lt; omega, by have := hS.lt; omega, by omega, hS.below hu⟩
  have hin : ∀ i, q[x.pc]? = some i → ∃ g2 o2, A' = some ⟨g2, o2, none⟩ ∧ ∀ u, Below Wa.heap.size Wa u → InAt u g2 (o2 + x.pc * 4) i ∧ g2 < u.heap.size := fun i hi => by
    obtain ⟨g2, o2, e, _, hl2, hc⟩ := hrq.ins x.pc i hi
    exact ⟨g2, o2, e, fun u hu => ⟨hc u (hu.block g2 hl2), by have := hu.size; omega⟩⟩
  have hio : ∀ i, Pr.ins s t = some i → ∃ n : Int, 0 ≤ n ∧ n ≤ 8 ∧ Pr.InsOk s.p.vars s.p.mtx n i := fun i hi => hw.insOk hi
  have hmm := hw.ok.1.2.2.2.1
  have HF := Lib.hid hf
  have HIN := Lib.hid hin
  have HIO := Lib.hid hio
  have HINS := Lib.hid hins
  have HB := Lib.hid hBa
  have HXK := Lib.hid hXk
  have HXW := Lib.hid (Nat.le_of_eq hX.symm)
  have HXT := Lib.hid (And.intro hx hn)
  have HMM := Lib.hid hmm
  have k1 : (0 : Int) ≤ (t : Int) := Int.natCast_nonneg _
  have k2 : (t : Int) < (n : Int) := by omega
  have k3 : ¬ (n : Int) ≤ (t : Int) := by omega
  have k4 : ¬ n ≤ t := by omega
  have d1 : decide (n ≤ t) = false := decide_eq_false k4
  have HWB : Hid (Below Wa.heap.size Wa Wa) := Lib.hid (Below.refl _ _)
  clear hf hin hio hins hBa hXk hx hq hcell hrq hS z2 z3 t0 t1 zc h hw hCg hn hmm hgl hqc hcm
  go_enter Tryz.func84, Tryz.ntmps84
  go_upto_region 1 with fail
  rw [← hWa, ← hX]
  clear hWa hX
  by_cases hfu : x.fuel = 0
  · have e1 : (((x.fuel : Nat) : Int) == 0) = true := by simpa using hfu
    have HFU := Lib.hid hfu
    clear hfu
    refine wp_region_planF (by kernel_rfl) (fun u => Below Wa.heap.size Wa u) [] [(0, .pure), (1, .pure), (2, .pure), (3, .pure), (4, .pure), (5, .pure), (6, .pure), (7, .load), (8, .pure), (9, .pure), (10, .pure), (11, .pure), (12, .pure), (13, .pure), (14, .pure), (15, .load), (16, .pure), (17, .pure), (18, .pure), (19, .load), (20, .pure), (21, .pure), (22, .pure), (23, .pure), (24, .pure), (25, .pure), (26, .load), (27, .pure), (28, .pure), (29, .pure), (30, .load), (31, .pure), (32, .pure), (33, .pure), (34, .pure), (35, .load), (36, .pure), (37, .pure), (38, .load), (39, .pure), (40, .pure), (41, .pure)] (by simp only [List.map_cons, List.map_nil, List.getElem?_toArray, List.getElem?_cons_succ, List.getElem?_cons_zero]; rfl) (by kernel_rfl) (fun _ _ d _ _ h => by cases d <;> exact h) ((Below.refl _ _).drew) ?_
    obtain ⟨Wd, hWd⟩ : ∃ z, z = Wa.drew := ⟨_, rfl⟩
    rw [← hWd]
    have hbd : Below Wa.heap.size Wa Wd := by rw [hWd]; exact (Below.refl _ _).drew
    have hX5 := (hbd.block X hXl).trans HXK.out
    have HBD := Lib.hid hbd
    clear hWd hbd
    repeat (first
      | (refine plan_pure (v := ?_) (by rfl) (fun w1 => ?_) ?_
         rotate_left
         · go_simp <;> with_reducible rfl
         simp only [Act.put, List.setIfInBounds_toArray, List.set_cons_zero, List.set_cons_succ])
      | (refine plan_off (by rfl) ?_
         simp only [Act.put, List.setIfInBounds_toArray, List.set_cons_zero, List.set_cons_succ])
      | (refine plan_load_off (by rfl) ?_
         simp only [Act.put, List.setIfInBounds_toArray, List.set_cons_zero, List.set_cons_succ])
      | (refine plan_load (v := ?_) (by rfl) (fun w1 hw1 => ?_) ?_
         rotate_left
         · (have qf := HF.out w1 (HWB.out.trans hw1)
            obtain ⟨c3, c2, t0, t1, ccode, sl, tl, gl, _⟩ := qf
            clear hw1
            go_simp <;> with_reducible rfl)
         simp only [Act.put, List.setIfInBounds_toArray, List.set_cons_zero, List.set_cons_succ]))
    refine plan_end ?_
    obtain ⟨V2, hV2, ⟨d0, d1', d2, d3⟩, hmv⟩ := in4_exit hX5 (.int .i64 0) (.int .i64 0) (.int .i64 0) (.bool false)
    obtain ⟨⟨e0, e1', e2, e3⟩, el, g0, g1, g2, g3⟩ := in4_cells hX5
    have HV2 := Lib.hid hV2
    have HMV := Lib.hid hmv
    clear hV2 hmv hX5
    go_wp2_with fail
    rw [← HV2.out]
    refine bodyPost_ret (v := .tuple #[.agg #[.int .i64 0, .int .i64 0, .int .i64 0, .bool false], .bool false]) (by simp [results, Tryz.results84, go_sem, d0, d1', d2, d3]) rfl ?_
    exact ⟨by rw [show Pr.next s t = none by unfold Pr.next; rw [HINS.out]; rw [if_pos HFU.out]; rfl]; rfl, (below_at HB.out HBD.out).trans (HMV.out.below _ (by have := HB.out.size; have := HBD.out.size; omega) (fun k hk e => by have := HXW.out; omega))⟩
  · have e1 : (((x.fuel : Nat) : Int) == 0) = false := by simpa using hfu
    have HFU := Lib.hid hfu
    clear hfu
    by_cases hpc : x.pc < q.length
    · obtain ⟨i, hi⟩ := get_some hpc
      obtain ⟨g2, o2, rfl, hcell⟩ := HIN.out i hi
      have hins : Pr.ins s t = some i := by rw [HINS.out, if_neg HFU.out, hi]
      obtain ⟨nI, hn0, hn8', hok⟩ := HIO.out i hins
      have hnx : Pr.next s t = some (Pr.evOf s t i) := by unfold Pr.next; rw [hins]; rfl
      have HNX := Lib.hid hnx
      have HOK := Lib.hid hok
      have HCELL := Lib.hid hcell
      have q0 : (0 : Int) ≤ ((x.pc : Nat) : Int) := Int.natCast_nonneg _
      have e2 : ((x.pc : Nat) : Int) < ((q.length : Nat) : Int) := by omega
      have e3 : ¬ ((q.length : Nat) : Int) ≤ ((x.pc : Nat) : Int) := by omega
      have e4 : ¬ q.length ≤ x.pc := by omega
      have e5 : decide (q.length ≤ x.pc) = false := decide_eq_false e4
      clear hpc hi hcell hins hnx hok hn0 hn8' HIO HIN HINS
      obtain ⟨ik, ir, ix, im⟩ := i
      refine wp_region_planF (by kernel_rfl) (fun u => Below Wa.heap.size Wa u) [] [(0, .pure), (1, .pure), (2, .pure), (3, .pure), (4, .pure), (5, .pure), (6, .pure), (7, .load), (8, .pure), (9, .pure), (10, .pure), (11, .pure), (12, .pure), (13, .pure), (14, .pure), (15, .load), (16, .pure), (17, .pure), (18, .pure), (19, .load), (20, .pure), (21, .pure), (22, .pure), (23, .pure), (24, .pure), (25, .pure), (26, .load), (27, .pure), (28, .pure), (29, .pure), (30, .load), (31, .pure), (32, .pure), (33, .pure), (34, .pure), (35, .load), (36, .pure), (37, .pure), (38, .load), (39, .pure), (40, .pure), (41, .pure)] (by simp only [List.map_cons, List.map_nil, List.getElem?_toArray, List.getElem?_cons_succ, List.getElem?_cons_zero]; rfl) (by kernel_rfl) (fun _ _ d _ _ h => by cases d <;> exact h) ((Below.refl _ _).drew) ?_
      obtain ⟨Wd, hWd⟩ : ∃ z, z = Wa.drew := ⟨_, rfl⟩
      rw [← hWd]
      have hbd : Below Wa.heap.size Wa Wd := by rw [hWd]; exact (Below.refl _ _).drew
      have HBD := Lib.hid hbd
      clear hWd hbd
      repeat (first
        | (refine plan_pure (v := ?_) (by rfl) (fun w1 => ?_) ?_
           rotate_left
           · go_simp <;> with_reducible rfl
           simp only [Act.put, List.setIfInBounds_toArray, List.set_cons_zero, List.set_cons_succ])
        | (refine plan_off (by rfl) ?_
           simp only [Act.put, List.setIfInBounds_toArray, List.set_cons_zero, List.set_cons_succ])
        | (refine plan_load_off (by rfl) ?_
           simp only [Act.put, List.setIfInBounds_toArray, List.set_cons_zero, List.set_cons_succ])
        | (refine plan_load (v := ?_) (by rfl) (fun w1 hw1 => ?_) ?_
           rotate_left
           · (have qf := HF.out w1 (HWB.out.trans hw1)
              obtain ⟨c3, c2, t0, t1, ccode, sl, tl, gl, _⟩ := qf
              clear hw1
              go_simp <;> with_reducible rfl)
           simp only [Act.put, List.setIfInBounds_toArray, List.set_cons_zero, List.set_cons_succ]))
      refine plan_end ?_
      go_upto_region 3 with fail
      refine wp_region_planF (by kernel_rfl) (fun u => Below Wa.heap.size Wa u) [19] [(0, .pure), (1, .pure), (2, .pure), (3, .pure), (4, .load), (5, .pure), (6, .pure), (7, .load), (8, .pure), (9, .pure), (10, .pure), (11, .load), (12, .pure), (13, .pure), (14, .pure), (15, .load), (16, .pure), (17, .load), (18, .eff), (19, .last)] (by simp only [List.map_cons, List.map_nil, List.getElem?_toArray, List.getElem?_cons_succ, List.getElem?_cons_zero]; rfl) (by kernel_rfl) (fun _ _ d _ _ h => by cases d <;> exact h) (HBD.out.drew) ?_
      obtain ⟨We, hWe⟩ : ∃ z, z = Wd.drew := ⟨_, rfl⟩
      rw [← hWe]
      have hbe : Below Wa.heap.size Wa We := by rw [hWe]; exact HBD.out.drew
      have HBE := Lib.hid hbe
      clear hWe hbe
      repeat (first
        | (refine plan_pure (v := ?_) (by rfl) (fun w1 => ?_) ?_
           rotate_left
           · go_simp <;> with_reducible rfl
           simp only [Act.put, List.setIfInBounds_toArray, List.set_cons_zero, List.set_cons_succ])
        | (refine plan_off (by rfl) ?_
           simp only [Act.put, List.setIfInBounds_toArray, List.set_cons_zero, List.set_cons_succ])
        | (refine plan_load_off (by rfl) ?_
           simp only [Act.put, List.setIfInBounds_toArray, List.set_cons_zero, List.set_cons_succ])
        | (refine plan_load (v := ?_) (by rfl) (fun w1 hw1 => ?_) ?_
           rotate_left
           · (have qf := HF.out w1 (HWB.out.trans hw1)
              obtain ⟨c3, c2, t0, t1, ccode, sl, tl, gl, _⟩ := qf
              have qi := HCELL.out w1 (HWB.out.trans hw1)
              obtain ⟨⟨i0, i1, i2, i3⟩, il⟩ := qi
              clear hw1
              go_simp <;> with_reducible rfl)
           simp only [Act.put, List.setIfInBounds_toArray, List.set_cons_zero, List.set_cons_succ]))
      obtain ⟨Wf, hWf⟩ : ∃ z, z = We.alloc (Obj.cells #[.int .i64 0, .int .i64 0, .int .i64 0, .int .i64 0] 98) := ⟨_, rfl⟩
      obtain ⟨Z, hZ⟩ : ∃ z, z = We.heap.size := ⟨_, rfl⟩
      have hZk : Wf.heap[Z]? = some (.cells #[.int .i64 0, .int .i64 0, .int .i64 0, .int .i64 0] 98 (0, 0)) := by rw [hWf, hZ]; exact heap_alloc_new We _
      have hbf : Below Wa.heap.size Wa Wf := by rw [hWf]; exact HBE.out.alloc HBE.out.size _
      have hXZ : X < Z := by rw [hZ]; have := HBE.out.size; omega
      refine plan_eff ?_
      go_wp2_with fail
      rw [← hWf, ← hZ]
      have HBF := Lib.hid hbf
      have HZK := Lib.hid hZk
      have HXZ := Lib.hid hXZ
      have HZW := Lib.hid (show Wa.heap.size ≤ Z by rw [hZ]; exact HBE.out.size)
      clear hWf hZ hZk hbf hXZ
      refine plan_on (fun _ h => h) HBF.out ?_
      repeat (first
        | (refine plan_pure (v := ?_) (by rfl) (fun w1 => ?_) ?_
           rotate_left
           · go_simp <;> with_reducible rfl
           simp only [Act.put, List.setIfInBounds_toArray, List.set_cons_zero, List.set_cons_succ])
        | (refine plan_off (by rfl) ?_
           simp only [Act.put, List.setIfInBounds_toArray, List.set_cons_zero, List.set_cons_succ])
        | (refine plan_load_off (by rfl) ?_
           simp only [Act.put, List.setIfInBounds_toArray, List.set_cons_zero, List.set_cons_succ])
        | (refine plan_load (v := ?_) (by rfl) (fun w1 hw1 => ?_) ?_
           rotate_left
           · (have qf := HF.out w1 (HWB.out.trans hw1)
              obtain ⟨c3, c2, t0, t1, ccode, sl, tl, gl, _⟩ := qf
              have qi := HCELL.out w1 (HWB.out.trans hw1)
              obtain ⟨⟨i0, i1, i2, i3⟩, il⟩ := qi
              clear hw1
              go_simp <;> with_reducible rfl)
           simp only [Act.put, List.setIfInBounds_toArray, List.set_cons_zero, List.set_cons_succ]))
      obtain ⟨Wg, hWg, ⟨y0, y1, y2, y3⟩, hmg⟩ := in4_exit HZK.out (.int .i64 ik) (.int .i64 ir) (.int .i64 ix) (.int .i64 im)
      obtain ⟨⟨b0, b1, b2, b3⟩, el, g0, g1, g2', g3⟩ := in4_cells HZK.out
      refine plan_last ?_
      go_wp2_with fail
      repeat (first
        | (refine plan_pure (v := ?_) (by rfl) (fun w1 => ?_) ?_
           rotate_left
           · go_simp <;> with_reducible rfl
           simp only [Act.put, List.setIfInBounds_toArray, List.set_cons_zero, List.set_cons_succ])
        | (refine plan_off (by rfl) ?_
           simp only [Act.put, List.setIfInBounds_toArray, List.set_cons_zero, List.set_cons_succ])
        | (refine plan_load_off (by rfl) ?_
           simp only [Act.put, List.setIfInBounds_toArray, List.set_cons_zero, List.set_cons_succ])
        | (refine plan_load (v := ?_) (by rfl) (fun w1 hw1 => ?_) ?_
           rotate_left
           · (skip
              clear hw1
              go_simp <;> with_reducible rfl)
           simp only [Act.put, List.setIfInBounds_toArray, List.set_cons_zero, List.set_cons_succ]))
      refine plan_end ?_
      rw [← hWg]
      have hbg : Below Wa.heap.size Wa Wg := HBF.out.trans (hmg.below _ HBF.out.size (fun k hk e => by have := HXZ.out; have := HBE.out.size; have := HZW.out; omega))
      have hZg : Wg.heap[Z]? = some (.cells #[.int .i64 ik, .int .i64 ir, .int .i64 ix, .int .i64 im] 98 (0, 0)) := by
        rw [hWg, set_blk (set_blk (set_blk (set_blk HZK.out 0 _) 1 _) 2 _) 3 _]; simp
      obtain ⟨W5, Y, hW5, hY, hB5, hYl, hYe⟩ := ev_box Wg ⟨(t : Int), 1, 0, false⟩
      simp only at hW5
      have hY5 : W5.heap[Y]? = some (.cells #[.int .i64 (t : Int), .int .i64 1, .int .i64 0, .bool false] 51 (0, 0)) := by rw [hW5, hY]; exact heap_alloc_new Wg _
      have hZ5 := (hB5.block Z (blk_lt hZg)).trans hZg
      have HY5 := Lib.hid hY5
      have HZC := Lib.hid (in4_cells hZ5).1
      have HZL := Lib.hid (blk_lt hZ5)
      have HYZ := Lib.hid (show Z < Y by rw [hY]; exact blk_lt hZg)
      have HB5 := Lib.hid (below_at hbg hB5)
      have HYW := Lib.hid (show Wa.heap.size ≤ Y by rw [hY]; exact hbg.size)
      clear hWg y0 y1 y2 y3 hmg b0 b1 b2 b3 el g0 g1 g2' g3 hbg hZg hB5 hYl hYe hY5 hZ5
      go_upto_region 5 with fail
      rw [← hW5, ← hY]
      clear hW5 hY
      obtain ⟨z0, z1, z2, z3⟩ := HZC.out
      have zl := HZL.out
      go_upto_block 0 with fail
      clear z0 z1 z2 z3
      go_cut [73] (fun a w2 => Hid (w2.heap[Y]? = some (.cells (evCells (Pr.evOf s t ⟨ik, ir, ix, im⟩)) 51 (0, 0))) ∧ Hid (Mod (fun k => k = Y) W5 w2))
      case first =>
        rcases (show ik = 1 ∨ ik = 2 ∨ ik = 3 ∨ ik = 4 ∨ ik = 5 ∨ ik = 6 ∨ ik = 7 ∨ ik = 8 from by have h1 := HOK.out.1; have h8 := HOK.out.2.1; simp only at h1 h8; omega) with rfl | rfl | rfl | rfl | rfl | rfl | rfl | rfl
        · obtain ⟨⟨e0, e1', e2', e3'⟩, el, g0, g1, g2', g3⟩ := in4_cells HY5.out
          go_upto_region 8 with fail
          obtain ⟨W6, hW6⟩ : ∃ z, z = W5.setCell ⟨Y, 1, none⟩ (.int .i64 2) := ⟨_, rfl⟩
          rw [← hW6]
          have hm6 : Mod (fun k => k = Y) W5 W6 := by rw [hW6]; exact (Mod.refl (fun k => k = Y) _).setCell (p := ⟨Y, 1, none⟩) (fun _ => rfl) _
          have hY6 : W6.heap[Y]? = some (.cells #[.int .i64 (t : Int), .int .i64 2, .int .i64 0, .bool false] 51 (0, 0)) := by rw [hW6, set_blk HY5.out 1 _]; simp
          have z2' := (hm6.cell Z 2 HZL.out (by have := HYZ.out; omega)).trans HZC.out.2.2.1
          have zl' : Z < W6.heap.size := by have := HZL.out; have := hm6.size; omega
          clear hW6 e0 e1' e2' e3' el g0 g1 g2' g3
          obtain ⟨⟨e0, e1', e2', e3'⟩, el, g0, g1, g2', g3⟩ := in4_cells hY6
          have HY8 := Lib.hid (set_blk hY6 2 (.int .i64 ix))
          have HM8 := Lib.hid (hm6.setCell (p := ⟨Y, 2, none⟩) (fun _ => rfl) (.int .i64 ix))
          clear hY6 hm6
          go_wp2_with fail
          go_meet
          exact ⟨Lib.hid (by rw [HY8.out]; simp [evCells, Pr.evOf]), HM8⟩
        · obtain ⟨⟨e0, e1', e2', e3'⟩, el, g0, g1, g2', g3⟩ := in4_cells HY5.out
          go_upto_region 11 with fail
          obtain ⟨W6, hW6⟩ : ∃ z, z = W5.setCell ⟨Y, 1, none⟩ (.int .i64 3) := ⟨_, rfl⟩
          rw [← hW6]
          have hm6 : Mod (fun k => k = Y) W5 W6 := by rw [hW6]; exact (Mod.refl (fun k => k = Y) _).setCell (p := ⟨Y, 1, none⟩) (fun _ => rfl) _
          have hY6 : W6.heap[Y]? = some (.cells #[.int .i64 (t : Int), .int .i64 3, .int .i64 0, .bool false] 51 (0, 0)) := by rw [hW6, set_blk HY5.out 1 _]; simp
          have z2' := (hm6.cell Z 2 HZL.out (by have := HYZ.out; omega)).trans HZC.out.2.2.1
          have zl' : Z < W6.heap.size := by have := HZL.out; have := hm6.size; omega
          clear hW6 e0 e1' e2' e3' el g0 g1 g2' g3
          obtain ⟨⟨e0, e1', e2', e3'⟩, el, g0, g1, g2', g3⟩ := in4_cells hY6
          have HY8 := Lib.hid (set_blk hY6 2 (.int .i64 ix))
          have HM8 := Lib.hid (hm6.setCell (p := ⟨Y, 2, none⟩) (fun _ => rfl) (.int .i64 ix))
          clear hY6 hm6
          go_wp2_with fail
          go_meet
          exact ⟨Lib.hid (by rw [HY8.out]; simp [evCells, Pr.evOf]), HM8⟩
        · obtain ⟨⟨z0', z1', z2', z3'⟩, _⟩ := (And.intro HZC.out trivial)
          go_wp2_with fail
          go_meet
          exact ⟨Lib.hid (by rw [HY5.out]; simp [evCells, Pr.evOf]), Lib.hid (Mod.refl _ _)⟩
        · obtain ⟨⟨z0', z1', z2', z3'⟩, _⟩ := (And.intro HZC.out trivial)
          go_wp2_with fail
          go_meet
          exact ⟨Lib.hid (by rw [HY5.out]; simp [evCells, Pr.evOf]), Lib.hid (Mod.refl _ _)⟩
        · obtain ⟨⟨e0, e1', e2', e3'⟩, el, g0, g1, g2', g3⟩ := in4_cells HY5.out
          go_upto_region 14 with fail
          obtain ⟨W6, hW6⟩ : ∃ z, z = W5.setCell ⟨Y, 1, none⟩ (.int .i64 4) := ⟨_, rfl⟩
          rw [← hW6]
          have hm6 : Mod (fun k => k = Y) W5 W6 := by rw [hW6]; exact (Mod.refl (fun k => k = Y) _).setCell (p := ⟨Y, 1, none⟩) (fun _ => rfl) _
          have hY6 : W6.heap[Y]? = some (.cells #[.int .i64 (t : Int), .int .i64 4, .int .i64 0, .bool false] 51 (0, 0)) := by rw [hW6, set_blk HY5.out 1 _]; simp
          have z2' := (hm6.cell Z 2 HZL.out (by have := HYZ.out; omega)).trans HZC.out.2.2.1
          have zl' : Z < W6.heap.size := by have := HZL.out; have := hm6.size; omega
          clear hW6 e0 e1' e2' e3' el g0 g1 g2' g3
          obtain ⟨⟨e0, e1', e2', e3'⟩, el, g0, g1, g2', g3⟩ := in4_cells hY6
          have HY8 := Lib.hid (set_blk hY6 2 (.int .i64 ix))
          have HM8 := Lib.hid (hm6.setCell (p := ⟨Y, 2, none⟩) (fun _ => rfl) (.int .i64 ix))
          clear hY6 hm6
          go_wp2_with fail
          go_meet
          exact ⟨Lib.hid (by rw [HY8.out]; simp [evCells, Pr.evOf]), HM8⟩
        · have hx := HOK.out.2.2.2.2.2.1
          have hxm := HOK.out.2.2.2.2.2.2.2.2.2.2.1 (Or.inr rfl)
          have hmm := HMM.out
          simp only at hx hxm
          obtain ⟨m, rfl⟩ : ∃ m : Nat, ix = m := ⟨ix.toNat, by omega⟩
          have hm2 : m < 2 := by omega
          clear hx hxm hmm
          have k5 : (0 : Int) ≤ (m : Int) := Int.natCast_nonneg _
          have k6 : (m : Int) < 2 := by omega
          go_upto_region 16 with fail
          refine wp_region_planF (by kernel_rfl) (fun u => Mod (fun k => k = Y) W5 u) [] [(0, .pure), (1, .pure), (2, .load), (3, .pure), (4, .pure), (5, .pure), (6, .load), (7, .pure), (8, .pure)] (by simp only [List.map_cons, List.map_nil, List.getElem?_toArray, List.getElem?_cons_succ, List.getElem?_cons_zero]; rfl) (by kernel_rfl) (fun _ _ d _ _ h => by cases d <;> exact h) ((Mod.refl _ _).drew) ?_
          obtain ⟨WD, hWD⟩ : ∃ z, z = W5.drew := ⟨_, rfl⟩
          rw [← hWD]
          have hmd : Mod (fun k => k = Y) W5 WD := by rw [hWD]; exact (Mod.refl _ _).drew
          have hyd : WD.heap[Y]? = some (.cells #[.int .i64 (t : Int), .int .i64 1, .int .i64 0, .bool false] 51 (0, 0)) := by rw [hWD]; exact HY5.out
          have HMD := Lib.hid hmd
          have HYD := Lib.hid hyd
          clear hWD hmd hyd
          by_cases hh : s.h m = (t : Int)
          · have hd : (s.h m == (t : Int)) = true := by simpa using hh
            have hev : Pr.evOf s t ⟨6, ir, (m : Int), im⟩ = ⟨t, 5, m, false⟩ := by simp [Pr.evOf, hh]
            have HEV := Lib.hid hev
            clear hev hh
            repeat (first
              | (refine plan_pure (v := ?_) (by rfl) (fun w1 => ?_) ?_
                 rotate_left
                 · go_simp <;> with_reducible rfl
                 simp only [Act.put, List.setIfInBounds_toArray, List.set_cons_zero, List.set_cons_succ])
              | (refine plan_off (by rfl) ?_
                 simp only [Act.put, List.setIfInBounds_toArray, List.set_cons_zero, List.set_cons_succ])
              | (refine plan_load_off (by rfl) ?_
                 simp only [Act.put, List.setIfInBounds_toArray, List.set_cons_zero, List.set_cons_succ])
              | (refine plan_load (v := ?_) (by rfl) (fun w1 hw1 => ?_) ?_
                 rotate_left
                 · (have qz := (hw1.cell Z 2 HZL.out (by have := HYZ.out; omega)).trans HZC.out.2.2.1
                    have hbz : Below Wa.heap.size Wa w1 := HB5.out.trans (hw1.below _ HB5.out.size (fun k hk e => by have := HYW.out; omega))
                    have qf := HF.out w1 hbz
                    have qr := qf.2.2.2.2.2.2.2.2
                    have sl := qf.2.2.2.2.2.1
                    have zl : Z < w1.heap.size := by have := hw1.size; have := HZL.out; omega
                    obtain ⟨PA, pc', tc', _, _, _, _, _, qh, _⟩ := qr.cells
                    have q3 := qh m hm2
                    clear qf qh qr hbz
                    clear hw1
                    go_simp <;> with_reducible rfl)
                 simp only [Act.put, List.setIfInBounds_toArray, List.set_cons_zero, List.set_cons_succ]))
            refine plan_end ?_
            obtain ⟨⟨e0, e1', e2', e3'⟩, el, g0, g1, g2', g3⟩ := in4_cells HYD.out
            go_upto_region 18 with fail
            obtain ⟨W6, hW6⟩ : ∃ z, z = WD.setCell ⟨Y, 1, none⟩ (.int .i64 5) := ⟨_, rfl⟩
            rw [← hW6]
            have hm6 : Mod (fun k => k = Y) W5 W6 := by rw [hW6]; exact HMD.out.setCell (p := ⟨Y, 1, none⟩) (fun _ => rfl) _
            have hY6 : W6.heap[Y]? = some (.cells #[.int .i64 (t : Int), .int .i64 5, .int .i64 0, .bool false] 51 (0, 0)) := by rw [hW6, set_blk HYD.out 1 _]; simp
            have z2' := (hm6.cell Z 2 HZL.out (by have := HYZ.out; omega)).trans HZC.out.2.2.1
            have zl' : Z < W6.heap.size := by have := HZL.out; have := hm6.size; omega
            clear hW6 e0 e1' e2' e3' el g0 g1 g2' g3
            obtain ⟨⟨e0, e1', e2', e3'⟩, el, g0, g1, g2', g3⟩ := in4_cells hY6
            have HY8 := Lib.hid (set_blk hY6 2 (.int .i64 (m : Int)))
            have HM8 := Lib.hid (hm6.setCell (p := ⟨Y, 2, none⟩) (fun _ => rfl) (.int .i64 (m : Int)))
            clear hY6 hm6
            go_wp2_with fail
            go_meet
            exact ⟨Lib.hid (by rw [HY8.out, HEV.out]; simp [evCells]), HM8⟩
          · have hd : (s.h m == (t : Int)) = false := by simpa using hh
            have hev : Pr.evOf s t ⟨6, ir, (m : Int), im⟩ = ⟨t, 1, 0, true⟩ := by simp [Pr.evOf, hh]
            have HEV := Lib.hid hev
            clear hev hh
            repeat (first
              | (refine plan_pure (v := ?_) (by rfl) (fun w1 => ?_) ?_
                 rotate_left
                 · go_simp <;> with_reducible rfl
                 simp only [Act.put, List.setIfInBounds_toArray, List.set_cons_zero, List.set_cons_succ])
              | (refine plan_off (by rfl) ?_
                 simp only [Act.put, List.setIfInBounds_toArray, List.set_cons_zero, List.set_cons_succ])
              | (refine plan_load_off (by rfl) ?_
                 simp only [Act.put, List.setIfInBounds_toArray, List.set_cons_zero, List.set_cons_succ])
              | (refine plan_load (v := ?_) (by rfl) (fun w1 hw1 => ?_) ?_
                 rotate_left
                 · (have qz := (hw1.cell Z 2 HZL.out (by have := HYZ.out; omega)).trans HZC.out.2.2.1
                    have hbz : Below Wa.heap.size Wa w1 := HB5.out.trans (hw1.below _ HB5.out.size (fun k hk e => by have := HYW.out; omega))
                    have qf := HF.out w1 hbz
                    have qr := qf.2.2.2.2.2.2.2.2
                    have sl := qf.2.2.2.2.2.1
                    have zl : Z < w1.heap.size := by have := hw1.size; have := HZL.out; omega
                    obtain ⟨PA, pc', tc', _, _, _, _, _, qh, _⟩ := qr.cells
                    have q3 := qh m hm2
                    clear qf qh qr hbz
                    clear hw1
                    go_simp <;> with_reducible rfl)
                 simp only [Act.put, List.setIfInBounds_toArray, List.set_cons_zero, List.set_cons_succ]))
            refine plan_end ?_
            obtain ⟨⟨e0, e1', e2', e3'⟩, el, g0, g1, g2', g3⟩ := in4_cells HYD.out
            have HY8 := Lib.hid (set_blk HYD.out 3 (.bool true))
            have HM8 := Lib.hid (HMD.out.setCell (p := ⟨Y, 3, none⟩) (fun _ => rfl) (.bool true))
            go_wp2_with fail
            go_meet
            exact ⟨Lib.hid (by rw [HY8.out, HEV.out]; simp [evCells]), HM8⟩
        · obtain ⟨⟨z0', z1', z2', z3'⟩, _⟩ := (And.intro HZC.out trivial)
          go_wp2_with fail
          go_meet
          exact ⟨Lib.hid (by rw [HY5.out]; simp [evCells, Pr.evOf]), Lib.hid (Mod.refl _ _)⟩
        · have hx := HOK.out.2.2.2.2.2.2.1
          have hxm := HOK.out.2.2.2.2.2.2.2.1
          simp only at hx hxm
          obtain ⟨m, rfl⟩ : ∃ m : Nat, ir = m := ⟨ir.toNat, by omega⟩
          have hm2 : m < 2 := by omega
          clear hx hxm
          have k5 : (0 : Int) ≤ (m : Int) := Int.natCast_nonneg _
          have k6 : (m : Int) < 2 := by omega
          obtain ⟨y, hy⟩ : ∃ y, y = x.r m := ⟨_, rfl⟩
          have HYR := Lib.hid hy
          clear hy
          go_upto_region 21 with fail
          refine wp_region_planF (by kernel_rfl) (fun u => Mod (fun k => k = Y) W5 u) [13] [(0, .pure), (1, .pure), (2, .pure), (3, .load), (4, .pure), (5, .pure), (6, .load), (7, .pure), (8, .pure), (9, .pure), (10, .load), (11, .pure), (12, .pure), (13, .last)] (by simp only [List.map_cons, List.map_nil, List.getElem?_toArray, List.getElem?_cons_succ, List.getElem?_cons_zero]; rfl) (by kernel_rfl) (fun _ _ d _ _ h => by cases d <;> exact h) ((Mod.refl _ _).drew) ?_
          obtain ⟨WD, hWD⟩ : ∃ z, z = W5.drew := ⟨_, rfl⟩
          rw [← hWD]
          have hmd : Mod (fun k => k = Y) W5 WD := by rw [hWD]; exact (Mod.refl _ _).drew
          have hyd : WD.heap[Y]? = some (.cells #[.int .i64 (t : Int), .int .i64 1, .int .i64 0, .bool false] 51 (0, 0)) := by rw [hWD]; exact HY5.out
          have HMD := Lib.hid hmd
          have HYD := Lib.hid hyd
          clear hWD hmd hyd
          by_cases hy0 : y = 0
          · have hev : Pr.evOf s t ⟨8, (m : Int), ix, im⟩ = ⟨t, 1, 0, true⟩ := by simp [Pr.evOf, HXT.out.1, ← HYR.out, hy0]
            have hd : (y == 0) = true := by simpa using hy0
            have HEV := Lib.hid hev
            clear hev
            repeat (first
              | (refine plan_pure (v := ?_) (by rfl) (fun w1 => ?_) ?_
                 rotate_left
                 · go_simp <;> with_reducible rfl
                 simp only [Act.put, List.setIfInBounds_toArray, List.set_cons_zero, List.set_cons_succ])
              | (refine plan_off (by rfl) ?_
                 simp only [Act.put, List.setIfInBounds_toArray, List.set_cons_zero, List.set_cons_succ])
              | (refine plan_load_off (by rfl) ?_
                 simp only [Act.put, List.setIfInBounds_toArray, List.set_cons_zero, List.set_cons_succ])
              | (refine plan_load (v := ?_) (by rfl) (fun w1 hw1 => ?_) ?_
                 rotate_left
                 · (have qz := (hw1.cell Z 1 HZL.out (by have := HYZ.out; omega)).trans HZC.out.2.1
                    have hbz : Below Wa.heap.size Wa w1 := HB5.out.trans (hw1.below _ HB5.out.size (fun k hk e => by have := HYW.out; omega))
                    have qf := HF.out w1 hbz
                    have qr := qf.2.2.2.2.2.2.2.2
                    have sl := qf.2.2.2.2.2.1
                    have zl : Z < w1.heap.size := by have := hw1.size; have := HZL.out; omega
                    have q3 := (qr.thread t x HXT.out.1).2.2 m hm2
                    rw [← HYR.out] at q3
                    have q4 := qf.1
                    have ql := qf.2.2.2.2.2.2.1
                    clear qf qr hbz
                    clear hw1
                    go_simp <;> with_reducible rfl)
                 simp only [Act.put, List.setIfInBounds_toArray, List.set_cons_zero, List.set_cons_succ]))
            obtain ⟨⟨e0, e1', e2', e3'⟩, el, g0, g1, g2', g3⟩ := in4_cells HYD.out
            have HY8 := Lib.hid (set_blk HYD.out 3 (.bool true))
            have HM8 := Lib.hid (HMD.out.setCell (p := ⟨Y, 3, none⟩) (fun _ => rfl) (.bool true))
            refine plan_last ?_
            go_wp2_with fail
            repeat (first
              | (refine plan_pure (v := ?_) (by rfl) (fun w1 => ?_) ?_
                 rotate_left
                 · go_simp <;> with_reducible rfl
                 simp only [Act.put, List.setIfInBounds_toArray, List.set_cons_zero, List.set_cons_succ])
              | (refine plan_off (by rfl) ?_
                 simp only [Act.put, List.setIfInBounds_toArray, List.set_cons_zero, List.set_cons_succ])
              | (refine plan_load_off (by rfl) ?_
                 simp only [Act.put, List.setIfInBounds_toArray, List.set_cons_zero, List.set_cons_succ])
              | (refine plan_load (v := ?_) (by rfl) (fun w1 hw1 => ?_) ?_
                 rotate_left
                 · (skip
                    clear hw1
                    go_simp <;> with_reducible rfl)
                 simp only [Act.put, List.setIfInBounds_toArray, List.set_cons_zero, List.set_cons_succ]))
            refine plan_end ?_
            go_wp2_with fail
            go_meet
            exact ⟨Lib.hid (by rw [HY8.out, HEV.out]; simp [evCells]), HM8⟩
          · have hev : Pr.evOf s t ⟨8, (m : Int), ix, im⟩ = ⟨t, 1, 0, false⟩ := by simp [Pr.evOf, HXT.out.1, ← HYR.out, hy0]
            have hd : (y == 0) = false := by simpa using hy0
            have HEV := Lib.hid hev
            clear hev
            repeat (first
              | (refine plan_pure (v := ?_) (by rfl) (fun w1 => ?_) ?_
                 rotate_left
                 · go_simp <;> with_reducible rfl
                 simp only [Act.put, List.setIfInBounds_toArray, List.set_cons_zero, List.set_cons_succ])
              | (refine plan_off (by rfl) ?_
                 simp only [Act.put, List.setIfInBounds_toArray, List.set_cons_zero, List.set_cons_succ])
              | (refine plan_load_off (by rfl) ?_
                 simp only [Act.put, List.setIfInBounds_toArray, List.set_cons_zero, List.set_cons_succ])
              | (refine plan_load (v := ?_) (by rfl) (fun w1 hw1 => ?_) ?_
                 rotate_left
                 · (have qz := (hw1.cell Z 1 HZL.out (by have := HYZ.out; omega)).trans HZC.out.2.1
                    have hbz : Below Wa.heap.size Wa w1 := HB5.out.trans (hw1.below _ HB5.out.size (fun k hk e => by have := HYW.out; omega))
                    have qf := HF.out w1 hbz
                    have qr := qf.2.2.2.2.2.2.2.2
                    have sl := qf.2.2.2.2.2.1
                    have zl : Z < w1.heap.size := by have := hw1.size; have := HZL.out; omega
                    have q3 := (qr.thread t x HXT.out.1).2.2 m hm2
                    rw [← HYR.out] at q3
                    have q4 := qf.1
                    have ql := qf.2.2.2.2.2.2.1
                    clear qf qr hbz
                    clear hw1
                    go_simp <;> with_reducible rfl)
                 simp only [Act.put, List.setIfInBounds_toArray, List.set_cons_zero, List.set_cons_succ]))
            obtain ⟨⟨e0, e1', e2', e3'⟩, el, g0, g1, g2', g3⟩ := in4_cells HYD.out
            have HY8 := Lib.hid (set_blk HYD.out 3 (.bool false))
            have HM8 := Lib.hid (HMD.out.setCell (p := ⟨Y, 3, none⟩) (fun _ => rfl) (.bool false))
            refine plan_last ?_
            go_wp2_with fail
            repeat (first
              | (refine plan_pure (v := ?_) (by rfl) (fun w1 => ?_) ?_
                 rotate_left
                 · go_simp <;> with_reducible rfl
                 simp only [Act.put, List.setIfInBounds_toArray, List.set_cons_zero, List.set_cons_succ])
              | (refine plan_off (by rfl) ?_
                 simp only [Act.put, List.setIfInBounds_toArray, List.set_cons_zero, List.set_cons_succ])
              | (refine plan_load_off (by rfl) ?_
                 simp only [Act.put, List.setIfInBounds_toArray, List.set_cons_zero, List.set_cons_succ])
              | (refine plan_load (v := ?_) (by rfl) (fun w1 hw1 => ?_) ?_
                 rotate_left
                 · (skip
                    clear hw1
                    go_simp <;> with_reducible rfl)
                 simp only [Act.put, List.setIfInBounds_toArray, List.set_cons_zero, List.set_cons_succ]))
            refine plan_end ?_
            go_wp2_with fail
            go_meet
            exact ⟨Lib.hid (by rw [HY8.out, HEV.out]; simp [evCells]), HM8⟩
      case rest =>
        obtain ⟨HYC, HMC⟩ := hcut
        obtain ⟨e, he⟩ : ∃ e, e = Pr.evOf s t ⟨ik, ir, ix, im⟩ := ⟨_, rfl⟩
        rw [← he] at HYC
        have hXc : wc.heap[X]? = _ := (HMC.out.block X (by have := HB5.out.size; have := blk_lt HXK.out; omega) (by have := HXZ.out; have := HYZ.out; omega)).trans ((HB5.out.block X (blk_lt HXK.out)).trans HXK.out)
        obtain ⟨V2, hV2, ⟨d0, d1', d2, d3⟩, hmv⟩ := in4_exit hXc (.int .i64 e.t) (.int .i64 e.k) (.int .i64 e.o) (.bool e.f)
        obtain ⟨⟨e0, e1', e2', e3'⟩, el, g0, g1, g2', g3⟩ := in4_cells hXc
        obtain ⟨⟨y0, y1, y2, y3⟩, yl, _⟩ := in4_cells HYC.out
        have HE := Lib.hid he
        have HV2 := Lib.hid hV2
        have HMV := Lib.hid hmv
        clear hV2 hmv he hXc
        go_wp2_with fail
        rw [← HV2.out]
        refine bodyPost_ret (v := .tuple #[.agg #[.int .i64 e.t, .int .i64 e.k, .int .i64 e.o, .bool e.f], .bool true]) (by simp [results, Tryz.results84, go_sem, d0, d1', d2, d3]) rfl ?_
        refine ⟨by rw [HNX.out, Option.getD_some, Option.isSome_some, ← HE.out]; rfl, ?_⟩
        have h1 := below_at HB.out HB5.out
        have h2 := h1.trans (HMC.out.below _ h1.size (fun k hk e => by have := HYW.out; have := HB.out.size; omega))
        exact h2.trans (HMV.out.below _ h2.size (fun k hk e => by have := HXW.out; omega))
    · have e2 : ¬ ((x.pc : Nat) : Int) < ((q.length : Nat) : Int) := by omega
      have e3 : ((q.length : Nat) : Int) ≤ ((x.pc : Nat) : Int) := by omega
      have e4 : q.length ≤ x.pc := by omega
      have e5 : decide (q.length ≤ x.pc) = true := decide_eq_true e4
      have HP := Lib.hid hpc
      clear hpc
      refine wp_region_planF (by kernel_rfl) (fun u => Below Wa.heap.size Wa u) [] [(0, .pure), (1, .pure), (2, .pure), (3, .pure), (4, .pure), (5, .pure), (6, .pure), (7, .load), (8, .pure), (9, .pure), (10, .pure), (11, .pure), (12, .pure), (13, .pure), (14, .pure), (15, .load), (16, .pure), (17, .pure), (18, .pure), (19, .load), (20, .pure), (21, .pure), (22, .pure), (23, .pure), (24, .pure), (25, .pure), (26, .load), (27, .pure), (28, .pure), (29, .pure), (30, .load), (31, .pure), (32, .pure), (33, .pure), (34, .pure), (35, .load), (36, .pure), (37, .pure), (38, .load), (39, .pure), (40, .pure), (41, .pure)] (by simp only [List.map_cons, List.map_nil, List.getElem?_toArray, List.getElem?_cons_succ, List.getElem?_cons_zero]; rfl) (by kernel_rfl) (fun _ _ d _ _ h => by cases d <;> exact h) ((Below.refl _ _).drew) ?_
      obtain ⟨Wd, hWd⟩ : ∃ z, z = Wa.drew := ⟨_, rfl⟩
      rw [← hWd]
      have hbd : Below Wa.heap.size Wa Wd := by rw [hWd]; exact (Below.refl _ _).drew
      have hX5 := (hbd.block X hXl).trans HXK.out
      have HBD := Lib.hid hbd
      clear hWd hbd
      repeat (first
        | (refine plan_pure (v := ?_) (by rfl) (fun w1 => ?_) ?_
           rotate_left
           · go_simp <;> with_reducible rfl
           simp only [Act.put, List.setIfInBounds_toArray, List.set_cons_zero, List.set_cons_succ])
        | (refine plan_off (by rfl) ?_
           simp only [Act.put, List.setIfInBounds_toArray, List.set_cons_zero, List.set_cons_succ])
        | (refine plan_load_off (by rfl) ?_
           simp only [Act.put, List.setIfInBounds_toArray, List.set_cons_zero, List.set_cons_succ])
        | (refine plan_load (v := ?_) (by rfl) (fun w1 hw1 => ?_) ?_
           rotate_left
           · (have qf := HF.out w1 (HWB.out.trans hw1)
              obtain ⟨c3, c2, t0, t1, ccode, sl, tl, gl, _⟩ := qf
              clear hw1
              go_simp <;> with_reducible rfl)
           simp only [Act.put, List.setIfInBounds_toArray, List.set_cons_zero, List.set_cons_succ]))
      refine plan_end ?_
      obtain ⟨V2, hV2, ⟨d0, d1', d2, d3⟩, hmv⟩ := in4_exit hX5 (.int .i64 0) (.int .i64 0) (.int .i64 0) (.bool false)
      obtain ⟨⟨e0, e1', e2, e3⟩, el, g0, g1, g2, g3⟩ := in4_cells hX5
      have HV2 := Lib.hid hV2
      have HMV := Lib.hid hmv
      clear hV2 hmv hX5
      go_wp2_with fail
      rw [← HV2.out]
      refine bodyPost_ret (v := .tuple #[.agg #[.int .i64 0, .int .i64 0, .int .i64 0, .bool false], .bool false]) (by simp [results, Tryz.results84, go_sem, d0, d1', d2, d3]) rfl ?_
      exact ⟨by rw [show Pr.next s t = none by unfold Pr.next; rw [HINS.out]; rw [if_neg HFU.out, List.getElem?_eq_none (by have := HP.out; omega)]; rfl]; rfl, (below_at HB.out HBD.out).trans (HMV.out.below _ (by have := HB.out.size; have := HBD.out.size; omega) (fun k hk e => by have := HXW.out; omega))⟩
end Go.Proofs.YtckdofjpoajblaaGreat
