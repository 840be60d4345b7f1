/- FoataMore: one event more behind a row stands in one level more of it, or one further level; all else stays. -/
import Derived.Test.YtgahjibjladafaaFoTells
import Derived.Test.YtgahjibjladafaaPlanT
import Derived.JoinedTies
import GoSem.Claim
import Derived.KernelRfl
namespace Go.Proofs.Ytgahjibjladafaa
open Go.RowKit
set_option linter.unusedVariables false

theorem more_facts (l : List Ev) (e : Ev) : ∃ (La Lb : List (List Ev)) (p : Nat), Fo.lev l = La ∧ Fo.lev (l ++ [e]) = Lb ∧ (Lb.length = La.length ∨ Lb.length = La.length + 1) ∧ p < Lb.length ∧ La.length ≤ l.length ∧
    (∀ (i : Nat) (q : List Ev), La[i]? = some q → q.length ≤ l.length) ∧ (∀ (i : Nat) (q : List Ev), Lb[i]? = some q → q.length ≤ l.length + 1) ∧
    ∀ (i : Nat) (q : List Ev), Lb[i]? = some q → ∃ old, (∀ o, La[i]? = some o → o = old) ∧ (La[i]? = none → old = []) ∧ (i ≠ p → q = old) ∧ (i = p → q.length = old.length + 1 ∧ q.filter (fun x => decide (x ≠ e)) = old) := by
  obtain ⟨h1, h2⟩ := Fo.more_len l e
  refine ⟨_, _, Fo.place (Fo.levU l) e, rfl, rfl, h1, h2, by rw [Fo.lev_len]; exact Fo.levU_len l, fun i q hq => ?_, fun i q hq => ?_, fun i q hq => ⟨(Fo.lev l).getD i [], fun o ho => ?_, fun ho => ?_, fun hi => ?_, fun hi => ?_⟩⟩
  · have := Fo.mem_len (List.mem_of_getElem? hq); have := (Fo.lev_flat l).length_eq; omega
  · have := Fo.mem_len (List.mem_of_getElem? hq); have := (Fo.lev_flat (l ++ [e])).length_eq; rw [List.length_append, List.length_singleton] at this; omega
  · rw [List.getD_eq_getElem?_getD, ho]; rfl
  · rw [List.getD_eq_getElem?_getD, ho]; rfl
  · obtain ⟨h3, rfl⟩ := List.getElem?_eq_some_iff.1 hq
    rw [Fo.more_at l e h3, if_neg hi]
  · obtain ⟨h3, rfl⟩ := List.getElem?_eq_some_iff.1 hq
    rw [Fo.more_at l e h3, if_pos hi]
    subst hi
    exact ⟨Fo.insT_len _ _, Fo.insT_filter (Fo.more_fresh l e)⟩

theorem lv_step {v v' : World} {B : Nat} {A : Option Addr} {L : List (List Ev)} (h : LvAt v B A L ∧ B ≤ v.heap.size) (hb : Below v.heap.size v v') : LvAt v' B A L ∧ B ≤ v'.heap.size :=
  ⟨h.1.below ⟨hb.os, hb.tape, hb.output, Nat.le_trans h.2 hb.size |> fun _ => hb.size, fun i hi => hb.block i (by have := h.2; omega)⟩, Nat.le_trans h.2 hb.size⟩
theorem lv_nil (w : World) (B : Nat) (A : Option Addr) : LvAt w B A [] := ⟨[], ⟨rfl, fun h => by simp at h⟩, fun i hi => (by cases hi)⟩
theorem blk_step {v v' : World} {Z : Nat} {o : Obj} (h : v.heap[Z]? = some o) (hb : Below v.heap.size v v') : v'.heap[Z]? = some o := (hb.block _ (blk_lt h)).trans h
theorem row_step {v v' : World} {e sz n cap : Nat} {A : Option Addr} {cs : List Value} (h : Row v e sz A n cap cs) (hb : Below v.heap.size v v') : Row v' e sz A n cap cs := h.mod (Mod.of_below_size hb (fun _ => False)) (fun _ _ h => h)

theorem rdb_at {w u : World} {sz n : Nat} {A : Option Addr} {cs : List Value} (h : RdB w w.heap.size sz A n cs) (hb : Below w.heap.size w u) : Rd u sz A n cs := (show Rd w sz A n cs from h).below hb (Nat.le_refl _)
/-- how many levels have grown among the first i -/
def grn (p i : Nat) : Int := if p < i then 1 else 0
theorem more_row {u : World} {A : Option Addr} {l : List Ev} {e : Ev} (h : Rd u 4 A (l.length + 1) (l.flatMap encE ++ [.int .i64 e.t, .int .i64 e.k, .int .i64 e.o, .bool e.f])) : Rd u 4 A (l.length + 1) ((l ++ [e]).flatMap encE) := by
  rw [List.flatMap_append]; simpa [encE] using h
theorem more_lv {v u : World} {B g o : Nat} {A1 : Option Addr} {La : List (List Ev)} {l : List Ev} (h : LvAt v B A1 La ∧ B ≤ v.heap.size) (hn : l = [] → La = []) (hg : l ≠ [] → B ≤ g) (hm : Mod (fun k => ∃ a, some (⟨g, o, none⟩ : Addr) = some a ∧ k = a.block) v u) : LvAt u B A1 La ∧ B ≤ u.heap.size := by
  refine ⟨?_, Nat.le_trans h.2 hm.size⟩
  by_cases hl : l = []
  · rw [hn hl]; exact lv_nil _ _ _
  · exact h.1.below (hm.below B h.2 (fun k hk ⟨a, e1, e2⟩ => by injection e1 with e1; subst e1; have := hg hl; simp only at e2; omega))
theorem more_below {W v u : World} {g o : Nat} (h : Below W.heap.size W v) (hg : W.heap.size ≤ g) (hm : Mod (fun k => ∃ a, some (⟨g, o, none⟩ : Addr) = some a ∧ k = a.block) v u) : Below W.heap.size W u :=
  ((Mod.of_below h).then hm (fun i hi ⟨a, e1, e2⟩ => by injection e1 with e1; subst e1; simp only at e2; omega)).below _ (Nat.le_refl _) (fun k hk h => by omega)

set_option maxRecDepth 100000 in
set_option maxHeartbeats 8000000 in
theorem foataMore_any (W : World) (A : Option Addr) (cap : Nat) (l : List Ev) (e : Ev) (hr : Rd W 4 A l.length (l.flatMap encE)) (hl : l.length ≤ maxLen) :
    Calls Try.prog 6 #[.slice A l.length cap, valE e] W fun x w' => x = .returned (.bool true) ∧ Below W.heap.size W w' := by
  have hm : l.length < 9223372036854775808 := by unfold maxLen at hl; omega
  obtain ⟨W1, X, hW1, hX, hBW, hXl, hXe⟩ := box_ev W e
  have hrd : ∀ u, Below W1.heap.size W1 u → Rd u 4 A l.length (l.flatMap encE) := fun u hu => hr.below (below_chain hBW hu (Nat.le_refl _)) (Nat.le_refl _)
  have hrows : l.length ≤ 60 → ∀ u, Below W1.heap.size W1 u → Calls Try.prog 25 #[.slice A l.length cap] u fun x w' => x = .returned (.bool (Fo.rights l)) ∧ Below u.heap.size u w' := fun h60 u hu => rows_any u A cap l (hrd u hu) (by omega)
  have hright : ∀ u, Calls Try.prog 27 #[valE e] u fun x w' => x = .returned (.bool (Fo.right e)) ∧ Below u.heap.size u w' := fun u => refRight_any u e
  obtain ⟨r, hrr⟩ : ∃ r, r = Fo.rights l := ⟨_, rfl⟩
  obtain ⟨re, hre⟩ : ∃ re, re = Fo.right e := ⟨_, rfl⟩
  rw [← hrr] at hrows
  rw [← hre] at hright
  have HRR := Lib.hid hrr
  have HRE := Lib.hid hre
  have HRD := Lib.hid hrd
  have HROWS := Lib.hid hrows
  have HRIGHT := Lib.hid hright
  have HXE := Lib.hid hXe
  have HBW := Lib.hid hBW
  clear hr hl hrd hrows hright hrr hre hXe hBW
  unfold valE
  unfold valE at HRIGHT
  go_enter Try.func6, Try.ntmps6
  go_upto_region 1 with fail
  rw [← hW1, ← hX]
  clear hW1 hX
  go_cut [29] (fun v w2 => Below W1.heap.size W1 w2 ∧ ∃ b, v = .bool b ∧ (b = false → l.length ≤ 60 ∧ r = true ∧ re = true))
  case first =>
    go_wp2_with fail
    refine (awake05 _).mono ?_
    rintro x w1 ⟨rfl, b1⟩
    have HB1 := Lib.hid b1
    by_cases h60 : l.length ≤ 60
    · have HR1 := Lib.hid (HROWS.out h60 w1 b1)
      clear b1
      have hd : decide (60 < l.length) = false := by simp; omega
      go_wp2_with fail
      refine HR1.out.mono ?_
      rintro x w2 ⟨rfl, b2⟩
      have HB2 := Lib.hid (below_at HB1.out b2)
      obtain ⟨x0, x1, x2, x3⟩ := HXE.out w2 HB2.out
      clear b2
      cases r with
      | false =>
        go_wp2_with fail
        go_meet
        exact ⟨HB2.out, _, rfl, fun h => by cases h⟩
      | true =>
        go_wp2_with fail
        refine (HRIGHT.out w2).mono ?_
        rintro x w3 ⟨rfl, b3⟩
        go_wp2_with fail
        go_meet
        exact ⟨below_at HB2.out b3, _, rfl, fun h => ⟨h60, by trivial, by cases re <;> simp_all⟩⟩
    · clear b1
      have hd : decide (60 < l.length) = true := by simp; omega
      go_wp2_with fail
      go_meet
      exact ⟨HB1.out, _, rfl, fun h => by cases h⟩
  case rest =>
    obtain ⟨b1, b, rfl, hb⟩ := hcut
    have HB1 := Lib.hid b1
    clear b1
    cases b with
    | true =>
      go_wp2_with fail
      refine (awake05 _).mono ?_
      rintro x w2 ⟨rfl, b2⟩
      go_wp2_with fail
      go_ret
      exact ⟨rfl, below_chain HBW.out (below_at HB1.out b2) (Nat.le_refl _)⟩
    | false =>
      obtain ⟨h60, rfl, rfl⟩ := hb rfl
      clear hb
      obtain ⟨La, Lb, p, hLa, hLb, hlen, hp, hla, hqa, hqb, hlev⟩ := more_facts l e
      have hra : Fo.levR l = La := by rw [← hLa]; unfold Fo.levR Fo.okRow; rw [if_pos (by rw [← HRR.out]; simp; omega)]
      have hrb : Fo.levR (l ++ [e]) = Lb := by rw [← hLb]; unfold Fo.levR Fo.okRow; rw [if_pos (by rw [rights_snoc, ← HRR.out, ← HRE.out]; simp; omega)]
      have hne : l = [] → La = [] := fun h => by rw [← hLa, h]; rfl
      have hca : ∀ u, Below W1.heap.size W1 u → Calls Try.prog 13 #[.slice A l.length cap] u (LvOut u La) := fun u hu => hra ▸ levels_any u A cap l (HRD.out u hu) (by omega)
      have hcb : ∀ (u : World) (A' : Option Addr) (cap' : Nat), Rd u 4 A' (l.length + 1) ((l ++ [e]).flatMap encE) → Calls Try.prog 13 #[.slice A' (l.length + 1) cap'] u (LvOut u Lb) := fun u A' cap' hu => by
        have hz : (l ++ [e]).length = l.length + 1 := by rw [List.length_append]; rfl
        have := levels_any u A' cap' (l ++ [e]) (by rw [hz]; exact hu) (by rw [hz]; omega)
        rw [hrb, hz] at this
        exact this
      have HCA := Lib.hid hca
      have HCB := Lib.hid hcb
      have HNE := Lib.hid hne
      have HLEN := Lib.hid hlen
      have HQA := Lib.hid hqa
      have HQB := Lib.hid hqb
      have HLEV := Lib.hid hlev
      clear hLa hLb hra hrb hne hca hcb hlen hqa hqb hlev HRIGHT HROWS HRR HRE
      obtain ⟨i0, hi0, hz0, hz1, hz2⟩ := info_parts Try.infoEv
      go_upto_region 3 with fail
      go_cut [5, 6] (fun v5 v6 w2 => ∃ A1 cap1 A2 cap2, v5 = .slice A1 La.length cap1 ∧ v6 = .slice A2 Lb.length cap2 ∧ Hid (LvAt w2 w2.heap.size A1 La) ∧ Hid (LvAt w2 w2.heap.size A2 Lb) ∧ Hid (Below W1.heap.size W1 w2))
      case first =>
        have hS : EvAt wc.drew X 0 e := HXE.out _ HB1.out.drew
        refine wp_region_pt (by kernel_rfl) (fun u => EvAt u X 0 e) [] (.cons 0 .pure (.cons 3 .pure (.cons 5 .load (.fork3 1 (.fork 2 (.fork 4 (.cons 6 .eff (.cons 7 .eff (.cons 8 .eff (.cons 9 .pure (.cons 10 .pure .nil))))) 6 (.cons 4 .eff (.cons 7 .eff (.cons 8 .eff (.cons 9 .pure (.cons 10 .pure .nil)))))) 6 (.cons 2 .eff (.cons 4 .eff (.cons 7 .eff (.cons 8 .eff (.cons 9 .pure (.cons 10 .pure .nil))))))) 2 (.fork 1 (.fork 4 (.cons 6 .eff (.cons 7 .eff (.cons 8 .eff (.cons 9 .pure (.cons 10 .pure .nil))))) 6 (.cons 4 .eff (.cons 7 .eff (.cons 8 .eff (.cons 9 .pure (.cons 10 .pure .nil)))))) 6 (.cons 1 .eff (.cons 4 .eff (.cons 7 .eff (.cons 8 .eff (.cons 9 .pure (.cons 10 .pure .nil))))))) 6 (.fork 1 (.cons 2 .eff (.cons 4 .eff (.cons 7 .eff (.cons 8 .eff (.cons 9 .pure (.cons 10 .pure .nil)))))) 2 (.cons 1 .eff (.cons 4 .eff (.cons 7 .eff (.cons 8 .eff (.cons 9 .pure (.cons 10 .pure .nil))))))))))) (by simp only [PT.map, List.getElem?_toArray, List.getElem?_cons_succ, List.getElem?_cons_zero]; rfl) (by kernel_rfl) (fun _ _ d _ _ h => by cases d <;> exact h) (hS) ?_
        clear hS
        have HB := Lib.hid HB1.out.drew
        obtain ⟨v, hv⟩ : ∃ v, v = wc.drew := ⟨_, rfl⟩
        rw [← hv] at HB ⊢
        clear hv HB1
        repeat (first
          | (refine pt_pure (v := ?_) (by rfl) (fun w1 => ?_) ?_
             rotate_left
             · go_simp <;> with_reducible rfl
             simp only [Act.put, List.setIfInBounds_toArray, List.set_cons_zero, List.set_cons_succ])
          | (refine pt_off (by rfl) ?_
             simp only [Act.put, List.setIfInBounds_toArray, List.set_cons_zero, List.set_cons_succ])
          | (refine pt_load_off (by rfl) ?_
             simp only [Act.put, List.setIfInBounds_toArray, List.set_cons_zero, List.set_cons_succ])
          | (refine pt_load (v := ?_) (by rfl) (fun w1 hw1 => ?_) ?_
             rotate_left
             · (have x0 := hw1.1
                have x1 := hw1.2.1
                have x2 := hw1.2.2.1
                have x3 := hw1.2.2.2
                simp only [Nat.zero_add] at x1 x2 x3
                clear hw1
                go_simp <;> with_reducible rfl)
             simp only [Act.put, List.setIfInBounds_toArray, List.set_cons_zero, List.set_cons_succ]))
        refine pt_fork3 ?_ ?_ ?_
        · go_wp2_with fail
          refine (HCA.out _ HB.out).mono ?_
          rintro x v ⟨A1, cap1, rfl, hlv, hb⟩
          obtain ⟨B1, hB1⟩ : ∃ B1, B1 = v.heap.size := ⟨_, rfl⟩
          rw [← hB1] at hlv
          have H1 := Lib.hid (And.intro hlv (Nat.le_of_eq hB1))
          have HB := Lib.hid (below_at HB.out hb)
          (try have H2 := Lib.hid (And.intro (blk_step H2.out.1 hb) H2.out.2))
          (try have H6 := Lib.hid (blk_step H6.out hb))
          clear hlv hb hB1
          go_wp2_with fail
          refine pt_on (fun u h => h) (HXE.out _ HB.out) ?_
          refine pt_fork ?_ ?_
          · go_wp2_with fail
            obtain ⟨Z, hZ⟩ : ∃ Z, Z = v.heap.size := ⟨_, rfl⟩
            obtain ⟨u, hu⟩ : ∃ u, u = v.alloc (Obj.cells #[] 39) := ⟨_, rfl⟩
            rw [← hu, ← hZ]
            have hb : Below v.heap.size v u := by rw [hu]; exact (Below.refl _ _).alloc (Nat.le_refl _) _
            have hk : u.heap[Z]? = some (.cells #[] 39 (0, 0)) := by rw [hu, hZ]; exact heap_alloc_new v _
            have H2 := Lib.hid (And.intro hk (show W1.heap.size ≤ Z by rw [hZ]; exact HB.out.size))
            have HB := Lib.hid (below_at HB.out hb)
            (try have H1 := Lib.hid (lv_step H1.out hb))
            (try have H4 := Lib.hid (And.intro (row_step H4.out.1 hb) H4.out.2))
            (try have H6 := Lib.hid (blk_step H6.out hb))
            clear hb hk hu hZ
            rename World => v
            refine pt_on (fun u h => h) (HXE.out _ HB.out) ?_
            refine pt_fork ?_ ?_
            · have HR := Lib.hid (HRD.out v HB.out)
              have HE := Lib.hid (row_empty (sz := 4) H2.out.1)
              go_wp2_with (at_builtin; refine wpList_append_copy (by rfl) _ _ _ (by rfl) 39 i0 _ 4 32 Try.underlying22 hi0 hz0 hz1 hz2 rfl (by omega) ⟨Z, 0, none⟩ 0 [] (by rfl) HE.out A l.length cap (l.flatMap encE) (by rfl) HR.out (by unfold maxLen; omega) (by omega) ?_; intro g7 o7 cap7 u hown hb hgz)
              rw [Nat.zero_add, List.nil_append] at hown
              have hg1 : W1.heap.size ≤ g7 := by rcases hgz with ⟨_, h⟩ | h; (rw [h]; exact H2.out.2); exact Nat.le_trans HB.out.size h
              have hg2 : l ≠ [] → B1 ≤ g7 := fun hn => by rcases hgz with ⟨h, _⟩ | h; (exact (hn (List.eq_nil_of_length_eq_zero h)).elim); exact Nat.le_trans H1.out.2 h
              have H4 := Lib.hid (And.intro hown (And.intro hg1 hg2))
              have HB := Lib.hid (below_at HB.out hb)
              (try have H1 := Lib.hid (lv_step H1.out hb))
              (try have H6 := Lib.hid (blk_step H6.out hb))
              clear hown hb hgz hg1 hg2 HR HE
              rename World => v
              refine pt_on (fun u h => h) (HXE.out _ HB.out) ?_
              refine pt_eff ?_
              go_wp2_with fail
              obtain ⟨Y, hZ⟩ : ∃ Z, Z = v.heap.size := ⟨_, rfl⟩
              obtain ⟨u, hu⟩ : ∃ u, u = v.alloc (Obj.cells #[.int .i64 e.t, .int .i64 e.k, .int .i64 e.o, .bool e.f] 39) := ⟨_, rfl⟩
              rw [← hu, ← hZ]
              have hb : Below v.heap.size v u := by rw [hu]; exact (Below.refl _ _).alloc (Nat.le_refl _) _
              have hk : u.heap[Y]? = some (.cells #[.int .i64 e.t, .int .i64 e.k, .int .i64 e.o, .bool e.f] 39 (0, 0)) := by rw [hu, hZ]; exact heap_alloc_new v _
              have H6 := Lib.hid hk
              have HB := Lib.hid (below_at HB.out hb)
              (try have H1 := Lib.hid (lv_step H1.out hb))
              (try have H2 := Lib.hid (And.intro (blk_step H2.out.1 hb) H2.out.2))
              (try have H4 := Lib.hid (And.intro (row_step H4.out.1 hb) H4.out.2))
              clear hb hk hu hZ
              rename World => v
              refine pt_on (fun u h => h) (HXE.out _ HB.out) ?_
              refine pt_eff ?_
              go_wp2_with (at_builtin; refine wpList_append_row (by rfl) _ _ _ (by rfl) 39 i0 _ 4 32 Try.underlying22 hi0 hz0 hz1 hz2 rfl (by omega) (some ⟨g7, o7, none⟩) l.length cap7 (l.flatMap encE) (by rfl) H4.out.1 ⟨Y, 0, none⟩ 1 1 [.int .i64 e.t, .int .i64 e.k, .int .i64 e.o, .bool e.f] (by rfl) (by rfl) (World.news_of_block (cs := #[.int .i64 e.t, .int .i64 e.k, .int .i64 e.o, .bool e.f]) (t := 39) (fr := (0, 0)) H6.out) (by simp [Value.oneCell']) (by omega) (by unfold maxLen; omega) (by omega) ?_; intro g8 o8 cap8 u hown hm hat)
              have H7 := Lib.hid (show Rd u 4 (some ⟨g8, o8, none⟩) (l.length + 1) ((l ++ [e]).flatMap encE) from more_row hown.rd)
              have H1 := Lib.hid (more_lv H1.out HNE.out H4.out.2.2 hm)
              have HB := Lib.hid (more_below HB.out H4.out.2.1 hm)
              clear hown hm hat
              rename World => v
              refine pt_on (fun u h => h) (HXE.out _ HB.out) ?_
              refine pt_eff ?_
              go_wp2_with fail
              refine (HCB.out _ _ _ H7.out).mono ?_
              rintro x v ⟨A2, cap2, rfl, hlv, hb⟩
              have H8 := Lib.hid hlv
              have HB := Lib.hid (below_at HB.out hb)
              (try have H1 := Lib.hid (lv_step H1.out hb))
              clear hlv hb
              go_wp2_with fail
              refine pt_on (fun u h => h) (HXE.out _ HB.out) ?_
              repeat (first
                | (refine pt_pure (v := ?_) (by rfl) (fun w1 => ?_) ?_
                   rotate_left
                   · go_simp <;> with_reducible rfl
                   simp only [Act.put, List.setIfInBounds_toArray, List.set_cons_zero, List.set_cons_succ])
                | (refine pt_off (by rfl) ?_
                   simp only [Act.put, List.setIfInBounds_toArray, List.set_cons_zero, List.set_cons_succ])
                | (refine pt_load_off (by rfl) ?_
                   simp only [Act.put, List.setIfInBounds_toArray, List.set_cons_zero, List.set_cons_succ])
                | (refine pt_load (v := ?_) (by rfl) (fun w1 hw1 => ?_) ?_
                   rotate_left
                   · (skip
                      clear hw1
                      go_simp <;> with_reducible rfl)
                   simp only [Act.put, List.setIfInBounds_toArray, List.set_cons_zero, List.set_cons_succ]))
              refine pt_end ?_
              go_wp2_with fail
              go_meet
              exact ⟨A1, cap1, A2, cap2, rfl, rfl, Lib.hid (H1.out.1.mono H1.out.2), H8, HB⟩
            · go_wp2_with fail
              obtain ⟨Y, hZ⟩ : ∃ Z, Z = v.heap.size := ⟨_, rfl⟩
              obtain ⟨u, hu⟩ : ∃ u, u = v.alloc (Obj.cells #[.int .i64 e.t, .int .i64 e.k, .int .i64 e.o, .bool e.f] 39) := ⟨_, rfl⟩
              rw [← hu, ← hZ]
              have hb : Below v.heap.size v u := by rw [hu]; exact (Below.refl _ _).alloc (Nat.le_refl _) _
              have hk : u.heap[Y]? = some (.cells #[.int .i64 e.t, .int .i64 e.k, .int .i64 e.o, .bool e.f] 39 (0, 0)) := by rw [hu, hZ]; exact heap_alloc_new v _
              have H6 := Lib.hid hk
              have HB := Lib.hid (below_at HB.out hb)
              (try have H1 := Lib.hid (lv_step H1.out hb))
              (try have H2 := Lib.hid (And.intro (blk_step H2.out.1 hb) H2.out.2))
              (try have H4 := Lib.hid (And.intro (row_step H4.out.1 hb) H4.out.2))
              clear hb hk hu hZ
              rename World => v
              refine pt_on (fun u h => h) (HXE.out _ HB.out) ?_
              refine pt_eff ?_
              have HR := Lib.hid (HRD.out v HB.out)
              have HE := Lib.hid (row_empty (sz := 4) H2.out.1)
              go_wp2_with (at_builtin; refine wpList_append_copy (by rfl) _ _ _ (by rfl) 39 i0 _ 4 32 Try.underlying22 hi0 hz0 hz1 hz2 rfl (by omega) ⟨Z, 0, none⟩ 0 [] (by rfl) HE.out A l.length cap (l.flatMap encE) (by rfl) HR.out (by unfold maxLen; omega) (by omega) ?_; intro g7 o7 cap7 u hown hb hgz)
              rw [Nat.zero_add, List.nil_append] at hown
              have hg1 : W1.heap.size ≤ g7 := by rcases hgz with ⟨_, h⟩ | h; (rw [h]; exact H2.out.2); exact Nat.le_trans HB.out.size h
              have hg2 : l ≠ [] → B1 ≤ g7 := fun hn => by rcases hgz with ⟨h, _⟩ | h; (exact (hn (List.eq_nil_of_length_eq_zero h)).elim); exact Nat.le_trans H1.out.2 h
              have H4 := Lib.hid (And.intro hown (And.intro hg1 hg2))
              have HB := Lib.hid (below_at HB.out hb)
              (try have H1 := Lib.hid (lv_step H1.out hb))
              (try have H6 := Lib.hid (blk_step H6.out hb))
              clear hown hb hgz hg1 hg2 HR HE
              rename World => v
              refine pt_on (fun u h => h) (HXE.out _ HB.out) ?_
              refine pt_eff ?_
              go_wp2_with (at_builtin; refine wpList_append_row (by rfl) _ _ _ (by rfl) 39 i0 _ 4 32 Try.underlying22 hi0 hz0 hz1 hz2 rfl (by omega) (some ⟨g7, o7, none⟩) l.length cap7 (l.flatMap encE) (by rfl) H4.out.1 ⟨Y, 0, none⟩ 1 1 [.int .i64 e.t, .int .i64 e.k, .int .i64 e.o, .bool e.f] (by rfl) (by rfl) (World.news_of_block (cs := #[.int .i64 e.t, .int .i64 e.k, .int .i64 e.o, .bool e.f]) (t := 39) (fr := (0, 0)) H6.out) (by simp [Value.oneCell']) (by omega) (by unfold maxLen; omega) (by omega) ?_; intro g8 o8 cap8 u hown hm hat)
              have H7 := Lib.hid (show Rd u 4 (some ⟨g8, o8, none⟩) (l.length + 1) ((l ++ [e]).flatMap encE) from more_row hown.rd)
              have H1 := Lib.hid (more_lv H1.out HNE.out H4.out.2.2 hm)
              have HB := Lib.hid (more_below HB.out H4.out.2.1 hm)
              clear hown hm hat
              rename World => v
              refine pt_on (fun u h => h) (HXE.out _ HB.out) ?_
              refine pt_eff ?_
              go_wp2_with fail
              refine (HCB.out _ _ _ H7.out).mono ?_
              rintro x v ⟨A2, cap2, rfl, hlv, hb⟩
              have H8 := Lib.hid hlv
              have HB := Lib.hid (below_at HB.out hb)
              (try have H1 := Lib.hid (lv_step H1.out hb))
              clear hlv hb
              go_wp2_with fail
              refine pt_on (fun u h => h) (HXE.out _ HB.out) ?_
              repeat (first
                | (refine pt_pure (v := ?_) (by rfl) (fun w1 => ?_) ?_
                   rotate_left
                   · go_simp <;> with_reducible rfl
                   simp only [Act.put, List.setIfInBounds_toArray, List.set_cons_zero, List.set_cons_succ])
                | (refine pt_off (by rfl) ?_
                   simp only [Act.put, List.setIfInBounds_toArray, List.set_cons_zero, List.set_cons_succ])
                | (refine pt_load_off (by rfl) ?_
                   simp only [Act.put, List.setIfInBounds_toArray, List.set_cons_zero, List.set_cons_succ])
                | (refine pt_load (v := ?_) (by rfl) (fun w1 hw1 => ?_) ?_
                   rotate_left
                   · (skip
                      clear hw1
                      go_simp <;> with_reducible rfl)
                   simp only [Act.put, List.setIfInBounds_toArray, List.set_cons_zero, List.set_cons_succ]))
              refine pt_end ?_
              go_wp2_with fail
              go_meet
              exact ⟨A1, cap1, A2, cap2, rfl, rfl, Lib.hid (H1.out.1.mono H1.out.2), H8, HB⟩
          · go_wp2_with fail
            obtain ⟨Y, hZ⟩ : ∃ Z, Z = v.heap.size := ⟨_, rfl⟩
            obtain ⟨u, hu⟩ : ∃ u, u = v.alloc (Obj.cells #[.int .i64 e.t, .int .i64 e.k, .int .i64 e.o, .bool e.f] 39) := ⟨_, rfl⟩
            rw [← hu, ← hZ]
            have hb : Below v.heap.size v u := by rw [hu]; exact (Below.refl _ _).alloc (Nat.le_refl _) _
            have hk : u.heap[Y]? = some (.cells #[.int .i64 e.t, .int .i64 e.k, .int .i64 e.o, .bool e.f] 39 (0, 0)) := by rw [hu, hZ]; exact heap_alloc_new v _
            have H6 := Lib.hid hk
            have HB := Lib.hid (below_at HB.out hb)
            (try have H1 := Lib.hid (lv_step H1.out hb))
            (try have H2 := Lib.hid (And.intro (blk_step H2.out.1 hb) H2.out.2))
            (try have H4 := Lib.hid (And.intro (row_step H4.out.1 hb) H4.out.2))
            clear hb hk hu hZ
            rename World => v
            refine pt_on (fun u h => h) (HXE.out _ HB.out) ?_
            refine pt_eff ?_
            go_wp2_with fail
            obtain ⟨Z, hZ⟩ : ∃ Z, Z = v.heap.size := ⟨_, rfl⟩
            obtain ⟨u, hu⟩ : ∃ u, u = v.alloc (Obj.cells #[] 39) := ⟨_, rfl⟩
            rw [← hu, ← hZ]
            have hb : Below v.heap.size v u := by rw [hu]; exact (Below.refl _ _).alloc (Nat.le_refl _) _
            have hk : u.heap[Z]? = some (.cells #[] 39 (0, 0)) := by rw [hu, hZ]; exact heap_alloc_new v _
            have H2 := Lib.hid (And.intro hk (show W1.heap.size ≤ Z by rw [hZ]; exact HB.out.size))
            have HB := Lib.hid (below_at HB.out hb)
            (try have H1 := Lib.hid (lv_step H1.out hb))
            (try have H4 := Lib.hid (And.intro (row_step H4.out.1 hb) H4.out.2))
            (try have H6 := Lib.hid (blk_step H6.out hb))
            clear hb hk hu hZ
            rename World => v
            refine pt_on (fun u h => h) (HXE.out _ HB.out) ?_
            refine pt_eff ?_
            have HR := Lib.hid (HRD.out v HB.out)
            have HE := Lib.hid (row_empty (sz := 4) H2.out.1)
            go_wp2_with (at_builtin; refine wpList_append_copy (by rfl) _ _ _ (by rfl) 39 i0 _ 4 32 Try.underlying22 hi0 hz0 hz1 hz2 rfl (by omega) ⟨Z, 0, none⟩ 0 [] (by rfl) HE.out A l.length cap (l.flatMap encE) (by rfl) HR.out (by unfold maxLen; omega) (by omega) ?_; intro g7 o7 cap7 u hown hb hgz)
            rw [Nat.zero_add, List.nil_append] at hown
            have hg1 : W1.heap.size ≤ g7 := by rcases hgz with ⟨_, h⟩ | h; (rw [h]; exact H2.out.2); exact Nat.le_trans HB.out.size h
            have hg2 : l ≠ [] → B1 ≤ g7 := fun hn => by rcases hgz with ⟨h, _⟩ | h; (exact (hn (List.eq_nil_of_length_eq_zero h)).elim); exact Nat.le_trans H1.out.2 h
            have H4 := Lib.hid (And.intro hown (And.intro hg1 hg2))
            have HB := Lib.hid (below_at HB.out hb)
            (try have H1 := Lib.hid (lv_step H1.out hb))
            (try have H6 := Lib.hid (blk_step H6.out hb))
            clear hown hb hgz hg1 hg2 HR HE
            rename World => v
            refine pt_on (fun u h => h) (HXE.out _ HB.out) ?_
            refine pt_eff ?_
            go_wp2_with (at_builtin; refine wpList_append_row (by rfl) _ _ _ (by rfl) 39 i0 _ 4 32 Try.underlying22 hi0 hz0 hz1 hz2 rfl (by omega) (some ⟨g7, o7, none⟩) l.length cap7 (l.flatMap encE) (by rfl) H4.out.1 ⟨Y, 0, none⟩ 1 1 [.int .i64 e.t, .int .i64 e.k, .int .i64 e.o, .bool e.f] (by rfl) (by rfl) (World.news_of_block (cs := #[.int .i64 e.t, .int .i64 e.k, .int .i64 e.o, .bool e.f]) (t := 39) (fr := (0, 0)) H6.out) (by simp [Value.oneCell']) (by omega) (by unfold maxLen; omega) (by omega) ?_; intro g8 o8 cap8 u hown hm hat)
            have H7 := Lib.hid (show Rd u 4 (some ⟨g8, o8, none⟩) (l.length + 1) ((l ++ [e]).flatMap encE) from more_row hown.rd)
            have H1 := Lib.hid (more_lv H1.out HNE.out H4.out.2.2 hm)
            have HB := Lib.hid (more_below HB.out H4.out.2.1 hm)
            clear hown hm hat
            rename World => v
            refine pt_on (fun u h => h) (HXE.out _ HB.out) ?_
            refine pt_eff ?_
            go_wp2_with fail
            refine (HCB.out _ _ _ H7.out).mono ?_
            rintro x v ⟨A2, cap2, rfl, hlv, hb⟩
            have H8 := Lib.hid hlv
            have HB := Lib.hid (below_at HB.out hb)
            (try have H1 := Lib.hid (lv_step H1.out hb))
            clear hlv hb
            go_wp2_with fail
            refine pt_on (fun u h => h) (HXE.out _ HB.out) ?_
            repeat (first
              | (refine pt_pure (v := ?_) (by rfl) (fun w1 => ?_) ?_
                 rotate_left
                 · go_simp <;> with_reducible rfl
                 simp only [Act.put, List.setIfInBounds_toArray, List.set_cons_zero, List.set_cons_succ])
              | (refine pt_off (by rfl) ?_
                 simp only [Act.put, List.setIfInBounds_toArray, List.set_cons_zero, List.set_cons_succ])
              | (refine pt_load_off (by rfl) ?_
                 simp only [Act.put, List.setIfInBounds_toArray, List.set_cons_zero, List.set_cons_succ])
              | (refine pt_load (v := ?_) (by rfl) (fun w1 hw1 => ?_) ?_
                 rotate_left
                 · (skip
                    clear hw1
                    go_simp <;> with_reducible rfl)
                 simp only [Act.put, List.setIfInBounds_toArray, List.set_cons_zero, List.set_cons_succ]))
            refine pt_end ?_
            go_wp2_with fail
            go_meet
            exact ⟨A1, cap1, A2, cap2, rfl, rfl, Lib.hid (H1.out.1.mono H1.out.2), H8, HB⟩
        · go_wp2_with fail
          obtain ⟨Z, hZ⟩ : ∃ Z, Z = v.heap.size := ⟨_, rfl⟩
          obtain ⟨u, hu⟩ : ∃ u, u = v.alloc (Obj.cells #[] 39) := ⟨_, rfl⟩
          rw [← hu, ← hZ]
          have hb : Below v.heap.size v u := by rw [hu]; exact (Below.refl _ _).alloc (Nat.le_refl _) _
          have hk : u.heap[Z]? = some (.cells #[] 39 (0, 0)) := by rw [hu, hZ]; exact heap_alloc_new v _
          have H2 := Lib.hid (And.intro hk (show W1.heap.size ≤ Z by rw [hZ]; exact HB.out.size))
          have HB := Lib.hid (below_at HB.out hb)
          (try have H1 := Lib.hid (lv_step H1.out hb))
          (try have H4 := Lib.hid (And.intro (row_step H4.out.1 hb) H4.out.2))
          (try have H6 := Lib.hid (blk_step H6.out hb))
          clear hb hk hu hZ
          rename World => v
          refine pt_on (fun u h => h) (HXE.out _ HB.out) ?_
          refine pt_fork ?_ ?_
          · go_wp2_with fail
            refine (HCA.out _ HB.out).mono ?_
            rintro x v ⟨A1, cap1, rfl, hlv, hb⟩
            obtain ⟨B1, hB1⟩ : ∃ B1, B1 = v.heap.size := ⟨_, rfl⟩
            rw [← hB1] at hlv
            have H1 := Lib.hid (And.intro hlv (Nat.le_of_eq hB1))
            have HB := Lib.hid (below_at HB.out hb)
            (try have H2 := Lib.hid (And.intro (blk_step H2.out.1 hb) H2.out.2))
            (try have H6 := Lib.hid (blk_step H6.out hb))
            clear hlv hb hB1
            go_wp2_with fail
            refine pt_on (fun u h => h) (HXE.out _ HB.out) ?_
            refine pt_fork ?_ ?_
            · have HR := Lib.hid (HRD.out v HB.out)
              have HE := Lib.hid (row_empty (sz := 4) H2.out.1)
              go_wp2_with (at_builtin; refine wpList_append_copy (by rfl) _ _ _ (by rfl) 39 i0 _ 4 32 Try.underlying22 hi0 hz0 hz1 hz2 rfl (by omega) ⟨Z, 0, none⟩ 0 [] (by rfl) HE.out A l.length cap (l.flatMap encE) (by rfl) HR.out (by unfold maxLen; omega) (by omega) ?_; intro g7 o7 cap7 u hown hb hgz)
              rw [Nat.zero_add, List.nil_append] at hown
              have hg1 : W1.heap.size ≤ g7 := by rcases hgz with ⟨_, h⟩ | h; (rw [h]; exact H2.out.2); exact Nat.le_trans HB.out.size h
              have hg2 : l ≠ [] → B1 ≤ g7 := fun hn => by rcases hgz with ⟨h, _⟩ | h; (exact (hn (List.eq_nil_of_length_eq_zero h)).elim); exact Nat.le_trans H1.out.2 h
              have H4 := Lib.hid (And.intro hown (And.intro hg1 hg2))
              have HB := Lib.hid (below_at HB.out hb)
              (try have H1 := Lib.hid (lv_step H1.out hb))
              (try have H6 := Lib.hid (blk_step H6.out hb))
              clear hown hb hgz hg1 hg2 HR HE
              rename World => v
              refine pt_on (fun u h => h) (HXE.out _ HB.out) ?_
              refine pt_eff ?_
              go_wp2_with fail
              obtain ⟨Y, hZ⟩ : ∃ Z, Z = v.heap.size := ⟨_, rfl⟩
              obtain ⟨u, hu⟩ : ∃ u, u = v.alloc (Obj.cells #[.int .i64 e.t, .int .i64 e.k, .int .i64 e.o, .bool e.f] 39) := ⟨_, rfl⟩
              rw [← hu, ← hZ]
              have hb : Below v.heap.size v u := by rw [hu]; exact (Below.refl _ _).alloc (Nat.le_refl _) _
              have hk : u.heap[Y]? = some (.cells #[.int .i64 e.t, .int .i64 e.k, .int .i64 e.o, .bool e.f] 39 (0, 0)) := by rw [hu, hZ]; exact heap_alloc_new v _
              have H6 := Lib.hid hk
              have HB := Lib.hid (below_at HB.out hb)
              (try have H1 := Lib.hid (lv_step H1.out hb))
              (try have H2 := Lib.hid (And.intro (blk_step H2.out.1 hb) H2.out.2))
              (try have H4 := Lib.hid (And.intro (row_step H4.out.1 hb) H4.out.2))
              clear hb hk hu hZ
              rename World => v
              refine pt_on (fun u h => h) (HXE.out _ HB.out) ?_
              refine pt_eff ?_
              go_wp2_with (at_builtin; refine wpList_append_row (by rfl) _ _ _ (by rfl) 39 i0 _ 4 32 Try.underlying22 hi0 hz0 hz1 hz2 rfl (by omega) (some ⟨g7, o7, none⟩) l.length cap7 (l.flatMap encE) (by rfl) H4.out.1 ⟨Y, 0, none⟩ 1 1 [.int .i64 e.t, .int .i64 e.k, .int .i64 e.o, .bool e.f] (by rfl) (by rfl) (World.news_of_block (cs := #[.int .i64 e.t, .int .i64 e.k, .int .i64 e.o, .bool e.f]) (t := 39) (fr := (0, 0)) H6.out) (by simp [Value.oneCell']) (by omega) (by unfold maxLen; omega) (by omega) ?_; intro g8 o8 cap8 u hown hm hat)
              have H7 := Lib.hid (show Rd u 4 (some ⟨g8, o8, none⟩) (l.length + 1) ((l ++ [e]).flatMap encE) from more_row hown.rd)
              have H1 := Lib.hid (more_lv H1.out HNE.out H4.out.2.2 hm)
              have HB := Lib.hid (more_below HB.out H4.out.2.1 hm)
              clear hown hm hat
              rename World => v
              refine pt_on (fun u h => h) (HXE.out _ HB.out) ?_
              refine pt_eff ?_
              go_wp2_with fail
              refine (HCB.out _ _ _ H7.out).mono ?_
              rintro x v ⟨A2, cap2, rfl, hlv, hb⟩
              have H8 := Lib.hid hlv
              have HB := Lib.hid (below_at HB.out hb)
              (try have H1 := Lib.hid (lv_step H1.out hb))
              clear hlv hb
              go_wp2_with fail
              refine pt_on (fun u h => h) (HXE.out _ HB.out) ?_
              repeat (first
                | (refine pt_pure (v := ?_) (by rfl) (fun w1 => ?_) ?_
                   rotate_left
                   · go_simp <;> with_reducible rfl
                   simp only [Act.put, List.setIfInBounds_toArray, List.set_cons_zero, List.set_cons_succ])
                | (refine pt_off (by rfl) ?_
                   simp only [Act.put, List.setIfInBounds_toArray, List.set_cons_zero, List.set_cons_succ])
                | (refine pt_load_off (by rfl) ?_
                   simp only [Act.put, List.setIfInBounds_toArray, List.set_cons_zero, List.set_cons_succ])
                | (refine pt_load (v := ?_) (by rfl) (fun w1 hw1 => ?_) ?_
                   rotate_left
                   · (skip
                      clear hw1
                      go_simp <;> with_reducible rfl)
                   simp only [Act.put, List.setIfInBounds_toArray, List.set_cons_zero, List.set_cons_succ]))
              refine pt_end ?_
              go_wp2_with fail
              go_meet
              exact ⟨A1, cap1, A2, cap2, rfl, rfl, Lib.hid (H1.out.1.mono H1.out.2), H8, HB⟩
            · go_wp2_with fail
              obtain ⟨Y, hZ⟩ : ∃ Z, Z = v.heap.size := ⟨_, rfl⟩
              obtain ⟨u, hu⟩ : ∃ u, u = v.alloc (Obj.cells #[.int .i64 e.t, .int .i64 e.k, .int .i64 e.o, .bool e.f] 39) := ⟨_, rfl⟩
              rw [← hu, ← hZ]
              have hb : Below v.heap.size v u := by rw [hu]; exact (Below.refl _ _).alloc (Nat.le_refl _) _
              have hk : u.heap[Y]? = some (.cells #[.int .i64 e.t, .int .i64 e.k, .int .i64 e.o, .bool e.f] 39 (0, 0)) := by rw [hu, hZ]; exact heap_alloc_new v _
              have H6 := Lib.hid hk
              have HB := Lib.hid (below_at HB.out hb)
              (try have H1 := Lib.hid (lv_step H1.out hb))
              (try have H2 := Lib.hid (And.intro (blk_step H2.out.1 hb) H2.out.2))
              (try have H4 := Lib.hid (And.intro (row_step H4.out.1 hb) H4.out.2))
              clear hb hk hu hZ
              rename World => v
              refine pt_on (fun u h => h) (HXE.out _ HB.out) ?_
              refine pt_eff ?_
              have HR := Lib.hid (HRD.out v HB.out)
              have HE := Lib.hid (row_empty (sz := 4) H2.out.1)
              go_wp2_with (at_builtin; refine wpList_append_copy (by rfl) _ _ _ (by rfl) 39 i0 _ 4 32 Try.underlying22 hi0 hz0 hz1 hz2 rfl (by omega) ⟨Z, 0, none⟩ 0 [] (by rfl) HE.out A l.length cap (l.flatMap encE) (by rfl) HR.out (by unfold maxLen; omega) (by omega) ?_; intro g7 o7 cap7 u hown hb hgz)
              rw [Nat.zero_add, List.nil_append] at hown
              have hg1 : W1.heap.size ≤ g7 := by rcases hgz with ⟨_, h⟩ | h; (rw [h]; exact H2.out.2); exact Nat.le_trans HB.out.size h
              have hg2 : l ≠ [] → B1 ≤ g7 := fun hn => by rcases hgz with ⟨h, _⟩ | h; (exact (hn (List.eq_nil_of_length_eq_zero h)).elim); exact Nat.le_trans H1.out.2 h
              have H4 := Lib.hid (And.intro hown (And.intro hg1 hg2))
              have HB := Lib.hid (below_at HB.out hb)
              (try have H1 := Lib.hid (lv_step H1.out hb))
              (try have H6 := Lib.hid (blk_step H6.out hb))
              clear hown hb hgz hg1 hg2 HR HE
              rename World => v
              refine pt_on (fun u h => h) (HXE.out _ HB.out) ?_
              refine pt_eff ?_
              go_wp2_with (at_builtin; refine wpList_append_row (by rfl) _ _ _ (by rfl) 39 i0 _ 4 32 Try.underlying22 hi0 hz0 hz1 hz2 rfl (by omega) (some ⟨g7, o7, none⟩) l.length cap7 (l.flatMap encE) (by rfl) H4.out.1 ⟨Y, 0, none⟩ 1 1 [.int .i64 e.t, .int .i64 e.k, .int .i64 e.o, .bool e.f] (by rfl) (by rfl) (World.news_of_block (cs := #[.int .i64 e.t, .int .i64 e.k, .int .i64 e.o, .bool e.f]) (t := 39) (fr := (0, 0)) H6.out) (by simp [Value.oneCell']) (by omega) (by unfold maxLen; omega) (by omega) ?_; intro g8 o8 cap8 u hown hm hat)
              have H7 := Lib.hid (show Rd u 4 (some ⟨g8, o8, none⟩) (l.length + 1) ((l ++ [e]).flatMap encE) from more_row hown.rd)
              have H1 := Lib.hid (more_lv H1.out HNE.out H4.out.2.2 hm)
              have HB := Lib.hid (more_below HB.out H4.out.2.1 hm)
              clear hown hm hat
              rename World => v
              refine pt_on (fun u h => h) (HXE.out _ HB.out) ?_
              refine pt_eff ?_
              go_wp2_with fail
              refine (HCB.out _ _ _ H7.out).mono ?_
              rintro x v ⟨A2, cap2, rfl, hlv, hb⟩
              have H8 := Lib.hid hlv
              have HB := Lib.hid (below_at HB.out hb)
              (try have H1 := Lib.hid (lv_step H1.out hb))
              clear hlv hb
              go_wp2_with fail
              refine pt_on (fun u h => h) (HXE.out _ HB.out) ?_
              repeat (first
                | (refine pt_pure (v := ?_) (by rfl) (fun w1 => ?_) ?_
                   rotate_left
                   · go_simp <;> with_reducible rfl
                   simp only [Act.put, List.setIfInBounds_toArray, List.set_cons_zero, List.set_cons_succ])
                | (refine pt_off (by rfl) ?_
                   simp only [Act.put, List.setIfInBounds_toArray, List.set_cons_zero, List.set_cons_succ])
                | (refine pt_load_off (by rfl) ?_
                   simp only [Act.put, List.setIfInBounds_toArray, List.set_cons_zero, List.set_cons_succ])
                | (refine pt_load (v := ?_) (by rfl) (fun w1 hw1 => ?_) ?_
                   rotate_left
                   · (skip
                      clear hw1
                      go_simp <;> with_reducible rfl)
                   simp only [Act.put, List.setIfInBounds_toArray, List.set_cons_zero, List.set_cons_succ]))
              refine pt_end ?_
              go_wp2_with fail
              go_meet
              exact ⟨A1, cap1, A2, cap2, rfl, rfl, Lib.hid (H1.out.1.mono H1.out.2), H8, HB⟩
          · go_wp2_with fail
            obtain ⟨Y, hZ⟩ : ∃ Z, Z = v.heap.size := ⟨_, rfl⟩
            obtain ⟨u, hu⟩ : ∃ u, u = v.alloc (Obj.cells #[.int .i64 e.t, .int .i64 e.k, .int .i64 e.o, .bool e.f] 39) := ⟨_, rfl⟩
            rw [← hu, ← hZ]
            have hb : Below v.heap.size v u := by rw [hu]; exact (Below.refl _ _).alloc (Nat.le_refl _) _
            have hk : u.heap[Y]? = some (.cells #[.int .i64 e.t, .int .i64 e.k, .int .i64 e.o, .bool e.f] 39 (0, 0)) := by rw [hu, hZ]; exact heap_alloc_new v _
            have H6 := Lib.hid hk
            have HB := Lib.hid (below_at HB.out hb)
            (try have H1 := Lib.hid (lv_step H1.out hb))
            (try have H2 := Lib.hid (And.intro (blk_step H2.out.1 hb) H2.out.2))
            (try have H4 := Lib.hid (And.intro (row_step H4.out.1 hb) H4.out.2))
            clear hb hk hu hZ
            rename World => v
            refine pt_on (fun u h => h) (HXE.out _ HB.out) ?_
            refine pt_eff ?_
            go_wp2_with fail
            refine (HCA.out _ HB.out).mono ?_
            rintro x v ⟨A1, cap1, rfl, hlv, hb⟩
            obtain ⟨B1, hB1⟩ : ∃ B1, B1 = v.heap.size := ⟨_, rfl⟩
            rw [← hB1] at hlv
            have H1 := Lib.hid (And.intro hlv (Nat.le_of_eq hB1))
            have HB := Lib.hid (below_at HB.out hb)
            (try have H2 := Lib.hid (And.intro (blk_step H2.out.1 hb) H2.out.2))
            (try have H6 := Lib.hid (blk_step H6.out hb))
            clear hlv hb hB1
            go_wp2_with fail
            refine pt_on (fun u h => h) (HXE.out _ HB.out) ?_
            refine pt_eff ?_
            have HR := Lib.hid (HRD.out v HB.out)
            have HE := Lib.hid (row_empty (sz := 4) H2.out.1)
            go_wp2_with (at_builtin; refine wpList_append_copy (by rfl) _ _ _ (by rfl) 39 i0 _ 4 32 Try.underlying22 hi0 hz0 hz1 hz2 rfl (by omega) ⟨Z, 0, none⟩ 0 [] (by rfl) HE.out A l.length cap (l.flatMap encE) (by rfl) HR.out (by unfold maxLen; omega) (by omega) ?_; intro g7 o7 cap7 u hown hb hgz)
            rw [Nat.zero_add, List.nil_append] at hown
            have hg1 : W1.heap.size ≤ g7 := by rcases hgz with ⟨_, h⟩ | h; (rw [h]; exact H2.out.2); exact Nat.le_trans HB.out.size h
            have hg2 : l ≠ [] → B1 ≤ g7 := fun hn => by rcases hgz with ⟨h, _⟩ | h; (exact (hn (List.eq_nil_of_length_eq_zero h)).elim); exact Nat.le_trans H1.out.2 h
            have H4 := Lib.hid (And.intro hown (And.intro hg1 hg2))
            have HB := Lib.hid (below_at HB.out hb)
            (try have H1 := Lib.hid (lv_step H1.out hb))
            (try have H6 := Lib.hid (blk_step H6.out hb))
            clear hown hb hgz hg1 hg2 HR HE
            rename World => v
            refine pt_on (fun u h => h) (HXE.out _ HB.out) ?_
            refine pt_eff ?_
            go_wp2_with (at_builtin; refine wpList_append_row (by rfl) _ _ _ (by rfl) 39 i0 _ 4 32 Try.underlying22 hi0 hz0 hz1 hz2 rfl (by omega) (some ⟨g7, o7, none⟩) l.length cap7 (l.flatMap encE) (by rfl) H4.out.1 ⟨Y, 0, none⟩ 1 1 [.int .i64 e.t, .int .i64 e.k, .int .i64 e.o, .bool e.f] (by rfl) (by rfl) (World.news_of_block (cs := #[.int .i64 e.t, .int .i64 e.k, .int .i64 e.o, .bool e.f]) (t := 39) (fr := (0, 0)) H6.out) (by simp [Value.oneCell']) (by omega) (by unfold maxLen; omega) (by omega) ?_; intro g8 o8 cap8 u hown hm hat)
            have H7 := Lib.hid (show Rd u 4 (some ⟨g8, o8, none⟩) (l.length + 1) ((l ++ [e]).flatMap encE) from more_row hown.rd)
            have H1 := Lib.hid (more_lv H1.out HNE.out H4.out.2.2 hm)
            have HB := Lib.hid (more_below HB.out H4.out.2.1 hm)
            clear hown hm hat
            rename World => v
            refine pt_on (fun u h => h) (HXE.out _ HB.out) ?_
            refine pt_eff ?_
            go_wp2_with fail
            refine (HCB.out _ _ _ H7.out).mono ?_
            rintro x v ⟨A2, cap2, rfl, hlv, hb⟩
            have H8 := Lib.hid hlv
            have HB := Lib.hid (below_at HB.out hb)
            (try have H1 := Lib.hid (lv_step H1.out hb))
            clear hlv hb
            go_wp2_with fail
            refine pt_on (fun u h => h) (HXE.out _ HB.out) ?_
            repeat (first
              | (refine pt_pure (v := ?_) (by rfl) (fun w1 => ?_) ?_
                 rotate_left
                 · go_simp <;> with_reducible rfl
                 simp only [Act.put, List.setIfInBounds_toArray, List.set_cons_zero, List.set_cons_succ])
              | (refine pt_off (by rfl) ?_
                 simp only [Act.put, List.setIfInBounds_toArray, List.set_cons_zero, List.set_cons_succ])
              | (refine pt_load_off (by rfl) ?_
                 simp only [Act.put, List.setIfInBounds_toArray, List.set_cons_zero, List.set_cons_succ])
              | (refine pt_load (v := ?_) (by rfl) (fun w1 hw1 => ?_) ?_
                 rotate_left
                 · (skip
                    clear hw1
                    go_simp <;> with_reducible rfl)
                 simp only [Act.put, List.setIfInBounds_toArray, List.set_cons_zero, List.set_cons_succ]))
            refine pt_end ?_
            go_wp2_with fail
            go_meet
            exact ⟨A1, cap1, A2, cap2, rfl, rfl, Lib.hid (H1.out.1.mono H1.out.2), H8, HB⟩
        · go_wp2_with fail
          obtain ⟨Y, hZ⟩ : ∃ Z, Z = v.heap.size := ⟨_, rfl⟩
          obtain ⟨u, hu⟩ : ∃ u, u = v.alloc (Obj.cells #[.int .i64 e.t, .int .i64 e.k, .int .i64 e.o, .bool e.f] 39) := ⟨_, rfl⟩
          rw [← hu, ← hZ]
          have hb : Below v.heap.size v u := by rw [hu]; exact (Below.refl _ _).alloc (Nat.le_refl _) _
          have hk : u.heap[Y]? = some (.cells #[.int .i64 e.t, .int .i64 e.k, .int .i64 e.o, .bool e.f] 39 (0, 0)) := by rw [hu, hZ]; exact heap_alloc_new v _
          have H6 := Lib.hid hk
          have HB := Lib.hid (below_at HB.out hb)
          (try have H1 := Lib.hid (lv_step H1.out hb))
          (try have H2 := Lib.hid (And.intro (blk_step H2.out.1 hb) H2.out.2))
          (try have H4 := Lib.hid (And.intro (row_step H4.out.1 hb) H4.out.2))
          clear hb hk hu hZ
          rename World => v
          refine pt_on (fun u h => h) (HXE.out _ HB.out) ?_
          refine pt_fork ?_ ?_
          · go_wp2_with fail
            refine (HCA.out _ HB.out).mono ?_
            rintro x v ⟨A1, cap1, rfl, hlv, hb⟩
            obtain ⟨B1, hB1⟩ : ∃ B1, B1 = v.heap.size := ⟨_, rfl⟩
            rw [← hB1] at hlv
            have H1 := Lib.hid (And.intro hlv (Nat.le_of_eq hB1))
            have HB := Lib.hid (below_at HB.out hb)
            (try have H2 := Lib.hid (And.intro (blk_step H2.out.1 hb) H2.out.2))
            (try have H6 := Lib.hid (blk_step H6.out hb))
            clear hlv hb hB1
            go_wp2_with fail
            refine pt_on (fun u h => h) (HXE.out _ HB.out) ?_
            refine pt_eff ?_
            go_wp2_with fail
            obtain ⟨Z, hZ⟩ : ∃ Z, Z = v.heap.size := ⟨_, rfl⟩
            obtain ⟨u, hu⟩ : ∃ u, u = v.alloc (Obj.cells #[] 39) := ⟨_, rfl⟩
            rw [← hu, ← hZ]
            have hb : Below v.heap.size v u := by rw [hu]; exact (Below.refl _ _).alloc (Nat.le_refl _) _
            have hk : u.heap[Z]? = some (.cells #[] 39 (0, 0)) := by rw [hu, hZ]; exact heap_alloc_new v _
            have H2 := Lib.hid (And.intro hk (show W1.heap.size ≤ Z by rw [hZ]; exact HB.out.size))
            have HB := Lib.hid (below_at HB.out hb)
            (try have H1 := Lib.hid (lv_step H1.out hb))
            (try have H4 := Lib.hid (And.intro (row_step H4.out.1 hb) H4.out.2))
            (try have H6 := Lib.hid (blk_step H6.out hb))
            clear hb hk hu hZ
            rename World => v
            refine pt_on (fun u h => h) (HXE.out _ HB.out) ?_
            refine pt_eff ?_
            have HR := Lib.hid (HRD.out v HB.out)
            have HE := Lib.hid (row_empty (sz := 4) H2.out.1)
            go_wp2_with (at_builtin; refine wpList_append_copy (by rfl) _ _ _ (by rfl) 39 i0 _ 4 32 Try.underlying22 hi0 hz0 hz1 hz2 rfl (by omega) ⟨Z, 0, none⟩ 0 [] (by rfl) HE.out A l.length cap (l.flatMap encE) (by rfl) HR.out (by unfold maxLen; omega) (by omega) ?_; intro g7 o7 cap7 u hown hb hgz)
            rw [Nat.zero_add, List.nil_append] at hown
            have hg1 : W1.heap.size ≤ g7 := by rcases hgz with ⟨_, h⟩ | h; (rw [h]; exact H2.out.2); exact Nat.le_trans HB.out.size h
            have hg2 : l ≠ [] → B1 ≤ g7 := fun hn => by rcases hgz with ⟨h, _⟩ | h; (exact (hn (List.eq_nil_of_length_eq_zero h)).elim); exact Nat.le_trans H1.out.2 h
            have H4 := Lib.hid (And.intro hown (And.intro hg1 hg2))
            have HB := Lib.hid (below_at HB.out hb)
            (try have H1 := Lib.hid (lv_step H1.out hb))
            (try have H6 := Lib.hid (blk_step H6.out hb))
            clear hown hb hgz hg1 hg2 HR HE
            rename World => v
            refine pt_on (fun u h => h) (HXE.out _ HB.out) ?_
            refine pt_eff ?_
            go_wp2_with (at_builtin; refine wpList_append_row (by rfl) _ _ _ (by rfl) 39 i0 _ 4 32 Try.underlying22 hi0 hz0 hz1 hz2 rfl (by omega) (some ⟨g7, o7, none⟩) l.length cap7 (l.flatMap encE) (by rfl) H4.out.1 ⟨Y, 0, none⟩ 1 1 [.int .i64 e.t, .int .i64 e.k, .int .i64 e.o, .bool e.f] (by rfl) (by rfl) (World.news_of_block (cs := #[.int .i64 e.t, .int .i64 e.k, .int .i64 e.o, .bool e.f]) (t := 39) (fr := (0, 0)) H6.out) (by simp [Value.oneCell']) (by omega) (by unfold maxLen; omega) (by omega) ?_; intro g8 o8 cap8 u hown hm hat)
            have H7 := Lib.hid (show Rd u 4 (some ⟨g8, o8, none⟩) (l.length + 1) ((l ++ [e]).flatMap encE) from more_row hown.rd)
            have H1 := Lib.hid (more_lv H1.out HNE.out H4.out.2.2 hm)
            have HB := Lib.hid (more_below HB.out H4.out.2.1 hm)
            clear hown hm hat
            rename World => v
            refine pt_on (fun u h => h) (HXE.out _ HB.out) ?_
            refine pt_eff ?_
            go_wp2_with fail
            refine (HCB.out _ _ _ H7.out).mono ?_
            rintro x v ⟨A2, cap2, rfl, hlv, hb⟩
            have H8 := Lib.hid hlv
            have HB := Lib.hid (below_at HB.out hb)
            (try have H1 := Lib.hid (lv_step H1.out hb))
            clear hlv hb
            go_wp2_with fail
            refine pt_on (fun u h => h) (HXE.out _ HB.out) ?_
            repeat (first
              | (refine pt_pure (v := ?_) (by rfl) (fun w1 => ?_) ?_
                 rotate_left
                 · go_simp <;> with_reducible rfl
                 simp only [Act.put, List.setIfInBounds_toArray, List.set_cons_zero, List.set_cons_succ])
              | (refine pt_off (by rfl) ?_
                 simp only [Act.put, List.setIfInBounds_toArray, List.set_cons_zero, List.set_cons_succ])
              | (refine pt_load_off (by rfl) ?_
                 simp only [Act.put, List.setIfInBounds_toArray, List.set_cons_zero, List.set_cons_succ])
              | (refine pt_load (v := ?_) (by rfl) (fun w1 hw1 => ?_) ?_
                 rotate_left
                 · (skip
                    clear hw1
                    go_simp <;> with_reducible rfl)
                 simp only [Act.put, List.setIfInBounds_toArray, List.set_cons_zero, List.set_cons_succ]))
            refine pt_end ?_
            go_wp2_with fail
            go_meet
            exact ⟨A1, cap1, A2, cap2, rfl, rfl, Lib.hid (H1.out.1.mono H1.out.2), H8, HB⟩
          · go_wp2_with fail
            obtain ⟨Z, hZ⟩ : ∃ Z, Z = v.heap.size := ⟨_, rfl⟩
            obtain ⟨u, hu⟩ : ∃ u, u = v.alloc (Obj.cells #[] 39) := ⟨_, rfl⟩
            rw [← hu, ← hZ]
            have hb : Below v.heap.size v u := by rw [hu]; exact (Below.refl _ _).alloc (Nat.le_refl _) _
            have hk : u.heap[Z]? = some (.cells #[] 39 (0, 0)) := by rw [hu, hZ]; exact heap_alloc_new v _
            have H2 := Lib.hid (And.intro hk (show W1.heap.size ≤ Z by rw [hZ]; exact HB.out.size))
            have HB := Lib.hid (below_at HB.out hb)
            (try have H1 := Lib.hid (lv_step H1.out hb))
            (try have H4 := Lib.hid (And.intro (row_step H4.out.1 hb) H4.out.2))
            (try have H6 := Lib.hid (blk_step H6.out hb))
            clear hb hk hu hZ
            rename World => v
            refine pt_on (fun u h => h) (HXE.out _ HB.out) ?_
            refine pt_eff ?_
            go_wp2_with fail
            refine (HCA.out _ HB.out).mono ?_
            rintro x v ⟨A1, cap1, rfl, hlv, hb⟩
            obtain ⟨B1, hB1⟩ : ∃ B1, B1 = v.heap.size := ⟨_, rfl⟩
            rw [← hB1] at hlv
            have H1 := Lib.hid (And.intro hlv (Nat.le_of_eq hB1))
            have HB := Lib.hid (below_at HB.out hb)
            (try have H2 := Lib.hid (And.intro (blk_step H2.out.1 hb) H2.out.2))
            (try have H6 := Lib.hid (blk_step H6.out hb))
            clear hlv hb hB1
            go_wp2_with fail
            refine pt_on (fun u h => h) (HXE.out _ HB.out) ?_
            refine pt_eff ?_
            have HR := Lib.hid (HRD.out v HB.out)
            have HE := Lib.hid (row_empty (sz := 4) H2.out.1)
            go_wp2_with (at_builtin; refine wpList_append_copy (by rfl) _ _ _ (by rfl) 39 i0 _ 4 32 Try.underlying22 hi0 hz0 hz1 hz2 rfl (by omega) ⟨Z, 0, none⟩ 0 [] (by rfl) HE.out A l.length cap (l.flatMap encE) (by rfl) HR.out (by unfold maxLen; omega) (by omega) ?_; intro g7 o7 cap7 u hown hb hgz)
            rw [Nat.zero_add, List.nil_append] at hown
            have hg1 : W1.heap.size ≤ g7 := by rcases hgz with ⟨_, h⟩ | h; (rw [h]; exact H2.out.2); exact Nat.le_trans HB.out.size h
            have hg2 : l ≠ [] → B1 ≤ g7 := fun hn => by rcases hgz with ⟨h, _⟩ | h; (exact (hn (List.eq_nil_of_length_eq_zero h)).elim); exact Nat.le_trans H1.out.2 h
            have H4 := Lib.hid (And.intro hown (And.intro hg1 hg2))
            have HB := Lib.hid (below_at HB.out hb)
            (try have H1 := Lib.hid (lv_step H1.out hb))
            (try have H6 := Lib.hid (blk_step H6.out hb))
            clear hown hb hgz hg1 hg2 HR HE
            rename World => v
            refine pt_on (fun u h => h) (HXE.out _ HB.out) ?_
            refine pt_eff ?_
            go_wp2_with (at_builtin; refine wpList_append_row (by rfl) _ _ _ (by rfl) 39 i0 _ 4 32 Try.underlying22 hi0 hz0 hz1 hz2 rfl (by omega) (some ⟨g7, o7, none⟩) l.length cap7 (l.flatMap encE) (by rfl) H4.out.1 ⟨Y, 0, none⟩ 1 1 [.int .i64 e.t, .int .i64 e.k, .int .i64 e.o, .bool e.f] (by rfl) (by rfl) (World.news_of_block (cs := #[.int .i64 e.t, .int .i64 e.k, .int .i64 e.o, .bool e.f]) (t := 39) (fr := (0, 0)) H6.out) (by simp [Value.oneCell']) (by omega) (by unfold maxLen; omega) (by omega) ?_; intro g8 o8 cap8 u hown hm hat)
            have H7 := Lib.hid (show Rd u 4 (some ⟨g8, o8, none⟩) (l.length + 1) ((l ++ [e]).flatMap encE) from more_row hown.rd)
            have H1 := Lib.hid (more_lv H1.out HNE.out H4.out.2.2 hm)
            have HB := Lib.hid (more_below HB.out H4.out.2.1 hm)
            clear hown hm hat
            rename World => v
            refine pt_on (fun u h => h) (HXE.out _ HB.out) ?_
            refine pt_eff ?_
            go_wp2_with fail
            refine (HCB.out _ _ _ H7.out).mono ?_
            rintro x v ⟨A2, cap2, rfl, hlv, hb⟩
            have H8 := Lib.hid hlv
            have HB := Lib.hid (below_at HB.out hb)
            (try have H1 := Lib.hid (lv_step H1.out hb))
            clear hlv hb
            go_wp2_with fail
            refine pt_on (fun u h => h) (HXE.out _ HB.out) ?_
            repeat (first
              | (refine pt_pure (v := ?_) (by rfl) (fun w1 => ?_) ?_
                 rotate_left
                 · go_simp <;> with_reducible rfl
                 simp only [Act.put, List.setIfInBounds_toArray, List.set_cons_zero, List.set_cons_succ])
              | (refine pt_off (by rfl) ?_
                 simp only [Act.put, List.setIfInBounds_toArray, List.set_cons_zero, List.set_cons_succ])
              | (refine pt_load_off (by rfl) ?_
                 simp only [Act.put, List.setIfInBounds_toArray, List.set_cons_zero, List.set_cons_succ])
              | (refine pt_load (v := ?_) (by rfl) (fun w1 hw1 => ?_) ?_
                 rotate_left
                 · (skip
                    clear hw1
                    go_simp <;> with_reducible rfl)
                 simp only [Act.put, List.setIfInBounds_toArray, List.set_cons_zero, List.set_cons_succ]))
            refine pt_end ?_
            go_wp2_with fail
            go_meet
            exact ⟨A1, cap1, A2, cap2, rfl, rfl, Lib.hid (H1.out.1.mono H1.out.2), H8, HB⟩
      case rest =>
        obtain ⟨A1, cap1, A2, cap2, rfl, rfl, H1, H2, HB⟩ := hcut
        have hbnd : Lb.length ≤ 61 ∧ (Lb.length = La.length ∨ Lb.length = La.length + 1) := ⟨by have := HLEN.out; omega, HLEN.out⟩
        obtain ⟨hb61, hlen⟩ := hbnd
        have HC1 := Lib.hid H1.out.lvl
        have HC2 := Lib.hid H2.out.lvl
        clear HB1 HCA HCB HNE HRD HLEN
        generalize wc = w0 at *
        have HLEN := Lib.hid hlen
        clear hlen
        go_upto_region 4 with fail
        go_cut [52] (fun v w2 => v = .bool false ∧ w2 = w0)
        case first =>
          rcases HLEN.out with hlen | hlen
          · have e1 : ((Lb.length : Int) != (La.length : Int)) = false := by simp; omega
            have e2 : ((Lb.length : Int) == (La.length : Int)) = true := by simp; omega
            have HE := Lib.hid hlen
            clear hlen
            go_wp2_with fail
            go_meet
            exact ⟨by first | rfl | simp, by first | rfl | trivial⟩
          · have e1 : ((Lb.length : Int) != (La.length : Int)) = true := by simp; omega
            have e2 : ((Lb.length : Int) == (La.length : Int)) = false := by simp; omega
            have e3 : ((Lb.length : Int) != (La.length : Int) + 1) = false := by simp; omega
            have e4 : ((Lb.length : Int) == (La.length : Int) + 1) = true := by simp; omega
            have HE := Lib.hid hlen
            clear hlen
            go_wp2_with fail
            go_meet
            exact ⟨by first | rfl | simp, by first | rfl | trivial⟩
        case rest =>
          obtain ⟨rfl, rfl⟩ := hcut
          clear HLEN
          generalize wc = w1 at *
          have g0 : ∀ i, i ≤ p → grn p i = 0 := fun i h => by unfold grn; rw [if_neg (by omega)]
          have g1 : ∀ i, p < i → grn p i = 1 := fun i h => by unfold grn; rw [if_pos h]
          have HG0 := Lib.hid g0
          have HG1 := Lib.hid g1
          have g00 := g0 0 (Nat.zero_le _)
          clear g0 g1 H1 H2
          go_wp2_with fail
          go_loopw [7, 55] (fun v7 v55 wr => ∃ i : Nat, i ≤ Lb.length ∧ v55 = .int .i64 i ∧ v7 = .int .i64 (grn p i) ∧ Hid (Below w1.heap.size w1 wr)) (fun _ v _ => Lb.length - (intOf v).toNat)
          case atStart => exact ⟨0, Nat.zero_le _, rfl, by rw [g00], Lib.hid (Below.refl _ _)⟩
          case round =>
            clear g00
            obtain ⟨i, hi, rfl, rfl, HF⟩ := hrel
            by_cases hlt : i < Lb.length
            · obtain ⟨q, hqi⟩ := get_some hlt
              obtain ⟨g, o, Aq, cq, rfl, hg, hpq, hep, hcl, hcq1, hcq2⟩ := HC2.out i q hqi
              have hq61 := HQB.out i q hqi
              obtain ⟨old, ho1, ho2, ho3, ho4⟩ := HLEV.out i q hqi
              have hold : ∃ (Ao : Option Addr) (co : Nat), RdB w1 w1.heap.size 4 Ao old.length (old.flatMap encE) ∧ old.length ≤ 60 ∧ ((i < La.length ∧ ∃ g1 o1, A1 = some ⟨g1, o1, none⟩ ∧ g1 < w1.heap.size ∧ ∀ u, Below w1.heap.size w1 u → u.cell? ⟨g1, o1 + i, none⟩ = some (.slice Ao old.length co)) ∨ (La.length ≤ i ∧ old.length = 0 ∧ Ao = none ∧ co = 0)) := by
                cases hx : La[i]? with
                | some ol =>
                  obtain ⟨g1, o1, Ao, co, e1, e2, e3, _, e5, _⟩ := HC1.out i ol hx
                  obtain rfl := ho1 ol hx
                  exact ⟨Ao, co, e3, Nat.le_trans (HQA.out i ol hx) h60, .inl ⟨(List.getElem?_eq_some_iff.1 hx).1, g1, o1, e1, e2, e5⟩⟩
                | none =>
                  obtain rfl := ho2 hx
                  exact ⟨none, 0, ⟨rfl, fun h => by simp at h⟩, Nat.zero_le _, .inr ⟨List.getElem?_eq_none_iff.1 hx, rfl, rfl, rfl⟩⟩
              obtain ⟨Ao, co, hro, hol, hway⟩ := hold
              have HQE := Lib.hid hep
              have HRQ := Lib.hid hpq
              have HRO := Lib.hid hro
              have HO3 := Lib.hid ho3
              have HO4 := Lib.hid ho4
              have HCL := Lib.hid hcl
              have k1 : (0 : Int) ≤ (i : Int) := Int.natCast_nonneg _
              have k2 : (i : Int) < (Lb.length : Int) := by omega
              clear hqi hep hpq hro ho1 ho2 ho3 ho4 hcl
              go_upto_if 61 with fail
              go_cut [9] (fun v w2 => v = .slice Ao old.length co ∧ w2 = wr)
              case first =>
                rcases hway with ⟨h1, g1, o1, rfl, hg1, hc1⟩ | ⟨h1, h2, rfl, rfl⟩
                · have c1 := hc1 wr HF.out
                  have k3 : (i : Int) < (La.length : Int) := by omega
                  have hd : decide (i < La.length) = true := by simp; omega
                  clear hc1
                  go_wp2_with fail
                  go_meet
                  exact ⟨rfl, by first | rfl | trivial⟩
                · have HZ := Lib.hid h2
                  have k3 : ¬ (i : Int) < (La.length : Int) := by omega
                  have hd : decide (i < La.length) = false := by simp; omega
                  clear h2
                  go_wp2_with fail
                  go_meet
                  exact ⟨by rw [HZ.out], by first | rfl | trivial⟩
              case rest =>
                clear hway
                obtain ⟨rfl, hw2⟩ := hcut
                subst hw2
                have hcw := HCL.out wc HF.out
                have lgw : g < wc.heap.size := by have := HF.out.size; omega
                by_cases hip : i = p
                · subst hip
                  obtain ⟨h5, h6⟩ := HO4.out rfl
                  have HQ5 := Lib.hid h5
                  have HQ6 := Lib.hid h6
                  have e1 : ((q.length : Int) == (old.length : Int)) = false := by rw [beq_eq_false_iff_ne]; omega
                  have gi := HG0.out i (Nat.le_refl _)
                  rw [gi]
                  clear h5 h6 HO3 HO4 gi
                  have HB2 := Lib.hid (below_chain HB.out HF.out (Nat.le_refl _))
                  have HCLW := Lib.hid (fun u (hu : Below wc.heap.size wc u) => HCL.out u (below_chain HF.out hu (Nat.le_refl _)))
                  generalize wc = w3 at *
                  go_wp2_with fail
                  go_loopw [10, 88] (fun v10 v88 wr => ∃ (k : Nat) (fl : List Ev) (A' : Option Addr) (cap' : Nat), k ≤ q.length ∧ fl.length ≤ k ∧ v88 = .int .i64 k ∧ v10 = .slice A' fl.length cap' ∧ Hid (fl = (q.take k).filter (fun x => decide (x ≠ e))) ∧ Hid (Row wr 39 4 A' fl.length cap' (fl.flatMap encE)) ∧ Hid (∀ a, A' = some a → w3.heap.size ≤ a.block) ∧ Hid (Below w3.heap.size w3 wr)) (fun _ v _ => q.length - (intOf v).toNat)
                  case atStart => exact ⟨0, [], none, 0, Nat.zero_le _, Nat.zero_le _, rfl, rfl, Lib.hid rfl, Lib.hid (Row.nil _ _ _), Lib.hid (fun a h => (by cases h)), Lib.hid (Below.refl _ _)⟩
                  case round =>
                    clear hcw lgw
                    obtain ⟨k, fl, A', cap', hk, hfk, rfl, rfl, HFL, HRW, HAT, HG⟩ := hrel
                    have HFG := Lib.hid (below_chain HF.out HG.out (Nat.le_refl _))
                    by_cases hkl : k < q.length
                    · obtain ⟨x, hkx⟩ := get_some hkl
                      obtain ⟨g5, o5, rfl, hg5, hcl5⟩ := HQE.out k x hkx
                      obtain ⟨v0, v1, v2, v3⟩ := hcl5 wr HFG.out
                      obtain ⟨W2, Y, hW2, hY, hBW2, hYl, hYe⟩ := box_ev wr x
                      have HG2 := Lib.hid (below_chain HG.out hBW2 (Nat.le_refl _))
                      have HR2 := Lib.hid (row_step HRW.out hBW2)
                      obtain ⟨y0, y1, y2, y3⟩ := hYe W2 (Below.refl _ _)
                      obtain ⟨x0, x1, x2, x3⟩ := HXE.out W2 (below_chain HB2.out HG2.out (Nat.le_refl _))
                      have htk : q.take (k + 1) = q.take k ++ [x] := by rw [List.take_add_one, hkx]; rfl
                      have HTK := Lib.hid htk
                      have heq : ∀ w, _ := evEq x e
                      have hgd := evGuard
                      have k3 : (0 : Int) ≤ (k : Int) := Int.natCast_nonneg _
                      have k4 : (k : Int) < (q.length : Int) := by omega
                      clear hkx hcl5 hYe htk
                      go_upto_region 21 with fail
                      rw [← hW2, ← hY]
                      clear hW2 hY hBW2 v0 v1 v2 v3
                      by_cases hxe : x = e
                      · have hd : decide (x = e) = true := decide_eq_true hxe
                        rw [hd] at heq
                        have HXY := Lib.hid hxe
                        clear hxe hd
                        go_wp2_with fail
                        go_roundw
                        case rel => exact ⟨k + 1, fl, A', cap', by omega, by omega, by go_num, rfl, Lib.hid (by rw [HTK.out, List.filter_append, ← HFL.out, HXY.out]; simp), HR2, HAT, HG2⟩
                        case measure => simp [intOf]; omega
                      · have hd : decide (x = e) = false := decide_eq_false hxe
                        rw [hd] at heq
                        have HXY := Lib.hid hxe
                        clear hxe hd
                        go_wp2_with (at_builtin; refine wpList_append_row (by rfl) _ _ _ (by rfl) 39 i0 _ 4 32 Try.underlying22 hi0 hz0 hz1 hz2 rfl (by omega) A' fl.length cap' (fl.flatMap encE) (by rfl) (HR2.out.alloc _) ⟨W2.heap.size, 0, none⟩ 1 1 [.int .i64 x.t, .int .i64 x.k, .int .i64 x.o, .bool x.f] (by rfl) (by rfl) (World.news_of_block (cs := #[.int .i64 x.t, .int .i64 x.k, .int .i64 x.o, .bool x.f]) (t := 39) (fr := (0, 0)) (heap_alloc_new W2 _)) (by simp [Value.oneCell']) (by omega) (by unfold maxLen; omega) (by omega) ?_; intro g1 of1 cap1 w4 hown hm hat; skip)
                        obtain ⟨q1, q2⟩ := acc_more HAT.out HG2.out hm hat (of := of1)
                        have hz : (fl ++ [x]).length = fl.length + 1 := by rw [List.length_append]; rfl
                        have hr3 : Row w4 39 4 (some ⟨g1, of1, none⟩) (fl ++ [x]).length cap1 ((fl ++ [x]).flatMap encE) := by
                          rw [hz, List.flatMap_append]; simpa [encE] using hown
                        have HZ := Lib.hid hz
                        clear hz
                        go_roundw
                        case rel => exact ⟨k + 1, fl ++ [x], some ⟨g1, of1, none⟩, cap1, by omega, by rw [HZ.out]; omega, by go_num, by rw [HZ.out], Lib.hid (by rw [HTK.out, List.filter_append, ← HFL.out]; simp [HXY.out]), Lib.hid hr3, Lib.hid q1, Lib.hid q2⟩
                        case measure => simp [intOf]; omega
                    · have hfo : fl = old := by rw [HFL.out, List.take_of_length_le (by omega)]; exact HQ6.out
                      subst hfo
                      have c1 := HCLW.out wr HG.out
                      have hq5 := HQ5.out
                      have e2 : ((q.length : Int) != (fl.length : Int) + 1) = false := by simp; omega
                      have e3 : ((q.length : Int) == (fl.length : Int) + 1) = true := by simp; omega
                      have lgw : g < wr.heap.size := by have := HFG.out.size; omega
                      have hcall : Calls Try.prog 19 #[.slice A' fl.length cap', .slice Ao fl.length co] wr fun x w' => x = .returned (.bool true) ∧ Below wr.heap.size wr w' := by
                        have := sameEvents_any wr A' cap' fl Ao co fl HRW.out.rd (rdb_at HRO.out HFG.out) (by omega)
                        rw [decide_eq_true rfl] at this
                        exact this
                      have HCALL := Lib.hid hcall
                      have gi := HG1.out (i + 1) (by omega)
                      have HGI := Lib.hid gi
                      clear hcall hq5 gi
                      go_wp2_with fail
                      refine HCALL.out.mono ?_
                      rintro x w5 ⟨rfl, hb5⟩
                      have HF5 := Lib.hid (below_chain HFG.out hb5 (Nat.le_refl _))
                      clear hb5
                      go_wp2_with fail
                      go_roundw
                      case rel => exact ⟨i + 1, by omega, by go_num, by rw [HGI.out], HF5⟩
                      case measure => simp [intOf]; omega
                · have hqo := HO3.out hip
                  subst hqo
                  have hcall : Calls Try.prog 19 #[.slice Aq q.length cq, .slice Ao q.length co] wc fun x w' => x = .returned (.bool true) ∧ Below wc.heap.size wc w' := by
                    have := sameEvents_any wc Aq cq q Ao co q (rdb_at HRQ.out HF.out) (rdb_at HRO.out HF.out) (by omega)
                    rw [decide_eq_true rfl] at this
                    exact this
                  have gi : grn p (i + 1) = grn p i := by
                    rcases Nat.lt_or_ge p i with h | h
                    · rw [HG1.out _ h, HG1.out _ (by omega)]
                    · rw [HG0.out _ h, HG0.out _ (by omega)]
                  have HCALL := Lib.hid hcall
                  have HGI := Lib.hid gi
                  have HIP := Lib.hid hip
                  clear hcall gi hip HO3 HO4
                  generalize grn p i = gr at *
                  go_wp2_with fail
                  refine HCALL.out.mono ?_
                  rintro x w2 ⟨rfl, hb2⟩
                  have HF2 := Lib.hid (below_chain HF.out hb2 (Nat.le_refl _))
                  clear hb2
                  go_wp2_with fail
                  go_roundw
                  case rel => exact ⟨i + 1, by omega, by go_num, by rw [HGI.out], HF2⟩
                  case measure => simp [intOf]; omega
            · have gl := HG1.out i (by omega)
              rw [gl]
              clear gl
              go_wp2_with fail
              go_ret
              exact ⟨by simp, below_chain HBW.out (below_chain HB.out HF.out (Nat.le_refl _)) (Nat.le_refl _)⟩

open Go.ChangeShapes Go.WideShapes Go.ChangeAt
set_option maxRecDepth 100000 in
theorem FoataMore_walk {H : Type} {enc : TypeId × Value → H} (W : World) {base : Nat} {v0 v1 : Value} {d0 d1 : DataW H} {p0 p1 : List MemPlace}
    (o0 : Value.okWide Try.prog W .any base 22 v0) (h0 : DataW.Trod enc Try.prog W 0 (fun _ => true) true 22 v0 d0 p0)
    (o1 : Value.okWide Try.prog W .any base 39 v1) (h1 : DataW.Trod enc Try.prog W 0 (fun _ => true) true 39 v1 d1 p1) :
    Calls Try.prog 6 #[v0, v1] W fun e w' => e = .returned (.bool true) ∧ Below W.heap.size W w' := by
  obtain ⟨fuel, hf⟩ := h0
  obtain ⟨A, len, cap, rfl⟩ := okWide_slice Try.underlying22 o0
  obtain ⟨l, rfl, hr, h1', h2⟩ := row_read (by simpa [Value.cells] using hf)
  obtain ⟨cs, rfl, hsz⟩ := okWide_struct Try.underlying39 o1
  obtain ⟨fuel', hf'⟩ := h1
  have hsz4 : cs.toList.length = 4 := by
    obtain ⟨hl, _⟩ := tr_struct Try.underlying39 hf'
    have : (Value.agg cs).cells.toList.length = 4 := hl.trans (by kernel_rfl)
    simpa [Value.cells] using this
  obtain ⟨e, he, _⟩ := ev_read fuel' cs.toList _ hsz4 (by simpa [Value.cells] using hf')
  obtain rfl : cs = #[.int .i64 e.t, .int .i64 e.k, .int .i64 e.o, .bool e.f] := by
    apply Array.ext'
    simpa [encE] using he
  exact foataMore_any W A cap l e hr (Nat.le_trans h1' h2)
namespace foataMore
theorem own : ownKnob Try.prog.godebug = none := by kernel_rfl
theorem laidOut : laidOutB Try.prog = true := by kernel_rfl
set_option maxRecDepth 100000 in
theorem lifted (os : Os) (started : os.Started) (H : Type) (enc : TypeId × Value → H) :
    ReturnsInHanded {} Try.checked os 6 .any (Rows.foataMoreSpec.pre6 enc Try.prog Try.f6 Rows.foataMoreRow.domain false) (Rows.foataMoreSpec.post enc Try.prog Try.f6 false true false false) := by
  refine returnsInHanded_of_change_sized (C := Try.checked) own started (by kernel_rfl) Try.func6
    (ChangeSpec.witness6 (enc := enc) (C := Try.checked) false ⟨#[], #[.slice none 0 0, .agg #[.int .i64 0, .int .i64 0, .int .i64 0, .bool false]], []⟩ 8 (by kernel_rfl) (by kernel_rfl) (by kernel_rfl) (by kernel_rfl)) ?_
  intro W base args ds gs before hval0 hW hcnd hsz0 _
  have hval : ∀ (j : Nat) t v, Try.f6.params[j]? = some t → args[j]? = some v → Value.okWide Try.prog W .any base t v := hval0
  have hW' := hW
  obtain ⟨p, q, hA0, hV, rfl, hfz, hnd⟩ := hW
  have hA : DataW.TrodAll enc Try.prog W 0 (fun _ => true) true Try.f6.params.toList args.toList ds p := hA0
  rw [Try.params6] at hA hval
  obtain ⟨v0, vs0, d0, ds0, p0, q0, hargs, rfl, rfl, h0, r0⟩ := trodAll_cons hA
  obtain ⟨v1, vs1, d1, ds1, p1, q1, rfl, rfl, rfl, h1, r1⟩ := trodAll_cons r0
  obtain ⟨rfl, rfl, rfl⟩ := trodAll_nil r1
  obtain rfl : args = #[v0, v1] := by cases args; simp_all
  obtain ⟨rfl, rfl⟩ := trodVars_none hV
  have lt0 : ∀ x ∈ p0, x.block < W.heap.size := by obtain ⟨m, hm⟩ := h0; exact DataW.trod_lt m _ _ _ hm
  have lt1 : ∀ x ∈ p1, x.block < W.heap.size := by obtain ⟨m, hm⟩ := h1; exact DataW.trod_lt m _ _ _ hm
  clear hA0 hval0 hsz0
  refine (FoataMore_walk W (hval 0 22 v0 rfl rfl) h0 (hval 1 39 v1 rfl rfl) h1).mono fun e W' ⟨he, bel⟩ => ?_
  subst he
  exact ⟨_, rfl, _, _, _, [], _, [], hW', trodAll_mk1 (shut_bool Try.underlying4 _), (trodAll_cons_mk (Below.trod laidOut (by kernel_rfl) (of_decide_eq_true (by kernel_rfl)) h0 bel lt0) (trodAll_cons_mk (Below.trod laidOut (by kernel_rfl) (of_decide_eq_true (by kernel_rfl)) h1 bel lt1) trodAll_mk0)), rfl, bel.frame _, fun h => (by cases h)⟩
theorem over : Rows.foataMoreRow.holds Try.pinned (OpenSpec.ofChange Rows.foataMoreSpec) :=
  OpenClaim.holds_of_wide 6 Try.f6 rfl rfl rfl rfl rfl rfl rfl ⟨rfl, rfl, rfl, rfl, rfl⟩ rfl rfl rfl rfl rfl (by kernel_rfl) Try.func6 (by kernel_rfl)
    (of_decide_eq_true (by kernel_rfl)) (by unfold Func.isWrapper; first | (rw [if_pos (by decide +kernel)]; kernel_rfl) | (rw [if_neg (by decide +kernel)]; exact ⟨rfl, rfl⟩))
    (fun os started H enc _ => lifted os started H enc)
end foataMore
/-- The row. -/
theorem foataMore_holds : Rows.FoataMoreSaid := foataMore.over
#print axioms foataMore_holds
end Go.Proofs.Ytgahjibjladafaa
