/- Part 1 of the proof of seqPlain_holds: what it rests on. -/
import Derived.WalkKit
import Derived.WalkSpells
import Derived.WalkLawsBesides
import Derived.ArgAppend
import Derived.Deep.AppendLies
import Derived.Deep.RegionHeld3
import Derived.KernelRfl
import Derived.OrdersHeld
import Derived.ProofKit
import Derived.OpenShut
import Derived.ShutString
import Derived.ChangeOld
import Derived.Below
import Derived.SizedLaws
import Derived.Lib.Hide
import Derived.Test.YtckdofjpoajblaaGreatRows
import Derived.Outline
import Derived.Deep.CutBlock
import Derived.IntWalk
import Derived.Lib.MinMax
import Derived.Laws.StructEq
import Derived.Shelf.SlicesE.Kit
import Derived.Maps.RangeWalk
import Derived.Laws.BytesArg
import Derived.Lib.ConvBytes
import Derived.Deep.DeepCutAuto
import Derived.Lib.AppendZeros
import Derived.Lib.Walk
import Derived.Lib.SliceRun
import Derived.Shelf.Strings.Builder1
import Derived.Shelf.Small.Bits
import Derived.Shelf.Small.Wraps
import Derived.Shelf.Strings.BuilderF
import Derived.Shelf.Strings.BuilderK
import Derived.Shelf.Strconv.Itoa0
import Derived.Shelf.Sort.Plain
import Derived.Shelf.Slices.CompactS
import Derived.Ground.Names2Prog
import Derived.Shelf.Slices.SearchI
import Derived.Shelf.Slices.Cells
import Derived.Shelf.Slices.In.SortNone
import Derived.Ground.SlsfProg
import Derived.Shelf.SlSortCmp.InsertionK
import Derived.Shelf.SlSortCmp.SmallK
import Derived.Test.YtckdofjpoajblaaGreatProg
import Derived.Lib.AppendIntMem
import Derived.Laws.Bits64b
import Derived.Laws.EntriesVeiled
import Derived.Lib.SlicesCompact
import Derived.Sort.Walk0
import Derived.Deep.LoopGhost
import Derived.JoinedTies
import GoSem.Claim
import Derived.Test.YtckdofjpoajblaaGreatZa15
namespace Go.Proofs.YtckdofjpoajblaaGreat
set_option linter.unusedVariables false
namespace Fo
end Fo
namespace Sys
variable {σ : Type} (S : Sys σ)
theorem ini_next {f : Ev} : ∀ {l : List Ev} {s : σ}, S.ok s → S.Can s l → (∃ x ∈ l, x.t = f.t) → 0 ≤ f.t → S.next s f.t.toNat = some f → ∃ a b, l = a ++ f :: b ∧ ∀ x ∈ a, x.t ≠ f.t
  | [], s, _, _, h, _, _ => by obtain ⟨x, hx, _⟩ := h; cases hx
  | e :: l, s, h, hc, hx, h0, hn => by
    by_cases he : e.t = f.t
    · have h1 := hc.2.1
      rw [he, hn] at h1
      injection h1 with h1
      exact ⟨[], l, by rw [h1]; rfl, fun x hx => by cases hx⟩
    · have he' : e.t.toNat ≠ f.t.toNat := fun h1 => he (by have := S.nextT hc.2.1; omega)
      obtain ⟨a, b, hl, ha⟩ := ini_next (l := l) (S.okS h hc.1) hc.2.2 (by
        obtain ⟨x, hx, hxt⟩ := hx
        rcases List.mem_cons.1 hx with rfl | hx
        · exact (he hxt).elim
        · exact ⟨x, hx, hxt⟩) h0 (by rw [S.stay h hc.1 he']; exact hn)
      refine ⟨e :: a, b, by rw [hl]; rfl, fun x hx => ?_⟩
      rcases List.mem_cons.1 hx with rfl | hx
      · exact he
      · exact ha x hx
end Sys
end Go.Proofs.YtckdofjpoajblaaGreat
namespace Go.Proofs.YtckdofjpoajblaaGreat
open Go.RowKit
set_option linter.unusedVariables false
theorem updI_same (f : Nat → Int) (k : Nat) (x : Int) : updI f k x k = x := by simp [updI]
namespace Pr
end Pr
end Go.Proofs.YtckdofjpoajblaaGreat
namespace Go.Proofs.YtckdofjpoajblaaGreat
open Go.RowKit
set_option linter.unusedVariables false
end Go.Proofs.YtckdofjpoajblaaGreat
namespace Go.Proofs.YtckdofjpoajblaaGreat
open Go.RowKit
set_option linter.unusedVariables false
namespace Pr
end Pr
end Go.Proofs.YtckdofjpoajblaaGreat
namespace Go.Proofs.YtckdofjpoajblaaGreat
open Bs
set_option linter.unusedVariables false
namespace Pr
def CalmN (n : XNd) : Prop := n.a = 0#8 ∧ ((n.d = 0#8 ∧ ∃ u, n.t = bit u) ∨ n.d = n.t)
def Calm (x : Sx) : Prop := (∀ n ∈ x.path, CalmN n) ∧ x.blk = 0
theorem free_zero (L : List Nat) : freeOf 0#8 L = L := by
  unfold freeOf
  rw [List.filter_eq_self]
  intro t _
  simp [has_zero]
theorem child_zero (s : St) (t : Nat) : childOf s 0#8 0#8 t = 0#8 := by
  unfold childOf
  cases next s t with
  | none => rfl
  | some e =>
    have h : (0#8 ||| 0#8 : BitVec 8) &&& ~~~bit t = 0#8 := by simp
    have h2 : Bs.all (0#8 : BitVec 8) = [] := by decide
    simp only [h, h2]
    rfl
theorem openX_calm (od : List Nat) {x : Sx} {s : St} (h : Calm x) (hr : races s x.ev = []) : Calm (openX od x s 0#8) := by
  obtain ⟨hp, hb⟩ := h
  have hq : ∀ n ∈ x.path ++ [⟨s, 0#8, 0#8, 0#8⟩], CalmN n := fun n hn => by
    rcases List.mem_append.1 hn with h1 | h1
    · exact hp n h1
    · rw [List.mem_singleton] at h1; subst h1; exact ⟨rfl, .inr rfl⟩
  unfold openX
  rw [hr, free_zero]
  have hm : ∀ p, markAll p [] = p := fun p => rfl
  simp only [hm]
  by_cases ha : all s = []
  · rw [if_pos ha]; exact ⟨hq, hb⟩
  · rw [if_neg ha, if_neg ha]
    refine ⟨fun n hn => ?_, hb⟩
    simp only at hn
    obtain ⟨i, hi⟩ := List.mem_iff_getElem?.1 hn
    rw [List.getElem?_modify] at hi
    by_cases hil : x.path.length = i
    · subst hil
      rw [List.getElem?_append_right (Nat.le_refl _)] at hi
      simp at hi
      subst hi
      exact ⟨rfl, .inl ⟨rfl, _, by unfold withT; simp; rfl⟩⟩
    · simp [hil] at hi
      exact hq n (List.mem_of_getElem? hi)
theorem intoX_calm (od : List Nat) {x : Sx} {n : XNd} {u : Nat} (h : Calm x) (hn : x.path.getLast? = some n) (hu : u ∈ Bs.left n.a n.d n.t) (hr : races (stepS n.s u) (x.ev ++ [evAt n.s u]) = []) : Calm (intoX od x n u) := by
  obtain ⟨hp, hb⟩ := h
  have hnp : n ∈ x.path := List.mem_of_getLast? hn
  obtain ⟨h1, h2, h3⟩ := mem_left.1 hu
  obtain ⟨ha, hd⟩ := hp n hnp
  have hd0 : n.d = 0#8 ∧ ∃ v, n.t = bit v := by
    rcases hd with h | h
    · exact h
    · rw [h, h1] at h2; cases h2
  obtain ⟨hd1, v, hv⟩ := hd0
  have huv : v = u := by
    rw [hv, has_bit] at h1
    simp at h1
    exact h1.2
  subst huv
  unfold intoX
  rw [ha, hd1, child_zero]
  refine openX_calm od ⟨fun m hm => ?_, hb⟩ hr
  simp only at hm
  obtain ⟨i, hi⟩ := List.mem_iff_getElem?.1 hm
  rw [List.getElem?_modify] at hi
  by_cases hil : x.path.length - 1 = i
  · subst hil
    rw [← List.getLast?_eq_getElem?, hn] at hi
    simp at hi
    subst hi
    refine ⟨ha, .inr ?_⟩
    simp [goneD, hd1, hv]
  · simp [hil] at hi
    exact hp m (List.mem_of_getElem? hi)
end Pr
end Go.Proofs.YtckdofjpoajblaaGreat
namespace Go.Proofs.YtckdofjpoajblaaGreat
open Bs
set_option linter.unusedVariables false
namespace Pr
theorem popX_calm {x : Sx} (h : Calm x) : Calm (popX x) := ⟨fun n hn => h.1 n ((List.dropLast_sublist _).mem hn), h.2⟩
theorem run_calm (od : List Nat) (bg : Nat) {s0 : St} (hs : Wf s0) (hR : ∀ z, sys.Can s0 z → races (at_ s0 z) z = []) : ∀ (k : Nat) (x : Sx) (g : Gh), Inv s0 x g → Calm x → Calm (runX od bg k x).1
  | 0, x, g, I, h => h
  | k + 1, x, g, I, h => by
    have hlast : x.path.getLast? = some (ndOf s0 g x.ev) := by rw [I.path]; exact pathOf_last _ _ _
    have hst : runX od bg (k + 1) x = if Bs.left (g.sl x.ev) (bitsE (g.dn x.ev)) (g.td x.ev) = [] then runX od bg k (popX x) else if bg ≤ x.nodes then (x, false) else runX od bg k (intoX od { x with ch := x.ch + 1 } (ndOf s0 g x.ev) ((Bs.left (g.sl x.ev) (bitsE (g.dn x.ev)) (g.td x.ev)).getD (pickI od x.ch (Bs.left (g.sl x.ev) (bitsE (g.dn x.ev)) (g.td x.ev)).length) 0)) := by
      conv => lhs; unfold runX
      rw [hlast]
      rfl
    rw [hst]
    by_cases hl : Bs.left (g.sl x.ev) (bitsE (g.dn x.ev)) (g.td x.ev) = []
    · rw [if_pos hl]
      rcases pop_inv hs I hl with ⟨hp, hF⟩ | J
      · rw [run_done hp]
        exact popX_calm h
      · exact run_calm od bg hs hR k (popX x) g J (popX_calm h)
    · rw [if_neg hl]
      by_cases hbg : bg ≤ x.nodes
      · rw [if_pos hbg]
        exact h
      · rw [if_neg hbg]
        have hpos : 0 < (Bs.left (g.sl x.ev) (bitsE (g.dn x.ev)) (g.td x.ev)).length := List.length_pos_iff.2 hl
        obtain ⟨u, hu⟩ : ∃ u, u = (Bs.left (g.sl x.ev) (bitsE (g.dn x.ev)) (g.td x.ev)).getD (pickI od x.ch (Bs.left (g.sl x.ev) (bitsE (g.dn x.ev)) (g.td x.ev)).length) 0 := ⟨_, rfl⟩
        have hum : u ∈ Bs.left (g.sl x.ev) (bitsE (g.dn x.ev)) (g.td x.ev) := by
          have hlt : pickI od x.ch (Bs.left (g.sl x.ev) (bitsE (g.dn x.ev)) (g.td x.ev)).length < (Bs.left (g.sl x.ev) (bitsE (g.dn x.ev)) (g.td x.ev)).length := Nat.mod_lt _ hpos
          rw [hu, List.getD_eq_getElem?_getD, List.getElem?_eq_getElem hlt]
          exact List.getElem_mem hlt
        rw [← hu]
        obtain ⟨ht, hd, ha⟩ := mem_left.1 hum
        have I2 : Inv s0 { x with ch := x.ch + 1 } g := ⟨I.tree, I.todo, I.out, I.path, I.on, I.nodes, I.keys, I.runs, I.blk, I.blkc⟩
        obtain ⟨g', J, hH⟩ := into_inv od hs I2 ht hd ha
        refine run_calm od bg hs hR k _ g' J (intoX_calm od (x := { x with ch := x.ch + 1 }) h hlast hum ?_)
        have hen := I.todo.en I.on ht
        obtain ⟨e, i, hn, _, _⟩ := enabled_next hen
        have hev : evAt (at_ s0 x.ev) u = e := by unfold evAt; rw [hn]; rfl
        have hue : e.t.toNat = u := by rw [next_t hn]; rfl
        show races (stepS (at_ s0 x.ev) u) (x.ev ++ [evAt (at_ s0 x.ev) u]) = []
        have hon : x.ev ++ [evAt (at_ s0 x.ev) u] ∈ g'.H := by rw [hH]; simp
        have hc := hR _ (J.tree.tree.way _ hon)
        have ha2 : at_ s0 (x.ev ++ [e]) = stepS (at_ s0 x.ev) u := by
          unfold at_
          rw [sys.aft_app, ← hue]
          rfl
        rw [hev] at hc ⊢
        rw [ha2] at hc
        exact hc
theorem expl_calm {s0 : St} (hs : Wf s0) (bg : Nat) (od : List Nat) (hR : ∀ z, sys.Can s0 z → races (at_ s0 z) z = []) : Calm (explX s0 bg od).1 := by
  obtain ⟨td', I⟩ := open_inv od hs x0 g0 [] [] rfl rfl (g0_tree s0) rfl rfl rfl (fun y _ => ⟨rfl, rfl⟩) (fun {y q} hy _ => by cases hy) (fun {y q e i} hy _ _ _ _ => by cases hy) (fun {y q} hy _ _ => by cases hy) (fun {y} hy _ _ _ => by cases hy) rfl rfl rfl (Nat.le_refl _) rfl
  have I' : Inv s0 (openX od x0 s0 0#8) { g0 with td := td' } := I
  have h0 : Calm (openX od x0 s0 0#8) := openX_calm od ⟨fun n hn => (by cases hn), rfl⟩ (hR [] trivial)
  exact run_calm od bg hs hR (2 * bg + 2) _ _ I' h0
theorem expl_blk {s0 : St} (hs : Wf s0) (bg : Nat) (od : List Nat) (hR : ∀ z, sys.Can s0 z → races (at_ s0 z) z = []) : (explX s0 bg od).1.blk = 0 := (expl_calm hs bg od hR).2
end Pr
end Go.Proofs.YtckdofjpoajblaaGreat
namespace Go.Proofs.YtckdofjpoajblaaGreat
open Bs
set_option linter.unusedVariables false
namespace Pr
theorem races_nil {s0 : St} (h : Apart s0) {z : List Ev} (hz : sys.Can s0 z) : races (at_ s0 z) z = [] := by
  rw [List.eq_nil_iff_forall_not_mem]
  rintro ⟨i, u⟩ hm
  obtain ⟨t, e, ht, hn, ⟨x, hx, hxt, hd, _⟩, _⟩ := mem_races.1 hm
  have := h z hz t e hn x (List.mem_of_getElem? hx) hxt
  rw [hd] at this
  cases this
theorem apart_blk {s0 : St} (hs : Wf s0) (h : Apart s0) (bg : Nat) (od : List Nat) : (explX s0 bg od).1.blk = 0 := expl_blk hs bg od fun z hz => races_nil h hz
end Pr
end Go.Proofs.YtckdofjpoajblaaGreat
namespace Go.Proofs.YtckdofjpoajblaaGreat
open Bs
set_option linter.unusedVariables false
namespace Pr
theorem apart_one : ∀ (l m : List Ev) {s : St}, Wf s → Apart s → sys.Can s l → sys.Can s m → (∀ t, enabled (at_ s l) t = false) → (∀ t, enabled (at_ s m) t = false) → Fo.Eqv l m
  | [], m, s, hs, hA, hl, hm, el, em => by
    cases m with
    | nil => exact .refl _
    | cons f m =>
      have h1 : enabled s f.t.toNat = true := hm.1
      have h2 : enabled s f.t.toNat = false := el f.t.toNat
      rw [h1] at h2; cases h2
  | e :: l, m, s, hs, hA, hl, hm, el, em => by
    have he := hl.1
    have hn : next s e.t.toNat = some e := hl.2.1
    have het : 0 ≤ e.t := by have h1 : e.t = ((e.t.toNat : Nat) : Int) := next_t hn; omega
    have hin : ∃ x ∈ m, x.t = e.t := by
      refine Classical.byContradiction fun hc => ?_
      have hne : ∀ x ∈ m, x.t ≠ e.t := fun x hx hh => hc ⟨x, hx, hh⟩
      have hpos := sys.can_pos hm
      have hfar : next (at_ s m) e.t.toNat = some e := by
        rw [← hn]
        exact sys.next_far hs hm (fun x hx hh => hne x hx (by have := hpos x hx; omega))
      have hd : ∀ x ∈ m, Fo.dep x e = false := fun x hx => hA m hm e.t.toNat e hfar x hx (hne x hx)
      have hp : enabled (at_ s m) e.t.toNat = true := (sys.can_push hs he hn hm hd).2.2.1
      have h2 := em e.t.toNat
      rw [hp] at h2; cases h2
    obtain ⟨a, b, hab, ha⟩ := sys.ini_next hs hm hin het hn
    subst hab
    obtain ⟨hca, hcb⟩ := sys.can_app.1 hm
    have hd : ∀ x ∈ a, Fo.dep x e = false := fun x hx => hA a hca e.t.toNat e hcb.2.1 x hx (ha x hx)
    have hq := Fo.Eqv.front hd b
    obtain ⟨hc2, ha2⟩ := (sys.can_eqv hq hs).2 hm
    have h3 : Fo.Eqv l (a ++ b) := apart_one l (a ++ b) (s := stepS s e.t.toNat) (stepS_wf _ hs).1 (hA.step he hn) hl.2.2 hc2.2.2 el (fun t => by
      have := em t
      unfold at_ at this
      rw [← ha2] at this
      exact this)
    exact (h3.left [e]).trans hq
end Pr
end Go.Proofs.YtckdofjpoajblaaGreat
namespace Go.Proofs.YtckdofjpoajblaaGreat
open Bs
set_option linter.unusedVariables false
namespace Pr
theorem ends_one {s0 : St} {g : Gh} (hs : Wf s0) (hA : Apart s0) (h : TreeG s0 g) : (g.H.filter (isEnd s0)).length ≤ 1 := by
  have hnd := h.nodup.filter (isEnd s0)
  have hmem : ∀ z, z ∈ g.H.filter (isEnd s0) → z ∈ g.H ∧ all (at_ s0 z) = [] := fun z hz => by
    obtain ⟨h1, h2⟩ := List.mem_filter.1 hz
    exact ⟨h1, of_decide_eq_true h2⟩
  cases hL : g.H.filter (isEnd s0) with
  | nil => simp
  | cons a r =>
    cases r with
    | nil => simp
    | cons b r =>
      rw [hL] at hnd hmem
      obtain ⟨ha, ea⟩ := hmem a (by simp)
      obtain ⟨hb, eb⟩ := hmem b (by simp)
      have hq := apart_one a b hs hA (h.tree.way a ha) (h.tree.way b hb) (all_nil.1 ea) (all_nil.1 eb)
      have := h.tree.once hs a b [] (show [] ++ a ∈ g.H by simpa using ha) (show [] ++ b ∈ g.H by simpa using hb) hq
      subst this
      simp at hnd
theorem some_end : ∀ (n : Nat) {s : St}, Wf s → sys.fuel s ≤ n → ∃ l, sys.Can s l ∧ all (at_ s l) = [] := by
  intro n
  induction n with
  | zero =>
    intro s hs hn
    refine ⟨[], trivial, all_nil.2 fun t => ?_⟩
    cases he : enabled (at_ s []) t with
    | false => rfl
    | true => have := sys.fuelS hs (t := t) he; omega
  | succ n ih =>
    intro s hs hn
    by_cases ha : all s = []
    · exact ⟨[], trivial, ha⟩
    · obtain ⟨t, ht⟩ := List.exists_mem_of_ne_nil _ ha
      have hen := all_iff.1 ht
      obtain ⟨e, i, hnx, _, _⟩ := enabled_next hen
      have het : e.t.toNat = t := by rw [next_t hnx]; rfl
      have hf := sys.fuelS hs (t := t) hen
      obtain ⟨l, h1, h2⟩ := ih (s := stepS s t) (stepS_wf _ hs).1 (by have : sys.fuel (sys.step s t) = sys.fuel (stepS s t) := rfl; omega)
      exact ⟨e :: l, ⟨by rw [het]; exact hen, by rw [het]; exact hnx, by rw [het]; exact h1⟩, by
        have : at_ s (e :: l) = at_ (stepS s t) l := by unfold at_; rw [sys.aft_cons, het]; rfl
        rw [this]; exact h2⟩
theorem Fin.one {s0 : St} {x : Sx} {g : Gh} (F : Fin s0 x g) (hs : Wf s0) (hf : fuels s0 ≤ 200) (hA : Apart s0) : x.runs = 1 := by
  have h1 := ends_one hs hA F.tree
  obtain ⟨l, hc, ha⟩ := some_end _ hs (Nat.le_refl _)
  have h2 := F.all_cls hs hf (ex_can.2 ⟨hc, rfl⟩) ha
  have h3 : 0 < (g.H.filter (isEnd s0)).length := by
    have := List.length_pos_of_mem h2
    simpa using this
  rw [F.runs]
  omega
end Pr
end Go.Proofs.YtckdofjpoajblaaGreat
namespace Go.Proofs.YtckdofjpoajblaaGreat
open Bs
set_option linter.unusedVariables false
namespace Pr
def PlainP (p : Pg) : Prop := ∀ (t u : Nat) (ct cu : List Ins) (a b : Ins), p.code[t]? = some ct → p.code[u]? = some cu → a ∈ ct → b ∈ cu → t ≠ u → a.x = b.x → ¬ ((a.k ≤ 2 ∧ b.k ≤ 2 ∧ (a.k = 2 ∨ b.k = 2)) ∨ (a.k = 5 ∧ b.k = 5))
def HoldsOwn (s : St) : Prop := ∀ (m t : Nat), s.h m = (t : Int) → ∃ c i, s.p.code[t]? = some c ∧ i ∈ c ∧ i.k = 5 ∧ i.x.toNat = m
theorem start_own (p : Pg) (f : Nat) : HoldsOwn (start p f) := fun m t h => by
  have h' : (-1 : Int) = (t : Int) := h
  omega
theorem ins_mem {s : St} {t : Nat} {i : Ins} (h : Pr.ins s t = some i) : ∃ c, s.p.code[t]? = some c ∧ i ∈ c := by
  unfold Pr.ins at h
  split at h
  · rename_i x c hx hc
    split at h
    · cases h
    · exact ⟨c, hc, List.mem_of_getElem? h⟩
  · cases h
theorem step_own {s : St} (hw : Wf s) (h : HoldsOwn s) {t : Nat} (hen : enabled s t = true) : HoldsOwn (stepS s t) ∧ (stepS s t).p = s.p := by
  obtain ⟨x, i, hc⟩ := can_of hen
  have hki : 1 ≤ i.k ∧ i.k ≤ 8 := by obtain ⟨n, _, _, hok⟩ := hw.insOk hc.ins; exact ⟨hok.1, hok.2.1⟩
  rw [stepS_can hc, doI_eq i hc.th hki]
  refine ⟨fun m u hm => ?_, rfl⟩
  simp only at hm ⊢
  unfold nh at hm
  by_cases h5 : i.k = 5
  · rw [if_pos h5] at hm
    by_cases he : m = i.x.toNat
    · subst he
      rw [updI_same] at hm
      obtain ⟨c, hc1, hc2⟩ := ins_mem hc.ins
      have : t = u := by omega
      subst this
      exact ⟨c, i, hc1, hc2, h5, rfl⟩
    · rw [updI_ne _ _ he] at hm
      exact h m u hm
  · rw [if_neg h5] at hm
    split at hm
    · by_cases he : m = i.x.toNat
      · subst he
        rw [updI_same] at hm
        omega
      · rw [updI_ne _ _ he] at hm
        exact h m u hm
    · exact h m u hm
def Src (p : Pg) (e : Ev) : Prop := ∃ c, p.code[e.t.toNat]? = some c ∧ (Fo.memK e = true → ∃ i ∈ c, i.x = e.o ∧ i.k ≤ 2 ∧ (e.k = 3 → i.k = 2)) ∧ (Fo.mutK e = true → ∃ i ∈ c, i.x = e.o ∧ i.k = 5)
theorem src_of {s : St} (hw : Wf s) (h : HoldsOwn s) {q : Nat} {f : Ev} (hf : next s q = some f) : Src s.p f := by
  obtain ⟨i, hi, rfl⟩ := Option.map_eq_some_iff.1 hf
  obtain ⟨c, hc1, hc2⟩ := ins_mem hi
  have hxi : 0 ≤ i.x := by obtain ⟨n, _, _, hok⟩ := hw.insOk hi; exact hok.2.2.2.2.2.1
  have ht : (evOf s q i).t.toNat = q := by rw [next_t hf]; rfl
  refine ⟨c, by rw [ht]; exact hc1, fun hm => ?_, fun hm => ?_⟩
  · unfold evOf at hm ⊢
    by_cases h1 : i.k = 1
    · simp only [if_pos h1]
      exact ⟨i, hc2, rfl, by omega, fun hk => by simp at hk⟩
    · by_cases h2 : i.k = 2
      · simp only [if_neg h1, if_pos h2]
        exact ⟨i, hc2, rfl, by omega, fun _ => h2⟩
      · exfalso
        simp only [if_neg h1, if_neg h2] at hm
        by_cases h5 : i.k = 5
        · simp [h5, Fo.memK] at hm
        · simp only [if_neg h5] at hm
          by_cases h6 : i.k = 6
          · simp only [if_pos h6] at hm
            split at hm <;> simp [Fo.memK] at hm
          · simp only [if_neg h6] at hm
            split at hm <;> simp [Fo.memK] at hm
  · unfold evOf at hm ⊢
    by_cases h1 : i.k = 1
    · simp [h1, Fo.mutK] at hm
    · by_cases h2 : i.k = 2
      · simp [h2, Fo.mutK] at hm
      · simp only [if_neg h1, if_neg h2] at hm ⊢
        by_cases h5 : i.k = 5
        · simp only [if_pos h5]
          exact ⟨i, hc2, rfl, h5⟩
        · simp only [if_neg h5] at hm ⊢
          by_cases h6 : i.k = 6
          · simp only [if_pos h6] at hm ⊢
            by_cases hh : s.h i.x.toNat = (q : Int)
            · simp only [if_pos hh]
              obtain ⟨c', j, hj1, hj2, hj5, hjx⟩ := h _ _ hh
              rw [hc1] at hj1
              injection hj1 with hj1
              subst hj1
              have hxj : 0 ≤ j.x := by
                obtain ⟨hco⟩ := hw.ok.2 c (List.mem_of_getElem? hc1)
                rename_i hh2
                exact (hh2 j hj2).2.2.2.2.2.1
              exact ⟨j, hj2, by omega, hj5⟩
            · simp [hh, Fo.mutK] at hm
          · simp only [if_neg h6] at hm
            split at hm <;> simp [Fo.mutK] at hm
theorem dep_src {p : Pg} (hp : PlainP p) {x f : Ev} (hx : Src p x) (hf : Src p f) (hx0 : 0 ≤ x.t) (hf0 : 0 ≤ f.t) (hne : x.t ≠ f.t) : Fo.dep x f = false := by
  obtain ⟨c, h1, h2, h3⟩ := hx
  obtain ⟨d, k1, k2, k3⟩ := hf
  have hn : x.t.toNat ≠ f.t.toNat := by omega
  cases hd : Fo.dep x f with
  | false => rfl
  | true =>
    exfalso
    unfold Fo.dep at hd
    simp only [Bool.or_eq_true, Bool.and_eq_true, decide_eq_true_eq] at hd
    rcases hd with hd | ⟨ho, ⟨⟨hm1, hm2⟩, hk⟩ | ⟨hm1, hm2⟩⟩
    · exact hne hd
    · obtain ⟨i, hi, hix, hik, hi3⟩ := h2 hm1
      obtain ⟨j, hj, hjx, hjk, hj3⟩ := k2 hm2
      refine hp _ _ c d i j h1 k1 hi hj hn (by omega) (.inl ⟨hik, hjk, ?_⟩)
      rcases hk with hk | hk
      · exact .inl (hi3 hk)
      · exact .inr (hj3 hk)
    · obtain ⟨i, hi, hix, hik⟩ := h3 hm1
      obtain ⟨j, hj, hjx, hjk⟩ := k3 hm2
      exact hp _ _ c d i j h1 k1 hi hj hn (by omega) (.inr ⟨hik, hjk⟩)
theorem way_own : ∀ (z : List Ev) {s : St}, Wf s → HoldsOwn s → sys.Can s z → HoldsOwn (at_ s z) ∧ Wf (at_ s z) ∧ (at_ s z).p = s.p ∧ ∀ x ∈ z, Src s.p x
  | [], s, hs, ho, _ => ⟨ho, hs, rfl, fun x hx => by cases hx⟩
  | e :: z, s, hs, ho, h => by
    obtain ⟨w1, _, _⟩ := stepS_wf e.t.toNat hs
    obtain ⟨o1, p1⟩ := step_own hs ho (t := e.t.toNat) h.1
    obtain ⟨a1, a2, a3, a4⟩ := way_own z (s := stepS s e.t.toNat) w1 o1 h.2.2
    refine ⟨a1, a2, a3.trans p1, fun x hx => ?_⟩
    rcases List.mem_cons.1 hx with rfl | hx
    · exact src_of hs ho h.2.1
    · exact p1 ▸ a4 x hx
theorem plain_apart {s : St} (hs : Wf s) (ho : HoldsOwn s) (hp : PlainP s.p) : Apart s := fun z hz q f hf x hx hxf => by
  obtain ⟨a1, a2, a3, a4⟩ := way_own z hs ho hz
  have hsf := src_of a2 a1 hf
  rw [a3] at hsf
  exact dep_src hp (a4 x hx) hsf (sys.can_pos hz x hx) (by rw [next_t hf]; exact Int.natCast_nonneg _) hxf
end Pr
end Go.Proofs.YtckdofjpoajblaaGreat
namespace Go.Proofs.YtckdofjpoajblaaGreat
open Bs
set_option linter.unusedVariables false
namespace Pr
theorem expl_plain {s0 : St} (hs : Wf s0) (hf : fuels s0 ≤ 32) (hA : Apart s0) (bg : Nat) (od : List Nat) (hc : cnt 32 s0 ≤ bg) : (explX s0 bg od).1.runs = 1 ∧ (explX s0 bg od).1.blk = 0 ∧ (explX s0 bg od).2 = true ∧ (ksE s0 bg od).length = 1 := by
  have h1 : 1 ≤ bg := Nat.le_trans (cnt_pos _ _) hc
  have ok := expl_ok hs hf bg od h1
  have h2 := ok.compl hc
  obtain ⟨g, F, _, _⟩ := (expl_law hs bg od h1).1 h2
  have h3 := F.one hs (by omega) hA
  exact ⟨h3, apart_blk hs hA bg od, h2, by rw [← ok.runs]; exact h3⟩
end Pr
end Go.Proofs.YtckdofjpoajblaaGreat
namespace Go.Proofs.YtckdofjpoajblaaGreat
open Go.RowKit
set_option linter.unusedVariables false
namespace Pr
def Good2 (p : Pg) (t u i k : Nat) : Prop := ∀ (ct cu : List Ins) (a b : Ins), p.code[t]? = some ct → p.code[u]? = some cu → ct[i]? = some a → cu[k]? = some b → t ≠ u → a.x = b.x → ¬ ((a.k ≤ 2 ∧ b.k ≤ 2 ∧ (a.k = 2 ∨ b.k = 2)) ∨ (a.k = 5 ∧ b.k = 5))
theorem plain_of {p : Pg} (h : ∀ t, t < p.code.length → ∀ u i k, Good2 p t u i k) : PlainP p := fun t u ct cu a b ht hu ha hb hne hx => by
  obtain ⟨i, hi⟩ := List.mem_iff_getElem?.1 ha
  obtain ⟨k, hk⟩ := List.mem_iff_getElem?.1 hb
  exact h t (List.getElem?_eq_some_iff.1 ht).1 u i k ct cu a b ht hu hi hk hne hx
end Pr
def PlainOut (p : Pg) (x : Ending) : Prop := ∃ z, x = .returned (.bool z) ∧ (z = true → Pr.PlainP p)
theorem ins_store {V : World} {Y : Nat} {T : TypeId} {a0 a1 a2 a3 : Value} (hk : V.heap[Y]? = some (.cells #[a0, a1, a2, a3] T (0, 0))) (v0 v1 v2 v3 : Value) :
    ∃ V2, V2 = (((V.setCell ⟨Y, 0, none⟩ v0).setCell ⟨Y, 1, none⟩ v1).setCell ⟨Y, 2, none⟩ v2).setCell ⟨Y, 3, none⟩ v3 ∧ V2.heap[Y]? = some (.cells #[v0, v1, v2, v3] T (0, 0)) ∧ Mod (fun q => q = Y) V V2 := by
  have hk2 := set_blk (set_blk (set_blk (set_blk hk 0 v0) 1 v1) 2 v2) 3 v3
  refine ⟨_, rfl, by simpa using hk2, ?_⟩
  exact ((((Mod.refl (fun q => q = Y) V).setCell (p := ⟨Y, 0, none⟩) (fun _ => rfl) _).setCell (p := ⟨Y, 1, none⟩) (fun _ => rfl) _).setCell (p := ⟨Y, 2, none⟩) (fun _ => rfl) _).setCell (p := ⟨Y, 3, none⟩) (fun _ => rfl) _
set_option maxRecDepth 100000 in
set_option maxHeartbeats 8000000 in
theorem plain_any (w : World) (p : Pg) (A : Option Addr) (cap : Nat) (hp : PgIn w p A) (hok : Pr.Ok p) :
    Calls Tryz.prog 40 #[valP p A cap] w fun x w' => PlainOut p x ∧ Below w.heap.size w w' := by
  obtain ⟨Wa, X, hWa, hX, hBa, hXl, hXe⟩ := pg_box w p.vars p.mtx A p.code.length cap
  have hpa := (hp.below hBa).1
  have hrow : ∀ (k : Nat) (q : List Ins), p.code[k]? = some q → ∃ g o A' c', A = some ⟨g, o, none⟩ ∧ (∀ u, Below Wa.heap.size Wa u → u.cell? ⟨g, o + k, none⟩ = some (.slice A' q.length c') ∧ g < u.heap.size) ∧ ∀ (i : Nat) (a : Ins), q[i]? = some a → ∃ g' o', A' = some ⟨g', o', none⟩ ∧ ∀ u, Below Wa.heap.size Wa u → InAt u g' (o' + i * 4) a ∧ g' < u.heap.size := fun k q hq => by
    obtain ⟨g, o, A', c', hA, _, hg, hr, _, _, hc⟩ := hpa.get k q hq
    refine ⟨g, o, A', c', hA, fun u hu => ⟨hc u (hu.block _ hg), Nat.lt_of_lt_of_le hg hu.size⟩, fun i a ha => ?_⟩
    obtain ⟨g', o', hA', _, hg', hc'⟩ := hr.ins i a ha
    exact ⟨g', o', hA', fun u hu => ⟨hc' u (hu.block _ hg'), Nat.lt_of_lt_of_le hg' hu.size⟩⟩
  have hq8 : ∀ (k : Nat) (q : List Ins), p.code[k]? = some q → q.length ≤ 8 := fun k q hq => (hok.2 q (List.mem_of_getElem? hq)).1
  have hn4 : p.code.length ≤ 4 := hok.1.2.2.2.2.2
  obtain ⟨n, hn⟩ : ∃ n, n = p.code.length := ⟨_, rfl⟩
  rw [← hn] at hn4
  have HXE := Lib.hid hXe
  have HB := Lib.hid hBa
  have HROW := Lib.hid hrow
  have HQ8 := Lib.hid hq8
  have HN := Lib.hid hn
  unfold valP
  rw [← hn]
  rw [← hn] at hWa hXe
  have HXN := Lib.hid hXe
  clear hXe hBa hrow hq8 hn hpa hp hok HXE
  go_enter Tryz.func40, Tryz.ntmps40
  go_upto_region 1 with fail
  rw [← hWa, ← hX]
  clear hWa hX
  go_wp2_with fail
  go_loopw [3] (fun v wr => ∃ t : Nat, t ≤ n ∧ v = .int .i64 t ∧ Hid (∀ t', t' < t → ∀ u i k, Pr.Good2 p t' u i k) ∧ Hid (Below Wa.heap.size Wa wr)) (fun v _ => n - (intOf v).toNat)
  case atStart => exact ⟨0, Nat.zero_le _, rfl, Lib.hid (fun t' h => by omega), Lib.hid (Below.refl _ _)⟩
  case round =>
    obtain ⟨t, ht, rfl, HG1, HB1⟩ := hrel
    generalize wr = V1 at *
    obtain ⟨x0, x1, x2, xl⟩ := HXN.out V1 HB1.out
    have kt1 : (0 : Int) ≤ (t : Int) := Int.natCast_nonneg _
    by_cases hlt : t < n
    · have kt2 : (t : Int) < (n : Int) := by omega
      go_upto_region 4 with fail
      go_wp2_with fail
      go_loopw [4] (fun v wr => ∃ u : Nat, u ≤ n ∧ v = .int .i64 u ∧ Hid (∀ u', u' < u → ∀ i k, Pr.Good2 p t u' i k) ∧ Hid (Below Wa.heap.size Wa wr)) (fun v _ => n - (intOf v).toNat)
      case atStart => exact ⟨0, Nat.zero_le _, rfl, Lib.hid (fun t' h => by omega), HB1⟩
      case round =>
        clear x0 x1 x2 xl HB1
        obtain ⟨u, hu, rfl, HG2, HB2⟩ := hrel
        generalize wr = V2 at *
        obtain ⟨x0, x1, x2, xl⟩ := HXN.out V2 HB2.out
        have ku1 : (0 : Int) ≤ (u : Int) := Int.natCast_nonneg _
        by_cases hlu : u < n
        · have ku2 : (u : Int) < (n : Int) := by omega
          obtain ⟨ct, hct⟩ := get_some (show t < p.code.length by rw [← HN.out]; exact hlt)
          obtain ⟨cu, hcu⟩ := get_some (show u < p.code.length by rw [← HN.out]; exact hlu)
          have hl8 := HQ8.out t ct hct
          have hm8 := HQ8.out u cu hcu
          obtain ⟨g, o, A1, c1, rfl, hr1, hi1⟩ := HROW.out t ct hct
          obtain ⟨g', o', A2, c2, hAA, hr2, hi2⟩ := HROW.out u cu hcu
          obtain ⟨rfl, rfl⟩ : g = g' ∧ o = o' := by simpa using hAA
          obtain ⟨nl, hnl⟩ : ∃ z, z = ct.length := ⟨_, rfl⟩
          obtain ⟨nm, hnm⟩ : ∃ z, z = cu.length := ⟨_, rfl⟩
          rw [← hnl] at hr1 hl8
          rw [← hnm] at hr2 hm8
          have HR := Lib.hid (And.intro hr1 hr2)
          have HI := Lib.hid (And.intro hi1 hi2)
          have HC := Lib.hid (And.intro hct hcu)
          have HL := Lib.hid (And.intro hnl hnm)
          clear hr1 hr2 hi1 hi2 hct hcu hnl hnm hAA
          go_upto_region 7 with fail
          go_wp2_with fail
          go_loopw [5] (fun v wr => ∃ i : Nat, i ≤ nl ∧ v = .int .i64 i ∧ Hid (∀ i', i' < i → ∀ k, Pr.Good2 p t u i' k) ∧ Hid (Below Wa.heap.size Wa wr)) (fun v _ => nl - (intOf v).toNat)
          case atStart => exact ⟨0, Nat.zero_le _, rfl, Lib.hid (fun t' h => by omega), HB2⟩
          case round =>
            clear x0 x1 x2 xl HB2
            obtain ⟨i, hi, rfl, HG3, HB3⟩ := hrel
            generalize wr = V3 at *
            obtain ⟨x0, x1, x2, xl⟩ := HXN.out V3 HB3.out
            obtain ⟨r1, rg⟩ := HR.out.1 V3 HB3.out
            have ki1 : (0 : Int) ≤ (i : Int) := Int.natCast_nonneg _
            by_cases hli : i < nl
            · have ki2 : (i : Int) < (nl : Int) := by omega
              go_upto_region 10 with fail
              go_wp2_with fail
              go_loopw [6] (fun v wr => ∃ k : Nat, k ≤ nm ∧ v = .int .i64 k ∧ Hid (∀ k', k' < k → Pr.Good2 p t u i k') ∧ Hid (Below Wa.heap.size Wa wr)) (fun v _ => nm - (intOf v).toNat)
              case atStart => exact ⟨0, Nat.zero_le _, rfl, Lib.hid (fun t' h => by omega), HB3⟩
              case round =>
                clear x0 x1 x2 xl r1 rg HB3
                obtain ⟨k, hk, rfl, HG4, HB4⟩ := hrel
                generalize wr = V4 at *
                obtain ⟨x0, x1, x2, xl⟩ := HXN.out V4 HB4.out
                obtain ⟨r2, rg⟩ := HR.out.2 V4 HB4.out
                have kk1 : (0 : Int) ≤ (k : Int) := Int.natCast_nonneg _
                by_cases hlk : k < nm
                · have kk2 : (k : Int) < (nm : Int) := by omega
                  obtain ⟨a, ha⟩ := get_some (show i < ct.length by rw [← HL.out.1]; exact hli)
                  obtain ⟨b, hb⟩ := get_some (show k < cu.length by rw [← HL.out.2]; exact hlk)
                  obtain ⟨ga, oa, rfl, hca⟩ := HI.out.1 i a ha
                  obtain ⟨gb, ob, rfl, hcb⟩ := HI.out.2 k b hb
                  obtain ⟨ak, ar, ax, an⟩ := a
                  obtain ⟨bk, br, bx, bn⟩ := b
                  have HSS := Lib.hid (show ∀ v, Below V4.heap.size V4 v → (v.cell? ⟨X, 2, none⟩ = some (.slice (some ⟨g, o, none⟩) n cap) ∧ X < v.heap.size) ∧ (v.cell? ⟨g, o + t, none⟩ = some (.slice (some ⟨ga, oa, none⟩) nl c1) ∧ v.cell? ⟨g, o + u, none⟩ = some (.slice (some ⟨gb, ob, none⟩) nm c2) ∧ g < v.heap.size) ∧ (InAt v ga (oa + i * 4) ⟨ak, ar, ax, an⟩ ∧ ga < v.heap.size) ∧ (InAt v gb (ob + k * 4) ⟨bk, br, bx, bn⟩ ∧ gb < v.heap.size) from fun v hv => by
                    have hv2 := below_at HB4.out hv
                    obtain ⟨_, _, y2, yl⟩ := HXN.out v hv2
                    exact ⟨⟨y2, yl⟩, ⟨(HR.out.1 v hv2).1, (HR.out.2 v hv2).1, (HR.out.1 v hv2).2⟩, hca v hv2, hcb v hv2⟩)
                  have HAB := Lib.hid (And.intro ha hb)
                  clear ha hb hca hcb
                  go_upto_region 13 with fail
                  clear x0 x1 x2 xl r2 rg
                  go_cut [7, 8] (fun v7 v8 wz => Below V4.heap.size V4 wz ∧ ∃ Y7 Y8, v7 = .pointer (some ⟨Y7, 0, none⟩) ∧ v8 = .pointer (some ⟨Y8, 0, none⟩) ∧ (wz.cell? ⟨Y7, 0, none⟩ = some (.int .i64 ak) ∧ wz.cell? ⟨Y7, 2, none⟩ = some (.int .i64 ax) ∧ Y7 < wz.heap.size) ∧ (wz.cell? ⟨Y8, 0, none⟩ = some (.int .i64 bk) ∧ wz.cell? ⟨Y8, 2, none⟩ = some (.int .i64 bx) ∧ Y8 < wz.heap.size))
                  case first =>
                    refine wp_region_pt (by kernel_rfl) (fun v => (v.cell? ⟨X, 2, none⟩ = some (.slice (some ⟨g, o, none⟩) n cap) ∧ X < v.heap.size) ∧ (v.cell? ⟨g, o + t, none⟩ = some (.slice (some ⟨ga, oa, none⟩) nl c1) ∧ v.cell? ⟨g, o + u, none⟩ = some (.slice (some ⟨gb, ob, none⟩) nm c2) ∧ g < v.heap.size) ∧ (InAt v ga (oa + i * 4) ⟨ak, ar, ax, an⟩ ∧ ga < v.heap.size) ∧ (InAt v gb (ob + k * 4) ⟨bk, br, bx, bn⟩ ∧ gb < v.heap.size)) [] (.cons 0 .pure (.cons 1 .load (.cons 2 .pure (.cons 3 .pure (.cons 4 .load (.cons 5 .pure (.cons 6 .pure (.cons 7 .load (.cons 8 .pure (.cons 9 .load (.cons 10 .pure (.cons 11 .pure (.cons 12 .load (.cons 13 .pure (.cons 14 .pure (.cons 15 .load (.fork 16 (.cons 17 .eff (.cons 18 .eff (.cons 19 .eff .nil))) 17 (.cons 16 .eff (.cons 18 .eff (.cons 19 .eff .nil)))))))))))))))))))) (by simp only [PT.map, List.getElem?_toArray, List.getElem?_cons_succ, List.getElem?_cons_zero]; rfl) (by kernel_rfl) (fun _ _ d _ _ h => by cases d <;> exact h) (HSS.out V4.drew (Below.refl V4.heap.size V4).drew) ?_
                    have HBW := Lib.hid (Below.refl V4.heap.size V4).drew
                    obtain ⟨vw, hv⟩ : ∃ vw, vw = V4.drew := ⟨_, rfl⟩
                    rw [← hv] at HBW ⊢
                    clear hv
                    repeat (first
                      | (refine pt_pure (v := ?_) (by rfl) (fun w1 => ?_) ?_
                         rotate_left
                         · go_simp <;> with_reducible rfl
                         simp only [Act.put, List.setIfInBounds_toArray, List.set_cons_zero, List.set_cons_succ])
                      | (refine pt_off (by rfl) ?_
                         simp only [Act.put, List.setIfInBounds_toArray, List.set_cons_zero, List.set_cons_succ])
                      | (refine pt_load_off (by rfl) ?_
                         simp only [Act.put, List.setIfInBounds_toArray, List.set_cons_zero, List.set_cons_succ])
                      | (refine pt_load (v := ?_) (by rfl) (fun w1 hw1 => ?_) ?_
                         rotate_left
                         · (have qq := hw1
                            obtain ⟨⟨x2, xl⟩, ⟨s1, s2, sl⟩, ⟨⟨a0, a1, a2, a3⟩, al⟩, ⟨b0, b1, b2, b3⟩, bl⟩ := qq
                            clear hw1
                            go_simp <;> with_reducible rfl)
                         simp only [Act.put, List.setIfInBounds_toArray, List.set_cons_zero, List.set_cons_succ]))
                    refine pt_fork ?_ ?_
                    · go_wp2_with fail
                      obtain ⟨Y7, hY⟩ : ∃ Z, Z = vw.heap.size := ⟨_, rfl⟩
                      obtain ⟨vu, hu⟩ : ∃ u, u = vw.alloc (Obj.cells #[.int .i64 0, .int .i64 0, .int .i64 0, .int .i64 0] 98) := ⟨_, rfl⟩
                      rw [← hu, ← hY]
                      have hb : Below vw.heap.size vw vu := by rw [hu]; exact (Below.refl _ _).alloc (Nat.le_refl _) _
                      have hk : vu.heap[Y7]? = some (.cells #[.int .i64 0, .int .i64 0, .int .i64 0, .int .i64 0] 98 (0, 0)) := by rw [hu, hY]; exact heap_alloc_new vw _
                      have HY7 : Hid (V4.heap.size ≤ Y7) := Lib.hid (by rw [hY]; exact HBW.out.size)
                      (try have HNE : Hid (Y7 ≠ Y8) := Lib.hid (by have := blk_lt H8.out; omega))
                      have H7 := Lib.hid hk
                      have HBW := Lib.hid (below_at HBW.out hb)
                      (try have H8 := Lib.hid ((hb.block _ (blk_lt H8.out)).trans H8.out))
                      clear hb hk hu hY
                      rename World => vw
                      refine pt_on (fun u h => h) (HSS.out _ HBW.out) ?_
                      refine pt_eff ?_
                      go_wp2_with fail
                      obtain ⟨Y8, hY⟩ : ∃ Z, Z = vw.heap.size := ⟨_, rfl⟩
                      obtain ⟨vu, hu⟩ : ∃ u, u = vw.alloc (Obj.cells #[.int .i64 0, .int .i64 0, .int .i64 0, .int .i64 0] 98) := ⟨_, rfl⟩
                      rw [← hu, ← hY]
                      have hb : Below vw.heap.size vw vu := by rw [hu]; exact (Below.refl _ _).alloc (Nat.le_refl _) _
                      have hk : vu.heap[Y8]? = some (.cells #[.int .i64 0, .int .i64 0, .int .i64 0, .int .i64 0] 98 (0, 0)) := by rw [hu, hY]; exact heap_alloc_new vw _
                      have HY8 : Hid (V4.heap.size ≤ Y8) := Lib.hid (by rw [hY]; exact HBW.out.size)
                      (try have HNE : Hid (Y7 ≠ Y8) := Lib.hid (by have := blk_lt H7.out; omega))
                      have H8 := Lib.hid hk
                      have HBW := Lib.hid (below_at HBW.out hb)
                      (try have H7 := Lib.hid ((hb.block _ (blk_lt H7.out)).trans H7.out))
                      clear hb hk hu hY
                      rename World => vw
                      refine pt_on (fun u h => h) (HSS.out _ HBW.out) ?_
                      refine pt_eff ?_
                      have e0 := cell_blk H7.out 0
                      have e1 := cell_blk H7.out 1
                      have e2 := cell_blk H7.out 2
                      have e3 := cell_blk H7.out 3
                      simp only [List.getElem?_toArray, List.getElem?_cons_zero, List.getElem?_cons_succ] at e0 e1 e2 e3
                      have g0 := free_blk H7.out 0
                      have g1 := free_blk H7.out 1
                      have g2 := free_blk H7.out 2
                      have g3 := free_blk H7.out 3
                      have zl := blk_lt H7.out
                      obtain ⟨V6, hV6, hk2, hm2⟩ := ins_store H7.out (.int .i64 ak) (.int .i64 ar) (.int .i64 ax) (.int .i64 an)
                      have HV6 := Lib.hid hV6
                      have H8 := Lib.hid ((hm2.block _ (blk_lt H8.out) (fun e => HNE.out (by first | exact e | exact e.symm))).trans H8.out)
                      have H7 := Lib.hid hk2
                      have HBW := Lib.hid (HBW.out.trans (hm2.below V4.heap.size HBW.out.size (fun k hk e => by have := HY7.out; omega)))
                      clear hV6 hk2 hm2
                      go_wp2_with fail
                      rw [← HV6.out]
                      clear e0 e1 e2 e3 g0 g1 g2 g3 zl HV6
                      rename World => vw
                      refine pt_on (fun u h => h) (HSS.out _ HBW.out) ?_
                      refine pt_eff ?_
                      have e0 := cell_blk H8.out 0
                      have e1 := cell_blk H8.out 1
                      have e2 := cell_blk H8.out 2
                      have e3 := cell_blk H8.out 3
                      simp only [List.getElem?_toArray, List.getElem?_cons_zero, List.getElem?_cons_succ] at e0 e1 e2 e3
                      have g0 := free_blk H8.out 0
                      have g1 := free_blk H8.out 1
                      have g2 := free_blk H8.out 2
                      have g3 := free_blk H8.out 3
                      have zl := blk_lt H8.out
                      obtain ⟨V6, hV6, hk2, hm2⟩ := ins_store H8.out (.int .i64 bk) (.int .i64 br) (.int .i64 bx) (.int .i64 bn)
                      have HV6 := Lib.hid hV6
                      have H7 := Lib.hid ((hm2.block _ (blk_lt H7.out) (fun e => HNE.out (by first | exact e | exact e.symm))).trans H7.out)
                      have H8 := Lib.hid hk2
                      have HBW := Lib.hid (HBW.out.trans (hm2.below V4.heap.size HBW.out.size (fun k hk e => by have := HY8.out; omega)))
                      clear hV6 hk2 hm2
                      go_wp2_with fail
                      rw [← HV6.out]
                      clear e0 e1 e2 e3 g0 g1 g2 g3 zl HV6
                      rename World => vw
                      refine pt_on (fun u h => h) (HSS.out _ HBW.out) ?_
                      refine pt_end ?_
                      go_wp2_with fail
                      go_meet
                      exact ⟨HBW.out, Y7, Y8, rfl, rfl, ⟨cell_blk H7.out 0, cell_blk H7.out 2, blk_lt H7.out⟩, cell_blk H8.out 0, cell_blk H8.out 2, blk_lt H8.out⟩
                    · go_wp2_with fail
                      obtain ⟨Y8, hY⟩ : ∃ Z, Z = vw.heap.size := ⟨_, rfl⟩
                      obtain ⟨vu, hu⟩ : ∃ u, u = vw.alloc (Obj.cells #[.int .i64 0, .int .i64 0, .int .i64 0, .int .i64 0] 98) := ⟨_, rfl⟩
                      rw [← hu, ← hY]
                      have hb : Below vw.heap.size vw vu := by rw [hu]; exact (Below.refl _ _).alloc (Nat.le_refl _) _
                      have hk : vu.heap[Y8]? = some (.cells #[.int .i64 0, .int .i64 0, .int .i64 0, .int .i64 0] 98 (0, 0)) := by rw [hu, hY]; exact heap_alloc_new vw _
                      have HY8 : Hid (V4.heap.size ≤ Y8) := Lib.hid (by rw [hY]; exact HBW.out.size)
                      (try have HNE : Hid (Y7 ≠ Y8) := Lib.hid (by have := blk_lt H7.out; omega))
                      have H8 := Lib.hid hk
                      have HBW := Lib.hid (below_at HBW.out hb)
                      (try have H7 := Lib.hid ((hb.block _ (blk_lt H7.out)).trans H7.out))
                      clear hb hk hu hY
                      rename World => vw
                      refine pt_on (fun u h => h) (HSS.out _ HBW.out) ?_
                      refine pt_eff ?_
                      go_wp2_with fail
                      obtain ⟨Y7, hY⟩ : ∃ Z, Z = vw.heap.size := ⟨_, rfl⟩
                      obtain ⟨vu, hu⟩ : ∃ u, u = vw.alloc (Obj.cells #[.int .i64 0, .int .i64 0, .int .i64 0, .int .i64 0] 98) := ⟨_, rfl⟩
                      rw [← hu, ← hY]
                      have hb : Below vw.heap.size vw vu := by rw [hu]; exact (Below.refl _ _).alloc (Nat.le_refl _) _
                      have hk : vu.heap[Y7]? = some (.cells #[.int .i64 0, .int .i64 0, .int .i64 0, .int .i64 0] 98 (0, 0)) := by rw [hu, hY]; exact heap_alloc_new vw _
                      have HY7 : Hid (V4.heap.size ≤ Y7) := Lib.hid (by rw [hY]; exact HBW.out.size)
                      (try have HNE : Hid (Y7 ≠ Y8) := Lib.hid (by have := blk_lt H8.out; omega))
                      have H7 := Lib.hid hk
                      have HBW := Lib.hid (below_at HBW.out hb)
                      (try have H8 := Lib.hid ((hb.block _ (blk_lt H8.out)).trans H8.out))
                      clear hb hk hu hY
                      rename World => vw
                      refine pt_on (fun u h => h) (HSS.out _ HBW.out) ?_
                      refine pt_eff ?_
                      have e0 := cell_blk H7.out 0
                      have e1 := cell_blk H7.out 1
                      have e2 := cell_blk H7.out 2
                      have e3 := cell_blk H7.out 3
                      simp only [List.getElem?_toArray, List.getElem?_cons_zero, List.getElem?_cons_succ] at e0 e1 e2 e3
                      have g0 := free_blk H7.out 0
                      have g1 := free_blk H7.out 1
                      have g2 := free_blk H7.out 2
                      have g3 := free_blk H7.out 3
                      have zl := blk_lt H7.out
                      obtain ⟨V6, hV6, hk2, hm2⟩ := ins_store H7.out (.int .i64 ak) (.int .i64 ar) (.int .i64 ax) (.int .i64 an)
                      have HV6 := Lib.hid hV6
                      have H8 := Lib.hid ((hm2.block _ (blk_lt H8.out) (fun e => HNE.out (by first | exact e | exact e.symm))).trans H8.out)
                      have H7 := Lib.hid hk2
                      have HBW := Lib.hid (HBW.out.trans (hm2.below V4.heap.size HBW.out.size (fun k hk e => by have := HY7.out; omega)))
                      clear hV6 hk2 hm2
                      go_wp2_with fail
                      rw [← HV6.out]
                      clear e0 e1 e2 e3 g0 g1 g2 g3 zl HV6
                      rename World => vw
                      refine pt_on (fun u h => h) (HSS.out _ HBW.out) ?_
                      refine pt_eff ?_
                      have e0 := cell_blk H8.out 0
                      have e1 := cell_blk H8.out 1
                      have e2 := cell_blk H8.out 2
                      have e3 := cell_blk H8.out 3
                      simp only [List.getElem?_toArray, List.getElem?_cons_zero, List.getElem?_cons_succ] at e0 e1 e2 e3
                      have g0 := free_blk H8.out 0
                      have g1 := free_blk H8.out 1
                      have g2 := free_blk H8.out 2
                      have g3 := free_blk H8.out 3
                      have zl := blk_lt H8.out
                      obtain ⟨V6, hV6, hk2, hm2⟩ := ins_store H8.out (.int .i64 bk) (.int .i64 br) (.int .i64 bx) (.int .i64 bn)
                      have HV6 := Lib.hid hV6
                      have H7 := Lib.hid ((hm2.block _ (blk_lt H7.out) (fun e => HNE.out (by first | exact e | exact e.symm))).trans H7.out)
                      have H8 := Lib.hid hk2
                      have HBW := Lib.hid (HBW.out.trans (hm2.below V4.heap.size HBW.out.size (fun k hk e => by have := HY8.out; omega)))
                      clear hV6 hk2 hm2
                      go_wp2_with fail
                      rw [← HV6.out]
                      clear e0 e1 e2 e3 g0 g1 g2 g3 zl HV6
                      rename World => vw
                      refine pt_on (fun u h => h) (HSS.out _ HBW.out) ?_
                      refine pt_end ?_
                      go_wp2_with fail
                      go_meet
                      exact ⟨HBW.out, Y7, Y8, rfl, rfl, ⟨cell_blk H7.out 0, cell_blk H7.out 2, blk_lt H7.out⟩, cell_blk H8.out 0, cell_blk H8.out 2, blk_lt H8.out⟩
                  case rest =>
                    obtain ⟨bz, Y7, Y8, rfl, rfl, ⟨e0, e2, el⟩, f0, f2, fl⟩ := hcut
                    generalize wc = V5 at *
                    have HB5 := Lib.hid (below_at HB4.out bz)
                    clear bz HSS
                    go_upto_region 14 with fail
                    go_cut [9] (fun v9 wz => wz = V5 ∧ ∃ z, v9 = .bool z ∧ (z = true ↔ (ak ≤ 2 ∧ bk ≤ 2 ∧ (ak = 2 ∨ bk = 2))))
                    case first =>
                      by_cases h1 : ak ≤ 2 <;> by_cases h2 : bk ≤ 2 <;> by_cases h3 : ak = 2 <;> by_cases h4 : bk = 2 <;> try (exfalso; omega)
                      all_goals (have j3 : (ak == 2) = decide (ak = 2) := rfl)
                      all_goals (have j4 : (bk == 2) = decide (bk = 2) := rfl)
                      all_goals (first | rw [decide_eq_true h3] at j3 | rw [decide_eq_false h3] at j3)
                      all_goals (first | rw [decide_eq_true h4] at j4 | rw [decide_eq_false h4] at j4)
                      all_goals (go_wp2_with fail; go_meet; exact ⟨by first | rfl | trivial, _, rfl, by constructor <;> intro h <;> first | rfl | (cases h; done) | omega⟩)
                    case rest =>
                      obtain ⟨rfl, zm, rfl, hzm⟩ := hcut
                      rename World => V5
                      have HZM := Lib.hid hzm
                      clear hzm
                      go_upto_region 15 with fail
                      go_cut [100] (fun v9 wz => wz = V5 ∧ ∃ z, v9 = .bool z ∧ (z = false → t ≠ u → ax = bx → ¬ (zm = true ∨ (ak = 5 ∧ bk = 5))))
                      case first =>
                        by_cases htu : t = u
                        · have j0 : (t : Int) = (u : Int) := by omega
                          have j1 : ((t : Int) != (u : Int)) = false := by rw [j0]; simp
                          go_wp2_with fail
                          go_meet
                          exact ⟨by first | rfl | trivial, _, rfl, fun _ h => absurd htu h⟩
                        · have j0 : ¬ (t : Int) = (u : Int) := by omega
                          have j1 : ((t : Int) != (u : Int)) = true := bne_iff_ne.2 j0
                          by_cases hxx : ax = bx
                          · have j2 : (ax == bx) = true := by simpa using hxx
                            cases zm with
                            | true =>
                              go_wp2_with fail
                              go_meet
                              exact ⟨by first | rfl | trivial, _, rfl, fun h => by simp at h⟩
                            | false =>
                              by_cases h5 : ak = 5 <;> by_cases h6 : bk = 5
                              all_goals (have j3 : (ak == 5) = decide (ak = 5) := rfl)
                              all_goals (have j4 : (bk == 5) = decide (bk = 5) := rfl)
                              all_goals (first | rw [decide_eq_true h5] at j3 | rw [decide_eq_false h5] at j3)
                              all_goals (first | rw [decide_eq_true h6] at j4 | rw [decide_eq_false h6] at j4)
                              all_goals (go_wp2_with fail; go_meet; exact ⟨by first | rfl | trivial, _, rfl, fun h => by first | (intro _ _ hh; rcases hh with hh | hh; (cases hh); omega) | (simp at h; done)⟩)
                          · have j2 : (ax == bx) = false := by simpa using hxx
                            go_wp2_with fail
                            go_meet
                            exact ⟨by first | rfl | trivial, _, rfl, fun _ _ h => absurd h hxx⟩
                      case rest =>
                        obtain ⟨rfl, z, rfl, hz⟩ := hcut
                        rename World => V5
                        cases z with
                        | true =>
                          go_wp2_with fail
                          go_ret
                          exact ⟨⟨false, rfl, fun h => (by cases h)⟩, below_at HB.out HB5.out⟩
                        | false =>
                          have hgood : Pr.Good2 p t u i k := fun ct' cu' a b h1 h2 h3 h4 hne hx hh => by
                            rw [HC.out.1] at h1
                            rw [HC.out.2] at h2
                            injection h1 with h1
                            injection h2 with h2
                            subst h1
                            subst h2
                            rw [HAB.out.1] at h3
                            rw [HAB.out.2] at h4
                            injection h3 with h3
                            injection h4 with h4
                            subst h3
                            subst h4
                            refine hz rfl hne hx ?_
                            rcases hh with hh | hh
                            · exact .inl (HZM.out.2 hh)
                            · exact .inr hh
                          have HGD := Lib.hid hgood
                          clear hgood hz
                          go_wp2_with fail
                          go_roundw
                          case rel => exact ⟨k + 1, by omega, by go_num, Lib.hid (fun k' hk' => by
                            by_cases hkk : k' = k
                            · rw [hkk]; exact HGD.out
                            · exact HG4.out k' (by omega)), HB5⟩
                          case measure => simp [intOf]; omega
                · obtain rfl : k = nm := by omega
                  have kk4 : ¬ (k : Int) < (k : Int) := by omega
                  go_wp2_with fail
                  go_roundw
                  case rel => exact ⟨i + 1, by omega, by go_num, Lib.hid (fun i' hi' k' => by
                    by_cases hii : i' = i
                    · subst hii
                      by_cases hkk : k' < k
                      · exact HG4.out k' hkk
                      · intro ct' cu' a b h1 h2 h3 h4
                        rw [HC.out.2] at h2
                        injection h2 with h2
                        subst h2
                        have := (List.getElem?_eq_some_iff.1 h4).1
                        rw [← HL.out.2] at this
                        omega
                    · exact HG3.out i' (by omega) k'), HB4⟩
                  case measure => simp [intOf]; omega
            · obtain rfl : i = nl := by omega
              have kk4 : ¬ (i : Int) < (i : Int) := by omega
              go_wp2_with fail
              go_roundw
              case rel => exact ⟨u + 1, by omega, by go_num, Lib.hid (fun u' hu' i' k' => by
                by_cases huu : u' = u
                · subst huu
                  by_cases hii : i' < i
                  · exact HG3.out i' hii k'
                  · intro ct' cu' a b h1 h2 h3 h4
                    rw [HC.out.1] at h1
                    injection h1 with h1
                    subst h1
                    have := (List.getElem?_eq_some_iff.1 h3).1
                    rw [← HL.out.1] at this
                    omega
                · exact HG2.out u' (by omega) i' k'), HB3⟩
              case measure => simp [intOf]; omega
        · obtain rfl : u = n := by omega
          have kk4 : ¬ (u : Int) < (u : Int) := by omega
          go_wp2_with fail
          go_roundw
          case rel => exact ⟨t + 1, by omega, by go_num, Lib.hid (fun t' ht' u' i' k' => by
            by_cases htt : t' = t
            · subst htt
              by_cases huu : u' < u
              · exact HG2.out u' huu i' k'
              · intro ct' cu' a b h1 h2 h3 h4
                have := (List.getElem?_eq_some_iff.1 h2).1
                rw [← HN.out] at this
                omega
            · exact HG1.out t' (by omega) u' i' k'), HB2⟩
          case measure => simp [intOf]; omega
    · obtain rfl : t = n := by omega
      have kk4 : ¬ (t : Int) < (t : Int) := by omega
      go_wp2_with fail
      go_ret
      exact ⟨⟨true, rfl, fun _ => Pr.plain_of (fun t' ht' u i k => HG1.out t' (by rw [HN.out]; exact ht') u i k)⟩, below_at HB.out HB1.out⟩
end Go.Proofs.YtckdofjpoajblaaGreat
namespace Go.Proofs.YtckdofjpoajblaaGreat
open Go.RowKit
set_option linter.unusedVariables false
set_option maxRecDepth 100000 in
set_option maxHeartbeats 16000000 in
theorem seqPlain_any (W : World) (p : Pg) (A : Option Addr) (cap : Nat) (f : Int) (B : Option Addr) (cap2 : Nat) (ts : List Nat) (hp : PgIn W p A)
    (hr : Rd W 1 B ts.length (ts.map (fun (t : Nat) => Value.int .u8 (t : Int)))) (hg : ∀ t ∈ ts, t ≤ 255) (ht : ts.length ≤ maxLen) :
    Calls Tryz.prog 8 #[valP p A cap, .int .i64 f, .slice B ts.length cap2] W fun e w' => e = .returned (.bool true) ∧ Below W.heap.size W w' := by
  obtain ⟨i8, hi8, h80, h81, h82⟩ := info_parts Tryz.infoU8
  obtain ⟨Wa, X, hWa, hX, hBa, hXl, hXe⟩ := pg_box W p.vars p.mtx A p.code.length cap
  have hpa := hp.below hBa
  have hsmall : ∀ u, Below Wa.heap.size Wa u → _ := fun u hu => small_any u p A cap f (hpa.below hu)
  obtain ⟨sm, hsm⟩ : ∃ b, b = Pr.small p f := ⟨_, rfl⟩
  rw [← hsm] at hsmall
  obtain ⟨nt, hnt⟩ : ∃ n, n = ts.length := ⟨_, rfl⟩
  have hm1 : nt < 9223372036854775808 := by rw [hnt]; unfold maxLen at ht; omega
  have HXE := Lib.hid hXe
  have HB := Lib.hid hBa
  have HPA := Lib.hid hpa
  have HSM := Lib.hid hsm
  have HR := Lib.hid hr
  have HG := Lib.hid hg
  have HNT := Lib.hid hnt
  rw [← hnt]
  unfold valP at hsmall ⊢
  have HSMALL := Lib.hid hsmall
  obtain ⟨x0, x1, x2, xl⟩ := hXe Wa (Below.refl _ _)
  clear hXe hBa hsmall hpa hp hsm hr hg ht hnt
  go_enter Tryz.func8, Tryz.ntmps8
  go_upto_region 1 with fail
  rw [← hWa, ← hX]
  clear hWa hX
  go_cut [26] (fun v w2 => Below Wa.heap.size Wa w2 ∧ ∃ z, v = .bool z ∧ (z = false → sm = true ∧ nt ≤ 500 ∧ Pr.PlainP p))
  case first =>
    go_wp2_with fail
    refine (awake09 _).mono ?_
    rintro x w1 ⟨rfl, b1⟩
    have HB1 := Lib.hid b1
    clear b1 x0 x1 x2 xl
    obtain ⟨x0, x1, x2, xl⟩ := HXE.out w1 HB1.out
    go_wp2_with fail
    refine (HSMALL.out w1 HB1.out).mono ?_
    rintro x w2 ⟨rfl, b2⟩
    have HB2 := Lib.hid (below_at HB1.out b2)
    clear b2
    cases sm with
    | false =>
      go_wp2_with fail
      go_meet
      exact ⟨HB2.out, _, rfl, fun h => by cases h⟩
    | true =>
      obtain ⟨m0, hf0, _, hok0, _⟩ := Pr.small_spec HSM.out.symm
      clear hf0
      have hpl := plain_any w2 p A cap (HPA.out.below HB2.out) hok0
      unfold valP at hpl
      have HPL := Lib.hid hpl
      clear hpl hok0 x0 x1 x2 xl
      obtain ⟨x0, x1, x2, xl⟩ := HXE.out w2 HB2.out
      by_cases hn : 500 < nt
      · have hn1 : (500 : Int) < (nt : Int) := by omega
        go_wp2_with fail
        go_meet
        exact ⟨HB2.out, _, rfl, fun h => by first | (cases h; done) | (simp at h; done)⟩
      · have hn1 : ¬ (500 : Int) < (nt : Int) := by omega
        go_wp2_with fail
        refine HPL.out.mono ?_
        rintro x w3 ⟨⟨zp, rfl, hzp⟩, b3⟩
        have HB3 := Lib.hid (below_at HB2.out b3)
        have HZP := Lib.hid hzp
        clear b3 hzp
        cases zp with
        | false =>
          go_wp2_with fail
          go_meet
          exact ⟨HB3.out, _, rfl, fun h => by first | (cases h; done) | (simp at h; done)⟩
        | true =>
          go_wp2_with fail
          go_meet
          exact ⟨HB3.out, false, by first | rfl | trivial | (simp; omega), fun _ => by refine ⟨?_, ?_, ?_⟩ <;> first | trivial | rfl | omega | exact HZP.out (by trivial)⟩
  case rest =>
    obtain ⟨b1, z, rfl, hz⟩ := hcut
    have HB1 := Lib.hid b1
    clear b1 x0 x1 x2 xl
    cases z with
    | true =>
      go_wp2_with fail
      refine (awake09 _).mono ?_
      rintro e w2 ⟨rfl, b2⟩
      go_wp2_with fail
      go_ret
      exact ⟨rfl, below_at HB.out (below_at HB1.out b2)⟩
    | false =>
      obtain ⟨hs1, hn500, hplain⟩ := hz rfl
      subst hs1
      clear hz HSMALL hm1
      obtain ⟨m, rfl, hm8, hok, _, hcnt, hall6⟩ := Pr.small_spec HSM.out.symm
      have hwf := Pr.start_wf hok hm8
      have hfu := Pr.fuels_start hok hm8
      obtain ⟨h1, h2, h3, h4⟩ := Pr.expl_plain hwf hfu (Pr.plain_apart hwf (Pr.start_own p m) hplain) 600 ts hcnt
      have hex := explore_law Wa p A cap m 600 ts HPA.out hm8 hok (by omega) HG.out (by rw [← HNT.out]; omega)
      rw [show max 600 1 = 600 by omega, ← HNT.out, h3, h1, h2, h4, show (((1 : Nat) : Int)) = (1 : Int) from rfl, show (((0 : Nat) : Int)) = (0 : Int) from rfl] at hex
      obtain ⟨en, hen⟩ : ∃ n, n = (Pr.explX (Pr.start p m) 600 ts).1.nodes := ⟨_, rfl⟩
      obtain ⟨ke, hke⟩ : ∃ n, n = Pr.ksE (Pr.start p m) 600 ts := ⟨_, rfl⟩
      rw [← hen, ← hke] at hex
      unfold valP at hex
      obtain ⟨W2, hW2⟩ : ∃ z, z = wc := ⟨_, rfl⟩
      have hbA : Below Wa.heap.size Wa W2 := by rw [hW2]; exact HB1.out
      have HSS := Lib.hid (show ∀ u, Below W2.heap.size W2 u → (u.cell? ⟨X, 0, none⟩ = some (.int .i64 p.vars) ∧ u.cell? ⟨X, 1, none⟩ = some (.int .i64 p.mtx) ∧ u.cell? ⟨X, 2, none⟩ = some (.slice A p.code.length cap) ∧ X < u.heap.size) from fun u hu => HXE.out u (below_at hbA hu))
      have HORD := Lib.hid (show ∀ u, Below W2.heap.size W2 u → Rd u 1 B nt (ts.map fun (b : Nat) => Value.int .u8 (b : Int)) from fun u hu => by
        have := HR.out.below (below_at HB.out (below_at hbA hu)) (Nat.le_refl _)
        rw [← HNT.out] at this
        exact this)
      have HEX := Lib.hid (fun u (hu : Below W2.heap.size W2 u) => hex u (below_at hbA hu))
      have HB2 := Lib.hid hbA
      rw [← hW2]
      clear hcnt hall6 hwf hfu hok hm8 HSM hex h1 h2 h3 h4 hen hke hbA HB1 hW2 hplain
      generalize wc = w00 at *
      go_upto_region 3 with fail
      go_cut [7, 8] (fun v9 v10 wz => Below W2.heap.size W2 wz ∧ ∃ Y KA' kc', v9 = .pointer (some ⟨Y, 0, none⟩) ∧ v10 = .int .i64 0 ∧ wz.heap[Y]? = some (.cells #[.slice KA' 1 kc', .int .i64 (en : Int), .int .i64 1, .int .i64 0, .bool true] 60 (0, 0)) ∧ Rd wz 1 KA' 1 (ke.map sv))
      case first =>
        refine wp_region_pt (by kernel_rfl) (fun u => (u.cell? ⟨X, 0, none⟩ = some (.int .i64 p.vars) ∧ u.cell? ⟨X, 1, none⟩ = some (.int .i64 p.mtx) ∧ u.cell? ⟨X, 2, none⟩ = some (.slice A p.code.length cap) ∧ X < u.heap.size)) [] (.cons 0 .load (.cons 1 .pure (.cons 3 .pure (.fork 2 (.fork 4 (.fork 5 (.cons 6 .pure (.cons 7 .pure (.cons 8 .pure (.cons 9 .eff (.cons 10 .eff (.cons 11 .pure .nil)))))) 9 (.cons 5 .eff (.cons 6 .pure (.cons 7 .pure (.cons 8 .pure (.cons 10 .eff (.cons 11 .pure .nil))))))) 9 (.cons 4 .eff (.cons 5 .eff (.cons 6 .pure (.cons 7 .pure (.cons 8 .pure (.cons 10 .eff (.cons 11 .pure .nil)))))))) 9 (.cons 2 .eff (.cons 4 .eff (.cons 5 .eff (.cons 6 .pure (.cons 7 .pure (.cons 8 .pure (.cons 10 .eff (.cons 11 .pure .nil)))))))))))) (by simp only [PT.map, List.getElem?_toArray, List.getElem?_cons_succ, List.getElem?_cons_zero]; rfl) (by kernel_rfl) (fun _ _ d _ _ h => by cases d <;> exact h) (HSS.out W2.drew (Below.refl W2.heap.size W2).drew) ?_
        have HB := Lib.hid (Below.refl W2.heap.size W2).drew
        obtain ⟨vw, hv⟩ : ∃ vw, vw = W2.drew := ⟨_, rfl⟩
        rw [← hv] at HB ⊢
        clear hv
        repeat (first
          | (refine pt_pure (v := ?_) (by rfl) (fun w1 => ?_) ?_
             rotate_left
             · go_simp <;> with_reducible rfl
             simp only [Act.put, List.setIfInBounds_toArray, List.set_cons_zero, List.set_cons_succ])
          | (refine pt_off (by rfl) ?_
             simp only [Act.put, List.setIfInBounds_toArray, List.set_cons_zero, List.set_cons_succ])
          | (refine pt_load_off (by rfl) ?_
             simp only [Act.put, List.setIfInBounds_toArray, List.set_cons_zero, List.set_cons_succ])
          | (refine pt_load (v := ?_) (by rfl) (fun w1 hw1 => ?_) ?_
             rotate_left
             · (have qq := hw1
                obtain ⟨x0, x1, x2, xl⟩ := qq
                clear hw1
                go_simp <;> with_reducible rfl)
             simp only [Act.put, List.setIfInBounds_toArray, List.set_cons_zero, List.set_cons_succ]))
        refine pt_fork ?_ ?_
        · go_wp2_with fail
          obtain ⟨E, hE⟩ : ∃ Z, Z = vw.heap.size := ⟨_, rfl⟩
          obtain ⟨u, hu⟩ : ∃ u, u = vw.alloc (Obj.cells #[] 5) := ⟨_, rfl⟩
          rw [← hu, ← hE]
          have hb : Below vw.heap.size vw u := by rw [hu]; exact (Below.refl _ _).alloc (Nat.le_refl _) _
          have hk : u.heap[E]? = some (.cells #[] 5 (0, 0)) := by rw [hu, hE]; exact heap_alloc_new vw _
          have HC := Lib.hid hk
          have HB := Lib.hid (below_at HB.out hb)
          (try have HZ := Lib.hid (blk_stepW HZ.out hb))
          clear hb hk hu hE
          rename World => vw
          refine pt_on (fun u h => h) (HSS.out _ HB.out) ?_
          refine pt_fork ?_ ?_
          · have HR := Lib.hid (HORD.out vw HB.out)
            have HE := Lib.hid (row_empty (sz := 1) HC.out)
            go_wp2_with (at_builtin; refine wpList_append_copy (by rfl) _ _ _ (by rfl) 5 i8 _ 1 1 Tryz.underlying43 hi8 h80 h81 h82 rfl (by omega) ⟨E, 0, none⟩ 0 [] (by rfl) HE.out B nt cap2 (ts.map fun (b : Nat) => Value.int .u8 (b : Int)) (by rfl) HR.out (by unfold maxLen; omega) (by omega) ?_; intro g7 o7 cap7 u hown hb hgz)
            rw [Nat.zero_add, List.nil_append] at hown
            have HA := Lib.hid hown.rd
            have HB := Lib.hid (below_at HB.out hb)
            (try have HZ := Lib.hid (blk_stepW HZ.out hb))
            clear hown hb hgz HR HE
            rename World => vw
            refine pt_on (fun u h => h) (HSS.out _ HB.out) ?_
            refine pt_fork ?_ ?_
            · go_wp2_with fail
              refine (HEX.out _ HB.out _ _ HA.out).mono ?_
              rintro y u ⟨⟨KZ, kz, rfl, hrk⟩, hb⟩
              have HK := Lib.hid hrk
              have HB := Lib.hid (below_at HB.out hb)
              (try have HZ := Lib.hid (blk_stepW HZ.out hb))
              clear hrk hb
              rename World => vw
              go_wp2_with fail
              refine pt_on (fun u h => h) (HSS.out _ HB.out) ?_
              repeat (first
                | (refine pt_pure (v := ?_) (by rfl) (fun w1 => ?_) ?_
                   rotate_left
                   · go_simp <;> with_reducible rfl
                   simp only [Act.put, List.setIfInBounds_toArray, List.set_cons_zero, List.set_cons_succ])
                | (refine pt_off (by rfl) ?_
                   simp only [Act.put, List.setIfInBounds_toArray, List.set_cons_zero, List.set_cons_succ])
                | (refine pt_load_off (by rfl) ?_
                   simp only [Act.put, List.setIfInBounds_toArray, List.set_cons_zero, List.set_cons_succ])
                | (refine pt_load (v := ?_) (by rfl) (fun w1 hw1 => ?_) ?_
                   rotate_left
                   · (skip
                      clear hw1
                      go_simp <;> with_reducible rfl)
                   simp only [Act.put, List.setIfInBounds_toArray, List.set_cons_zero, List.set_cons_succ]))
              refine pt_eff ?_
              go_wp2_with fail
              obtain ⟨Y, hY⟩ : ∃ Z, Z = vw.heap.size := ⟨_, rfl⟩
              obtain ⟨u, hu⟩ : ∃ u, u = vw.alloc (Obj.cells #[.slice none 0 0, .int .i64 0, .int .i64 0, .int .i64 0, .bool false] 60) := ⟨_, rfl⟩
              rw [← hu, ← hY]
              have hb : Below vw.heap.size vw u := by rw [hu]; exact (Below.refl _ _).alloc (Nat.le_refl _) _
              have hk : u.heap[Y]? = some (.cells #[.slice none 0 0, .int .i64 0, .int .i64 0, .int .i64 0, .bool false] 60 (0, 0)) := by rw [hu, hY]; exact heap_alloc_new vw _
              have HYW : Hid (W2.heap.size ≤ Y) := Lib.hid (by rw [hY]; exact HB.out.size)
              have HZ := Lib.hid hk
              have HB := Lib.hid (below_at HB.out hb)
              (try have HC := Lib.hid (blk_stepW HC.out hb))
              (try have HA := Lib.hid (HA.out.below hb (Nat.le_refl _)))
              (try have HK := Lib.hid (HK.out.below hb (Nat.le_refl _)))
              clear hb hk hu hY
              rename World => vw
              refine pt_on (fun u h => h) (HSS.out _ HB.out) ?_
              refine pt_eff ?_
              have e0 := cell_blk HZ.out 0
              have e1 := cell_blk HZ.out 1
              have e2 := cell_blk HZ.out 2
              have e3 := cell_blk HZ.out 3
              have e4 := cell_blk HZ.out 4
              simp only [List.getElem?_toArray, List.getElem?_cons_zero, List.getElem?_cons_succ] at e0 e1 e2 e3 e4
              have g0 := free_blk HZ.out 0
              have g1 := free_blk HZ.out 1
              have g2 := free_blk HZ.out 2
              have g3 := free_blk HZ.out 3
              have g4 := free_blk HZ.out 4
              have zl := blk_lt HZ.out
              obtain ⟨V2, hV2, hk2, hm2⟩ := rep_store HZ.out (.slice KZ 1 kz) (.int .i64 (en : Int)) (.int .i64 1) (.int .i64 0) (.bool true)
              have HV2 := Lib.hid hV2
              have HREP := Lib.hid hk2
              have HRK := Lib.hid (rd_store HK.out HZ.out hm2)
              have HB := Lib.hid (HB.out.trans (hm2.below W2.heap.size HB.out.size (fun k hk e => by have := HYW.out; omega)))
              clear hV2 hk2 hm2
              go_wp2_with fail
              rw [← HV2.out]
              clear e0 e1 e2 e3 e4 g0 g1 g2 g3 g4 zl
              refine pt_on (fun u h => h) (HSS.out _ HB.out) ?_
              repeat (first
                | (refine pt_pure (v := ?_) (by rfl) (fun w1 => ?_) ?_
                   rotate_left
                   · go_simp <;> with_reducible rfl
                   simp only [Act.put, List.setIfInBounds_toArray, List.set_cons_zero, List.set_cons_succ])
                | (refine pt_off (by rfl) ?_
                   simp only [Act.put, List.setIfInBounds_toArray, List.set_cons_zero, List.set_cons_succ])
                | (refine pt_load_off (by rfl) ?_
                   simp only [Act.put, List.setIfInBounds_toArray, List.set_cons_zero, List.set_cons_succ])
                | (refine pt_load (v := ?_) (by rfl) (fun w1 hw1 => ?_) ?_
                   rotate_left
                   · (skip
                      clear hw1
                      go_simp <;> with_reducible rfl)
                   simp only [Act.put, List.setIfInBounds_toArray, List.set_cons_zero, List.set_cons_succ]))
              refine pt_end ?_
              go_wp2_with fail
              go_meet
              exact ⟨HB.out, _, _, _, rfl, rfl, HREP.out, HRK.out⟩
            · go_wp2_with fail
              obtain ⟨Y, hY⟩ : ∃ Z, Z = vw.heap.size := ⟨_, rfl⟩
              obtain ⟨u, hu⟩ : ∃ u, u = vw.alloc (Obj.cells #[.slice none 0 0, .int .i64 0, .int .i64 0, .int .i64 0, .bool false] 60) := ⟨_, rfl⟩
              rw [← hu, ← hY]
              have hb : Below vw.heap.size vw u := by rw [hu]; exact (Below.refl _ _).alloc (Nat.le_refl _) _
              have hk : u.heap[Y]? = some (.cells #[.slice none 0 0, .int .i64 0, .int .i64 0, .int .i64 0, .bool false] 60 (0, 0)) := by rw [hu, hY]; exact heap_alloc_new vw _
              have HYW : Hid (W2.heap.size ≤ Y) := Lib.hid (by rw [hY]; exact HB.out.size)
              have HZ := Lib.hid hk
              have HB := Lib.hid (below_at HB.out hb)
              (try have HC := Lib.hid (blk_stepW HC.out hb))
              (try have HA := Lib.hid (HA.out.below hb (Nat.le_refl _)))
              (try have HK := Lib.hid (HK.out.below hb (Nat.le_refl _)))
              clear hb hk hu hY
              rename World => vw
              refine pt_on (fun u h => h) (HSS.out _ HB.out) ?_
              refine pt_eff ?_
              go_wp2_with fail
              refine (HEX.out _ HB.out _ _ HA.out).mono ?_
              rintro y u ⟨⟨KZ, kz, rfl, hrk⟩, hb⟩
              have HK := Lib.hid hrk
              have HB := Lib.hid (below_at HB.out hb)
              (try have HZ := Lib.hid (blk_stepW HZ.out hb))
              clear hrk hb
              rename World => vw
              go_wp2_with fail
              refine pt_on (fun u h => h) (HSS.out _ HB.out) ?_
              repeat (first
                | (refine pt_pure (v := ?_) (by rfl) (fun w1 => ?_) ?_
                   rotate_left
                   · go_simp <;> with_reducible rfl
                   simp only [Act.put, List.setIfInBounds_toArray, List.set_cons_zero, List.set_cons_succ])
                | (refine pt_off (by rfl) ?_
                   simp only [Act.put, List.setIfInBounds_toArray, List.set_cons_zero, List.set_cons_succ])
                | (refine pt_load_off (by rfl) ?_
                   simp only [Act.put, List.setIfInBounds_toArray, List.set_cons_zero, List.set_cons_succ])
                | (refine pt_load (v := ?_) (by rfl) (fun w1 hw1 => ?_) ?_
                   rotate_left
                   · (skip
                      clear hw1
                      go_simp <;> with_reducible rfl)
                   simp only [Act.put, List.setIfInBounds_toArray, List.set_cons_zero, List.set_cons_succ]))
              refine pt_eff ?_
              have e0 := cell_blk HZ.out 0
              have e1 := cell_blk HZ.out 1
              have e2 := cell_blk HZ.out 2
              have e3 := cell_blk HZ.out 3
              have e4 := cell_blk HZ.out 4
              simp only [List.getElem?_toArray, List.getElem?_cons_zero, List.getElem?_cons_succ] at e0 e1 e2 e3 e4
              have g0 := free_blk HZ.out 0
              have g1 := free_blk HZ.out 1
              have g2 := free_blk HZ.out 2
              have g3 := free_blk HZ.out 3
              have g4 := free_blk HZ.out 4
              have zl := blk_lt HZ.out
              obtain ⟨V2, hV2, hk2, hm2⟩ := rep_store HZ.out (.slice KZ 1 kz) (.int .i64 (en : Int)) (.int .i64 1) (.int .i64 0) (.bool true)
              have HV2 := Lib.hid hV2
              have HREP := Lib.hid hk2
              have HRK := Lib.hid (rd_store HK.out HZ.out hm2)
              have HB := Lib.hid (HB.out.trans (hm2.below W2.heap.size HB.out.size (fun k hk e => by have := HYW.out; omega)))
              clear hV2 hk2 hm2
              go_wp2_with fail
              rw [← HV2.out]
              clear e0 e1 e2 e3 e4 g0 g1 g2 g3 g4 zl
              refine pt_on (fun u h => h) (HSS.out _ HB.out) ?_
              repeat (first
                | (refine pt_pure (v := ?_) (by rfl) (fun w1 => ?_) ?_
                   rotate_left
                   · go_simp <;> with_reducible rfl
                   simp only [Act.put, List.setIfInBounds_toArray, List.set_cons_zero, List.set_cons_succ])
                | (refine pt_off (by rfl) ?_
                   simp only [Act.put, List.setIfInBounds_toArray, List.set_cons_zero, List.set_cons_succ])
                | (refine pt_load_off (by rfl) ?_
                   simp only [Act.put, List.setIfInBounds_toArray, List.set_cons_zero, List.set_cons_succ])
                | (refine pt_load (v := ?_) (by rfl) (fun w1 hw1 => ?_) ?_
                   rotate_left
                   · (skip
                      clear hw1
                      go_simp <;> with_reducible rfl)
                   simp only [Act.put, List.setIfInBounds_toArray, List.set_cons_zero, List.set_cons_succ]))
              refine pt_end ?_
              go_wp2_with fail
              go_meet
              exact ⟨HB.out, _, _, _, rfl, rfl, HREP.out, HRK.out⟩
          · go_wp2_with fail
            obtain ⟨Y, hY⟩ : ∃ Z, Z = vw.heap.size := ⟨_, rfl⟩
            obtain ⟨u, hu⟩ : ∃ u, u = vw.alloc (Obj.cells #[.slice none 0 0, .int .i64 0, .int .i64 0, .int .i64 0, .bool false] 60) := ⟨_, rfl⟩
            rw [← hu, ← hY]
            have hb : Below vw.heap.size vw u := by rw [hu]; exact (Below.refl _ _).alloc (Nat.le_refl _) _
            have hk : u.heap[Y]? = some (.cells #[.slice none 0 0, .int .i64 0, .int .i64 0, .int .i64 0, .bool false] 60 (0, 0)) := by rw [hu, hY]; exact heap_alloc_new vw _
            have HYW : Hid (W2.heap.size ≤ Y) := Lib.hid (by rw [hY]; exact HB.out.size)
            have HZ := Lib.hid hk
            have HB := Lib.hid (below_at HB.out hb)
            (try have HC := Lib.hid (blk_stepW HC.out hb))
            (try have HA := Lib.hid (HA.out.below hb (Nat.le_refl _)))
            (try have HK := Lib.hid (HK.out.below hb (Nat.le_refl _)))
            clear hb hk hu hY
            rename World => vw
            refine pt_on (fun u h => h) (HSS.out _ HB.out) ?_
            refine pt_eff ?_
            have HR := Lib.hid (HORD.out vw HB.out)
            have HE := Lib.hid (row_empty (sz := 1) HC.out)
            go_wp2_with (at_builtin; refine wpList_append_copy (by rfl) _ _ _ (by rfl) 5 i8 _ 1 1 Tryz.underlying43 hi8 h80 h81 h82 rfl (by omega) ⟨E, 0, none⟩ 0 [] (by rfl) HE.out B nt cap2 (ts.map fun (b : Nat) => Value.int .u8 (b : Int)) (by rfl) HR.out (by unfold maxLen; omega) (by omega) ?_; intro g7 o7 cap7 u hown hb hgz)
            rw [Nat.zero_add, List.nil_append] at hown
            have HA := Lib.hid hown.rd
            have HB := Lib.hid (below_at HB.out hb)
            (try have HZ := Lib.hid (blk_stepW HZ.out hb))
            clear hown hb hgz HR HE
            rename World => vw
            refine pt_on (fun u h => h) (HSS.out _ HB.out) ?_
            refine pt_eff ?_
            go_wp2_with fail
            refine (HEX.out _ HB.out _ _ HA.out).mono ?_
            rintro y u ⟨⟨KZ, kz, rfl, hrk⟩, hb⟩
            have HK := Lib.hid hrk
            have HB := Lib.hid (below_at HB.out hb)
            (try have HZ := Lib.hid (blk_stepW HZ.out hb))
            clear hrk hb
            rename World => vw
            go_wp2_with fail
            refine pt_on (fun u h => h) (HSS.out _ HB.out) ?_
            repeat (first
              | (refine pt_pure (v := ?_) (by rfl) (fun w1 => ?_) ?_
                 rotate_left
                 · go_simp <;> with_reducible rfl
                 simp only [Act.put, List.setIfInBounds_toArray, List.set_cons_zero, List.set_cons_succ])
              | (refine pt_off (by rfl) ?_
                 simp only [Act.put, List.setIfInBounds_toArray, List.set_cons_zero, List.set_cons_succ])
              | (refine pt_load_off (by rfl) ?_
                 simp only [Act.put, List.setIfInBounds_toArray, List.set_cons_zero, List.set_cons_succ])
              | (refine pt_load (v := ?_) (by rfl) (fun w1 hw1 => ?_) ?_
                 rotate_left
                 · (skip
                    clear hw1
                    go_simp <;> with_reducible rfl)
                 simp only [Act.put, List.setIfInBounds_toArray, List.set_cons_zero, List.set_cons_succ]))
            refine pt_eff ?_
            have e0 := cell_blk HZ.out 0
            have e1 := cell_blk HZ.out 1
            have e2 := cell_blk HZ.out 2
            have e3 := cell_blk HZ.out 3
            have e4 := cell_blk HZ.out 4
            simp only [List.getElem?_toArray, List.getElem?_cons_zero, List.getElem?_cons_succ] at e0 e1 e2 e3 e4
            have g0 := free_blk HZ.out 0
            have g1 := free_blk HZ.out 1
            have g2 := free_blk HZ.out 2
            have g3 := free_blk HZ.out 3
            have g4 := free_blk HZ.out 4
            have zl := blk_lt HZ.out
            obtain ⟨V2, hV2, hk2, hm2⟩ := rep_store HZ.out (.slice KZ 1 kz) (.int .i64 (en : Int)) (.int .i64 1) (.int .i64 0) (.bool true)
            have HV2 := Lib.hid hV2
            have HREP := Lib.hid hk2
            have HRK := Lib.hid (rd_store HK.out HZ.out hm2)
            have HB := Lib.hid (HB.out.trans (hm2.below W2.heap.size HB.out.size (fun k hk e => by have := HYW.out; omega)))
            clear hV2 hk2 hm2
            go_wp2_with fail
            rw [← HV2.out]
            clear e0 e1 e2 e3 e4 g0 g1 g2 g3 g4 zl
            refine pt_on (fun u h => h) (HSS.out _ HB.out) ?_
            repeat (first
              | (refine pt_pure (v := ?_) (by rfl) (fun w1 => ?_) ?_
                 rotate_left
                 · go_simp <;> with_reducible rfl
                 simp only [Act.put, List.setIfInBounds_toArray, List.set_cons_zero, List.set_cons_succ])
              | (refine pt_off (by rfl) ?_
                 simp only [Act.put, List.setIfInBounds_toArray, List.set_cons_zero, List.set_cons_succ])
              | (refine pt_load_off (by rfl) ?_
                 simp only [Act.put, List.setIfInBounds_toArray, List.set_cons_zero, List.set_cons_succ])
              | (refine pt_load (v := ?_) (by rfl) (fun w1 hw1 => ?_) ?_
                 rotate_left
                 · (skip
                    clear hw1
                    go_simp <;> with_reducible rfl)
                 simp only [Act.put, List.setIfInBounds_toArray, List.set_cons_zero, List.set_cons_succ]))
            refine pt_end ?_
            go_wp2_with fail
            go_meet
            exact ⟨HB.out, _, _, _, rfl, rfl, HREP.out, HRK.out⟩
        · go_wp2_with fail
          obtain ⟨Y, hY⟩ : ∃ Z, Z = vw.heap.size := ⟨_, rfl⟩
          obtain ⟨u, hu⟩ : ∃ u, u = vw.alloc (Obj.cells #[.slice none 0 0, .int .i64 0, .int .i64 0, .int .i64 0, .bool false] 60) := ⟨_, rfl⟩
          rw [← hu, ← hY]
          have hb : Below vw.heap.size vw u := by rw [hu]; exact (Below.refl _ _).alloc (Nat.le_refl _) _
          have hk : u.heap[Y]? = some (.cells #[.slice none 0 0, .int .i64 0, .int .i64 0, .int .i64 0, .bool false] 60 (0, 0)) := by rw [hu, hY]; exact heap_alloc_new vw _
          have HYW : Hid (W2.heap.size ≤ Y) := Lib.hid (by rw [hY]; exact HB.out.size)
          have HZ := Lib.hid hk
          have HB := Lib.hid (below_at HB.out hb)
          (try have HC := Lib.hid (blk_stepW HC.out hb))
          (try have HA := Lib.hid (HA.out.below hb (Nat.le_refl _)))
          (try have HK := Lib.hid (HK.out.below hb (Nat.le_refl _)))
          clear hb hk hu hY
          rename World => vw
          refine pt_on (fun u h => h) (HSS.out _ HB.out) ?_
          refine pt_eff ?_
          go_wp2_with fail
          obtain ⟨E, hE⟩ : ∃ Z, Z = vw.heap.size := ⟨_, rfl⟩
          obtain ⟨u, hu⟩ : ∃ u, u = vw.alloc (Obj.cells #[] 5) := ⟨_, rfl⟩
          rw [← hu, ← hE]
          have hb : Below vw.heap.size vw u := by rw [hu]; exact (Below.refl _ _).alloc (Nat.le_refl _) _
          have hk : u.heap[E]? = some (.cells #[] 5 (0, 0)) := by rw [hu, hE]; exact heap_alloc_new vw _
          have HC := Lib.hid hk
          have HB := Lib.hid (below_at HB.out hb)
          (try have HZ := Lib.hid (blk_stepW HZ.out hb))
          clear hb hk hu hE
          rename World => vw
          refine pt_on (fun u h => h) (HSS.out _ HB.out) ?_
          refine pt_eff ?_
          have HR := Lib.hid (HORD.out vw HB.out)
          have HE := Lib.hid (row_empty (sz := 1) HC.out)
          go_wp2_with (at_builtin; refine wpList_append_copy (by rfl) _ _ _ (by rfl) 5 i8 _ 1 1 Tryz.underlying43 hi8 h80 h81 h82 rfl (by omega) ⟨E, 0, none⟩ 0 [] (by rfl) HE.out B nt cap2 (ts.map fun (b : Nat) => Value.int .u8 (b : Int)) (by rfl) HR.out (by unfold maxLen; omega) (by omega) ?_; intro g7 o7 cap7 u hown hb hgz)
          rw [Nat.zero_add, List.nil_append] at hown
          have HA := Lib.hid hown.rd
          have HB := Lib.hid (below_at HB.out hb)
          (try have HZ := Lib.hid (blk_stepW HZ.out hb))
          clear hown hb hgz HR HE
          rename World => vw
          refine pt_on (fun u h => h) (HSS.out _ HB.out) ?_
          refine pt_eff ?_
          go_wp2_with fail
          refine (HEX.out _ HB.out _ _ HA.out).mono ?_
          rintro y u ⟨⟨KZ, kz, rfl, hrk⟩, hb⟩
          have HK := Lib.hid hrk
          have HB := Lib.hid (below_at HB.out hb)
          (try have HZ := Lib.hid (blk_stepW HZ.out hb))
          clear hrk hb
          rename World => vw
          go_wp2_with fail
          refine pt_on (fun u h => h) (HSS.out _ HB.out) ?_
          repeat (first
            | (refine pt_pure (v := ?_) (by rfl) (fun w1 => ?_) ?_
               rotate_left
               · go_simp <;> with_reducible rfl
               simp only [Act.put, List.setIfInBounds_toArray, List.set_cons_zero, List.set_cons_succ])
            | (refine pt_off (by rfl) ?_
               simp only [Act.put, List.setIfInBounds_toArray, List.set_cons_zero, List.set_cons_succ])
            | (refine pt_load_off (by rfl) ?_
               simp only [Act.put, List.setIfInBounds_toArray, List.set_cons_zero, List.set_cons_succ])
            | (refine pt_load (v := ?_) (by rfl) (fun w1 hw1 => ?_) ?_
               rotate_left
               · (skip
                  clear hw1
                  go_simp <;> with_reducible rfl)
               simp only [Act.put, List.setIfInBounds_toArray, List.set_cons_zero, List.set_cons_succ]))
          refine pt_eff ?_
          have e0 := cell_blk HZ.out 0
          have e1 := cell_blk HZ.out 1
          have e2 := cell_blk HZ.out 2
          have e3 := cell_blk HZ.out 3
          have e4 := cell_blk HZ.out 4
          simp only [List.getElem?_toArray, List.getElem?_cons_zero, List.getElem?_cons_succ] at e0 e1 e2 e3 e4
          have g0 := free_blk HZ.out 0
          have g1 := free_blk HZ.out 1
          have g2 := free_blk HZ.out 2
          have g3 := free_blk HZ.out 3
          have g4 := free_blk HZ.out 4
          have zl := blk_lt HZ.out
          obtain ⟨V2, hV2, hk2, hm2⟩ := rep_store HZ.out (.slice KZ 1 kz) (.int .i64 (en : Int)) (.int .i64 1) (.int .i64 0) (.bool true)
          have HV2 := Lib.hid hV2
          have HREP := Lib.hid hk2
          have HRK := Lib.hid (rd_store HK.out HZ.out hm2)
          have HB := Lib.hid (HB.out.trans (hm2.below W2.heap.size HB.out.size (fun k hk e => by have := HYW.out; omega)))
          clear hV2 hk2 hm2
          go_wp2_with fail
          rw [← HV2.out]
          clear e0 e1 e2 e3 e4 g0 g1 g2 g3 g4 zl
          refine pt_on (fun u h => h) (HSS.out _ HB.out) ?_
          repeat (first
            | (refine pt_pure (v := ?_) (by rfl) (fun w1 => ?_) ?_
               rotate_left
               · go_simp <;> with_reducible rfl
               simp only [Act.put, List.setIfInBounds_toArray, List.set_cons_zero, List.set_cons_succ])
            | (refine pt_off (by rfl) ?_
               simp only [Act.put, List.setIfInBounds_toArray, List.set_cons_zero, List.set_cons_succ])
            | (refine pt_load_off (by rfl) ?_
               simp only [Act.put, List.setIfInBounds_toArray, List.set_cons_zero, List.set_cons_succ])
            | (refine pt_load (v := ?_) (by rfl) (fun w1 hw1 => ?_) ?_
               rotate_left
               · (skip
                  clear hw1
                  go_simp <;> with_reducible rfl)
               simp only [Act.put, List.setIfInBounds_toArray, List.set_cons_zero, List.set_cons_succ]))
          refine pt_end ?_
          go_wp2_with fail
          go_meet
          exact ⟨HB.out, _, _, _, rfl, rfl, HREP.out, HRK.out⟩
      case rest =>
        obtain ⟨bz, Y, KA2, kc2, rfl, rfl, hrep, hrk⟩ := hcut
        have y0 : wc.cell? ⟨Y, 0, none⟩ = some (.slice KA2 1 kc2) := cell_blk hrep 0
        have y2 : wc.cell? ⟨Y, 2, none⟩ = some (.int .i64 1) := cell_blk hrep 2
        have y3 : wc.cell? ⟨Y, 3, none⟩ = some (.int .i64 0) := cell_blk hrep 3
        have y4 : wc.cell? ⟨Y, 4, none⟩ = some (.bool true) := cell_blk hrep 4
        have yl := blk_lt hrep
        have HBZ := Lib.hid bz
        clear hrep bz hrk HEX HORD HSS
        go_wp2_with fail
        go_ret
        exact ⟨by first | rfl | simp, below_at HB.out (below_at HB2.out HBZ.out)⟩
open Go.ChangeShapes Go.WideShapes Go.ChangeAt
set_option maxRecDepth 100000 in
theorem SeqPlain_walk {H : Type} {enc : TypeId × Value → H} (W : World) {base : Nat} {v0 v1 v2 : Value} {d0 d1 d2 : DataW H} {p0 p1 p2 : List MemPlace}
    (o0 : Value.okWide Tryz.prog W .any base 24 v0) (h0 : DataW.Trod enc Tryz.prog W 0 (fun _ => true) true 24 v0 d0 p0)
    (o1 : Value.okWide Tryz.prog W .any base 3 v1) (h1 : DataW.Trod enc Tryz.prog W 0 (fun _ => true) true 3 v1 d1 p1)
    (o2 : Value.okWide Tryz.prog W .any base 43 v2) (h2 : DataW.Trod enc Tryz.prog W 0 (fun _ => true) true 43 v2 d2 p2) :
    Calls Tryz.prog 8 #[v0, v1, v2] W fun e w' => e = .returned (.bool true) ∧ Below W.heap.size W w' := by
  obtain ⟨p, A, cap, rfl, hin⟩ := prog_arg o0 h0
  obtain ⟨f, rfl, rfl, rfl, _⟩ := open_int Tryz.underlying3 o1 h1
  obtain ⟨ts, B, cap2, rfl, hr, hl, hg⟩ := u8s_arg o2 h2
  exact seqPlain_any W p A cap f B cap2 ts hin hr hg hl
end Go.Proofs.YtckdofjpoajblaaGreat
