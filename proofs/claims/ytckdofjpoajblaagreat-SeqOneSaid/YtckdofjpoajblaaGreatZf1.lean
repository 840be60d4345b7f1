/- Part 1 of the proof of seqOne_holds: what it rests on. -/
import Derived.WalkKit
import Derived.WalkSpells
import Derived.WalkLawsBesides
import Derived.ArgAppend
import Derived.Deep.AppendLies
import Derived.Deep.RegionHeld3
import Derived.KernelRfl
import Derived.OrdersHeld
import Derived.ProofKit
import Derived.OpenShut
import Derived.ShutString
import Derived.ChangeOld
import Derived.Below
import Derived.SizedLaws
import Derived.Lib.Hide
import Derived.Test.YtckdofjpoajblaaGreatRows
import Derived.Outline
import Derived.Deep.CutBlock
import Derived.IntWalk
import Derived.Lib.MinMax
import Derived.Laws.StructEq
import Derived.Shelf.SlicesE.Kit
import Derived.Maps.RangeWalk
import Derived.Laws.BytesArg
import Derived.Lib.ConvBytes
import Derived.Deep.DeepCutAuto
import Derived.Lib.AppendZeros
import Derived.Lib.Walk
import Derived.Lib.SliceRun
import Derived.Shelf.Strings.Builder1
import Derived.Shelf.Small.Bits
import Derived.Shelf.Small.Wraps
import Derived.Shelf.Strings.BuilderF
import Derived.Shelf.Strings.BuilderK
import Derived.Shelf.Strconv.Itoa0
import Derived.Shelf.Sort.Plain
import Derived.Shelf.Slices.CompactS
import Derived.Ground.Names2Prog
import Derived.Shelf.Slices.SearchI
import Derived.Shelf.Slices.Cells
import Derived.Shelf.Slices.In.SortNone
import Derived.Ground.SlsfProg
import Derived.Shelf.SlSortCmp.InsertionK
import Derived.Shelf.SlSortCmp.SmallK
import Derived.Test.YtckdofjpoajblaaGreatProg
import Derived.Lib.AppendIntMem
import Derived.Laws.Bits64b
import Derived.Laws.EntriesVeiled
import Derived.Lib.SlicesCompact
import Derived.Sort.Walk0
import Derived.Deep.LoopGhost
import Derived.JoinedTies
import GoSem.Claim
import Derived.Test.YtckdofjpoajblaaGreatZa15
namespace Go.Proofs.YtckdofjpoajblaaGreat
set_option linter.unusedVariables false
namespace Fo
end Fo
namespace Sys
variable {σ : Type} (S : Sys σ)
theorem ini_next {f : Ev} : ∀ {l : List Ev} {s : σ}, S.ok s → S.Can s l → (∃ x ∈ l, x.t = f.t) → 0 ≤ f.t → S.next s f.t.toNat = some f → ∃ a b, l = a ++ f :: b ∧ ∀ x ∈ a, x.t ≠ f.t
  | [], s, _, _, h, _, _ => by obtain ⟨x, hx, _⟩ := h; cases hx
  | e :: l, s, h, hc, hx, h0, hn => by
    by_cases he : e.t = f.t
    · have h1 := hc.2.1
      rw [he, hn] at h1
      injection h1 with h1
      exact ⟨[], l, by rw [h1]; rfl, fun x hx => by cases hx⟩
    · have he' : e.t.toNat ≠ f.t.toNat := fun h1 => he (by have := S.nextT hc.2.1; omega)
      obtain ⟨a, b, hl, ha⟩ := ini_next (l := l) (S.okS h hc.1) hc.2.2 (by
        obtain ⟨x, hx, hxt⟩ := hx
        rcases List.mem_cons.1 hx with rfl | hx
        · exact (he hxt).elim
        · exact ⟨x, hx, hxt⟩) h0 (by rw [S.stay h hc.1 he']; exact hn)
      refine ⟨e :: a, b, by rw [hl]; rfl, fun x hx => ?_⟩
      rcases List.mem_cons.1 hx with rfl | hx
      · exact he
      · exact ha x hx
end Sys
end Go.Proofs.YtckdofjpoajblaaGreat
namespace Go.Proofs.YtckdofjpoajblaaGreat
open Bs
set_option linter.unusedVariables false
namespace Pr
def CalmN (n : XNd) : Prop := n.a = 0#8 ∧ ((n.d = 0#8 ∧ ∃ u, n.t = bit u) ∨ n.d = n.t)
def Calm (x : Sx) : Prop := (∀ n ∈ x.path, CalmN n) ∧ x.blk = 0
theorem free_zero (L : List Nat) : freeOf 0#8 L = L := by
  unfold freeOf
  rw [List.filter_eq_self]
  intro t _
  simp [has_zero]
theorem child_zero (s : St) (t : Nat) : childOf s 0#8 0#8 t = 0#8 := by
  unfold childOf
  cases next s t with
  | none => rfl
  | some e =>
    have h : (0#8 ||| 0#8 : BitVec 8) &&& ~~~bit t = 0#8 := by simp
    have h2 : Bs.all (0#8 : BitVec 8) = [] := by decide
    simp only [h, h2]
    rfl
theorem openX_calm (od : List Nat) {x : Sx} {s : St} (h : Calm x) (hr : races s x.ev = []) : Calm (openX od x s 0#8) := by
  obtain ⟨hp, hb⟩ := h
  have hq : ∀ n ∈ x.path ++ [⟨s, 0#8, 0#8, 0#8⟩], CalmN n := fun n hn => by
    rcases List.mem_append.1 hn with h1 | h1
    · exact hp n h1
    · rw [List.mem_singleton] at h1; subst h1; exact ⟨rfl, .inr rfl⟩
  unfold openX
  rw [hr, free_zero]
  have hm : ∀ p, markAll p [] = p := fun p => rfl
  simp only [hm]
  by_cases ha : all s = []
  · rw [if_pos ha]; exact ⟨hq, hb⟩
  · rw [if_neg ha, if_neg ha]
    refine ⟨fun n hn => ?_, hb⟩
    simp only at hn
    obtain ⟨i, hi⟩ := List.mem_iff_getElem?.1 hn
    rw [List.getElem?_modify] at hi
    by_cases hil : x.path.length = i
    · subst hil
      rw [List.getElem?_append_right (Nat.le_refl _)] at hi
      simp at hi
      subst hi
      exact ⟨rfl, .inl ⟨rfl, _, by unfold withT; simp; rfl⟩⟩
    · simp [hil] at hi
      exact hq n (List.mem_of_getElem? hi)
theorem intoX_calm (od : List Nat) {x : Sx} {n : XNd} {u : Nat} (h : Calm x) (hn : x.path.getLast? = some n) (hu : u ∈ Bs.left n.a n.d n.t) (hr : races (stepS n.s u) (x.ev ++ [evAt n.s u]) = []) : Calm (intoX od x n u) := by
  obtain ⟨hp, hb⟩ := h
  have hnp : n ∈ x.path := List.mem_of_getLast? hn
  obtain ⟨h1, h2, h3⟩ := mem_left.1 hu
  obtain ⟨ha, hd⟩ := hp n hnp
  have hd0 : n.d = 0#8 ∧ ∃ v, n.t = bit v := by
    rcases hd with h | h
    · exact h
    · rw [h, h1] at h2; cases h2
  obtain ⟨hd1, v, hv⟩ := hd0
  have huv : v = u := by
    rw [hv, has_bit] at h1
    simp at h1
    exact h1.2
  subst huv
  unfold intoX
  rw [ha, hd1, child_zero]
  refine openX_calm od ⟨fun m hm => ?_, hb⟩ hr
  simp only at hm
  obtain ⟨i, hi⟩ := List.mem_iff_getElem?.1 hm
  rw [List.getElem?_modify] at hi
  by_cases hil : x.path.length - 1 = i
  · subst hil
    rw [← List.getLast?_eq_getElem?, hn] at hi
    simp at hi
    subst hi
    refine ⟨ha, .inr ?_⟩
    simp [goneD, hd1, hv]
  · simp [hil] at hi
    exact hp m (List.mem_of_getElem? hi)
end Pr
end Go.Proofs.YtckdofjpoajblaaGreat
namespace Go.Proofs.YtckdofjpoajblaaGreat
open Bs
set_option linter.unusedVariables false
namespace Pr
theorem popX_calm {x : Sx} (h : Calm x) : Calm (popX x) := ⟨fun n hn => h.1 n ((List.dropLast_sublist _).mem hn), h.2⟩
theorem run_calm (od : List Nat) (bg : Nat) {s0 : St} (hs : Wf s0) (hR : ∀ z, sys.Can s0 z → races (at_ s0 z) z = []) : ∀ (k : Nat) (x : Sx) (g : Gh), Inv s0 x g → Calm x → Calm (runX od bg k x).1
  | 0, x, g, I, h => h
  | k + 1, x, g, I, h => by
    have hlast : x.path.getLast? = some (ndOf s0 g x.ev) := by rw [I.path]; exact pathOf_last _ _ _
    have hst : runX od bg (k + 1) x = if Bs.left (g.sl x.ev) (bitsE (g.dn x.ev)) (g.td x.ev) = [] then runX od bg k (popX x) else if bg ≤ x.nodes then (x, false) else runX od bg k (intoX od { x with ch := x.ch + 1 } (ndOf s0 g x.ev) ((Bs.left (g.sl x.ev) (bitsE (g.dn x.ev)) (g.td x.ev)).getD (pickI od x.ch (Bs.left (g.sl x.ev) (bitsE (g.dn x.ev)) (g.td x.ev)).length) 0)) := by
      conv => lhs; unfold runX
      rw [hlast]
      rfl
    rw [hst]
    by_cases hl : Bs.left (g.sl x.ev) (bitsE (g.dn x.ev)) (g.td x.ev) = []
    · rw [if_pos hl]
      rcases pop_inv hs I hl with ⟨hp, hF⟩ | J
      · rw [run_done hp]
        exact popX_calm h
      · exact run_calm od bg hs hR k (popX x) g J (popX_calm h)
    · rw [if_neg hl]
      by_cases hbg : bg ≤ x.nodes
      · rw [if_pos hbg]
        exact h
      · rw [if_neg hbg]
        have hpos : 0 < (Bs.left (g.sl x.ev) (bitsE (g.dn x.ev)) (g.td x.ev)).length := List.length_pos_iff.2 hl
        obtain ⟨u, hu⟩ : ∃ u, u = (Bs.left (g.sl x.ev) (bitsE (g.dn x.ev)) (g.td x.ev)).getD (pickI od x.ch (Bs.left (g.sl x.ev) (bitsE (g.dn x.ev)) (g.td x.ev)).length) 0 := ⟨_, rfl⟩
        have hum : u ∈ Bs.left (g.sl x.ev) (bitsE (g.dn x.ev)) (g.td x.ev) := by
          have hlt : pickI od x.ch (Bs.left (g.sl x.ev) (bitsE (g.dn x.ev)) (g.td x.ev)).length < (Bs.left (g.sl x.ev) (bitsE (g.dn x.ev)) (g.td x.ev)).length := Nat.mod_lt _ hpos
          rw [hu, List.getD_eq_getElem?_getD, List.getElem?_eq_getElem hlt]
          exact List.getElem_mem hlt
        rw [← hu]
        obtain ⟨ht, hd, ha⟩ := mem_left.1 hum
        have I2 : Inv s0 { x with ch := x.ch + 1 } g := ⟨I.tree, I.todo, I.out, I.path, I.on, I.nodes, I.keys, I.runs, I.blk, I.blkc⟩
        obtain ⟨g', J, hH⟩ := into_inv od hs I2 ht hd ha
        refine run_calm od bg hs hR k _ g' J (intoX_calm od (x := { x with ch := x.ch + 1 }) h hlast hum ?_)
        have hen := I.todo.en I.on ht
        obtain ⟨e, i, hn, _, _⟩ := enabled_next hen
        have hev : evAt (at_ s0 x.ev) u = e := by unfold evAt; rw [hn]; rfl
        have hue : e.t.toNat = u := by rw [next_t hn]; rfl
        show races (stepS (at_ s0 x.ev) u) (x.ev ++ [evAt (at_ s0 x.ev) u]) = []
        have hon : x.ev ++ [evAt (at_ s0 x.ev) u] ∈ g'.H := by rw [hH]; simp
        have hc := hR _ (J.tree.tree.way _ hon)
        have ha2 : at_ s0 (x.ev ++ [e]) = stepS (at_ s0 x.ev) u := by
          unfold at_
          rw [sys.aft_app, ← hue]
          rfl
        rw [hev] at hc ⊢
        rw [ha2] at hc
        exact hc
theorem expl_calm {s0 : St} (hs : Wf s0) (bg : Nat) (od : List Nat) (hR : ∀ z, sys.Can s0 z → races (at_ s0 z) z = []) : Calm (explX s0 bg od).1 := by
  obtain ⟨td', I⟩ := open_inv od hs x0 g0 [] [] rfl rfl (g0_tree s0) rfl rfl rfl (fun y _ => ⟨rfl, rfl⟩) (fun {y q} hy _ => by cases hy) (fun {y q e i} hy _ _ _ _ => by cases hy) (fun {y q} hy _ _ => by cases hy) (fun {y} hy _ _ _ => by cases hy) rfl rfl rfl (Nat.le_refl _) rfl
  have I' : Inv s0 (openX od x0 s0 0#8) { g0 with td := td' } := I
  have h0 : Calm (openX od x0 s0 0#8) := openX_calm od ⟨fun n hn => (by cases hn), rfl⟩ (hR [] trivial)
  exact run_calm od bg hs hR (2 * bg + 2) _ _ I' h0
theorem expl_blk {s0 : St} (hs : Wf s0) (bg : Nat) (od : List Nat) (hR : ∀ z, sys.Can s0 z → races (at_ s0 z) z = []) : (explX s0 bg od).1.blk = 0 := (expl_calm hs bg od hR).2
end Pr
end Go.Proofs.YtckdofjpoajblaaGreat
namespace Go.Proofs.YtckdofjpoajblaaGreat
open Bs
set_option linter.unusedVariables false
namespace Pr
theorem races_nil {s0 : St} (h : Apart s0) {z : List Ev} (hz : sys.Can s0 z) : races (at_ s0 z) z = [] := by
  rw [List.eq_nil_iff_forall_not_mem]
  rintro ⟨i, u⟩ hm
  obtain ⟨t, e, ht, hn, ⟨x, hx, hxt, hd, _⟩, _⟩ := mem_races.1 hm
  have := h z hz t e hn x (List.mem_of_getElem? hx) hxt
  rw [hd] at this
  cases this
theorem apart_blk {s0 : St} (hs : Wf s0) (h : Apart s0) (bg : Nat) (od : List Nat) : (explX s0 bg od).1.blk = 0 := expl_blk hs bg od fun z hz => races_nil h hz
end Pr
end Go.Proofs.YtckdofjpoajblaaGreat
namespace Go.Proofs.YtckdofjpoajblaaGreat
open Bs
set_option linter.unusedVariables false
namespace Pr
theorem apart_one : ∀ (l m : List Ev) {s : St}, Wf s → Apart s → sys.Can s l → sys.Can s m → (∀ t, enabled (at_ s l) t = false) → (∀ t, enabled (at_ s m) t = false) → Fo.Eqv l m
  | [], m, s, hs, hA, hl, hm, el, em => by
    cases m with
    | nil => exact .refl _
    | cons f m =>
      have h1 : enabled s f.t.toNat = true := hm.1
      have h2 : enabled s f.t.toNat = false := el f.t.toNat
      rw [h1] at h2; cases h2
  | e :: l, m, s, hs, hA, hl, hm, el, em => by
    have he := hl.1
    have hn : next s e.t.toNat = some e := hl.2.1
    have het : 0 ≤ e.t := by have h1 : e.t = ((e.t.toNat : Nat) : Int) := next_t hn; omega
    have hin : ∃ x ∈ m, x.t = e.t := by
      refine Classical.byContradiction fun hc => ?_
      have hne : ∀ x ∈ m, x.t ≠ e.t := fun x hx hh => hc ⟨x, hx, hh⟩
      have hpos := sys.can_pos hm
      have hfar : next (at_ s m) e.t.toNat = some e := by
        rw [← hn]
        exact sys.next_far hs hm (fun x hx hh => hne x hx (by have := hpos x hx; omega))
      have hd : ∀ x ∈ m, Fo.dep x e = false := fun x hx => hA m hm e.t.toNat e hfar x hx (hne x hx)
      have hp : enabled (at_ s m) e.t.toNat = true := (sys.can_push hs he hn hm hd).2.2.1
      have h2 := em e.t.toNat
      rw [hp] at h2; cases h2
    obtain ⟨a, b, hab, ha⟩ := sys.ini_next hs hm hin het hn
    subst hab
    obtain ⟨hca, hcb⟩ := sys.can_app.1 hm
    have hd : ∀ x ∈ a, Fo.dep x e = false := fun x hx => hA a hca e.t.toNat e hcb.2.1 x hx (ha x hx)
    have hq := Fo.Eqv.front hd b
    obtain ⟨hc2, ha2⟩ := (sys.can_eqv hq hs).2 hm
    have h3 : Fo.Eqv l (a ++ b) := apart_one l (a ++ b) (s := stepS s e.t.toNat) (stepS_wf _ hs).1 (hA.step he hn) hl.2.2 hc2.2.2 el (fun t => by
      have := em t
      unfold at_ at this
      rw [← ha2] at this
      exact this)
    exact (h3.left [e]).trans hq
end Pr
end Go.Proofs.YtckdofjpoajblaaGreat
namespace Go.Proofs.YtckdofjpoajblaaGreat
open Bs
set_option linter.unusedVariables false
namespace Pr
theorem ends_one {s0 : St} {g : Gh} (hs : Wf s0) (hA : Apart s0) (h : TreeG s0 g) : (g.H.filter (isEnd s0)).length ≤ 1 := by
  have hnd := h.nodup.filter (isEnd s0)
  have hmem : ∀ z, z ∈ g.H.filter (isEnd s0) → z ∈ g.H ∧ all (at_ s0 z) = [] := fun z hz => by
    obtain ⟨h1, h2⟩ := List.mem_filter.1 hz
    exact ⟨h1, of_decide_eq_true h2⟩
  cases hL : g.H.filter (isEnd s0) with
  | nil => simp
  | cons a r =>
    cases r with
    | nil => simp
    | cons b r =>
      rw [hL] at hnd hmem
      obtain ⟨ha, ea⟩ := hmem a (by simp)
      obtain ⟨hb, eb⟩ := hmem b (by simp)
      have hq := apart_one a b hs hA (h.tree.way a ha) (h.tree.way b hb) (all_nil.1 ea) (all_nil.1 eb)
      have := h.tree.once hs a b [] (show [] ++ a ∈ g.H by simpa using ha) (show [] ++ b ∈ g.H by simpa using hb) hq
      subst this
      simp at hnd
theorem some_end : ∀ (n : Nat) {s : St}, Wf s → sys.fuel s ≤ n → ∃ l, sys.Can s l ∧ all (at_ s l) = [] := by
  intro n
  induction n with
  | zero =>
    intro s hs hn
    refine ⟨[], trivial, all_nil.2 fun t => ?_⟩
    cases he : enabled (at_ s []) t with
    | false => rfl
    | true => have := sys.fuelS hs (t := t) he; omega
  | succ n ih =>
    intro s hs hn
    by_cases ha : all s = []
    · exact ⟨[], trivial, ha⟩
    · obtain ⟨t, ht⟩ := List.exists_mem_of_ne_nil _ ha
      have hen := all_iff.1 ht
      obtain ⟨e, i, hnx, _, _⟩ := enabled_next hen
      have het : e.t.toNat = t := by rw [next_t hnx]; rfl
      have hf := sys.fuelS hs (t := t) hen
      obtain ⟨l, h1, h2⟩ := ih (s := stepS s t) (stepS_wf _ hs).1 (by have : sys.fuel (sys.step s t) = sys.fuel (stepS s t) := rfl; omega)
      exact ⟨e :: l, ⟨by rw [het]; exact hen, by rw [het]; exact hnx, by rw [het]; exact h1⟩, by
        have : at_ s (e :: l) = at_ (stepS s t) l := by unfold at_; rw [sys.aft_cons, het]; rfl
        rw [this]; exact h2⟩
theorem Fin.one {s0 : St} {x : Sx} {g : Gh} (F : Fin s0 x g) (hs : Wf s0) (hf : fuels s0 ≤ 200) (hA : Apart s0) : x.runs = 1 := by
  have h1 := ends_one hs hA F.tree
  obtain ⟨l, hc, ha⟩ := some_end _ hs (Nat.le_refl _)
  have h2 := F.all_cls hs hf (ex_can.2 ⟨hc, rfl⟩) ha
  have h3 : 0 < (g.H.filter (isEnd s0)).length := by
    have := List.length_pos_of_mem h2
    simpa using this
  rw [F.runs]
  omega
end Pr
end Go.Proofs.YtckdofjpoajblaaGreat
namespace Go.Proofs.YtckdofjpoajblaaGreat
open Bs
set_option linter.unusedVariables false
namespace Pr
theorem can_threads : ∀ (z : List Ev) {s : St}, Wf s → sys.Can s z → (at_ s z).th.length = s.th.length ∧ ∀ x ∈ z, x.t.toNat < s.th.length
  | [], s, hs, _ => ⟨rfl, fun x hx => by cases hx⟩
  | e :: z, s, hs, h => by
    obtain ⟨w1, _, w3⟩ := stepS_wf e.t.toNat hs
    obtain ⟨h1, h2⟩ := can_threads z (s := stepS s e.t.toNat) w1 h.2.2
    refine ⟨h1.trans w3, fun x hx => ?_⟩
    rcases List.mem_cons.1 hx with rfl | hx
    · exact next_lt (e := x) h.2.1
    · exact w3 ▸ h2 x hx
theorem one_apart {s : St} (hs : Wf s) (h1 : s.th.length ≤ 1) : Apart s := fun z hz q f hf x hx hxf => by
  obtain ⟨hl, hlt⟩ := can_threads z hs hz
  have hx1 := hlt x hx
  have hx0 := sys.can_pos hz x hx
  have hq := next_lt hf
  have hft : f.t = (q : Int) := next_t hf
  exfalso
  apply hxf
  rw [hl] at hq
  omega
end Pr
end Go.Proofs.YtckdofjpoajblaaGreat
namespace Go.Proofs.YtckdofjpoajblaaGreat
open Bs
set_option linter.unusedVariables false
namespace Pr
theorem one_way : ∀ (l m : List Ev) {s : St}, Wf s → s.th.length ≤ 1 → sys.Can s l → sys.Can s m → l.length ≤ m.length → l <+: m
  | [], m, s, _, _, _, _, _ => List.nil_prefix
  | e :: l, [], s, _, _, _, _, h => by simp at h
  | e :: l, f :: m, s, hs, h1, hl, hm, h => by
    have h2 := next_lt (e := e) hl.2.1
    have h3 := next_lt (e := f) hm.2.1
    have h4 : e.t.toNat = f.t.toNat := by omega
    have h5 : next s e.t.toNat = some e := hl.2.1
    have h6 : next s f.t.toNat = some f := hm.2.1
    rw [h4, h6] at h5
    injection h5 with h5
    subst h5
    obtain ⟨w1, _, w3⟩ := stepS_wf f.t.toNat hs
    obtain ⟨r, hr⟩ := one_way l m (s := stepS s f.t.toNat) w1 (by rw [w3]; exact h1) hl.2.2 hm.2.2 (by simpa using h)
    exact ⟨r, by rw [← hr]; rfl⟩
theorem one_all {s : St} (h1 : s.th.length ≤ 1) : all s = [] ∨ all s = [0] := by
  unfold all
  rcases (show s.th.length = 0 ∨ s.th.length = 1 by omega) with h | h
  · rw [h]; exact .inl rfl
  · rw [h, show List.range 1 = [0] from rfl, List.filter_cons]
    split
    · exact .inr rfl
    · exact .inl rfl
theorem prefs_nodup : ∀ (n : Nat) {s : St}, Wf s → s.th.length ≤ 1 → (prefs n s).Nodup
  | 0, s, _, _ => by simp [prefs]
  | n + 1, s, hs, h1 => by
    obtain ⟨w1, _, w3⟩ := stepS_wf 0 hs
    have ih := prefs_nodup n (s := stepS s 0) w1 (by rw [w3]; exact h1)
    unfold prefs
    rcases one_all h1 with h | h
    · rw [h]; simp
    · rw [h]
      simp only [List.flatMap_cons, List.flatMap_nil, List.append_nil]
      refine List.nodup_cons.2 ⟨fun hm => ?_, ?_⟩
      · obtain ⟨a, _, ha⟩ := List.mem_map.1 hm
        cases ha
      · unfold List.Nodup
        rw [List.pairwise_map]
        exact ih.imp fun {a b} hab he => hab (by injection he)
theorem prefs_can : ∀ (n : Nat) {s : St} (z : List Ev), z ∈ prefs n s → sys.Can s z
  | 0, s, z, h => by
    simp only [prefs, List.mem_singleton] at h
    subst h
    trivial
  | n + 1, s, z, h => by
    unfold prefs at h
    rcases List.mem_cons.1 h with rfl | h
    · trivial
    · obtain ⟨t, ht, h⟩ := List.mem_flatMap.1 h
      obtain ⟨l, hl, rfl⟩ := List.mem_map.1 h
      have hen := all_iff.1 ht
      obtain ⟨e, i, hnx, _, _⟩ := enabled_next hen
      have he : evAt s t = e := by unfold evAt; rw [hnx]; rfl
      have het : e.t.toNat = t := by rw [next_t hnx]; rfl
      rw [he]
      exact ⟨by rw [het]; exact hen, by rw [het]; exact hnx, by rw [het]; exact prefs_can n l hl⟩
theorem Fin.all_ways {s0 : St} {x : Sx} {g : Gh} (F : Fin s0 x g) (hs : Wf s0) (h1 : s0.th.length ≤ 1) {z : List Ev} (hz : sys.Can s0 z) : z ∈ g.H := by
  have hw : Wf (at_ s0 z) := sys.can_ok hs hz
  obtain ⟨l, hc, ha⟩ := some_end _ hw (Nat.le_refl _)
  have hcu : sys.Can s0 (z ++ l) := sys.can_app.2 ⟨hz, hc⟩
  have hau : ∀ t, sys.en (sys.aft s0 (z ++ l)) t = false := fun t => by
    rw [sys.aft_app]
    exact all_nil.1 ha t
  obtain ⟨u, hu, hq⟩ := F.tree.tree.each hs (closed_of F.tree F.todo) hcu hau
  have hlen : u.length = (z ++ l).length := hq.perm.length_eq
  have hp := one_way u (z ++ l) hs h1 (F.tree.tree.way u hu) hcu (Nat.le_of_eq hlen)
  have he : u = z ++ l := hp.eq_of_length hlen
  subst he
  exact F.tree.tree.pre_app l hu
theorem Fin.one_nodes {s0 : St} {x : Sx} {g : Gh} (F : Fin s0 x g) (hs : Wf s0) (h1 : s0.th.length ≤ 1) {n : Nat} (hf : fuels s0 ≤ n) : x.nodes = cnt n s0 := by
  have h2 := F.tree.small hs hf
  have h3 := nodup_len (prefs n s0) g.H (prefs_nodup n hs h1) (fun z hz => F.all_ways hs h1 (prefs_can n z hz))
  rw [prefs_len] at h3
  rw [F.nodes]
  omega
theorem Fin.one_bound {s0 : St} {x : Sx} {g : Gh} (F : Fin s0 x g) (hs : Wf s0) (h1 : s0.th.length ≤ 1) : x.nodes ≤ fuels s0 + 1 := by
  have h3 := nodup_len (g.H.map List.length) (List.range (fuels s0 + 1)) (by
    unfold List.Nodup
    rw [List.pairwise_map]
    refine F.tree.nodup.imp_of_mem fun {a b} ha hb hab he => hab ?_
    exact (one_way a b hs h1 (F.tree.tree.way a ha) (F.tree.tree.way b hb) (Nat.le_of_eq he)).eq_of_length he) (fun k hk => by
    obtain ⟨a, ha, rfl⟩ := List.mem_map.1 hk
    have h4 := ex_len (ex_can.2 ⟨F.tree.tree.way a ha, rfl⟩) hs
    rw [List.mem_range]
    omega)
  rw [List.length_map, List.length_range] at h3
  rw [F.nodes]
  exact h3
theorem ends_len1 : ∀ (n : Nat) {s : St} (row : List Ev), Wf s → s.th.length ≤ 1 → (ends n s row).length = 1
  | 0, s, row, _, _ => rfl
  | n + 1, s, row, hs, h1 => by
    obtain ⟨w1, _, w3⟩ := stepS_wf 0 hs
    unfold ends
    rcases one_all h1 with h | h
    · rw [h]; rfl
    · rw [h]
      simp only [List.cons_ne_nil, if_false, List.flatMap_cons, List.flatMap_nil, List.append_nil]
      exact ends_len1 n (s := stepS s 0) _ w1 (by rw [w3]; exact h1)
end Pr
end Go.Proofs.YtckdofjpoajblaaGreat
namespace Go.Proofs.YtckdofjpoajblaaGreat
open Bs
set_option linter.unusedVariables false
namespace Pr
theorem expl_plain {s0 : St} (hs : Wf s0) (hf : fuels s0 ≤ 32) (hA : Apart s0) (bg : Nat) (od : List Nat) (hc : cnt 32 s0 ≤ bg) : (explX s0 bg od).1.runs = 1 ∧ (explX s0 bg od).1.blk = 0 ∧ (explX s0 bg od).2 = true ∧ (ksE s0 bg od).length = 1 := by
  have h1 : 1 ≤ bg := Nat.le_trans (cnt_pos _ _) hc
  have ok := expl_ok hs hf bg od h1
  have h2 := ok.compl hc
  obtain ⟨g, F, _, _⟩ := (expl_law hs bg od h1).1 h2
  have h3 := F.one hs (by omega) hA
  exact ⟨h3, apart_blk hs hA bg od, h2, by rw [← ok.runs]; exact h3⟩
theorem expl_one {s0 : St} (hs : Wf s0) (hf : fuels s0 ≤ 32) (ht : s0.th.length ≤ 1) (bg : Nat) (od : List Nat) (hc : cnt 32 s0 ≤ bg) : (explX s0 bg od).1.nodes = cnt 32 s0 ∧ cnt 32 s0 ≤ fuels s0 + 1 ∧ (sumOf (ends 32 s0 [])).runs = 1 := by
  have h1 : 1 ≤ bg := Nat.le_trans (cnt_pos _ _) hc
  have h2 := (expl_ok hs hf bg od h1).compl hc
  obtain ⟨g, F, _, _⟩ := (expl_law hs bg od h1).1 h2
  have h3 := F.one_nodes hs ht hf
  have h4 := F.one_bound hs ht
  refine ⟨h3, by omega, ?_⟩
  rw [sumOf_eq]
  exact ends_len1 32 [] hs ht
end Pr
end Go.Proofs.YtckdofjpoajblaaGreat
namespace Go.Proofs.YtckdofjpoajblaaGreat
open Go.RowKit
set_option linter.unusedVariables false
namespace Pr
def tk1 (p : Pg) : Pg := { p with code := p.code.take 1 }
theorem tk1_len {p : Pg} (h : 1 ≤ p.code.length) : (tk1 p).code.length = 1 := by unfold tk1; simp only; rw [List.length_take]; omega
theorem tk1_fuels {p : Pg} (h : 1 ≤ p.code.length) (m : Nat) : fuels (start (tk1 p) m) = m ∧ (start (tk1 p) m).th.length ≤ 1 := by
  have hl := tk1_len h
  unfold fuels start
  simp only [List.map_map, List.length_map]
  refine ⟨?_, Nat.le_of_eq hl⟩
  match hc : (tk1 p).code, hl with
  | [c], _ => simp
end Pr
theorem CdAt.take1 {w : World} {C : Nat → Prop} {A : Option Addr} {L : List (List Ins)} (h : CdAt w C A L) (h1 : 1 ≤ L.length) : CdAt w C A (L.take 1) := by
  obtain ⟨vs, ⟨hl, hr⟩, h2⟩ := h
  refine ⟨vs.take 1, ⟨by rw [List.length_take, List.length_take, hl]; omega, fun h0 => ?_⟩, fun i q hi => ?_⟩
  · obtain ⟨g, o, hA, hg, hlt, hc⟩ := hr (by omega)
    refine ⟨g, o, hA, hg, hlt, fun j hj => ?_⟩
    rw [List.length_take] at hj
    rw [hc j (by omega), List.getElem?_take_of_lt (by omega)]
  · have hi1 : i < 1 := by
      have := (List.getElem?_eq_some_iff.1 hi).1
      rw [List.length_take] at this
      omega
    rw [List.getElem?_take_of_lt hi1] at hi
    obtain ⟨A', c', h3, h4⟩ := h2 i q hi
    exact ⟨A', c', by rw [List.getElem?_take_of_lt hi1]; exact h3, h4⟩
theorem PgIn.take1 {w : World} {p : Pg} {A : Option Addr} (h : PgIn w p A) (h1 : 1 ≤ p.code.length) : PgIn w (Pr.tk1 p) A :=
  ⟨h.1.take1 h1, by rw [Pr.tk1_len h1]; simp [maxLen], fun q hq => h.2.2 q (List.mem_of_mem_take hq)⟩
open Go.ChangeShapes Go.WideShapes Go.ChangeAt
set_option maxRecDepth 100000 in
theorem prog_arg2 {H : Type} {enc : TypeId × Value → H} {W : World} {base : Nat} {v : Value} {d : DataW H} {q : List MemPlace}
    (o : Value.okWide Tryz.prog W .any base 24 v) (h : DataW.Trod enc Tryz.prog W 0 (fun _ => true) true 24 v d q) : ∃ (p : Pg) (A : Option Addr) (cap : Nat), v = valP p A cap ∧ PgIn W p A ∧ p.code.length ≤ cap ∧ cap ≤ maxLen := by
  obtain ⟨cs, rfl, hsz⟩ := okWide_struct Tryz.underlying24 o
  obtain ⟨fuel, hf⟩ := h
  obtain ⟨p, A, cap, hcs, hcd, h1, h2, h3, _⟩ := prog_read fuel cs.toList _ (by simpa [Value.cells] using hf)
  obtain rfl : cs = #[.int .i64 p.vars, .int .i64 p.mtx, .slice A p.code.length cap] := by
    apply Array.ext'
    simpa using hcs
  exact ⟨p, A, cap, rfl, ⟨hcd, Nat.le_trans h1 h2, h3⟩, h1, h2⟩
end Go.Proofs.YtckdofjpoajblaaGreat
namespace Go.Proofs.YtckdofjpoajblaaGreat
open Go.RowKit
set_option linter.unusedVariables false
set_option maxRecDepth 100000 in
set_option maxHeartbeats 16000000 in
theorem seqOne_any (W : World) (p : Pg) (A : Option Addr) (cap : Nat) (f : Int) (B : Option Addr) (cap2 : Nat) (ts : List Nat) (hp : PgIn W p A) (hcap : p.code.length ≤ cap) (hcap2 : cap ≤ maxLen)
    (hr : Rd W 1 B ts.length (ts.map (fun (t : Nat) => Value.int .u8 (t : Int)))) (hg : ∀ t ∈ ts, t ≤ 255) (ht : ts.length ≤ maxLen) :
    Calls Tryz.prog 11 #[valP p A cap, .int .i64 f, .slice B ts.length cap2] W fun e w' => e = .returned (.bool true) ∧ Below W.heap.size W w' := by
  obtain ⟨i8, hi8, h80, h81, h82⟩ := info_parts Tryz.infoU8
  obtain ⟨Wa, X, hWa, hX, hBa, hXl, hXe⟩ := pg_box W p.vars p.mtx A p.code.length cap
  have hpa := hp.below hBa
  obtain ⟨np, hnp⟩ : ∃ n, n = p.code.length := ⟨_, rfl⟩
  have hpl : np < 9223372036854775808 := by rw [hnp]; unfold maxLen at hcap2; omega
  rw [← hnp] at hWa hXe hcap
  have hxk : ∀ u, Below Wa.heap.size Wa u → u.heap[X]? = some (.cells #[.int .i64 p.vars, .int .i64 p.mtx, .slice A np cap] 24 (0, 0)) := fun u hu => (hu.block _ hXl).trans (by rw [hWa, hX]; exact heap_alloc_new W _)
  have HXK := Lib.hid hxk
  have HXW := Lib.hid (show W.heap.size ≤ X by omega)
  have HP0 := Lib.hid hp
  clear hxk
  obtain ⟨nt, hnt⟩ : ∃ n, n = ts.length := ⟨_, rfl⟩
  have hm1 : nt < 9223372036854775808 := by rw [hnt]; unfold maxLen at ht; omega
  have HXE := Lib.hid hXe
  have HB := Lib.hid hBa
  have HPA := Lib.hid hpa
  have HNP := Lib.hid hnp
  have HCAP := Lib.hid (And.intro hcap hcap2)
  have HR := Lib.hid hr
  have HG := Lib.hid hg
  have HNT := Lib.hid hnt
  rw [← hnt]
  unfold valP
  rw [← hnp]
  obtain ⟨x0, x1, x2, xl⟩ := hXe Wa (Below.refl _ _)
  clear hXe hBa hpa hp hr hg ht hnt hnp hcap hcap2
  go_enter Tryz.func11, Tryz.ntmps11
  go_upto_region 1 with fail
  rw [← hWa, ← hX]
  clear hWa hX
  go_cut [23] (fun v w2 => Below Wa.heap.size Wa w2 ∧ ∃ z, v = .bool z ∧ (z = false → 1 ≤ np ∧ nt ≤ 500))
  case first =>
    go_wp2_with fail
    refine (awake09 _).mono ?_
    rintro x w1 ⟨rfl, b1⟩
    have HB1 := Lib.hid b1
    clear b1 x0 x1 x2 xl
    obtain ⟨x0, x1, x2, xl⟩ := HXE.out w1 HB1.out
    by_cases hn0 : np = 0
    · have j0 : ((np : Int) == 0) = true := by rw [hn0]; rfl
      clear hn0
      go_wp2_with fail
      go_meet
      exact ⟨HB1.out, true, by first | rfl | trivial | (simp [j0]), fun h => by first | (cases h; done) | (simp at h; done)⟩
    · have j0 : ((np : Int) == 0) = false := beq_eq_false_iff_ne.2 (by omega)
      have j1 : ¬ (np : Int) = 0 := by omega
      by_cases hn : 500 < nt
      · have hn1 : (500 : Int) < (nt : Int) := by omega
        go_wp2_with fail
        go_meet
        exact ⟨HB1.out, true, by first | rfl | trivial | (simp; omega), fun h => by first | (cases h; done) | (simp at h; done)⟩
      · have hn1 : ¬ (500 : Int) < (nt : Int) := by omega
        go_wp2_with fail
        go_meet
        exact ⟨HB1.out, false, by first | rfl | trivial | (simp; omega), fun _ => ⟨by omega, by omega⟩⟩
  case rest =>
    obtain ⟨b1, z, rfl, hz⟩ := hcut
    have HB1 := Lib.hid b1
    clear b1 x0 x1 x2 xl
    cases z with
    | true =>
      go_wp2_with fail
      refine (awake09 _).mono ?_
      rintro e w2 ⟨rfl, b2⟩
      go_wp2_with fail
      go_ret
      exact ⟨rfl, below_at HB.out (below_at HB1.out b2)⟩
    | false =>
      obtain ⟨hn1, hn500⟩ := hz rfl
      generalize wc = w00 at *
      -- the first thread alone
      obtain ⟨x0, x1, x2, xl⟩ := HXE.out w00 HB1.out
      have hXb := HXK.out w00 HB1.out
      have g2 := free_blk hXb 2
      obtain ⟨Wb, hWb⟩ : ∃ z, z = w00.setCell ⟨X, 2, none⟩ (.slice A 1 1) := ⟨_, rfl⟩
      have hXc := set_blk hXb 2 (.slice A 1 1)
      rw [← hWb] at hXc
      have hbW : Below W.heap.size W Wb := by
        have hx := HXW.out
        have hm : Mod (fun k => k = X) w00 Wb := by rw [hWb]; exact (Mod.refl (fun k => k = X) w00).setCell (p := ⟨X, 2, none⟩) (fun _ => rfl) _
        have hb0 := below_at HB.out HB1.out
        exact hb0.trans (hm.below W.heap.size hb0.size (fun k hk e => by omega))
      have hpp := (HP0.out.below hbW).take1 (show 1 ≤ p.code.length by rw [← HNP.out]; exact hn1)
      have hl1 : (Pr.tk1 p).code.length = 1 := Pr.tk1_len (by rw [← HNP.out]; exact hn1)
      have hlm : ∀ m, Pr.fuels (Pr.start (Pr.tk1 p) m) = m ∧ (Pr.start (Pr.tk1 p) m).th.length ≤ 1 := fun m => Pr.tk1_fuels (by rw [← HNP.out]; exact hn1) m
      have hvv : (Pr.tk1 p).vars = p.vars ∧ (Pr.tk1 p).mtx = p.mtx := ⟨rfl, rfl⟩
      obtain ⟨p1, hp1⟩ : ∃ z, z = Pr.tk1 p := ⟨_, rfl⟩
      rw [← hp1] at hpp hl1 hlm hvv
      have hxe : ∀ u, Below Wb.heap.size Wb u → u.cell? ⟨X, 0, none⟩ = some (.int .i64 p.vars) ∧ u.cell? ⟨X, 1, none⟩ = some (.int .i64 p.mtx) ∧ u.cell? ⟨X, 2, none⟩ = some (.slice A 1 1) ∧ X < u.heap.size := fun u hu => by
        have hk := (hu.block _ (blk_lt hXc)).trans hXc
        exact ⟨cell_blk hk 0, cell_blk hk 1, cell_blk hk 2, blk_lt hk⟩
      have hsmall := small_any Wb p1 A 1 f hpp
      obtain ⟨sm, hsm⟩ : ∃ b, b = Pr.small p1 f := ⟨_, rfl⟩
      rw [← hsm] at hsmall
      unfold valP at hsmall
      rw [hl1, hvv.1, hvv.2] at hsmall
      have HXE := Lib.hid hxe
      have HPP := Lib.hid (And.intro hpp hl1)
      have HVV := Lib.hid hvv
      have HLM := Lib.hid hlm
      have HSM := Lib.hid hsm
      have HSMALL := Lib.hid hsmall
      have HBW := Lib.hid hbW
      have hnc := HCAP.out
      have j1 : (1 : Int) ≤ (cap : Int) := by omega
      clear hXc hbW hpp hl1 hlm hvv hp1 hxe hsmall hsm hz HXK HXW HP0
      go_upto_region 4 with fail
      rw [← hWb]
      clear hWb g2 hXb x0 x1 x2 xl j1 hnc
      obtain ⟨x0, x1, x2, xl⟩ := HXE.out Wb (Below.refl _ _)
      go_wp2_with fail
      refine HSMALL.out.mono ?_
      rintro y w2 ⟨rfl, b2⟩
      have HB2 := Lib.hid b2
      clear b2 HSMALL x0 x1 x2 xl
      cases sm with
      | false =>
        go_wp2_with fail
        go_ret
        exact ⟨rfl, HBW.out.trans (HB2.out.mono HBW.out.size)⟩
      | true =>
        obtain ⟨m, rfl, hm8, hok, _, hcnt, hall6⟩ := Pr.small_spec HSM.out.symm
        have hwf := Pr.start_wf hok hm8
        have hfu := Pr.fuels_start hok hm8
        obtain ⟨hfm, hth⟩ := HLM.out m
        obtain ⟨o1, o2, o3⟩ := Pr.expl_one hwf hfu hth 600 ts hcnt
        obtain ⟨q1, q2, q3, q4⟩ := Pr.expl_plain hwf hfu (Pr.one_apart hwf hth) 600 ts hcnt
        have hex := explore_law Wb p1 A 1 m 600 ts HPP.out.1 hm8 hok (by omega) HG.out (by rw [← HNT.out]; omega)
        rw [show max 600 1 = 600 by omega, ← HNT.out, q3, q1, q2, q4, o1, show (((1 : Nat) : Int)) = (1 : Int) from rfl, show (((0 : Nat) : Int)) = (0 : Int) from rfl] at hex
        rw [hfm] at o2
        have hel := Pr.ends_len 32 (Pr.start p1 m) []
        have hkl1 := Pr.keys_len (p := p1) (m := m)
        obtain ⟨c, hc⟩ : ∃ c, c = Pr.cnt 32 (Pr.start p1 m) := ⟨_, rfl⟩
        rw [← hc] at hcnt hall6 hel o2 hex
        obtain ⟨⟨ks, rn, sk⟩, hsum⟩ : ∃ a, a = Pr.sumOf (Pr.ends 32 (Pr.start p1 m) []) := ⟨_, rfl⟩
        rw [← hsum] at hall6 hkl1 o3
        simp only at hkl1 o3
        subst o3
        obtain ⟨nk, hnk⟩ : ∃ n, n = ks.length := ⟨_, rfl⟩
        rw [← hnk] at hkl1
        have hwall := refAll6_any w2 p1 A 1 m 600 (HPP.out.1.below HB2.out) (by omega)
        rw [hall6] at hwall
        unfold All6Out at hwall
        simp only at hwall
        rw [← hnk] at hwall
        obtain ⟨ke, hke⟩ : ∃ n, n = Pr.ksE (Pr.start p1 m) 600 ts := ⟨_, rfl⟩
        rw [← hke] at hex
        unfold valP at hwall hex
        rw [HPP.out.2, HVV.out.1, HVV.out.2] at hwall
        rw [HPP.out.2, HVV.out.1, HVV.out.2] at hex
        rw [show (((1 : Nat) : Int)) = (1 : Int) from rfl] at hwall
        have HWA := Lib.hid hwall
        have HEX0 := Lib.hid hex
        have hc9 : c ≤ 600 := hcnt
        clear hsum hall6 hcnt hc hnk hwall hwf hok hfu HSM hex hel hkl1 hfm hth o1 q1 q2 q3 q4 hke HLM HPP HVV
        obtain ⟨x0, x1, x2, xl⟩ := HXE.out w2 HB2.out
        go_wp2_with fail
        refine HWA.out.mono ?_
        rintro y w3 ⟨KA, kc, rfl, hkr, _, _, b1⟩
        obtain ⟨Z1, hZ1⟩ : ∃ z, z = w3.heap.size := ⟨_, rfl⟩
        obtain ⟨W2, hW2⟩ : ∃ z, z = w3.alloc (Obj.cells #[.slice KA nk kc, .int .i64 1, .int .i64 c, .int .i64 sk] 29) := ⟨_, rfl⟩
        have hZk : W2.heap[Z1]? = some (.cells #[.slice KA nk kc, .int .i64 1, .int .i64 c, .int .i64 sk] 29 (0, 0)) := by rw [hW2, hZ1]; exact heap_alloc_new w3 _
        have hb2 : Below w3.heap.size w3 W2 := by rw [hW2]; exact (Below.refl _ _).alloc (Nat.le_refl _) _
        have hbA : Below Wb.heap.size Wb W2 := below_at HB2.out (below_at b1 hb2)
        have HSS := Lib.hid (show ∀ u, Below W2.heap.size W2 u → (u.cell? ⟨X, 0, none⟩ = some (.int .i64 p.vars) ∧ u.cell? ⟨X, 1, none⟩ = some (.int .i64 p.mtx) ∧ u.cell? ⟨X, 2, none⟩ = some (.slice A 1 1) ∧ X < u.heap.size) ∧ (u.cell? ⟨Z1, 1, none⟩ = some (.int .i64 1) ∧ u.cell? ⟨Z1, 2, none⟩ = some (.int .i64 c) ∧ Z1 < u.heap.size) from fun u hu => by
          have hk := (hu.block _ (blk_lt hZk)).trans hZk
          exact ⟨HXE.out u (below_at hbA hu), cell_blk hk 1, cell_blk hk 2, blk_lt hk⟩)
        have HORD := Lib.hid (show ∀ u, Below W2.heap.size W2 u → Rd u 1 B nt (ts.map fun (b : Nat) => Value.int .u8 (b : Int)) from fun u hu => by
          have := HR.out.below (HBW.out.trans ((below_at hbA hu).mono HBW.out.size)) (Nat.le_refl _)
          rw [← HNT.out] at this
          exact this)
        have HEX := Lib.hid (fun u (hu : Below W2.heap.size W2 u) => HEX0.out u (below_at hbA hu))
        have HBA := Lib.hid hbA
        clear b1 hb2 hZk hkr hbA x0 x1 x2 xl HWA HEX0
        go_upto_region 7 with fail
        rw [← hW2, ← hZ1]
        clear hW2 hZ1
        go_cut [9, 10] (fun v9 v10 wz => Below W2.heap.size W2 wz ∧ ∃ Y KA' kc', v9 = .pointer (some ⟨Y, 0, none⟩) ∧ v10 = .int .i64 0 ∧ wz.heap[Y]? = some (.cells #[.slice KA' 1 kc', .int .i64 (c : Int), .int .i64 1, .int .i64 0, .bool true] 60 (0, 0)) ∧ Rd wz 1 KA' 1 (ke.map sv))
        case first =>
          refine wp_region_pt (by kernel_rfl) (fun u => (u.cell? ⟨X, 0, none⟩ = some (.int .i64 p.vars) ∧ u.cell? ⟨X, 1, none⟩ = some (.int .i64 p.mtx) ∧ u.cell? ⟨X, 2, none⟩ = some (.slice A 1 1) ∧ X < u.heap.size) ∧ (u.cell? ⟨Z1, 1, none⟩ = some (.int .i64 1) ∧ u.cell? ⟨Z1, 2, none⟩ = some (.int .i64 c) ∧ Z1 < u.heap.size)) [] (.cons 0 .load (.cons 1 .pure (.cons 3 .pure (.fork 2 (.fork 4 (.fork 5 (.cons 6 .pure (.cons 7 .pure (.cons 8 .pure (.cons 9 .eff (.cons 10 .eff (.cons 11 .pure .nil)))))) 9 (.cons 5 .eff (.cons 6 .pure (.cons 7 .pure (.cons 8 .pure (.cons 10 .eff (.cons 11 .pure .nil))))))) 9 (.cons 4 .eff (.cons 5 .eff (.cons 6 .pure (.cons 7 .pure (.cons 8 .pure (.cons 10 .eff (.cons 11 .pure .nil)))))))) 9 (.cons 2 .eff (.cons 4 .eff (.cons 5 .eff (.cons 6 .pure (.cons 7 .pure (.cons 8 .pure (.cons 10 .eff (.cons 11 .pure .nil)))))))))))) (by simp only [PT.map, List.getElem?_toArray, List.getElem?_cons_succ, List.getElem?_cons_zero]; rfl) (by kernel_rfl) (fun _ _ d _ _ h => by cases d <;> exact h) (HSS.out W2.drew (Below.refl W2.heap.size W2).drew) ?_
          have HB := Lib.hid (Below.refl W2.heap.size W2).drew
          obtain ⟨vw, hv⟩ : ∃ vw, vw = W2.drew := ⟨_, rfl⟩
          rw [← hv] at HB ⊢
          clear hv
          repeat (first
            | (refine pt_pure (v := ?_) (by rfl) (fun w1 => ?_) ?_
               rotate_left
               · go_simp <;> with_reducible rfl
               simp only [Act.put, List.setIfInBounds_toArray, List.set_cons_zero, List.set_cons_succ])
            | (refine pt_off (by rfl) ?_
               simp only [Act.put, List.setIfInBounds_toArray, List.set_cons_zero, List.set_cons_succ])
            | (refine pt_load_off (by rfl) ?_
               simp only [Act.put, List.setIfInBounds_toArray, List.set_cons_zero, List.set_cons_succ])
            | (refine pt_load (v := ?_) (by rfl) (fun w1 hw1 => ?_) ?_
               rotate_left
               · (have qq := hw1
                  obtain ⟨⟨x0, x1, x2, xl⟩, z1, z2, zl⟩ := qq
                  clear hw1
                  go_simp <;> with_reducible rfl)
               simp only [Act.put, List.setIfInBounds_toArray, List.set_cons_zero, List.set_cons_succ]))
          refine pt_fork ?_ ?_
          · go_wp2_with fail
            obtain ⟨E, hE⟩ : ∃ Z, Z = vw.heap.size := ⟨_, rfl⟩
            obtain ⟨u, hu⟩ : ∃ u, u = vw.alloc (Obj.cells #[] 5) := ⟨_, rfl⟩
            rw [← hu, ← hE]
            have hb : Below vw.heap.size vw u := by rw [hu]; exact (Below.refl _ _).alloc (Nat.le_refl _) _
            have hk : u.heap[E]? = some (.cells #[] 5 (0, 0)) := by rw [hu, hE]; exact heap_alloc_new vw _
            have HC := Lib.hid hk
            have HB := Lib.hid (below_at HB.out hb)
            (try have HZ := Lib.hid (blk_stepW HZ.out hb))
            clear hb hk hu hE
            rename World => vw
            refine pt_on (fun u h => h) (HSS.out _ HB.out) ?_
            refine pt_fork ?_ ?_
            · have HR := Lib.hid (HORD.out vw HB.out)
              have HE := Lib.hid (row_empty (sz := 1) HC.out)
              go_wp2_with (at_builtin; refine wpList_append_copy (by rfl) _ _ _ (by rfl) 5 i8 _ 1 1 Tryz.underlying43 hi8 h80 h81 h82 rfl (by omega) ⟨E, 0, none⟩ 0 [] (by rfl) HE.out B nt cap2 (ts.map fun (b : Nat) => Value.int .u8 (b : Int)) (by rfl) HR.out (by unfold maxLen; omega) (by omega) ?_; intro g7 o7 cap7 u hown hb hgz)
              rw [Nat.zero_add, List.nil_append] at hown
              have HA := Lib.hid hown.rd
              have HB := Lib.hid (below_at HB.out hb)
              (try have HZ := Lib.hid (blk_stepW HZ.out hb))
              clear hown hb hgz HR HE
              rename World => vw
              refine pt_on (fun u h => h) (HSS.out _ HB.out) ?_
              refine pt_fork ?_ ?_
              · go_wp2_with fail
                refine (HEX.out _ HB.out _ _ HA.out).mono ?_
                rintro y u ⟨⟨KZ, kz, rfl, hrk⟩, hb⟩
                have HK := Lib.hid hrk
                have HB := Lib.hid (below_at HB.out hb)
                (try have HZ := Lib.hid (blk_stepW HZ.out hb))
                clear hrk hb
                rename World => vw
                go_wp2_with fail
                refine pt_on (fun u h => h) (HSS.out _ HB.out) ?_
                repeat (first
                  | (refine pt_pure (v := ?_) (by rfl) (fun w1 => ?_) ?_
                     rotate_left
                     · go_simp <;> with_reducible rfl
                     simp only [Act.put, List.setIfInBounds_toArray, List.set_cons_zero, List.set_cons_succ])
                  | (refine pt_off (by rfl) ?_
                     simp only [Act.put, List.setIfInBounds_toArray, List.set_cons_zero, List.set_cons_succ])
                  | (refine pt_load_off (by rfl) ?_
                     simp only [Act.put, List.setIfInBounds_toArray, List.set_cons_zero, List.set_cons_succ])
                  | (refine pt_load (v := ?_) (by rfl) (fun w1 hw1 => ?_) ?_
                     rotate_left
                     · (skip
                        clear hw1
                        go_simp <;> with_reducible rfl)
                     simp only [Act.put, List.setIfInBounds_toArray, List.set_cons_zero, List.set_cons_succ]))
                refine pt_eff ?_
                go_wp2_with fail
                obtain ⟨Y, hY⟩ : ∃ Z, Z = vw.heap.size := ⟨_, rfl⟩
                obtain ⟨u, hu⟩ : ∃ u, u = vw.alloc (Obj.cells #[.slice none 0 0, .int .i64 0, .int .i64 0, .int .i64 0, .bool false] 60) := ⟨_, rfl⟩
                rw [← hu, ← hY]
                have hb : Below vw.heap.size vw u := by rw [hu]; exact (Below.refl _ _).alloc (Nat.le_refl _) _
                have hk : u.heap[Y]? = some (.cells #[.slice none 0 0, .int .i64 0, .int .i64 0, .int .i64 0, .bool false] 60 (0, 0)) := by rw [hu, hY]; exact heap_alloc_new vw _
                have HYW : Hid (W2.heap.size ≤ Y) := Lib.hid (by rw [hY]; exact HB.out.size)
                have HZ := Lib.hid hk
                have HB := Lib.hid (below_at HB.out hb)
                (try have HC := Lib.hid (blk_stepW HC.out hb))
                (try have HA := Lib.hid (HA.out.below hb (Nat.le_refl _)))
                (try have HK := Lib.hid (HK.out.below hb (Nat.le_refl _)))
                clear hb hk hu hY
                rename World => vw
                refine pt_on (fun u h => h) (HSS.out _ HB.out) ?_
                refine pt_eff ?_
                have e0 := cell_blk HZ.out 0
                have e1 := cell_blk HZ.out 1
                have e2 := cell_blk HZ.out 2
                have e3 := cell_blk HZ.out 3
                have e4 := cell_blk HZ.out 4
                simp only [List.getElem?_toArray, List.getElem?_cons_zero, List.getElem?_cons_succ] at e0 e1 e2 e3 e4
                have g0 := free_blk HZ.out 0
                have g1 := free_blk HZ.out 1
                have g2 := free_blk HZ.out 2
                have g3 := free_blk HZ.out 3
                have g4 := free_blk HZ.out 4
                have zl := blk_lt HZ.out
                obtain ⟨V2, hV2, hk2, hm2⟩ := rep_store HZ.out (.slice KZ 1 kz) (.int .i64 (c : Int)) (.int .i64 1) (.int .i64 0) (.bool true)
                have HV2 := Lib.hid hV2
                have HREP := Lib.hid hk2
                have HRK := Lib.hid (rd_store HK.out HZ.out hm2)
                have HB := Lib.hid (HB.out.trans (hm2.below W2.heap.size HB.out.size (fun k hk e => by have := HYW.out; omega)))
                clear hV2 hk2 hm2
                go_wp2_with fail
                rw [← HV2.out]
                clear e0 e1 e2 e3 e4 g0 g1 g2 g3 g4 zl
                refine pt_on (fun u h => h) (HSS.out _ HB.out) ?_
                repeat (first
                  | (refine pt_pure (v := ?_) (by rfl) (fun w1 => ?_) ?_
                     rotate_left
                     · go_simp <;> with_reducible rfl
                     simp only [Act.put, List.setIfInBounds_toArray, List.set_cons_zero, List.set_cons_succ])
                  | (refine pt_off (by rfl) ?_
                     simp only [Act.put, List.setIfInBounds_toArray, List.set_cons_zero, List.set_cons_succ])
                  | (refine pt_load_off (by rfl) ?_
                     simp only [Act.put, List.setIfInBounds_toArray, List.set_cons_zero, List.set_cons_succ])
                  | (refine pt_load (v := ?_) (by rfl) (fun w1 hw1 => ?_) ?_
                     rotate_left
                     · (skip
                        clear hw1
                        go_simp <;> with_reducible rfl)
                     simp only [Act.put, List.setIfInBounds_toArray, List.set_cons_zero, List.set_cons_succ]))
                refine pt_end ?_
                go_wp2_with fail
                go_meet
                exact ⟨HB.out, _, _, _, rfl, rfl, HREP.out, HRK.out⟩
              · go_wp2_with fail
                obtain ⟨Y, hY⟩ : ∃ Z, Z = vw.heap.size := ⟨_, rfl⟩
                obtain ⟨u, hu⟩ : ∃ u, u = vw.alloc (Obj.cells #[.slice none 0 0, .int .i64 0, .int .i64 0, .int .i64 0, .bool false] 60) := ⟨_, rfl⟩
                rw [← hu, ← hY]
                have hb : Below vw.heap.size vw u := by rw [hu]; exact (Below.refl _ _).alloc (Nat.le_refl _) _
                have hk : u.heap[Y]? = some (.cells #[.slice none 0 0, .int .i64 0, .int .i64 0, .int .i64 0, .bool false] 60 (0, 0)) := by rw [hu, hY]; exact heap_alloc_new vw _
                have HYW : Hid (W2.heap.size ≤ Y) := Lib.hid (by rw [hY]; exact HB.out.size)
                have HZ := Lib.hid hk
                have HB := Lib.hid (below_at HB.out hb)
                (try have HC := Lib.hid (blk_stepW HC.out hb))
                (try have HA := Lib.hid (HA.out.below hb (Nat.le_refl _)))
                (try have HK := Lib.hid (HK.out.below hb (Nat.le_refl _)))
                clear hb hk hu hY
                rename World => vw
                refine pt_on (fun u h => h) (HSS.out _ HB.out) ?_
                refine pt_eff ?_
                go_wp2_with fail
                refine (HEX.out _ HB.out _ _ HA.out).mono ?_
                rintro y u ⟨⟨KZ, kz, rfl, hrk⟩, hb⟩
                have HK := Lib.hid hrk
                have HB := Lib.hid (below_at HB.out hb)
                (try have HZ := Lib.hid (blk_stepW HZ.out hb))
                clear hrk hb
                rename World => vw
                go_wp2_with fail
                refine pt_on (fun u h => h) (HSS.out _ HB.out) ?_
                repeat (first
                  | (refine pt_pure (v := ?_) (by rfl) (fun w1 => ?_) ?_
                     rotate_left
                     · go_simp <;> with_reducible rfl
                     simp only [Act.put, List.setIfInBounds_toArray, List.set_cons_zero, List.set_cons_succ])
                  | (refine pt_off (by rfl) ?_
                     simp only [Act.put, List.setIfInBounds_toArray, List.set_cons_zero, List.set_cons_succ])
                  | (refine pt_load_off (by rfl) ?_
                     simp only [Act.put, List.setIfInBounds_toArray, List.set_cons_zero, List.set_cons_succ])
                  | (refine pt_load (v := ?_) (by rfl) (fun w1 hw1 => ?_) ?_
                     rotate_left
                     · (skip
                        clear hw1
                        go_simp <;> with_reducible rfl)
                     simp only [Act.put, List.setIfInBounds_toArray, List.set_cons_zero, List.set_cons_succ]))
                refine pt_eff ?_
                have e0 := cell_blk HZ.out 0
                have e1 := cell_blk HZ.out 1
                have e2 := cell_blk HZ.out 2
                have e3 := cell_blk HZ.out 3
                have e4 := cell_blk HZ.out 4
                simp only [List.getElem?_toArray, List.getElem?_cons_zero, List.getElem?_cons_succ] at e0 e1 e2 e3 e4
                have g0 := free_blk HZ.out 0
                have g1 := free_blk HZ.out 1
                have g2 := free_blk HZ.out 2
                have g3 := free_blk HZ.out 3
                have g4 := free_blk HZ.out 4
                have zl := blk_lt HZ.out
                obtain ⟨V2, hV2, hk2, hm2⟩ := rep_store HZ.out (.slice KZ 1 kz) (.int .i64 (c : Int)) (.int .i64 1) (.int .i64 0) (.bool true)
                have HV2 := Lib.hid hV2
                have HREP := Lib.hid hk2
                have HRK := Lib.hid (rd_store HK.out HZ.out hm2)
                have HB := Lib.hid (HB.out.trans (hm2.below W2.heap.size HB.out.size (fun k hk e => by have := HYW.out; omega)))
                clear hV2 hk2 hm2
                go_wp2_with fail
                rw [← HV2.out]
                clear e0 e1 e2 e3 e4 g0 g1 g2 g3 g4 zl
                refine pt_on (fun u h => h) (HSS.out _ HB.out) ?_
                repeat (first
                  | (refine pt_pure (v := ?_) (by rfl) (fun w1 => ?_) ?_
                     rotate_left
                     · go_simp <;> with_reducible rfl
                     simp only [Act.put, List.setIfInBounds_toArray, List.set_cons_zero, List.set_cons_succ])
                  | (refine pt_off (by rfl) ?_
                     simp only [Act.put, List.setIfInBounds_toArray, List.set_cons_zero, List.set_cons_succ])
                  | (refine pt_load_off (by rfl) ?_
                     simp only [Act.put, List.setIfInBounds_toArray, List.set_cons_zero, List.set_cons_succ])
                  | (refine pt_load (v := ?_) (by rfl) (fun w1 hw1 => ?_) ?_
                     rotate_left
                     · (skip
                        clear hw1
                        go_simp <;> with_reducible rfl)
                     simp only [Act.put, List.setIfInBounds_toArray, List.set_cons_zero, List.set_cons_succ]))
                refine pt_end ?_
                go_wp2_with fail
                go_meet
                exact ⟨HB.out, _, _, _, rfl, rfl, HREP.out, HRK.out⟩
            · go_wp2_with fail
              obtain ⟨Y, hY⟩ : ∃ Z, Z = vw.heap.size := ⟨_, rfl⟩
              obtain ⟨u, hu⟩ : ∃ u, u = vw.alloc (Obj.cells #[.slice none 0 0, .int .i64 0, .int .i64 0, .int .i64 0, .bool false] 60) := ⟨_, rfl⟩
              rw [← hu, ← hY]
              have hb : Below vw.heap.size vw u := by rw [hu]; exact (Below.refl _ _).alloc (Nat.le_refl _) _
              have hk : u.heap[Y]? = some (.cells #[.slice none 0 0, .int .i64 0, .int .i64 0, .int .i64 0, .bool false] 60 (0, 0)) := by rw [hu, hY]; exact heap_alloc_new vw _
              have HYW : Hid (W2.heap.size ≤ Y) := Lib.hid (by rw [hY]; exact HB.out.size)
              have HZ := Lib.hid hk
              have HB := Lib.hid (below_at HB.out hb)
              (try have HC := Lib.hid (blk_stepW HC.out hb))
              (try have HA := Lib.hid (HA.out.below hb (Nat.le_refl _)))
              (try have HK := Lib.hid (HK.out.below hb (Nat.le_refl _)))
              clear hb hk hu hY
              rename World => vw
              refine pt_on (fun u h => h) (HSS.out _ HB.out) ?_
              refine pt_eff ?_
              have HR := Lib.hid (HORD.out vw HB.out)
              have HE := Lib.hid (row_empty (sz := 1) HC.out)
              go_wp2_with (at_builtin; refine wpList_append_copy (by rfl) _ _ _ (by rfl) 5 i8 _ 1 1 Tryz.underlying43 hi8 h80 h81 h82 rfl (by omega) ⟨E, 0, none⟩ 0 [] (by rfl) HE.out B nt cap2 (ts.map fun (b : Nat) => Value.int .u8 (b : Int)) (by rfl) HR.out (by unfold maxLen; omega) (by omega) ?_; intro g7 o7 cap7 u hown hb hgz)
              rw [Nat.zero_add, List.nil_append] at hown
              have HA := Lib.hid hown.rd
              have HB := Lib.hid (below_at HB.out hb)
              (try have HZ := Lib.hid (blk_stepW HZ.out hb))
              clear hown hb hgz HR HE
              rename World => vw
              refine pt_on (fun u h => h) (HSS.out _ HB.out) ?_
              refine pt_eff ?_
              go_wp2_with fail
              refine (HEX.out _ HB.out _ _ HA.out).mono ?_
              rintro y u ⟨⟨KZ, kz, rfl, hrk⟩, hb⟩
              have HK := Lib.hid hrk
              have HB := Lib.hid (below_at HB.out hb)
              (try have HZ := Lib.hid (blk_stepW HZ.out hb))
              clear hrk hb
              rename World => vw
              go_wp2_with fail
              refine pt_on (fun u h => h) (HSS.out _ HB.out) ?_
              repeat (first
                | (refine pt_pure (v := ?_) (by rfl) (fun w1 => ?_) ?_
                   rotate_left
                   · go_simp <;> with_reducible rfl
                   simp only [Act.put, List.setIfInBounds_toArray, List.set_cons_zero, List.set_cons_succ])
                | (refine pt_off (by rfl) ?_
                   simp only [Act.put, List.setIfInBounds_toArray, List.set_cons_zero, List.set_cons_succ])
                | (refine pt_load_off (by rfl) ?_
                   simp only [Act.put, List.setIfInBounds_toArray, List.set_cons_zero, List.set_cons_succ])
                | (refine pt_load (v := ?_) (by rfl) (fun w1 hw1 => ?_) ?_
                   rotate_left
                   · (skip
                      clear hw1
                      go_simp <;> with_reducible rfl)
                   simp only [Act.put, List.setIfInBounds_toArray, List.set_cons_zero, List.set_cons_succ]))
              refine pt_eff ?_
              have e0 := cell_blk HZ.out 0
              have e1 := cell_blk HZ.out 1
              have e2 := cell_blk HZ.out 2
              have e3 := cell_blk HZ.out 3
              have e4 := cell_blk HZ.out 4
              simp only [List.getElem?_toArray, List.getElem?_cons_zero, List.getElem?_cons_succ] at e0 e1 e2 e3 e4
              have g0 := free_blk HZ.out 0
              have g1 := free_blk HZ.out 1
              have g2 := free_blk HZ.out 2
              have g3 := free_blk HZ.out 3
              have g4 := free_blk HZ.out 4
              have zl := blk_lt HZ.out
              obtain ⟨V2, hV2, hk2, hm2⟩ := rep_store HZ.out (.slice KZ 1 kz) (.int .i64 (c : Int)) (.int .i64 1) (.int .i64 0) (.bool true)
              have HV2 := Lib.hid hV2
              have HREP := Lib.hid hk2
              have HRK := Lib.hid (rd_store HK.out HZ.out hm2)
              have HB := Lib.hid (HB.out.trans (hm2.below W2.heap.size HB.out.size (fun k hk e => by have := HYW.out; omega)))
              clear hV2 hk2 hm2
              go_wp2_with fail
              rw [← HV2.out]
              clear e0 e1 e2 e3 e4 g0 g1 g2 g3 g4 zl
              refine pt_on (fun u h => h) (HSS.out _ HB.out) ?_
              repeat (first
                | (refine pt_pure (v := ?_) (by rfl) (fun w1 => ?_) ?_
                   rotate_left
                   · go_simp <;> with_reducible rfl
                   simp only [Act.put, List.setIfInBounds_toArray, List.set_cons_zero, List.set_cons_succ])
                | (refine pt_off (by rfl) ?_
                   simp only [Act.put, List.setIfInBounds_toArray, List.set_cons_zero, List.set_cons_succ])
                | (refine pt_load_off (by rfl) ?_
                   simp only [Act.put, List.setIfInBounds_toArray, List.set_cons_zero, List.set_cons_succ])
                | (refine pt_load (v := ?_) (by rfl) (fun w1 hw1 => ?_) ?_
                   rotate_left
                   · (skip
                      clear hw1
                      go_simp <;> with_reducible rfl)
                   simp only [Act.put, List.setIfInBounds_toArray, List.set_cons_zero, List.set_cons_succ]))
              refine pt_end ?_
              go_wp2_with fail
              go_meet
              exact ⟨HB.out, _, _, _, rfl, rfl, HREP.out, HRK.out⟩
          · go_wp2_with fail
            obtain ⟨Y, hY⟩ : ∃ Z, Z = vw.heap.size := ⟨_, rfl⟩
            obtain ⟨u, hu⟩ : ∃ u, u = vw.alloc (Obj.cells #[.slice none 0 0, .int .i64 0, .int .i64 0, .int .i64 0, .bool false] 60) := ⟨_, rfl⟩
            rw [← hu, ← hY]
            have hb : Below vw.heap.size vw u := by rw [hu]; exact (Below.refl _ _).alloc (Nat.le_refl _) _
            have hk : u.heap[Y]? = some (.cells #[.slice none 0 0, .int .i64 0, .int .i64 0, .int .i64 0, .bool false] 60 (0, 0)) := by rw [hu, hY]; exact heap_alloc_new vw _
            have HYW : Hid (W2.heap.size ≤ Y) := Lib.hid (by rw [hY]; exact HB.out.size)
            have HZ := Lib.hid hk
            have HB := Lib.hid (below_at HB.out hb)
            (try have HC := Lib.hid (blk_stepW HC.out hb))
            (try have HA := Lib.hid (HA.out.below hb (Nat.le_refl _)))
            (try have HK := Lib.hid (HK.out.below hb (Nat.le_refl _)))
            clear hb hk hu hY
            rename World => vw
            refine pt_on (fun u h => h) (HSS.out _ HB.out) ?_
            refine pt_eff ?_
            go_wp2_with fail
            obtain ⟨E, hE⟩ : ∃ Z, Z = vw.heap.size := ⟨_, rfl⟩
            obtain ⟨u, hu⟩ : ∃ u, u = vw.alloc (Obj.cells #[] 5) := ⟨_, rfl⟩
            rw [← hu, ← hE]
            have hb : Below vw.heap.size vw u := by rw [hu]; exact (Below.refl _ _).alloc (Nat.le_refl _) _
            have hk : u.heap[E]? = some (.cells #[] 5 (0, 0)) := by rw [hu, hE]; exact heap_alloc_new vw _
            have HC := Lib.hid hk
            have HB := Lib.hid (below_at HB.out hb)
            (try have HZ := Lib.hid (blk_stepW HZ.out hb))
            clear hb hk hu hE
            rename World => vw
            refine pt_on (fun u h => h) (HSS.out _ HB.out) ?_
            refine pt_eff ?_
            have HR := Lib.hid (HORD.out vw HB.out)
            have HE := Lib.hid (row_empty (sz := 1) HC.out)
            go_wp2_with (at_builtin; refine wpList_append_copy (by rfl) _ _ _ (by rfl) 5 i8 _ 1 1 Tryz.underlying43 hi8 h80 h81 h82 rfl (by omega) ⟨E, 0, none⟩ 0 [] (by rfl) HE.out B nt cap2 (ts.map fun (b : Nat) => Value.int .u8 (b : Int)) (by rfl) HR.out (by unfold maxLen; omega) (by omega) ?_; intro g7 o7 cap7 u hown hb hgz)
            rw [Nat.zero_add, List.nil_append] at hown
            have HA := Lib.hid hown.rd
            have HB := Lib.hid (below_at HB.out hb)
            (try have HZ := Lib.hid (blk_stepW HZ.out hb))
            clear hown hb hgz HR HE
            rename World => vw
            refine pt_on (fun u h => h) (HSS.out _ HB.out) ?_
            refine pt_eff ?_
            go_wp2_with fail
            refine (HEX.out _ HB.out _ _ HA.out).mono ?_
            rintro y u ⟨⟨KZ, kz, rfl, hrk⟩, hb⟩
            have HK := Lib.hid hrk
            have HB := Lib.hid (below_at HB.out hb)
            (try have HZ := Lib.hid (blk_stepW HZ.out hb))
            clear hrk hb
            rename World => vw
            go_wp2_with fail
            refine pt_on (fun u h => h) (HSS.out _ HB.out) ?_
            repeat (first
              | (refine pt_pure (v := ?_) (by rfl) (fun w1 => ?_) ?_
                 rotate_left
                 · go_simp <;> with_reducible rfl
                 simp only [Act.put, List.setIfInBounds_toArray, List.set_cons_zero, List.set_cons_succ])
              | (refine pt_off (by rfl) ?_
                 simp only [Act.put, List.setIfInBounds_toArray, List.set_cons_zero, List.set_cons_succ])
              | (refine pt_load_off (by rfl) ?_
                 simp only [Act.put, List.setIfInBounds_toArray, List.set_cons_zero, List.set_cons_succ])
              | (refine pt_load (v := ?_) (by rfl) (fun w1 hw1 => ?_) ?_
                 rotate_left
                 · (skip
                    clear hw1
                    go_simp <;> with_reducible rfl)
                 simp only [Act.put, List.setIfInBounds_toArray, List.set_cons_zero, List.set_cons_succ]))
            refine pt_eff ?_
            have e0 := cell_blk HZ.out 0
            have e1 := cell_blk HZ.out 1
            have e2 := cell_blk HZ.out 2
            have e3 := cell_blk HZ.out 3
            have e4 := cell_blk HZ.out 4
            simp only [List.getElem?_toArray, List.getElem?_cons_zero, List.getElem?_cons_succ] at e0 e1 e2 e3 e4
            have g0 := free_blk HZ.out 0
            have g1 := free_blk HZ.out 1
            have g2 := free_blk HZ.out 2
            have g3 := free_blk HZ.out 3
            have g4 := free_blk HZ.out 4
            have zl := blk_lt HZ.out
            obtain ⟨V2, hV2, hk2, hm2⟩ := rep_store HZ.out (.slice KZ 1 kz) (.int .i64 (c : Int)) (.int .i64 1) (.int .i64 0) (.bool true)
            have HV2 := Lib.hid hV2
            have HREP := Lib.hid hk2
            have HRK := Lib.hid (rd_store HK.out HZ.out hm2)
            have HB := Lib.hid (HB.out.trans (hm2.below W2.heap.size HB.out.size (fun k hk e => by have := HYW.out; omega)))
            clear hV2 hk2 hm2
            go_wp2_with fail
            rw [← HV2.out]
            clear e0 e1 e2 e3 e4 g0 g1 g2 g3 g4 zl
            refine pt_on (fun u h => h) (HSS.out _ HB.out) ?_
            repeat (first
              | (refine pt_pure (v := ?_) (by rfl) (fun w1 => ?_) ?_
                 rotate_left
                 · go_simp <;> with_reducible rfl
                 simp only [Act.put, List.setIfInBounds_toArray, List.set_cons_zero, List.set_cons_succ])
              | (refine pt_off (by rfl) ?_
                 simp only [Act.put, List.setIfInBounds_toArray, List.set_cons_zero, List.set_cons_succ])
              | (refine pt_load_off (by rfl) ?_
                 simp only [Act.put, List.setIfInBounds_toArray, List.set_cons_zero, List.set_cons_succ])
              | (refine pt_load (v := ?_) (by rfl) (fun w1 hw1 => ?_) ?_
                 rotate_left
                 · (skip
                    clear hw1
                    go_simp <;> with_reducible rfl)
                 simp only [Act.put, List.setIfInBounds_toArray, List.set_cons_zero, List.set_cons_succ]))
            refine pt_end ?_
            go_wp2_with fail
            go_meet
            exact ⟨HB.out, _, _, _, rfl, rfl, HREP.out, HRK.out⟩
        case rest =>
          obtain ⟨bz, Y, KA2, kc2, rfl, rfl, hrep, hrk⟩ := hcut
          obtain ⟨_, z1, z2, zl⟩ := HSS.out wc bz
          have y1 : wc.cell? ⟨Y, 1, none⟩ = some (.int .i64 (c : Int)) := cell_blk hrep 1
          have y2 : wc.cell? ⟨Y, 2, none⟩ = some (.int .i64 1) := cell_blk hrep 2
          have y3 : wc.cell? ⟨Y, 3, none⟩ = some (.int .i64 0) := cell_blk hrep 3
          have y4 : wc.cell? ⟨Y, 4, none⟩ = some (.bool true) := cell_blk hrep 4
          have yl := blk_lt hrep
          have HBZ := Lib.hid bz
          have d1 : (c : Int) ≤ (m : Int) + 1 := by omega
          clear hrep bz hrk HEX HORD HSS
          go_wp2_with fail
          go_ret
          exact ⟨by first | rfl | simp [d1], HBW.out.trans ((below_at HBA.out HBZ.out).mono HBW.out.size)⟩
open Go.ChangeShapes Go.WideShapes Go.ChangeAt
set_option maxRecDepth 100000 in
theorem SeqOne_walk {H : Type} {enc : TypeId × Value → H} (W : World) {base : Nat} {v0 v1 v2 : Value} {d0 d1 d2 : DataW H} {p0 p1 p2 : List MemPlace}
    (o0 : Value.okWide Tryz.prog W .any base 24 v0) (h0 : DataW.Trod enc Tryz.prog W 0 (fun _ => true) true 24 v0 d0 p0)
    (o1 : Value.okWide Tryz.prog W .any base 3 v1) (h1 : DataW.Trod enc Tryz.prog W 0 (fun _ => true) true 3 v1 d1 p1)
    (o2 : Value.okWide Tryz.prog W .any base 43 v2) (h2 : DataW.Trod enc Tryz.prog W 0 (fun _ => true) true 43 v2 d2 p2) :
    Calls Tryz.prog 11 #[v0, v1, v2] W fun e w' => e = .returned (.bool true) ∧ Below W.heap.size W w' := by
  obtain ⟨p, A, cap, rfl, hin, hca, hcb⟩ := prog_arg2 o0 h0
  obtain ⟨f, rfl, rfl, rfl, _⟩ := open_int Tryz.underlying3 o1 h1
  obtain ⟨ts, B, cap2, rfl, hr, hl, hg⟩ := u8s_arg o2 h2
  exact seqOne_any W p A cap f B cap2 ts hin hca hcb hr hg hl
end Go.Proofs.YtckdofjpoajblaaGreat
