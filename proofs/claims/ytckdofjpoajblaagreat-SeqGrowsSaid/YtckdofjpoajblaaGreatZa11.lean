/- Part 11 of the proof of seqExact_holds: what it rests on. -/
import Derived.Test.YtckdofjpoajblaaGreatZa10
namespace Go.Proofs.YtckdofjpoajblaaGreat
open Bs
set_option linter.unusedVariables false
namespace Pr
def ndOf (s0 : St) (g : Gh) (y : List Ev) : XNd := ⟨at_ s0 y, g.sl y, bitsE (g.dn y), g.td y⟩
def pathOf (s0 : St) (g : Gh) (z : List Ev) : List XNd := (List.range (z.length + 1)).map fun i => ndOf s0 g (z.take i)
theorem pathOf_len (s0 : St) (g : Gh) (z : List Ev) : (pathOf s0 g z).length = z.length + 1 := by simp [pathOf]
theorem pathOf_get {s0 : St} {g : Gh} {z : List Ev} {i : Nat} (h : i ≤ z.length) : (pathOf s0 g z)[i]? = some (ndOf s0 g (z.take i)) := by
  unfold pathOf
  rw [List.getElem?_map, List.getElem?_range (by omega)]
  rfl
theorem pathOf_snoc (s0 : St) (g : Gh) (z : List Ev) (e : Ev) : pathOf s0 g (z ++ [e]) = pathOf s0 g z ++ [ndOf s0 g (z ++ [e])] := by
  unfold pathOf
  rw [List.length_append, List.length_singleton, List.range_succ, List.map_append]
  congr 1
  · refine List.map_congr_left fun i hi => ?_
    rw [List.mem_range] at hi
    rw [List.take_append_of_le_length (by omega)]
  · simp only [List.map_cons, List.map_nil]
    rw [List.take_of_length_le (by simp)]
theorem pathOf_nil (s0 : St) (g : Gh) : pathOf s0 g [] = [ndOf s0 g []] := rfl
theorem pathOf_last (s0 : St) (g : Gh) (z : List Ev) : (pathOf s0 g z).getLast? = some (ndOf s0 g z) := by
  rw [List.getLast?_eq_getElem?, pathOf_len, show z.length + 1 - 1 = z.length by omega, pathOf_get (Nat.le_refl _), List.take_length]
theorem pathOf_drop (s0 : St) (g : Gh) (z : List Ev) (e : Ev) : (pathOf s0 g (z ++ [e])).dropLast = pathOf s0 g z := by rw [pathOf_snoc, List.dropLast_concat]
theorem take_inj {z : List Ev} {i j : Nat} (hi : i ≤ z.length) (hj : j ≤ z.length) (h : z.take i = z.take j) : i = j := by
  have := congrArg List.length h
  rw [List.length_take, List.length_take] at this
  omega
theorem pathOf_modify {s0 : St} {g g' : Gh} {z : List Ev} {i : Nat} (F : XNd → XNd) (hi : i ≤ z.length) (h1 : ndOf s0 g' (z.take i) = F (ndOf s0 g (z.take i))) (h2 : ∀ y, y ≠ z.take i → ndOf s0 g' y = ndOf s0 g y) : (pathOf s0 g z).modify i F = pathOf s0 g' z := by
  apply List.ext_getElem?
  intro j
  rw [List.getElem?_modify]
  by_cases hj : j ≤ z.length
  · rw [pathOf_get hj, pathOf_get hj]
    by_cases hij : i = j
    · subst hij; simp [h1]
    · simp [hij, h2 _ (fun hh => hij (take_inj hj hi hh).symm)]
  · have e1 : (pathOf s0 g z)[j]? = none := List.getElem?_eq_none (by rw [pathOf_len]; omega)
    have e2 : (pathOf s0 g' z)[j]? = none := List.getElem?_eq_none (by rw [pathOf_len]; omega)
    rw [e1, e2]
    simp
def tdM (s0 : St) (z : List Ev) (td : List Ev → BitVec 8) (rs : List (Nat × Int)) : List Ev → BitVec 8 := rs.foldl (fun td r => upd td (z.take r.1) (td (z.take r.1) ||| Bs.of (all (at_ s0 (z.take r.1))))) td
theorem markAll_path (s0 : St) (z : List Ev) : ∀ (rs : List (Nat × Int)) (g : Gh), (∀ r ∈ rs, r.1 ≤ z.length) → markAll (pathOf s0 g z) rs = pathOf s0 { g with td := tdM s0 z g.td rs } z
  | [], g, _ => rfl
  | r :: rs, g, h => by
    have hr := h r List.mem_cons_self
    unfold markAll
    rw [List.foldl_cons]
    have h1 : (pathOf s0 g z).modify r.1 mark1 = pathOf s0 { g with td := upd g.td (z.take r.1) (g.td (z.take r.1) ||| Bs.of (all (at_ s0 (z.take r.1)))) } z := by
      refine pathOf_modify mark1 hr ?_ (fun y hy => ?_)
      · unfold ndOf mark1; simp only [upd_same]
      · unfold ndOf; simp only [upd_ne _ _ hy]
    rw [h1]
    exact markAll_path s0 z rs _ (fun x hx => h x (List.mem_cons_of_mem _ hx))
theorem all_lt {s : St} (hw : Wf s) {t : Nat} (h : t ∈ all s) : t < 8 := by
  have := en_lt (all_iff.1 h)
  have := hw.n4
  omega
theorem has_tdM {s0 : St} {z : List Ev} (hw : ∀ i, Wf (at_ s0 (z.take i))) (y : List Ev) (q : Nat) : ∀ (rs : List (Nat × Int)) (td : List Ev → BitVec 8), has (tdM s0 z td rs y) q = true ↔ has (td y) q = true ∨ ∃ r ∈ rs, y = z.take r.1 ∧ enabled (at_ s0 y) q = true
  | [], td => by simp [tdM]
  | r :: rs, td => by
    unfold tdM
    rw [List.foldl_cons]
    refine (has_tdM hw y q rs _).trans ?_
    by_cases hy : y = z.take r.1
    · subst hy
      rw [upd_same, has_or, has_of _ _ (fun t ht => all_lt (hw r.1) ht)]
      simp only [Bool.or_eq_true, decide_eq_true_eq, all_iff, List.mem_cons, exists_eq_or_imp, true_and]
      constructor
      · rintro ((h | h) | h)
        · exact .inl h
        · exact .inr (.inl h)
        · exact .inr (.inr h)
      · rintro (h | h | h)
        · exact .inl (.inl h)
        · exact .inl (.inr h)
        · exact .inr h
    · rw [upd_ne _ _ hy]
      simp only [List.mem_cons, exists_eq_or_imp]
      constructor
      · rintro (h | h)
        · exact .inl h
        · exact .inr (.inr h)
      · rintro (h | ⟨h, _⟩ | h)
        · exact .inl h
        · exact (hy h).elim
        · exact .inr h
end Pr
end Go.Proofs.YtckdofjpoajblaaGreat
namespace Go.Proofs.YtckdofjpoajblaaGreat
open Bs
set_option linter.unusedVariables false
namespace Pr
def isEnd (s0 : St) (z : List Ev) : Bool := decide (all (at_ s0 z) = [])
def isBlk (s0 : St) (sl : List Ev → BitVec 8) (z : List Ev) : Bool := decide (all (at_ s0 z) ≠ []) && decide (freeOf (sl z) (all (at_ s0 z)) = [])
structure Inv (s0 : St) (x : Sx) (g : Gh) : Prop where
  tree : TreeG s0 g
  todo : Todo s0 g x.ev true
  out : ∀ y, y ∉ g.H → g.dn y = [] ∧ g.td y = 0#8
  path : x.path = pathOf s0 g x.ev
  on : x.ev ∈ g.H
  nodes : x.nodes = g.H.length
  keys : x.keys = (g.H.filter (isEnd s0)).map Fo.key
  runs : x.runs = (g.H.filter (isEnd s0)).length
  blk : x.runs + x.blk ≤ x.nodes
  blkc : x.blk = (g.H.filter (isBlk s0 g.sl)).length
theorem next_lt {s : St} {q : Nat} {e : Ev} (h : next s q = some e) : q < s.th.length := by
  unfold next ins at h
  cases hx : s.th[q]? with
  | none => rw [hx] at h; simp at h
  | some x => exact (List.getElem?_eq_some_iff.1 hx).1
theorem TreeG.wf {s0 : St} {g : Gh} (h : TreeG s0 g) (hs : Wf s0) {z : List Ev} (hz : z ∈ g.H) : Wf (at_ s0 z) := sys.can_ok hs (h.tree.way z hz)
theorem TreeG.take {s0 : St} {g : Gh} (h : TreeG s0 g) {z : List Ev} (hz : z ∈ g.H) (i : Nat) : z.take i ∈ g.H := by
  have : z.take i ++ z.drop i ∈ g.H := by rw [List.take_append_drop]; exact hz
  exact h.tree.pre_app (z.drop i) this
theorem mem_free {a : BitVec 8} {s : St} {q : Nat} : q ∈ freeOf a (all s) ↔ enabled s q = true ∧ has a q = false := by
  unfold freeOf
  rw [List.mem_filter, all_iff]
  simp
theorem td_zero {f : BitVec 8} (h : ∀ q, has f q = true → False) : f = 0#8 := ext fun t _ => by
  rw [has_zero]
  cases hh : has f t with
  | false => rfl
  | true => exact (h t hh).elim
theorem Todo.mark {s0 : St} {g : Gh} {z : List Ev} {H0 : List (List Ev)} (hs : Wf s0) (h : TreeG s0 g) (hH : g.H = H0 ++ [z]) (td' : List Ev → BitVec 8)
    (en0 : ∀ {y q}, y ∈ H0 → has (g.td y) q = true → enabled (at_ s0 y) q = true)
    (race0 : ∀ {y q e i}, y ∈ H0 → next (at_ s0 y) q = some e → Fo.RaceAt y i e → ∀ t, enabled (at_ s0 (y.take i)) t = true → has (g.td (y.take i)) t = true)
    (pick0 : ∀ {y q}, y ∈ H0 → enabled (at_ s0 y) q = true → has (g.sl y) q = false → ∃ u, has (g.td y) u = true ∧ has (g.sl y) u = false)
    (done0 : ∀ {y}, y ∈ H0 → ¬ y <+: z → ∀ q, has (g.td y) q = true → has (g.sl y) q = true ∨ ∃ e ∈ g.dn y, e.t.toNat = q)
    (up : ∀ y q, has (g.td y) q = true → has (td' y) q = true)
    (down : ∀ y q, has (td' y) q = true → (has (g.td y) q = true ∧ y ≠ z) ∨ (y <+: z ∧ enabled (at_ s0 y) q = true))
    (races' : ∀ r ∈ races (at_ s0 z) z, ∀ t, enabled (at_ s0 (z.take r.1)) t = true → has (td' (z.take r.1)) t = true)
    (pick' : ∀ q, enabled (at_ s0 z) q = true → has (g.sl z) q = false → ∃ u, has (td' z) u = true ∧ has (g.sl z) u = false) :
    Todo s0 { g with td := td' } z true where
  en := fun {y q} hy hq => by
    rcases down y q hq with ⟨h1, h2⟩ | ⟨_, h1⟩
    · have hy' : y ∈ H0 ++ [z] := hH ▸ hy
      rcases List.mem_append.1 hy' with hy' | hy'
      · exact en0 hy' h1
      · exact (h2 (List.mem_singleton.1 hy')).elim
    · exact h1
  race := fun {y q e i} hy hn hr t ht => by
    have hy' : y ∈ H0 ++ [z] := hH ▸ hy
    rcases List.mem_append.1 hy' with hy' | hy'
    · exact up _ _ (race0 hy' hn hr t ht)
    · rw [List.mem_singleton] at hy'
      subst hy'
      exact races' (i, e.t) (mem_races.2 ⟨q, e, next_lt hn, hn, hr, rfl⟩) t ht
  pick := fun {y q} hy he hsl => by
    have hy' : y ∈ H0 ++ [z] := hH ▸ hy
    rcases List.mem_append.1 hy' with hy' | hy'
    · obtain ⟨u, h1, h2⟩ := pick0 hy' he hsl
      exact ⟨u, up _ _ h1, h2⟩
    · rw [List.mem_singleton] at hy'
      subst hy'
      exact pick' q he hsl
  done := fun {y} hy hno q hq => by
    have hnp : ¬ y <+: z := hno.resolve_left (by simp)
    have hy' : y ∈ H0 ++ [z] := hH ▸ hy
    rcases List.mem_append.1 hy' with hy' | hy'
    · rcases down y q hq with ⟨h1, _⟩ | ⟨h1, _⟩
      · exact done0 hy' hnp q h1
      · exact (hnp h1).elim
    · rw [List.mem_singleton] at hy'
      subst hy'
      exact (hnp (List.prefix_refl _)).elim
theorem open_inv (od : List Nat) {s0 : St} (hs : Wf s0) (x : Sx) (g : Gh) (z : List Ev) (H0 : List (List Ev)) (hev : x.ev = z) (hp : x.path ++ [⟨at_ s0 z, g.sl z, 0#8, 0#8⟩] = pathOf s0 g z) (h : TreeG s0 g) (hH : g.H = H0 ++ [z])
    (hdn : g.dn z = []) (htd : g.td z = 0#8) (out : ∀ y, y ∉ g.H → g.dn y = [] ∧ g.td y = 0#8)
    (en0 : ∀ {y q}, y ∈ H0 → has (g.td y) q = true → enabled (at_ s0 y) q = true)
    (race0 : ∀ {y q e i}, y ∈ H0 → next (at_ s0 y) q = some e → Fo.RaceAt y i e → ∀ t, enabled (at_ s0 (y.take i)) t = true → has (g.td (y.take i)) t = true)
    (pick0 : ∀ {y q}, y ∈ H0 → enabled (at_ s0 y) q = true → has (g.sl y) q = false → ∃ u, has (g.td y) u = true ∧ has (g.sl y) u = false)
    (done0 : ∀ {y}, y ∈ H0 → ¬ y <+: z → ∀ q, has (g.td y) q = true → has (g.sl y) q = true ∨ ∃ e ∈ g.dn y, e.t.toNat = q)
    (nodes : x.nodes = H0.length) (keys : x.keys = (H0.filter (isEnd s0)).map Fo.key) (runs : x.runs = (H0.filter (isEnd s0)).length) (blk : x.runs + x.blk ≤ x.nodes) (blkc : x.blk = (H0.filter (isBlk s0 g.sl)).length) :
    ∃ td', Inv s0 (openX od x (at_ s0 z) (g.sl z)) { g with td := td' } := by
  have hz : z ∈ g.H := by rw [hH]; simp
  have hwz := h.wf hs hz
  have hwt : ∀ i, Wf (at_ s0 (z.take i)) := fun i => h.wf hs (h.take hz i)
  have hlen : x.path.length = z.length := by
    have := congrArg List.length hp
    rw [List.length_append, pathOf_len] at this
    simpa using this
  have hrs : ∀ r ∈ races (at_ s0 z) z, r.1 < z.length := fun r hr => by
    obtain ⟨t, e, _, _, ⟨y, hy, _⟩, _⟩ := mem_races.1 (show (r.1, r.2) ∈ _ from hr)
    exact (List.getElem?_eq_some_iff.1 hy).1
  have hmk := markAll_path s0 z (races (at_ s0 z) z) g (fun r hr => Nat.le_of_lt (hrs r hr))
  have hhas := fun y q => has_tdM (s0 := s0) (z := z) hwt y q (races (at_ s0 z) z) g.td
  obtain ⟨tdA, htA⟩ : ∃ t, t = tdM s0 z g.td (races (at_ s0 z) z) := ⟨_, rfl⟩
  rw [← htA] at hmk
  simp only [← htA] at hhas
  have hzA : ∀ q, has (tdA z) q = true → False := fun q hq => by
    rcases (hhas z q).1 hq with h1 | ⟨r, hr, h1, _⟩
    · rw [htd, has_zero] at h1; cases h1
    · have := congrArg List.length h1
      have := hrs r hr
      rw [List.length_take] at *
      omega
  have hpre : ∀ i, z.take i <+: z := fun i => List.take_prefix i z
  have hcount : g.H.length = H0.length + 1 := by rw [hH]; simp
  have hfil : g.H.filter (isEnd s0) = H0.filter (isEnd s0) ++ (if all (at_ s0 z) = [] then [z] else []) := by
    rw [hH, List.filter_append]
    congr 1
    unfold isEnd
    by_cases ha : all (at_ s0 z) = [] <;> simp [ha]
  have hfilb : (g.H.filter (isBlk s0 g.sl)).length = (H0.filter (isBlk s0 g.sl)).length + (if isBlk s0 g.sl z = true then 1 else 0) := by
    rw [hH, List.filter_append, List.length_append]
    congr 1
    by_cases hb : isBlk s0 g.sl z = true <;> simp [hb]
  -- without a pick
  have todoA : (∀ q, enabled (at_ s0 z) q = true → has (g.sl z) q = false → False) → Todo s0 { g with td := tdA } z true := fun hno =>
    Todo.mark hs h hH tdA en0 race0 pick0 done0 (fun y q hq => (hhas y q).2 (.inl hq)) (fun y q hq => by
      rcases (hhas y q).1 hq with h1 | ⟨r, hr, h1, h2⟩
      · exact .inl ⟨h1, fun hh => by subst hh; exact hzA q hq⟩
      · exact .inr ⟨by rw [h1]; exact hpre _, h2⟩) (fun r hr t ht => (hhas _ t).2 (.inr ⟨r, hr, rfl, ht⟩)) (fun q h1 h2 => (hno q h1 h2).elim)
  have outA : ∀ y, y ∉ g.H → g.dn y = [] ∧ tdA y = 0#8 := fun y hy => ⟨(out y hy).1, td_zero fun q hq => by
    rcases (hhas y q).1 hq with h1 | ⟨r, hr, h1, _⟩
    · rw [(out y hy).2, has_zero] at h1; cases h1
    · exact hy (by rw [h1]; exact h.take hz _)⟩
  have treeT : ∀ td', TreeG s0 { g with td := td' } := fun td' => ⟨h.root, h.nodup, h.pre, h.kid, h.can, h.dnd, h.slp0, h.slpK⟩
  unfold openX
  rw [hev, hp, hmk]
  by_cases ha : all (at_ s0 z) = []
  · refine ⟨tdA, ?_⟩
    rw [if_pos ha]
    exact ⟨treeT _, todoA (fun q h1 _ => by rw [all_nil.1 ha] at h1; cases h1), outA, rfl, hz, by simp only [hcount, nodes], by simp only; rw [hfil, if_pos ha, List.map_append, keys]; rfl, by simp only; rw [hfil, if_pos ha, List.length_append, runs]; rfl, by simp only; omega, by simp only; rw [hfilb, if_neg (by unfold isBlk; simp [ha]), blkc]; rfl⟩
  · rw [if_neg ha]
    by_cases hf : freeOf (g.sl z) (all (at_ s0 z)) = []
    · refine ⟨tdA, ?_⟩
      rw [if_pos hf]
      exact ⟨treeT _, todoA (fun q h1 h2 => by have := mem_free.2 ⟨h1, h2⟩; rw [hf] at this; cases this), outA, rfl, hz, by simp only [hcount, nodes], by simp only; rw [hfil, if_neg ha, List.append_nil, keys], by simp only; rw [hfil, if_neg ha, List.append_nil, runs], by simp only; omega, by simp only; rw [hfilb, if_pos (by unfold isBlk; simp [ha, hf]), blkc]⟩
    · rw [if_neg hf]
      have hpos : 0 < (freeOf (g.sl z) (all (at_ s0 z))).length := List.length_pos_iff.2 hf
      obtain ⟨u, hu⟩ : ∃ u, u = (freeOf (g.sl z) (all (at_ s0 z))).getD (pickI od x.ch (freeOf (g.sl z) (all (at_ s0 z))).length) 0 := ⟨_, rfl⟩
      have hum : u ∈ freeOf (g.sl z) (all (at_ s0 z)) := by
        have hlt : pickI od x.ch (freeOf (g.sl z) (all (at_ s0 z))).length < (freeOf (g.sl z) (all (at_ s0 z))).length := Nat.mod_lt _ hpos
        rw [hu, List.getD_eq_getElem?_getD, List.getElem?_eq_getElem hlt]
        exact List.getElem_mem hlt
      obtain ⟨hue, hus⟩ := mem_free.1 hum
      have hu8 : u < 8 := all_lt hwz (all_iff.2 hue)
      rw [← hu]
      have hh2 : ∀ y q, has (upd tdA z (tdA z ||| bit u) y) q = true ↔ has (tdA y) q = true ∨ (y = z ∧ u = q) := fun y q => by
        by_cases hy : y = z
        · subst hy
          rw [upd_same, has_or, has_bit, Bool.or_eq_true, Bool.and_eq_true, decide_eq_true_eq, decide_eq_true_eq]
          exact ⟨fun h => h.imp id fun h => ⟨rfl, h.2⟩, fun h => h.imp id fun h => ⟨hu8, h.2⟩⟩
        · rw [upd_ne _ _ hy]
          exact ⟨.inl, fun h => h.elim id fun h => (hy h.1).elim⟩
      refine ⟨upd tdA z (tdA z ||| bit u), treeT _, ?_, ?_, ?_, hz, by simp only [hcount, nodes], by simp only; rw [hfil, if_neg ha, List.append_nil, keys], by simp only; rw [hfil, if_neg ha, List.append_nil, runs], by simp only; omega, by simp only; rw [hfilb, if_neg (by unfold isBlk; simp [hf]), blkc]; rfl⟩
      · exact Todo.mark hs h hH _ en0 race0 pick0 done0 (fun y q hq => (hh2 y q).2 (.inl ((hhas y q).2 (.inl hq)))) (fun y q hq => by
          rcases (hh2 y q).1 hq with hq' | ⟨rfl, rfl⟩
          · rcases (hhas y q).1 hq' with h1 | ⟨r, hr, h1, h2⟩
            · exact .inl ⟨h1, fun hh => by subst hh; exact hzA q hq'⟩
            · exact .inr ⟨by rw [h1]; exact hpre _, h2⟩
          · exact .inr ⟨List.prefix_refl _, hue⟩) (fun r hr t ht => (hh2 _ t).2 (.inl ((hhas _ t).2 (.inr ⟨r, hr, rfl, ht⟩)))) (fun q _ _ => ⟨u, (hh2 z u).2 (.inr ⟨rfl, rfl⟩), hus⟩)
      · intro y hy
        refine ⟨(out y hy).1, td_zero fun q hq => ?_⟩
        rcases (hh2 y q).1 hq with hq | ⟨rfl, _⟩
        · rw [(outA y hy).2, has_zero] at hq; cases hq
        · exact hy hz
      · simp only
        rw [hlen]
        refine pathOf_modify (withT u) (Nat.le_refl _) ?_ (fun y hy => ?_)
        · rw [List.take_length]
          unfold ndOf withT
          simp only [upd_same]
        · rw [List.take_length] at hy
          unfold ndOf
          simp only [upd_ne _ _ hy]
end Pr
end Go.Proofs.YtckdofjpoajblaaGreat
namespace Go.Proofs.YtckdofjpoajblaaGreat
open Bs
set_option linter.unusedVariables false
namespace Pr
theorem pathOf_modify2 {s0 : St} {g g' : Gh} {z : List Ev} {i : Nat} (F : XNd → XNd) (hi : i ≤ z.length) (h1 : ndOf s0 g' (z.take i) = F (ndOf s0 g (z.take i))) (h2 : ∀ j, j ≤ z.length → j ≠ i → ndOf s0 g' (z.take j) = ndOf s0 g (z.take j)) : (pathOf s0 g z).modify i F = pathOf s0 g' z := by
  apply List.ext_getElem?
  intro j
  rw [List.getElem?_modify]
  by_cases hj : j ≤ z.length
  · rw [pathOf_get hj, pathOf_get hj]
    by_cases hij : i = j
    · subst hij; simp [h1]
    · simp [hij, h2 j hj (fun hh => hij hh.symm)]
  · have e1 : (pathOf s0 g z)[j]? = none := List.getElem?_eq_none (by rw [pathOf_len]; omega)
    have e2 : (pathOf s0 g' z)[j]? = none := List.getElem?_eq_none (by rw [pathOf_len]; omega)
    rw [e1, e2]
    simp
theorem at_snoc (s0 : St) (z : List Ev) (e : Ev) : at_ s0 (z ++ [e]) = stepS (at_ s0 z) e.t.toNat := Tree.aft_snoc (S := sys) (s0 := s0) z e
theorem mem_left {a d t : BitVec 8} {u : Nat} : u ∈ Bs.left a d t ↔ has t u = true ∧ has d u = false ∧ has a u = false := by
  unfold Bs.left
  rw [mem_all, has_sub, has_sub]
  simp [and_assoc]
theorem into_inv (od : List Nat) {s0 : St} (hs : Wf s0) {x : Sx} {g : Gh} (I : Inv s0 x g) {u : Nat} (ht : has (g.td x.ev) u = true) (hd : has (bitsE (g.dn x.ev)) u = false) (ha : has (g.sl x.ev) u = false) :
    ∃ g', Inv s0 (intoX od x (ndOf s0 g x.ev) u) g' ∧ g'.H = g.H ++ [x.ev ++ [evAt (at_ s0 x.ev) u]] := by
  obtain ⟨z, hzz⟩ : ∃ z, z = x.ev := ⟨_, rfl⟩
  have hz : z ∈ g.H := hzz ▸ I.on
  rw [← hzz] at ht hd ha ⊢
  have hwz := I.tree.wf hs hz
  have hen := I.todo.en hz ht
  obtain ⟨e, i, hn, _, _⟩ := enabled_next hen
  have hev : evAt (at_ s0 z) u = e := by unfold evAt; rw [hn]; rfl
  have hu : e.t.toNat = u := by rw [next_t hn]; rfl
  have h8 : ∀ f ∈ g.dn z, f.t.toNat < 8 := fun f hf => all_lt hwz (all_iff.2 (I.tree.can hz hf).1)
  have hnd : ∀ f ∈ g.dn z, f.t.toNat ≠ e.t.toNat := fun f hf hh => by
    have := (has_bitsE h8 u).2 ⟨f, hf, hh.trans hu⟩
    rw [hd] at this; cases this
  obtain ⟨hT, hnew⟩ := I.tree.into (e := e) (fun y hy => (I.out y hy).1) hz (by rw [hu]; exact hen) (by rw [hu]; exact hn) (by rw [hu]; exact ha) hnd h8
  rw [hu] at hT
  rw [hev]
  obtain ⟨c, hc⟩ : ∃ c, c = childOf (at_ s0 z) (g.sl z) (bitsE (g.dn z)) u := ⟨_, rfl⟩
  rw [← hc] at hT
  have hzn : z ≠ z ++ [e] := fun h => snoc_ne z e h.symm
  have hne : ∀ y, y ∈ g.H → y ≠ z ++ [e] := fun y hy h => hnew (h ▸ hy)
  have hpath : x.path.modify (x.path.length - 1) (goneD u) = pathOf s0 (gInto g z e c) z := by
    rw [I.path, ← hzz, pathOf_len]
    refine pathOf_modify2 (goneD u) (by omega) ?_ (fun j hj hji => ?_)
    · rw [show z.length + 1 - 1 = z.length by omega, List.take_length]
      unfold ndOf goneD gInto
      simp only [upd_same, upd_ne _ _ hzn]
      congr 1
      unfold bitsE
      rw [List.map_append, List.map_cons, List.map_nil, hu, of_snoc]
    · have h1 : z.take j ≠ z := fun h => by
        have := congrArg List.length h
        rw [List.length_take] at this
        omega
      unfold ndOf gInto
      simp only [upd_ne _ _ h1, upd_ne _ _ (hne _ (I.tree.take hz j))]
  have hnd2 : ndOf s0 (gInto g z e c) (z ++ [e]) = ⟨stepS (at_ s0 z) u, c, 0#8, 0#8⟩ := by
    unfold ndOf gInto
    simp only [upd_same, upd_ne _ _ (snoc_ne z e)]
    rw [at_snoc, hu, (I.out _ hnew).1, (I.out _ hnew).2]
    rfl
  obtain ⟨td', J⟩ := open_inv od hs { x with path := x.path.modify (x.path.length - 1) (goneD u), ev := z ++ [e] } (gInto g z e c) (z ++ [e]) g.H rfl
    (by
      simp only
      rw [hpath, pathOf_snoc]
      congr 1
      rw [hnd2, at_snoc, hu]
      simp only [gInto, upd_same])
    hT rfl (by simp only [gInto]; rw [upd_ne _ _ (snoc_ne z e)]; exact (I.out _ hnew).1) (I.out _ hnew).2
    (fun y hy => by
      have hy1 : y ∉ g.H := fun h => hy (List.mem_append_left _ h)
      refine ⟨?_, (I.out y hy1).2⟩
      simp only [gInto]
      rw [upd_ne _ _ (show y ≠ z from fun h => hy1 (by rw [h]; exact hz))]
      exact (I.out y hy1).1)
    (fun {y q} hy hq => I.todo.en hy hq)
    (fun {y q f j} hy hn hr t ht => I.todo.race hy hn hr t ht)
    (fun {y q} hy he hsl => by
      have h1 : (gInto g z e c).sl y = g.sl y := upd_ne _ _ (hne y hy)
      rw [h1] at hsl ⊢
      exact I.todo.pick hy he hsl)
    (fun {y} hy hno q hq => by
      have h1 : (gInto g z e c).sl y = g.sl y := upd_ne _ _ (hne y hy)
      have h2 : (gInto g z e c).dn y = g.dn y := upd_ne _ _ (fun h => hno (by rw [h]; exact List.prefix_append z [e]))
      rw [h1, h2]
      exact I.todo.done hy (.inr (fun h => hno (List.IsPrefix.trans (hzz ▸ h) (List.prefix_append z [e])))) q hq)
    I.nodes I.keys I.runs I.blk (by
      rw [I.blkc]
      congr 1
      refine List.filter_congr fun y hy => ?_
      unfold isBlk
      rw [show (gInto g z e c).sl y = g.sl y from upd_ne _ _ (hne y hy)])
  have heq : intoX od x (ndOf s0 g z) u = openX od { x with path := x.path.modify (x.path.length - 1) (goneD u), ev := z ++ [e] } (at_ s0 (z ++ [e])) ((gInto g z e c).sl (z ++ [e])) := by
    have h1 : (gInto g z e c).sl (z ++ [e]) = c := upd_same _ _ _
    rw [h1, at_snoc, hu, hc]
    unfold intoX ndOf
    simp only
    rw [hev, ← hzz]
  rw [heq]
  exact ⟨_, J, rfl⟩
end Pr
end Go.Proofs.YtckdofjpoajblaaGreat
namespace Go.Proofs.YtckdofjpoajblaaGreat
open Bs
set_option linter.unusedVariables false
namespace Pr
structure Fin (s0 : St) (x : Sx) (g : Gh) : Prop where
  tree : TreeG s0 g
  todo : Todo s0 g [] false
  nodes : x.nodes = g.H.length
  keys : x.keys = (g.H.filter (isEnd s0)).map Fo.key
  runs : x.runs = (g.H.filter (isEnd s0)).length
  blk : x.runs + x.blk ≤ x.nodes
  blkc : x.blk = (g.H.filter (isBlk s0 g.sl)).length
theorem pop_inv {s0 : St} (hs : Wf s0) {x : Sx} {g : Gh} (I : Inv s0 x g) (hl : Bs.left (g.sl x.ev) (bitsE (g.dn x.ev)) (g.td x.ev) = []) :
    ((popX x).path = [] ∧ Fin s0 (popX x) g) ∨ Inv s0 (popX x) g := by
  have h8 : ∀ f ∈ g.dn x.ev, f.t.toNat < 8 := fun f hf => all_lt (I.tree.wf hs I.on) (all_iff.2 (I.tree.can I.on hf).1)
  have hz : ∀ q, has (g.td x.ev) q = true → has (g.sl x.ev) q = true ∨ ∃ e ∈ g.dn x.ev, e.t.toNat = q := fun q hq => by
    cases hs : has (g.sl x.ev) q with
    | true => exact .inl rfl
    | false =>
      cases hd : has (bitsE (g.dn x.ev)) q with
      | true => exact .inr ((has_bitsE h8 q).1 hd)
      | false =>
        have := mem_left.2 ⟨hq, hd, hs⟩
        rw [hl] at this
        cases this
  rcases List.eq_nil_or_concat x.ev with he | ⟨y0, e, he⟩
  · left
    refine ⟨by unfold popX; simp only; rw [I.path, he, pathOf_nil]; rfl, I.tree, ⟨I.todo.en, I.todo.race, I.todo.pick, fun {y} hy _ q hq => ?_⟩, I.nodes, I.keys, I.runs, I.blk, I.blkc⟩
    by_cases hp : y <+: x.ev
    · have : y = x.ev := by rw [he] at hp ⊢; exact List.prefix_nil.1 hp
      subst this
      exact hz q hq
    · exact I.todo.done hy (.inr hp) q hq
  · right
    rw [List.concat_eq_append] at he
    have hp2 : (popX x).ev = y0 := by unfold popX; simp only; rw [he, List.dropLast_concat]
    refine ⟨I.tree, ?_, I.out, ?_, ?_, I.nodes, I.keys, I.runs, I.blk, I.blkc⟩
    · rw [hp2]
      refine ⟨I.todo.en, I.todo.race, I.todo.pick, fun {y} hy hno q hq => ?_⟩
      have hnp : ¬ y <+: y0 := hno.resolve_left (by simp)
      by_cases hp : y <+: x.ev
      · have : y = x.ev := by
          rw [he] at hp ⊢
          rcases List.prefix_concat_iff.1 hp with h | h
          · exact h
          · exact (hnp h).elim
        subst this
        exact hz q hq
      · exact I.todo.done hy (.inr hp) q hq
    · rw [hp2]
      unfold popX
      simp only
      rw [I.path, he, pathOf_drop]
    · rw [hp2]
      have := I.on
      rw [he] at this
      exact (I.tree.pre this).1
theorem openX_ev (od : List Nat) (x : Sx) (s : St) (a : BitVec 8) : (openX od x s a).ev = x.ev := by
  unfold openX
  simp only
  split
  · rfl
  · split <;> rfl
theorem run_done {od : List Nat} {bg : Nat} {x : Sx} (h : x.path = []) : ∀ k, runX od bg k x = (x, true)
  | 0 => rfl
  | k + 1 => by unfold runX; rw [h]; rfl
theorem run_inv (od : List Nat) (bg : Nat) {s0 : St} (hs : Wf s0) : ∀ (k : Nat) (x : Sx) (g : Gh), Inv s0 x g → 2 * (bg - x.nodes) + x.path.length ≤ k → x.nodes ≤ bg →
    ((runX od bg k x).2 = true → ∃ g', Fin s0 (runX od bg k x).1 g' ∧ (runX od bg k x).1.nodes ≤ bg ∧ (runX od bg k x).1.path = []) ∧ ((runX od bg k x).2 = false → ∃ g', Inv s0 (runX od bg k x).1 g' ∧ (runX od bg k x).1.nodes = bg ∧ ∃ u, u ∈ Bs.left (g'.sl (runX od bg k x).1.ev) (bitsE (g'.dn (runX od bg k x).1.ev)) (g'.td (runX od bg k x).1.ev))
  | 0, x, g, I, hk, _ => by rw [I.path, pathOf_len] at hk; omega
  | k + 1, x, g, I, hk, hb => by
    have hlen : x.path.length = x.ev.length + 1 := by rw [I.path, pathOf_len]
    have hlast : x.path.getLast? = some (ndOf s0 g x.ev) := by rw [I.path]; exact pathOf_last _ _ _
    have hst : runX od bg (k + 1) x = if Bs.left (g.sl x.ev) (bitsE (g.dn x.ev)) (g.td x.ev) = [] then runX od bg k (popX x) else if bg ≤ x.nodes then (x, false) else runX od bg k (intoX od { x with ch := x.ch + 1 } (ndOf s0 g x.ev) ((Bs.left (g.sl x.ev) (bitsE (g.dn x.ev)) (g.td x.ev)).getD (pickI od x.ch (Bs.left (g.sl x.ev) (bitsE (g.dn x.ev)) (g.td x.ev)).length) 0)) := by
      conv => lhs; unfold runX
      rw [hlast]
      rfl
    rw [hst]
    by_cases hl : Bs.left (g.sl x.ev) (bitsE (g.dn x.ev)) (g.td x.ev) = []
    · rw [if_pos hl]
      rcases pop_inv hs I hl with ⟨hp, hF⟩ | J
      · rw [run_done hp]
        exact ⟨fun _ => ⟨g, hF, hb, hp⟩, fun h => by cases h⟩
      · exact run_inv od bg hs k (popX x) g J (by unfold popX; simp only; rw [List.length_dropLast]; omega) hb
    · rw [if_neg hl]
      by_cases hbg : bg ≤ x.nodes
      · rw [if_pos hbg]
        obtain ⟨u, hu⟩ := List.exists_mem_of_ne_nil _ hl
        exact ⟨fun h => (by cases h), fun _ => ⟨g, I, by simp only; omega, u, hu⟩⟩
      · rw [if_neg hbg]
        have hpos : 0 < (Bs.left (g.sl x.ev) (bitsE (g.dn x.ev)) (g.td x.ev)).length := List.length_pos_iff.2 hl
        obtain ⟨u, hu⟩ : ∃ u, u = (Bs.left (g.sl x.ev) (bitsE (g.dn x.ev)) (g.td x.ev)).getD (pickI od x.ch (Bs.left (g.sl x.ev) (bitsE (g.dn x.ev)) (g.td x.ev)).length) 0 := ⟨_, rfl⟩
        have hum : u ∈ Bs.left (g.sl x.ev) (bitsE (g.dn x.ev)) (g.td x.ev) := by
          have hlt : pickI od x.ch (Bs.left (g.sl x.ev) (bitsE (g.dn x.ev)) (g.td x.ev)).length < (Bs.left (g.sl x.ev) (bitsE (g.dn x.ev)) (g.td x.ev)).length := Nat.mod_lt _ hpos
          rw [hu, List.getD_eq_getElem?_getD, List.getElem?_eq_getElem hlt]
          exact List.getElem_mem hlt
        rw [← hu]
        obtain ⟨ht, hd, ha⟩ := mem_left.1 hum
        have I2 : Inv s0 { x with ch := x.ch + 1 } g := ⟨I.tree, I.todo, I.out, I.path, I.on, I.nodes, I.keys, I.runs, I.blk, I.blkc⟩
        obtain ⟨g', J, hH⟩ := into_inv od hs I2 ht hd ha
        have hn' : (intoX od { x with ch := x.ch + 1 } (ndOf s0 g x.ev) u).nodes = x.nodes + 1 := by rw [J.nodes, hH, List.length_append, I.nodes]; rfl
        have hl' : (intoX od { x with ch := x.ch + 1 } (ndOf s0 g x.ev) u).path.length = x.path.length + 1 := by
          rw [J.path, pathOf_len]
          unfold intoX
          rw [openX_ev, hlen]
          simp
        exact run_inv od bg hs k _ g' J (by rw [hn', hl']; omega) (by rw [hn']; omega)
end Pr
end Go.Proofs.YtckdofjpoajblaaGreat
namespace Go.Proofs.YtckdofjpoajblaaGreat
open Bs
set_option linter.unusedVariables false
namespace Pr
def g0 : Gh := ⟨[[]], fun _ => [], fun _ => 0#8, fun _ => 0#8⟩
theorem g0_tree (s0 : St) : TreeG s0 g0 := by
  refine ⟨by simp [g0], by simp [g0], fun {z e} h => ?_, fun {z e} _ h => ?_, fun {z e} _ h => ?_, fun {z} _ => ?_, rfl, fun {z e a b} _ h _ => ?_⟩
  · simp [g0] at h
  · simp [g0] at h
  · simp [g0] at h
  · simp [g0]
  · simp [g0] at h
theorem expl_law {s0 : St} (hs : Wf s0) (bg : Nat) (od : List Nat) (hbg : 1 ≤ bg) :
    ((explX s0 bg od).2 = true → ∃ g, Fin s0 (explX s0 bg od).1 g ∧ (explX s0 bg od).1.nodes ≤ bg ∧ (explX s0 bg od).1.path = []) ∧ ((explX s0 bg od).2 = false → ∃ g, Inv s0 (explX s0 bg od).1 g ∧ (explX s0 bg od).1.nodes = bg ∧ ∃ u, u ∈ Bs.left (g.sl (explX s0 bg od).1.ev) (bitsE (g.dn (explX s0 bg od).1.ev)) (g.td (explX s0 bg od).1.ev)) := by
  obtain ⟨td', I⟩ := open_inv od hs x0 g0 [] [] rfl rfl (g0_tree s0) rfl rfl rfl (fun y _ => ⟨rfl, rfl⟩) (fun {y q} hy _ => by cases hy) (fun {y q e i} hy _ _ _ _ => by cases hy) (fun {y q} hy _ _ => by cases hy) (fun {y} hy _ _ _ => by cases hy) rfl rfl rfl (Nat.le_refl _) rfl
  have I' : Inv s0 (openX od x0 s0 0#8) { g0 with td := td' } := I
  have hn : (openX od x0 s0 0#8).nodes = 1 := I'.nodes
  have hl : (openX od x0 s0 0#8).path.length = 1 := by rw [I'.path, pathOf_len, openX_ev]; rfl
  exact run_inv od bg hs (2 * bg + 2) _ _ I' (by rw [hn, hl]; omega) (by rw [hn]; exact hbg)
theorem TreeG.rows {s0 : St} {g : Gh} (h : TreeG s0 g) (hs : Wf s0) (hf : fuels s0 ≤ 200) {z : List Ev} (hz : z ∈ g.H) : Ex s0 z (at_ s0 z) ∧ Fo.okRow z = true := by
  have hex : Ex s0 z (at_ s0 z) := ex_can.2 ⟨h.tree.way z hz, rfl⟩
  refine ⟨hex, ?_⟩
  have h1 := ex_len hex hs
  unfold Fo.okRow Fo.rights
  rw [Bool.and_eq_true]
  exact ⟨decide_eq_true (by omega), List.all_eq_true.2 (ex_rights hex hs)⟩
theorem TreeG.keys_nodup {s0 : St} {g : Gh} (h : TreeG s0 g) (hs : Wf s0) (hf : fuels s0 ≤ 200) : ((g.H.filter (isEnd s0)).map Fo.key).Nodup := by
  unfold List.Nodup
  rw [List.pairwise_map]
  refine (h.nodup.filter _).imp_of_mem fun {a b} ha hb hab hk => hab ?_
  have ha' := (List.mem_filter.1 ha).1
  have hb' := (List.mem_filter.1 hb).1
  have hq := (Fo.key_iff (h.rows hs hf ha').2 (h.rows hs hf hb').2).1 hk
  exact h.tree.once hs a b [] ha' hb' hq
theorem TreeG.keys_cls {s0 : St} {g : Gh} (h : TreeG s0 g) (hs : Wf s0) (hf : fuels s0 ≤ 200) {k : Ky.K} (hk : k ∈ (g.H.filter (isEnd s0)).map Fo.key) : ∃ s l, Ex s0 l s ∧ all s = [] ∧ Fo.key l = k := by
  obtain ⟨z, hz, rfl⟩ := List.mem_map.1 hk
  obtain ⟨h1, h2⟩ := List.mem_filter.1 hz
  exact ⟨_, z, (h.rows hs hf h1).1, of_decide_eq_true h2, rfl⟩
theorem Fin.all_cls {s0 : St} {x : Sx} {g : Gh} (F : Fin s0 x g) (hs : Wf s0) (hf : fuels s0 ≤ 200) {s : St} {l : List Ev} (hex : Ex s0 l s) (ha : all s = []) : Fo.key l ∈ (g.H.filter (isEnd s0)).map Fo.key := by
  obtain ⟨hc, rfl⟩ := ex_can.1 hex
  obtain ⟨u, hu, hq⟩ := F.tree.tree.each hs (closed_of F.tree F.todo) hc (fun t => all_nil.1 ha t)
  have hu' : u ∈ g.H := hu
  have hl : Fo.okRow l = true := by
    have h1 := ex_len hex hs
    unfold Fo.okRow Fo.rights
    rw [Bool.and_eq_true]
    exact ⟨decide_eq_true (by omega), List.all_eq_true.2 (ex_rights hex hs)⟩
  have hend : at_ s0 u = sys.aft s0 l := ((sys.can_eqv hq hs).2 hc).2
  refine List.mem_map.2 ⟨u, List.mem_filter.2 ⟨hu', ?_⟩, (Fo.key_iff (F.tree.rows hs hf hu').2 hl).2 hq⟩
  unfold isEnd
  rw [hend]
  exact decide_eq_true ha
end Pr
end Go.Proofs.YtckdofjpoajblaaGreat
namespace Go.Proofs.YtckdofjpoajblaaGreat
open Bs
set_option linter.unusedVariables false
namespace Pr
theorem TreeG.slt {s0 : St} {g : Gh} (h : TreeG s0 g) (hs : Wf s0) {z : List Ev} (hz : z ∈ g.H) {q : Nat} (hq : has (g.sl z) q = true) : q < (at_ s0 z).th.length := by
  rcases List.eq_nil_or_concat z with rfl | ⟨y, e, rfl⟩
  · rw [h.slp0, has_zero] at hq; cases hq
  · rw [List.concat_eq_append] at hz hq ⊢
    obtain ⟨hy, he⟩ := h.pre hz
    obtain ⟨a, b, hab⟩ := List.append_of_mem he
    obtain ⟨_, f, hf, _⟩ := (h.slpK hy hab hz q).1 hq
    rw [at_snoc]
    have := next_lt hf
    rw [(stepS_wf e.t.toNat (h.wf hs hy)).2.2]
    exact this
theorem TreeG.dlt {s0 : St} {g : Gh} (h : TreeG s0 g) (hs : Wf s0) {z : List Ev} (hz : z ∈ g.H) {q : Nat} (hq : has (bitsE (g.dn z)) q = true) : q < (at_ s0 z).th.length := by
  have h8 : ∀ f ∈ g.dn z, f.t.toNat < 8 := fun f hf => all_lt (h.wf hs hz) (all_iff.2 (h.can hz hf).1)
  obtain ⟨f, hf, rfl⟩ := (has_bitsE h8 q).1 hq
  exact en_lt (h.can hz hf).1
structure OkX (x : Sx) : Prop where
  pw : ∀ n ∈ x.path, Wf n.s
  el : x.ev.length ≤ 40
  er : Fo.rights x.ev = true
  n : x.nodes ≤ 1000
  r : x.runs ≤ 1000
  b : x.blk ≤ 1000
  k : x.keys.length ≤ 1000
  c : x.ch ≤ 10000
theorem Inv.okx {s0 : St} {x : Sx} {g : Gh} (I : Inv s0 x g) (hs : Wf s0) (hf : fuels s0 ≤ 32) (hn : x.nodes ≤ 1000) (hc : x.ch ≤ 2 * x.nodes) : OkX x ∧ x.path.length = x.ev.length + 1 ∧ x.ev.length ≤ 32 := by
  obtain ⟨hex, hok⟩ := I.tree.rows hs (by omega) I.on
  have hl := ex_len hex hs
  have hpl : x.path.length = x.ev.length + 1 := by rw [I.path, pathOf_len]
  unfold Fo.okRow at hok
  rw [Bool.and_eq_true] at hok
  have hk : x.keys.length = x.runs := by rw [I.keys, I.runs, List.length_map]
  have hb := I.blk
  refine ⟨⟨fun n hm => ?_, by omega, hok.2, hn, by omega, by omega, by omega, by omega⟩, hpl, by omega⟩
  rw [I.path] at hm
  unfold pathOf at hm
  obtain ⟨i, _, rfl⟩ := List.mem_map.1 hm
  exact I.tree.wf hs (I.tree.take I.on i)
theorem openX_ch (od : List Nat) (x : Sx) (s : St) (a : BitVec 8) : (openX od x s a).ch ≤ x.ch + 1 ∧ (openX od x s a).nodes = x.nodes + 1 := by
  unfold openX
  simp only
  split
  · exact ⟨Nat.le_succ _, rfl⟩
  · split
    · exact ⟨Nat.le_succ _, rfl⟩
    · exact ⟨Nat.le_refl _, rfl⟩
theorem intoX_ch (od : List Nat) (x : Sx) (n : XNd) (u : Nat) : (intoX od x n u).ch ≤ x.ch + 1 ∧ (intoX od x n u).nodes = x.nodes + 1 := openX_ch od _ _ _
theorem modify_set {α : Type} {l : List α} {i : Nat} {a : α} (h : l[i]? = some a) (F : α → α) : l.modify i F = l.set i (F a) := by
  apply List.ext_getElem?
  intro j
  rw [List.getElem?_modify, List.getElem?_set]
  obtain ⟨hl, rfl⟩ := List.getElem?_eq_some_iff.1 h
  by_cases hij : i = j
  · subst hij
    simp [hl]
  · simp [hij]
theorem markAll_len : ∀ (rs : List (Nat × Int)) (p : List XNd), (markAll p rs).length = p.length
  | [], p => rfl
  | r :: rs, p => by
    have := markAll_len rs (p.modify r.1 mark1)
    unfold markAll at this ⊢
    rw [List.foldl_cons, this, List.length_modify]
theorem markAll_step {p : List XNd} {rs : List (Nat × Int)} {k : Nat} {r : Nat × Int} (h : rs[k]? = some r) : markAll p (rs.take (k + 1)) = (markAll p (rs.take k)).modify r.1 mark1 := by
  unfold markAll
  rw [List.take_add_one, h, List.foldl_append]
  rfl
theorem markAll_s : ∀ (rs : List (Nat × Int)) (p : List XNd) (i : Nat), ((markAll p rs)[i]?).map XNd.s = (p[i]?).map XNd.s
  | [], p, i => rfl
  | r :: rs, p, i => by
    have := markAll_s rs (p.modify r.1 mark1) i
    unfold markAll at this ⊢
    rw [List.foldl_cons, this, List.getElem?_modify]
    cases p[i]? with
    | none => simp
    | some n => by_cases h : r.1 = i <;> simp [h, mark1]
end Pr
end Go.Proofs.YtckdofjpoajblaaGreat
namespace Go.Proofs.YtckdofjpoajblaaGreat
set_option linter.unusedVariables false
namespace Pr
structure Nd where
  s : St
  w : List Int
  e : Ev
def kidN (d : Nd) (t : Nat) : Nd := ⟨stepS d.s t, d.w ++ [(t : Int)], evAt d.s t⟩
def kids_ (d : Nd) : List Nd := (all d.s).map (kidN d)
inductive Reach : Nd → Nd → Prop
  | refl (d : Nd) : Reach d d
  | step {d c d' : Nd} : c ∈ kids_ d → Reach c d' → Reach d d'
end Pr
end Go.Proofs.YtckdofjpoajblaaGreat
namespace Go.Proofs.YtckdofjpoajblaaGreat
open Go.RowKit
set_option linter.unusedVariables false
set_option maxRecDepth 100000 in
theorem cloneT_any (w : World) (a : Addr) (n cap : Nat) (cs : List Value) (hr : Rd w 4 (some a) n cs) (hn : n ≤ 1000000) :
    Calls Tryz.prog 158 #[.slice (some a) n cap] w (fun x w' => ∃ T cap', x = .returned (.slice (some ⟨T, 0, none⟩) n cap') ∧ Row w' 127 4 (some ⟨T, 0, none⟩) n cap' cs ∧ w.heap.size ≤ T ∧ Below w.heap.size w w') := by
  obtain ⟨i0, hi0, hz0, hz1, hz2⟩ := info_parts Tryz.infoTh
  have qn : ∀ (w : World) (a : Option Addr) (n c n' c' : Nat), (binOp .eql 121 (.slice a n c) (.slice none n' c')).run Tryz.prog w = .ok (.bool a.isNone) w := fun w a n c n' c' => Lib.run_eql_slice_nil w _ _ a n c n' c' Tryz.underlying121
  have hb : Below w.heap.size w (w.alloc (Obj.cells #[] 127)) := (Below.refl _ _).alloc (Nat.le_refl _) _
  have HX := Lib.hid (hr.below hb (Nat.le_refl _))
  have HB := Lib.hid hb
  clear hr hb
  go_enter Tryz.func158, Tryz.ntmps158
  go_wp2_with (at_builtin; refine wpList_append_copy0 (by rfl) _ _ _ (by rfl) 127 i0 _ 4 32 Tryz.underlying121 hi0 hz0 hz1 hz2 rfl (by omega) ⟨w.heap.size, 0, none⟩ 0 [] (by rfl) (row_empty (heap_alloc_new w _)) (some a) n cap cs (by rfl) HX.out (by unfold maxLen; omega) (by omega) ?_; intro g7 o7 cap7 w7 hown hb2 hg7 ho7; obtain rfl : o7 = 0 := by (rcases ho7 with h | h <;> exact h); skip)
  go_ret
  rw [Nat.zero_add] at hown
  refine ⟨g7, cap7, rfl, by simpa using hown, ?_, below_at HB.out hb2⟩
  have := HB.out.size
  rcases hg7 with ⟨_, h⟩ | h
  · exact Nat.le_of_eq h.symm
  · simp at h; omega
def CopyOut (w : World) (C : Nat → Prop) (s : St) (x : Ending) (w' : World) : Prop := ∃ S' T', x = .returned (.pointer (some ⟨S', 0, none⟩)) ∧ SAt w' C S' T' s ∧ w.heap.size ≤ S' ∧ w.heap.size ≤ T' ∧ Below w.heap.size w w'
set_option maxRecDepth 100000 in
set_option maxHeartbeats 2000000 in
theorem copyS_any (w : World) (C : Nat → Prop) (S T : Nat) (s : St) (h : SAt w C S T s) (hC : ∀ k, C k → k < w.heap.size) (hn4 : s.th.length ≤ 4) :
    Calls Tryz.prog 96 #[.pointer (some ⟨S, 0, none⟩)] w (CopyOut w C s) := by
  have hlen := h.len
  have hS0 := h
  obtain ⟨PA, pc, tc, h1, h2, h3, h4, h5, h6, h7⟩ := h
  have c0 : ∀ j, w.cell? ⟨S, j, none⟩ = (stCells s PA pc T tc)[j]? := fun j => cell_blk h1 j
  have g0 := c0 0
  have g1 := c0 1
  have g2 := c0 2
  have g3 := c0 3
  have g4 := c0 4
  have g5 := c0 5
  have g6 := c0 6
  have g7 := c0 7
  have g8 := c0 8
  have g9 := c0 9
  simp only [stCells, List.getElem?_toArray, List.getElem?_cons_succ, List.getElem?_cons_zero] at g0 g1 g2 g3 g4 g5 g6 g7 g8 g9
  have sl := blk_lt h1
  have hcl := fun (u : World) (hu : Below w.heap.size w u) => cloneT_any u ⟨T, 0, none⟩ s.th.length tc (s.th.flatMap encT) (h2.rd.below hu (Nat.le_refl _)) (by omega)
  have HS := Lib.hid (And.intro h1 (And.intro h2.rd (And.intro h3 hlen)))
  have HC := Lib.hid hC
  obtain ⟨n, hn⟩ : ∃ n, n = s.th.length := ⟨_, rfl⟩
  obtain ⟨m, hm⟩ : ∃ m, m = s.p.code.length := ⟨_, rfl⟩
  rw [← hn] at g3 hn4 hcl
  rw [← hm] at g2
  have HN := Lib.hid (And.intro hn hm)
  have HCL := Lib.hid hcl
  clear c0 h1 h2 h3 h4 h5 h6 h7 hlen hC hn hm hcl hS0
  go_enter Tryz.func96, Tryz.ntmps96
  go_upto_region 4 with fail
  obtain ⟨W1, hW1⟩ : ∃ z, z = w.alloc (Obj.cells #[.int .i64 s.p.vars, .int .i64 s.p.mtx, .slice PA m pc, .slice (some ⟨T, 0, none⟩) n tc, .int .i64 (s.v 0), .int .i64 (s.v 1), .int .i64 (s.v 2), .int .i64 (s.v 3), .int .i64 (s.h 0), .int .i64 (s.h 1)] 124) := ⟨_, rfl⟩
  obtain ⟨S1, hS1⟩ : ∃ z, z = w.heap.size := ⟨_, rfl⟩
  rw [← hW1, ← hS1]
  have hk1 : W1.heap[S1]? = some (.cells #[.int .i64 s.p.vars, .int .i64 s.p.mtx, .slice PA m pc, .slice (some ⟨T, 0, none⟩) n tc, .int .i64 (s.v 0), .int .i64 (s.v 1), .int .i64 (s.v 2), .int .i64 (s.v 3), .int .i64 (s.h 0), .int .i64 (s.h 1)] 124 (0, 0)) := by rw [hW1, hS1]; exact heap_alloc_new w _
  have hb1 : Below w.heap.size w W1 := by rw [hW1]; exact (Below.refl _ _).alloc (Nat.le_refl _) _
  have HK1 := Lib.hid hk1
  have HB1 := Lib.hid hb1
  have HSW := Lib.hid (Nat.le_of_eq hS1.symm)
  clear hk1 hb1 hW1 hS1 g0 g1 g2 g4 g5 g6 g7 g8 g9
  have g3 := (World.cell?_of_block (HB1.out.block S sl)).trans g3
  have sl : S < W1.heap.size := Nat.lt_of_lt_of_le sl HB1.out.size
  go_wp2_with fail
  refine (HCL.out W1 HB1.out).mono ?_
  rintro y u ⟨T1, c1, rfl, hrow, hT1, hbu0⟩
  have hk2 := (hbu0.block S1 (blk_lt HK1.out)).trans HK1.out
  have c3 : u.cell? ⟨S1, 3, none⟩ = some (.slice (some ⟨T, 0, none⟩) n tc) := cell_blk hk2 3
  have fz := free_blk hk2 3
  have ll := blk_lt hk2
  have HK2 := Lib.hid hk2
  have HROW := Lib.hid hrow
  have HBU := Lib.hid (below_at HB1.out hbu0)
  have HT1 := Lib.hid (show S1 < T1 by have := blk_lt HK1.out; omega)
  clear hk2 hrow hT1 hbu0 g3 sl HCL
  go_wp2_with fail
  have hm : Mod (fun k => k = S1) u (u.setCell ⟨S1, 3, none⟩ (.slice (some ⟨T1, 0, none⟩) n c1)) := (Mod.refl (fun k => k = S1) u).setCell (p := ⟨S1, 3, none⟩) (fun _ => rfl) _
  have hgS := HT1.out
  have hk3 : (u.setCell ⟨S1, 3, none⟩ (.slice (some ⟨T1, 0, none⟩) n c1)).heap[S1]? = some (.cells (stCells s PA pc T1 c1) 124 (0, 0)) := by
    rw [set_blk HK2.out, HN.out.1, HN.out.2]; simp [stCells]
  have hbz : Below w.heap.size w (u.setCell ⟨S1, 3, none⟩ (.slice (some ⟨T1, 0, none⟩) n c1)) := HBU.out.setCell (p := ⟨S1, 3, none⟩) HSW.out _
  have hrow := HROW.out.mod hm (fun a ha e => by injection ha with ha; subst ha; simp only at e; omega)
  have hrow : Row (u.setCell ⟨S1, 3, none⟩ (.slice (some ⟨T1, 0, none⟩) n c1)) 127 4 (some ⟨T1, 0, none⟩) s.th.length c1 (s.th.flatMap encT) := by rw [← HN.out.1]; exact hrow
  refine bodyPost_ret (v := .pointer (some ⟨S1, 0, none⟩)) (by simp [results, Tryz.results96, go_sem]) rfl ?_
  have hCw : ∀ k, C k → k < w.heap.size := HC.out
  have hsw := HSW.out
  exact ⟨S1, T1, rfl, ⟨PA, pc, c1, hk3, hrow, (HS.out.2.2.1.mod (Mod.of_below_size hbz (fun _ => False)) (fun _ _ h => h)), fun hk => by have := hCw _ hk; omega, fun hk => by have := hCw _ hk; omega, fun e => by omega, HS.out.2.2.2⟩, hsw, by omega, hbz⟩
end Go.Proofs.YtckdofjpoajblaaGreat
namespace Go.Proofs.YtckdofjpoajblaaGreat
open Go.RowKit
set_option linter.unusedVariables false
def CellAt (w : World) (k : Nat) (v : Value) : Prop := ∃ T, w.heap[k]? = some (.cells #[v] T (0, 0))
theorem CellAt.mod {w w' : World} {F : Nat → Prop} {k : Nat} {v : Value} (h : CellAt w k v) (hm : Mod F w w') (hF : ¬ F k) : CellAt w' k v := by
  obtain ⟨T, h⟩ := h
  exact ⟨T, (hm.block k (blk_lt h) hF).trans h⟩
theorem CellAt.below {w w' : World} {k : Nat} {v : Value} (h : CellAt w k v) (hb : Below w.heap.size w w') : CellAt w' k v := h.mod (Mod.of_below_size hb (fun _ => False)) (fun h => h)
theorem CellAt.cell {w : World} {k : Nat} {v : Value} (h : CellAt w k v) : w.cell? ⟨k, 0, none⟩ = some v ∧ k < w.heap.size ∧ w.frozen? ⟨k, 0, none⟩ = false := by
  obtain ⟨T, h⟩ := h
  exact ⟨cell_blk h 0, blk_lt h, free_blk h 0⟩
theorem CellAt.set {w : World} {k : Nat} {v : Value} (h : CellAt w k v) (u : Value) : CellAt (w.setCell ⟨k, 0, none⟩ u) k u ∧ Mod (fun q => q = k) w (w.setCell ⟨k, 0, none⟩ u) := by
  obtain ⟨T, h⟩ := h
  exact ⟨⟨T, by rw [set_blk h]; simp⟩, (Mod.refl (fun q => q = k) w).setCell (p := ⟨k, 0, none⟩) (fun _ => rfl) u⟩
structure AtS {α : Type} (G : Nat) (caps : Array Value) (F : Nat → Prop) (I : α → World → Prop) (at_ : St → List Ev → α → α) : Prop where
  call : ∀ (u : World) (C : Nat → Prop) (S T : Nat) (s : St) (row : List Ev) (A : Option Addr) (cap : Nat) (x : α), SAt u C S T s → Pr.Wf s → Rd u 4 A row.length (row.flatMap encE) → row.length ≤ 100 → (∀ k, F k → k ≠ S ∧ k ≠ T ∧ ¬ C k ∧ (∀ b, A = some b → b.block ≠ k)) → I x u →
    Calls Tryz.prog G (#[.pointer (some ⟨S, 0, none⟩), .slice A row.length cap] ++ caps) u fun y w' => y = .returned (.tuple #[]) ∧ I (at_ s row x) w' ∧ Mod F u w'
  enters : ∀ (args : Array Value) (w : World), (callFunc G args).run Tryz.prog w = .ok (.enter G args) w
  keep : ∀ (x : α) (u u' : World) (H : Nat → Prop), I x u → Mod H u u' → (∀ k, H k → ¬ F k) → I x u'
theorem AtS.below {α : Type} {G : Nat} {caps : Array Value} {F : Nat → Prop} {I : α → World → Prop} {at_ : St → List Ev → α → α} (h : AtS G caps F I at_) {x : α} {u u' : World} (hi : I x u) (hb : Below u.heap.size u u') : I x u' :=
  h.keep x u u' (fun _ => False) hi (Mod.of_below_size hb _) (fun _ h => h.elim)
structure Ov (w : World) (N P Q R : Nat) (c most : Nat) (G : Nat) (caps : Array Value) : Prop where
  n : CellAt w N (.int .i64 c)
  p : CellAt w P (.int .i64 most)
  q : CellAt w Q (.func (.func G) #[] caps)
  r : CellAt w R (.func (.func 159) #[] #[.pointer (some ⟨N, 0, none⟩), .pointer (some ⟨P, 0, none⟩), .pointer (some ⟨Q, 0, none⟩), .pointer (some ⟨R, 0, none⟩)])
  np : N ≠ P
  nq : N ≠ Q
  nr : N ≠ R
theorem Ov.mod {w w' : World} {N P Q R c most G : Nat} {caps : Array Value} {F : Nat → Prop} (h : Ov w N P Q R c most G caps) (hm : Mod F w w') (hN : ¬ F N) (hP : ¬ F P) (hQ : ¬ F Q) (hR : ¬ F R) : Ov w' N P Q R c most G caps :=
  ⟨h.n.mod hm hN, h.p.mod hm hP, h.q.mod hm hQ, h.r.mod hm hR, h.np, h.nq, h.nr⟩
theorem Ov.below {w w' : World} {N P Q R c most G : Nat} {caps : Array Value} (h : Ov w N P Q R c most G caps) (hb : Below w.heap.size w w') : Ov w' N P Q R c most G caps :=
  h.mod (Mod.of_below_size hb (fun _ => False)) (fun h => h) (fun h => h) (fun h => h) (fun h => h)
theorem Ov.set {w : World} {N P Q R c most G : Nat} {caps : Array Value} (h : Ov w N P Q R c most G caps) (c' : Nat) : Ov (w.setCell ⟨N, 0, none⟩ (.int .i64 c')) N P Q R c' most G caps ∧ Mod (fun k => k = N) w (w.setCell ⟨N, 0, none⟩ (.int .i64 c')) := by
  obtain ⟨h1, h2⟩ := h.n.set (.int .i64 c')
  exact ⟨⟨h1, h.p.mod h2 (fun e => h.np e.symm), h.q.mod h2 (fun e => h.nq e.symm), h.r.mod h2 (fun e => h.nr e.symm), h.np, h.nq, h.nr⟩, h2⟩
section
variable {α : Type}
end
end Go.Proofs.YtckdofjpoajblaaGreat
namespace Go.Proofs.YtckdofjpoajblaaGreat
open Go.RowKit
set_option linter.unusedVariables false
set_option maxRecDepth 100000 in
theorem cloneInt_any (w : World) (A : Option Addr) (n cap : Nat) (cs : List Value) (hr : Rd w 1 A n cs) (hn : n ≤ 1000000) :
    Calls Tryz.prog 97 #[.slice A n cap] w (fun x w' => CloneOut w 3 1 n cs x w') := by
  unfold CloneOut
  obtain ⟨i0, hi0, hz0, hz1, hz2⟩ := info_parts Tryz.infoInt
  have qn : ∀ (w : World) (a : Option Addr) (n c n' c' : Nat), (binOp .eql 32 (.slice a n c) (.slice none n' c')).run Tryz.prog w = .ok (.bool a.isNone) w := fun w a n c n' c' => Lib.run_eql_slice_nil w _ _ a n c n' c' Tryz.underlying32
  cases A with
  | none =>
    have h0 : n = 0 := by
      rcases Nat.eq_zero_or_pos n with h | h
      · exact h
      · obtain ⟨g, o, h1, _⟩ := hr.2 (by omega); cases h1
    subst h0
    have hc : cs = [] := List.eq_nil_of_length_eq_zero (by rw [hr.1])
    subst hc
    clear hr hi0 hz0 hz1 hz2
    go_enter Tryz.func97, Tryz.ntmps97
    go_wp2_with fail
    go_ret
    exact ⟨none, 0, rfl, Row.nil _ _ _, fun a h => (by cases h), Below.refl _ _⟩
  | some a =>
    have hb : Below w.heap.size w (w.alloc (Obj.cells #[] 3)) := (Below.refl _ _).alloc (Nat.le_refl _) _
    have HX := Lib.hid (hr.below hb (Nat.le_refl _))
    have HB := Lib.hid hb
    clear hr hb
    go_enter Tryz.func97, Tryz.ntmps97
    go_wp2_with (at_builtin; refine wpList_append_copy (by rfl) _ _ _ (by rfl) 3 i0 _ 1 8 Tryz.underlying32 hi0 hz0 hz1 hz2 rfl (by omega) ⟨w.heap.size, 0, none⟩ 0 [] (by rfl) (row_empty (heap_alloc_new w _)) (some a) n cap cs (by rfl) HX.out (by unfold maxLen; omega) (by omega) ?_; intro g7 o7 cap7 w2 hown hb2 hg7)
    go_ret
    rw [Nat.zero_add] at hown
    refine ⟨_, cap7, rfl, by simpa using hown, fun a h => ?_, below_at HB.out hb2⟩
    injection h with h
    subst h
    have := HB.out.size
    rcases hg7 with ⟨_, h⟩ | h
    · exact Nat.le_of_eq h.symm
    · simp at h; simp only; omega
def NodeAt (u : World) (B o S : Nat) (WA : Option Addr) (wc : Nat) (d : Pr.Nd) : Prop :=
  u.cell? ⟨B, o, none⟩ = some (.pointer (some ⟨S, 0, none⟩)) ∧ u.cell? ⟨B, o + 1, none⟩ = some (.slice WA d.w.length wc) ∧ u.cell? ⟨B, o + 2, none⟩ = some (.int .i64 d.e.t) ∧ u.cell? ⟨B, o + 3, none⟩ = some (.int .i64 d.e.k) ∧
    u.cell? ⟨B, o + 4, none⟩ = some (.int .i64 d.e.o) ∧ u.cell? ⟨B, o + 5, none⟩ = some (.bool d.e.f) ∧ B < u.heap.size
theorem NodeAt.block {u u' : World} {B o S : Nat} {WA : Option Addr} {wc : Nat} {d : Pr.Nd} (h : NodeAt u B o S WA wc d) (hb : u'.heap[B]? = u.heap[B]?) (hs : u.heap.size ≤ u'.heap.size) : NodeAt u' B o S WA wc d := by
  obtain ⟨h0, h1, h2, h3, h4, h5, h6⟩ := h
  exact ⟨by rw [World.cell?_of_block hb]; exact h0, by rw [World.cell?_of_block hb]; exact h1, by rw [World.cell?_of_block hb]; exact h2, by rw [World.cell?_of_block hb]; exact h3, by rw [World.cell?_of_block hb]; exact h4, by rw [World.cell?_of_block hb]; exact h5, by omega⟩
namespace Pr
end Pr
end Go.Proofs.YtckdofjpoajblaaGreat
namespace Go.Proofs.YtckdofjpoajblaaGreat
open Go.RowKit Bs
set_option linter.unusedVariables false
theorem all_valT (L : List Nat) : (L.map (fun (t : Nat) => (t : Int))).map iv = L.map valT := by rw [List.map_map]; rfl
theorem allN_any (w : World) (C : Nat → Prop) (S T : Nat) (s : St) (h : SAt w C S T s) (hw : Pr.Wf s) :
    Calls Tryz.prog 31 #[.pointer (some ⟨S, 0, none⟩)] w fun x w' => ∃ A cap, x = .returned (.slice A (Pr.all s).length cap) ∧ Row w' 3 1 A (Pr.all s).length cap ((Pr.all s).map valT) ∧ (∀ a, A = some a → w.heap.size ≤ a.block) ∧ Below w.heap.size w w' := by
  refine (all_any w C S T s h hw).mono ?_
  rintro x w' ⟨A, cap, rfl, ⟨h1, h2⟩, h3⟩
  rw [List.length_map, all_valT] at h1
  exact ⟨A, cap, by rw [List.length_map], h1, h2, h3⟩
theorem encR_get {rs : List (Nat × Int)} {k i : Nat} {u : Int} (h : rs[k]? = some (i, u)) : (rs.flatMap encR)[k * 2]? = some (.int .i64 (i : Int)) ∧ (rs.flatMap encR)[k * 2 + 1]? = some (.int .i64 u) := by
  obtain ⟨hk, he⟩ := List.getElem?_eq_some_iff.1 h
  have h0 := flat_get (f := encR) (sz := 2) (fun _ => rfl) rs k 0 hk (by decide)
  have h1 := flat_get (f := encR) (sz := 2) (fun _ => rfl) rs k 1 hk (by decide)
  rw [he] at h0 h1
  exact ⟨h0, h1⟩
theorem Tryz.infoNp : (Tryz.prog.info? 192).map (fun i => (i.zero, i.size, i.bytes)) = some (some (.pointer none), 1, 8) := by kernel_rfl
structure KOk (K : XK) : Prop where
  rd : Rd K.W 1 K.OA K.od.length (K.od.map fun (b : Nat) => Value.int .u8 (b : Int))
  sz : K.W.heap.size = K.base
  b255 : ∀ b ∈ K.od, b ≤ 255
  len : K.od.length ≤ 1000
  bg : K.bg ≤ 1000
def XE (K : XK) (w : World) (x : Pr.Sx) : Prop := ∃ c PA pc EA ec KA kc Q, XA K w c x PA pc EA ec KA kc Q
theorem pick_xa {K : XK} {w : World} {c : Nat → Nat} {x : Pr.Sx} {PA EA KA : Option Addr} {pc ec kc : Nat} {Q : List NAd} (h : XA K w c x PA pc EA ec KA kc Q) (hK : KOk K) (LA : Option Addr) (lc : Nat) (L : List Nat) (hL : Rd w 1 LA L.length (L.map valT)) (hLX : ∀ a, LA = some a → c a.block ≠ 1) (hl0 : 0 < L.length) (hl8 : L.length ≤ 8) (hch : x.ch ≤ 1000000) :
    Calls Tryz.prog 126 #[.pointer (some ⟨K.X, 0, none⟩), .slice LA L.length lc] w fun y w' => ∃ u, L[Pr.pickI K.od x.ch L.length]? = some u ∧ y = .returned (.int .i64 (u : Int)) ∧ XA K w' (paint c w.heap.size 1) { x with ch := x.ch + 1 } PA pc EA ec KA kc Q ∧ Zer w c w' (paint c w.heap.size 1) ∧ Mod (fun q => q = K.X) w w' := by
  refine (pick_any w K.X 135 _ _ _ _ _ _ _ _ K.OA K.oc x.ch K.od LA lc L h.blk.1 (hK.rd.below h.fr.2.1 (by rw [hK.sz]; exact Nat.le_refl _)) hK.b255 hL (fun a ha e => hLX a ha (by rw [e]; exact h.blk.2)) hl0 hl8 hch (by have := hK.len; omega)).mono ?_
  rintro y w' ⟨u, hu, rfl, hb, hm⟩
  obtain ⟨h1, h2⟩ := h.modX { x with ch := x.ch + 1 } rfl rfl rfl hm hb
  exact ⟨u, hu, rfl, h1, h2, hm⟩
def MarkAt (K : XK) (x : Pr.Sx) (p1 : List Pr.XNd) (PA : Option Addr) (pc : Nat) (EA : Option Addr) (ec : Nat) (KA : Option Addr) (kc : Nat) (Q : List NAd) (S T : Nat) (s : St) (B : Option Addr) (nr cr : Nat) (rs : List (Nat × Int)) (k : Nat) (V : World) (ck : Nat → Nat) : Prop :=
  XA K V ck { x with path := Pr.markAll p1 (rs.take k), nodes := x.nodes + 1 } PA pc EA ec KA kc Q ∧ RowC V ck 0 198 2 B nr cr (rs.flatMap encR) ∧ SAt V K.C S T s ∧ ck S = 0 ∧ ck T = 0
set_option maxRecDepth 100000 in
set_option maxHeartbeats 8000000 in
theorem open_any {K : XK} {w : World} {c : Nat → Nat} {x : Pr.Sx} {PA EA KA : Option Addr} {pc ec kc : Nat} {Q : List NAd} (h : XA K w c x PA pc EA ec KA kc Q) (hK : KOk K) (S T : Nat) (s : St) (a : BitVec 8) (hs : SAt w K.C S T s) (hS : c S = 0) (hT : c T = 0) (hw : Pr.Wf s) (hx : Pr.OkX x) (hpl : x.path.length = x.ev.length) :
    Calls Tryz.prog 72 #[.pointer (some ⟨K.X, 0, none⟩), .pointer (some ⟨S, 0, none⟩), sv8 a] w fun y w' => y = .returned (.tuple #[]) ∧ XE K w' (Pr.openX K.od x s a) := by
  obtain ⟨i0, hi0, hz0, hz1, hz2⟩ := info_parts Tryz.infoNp
  obtain ⟨j0, hj0, hjz0, hjz1, hjz2⟩ := info_parts Tryz.infoStrR
  obtain ⟨hxw, hxe, hxr, hxn, hxru, hxb, hxk, hxc⟩ := hx
  have hpl4 : x.path.length ≤ 40 := by omega
  have hpcm := h.path.1.2.2.1
  obtain ⟨nd, hnd⟩ : ∃ n : Pr.XNd, n = ⟨s, a, 0#8, 0#8⟩ := ⟨_, rfl⟩
  obtain ⟨W1, hW1⟩ : ∃ z, z = w.alloc (Obj.cells #[.pointer (some ⟨S, 0, none⟩), .int .u8 (a.toNat : Int), .int .u8 0, .int .u8 0] 194) := ⟨_, rfl⟩
  obtain ⟨N, hN⟩ : ∃ z, z = w.heap.size := ⟨_, rfl⟩
  obtain ⟨c1, hc1⟩ : ∃ z, z = paint c w.heap.size 5 := ⟨_, rfl⟩
  have k1 : Chg 9 c w c1 W1 := by rw [hW1, hc1]; exact Chg.alloc 9 5 _
  obtain ⟨hA1, z1⟩ := h.grow k1
  have hs1 := hs.zer z1 h.c0 hS hT
  have hb1 : BlkC W1 c1 5 N (.cells (ndCells S nd) 194 (0, 0)) := by rw [hW1, hc1, hN, hnd]; exact BlkC.made w c 5 _
  have hq1 : NdAt W1 c1 K.C ⟨N, S, T⟩ nd := ⟨hb1, by rw [hnd]; exact hs1⟩
  have hne : N ∉ Q.map NAd.N := fun hm => by
    obtain ⟨q, hq, e⟩ := List.mem_map.1 hm
    obtain ⟨i, hi⟩ := List.mem_iff_getElem?.1 hq
    have hql := h.nds.1
    obtain ⟨n, hn⟩ := get_some (show i < x.path.length by rw [← hql]; exact (List.getElem?_eq_some_iff.1 hi).1)
    have := (h.nds.2.2 i q n hi hn).1.lt
    omega
  have hpush : ∀ (o : Obj) (w9 : World) (g9 o9 c9 : Nat), Row w9 192 1 (some ⟨g9, o9, none⟩) (x.path.length + 1) c9 (Q.map (fun q => ptrN q.N) ++ [.pointer (some ⟨N, 0, none⟩)]) → Mod (fun k => ∃ a, PA = some a ∧ k = a.block) (W1.alloc o) w9 → ((∃ a, PA = some a ∧ g9 = a.block) ∨ (W1.alloc o).heap.size ≤ g9) →
      (K.X < w9.heap.size ∧ w9.frozen? ⟨K.X, 0, none⟩ = false ∧ w9.cell? ⟨K.X, 0, none⟩ = some (.slice PA x.path.length pc)) ∧ ∃ c', XA K (w9.setCell ⟨K.X, 0, none⟩ (.slice (some ⟨g9, o9, none⟩) (x.path.length + 1) c9)) c' { x with path := x.path ++ [nd] } (some ⟨g9, o9, none⟩) c9 EA ec KA kc (Q ++ [⟨N, S, T⟩]) ∧ (SAt (w9.setCell ⟨K.X, 0, none⟩ (.slice (some ⟨g9, o9, none⟩) (x.path.length + 1) c9)) K.C S T s ∧ c' S = 0 ∧ c' T = 0) := fun o w9 g9 o9 c9 hr hm hat => by
    have k2 : Chg 9 c1 W1 (paint c1 W1.heap.size 0) (W1.alloc o) := Chg.alloc 9 0 _
    obtain ⟨hA2, z2⟩ := hA1.grow k2
    refine ⟨hA2.offP hm, ?_⟩
    obtain ⟨c', h3, z3⟩ := hA2.pushN (hq1.stay k2 (by decide) (by decide) hA1.c0) hne hr hm (fun a' ha' => by injection ha' with ha'; subst ha'; exact hat) (Below.refl _ _)
    have hs2 := hs1.1.zer z2 hA1.c0 hs1.2.1 hs1.2.2
    exact ⟨c', h3, hs2.1.zer z3 hA2.c0 hs2.2.1 hs2.2.2⟩
  have hrow := fun o => row_stepS hA1.path.1 ((Below.refl _ W1).alloc (Nat.le_refl _) o)
  obtain ⟨⟨x0, x1, x4, x5⟩, _, xl, xf⟩ := hA1.look
  have e1 : ∀ n : Nat, n ≤ 1000 → wrap64 ((n : Int) + 1) = (n : Int) + 1 := fun n hn => IntWalk.wrap64_in _ (by omega)
  have eN := e1 _ hxn
  have eR := e1 _ hxru
  have eB := e1 _ hxb
  have HPUSH := Lib.hid hpush
  have HROW := Lib.hid hrow
  have HK := Lib.hid hK
  have HXW := Lib.hid hxw
  have HXR := Lib.hid hxr
  have HND := Lib.hid hnd
  have HW := Lib.hid hw
  have HPL := Lib.hid hpl
  have HEN := Lib.hid eN
  have HER := Lib.hid eR
  have HEB := Lib.hid eB
  unfold sv8
  clear hpush hrow hK hxw hxr hnd hw e1 eN eR eB hpl hs1 hb1 hq1 hne z1 k1 hc1 hs hS hT h hA1
  go_enter Tryz.func72, Tryz.ntmps72
  go_upto_region 1 with fail
  rw [← hW1, ← hN]
  clear hW1 hN
  go_upto_region 2 with (at_builtin; refine wpList_append_row (by rfl) _ _ _ (by rfl) 192 i0 _ 1 8 Tryz.underlying133 hi0 hz0 hz1 hz2 rfl (by omega) PA x.path.length pc (Q.map fun q => ptrN q.N) (by rfl) (HROW.out _) ⟨W1.heap.size, 0, none⟩ 1 1 [.pointer (some ⟨N, 0, none⟩)] (by rfl) (by rfl) (World.news_of_block (cs := #[.pointer (some ⟨N, 0, none⟩)]) (t := 192) (fr := (0, 0)) (heap_alloc_new W1 _)) (by simp [Value.oneCell']) (by omega) (by unfold maxLen; omega) (by omega) ?_; intro g9 o9 c9 w9 hown hm hat; obtain ⟨⟨hx9, hf0, hf9⟩, c3, hA3, hs3⟩ := HPUSH.out _ w9 g9 o9 c9 hown hm hat; have HA3 := Lib.hid hA3; have HS3 := Lib.hid hs3; clear hA3 hs3 hown hm hat)
  obtain ⟨W3, hW3⟩ : ∃ z, z = w9.setCell ⟨K.X, 0, none⟩ (.slice (some ⟨g9, o9, none⟩) (x.path.length + 1) c9) := ⟨_, rfl⟩
  rw [← hW3] at HA3 HS3 ⊢
  clear hW3 x0 x1 x4 x5 xl xf hx9 hf9 hf0
  -- one node more
  obtain ⟨⟨x0, x1, x4, x5⟩, ⟨x6, x7, x8⟩, xl, xf⟩ := HA3.out.look
  simp only at x6
  have xf6 := xf 6
  go_upto_region 3 with fail
  try rw [HEN.out]
  obtain ⟨W4, hW4⟩ : ∃ z, z = W3.setCell ⟨K.X, 6, none⟩ (.int .i64 ((x.nodes : Int) + 1)) := ⟨_, rfl⟩
  rw [← hW4]
  obtain ⟨p1, hp1⟩ : ∃ z, z = x.path ++ [nd] := ⟨_, rfl⟩
  rw [← hp1] at HA3
  obtain ⟨hA4, z4⟩ := HA3.out.setX 6 (.int .i64 ((x.nodes : Int) + 1)) { x with path := p1, nodes := x.nodes + 1 } rfl rfl rfl (by simp [xOf, xCells])
  rw [← hW4] at hA4 z4
  obtain ⟨c4, hc4⟩ : ∃ z, z = paint c3 W3.heap.size 1 := ⟨_, rfl⟩
  rw [← hc4] at hA4 z4
  have hs4 := HS3.out.1.zer z4 HA3.out.c0 HS3.out.2.1 HS3.out.2.2
  have hrc := races_any W4 K.C S T s EA ec x.ev hs4.1 HW.out hA4.ev.1.rd hA4.ev.1.2.1 hA4.ev.1.2.2.1 (by omega) HXR.out
  have hri : ∀ r ∈ Pr.races s x.ev, r.1 < x.path.length := fun r hr => by
    obtain ⟨i, u⟩ := r
    obtain ⟨t, e, _, _, ⟨y, hy, _⟩, _⟩ := Pr.mem_races.1 hr
    have := (List.getElem?_eq_some_iff.1 hy).1
    rw [HPL.out]
    exact this
  have hnr4 : (Pr.races s x.ev).length ≤ 160 := by
    have h1 := Pr.racesK_len s x.ev s.th.length
    have h2 : s.th.length * x.ev.length ≤ 4 * 40 := Nat.mul_le_mul HW.out.n4 hxe
    exact Nat.le_trans h1 h2
  obtain ⟨rs, hrs⟩ : ∃ z, z = Pr.races s x.ev := ⟨_, rfl⟩
  rw [← hrs] at hrc hri hnr4
  obtain ⟨nr, hnr⟩ : ∃ z, z = rs.length := ⟨_, rfl⟩
  rw [← hnr] at hrc hnr4
  have hpw : ∀ (n : Pr.XNd) (i : Nat) (k : Nat), (Pr.markAll p1 (rs.take k))[i]? = some n → Pr.Wf n.s := fun n i k hn => by
    have h1 := Pr.markAll_s (rs.take k) p1 i
    rw [hn] at h1
    cases hp : p1[i]? with
    | none => rw [hp] at h1; cases h1
    | some m =>
      rw [hp] at h1
      simp only [Option.map_some, Option.some.injEq] at h1
      rw [h1]
      have hm := List.mem_of_getElem? hp
      rw [hp1] at hm
      rcases List.mem_append.1 hm with hm | hm
      · exact HXW.out m hm
      · rw [List.mem_singleton.1 hm, HND.out]; exact HW.out
  have hlast : ∀ k, ∃ n, (Pr.markAll p1 (rs.take k))[x.path.length]? = some n := fun k => get_some (by rw [Pr.markAll_len, hp1]; simp)
  have hplen : p1.length = x.path.length + 1 := by rw [hp1]; simp
  have HA4 := Lib.hid hA4
  have HS4 := Lib.hid hs4
  have HRC := Lib.hid hrc
  have HRI := Lib.hid hri
  have HRS := Lib.hid hrs
  have HNR := Lib.hid hnr
  have HPW := Lib.hid hpw
  have HLAST := Lib.hid hlast
  have HPLEN := Lib.hid hplen
  have HP1 := Lib.hid hp1
  clear hW4 hA4 z4 hc4 hs4 hrc hri hrs hnr hpw hlast hplen hp1 x0 x1 x4 x5 x6 x7 x8 xl xf xf6 HA3 HS3 HXW
  have x1 : W4.cell? ⟨K.X, 1, none⟩ = some (.slice EA x.ev.length ec) := HA4.out.look.1.2.1
  have xl := HA4.out.look.2.2.1
  go_wp2_with fail
  refine HRC.out.mono ?_
  rintro y w5 ⟨B, cr, rfl, r5, f5, b5⟩
  obtain ⟨hA5, z5⟩ := HA4.out.below b5
  have HA5 := Lib.hid hA5
  have HS5 := Lib.hid (HS4.out.1.zer z5 HA4.out.c0 HS4.out.2.1 HS4.out.2.2)
  have HR5 := Lib.hid (RowC.fresh (c := c4) (j := 0) r5 f5)
  clear hA5 z5 r5 f5 b5 HRC HA4 HS4 x1 xl
  go_wp2_with fail
  go_loopw [42] (fun v wr => ∃ (k : Nat) (ck : Nat → Nat), k ≤ nr ∧ v = .int .i64 k ∧ Hid (MarkAt K x p1 (some ⟨g9, o9, none⟩) c9 EA ec KA kc (Q ++ [⟨N, S, T⟩]) S T s B nr cr rs k wr ck)) (fun v _ => nr - (intOf v).toNat)
  case atStart => exact ⟨0, _, Nat.zero_le _, rfl, Lib.hid ⟨HA5.out, HR5.out, HS5.out⟩⟩
  case round =>
    clear HA5 HR5 HS5
    obtain ⟨k, ck, hk, rfl, HMA⟩ := hrel
    have HAK := Lib.hid HMA.out.1
    have HRK := Lib.hid HMA.out.2.1
    have HSK := Lib.hid HMA.out.2.2
    clear HMA
    rename World => V
    by_cases hlt : k < nr
    · obtain ⟨⟨i, u⟩, hr⟩ := get_some (show k < rs.length by rw [← HNR.out]; exact hlt)
      have hi : i < x.path.length := HRI.out _ (List.mem_of_getElem? hr)
      obtain ⟨gr, orr, rfl⟩ := HRK.out.1.some_of_pos (by have := HRK.out.1.2.1; omega)
      have hlg : gr < V.heap.size := HRK.out.1.lt
      obtain ⟨v0, v1⟩ := encR_get hr
      have r0 := (HRK.out.1.cell (k * 2) (by omega)).trans v0
      have r1 := (HRK.out.1.cell (k * 2 + 1) (by omega)).trans v1
      rw [← Nat.add_assoc] at r1
      have hmk := Pr.markAll_step (p := p1) hr
      have kk1 : (0 : Int) ≤ (k : Int) := Int.natCast_nonneg _
      have kk2 : (k : Int) < (nr : Int) := by omega
      have HMK := Lib.hid hmk
      clear hr v0 v1 hmk
      go_upto_region 6 with fail
      obtain ⟨W6, hW6⟩ : ∃ z, z = V.alloc (Obj.cells #[.int .i64 (i : Int), .int .i64 u] 198) := ⟨_, rfl⟩
      obtain ⟨Y, hY⟩ : ∃ z, z = V.heap.size := ⟨_, rfl⟩
      rw [← hW6, ← hY]
      have hYb : W6.heap[Y]? = some (.cells #[.int .i64 (i : Int), .int .i64 u] 198 (0, 0)) := by rw [hW6, hY]; exact heap_alloc_new V _
      have hb6 : Below V.heap.size V W6 := by rw [hW6]; exact (Below.refl _ _).alloc (Nat.le_refl _) _
      obtain ⟨hA6, z6⟩ := HAK.out.below hb6
      have hs6 := HSK.out.1.zer z6 HAK.out.c0 HSK.out.2.1 HSK.out.2.2
      have hr6 := HRK.out.zer z6
      obtain ⟨n, hn⟩ : ∃ n, (Pr.markAll p1 (rs.take k))[i]? = some n := get_some (by rw [Pr.markAll_len, HPLEN.out]; omega)
      have hwn := HPW.out n i k hn
      obtain ⟨⟨qN, qS, qT⟩, hq, hnat, g9', o9', hPA, hg9, hpc⟩ := hA6.nodeAt (by exact hn)
      obtain ⟨rfl, rfl⟩ : g9 = g9' ∧ o9 = o9' := by simpa using hPA
      simp only [ptrN] at hpc
      have y0 : W6.cell? ⟨Y, 0, none⟩ = some (.int .i64 (i : Int)) := cell_blk hYb 0
      have yl := blk_lt hYb
      have x0 : W6.cell? ⟨K.X, 0, none⟩ = some (.slice (some ⟨g9, o9, none⟩) (x.path.length + 1) c9) := by
        have h0 := hA6.look.1.1
        simp only [Pr.markAll_len, HPLEN.out] at h0
        exact h0
      have xl := hA6.look.2.2.1
      have ii1 : (0 : Int) ≤ (i : Int) := Int.natCast_nonneg _
      have ii2 : (i : Int) < ((x.path.length + 1 : Nat) : Int) := by omega
      have ii3 : (i : Int) < (x.path.length : Int) + 1 := by omega
      obtain ⟨W7, hW7⟩ : ∃ z, z = W6.drew := ⟨_, rfl⟩
      have hb7 : Below W6.heap.size W6 W7 := by rw [hW7]; exact (Below.refl _ _).drew
      obtain ⟨hA7, z7⟩ := hA6.below hb7
      have hs7 := hs6.1.zer z7 hA6.c0 hs6.2.1 hs6.2.2
      have hr7 := hr6.zer z7
      have hnat7 := hnat.stay (Chg.below 9 0 hb7) (by decide) (by decide) hA6.c0
      obtain ⟨⟨n0, n1, n2, n3⟩, nl, nf⟩ := hnat7.look
      simp only at n0 n1 n2 n3 nl nf
      have hal := fun u (hu : Below W7.heap.size W7 u) => allN_any u K.C qS qT n.s (hnat7.2.1.below hu) hwn
      obtain ⟨c7, hc7⟩ : ∃ z, z = paint (paint ck V.heap.size 0) W6.heap.size 0 := ⟨_, rfl⟩
      rw [← hc7] at hA7 hs7 hr7 hnat7
      obtain ⟨ns, na, nd_, nt⟩ := n
      simp only at n0 n1 n2 n3 hal hwn
      have hal4 := Pr.all_len hwn
      have HY := Lib.hid (And.intro y0 yl)
      have HX0 := Lib.hid (And.intro x0 xl)
      have HPC := Lib.hid (And.intro hpc hg9)
      have HA7 := Lib.hid hA7
      have HS7 := Lib.hid hs7
      have HR7 := Lib.hid hr7
      have HN7 := Lib.hid hnat7
      have HAL := Lib.hid hal
      have HQ := Lib.hid hq
      have HN := Lib.hid hn
      have HW7 := Lib.hid hW7
      clear hW6 hY hYb hb6 hA6 z6 hs6 hr6 hwn hq hnat hPA hpc hg9 y0 yl x0 xl hW7 hb7 hA7 z7 hs7 hr7 hnat7 hal hc7 r0 r1 hn HAK HRK HSK
      refine wp_region_planF (by kernel_rfl) (fun u => Below W6.heap.size W6 u) [] [(0, .pure), (1, .pure), (2, .pure), (3, .load), (4, .pure), (5, .load), (6, .pure), (7, .load), (8, .pure)] (by simp only [List.map_cons, List.map_nil, List.getElem?_toArray, List.getElem?_cons_succ, List.getElem?_cons_zero]; rfl) (by kernel_rfl) (fun _ _ d _ _ h => by cases d <;> exact h) ((Below.refl _ _).drew) ?_
      rw [← HW7.out]
      clear HW7
      repeat (first
        | (refine plan_pure (v := ?_) (by rfl) (fun w1 => ?_) ?_
           rotate_left
           · go_simp <;> with_reducible rfl
           simp only [Act.put, List.setIfInBounds_toArray, List.set_cons_zero, List.set_cons_succ])
        | (refine plan_off (by rfl) ?_
           simp only [Act.put, List.setIfInBounds_toArray, List.set_cons_zero, List.set_cons_succ])
        | (refine plan_load_off (by rfl) ?_
           simp only [Act.put, List.setIfInBounds_toArray, List.set_cons_zero, List.set_cons_succ])
        | (refine plan_load (v := ?_) (by rfl) (fun w1 hw1 => ?_) ?_
           rotate_left
           · (have q0 := (World.cell?_of_block (hw1.block _ HX0.out.2)).trans HX0.out.1
              have q1 := (World.cell?_of_block (hw1.block _ HY.out.2)).trans HY.out.1
              have q2 := (World.cell?_of_block (hw1.block _ HPC.out.2)).trans HPC.out.1
              have q3 := Nat.lt_of_lt_of_le HX0.out.2 hw1.size
              have q4 := Nat.lt_of_lt_of_le HY.out.2 hw1.size
              have q5 := Nat.lt_of_lt_of_le HPC.out.2 hw1.size
              clear hw1
              go_simp <;> with_reducible rfl)
           simp only [Act.put, List.setIfInBounds_toArray, List.set_cons_zero, List.set_cons_succ]))
      refine plan_end ?_
      obtain ⟨W8, hW8⟩ : ∃ z, z = W7.drew := ⟨_, rfl⟩
      have hB8 : Below W7.heap.size W7 W8 := by rw [hW8]; exact (Below.refl _ _).drew
      have hlook : ∀ u, Below W7.heap.size W7 u → (u.cell? ⟨qN, 0, none⟩ = some (.pointer (some ⟨qS, 0, none⟩)) ∧ u.cell? ⟨qN, 3, none⟩ = some (.int .u8 (nt.toNat : Int))) ∧ qN < u.heap.size ∧ ∀ j, u.frozen? ⟨qN, j, none⟩ = false := fun u hu => by
        obtain ⟨⟨a0, a1, a2, a3⟩, al, af⟩ := (HN7.out.stay (Chg.below 9 0 hu) (by decide) (by decide) HA7.out.c0).look
        exact ⟨⟨a0, a3⟩, al, af⟩
      have HB8 := Lib.hid hB8
      have HLK := Lib.hid hlook
      clear hB8 hlook n0 n1 n2 n3 nl nf
      go_upto_region 7 with fail
      refine wp_region_planF (by kernel_rfl) (fun u => Below W7.heap.size W7 u) [11, 14] [(0, .pure), (1, .pure), (2, .pure), (3, .pure), (4, .load), (5, .pure), (6, .pure), (7, .pure), (8, .load), (9, .eff), (10, .eff), (11, .last), (12, .pure), (13, .pure), (14, .last)] (by simp only [List.map_cons, List.map_nil, List.getElem?_toArray, List.getElem?_cons_succ, List.getElem?_cons_zero]; rfl) (by kernel_rfl) (fun _ _ d _ _ h => by cases d <;> exact h) ((Below.refl _ _).drew) ?_
      rw [← hW8]
      clear hW8
      repeat (first
        | (refine plan_pure (v := ?_) (by rfl) (fun w1 => ?_) ?_
           rotate_left
           · go_simp <;> with_reducible rfl
           simp only [Act.put, List.setIfInBounds_toArray, List.set_cons_zero, List.set_cons_succ])
        | (refine plan_off (by rfl) ?_
           simp only [Act.put, List.setIfInBounds_toArray, List.set_cons_zero, List.set_cons_succ])
        | (refine plan_load_off (by rfl) ?_
           simp only [Act.put, List.setIfInBounds_toArray, List.set_cons_zero, List.set_cons_succ])
        | (refine plan_load (v := ?_) (by rfl) (fun w1 hw1 => ?_) ?_
           rotate_left
           · (obtain ⟨⟨n0, n3⟩, nl, nf⟩ := HLK.out w1 hw1
              clear hw1
              go_simp <;> with_reducible rfl)
           simp only [Act.put, List.setIfInBounds_toArray, List.set_cons_zero, List.set_cons_succ]))
      refine plan_eff ?_
      go_wp2_with fail
      refine (HAL.out W8 HB8.out).mono ?_
      rintro y v1 ⟨A2, c2, rfl, r2, f2, b2⟩
      have HB9 := Lib.hid (below_at HB8.out b2)
      have hof := of_any v1 A2 c2 (Pr.all ns) r2.rd (by omega)
      have hun := fun (u : World) => union_any u nt (Bs.of (Pr.all ns))
      obtain ⟨t2, ht2⟩ : ∃ z, z = nt ||| Bs.of (Pr.all ns) := ⟨_, rfl⟩
      rw [← ht2] at hun
      obtain ⟨t3, ht3⟩ : ∃ z, z = Bs.of (Pr.all ns) := ⟨_, rfl⟩
      rw [← ht3] at hof hun
      unfold sv8 at hof hun
      have HOF := Lib.hid hof
      have HUN := Lib.hid hun
      have HT2 := Lib.hid (And.intro ht2 ht3)
      clear r2 f2 b2 hof hun ht2 ht3
      go_wp2_with fail
      refine plan_on (fun _ h => h) HB9.out ?_
      refine plan_eff ?_
      go_wp2_with fail
      refine HOF.out.mono ?_
      rintro y v2 ⟨rfl, rfl⟩
      go_wp2_with fail
      refine plan_on (fun _ h => h) HB9.out ?_
      refine plan_last ?_
      go_wp2_with fail
      refine (HUN.out v1).mono ?_
      rintro y v2 ⟨rfl, rfl⟩
      go_wp2_with fail
      obtain ⟨⟨n0, n3⟩, nl, nf⟩ := HLK.out v1 HB9.out
      have nf3 := nf 3
      repeat (first
        | (refine plan_pure (v := ?_) (by rfl) (fun w1 => ?_) ?_
           rotate_left
           · go_simp <;> with_reducible rfl
           simp only [Act.put, List.setIfInBounds_toArray, List.set_cons_zero, List.set_cons_succ])
        | (refine plan_off (by rfl) ?_
           simp only [Act.put, List.setIfInBounds_toArray, List.set_cons_zero, List.set_cons_succ])
        | (refine plan_load_off (by rfl) ?_
           simp only [Act.put, List.setIfInBounds_toArray, List.set_cons_zero, List.set_cons_succ])
        | (refine plan_load (v := ?_) (by rfl) (fun w1 hw1 => ?_) ?_
           rotate_left
           · (skip
              clear hw1
              go_simp <;> with_reducible rfl)
           simp only [Act.put, List.setIfInBounds_toArray, List.set_cons_zero, List.set_cons_succ]))
      refine plan_last ?_
      go_wp2_with fail
      refine plan_end ?_
      obtain ⟨hA9, z9⟩ := HA7.out.below HB9.out
      have hs9 := HS7.out.1.zer z9 HA7.out.c0 HS7.out.2.1 HS7.out.2.2
      have hr9 := HR7.out.zer z9
      obtain ⟨hA10, z10⟩ := hA9.node (q := ⟨qN, qS, qT⟩) (n := ⟨ns, na, nd_, nt⟩) (n' := ⟨ns, na, nd_, t2⟩) HQ.out (by exact HN.out) 3 (.int .u8 (t2.toNat : Int)) rfl (by simp [ndCells, sv8])
      have hs10 := hs9.1.zer z10 hA9.c0 hs9.2.1 hs9.2.2
      have hr10 := hr9.zer z10
      have he : Pr.markAll p1 (rs.take (k + 1)) = (Pr.markAll p1 (rs.take k)).set i ⟨ns, na, nd_, t2⟩ := by rw [HMK.out, Pr.modify_set HN.out]; simp only [Pr.mark1]; rw [HT2.out.1]
      simp only at hA10
      rw [← he] at hA10
      have HA10 := Lib.hid hA10
      have HS10 := Lib.hid hs10
      have HR10 := Lib.hid hr10
      clear hA9 z9 hs9 hr9 hA10 z10 hs10 hr10 he n0 n3 nl nf nf3
      go_wp2_with fail
      go_roundw
      case rel => exact ⟨k + 1, _, by omega, by go_num, Lib.hid ⟨HA10.out, HR10.out, HS10.out⟩⟩
      case measure => simp [intOf]; omega
    · obtain rfl : k = nr := by omega
      have kk4 : ¬ (k : Int) < (k : Int) := by omega
      rw [show rs.take k = rs from List.take_of_length_le (by rw [← HNR.out]; exact Nat.le_refl _)] at HAK
      have hlst := HLAST.out k
      rw [show rs.take k = rs from List.take_of_length_le (by rw [← HNR.out]; exact Nat.le_refl _)] at hlst
      have HLS := Lib.hid hlst
      have HSA := Lib.hid (allN_any V K.C S T s HSK.out.1 HW.out)
      clear hlst HLAST HRK
      -- who may; who is free
      obtain ⟨al, hal⟩ : ∃ z, z = Pr.all s := ⟨_, rfl⟩
      rw [← hal] at HSA
      have hal4 : al.length ≤ 4 := by rw [hal]; exact Pr.all_len HW.out
      obtain ⟨na, hna⟩ : ∃ z, z = al.length := ⟨_, rfl⟩
      rw [← hna] at HSA hal4
      have HNA := Lib.hid (And.intro hal hna)
      clear hal hna
      go_wp2_with fail
      refine HSA.out.mono ?_
      rintro y v1 ⟨A1, ca1, rfl, r1, f1, b1⟩
      have hcl := cloneInt_any v1 A1 na ca1 (al.map valT) r1.rd (by omega)
      have HCL := Lib.hid hcl
      have HB1 := Lib.hid b1
      clear r1 f1 b1 hcl HSA
      go_wp2_with fail
      refine HCL.out.mono ?_
      rintro y v2 ⟨A2, ca2, rfl, r2, f2, b2⟩
      have hdel := deleteHas_any v2 A2 ca2 al a (by rw [← HNA.out.2]; exact r2) (by rw [← HNA.out.2]; omega)
      rw [← HNA.out.2] at hdel
      obtain ⟨fr, hfr⟩ : ∃ z, z = freeOf a al := ⟨_, rfl⟩
      rw [← hfr] at hdel
      obtain ⟨nf, hnf⟩ : ∃ z, z = fr.length := ⟨_, rfl⟩
      rw [← hnf] at hdel
      have hnfn : nf ≤ na := by rw [hnf, hfr, HNA.out.2]; exact List.length_filter_le _ _
      unfold sv8 at hdel
      have HDEL := Lib.hid hdel
      have HF2 := Lib.hid (And.intro f2 b2)
      have HFR := Lib.hid (And.intro hfr hnf)
      clear r2 f2 b2 hdel hfr hnf HCL
      go_wp2_with fail
      refine HDEL.out.mono ?_
      rintro y v3 ⟨rfl, r3, m3⟩
      have hb3 : Below V.heap.size V v3 := below_at HB1.out (HF2.out.2.trans (m3.below v1.heap.size HF2.out.2.size (fun q hq ⟨b, e1, e2⟩ => by have := HF2.out.1 b e1; omega)))
      obtain ⟨hA3, z3⟩ := HAK.out.below hb3
      have HA3 := Lib.hid hA3
      have HR3 := Lib.hid (RowC.fresh (c := ck) (j := 0) r3 (fun a ha => Nat.le_trans HB1.out.size (HF2.out.1 a ha)) : RowC v3 (paint ck V.heap.size 0) 0 3 1 A2 nf ca2 (fr.map valT))
      obtain ⟨c3, hc3⟩ : ∃ z, z = paint ck V.heap.size 0 := ⟨_, rfl⟩
      rw [← hc3] at HA3 HR3
      clear hA3 z3 r3 m3 hb3 hc3 HDEL HF2 HB1 HAK HSK HRI
      have hgoal : Pr.openX K.od x s a = if al = [] then { x with path := Pr.markAll p1 rs, nodes := x.nodes + 1, runs := x.runs + 1, keys := x.keys ++ [Fo.key x.ev] } else if fr = [] then { x with path := Pr.markAll p1 rs, nodes := x.nodes + 1, blk := x.blk + 1 } else { x with path := (Pr.markAll p1 rs).modify x.path.length (Pr.withT (fr.getD (Pr.pickI K.od x.ch fr.length) 0)), nodes := x.nodes + 1, ch := x.ch + 1 } := by
        unfold Pr.openX
        simp only
        rw [← HRS.out, ← HNA.out.1, ← HFR.out.1, ← HND.out, ← HP1.out]
      have HGOAL := Lib.hid hgoal
      clear hgoal
      by_cases hn0 : na = 0
      · have hal0 : al = [] := List.eq_nil_of_length_eq_zero (by rw [← HNA.out.2]; exact hn0)
        have hg := HGOAL.out
        rw [if_pos hal0] at hg
        have HG := Lib.hid hg
        subst hn0
        clear hal0 hg HGOAL
        obtain ⟨⟨x0, x1, x4, x5⟩, ⟨x6, x7, x8⟩, xl, xf⟩ := HA3.out.look
        simp only at x7
        have xf7 := xf 7
        go_upto_region 14 with fail
        try rw [HER.out]
        obtain ⟨W11, hW11⟩ : ∃ z, z = v3.setCell ⟨K.X, 7, none⟩ (.int .i64 ((x.runs : Int) + 1)) := ⟨_, rfl⟩
        rw [← hW11]
        obtain ⟨hA11, z11⟩ := HA3.out.setX 7 (.int .i64 ((x.runs : Int) + 1)) { x with path := Pr.markAll p1 rs, nodes := x.nodes + 1, runs := x.runs + 1 } rfl rfl rfl (by simp [xOf, xCells])
        rw [← hW11] at hA11
        obtain ⟨D, hD⟩ : ∃ z, z = W11.drew := ⟨_, rfl⟩
        have hbD : Below W11.heap.size W11 D := by rw [hD]; exact (Below.refl _ _).drew
        have hlk : ∀ u, Below W11.heap.size W11 u → u.cell? ⟨K.X, 1, none⟩ = some (.slice EA x.ev.length ec) ∧ u.cell? ⟨K.X, 5, none⟩ = some (.slice KA x.keys.length kc) ∧ K.X < u.heap.size := fun u hu => by
          obtain ⟨⟨_, a1, _, a5⟩, _, al_, _⟩ := (hA11.below hu).1.look
          exact ⟨a1, a5, al_⟩
        have hkey := fkey_any D EA ec x.ev ((hA11.ev.1.rd).below hbD (Nat.le_refl _)) (by omega)
        obtain ⟨ky, hky⟩ : ∃ z, z = Fo.key x.ev := ⟨_, rfl⟩
        rw [← hky] at hkey
        have hkcm := hA11.keys.1.2.2.1
        obtain ⟨c11, hc11⟩ : ∃ z, z = paint c3 v3.heap.size 1 := ⟨_, rfl⟩
        rw [← hc11] at hA11
        have HA11 := Lib.hid hA11
        have HBD := Lib.hid hbD
        have HLK := Lib.hid hlk
        have HKEY := Lib.hid hkey
        have HKY := Lib.hid hky
        clear hW11 hA11 z11 hbD hlk hkey hky hc11 x0 x1 x4 x5 x6 x7 x8 xl xf xf7 HA3 HR3
        refine wp_region_planF (by kernel_rfl) (fun u => Below W11.heap.size W11 u) [12, 16] [(0, .pure), (1, .pure), (2, .pure), (3, .pure), (4, .pure), (5, .load), (6, .pure), (7, .pure), (8, .pure), (9, .load), (10, .eff), (11, .eff), (12, .last), (13, .pure), (14, .pure), (15, .pure), (16, .last)] (by simp only [List.map_cons, List.map_nil, List.getElem?_toArray, List.getElem?_cons_succ, List.getElem?_cons_zero]; rfl) (by kernel_rfl) (fun _ _ d _ _ h => by cases d <;> exact h) ((Below.refl _ _).drew) ?_
        rw [← hD]
        clear hD
        repeat (first
          | (refine plan_pure (v := ?_) (by rfl) (fun w1 => ?_) ?_
             rotate_left
             · go_simp <;> with_reducible rfl
             simp only [Act.put, List.setIfInBounds_toArray, List.set_cons_zero, List.set_cons_succ])
          | (refine plan_off (by rfl) ?_
             simp only [Act.put, List.setIfInBounds_toArray, List.set_cons_zero, List.set_cons_succ])
          | (refine plan_load_off (by rfl) ?_
             simp only [Act.put, List.setIfInBounds_toArray, List.set_cons_zero, List.set_cons_succ])
          | (refine plan_load (v := ?_) (by rfl) (fun w1 hw1 => ?_) ?_
             rotate_left
             · (obtain ⟨q1, q5, qX⟩ := HLK.out w1 hw1
                clear hw1
                go_simp <;> with_reducible rfl)
             simp only [Act.put, List.setIfInBounds_toArray, List.set_cons_zero, List.set_cons_succ]))
        refine plan_eff ?_
        go_wp2_with fail
        refine HKEY.out.mono ?_
        rintro y v4 ⟨rfl, b4⟩
        have hb4 := below_at HBD.out b4
        obtain ⟨hA4, z4⟩ := HA11.out.below hb4
        obtain ⟨c4, hc4⟩ : ∃ z, z = paint c11 W11.heap.size 0 := ⟨_, rfl⟩
        rw [← hc4] at hA4
        have hal5 : ∀ o, Below W11.heap.size W11 (v4.alloc o) := fun o => hb4.alloc (Nat.le_trans (Nat.le_refl _) hb4.size) o
        have hA5 : ∀ o, XA K (v4.alloc o) (paint c4 v4.heap.size 0) { x with path := Pr.markAll p1 rs, nodes := x.nodes + 1, runs := x.runs + 1 } (some ⟨g9, o9, none⟩) c9 EA ec KA kc (Q ++ [⟨N, S, T⟩]) := fun o => (hA4.below ((Below.refl _ _).alloc (Nat.le_refl _) o)).1
        have HA5 := Lib.hid hA5
        have HB4 := Lib.hid hb4
        have HL5 := Lib.hid hal5
        clear hb4 hA4 z4 hc4 hal5 hA5 HKEY b4
        go_wp2_with fail
        refine plan_on (fun _ h => h) HB4.out ?_
        refine plan_eff ?_
        go_wp2_with fail
        refine plan_on (fun _ h => h) (HL5.out _) ?_
        refine plan_last ?_
        refine wpList_append_row (by rfl) _ _ _ (by rfl) 9 j0 _ 1 16 Tryz.underlying27 hj0 hjz0 hjz1 hjz2 rfl (by omega) KA x.keys.length kc (x.keys.map sv) (by rfl) (HA5.out _).keys.1 ⟨v4.heap.size, 0, none⟩ 1 1 [.string ⟨ky.toArray⟩] (by rfl) (by rfl) (World.news_of_block (cs := #[.string ⟨ky.toArray⟩]) (t := 9) (fr := (0, 0)) (heap_alloc_new v4 _)) (by simp [Value.oneCell']) (by omega) (by unfold maxLen; omega) (by omega) ?_
        intro g5 o5 ck5 w5 hown hm hat
        obtain ⟨hx9, hf9, hf5⟩ := (HA5.out _).offK hm
        obtain ⟨c6, hA6, _⟩ := (HA5.out _).pushK (k0 := ky) hown hm (fun a' ha' => by injection ha' with ha'; subst ha'; exact hat) (Below.refl _ _)
        have HA6 := Lib.hid hA6
        clear hown hm hat hA6
        go_wp2_with fail
        repeat (first
          | (refine plan_pure (v := ?_) (by rfl) (fun w1 => ?_) ?_
             rotate_left
             · go_simp <;> with_reducible rfl
             simp only [Act.put, List.setIfInBounds_toArray, List.set_cons_zero, List.set_cons_succ])
          | (refine plan_off (by rfl) ?_
             simp only [Act.put, List.setIfInBounds_toArray, List.set_cons_zero, List.set_cons_succ])
          | (refine plan_load_off (by rfl) ?_
             simp only [Act.put, List.setIfInBounds_toArray, List.set_cons_zero, List.set_cons_succ])
          | (refine plan_load (v := ?_) (by rfl) (fun w1 hw1 => ?_) ?_
             rotate_left
             · (skip
                clear hw1
                go_simp <;> with_reducible rfl)
             simp only [Act.put, List.setIfInBounds_toArray, List.set_cons_zero, List.set_cons_succ]))
        refine plan_last ?_
        go_wp2_with fail
        refine plan_end ?_
        go_wp2_with fail
        go_end0
        exact ⟨rfl, by rw [HG.out, ← HKY.out]; exact ⟨_, _, _, _, _, _, _, _, HA6.out⟩⟩
      · have b0 : ((na : Int) == 0) = false := beq_eq_false_iff_ne.2 (by omega)
        have b1 : ¬ (na : Int) = 0 := by omega
        have hal0 : ¬ al = [] := fun e => hn0 (by rw [HNA.out.2, e]; rfl)
        have hg := HGOAL.out
        rw [if_neg hal0] at hg
        by_cases hf0 : nf = 0
        · have hfr0 : fr = [] := List.eq_nil_of_length_eq_zero (by rw [← HFR.out.2]; exact hf0)
          rw [if_pos hfr0] at hg
          have HG := Lib.hid hg
          subst hf0
          clear hfr0 hal0 hg HGOAL
          obtain ⟨⟨x0, x1, x4, x5⟩, ⟨x6, x7, x8⟩, xl, xf⟩ := HA3.out.look
          simp only at x8
          have xf8 := xf 8
          go_wp2_with fail
          go_end0
          try rw [HEB.out]
          obtain ⟨hA5, z5⟩ := HA3.out.setX 8 (.int .i64 ((x.blk : Int) + 1)) { x with path := Pr.markAll p1 rs, nodes := x.nodes + 1, blk := x.blk + 1 } rfl rfl rfl (by simp [xOf, xCells])
          exact ⟨rfl, by rw [HG.out]; exact ⟨_, _, _, _, _, _, _, _, hA5⟩⟩
        · have b2 : ((nf : Int) == 0) = false := beq_eq_false_iff_ne.2 (by omega)
          have b3 : ¬ (nf : Int) = 0 := by omega
          have hfr0 : ¬ fr = [] := fun e => hf0 (by rw [HFR.out.2, e]; rfl)
          rw [if_neg hfr0] at hg
          have HG := Lib.hid hg
          clear hfr0 hal0 hg HGOAL
          obtain ⟨nl, hnl⟩ := HLS.out
          have hQl : Q.length = x.path.length := by
            have := HA3.out.nds.1
            simp only [List.length_append, List.length_cons, List.length_nil, Pr.markAll_len, HPLEN.out] at this
            omega
          have hQN : (Q ++ [⟨N, S, T⟩])[x.path.length]? = some (⟨N, S, T⟩ : NAd) := by rw [List.getElem?_append_right (by omega), hQl]; simp
          have hnat := HA3.out.nds.2.2 _ _ _ hQN (by exact hnl)
          obtain ⟨⟨_, _, _, n3⟩, nlt, _⟩ := hnat.look
          have hXN : N ≠ K.X := fun e => by have h1 := hnat.1.2; have h2 := HA3.out.blk.2; simp only at h1; rw [e, h2] at h1; cases h1
          obtain ⟨ns, nna, nnd, nt⟩ := nl
          simp only at n3 nlt
          obtain ⟨D, hD⟩ : ∃ z, z = v3.drew := ⟨_, rfl⟩
          have hbD : Below v3.heap.size v3 D := by rw [hD]; exact (Below.refl _ _).drew
          obtain ⟨hAD, zD⟩ := HA3.out.below hbD
          have hRD := HR3.out.zer zD
          have hpick := pick_xa hAD HK.out A2 ca2 fr (by rw [← HFR.out.2]; exact hRD.1.rd) (fun a ha e => by rw [hRD.2 a ha] at e; cases e) (by rw [← HFR.out.2]; omega) (by rw [← HFR.out.2]; omega) (by exact Nat.le_trans hxc (by decide))
          rw [← HFR.out.2] at hpick
          simp only at hpick
          have hmc : ∀ u, Mod (fun q => q = K.X) D u → u.cell? ⟨N, 3, none⟩ = some (.int .u8 (nt.toNat : Int)) ∧ N < u.heap.size ∧ u.frozen? ⟨N, 3, none⟩ = false := fun u hu => by
            have hND : N < D.heap.size := Nat.lt_of_lt_of_le nlt hbD.size
            have hb := (hu.block N hND hXN).trans ((hbD.block N nlt).trans hnat.1.1)
            exact ⟨cell_blk hb 3, blk_lt hb, free_blk hb 3⟩
          obtain ⟨cD, hcD⟩ : ∃ z, z = paint c3 v3.heap.size 0 := ⟨_, rfl⟩
          rw [← hcD] at hpick
          have HPI := Lib.hid hpick
          have HMC := Lib.hid hmc
          have HNL := Lib.hid hnl
          have HQN := Lib.hid hQN
          clear n3 nlt hXN hbD hAD zD hRD hpick hmc hnl hQN hcD hnat hQl HA3 HR3 HK HLS
          go_upto_region 11 with fail
          refine wp_region_planF (by kernel_rfl) (fun u => Mod (fun q => q = K.X) D u) [8, 11] [(0, .pure), (1, .pure), (2, .pure), (3, .pure), (4, .load), (5, .pure), (6, .pure), (7, .eff), (8, .last), (9, .pure), (10, .pure), (11, .last)] (by simp only [List.map_cons, List.map_nil, List.getElem?_toArray, List.getElem?_cons_succ, List.getElem?_cons_zero]; rfl) (by kernel_rfl) (fun _ _ d _ _ h => by cases d <;> exact h) (by rw [← hD]; exact Mod.refl _ _) ?_
          rw [← hD]
          clear hD
          repeat (first
            | (refine plan_pure (v := ?_) (by rfl) (fun w1 => ?_) ?_
               rotate_left
               · go_simp <;> with_reducible rfl
               simp only [Act.put, List.setIfInBounds_toArray, List.set_cons_zero, List.set_cons_succ])
            | (refine plan_off (by rfl) ?_
               simp only [Act.put, List.setIfInBounds_toArray, List.set_cons_zero, List.set_cons_succ])
            | (refine plan_load_off (by rfl) ?_
               simp only [Act.put, List.setIfInBounds_toArray, List.set_cons_zero, List.set_cons_succ])
            | (refine plan_load (v := ?_) (by rfl) (fun w1 hw1 => ?_) ?_
               rotate_left
               · (obtain ⟨q0, ql, qf⟩ := HMC.out w1 hw1
                  clear hw1
                  go_simp <;> with_reducible rfl)
               simp only [Act.put, List.setIfInBounds_toArray, List.set_cons_zero, List.set_cons_succ]))
          refine plan_eff ?_
          go_wp2_with fail
          refine HPI.out.mono ?_
          rintro y v4 ⟨u, hu, rfl, hA4, z4, m4⟩
          have hwi := with_any v4 nt u
          obtain ⟨t2, ht2⟩ : ∃ z, z = nt ||| bit u := ⟨_, rfl⟩
          rw [← ht2] at hwi
          unfold sv8 at hwi
          obtain ⟨q0, ql, qf⟩ := HMC.out v4 m4
          have HWI := Lib.hid hwi
          have HA4 := Lib.hid hA4
          have HU := Lib.hid (And.intro hu ht2)
          have HM4 := Lib.hid m4
          clear hu hA4 z4 m4 hwi ht2 HPI
          go_wp2_with fail
          refine plan_on (fun _ h => h) HM4.out ?_
          refine plan_last ?_
          go_wp2_with fail
          refine HWI.out.mono ?_
          rintro y v5 ⟨rfl, rfl⟩
          go_wp2_with fail
          repeat (first
            | (refine plan_pure (v := ?_) (by rfl) (fun w1 => ?_) ?_
               rotate_left
               · go_simp <;> with_reducible rfl
               simp only [Act.put, List.setIfInBounds_toArray, List.set_cons_zero, List.set_cons_succ])
            | (refine plan_off (by rfl) ?_
               simp only [Act.put, List.setIfInBounds_toArray, List.set_cons_zero, List.set_cons_succ])
            | (refine plan_load_off (by rfl) ?_
               simp only [Act.put, List.setIfInBounds_toArray, List.set_cons_zero, List.set_cons_succ])
            | (refine plan_load (v := ?_) (by rfl) (fun w1 hw1 => ?_) ?_
               rotate_left
               · (skip
                  clear hw1
                  go_simp <;> with_reducible rfl)
               simp only [Act.put, List.setIfInBounds_toArray, List.set_cons_zero, List.set_cons_succ]))
          refine plan_last ?_
          go_wp2_with fail
          refine plan_end ?_
          obtain ⟨hA5, _⟩ := HA4.out.node (q := ⟨N, S, T⟩) (n := ⟨ns, nna, nnd, nt⟩) (n' := ⟨ns, nna, nnd, t2⟩) HQN.out (by exact HNL.out) 3 (.int .u8 (t2.toNat : Int)) rfl (by simp [ndCells, sv8])
          have he : (Pr.markAll p1 rs).modify x.path.length (Pr.withT (fr.getD (Pr.pickI K.od x.ch fr.length) 0)) = (Pr.markAll p1 rs).set x.path.length ⟨ns, nna, nnd, t2⟩ := by
            rw [Pr.modify_set HNL.out]
            simp only [Pr.withT]
            rw [← HFR.out.2, List.getD_eq_getElem?_getD, HU.out.1, Option.getD_some, ← HU.out.2]
          simp only at hA5
          rw [← he] at hA5
          have HA5 := Lib.hid hA5
          clear hA5 he q0 ql qf
          go_wp2_with fail
          go_end0
          exact ⟨rfl, by rw [HG.out]; exact ⟨_, _, _, _, _, _, _, _, HA5.out⟩⟩
end Go.Proofs.YtckdofjpoajblaaGreat
namespace Go.Proofs.YtckdofjpoajblaaGreat
open Go.RowKit Bs
set_option linter.unusedVariables false
set_option maxRecDepth 100000 in
set_option maxHeartbeats 8000000 in
theorem into_any {K : XK} {w : World} {c : Nat → Nat} {x : Pr.Sx} {PA EA KA : Option Addr} {pc ec kc : Nat} {Q : List NAd} (h : XA K w c x PA pc EA ec KA kc Q) (hK : KOk K) (hx : Pr.OkX x) (hel : x.ev.length ≤ 39) (hpl : x.path.length = x.ev.length + 1) (q : NAd) (n : Pr.XNd) (hq : Q[x.ev.length]? = some q) (hn : x.path[x.ev.length]? = some n)
    (u : Nat) (hen : Pr.enabled n.s u = true) (had : ∀ t, has (n.a ||| n.d) t = true → t < n.s.th.length) (hrt : Fo.right (Pr.evAt n.s u) = true) :
    Calls Tryz.prog 128 #[.pointer (some ⟨K.X, 0, none⟩), .pointer (some ⟨q.N, 0, none⟩), .int .i64 (u : Int)] w fun y w' => y = .returned (.tuple #[]) ∧ XE K w' (Pr.intoX K.od x n u) := by
  obtain ⟨i0, hi0, hz0, hz1, hz2⟩ := info_parts Tryz.infoEv
  have hnat := h.nds.2.2 _ q n hq hn
  have hwn := hx.pw n (List.mem_of_getElem? hn)
  obtain ⟨e, _, hnx, _, _⟩ := Pr.enabled_next hen
  have heq : Pr.evAt n.s u = e := by unfold Pr.evAt; rw [hnx]; rfl
  have hlt : u < n.s.th.length := Pr.en_lt hen
  obtain ⟨qN, qS, qT⟩ := q
  obtain ⟨ns, na, nd, nt⟩ := n
  simp only at hen had hrt hwn hnx heq hlt hnat
  have hlk : ∀ v, Below w.heap.size w v → (v.cell? ⟨qN, 0, none⟩ = some (.pointer (some ⟨qS, 0, none⟩)) ∧ v.cell? ⟨qN, 1, none⟩ = some (.int .u8 (na.toNat : Int)) ∧ v.cell? ⟨qN, 2, none⟩ = some (.int .u8 (nd.toNat : Int))) ∧ qN < v.heap.size ∧ ∀ j, v.frozen? ⟨qN, j, none⟩ = false := fun v hv => by
    obtain ⟨⟨a0, a1, a2, _⟩, al, af⟩ := (hnat.stay (Chg.below 9 0 hv) (by decide) (by decide) h.c0).look
    exact ⟨⟨a0, a1, a2⟩, al, af⟩
  have hch := fun v (hv : Below w.heap.size w v) => child_any v K.C qS qT ns na nd u (hnat.2.1.below hv) hwn hlt had
  obtain ⟨ch, hchd⟩ : ∃ z, z = Pr.childOf ns na nd u := ⟨_, rfl⟩
  rw [← hchd] at hch
  have hst := fun (v : World) (S T : Nat) (hs : SAt v K.C S T ns) => step_ok v K.C S T ns u e hs hwn hlt hen hnx
  obtain ⟨s2, hs2⟩ : ∃ z, z = Pr.stepS ns u := ⟨_, rfl⟩
  rw [← hs2] at hst
  have hw2 : Pr.Wf s2 := by rw [hs2]; exact (Pr.stepS_wf u hwn).1
  have hin : Pr.intoX K.od x ⟨ns, na, nd, nt⟩ u = Pr.openX K.od { x with path := x.path.set x.ev.length ⟨ns, na, nd ||| bit u, nt⟩, ev := x.ev ++ [e] } s2 ch := by
    unfold Pr.intoX
    rw [hpl, Nat.add_sub_cancel, Pr.modify_set hn, hs2, hchd]
    simp only [Pr.goneD]
    rw [heq]
  have hxl := h.blk.lt
  unfold sv8 at hch
  show Calls Tryz.prog 128 #[.pointer (some ⟨K.X, 0, none⟩), .pointer (some ⟨qN, 0, none⟩), .int .i64 (u : Int)] w _
  have HX := Lib.hid hx
  have HA := Lib.hid h
  have HK := Lib.hid hK
  have HLK := Lib.hid hlk
  have HCH := Lib.hid hch
  have HST := Lib.hid hst
  have HW2 := Lib.hid hw2
  have HIN := Lib.hid hin
  have HWN := Lib.hid hwn
  have HNAT := Lib.hid hnat
  have HPL := Lib.hid hpl
  have HQ := Lib.hid (And.intro hq hn)
  have HRT := Lib.hid (show Fo.right e = true by rw [← heq]; exact hrt)
  obtain ⟨D, hD⟩ : ∃ z, z = w.drew := ⟨_, rfl⟩
  have HBD : Hid (Below w.heap.size w D) := Lib.hid (by rw [hD]; exact (Below.refl _ _).drew)
  clear hx h hK hlk hch hst hw2 hin hwn hnat hpl hq hn hrt heq hnx hen had hlt hs2 hchd hxl
  go_enter Tryz.func128, Tryz.ntmps128
  go_upto_region 0 with fail
  refine wp_region_planF (by kernel_rfl) (fun u => Below w.heap.size w u) [13] [(0, .pure), (1, .pure), (2, .pure), (3, .load), (4, .pure), (5, .pure), (6, .pure), (7, .load), (8, .pure), (9, .pure), (10, .pure), (11, .load), (12, .pure), (13, .last), (14, .pure)] (by simp only [List.map_cons, List.map_nil, List.getElem?_toArray, List.getElem?_cons_succ, List.getElem?_cons_zero]; rfl) (by kernel_rfl) (fun _ _ d _ _ h => by cases d <;> exact h) ((Below.refl _ _).drew) ?_
  rw [← hD]
  clear hD
  repeat (first
    | (refine plan_pure (v := ?_) (by rfl) (fun w1 => ?_) ?_
       rotate_left
       · go_simp <;> with_reducible rfl
       simp only [Act.put, List.setIfInBounds_toArray, List.set_cons_zero, List.set_cons_succ])
    | (refine plan_off (by rfl) ?_
       simp only [Act.put, List.setIfInBounds_toArray, List.set_cons_zero, List.set_cons_succ])
    | (refine plan_load_off (by rfl) ?_
       simp only [Act.put, List.setIfInBounds_toArray, List.set_cons_zero, List.set_cons_succ])
    | (refine plan_load (v := ?_) (by rfl) (fun w1 hw1 => ?_) ?_
       rotate_left
       · (obtain ⟨⟨q0, q1, q2⟩, ql, qf⟩ := HLK.out w1 hw1
          clear hw1
          go_simp <;> with_reducible rfl)
       simp only [Act.put, List.setIfInBounds_toArray, List.set_cons_zero, List.set_cons_succ]))
  refine plan_last ?_
  go_wp2_with fail
  refine (HCH.out D HBD.out).mono ?_
  rintro y w1 ⟨rfl, b1⟩
  have HB1 := Lib.hid (below_at HBD.out b1)
  clear b1 HCH
  go_wp2_with fail
  repeat (first
    | (refine plan_pure (v := ?_) (by rfl) (fun w1 => ?_) ?_
       rotate_left
       · go_simp <;> with_reducible rfl
       simp only [Act.put, List.setIfInBounds_toArray, List.set_cons_zero, List.set_cons_succ])
    | (refine plan_off (by rfl) ?_
       simp only [Act.put, List.setIfInBounds_toArray, List.set_cons_zero, List.set_cons_succ])
    | (refine plan_load_off (by rfl) ?_
       simp only [Act.put, List.setIfInBounds_toArray, List.set_cons_zero, List.set_cons_succ])
    | (refine plan_load (v := ?_) (by rfl) (fun w1 hw1 => ?_) ?_
       rotate_left
       · (skip
          clear hw1
          go_simp <;> with_reducible rfl)
       simp only [Act.put, List.setIfInBounds_toArray, List.set_cons_zero, List.set_cons_succ]))
  refine plan_end ?_
  obtain ⟨hA1, z1⟩ := HA.out.below HB1.out
  have hwi := with_any w1 nd u
  obtain ⟨d2, hd2⟩ : ∃ z, z = nd ||| bit u := ⟨_, rfl⟩
  rw [← hd2] at hwi
  unfold sv8 at hwi
  obtain ⟨⟨q0, q1, q2⟩, ql, qf⟩ := HLK.out w1 HB1.out
  have qf2 := qf 2
  obtain ⟨hA2, z2⟩ := hA1.node (q := ⟨qN, qS, qT⟩) (n := ⟨ns, na, nd, nt⟩) (n' := ⟨ns, na, d2, nt⟩) HQ.out.1 HQ.out.2 2 (.int .u8 (d2.toNat : Int)) rfl (by simp [ndCells, sv8])
  simp only at hA2
  have hs1 := HNAT.out.2.1.zer z1 HA.out.c0 HNAT.out.2.2.1 HNAT.out.2.2.2
  have hs2 := hs1.1.zer z2 hA1.c0 hs1.2.1 hs1.2.2
  have HWI := Lib.hid hwi
  have HA2 := Lib.hid hA2
  have HS2 := Lib.hid hs2
  have HD2 := Lib.hid hd2
  clear hA1 z1 hwi hd2 hA2 z2 hs1 hs2 HB1 HA HNAT
  go_wp2_with fail
  refine HWI.out.mono ?_
  rintro y w2 ⟨rfl, rfl⟩
  go_upto_region 2 with fail
  obtain ⟨W2, hW2⟩ : ∃ z, z = w1.setCell ⟨qN, 2, none⟩ (.int .u8 (d2.toNat : Int)) := ⟨_, rfl⟩
  rw [← hW2] at HA2 HS2 ⊢
  clear hW2 q0 q1 q2 ql qf qf2 HLK
  have hlk2 : W2.cell? ⟨qN, 0, none⟩ = some (.pointer (some ⟨qS, 0, none⟩)) ∧ qN < W2.heap.size := by
    have hl := HQ.out.2
    have hn2 := HA2.out.nds.2.2 x.ev.length ⟨qN, qS, qT⟩ ⟨ns, na, d2, nt⟩ HQ.out.1 (by simp only; rw [List.getElem?_set_self (by obtain ⟨hl, _⟩ := List.getElem?_eq_some_iff.1 HQ.out.2; exact hl)])
    obtain ⟨⟨a0, _⟩, al, _⟩ := hn2.look
    exact ⟨a0, al⟩
  have hcp := copyS_any W2 K.C qS qT ns HS2.out.1 (fun k hk => Nat.lt_of_lt_of_le (HA2.out.cb k hk) HA2.out.fr.1) HWN.out.n4
  obtain ⟨q0, ql⟩ := hlk2
  have HCP := Lib.hid hcp
  clear hcp
  go_wp2_with fail
  refine HCP.out.mono ?_
  rintro y w3 ⟨S', T', rfl, hs3, hS3, hT3, b3⟩
  have hstp := HST.out w3 S' T' hs3
  obtain ⟨et, ek, eo, ef⟩ := e
  simp only [valE] at hstp
  have HSTP := Lib.hid hstp
  have HST3 := Lib.hid (And.intro hS3 (And.intro hT3 b3))
  clear hstp hs3 hS3 hT3 b3 HST HCP q0 ql
  go_wp2_with fail
  refine HSTP.out.mono ?_
  rintro y w4 ⟨rfl, hs4, m4⟩
  obtain ⟨V, Y, hV, hY, hBv, hYl, hYe⟩ := ev_box w4 ⟨et, ek, eo, ef⟩
  simp only at hV
  have hb4 : Below W2.heap.size W2 w4 := HST3.out.2.2.trans (m4.below W2.heap.size HST3.out.2.2.size (fun k hk e => by have h1 := HST3.out.1; have h2 := HST3.out.2.1; omega))
  have hbV := below_at hb4 hBv
  obtain ⟨hAV, zV⟩ := HA2.out.below hbV
  obtain ⟨cV, hcV⟩ : ∃ z, z = paint (paint (paint c w.heap.size 0) w1.heap.size 5) W2.heap.size 0 := ⟨_, rfl⟩
  have HAV : Hid (XA K V cV _ PA pc EA ec KA kc Q) := Lib.hid (by rw [hcV]; exact hAV)
  have HSV : Hid (SAt V K.C S' T' s2 ∧ cV S' = 0 ∧ cV T' = 0) := Lib.hid ⟨hs4.below hBv, by rw [hcV]; exact paint_new HST3.out.1, by rw [hcV]; exact paint_new HST3.out.2.1⟩
  have HYE := Lib.hid hYe
  clear hb4 hbV hAV zV hcV hs4 m4 hBv hYl hYe HSTP HST3 HA2 HS2
  go_upto_region 4 with fail
  rw [← hV, ← hY]
  clear hV hY
  obtain ⟨D4, hD4⟩ : ∃ z, z = V.drew := ⟨_, rfl⟩
  have hb4 : Below V.heap.size V D4 := by rw [hD4]; exact (Below.refl _ _).drew
  have hlk : ∀ u, Below V.heap.size V u → u.cell? ⟨K.X, 1, none⟩ = some (.slice EA x.ev.length ec) ∧ K.X < u.heap.size := fun u hu => by
    obtain ⟨⟨_, a1, _, _⟩, _, al_, _⟩ := (HAV.out.below hu).1.look
    exact ⟨a1, al_⟩
  obtain ⟨hA4, z4⟩ := HAV.out.below hb4
  have hs4 := HSV.out.1.zer z4 HAV.out.c0 HSV.out.2.1 HSV.out.2.2
  have hal5 : ∀ o, Below V.heap.size V (D4.alloc o) := fun o => hb4.alloc (Nat.le_trans (Nat.le_refl _) hb4.size) o
  have hA5 := fun o => (hA4.below ((Below.refl _ D4).alloc (Nat.le_refl _) o))
  have hpush : ∀ (o : Obj) (w5 : World) (g5 o5 ck5 : Nat), Row w5 51 4 (some ⟨g5, o5, none⟩) (x.ev.length + 1) ck5 (x.ev.flatMap encE ++ encE ⟨et, ek, eo, ef⟩) → Mod (fun k => ∃ a, EA = some a ∧ k = a.block) (D4.alloc o) w5 → ((∃ a, EA = some a ∧ g5 = a.block) ∨ (D4.alloc o).heap.size ≤ g5) →
      (K.X < w5.heap.size ∧ w5.frozen? ⟨K.X, 1, none⟩ = false ∧ w5.cell? ⟨K.X, 1, none⟩ = some (.slice EA x.ev.length ec)) ∧ ∃ c', XA K (w5.setCell ⟨K.X, 1, none⟩ (.slice (some ⟨g5, o5, none⟩) (x.ev.length + 1) ck5)) c' { x with path := x.path.set x.ev.length ⟨ns, na, d2, nt⟩, ev := x.ev ++ [⟨et, ek, eo, ef⟩] } PA pc (some ⟨g5, o5, none⟩) ck5 KA kc Q ∧ (SAt (w5.setCell ⟨K.X, 1, none⟩ (.slice (some ⟨g5, o5, none⟩) (x.ev.length + 1) ck5)) K.C S' T' s2 ∧ c' S' = 0 ∧ c' T' = 0) := fun o w5 g5 o5 ck5 hr hm hat => by
    obtain ⟨hA5, z5⟩ := hA5 o
    refine ⟨hA5.offE hm, ?_⟩
    obtain ⟨c', h3, z3⟩ := hA5.pushE (e := ⟨et, ek, eo, ef⟩) hr hm (fun a' ha' => by injection ha' with ha'; subst ha'; exact hat) (Below.refl _ _)
    have h5 := hs4.1.zer z5 hA4.c0 hs4.2.1 hs4.2.2
    exact ⟨c', h3, h5.1.zer z3 hA5.c0 h5.2.1 h5.2.2⟩
  have hecm := HAV.out.ev.1.2.2.1
  have HB4 := Lib.hid hb4
  have HLK := Lib.hid hlk
  have HA5 := Lib.hid hA5
  have HPU := Lib.hid hpush
  have HL5 := Lib.hid hal5
  clear hb4 hlk hA4 z4 hs4 hal5 hA5 hpush
  refine wp_region_planF (by kernel_rfl) (fun u => Below V.heap.size V u) [7, 10] [(0, .pure), (1, .pure), (2, .pure), (3, .pure), (4, .load), (5, .load), (6, .eff), (7, .last), (8, .pure), (9, .pure), (10, .last)] (by simp only [List.map_cons, List.map_nil, List.getElem?_toArray, List.getElem?_cons_succ, List.getElem?_cons_zero]; rfl) (by kernel_rfl) (fun _ _ d _ _ h => by cases d <;> exact h) ((Below.refl _ _).drew) ?_
  rw [← hD4]
  clear hD4
  repeat (first
    | (refine plan_pure (v := ?_) (by rfl) (fun w1 => ?_) ?_
       rotate_left
       · go_simp <;> with_reducible rfl
       simp only [Act.put, List.setIfInBounds_toArray, List.set_cons_zero, List.set_cons_succ])
    | (refine plan_off (by rfl) ?_
       simp only [Act.put, List.setIfInBounds_toArray, List.set_cons_zero, List.set_cons_succ])
    | (refine plan_load_off (by rfl) ?_
       simp only [Act.put, List.setIfInBounds_toArray, List.set_cons_zero, List.set_cons_succ])
    | (refine plan_load (v := ?_) (by rfl) (fun w1 hw1 => ?_) ?_
       rotate_left
       · (obtain ⟨q1, qX⟩ := HLK.out w1 hw1
          obtain ⟨⟨y0, y1, y2, y3⟩, yl⟩ := HYE.out w1 hw1
          simp only [Nat.zero_add] at y1 y2 y3
          clear hw1
          go_simp <;> with_reducible rfl)
       simp only [Act.put, List.setIfInBounds_toArray, List.set_cons_zero, List.set_cons_succ]))
  refine plan_eff ?_
  go_wp2_with fail
  refine plan_on (fun _ h => h) (HL5.out _) ?_
  refine plan_last ?_
  refine wpList_append_row (by rfl) _ _ _ (by rfl) 51 i0 _ 4 32 Tryz.underlying55 hi0 hz0 hz1 hz2 rfl (by omega) EA x.ev.length ec (x.ev.flatMap encE) (by rfl) (HA5.out _).1.ev.1 ⟨D4.heap.size, 0, none⟩ 1 1 [.int .i64 et, .int .i64 ek, .int .i64 eo, .bool ef] (by rfl) (by rfl) (World.news_of_block (cs := #[.int .i64 et, .int .i64 ek, .int .i64 eo, .bool ef]) (t := 51) (fr := (0, 0)) (heap_alloc_new D4 _)) (by simp [Value.oneCell']) (by omega) (by unfold maxLen; omega) (by omega) ?_
  intro g5 o5 ck5 w5 hown hm hat
  obtain ⟨⟨hx9, hf9, hf1⟩, c6, hA6, hs6⟩ := HPU.out _ w5 g5 o5 ck5 hown hm hat
  obtain ⟨W6, hW6⟩ : ∃ z, z = w5.setCell ⟨K.X, 1, none⟩ (.slice (some ⟨g5, o5, none⟩) (x.ev.length + 1) ck5) := ⟨_, rfl⟩
  rw [← hW6] at hA6 hs6
  have HA6 := Lib.hid hA6
  have HS6 := Lib.hid hs6
  clear hown hm hat hA6 hs6 HA5 HPU HL5 HAV HSV HYE HLK
  go_wp2_with fail
  repeat (first
    | (refine plan_pure (v := ?_) (by rfl) (fun w1 => ?_) ?_
       rotate_left
       · go_simp <;> with_reducible rfl
       simp only [Act.put, List.setIfInBounds_toArray, List.set_cons_zero, List.set_cons_succ])
    | (refine plan_off (by rfl) ?_
       simp only [Act.put, List.setIfInBounds_toArray, List.set_cons_zero, List.set_cons_succ])
    | (refine plan_load_off (by rfl) ?_
       simp only [Act.put, List.setIfInBounds_toArray, List.set_cons_zero, List.set_cons_succ])
    | (refine plan_load (v := ?_) (by rfl) (fun w1 hw1 => ?_) ?_
       rotate_left
       · (skip
          clear hw1
          go_simp <;> with_reducible rfl)
       simp only [Act.put, List.setIfInBounds_toArray, List.set_cons_zero, List.set_cons_succ]))
  refine plan_last ?_
  go_wp2_with fail
  refine plan_end ?_
  rw [← hW6]
  clear hW6
  have hx6 : Pr.OkX { x with path := x.path.set x.ev.length ⟨ns, na, d2, nt⟩, ev := x.ev ++ [⟨et, ek, eo, ef⟩] } := by
    obtain ⟨a1, a2, a3, a4, a5, a6, a7, a8⟩ := HX.out
    refine ⟨fun m hm => ?_, by simp only [List.length_append, List.length_cons, List.length_nil]; omega, ?_, a4, a5, a6, a7, a8⟩
    · rcases List.mem_or_eq_of_mem_set hm with hm | rfl
      · exact a1 m hm
      · exact HWN.out
    · simp only [Fo.rights, List.all_append, List.all_cons, List.all_nil, Bool.and_true, Bool.and_eq_true] at a3 ⊢
      exact ⟨a3, HRT.out⟩
  have hop := open_any HA6.out HK.out S' T' s2 ch HS6.out.1 HS6.out.2.1 HS6.out.2.2 HW2.out hx6 (by simp only [List.length_set, List.length_append, List.length_cons, List.length_nil]; exact HPL.out)
  rw [HD2.out, ← HIN.out] at hop
  unfold sv8 at hop
  have HOP := Lib.hid hop
  clear hop hx6
  go_wp2_with fail
  refine HOP.out.mono ?_
  rintro y w7 ⟨rfl, hE⟩
  have HE := Lib.hid hE
  clear hE
  go_wp2_with fail
  go_end0
  exact ⟨rfl, HE.out⟩
end Go.Proofs.YtckdofjpoajblaaGreat
