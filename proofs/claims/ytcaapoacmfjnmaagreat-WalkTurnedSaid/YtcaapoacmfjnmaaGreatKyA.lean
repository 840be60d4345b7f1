/- Keys as texts: their order, gathering, sorted and compacted. No program in sight. -/
import Derived.Lib.SlicesCompact
import Derived.Sort.Walk0
import Derived.Test.YtcaapoacmfjnmaaGreatFoTh
namespace Go.Proofs.YtcaapoacmfjnmaaGreat
set_option linter.unusedVariables false
namespace Ky
abbrev K := List UInt8
abbrev lt (a b : K) : Bool := Op.bytesLess a b
theorem lt_irr : ∀ l : K, lt l l = false
  | [] => rfl
  | a :: l => by have := lt_irr l; simp only [lt] at this; simp [lt, Op.bytesLess, this]
theorem lt_tr : ∀ {a b c : K}, lt a b = true → lt b c = true → lt a c = true
  | [], [], _, h, _ => by simp [lt, Op.bytesLess] at h
  | [], _ :: _, [], _, h => by simp [lt, Op.bytesLess] at h
  | [], _ :: _, _ :: _, _, _ => rfl
  | _ :: _, [], _, h, _ => by simp [lt, Op.bytesLess] at h
  | _ :: _, _ :: _, [], _, h => by simp [lt, Op.bytesLess] at h
  | a :: x, b :: y, c :: z, h1, h2 => by
    simp only [lt, Op.bytesLess, Bool.or_eq_true, Bool.and_eq_true, decide_eq_true_eq, beq_iff_eq] at h1 h2 ⊢
    rcases h1 with h1 | ⟨h1, h1'⟩
    · rcases h2 with h2 | ⟨h2, h2'⟩
      · exact .inl (UInt8.lt_trans h1 h2)
      · subst h2; exact .inl h1
    · subst h1
      rcases h2 with h2 | ⟨h2, h2'⟩
      · exact .inl h2
      · exact .inr ⟨h2, lt_tr (a := x) (b := y) (c := z) h1' h2'⟩
theorem lt_tri : ∀ {a b : K}, lt a b = false → lt b a = false → a = b
  | [], [], _, _ => rfl
  | [], _ :: _, h, _ => by simp [lt, Op.bytesLess] at h
  | _ :: _, [], _, h => by simp [lt, Op.bytesLess] at h
  | a :: x, b :: y, h1, h2 => by
    simp only [lt, Op.bytesLess, Bool.or_eq_false_iff, decide_eq_false_iff_not, Bool.and_eq_false_iff, beq_eq_false_iff_ne] at h1 h2
    have hab : a = b := by
      have := UInt8.not_lt.1 h1.1
      have := UInt8.not_lt.1 h2.1
      exact UInt8.le_antisymm ‹_› ‹_›
    subst hab
    rw [lt_tri (a := x) (b := y) (by rcases h1.2 with h | h; exact absurd rfl h; exact h) (by rcases h2.2 with h | h; exact absurd rfl h; exact h)]
theorem lt_asym {a b : K} (h : lt a b = true) : lt b a = false := by
  cases h2 : lt b a with
  | false => rfl
  | true => have := lt_tr h h2; rw [lt_irr] at this; cases this
theorem le_eq (x y : K) : decide (x ≤ y) = !lt y x := by
  rw [lt, bytesLess_eq]
  by_cases h : y < x
  · rw [decide_eq_true h, decide_eq_false (fun e => e h)]; rfl
  · rw [decide_eq_false h, decide_eq_true (show x ≤ y from h)]; rfl

def Strict (l : List K) : Prop := l.Pairwise (fun a b => lt a b = true)
def ins (s : K) : List K → List K
  | [] => [s]
  | x :: xs => if lt s x = true then s :: x :: xs else x :: ins s xs
def insG (l : List K) (s : K) : List K := if s ∈ l then l else ins s l
def gather (l : List K) : List K := l.foldl insG []
theorem ins_mem (s : K) : ∀ l x, x ∈ ins s l ↔ x = s ∨ x ∈ l
  | [], x => by simp [ins]
  | y :: l, x => by
    simp only [ins]
    split
    · simp
    · simp only [List.mem_cons, ins_mem s l x]
      constructor
      · rintro (h | h | h); exact .inr (.inl h); exact .inl h; exact .inr (.inr h)
      · rintro (h | h | h); exact .inr (.inl h); exact .inl h; exact .inr (.inr h)
theorem ins_strict {s : K} : ∀ {l : List K}, s ∉ l → Strict l → Strict (ins s l)
  | [], _, _ => List.pairwise_cons.2 ⟨fun _ h => (by cases h), List.Pairwise.nil⟩
  | y :: l, hn, h => by
    obtain ⟨h1, h2⟩ := List.pairwise_cons.1 h
    simp only [ins]
    split
    · rename_i hs
      exact List.pairwise_cons.2 ⟨fun x hx => by rcases List.mem_cons.1 hx with rfl | hx; exact hs; exact lt_tr hs (h1 x hx), h⟩
    · rename_i hs
      have hys : lt y s = true := by
        cases hq : lt y s with
        | true => rfl
        | false => exact absurd (lt_tri (by simpa using hs) hq) (fun e => hn (e ▸ List.mem_cons_self))
      exact List.pairwise_cons.2 ⟨fun x hx => by rcases (ins_mem s l x).1 hx with rfl | hx; exact hys; exact h1 x hx, ins_strict (fun hm => hn (List.mem_cons_of_mem _ hm)) h2⟩
theorem insG_mem (l : List K) (s x : K) : x ∈ insG l s ↔ x = s ∨ x ∈ l := by
  unfold insG
  split
  · rename_i h
    exact ⟨.inr, fun e => by rcases e with rfl | e; exact h; exact e⟩
  · exact ins_mem s l x
theorem insG_strict {l : List K} (h : Strict l) (s : K) : Strict (insG l s) := by
  unfold insG
  split
  · exact h
  · rename_i hn; exact ins_strict hn h
theorem ins_len (s : K) : ∀ l, (ins s l).length = l.length + 1
  | [] => rfl
  | y :: l => by simp only [ins]; split <;> simp [ins_len s l]
theorem insG_len (l : List K) (s : K) : (insG l s).length = if s ∈ l then l.length else l.length + 1 := by
  unfold insG
  split
  · rfl
  · exact ins_len s l
theorem foldG_mem : ∀ (l acc : List K) (x : K), x ∈ l.foldl insG acc ↔ x ∈ acc ∨ x ∈ l
  | [], acc, x => by simp
  | y :: l, acc, x => by
    rw [List.foldl_cons, foldG_mem l, insG_mem, List.mem_cons]
    constructor
    · rintro ((h | h) | h); exact .inr (.inl h); exact .inl h; exact .inr (.inr h)
    · rintro (h | h | h); exact .inl (.inr h); exact .inl (.inl h); exact .inr h
theorem foldG_strict : ∀ (l acc : List K), Strict acc → Strict (l.foldl insG acc)
  | [], _, h => h
  | y :: l, acc, h => foldG_strict l _ (insG_strict h y)
theorem gather_mem (l : List K) (x : K) : x ∈ gather l ↔ x ∈ l := by unfold gather; rw [foldG_mem]; simp
theorem gather_strict (l : List K) : Strict (gather l) := foldG_strict l [] List.Pairwise.nil
theorem strict_ext : ∀ {l r : List K}, Strict l → Strict r → (∀ x, x ∈ l ↔ x ∈ r) → l = r
  | [], [], _, _, _ => rfl
  | [], y :: r, _, _, h => by have := (h y).2 List.mem_cons_self; cases this
  | x :: l, [], _, _, h => by have := (h x).1 List.mem_cons_self; cases this
  | x :: l, y :: r, hl, hr, h => by
    obtain ⟨l1, l2⟩ := List.pairwise_cons.1 hl
    obtain ⟨r1, r2⟩ := List.pairwise_cons.1 hr
    have hxy : x = y := by
      rcases List.mem_cons.1 ((h x).1 List.mem_cons_self) with e | e
      · exact e
      · rcases List.mem_cons.1 ((h y).2 List.mem_cons_self) with e' | e'
        · exact e'.symm
        · have := lt_tr (r1 x e) (l1 y e'); rw [lt_irr] at this; cases this
    subst hxy
    have nl : x ∉ l := fun e => by have := l1 x e; rw [lt_irr] at this; cases this
    have nr : x ∉ r := fun e => by have := r1 x e; rw [lt_irr] at this; cases this
    rw [strict_ext l2 r2 fun z => ⟨fun hz => ((List.mem_cons.1 ((h z).1 (List.mem_cons_of_mem _ hz))).resolve_left fun e => nl (e ▸ hz)), fun hz => ((List.mem_cons.1 ((h z).2 (List.mem_cons_of_mem _ hz))).resolve_left fun e => nr (e ▸ hz))⟩]
theorem gather_ext {l r : List K} (h : ∀ x, x ∈ l ↔ x ∈ r) : gather l = gather r := strict_ext (gather_strict l) (gather_strict r) (fun x => by rw [gather_mem, gather_mem, h])
theorem gather_again {l : List K} (h : Strict l) : gather l = l := strict_ext (gather_strict l) h (fun x => gather_mem l x)

/-! sorted, then each once -/
theorem compact_up (zs : List K) (hs : zs.Pairwise (fun a b => lt b a = false)) : ∀ m, m ≤ zs.length → Strict (Lib.compactUpTo zs.toArray m) ∧ (∀ x, x ∈ Lib.compactUpTo zs.toArray m ↔ x ∈ zs.take m) ∧ ∀ x ∈ Lib.compactUpTo zs.toArray m, ∀ y, 0 < m → zs[m - 1]? = some y → x = y ∨ lt x y = true
  | 0, _ => ⟨List.Pairwise.nil, fun x => by simp [Lib.compactUpTo], fun x hx => by simp [Lib.compactUpTo] at hx⟩
  | m + 1, hm => by
    obtain ⟨h1, h2, h3⟩ := compact_up zs hs m (by omega)
    have hg : zs.toArray[m]! = zs[m] := by rw [getElem!_pos _ m (by simp; omega)]; simp
    have hle : ∀ j, (hj : j < m) → lt zs[m] (zs[j]'(by omega)) = false := fun j hj => List.pairwise_iff_getElem.1 hs j m (by omega) (by omega) hj
    rw [Lib.compactUpTo_succ, hg]
    have hlast : ∀ y, 0 < m + 1 → zs[m + 1 - 1]? = some y → y = zs[m] := fun y _ h => by rw [Nat.add_sub_cancel, List.getElem?_eq_getElem (by omega)] at h; exact (Option.some.inj h).symm
    by_cases hk : Lib.keeps zs.toArray m = true
    · rw [if_pos hk]
      have hne : ∀ x ∈ Lib.compactUpTo zs.toArray m, lt x zs[m] = true := fun x hx => by
        rcases Nat.eq_zero_or_pos m with h0 | h0
        · subst h0; simp [Lib.compactUpTo] at hx
        · have hk' : zs[m] ≠ zs[m - 1]'(by omega) := by
            have e1 : zs.toArray[m - 1]! = zs[m - 1]'(by omega) := by rw [getElem!_pos _ (m - 1) (by simp; omega)]; simp
            unfold Lib.keeps at hk
            rw [hg, e1] at hk
            simpa [show m ≠ 0 by omega] using hk
          have hl : lt (zs[m - 1]'(by omega)) zs[m] = true := by
            cases hq : lt (zs[m - 1]'(by omega)) zs[m] with
            | true => rfl
            | false => exact absurd (lt_tri (hle (m - 1) (by omega)) hq) hk'
          rcases h3 x hx _ h0 (List.getElem?_eq_getElem (by omega)) with e | e
          · rw [e]; exact hl
          · exact lt_tr e hl
      refine ⟨?_, fun x => ?_, fun x hx y h0 hy => ?_⟩
      · exact List.pairwise_append.2 ⟨h1, List.pairwise_singleton _ _, fun a ha b hb => by rw [List.mem_singleton] at hb; rw [hb]; exact hne a ha⟩
      · rw [List.mem_append, h2, List.mem_singleton, List.take_add_one, List.getElem?_eq_getElem (by omega), List.mem_append]; simp
      · rw [hlast y h0 hy]
        rcases List.mem_append.1 hx with hx | hx
        · exact .inr (hne x hx)
        · exact .inl (List.mem_singleton.1 hx)
    · rw [if_neg hk, List.append_nil]
      have hk' : 0 < m ∧ ∀ h : 0 < m, zs[m] = zs[m - 1]'(by omega) := by
        unfold Lib.keeps at hk
        rcases Nat.eq_zero_or_pos m with h0 | h0
        · subst h0; simp at hk
        · have e1 : zs.toArray[m - 1]! = zs[m - 1]'(by omega) := by rw [getElem!_pos _ (m - 1) (by simp; omega)]; simp
          rw [hg, e1] at hk
          exact ⟨h0, fun _ => by simpa [show m ≠ 0 by omega] using hk⟩
      have he := hk'.2 hk'.1
      refine ⟨h1, fun x => ?_, fun x hx y h0 hy => ?_⟩
      · rw [h2, List.take_add_one, List.getElem?_eq_getElem (by omega), List.mem_append]
        constructor
        · exact .inl
        · rintro (h | h)
          · exact h
          · have : x = zs[m] := by simpa using h
            rw [this, he]
            exact List.mem_iff_getElem.2 ⟨m - 1, by rw [List.length_take]; omega, by rw [List.getElem_take]⟩
      · rw [hlast y h0 hy, he]
        exact h3 x hx _ hk'.1 (List.getElem?_eq_getElem (by omega))
theorem sort_compact (l : List K) : Lib.compact (l.mergeSort fun x y => decide (x ≤ y)) = gather l := by
  have hs : (l.mergeSort fun x y => decide (x ≤ y)).Pairwise (fun a b => lt b a = false) := by
    have := List.pairwise_mergeSort (le := fun x y : K => decide (x ≤ y)) (fun a b c h1 h2 => by
      rw [le_eq] at *
      simp only [Bool.not_eq_true'] at *
      cases hq : lt c a with
      | false => rfl
      | true =>
        cases h : lt a b with
        | true => have := lt_tr hq h; rw [h2] at this; cases this
        | false => have e := lt_tri h h1; subst e; rw [hq] at h2; cases h2) (fun a b => by
      rw [le_eq, le_eq]
      cases hq : lt b a with
      | false => rfl
      | true => rw [lt_asym hq]; rfl) l
    exact this.imp fun {a b} h => by rw [le_eq] at h; simpa using h
  obtain ⟨h1, h2, _⟩ := compact_up _ hs _ (Nat.le_refl _)
  refine strict_ext (l := Lib.compact _) h1 (gather_strict l) fun x => ?_
  rw [gather_mem]
  have := h2 x
  rw [List.take_length, (List.mergeSort_perm l _).mem_iff] at this
  exact this
end Ky
end Go.Proofs.YtcaapoacmfjnmaaGreat
/- Reports as texts: what is written and read. No program in sight. -/
namespace Go.Proofs.YtcaapoacmfjnmaaGreat
set_option linter.unusedVariables false
namespace Ky
def okAt (ks : List K) (i : Nat) : Bool := (Fo.readL (ks.getD i [])).isSome && (decide (i = 0) || lt (ks.getD (i - 1) []) (ks.getD i []))
def okUp (ks : List K) (i : Nat) : Bool := (List.range i).all (okAt ks)
def rightK (ks : List K) : Bool := okUp ks ks.length && decide (ks.length ≤ 65535)
theorem okUp_succ (ks : List K) (i : Nat) : okUp ks (i + 1) = (okUp ks i && okAt ks i) := by unfold okUp; rw [List.range_succ, List.all_append]; simp
theorem okUp_false {ks : List K} {i : Nat} (hi : i < ks.length) (h : okAt ks i = false) : rightK ks = false := by
  unfold rightK okUp
  rw [Bool.and_eq_false_iff]
  exact .inl (List.all_eq_false.2 ⟨i, List.mem_range.2 hi, by rw [h]; decide⟩)
def b8 (n : Nat) : UInt8 := UInt8.ofNat n
def two (n : Nat) : List UInt8 := [b8 (n / 256), b8 (n % 256)]
def num (s : List UInt8) : Nat := (s.getD 0 0).toNat * 256 + (s.getD 1 0).toNat
theorem num_two {n : Nat} (h : n ≤ 65535) (r : List UInt8) : num (two n ++ r) = n := by
  have h1 : (b8 (n / 256)).toNat = n / 256 := by unfold b8; rw [UInt8.toNat_ofNat']; omega
  have h2 : (b8 (n % 256)).toNat = n % 256 := by unfold b8; rw [UInt8.toNat_ofNat']; omega
  simp only [two, num, List.cons_append, List.getD_cons_zero, List.getD_cons_succ, List.nil_append, h1, h2]
  omega
theorem two_num {a b : UInt8} (r : List UInt8) : two (num (a :: b :: r)) = [a, b] := by
  have ha := a.toNat_lt
  have hb := b.toNat_lt
  simp only [two, num, List.getD_cons_zero, List.getD_cons_succ, b8]
  have e1 : (a.toNat * 256 + b.toNat) / 256 = a.toNat := by omega
  have e2 : (a.toNat * 256 + b.toNat) % 256 = b.toNat := by omega
  rw [e1, e2]
  simp
theorem num_le (s : List UInt8) : num s ≤ 65535 := by
  have h1 := (s.getD 0 0).toNat_lt
  have h2 := (s.getD 1 0).toNat_lt
  unfold num
  omega
def body (ks : List K) : List UInt8 := ks.flatMap fun k => two k.length ++ k
def enc15 (ks : List K) (c : Bool) : List UInt8 := (if c = true then 1 else 0) :: (two ks.length ++ body ks)
def printK (ks : List K) (c : Bool) : List UInt8 := if rightK ks = true then enc15 ks c else []
def parseR : Nat → List UInt8 → Option (List K × List UInt8)
  | 0, r => some ([], r)
  | n + 1, r => if r.length < 2 then none else if r.length - 2 < num r then none else (parseR n (r.drop (2 + num r))).map fun p => ((r.drop 2).take (num r) :: p.1, p.2)
def readK (s : List UInt8) : List K × Bool × Nat :=
  if s.length < 3 then ([], false, 4) else
  match parseR (num (s.drop 1)) (s.drop 3) with
  | none => ([], false, 4)
  | some p => if (s.getD 0 0).toNat > 1 ∨ p.2 ≠ [] ∨ rightK p.1 = false then ([], false, 3) else (p.1, decide (s.getD 0 0 = 1), 0)
theorem two_cons {s : List UInt8} (h : ¬ s.length < 2) : ∃ a b t, s = a :: b :: t := by
  cases s with
  | nil => simp at h
  | cons a s => cases s with
    | nil => simp at h
    | cons b t => exact ⟨a, b, t, rfl⟩
theorem three_cons {s : List UInt8} (h : ¬ s.length < 3) : ∃ x a b t, s = x :: a :: b :: t := by
  cases s with
  | nil => simp at h
  | cons x s =>
    obtain ⟨a, b, t, rfl⟩ := two_cons (s := s) (by simp at h ⊢; omega)
    exact ⟨x, a, b, t, rfl⟩
theorem parse_body : ∀ (ks : List K) (r : List UInt8), (∀ k ∈ ks, k.length ≤ 65535) → parseR ks.length (body ks ++ r) = some (ks, r)
  | [], r, _ => rfl
  | k :: ks, r, h => by
    have hk := h k List.mem_cons_self
    have ih := parse_body ks r fun x hx => h x (List.mem_cons_of_mem _ hx)
    have hb : body (k :: ks) ++ r = two k.length ++ (k ++ (body ks ++ r)) := by unfold body; rw [List.flatMap_cons]; simp
    have hn : num (two k.length ++ (k ++ (body ks ++ r))) = k.length := num_two hk _
    rw [hb, List.length_cons, parseR, hn, if_neg (by simp [two]), if_neg (by simp [two])]
    have h1 : (two k.length ++ (k ++ (body ks ++ r))).drop (2 + k.length) = body ks ++ r := by
      rw [← List.drop_drop, show (two k.length ++ (k ++ (body ks ++ r))).drop 2 = k ++ (body ks ++ r) from rfl, List.drop_left]
    have h2 : (two k.length ++ (k ++ (body ks ++ r))).drop 2 = k ++ (body ks ++ r) := rfl
    rw [h1, ih, h2, List.take_left]
    rfl
theorem body_parse : ∀ (n : Nat) (s : List UInt8) (ks : List K) (r : List UInt8), parseR n s = some (ks, r) → s = body ks ++ r ∧ ks.length = n
  | 0, s, ks, r, h => by
    simp only [parseR, Option.some.injEq, Prod.mk.injEq] at h
    obtain ⟨rfl, rfl⟩ := h
    exact ⟨rfl, rfl⟩
  | n + 1, s, ks, r, h => by
    simp only [parseR] at h
    split at h
    · cases h
    · rename_i h2
      split at h
      · cases h
      · rename_i h3
        obtain ⟨p, hp, he⟩ := Option.map_eq_some_iff.1 h
        obtain ⟨q, r'⟩ := p
        simp only [Prod.mk.injEq] at he
        obtain ⟨rfl, rfl⟩ := he
        obtain ⟨h4, h5⟩ := body_parse n _ _ _ hp
        refine ⟨?_, by rw [List.length_cons, h5]⟩
        obtain ⟨a, b, t, rfl⟩ := two_cons h2
        have ht : ((a :: b :: t).drop 2).take (num (a :: b :: t)) = t.take (num (a :: b :: t)) := rfl
        have hl : (t.take (num (a :: b :: t))).length = num (a :: b :: t) := by
          rw [List.length_take]
          simp only [List.length_cons] at h3
          omega
        have hd : (a :: b :: t).drop (2 + num (a :: b :: t)) = t.drop (num (a :: b :: t)) := by rw [← List.drop_drop]; rfl
        rw [hd] at h4
        unfold body
        rw [List.flatMap_cons, ht, hl, two_num]
        show a :: b :: t = ([a, b] ++ t.take _ ++ body q) ++ r'
        rw [List.append_assoc, ← h4, List.append_assoc, List.take_append_drop]
        rfl
theorem read_print {ks : List K} {c : Bool} (hr : rightK ks = true) (hk : ∀ k ∈ ks, k.length ≤ 65535) : readK (printK ks c) = (ks, c, 0) := by
  have hl : ks.length ≤ 65535 := by unfold rightK at hr; simp at hr; exact hr.2
  unfold printK
  rw [if_pos hr]
  unfold readK enc15
  have h1 : num ((((if c = true then 1 else 0) :: (two ks.length ++ body ks) : List UInt8)).drop 1) = ks.length := num_two hl _
  have h2 : (((if c = true then 1 else 0) :: (two ks.length ++ body ks) : List UInt8)).drop 3 = body ks ++ [] := by rw [List.append_nil]; rfl
  rw [if_neg (by simp [two]), h1, h2, parse_body ks [] hk]
  cases c <;> simp [hr]
theorem print_read {s : List UInt8} {ks : List K} {c : Bool} (h : readK s = (ks, c, 0)) : printK ks c = s ∧ rightK ks = true := by
  unfold readK at h
  split at h
  · cases h
  · rename_i h3
    split at h
    · cases h
    · rename_i p hp
      split at h
      · cases h
      · rename_i hno
        obtain ⟨q, r⟩ := p
        simp only [Prod.mk.injEq, and_true] at h
        obtain ⟨rfl, rfl⟩ := h
        simp only [not_or, Bool.not_eq_false, ne_eq, Decidable.not_not, gt_iff_lt, Nat.not_lt] at hno
        obtain ⟨h5, rfl, h6⟩ := hno
        obtain ⟨h7, h8⟩ := body_parse _ _ _ _ hp
        refine ⟨?_, h6⟩
        unfold printK
        rw [if_pos h6]
        obtain ⟨x, a, b, t, rfl⟩ := three_cons h3
        unfold enc15
        simp only [List.drop_succ_cons, List.drop_zero, List.append_nil] at h7 h8
        rw [h8, two_num, ← h7]
        simp only [List.getD_cons_zero] at h5 ⊢
        have hx : x = 0 ∨ x = 1 := by
          rcases (show x.toNat = 0 ∨ x.toNat = 1 by omega) with h | h
          · exact .inl (UInt8.toNat_inj.1 h)
          · exact .inr (UInt8.toNat_inj.1 h)
        rcases hx with rfl | rfl <;> rfl
/-- reports with other keys have other bytes -/
theorem print_inj {k l : List K} (hk : rightK k = true) (hl : rightK l = true) (hk' : ∀ x ∈ k, x.length ≤ 65535) (hl' : ∀ x ∈ l, x.length ≤ 65535) (h : printK k true = printK l true) : k = l := by
  have h1 := read_print (c := true) hk hk'
  rw [h, read_print hl hl'] at h1
  exact (congrArg Prod.fst h1).symm
theorem print_ne {ks : List K} {c : Bool} : printK ks c = [] ↔ rightK ks = false := by
  unfold printK
  cases h : rightK ks with
  | true => simp [enc15]
  | false => simp
end Ky
end Go.Proofs.YtcaapoacmfjnmaaGreat
