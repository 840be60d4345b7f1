/- Rows in which all events know the same have the same levels. Plain theory, no program in sight. -/
import Derived.Test.YtgahjibjladafaaFoC
namespace Go.Proofs.Ytgahjibjladafaa
namespace Fo
set_option linter.unusedVariables false

/-- events, their clocks, their levels -/
def zl (l : List Ev) : List (Ent × Nat) := (cl l).zip (ats l)
theorem zl_snoc (l : List Ev) (e : Ev) : zl (l ++ [e]) = zl l ++ [(⟨e, clk (cl l) e⟩, high l (ats l) e)] := by
  unfold zl
  rw [cl_snoc, ats_snoc, List.zip_append (by rw [cl_len, ats_len])]
  rfl
theorem zl_cl (l : List Ev) : (zl l).map Prod.fst = cl l := by unfold zl; rw [List.map_fst_zip]; rw [cl_len, ats_len]; exact Nat.le_refl _
theorem zl_mem {l : List Ev} {p : Ent} {n : Nat} (h : (p, n) ∈ zl l) : p ∈ cl l := by rw [← zl_cl]; exact List.mem_map.2 ⟨_, h, rfl⟩
theorem zl_ex {l : List Ev} {p : Ent} (h : p ∈ cl l) : ∃ n, (p, n) ∈ zl l := by
  rw [← zl_cl] at h
  obtain ⟨⟨q, n⟩, hq, rfl⟩ := List.mem_map.1 h
  exact ⟨n, hq⟩
theorem zl_ev (l : List Ev) : l.zip (ats l) = (zl l).map fun p => (p.1.e, p.2) := by
  unfold zl
  conv => lhs; rw [← cl_ev l, cl_ev l]
  have : ∀ (S : List Ent) (A : List Nat), (S.map Ent.e).zip A = (S.zip A).map fun p => (p.1.e, p.2) := by
    intro S
    induction S with
    | nil => intro A; rfl
    | cons p S ih => intro A; cases A with
      | nil => rfl
      | cons n A => simp [ih]
  rw [← this, cl_ev]
theorem high_sup (l : List Ev) (e : Ev) : high l (ats l) e = sup (zl l) (fun p => dep p.1.e e) (fun p => p.2 + 1) := by
  unfold high
  rw [zl_ev, List.foldl_map]
  rfl
/-- a point stands once -/
theorem pairwise_eq {α : Type} {R : α → α → Prop} {l : List α} (h : l.Pairwise R) (hs : ∀ a b, R a b → R b a) {a b : α} (ha : a ∈ l) (hb : b ∈ l) (hn : ¬ R a b) : a = b := by
  induction l with
  | nil => cases ha
  | cons x l ih =>
    obtain ⟨h1, h2⟩ := List.pairwise_cons.1 h
    rcases List.mem_cons.1 ha with ha' | ha' <;> rcases List.mem_cons.1 hb with hb' | hb'
    · rw [ha', hb']
    · subst ha'; exact (hn (h1 b hb')).elim
    · subst hb'; exact (hn (hs _ _ (h1 a ha'))).elim
    · exact ih h2 ha' hb'
def Pt (p q : Ent) : Prop := p.e.t = q.e.t ∧ p.num = q.num
theorem cl_one {l : List Ev} (hr : ∀ e ∈ l, 0 ≤ e.t) {p q : Ent} (hp : p ∈ cl l) (hq : q ∈ cl l) (h : Pt p q) : p = q :=
  pairwise_eq (clkOk l hr).one (fun a b hab h => hab ⟨h.1.symm, h.2.symm⟩) hp hq (fun hn => hn h)
theorem zl_one {l : List Ev} (hr : ∀ e ∈ l, 0 ≤ e.t) {p q : Ent × Nat} (hp : p ∈ zl l) (hq : q ∈ zl l) (h : Pt p.1 q.1) : p = q := by
  have h1 := (clkOk l hr).one
  rw [← zl_cl, List.pairwise_map] at h1
  exact pairwise_eq h1 (fun a b hab h => hab ⟨h.1.symm, h.2.symm⟩) hp hq (fun hn => hn h)
theorem cl_t {l : List Ev} (hr : ∀ e ∈ l, 0 ≤ e.t) {p : Ent} (hp : p ∈ cl l) : 0 ≤ p.e.t := by
  have : p.e ∈ (cl l).map Ent.e := List.mem_map.2 ⟨p, hp, rfl⟩
  rw [cl_ev] at this
  exact hr _ this
/-- known, and not itself: it stands lower -/
theorem zl_low (l : List Ev) (hr : ∀ e ∈ l, 0 ≤ e.t) : ∀ p ∈ zl l, ∀ q ∈ zl l, p.1.num ≤ q.1.c p.1.e.t.toNat → ¬ Pt p.1 q.1 → p.2 < q.2 := by
  revert hr
  refine snoc_ind (p := fun l => (∀ e ∈ l, 0 ≤ e.t) → ∀ p ∈ zl l, ∀ q ∈ zl l, p.1.num ≤ q.1.c p.1.e.t.toNat → ¬ Pt p.1 q.1 → p.2 < q.2) (fun _ p hp => (by cases hp)) (fun l e ih hr p hp q hq hpq hne => ?_) l
  have hr' : ∀ x ∈ l, 0 ≤ x.t := fun x hx => hr x (by simp [hx])
  have ok := clkOk l hr'
  have ok2 := clkOk (l ++ [e]) hr
  have ih := ih hr'
  rw [zl_snoc] at hp hq
  have pin : p.1 ∈ cl (l ++ [e]) := by rw [← zl_cl, zl_snoc]; exact List.mem_map.2 ⟨p, hp, rfl⟩
  rcases List.mem_append.1 hq with hq | hq
  · rcases List.mem_append.1 hp with hp | hp
    · exact ih p hp q hq hpq hne
    · -- the last one is known by none ahead of it
      rw [List.mem_singleton] at hp
      subst hp
      exfalso
      have h1 := ok.le q.1 (zl_mem hq) e.t.toNat
      simp only at hpq
      have hl := ok2.last e.t.toNat (by rw [cnt_snoc, if_pos rfl]; omega)
      obtain ⟨r, hr1, hr2, hr3⟩ := hl
      rw [cnt_snoc, if_pos rfl] at hr3
      rw [cl_snoc] at hr1
      rcases List.mem_append.1 hr1 with hr1 | hr1
      · have := ok.le r hr1 e.t.toNat
        unfold Ent.num at hr3
        rw [hr2] at hr3
        omega
      · rw [List.mem_singleton] at hr1
        rw [← hr1] at hpq
        have he : r.e.t.toNat = e.t.toNat := hr2
        omega
  · rw [List.mem_singleton] at hq
    subst hq
    simp only at hpq ⊢
    rcases List.mem_append.1 hp with hp | hp
    · have h1 : p.1.num ≤ sup (cl l) (fun r => dep r.e e) (fun r => r.c p.1.e.t.toNat) := by
        unfold clk at hpq
        by_cases ht : p.1.e.t.toNat = e.t.toNat
        · rw [if_pos ht] at hpq
          have h2 := ok.le p.1 (zl_mem hp) p.1.e.t.toNat
          have h3 : p.1.num ≤ cnt_ l p.1.e.t.toNat := h2
          obtain ⟨r, hr1, hr2, hr3⟩ := ok.last p.1.e.t.toNat (by have := ok.pos p.1 (zl_mem hp); omega)
          have hd : dep r.e e = true := dep_same (cl_t hr' hr1) (hr e (by simp)) (hr2.trans ht)
          have := sup_ge (q := cl l) (p := fun r => dep r.e e) (f := fun r => r.c p.1.e.t.toNat) hr1 hd
          unfold Ent.num at hr3
          rw [hr2] at hr3
          omega
        · rw [if_neg ht] at hpq; omega
      have h0 := ok.pos p.1 (zl_mem hp)
      obtain ⟨r, hr1, hd, hre⟩ := sup_pos (show 0 < sup (cl l) (fun r => dep r.e e) (fun r => r.c p.1.e.t.toNat) by omega)
      obtain ⟨n, hn⟩ := zl_ex hr1
      have hh : n + 1 ≤ high l (ats l) e := by
        rw [high_sup]
        exact sup_ge (q := zl l) (p := fun p => dep p.1.e e) (f := fun p => p.2 + 1) (x := (r, n)) hn hd
      by_cases hpr : Pt p.1 r
      · have := zl_one hr' hp hn hpr
        subst this
        exact hh
      · have := ih p hp (r, n) hn (by simp only; omega) hpr
        simp only at this
        omega
    · rw [List.mem_singleton] at hp
      subst hp
      exact (hne ⟨rfl, rfl⟩).elim
/-- what stands higher knows of one just below -/
theorem zl_up (l : List Ev) (hr : ∀ e ∈ l, 0 ≤ e.t) : ∀ q ∈ zl l, q.2 ≠ 0 → ∃ p ∈ zl l, p.1.num ≤ q.1.c p.1.e.t.toNat ∧ ¬ Pt p.1 q.1 ∧ p.2 + 1 = q.2 := by
  revert hr
  refine snoc_ind (p := fun l => (∀ e ∈ l, 0 ≤ e.t) → ∀ q ∈ zl l, q.2 ≠ 0 → ∃ p ∈ zl l, p.1.num ≤ q.1.c p.1.e.t.toNat ∧ ¬ Pt p.1 q.1 ∧ p.2 + 1 = q.2) (fun _ q hq => (by cases hq)) (fun l e ih hr q hq h0 => ?_) l
  have hr' : ∀ x ∈ l, 0 ≤ x.t := fun x hx => hr x (by simp [hx])
  have ok2 := clkOk (l ++ [e]) hr
  have hzz := zl_snoc l e
  rw [zl_snoc] at hq
  rcases List.mem_append.1 hq with hq | hq
  · obtain ⟨p, hp, h1, h2, h3⟩ := ih hr' q hq h0
    exact ⟨p, by rw [zl_snoc]; exact List.mem_append_left _ hp, h1, h2, h3⟩
  · rw [List.mem_singleton] at hq
    subst hq
    simp only at h0 ⊢
    rw [high_sup] at h0 ⊢
    obtain ⟨p, hp, hd, hpe⟩ := sup_pos (Nat.pos_of_ne_zero h0)
    refine ⟨p, by rw [zl_snoc]; exact List.mem_append_left _ hp, ?_, ?_, hpe⟩
    · have := sup_ge (q := cl l) (p := fun r => dep r.e e) (f := fun r => r.c p.1.e.t.toNat) (zl_mem hp) hd
      unfold clk
      unfold Ent.num
      omega
    · intro hpt
      -- the last one isn't among those ahead
      have hone := ok2.one
      rw [cl_snoc] at hone
      exact (List.pairwise_append.1 hone).2.2 p.1 (zl_mem hp) _ (List.mem_singleton.2 rfl) hpt

theorem zl_sub {a b : List Ev} (ha : ∀ e ∈ a, 0 ≤ e.t) (hb : ∀ e ∈ b, 0 ≤ e.t) (h : ∀ p, p ∈ cl a ↔ p ∈ cl b) : ∀ n p, (p, n) ∈ zl a → (p, n) ∈ zl b := by
  intro n
  induction n using Nat.strongRecOn with
  | ind n ih =>
    intro p hp
    obtain ⟨m, hm⟩ := zl_ex ((h p).1 (zl_mem hp))
    have h1 : m ≤ n := by
      by_cases h0 : m = 0
      · omega
      · obtain ⟨q, hq, g1, g2, g3⟩ := zl_up b hb (p, m) hm h0
        obtain ⟨k, hk⟩ := zl_ex ((h q.1).2 (zl_mem (p := q.1) (n := q.2) hq))
        have hkn := zl_low a ha (q.1, k) hk (p, n) hp g1 g2
        simp only at hkn g3
        have := zl_one hb (ih k hkn q.1 hk) hq ⟨rfl, rfl⟩
        have : k = q.2 := congrArg Prod.snd this
        omega
    have h2 : n ≤ m := by
      by_cases h0 : n = 0
      · omega
      · obtain ⟨q, hq, g1, g2, g3⟩ := zl_up a ha (p, n) hp h0
        simp only at g3
        have hq' := ih q.2 (by omega) q.1 hq
        have := zl_low b hb (q.1, q.2) hq' (p, m) hm g1 g2
        simp only at this
        omega
    rw [show n = m by omega]
    exact hm

theorem levels_same {a b : List Ev} (ha : ∀ e ∈ a, 0 ≤ e.t) (hb : ∀ e ∈ b, 0 ≤ e.t) (h : ∀ p, p ∈ cl a ↔ p ∈ cl b) : lev a = lev b := by
  have hz : ∀ x : Ent × Nat, x ∈ zl a ↔ x ∈ zl b := fun x => ⟨zl_sub ha hb h x.2 x.1, zl_sub hb ha (fun p => (h p).symm) x.2 x.1⟩
  have hm : ∀ j x, x ∈ (levU a).getD j [] ↔ x ∈ (levU b).getD j [] := fun j x => by
    rw [mem_level, mem_level, zl_ev, zl_ev, List.mem_map, List.mem_map]
    exact ⟨fun ⟨p, hp, e⟩ => ⟨p, (hz p).1 hp, e⟩, fun ⟨p, hp, e⟩ => ⟨p, (hz p).2 hp, e⟩⟩
  have hnd : ∀ (l : List Ev) j, ((levU l).getD j []).Nodup := fun l j => (apart_threads ((levU_lev l).apart j)).imp (fun {a b} h e => h (by rw [e]))
  have hlen : ∀ (a b : List Ev), (∀ j x, x ∈ (levU a).getD j [] ↔ x ∈ (levU b).getD j []) → (levU a).length ≤ (levU b).length := fun a b hm => by
    rcases Nat.lt_or_ge (levU b).length (levU a).length with hlt | hge
    · have hne := (levU_lev a).ne (levU b).length hlt
      obtain ⟨x, hx⟩ := List.exists_mem_of_ne_nil _ hne
      have := (hm _ x).1 hx
      rw [List.getD_eq_getElem?_getD, List.getElem?_eq_none (Nat.le_refl _)] at this
      simp at this
    · exact hge
  exact lik_lev ⟨Nat.le_antisymm (hlen a b hm) (hlen b a (fun j x => (hm j x).symm)), fun j => (List.perm_ext_iff_of_nodup (hnd a j) (hnd b j)).2 (hm j)⟩

/-- what the clocks' test says -/
def SameC (a b : List Ev) : Prop := a.length = b.length ∧ ∀ p ∈ cl a, p ∈ cl b
theorem sameC_iff {a b : List Ev} (ha : ∀ e ∈ a, 0 ≤ e.t) (hb : ∀ e ∈ b, 0 ≤ e.t) : SameC a b ↔ lev a = lev b := by
  constructor
  · rintro ⟨h1, h2⟩
    refine levels_same ha hb (fun p => ⟨h2 p, fun hp => ?_⟩)
    -- as many points: so each one of b's is one of a's
    have key : ∀ (l : List Ev), (∀ e ∈ l, 0 ≤ e.t) → ((cl l).map fun p => (p.e.t, p.num)).Nodup := fun l hl => by
      rw [List.Nodup, List.pairwise_map]
      exact (clkOk l hl).one.imp (fun {a b} h e => h ⟨congrArg Prod.fst e, congrArg Prod.snd e⟩)
    have all : ∀ (l m : List (Int × Nat)), l.Nodup → (∀ x ∈ l, x ∈ m) → m.length ≤ l.length → ∀ x ∈ m, x ∈ l := by
      intro l
      induction l with
      | nil => intro m _ _ hl x hx; rw [List.eq_nil_of_length_eq_zero (show m.length = 0 by simpa using hl)] at hx; exact hx
      | cons y l ih =>
        intro m hn hs hl x hx
        obtain ⟨n1, n2⟩ := List.nodup_cons.1 hn
        by_cases hxy : x = y
        · rw [hxy]; exact List.mem_cons_self
        · have hy := hs y List.mem_cons_self
          refine List.mem_cons_of_mem _ (ih (m.erase y) n2 (fun z hz => (List.mem_erase_of_ne (fun e : z = y => n1 (by rw [← e]; exact hz))).2 (hs z (List.mem_cons_of_mem _ hz))) ?_ x ((List.mem_erase_of_ne hxy).2 hx))
          rw [List.length_erase_of_mem hy]
          simp only [List.length_cons] at hl
          omega
    have hx := all _ _ (key a ha) (fun x hx => by
      obtain ⟨q, hq, rfl⟩ := List.mem_map.1 hx
      exact List.mem_map.2 ⟨q, h2 q hq, rfl⟩) (by rw [List.length_map, List.length_map, cl_len, cl_len, h1]; exact Nat.le_refl _) (p.e.t, p.num) (List.mem_map.2 ⟨p, hp, rfl⟩)
    obtain ⟨q, hq, e⟩ := List.mem_map.1 hx
    have := cl_one hb (h2 q hq) hp ⟨congrArg Prod.fst e, congrArg Prod.snd e⟩
    rw [← this]
    exact hq
  · intro h
    have hp := eqv_cl (lev_eqv h)
    exact ⟨(lev_eqv h).perm.length_eq, fun p hp' => hp.mem_iff.1 hp'⟩
end Fo
end Go.Proofs.Ytgahjibjladafaa
