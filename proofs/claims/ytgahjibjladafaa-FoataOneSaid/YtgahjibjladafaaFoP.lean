/- Bytes of events and of levels: plain theory, no program in sight. -/
import Derived.Test.YtgahjibjladafaaFoT
namespace Go.Proofs.Ytgahjibjladafaa
namespace Fo
set_option linter.unusedVariables false

/-! an event's byte -/
def byteI (e : Ev) : Int := e.t + 4 * e.k + 32 * e.o + (if e.f then 128 else 0)
def byteU (e : Ev) : UInt8 := UInt8.ofNat (byteI e).toNat
def evOf (n : Nat) : Ev := ⟨(n % 4 : Nat), (n / 4 % 8 : Nat), (n / 32 % 4 : Nat), decide (128 ≤ n)⟩
theorem right_spec {e : Ev} (h : right e = true) : 0 ≤ e.t ∧ e.t ≤ 3 ∧ 1 ≤ e.k ∧ e.k ≤ 5 ∧ 0 ≤ e.o ∧ e.o ≤ 3 ∧ (e.k = 1 → e.o = 0) ∧ (e.k ≠ 1 → e.f = false ∧ (e.k < 4 ∨ e.o < 2)) := by
  exact of_decide_eq_true h
theorem byteI_lt {e : Ev} (h : right e = true) : 0 ≤ byteI e ∧ byteI e < 256 := by
  obtain ⟨h1, h2, h3, h4, h5, h6, h7, h8⟩ := right_spec h
  unfold byteI
  cases hf : e.f with
  | false => simp; omega
  | true =>
    have hk : e.k = 1 := Classical.byContradiction fun hk => by have := (h8 hk).1; rw [hf] at this; cases this
    have := h7 hk
    simp; omega
theorem byteU_toNat {e : Ev} (h : right e = true) : ((byteU e).toNat : Int) = byteI e := by
  obtain ⟨h1, h2⟩ := byteI_lt h
  unfold byteU
  rw [UInt8.toNat_ofNat']
  omega
theorem evOf_byte {e : Ev} (h : right e = true) : evOf (byteU e).toNat = e := by
  have hb := byteU_toNat h
  obtain ⟨h1, h2, h3, h4, h5, h6, h7, h8⟩ := right_spec h
  obtain ⟨t, k, o, f⟩ := e
  generalize (byteU ⟨t, k, o, f⟩).toNat = n at hb
  unfold byteI at hb
  simp only at *
  cases f with
  | false =>
    simp only [Bool.false_eq_true, if_false, Int.add_zero] at hb
    unfold evOf
    simp only [Ev.mk.injEq]
    refine ⟨by omega, by omega, by omega, by simp; omega⟩
  | true =>
    have hk : k = 1 := Classical.byContradiction fun hk => by have := (h8 hk).1; cases this
    have ho := h7 hk
    simp only [if_true] at hb
    unfold evOf
    simp only [Ev.mk.injEq]
    refine ⟨by omega, by omega, by omega, by simp; omega⟩
theorem byte_evOf {n : Nat} (h : n < 256) (hr : right (evOf n) = true) : (byteU (evOf n)).toNat = n := by
  have hb := byteU_toNat hr
  have : byteI (evOf n) = n := by
    obtain ⟨h1, h2, h3, h4, h5, h6, h7, h8⟩ := right_spec hr
    unfold byteI evOf
    unfold evOf at h8 h7
    simp only at *
    by_cases hf : 128 ≤ n
    · simp only [decide_eq_true hf, if_true]
      omega
    · simp only [decide_eq_false hf, Bool.false_eq_true, if_false]
      omega
  omega

/-! rows -/
def rights (l : List Ev) : Bool := l.all right
def evs (bs : List UInt8) : Option (List Ev) := if rights (bs.map fun b => evOf b.toNat) = true then some (bs.map fun b => evOf b.toNat) else none
def bytes (l : List Ev) : List UInt8 := l.map byteU
theorem evs_bytes {l : List Ev} (h : rights l = true) : evs (bytes l) = some l := by
  have e : (bytes l).map (fun b => evOf b.toNat) = l := by
    unfold bytes rights at *
    rw [List.map_map]
    conv => rhs; rw [← List.map_id l]
    refine List.map_congr_left (fun x hx => ?_)
    exact evOf_byte (List.all_eq_true.1 h x hx)
  unfold evs
  rw [e, if_pos h]
theorem bytes_evs {bs : List UInt8} {l : List Ev} (h : evs bs = some l) : bytes l = bs ∧ rights l = true := by
  unfold evs at h
  split at h
  · rename_i hr
    injection h with h
    subst h
    refine ⟨?_, hr⟩
    unfold bytes
    rw [List.map_map]
    conv => rhs; rw [← List.map_id bs]
    refine List.map_congr_left (fun b hb => ?_)
    have h1 : right (evOf b.toNat) = true := by
      unfold rights at hr
      rw [List.all_map, List.all_eq_true] at hr
      exact hr b hb
    have := byte_evOf (UInt8.toNat_lt b) h1
    exact UInt8.toNat_inj.1 (by simpa using this)
  · cases h

/-! levels -/
/-- are they a row's levels? -/
def okL (L : List (List Ev)) : Bool := decide (L.flatten.length ≤ 200) && rights L.flatten && decide (lev L.flatten = L)
def enc (L : List (List Ev)) : List UInt8 := L.flatMap (fun l => UInt8.ofNat l.length :: bytes l) ++ [0]
/-- what is written of levels -/
def printL (L : List (List Ev)) : List UInt8 := if okL L = true then enc L else []
/-- may the row be told? -/
def okRow (l : List Ev) : Bool := decide (l.length ≤ 200) && rights l
/-- what the levels of a row are said to be -/
def levR (l : List Ev) : List (List Ev) := if okRow l = true then lev l else []
def key (l : List Ev) : List UInt8 := if okRow l = true then printL (lev l) else []

theorem nodup_sub : ∀ (l m : List Nat), l.Nodup → (∀ x ∈ l, x ∈ m) → l.length ≤ m.length
  | [], _, _, _ => Nat.zero_le _
  | a :: l, m, h, hs => by
    obtain ⟨h1, h2⟩ := List.nodup_cons.1 h
    have ha := hs a List.mem_cons_self
    have := nodup_sub l (m.erase a) h2 (fun x hx => (List.mem_erase_of_ne (fun e : x = a => h1 (by rw [← e]; exact hx))).2 (hs x (List.mem_cons_of_mem _ hx)))
    rw [List.length_erase_of_mem ha] at this
    have := List.length_pos_of_mem ha
    simp only [List.length_cons]
    omega
theorem lev_small {l : List Ev} (h : rights l = true) (j : Nat) : ((lev l).getD j []).length ≤ 4 := by
  have ha := apart_threads (lev_apart l j)
  have hm : ∀ x ∈ (lev l).getD j [], 0 ≤ x.t ∧ x.t ≤ 3 := fun x hx => by
    have hx' : x ∈ l := (lev_flat l).mem_iff.1 (by
      rw [List.getD_eq_getElem?_getD] at hx
      cases hj : (lev l)[j]? with
      | none => rw [hj] at hx; simp at hx
      | some q => rw [hj] at hx; exact List.mem_flatten.2 ⟨q, List.mem_of_getElem? hj, hx⟩)
    have := right_spec (List.all_eq_true.1 h x hx')
    exact ⟨this.1, this.2.1⟩
  generalize (lev l).getD j [] = q at ha hm
  have hs : (q.map fun x => x.t.toNat).Nodup := by
    rw [List.Nodup, List.pairwise_map]
    refine ha.imp_of_mem (fun {a b} ha hb hne e => hne ?_)
    have h1 := hm a ha
    have h2 := hm b hb
    omega
  have hsub : ∀ n ∈ (q.map fun x => x.t.toNat), n ∈ List.range 4 := fun n hn => by
    obtain ⟨x, hx, rfl⟩ := List.mem_map.1 hn
    have := hm x hx
    simp; omega
  have := nodup_sub _ _ hs hsub
  simpa using this
theorem okL_spec {L : List (List Ev)} (h : okL L = true) : L.flatten.length ≤ 200 ∧ rights L.flatten = true ∧ lev L.flatten = L := by
  unfold okL at h
  simp only [Bool.and_eq_true, decide_eq_true_eq] at h
  exact ⟨h.1.1, h.1.2, h.2⟩
theorem okL_mem {L : List (List Ev)} (h : okL L = true) {l : List Ev} (hl : l ∈ L) : 0 < l.length ∧ l.length ≤ 4 ∧ rights l = true := by
  obtain ⟨h1, h2, h3⟩ := okL_spec h
  obtain ⟨j, hj, rfl⟩ := List.getElem_of_mem hl
  have e : L[j] = (lev L.flatten).getD j [] := by rw [h3, List.getD_eq_getElem?_getD, List.getElem?_eq_getElem hj]; rfl
  refine ⟨?_, by rw [e]; exact lev_small h2 j, ?_⟩
  · have := (lev_lev L.flatten).ne j (by rw [h3]; exact hj)
    rw [← e] at this
    exact List.length_pos_iff.2 this
  · unfold rights at h2 ⊢
    rw [List.all_eq_true] at h2 ⊢
    exact fun x hx => h2 x (List.mem_flatten.2 ⟨_, hl, hx⟩)

/-- reading as far as it goes -/
def parse : Nat → List UInt8 → Option (List (List Ev))
  | 0, _ => some []
  | k + 1, [] => some []
  | k + 1, b :: r => if b = 0 then some [] else if r.length < b.toNat then none else (evs (r.take b.toNat)).bind fun l => (parse k (r.drop b.toNat)).map (l :: ·)
def readL (s : List UInt8) : Option (List (List Ev)) := (parse s.length s).bind fun L => if s ≠ [] ∧ printL L = s then some L else none

theorem enc_cons (l : List Ev) (L : List (List Ev)) : enc (l :: L) = UInt8.ofNat l.length :: (bytes l ++ enc L) := by unfold enc; simp
theorem enc_len (L : List (List Ev)) : L.length < (enc L).length := by
  induction L with
  | nil => simp [enc]
  | cons l L ih => rw [enc_cons]; simp; omega
theorem parse_enc : ∀ (L : List (List Ev)), (∀ l ∈ L, 0 < l.length ∧ l.length ≤ 4 ∧ rights l = true) → ∀ k, L.length < k → parse k (enc L) = some L
  | [], _, k, hk => by
    obtain ⟨k, rfl⟩ : ∃ m, k = m + 1 := ⟨k - 1, by omega⟩
    rfl
  | l :: L, h, k, hk => by
    obtain ⟨k, rfl⟩ : ∃ m, k = m + 1 := ⟨k - 1, by omega⟩
    obtain ⟨h1, h2, h3⟩ := h l List.mem_cons_self
    have hn : (UInt8.ofNat l.length).toNat = l.length := by rw [UInt8.toNat_ofNat']; omega
    have h0 : ¬ UInt8.ofNat l.length = 0 := fun e => by rw [e] at hn; simp at hn; omega
    have hb : (bytes l).length = l.length := by unfold bytes; simp
    rw [enc_cons]
    unfold parse
    rw [if_neg h0, hn, if_neg (by simp [hb]), ← hb, List.take_left, List.drop_left, evs_bytes h3, parse_enc L (fun l hl => h l (List.mem_cons_of_mem _ hl)) k (by simp at hk; omega)]
    rfl
theorem parse_more : ∀ (k : Nat) (s : List UInt8), s.length ≤ k → parse k s = parse s.length s := by
  intro k
  induction k with
  | zero => intro s h; obtain rfl : s = [] := List.eq_nil_of_length_eq_zero (by omega); rfl
  | succ k ih =>
    intro s h
    cases s with
    | nil => rfl
    | cons b r =>
      simp only [List.length_cons] at h ⊢
      unfold parse
      have hd : (r.drop b.toNat).length ≤ r.length := by simp
      rw [ih (r.drop b.toNat) (by omega)]
      congr 3
      funext l
      congr 1
      have gen : ∀ (m : Nat) (q : List UInt8), q.length ≤ m → m ≤ k → parse m q = parse q.length q := by
        intro m q h1 h2
        rw [← ih q (by omega)]
        have up : ∀ (m : Nat) (q : List UInt8), q.length ≤ m → parse (m + 1) q = parse m q := by
          intro m
          induction m with
          | zero => intro q h; obtain rfl : q = [] := List.eq_nil_of_length_eq_zero (by omega); rfl
          | succ m ihm =>
            intro q h
            cases q with
            | nil => rfl
            | cons b r =>
              simp only [List.length_cons] at h
              rw [parse, parse, ihm _ (by simp; omega)]
        have go : ∀ d, parse (m + d) q = parse m q := by
          intro d
          induction d with
          | zero => rfl
          | succ d ihd => rw [← Nat.add_assoc, up _ _ (by omega), ihd]
        rw [← go (k - m)]
        congr 1
        omega
      exact (gen r.length _ hd (by omega)).symm
/-- what was written is read -/
theorem readL_enc {L : List (List Ev)} (h : okL L = true) : readL (enc L) = some L := by
  unfold readL
  rw [parse_enc L (fun l hl => okL_mem h hl) _ (enc_len L), Option.bind_some, if_pos]
  refine ⟨fun e => ?_, by unfold printL; rw [if_pos h]⟩
  have := enc_len L
  rw [e] at this
  simp at this
theorem readL_spec {s : List UInt8} {L : List (List Ev)} (h : readL s = some L) : okL L = true ∧ enc L = s := by
  unfold readL at h
  cases hp : parse s.length s with
  | none => rw [hp] at h; cases h
  | some L' =>
    rw [hp, Option.bind_some] at h
    split at h
    · rename_i hc
      injection h with h
      subst h
      unfold printL at hc
      split at hc
      · rename_i ho; exact ⟨ho, hc.2⟩
      · exact (hc.1 hc.2.symm).elim
    · cases h
theorem enc_inj {L M : List (List Ev)} (h : okL L = true) (h' : okL M = true) (e : enc L = enc M) : L = M := by
  have h1 := readL_enc h
  rw [e, readL_enc h'] at h1
  injection h1 with h1
  exact h1.symm
end Fo
end Go.Proofs.Ytgahjibjladafaa
