/- Part 12 of the proof of leastAny_holds: what it rests on. -/
import Derived.Test.YtckdofjpoajblaaGreatZq11
namespace Go.Proofs.YtckdofjpoajblaaGreat
open Go.RowKit Go.Maps Go.Sort Go.Shelf
set_option linter.unusedVariables false
theorem sorts_any (m : Nat) : AnyZ.SortsIn Tryz.prog Tryz.sorted100_ren Fence.wide m :=
  ⟨fun blk off cap ss W hH hblk hsz => callsIn_wide.2 (AnyM.slices_Sort_string Tryz.sort74 blk off cap ss W hH hblk hsz),
   fun p cap W => callsIn_wide.2 (AnyM.slices_Sort_string_none Tryz.sort74 p cap W)⟩
theorem mapKeys_any (mb : Option Nat) (W : World) : Calls Tryz.prog 101 #[.map mb] W fun e w' => e = .returned (.func (.func 161) #[] #[.pointer (some ⟨W.heap.size, 0, none⟩)]) ∧ w' = W.alloc (.cells #[.map mb] 140) :=
  callsIn_wide.1 (AnyZ.keys_in Tryz.keys101 Fence.wide 5 trivial rfl mb W)
set_option maxHeartbeats 1000000 in
theorem sortedKeys_any {H : Type} (b nn : Nat) (D0 : DataW H) (R : Value → Option (DataW H × List MemPlace)) (w : World) (hown : w.ownsMap Tryz.prog 9 R b nn D0) (hmax : Maps.size D0 ≤ maxLen) (hbytes : Maps.size D0 * 16 ≤ 140737488355328) :
    Calls Tryz.prog 100 #[.func (.func 161) #[] #[.pointer (some ⟨w.heap.size, 0, none⟩)]] (w.alloc (.cells #[.map (some b)] 140)) fun e w' => ∃ (v : Value) (ss : List (List UInt8)), e = .returned v ∧ ss.Perm (strKeys D0) ∧
      w'.ownsRow (w.alloc (.cells #[.map (some b)] 140)).heap.size 9 1 v ss.length ((ss.mergeSort (fun x y => decide (x ≤ y))).map encStr) ∧ (v = .slice none 0 0 ↔ ss = []) ∧ Below (w.alloc (.cells #[.map (some b)] 140)).heap.size (w.alloc (.cells #[.map (some b)] 140)) w' := by
  have hbl := hown.lt
  have hseq : SeqGives Fence.wide 2 Tryz.prog 161 #[.pointer (some ⟨w.heap.size, 0, none⟩)] encStr (fun ss => ss.Perm (strKeys D0)) (Maps.size D0) (w.alloc (.cells #[.map (some b)] 140)) :=
    AnyZ.keys_gives (ρ := Tryz.keys101_ren) { Tryz.keys101 with } Fence.wide _ trivial rfl (by omega) w.heap.size b nn D0 _ (by simp) (by simp) (by
      obtain ⟨es, clock, hb, Ft, hs, hD⟩ := hown
      exact ⟨es, clock, (Below.heap_alloc _ _ b hbl).trans hb, Ft, hs, hD⟩)
  exact callsIn_wide.1 (AnyZ.sorted_in Tryz.sorted100 Fence.wide 5 trivial trivial trivial trivial rfl (by omega) (sorts_any _) (enters_of Tryz.func74 (by kernel_rfl) rfl) 161 #[.pointer (some ⟨w.heap.size, 0, none⟩)] trivial (enters_of Tryz.func161 (by kernel_rfl) rfl) _ _ hmax hbytes _ hseq)
theorem insert_perm {H : Type} (x : Lit × DataW H) : ∀ l : List (Lit × DataW H), (DataW.insert x l).Perm (x :: l)
  | [] => List.Perm.refl _
  | y :: l => by
    unfold DataW.insert
    split
    · exact List.Perm.refl _
    · exact ((insert_perm x l).cons y).trans (List.Perm.swap x y l)
theorem foldr_insert_perm {H : Type} (l : List (Lit × DataW H)) : (l.foldr DataW.insert []).Perm l := by
  induction l with
  | nil => exact List.Perm.refl _
  | cons x l ih => exact (insert_perm x _).trans (ih.cons x)
def txt (v : Value) : List UInt8 := match v with | .string s => s.data.toList | _ => []
namespace Ky
theorem sorted_nodup {l L : List K} (hn : l.Nodup) (hm : ∀ x, x ∈ l ↔ x ∈ L) : l.mergeSort (fun x y => decide (x ≤ y)) = gather L := by
  have hp := List.mergeSort_perm l (fun x y => decide (x ≤ y))
  refine strict_ext ?_ (gather_strict L) (fun x => by rw [hp.mem_iff, gather_mem, hm])
  have hs : (l.mergeSort (fun x y => decide (x ≤ y))).Pairwise (fun a b => decide (a ≤ b) = true) := List.pairwise_mergeSort (by
    intro a b c h1 h2
    rw [le_eq, Bool.not_eq_true'] at h1 h2 ⊢
    cases h : lt c a with
    | false => rfl
    | true =>
      cases hbc : lt b c with
      | true => rw [lt_tr hbc h] at h1; cases h1
      | false =>
        have := lt_tri hbc h2
        subst this
        rw [h] at h1; cases h1) (by
    intro a b
    rw [le_eq, le_eq]
    cases h : lt b a with
    | false => rfl
    | true => rw [lt_asym h]; rfl) l
  have hn2 : (l.mergeSort (fun x y => decide (x ≤ y))).Nodup := hp.nodup_iff.2 hn
  refine (hs.and hn2).imp (fun {a b} h => ?_)
  obtain ⟨h1, h2⟩ := h
  rw [le_eq, Bool.not_eq_true'] at h1
  cases hab : lt a b with
  | true => rfl
  | false => exact (h2 (lt_tri hab h1)).elim
end Ky
set_option maxHeartbeats 1000000 in
/-- the keys of a map, rising -/
theorem sortedMap_any (w : World) (b : Nat) (m : List (ByteArray × Value)) (hm : MapAt Tryz.keyS w b m) (hl : m.length ≤ 1000000) (hk : ∀ p ∈ m, p.1.size ≤ maxLen) (L : List Ky.K) (hL : ∀ k, k ∈ L ↔ k ∈ m.map (fun p => p.1.data.toList)) :
    Calls Tryz.prog 100 #[.func (.func 161) #[] #[.pointer (some ⟨w.heap.size, 0, none⟩)]] (w.alloc (.cells #[.map (some b)] 140)) (StrOut (w.alloc (.cells #[.map (some b)] 140)) (Ky.gather L)) := by
  obtain ⟨es, clock, hb, hent, hnd, hst⟩ := hm
  have hes : es.size = m.length := by have := congrArg List.length hent; simpa [ents] using this
  have hkeys : es.toList.map (fun e => e.key) = m.map (fun p => Value.string p.1) := by
    have := congrArg (List.map Prod.fst) hent
    have h2 : es.toList.map (fun e => e.key) = m.map (fun p => Tryz.keyS.kk p.1) := by simpa [ents, List.map_map, Function.comp_def] using this
    exact h2
  have hstr : ∀ x ∈ es.toList, ∃ s : ByteArray, x.key = .string s ∧ s.size ≤ maxLen := fun x hx => by
    have : x.key ∈ m.map (fun p => Value.string p.1) := by rw [← hkeys]; exact List.mem_map.2 ⟨x, hx, rfl⟩
    obtain ⟨p, hp, e⟩ := List.mem_map.1 this
    exact ⟨p.1, e.symm, hk p hp⟩
  have hrd : ∀ x ∈ es.toList, Go.WideElems.rd (H := Unit) Tryz.prog 9 (fun _ => some (.nil, [])) x = some (.string (txt x.key), .nil) := fun x hx => by
    obtain ⟨s, e, hs⟩ := hstr x hx
    unfold Go.WideElems.rd
    rw [e, Go.WideMaps.keyOf_string_mk Tryz.underlying9 hs]
    rfl
  have hown : w.ownsMap (H := Unit) Tryz.prog 9 (fun _ => some (.nil, [])) b es.size (.map ((es.toList.map (Go.WideElems.rg Tryz.prog 9 (fun _ => some (.nil, [])))).foldr DataW.insert [])) :=
    ⟨es, clock, hb, ⟨by rw [hes]; unfold maxLen; omega, hst, fun x hx => ⟨_, hrd x hx⟩⟩, Nat.le_refl _, rfl⟩
  have hks : (strKeys (DataW.map ((es.toList.map (Go.WideElems.rg (H := Unit) Tryz.prog 9 (fun _ => some (.nil, [])))).foldr DataW.insert []))).Perm (m.map fun p : ByteArray × Value => p.1.data.toList) := by
    show (List.map (fun p : Lit × DataW Unit => strOf p.1) _).Perm _
    refine ((foldr_insert_perm _).map _).trans ?_
    rw [List.map_map]
    have h1 : es.toList.map ((fun p : Lit × DataW Unit => strOf p.1) ∘ Go.WideElems.rg Tryz.prog 9 (fun _ => some (.nil, []))) = (es.toList.map (fun e => e.key)).map txt := by
      rw [List.map_map]
      refine List.map_congr_left (fun x hx => ?_)
      simp only [Function.comp]
      rw [Go.WideElems.rg_of (hrd x hx)]
      rfl
    rw [h1, hkeys, List.map_map]
    exact List.Perm.refl _
  have hnd2 : (m.map fun p => p.1.data.toList).Nodup := by
    have : (m.map fun p => p.1.data.toList) = (m.map (·.1)).map (fun s : ByteArray => s.data.toList) := by rw [List.map_map]; rfl
    rw [this]
    refine List.pairwise_map.2 (hnd.imp (fun {a b} hab e => hab ?_))
    obtain ⟨a⟩ := a
    obtain ⟨b⟩ := b
    simp only at e
    rw [show a = b from by simpa using congrArg List.toArray e]
  have hsz : Maps.size (DataW.map ((es.toList.map (Go.WideElems.rg (H := Unit) Tryz.prog 9 (fun _ => some (.nil, [])))).foldr DataW.insert [])) ≤ 1000000 := Nat.le_trans hown.size_le (by omega)
  refine (sortedKeys_any b es.size _ _ w hown (by unfold maxLen; omega) (by omega)).mono ?_
  rintro e w' ⟨v, ss, rfl, hp, hrow, hnil, hbel⟩
  have hss : ss.mergeSort (fun x y => decide (x ≤ y)) = Ky.gather L := Ky.sorted_nodup ((hp.trans hks).nodup_iff.2 hnd2) (fun x => by rw [(hp.trans hks).mem_iff, hL])
  have hlen : (Ky.gather L).length = ss.length := by rw [← hss, List.length_mergeSort]
  have hsv : (Ky.gather L).map encStr = (Ky.gather L).map sv := List.map_congr_left (fun x _ => rfl)
  rw [hss, hsv, ← hlen] at hrow
  obtain ⟨hr1, hr2⟩ := hrow
  rcases hr2 with ⟨rfl, hz⟩ | ⟨g, cap, cur, rfl, hg, hc, hn1, hn2, hn3, hn4⟩
  · refine ⟨none, 0, by rw [hz], ?_, hbel⟩
    have : Ky.gather L = [] := List.eq_nil_of_length_eq_zero hz
    rw [this]
    exact ⟨(Row.nil w' 9 1).rd, Nat.le_refl _, Nat.zero_le _⟩
  · refine ⟨some ⟨g, 0, none⟩, cap, rfl, ⟨⟨hr1, fun _ => ⟨g, 0, rfl, blk_lt hc, fun j hj => ?_⟩⟩, hn1, hn2⟩, hbel⟩
    rw [cell_blk hc, ← hn4, List.getElem?_take, if_pos hj, Nat.zero_add]
    simp
end Go.Proofs.YtckdofjpoajblaaGreat
namespace Go.Proofs.YtckdofjpoajblaaGreat
open Go.RowKit
set_option linter.unusedVariables false
theorem key_eqW (k k' : List UInt8) : ((⟨k.toArray⟩ : ByteArray) = ⟨k'.toArray⟩) ↔ k = k' := ⟨fun e => by injection e with e; simpa using congrArg Array.toList e, fun e => by rw [e]⟩
theorem mget_isSome {m : List (ByteArray × Value)} {k : ByteArray} : (mget m k).isSome = true ↔ k ∈ m.map (·.1) := by
  induction m with
  | nil => simp [mget]
  | cons p m ih =>
    obtain ⟨a, v⟩ := p
    simp only [mget, List.map_cons, List.mem_cons]
    by_cases h : k = a
    · simp [h]
    · rw [if_neg h, ih]; simp [h]
theorem memK (m : List (ByteArray × Value)) (k : List UInt8) : (k ∈ m.map (fun p => p.1.data.toList)) ↔ ((⟨k.toArray⟩ : ByteArray) ∈ m.map (·.1)) := by
  simp only [List.mem_map]
  constructor
  · rintro ⟨p, hp, rfl⟩; exact ⟨p, hp, by simp⟩
  · rintro ⟨p, hp, h⟩; exact ⟨p, hp, by rw [h]⟩
theorem wrap_up (n : Nat) : wrap64 (wrap64 (n : Int) + 1) = wrap64 ((n + 1 : Nat) : Int) := by
  simp only [wrap64]
  omega
def IAll (Rn Mc B : Nat) (a : Pr.Sm) (w : World) : Prop := CellAt w Rn (.int .i64 (wrap64 (a.runs : Int))) ∧ CellAt w Mc (.map (some B)) ∧ ∃ m, MapAt Tryz.keyS w B m ∧ (∀ k, k ∈ a.keys ↔ k ∈ m.map (fun p => p.1.data.toList)) ∧ (∀ p ∈ m, p.1.size ≤ 1000) ∧ m.length ≤ a.keys.length
theorem key_le (row : List Ev) (h : row.length ≤ 100) : (Fo.key row).length ≤ 1000 := by
  by_cases hk : Fo.okRow row = true
  · have h1 := (Fo.lev_flat row).length_eq
    have h2 : (Fo.lev row).length ≤ row.length := by rw [Fo.lev_len]; exact Fo.levU_len row
    have h3 := Fo.encP_len (L := Fo.lev row) (Fo.lev row).length
    rw [List.take_length] at h3
    rw [Fo.key_enc hk, Fo.enc_eq, List.length_append, List.length_singleton]
    omega
  · rw [Fo.key_none (by simpa using hk)]; simp
set_option maxRecDepth 100000 in
set_option maxHeartbeats 2000000 in
theorem all_at (Rn Mc B : Nat) (hRM : Rn ≠ Mc) (hRB : Rn ≠ B) (hMB : Mc ≠ B) : AtS 99 #[.pointer (some ⟨Rn, 0, none⟩), .pointer (some ⟨Mc, 0, none⟩)] (fun k => k = Rn ∨ k = Mc ∨ k = B) (IAll Rn Mc B) Pr.at6 where
  enters := Go.Proofs.enters_of Tryz.func99 (by kernel_rfl) rfl
  keep := fun x u u' H hi hm hF => by
    obtain ⟨h1, h2, m, h3, h4, h5, h6⟩ := hi
    exact ⟨h1.mod hm (fun h => hF _ h (.inl rfl)), h2.mod hm (fun h => hF _ h (.inr (.inl rfl))), m, h3.move (hm.block B h3.lt (fun h => hF _ h (.inr (.inr rfl)))), h4, h5, h6⟩
  call := by
    intro u C S T s row A cap x h hw hr hl hF hi
    obtain ⟨h1, h2, m, h3, h4, h5, h6⟩ := hi
    obtain ⟨c0, cl, cf⟩ := h1.cell
    obtain ⟨hs, hm⟩ := h1.set (.int .i64 (wrap64 ((x.runs + 1 : Nat) : Int)))
    obtain ⟨z, hz⟩ : ∃ z, z = wrap64 (x.runs : Int) := ⟨_, rfl⟩
    have hz2 : wrap64 (z + 1) = wrap64 ((x.runs + 1 : Nat) : Int) := by rw [hz]; exact wrap_up _
    rw [← hz] at c0
    have h2' := h2.mod hm (fun e => hRM e.symm)
    have h3' := h3.move (hm.block B h3.lt (fun e => hRB e.symm))
    have hrR := hr.setB (M := Rn) (k := 0) (.int .i64 (wrap64 ((x.runs + 1 : Nat) : Int))) (fun b hb => (hF Rn (.inl rfl)).2.2.2 b hb)
    obtain ⟨W1, hW1⟩ : ∃ z, z = u.setCell ⟨Rn, 0, none⟩ (.int .i64 (wrap64 ((x.runs + 1 : Nat) : Int))) := ⟨_, rfl⟩
    rw [← hW1] at hs hm h2' h3' hrR
    have hkey : ∀ v, Below W1.heap.size W1 v → Calls Tryz.prog 46 #[.slice A row.length cap] v fun y w' => y = .returned (.string ⟨(Fo.key row).toArray⟩) ∧ Below v.heap.size v w' := fun v hv => fkey_any v A cap row (hrR.below hv (Nat.le_refl _)) (by omega)
    obtain ⟨ky, hky⟩ : ∃ ky, ky = Fo.key row := ⟨_, rfl⟩
    have hkl : ky.length ≤ 1000 := by rw [hky]; exact key_le row hl
    rw [← hky] at hkey
    have hat : Pr.at6 s row x = ⟨Ky.insG x.keys ky, x.runs + 1, x.stuck + if Pr.waits s = true then 1 else 0⟩ := by rw [hky]; rfl
    have HKEY := Lib.hid hkey
    have HZ := Lib.hid hz2
    have HW1 := Lib.hid hW1
    have HS := Lib.hid hs
    have HM := Lib.hid (show Mod (fun k => k = Rn ∨ k = Mc ∨ k = B) u W1 from hm.mono (fun k _ e => .inl e))
    have H2 := Lib.hid h2'
    have H3 := Lib.hid (And.intro h3' (And.intro h4 (And.intro h5 (And.intro h6 hkl))))
    have HAT := Lib.hid hat
    have HNE := Lib.hid (And.intro hRM (And.intro hRB hMB))
    show Calls Tryz.prog 99 #[.pointer (some ⟨S, 0, none⟩), .slice A row.length cap, .pointer (some ⟨Rn, 0, none⟩), .pointer (some ⟨Mc, 0, none⟩)] u _
    clear h hw hr hF h1 h2 h3 h4 h5 h6 hs hm hz hz2 h2' h3' hrR hW1 hkey hky hkl hat hRM hRB hMB
    go_enter Tryz.func99, Tryz.ntmps99
    go_upto_region 1 with fail
    rw [HZ.out, ← HW1.out]
    clear c0 cl cf
    refine wp_region_planF (by kernel_rfl) (fun v => Below W1.heap.size W1 v) [3] [(0, .load), (1, .pure), (2, .eff), (3, .last)] (by simp only [List.map_cons, List.map_nil, List.getElem?_toArray, List.getElem?_cons_succ, List.getElem?_cons_zero]; rfl) (by kernel_rfl) (fun _ _ d _ _ h => by cases d <;> exact h) ((Below.refl _ _).drew) ?_
    obtain ⟨Wd, hWd⟩ : ∃ z, z = W1.drew := ⟨_, rfl⟩
    rw [← hWd]
    have hbd : Below W1.heap.size W1 Wd := by rw [hWd]; exact (Below.refl _ _).drew
    have HBD := Lib.hid hbd
    clear hWd hbd
    repeat (first
      | (refine plan_pure (v := ?_) (by rfl) (fun w1 => ?_) ?_
         rotate_left
         · go_simp <;> with_reducible rfl
         simp only [Act.put, List.setIfInBounds_toArray, List.set_cons_zero, List.set_cons_succ])
      | (refine plan_off (by rfl) ?_
         simp only [Act.put, List.setIfInBounds_toArray, List.set_cons_zero, List.set_cons_succ])
      | (refine plan_load_off (by rfl) ?_
         simp only [Act.put, List.setIfInBounds_toArray, List.set_cons_zero, List.set_cons_succ])
      | (refine plan_load (v := ?_) (by rfl) (fun w1 hw1 => ?_) ?_
         rotate_left
         · (have qm := (H2.out.below hw1).cell
            obtain ⟨q0, ql, _⟩ := qm
            clear hw1
            go_simp <;> with_reducible rfl)
         simp only [Act.put, List.setIfInBounds_toArray, List.set_cons_zero, List.set_cons_succ]))
    have HK := Lib.hid (HKEY.out Wd HBD.out)
    refine plan_eff ?_
    go_wp2_with fail
    refine HK.out.mono ?_
    rintro y w4 ⟨rfl, b4⟩
    have HB4 := Lib.hid (below_at HBD.out b4)
    clear b4 HK HKEY
    go_wp2_with fail
    refine plan_on (fun _ h => h) HB4.out ?_
    repeat (first
      | (refine plan_pure (v := ?_) (by rfl) (fun w1 => ?_) ?_
         rotate_left
         · go_simp <;> with_reducible rfl
         simp only [Act.put, List.setIfInBounds_toArray, List.set_cons_zero, List.set_cons_succ])
      | (refine plan_off (by rfl) ?_
         simp only [Act.put, List.setIfInBounds_toArray, List.set_cons_zero, List.set_cons_succ])
      | (refine plan_load_off (by rfl) ?_
         simp only [Act.put, List.setIfInBounds_toArray, List.set_cons_zero, List.set_cons_succ])
      | (refine plan_load (v := ?_) (by rfl) (fun w1 hw1 => ?_) ?_
         rotate_left
         · (have qm := (H2.out.below hw1).cell
            obtain ⟨q0, ql, _⟩ := qm
            clear hw1
            go_simp <;> with_reducible rfl)
         simp only [Act.put, List.setIfInBounds_toArray, List.set_cons_zero, List.set_cons_succ]))
    have HMP := Lib.hid (H3.out.1.move (HB4.out.block B H3.out.1.lt))
    refine plan_last ?_
    go_wp2_with (at_mapUpdate; refine wpList_mapUpdate Tryz.keyS (by rfl) _ _ _ 140 4 (by rfl) Tryz.underlying140 B m (by rfl) HMP.out ⟨ky.toArray⟩ (by rfl) (.bool true) (by rfl) ?_; intro w8 mp8 m8)
    repeat (first
      | (refine plan_pure (v := ?_) (by rfl) (fun w1 => ?_) ?_
         rotate_left
         · go_simp <;> with_reducible rfl
         simp only [Act.put, List.setIfInBounds_toArray, List.set_cons_zero, List.set_cons_succ])
      | (refine plan_off (by rfl) ?_
         simp only [Act.put, List.setIfInBounds_toArray, List.set_cons_zero, List.set_cons_succ])
      | (refine plan_load_off (by rfl) ?_
         simp only [Act.put, List.setIfInBounds_toArray, List.set_cons_zero, List.set_cons_succ])
      | (refine plan_load (v := ?_) (by rfl) (fun w1 hw1 => ?_) ?_
         rotate_left
         · (skip
            clear hw1
            go_simp <;> with_reducible rfl)
         simp only [Act.put, List.setIfInBounds_toArray, List.set_cons_zero, List.set_cons_succ]))
    refine plan_end ?_
    have HS8 := Lib.hid ((HS.out.below HB4.out).mod m8 HNE.out.2.1)
    have HM8 := Lib.hid ((H2.out.below HB4.out).mod m8 HNE.out.2.2)
    have HX8 := Lib.hid mp8
    have HMO := Lib.hid ((HM.out.trans (Mod.of_below_size HB4.out _)).trans (m8.mono (fun k _ e => .inr (.inr e))))
    clear m8 mp8
    go_wp2_with fail
    go_end0
    refine ⟨rfl, ?_, HMO.out⟩
    rw [HAT.out]
    refine ⟨HS8.out, HM8.out, _, HX8.out, fun k => ?_, fun p hp => ?_, ?_⟩
    · rw [Ky.insG_mem, H3.out.2.1 k]
      rw [memK, memK, mput_keys, key_eqW]
    · have : p.1 ∈ (mput m ⟨ky.toArray⟩ (Value.bool true)).map (·.1) := List.mem_map.2 ⟨p, hp, rfl⟩
      rw [mput_keys] at this
      rcases this with h | h
      · rw [h]; show ky.toArray.size ≤ 1000; simpa using H3.out.2.2.2.2
      · obtain ⟨p2, hp2, h⟩ := List.mem_map.1 h
        rw [← h]; exact H3.out.2.2.1 p2 hp2
    · show (mput m ⟨ky.toArray⟩ (Value.bool true)).length ≤ (Ky.insG x.keys ky).length
      rw [mput_length, Ky.insG_len]
      by_cases hm : ky ∈ x.keys
      · rw [if_pos hm]
        have : (mget m (⟨ky.toArray⟩ : ByteArray)).isSome = true := mget_isSome.2 ((memK m ky).1 ((H3.out.2.1 ky).1 hm))
        rw [if_pos this]
        exact H3.out.2.2.2.1
      · rw [if_neg hm]
        have := H3.out.2.2.2.1
        split <;> omega
end Go.Proofs.YtckdofjpoajblaaGreat
namespace Go.Proofs.YtckdofjpoajblaaGreat
open Go.RowKit
set_option linter.unusedVariables false
def OverOut {α : Type} (w : World) (F : Nat → Prop) (I : α → World → Prop) (at_ : St → List Ev → α → α) (p : Pg) (f : Int) (most : Nat) (x : α) (e : Ending) (w' : World) : Prop :=
  if Pr.may p f then
    e = .returned (.tuple #[.int .i64 (if most < (Pr.over at_ most 32 (Pr.start p f.toNat) [] (0, x)).1 then 0 else ((Pr.over at_ most 32 (Pr.start p f.toNat) [] (0, x)).1 : Int)), .int .i64 (if most < (Pr.over at_ most 32 (Pr.start p f.toNat) [] (0, x)).1 then 5 else 0)]) ∧ I (Pr.over at_ most 32 (Pr.start p f.toNat) [] (0, x)).2 w' ∧ Mod F w w'
  else e = .returned (.tuple #[.int .i64 0, .int .i64 1]) ∧ Below w.heap.size w w'
set_option maxRecDepth 100000 in
set_option maxHeartbeats 4000000 in
theorem over_any {α : Type} {G : Nat} {caps : Array Value} {F : Nat → Prop} {I : α → World → Prop} {at_ : St → List Ev → α → α} (hat : AtS G caps F I at_) (w : World) (p : Pg) (A : Option Addr) (cap : Nat) (f : Int) (most : Nat) (x : α) (hp : PgIn w p A) (hmost : most ≤ 100000) (hF : ∀ k, F k → k < w.heap.size) (hI : I x w) :
    Calls Tryz.prog 98 #[valP p A cap, .int .i64 f, .int .i64 (most : Int), .func (.func G) #[] caps] w (OverOut w F I at_ p f most x) := by
  obtain ⟨Wa, X, hWa, hX, hBa, hXl, hXe⟩ := pg_box w p.vars p.mtx A p.code.length cap
  obtain ⟨Wb, hWb⟩ : ∃ z, z = Wa.alloc (Obj.cells #[.int .i64 (most : Int)] 3) := ⟨_, rfl⟩
  obtain ⟨Wc, hWc⟩ : ∃ z, z = Wb.alloc (Obj.cells #[.func (.func G) #[] caps] 174) := ⟨_, rfl⟩
  have hbA : Below Wa.heap.size Wa Wb := by rw [hWb]; exact (Below.refl _ _).alloc (Nat.le_refl _) _
  have hbB : Below Wb.heap.size Wb Wc := by rw [hWc]; exact (Below.refl _ _).alloc (Nat.le_refl _) _
  obtain ⟨P, hP⟩ : ∃ z, z = Wa.heap.size := ⟨_, rfl⟩
  obtain ⟨Q, hQ⟩ : ∃ z, z = Wb.heap.size := ⟨_, rfl⟩
  have hsA : Wa.heap.size = w.heap.size + 1 := by rw [hWa, World.size_alloc]
  have hsB : Wb.heap.size = w.heap.size + 1 + 1 := by rw [hWb, World.size_alloc, hsA]
  have hsC : Wc.heap.size = Wb.heap.size + 1 := by rw [hWc, World.size_alloc]
  have hPk : CellAt Wc P (.int .i64 (most : Int)) := by
    have : CellAt Wb P (.int .i64 (most : Int)) := by rw [hWb, hP]; exact cellAt_new Wa _ _
    exact this.below hbB
  have hQk : CellAt Wc Q (.func (.func G) #[] caps) := by rw [hWc, hQ]; exact cellAt_new Wb _ _
  have hbc : Below w.heap.size w Wc := below_at (below_at hBa hbA) hbB
  have hpc := hp.below hbc
  have hIc := hat.below hI hbc
  have hPQ : P ≠ Q := by omega
  have hwP : w.heap.size < P := by omega
  have hPl : P < Wc.heap.size := by omega
  have hQl : Q < Wc.heap.size := by omega
  have HXE := Lib.hid (fun (u : World) (hu : Below Wc.heap.size Wc u) => hXe u (below_at (below_at hbA hbB) hu))
  obtain ⟨x0, x1, x2, xl⟩ := hXe Wc (below_at hbA hbB)
  have e1 : w.heap.size + 1 = P := by omega
  have e2 : w.heap.size + 1 + 1 = Q := by omega
  have HE1 := Lib.hid e1
  have HE2 := Lib.hid e2
  have HWC := Lib.hid (And.intro hWa (And.intro hWb (And.intro hWc hX)))
  have HPK := Lib.hid (And.intro hPk hQk)
  have HBC := Lib.hid hbc
  have HP := Lib.hid (And.intro hPQ (And.intro hwP (And.intro hPl (And.intro hQl (show w.heap.size < Q by omega)))))
  have HF := Lib.hid hF
  have HAT := Lib.hid hat
  have HI := Lib.hid hIc
  by_cases hm : Pr.may p f
  · obtain ⟨m, rfl⟩ : ∃ m : Nat, f = m := ⟨f.toNat, by have := hm.2.1; omega⟩
    have hm8 : m ≤ 8 := by have := hm.2.2; omega
    have hnew := new_ok Wc p A cap m hpc.1 hm.1 hm8
    have hwf := Pr.start_wf hm.1 hm8
    have hfu := Pr.fuels_start hm.1 hm8
    obtain ⟨s0, hs0⟩ : ∃ s0, s0 = Pr.start p m := ⟨_, rfl⟩
    obtain ⟨⟨c, a⟩, hz⟩ : ∃ z, z = Pr.over at_ most 32 (Pr.start p m) [] (0, x) := ⟨_, rfl⟩
    have hcb := Pr.over_bound at_ most 32 (Pr.start p m) [] (0, x) hwf
    rw [← hz] at hcb
    have hc9 : c ≤ 200000 := by simp only at hcb; omega
    have hout : OverOut w F I at_ p m most x = fun e w' => e = .returned (.tuple #[.int .i64 (if most < c then 0 else (c : Int)), .int .i64 (if most < c then 5 else 0)]) ∧ I a w' ∧ Mod F w w' := by
      funext e w'
      unfold OverOut
      rw [if_pos hm, Int.toNat_natCast, ← hz]
    rw [hout]
    rw [← hs0] at hnew hwf hfu hz
    unfold valP at hnew ⊢
    have HNEW := Lib.hid hnew
    have HWF := Lib.hid (And.intro hwf hfu)
    have HZ := Lib.hid hz
    clear hp hF hI hat hWa hX hBa hXl hXe hWb hWc hbA hbB hP hQ hsA hsB hsC hPk hQk hbc hpc hIc hPQ hwP hPl hQl e1 e2 hnew hwf hfu hz hs0 hcb hout hm hm8
    go_enter Tryz.func98, Tryz.ntmps98
    go_upto_region 1 with fail
    rw [← HWC.out.1, ← HWC.out.2.1, ← HWC.out.2.2.1, HE2.out, HE1.out, ← HWC.out.2.2.2]
    clear HWC
    go_wp2_with fail
    refine HNEW.out.mono ?_
    rintro y w1 ⟨S, T, C0, rfl, hsat, hS, hT, hC, b1⟩
    obtain ⟨N, hN⟩ : ∃ z, z = w1.heap.size := ⟨_, rfl⟩
    obtain ⟨Wn, hWn⟩ : ∃ z, z = w1.alloc (Obj.cells #[.int .i64 0] 3) := ⟨_, rfl⟩
    obtain ⟨W2, hW2⟩ : ∃ z, z = Wn.alloc (Obj.cells #[.func (.func 159) #[] #[.pointer (some ⟨N, 0, none⟩), .pointer (some ⟨P, 0, none⟩), .pointer (some ⟨Q, 0, none⟩), .pointer (some ⟨N + 1, 0, none⟩)]] 174) := ⟨_, rfl⟩
    have hbn : Below w1.heap.size w1 Wn := by rw [hWn]; exact (Below.refl _ _).alloc (Nat.le_refl _) _
    have hbm : Below Wn.heap.size Wn W2 := by rw [hW2]; exact (Below.refl _ _).alloc (Nat.le_refl _) _
    have hsn : Wn.heap.size = N + 1 := by rw [hWn, World.size_alloc, hN]
    have hs2 : W2.heap.size = N + 1 + 1 := by rw [hW2, World.size_alloc, hsn]
    have hb2 : Below w1.heap.size w1 W2 := below_at hbn hbm
    have hNk : CellAt W2 N (.int .i64 ((0 : Nat) : Int)) := by
      have : CellAt Wn N (.int .i64 ((0 : Nat) : Int)) := by rw [hWn, hN]; exact cellAt_new w1 _ _
      exact this.below hbm
    have hRk : CellAt W2 (N + 1) (.func (.func 159) #[] #[.pointer (some ⟨N, 0, none⟩), .pointer (some ⟨P, 0, none⟩), .pointer (some ⟨Q, 0, none⟩), .pointer (some ⟨N + 1, 0, none⟩)]) := by rw [hW2, ← hsn]; exact cellAt_new Wn _ _
    have hcb := HP.out
    have hw1 := b1.size
    have hww := HBC.out.size
    have hlt := hsat.lt
    have hFw := HF.out
    have hov : Ov W2 N P Q (N + 1) 0 most G caps := ⟨hNk, (HPK.out.1.below b1).below hb2, (HPK.out.2.below b1).below hb2, hRk, by omega, by omega, by omega⟩
    have hsat2 := hsat.bound.below hb2
    have hap : ∀ k, (k = N ∨ F k) → k ≠ S ∧ k ≠ T ∧ ¬ (C0 k ∧ k < w1.heap.size) ∧ (∀ b, (none : Option Addr) = some b → b.block ≠ k) ∧ k < W2.heap.size := fun k hk => by
      rcases hk with h | h
      · subst h
        exact ⟨by omega, by omega, fun hc => by have := hc.2; omega, fun b hb => (by cases hb), by omega⟩
      · have h1 := hFw _ h
        exact ⟨by omega, by omega, fun hc => by have := hC _ hc.1; omega, fun b hb => (by cases hb), by omega⟩
    have hcall := over1_any (N := N) (P := P) (Q := Q) (R := N + 1) (most := most) HAT.out (fun h => by have := hFw _ h; omega) (fun h => by have := hFw _ h; omega) (fun h => by have := hFw _ h; omega) (fun h => by have := hFw _ h; omega) hmost 32 s0 HWF.out.1 HWF.out.2 (Nat.le_refl _) W2 _ S T [] none 0 0 x hsat2 (fun k hk => Nat.lt_of_lt_of_le hk.2 (by omega)) (Row.nil W2 51 4) (by simp)
      hap
      hov (HAT.out.below (HAT.out.below HI.out b1) hb2) (by omega)
    rw [← HZ.out] at hcall
    simp only at hcall
    have HCALL := Lib.hid hcall
    have HB2 := Lib.hid (below_at HBC.out (below_at b1 hb2))
    have HRK := Lib.hid hRk
    have HNW := Lib.hid (show w.heap.size ≤ N by omega)
    have HN := Lib.hid hN
    have HW2 := Lib.hid (And.intro hWn hW2)
    have hR0 := hRk.cell
    clear hsat hS hT hC b1 HNEW x0 x1 x2 xl hN hWn hW2 hbn hbm hsn hs2 hb2 hNk hRk hcb hw1 hww hlt hFw hov hsat2 hcall
    go_upto_region 7 with fail
    rw [← HN.out, ← HW2.out.1, ← HW2.out.2]
    obtain ⟨r0, rl, _⟩ := hR0
    go_wp2_with fail
    refine HCALL.out.mono ?_
    rintro y w3 ⟨rfl, ho3, hi3, hm3⟩
    obtain ⟨n0, nl, _⟩ := ho3.n.cell
    obtain ⟨p0, pl, _⟩ := ho3.p.cell
    have HI3 := Lib.hid hi3
    have HM3 := Lib.hid (show Mod F w w3 from (Mod.of_below_size HB2.out F).then hm3 (fun k hk e => by rcases e with h | h; (have := HNW.out; omega); exact h))
    clear ho3 hi3 hm3 HCALL r0 rl
    by_cases hfull : most < c
    · have d1 : decide ((most : Int) < (c : Int)) = true := decide_eq_true (by omega)
      have d2 : (most : Int) < (c : Int) := by omega
      go_wp2_with fail
      refine bodyPost_ret (v := .tuple #[.int .i64 0, .int .i64 5]) (by simp [results, Tryz.results98, go_sem]) rfl ?_
      exact ⟨by simp [hfull], HI3.out, HM3.out⟩
    · have d1 : decide ((most : Int) < (c : Int)) = false := decide_eq_false (by omega)
      have d2 : ¬ (most : Int) < (c : Int) := by omega
      go_wp2_with fail
      refine bodyPost_ret (v := .tuple #[.int .i64 (c : Int), .int .i64 0]) (by simp [results, Tryz.results98, go_sem]) rfl ?_
      exact ⟨by simp [hfull], HI3.out, HM3.out⟩
  · have hnew := new_bad Wc p A cap f hpc.1 hpc.2.1 hpc.2.2 hm
    have hout : OverOut w F I at_ p f most x = fun e w' => e = .returned (.tuple #[.int .i64 0, .int .i64 1]) ∧ Below w.heap.size w w' := by
      funext e w'
      unfold OverOut
      rw [if_neg hm]
    rw [hout]
    unfold valP at hnew ⊢
    have HNEW := Lib.hid hnew
    clear hp hF hI hat hWa hX hBa hXl hXe hWb hWc hbA hbB hP hQ hsA hsB hsC hPk hQk hbc hpc hIc hPQ hwP hPl hQl e1 e2 hnew hout hm
    go_enter Tryz.func98, Tryz.ntmps98
    go_upto_region 1 with fail
    rw [← HWC.out.1, ← HWC.out.2.1, ← HWC.out.2.2.1, HE2.out, HE1.out, ← HWC.out.2.2.2]
    clear HWC
    go_wp2_with fail
    refine HNEW.out.mono ?_
    rintro y w1 ⟨rfl, b1⟩
    have HB1 := Lib.hid (below_at HBC.out b1)
    clear b1
    go_wp2_with fail
    refine bodyPost_ret (v := .tuple #[.int .i64 0, .int .i64 1]) (by simp [results, Tryz.results98, go_sem]) rfl ?_
    exact ⟨rfl, HB1.out⟩
end Go.Proofs.YtckdofjpoajblaaGreat
namespace Go.Proofs.YtckdofjpoajblaaGreat
open Go.RowKit
set_option linter.unusedVariables false
namespace Pr
theorem over_inv {α : Type} {at_ : St → List Ev → α → α} {J : α → Prop} (hJ : ∀ s row a, J a → J (at_ s row a)) (most : Nat) : ∀ n s row x, J x.2 → J (over at_ most n s row x).2 := by
  intro n
  induction n with
  | zero =>
    intro s row x h
    simp only [over]
    split
    · exact h
    · exact hJ _ _ _ h
  | succ n ih =>
    intro s row x h
    simp only [over]
    split
    · exact h
    · have go : ∀ (l : List Nat) (y : Nat × α), J y.2 → J (l.foldl (fun y t => over at_ most n (stepS s t) (row ++ [evAt s t]) y) y).2 := by
        intro l
        induction l with
        | nil => intro y hy; exact hy
        | cons t l ih2 => intro y hy; exact ih2 _ (ih _ _ _ hy)
      refine go _ _ ?_
      split
      · exact hJ _ _ _ h
      · exact h
end Pr
theorem Rd.str_not3 {w : World} {A : Option Addr} {ks : List Ky.K} {Z : Nat} {sa : Option Addr} {sb sc : Nat} {x y : Int} {T : TypeId} (h : Rd w 1 A ks.length (ks.map sv)) (hZ : w.heap[Z]? = some (.cells #[.slice sa sb sc, .int .i64 x, .int .i64 y] T (0, 0))) {g o : Nat} (hA : A = some ⟨g, o, none⟩) (hn : 0 < ks.length) : g ≠ Z := by
  obtain ⟨g', o', hA', hg, hc⟩ := h.2 (by omega)
  rw [hA] at hA'
  injection hA' with e
  injection e with e1 e2
  subst e1 e2
  intro e
  subst e
  have h0 := hc 0 (by omega)
  rw [cell_blk hZ, List.getElem?_map, List.getElem?_eq_getElem hn] at h0
  rcases (show o + 0 = 0 ∨ o + 0 = 1 ∨ o + 0 = 2 ∨ 3 ≤ o + 0 by omega) with e | e | e | e
  · rw [e] at h0; simp [sv] at h0
  · rw [e] at h0; simp [sv] at h0
  · rw [e] at h0; simp [sv] at h0
  · rw [Array.getElem?_eq_none (by simpa using e)] at h0; simp [sv] at h0
def WAllOut (w : World) (r : (Nat × Pr.Sm) × Int) (x : Ending) (w' : World) : Prop :=
  ∃ A cap, x = .returned (.tuple #[.agg #[.slice A r.1.2.keys.length cap, .int .i64 r.1.2.runs, .int .i64 r.1.1], .int .i64 r.2]) ∧ Rd w' 1 A r.1.2.keys.length (r.1.2.keys.map sv) ∧ r.1.2.keys.length ≤ cap ∧ cap ≤ maxLen ∧ Below w.heap.size w w'
set_option maxRecDepth 100000 in
set_option maxHeartbeats 4000000 in
theorem walkAll_any (w : World) (p : Pg) (A : Option Addr) (cap : Nat) (f : Int) (most : Nat) (hp : PgIn w p A) (hmost : most ≤ 100000) :
    Calls Tryz.prog 59 #[valP p A cap, .int .i64 f, .int .i64 (most : Int)] w (WAllOut w (Pr.all6 p f most)) := by
  have hmk := @run_makeMap Tryz.prog
  obtain ⟨X, hX⟩ : ∃ z, z = w.heap.size := ⟨_, rfl⟩
  obtain ⟨W1, hW1⟩ : ∃ z, z = w.alloc (Obj.cells #[.int .i64 p.vars, .int .i64 p.mtx, .slice A p.code.length cap] 24) := ⟨_, rfl⟩
  obtain ⟨W2, hW2⟩ : ∃ z, z = W1.alloc (Obj.cells #[.slice none 0 0, .int .i64 0, .int .i64 0] 110) := ⟨_, rfl⟩
  obtain ⟨W3, hW3⟩ : ∃ z, z = W2.alloc (Obj.map #[] 0) := ⟨_, rfl⟩
  obtain ⟨W4, hW4⟩ : ∃ z, z = W3.alloc (Obj.cells #[.map (some (X + 1 + 1))] 140) := ⟨_, rfl⟩
  obtain ⟨W5, hW5⟩ : ∃ z, z = W4.alloc (Obj.cells #[.int .i64 0] 3) := ⟨_, rfl⟩
  have s1 : W1.heap.size = X + 1 := by rw [hW1, World.size_alloc, hX]
  have s2 : W2.heap.size = X + 1 + 1 := by rw [hW2, World.size_alloc, s1]
  have s3 : W3.heap.size = X + 1 + 1 + 1 := by rw [hW3, World.size_alloc, s2]
  have s4 : W4.heap.size = X + 1 + 1 + 1 + 1 := by rw [hW4, World.size_alloc, s3]
  have s5 : W5.heap.size = X + 1 + 1 + 1 + 1 + 1 := by rw [hW5, World.size_alloc, s4]
  have b1 : Below w.heap.size w W1 := by rw [hW1]; exact (Below.refl _ _).alloc (Nat.le_refl _) _
  have b2 : Below W1.heap.size W1 W2 := by rw [hW2]; exact (Below.refl _ _).alloc (Nat.le_refl _) _
  have b3 : Below W2.heap.size W2 W3 := by rw [hW3]; exact (Below.refl _ _).alloc (Nat.le_refl _) _
  have b4 : Below W3.heap.size W3 W4 := by rw [hW4]; exact (Below.refl _ _).alloc (Nat.le_refl _) _
  have b5 : Below W4.heap.size W4 W5 := by rw [hW5]; exact (Below.refl _ _).alloc (Nat.le_refl _) _
  have b25 : Below W2.heap.size W2 W5 := below_at (below_at b3 b4) b5
  have b15 : Below W1.heap.size W1 W5 := below_at b2 b25
  have b05 : Below w.heap.size w W5 := below_at b1 b15
  have hXk : W1.heap[X]? = some (.cells #[.int .i64 p.vars, .int .i64 p.mtx, .slice A p.code.length cap] 24 (0, 0)) := by rw [hW1, hX]; exact heap_alloc_new w _
  have hXk5 := blk_stepW hXk b15
  have hZk : W2.heap[X + 1]? = some (.cells #[.slice none 0 0, .int .i64 0, .int .i64 0] 110 (0, 0)) := by rw [hW2, ← s1]; exact heap_alloc_new W1 _
  have hZk5 := blk_stepW hZk b25
  have hBk : MapAt Tryz.keyS W5 (X + 1 + 1) [] := by
    have : MapAt Tryz.keyS W3 (X + 1 + 1) [] := by rw [hW3, ← s2]; exact MapAt.made Tryz.keyS W2 0
    exact this.move ((below_at b4 b5).block _ this.lt)
  have hMk : CellAt W5 (X + 1 + 1 + 1) (.map (some (X + 1 + 1))) := by
    have : CellAt W4 (X + 1 + 1 + 1) (.map (some (X + 1 + 1))) := by rw [hW4, ← s3]; exact cellAt_new W3 _ _
    exact this.below b5
  have hRk : CellAt W5 (X + 1 + 1 + 1 + 1) (.int .i64 0) := by rw [hW5, ← s4]; exact cellAt_new W4 _ _
  have hI : IAll (X + 1 + 1 + 1 + 1) (X + 1 + 1 + 1) (X + 1 + 1) Pr.sm0 W5 := by
    have e : wrap64 ((Pr.sm0.runs : Nat) : Int) = 0 := IntWalk.wrap64_in _ (by simp [Pr.sm0])
    refine ⟨by rw [e]; exact hRk, hMk, [], hBk, fun k => by simp [Pr.sm0], fun p hp => (by cases hp), Nat.le_refl _⟩
  have hcall := over_any (all_at (X + 1 + 1 + 1 + 1) (X + 1 + 1 + 1) (X + 1 + 1) (by omega) (by omega) (by omega)) W5 p A cap f most Pr.sm0 (hp.below b05) hmost (fun k hk => by rcases hk with h | h | h <;> omega) hI
  have x0 : W5.cell? ⟨X, 0, none⟩ = some (.int .i64 p.vars) := cell_blk hXk5 0
  have x1 : W5.cell? ⟨X, 1, none⟩ = some (.int .i64 p.mtx) := cell_blk hXk5 1
  have x2 : W5.cell? ⟨X, 2, none⟩ = some (.slice A p.code.length cap) := cell_blk hXk5 2
  have xl : X < W5.heap.size := blk_lt hXk5
  have HB := Lib.hid b05
  have HW := Lib.hid (And.intro hX (And.intro hW1 (And.intro hW2 (And.intro hW3 (And.intro hW4 hW5)))))
  have HZK := Lib.hid hZk5
  have HXW := Lib.hid (Nat.le_of_eq hX.symm)
  have HS5 := Lib.hid s5
  by_cases hm : Pr.may p f
  · obtain ⟨⟨c, a⟩, hz⟩ : ∃ z, z = Pr.over Pr.at6 most 32 (Pr.start p f.toNat) [] (0, Pr.sm0) := ⟨_, rfl⟩
    have hgd := Pr.over_good most 32 (Pr.start p f.toNat) [] (0, Pr.sm0) ⟨Nat.le_refl _, Nat.le_refl _, Nat.le_refl _⟩
    have hcb := Pr.over_bound Pr.at6 most 32 (Pr.start p f.toNat) [] (0, Pr.sm0) (Pr.start_wf hm.1 (by have := hm.2.1; have := hm.2.2; omega))
    have hstr := Pr.over_inv (at_ := Pr.at6) (J := fun a => Ky.Strict a.keys) (fun s row a h => Ky.insG_strict h _) most 32 (Pr.start p f.toNat) [] (0, Pr.sm0) List.Pairwise.nil
    rw [← hz] at hgd hcb hstr
    simp only at hstr
    have hgd1 := hgd.1
    have hgd2 := hgd.2.1
    simp only at hgd1 hgd2 hcb
    have hst : a.runs ≤ 200000 := by omega
    have hkl : a.keys.length ≤ 200000 := by omega
    have hres : Pr.all6 p f most = if most < c then ((0, Pr.sm0), 5) else ((c, a), 0) := by unfold Pr.all6; rw [if_pos hm, ← hz]
    unfold OverOut at hcall
    simp only [if_pos hm, ← hz] at hcall
    unfold valP at hcall ⊢
    have HSTR := Lib.hid hstr
    by_cases hfull : most < c
    · rw [hres, if_pos hfull]
      simp only [if_pos hfull] at hcall
      have HCALL := Lib.hid hcall
      clear hp hX hW1 hW2 hW3 hW4 hW5 s1 s2 s3 s4 s5 b1 b2 b3 b4 b5 b25 b15 b05 hXk hXk5 hZk hZk5 hBk hMk hRk hI hcall hm hz hgd hcb hstr hgd1 hgd2 hres hfull
      go_enter Tryz.func59, Tryz.ntmps59
      go_upto_region 3 with fail
      rw [← HW.out.1, ← HW.out.2.1, ← HW.out.2.2.1, ← HW.out.2.2.2.1, ← HW.out.2.2.2.2.1, ← HW.out.2.2.2.2.2]
      clear HW
      go_wp2_with fail
      refine HCALL.out.mono ?_
      rintro y w3 ⟨rfl, hi3, hm3⟩
      have hZ3 := (hm3.block (X + 1) (blk_lt HZK.out) (fun h => by rcases h with h | h | h <;> omega)).trans HZK.out
      have HM := Lib.hid (HB.out.trans (hm3.below _ HB.out.size (fun k hk e => by have := HXW.out; rcases e with h | h | h <;> omega)))
      obtain ⟨V2, hV2, d0, d1, d2, hmv⟩ := pg_exit hZ3 (.slice none 0 0) (.int .i64 0) (.int .i64 0)
      have z0 : w3.cell? ⟨X + 1, 0, none⟩ = some (.slice none 0 0) := cell_blk hZ3 0
      have z1 : w3.cell? ⟨X + 1, 1, none⟩ = some (.int .i64 0) := cell_blk hZ3 1
      have z2 : w3.cell? ⟨X + 1, 2, none⟩ = some (.int .i64 0) := cell_blk hZ3 2
      have zl := blk_lt hZ3
      have g0 := free_blk hZ3 0
      have g1 := free_blk hZ3 1
      have g2 := free_blk hZ3 2
      have HV2 := Lib.hid hV2
      have HMV := Lib.hid hmv
      clear hi3 hm3 hV2 hmv hZ3 x0 x1 x2 xl
      go_wp2_with fail
      rw [← HV2.out]
      refine bodyPost_ret (v := .tuple #[.agg #[.slice none 0 0, .int .i64 0, .int .i64 0], .int .i64 5]) (by simp [results, Tryz.results59, go_sem, d0, d1, d2]) rfl ?_
      exact ⟨none, 0, rfl, (Row.nil V2 9 1).rd, Nat.le_refl _, Nat.zero_le _, HM.out.trans (HMV.out.below _ HM.out.size (fun k hk e => by have := HXW.out; omega))⟩
    · rw [hres, if_neg hfull]
      simp only [if_neg hfull] at hcall
      have HCALL := Lib.hid hcall
      clear hp hX hW1 hW2 hW3 hW4 hW5 s1 s2 s3 s4 s5 b1 b2 b3 b4 b5 b25 b15 b05 hXk hXk5 hZk hZk5 hBk hMk hRk hI hcall hm hz hgd hcb hstr hgd1 hgd2 hres hfull
      go_enter Tryz.func59, Tryz.ntmps59
      go_upto_region 3 with fail
      rw [← HW.out.1, ← HW.out.2.1, ← HW.out.2.2.1, ← HW.out.2.2.2.1, ← HW.out.2.2.2.2.1, ← HW.out.2.2.2.2.2]
      clear HW
      go_wp2_with fail
      refine HCALL.out.mono ?_
      rintro y w3 ⟨rfl, hi3, hm3⟩
      have hZ3 := (hm3.block (X + 1) (blk_lt HZK.out) (fun h => by rcases h with h | h | h <;> omega)).trans HZK.out
      have HM := Lib.hid (HB.out.trans (hm3.below _ HB.out.size (fun k hk e => by have := HXW.out; rcases e with h | h | h <;> omega)))
      obtain ⟨hi1, hi2, mm, hmp, hmk1, hmk2, hmk3⟩ := hi3
      rw [IntWalk.wrap64_in _ (by omega)] at hi1
      have HI1 := Lib.hid hi1
      have HI2 := Lib.hid hi2
      have HMP := Lib.hid (And.intro hmp (And.intro hmk1 (And.intro hmk2 hmk3)))
      have HZ3 := Lib.hid hZ3
      clear hm3 hi1 hi2 hmp hmk1 hmk2 hmk3 hZ3 x0 x1 x2 xl
      go_upto_region 6 with fail
      refine wp_region_planF (by kernel_rfl) (fun u => Below w3.heap.size w3 u) [6] [(0, .load), (3, .load), (4, .pure), (1, .eff), (2, .eff), (5, .pure), (6, .last), (7, .pure)] (by simp only [List.map_cons, List.map_nil, List.getElem?_toArray, List.getElem?_cons_succ, List.getElem?_cons_zero]; rfl) (by kernel_rfl) (fun _ _ d _ _ h => by cases d <;> exact h) ((Below.refl _ _).drew) ?_
      obtain ⟨v1, hv1⟩ : ∃ z, z = w3.drew := ⟨_, rfl⟩
      rw [← hv1]
      have hbv : Below w3.heap.size w3 v1 := by rw [hv1]; exact (Below.refl _ _).drew
      have HBV := Lib.hid hbv
      clear hv1 hbv
      repeat (first
        | (refine plan_pure (v := ?_) (by rfl) (fun w1 => ?_) ?_
           rotate_left
           · go_simp <;> with_reducible rfl
           simp only [Act.put, List.setIfInBounds_toArray, List.set_cons_zero, List.set_cons_succ])
        | (refine plan_off (by rfl) ?_
           simp only [Act.put, List.setIfInBounds_toArray, List.set_cons_zero, List.set_cons_succ])
        | (refine plan_load_off (by rfl) ?_
           simp only [Act.put, List.setIfInBounds_toArray, List.set_cons_zero, List.set_cons_succ])
        | (refine plan_load (v := ?_) (by rfl) (fun w1 hw1 => ?_) ?_
           rotate_left
           · (have q1 := (HI1.out.below hw1).cell
              obtain ⟨q1, q2, _⟩ := q1
              have q3 := (HI2.out.below hw1).cell
              obtain ⟨q3, q4, _⟩ := q3
              clear hw1
              go_simp <;> with_reducible rfl)
           simp only [Act.put, List.setIfInBounds_toArray, List.set_cons_zero, List.set_cons_succ]))
      refine plan_eff ?_
      go_wp2_with fail
      refine (mapKeys_any (some (X + 1 + 1)) v1).mono ?_
      rintro y v2 ⟨rfl, hv2⟩
      have hmp1 : MapAt Tryz.keyS v1 (X + 1 + 1) mm := HMP.out.1.move (HBV.out.block _ HMP.out.1.lt)
      have hsort := sortedMap_any v1 (X + 1 + 1) mm hmp1 (by have := HMP.out.2.2.2; omega) (fun p hp => Nat.le_trans (HMP.out.2.2.1 p hp) (by unfold maxLen; omega)) a.keys HMP.out.2.1
      rw [Ky.gather_again HSTR.out, ← hv2] at hsort
      have HSORT := Lib.hid hsort
      have HB2 := Lib.hid (show Below w3.heap.size w3 v2 by rw [hv2]; exact HBV.out.alloc HBV.out.size _)
      clear hmp1 hsort hv2
      go_wp2_with fail
      refine plan_on (fun _ h => h) HB2.out ?_
      repeat (first
        | (refine plan_pure (v := ?_) (by rfl) (fun w1 => ?_) ?_
           rotate_left
           · go_simp <;> with_reducible rfl
           simp only [Act.put, List.setIfInBounds_toArray, List.set_cons_zero, List.set_cons_succ])
        | (refine plan_off (by rfl) ?_
           simp only [Act.put, List.setIfInBounds_toArray, List.set_cons_zero, List.set_cons_succ])
        | (refine plan_load_off (by rfl) ?_
           simp only [Act.put, List.setIfInBounds_toArray, List.set_cons_zero, List.set_cons_succ])
        | (refine plan_load (v := ?_) (by rfl) (fun w1 hw1 => ?_) ?_
           rotate_left
           · (skip
              clear hw1
              go_simp <;> with_reducible rfl)
           simp only [Act.put, List.setIfInBounds_toArray, List.set_cons_zero, List.set_cons_succ]))
      refine plan_eff ?_
      go_wp2_with fail
      refine HSORT.out.mono ?_
      rintro y v3 ⟨A3, c3, rfl, ⟨r3, l3, u3⟩, b3⟩
      have HB3 := Lib.hid (below_at HB2.out b3)
      have HR3 := Lib.hid (And.intro r3 (And.intro l3 u3))
      clear r3 l3 u3 b3 HSORT
      go_wp2_with fail
      refine plan_on (fun _ h => h) HB3.out ?_
      repeat (first
        | (refine plan_pure (v := ?_) (by rfl) (fun w1 => ?_) ?_
           rotate_left
           · go_simp <;> with_reducible rfl
           simp only [Act.put, List.setIfInBounds_toArray, List.set_cons_zero, List.set_cons_succ])
        | (refine plan_off (by rfl) ?_
           simp only [Act.put, List.setIfInBounds_toArray, List.set_cons_zero, List.set_cons_succ])
        | (refine plan_load_off (by rfl) ?_
           simp only [Act.put, List.setIfInBounds_toArray, List.set_cons_zero, List.set_cons_succ])
        | (refine plan_load (v := ?_) (by rfl) (fun w1 hw1 => ?_) ?_
           rotate_left
           · (skip
              clear hw1
              go_simp <;> with_reducible rfl)
           simp only [Act.put, List.setIfInBounds_toArray, List.set_cons_zero, List.set_cons_succ]))
      have hZ9 := blk_stepW HZ3.out HB3.out
      obtain ⟨V2, hV2, d0, d1, d2, hmv⟩ := pg_exit hZ9 (.slice A3 a.keys.length c3) (.int .i64 a.runs) (.int .i64 c)
      have z0 : v3.cell? ⟨X + 1, 0, none⟩ = some (.slice none 0 0) := cell_blk hZ9 0
      have z1 : v3.cell? ⟨X + 1, 1, none⟩ = some (.int .i64 0) := cell_blk hZ9 1
      have z2 : v3.cell? ⟨X + 1, 2, none⟩ = some (.int .i64 0) := cell_blk hZ9 2
      have zl := blk_lt hZ9
      have g0 := free_blk hZ9 0
      have g1 := free_blk hZ9 1
      have g2 := free_blk hZ9 2
      have HV2 := Lib.hid hV2
      have HMV := Lib.hid hmv
      have HZ9 := Lib.hid hZ9
      clear hV2 hmv hZ9
      refine plan_last ?_
      go_wp2_with fail
      repeat (first
        | (refine plan_pure (v := ?_) (by rfl) (fun w1 => ?_) ?_
           rotate_left
           · go_simp <;> with_reducible rfl
           simp only [Act.put, List.setIfInBounds_toArray, List.set_cons_zero, List.set_cons_succ])
        | (refine plan_off (by rfl) ?_
           simp only [Act.put, List.setIfInBounds_toArray, List.set_cons_zero, List.set_cons_succ])
        | (refine plan_load_off (by rfl) ?_
           simp only [Act.put, List.setIfInBounds_toArray, List.set_cons_zero, List.set_cons_succ])
        | (refine plan_load (v := ?_) (by rfl) (fun w1 hw1 => ?_) ?_
           rotate_left
           · (skip
              clear hw1
              go_simp <;> with_reducible rfl)
           simp only [Act.put, List.setIfInBounds_toArray, List.set_cons_zero, List.set_cons_succ]))
      refine plan_end ?_
      rw [← HV2.out]
      go_wp2_with fail
      refine bodyPost_ret (v := .tuple #[.agg #[.slice A3 a.keys.length c3, .int .i64 a.runs, .int .i64 c], .int .i64 0]) (by simp [results, Tryz.results59, go_sem, d0, d1, d2]) rfl ?_
      refine ⟨A3, c3, rfl, ?_, HR3.out.2.1, HR3.out.2.2, (below_at HM.out HB3.out).trans (HMV.out.below _ (below_at HM.out HB3.out).size (fun k hk e => by have := HXW.out; omega))⟩
      refine ⟨HR3.out.1.1, fun hp => ?_⟩
      obtain ⟨g, o, hA, hgl, hcc⟩ := HR3.out.1.2 hp
      have hne : g ≠ X + 1 := HR3.out.1.str_not3 HZ9.out hA (by simp only at hp; omega)
      exact ⟨g, o, hA, Nat.lt_of_lt_of_le hgl HMV.out.size, fun j hj => (HMV.out.cell g (o + j) hgl hne).trans (hcc j hj)⟩
  · have hres : Pr.all6 p f most = ((0, Pr.sm0), 1) := by unfold Pr.all6; rw [if_neg hm]
    unfold OverOut at hcall
    simp only [if_neg hm] at hcall
    unfold valP at hcall ⊢
    rw [hres]
    have HCALL := Lib.hid hcall
    clear hp hX hW1 hW2 hW3 hW4 hW5 s1 s2 s3 s4 s5 b1 b2 b3 b4 b5 b25 b15 b05 hXk hXk5 hZk hZk5 hBk hMk hRk hI hcall hm hres
    go_enter Tryz.func59, Tryz.ntmps59
    go_upto_region 3 with fail
    rw [← HW.out.1, ← HW.out.2.1, ← HW.out.2.2.1, ← HW.out.2.2.2.1, ← HW.out.2.2.2.2.1, ← HW.out.2.2.2.2.2]
    clear HW
    go_wp2_with fail
    refine HCALL.out.mono ?_
    rintro y w3 ⟨rfl, b3⟩
    have hZ3 := blk_stepW HZK.out b3
    have HM := Lib.hid (below_at HB.out b3)
    obtain ⟨V2, hV2, d0, d1, d2, hmv⟩ := pg_exit hZ3 (.slice none 0 0) (.int .i64 0) (.int .i64 0)
    have z0 : w3.cell? ⟨X + 1, 0, none⟩ = some (.slice none 0 0) := cell_blk hZ3 0
    have z1 : w3.cell? ⟨X + 1, 1, none⟩ = some (.int .i64 0) := cell_blk hZ3 1
    have z2 : w3.cell? ⟨X + 1, 2, none⟩ = some (.int .i64 0) := cell_blk hZ3 2
    have zl := blk_lt hZ3
    have g0 := free_blk hZ3 0
    have g1 := free_blk hZ3 1
    have g2 := free_blk hZ3 2
    have HV2 := Lib.hid hV2
    have HMV := Lib.hid hmv
    clear b3 hV2 hmv hZ3 x0 x1 x2 xl
    go_wp2_with fail
    rw [← HV2.out]
    refine bodyPost_ret (v := .tuple #[.agg #[.slice none 0 0, .int .i64 0, .int .i64 0], .int .i64 1]) (by simp [results, Tryz.results59, go_sem, d0, d1, d2]) rfl ?_
    exact ⟨none, 0, rfl, (Row.nil V2 9 1).rd, Nat.le_refl _, Nat.zero_le _, HM.out.trans (HMV.out.below _ HM.out.size (fun k hk e => by have := HXW.out; omega))⟩
end Go.Proofs.YtckdofjpoajblaaGreat
namespace Go.Proofs.YtckdofjpoajblaaGreat
open Go.RowKit
set_option linter.unusedVariables false
namespace Pr
theorem all6_ok {p : Pg} {f : Int} {most : Nat} (h : (all6 p f most).2 = 0) : ∃ m : Nat, f = m ∧ m ≤ 8 ∧ Ok p ∧ cnt 32 (start p m) ≤ most := by
  unfold all6 at h
  by_cases hm : may p f
  · rw [if_pos hm] at h
    obtain ⟨m, rfl⟩ : ∃ m : Nat, f = m := ⟨f.toNat, by have := hm.2.1; omega⟩
    refine ⟨m, rfl, by have := hm.2.2; omega, hm.1, ?_⟩
    rw [Int.toNat_natCast] at h
    by_cases hc : 0 + cnt 32 (start p m) ≤ most
    · omega
    · have := over_full at6 most 32 (start p m) [] (0, sm0) (by simp only; omega)
      simp only at h
      rw [if_pos this] at h
      cases h
  · rw [if_neg hm] at h
    cases h
end Pr
def FindOut (w : World) (r : Option Pr.Nd) (x : Ending) (w' : World) : Prop :=
  match r with
  | none => x = .returned (.tuple #[.slice none 0 0, .bool false, .int .i64 0]) ∧ Below w.heap.size w w'
  | some d => ∃ A c, x = .returned (.tuple #[.slice A d.w.length c, .bool true, .int .i64 0]) ∧ Rd w' 1 A d.w.length (d.w.map iv) ∧ Below w.heap.size w w'
def lenAt (v : Value) (w : World) : Nat :=
  match v with
  | .slice (some a) n _ => if n = 0 then 0 else match w.cell? ⟨a.block, a.off + 1, none⟩ with
    | some (.slice _ m _) => 34 - m
    | _ => 0
  | _ => 0
theorem lenAt_node {V : World} {D : Nat → Prop} {B : Option Addr} {cb n k : Nat} {xs : List Nc} {s0 : St} (h : NodesAt V D B cb xs) (hn : n = xs.length) (h0 : n ≠ 0) (hl : Pr.Lvl s0 k (xs.map Nc.d)) : lenAt (.slice B n cb) V = 34 - k := by
  obtain ⟨x, hx⟩ := get_some (show 0 < xs.length by omega)
  obtain ⟨g, o, rfl, hg, hnd, _, _⟩ := h.node hx (Below.refl _ _)
  have h1 := hnd.2.1
  rw [Nat.zero_mul, Nat.add_zero] at h1
  have hw := hl.way x.d (List.mem_map.2 ⟨x, List.mem_of_getElem? hx, rfl⟩)
  unfold lenAt
  simp only [if_neg h0, h1, hw]
theorem lenAt_le {V : World} {D : Nat → Prop} {B : Option Addr} {cb n k : Nat} {xs : List Nc} {s0 : St} (h : NodesAt V D B cb xs) (hn : n = xs.length) (hl : Pr.Lvl s0 k (xs.map Nc.d)) : lenAt (.slice B n cb) V ≤ 34 - k := by
  by_cases h0 : n = 0
  · subst h0
    cases B <;> simp [lenAt]
  · exact Nat.le_of_eq (lenAt_node h hn h0 hl)
theorem NodesAt.below_row {w : World} {C : Nat → Prop} {B : Option Addr} {cap : Nat} {xs : List Nc} (h : NodesAt w C B cap xs) : ∀ a, B = some a → a.block < w.heap.size := fun a ha => by subst ha; exact h.1.lt
theorem NodesAt.kid {P v u : World} {D : Nat → Prop} {Z : Option Addr} {nz cz g9 o9 c9 g13 o13 c13 S' T' : Nat} {zs : List Nc} {d : Pr.Nd} {t : Nat} {et ek eo : Int} {ef : Bool} (h : NodesAt P D Z cz zs) (hb : Below P.heap.size P v)
    (hs : SAt v D S' T' (Pr.stepS d.s t)) (h9 : Row v 3 1 (some ⟨g9, o9, none⟩) (d.w.length + 1) c9 (d.w.map iv ++ [.int .i64 (t : Int)])) (hg9 : P.heap.size ≤ g9) (hST : P.heap.size ≤ S' ∧ P.heap.size ≤ T')
    (he : Pr.evAt d.s t = ⟨et, ek, eo, ef⟩) (hnz : zs.length = nz) (hown : Row u 104 6 (some ⟨g13, o13, none⟩) (nz + 1) c13 (zs.flatMap encNc ++ [.pointer (some ⟨S', 0, none⟩), .slice (some ⟨g9, o9, none⟩) (d.w.length + 1) c9, .int .i64 et, .int .i64 ek, .int .i64 eo, .bool ef]))
    (hm : Mod (fun k => ∃ a, Z = some a ∧ k = a.block) v u) (hat : (∃ a, Z = some a ∧ g13 = a.block) ∨ v.heap.size ≤ g13) (hC : ∀ k, D k → offB Z k) : NodesAt u D (some ⟨g13, o13, none⟩) c13 (zs ++ [⟨S', T', c9, some ⟨g9, o9, none⟩, Pr.kidN d t⟩]) := by
  have hZl : ∀ a, Z = some a → a.block < P.heap.size := fun a ha => by subst ha; exact h.1.lt
  refine h.snoc (w8 := v) hb ⟨hs, ?_, fun a ha => ?_, fun a ha => ?_⟩ ?_ hm hat hC
  · have hr := row_toC (C := offB Z) h9 (fun a ha a' ha' => by injection ha with ha; subst ha; have h1 := hZl a' ha'; simp only; omega)
    simpa [Pr.kidN, iv] using hr
  · have h1 := hZl a ha; have h2 := hST.1; simp only; omega
  · have h1 := hZl a ha; have h2 := hST.2; simp only; omega
  · rw [hnz]
    simpa [encNc, Pr.kidN, he] using hown
set_option maxRecDepth 100000 in
set_option maxHeartbeats 8000000 in
theorem find_ok {G : Nat} {caps : Array Value} {is : Pr.Nd → Bool} (w : World) (p : Pg) (A : Option Addr) (cap m most : Nat) (hp : PgIn w p A) (hmost : most ≤ 100000) (his : IsS G caps w is) (hm8 : m ≤ 8) (hok : Pr.Ok p) (hcnt : Pr.cnt 32 (Pr.start p m) ≤ most) (h6 : (Pr.all6 p m most).2 = 0) :
    Calls Tryz.prog 54 #[valP p A cap, .int .i64 (m : Int), .int .i64 (most : Int), .func (.func G) #[] caps] w (FindOut w (Pr.leastN is (Pr.start p m))) := by
  obtain ⟨i0, hi0, hz0, hz1, hz2⟩ := info_parts Tryz.infoWay
  obtain ⟨j0, hj0, hjz0, hjz1, hjz2⟩ := info_parts Tryz.infoInt
  obtain ⟨Wa, X, hWa, hX, hBa, hXl, hXe⟩ := pg_box w p.vars p.mtx A p.code.length cap
  have hpa := hp.below hBa
  have hall : Calls Tryz.prog 59 #[valP p A cap, .int .i64 (m : Int), .int .i64 (most : Int)] Wa fun x w' => (∃ (A' : Option Addr) (n c' r k : Nat), x = .returned (.tuple #[.agg #[.slice A' n c', .int .i64 r, .int .i64 k], .int .i64 0])) ∧ Below Wa.heap.size Wa w' := (walkAll_any Wa p A cap m most hpa hmost).mono fun x w' ⟨A', c', hx, _, _, _, hb⟩ => ⟨⟨A', (Pr.all6 p m most).1.2.keys.length, c', (Pr.all6 p m most).1.2.runs, (Pr.all6 p m most).1.1, by rw [hx, h6]⟩, hb⟩
  have hnew : ∀ u, Below Wa.heap.size Wa u → _ := fun u hu => new_ok u p A cap m (hpa.below hu).1 hok hm8
  obtain ⟨s0, hs0⟩ : ∃ z, z = Pr.start p m := ⟨_, rfl⟩
  have hw0 : Pr.Wf s0 := by rw [hs0]; exact Pr.start_wf hok hm8
  have hf0 : Pr.fuels s0 ≤ 32 := by rw [hs0]; exact Pr.fuels_start hok hm8
  rw [← hs0] at hcnt hnew
  rw [← hs0]
  obtain ⟨res, hres⟩ : ∃ r, r = Pr.leastN is s0 := ⟨_, rfl⟩
  rw [← hres]
  unfold valP at hall hnew ⊢
  have HALL := Lib.hid hall
  have HNEW := Lib.hid hnew
  have HXE := Lib.hid hXe
  have HB := Lib.hid hBa
  have HIS := Lib.hid his
  have HRES := Lib.hid hres
  have HW0 := Lib.hid hw0
  have HF0 := Lib.hid hf0
  have HCN := Lib.hid hcnt
  obtain ⟨x0, x1, x2, xl⟩ := hXe Wa (Below.refl _ _)
  clear hall hnew hXe hBa his hres hw0 hf0 hcnt hs0 hpa hp h6 hok
  go_enter Tryz.func54, Tryz.ntmps54
  go_upto_region 1 with fail
  rw [← hWa, ← hX]
  clear hWa hX
  go_wp2_with fail
  refine HALL.out.mono ?_
  rintro y w1 ⟨⟨A1, n1, c1, r1, k1, rfl⟩, b1⟩
  obtain ⟨W2, hW2⟩ : ∃ z, z = w1.alloc (Obj.cells #[.slice A1 n1 c1, .int .i64 r1, .int .i64 k1] 110) := ⟨_, rfl⟩
  have hb2 : Below Wa.heap.size Wa W2 := by rw [hW2]; exact b1.alloc b1.size _
  have HB2 := Lib.hid hb2
  clear b1 hb2 HALL x0 x1 x2 xl
  go_upto_region 4 with fail
  rw [← hW2]
  clear hW2
  obtain ⟨x0, x1, x2, xl⟩ := HXE.out W2 HB2.out
  go_wp2_with fail
  refine (HNEW.out W2 HB2.out).mono ?_
  rintro y w3 ⟨S0, T0, C, rfl, hS0, _, _, hC0, b3⟩
  have HB3 := Lib.hid (below_at HB2.out b3)
  have HC0 : Hid (∀ k, (C k ∧ k < w3.heap.size) → k < w3.heap.size) := Lib.hid fun k hk => hk.2
  have HS0 := Lib.hid hS0.bound
  obtain ⟨D, hD⟩ : ∃ D, D = fun k => C k ∧ k < w3.heap.size := ⟨_, rfl⟩
  rw [← hD] at HS0
  have HDL : Hid (∀ k, D k → k < w3.heap.size) := Lib.hid (by rw [hD]; exact fun k hk => hk.2)
  clear b3 hS0 HC0 hC0 hD HNEW x0 x1 x2 xl
  go_upto_block 0 with fail
  obtain ⟨W4, hW4⟩ : ∃ z, z = w3.alloc (Obj.cells #[.pointer (some ⟨S0, 0, none⟩), .slice none 0 0, .int .i64 0, .int .i64 0, .int .i64 0, .bool false] 104) := ⟨_, rfl⟩
  obtain ⟨g0, hg0⟩ : ∃ z, z = w3.heap.size := ⟨_, rfl⟩
  rw [← hW4, ← hg0]
  have hk4 : W4.heap[g0]? = some (.cells #[.pointer (some ⟨S0, 0, none⟩), .slice none 0 0, .int .i64 0, .int .i64 0, .int .i64 0, .bool false] 104 (0, 0)) := by rw [hW4, hg0]; exact heap_alloc_new w3 _
  have hb4 : Below w3.heap.size w3 W4 := by rw [hW4]; exact (Below.refl _ _).alloc (Nat.le_refl _) _
  have hgs : g0 = w3.heap.size := hg0
  clear hW4 hg0
  have hx0 : NodesAt W4 D (some ⟨g0, 0, none⟩) 1 [⟨S0, T0, 0, none, Pr.node0 s0⟩] := by
    refine ⟨⟨rfl, Nat.le_refl _, by simp [maxLen], fun h => (by cases h), fun a ha => ?_⟩, fun x hx => ?_⟩
    · injection ha with ha
      subst ha
      exact ⟨rfl, _, hk4, Nat.le_refl _, rfl⟩
    · rw [List.mem_singleton.1 hx]
      have hlt := HS0.out.lt
      refine ⟨HS0.out.below hb4, ⟨rfl, fun h => by simp [Pr.node0] at h⟩, fun a ha => ?_, fun a ha => ?_⟩ <;> (injection ha with ha; subst ha; simp only; omega)
  have hr0 : res = Pr.bfs is (33 - 0) [Pr.node0 s0] := HRES.out
  have HX0 := Lib.hid hx0
  have HR0 := Lib.hid hr0
  have HL0 := Lib.hid (Pr.Lvl.start HW0.out)
  have HB4 := Lib.hid (below_at HB3.out hb4)
  have HD4 : Hid (∀ k, D k → k < W4.heap.size) := Lib.hid fun k hk => Nat.lt_of_lt_of_le (HDL.out k hk) hb4.size
  clear hx0 hr0 hk4 hb4 hgs HS0 HRES HDL HB3 HB2 HXE
  go_wp2_with fail
  go_loopw [15] (fun v wr => ∃ (k n cb : Nat) (B : Option Addr) (xs : List Nc), n ≤ 100000 ∧ v = .slice B n cb ∧ Hid (n = xs.length) ∧ Hid (Pr.Lvl s0 k (xs.map Nc.d)) ∧ Hid (res = Pr.bfs is (33 - k) (xs.map Nc.d)) ∧ Hid (NodesAt wr D B cb xs) ∧ Hid (Below W4.heap.size W4 wr)) (fun v wr => lenAt v wr)
  case atStart => exact ⟨0, 1, 1, some ⟨g0, 0, none⟩, [⟨S0, T0, 0, none, Pr.node0 s0⟩], by omega, rfl, Lib.hid rfl, HL0, HR0, HX0, Lib.hid (Below.refl _ _)⟩
  case round =>
    clear HX0 HR0 HL0
    obtain ⟨k, n, cb, B, xs, hn, rfl, HN, HL, HR, HX, HBR⟩ := hrel
    rename World => V
    by_cases h0 : n = 0
    · subst h0
      have hxs : xs = [] := List.length_eq_zero_iff.1 HN.out.symm
      have hr : res = none := by rw [HR.out, hxs]; exact Pr.bfs_nil is _
      subst hr
      clear hxs
      go_wp2_with fail
      exact bodyPost_ret (v := .tuple #[.slice none 0 0, .bool false, .int .i64 0]) (by simp [results, Tryz.results54, go_sem]) rfl ⟨rfl, below_at HB.out (below_at HB4.out HBR.out)⟩
    · have hpos : (0 : Int) < (n : Int) := by omega
      have hk : k ≤ 32 := by
        obtain ⟨x, hx⟩ := get_some (show 0 < xs.length by have := HN.out; omega)
        have h1 := HL.out.fuel x.d (List.mem_map.2 ⟨x, List.mem_of_getElem? hx, rfl⟩)
        have h2 := HF0.out
        omega
      have hr : res = match (xs.map Nc.d).find? is with | some d => some d | none => Pr.bfs is (32 - k) ((xs.map Nc.d).flatMap Pr.kids_) := by
        rw [HR.out, show 33 - k = (32 - k) + 1 by omega]; rfl
      have HR1 := Lib.hid hr
      have HK := Lib.hid hk
      have H0 := Lib.hid h0
      clear hr hk h0 HR
      go_wp2_with fail
      go_loopw [51, 16] (fun iv nx wz => ∃ (i ny cb' : Nat) (B' : Option Addr) (ys : List Nc), i ≤ n ∧ ny ≤ 4 * i ∧ iv = .int .i64 i ∧ nx = .slice B' ny cb' ∧ Hid (ny = ys.length) ∧ Hid (ys.map Nc.d = ((xs.map Nc.d).take i).flatMap Pr.kids_) ∧ Hid (((xs.map Nc.d).take i).find? is = none) ∧ Hid (NodesAt wz D B' cb' ys) ∧ Hid (∀ a, B' = some a → V.heap.size ≤ a.block) ∧ Hid (Below V.heap.size V wz)) (fun iv _ _ => n - (intOf iv).toNat)
      case atStart => exact ⟨0, 0, 0, none, [], Nat.zero_le _, Nat.le_refl _, rfl, rfl, Lib.hid rfl, Lib.hid rfl, Lib.hid rfl, Lib.hid (NodesAt.nil _ _), Lib.hid (fun a ha => by cases ha), Lib.hid (Below.refl _ _)⟩
      case round =>
        obtain ⟨i, ny, cb', B', ys, hi, hny, rfl, rfl, HNY, HYS, HNF, HY, HBY, HBZ⟩ := hrel
        rename World => U
        by_cases hlt : i < n
        · obtain ⟨x, hx⟩ := get_some (show i < xs.length by rw [← HN.out]; exact hlt)
          obtain ⟨g, o, rfl, hg, hnd, hsx, hrd⟩ := HX.out.node hx HBZ.out
          have hmem : x.d ∈ xs.map Nc.d := List.mem_map.2 ⟨x, List.mem_of_getElem? hx, rfl⟩
          have hwx := HL.out.wf x.d hmem
          have hcall := HIS.out.call U D x.S x.T g (o + i * 6) x.d x.WA x.wc (below_at HB.out (below_at HB4.out (below_at HBR.out HBZ.out))) hsx hwx hnd
          obtain ⟨b, hb⟩ : ∃ b, b = is x.d := ⟨_, rfl⟩
          rw [← hb] at hcall
          have htk : (xs.map Nc.d).take (i + 1) = (xs.map Nc.d).take i ++ [x.d] := by rw [List.take_add_one, List.getElem?_map, hx]; rfl
          have hfd : ((xs.map Nc.d).take (i + 1)).find? is = if b = true then some x.d else none := by
            rw [htk, List.find?_append, HNF.out, hb]
            cases hxd : is x.d <;> simp [List.find?, hxd]
          have hfd2 : b = true → (xs.map Nc.d).find? is = some x.d := fun hbt => by
            rw [← List.take_append_drop (i + 1) (xs.map Nc.d), List.find?_append, hfd, if_pos hbt]; rfl
          have k1 : (0 : Int) ≤ (i : Int) := Int.natCast_nonneg _
          have k2 : (i : Int) < (n : Int) := by omega
          have HCALL := Lib.hid hcall
          have HND := Lib.hid hnd
          have HSX := Lib.hid hsx
          have HXM := Lib.hid (List.mem_of_getElem? hx)
          have HRD : Hid (Rd U 1 x.WA x.d.w.length (x.d.w.map iv)) := Lib.hid ⟨hrd.1, fun h0 => by obtain ⟨g2, o2, h1, h2, h3⟩ := hrd.2 h0; exact ⟨g2, o2, h1, Nat.lt_of_lt_of_le h2 HBZ.out.size, h3⟩⟩
          have HWX := Lib.hid hwx
          have HTK := Lib.hid htk
          have HFD := Lib.hid hfd
          have HFD2 := Lib.hid hfd2
          have HG := Lib.hid hg
          clear hcall hnd hsx hrd hwx htk hfd hfd2 hmem hx hb hg
          go_wp2_with fail
          rw [HIS.out.enters, Oper.upon_enter]
          refine HCALL.out.mono ?_
          rintro y u1 ⟨rfl, b1⟩
          have HND1 := Lib.hid (HND.out.block (b1.block g HND.out.2.2.2.2.2.2) b1.size)
          have HB1 := Lib.hid b1
          clear b1 HCALL
          obtain ⟨c0, c1, _, _, _, _, cl⟩ := HND1.out
          cases b with
          | true =>
            have hr : res = some x.d := by rw [HR1.out, HFD2.out rfl]
            subst hr
            go_wp2_with fail
            exact bodyPost_ret (v := .tuple #[.slice x.WA x.d.w.length x.wc, .bool true, .int .i64 0]) (by simp [results, Tryz.results54, go_sem]) rfl ⟨x.WA, x.wc, rfl, HRD.out.below HB1.out (Nat.le_refl _), below_at HB.out (below_at HB4.out (below_at HBR.out (below_at HBZ.out HB1.out)))⟩
          | false =>
            have hall := all_any u1 D x.S x.T x.d.s (HSX.out.below HB1.out) HWX.out
            have hal4 : ((Pr.all x.d.s).map (fun (t : Nat) => (t : Int))).length ≤ 4 := by rw [List.length_map]; exact Pr.all_len HWX.out
            obtain ⟨al, hal⟩ : ∃ z, z = (Pr.all x.d.s).map (fun (t : Nat) => (t : Int)) := ⟨_, rfl⟩
            rw [← hal] at hall hal4
            obtain ⟨na, hna⟩ : ∃ z, z = al.length := ⟨_, rfl⟩
            rw [← hna] at hall hal4
            have HAL := Lib.hid (And.intro hal hna)
            have HALL := Lib.hid hall
            clear hall hal hna
            go_wp2_with fail
            refine HALL.out.mono ?_
            rintro y u2 ⟨A2, c2, rfl, ⟨hr2, ha2⟩, b2⟩
            have HB2 := Lib.hid (below_at HB1.out b2)
            have HND2 := Lib.hid (HND1.out.block (b2.block g HND1.out.2.2.2.2.2.2) b2.size)
            have HSX2 := Lib.hid (HSX.out.below HB2.out)
            have HR2 := Lib.hid hr2
            have HA2 : Hid (∀ a, A2 = some a → U.heap.size ≤ a.block) := Lib.hid fun a ha => Nat.le_trans HB1.out.size (ha2 a ha)
            have HY2 := Lib.hid (HY.out.below HB2.out)
            have HBF : Hid (∀ a, B' = some a → a.block < U.heap.size) := Lib.hid fun a ha => by subst ha; exact HY.out.1.lt
            clear hr2 ha2 b2 HALL HND1 HSX HB1 c0 c1 cl HRD HND
            go_wp2_with fail
            go_loopw [70, 16] (fun jv nx wz => ∃ (j nz cz : Nat) (Z : Option Addr) (zs : List Nc), j ≤ na ∧ nz = ny + j ∧ jv = .int .i64 j ∧ nx = .slice Z nz cz ∧ Hid (nz = zs.length) ∧ Hid (zs.map Nc.d = ys.map Nc.d ++ ((Pr.all x.d.s).take j).map (Pr.kidN x.d)) ∧ Hid (NodesAt wz D Z cz zs) ∧ Hid (∀ a, Z = some a → V.heap.size ≤ a.block) ∧ Hid (∀ a, Z = some a → (∃ a1, B' = some a1 ∧ a.block = a1.block) ∨ u2.heap.size ≤ a.block) ∧ Hid (Mod (fun k => ∃ a, B' = some a ∧ k = a.block) u2 wz)) (fun jv _ _ => na - (intOf jv).toNat)
            case atStart => exact ⟨0, ny, cb', B', ys, Nat.zero_le _, rfl, rfl, rfl, HNY, Lib.hid (by simp), HY2, HBY, Lib.hid (fun a ha => .inl ⟨a, ha, rfl⟩), Lib.hid (Mod.refl _ _)⟩
            case round =>
              clear HY2
              obtain ⟨j, nz, cz, Z, zs, hj, hnz, rfl, rfl, HNZ, HZS, HZ, HZB, HZF, HMZ⟩ := hrel
              subst hnz
              rename World => P
              by_cases hltj : j < na
              · obtain ⟨t, ht⟩ := get_some (show j < (Pr.all x.d.s).length by have h1 := HAL.out.2; rw [HAL.out.1, List.length_map] at h1; omega)
                have hta : al[j]? = some (t : Int) := by rw [HAL.out.1, List.getElem?_map, ht]; rfl
                have hen := Pr.all_iff.1 (List.mem_of_getElem? ht)
                obtain ⟨ga, oa, rfl⟩ := HR2.out.some_of_pos (by have := HR2.out.2.1; have := HAL.out.2; omega)
                have hrP : Row P 3 1 (some ⟨ga, oa, none⟩) al.length c2 (al.map iv) := HR2.out.mod HMZ.out (fun a ha ⟨a1, h1, h2⟩ => by injection ha with ha; subst ha; have h3 := HA2.out _ rfl; have h4 := HBF.out a1 h1; simp only at h2 h3; omega)
                have ca : P.cell? ⟨ga, oa + j, none⟩ = some (.int .i64 (t : Int)) := by
                  rw [hrP.cell j (by have := HAL.out.2; omega), List.getElem?_map, hta]; rfl
                have lga : ga < P.heap.size := hrP.lt
                have hgP : ∀ k, k < V.heap.size → P.heap[k]? = u2.heap[k]? := fun k hk => HMZ.out.block k (by have := HBZ.out.size; have := HB2.out.size; omega) (fun ⟨a, h1, h2⟩ => by have := HBY.out a h1; omega)
                have hndP := HND2.out.block (hgP g HG.out) HMZ.out.size
                have hVx : NcAt V D (offB (some ⟨g, o, none⟩)) x := HX.out.2 x (HXM.out)
                have hVP : Below V.heap.size V P := (below_at HBZ.out HB2.out).trans (HMZ.out.below V.heap.size (by have := HBZ.out.size; have := HB2.out.size; omega) (fun k hk ⟨a, h1, h2⟩ => by have := HBY.out a h1; omega))
                have hsP : SAt P D x.S x.T x.d.s := hVx.1.below hVP
                have hwP : Rd P 1 x.WA x.d.w.length (x.d.w.map iv) := (hVx.2.1.below hVP).rd
                have hDP : ∀ k, D k → k < P.heap.size := fun k hk => Nat.lt_of_lt_of_le (HD4.out k hk) (Nat.le_trans HBR.out.size hVP.size)
                have hcop := copyS_any P D x.S x.T x.d.s hsP hDP HWX.out.n4
                have k1 : (0 : Int) ≤ (j : Int) := Int.natCast_nonneg _
                have k2 : (j : Int) < (na : Int) := by omega
                have HEN := Lib.hid (And.intro hen ht)
                have HNDP := Lib.hid hndP
                have HWP := Lib.hid hwP
                have HCOP := Lib.hid hcop
                obtain ⟨c0, c1, _, _, _, _, cl⟩ := hndP
                clear ht hta hen hrP hgP hVx hVP hsP hwP hDP hcop
                go_wp2_with fail
                refine HCOP.out.mono ?_
                rintro y w3 ⟨S', T', rfl, hs3, hS3, hT3, b3⟩
                have ht := Pr.en_lt HEN.out.1
                obtain ⟨e, he, hev⟩ : ∃ e, Pr.next x.d.s t = some e ∧ Pr.evAt x.d.s t = e := by
                  obtain ⟨e, i, hn, _, _⟩ := Pr.enabled_next HEN.out.1
                  exact ⟨e, hn, by unfold Pr.evAt; rw [hn]; rfl⟩
                have hst := step_ok w3 D S' T' x.d.s t e hs3 HWX.out ht HEN.out.1 he
                obtain ⟨et, ek, eo, ef⟩ := e
                simp only [valE] at hst
                have HST := Lib.hid hst
                have HEV := Lib.hid hev
                have HB3 := Lib.hid b3
                have HST3 := Lib.hid (And.intro hS3 hT3)
                clear hst hev he ht hs3 hS3 hT3 b3 c0 c1 cl ca lga HCOP
                go_wp2_with fail
                refine HST.out.mono ?_
                rintro y w4 ⟨rfl, hs4, hm4⟩
                obtain ⟨E, hE⟩ : ∃ z, z = w4.heap.size := ⟨_, rfl⟩
                obtain ⟨V0, hV0⟩ : ∃ z, z = w4.alloc (Obj.cells #[.int .i64 et, .int .i64 ek, .int .i64 eo, .bool ef] 51) := ⟨_, rfl⟩
                have hk5 : V0.heap[E]? = some (.cells #[.int .i64 et, .int .i64 ek, .int .i64 eo, .bool ef] 51 (0, 0)) := by rw [hV0, hE]; exact heap_alloc_new w4 _
                have hb5 : Below w4.heap.size w4 V0 := by rw [hV0]; exact (Below.refl _ _).alloc (Nat.le_refl _) _
                have hb4 : Below P.heap.size P w4 := HB3.out.trans (hm4.below P.heap.size HB3.out.size (fun k hk h => by have := HST3.out; omega))
                have hb4s := hb4.size
                have HB5 := Lib.hid (below_at hb4 hb5)
                have HS5 := Lib.hid (hs4.below hb5)
                have HK5 := Lib.hid hk5
                clear hs4 hm4 hk5 hb5 hb4 HST HB3
                go_upto_region 21 with fail
                rw [← hV0, ← hE]
                have HEP : Hid (P.heap.size ≤ E) := Lib.hid (by rw [hE]; exact hb4s)
                clear hV0 hE hb4s
                have hnd0 := HNDP.out.block (HB5.out.block g HNDP.out.2.2.2.2.2.2) HB5.out.size
                have hwl : x.d.w.length ≤ 33 := by have h1 := HL.out.way x.d (List.mem_map.2 ⟨x, HXM.out, rfl⟩); have h2 := HK.out; omega
                have hEl := blk_lt HK5.out
                have HSS : Hid (∀ u, Below V0.heap.size V0 u → u.cell? ⟨g, o + i * 6 + 1, none⟩ = some (.slice x.WA x.d.w.length x.wc) ∧ g < u.heap.size ∧ E < u.heap.size ∧ EvAt u E 0 ⟨et, ek, eo, ef⟩) := Lib.hid fun u hu => by
                  have hk := (hu.block E hEl).trans HK5.out
                  exact ⟨(World.cell?_of_block (hu.block g hnd0.2.2.2.2.2.2)).trans hnd0.2.1, Nat.lt_of_lt_of_le hnd0.2.2.2.2.2.2 hu.size, Nat.lt_of_lt_of_le hEl hu.size, by rw [cell_blk hk]; rfl, by rw [cell_blk hk]; rfl, by rw [cell_blk hk]; rfl, by rw [cell_blk hk]; rfl⟩
                have HWV : Hid (∀ u, Below V0.heap.size V0 u → Rd u 1 x.WA x.d.w.length (x.d.w.map iv)) := Lib.hid fun u hu => (HWP.out.below HB5.out (Nat.le_refl _)).below hu (Nat.le_refl _)
                have HZL : Hid (∀ a, Z = some a → a.block < P.heap.size) := Lib.hid HZ.out.below_row
                clear hnd0 hEl
                refine wp_region_pt (by kernel_rfl) (fun u => u.cell? ⟨g, o + i * 6 + 1, none⟩ = some (.slice x.WA x.d.w.length x.wc) ∧ g < u.heap.size ∧ E < u.heap.size ∧ EvAt u E 0 ⟨et, ek, eo, ef⟩) [] (.cons 0 .pure (.cons 1 .pure (.cons 2 .pure (.cons 3 .pure (.cons 4 .pure (.cons 5 .load (.cons 7 .pure (.cons 10 .load (.fork 6 (.cons 8 .eff (.cons 9 .eff (.cons 11 .pure (.cons 12 .eff (.cons 13 .eff (.cons 14 .pure .nil)))))) 8 (.cons 6 .eff (.cons 9 .eff (.cons 11 .pure (.cons 12 .eff (.cons 13 .eff (.cons 14 .pure .nil))))))))))))))) (by simp only [PT.map, List.getElem?_toArray, List.getElem?_cons_succ, List.getElem?_cons_zero]; rfl) (by kernel_rfl) (fun _ _ d _ _ h => by cases d <;> exact h) (HSS.out V0.drew (Below.refl V0.heap.size V0).drew) ?_
                have HB := Lib.hid (Below.refl V0.heap.size V0).drew
                obtain ⟨v, hv⟩ : ∃ v, v = V0.drew := ⟨_, rfl⟩
                rw [← hv] at HB ⊢
                clear hv
                repeat (first
                  | (refine pt_pure (v := ?_) (by rfl) (fun w1 => ?_) ?_
                     rotate_left
                     · go_simp <;> with_reducible rfl
                     simp only [Act.put, List.setIfInBounds_toArray, List.set_cons_zero, List.set_cons_succ])
                  | (refine pt_off (by rfl) ?_
                     simp only [Act.put, List.setIfInBounds_toArray, List.set_cons_zero, List.set_cons_succ])
                  | (refine pt_load_off (by rfl) ?_
                     simp only [Act.put, List.setIfInBounds_toArray, List.set_cons_zero, List.set_cons_succ])
                  | (refine pt_load (v := ?_) (by rfl) (fun w1 hw1 => ?_) ?_
                     rotate_left
                     · (have q0 := hw1.1
                        have q1 := hw1.2.1
                        have q2 := hw1.2.2.1
                        have x0 := hw1.2.2.2.1
                        have x1 := hw1.2.2.2.2.1
                        have x2 := hw1.2.2.2.2.2.1
                        have x3 := hw1.2.2.2.2.2.2
                        simp only [Nat.zero_add] at x1 x2 x3
                        clear hw1
                        go_simp <;> with_reducible rfl)
                     simp only [Act.put, List.setIfInBounds_toArray, List.set_cons_zero, List.set_cons_succ]))
                refine pt_fork ?_ ?_
                · go_wp2_with fail
                  refine (cloneInt_any v x.WA x.d.w.length x.wc (x.d.w.map iv) (HWV.out v HB.out) (by omega)).mono ?_
                  rintro y u ⟨A6, c6, rfl, r6, a6, b6⟩
                  have H6 : Hid (Row u 3 1 A6 x.d.w.length c6 (x.d.w.map iv) ∧ ∀ a, A6 = some a → V0.heap.size ≤ a.block) := Lib.hid ⟨r6, fun a ha => Nat.le_trans HB.out.size (a6 a ha)⟩
                  have HB := Lib.hid (below_at HB.out b6)
                  (try have H8 := Lib.hid (blk_stepW H8.out b6))
                  clear r6 a6 b6
                  rename World => v
                  go_wp2_with fail
                  refine pt_on (fun u h => h) (HSS.out v HB.out) ?_
                  refine pt_eff ?_
                  go_wp2_with fail
                  obtain ⟨Y, hY⟩ : ∃ z, z = v.heap.size := ⟨_, rfl⟩
                  obtain ⟨u, hu⟩ : ∃ u, u = v.alloc (Obj.cells #[.int .i64 (t : Int)] 3) := ⟨_, rfl⟩
                  rw [← hu, ← hY]
                  have hb : Below v.heap.size v u := by rw [hu]; exact (Below.refl _ _).alloc (Nat.le_refl _) _
                  have hk : u.heap[Y]? = some (.cells #[.int .i64 (t : Int)] 3 (0, 0)) := by rw [hu, hY]; exact heap_alloc_new v _
                  have H8 := Lib.hid hk
                  have HB := Lib.hid (below_at HB.out hb)
                  (try have H6 := Lib.hid (And.intro (row_stepS H6.out.1 hb) H6.out.2))
                  clear hb hk hu hY
                  rename World => v
                  refine pt_on (fun u h => h) (HSS.out v HB.out) ?_
                  refine pt_eff ?_
                  go_wp2_with (at_builtin; refine wpList_append_row (by rfl) _ _ _ (by rfl) 3 j0 _ 1 8 Tryz.underlying32 hj0 hjz0 hjz1 hjz2 rfl (by omega) A6 x.d.w.length c6 (x.d.w.map iv) (by rfl) H6.out.1 ⟨Y, 0, none⟩ 1 1 [.int .i64 (t : Int)] (by rfl) (by rfl) (World.news_of_block (cs := #[.int .i64 (t : Int)]) (t := 3) (fr := (0, 0)) H8.out) (by simp [Value.oneCell']) (by omega) (by unfold maxLen; omega) (by omega) ?_; intro g9 o9 c9 u hown hm hat)
                  have hg9 : V0.heap.size ≤ g9 := by rcases hat with ⟨a, h1, h2⟩ | h; (have := H6.out.2 a h1; omega); exact Nat.le_trans HB.out.size h
                  have H9 : Hid (Row u 3 1 (some ⟨g9, o9, none⟩) (x.d.w.length + 1) c9 (x.d.w.map iv ++ [.int .i64 (t : Int)]) ∧ V0.heap.size ≤ g9) := Lib.hid ⟨hown, hg9⟩
                  have HB := Lib.hid (HB.out.trans (hm.below V0.heap.size HB.out.size (fun k hk ⟨a, h1, h2⟩ => by have := H6.out.2 a h1; omega)))
                  clear hown hm hat hg9
                  rename World => v
                  refine pt_on (fun u h => h) (HSS.out v HB.out) ?_
                  repeat (first
                    | (refine pt_pure (v := ?_) (by rfl) (fun w1 => ?_) ?_
                       rotate_left
                       · go_simp <;> with_reducible rfl
                       simp only [Act.put, List.setIfInBounds_toArray, List.set_cons_zero, List.set_cons_succ])
                    | (refine pt_off (by rfl) ?_
                       simp only [Act.put, List.setIfInBounds_toArray, List.set_cons_zero, List.set_cons_succ])
                    | (refine pt_load_off (by rfl) ?_
                       simp only [Act.put, List.setIfInBounds_toArray, List.set_cons_zero, List.set_cons_succ])
                    | (refine pt_load (v := ?_) (by rfl) (fun w1 hw1 => ?_) ?_
                       rotate_left
                       · (skip
                          clear hw1
                          go_simp <;> with_reducible rfl)
                       simp only [Act.put, List.setIfInBounds_toArray, List.set_cons_zero, List.set_cons_succ]))
                  refine pt_eff ?_
                  go_wp2_with fail
                  obtain ⟨K, hK⟩ : ∃ z, z = v.heap.size := ⟨_, rfl⟩
                  obtain ⟨u, hu⟩ : ∃ u, u = v.alloc (Obj.cells #[.pointer (some ⟨S', 0, none⟩), .slice (some ⟨g9, o9, none⟩) (x.d.w.length + 1) c9, .int .i64 et, .int .i64 ek, .int .i64 eo, .bool ef] 104) := ⟨_, rfl⟩
                  rw [← hu, ← hK]
                  have hb : Below v.heap.size v u := by rw [hu]; exact (Below.refl _ _).alloc (Nat.le_refl _) _
                  have hk : u.heap[K]? = some (.cells #[.pointer (some ⟨S', 0, none⟩), .slice (some ⟨g9, o9, none⟩) (x.d.w.length + 1) c9, .int .i64 et, .int .i64 ek, .int .i64 eo, .bool ef] 104 (0, 0)) := by rw [hu, hK]; exact heap_alloc_new v _
                  have H12 := Lib.hid hk
                  have HB := Lib.hid (below_at HB.out hb)
                  have H9 := Lib.hid (And.intro (row_stepS H9.out.1 hb) H9.out.2)
                  clear hb hk hu hK
                  rename World => v
                  refine pt_on (fun u h => h) (HSS.out v HB.out) ?_
                  refine pt_eff ?_
                  have HZV := Lib.hid (row_stepS HZ.out.1 (below_at HB5.out HB.out))
                  have hnz2 : zs.length = ny + j := HNZ.out.symm
                  rw [hnz2] at HZV
                  go_wp2_with (at_builtin; refine wpList_append_row (by rfl) _ _ _ (by rfl) 104 i0 _ 6 64 Tryz.underlying169 hi0 hz0 hz1 hz2 rfl (by omega) Z (ny + j) cz (zs.flatMap encNc) (by rfl) HZV.out ⟨K, 0, none⟩ 1 1 [.pointer (some ⟨S', 0, none⟩), .slice (some ⟨g9, o9, none⟩) (x.d.w.length + 1) c9, .int .i64 et, .int .i64 ek, .int .i64 eo, .bool ef] (by rfl) (by rfl) (World.news_of_block (cs := #[.pointer (some ⟨S', 0, none⟩), .slice (some ⟨g9, o9, none⟩) (x.d.w.length + 1) c9, .int .i64 et, .int .i64 ek, .int .i64 eo, .bool ef]) (t := 104) (fr := (0, 0)) H12.out) (by simp [Value.oneCell']) (by omega) (by unfold maxLen; omega) (by omega) ?_; intro g13 o13 c13 u hown hm hat)
                  have hP5 := HB5.out.size
                  have hnew := HZ.out.kid (below_at HB5.out HB.out) (HS5.out.below HB.out) H9.out.1 (Nat.le_trans hP5 H9.out.2) HST3.out HEV.out hnz2 hown hm hat (fun k hk a ha => Nat.ne_of_lt (Nat.lt_of_lt_of_le (HD4.out k hk) (Nat.le_trans HBR.out.size (HZB.out a ha))))
                  have hs := HSS.out v HB.out
                  have hgz : ¬ ∃ a, Z = some a ∧ g = a.block := fun ⟨a, h1, h2⟩ => Nat.lt_irrefl g (Nat.lt_of_lt_of_le HG.out (Nat.le_trans (HZB.out a h1) (Nat.le_of_eq h2.symm)))
                  have hez : ¬ ∃ a, Z = some a ∧ E = a.block := fun ⟨a, h1, h2⟩ => Nat.lt_irrefl E (Nat.lt_of_lt_of_le (Nat.lt_of_le_of_lt (Nat.le_of_eq h2) (HZL.out a h1)) HEP.out)
                  have hs13 : u.cell? ⟨g, o + i * 6 + 1, none⟩ = some (.slice x.WA x.d.w.length x.wc) ∧ g < u.heap.size ∧ E < u.heap.size ∧ EvAt u E 0 ⟨et, ek, eo, ef⟩ := ⟨(hm.cell g _ hs.2.1 hgz).trans hs.1, Nat.lt_of_lt_of_le hs.2.1 hm.size, Nat.lt_of_lt_of_le hs.2.2.1 hm.size, (hm.cell E _ hs.2.2.1 hez).trans hs.2.2.2.1, (hm.cell E _ hs.2.2.1 hez).trans hs.2.2.2.2.1, (hm.cell E _ hs.2.2.1 hez).trans hs.2.2.2.2.2.1, (hm.cell E _ hs.2.2.1 hez).trans hs.2.2.2.2.2.2⟩
                  have hf0 : (∃ a1, B' = some a1 ∧ g13 = a1.block) ∨ u2.heap.size ≤ g13 := Or.elim hat (fun ⟨a, h1, h2⟩ => Or.elim (HZF.out a h1) (fun ⟨a1, h3, h4⟩ => .inl ⟨a1, h3, h2.trans h4⟩) (fun h => .inr (Nat.le_trans h (Nat.le_of_eq h2.symm)))) (fun h => .inr (Nat.le_trans HMZ.out.size (Nat.le_trans HB5.out.size (Nat.le_trans HB.out.size h))))
                  have hfr : ∀ a, (some ⟨g13, o13, none⟩ : Option Addr) = some a → (∃ a1, B' = some a1 ∧ a.block = a1.block) ∨ u2.heap.size ≤ a.block := fun a ha => by cases ha; exact hf0
                  have hmz : Mod (fun k => ∃ a, B' = some a ∧ k = a.block) u2 u := (HMZ.out.trans (Mod.of_below_size (below_at HB5.out HB.out) _)).then hm (fun k hk ⟨a, h1, h2⟩ => Or.elim (HZF.out a h1) (fun ⟨a1, h3, h4⟩ => ⟨a1, h3, h2.trans h4⟩) (fun h => absurd hk (Nat.not_lt.2 (Nat.le_trans h (Nat.le_of_eq h2.symm)))))
                  have hvb : ∀ a, (some ⟨g13, o13, none⟩ : Option Addr) = some a → V.heap.size ≤ a.block := fun a ha => by cases ha; exact Or.elim hf0 (fun ⟨a1, h1, h2⟩ => Nat.le_trans (HBY.out a1 h1) (Nat.le_of_eq h2.symm)) (fun h => Nat.le_trans HBZ.out.size (Nat.le_trans HB2.out.size h))
                  have HNEW := Lib.hid hnew
                  have HS13 := Lib.hid hs13
                  have HFR := Lib.hid hfr
                  have HMZ2 := Lib.hid hmz
                  have HVB := Lib.hid hvb
                  clear hown hm hat hnew hs13 hfr hmz hvb hP5 hs hgz hez hf0
                  refine pt_on (fun u h => h) HS13.out ?_
                  repeat (first
                    | (refine pt_pure (v := ?_) (by rfl) (fun w1 => ?_) ?_
                       rotate_left
                       · go_simp <;> with_reducible rfl
                       simp only [Act.put, List.setIfInBounds_toArray, List.set_cons_zero, List.set_cons_succ])
                    | (refine pt_off (by rfl) ?_
                       simp only [Act.put, List.setIfInBounds_toArray, List.set_cons_zero, List.set_cons_succ])
                    | (refine pt_load_off (by rfl) ?_
                       simp only [Act.put, List.setIfInBounds_toArray, List.set_cons_zero, List.set_cons_succ])
                    | (refine pt_load (v := ?_) (by rfl) (fun w1 hw1 => ?_) ?_
                       rotate_left
                       · (skip
                          clear hw1
                          go_simp <;> with_reducible rfl)
                       simp only [Act.put, List.setIfInBounds_toArray, List.set_cons_zero, List.set_cons_succ]))
                  refine pt_end ?_
                  go_wp2_with fail
                  go_roundw
                  case rel => exact ⟨j + 1, ny + j + 1, c13, some ⟨g13, o13, none⟩, zs ++ [⟨S', T', c9, some ⟨g9, o9, none⟩, Pr.kidN x.d t⟩], by omega, by omega, by go_num, rfl, Lib.hid (by rw [List.length_append, ← HNZ.out]; rfl), Lib.hid (by rw [List.map_append, HZS.out, List.take_add_one, HEN.out.2, List.map_append, List.append_assoc]; rfl), HNEW, HVB, HFR, HMZ2⟩
                  case measure => simp [intOf]; omega
                · go_wp2_with fail
                  obtain ⟨Y, hY⟩ : ∃ z, z = v.heap.size := ⟨_, rfl⟩
                  obtain ⟨u, hu⟩ : ∃ u, u = v.alloc (Obj.cells #[.int .i64 (t : Int)] 3) := ⟨_, rfl⟩
                  rw [← hu, ← hY]
                  have hb : Below v.heap.size v u := by rw [hu]; exact (Below.refl _ _).alloc (Nat.le_refl _) _
                  have hk : u.heap[Y]? = some (.cells #[.int .i64 (t : Int)] 3 (0, 0)) := by rw [hu, hY]; exact heap_alloc_new v _
                  have H8 := Lib.hid hk
                  have HB := Lib.hid (below_at HB.out hb)
                  (try have H6 := Lib.hid (And.intro (row_stepS H6.out.1 hb) H6.out.2))
                  clear hb hk hu hY
                  rename World => v
                  refine pt_on (fun u h => h) (HSS.out v HB.out) ?_
                  refine pt_eff ?_
                  go_wp2_with fail
                  refine (cloneInt_any v x.WA x.d.w.length x.wc (x.d.w.map iv) (HWV.out v HB.out) (by omega)).mono ?_
                  rintro y u ⟨A6, c6, rfl, r6, a6, b6⟩
                  have H6 : Hid (Row u 3 1 A6 x.d.w.length c6 (x.d.w.map iv) ∧ ∀ a, A6 = some a → V0.heap.size ≤ a.block) := Lib.hid ⟨r6, fun a ha => Nat.le_trans HB.out.size (a6 a ha)⟩
                  have HB := Lib.hid (below_at HB.out b6)
                  (try have H8 := Lib.hid (blk_stepW H8.out b6))
                  clear r6 a6 b6
                  rename World => v
                  go_wp2_with fail
                  refine pt_on (fun u h => h) (HSS.out v HB.out) ?_
                  refine pt_eff ?_
                  go_wp2_with (at_builtin; refine wpList_append_row (by rfl) _ _ _ (by rfl) 3 j0 _ 1 8 Tryz.underlying32 hj0 hjz0 hjz1 hjz2 rfl (by omega) A6 x.d.w.length c6 (x.d.w.map iv) (by rfl) H6.out.1 ⟨Y, 0, none⟩ 1 1 [.int .i64 (t : Int)] (by rfl) (by rfl) (World.news_of_block (cs := #[.int .i64 (t : Int)]) (t := 3) (fr := (0, 0)) H8.out) (by simp [Value.oneCell']) (by omega) (by unfold maxLen; omega) (by omega) ?_; intro g9 o9 c9 u hown hm hat)
                  have hg9 : V0.heap.size ≤ g9 := by rcases hat with ⟨a, h1, h2⟩ | h; (have := H6.out.2 a h1; omega); exact Nat.le_trans HB.out.size h
                  have H9 : Hid (Row u 3 1 (some ⟨g9, o9, none⟩) (x.d.w.length + 1) c9 (x.d.w.map iv ++ [.int .i64 (t : Int)]) ∧ V0.heap.size ≤ g9) := Lib.hid ⟨hown, hg9⟩
                  have HB := Lib.hid (HB.out.trans (hm.below V0.heap.size HB.out.size (fun k hk ⟨a, h1, h2⟩ => by have := H6.out.2 a h1; omega)))
                  clear hown hm hat hg9
                  rename World => v
                  refine pt_on (fun u h => h) (HSS.out v HB.out) ?_
                  repeat (first
                    | (refine pt_pure (v := ?_) (by rfl) (fun w1 => ?_) ?_
                       rotate_left
                       · go_simp <;> with_reducible rfl
                       simp only [Act.put, List.setIfInBounds_toArray, List.set_cons_zero, List.set_cons_succ])
                    | (refine pt_off (by rfl) ?_
                       simp only [Act.put, List.setIfInBounds_toArray, List.set_cons_zero, List.set_cons_succ])
                    | (refine pt_load_off (by rfl) ?_
                       simp only [Act.put, List.setIfInBounds_toArray, List.set_cons_zero, List.set_cons_succ])
                    | (refine pt_load (v := ?_) (by rfl) (fun w1 hw1 => ?_) ?_
                       rotate_left
                       · (skip
                          clear hw1
                          go_simp <;> with_reducible rfl)
                       simp only [Act.put, List.setIfInBounds_toArray, List.set_cons_zero, List.set_cons_succ]))
                  refine pt_eff ?_
                  go_wp2_with fail
                  obtain ⟨K, hK⟩ : ∃ z, z = v.heap.size := ⟨_, rfl⟩
                  obtain ⟨u, hu⟩ : ∃ u, u = v.alloc (Obj.cells #[.pointer (some ⟨S', 0, none⟩), .slice (some ⟨g9, o9, none⟩) (x.d.w.length + 1) c9, .int .i64 et, .int .i64 ek, .int .i64 eo, .bool ef] 104) := ⟨_, rfl⟩
                  rw [← hu, ← hK]
                  have hb : Below v.heap.size v u := by rw [hu]; exact (Below.refl _ _).alloc (Nat.le_refl _) _
                  have hk : u.heap[K]? = some (.cells #[.pointer (some ⟨S', 0, none⟩), .slice (some ⟨g9, o9, none⟩) (x.d.w.length + 1) c9, .int .i64 et, .int .i64 ek, .int .i64 eo, .bool ef] 104 (0, 0)) := by rw [hu, hK]; exact heap_alloc_new v _
                  have H12 := Lib.hid hk
                  have HB := Lib.hid (below_at HB.out hb)
                  have H9 := Lib.hid (And.intro (row_stepS H9.out.1 hb) H9.out.2)
                  clear hb hk hu hK
                  rename World => v
                  refine pt_on (fun u h => h) (HSS.out v HB.out) ?_
                  refine pt_eff ?_
                  have HZV := Lib.hid (row_stepS HZ.out.1 (below_at HB5.out HB.out))
                  have hnz2 : zs.length = ny + j := HNZ.out.symm
                  rw [hnz2] at HZV
                  go_wp2_with (at_builtin; refine wpList_append_row (by rfl) _ _ _ (by rfl) 104 i0 _ 6 64 Tryz.underlying169 hi0 hz0 hz1 hz2 rfl (by omega) Z (ny + j) cz (zs.flatMap encNc) (by rfl) HZV.out ⟨K, 0, none⟩ 1 1 [.pointer (some ⟨S', 0, none⟩), .slice (some ⟨g9, o9, none⟩) (x.d.w.length + 1) c9, .int .i64 et, .int .i64 ek, .int .i64 eo, .bool ef] (by rfl) (by rfl) (World.news_of_block (cs := #[.pointer (some ⟨S', 0, none⟩), .slice (some ⟨g9, o9, none⟩) (x.d.w.length + 1) c9, .int .i64 et, .int .i64 ek, .int .i64 eo, .bool ef]) (t := 104) (fr := (0, 0)) H12.out) (by simp [Value.oneCell']) (by omega) (by unfold maxLen; omega) (by omega) ?_; intro g13 o13 c13 u hown hm hat)
                  have hP5 := HB5.out.size
                  have hnew := HZ.out.kid (below_at HB5.out HB.out) (HS5.out.below HB.out) H9.out.1 (Nat.le_trans hP5 H9.out.2) HST3.out HEV.out hnz2 hown hm hat (fun k hk a ha => Nat.ne_of_lt (Nat.lt_of_lt_of_le (HD4.out k hk) (Nat.le_trans HBR.out.size (HZB.out a ha))))
                  have hs := HSS.out v HB.out
                  have hgz : ¬ ∃ a, Z = some a ∧ g = a.block := fun ⟨a, h1, h2⟩ => Nat.lt_irrefl g (Nat.lt_of_lt_of_le HG.out (Nat.le_trans (HZB.out a h1) (Nat.le_of_eq h2.symm)))
                  have hez : ¬ ∃ a, Z = some a ∧ E = a.block := fun ⟨a, h1, h2⟩ => Nat.lt_irrefl E (Nat.lt_of_lt_of_le (Nat.lt_of_le_of_lt (Nat.le_of_eq h2) (HZL.out a h1)) HEP.out)
                  have hs13 : u.cell? ⟨g, o + i * 6 + 1, none⟩ = some (.slice x.WA x.d.w.length x.wc) ∧ g < u.heap.size ∧ E < u.heap.size ∧ EvAt u E 0 ⟨et, ek, eo, ef⟩ := ⟨(hm.cell g _ hs.2.1 hgz).trans hs.1, Nat.lt_of_lt_of_le hs.2.1 hm.size, Nat.lt_of_lt_of_le hs.2.2.1 hm.size, (hm.cell E _ hs.2.2.1 hez).trans hs.2.2.2.1, (hm.cell E _ hs.2.2.1 hez).trans hs.2.2.2.2.1, (hm.cell E _ hs.2.2.1 hez).trans hs.2.2.2.2.2.1, (hm.cell E _ hs.2.2.1 hez).trans hs.2.2.2.2.2.2⟩
                  have hf0 : (∃ a1, B' = some a1 ∧ g13 = a1.block) ∨ u2.heap.size ≤ g13 := Or.elim hat (fun ⟨a, h1, h2⟩ => Or.elim (HZF.out a h1) (fun ⟨a1, h3, h4⟩ => .inl ⟨a1, h3, h2.trans h4⟩) (fun h => .inr (Nat.le_trans h (Nat.le_of_eq h2.symm)))) (fun h => .inr (Nat.le_trans HMZ.out.size (Nat.le_trans HB5.out.size (Nat.le_trans HB.out.size h))))
                  have hfr : ∀ a, (some ⟨g13, o13, none⟩ : Option Addr) = some a → (∃ a1, B' = some a1 ∧ a.block = a1.block) ∨ u2.heap.size ≤ a.block := fun a ha => by cases ha; exact hf0
                  have hmz : Mod (fun k => ∃ a, B' = some a ∧ k = a.block) u2 u := (HMZ.out.trans (Mod.of_below_size (below_at HB5.out HB.out) _)).then hm (fun k hk ⟨a, h1, h2⟩ => Or.elim (HZF.out a h1) (fun ⟨a1, h3, h4⟩ => ⟨a1, h3, h2.trans h4⟩) (fun h => absurd hk (Nat.not_lt.2 (Nat.le_trans h (Nat.le_of_eq h2.symm)))))
                  have hvb : ∀ a, (some ⟨g13, o13, none⟩ : Option Addr) = some a → V.heap.size ≤ a.block := fun a ha => by cases ha; exact Or.elim hf0 (fun ⟨a1, h1, h2⟩ => Nat.le_trans (HBY.out a1 h1) (Nat.le_of_eq h2.symm)) (fun h => Nat.le_trans HBZ.out.size (Nat.le_trans HB2.out.size h))
                  have HNEW := Lib.hid hnew
                  have HS13 := Lib.hid hs13
                  have HFR := Lib.hid hfr
                  have HMZ2 := Lib.hid hmz
                  have HVB := Lib.hid hvb
                  clear hown hm hat hnew hs13 hfr hmz hvb hP5 hs hgz hez hf0
                  refine pt_on (fun u h => h) HS13.out ?_
                  repeat (first
                    | (refine pt_pure (v := ?_) (by rfl) (fun w1 => ?_) ?_
                       rotate_left
                       · go_simp <;> with_reducible rfl
                       simp only [Act.put, List.setIfInBounds_toArray, List.set_cons_zero, List.set_cons_succ])
                    | (refine pt_off (by rfl) ?_
                       simp only [Act.put, List.setIfInBounds_toArray, List.set_cons_zero, List.set_cons_succ])
                    | (refine pt_load_off (by rfl) ?_
                       simp only [Act.put, List.setIfInBounds_toArray, List.set_cons_zero, List.set_cons_succ])
                    | (refine pt_load (v := ?_) (by rfl) (fun w1 hw1 => ?_) ?_
                       rotate_left
                       · (skip
                          clear hw1
                          go_simp <;> with_reducible rfl)
                       simp only [Act.put, List.setIfInBounds_toArray, List.set_cons_zero, List.set_cons_succ]))
                  refine pt_end ?_
                  go_wp2_with fail
                  go_roundw
                  case rel => exact ⟨j + 1, ny + j + 1, c13, some ⟨g13, o13, none⟩, zs ++ [⟨S', T', c9, some ⟨g9, o9, none⟩, Pr.kidN x.d t⟩], by omega, by omega, by go_num, rfl, Lib.hid (by rw [List.length_append, ← HNZ.out]; rfl), Lib.hid (by rw [List.map_append, HZS.out, List.take_add_one, HEN.out.2, List.map_append, List.append_assoc]; rfl), HNEW, HVB, HFR, HMZ2⟩
                  case measure => simp [intOf]; omega
              · obtain rfl : j = na := by omega
                have hall : (Pr.all x.d.s).take j = Pr.all x.d.s := List.take_of_length_le (by have h1 := HAL.out.2; rw [HAL.out.1, List.length_map] at h1; omega)
                have hzs := HZS.out
                rw [hall] at hzs
                have hzs2 : zs.map Nc.d = ((xs.map Nc.d).take (i + 1)).flatMap Pr.kids_ := by
                  rw [HTK.out, List.flatMap_append, hzs, HYS.out]; simp [Pr.kids_]
                have hb : Below V.heap.size V P := (below_at HBZ.out HB2.out).trans (HMZ.out.below V.heap.size (by have := HBZ.out.size; have := HB2.out.size; omega) (fun k hk ⟨a, h1, h2⟩ => by have := HBY.out a h1; omega))
                have HZS2 := Lib.hid hzs2
                have HNF2 : Hid (∀ d ∈ (xs.map Nc.d).take (i + 1), is d = false) := Lib.hid fun d hd => by
                  have h1 := HFD.out
                  rw [if_neg (by simp)] at h1
                  have := List.find?_eq_none.1 h1 d hd
                  simpa using this
                have HBN := Lib.hid hb
                have k4 : ¬ (j : Int) < (j : Int) := by omega
                clear hall hzs hzs2 hb
                go_wp2_with fail
                go_roundw
                case rel => exact ⟨_, _, _, _, _, _, _, _, _, _, .int .i64 ((i + 1 : Nat) : Int), ⟨i + 1, by omega, ny + j, by omega, rfl, cz, Z, rfl, zs, HNZ, HZS2, HNF2, HZ, HZB⟩, rfl, rfl, rfl, rfl, rfl, rfl, rfl, rfl, rfl, rfl, by simp⟩
                case measure => simp [intOf]; omega
        · obtain rfl : i = n := by omega
          have ht : (xs.map Nc.d).take i = xs.map Nc.d := List.take_of_length_le (by rw [List.length_map]; have := HN.out; omega)
          have hys := HYS.out
          have hnf := HNF.out
          rw [ht] at hys hnf
          have hlv := HL.out.next
          rw [← hys] at hlv
          have hsm := hlv.small HF0.out
          have hres := HR1.out
          rw [hnf] at hres
          simp only at hres
          rw [← hys] at hres
          have hny2 : ny ≤ 100000 := by have h1 := HCN.out; have h2 := HNY.out; rw [List.length_map] at hsm; omega
          have hmeas : lenAt (.slice B' ny cb') U < lenAt (.slice B i cb) V := by
            have h1 := lenAt_le HY.out HNY.out hlv
            have h2 := lenAt_node HX.out HN.out H0.out HL.out
            have h3 := HK.out
            omega
          have HLV := Lib.hid hlv
          have HRS := Lib.hid hres
          have HMEAS := Lib.hid hmeas
          clear ht hys hnf hlv hsm hres hmeas
          have k4 : ¬ (i : Int) < (i : Int) := by omega
          go_wp2_with fail
          go_roundw
          case rel => exact ⟨k + 1, ny, cb', B', ys, hny2, rfl, HNY, HLV, Lib.hid (by rw [show 33 - (k + 1) = 32 - k by omega]; exact HRS.out), HY, Lib.hid (below_at HBR.out HBZ.out)⟩
          case measure => exact HMEAS.out
end Go.Proofs.YtckdofjpoajblaaGreat
namespace Go.Proofs.YtckdofjpoajblaaGreat
open Go.RowKit
set_option linter.unusedVariables false
namespace Pr
def wayOf (r : Option Nd) : List Int := match r with | some d => d.w | none => []
def leastR (is : Nd → Bool) (p : Pg) (f : Int) (most : Nat) : Option Nd := if (all6 p f most).2 = 0 then leastN is (start p f.toNat) else none
end Pr
def LeastOut (w : World) (k : Int) (r : Option Pr.Nd) (x : Ending) (w' : World) : Prop :=
  ∃ A c, x = .returned (.tuple #[.slice A (Pr.wayOf r).length c, .bool r.isSome, .int .i64 k]) ∧ Rd w' 1 A (Pr.wayOf r).length ((Pr.wayOf r).map iv) ∧ Below w.heap.size w w'
theorem rd_nil1 (w : World) (sz : Nat) (A : Option Addr) : Rd w sz A 0 [] := ⟨by simp, fun h => absurd h (by omega)⟩
set_option maxRecDepth 100000 in
set_option maxHeartbeats 2000000 in
theorem find_bad {G : Nat} {caps : Array Value} (w : World) (p : Pg) (A : Option Addr) (cap : Nat) (f : Int) (most : Nat) (hp : PgIn w p A) (hmost : most ≤ 100000) (h6 : (Pr.all6 p f most).2 ≠ 0) :
    Calls Tryz.prog 54 #[valP p A cap, .int .i64 f, .int .i64 (most : Int), .func (.func G) #[] caps] w fun x w' => x = .returned (.tuple #[.slice none 0 0, .bool false, .int .i64 (Pr.all6 p f most).2]) ∧ Below w.heap.size w w' := by
  obtain ⟨Wa, X, hWa, hX, hBa, hXl, hXe⟩ := pg_box w p.vars p.mtx A p.code.length cap
  have hpa := hp.below hBa
  have hall : Calls Tryz.prog 59 #[valP p A cap, .int .i64 f, .int .i64 (most : Int)] Wa fun x w' => (∃ (A' : Option Addr) (n c' r k : Nat), x = .returned (.tuple #[.agg #[.slice A' n c', .int .i64 r, .int .i64 k], .int .i64 (Pr.all6 p f most).2])) ∧ Below Wa.heap.size Wa w' := (walkAll_any Wa p A cap f most hpa hmost).mono fun x w' ⟨A', c', hx, _, _, _, hb⟩ => ⟨⟨A', (Pr.all6 p f most).1.2.keys.length, c', (Pr.all6 p f most).1.2.runs, (Pr.all6 p f most).1.1, hx⟩, hb⟩
  obtain ⟨e, he⟩ : ∃ e, e = (Pr.all6 p f most).2 := ⟨_, rfl⟩
  rw [← he] at hall h6 ⊢
  unfold valP at hall ⊢
  have he0 : (e == 0) = false := by simpa using h6
  have he1 : (e != 0) = true := by simpa using h6
  have HALL := Lib.hid hall
  have HXE := Lib.hid hXe
  have HB := Lib.hid hBa
  obtain ⟨x0, x1, x2, xl⟩ := hXe Wa (Below.refl _ _)
  clear hall hXe hBa hpa hp he
  go_enter Tryz.func54, Tryz.ntmps54
  go_upto_region 1 with fail
  rw [← hWa, ← hX]
  clear hWa hX
  go_wp2_with fail
  refine HALL.out.mono ?_
  rintro y w1 ⟨⟨A1, n1, c1, r1, k1, rfl⟩, b1⟩
  have HB1 := Lib.hid (below_at HB.out (b1.alloc b1.size (Obj.cells #[.slice A1 n1 c1, .int .i64 r1, .int .i64 k1] 110)))
  clear b1 HALL x0 x1 x2 xl
  go_wp2_with fail
  exact bodyPost_ret (v := .tuple #[.slice none 0 0, .bool false, .int .i64 e]) (by simp [results, Tryz.results54, go_sem]) rfl ⟨rfl, HB1.out⟩
theorem find_any {G : Nat} {caps : Array Value} {is : Pr.Nd → Bool} (w : World) (p : Pg) (A : Option Addr) (cap : Nat) (f : Int) (most : Nat) (hp : PgIn w p A) (hmost : most ≤ 100000) (his : IsS G caps w is) :
    Calls Tryz.prog 54 #[valP p A cap, .int .i64 f, .int .i64 (most : Int), .func (.func G) #[] caps] w (LeastOut w (Pr.all6 p f most).2 (Pr.leastR is p f most)) := by
  by_cases h6 : (Pr.all6 p f most).2 = 0
  · obtain ⟨m, rfl, hm8, hok, hcnt⟩ := Pr.all6_ok h6
    refine (find_ok w p A cap m most hp hmost his hm8 hok hcnt h6).mono fun x w' h => ?_
    have hr : Pr.leastR is p m most = Pr.leastN is (Pr.start p m) := by unfold Pr.leastR; rw [if_pos h6]; rfl
    rw [hr, h6]
    unfold FindOut at h
    cases hl : Pr.leastN is (Pr.start p m) with
    | none => rw [hl] at h; exact ⟨none, 0, h.1, rd_nil1 _ _ _, h.2⟩
    | some d => rw [hl] at h; obtain ⟨A', c', h1, h2, h3⟩ := h; exact ⟨A', c', h1, h2, h3⟩
  · refine (find_bad w p A cap f most hp hmost h6).mono fun x w' h => ?_
    have hr : Pr.leastR is p f most = none := by unfold Pr.leastR; rw [if_neg h6]
    rw [hr]
    exact ⟨none, 0, h.1, rd_nil1 _ _ _, h.2⟩
set_option maxRecDepth 100000 in
theorem failing_any (w : World) (p : Pg) (A : Option Addr) (cap : Nat) (f : Int) (most : Nat) (hp : PgIn w p A) (hmost : most ≤ 100000) :
    Calls Tryz.prog 20 #[valP p A cap, .int .i64 f, .int .i64 (most : Int)] w (LeastOut w (Pr.all6 p f most).2 (Pr.leastR Pr.isFail p f most)) := by
  obtain ⟨Wa, X, hWa, hX, hBa, hXl, hXe⟩ := pg_box w p.vars p.mtx A p.code.length cap
  have hpa := hp.below hBa
  have hcall := find_any Wa p A cap f most hpa hmost (fail_is Wa)
  obtain ⟨e, he⟩ : ∃ e, e = (Pr.all6 p f most).2 := ⟨_, rfl⟩
  obtain ⟨r, hr⟩ : ∃ r, r = Pr.leastR Pr.isFail p f most := ⟨_, rfl⟩
  rw [← he, ← hr] at hcall ⊢
  unfold LeastOut at hcall ⊢
  obtain ⟨b, hb⟩ : ∃ b, b = r.isSome := ⟨_, rfl⟩
  obtain ⟨q, hq⟩ : ∃ q, q = (Pr.wayOf r).length := ⟨_, rfl⟩
  rw [← hb, ← hq] at hcall ⊢
  unfold valP at hcall ⊢
  have HCALL := Lib.hid hcall
  have HB := Lib.hid hBa
  obtain ⟨x0, x1, x2, xl⟩ := hXe Wa (Below.refl _ _)
  clear hcall hXe hBa hpa hp he hr hb hq
  go_enter Tryz.func20, Tryz.ntmps20
  go_upto_region 1 with fail
  rw [← hWa, ← hX]
  clear hWa hX
  go_wp2_with fail
  refine HCALL.out.mono ?_
  rintro y w1 ⟨A1, c1, rfl, r1, b1⟩
  have H1 := Lib.hid (And.intro r1 (below_at HB.out b1))
  clear r1 b1 HCALL x0 x1 x2 xl
  go_wp2_with fail
  exact bodyPost_ret (v := .tuple #[.slice A1 q c1, .bool b, .int .i64 e]) (by simp [results, Tryz.results20, go_sem]) rfl ⟨A1, c1, rfl, H1.out.1, H1.out.2⟩
set_option maxRecDepth 100000 in
theorem waiting_any (w : World) (p : Pg) (A : Option Addr) (cap : Nat) (f : Int) (most : Nat) (hp : PgIn w p A) (hmost : most ≤ 100000) :
    Calls Tryz.prog 21 #[valP p A cap, .int .i64 f, .int .i64 (most : Int)] w (LeastOut w (Pr.all6 p f most).2 (Pr.leastR Pr.isWait p f most)) := by
  obtain ⟨Wa, X, hWa, hX, hBa, hXl, hXe⟩ := pg_box w p.vars p.mtx A p.code.length cap
  have hpa := hp.below hBa
  have hcall := find_any Wa p A cap f most hpa hmost (wait_is Wa)
  obtain ⟨e, he⟩ : ∃ e, e = (Pr.all6 p f most).2 := ⟨_, rfl⟩
  obtain ⟨r, hr⟩ : ∃ r, r = Pr.leastR Pr.isWait p f most := ⟨_, rfl⟩
  rw [← he, ← hr] at hcall ⊢
  unfold LeastOut at hcall ⊢
  obtain ⟨b, hb⟩ : ∃ b, b = r.isSome := ⟨_, rfl⟩
  obtain ⟨q, hq⟩ : ∃ q, q = (Pr.wayOf r).length := ⟨_, rfl⟩
  rw [← hb, ← hq] at hcall ⊢
  unfold valP at hcall ⊢
  have HCALL := Lib.hid hcall
  have HB := Lib.hid hBa
  obtain ⟨x0, x1, x2, xl⟩ := hXe Wa (Below.refl _ _)
  clear hcall hXe hBa hpa hp he hr hb hq
  go_enter Tryz.func21, Tryz.ntmps21
  go_upto_region 1 with fail
  rw [← hWa, ← hX]
  clear hWa hX
  go_wp2_with fail
  refine HCALL.out.mono ?_
  rintro y w1 ⟨A1, c1, rfl, r1, b1⟩
  have H1 := Lib.hid (And.intro r1 (below_at HB.out b1))
  clear r1 b1 HCALL x0 x1 x2 xl
  go_wp2_with fail
  exact bodyPost_ret (v := .tuple #[.slice A1 q c1, .bool b, .int .i64 e]) (by simp [results, Tryz.results21, go_sem]) rfl ⟨A1, c1, rfl, H1.out.1, H1.out.2⟩
namespace Pr
def reachE (p : Pg) (f : Int) (most : Nat) (x : Int) : Int := if (all6 p f most).2 = 0 then (if x < 0 ∨ p.vars ≤ x then 2 else 0) else (all6 p f most).2
def reachR (p : Pg) (f : Int) (most : Nat) (x v : Int) : Option Nd := if x < 0 ∨ p.vars ≤ x then none else leastR (isReach x.toNat v) p f most
end Pr
set_option maxRecDepth 100000 in
set_option maxHeartbeats 2000000 in
theorem reaching_any (w : World) (p : Pg) (A : Option Addr) (cap : Nat) (f : Int) (most : Nat) (x v : Int) (hp : PgIn w p A) (hmost : most ≤ 100000) :
    Calls Tryz.prog 22 #[valP p A cap, .int .i64 f, .int .i64 (most : Int), .int .i64 x, .int .i64 v] w (LeastOut w (Pr.reachE p f most x) (Pr.reachR p f most x v)) := by
  obtain ⟨Wa, X, hWa, hX, hBa, hXl, hXe⟩ := pg_box w p.vars p.mtx A p.code.length cap
  obtain ⟨Wb, hWb⟩ : ∃ z, z = Wa.alloc (Obj.cells #[.int .i64 x] 3) := ⟨_, rfl⟩
  obtain ⟨Y, hY⟩ : ∃ z, z = Wa.heap.size := ⟨_, rfl⟩
  obtain ⟨Wc, hWc⟩ : ∃ z, z = Wb.alloc (Obj.cells #[.int .i64 v] 2) := ⟨_, rfl⟩
  obtain ⟨Z, hZ⟩ : ∃ z, z = Wb.heap.size := ⟨_, rfl⟩
  have hYZ : Z = Y + 1 := by rw [hZ, hY, hWb]; simp
  have hXY : Y = X + 1 := by rw [hX, hY, hWa]; simp
  have hbb : Below Wa.heap.size Wa Wb := by rw [hWb]; exact (Below.refl _ _).alloc (Nat.le_refl _) _
  have hbc : Below Wb.heap.size Wb Wc := by rw [hWc]; exact (Below.refl _ _).alloc (Nat.le_refl _) _
  have hcY : CellAt Wc Y (.int .i64 x) := by
    refine CellAt.below (w := Wb) ⟨3, ?_⟩ hbc
    rw [hWb, hY]; exact heap_alloc_new Wa _
  have hcZ : CellAt Wc Z (.int .i64 v) := ⟨2, by rw [hWc, hZ]; exact heap_alloc_new Wb _⟩
  have hBac : Below Wa.heap.size Wa Wc := below_at hbb hbc
  have hBwc : Below w.heap.size w Wc := below_at hBa hBac
  have hpc := hp.below hBwc
  have hall : Calls Tryz.prog 59 #[valP p A cap, .int .i64 f, .int .i64 (most : Int)] Wc fun x w' => (∃ (A' : Option Addr) (n c' r k : Nat), x = .returned (.tuple #[.agg #[.slice A' n c', .int .i64 r, .int .i64 k], .int .i64 (Pr.all6 p f most).2])) ∧ Below Wc.heap.size Wc w' := (walkAll_any Wc p A cap f most hpc hmost).mono fun x w' ⟨A', c', hx, _, _, _, hb⟩ => ⟨⟨A', (Pr.all6 p f most).1.2.keys.length, c', (Pr.all6 p f most).1.2.runs, (Pr.all6 p f most).1.1, hx⟩, hb⟩
  have hfind : ∀ u, Below Wc.heap.size Wc u → (Pr.all6 p f most).2 = 0 → ¬ (x < 0 ∨ p.vars ≤ x) → Calls Tryz.prog 54 #[valP p A cap, .int .i64 f, .int .i64 (most : Int), .func (.func 60) #[] #[.pointer (some ⟨Y, 0, none⟩), .pointer (some ⟨Z, 0, none⟩)]] u (LeastOut u 0 (Pr.leastR (Pr.isReach x.toNat v) p f most)) := fun u hu h0 hx => by
    obtain ⟨m, rfl, hm8, hok, hcnt⟩ := Pr.all6_ok h0
    have hv : p.vars ≤ 4 := hok.1.2.1
    have hxn : x = (x.toNat : Int) := by omega
    have hx4 : x.toNat < 4 := by omega
    have h1 : CellAt u Y (.int .i64 (x.toNat : Int)) := by rw [← hxn]; exact hcY.below hu
    have := find_any u p A cap m most (hpc.below hu) hmost (reach_is u Y Z x.toNat v hx4 h1 (hcZ.below hu))
    rw [h0] at this
    exact this
  have hE : Pr.reachE p f most x = if (Pr.all6 p f most).2 = 0 then (if x < 0 ∨ p.vars ≤ x then 2 else 0) else (Pr.all6 p f most).2 := rfl
  have hR : Pr.reachR p f most x v = if x < 0 ∨ p.vars ≤ x then none else Pr.leastR (Pr.isReach x.toNat v) p f most := rfl
  have hL : (Pr.all6 p f most).2 ≠ 0 → Pr.leastR (Pr.isReach x.toNat v) p f most = none := fun h => by unfold Pr.leastR; rw [if_neg h]
  obtain ⟨e, he⟩ : ∃ e, e = (Pr.all6 p f most).2 := ⟨_, rfl⟩
  obtain ⟨r, hr⟩ : ∃ r, r = Pr.leastR (Pr.isReach x.toNat v) p f most := ⟨_, rfl⟩
  rw [← hr] at hfind hR hL
  rw [← he] at hall hfind hE hL
  obtain ⟨E, hEE⟩ : ∃ z, z = Pr.reachE p f most x := ⟨_, rfl⟩
  obtain ⟨R, hRR⟩ : ∃ z, z = Pr.reachR p f most x v := ⟨_, rfl⟩
  rw [← hEE] at hE ⊢
  rw [← hRR] at hR ⊢
  unfold valP at hall hfind ⊢
  have HALL := Lib.hid hall
  have HFIND := Lib.hid hfind
  have HXE := Lib.hid hXe
  have HB := Lib.hid hBwc
  have HE := Lib.hid hE
  have HR := Lib.hid hR
  have HL := Lib.hid hL
  have HCY := Lib.hid hcY
  have HBA := Lib.hid hBac
  have hl : ∀ u, Below Wc.heap.size Wc u → u.cell? ⟨X, 0, none⟩ = some (.int .i64 p.vars) ∧ u.cell? ⟨X, 1, none⟩ = some (.int .i64 p.mtx) ∧ u.cell? ⟨X, 2, none⟩ = some (.slice A p.code.length cap) ∧ X < u.heap.size ∧ u.cell? ⟨Y, 0, none⟩ = some (.int .i64 x) ∧ Y < u.heap.size := fun u hu => by
    obtain ⟨x0, x1, x2, xl⟩ := hXe u (below_at hBac hu)
    obtain ⟨y0, yl, _⟩ := (hcY.below hu).cell
    exact ⟨x0, x1, x2, xl, y0, yl⟩
  have HLX := Lib.hid hl
  obtain ⟨x0, x1, x2, xl, y0, yl⟩ := hl Wc (Below.refl _ _)
  clear hall hfind hXe hBwc hE hR hL hcY hBac hpc hp he hr hEE hRR hBa hbb hbc hcZ hl
  go_enter Tryz.func22, Tryz.ntmps22
  go_upto_region 1 with fail
  simp only [← hWa, ← hX, ← hWb, ← hY, ← hWc, ← hZ, ← hXY, ← hYZ]
  clear hWa hX hWb hY hWc hZ hXY hYZ
  go_wp2_with fail
  refine HALL.out.mono ?_
  rintro y w1 ⟨⟨A1, n1, c1, r1, k1, rfl⟩, b1⟩
  have HB1 := Lib.hid (b1.alloc b1.size (Obj.cells #[.slice A1 n1 c1, .int .i64 r1, .int .i64 k1] 110))
  obtain ⟨W2, hW2⟩ : ∃ z, z = w1.alloc (Obj.cells #[.slice A1 n1 c1, .int .i64 r1, .int .i64 k1] 110) := ⟨_, rfl⟩
  rw [← hW2] at HB1
  clear b1 HALL x0 x1 x2 xl y0 yl
  by_cases h0 : e = 0
  · subst h0
    obtain ⟨x0, x1, x2, xl, y0, yl⟩ := HLX.out W2 HB1.out
    by_cases hneg : x < 0
    · have hE2 : E = 2 := by rw [HE.out, if_pos rfl, if_pos (.inl hneg)]
      have hR2 : R = none := by rw [HR.out, if_pos (.inl hneg)]
      subst hE2; subst hR2
      go_upto_region 4 with fail
      rw [← hW2]
      clear hW2
      go_wp2_with fail
      exact bodyPost_ret (v := .tuple #[.slice none 0 0, .bool false, .int .i64 2]) (by simp [results, Tryz.results22, go_sem]) rfl ⟨none, 0, rfl, rd_nil1 _ _ _, below_at HB.out HB1.out⟩
    · by_cases hbig : p.vars ≤ x
      · have hE2 : E = 2 := by rw [HE.out, if_pos rfl, if_pos (.inr hbig)]
        have hR2 : R = none := by rw [HR.out, if_pos (.inr hbig)]
        subst hE2; subst hR2
        go_upto_region 4 with fail
        rw [← hW2]
        clear hW2
        go_wp2_with fail
        exact bodyPost_ret (v := .tuple #[.slice none 0 0, .bool false, .int .i64 2]) (by simp [results, Tryz.results22, go_sem]) rfl ⟨none, 0, rfl, rd_nil1 _ _ _, below_at HB.out HB1.out⟩
      · have hno : ¬ (x < 0 ∨ p.vars ≤ x) := fun h => h.elim hneg hbig
        have hE2 : E = 0 := by rw [HE.out, if_pos rfl, if_neg hno]
        have hR2 : R = r := by rw [HR.out, if_neg hno]
        subst hE2; subst hR2
        have hf := HFIND.out W2 HB1.out rfl hno
        unfold LeastOut at hf
        obtain ⟨b, hb⟩ : ∃ b, b = R.isSome := ⟨_, rfl⟩
        obtain ⟨q, hq⟩ : ∃ q, q = (Pr.wayOf R).length := ⟨_, rfl⟩
        rw [← hb, ← hq] at hf
        have HF := Lib.hid hf
        have HQ := Lib.hid (And.intro hb hq)
        clear hf hb hq hno
        go_upto_region 4 with fail
        rw [← hW2]
        clear hW2
        go_wp2_with fail
        refine HF.out.mono ?_
        rintro y w3 ⟨A3, c3, rfl, r3, b3⟩
        have H3 := Lib.hid (And.intro r3 (below_at (below_at HB.out HB1.out) b3))
        clear r3 b3 HF x0 x1 x2 xl y0 yl
        go_wp2_with fail
        exact bodyPost_ret (v := .tuple #[.slice A3 q c3, .bool b, .int .i64 0]) (by simp [results, Tryz.results22, go_sem]) rfl ⟨A3, c3, by rw [← HQ.out.1, ← HQ.out.2], by rw [← HQ.out.2]; exact H3.out.1, H3.out.2⟩
  · have he0 : (e == 0) = false := by simpa using h0
    have he1 : (e != 0) = true := by simpa using h0
    have hE2 : E = e := by rw [HE.out, if_neg h0]
    have hR2 : R = none := by rw [HR.out, HL.out h0]; split <;> rfl
    subst hE2; subst hR2
    go_wp2_with fail
    rw [← hW2]
    exact bodyPost_ret (v := .tuple #[.slice none 0 0, .bool false, .int .i64 E]) (by simp [results, Tryz.results22, go_sem]) rfl ⟨none, 0, rfl, rd_nil1 _ _ _, below_at HB.out HB1.out⟩
end Go.Proofs.YtckdofjpoajblaaGreat
