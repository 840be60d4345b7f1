/- slices.Sorted(maps.Keys(m)): a map's keys, rising. -/
import Derived.Test.YtcaapoacmfjnmaaGreatIter
import Derived.Test.YtcaapoacmfjnmaaGreatPut
import Derived.Test.YtcaapoacmfjnmaaGreatKey
import Derived.Test.YtcaapoacmfjnmaaGreatWkE
import Derived.Test.YtcaapoacmfjnmaaGreatFr
import Derived.Test.YtcaapoacmfjnmaaGreatWkC
import Derived.Shelf.Abstract
namespace Go.Proofs.YtcaapoacmfjnmaaGreat
open Go.RowKit Go.Maps Go.Sort Go.Shelf
set_option linter.unusedVariables false

theorem sorts_any (m : Nat) : AnyZ.SortsIn Tryz.prog Tryz.sorted70_ren Fence.wide m :=
  ⟨fun blk off cap ss W hH hblk hsz => callsIn_wide.2 (AnyM.slices_Sort_string Tryz.sort112 blk off cap ss W hH hblk hsz),
   fun p cap W => callsIn_wide.2 (AnyM.slices_Sort_string_none Tryz.sort112 p cap W)⟩
theorem mapKeys_any (mb : Option Nat) (W : World) : Calls Tryz.prog 71 #[.map mb] W fun e w' => e = .returned (.func (.func 113) #[] #[.pointer (some ⟨W.heap.size, 0, none⟩)]) ∧ w' = W.alloc (.cells #[.map mb] 114) :=
  callsIn_wide.1 (AnyZ.keys_in Tryz.keys71 Fence.wide 5 trivial rfl mb W)
set_option maxHeartbeats 1000000 in
theorem sortedKeys_any {H : Type} (b nn : Nat) (D0 : DataW H) (R : Value → Option (DataW H × List MemPlace)) (w : World) (hown : w.ownsMap Tryz.prog 9 R b nn D0) (hmax : Maps.size D0 ≤ maxLen) (hbytes : Maps.size D0 * 16 ≤ 140737488355328) :
    Calls Tryz.prog 70 #[.func (.func 113) #[] #[.pointer (some ⟨w.heap.size, 0, none⟩)]] (w.alloc (.cells #[.map (some b)] 114)) fun e w' => ∃ (v : Value) (ss : List (List UInt8)), e = .returned v ∧ ss.Perm (strKeys D0) ∧
      w'.ownsRow (w.alloc (.cells #[.map (some b)] 114)).heap.size 9 1 v ss.length ((ss.mergeSort (fun x y => decide (x ≤ y))).map encStr) ∧ (v = .slice none 0 0 ↔ ss = []) ∧ Below (w.alloc (.cells #[.map (some b)] 114)).heap.size (w.alloc (.cells #[.map (some b)] 114)) w' := by
  have hbl := hown.lt
  have hseq : SeqGives Fence.wide 2 Tryz.prog 113 #[.pointer (some ⟨w.heap.size, 0, none⟩)] encStr (fun ss => ss.Perm (strKeys D0)) (Maps.size D0) (w.alloc (.cells #[.map (some b)] 114)) :=
    AnyZ.keys_gives (ρ := Tryz.keys71_ren) { Tryz.keys71 with } Fence.wide _ trivial rfl (by omega) w.heap.size b nn D0 _ (by simp) (by simp) (by
      obtain ⟨es, clock, hb, Ft, hs, hD⟩ := hown
      exact ⟨es, clock, (Below.heap_alloc _ _ b hbl).trans hb, Ft, hs, hD⟩)
  exact callsIn_wide.1 (AnyZ.sorted_in Tryz.sorted70 Fence.wide 5 trivial trivial trivial trivial rfl (by omega) (sorts_any _) (enters_of Tryz.func112 (by kernel_rfl) rfl) 113 #[.pointer (some ⟨w.heap.size, 0, none⟩)] trivial (enters_of Tryz.func113 (by kernel_rfl) rfl) _ _ hmax hbytes _ hseq)
theorem insert_perm {H : Type} (x : Lit × DataW H) : ∀ l : List (Lit × DataW H), (DataW.insert x l).Perm (x :: l)
  | [] => List.Perm.refl _
  | y :: l => by
    unfold DataW.insert
    split
    · exact List.Perm.refl _
    · exact ((insert_perm x l).cons y).trans (List.Perm.swap x y l)
theorem foldr_insert_perm {H : Type} (l : List (Lit × DataW H)) : (l.foldr DataW.insert []).Perm l := by
  induction l with
  | nil => exact List.Perm.refl _
  | cons x l ih => exact (insert_perm x _).trans (ih.cons x)
/-- a text in a key -/
def txt (v : Value) : List UInt8 := match v with | .string s => s.data.toList | _ => []
namespace Ky
theorem sorted_nodup {l L : List K} (hn : l.Nodup) (hm : ∀ x, x ∈ l ↔ x ∈ L) : l.mergeSort (fun x y => decide (x ≤ y)) = gather L := by
  have hp := List.mergeSort_perm l (fun x y => decide (x ≤ y))
  refine strict_ext ?_ (gather_strict L) (fun x => by rw [hp.mem_iff, gather_mem, hm])
  have hs : (l.mergeSort (fun x y => decide (x ≤ y))).Pairwise (fun a b => decide (a ≤ b) = true) := List.pairwise_mergeSort (by
    intro a b c h1 h2
    rw [le_eq, Bool.not_eq_true'] at h1 h2 ⊢
    cases h : lt c a with
    | false => rfl
    | true =>
      cases hbc : lt b c with
      | true => rw [lt_tr hbc h] at h1; cases h1
      | false =>
        have := lt_tri hbc h2
        subst this
        rw [h] at h1; cases h1) (by
    intro a b
    rw [le_eq, le_eq]
    cases h : lt b a with
    | false => rfl
    | true => rw [lt_asym h]; rfl) l
  have hn2 : (l.mergeSort (fun x y => decide (x ≤ y))).Nodup := hp.nodup_iff.2 hn
  refine (hs.and hn2).imp (fun {a b} h => ?_)
  obtain ⟨h1, h2⟩ := h
  rw [le_eq, Bool.not_eq_true'] at h1
  cases hab : lt a b with
  | true => rfl
  | false => exact (h2 (lt_tri hab h1)).elim
end Ky
set_option maxHeartbeats 1000000 in
/-- the keys of a map, rising -/
theorem sortedMap_any (w : World) (b : Nat) (m : List (ByteArray × Value)) (hm : MapAt Tryz.keyS w b m) (hl : m.length ≤ 1000000) (hk : ∀ p ∈ m, p.1.size ≤ maxLen) (L : List Ky.K) (hL : ∀ k, k ∈ L ↔ k ∈ m.map (fun p => p.1.data.toList)) :
    Calls Tryz.prog 70 #[.func (.func 113) #[] #[.pointer (some ⟨w.heap.size, 0, none⟩)]] (w.alloc (.cells #[.map (some b)] 114)) (StrOut (w.alloc (.cells #[.map (some b)] 114)) (Ky.gather L)) := by
  obtain ⟨es, clock, hb, hent, hnd, hst⟩ := hm
  have hes : es.size = m.length := by have := congrArg List.length hent; simpa [ents] using this
  have hkeys : es.toList.map (fun e => e.key) = m.map (fun p => Value.string p.1) := by
    have := congrArg (List.map Prod.fst) hent
    have h2 : es.toList.map (fun e => e.key) = m.map (fun p => Tryz.keyS.kk p.1) := by simpa [ents, List.map_map, Function.comp_def] using this
    exact h2
  have hstr : ∀ x ∈ es.toList, ∃ s : ByteArray, x.key = .string s ∧ s.size ≤ maxLen := fun x hx => by
    have : x.key ∈ m.map (fun p => Value.string p.1) := by rw [← hkeys]; exact List.mem_map.2 ⟨x, hx, rfl⟩
    obtain ⟨p, hp, e⟩ := List.mem_map.1 this
    exact ⟨p.1, e.symm, hk p hp⟩
  have hrd : ∀ x ∈ es.toList, Go.WideElems.rd (H := Unit) Tryz.prog 9 (fun _ => some (.nil, [])) x = some (.string (txt x.key), .nil) := fun x hx => by
    obtain ⟨s, e, hs⟩ := hstr x hx
    unfold Go.WideElems.rd
    rw [e, Go.WideMaps.keyOf_string_mk Tryz.underlying9 hs]
    rfl
  have hown : w.ownsMap (H := Unit) Tryz.prog 9 (fun _ => some (.nil, [])) b es.size (.map ((es.toList.map (Go.WideElems.rg Tryz.prog 9 (fun _ => some (.nil, [])))).foldr DataW.insert [])) :=
    ⟨es, clock, hb, ⟨by rw [hes]; unfold maxLen; omega, hst, fun x hx => ⟨_, hrd x hx⟩⟩, Nat.le_refl _, rfl⟩
  have hks : (strKeys (DataW.map ((es.toList.map (Go.WideElems.rg (H := Unit) Tryz.prog 9 (fun _ => some (.nil, [])))).foldr DataW.insert []))).Perm (m.map fun p : ByteArray × Value => p.1.data.toList) := by
    show (List.map (fun p : Lit × DataW Unit => strOf p.1) _).Perm _
    refine ((foldr_insert_perm _).map _).trans ?_
    rw [List.map_map]
    have h1 : es.toList.map ((fun p : Lit × DataW Unit => strOf p.1) ∘ Go.WideElems.rg Tryz.prog 9 (fun _ => some (.nil, []))) = (es.toList.map (fun e => e.key)).map txt := by
      rw [List.map_map]
      refine List.map_congr_left (fun x hx => ?_)
      simp only [Function.comp]
      rw [Go.WideElems.rg_of (hrd x hx)]
      rfl
    rw [h1, hkeys, List.map_map]
    exact List.Perm.refl _
  have hnd2 : (m.map fun p => p.1.data.toList).Nodup := by
    have : (m.map fun p => p.1.data.toList) = (m.map (·.1)).map (fun s : ByteArray => s.data.toList) := by rw [List.map_map]; rfl
    rw [this]
    refine List.pairwise_map.2 (hnd.imp (fun {a b} hab e => hab ?_))
    obtain ⟨a⟩ := a
    obtain ⟨b⟩ := b
    simp only at e
    rw [show a = b from by simpa using congrArg List.toArray e]
  have hsz : Maps.size (DataW.map ((es.toList.map (Go.WideElems.rg (H := Unit) Tryz.prog 9 (fun _ => some (.nil, [])))).foldr DataW.insert [])) ≤ 1000000 := Nat.le_trans hown.size_le (by omega)
  refine (sortedKeys_any b es.size _ _ w hown (by unfold maxLen; omega) (by omega)).mono ?_
  rintro e w' ⟨v, ss, rfl, hp, hrow, hnil, hbel⟩
  have hss : ss.mergeSort (fun x y => decide (x ≤ y)) = Ky.gather L := Ky.sorted_nodup ((hp.trans hks).nodup_iff.2 hnd2) (fun x => by rw [(hp.trans hks).mem_iff, hL])
  have hlen : (Ky.gather L).length = ss.length := by rw [← hss, List.length_mergeSort]
  have hsv : (Ky.gather L).map encStr = (Ky.gather L).map sv := List.map_congr_left (fun x _ => rfl)
  rw [hss, hsv, ← hlen] at hrow
  obtain ⟨hr1, hr2⟩ := hrow
  rcases hr2 with ⟨rfl, hz⟩ | ⟨g, cap, cur, rfl, hg, hc, hn1, hn2, hn3, hn4⟩
  · refine ⟨none, 0, by rw [hz], ?_, hbel⟩
    have : Ky.gather L = [] := List.eq_nil_of_length_eq_zero hz
    rw [this]
    exact ⟨(Row.nil w' 9 1).rd, Nat.le_refl _, Nat.zero_le _⟩
  · refine ⟨some ⟨g, 0, none⟩, cap, rfl, ⟨⟨hr1, fun _ => ⟨g, 0, rfl, blk_lt hc, fun j hj => ?_⟩⟩, hn1, hn2⟩, hbel⟩
    rw [cell_blk hc, ← hn4, List.getElem?_take, if_pos hj, Nat.zero_add]
    simp
end Go.Proofs.YtcaapoacmfjnmaaGreat
/- walk.waits; what walk.All and walk.Deadlocks do at an end; walk.over. -/
namespace Go.Proofs.YtcaapoacmfjnmaaGreat
open Go.RowKit
set_option linter.unusedVariables false

set_option maxRecDepth 100000 in
theorem waits_any (w : World) (C : Nat → Prop) (S T : Nat) (s : St) (h : SAt w C S T s) (hw : Pr.Wf s) :
    Calls Tryz.prog 73 #[.pointer (some ⟨S, 0, none⟩)] w fun y w' => y = .returned (.bool (Pr.waits s)) ∧ Below w.heap.size w w' := by
  have hthr := threads_any w C S T s h
  have hnx := fun (i : Nat) (hi : i < s.th.length) (u : World) (hu : Below w.heap.size w u) => next_any u C S T s i (h.below hu) hw hi
  obtain ⟨res, hres⟩ : ∃ r, r = Pr.waits s := ⟨_, rfl⟩
  rw [← hres]
  obtain ⟨nt, hnt⟩ : ∃ n, n = s.th.length := ⟨_, rfl⟩
  have hn4 := hw.n4
  rw [← hnt] at hthr hnx hn4
  have hres2 : res = (List.range nt).any fun t => (Pr.next s t).isSome := by rw [hres, hnt]; rfl
  have HTHR := Lib.hid hthr
  have HNX := Lib.hid hnx
  have HRES := Lib.hid hres2
  clear h hw hthr hnx hres hnt hres2
  go_enter Tryz.func73, Tryz.ntmps73
  go_wp2_with fail
  refine HTHR.out.mono ?_
  rintro y w1 ⟨rfl, rfl⟩
  go_wp2_with fail
  go_loopw [8] (fun v wr => ∃ i : Nat, i ≤ nt ∧ v = .int .i64 i ∧ Hid (((List.range i).any fun t => (Pr.next s t).isSome) = false) ∧ Hid (Below w.heap.size w wr)) (fun v _ => nt - (intOf v).toNat)
  case atStart => exact ⟨0, Nat.zero_le _, rfl, Lib.hid rfl, Lib.hid (Below.refl _ _)⟩
  case round =>
    obtain ⟨i, hi, rfl, HN, HB⟩ := hrel
    by_cases hlt : i < nt
    · have hc := HNX.out i hlt wr HB.out
      obtain ⟨⟨et, ek, eo, ef⟩, he⟩ : ∃ e, e = (Pr.next s i).getD Pr.zeroE := ⟨_, rfl⟩
      obtain ⟨ok, hok⟩ : ∃ ok, ok = (Pr.next s i).isSome := ⟨_, rfl⟩
      rw [← he, ← hok] at hc
      simp only [valE] at hc
      have HC := Lib.hid hc
      have HOK := Lib.hid hok
      have k1 : (0 : Int) ≤ (i : Int) := Int.natCast_nonneg _
      have k2 : (i : Int) < (nt : Int) := by omega
      clear hc he hok
      go_wp2_with fail
      refine HC.out.mono ?_
      rintro y w2 ⟨rfl, b2⟩
      have HB2 := Lib.hid (below_at HB.out b2)
      clear b2 HC
      cases ok with
      | true =>
        have hr : res = true := by rw [HRES.out]; exact List.any_eq_true.2 ⟨i, List.mem_range.2 hlt, HOK.out.symm⟩
        subst hr
        go_wp2_with fail
        go_ret
        exact ⟨rfl, HB2.out.alloc HB2.out.size _⟩
      | false =>
        go_wp2_with fail
        go_roundw
        case rel => exact ⟨i + 1, by omega, by go_num, Lib.hid (by rw [List.range_succ, List.any_append, HN.out]; simp [← HOK.out]), Lib.hid (HB2.out.alloc HB2.out.size _)⟩
        case measure => simp [intOf]; omega
    · obtain rfl : i = nt := by omega
      have hr : res = false := by rw [HRES.out, HN.out]
      subst hr
      clear HRES HN
      go_wp2_with fail
      go_ret
      exact ⟨rfl, HB.out⟩

theorem key_eqW (k k' : List UInt8) : ((⟨k.toArray⟩ : ByteArray) = ⟨k'.toArray⟩) ↔ k = k' := ⟨fun e => by injection e with e; simpa using congrArg Array.toList e, fun e => by rw [e]⟩
theorem mget_isSome {m : List (ByteArray × Value)} {k : ByteArray} : (mget m k).isSome = true ↔ k ∈ m.map (·.1) := by
  induction m with
  | nil => simp [mget]
  | cons p m ih =>
    obtain ⟨a, v⟩ := p
    simp only [mget, List.map_cons, List.mem_cons]
    by_cases h : k = a
    · simp [h]
    · rw [if_neg h, ih]; simp [h]
theorem memK (m : List (ByteArray × Value)) (k : List UInt8) : (k ∈ m.map (fun p => p.1.data.toList)) ↔ ((⟨k.toArray⟩ : ByteArray) ∈ m.map (·.1)) := by
  simp only [List.mem_map]
  constructor
  · rintro ⟨p, hp, rfl⟩; exact ⟨p, hp, by simp⟩
  · rintro ⟨p, hp, h⟩; exact ⟨p, hp, by rw [h]⟩
/-! what the two count -/
theorem wrap_up (n : Nat) : wrap64 (wrap64 (n : Int) + 1) = wrap64 ((n + 1 : Nat) : Int) := by
  simp only [wrap64]
  omega
def IDead (K : Nat) (a : Pr.Sm) (w : World) : Prop := CellAt w K (.int .i64 (wrap64 (a.stuck : Int)))
def IAll (Rn Mc B : Nat) (a : Pr.Sm) (w : World) : Prop := CellAt w Rn (.int .i64 (wrap64 (a.runs : Int))) ∧ CellAt w Mc (.map (some B)) ∧ ∃ m, MapAt Tryz.keyS w B m ∧ (∀ k, k ∈ a.keys ↔ k ∈ m.map (fun p => p.1.data.toList)) ∧ (∀ p ∈ m, p.1.size ≤ 1000) ∧ m.length ≤ a.keys.length
theorem key_le (row : List Ev) (h : row.length ≤ 100) : (Fo.key row).length ≤ 1000 := by
  by_cases hk : Fo.okRow row = true
  · have h1 := (Fo.lev_flat row).length_eq
    have h2 : (Fo.lev row).length ≤ row.length := by rw [Fo.lev_len]; exact Fo.levU_len row
    have h3 := Fo.encP_len (L := Fo.lev row) (Fo.lev row).length
    rw [List.take_length] at h3
    rw [Fo.key_enc hk, Fo.enc_eq, List.length_append, List.length_singleton]
    omega
  · rw [Fo.key_none (by simpa using hk)]; simp
set_option maxRecDepth 100000 in
theorem dead_at (K : Nat) : AtS 72 #[.pointer (some ⟨K, 0, none⟩)] (fun k => k = K) (IDead K) Pr.at6 where
  enters := Go.Proofs.enters_of Tryz.func72 (by kernel_rfl) rfl
  keep := fun x u u' H hi hm hF => CellAt.mod hi hm (fun h => hF K h rfl)
  call := by
    intro u C S T s row A cap x h hw hr hl hF hi
    have hwt := waits_any u C S T s h hw
    obtain ⟨b, hb⟩ : ∃ b, b = Pr.waits s := ⟨_, rfl⟩
    rw [← hb] at hwt
    have HWT := Lib.hid hwt
    have HI := Lib.hid hi
    have hat : (Pr.at6 s row x).stuck = x.stuck + if b = true then 1 else 0 := by rw [hb]; rfl
    have HAT := Lib.hid hat
    show Calls Tryz.prog 72 #[.pointer (some ⟨S, 0, none⟩), .slice A row.length cap, .pointer (some ⟨K, 0, none⟩)] u _
    clear h hw hr hwt hb hi hat hF
    go_enter Tryz.func72, Tryz.ntmps72
    go_wp2_with fail
    refine HWT.out.mono ?_
    rintro y w1 ⟨rfl, b1⟩
    have hi1 : CellAt w1 K (.int .i64 (wrap64 (x.stuck : Int))) := CellAt.below HI.out b1
    obtain ⟨c0, cl, cf⟩ := hi1.cell
    obtain ⟨hs, hm⟩ := hi1.set (.int .i64 (wrap64 ((x.stuck + 1 : Nat) : Int)))
    have HS := Lib.hid hs
    have HM := Lib.hid ((Mod.of_below_size b1 (fun k => k = K)).trans hm)
    have HB := Lib.hid b1
    have HI1 := Lib.hid hi1
    obtain ⟨z, hz⟩ : ∃ z, z = wrap64 (x.stuck : Int) := ⟨_, rfl⟩
    have hz2 : wrap64 (z + 1) = wrap64 ((x.stuck + 1 : Nat) : Int) := by rw [hz]; exact wrap_up _
    rw [← hz] at c0
    have HZ := Lib.hid hz2
    clear hi1 hs hm b1 hz hz2
    cases b with
    | false =>
      go_wp2_with fail
      go_end0
      refine ⟨rfl, ?_, Mod.of_below_size HB.out _⟩
      unfold IDead
      rw [HAT.out, if_neg (by decide), Nat.add_zero]
      exact HI1.out
    | true =>
      go_wp2_with fail
      rw [HZ.out]
      go_end0
      refine ⟨rfl, ?_, HM.out⟩
      unfold IDead
      rw [HAT.out, if_pos (by trivial)]
      exact HS.out
set_option maxRecDepth 100000 in
set_option maxHeartbeats 2000000 in
theorem all_at (Rn Mc B : Nat) (hRM : Rn ≠ Mc) (hRB : Rn ≠ B) (hMB : Mc ≠ B) : AtS 69 #[.pointer (some ⟨Rn, 0, none⟩), .pointer (some ⟨Mc, 0, none⟩)] (fun k => k = Rn ∨ k = Mc ∨ k = B) (IAll Rn Mc B) Pr.at6 where
  enters := Go.Proofs.enters_of Tryz.func69 (by kernel_rfl) rfl
  keep := fun x u u' H hi hm hF => by
    obtain ⟨h1, h2, m, h3, h4, h5, h6⟩ := hi
    exact ⟨h1.mod hm (fun h => hF _ h (.inl rfl)), h2.mod hm (fun h => hF _ h (.inr (.inl rfl))), m, h3.move (hm.block B h3.lt (fun h => hF _ h (.inr (.inr rfl)))), h4, h5, h6⟩
  call := by
    intro u C S T s row A cap x h hw hr hl hF hi
    obtain ⟨h1, h2, m, h3, h4, h5, h6⟩ := hi
    obtain ⟨c0, cl, cf⟩ := h1.cell
    obtain ⟨hs, hm⟩ := h1.set (.int .i64 (wrap64 ((x.runs + 1 : Nat) : Int)))
    obtain ⟨z, hz⟩ : ∃ z, z = wrap64 (x.runs : Int) := ⟨_, rfl⟩
    have hz2 : wrap64 (z + 1) = wrap64 ((x.runs + 1 : Nat) : Int) := by rw [hz]; exact wrap_up _
    rw [← hz] at c0
    have h2' := h2.mod hm (fun e => hRM e.symm)
    have h3' := h3.move (hm.block B h3.lt (fun e => hRB e.symm))
    have hrR := hr.setB (M := Rn) (k := 0) (.int .i64 (wrap64 ((x.runs + 1 : Nat) : Int))) (fun b hb => (hF Rn (.inl rfl)).2.2.2 b hb)
    obtain ⟨W1, hW1⟩ : ∃ z, z = u.setCell ⟨Rn, 0, none⟩ (.int .i64 (wrap64 ((x.runs + 1 : Nat) : Int))) := ⟨_, rfl⟩
    rw [← hW1] at hs hm h2' h3' hrR
    have hkey : ∀ v, Below W1.heap.size W1 v → Calls Tryz.prog 38 #[.slice A row.length cap] v fun y w' => y = .returned (.string ⟨(Fo.key row).toArray⟩) ∧ Below v.heap.size v w' := fun v hv => fkey_any v A cap row (hrR.below hv (Nat.le_refl _)) (by omega)
    obtain ⟨ky, hky⟩ : ∃ ky, ky = Fo.key row := ⟨_, rfl⟩
    have hkl : ky.length ≤ 1000 := by rw [hky]; exact key_le row hl
    rw [← hky] at hkey
    have hat : Pr.at6 s row x = ⟨Ky.insG x.keys ky, x.runs + 1, x.stuck + if Pr.waits s = true then 1 else 0⟩ := by rw [hky]; rfl
    have HKEY := Lib.hid hkey
    have HZ := Lib.hid hz2
    have HW1 := Lib.hid hW1
    have HS := Lib.hid hs
    have HM := Lib.hid (show Mod (fun k => k = Rn ∨ k = Mc ∨ k = B) u W1 from hm.mono (fun k _ e => .inl e))
    have H2 := Lib.hid h2'
    have H3 := Lib.hid (And.intro h3' (And.intro h4 (And.intro h5 (And.intro h6 hkl))))
    have HAT := Lib.hid hat
    have HNE := Lib.hid (And.intro hRM (And.intro hRB hMB))
    show Calls Tryz.prog 69 #[.pointer (some ⟨S, 0, none⟩), .slice A row.length cap, .pointer (some ⟨Rn, 0, none⟩), .pointer (some ⟨Mc, 0, none⟩)] u _
    clear h hw hr hF h1 h2 h3 h4 h5 h6 hs hm hz hz2 h2' h3' hrR hW1 hkey hky hkl hat hRM hRB hMB
    go_enter Tryz.func69, Tryz.ntmps69
    go_upto_region 1 with fail
    rw [HZ.out, ← HW1.out]
    clear c0 cl cf
    refine wp_region_planF (by kernel_rfl) (fun v => Below W1.heap.size W1 v) [3] [(0, .load), (1, .pure), (2, .eff), (3, .last)] (by simp only [List.map_cons, List.map_nil, List.getElem?_toArray, List.getElem?_cons_succ, List.getElem?_cons_zero]; rfl) (by kernel_rfl) (fun _ _ d _ _ h => by cases d <;> exact h) ((Below.refl _ _).drew) ?_
    obtain ⟨Wd, hWd⟩ : ∃ z, z = W1.drew := ⟨_, rfl⟩
    rw [← hWd]
    have hbd : Below W1.heap.size W1 Wd := by rw [hWd]; exact (Below.refl _ _).drew
    have HBD := Lib.hid hbd
    clear hWd hbd
    repeat (first
      | (refine plan_pure (v := ?_) (by rfl) (fun w1 => ?_) ?_
         rotate_left
         · go_simp <;> with_reducible rfl
         simp only [Act.put, List.setIfInBounds_toArray, List.set_cons_zero, List.set_cons_succ])
      | (refine plan_off (by rfl) ?_
         simp only [Act.put, List.setIfInBounds_toArray, List.set_cons_zero, List.set_cons_succ])
      | (refine plan_load_off (by rfl) ?_
         simp only [Act.put, List.setIfInBounds_toArray, List.set_cons_zero, List.set_cons_succ])
      | (refine plan_load (v := ?_) (by rfl) (fun w1 hw1 => ?_) ?_
         rotate_left
         · (have qm := (H2.out.below hw1).cell
            obtain ⟨q0, ql, _⟩ := qm
            clear hw1
            go_simp <;> with_reducible rfl)
         simp only [Act.put, List.setIfInBounds_toArray, List.set_cons_zero, List.set_cons_succ]))
    have HK := Lib.hid (HKEY.out Wd HBD.out)
    refine plan_eff ?_
    go_wp2_with fail
    refine HK.out.mono ?_
    rintro y w4 ⟨rfl, b4⟩
    have HB4 := Lib.hid (below_at HBD.out b4)
    clear b4 HK HKEY
    go_wp2_with fail
    refine plan_on (fun _ h => h) HB4.out ?_
    repeat (first
      | (refine plan_pure (v := ?_) (by rfl) (fun w1 => ?_) ?_
         rotate_left
         · go_simp <;> with_reducible rfl
         simp only [Act.put, List.setIfInBounds_toArray, List.set_cons_zero, List.set_cons_succ])
      | (refine plan_off (by rfl) ?_
         simp only [Act.put, List.setIfInBounds_toArray, List.set_cons_zero, List.set_cons_succ])
      | (refine plan_load_off (by rfl) ?_
         simp only [Act.put, List.setIfInBounds_toArray, List.set_cons_zero, List.set_cons_succ])
      | (refine plan_load (v := ?_) (by rfl) (fun w1 hw1 => ?_) ?_
         rotate_left
         · (have qm := (H2.out.below hw1).cell
            obtain ⟨q0, ql, _⟩ := qm
            clear hw1
            go_simp <;> with_reducible rfl)
         simp only [Act.put, List.setIfInBounds_toArray, List.set_cons_zero, List.set_cons_succ]))
    have HMP := Lib.hid (H3.out.1.move (HB4.out.block B H3.out.1.lt))
    refine plan_last ?_
    go_wp2_with (at_mapUpdate; refine wpList_mapUpdate Tryz.keyS (by rfl) _ _ _ 114 4 (by rfl) Tryz.underlying114 B m (by rfl) HMP.out ⟨ky.toArray⟩ (by rfl) (.bool true) (by rfl) ?_; intro w8 mp8 m8)
    repeat (first
      | (refine plan_pure (v := ?_) (by rfl) (fun w1 => ?_) ?_
         rotate_left
         · go_simp <;> with_reducible rfl
         simp only [Act.put, List.setIfInBounds_toArray, List.set_cons_zero, List.set_cons_succ])
      | (refine plan_off (by rfl) ?_
         simp only [Act.put, List.setIfInBounds_toArray, List.set_cons_zero, List.set_cons_succ])
      | (refine plan_load_off (by rfl) ?_
         simp only [Act.put, List.setIfInBounds_toArray, List.set_cons_zero, List.set_cons_succ])
      | (refine plan_load (v := ?_) (by rfl) (fun w1 hw1 => ?_) ?_
         rotate_left
         · (skip
            clear hw1
            go_simp <;> with_reducible rfl)
         simp only [Act.put, List.setIfInBounds_toArray, List.set_cons_zero, List.set_cons_succ]))
    refine plan_end ?_
    have HS8 := Lib.hid ((HS.out.below HB4.out).mod m8 HNE.out.2.1)
    have HM8 := Lib.hid ((H2.out.below HB4.out).mod m8 HNE.out.2.2)
    have HX8 := Lib.hid mp8
    have HMO := Lib.hid ((HM.out.trans (Mod.of_below_size HB4.out _)).trans (m8.mono (fun k _ e => .inr (.inr e))))
    clear m8 mp8
    go_wp2_with fail
    go_end0
    refine ⟨rfl, ?_, HMO.out⟩
    rw [HAT.out]
    refine ⟨HS8.out, HM8.out, _, HX8.out, fun k => ?_, fun p hp => ?_, ?_⟩
    · rw [Ky.insG_mem, H3.out.2.1 k]
      rw [memK, memK, mput_keys, key_eqW]
    · have : p.1 ∈ (mput m ⟨ky.toArray⟩ (Value.bool true)).map (·.1) := List.mem_map.2 ⟨p, hp, rfl⟩
      rw [mput_keys] at this
      rcases this with h | h
      · rw [h]; show ky.toArray.size ≤ 1000; simpa using H3.out.2.2.2.2
      · obtain ⟨p2, hp2, h⟩ := List.mem_map.1 h
        rw [← h]; exact H3.out.2.2.1 p2 hp2
    · show (mput m ⟨ky.toArray⟩ (Value.bool true)).length ≤ (Ky.insG x.keys ky).length
      rw [mput_length, Ky.insG_len]
      by_cases hm : ky ∈ x.keys
      · rw [if_pos hm]
        have : (mget m (⟨ky.toArray⟩ : ByteArray)).isSome = true := mget_isSome.2 ((memK m ky).1 ((H3.out.2.1 ky).1 hm))
        rw [if_pos this]
        exact H3.out.2.2.2.1
      · rw [if_neg hm]
        have := H3.out.2.2.2.1
        split <;> omega
end Go.Proofs.YtcaapoacmfjnmaaGreat
/- walk.over, walk.All, walk.Deadlocks. -/
namespace Go.Proofs.YtcaapoacmfjnmaaGreat
open Go.RowKit
set_option linter.unusedVariables false

/-- what walk.over gives -/
def OverOut {α : Type} (w : World) (F : Nat → Prop) (I : α → World → Prop) (at_ : St → List Ev → α → α) (p : Pg) (f : Int) (most : Nat) (x : α) (e : Ending) (w' : World) : Prop :=
  if Pr.may p f then
    e = .returned (.tuple #[.int .i64 (if most < (Pr.over at_ most 32 (Pr.start p f.toNat) [] (0, x)).1 then 0 else ((Pr.over at_ most 32 (Pr.start p f.toNat) [] (0, x)).1 : Int)), .int .i64 (if most < (Pr.over at_ most 32 (Pr.start p f.toNat) [] (0, x)).1 then 5 else 0)]) ∧ I (Pr.over at_ most 32 (Pr.start p f.toNat) [] (0, x)).2 w' ∧ Mod F w w'
  else e = .returned (.tuple #[.int .i64 0, .int .i64 1]) ∧ Below w.heap.size w w'
set_option maxRecDepth 100000 in
set_option maxHeartbeats 4000000 in
theorem over_any {α : Type} {G : Nat} {caps : Array Value} {F : Nat → Prop} {I : α → World → Prop} {at_ : St → List Ev → α → α} (hat : AtS G caps F I at_) (w : World) (p : Pg) (A : Option Addr) (cap : Nat) (f : Int) (most : Nat) (x : α) (hp : PgIn w p A) (hmost : most ≤ 100000) (hF : ∀ k, F k → k < w.heap.size) (hI : I x w) :
    Calls Tryz.prog 68 #[valP p A cap, .int .i64 f, .int .i64 (most : Int), .func (.func G) #[] caps] w (OverOut w F I at_ p f most x) := by
  obtain ⟨Wa, X, hWa, hX, hBa, hXl, hXe⟩ := pg_box w p.vars p.mtx A p.code.length cap
  obtain ⟨Wb, hWb⟩ : ∃ z, z = Wa.alloc (Obj.cells #[.int .i64 (most : Int)] 3) := ⟨_, rfl⟩
  obtain ⟨Wc, hWc⟩ : ∃ z, z = Wb.alloc (Obj.cells #[.func (.func G) #[] caps] 116) := ⟨_, rfl⟩
  have hbA : Below Wa.heap.size Wa Wb := by rw [hWb]; exact (Below.refl _ _).alloc (Nat.le_refl _) _
  have hbB : Below Wb.heap.size Wb Wc := by rw [hWc]; exact (Below.refl _ _).alloc (Nat.le_refl _) _
  obtain ⟨P, hP⟩ : ∃ z, z = Wa.heap.size := ⟨_, rfl⟩
  obtain ⟨Q, hQ⟩ : ∃ z, z = Wb.heap.size := ⟨_, rfl⟩
  have hsA : Wa.heap.size = w.heap.size + 1 := by rw [hWa, World.size_alloc]
  have hsB : Wb.heap.size = w.heap.size + 1 + 1 := by rw [hWb, World.size_alloc, hsA]
  have hsC : Wc.heap.size = Wb.heap.size + 1 := by rw [hWc, World.size_alloc]
  have hPk : CellAt Wc P (.int .i64 (most : Int)) := by
    have : CellAt Wb P (.int .i64 (most : Int)) := by rw [hWb, hP]; exact cellAt_new Wa _ _
    exact this.below hbB
  have hQk : CellAt Wc Q (.func (.func G) #[] caps) := by rw [hWc, hQ]; exact cellAt_new Wb _ _
  have hbc : Below w.heap.size w Wc := below_at (below_at hBa hbA) hbB
  have hpc := hp.below hbc
  have hIc := hat.below hI hbc
  have hPQ : P ≠ Q := by omega
  have hwP : w.heap.size < P := by omega
  have hPl : P < Wc.heap.size := by omega
  have hQl : Q < Wc.heap.size := by omega
  have HXE := Lib.hid (fun (u : World) (hu : Below Wc.heap.size Wc u) => hXe u (below_at (below_at hbA hbB) hu))
  obtain ⟨x0, x1, x2, xl⟩ := hXe Wc (below_at hbA hbB)
  have e1 : w.heap.size + 1 = P := by omega
  have e2 : w.heap.size + 1 + 1 = Q := by omega
  have HE1 := Lib.hid e1
  have HE2 := Lib.hid e2
  have HWC := Lib.hid (And.intro hWa (And.intro hWb (And.intro hWc hX)))
  have HPK := Lib.hid (And.intro hPk hQk)
  have HBC := Lib.hid hbc
  have HP := Lib.hid (And.intro hPQ (And.intro hwP (And.intro hPl (And.intro hQl (show w.heap.size < Q by omega)))))
  have HF := Lib.hid hF
  have HAT := Lib.hid hat
  have HI := Lib.hid hIc
  by_cases hm : Pr.may p f
  · obtain ⟨m, rfl⟩ : ∃ m : Nat, f = m := ⟨f.toNat, by have := hm.2.1; omega⟩
    have hm8 : m ≤ 8 := by have := hm.2.2; omega
    have hnew := new_ok Wc p A cap m hpc.1 hm.1 hm8
    have hwf := Pr.start_wf hm.1 hm8
    have hfu := Pr.fuels_start hm.1 hm8
    obtain ⟨s0, hs0⟩ : ∃ s0, s0 = Pr.start p m := ⟨_, rfl⟩
    obtain ⟨⟨c, a⟩, hz⟩ : ∃ z, z = Pr.over at_ most 32 (Pr.start p m) [] (0, x) := ⟨_, rfl⟩
    have hcb := Pr.over_bound at_ most 32 (Pr.start p m) [] (0, x) hwf
    rw [← hz] at hcb
    have hc9 : c ≤ 200000 := by simp only at hcb; omega
    have hout : OverOut w F I at_ p m most x = fun e w' => e = .returned (.tuple #[.int .i64 (if most < c then 0 else (c : Int)), .int .i64 (if most < c then 5 else 0)]) ∧ I a w' ∧ Mod F w w' := by
      funext e w'
      unfold OverOut
      rw [if_pos hm, Int.toNat_natCast, ← hz]
    rw [hout]
    rw [← hs0] at hnew hwf hfu hz
    unfold valP at hnew ⊢
    have HNEW := Lib.hid hnew
    have HWF := Lib.hid (And.intro hwf hfu)
    have HZ := Lib.hid hz
    clear hp hF hI hat hWa hX hBa hXl hXe hWb hWc hbA hbB hP hQ hsA hsB hsC hPk hQk hbc hpc hIc hPQ hwP hPl hQl e1 e2 hnew hwf hfu hz hs0 hcb hout hm hm8
    go_enter Tryz.func68, Tryz.ntmps68
    go_upto_region 1 with fail
    rw [← HWC.out.1, ← HWC.out.2.1, ← HWC.out.2.2.1, HE2.out, HE1.out, ← HWC.out.2.2.2]
    clear HWC
    go_wp2_with fail
    refine HNEW.out.mono ?_
    rintro y w1 ⟨S, T, C0, rfl, hsat, hS, hT, hC, b1⟩
    obtain ⟨N, hN⟩ : ∃ z, z = w1.heap.size := ⟨_, rfl⟩
    obtain ⟨Wn, hWn⟩ : ∃ z, z = w1.alloc (Obj.cells #[.int .i64 0] 3) := ⟨_, rfl⟩
    obtain ⟨W2, hW2⟩ : ∃ z, z = Wn.alloc (Obj.cells #[.func (.func 109) #[] #[.pointer (some ⟨N, 0, none⟩), .pointer (some ⟨P, 0, none⟩), .pointer (some ⟨Q, 0, none⟩), .pointer (some ⟨N + 1, 0, none⟩)]] 116) := ⟨_, rfl⟩
    have hbn : Below w1.heap.size w1 Wn := by rw [hWn]; exact (Below.refl _ _).alloc (Nat.le_refl _) _
    have hbm : Below Wn.heap.size Wn W2 := by rw [hW2]; exact (Below.refl _ _).alloc (Nat.le_refl _) _
    have hsn : Wn.heap.size = N + 1 := by rw [hWn, World.size_alloc, hN]
    have hs2 : W2.heap.size = N + 1 + 1 := by rw [hW2, World.size_alloc, hsn]
    have hb2 : Below w1.heap.size w1 W2 := below_at hbn hbm
    have hNk : CellAt W2 N (.int .i64 ((0 : Nat) : Int)) := by
      have : CellAt Wn N (.int .i64 ((0 : Nat) : Int)) := by rw [hWn, hN]; exact cellAt_new w1 _ _
      exact this.below hbm
    have hRk : CellAt W2 (N + 1) (.func (.func 109) #[] #[.pointer (some ⟨N, 0, none⟩), .pointer (some ⟨P, 0, none⟩), .pointer (some ⟨Q, 0, none⟩), .pointer (some ⟨N + 1, 0, none⟩)]) := by rw [hW2, ← hsn]; exact cellAt_new Wn _ _
    have hcb := HP.out
    have hw1 := b1.size
    have hww := HBC.out.size
    have hlt := hsat.lt
    have hFw := HF.out
    have hov : Ov W2 N P Q (N + 1) 0 most G caps := ⟨hNk, (HPK.out.1.below b1).below hb2, (HPK.out.2.below b1).below hb2, hRk, by omega, by omega, by omega⟩
    have hsat2 := hsat.bound.below hb2
    have hap : ∀ k, (k = N ∨ F k) → k ≠ S ∧ k ≠ T ∧ ¬ (C0 k ∧ k < w1.heap.size) ∧ (∀ b, (none : Option Addr) = some b → b.block ≠ k) ∧ k < W2.heap.size := fun k hk => by
      rcases hk with h | h
      · subst h
        exact ⟨by omega, by omega, fun hc => by have := hc.2; omega, fun b hb => (by cases hb), by omega⟩
      · have h1 := hFw _ h
        exact ⟨by omega, by omega, fun hc => by have := hC _ hc.1; omega, fun b hb => (by cases hb), by omega⟩
    have hcall := over1_any (N := N) (P := P) (Q := Q) (R := N + 1) (most := most) HAT.out (fun h => by have := hFw _ h; omega) (fun h => by have := hFw _ h; omega) (fun h => by have := hFw _ h; omega) (fun h => by have := hFw _ h; omega) hmost 32 s0 HWF.out.1 HWF.out.2 (Nat.le_refl _) W2 _ S T [] none 0 0 x hsat2 (fun k hk => Nat.lt_of_lt_of_le hk.2 (by omega)) (Row.nil W2 57 4) (by simp)
      hap
      hov (HAT.out.below (HAT.out.below HI.out b1) hb2) (by omega)
    rw [← HZ.out] at hcall
    simp only at hcall
    have HCALL := Lib.hid hcall
    have HB2 := Lib.hid (below_at HBC.out (below_at b1 hb2))
    have HRK := Lib.hid hRk
    have HNW := Lib.hid (show w.heap.size ≤ N by omega)
    have HN := Lib.hid hN
    have HW2 := Lib.hid (And.intro hWn hW2)
    have hR0 := hRk.cell
    clear hsat hS hT hC b1 HNEW x0 x1 x2 xl hN hWn hW2 hbn hbm hsn hs2 hb2 hNk hRk hcb hw1 hww hlt hFw hov hsat2 hcall
    go_upto_region 7 with fail
    rw [← HN.out, ← HW2.out.1, ← HW2.out.2]
    obtain ⟨r0, rl, _⟩ := hR0
    go_wp2_with fail
    refine HCALL.out.mono ?_
    rintro y w3 ⟨rfl, ho3, hi3, hm3⟩
    obtain ⟨n0, nl, _⟩ := ho3.n.cell
    obtain ⟨p0, pl, _⟩ := ho3.p.cell
    have HI3 := Lib.hid hi3
    have HM3 := Lib.hid (show Mod F w w3 from (Mod.of_below_size HB2.out F).then hm3 (fun k hk e => by rcases e with h | h; (have := HNW.out; omega); exact h))
    clear ho3 hi3 hm3 HCALL r0 rl
    by_cases hfull : most < c
    · have d1 : decide ((most : Int) < (c : Int)) = true := decide_eq_true (by omega)
      have d2 : (most : Int) < (c : Int) := by omega
      go_wp2_with fail
      refine bodyPost_ret (v := .tuple #[.int .i64 0, .int .i64 5]) (by simp [results, Tryz.results68, go_sem]) rfl ?_
      exact ⟨by simp [hfull], HI3.out, HM3.out⟩
    · have d1 : decide ((most : Int) < (c : Int)) = false := decide_eq_false (by omega)
      have d2 : ¬ (most : Int) < (c : Int) := by omega
      go_wp2_with fail
      refine bodyPost_ret (v := .tuple #[.int .i64 (c : Int), .int .i64 0]) (by simp [results, Tryz.results68, go_sem]) rfl ?_
      exact ⟨by simp [hfull], HI3.out, HM3.out⟩
  · have hnew := new_bad Wc p A cap f hpc.1 hpc.2.1 hpc.2.2 hm
    have hout : OverOut w F I at_ p f most x = fun e w' => e = .returned (.tuple #[.int .i64 0, .int .i64 1]) ∧ Below w.heap.size w w' := by
      funext e w'
      unfold OverOut
      rw [if_neg hm]
    rw [hout]
    unfold valP at hnew ⊢
    have HNEW := Lib.hid hnew
    clear hp hF hI hat hWa hX hBa hXl hXe hWb hWc hbA hbB hP hQ hsA hsB hsC hPk hQk hbc hpc hIc hPQ hwP hPl hQl e1 e2 hnew hout hm
    go_enter Tryz.func68, Tryz.ntmps68
    go_upto_region 1 with fail
    rw [← HWC.out.1, ← HWC.out.2.1, ← HWC.out.2.2.1, HE2.out, HE1.out, ← HWC.out.2.2.2]
    clear HWC
    go_wp2_with fail
    refine HNEW.out.mono ?_
    rintro y w1 ⟨rfl, b1⟩
    have HB1 := Lib.hid (below_at HBC.out b1)
    clear b1
    go_wp2_with fail
    refine bodyPost_ret (v := .tuple #[.int .i64 0, .int .i64 1]) (by simp [results, Tryz.results68, go_sem]) rfl ?_
    exact ⟨rfl, HB1.out⟩

set_option maxRecDepth 100000 in
set_option maxHeartbeats 4000000 in
theorem deadlocks_any (w : World) (p : Pg) (A : Option Addr) (cap : Nat) (f : Int) (most : Nat) (hp : PgIn w p A) (hmost : most ≤ 100000) :
    Calls Tryz.prog 33 #[valP p A cap, .int .i64 f, .int .i64 (most : Int)] w fun e w' => e = .returned (.tuple #[.int .i64 ((Pr.all6 p f most).1.2.stuck : Int), .int .i64 (Pr.all6 p f most).2]) ∧ Below w.heap.size w w' := by
  obtain ⟨Wa, X, hWa, hX, hBa, hXl, hXe⟩ := pg_box w p.vars p.mtx A p.code.length cap
  obtain ⟨Wb, hWb⟩ : ∃ z, z = Wa.alloc (Obj.cells #[.int .i64 0] 3) := ⟨_, rfl⟩
  obtain ⟨K, hK⟩ : ∃ z, z = Wa.heap.size := ⟨_, rfl⟩
  have hbA : Below Wa.heap.size Wa Wb := by rw [hWb]; exact (Below.refl _ _).alloc (Nat.le_refl _) _
  have hKk : CellAt Wb K (.int .i64 0) := by rw [hWb, hK]; exact cellAt_new Wa _ _
  have hKX : X + 1 = K := by rw [hK, hWa, World.size_alloc, hX]
  have hI : IDead K Pr.sm0 Wb := by
    have e : wrap64 ((Pr.sm0.stuck : Nat) : Int) = 0 := IntWalk.wrap64_in _ (by simp [Pr.sm0])
    unfold IDead
    rw [e]
    exact hKk
  have hwK : w.heap.size ≤ K := by rw [hK]; exact hBa.size
  have hcall := over_any (dead_at K) Wb p A cap f most Pr.sm0 ((hp.below hBa).below hbA) hmost (fun k hk => by subst hk; exact hKk.cell.2.1) hI
  obtain ⟨x0, x1, x2, xl⟩ := hXe Wb hbA
  have HB := Lib.hid (below_at hBa hbA)
  have HW := Lib.hid (And.intro hWa (And.intro hWb (And.intro hX hKX)))
  have HKW := Lib.hid hwK
  by_cases hm : Pr.may p f
  · obtain ⟨⟨c, a⟩, hz⟩ : ∃ z, z = Pr.over Pr.at6 most 32 (Pr.start p f.toNat) [] (0, Pr.sm0) := ⟨_, rfl⟩
    have hgd := Pr.over_good most 32 (Pr.start p f.toNat) [] (0, Pr.sm0) ⟨Nat.le_refl _, Nat.le_refl _, Nat.le_refl _⟩
    have hcb := Pr.over_bound Pr.at6 most 32 (Pr.start p f.toNat) [] (0, Pr.sm0) (Pr.start_wf hm.1 (by have := hm.2.1; have := hm.2.2; omega))
    rw [← hz] at hgd hcb
    have hst : a.stuck ≤ 200000 := by have := hgd.2.2; simp only at this hcb; omega
    have hres : Pr.all6 p f most = if most < c then ((0, Pr.sm0), 5) else ((c, a), 0) := by unfold Pr.all6; rw [if_pos hm, ← hz]
    unfold OverOut at hcall
    simp only [if_pos hm, ← hz] at hcall
    unfold valP at hcall ⊢
    by_cases hfull : most < c
    · rw [hres, if_pos hfull]
      simp only [if_pos hfull] at hcall
      have HCALL := Lib.hid hcall
      clear hp hWa hX hBa hXl hXe hWb hbA hKk hKX hI hwK hcall hm hz hgd hcb hres hK hfull
      go_enter Tryz.func33, Tryz.ntmps33
      go_upto_region 2 with fail
      rw [← HW.out.1, ← HW.out.2.1, ← HW.out.2.2.1, HW.out.2.2.2]
      clear HW
      go_wp2_with fail
      refine HCALL.out.mono ?_
      rintro y w3 ⟨rfl, hi3, hm3⟩
      have HM := Lib.hid (HB.out.trans (hm3.below _ HB.out.size (fun k hk e => by have := HKW.out; omega)))
      clear hi3 hm3
      go_wp2_with fail
      refine bodyPost_ret (v := .tuple #[.int .i64 0, .int .i64 5]) (by simp [results, Tryz.results33, go_sem]) rfl ?_
      exact ⟨rfl, HM.out⟩
    · rw [hres, if_neg hfull]
      simp only [if_neg hfull] at hcall
      have HCALL := Lib.hid hcall
      clear hp hWa hX hBa hXl hXe hWb hbA hKk hKX hI hwK hcall hm hz hgd hcb hres hK hfull
      go_enter Tryz.func33, Tryz.ntmps33
      go_upto_region 2 with fail
      rw [← HW.out.1, ← HW.out.2.1, ← HW.out.2.2.1, HW.out.2.2.2]
      clear HW
      go_wp2_with fail
      refine HCALL.out.mono ?_
      rintro y w3 ⟨rfl, hi3, hm3⟩
      have HM := Lib.hid (HB.out.trans (hm3.below _ HB.out.size (fun k hk e => by have := HKW.out; omega)))
      have hi4 : CellAt w3 K (.int .i64 (a.stuck : Int)) := by
        have : CellAt w3 K (.int .i64 (wrap64 (a.stuck : Int))) := hi3
        rwa [IntWalk.wrap64_in _ (by omega)] at this
      obtain ⟨k0, kl, _⟩ := hi4.cell
      clear hi3 hm3 hi4
      go_wp2_with fail
      refine bodyPost_ret (v := .tuple #[.int .i64 (a.stuck : Int), .int .i64 0]) (by simp [results, Tryz.results33, go_sem]) rfl ?_
      exact ⟨rfl, HM.out⟩
  · have hres : Pr.all6 p f most = ((0, Pr.sm0), 1) := by unfold Pr.all6; rw [if_neg hm]
    unfold OverOut at hcall
    simp only [if_neg hm] at hcall
    unfold valP at hcall ⊢
    have HCALL := Lib.hid hcall
    rw [hres]
    clear hp hWa hX hBa hXl hXe hWb hbA hKk hKX hI hwK hcall hm hres hK
    go_enter Tryz.func33, Tryz.ntmps33
    go_upto_region 2 with fail
    rw [← HW.out.1, ← HW.out.2.1, ← HW.out.2.2.1, HW.out.2.2.2]
    clear HW
    go_wp2_with fail
    refine HCALL.out.mono ?_
    rintro y w3 ⟨rfl, b3⟩
    have HM := Lib.hid (below_at HB.out b3)
    clear b3
    go_wp2_with fail
    refine bodyPost_ret (v := .tuple #[.int .i64 0, .int .i64 1]) (by simp [results, Tryz.results33, go_sem]) rfl ?_
    exact ⟨rfl, HM.out⟩
end Go.Proofs.YtcaapoacmfjnmaaGreat
/- walk.All. -/
namespace Go.Proofs.YtcaapoacmfjnmaaGreat
open Go.RowKit
set_option linter.unusedVariables false

namespace Pr
theorem over_inv {α : Type} {at_ : St → List Ev → α → α} {J : α → Prop} (hJ : ∀ s row a, J a → J (at_ s row a)) (most : Nat) : ∀ n s row x, J x.2 → J (over at_ most n s row x).2 := by
  intro n
  induction n with
  | zero =>
    intro s row x h
    simp only [over]
    split
    · exact h
    · exact hJ _ _ _ h
  | succ n ih =>
    intro s row x h
    simp only [over]
    split
    · exact h
    · have go : ∀ (l : List Nat) (y : Nat × α), J y.2 → J (l.foldl (fun y t => over at_ most n (stepS s t) (row ++ [evAt s t]) y) y).2 := by
        intro l
        induction l with
        | nil => intro y hy; exact hy
        | cons t l ih2 => intro y hy; exact ih2 _ (ih _ _ _ hy)
      refine go _ _ ?_
      split
      · exact hJ _ _ _ h
      · exact h
end Pr
/-- texts don't lie where a slice and two numbers lie -/
theorem Rd.str_not3 {w : World} {A : Option Addr} {ks : List Ky.K} {Z : Nat} {sa : Option Addr} {sb sc : Nat} {x y : Int} {T : TypeId} (h : Rd w 1 A ks.length (ks.map sv)) (hZ : w.heap[Z]? = some (.cells #[.slice sa sb sc, .int .i64 x, .int .i64 y] T (0, 0))) {g o : Nat} (hA : A = some ⟨g, o, none⟩) (hn : 0 < ks.length) : g ≠ Z := by
  obtain ⟨g', o', hA', hg, hc⟩ := h.2 (by omega)
  rw [hA] at hA'
  injection hA' with e
  injection e with e1 e2
  subst e1 e2
  intro e
  subst e
  have h0 := hc 0 (by omega)
  rw [cell_blk hZ, List.getElem?_map, List.getElem?_eq_getElem hn] at h0
  rcases (show o + 0 = 0 ∨ o + 0 = 1 ∨ o + 0 = 2 ∨ 3 ≤ o + 0 by omega) with e | e | e | e
  · rw [e] at h0; simp [sv] at h0
  · rw [e] at h0; simp [sv] at h0
  · rw [e] at h0; simp [sv] at h0
  · rw [Array.getElem?_eq_none (by simpa using e)] at h0; simp [sv] at h0
/-- what walk.All gives -/
def WAllOut (w : World) (r : (Nat × Pr.Sm) × Int) (x : Ending) (w' : World) : Prop :=
  ∃ A cap, x = .returned (.tuple #[.agg #[.slice A r.1.2.keys.length cap, .int .i64 r.1.2.runs, .int .i64 r.1.1], .int .i64 r.2]) ∧ Rd w' 1 A r.1.2.keys.length (r.1.2.keys.map sv) ∧ r.1.2.keys.length ≤ cap ∧ cap ≤ maxLen ∧ Below w.heap.size w w'
set_option maxRecDepth 100000 in
set_option maxHeartbeats 4000000 in
theorem walkAll_any (w : World) (p : Pg) (A : Option Addr) (cap : Nat) (f : Int) (most : Nat) (hp : PgIn w p A) (hmost : most ≤ 100000) :
    Calls Tryz.prog 32 #[valP p A cap, .int .i64 f, .int .i64 (most : Int)] w (WAllOut w (Pr.all6 p f most)) := by
  have hmk := @run_makeMap Tryz.prog
  obtain ⟨X, hX⟩ : ∃ z, z = w.heap.size := ⟨_, rfl⟩
  obtain ⟨W1, hW1⟩ : ∃ z, z = w.alloc (Obj.cells #[.int .i64 p.vars, .int .i64 p.mtx, .slice A p.code.length cap] 24) := ⟨_, rfl⟩
  obtain ⟨W2, hW2⟩ : ∃ z, z = W1.alloc (Obj.cells #[.slice none 0 0, .int .i64 0, .int .i64 0] 62) := ⟨_, rfl⟩
  obtain ⟨W3, hW3⟩ : ∃ z, z = W2.alloc (Obj.map #[] 0) := ⟨_, rfl⟩
  obtain ⟨W4, hW4⟩ : ∃ z, z = W3.alloc (Obj.cells #[.map (some (X + 1 + 1))] 114) := ⟨_, rfl⟩
  obtain ⟨W5, hW5⟩ : ∃ z, z = W4.alloc (Obj.cells #[.int .i64 0] 3) := ⟨_, rfl⟩
  have s1 : W1.heap.size = X + 1 := by rw [hW1, World.size_alloc, hX]
  have s2 : W2.heap.size = X + 1 + 1 := by rw [hW2, World.size_alloc, s1]
  have s3 : W3.heap.size = X + 1 + 1 + 1 := by rw [hW3, World.size_alloc, s2]
  have s4 : W4.heap.size = X + 1 + 1 + 1 + 1 := by rw [hW4, World.size_alloc, s3]
  have s5 : W5.heap.size = X + 1 + 1 + 1 + 1 + 1 := by rw [hW5, World.size_alloc, s4]
  have b1 : Below w.heap.size w W1 := by rw [hW1]; exact (Below.refl _ _).alloc (Nat.le_refl _) _
  have b2 : Below W1.heap.size W1 W2 := by rw [hW2]; exact (Below.refl _ _).alloc (Nat.le_refl _) _
  have b3 : Below W2.heap.size W2 W3 := by rw [hW3]; exact (Below.refl _ _).alloc (Nat.le_refl _) _
  have b4 : Below W3.heap.size W3 W4 := by rw [hW4]; exact (Below.refl _ _).alloc (Nat.le_refl _) _
  have b5 : Below W4.heap.size W4 W5 := by rw [hW5]; exact (Below.refl _ _).alloc (Nat.le_refl _) _
  have b25 : Below W2.heap.size W2 W5 := below_at (below_at b3 b4) b5
  have b15 : Below W1.heap.size W1 W5 := below_at b2 b25
  have b05 : Below w.heap.size w W5 := below_at b1 b15
  have hXk : W1.heap[X]? = some (.cells #[.int .i64 p.vars, .int .i64 p.mtx, .slice A p.code.length cap] 24 (0, 0)) := by rw [hW1, hX]; exact heap_alloc_new w _
  have hXk5 := blk_stepW hXk b15
  have hZk : W2.heap[X + 1]? = some (.cells #[.slice none 0 0, .int .i64 0, .int .i64 0] 62 (0, 0)) := by rw [hW2, ← s1]; exact heap_alloc_new W1 _
  have hZk5 := blk_stepW hZk b25
  have hBk : MapAt Tryz.keyS W5 (X + 1 + 1) [] := by
    have : MapAt Tryz.keyS W3 (X + 1 + 1) [] := by rw [hW3, ← s2]; exact MapAt.made Tryz.keyS W2 0
    exact this.move ((below_at b4 b5).block _ this.lt)
  have hMk : CellAt W5 (X + 1 + 1 + 1) (.map (some (X + 1 + 1))) := by
    have : CellAt W4 (X + 1 + 1 + 1) (.map (some (X + 1 + 1))) := by rw [hW4, ← s3]; exact cellAt_new W3 _ _
    exact this.below b5
  have hRk : CellAt W5 (X + 1 + 1 + 1 + 1) (.int .i64 0) := by rw [hW5, ← s4]; exact cellAt_new W4 _ _
  have hI : IAll (X + 1 + 1 + 1 + 1) (X + 1 + 1 + 1) (X + 1 + 1) Pr.sm0 W5 := by
    have e : wrap64 ((Pr.sm0.runs : Nat) : Int) = 0 := IntWalk.wrap64_in _ (by simp [Pr.sm0])
    refine ⟨by rw [e]; exact hRk, hMk, [], hBk, fun k => by simp [Pr.sm0], fun p hp => (by cases hp), Nat.le_refl _⟩
  have hcall := over_any (all_at (X + 1 + 1 + 1 + 1) (X + 1 + 1 + 1) (X + 1 + 1) (by omega) (by omega) (by omega)) W5 p A cap f most Pr.sm0 (hp.below b05) hmost (fun k hk => by rcases hk with h | h | h <;> omega) hI
  have x0 : W5.cell? ⟨X, 0, none⟩ = some (.int .i64 p.vars) := cell_blk hXk5 0
  have x1 : W5.cell? ⟨X, 1, none⟩ = some (.int .i64 p.mtx) := cell_blk hXk5 1
  have x2 : W5.cell? ⟨X, 2, none⟩ = some (.slice A p.code.length cap) := cell_blk hXk5 2
  have xl : X < W5.heap.size := blk_lt hXk5
  have HB := Lib.hid b05
  have HW := Lib.hid (And.intro hX (And.intro hW1 (And.intro hW2 (And.intro hW3 (And.intro hW4 hW5)))))
  have HZK := Lib.hid hZk5
  have HXW := Lib.hid (Nat.le_of_eq hX.symm)
  have HS5 := Lib.hid s5
  by_cases hm : Pr.may p f
  · obtain ⟨⟨c, a⟩, hz⟩ : ∃ z, z = Pr.over Pr.at6 most 32 (Pr.start p f.toNat) [] (0, Pr.sm0) := ⟨_, rfl⟩
    have hgd := Pr.over_good most 32 (Pr.start p f.toNat) [] (0, Pr.sm0) ⟨Nat.le_refl _, Nat.le_refl _, Nat.le_refl _⟩
    have hcb := Pr.over_bound Pr.at6 most 32 (Pr.start p f.toNat) [] (0, Pr.sm0) (Pr.start_wf hm.1 (by have := hm.2.1; have := hm.2.2; omega))
    have hstr := Pr.over_inv (at_ := Pr.at6) (J := fun a => Ky.Strict a.keys) (fun s row a h => Ky.insG_strict h _) most 32 (Pr.start p f.toNat) [] (0, Pr.sm0) List.Pairwise.nil
    rw [← hz] at hgd hcb hstr
    simp only at hstr
    have hgd1 := hgd.1
    have hgd2 := hgd.2.1
    simp only at hgd1 hgd2 hcb
    have hst : a.runs ≤ 200000 := by omega
    have hkl : a.keys.length ≤ 200000 := by omega
    have hres : Pr.all6 p f most = if most < c then ((0, Pr.sm0), 5) else ((c, a), 0) := by unfold Pr.all6; rw [if_pos hm, ← hz]
    unfold OverOut at hcall
    simp only [if_pos hm, ← hz] at hcall
    unfold valP at hcall ⊢
    have HSTR := Lib.hid hstr
    by_cases hfull : most < c
    · rw [hres, if_pos hfull]
      simp only [if_pos hfull] at hcall
      have HCALL := Lib.hid hcall
      clear hp hX hW1 hW2 hW3 hW4 hW5 s1 s2 s3 s4 s5 b1 b2 b3 b4 b5 b25 b15 b05 hXk hXk5 hZk hZk5 hBk hMk hRk hI hcall hm hz hgd hcb hstr hgd1 hgd2 hres hfull
      go_enter Tryz.func32, Tryz.ntmps32
      go_upto_region 3 with fail
      rw [← HW.out.1, ← HW.out.2.1, ← HW.out.2.2.1, ← HW.out.2.2.2.1, ← HW.out.2.2.2.2.1, ← HW.out.2.2.2.2.2]
      clear HW
      go_wp2_with fail
      refine HCALL.out.mono ?_
      rintro y w3 ⟨rfl, hi3, hm3⟩
      have hZ3 := (hm3.block (X + 1) (blk_lt HZK.out) (fun h => by rcases h with h | h | h <;> omega)).trans HZK.out
      have HM := Lib.hid (HB.out.trans (hm3.below _ HB.out.size (fun k hk e => by have := HXW.out; rcases e with h | h | h <;> omega)))
      obtain ⟨V2, hV2, d0, d1, d2, hmv⟩ := pg_exit hZ3 (.slice none 0 0) (.int .i64 0) (.int .i64 0)
      have z0 : w3.cell? ⟨X + 1, 0, none⟩ = some (.slice none 0 0) := cell_blk hZ3 0
      have z1 : w3.cell? ⟨X + 1, 1, none⟩ = some (.int .i64 0) := cell_blk hZ3 1
      have z2 : w3.cell? ⟨X + 1, 2, none⟩ = some (.int .i64 0) := cell_blk hZ3 2
      have zl := blk_lt hZ3
      have g0 := free_blk hZ3 0
      have g1 := free_blk hZ3 1
      have g2 := free_blk hZ3 2
      have HV2 := Lib.hid hV2
      have HMV := Lib.hid hmv
      clear hi3 hm3 hV2 hmv hZ3 x0 x1 x2 xl
      go_wp2_with fail
      rw [← HV2.out]
      refine bodyPost_ret (v := .tuple #[.agg #[.slice none 0 0, .int .i64 0, .int .i64 0], .int .i64 5]) (by simp [results, Tryz.results32, go_sem, d0, d1, d2]) rfl ?_
      exact ⟨none, 0, rfl, (Row.nil V2 9 1).rd, Nat.le_refl _, Nat.zero_le _, HM.out.trans (HMV.out.below _ HM.out.size (fun k hk e => by have := HXW.out; omega))⟩
    · rw [hres, if_neg hfull]
      simp only [if_neg hfull] at hcall
      have HCALL := Lib.hid hcall
      clear hp hX hW1 hW2 hW3 hW4 hW5 s1 s2 s3 s4 s5 b1 b2 b3 b4 b5 b25 b15 b05 hXk hXk5 hZk hZk5 hBk hMk hRk hI hcall hm hz hgd hcb hstr hgd1 hgd2 hres hfull
      go_enter Tryz.func32, Tryz.ntmps32
      go_upto_region 3 with fail
      rw [← HW.out.1, ← HW.out.2.1, ← HW.out.2.2.1, ← HW.out.2.2.2.1, ← HW.out.2.2.2.2.1, ← HW.out.2.2.2.2.2]
      clear HW
      go_wp2_with fail
      refine HCALL.out.mono ?_
      rintro y w3 ⟨rfl, hi3, hm3⟩
      have hZ3 := (hm3.block (X + 1) (blk_lt HZK.out) (fun h => by rcases h with h | h | h <;> omega)).trans HZK.out
      have HM := Lib.hid (HB.out.trans (hm3.below _ HB.out.size (fun k hk e => by have := HXW.out; rcases e with h | h | h <;> omega)))
      obtain ⟨hi1, hi2, mm, hmp, hmk1, hmk2, hmk3⟩ := hi3
      rw [IntWalk.wrap64_in _ (by omega)] at hi1
      have HI1 := Lib.hid hi1
      have HI2 := Lib.hid hi2
      have HMP := Lib.hid (And.intro hmp (And.intro hmk1 (And.intro hmk2 hmk3)))
      have HZ3 := Lib.hid hZ3
      clear hm3 hi1 hi2 hmp hmk1 hmk2 hmk3 hZ3 x0 x1 x2 xl
      go_upto_region 6 with fail
      refine wp_region_planF (by kernel_rfl) (fun u => Below w3.heap.size w3 u) [6] [(0, .load), (3, .load), (4, .pure), (1, .eff), (2, .eff), (5, .pure), (6, .last), (7, .pure)] (by simp only [List.map_cons, List.map_nil, List.getElem?_toArray, List.getElem?_cons_succ, List.getElem?_cons_zero]; rfl) (by kernel_rfl) (fun _ _ d _ _ h => by cases d <;> exact h) ((Below.refl _ _).drew) ?_
      obtain ⟨v1, hv1⟩ : ∃ z, z = w3.drew := ⟨_, rfl⟩
      rw [← hv1]
      have hbv : Below w3.heap.size w3 v1 := by rw [hv1]; exact (Below.refl _ _).drew
      have HBV := Lib.hid hbv
      clear hv1 hbv
      repeat (first
        | (refine plan_pure (v := ?_) (by rfl) (fun w1 => ?_) ?_
           rotate_left
           · go_simp <;> with_reducible rfl
           simp only [Act.put, List.setIfInBounds_toArray, List.set_cons_zero, List.set_cons_succ])
        | (refine plan_off (by rfl) ?_
           simp only [Act.put, List.setIfInBounds_toArray, List.set_cons_zero, List.set_cons_succ])
        | (refine plan_load_off (by rfl) ?_
           simp only [Act.put, List.setIfInBounds_toArray, List.set_cons_zero, List.set_cons_succ])
        | (refine plan_load (v := ?_) (by rfl) (fun w1 hw1 => ?_) ?_
           rotate_left
           · (have q1 := (HI1.out.below hw1).cell
              obtain ⟨q1, q2, _⟩ := q1
              have q3 := (HI2.out.below hw1).cell
              obtain ⟨q3, q4, _⟩ := q3
              clear hw1
              go_simp <;> with_reducible rfl)
           simp only [Act.put, List.setIfInBounds_toArray, List.set_cons_zero, List.set_cons_succ]))
      refine plan_eff ?_
      go_wp2_with fail
      refine (mapKeys_any (some (X + 1 + 1)) v1).mono ?_
      rintro y v2 ⟨rfl, hv2⟩
      have hmp1 : MapAt Tryz.keyS v1 (X + 1 + 1) mm := HMP.out.1.move (HBV.out.block _ HMP.out.1.lt)
      have hsort := sortedMap_any v1 (X + 1 + 1) mm hmp1 (by have := HMP.out.2.2.2; omega) (fun p hp => Nat.le_trans (HMP.out.2.2.1 p hp) (by unfold maxLen; omega)) a.keys HMP.out.2.1
      rw [Ky.gather_again HSTR.out, ← hv2] at hsort
      have HSORT := Lib.hid hsort
      have HB2 := Lib.hid (show Below w3.heap.size w3 v2 by rw [hv2]; exact HBV.out.alloc HBV.out.size _)
      clear hmp1 hsort hv2
      go_wp2_with fail
      refine plan_on (fun _ h => h) HB2.out ?_
      repeat (first
        | (refine plan_pure (v := ?_) (by rfl) (fun w1 => ?_) ?_
           rotate_left
           · go_simp <;> with_reducible rfl
           simp only [Act.put, List.setIfInBounds_toArray, List.set_cons_zero, List.set_cons_succ])
        | (refine plan_off (by rfl) ?_
           simp only [Act.put, List.setIfInBounds_toArray, List.set_cons_zero, List.set_cons_succ])
        | (refine plan_load_off (by rfl) ?_
           simp only [Act.put, List.setIfInBounds_toArray, List.set_cons_zero, List.set_cons_succ])
        | (refine plan_load (v := ?_) (by rfl) (fun w1 hw1 => ?_) ?_
           rotate_left
           · (skip
              clear hw1
              go_simp <;> with_reducible rfl)
           simp only [Act.put, List.setIfInBounds_toArray, List.set_cons_zero, List.set_cons_succ]))
      refine plan_eff ?_
      go_wp2_with fail
      refine HSORT.out.mono ?_
      rintro y v3 ⟨A3, c3, rfl, ⟨r3, l3, u3⟩, b3⟩
      have HB3 := Lib.hid (below_at HB2.out b3)
      have HR3 := Lib.hid (And.intro r3 (And.intro l3 u3))
      clear r3 l3 u3 b3 HSORT
      go_wp2_with fail
      refine plan_on (fun _ h => h) HB3.out ?_
      repeat (first
        | (refine plan_pure (v := ?_) (by rfl) (fun w1 => ?_) ?_
           rotate_left
           · go_simp <;> with_reducible rfl
           simp only [Act.put, List.setIfInBounds_toArray, List.set_cons_zero, List.set_cons_succ])
        | (refine plan_off (by rfl) ?_
           simp only [Act.put, List.setIfInBounds_toArray, List.set_cons_zero, List.set_cons_succ])
        | (refine plan_load_off (by rfl) ?_
           simp only [Act.put, List.setIfInBounds_toArray, List.set_cons_zero, List.set_cons_succ])
        | (refine plan_load (v := ?_) (by rfl) (fun w1 hw1 => ?_) ?_
           rotate_left
           · (skip
              clear hw1
              go_simp <;> with_reducible rfl)
           simp only [Act.put, List.setIfInBounds_toArray, List.set_cons_zero, List.set_cons_succ]))
      have hZ9 := blk_stepW HZ3.out HB3.out
      obtain ⟨V2, hV2, d0, d1, d2, hmv⟩ := pg_exit hZ9 (.slice A3 a.keys.length c3) (.int .i64 a.runs) (.int .i64 c)
      have z0 : v3.cell? ⟨X + 1, 0, none⟩ = some (.slice none 0 0) := cell_blk hZ9 0
      have z1 : v3.cell? ⟨X + 1, 1, none⟩ = some (.int .i64 0) := cell_blk hZ9 1
      have z2 : v3.cell? ⟨X + 1, 2, none⟩ = some (.int .i64 0) := cell_blk hZ9 2
      have zl := blk_lt hZ9
      have g0 := free_blk hZ9 0
      have g1 := free_blk hZ9 1
      have g2 := free_blk hZ9 2
      have HV2 := Lib.hid hV2
      have HMV := Lib.hid hmv
      have HZ9 := Lib.hid hZ9
      clear hV2 hmv hZ9
      refine plan_last ?_
      go_wp2_with fail
      repeat (first
        | (refine plan_pure (v := ?_) (by rfl) (fun w1 => ?_) ?_
           rotate_left
           · go_simp <;> with_reducible rfl
           simp only [Act.put, List.setIfInBounds_toArray, List.set_cons_zero, List.set_cons_succ])
        | (refine plan_off (by rfl) ?_
           simp only [Act.put, List.setIfInBounds_toArray, List.set_cons_zero, List.set_cons_succ])
        | (refine plan_load_off (by rfl) ?_
           simp only [Act.put, List.setIfInBounds_toArray, List.set_cons_zero, List.set_cons_succ])
        | (refine plan_load (v := ?_) (by rfl) (fun w1 hw1 => ?_) ?_
           rotate_left
           · (skip
              clear hw1
              go_simp <;> with_reducible rfl)
           simp only [Act.put, List.setIfInBounds_toArray, List.set_cons_zero, List.set_cons_succ]))
      refine plan_end ?_
      rw [← HV2.out]
      go_wp2_with fail
      refine bodyPost_ret (v := .tuple #[.agg #[.slice A3 a.keys.length c3, .int .i64 a.runs, .int .i64 c], .int .i64 0]) (by simp [results, Tryz.results32, go_sem, d0, d1, d2]) rfl ?_
      refine ⟨A3, c3, rfl, ?_, HR3.out.2.1, HR3.out.2.2, (below_at HM.out HB3.out).trans (HMV.out.below _ (below_at HM.out HB3.out).size (fun k hk e => by have := HXW.out; omega))⟩
      refine ⟨HR3.out.1.1, fun hp => ?_⟩
      obtain ⟨g, o, hA, hgl, hcc⟩ := HR3.out.1.2 hp
      have hne : g ≠ X + 1 := HR3.out.1.str_not3 HZ9.out hA (by simp only at hp; omega)
      exact ⟨g, o, hA, Nat.lt_of_lt_of_le hgl HMV.out.size, fun j hj => (HMV.out.cell g (o + j) hgl hne).trans (hcc j hj)⟩
  · have hres : Pr.all6 p f most = ((0, Pr.sm0), 1) := by unfold Pr.all6; rw [if_neg hm]
    unfold OverOut at hcall
    simp only [if_neg hm] at hcall
    unfold valP at hcall ⊢
    rw [hres]
    have HCALL := Lib.hid hcall
    clear hp hX hW1 hW2 hW3 hW4 hW5 s1 s2 s3 s4 s5 b1 b2 b3 b4 b5 b25 b15 b05 hXk hXk5 hZk hZk5 hBk hMk hRk hI hcall hm hres
    go_enter Tryz.func32, Tryz.ntmps32
    go_upto_region 3 with fail
    rw [← HW.out.1, ← HW.out.2.1, ← HW.out.2.2.1, ← HW.out.2.2.2.1, ← HW.out.2.2.2.2.1, ← HW.out.2.2.2.2.2]
    clear HW
    go_wp2_with fail
    refine HCALL.out.mono ?_
    rintro y w3 ⟨rfl, b3⟩
    have hZ3 := blk_stepW HZK.out b3
    have HM := Lib.hid (below_at HB.out b3)
    obtain ⟨V2, hV2, d0, d1, d2, hmv⟩ := pg_exit hZ3 (.slice none 0 0) (.int .i64 0) (.int .i64 0)
    have z0 : w3.cell? ⟨X + 1, 0, none⟩ = some (.slice none 0 0) := cell_blk hZ3 0
    have z1 : w3.cell? ⟨X + 1, 1, none⟩ = some (.int .i64 0) := cell_blk hZ3 1
    have z2 : w3.cell? ⟨X + 1, 2, none⟩ = some (.int .i64 0) := cell_blk hZ3 2
    have zl := blk_lt hZ3
    have g0 := free_blk hZ3 0
    have g1 := free_blk hZ3 1
    have g2 := free_blk hZ3 2
    have HV2 := Lib.hid hV2
    have HMV := Lib.hid hmv
    clear b3 hV2 hmv hZ3 x0 x1 x2 xl
    go_wp2_with fail
    rw [← HV2.out]
    refine bodyPost_ret (v := .tuple #[.agg #[.slice none 0 0, .int .i64 0, .int .i64 0], .int .i64 1]) (by simp [results, Tryz.results32, go_sem, d0, d1, d2]) rfl ?_
    exact ⟨none, 0, rfl, (Row.nil V2 9 1).rd, Nat.le_refl _, Nat.zero_le _, HM.out.trans (HMV.out.below _ HM.out.size (fun k hk e => by have := HXW.out; omega))⟩
end Go.Proofs.YtcaapoacmfjnmaaGreat
