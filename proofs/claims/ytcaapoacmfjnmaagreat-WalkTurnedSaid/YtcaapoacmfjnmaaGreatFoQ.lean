/- Sorting a level. -/
import Derived.Test.YtcaapoacmfjnmaaGreatSortE
import Derived.Test.YtcaapoacmfjnmaaGreatFoS
namespace Go.Proofs.YtcaapoacmfjnmaaGreat
open Go.RowKit Go.Lib Go.Sort
set_option linter.unusedVariables false

instance : Inhabited Ev := ⟨⟨0, 0, 0, false⟩⟩
def cmpT (x y : Ev) : Int := Lib.compareInt x.t y.t
theorem ltT (x y : Ev) : ltOf cmpT x y = decide (x.t < y.t) := by
  unfold ltOf cmpT Lib.compareInt
  split
  · simp; omega
  · split <;> simp <;> omega
theorem swoT : SWO (ltOf cmpT) where
  irrefl x := by rw [ltT]; simp
  trans x y z h1 h2 := by rw [ltT] at *; simp at *; omega
  ntrans x y z h1 h2 := by rw [ltT] at *; simp at *; omega

set_option maxHeartbeats 1000000 in
theorem cmp_any (x y : Ev) (W : World) : Calls Tryz.prog 131 #[valE x, valE y] W fun e w' => e = .returned (.int .i64 (cmpT x y)) ∧ ∃ q os', w' = grow (W.drewN q) os' := by
  have hcon := fun W' => Tryz.cmp_Compare_int x.t y.t W'
  unfold cmpT valE
  change ∀ W', Calls Tryz.prog 86 _ _ _ at hcon
  generalize Lib.compareInt x.t y.t = r at hcon ⊢
  go_enter Tryz.func131, Tryz.ntmps131
  go_wp2_with (go_at_call 86; refine (hcon _).mono ?_; rintro e w' ⟨rfl, rfl⟩)
  go_ret
  exact ⟨rfl, 0, _, by rw [alloc_eq_grow, alloc_eq_grow, grow_grow]; rfl⟩

theorem flatT (q : List Ev) (j : Nat) (hj : j < q.length * 4) : (q.flatMap encE)[j]? = some ((flatK encE 4 q.toArray)[j]!) := by
  have h1 : j / 4 < q.length := by omega
  have h2 : j % 4 < 4 := by omega
  rw [get_flatK _ _ _ _ (by simpa using hj)]
  have h3 : j = j / 4 * 4 + j % 4 := by omega
  conv => lhs; rw [h3]
  rw [flat_get (f := encE) (sz := 4) encE_len q _ _ h1 h2]
  have h4 : (q.toArray)[j / 4]! = q[j / 4] := by
    rw [getElem!_pos q.toArray (j / 4) (by simpa using h1)]
    simp
  rw [h4]
  have h5 : j % 4 < (encE q[j / 4]).length := h2
  rw [List.getElem?_eq_getElem h5]
  congr 1
  exact (getElem!_pos (encE q[j / 4]) (j % 4) h5).symm

theorem Row.holdsK {w : World} {g o cap : Nat} {q : List Ev} (h : Row w 57 4 (some ⟨g, o, none⟩) q.length cap (q.flatMap encE)) : HoldsK encE 4 w g o q.toArray := by
  intro j hj
  rw [size_flatK] at hj
  have hj' : j < q.length * 4 := by simpa using hj
  refine ⟨?_, h.free _⟩
  rw [h.cell j hj', flatT q j hj']
  rfl

theorem sortW_row {w : World} {g o cap m : Nat} {q : List Ev} (h : Row w 57 4 (some ⟨g, o, none⟩) q.length cap (q.flatMap encE)) (q' : List Ev) (hq : q'.length = q.length) (os : Array Obj) :
    Row (sortWorldK encE 4 w g o m q'.toArray os) 57 4 (some ⟨g, o, none⟩) q'.length cap (q'.flatMap encE) ∧ Mod (fun k => k = g) w (sortWorldK encE 4 w g o m q'.toArray os) := by
  have lg : g < w.heap.size := h.lt
  obtain ⟨h1, h2, h3, h4, h5⟩ := h
  obtain ⟨_, cur, hc, hsz, ht⟩ := h5 _ rfl
  simp only at hc hsz ht
  have hblk : (sortWorldK encE 4 w g o m q'.toArray os).heap[g]? = some (.cells (putCells id o (flatK encE 4 q'.toArray) cur) 57 (0, 0)) := by
    unfold sortWorldK putRowK putRow mapBlock grow Sort.ahead
    simp only
    rw [Array.getElem?_append_left (by simpa using lg), Array.getElem?_modify, if_pos rfl, hc]
    rfl
  have hold : ∀ k, k < w.heap.size → k ≠ g → (sortWorldK encE 4 w g o m q'.toArray os).heap[k]? = w.heap[k]? := fun k hk hn => by
    unfold sortWorldK putRowK putRow mapBlock grow Sort.ahead
    simp only
    rw [Array.getElem?_append_left (by simpa using hk), Array.getElem?_modify, if_neg (Ne.symm hn)]
  refine ⟨⟨flat_len encE_len q', by omega, h3, fun h => (by cases h), fun a ha => ?_⟩, ⟨rfl, rfl, rfl, ?_, fun k hk hn => hold k hk hn⟩⟩
  · injection ha with ha
    subst ha
    refine ⟨rfl, _, hblk, by simp [putCells]; exact hsz, ?_⟩
    apply List.ext_getElem?
    intro j
    by_cases hj : j < q'.length * 4
    · rw [List.getElem?_take_of_lt hj, List.getElem?_drop, flatT q' j hj]
      simp only [Array.getElem?_toList]
      unfold putCells
      have hj2 : o + j < cur.size := by
        have : q'.length * 4 ≤ cap * 4 := Nat.mul_le_mul_right _ (by omega)
        omega
      have hfs : (flatK encE 4 q'.toArray).size = q'.length * 4 := by simp
      generalize flatK encE 4 q'.toArray = F at hfs ⊢
      simp only [Array.getElem?_mapIdx, Array.getElem?_eq_getElem hj2, Option.map_some]
      rw [if_pos (by omega), Nat.add_sub_cancel_left]
      rfl
    · rw [List.getElem?_eq_none (by rw [List.length_take]; omega), List.getElem?_eq_none (by rw [flat_len encE_len q']; omega)]
  · unfold sortWorldK putRowK putRow mapBlock grow Sort.ahead
    simp

theorem sort_any (w : World) (g o cap : Nat) (q : List Ev) (hr : Row w 57 4 (some ⟨g, o, none⟩) q.length cap (q.flatMap encE)) (h12 : q.length ≤ 12) :
    Calls Tryz.prog 130 #[.slice (some ⟨g, o, none⟩) q.length cap, .func (.func 131) #[] #[]] w fun x w' => x = .returned (.tuple #[]) ∧
      ∃ q', q'.Perm q ∧ Fo.SortedT q' ∧ q'.length = q.length ∧ Row w' 57 4 (some ⟨g, o, none⟩) q'.length cap (q'.flatMap encE) ∧ Mod (fun k => k = g) w w' := by
  have eg : ∀ args w, (callFunc 131 args).run Tryz.prog w = .ok (.enter 131 args) w := enters_of Tryz.func131 (by kernel_rfl) rfl
  have hlen : ∀ (n : Nat) (W : World), n ≤ 12 → Calls Tryz.prog 143 #[.int .u64 n] W fun e w' => (∃ l : Int, e = .returned (.int .i64 l)) ∧ w' = W := fun n W hn =>
    (Tryz.bits_Len n W (by omega) (by omega)).mono fun _ _ ⟨he, hw⟩ => ⟨⟨_, he⟩, hw⟩
  have hcon := AnyQ.slices_SortFunc_small_sorted Tryz.sortEv 4 Tryz.isAgg57 Tryz.sizeOf57 encE encE_len (fun x v hv => by simp [encE] at hv; rcases hv with rfl | rfl | rfl | rfl <;> rfl) cmpT 131 #[] swoT g o cap q.toArray w eg
    (fun _ _ _ _ x y => cmp_any x y _) hr.holdsK hr.lt (by simpa using h12) hlen
  change Calls Tryz.prog 130 _ _ _ at hcon
  simp only [List.size_toArray] at hcon
  refine hcon.mono ?_
  rintro x w' ⟨rfl, d', m, os, hp, hs, rfl⟩
  obtain ⟨l', rfl⟩ : ∃ l' : List Ev, d' = l'.toArray := ⟨d'.toList, rfl⟩
  have hsz : l'.length = q.length := by simpa using hp.1
  have hperm : l'.Perm q := by
    have := hp.2.2
    have ht : List.take q.length l' = l' := by rw [← hsz]; exact List.take_length
    simpa [hsz, ht] using this
  have hsort : Fo.SortedT l' := by
    unfold Fo.SortedT
    rw [List.pairwise_iff_getElem]
    intro i j hi hj hij
    have := hs i j (Nat.zero_le _) hij (by omega)
    rw [ltT, getElem!_pos l'.toArray i (by simpa using hi), getElem!_pos l'.toArray j (by simpa using hj)] at this
    simpa using this
  obtain ⟨h1, h2⟩ := sortW_row (m := m) hr l' hsz os
  exact ⟨rfl, l', hperm, hsort, hsz, h1, h2⟩
end Go.Proofs.YtcaapoacmfjnmaaGreat
