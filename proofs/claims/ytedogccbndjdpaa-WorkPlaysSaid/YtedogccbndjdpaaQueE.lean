/- Queues, fifth part: what Push, Pop, Steal, Len, New do to a queue, told by its sorted list. -/
import Derived.Test.YtedogccbndjdpaaQueD
namespace Go.Proofs.Ytedogccbndjdpaa
open Go.RowKit
set_option linter.unusedVariables false

/-- block Q is a queue of l, which is sorted -/
def Que (w : World) (F : Nat → Prop) (Q : Nat) (l : List ByteArray) : Prop := ∃ h, PileAt w F Q h ∧ Hp.Holds ahead h l
theorem Que.mod {w w' : World} {F G : Nat → Prop} {Q : Nat} {l : List ByteArray} (hp : Que w F Q l) (hm : Mod G w w') (hG : ∀ k, F k → ¬ G k) : Que w' F Q l := by
  obtain ⟨h, h1, h2⟩ := hp; exact ⟨h, h1.mod hm hG, h2⟩
theorem Que.below {w w' : World} {F : Nat → Prop} {Q : Nat} {l : List ByteArray} (hp : Que w F Q l) (hb : Below w.heap.size w w') : Que w' F Q l := by
  obtain ⟨h, h1, h2⟩ := hp; exact ⟨h, h1.below hb, h2⟩
theorem Que.foot {w : World} {F G : Nat → Prop} {Q : Nat} {l : List ByteArray} (hp : Que w F Q l) (hG : ∀ k, F k → k < w.heap.size → G k) : Que w G Q l := by
  obtain ⟨h, h1, h2⟩ := hp; exact ⟨h, h1.foot hG, h2⟩
theorem Que.lt {w : World} {F : Nat → Prop} {Q : Nat} {l : List ByteArray} (hp : Que w F Q l) : Q < w.heap.size := by
  obtain ⟨h, h1, h2⟩ := hp; exact h1.lt
theorem Que.own {w : World} {F : Nat → Prop} {Q : Nat} {l : List ByteArray} (hp : Que w F Q l) : F Q := by
  obtain ⟨h, ⟨A, cap, h1, _⟩, h2⟩ := hp; exact h1

theorem que_len (w : World) (F : Nat → Prop) (Q : Nat) (l : List ByteArray) (hp : Que w F Q l) :
    Calls Try.prog 26 #[.pointer (some ⟨Q, 0, none⟩)] w fun e w' => e = .returned (.int .i64 l.length) ∧ w = w' := by
  obtain ⟨h, h1, h2⟩ := hp
  rw [← h2.len]
  exact queLen_in w F Q h h1

set_option maxRecDepth 100000 in
theorem que_push (w : World) (F : Nat → Prop) (Q : Nat) (l : List ByteArray) (hp : Que w F Q l) (s : ByteArray) (hl : l.length < 900000) :
    Calls Try.prog 22 #[.pointer (some ⟨Q, 0, none⟩), .string s] w fun e w' => e = .returned (.tuple #[]) ∧ Que w' (fun k => F k ∨ w.heap.size ≤ k) Q (Hp.putF ahead l s) ∧ Mod F w w' := by
  obtain ⟨h, h1, h2⟩ := hp
  have HP := Lib.hid h1
  have hhl : h.length < 900000 := by rw [h2.len]; exact hl
  have H2 := Lib.hid h2
  clear h1 h2
  go_enter Try.func22, Try.ntmps22
  go_wp2_with (go_at_call 41; refine (heapPush_in _ F Q h HP.out s hhl).mono ?_; rintro e w1 ⟨rfl, hp1, hm1⟩)
  go_end0
  exact ⟨rfl, ⟨_, hp1, H2.out.push ahead_tot s⟩, hm1⟩

set_option maxRecDepth 100000 in
theorem que_new (w : World) : Calls Try.prog 21 #[] w fun e w' => ∃ Q, e = .returned (.pointer (some ⟨Q, 0, none⟩)) ∧ Que w' (fun k => w.heap.size ≤ k) Q [] ∧ Below w.heap.size w w' := by
  go_enter Try.func21, Try.ntmps21
  go_wp2
  go_ret
  refine ⟨w.heap.size, rfl, ⟨[], ⟨none, 0, Nat.le_refl _, ?_, Row.nil _ _ _, fun a h => by cases h⟩, Hp.Holds.nil ahead⟩, (Below.refl _ _).alloc (Nat.le_refl _) _⟩
  exact heap_alloc_new w _

/-- take, from a queue with none -/
theorem take_empty (w : World) (P : Option Addr) (fn : Value) (hlen : Calls Try.prog 26 #[.pointer P] w fun e w' => e = .returned (.int .i64 0) ∧ w = w') :
    Calls Try.prog 42 #[.pointer P, fn] w fun e w' => e = .returned (.tuple #[.string ⟨#[]⟩, .bool false]) ∧ w = w' := by
  have HL := Lib.hid hlen
  clear hlen
  go_enter Try.func42, Try.ntmps42
  go_wp2_with (go_at_call 26; refine HL.out.mono ?_; rintro e w1 ⟨rfl, rfl⟩)
  go_ret2
  exact ⟨rfl, rfl⟩

theorem Try.isStr2 (s : ByteArray) (w : World) : (Instr.typeAssert (.iface 9 (.string s)) 20 9 true).run Try.prog w = .ok (.tuple #[.string s, .bool true]) w := by kernel_rfl

set_option maxRecDepth 100000 in
theorem take_top (w : World) (F : Nat → Prop) (Q : Nat) (h : List ByteArray) (hp : PileAt w F Q h) (i : Nat) (hi : i < h.length) (hl : h.length < 900000) (s : ByteArray) (hs : (Hp.remF ahead h i)[h.length - 1]? = some s)
    (hw : ∀ v, PileAt v F Q h → Calls Try.prog 43 #[.pointer (some ⟨Q, 0, none⟩)] v fun e w' => e = .returned (.int .i64 i) ∧ Below v.heap.size v w') :
    Calls Try.prog 42 #[.pointer (some ⟨Q, 0, none⟩), .func (.func 43) #[.pointer (some ⟨Q, 0, none⟩)] #[]] w fun e w' => e = .returned (.tuple #[.string s, .bool true]) ∧ PileAt w' F Q (Hp.remF ahead h i).dropLast ∧ Mod F w w' := by
  have HP := Lib.hid hp
  have HW := Lib.hid hw
  have hlen := queLen_in w F Q h hp
  have HL := Lib.hid hlen
  have HREM := Lib.hid hs
  have hne : ((h.length : Int) == 0) = false := by rw [beq_eq_false_iff_ne]; omega
  have hdr : PileAt w.drew F Q h := hp.mod ((Mod.refl (fun _ => False) w).drew) (fun _ _ h => h)
  have HD := Lib.hid hdr
  have hta := Try.isStr2 s
  clear hp hw hlen hs hdr
  go_enter Try.func42, Try.ntmps42
  go_wp2_with (go_at_call 26; refine HL.out.mono ?_; rintro e w1 ⟨rfl, rfl⟩)
  refine wp_region_plan (by kernel_rfl) (fun _ => True) [5, 6, 7] [(0, .pure), (1, .pure), (2, .pure), (3, .pure), (4, .pure), (5, .last), (6, .last), (7, .last), (8, .pure), (9, .pure), (10, .pure), (11, .pure), (12, .pure)] (by simp only [List.map_cons, List.map_nil, List.getElem?_toArray, List.getElem?_cons_succ, List.getElem?_cons_zero]; rfl) (by kernel_rfl) (fun _ _ d _ _ h => by cases d <;> exact h) (trivial) ?_
  repeat (first
    | (refine plan_pure (v := ?_) (by rfl) (fun w1 => ?_) ?_
       rotate_left
       · go_simp <;> with_reducible rfl
       simp only [Act.put, List.setIfInBounds_toArray, List.set_cons_zero, List.set_cons_succ])
    | (refine plan_off (by rfl) ?_
       simp only [Act.put, List.setIfInBounds_toArray, List.set_cons_zero, List.set_cons_succ])
    | (refine plan_load_off (by rfl) ?_
       simp only [Act.put, List.setIfInBounds_toArray, List.set_cons_zero, List.set_cons_succ])
    | (refine plan_load (v := ?_) (by rfl) (fun w1 hw1 => ?_) ?_
       rotate_left
       · (skip
          clear hw1
          go_simp <;> with_reducible rfl)
       simp only [Act.put, List.setIfInBounds_toArray, List.set_cons_zero, List.set_cons_succ]))
  refine plan_last ?_
  go_wp2_with (go_at_call 43; refine (HW.out _ HD.out).mono ?_; rintro e w1 ⟨rfl, hb1⟩)
  refine plan_last ?_
  go_wp2_with (go_at_call 48; refine (heapRemove_in _ F Q h (HD.out.below hb1) i hi hl s HREM.out).mono ?_; rintro e w2 ⟨rfl, hp2, hm2⟩)
  refine plan_last ?_
  go_wp2_with fail
  repeat (first
    | (refine plan_pure (v := ?_) (by rfl) (fun w1 => ?_) ?_
       rotate_left
       · go_simp <;> with_reducible rfl
       simp only [Act.put, List.setIfInBounds_toArray, List.set_cons_zero, List.set_cons_succ])
    | (refine plan_off (by rfl) ?_
       simp only [Act.put, List.setIfInBounds_toArray, List.set_cons_zero, List.set_cons_succ])
    | (refine plan_load_off (by rfl) ?_
       simp only [Act.put, List.setIfInBounds_toArray, List.set_cons_zero, List.set_cons_succ])
    | (refine plan_load (v := ?_) (by rfl) (fun w1 hw1 => ?_) ?_
       rotate_left
       · (skip
          clear hw1
          go_simp <;> with_reducible rfl)
       simp only [Act.put, List.setIfInBounds_toArray, List.set_cons_zero, List.set_cons_succ]))
  refine plan_end ?_
  go_wp2_with fail
  go_ret2
  exact ⟨rfl, hp2, ((Mod.refl F w).drew.trans (Mod.of_below_size hb1 F)).trans hm2⟩

set_option maxRecDepth 100000 in
theorem take_end (w : World) (F : Nat → Prop) (Q : Nat) (h : List ByteArray) (hp : PileAt w F Q h) (i : Nat) (hi : i < h.length) (hl : h.length < 900000) (s : ByteArray) (hs : (Hp.remF ahead h i)[h.length - 1]? = some s)
    (hw : ∀ v, PileAt v F Q h → Calls Try.prog 44 #[.pointer (some ⟨Q, 0, none⟩)] v fun e w' => e = .returned (.int .i64 i) ∧ Below v.heap.size v w') :
    Calls Try.prog 42 #[.pointer (some ⟨Q, 0, none⟩), .func (.func 44) #[.pointer (some ⟨Q, 0, none⟩)] #[]] w fun e w' => e = .returned (.tuple #[.string s, .bool true]) ∧ PileAt w' F Q (Hp.remF ahead h i).dropLast ∧ Mod F w w' := by
  have HP := Lib.hid hp
  have HW := Lib.hid hw
  have hlen := queLen_in w F Q h hp
  have HL := Lib.hid hlen
  have HREM := Lib.hid hs
  have hne : ((h.length : Int) == 0) = false := by rw [beq_eq_false_iff_ne]; omega
  have hdr : PileAt w.drew F Q h := hp.mod ((Mod.refl (fun _ => False) w).drew) (fun _ _ h => h)
  have HD := Lib.hid hdr
  have hta := Try.isStr2 s
  clear hp hw hlen hs hdr
  go_enter Try.func42, Try.ntmps42
  go_wp2_with (go_at_call 26; refine HL.out.mono ?_; rintro e w1 ⟨rfl, rfl⟩)
  refine wp_region_plan (by kernel_rfl) (fun _ => True) [5, 6, 7] [(0, .pure), (1, .pure), (2, .pure), (3, .pure), (4, .pure), (5, .last), (6, .last), (7, .last), (8, .pure), (9, .pure), (10, .pure), (11, .pure), (12, .pure)] (by simp only [List.map_cons, List.map_nil, List.getElem?_toArray, List.getElem?_cons_succ, List.getElem?_cons_zero]; rfl) (by kernel_rfl) (fun _ _ d _ _ h => by cases d <;> exact h) (trivial) ?_
  repeat (first
    | (refine plan_pure (v := ?_) (by rfl) (fun w1 => ?_) ?_
       rotate_left
       · go_simp <;> with_reducible rfl
       simp only [Act.put, List.setIfInBounds_toArray, List.set_cons_zero, List.set_cons_succ])
    | (refine plan_off (by rfl) ?_
       simp only [Act.put, List.setIfInBounds_toArray, List.set_cons_zero, List.set_cons_succ])
    | (refine plan_load_off (by rfl) ?_
       simp only [Act.put, List.setIfInBounds_toArray, List.set_cons_zero, List.set_cons_succ])
    | (refine plan_load (v := ?_) (by rfl) (fun w1 hw1 => ?_) ?_
       rotate_left
       · (skip
          clear hw1
          go_simp <;> with_reducible rfl)
       simp only [Act.put, List.setIfInBounds_toArray, List.set_cons_zero, List.set_cons_succ]))
  refine plan_last ?_
  go_wp2_with (go_at_call 44; refine (HW.out _ HD.out).mono ?_; rintro e w1 ⟨rfl, hb1⟩)
  refine plan_last ?_
  go_wp2_with (go_at_call 48; refine (heapRemove_in _ F Q h (HD.out.below hb1) i hi hl s HREM.out).mono ?_; rintro e w2 ⟨rfl, hp2, hm2⟩)
  refine plan_last ?_
  go_wp2_with fail
  repeat (first
    | (refine plan_pure (v := ?_) (by rfl) (fun w1 => ?_) ?_
       rotate_left
       · go_simp <;> with_reducible rfl
       simp only [Act.put, List.setIfInBounds_toArray, List.set_cons_zero, List.set_cons_succ])
    | (refine plan_off (by rfl) ?_
       simp only [Act.put, List.setIfInBounds_toArray, List.set_cons_zero, List.set_cons_succ])
    | (refine plan_load_off (by rfl) ?_
       simp only [Act.put, List.setIfInBounds_toArray, List.set_cons_zero, List.set_cons_succ])
    | (refine plan_load (v := ?_) (by rfl) (fun w1 hw1 => ?_) ?_
       rotate_left
       · (skip
          clear hw1
          go_simp <;> with_reducible rfl)
       simp only [Act.put, List.setIfInBounds_toArray, List.set_cons_zero, List.set_cons_succ]))
  refine plan_end ?_
  go_wp2_with fail
  go_ret2
  exact ⟨rfl, hp2, ((Mod.refl F w).drew.trans (Mod.of_below_size hb1 F)).trans hm2⟩

theorem last_split {l : List ByteArray} (h : l ≠ []) : ∃ r x, l = r ++ [x] := ⟨l.dropLast, l.getLast h, (List.dropLast_concat_getLast h).symm⟩

set_option maxRecDepth 100000 in
theorem pop_none (w : World) (P : Option Addr) (hlen : Calls Try.prog 26 #[.pointer P] w fun e w' => e = .returned (.int .i64 0) ∧ w = w') :
    Calls Try.prog 24 #[.pointer P] w fun e w' => e = .returned (.tuple #[.string ⟨#[]⟩, .bool false]) ∧ w = w' := by
  have HL := Lib.hid hlen
  have hmf : ∀ (fn : Fn) (first cap : Array Value) (w : World), (Instr.makeFunc fn first cap).run Try.prog w = .ok (.func fn first cap) w := fun _ _ _ _ => rfl
  clear hlen
  go_enter Try.func24, Try.ntmps24
  go_wp2_with (go_at_call 42; refine (take_empty _ _ _ HL.out).mono ?_; rintro e w1 ⟨rfl, rfl⟩)
  go_ret2
  exact ⟨rfl, rfl⟩
set_option maxRecDepth 100000 in
theorem steal_none (w : World) (P : Option Addr) (hlen : Calls Try.prog 26 #[.pointer P] w fun e w' => e = .returned (.int .i64 0) ∧ w = w') :
    Calls Try.prog 25 #[.pointer P] w fun e w' => e = .returned (.tuple #[.string ⟨#[]⟩, .bool false]) ∧ w = w' := by
  have HL := Lib.hid hlen
  have hmf : ∀ (fn : Fn) (first cap : Array Value) (w : World), (Instr.makeFunc fn first cap).run Try.prog w = .ok (.func fn first cap) w := fun _ _ _ _ => rfl
  clear hlen
  go_enter Try.func25, Try.ntmps25
  go_wp2_with (go_at_call 42; refine (take_empty _ _ _ HL.out).mono ?_; rintro e w1 ⟨rfl, rfl⟩)
  go_ret2
  exact ⟨rfl, rfl⟩
theorem que_pop_nil (w : World) : Calls Try.prog 24 #[.pointer none] w fun e w' => e = .returned (.tuple #[.string ⟨#[]⟩, .bool false]) ∧ w = w' := pop_none w none (queLen_nil w)
theorem que_steal_nil (w : World) : Calls Try.prog 25 #[.pointer none] w fun e w' => e = .returned (.tuple #[.string ⟨#[]⟩, .bool false]) ∧ w = w' := steal_none w none (queLen_nil w)
theorem que_pop_none (w : World) (F : Nat → Prop) (Q : Nat) (hp : Que w F Q []) : Calls Try.prog 24 #[.pointer (some ⟨Q, 0, none⟩)] w fun e w' => e = .returned (.tuple #[.string ⟨#[]⟩, .bool false]) ∧ w = w' :=
  pop_none w _ (que_len w F Q [] hp)
theorem que_steal_none (w : World) (F : Nat → Prop) (Q : Nat) (hp : Que w F Q []) : Calls Try.prog 25 #[.pointer (some ⟨Q, 0, none⟩)] w fun e w' => e = .returned (.tuple #[.string ⟨#[]⟩, .bool false]) ∧ w = w' :=
  steal_none w _ (que_len w F Q [] hp)

set_option maxRecDepth 100000 in
theorem que_pop (w : World) (F : Nat → Prop) (Q : Nat) (x : ByteArray) (l : List ByteArray) (hp : Que w F Q (x :: l)) (hl : l.length < 800000) :
    Calls Try.prog 24 #[.pointer (some ⟨Q, 0, none⟩)] w fun e w' => e = .returned (.tuple #[.string x, .bool true]) ∧ Que w' F Q l ∧ Mod F w w' := by
  obtain ⟨h, h1, h2⟩ := hp
  have hlen := h2.len
  simp only [List.length_cons] at hlen
  obtain ⟨h3, h4⟩ := h2.pop ahead_tot
  have ht := take_top w F Q h h1 0 (by omega) (by omega) x h4 (fun v _ => (top_in v Q).mono (by rintro e w' ⟨he, rfl⟩; exact ⟨he, Below.refl _ _⟩))
  have HT := Lib.hid ht
  have H3 := Lib.hid h3
  have hmf : ∀ (fn : Fn) (first cap : Array Value) (w : World), (Instr.makeFunc fn first cap).run Try.prog w = .ok (.func fn first cap) w := fun _ _ _ _ => rfl
  clear h1 h2 h3 h4 ht hlen
  go_enter Try.func24, Try.ntmps24
  go_wp2_with (go_at_call 42; refine HT.out.mono ?_; rintro e w1 ⟨rfl, hp1, hm1⟩)
  go_ret2
  exact ⟨rfl, ⟨_, hp1, H3.out⟩, hm1⟩
set_option maxRecDepth 100000 in
theorem que_steal (w : World) (F : Nat → Prop) (Q : Nat) (x : ByteArray) (l : List ByteArray) (hp : Que w F Q (l ++ [x])) (hl : l.length < 800000) :
    Calls Try.prog 25 #[.pointer (some ⟨Q, 0, none⟩)] w fun e w' => e = .returned (.tuple #[.string x, .bool true]) ∧ Que w' F Q l ∧ Mod F w w' := by
  obtain ⟨h, h1, h2⟩ := hp
  have hlen := h2.len
  simp only [List.length_append, List.length_singleton] at hlen
  obtain ⟨e1, e2⟩ := Hp.endF_max ahead_tot (h := h) h.length (Nat.le_refl _) (by omega)
  obtain ⟨h3, h4⟩ := h2.steal ahead_tot e1 (fun z hz => by
    obtain ⟨k, hk, rfl⟩ := List.getElem_of_mem hz
    exact e2 k hk _ _ (List.getElem?_eq_getElem hk) (List.getElem?_eq_getElem e1))
  have ht := take_end w F Q h h1 (Hp.endF ahead h h.length) e1 (by omega) x h4 (fun v hv => end_in v F Q h hv (by omega))
  have HT := Lib.hid ht
  have H3 := Lib.hid h3
  have hmf : ∀ (fn : Fn) (first cap : Array Value) (w : World), (Instr.makeFunc fn first cap).run Try.prog w = .ok (.func fn first cap) w := fun _ _ _ _ => rfl
  clear h1 h2 h3 h4 ht hlen e1 e2
  go_enter Try.func25, Try.ntmps25
  go_wp2_with (go_at_call 42; refine HT.out.mono ?_; rintro e w1 ⟨rfl, hp1, hm1⟩)
  go_ret2
  exact ⟨rfl, ⟨_, hp1, H3.out⟩, hm1⟩
end Go.Proofs.Ytedogccbndjdpaa
