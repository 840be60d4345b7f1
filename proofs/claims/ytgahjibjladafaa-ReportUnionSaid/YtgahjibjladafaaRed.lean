/- Reports: get, put, two. -/
import Derived.Test.YtgahjibjladafaaRec
import Derived.Laws.Bits64b
import Derived.Test.YtgahjibjladafaaFoY
namespace Go.Proofs.Ytgahjibjladafaa
open Go.RowKit
set_option linter.unusedVariables false

theorem or_two (a b : Nat) (ha : a < 256) (hb : b < 256) : bits .or .i64 (IntKind.i64.wrap (IntKind.i64.wrap (a : Int) * 256)) (IntKind.i64.wrap (b : Int)) = ((a * 256 + b : Nat) : Int) := by
  have e1 : IntKind.i64.wrap (a : Int) = a := IntWalk.i64_in _ (by omega)
  have e2 : IntKind.i64.wrap (b : Int) = b := IntWalk.i64_in _ (by omega)
  have e3 : IntKind.i64.wrap ((a : Int) * 256) = ((a * 256 : Nat) : Int) := by rw [IntWalk.i64_in _ (by omega)]; omega
  rw [e1, e2, e3]
  have h1 : (BitVec.ofInt 64 ((a * 256 : Nat) : Int)).toNat = a * 256 := by
    rw [BitVec.ofInt_natCast, BitVec.toNat_ofNat]; exact Nat.mod_eq_of_lt (by omega)
  have h2 : (BitVec.ofInt 64 (b : Int)).toNat = b := by
    rw [BitVec.ofInt_natCast, BitVec.toNat_ofNat]; exact Nat.mod_eq_of_lt (by omega)
  have h3 : a * 256 ||| b = a * 256 + b := by
    have := Nat.shiftLeft_add_eq_or_of_lt (i := 8) (b := b) (by omega) a
    rw [Nat.shiftLeft_eq] at this
    exact this.symm
  show IntKind.i64.wrap ((BitVec.ofInt 64 ((a * 256 : Nat) : Int) ||| BitVec.ofInt 64 (b : Int)).toNat : Int) = _
  rw [BitVec.toNat_or, h1, h2, h3]
  exact IntWalk.i64_in _ (by omega)

set_option maxRecDepth 100000 in
theorem get_any (w : World) (s : ByteArray) (h : 2 ≤ s.size) :
    Calls Try.prog 85 #[.string s] w fun x w' => x = .returned (.int .i64 (Ky.num s.data.toList)) ∧ Below w.heap.size w w' := by
  have h0 : (0 : Int) < (s.size : Int) := by omega
  have h1 : (1 : Int) < (s.size : Int) := by omega
  have hi0 : ∀ W, (Instr.index 9 (.string s) (.int .i64 0)).run Try.prog W = .ok (.int .u8 (s[0]'(by omega)).toNat) W := fun W => by
    rw [run_index_string W _ _ _ _ Try.underlying9, dif_pos ⟨Int.le_refl _, h0⟩]; rfl
  have hi1 : ∀ W, (Instr.index 9 (.string s) (.int .i64 1)).run Try.prog W = .ok (.int .u8 (s[1]'(by omega)).toNat) W := fun W => by
    rw [run_index_string W _ _ _ _ Try.underlying9, dif_pos ⟨by decide, h1⟩]; rfl
  have hn : Ky.num s.data.toList = (s[0]'(by omega)).toNat * 256 + (s[1]'(by omega)).toNat := by
    have e0 : s.data.toList.getD 0 0 = s[0]'(by omega) := by rw [List.getD_eq_getElem?_getD, List.getElem?_eq_getElem (by simp; omega)]; rfl
    have e1 : s.data.toList.getD 1 0 = s[1]'(by omega) := by rw [List.getD_eq_getElem?_getD, List.getElem?_eq_getElem (by simp; omega)]; rfl
    unfold Ky.num
    rw [e0, e1]
  have b0 := (s[0]'(by omega)).toNat_lt
  have b1 := (s[1]'(by omega)).toNat_lt
  generalize (s[0]'(by omega)).toNat = a at *
  generalize (s[1]'(by omega)).toNat = b at *
  have HN := Lib.hid hn
  clear hn
  go_enter Try.func85, Try.ntmps85
  go_wp2_with fail
  refine wp_region_plan (by kernel_rfl) (fun u => Mod (fun _ => False) w u) [] [(0, .pure), (1, .pure), (2, .pure), (3, .pure), (4, .pure), (5, .pure), (6, .pure), (7, .pure), (8, .pure)] (by simp only [List.map_cons, List.map_nil, List.getElem?_toArray, List.getElem?_cons_succ, List.getElem?_cons_zero]; rfl) (by kernel_rfl) (fun _ _ d _ _ h => by cases d <;> exact h) ((Mod.refl _ _).drew) ?_
  repeat (first
    | (refine plan_pure (v := ?_) (by rfl) (fun w1 => ?_) ?_
       rotate_left
       · go_simp <;> with_reducible rfl
       simp only [Act.put, List.setIfInBounds_toArray, List.set_cons_zero, List.set_cons_succ])
    | (refine plan_off (by rfl) ?_
       simp only [Act.put, List.setIfInBounds_toArray, List.set_cons_zero, List.set_cons_succ])
    | (refine plan_load_off (by rfl) ?_
       simp only [Act.put, List.setIfInBounds_toArray, List.set_cons_zero, List.set_cons_succ])
    | (refine plan_load (v := ?_) (by rfl) (fun w1 hw1 => ?_) ?_
       rotate_left
       · (skip
          clear hw1
          go_simp <;> with_reducible rfl)
       simp only [Act.put, List.setIfInBounds_toArray, List.set_cons_zero, List.set_cons_succ]))
  refine plan_end ?_
  rw [or_two a b b0 b1]
  go_wp2_with fail
  go_ret
  exact ⟨by rw [HN.out]; rfl, (Below.refl _ _).drew⟩
end Go.Proofs.Ytgahjibjladafaa
/- Reports: a number's two bytes. -/
namespace Go.Proofs.Ytgahjibjladafaa
open Go.RowKit
set_option linter.unusedVariables false

theorem u8_wrap {n : Nat} (h : n < 256) : IntKind.u8.wrap (n : Int) = (n : Int) := by unfold IntKind.wrap; simp [IntKind.bits, IntKind.signed]; omega
theorem b8_val {n : Nat} (h : n < 256) : (Value.int .u8 (n : Int)) = Value.int .u8 ((Ky.b8 n).toNat : Int) := by
  unfold Ky.b8
  congr 2
  rw [UInt8.toNat_ofNat']
  omega
set_option maxRecDepth 100000 in
theorem two_any (w : World) (n : Nat) (h : n ≤ 65535) :
    Calls Try.prog 86 #[.int .i64 (n : Int)] w fun x w' => x = .returned (.string ⟨(Ky.two n).toArray⟩) ∧ Below w.heap.size w w' := by
  obtain ⟨a, ha⟩ : ∃ a, a = n / 256 := ⟨_, rfl⟩
  obtain ⟨b, hb⟩ : ∃ b, b = n % 256 := ⟨_, rfl⟩
  have htwo : Ky.two n = [Ky.b8 a, Ky.b8 b] := by rw [ha, hb]; rfl
  have h1 : (n : Int) / 256 = (a : Int) := by omega
  have h2 : (n : Int) % 256 = (b : Int) := by omega
  have h1' : (n : Int).tdiv 256 = (a : Int) := by rw [Int.tdiv_eq_ediv_of_nonneg (by omega)]; exact h1
  have h2' : (n : Int).tmod 256 = (b : Int) := by rw [Int.tmod_eq_emod_of_nonneg (by omega)]; exact h2
  have h3 := u8_wrap (n := a) (by omega)
  have h4 := u8_wrap (n := b) (by omega)
  have h5 : IntKind.i64.wrap (a : Int) = a := IntWalk.i64_in _ (by omega)
  have hrow : Row (w.alloc (Obj.cells #[.int .u8 (a : Int), .int .u8 (b : Int)] 5)) 5 1 (some ⟨w.heap.size, 0, none⟩) 2 2 (byteVs [Ky.b8 a, Ky.b8 b]) := by
    rw [b8_val (n := a) (by omega), b8_val (n := b) (by omega)]
    exact ⟨rfl, Nat.le_refl _, by unfold maxLen; omega, fun h => (by cases h), fun x hx => by injection hx with hx; subst hx; exact ⟨rfl, _, heap_alloc_new w _, by simp, rfl⟩⟩
  have hconv := conv_bytes hrow 43 9 Try.underlying43 Try.underlying5 Try.underlying9
  have HTWO := Lib.hid htwo
  have ht : (⟨(Ky.two n).toArray⟩ : ByteArray) = ⟨[Ky.b8 a, Ky.b8 b].toArray⟩ := by rw [htwo]
  generalize (⟨[Ky.b8 a, Ky.b8 b].toArray⟩ : ByteArray) = t at hconv ht
  have HT := Lib.hid ht
  have n0 : (0 : Int) ≤ (n : Int) := Int.natCast_nonneg _
  have n1 : (n : Int) ≤ 65535 := by omega
  clear htwo hrow ha hb HTWO ht
  go_enter Try.func86, Try.ntmps86
  go_wp2_with fail
  go_ret
  exact ⟨by rw [HT.out]; rfl, (Below.refl _ _).alloc (Nat.le_refl _) _⟩
end Go.Proofs.Ytgahjibjladafaa
/- Reports: put, Print. -/
namespace Go.Proofs.Ytgahjibjladafaa
open Go.RowKit
set_option linter.unusedVariables false

theorem two_cells (n : Nat) (h : n ≤ 65535) : Lib.byteCells (Ky.two n) = [.int .u8 ((n / 256 : Nat) : Int), .int .u8 ((n % 256 : Nat) : Int)] := by
  rw [b8_val (n := n / 256) (by omega), b8_val (n := n % 256) (by omega)]
  rfl
set_option maxRecDepth 100000 in
set_option maxHeartbeats 1000000 in
theorem put_any (B X : Nat) (E : List UInt8) (n : Nat) (w : World) (h : Bld B X (Lib.byteCells E) w) (hn : n ≤ 65535) (hE : E.length ≤ 100000000) (hBw : B ≤ w.heap.size) :
    Calls Try.prog 84 #[.pointer (some ⟨X, 0, none⟩), .int .i64 (n : Int)] w fun x w' => x = .returned (.tuple #[]) ∧ Bld B X (Lib.byteCells (E ++ Ky.two n)) w' ∧ Below B w w' := by
  obtain ⟨a, ha⟩ : ∃ a, a = n / 256 := ⟨_, rfl⟩
  obtain ⟨b, hb⟩ : ∃ b, b = n % 256 := ⟨_, rfl⟩
  have h1 : (n : Int) / 256 = (a : Int) := by omega
  have h3 := u8_wrap (n := a) (by omega)
  have h4 : IntKind.u8.wrap (n : Int) = (b : Int) := by unfold IntKind.wrap; simp [IntKind.bits, IntKind.signed]; omega
  have hc := two_cells n hn
  rw [← ha, ← hb] at hc
  have hby := bld_byte B X (Lib.byteCells E) (a : Int) w h (by rw [Lib.byteCells_length]; omega) hBw
  have hby2 : ∀ u, Bld B X (Lib.byteCells E ++ [.int .u8 (a : Int)]) u → B ≤ u.heap.size → _ := fun u hu hs => bld_byte B X (Lib.byteCells E ++ [.int .u8 (a : Int)]) (b : Int) u hu (by rw [List.length_append, Lib.byteCells_length, List.length_singleton]; omega) hs
  have HC := Lib.hid hc
  have HBY := Lib.hid hby
  have HBY2 := Lib.hid hby2
  have HBW := Lib.hid hBw
  have n0 : (0 : Int) ≤ (n : Int) := Int.natCast_nonneg _
  have n1 : (n : Int) ≤ 65535 := by omega
  clear ha hb hc hby hby2 h hBw
  go_enter Try.func84, Try.ntmps84
  go_wp2_with fail
  refine HBY.out.mono ?_
  rintro x w1 ⟨rfl, hbl, hb1⟩
  have HB1 := Lib.hid hb1
  have HC2 := Lib.hid (HBY2.out w1 hbl (Nat.le_trans HBW.out hb1.size))
  clear hbl hb1
  go_wp2_with fail
  refine HC2.out.mono ?_
  rintro x w2 ⟨rfl, hbl, hb2⟩
  have HB2 := Lib.hid (HB1.out.trans hb2)
  have HL := Lib.hid hbl
  clear hb2 hbl
  go_wp2_with fail
  go_end0
  refine ⟨rfl, ?_, HB2.out⟩
  rw [Lib.byteCells_append, HC.out]
  have := HL.out
  rwa [List.append_assoc] at this
namespace Ky
theorem read_len {s : K} {L : List (List Ev)} (h : Fo.readL s = some L) : s.length ≤ 401 := by
  obtain ⟨h1, h2⟩ := Fo.readL_spec h
  obtain ⟨h3, _, h5⟩ := Fo.okL_spec h1
  have h6 := Fo.encP_len (L := L) L.length
  rw [List.take_length] at h6
  have h7 : L.length ≤ 200 := by rw [← h5, Fo.lev_len]; exact Nat.le_trans (Fo.levU_len _) h3
  rw [← h2, Fo.enc_eq, List.length_append, List.length_singleton]
  omega
theorem right_len {ks : List K} (h : rightK ks = true) : ∀ k ∈ ks, k.length ≤ 401 := fun k hk => by
  obtain ⟨i, hi, rfl⟩ := List.mem_iff_getElem.1 hk
  unfold rightK at h
  rw [Bool.and_eq_true] at h
  have h1 := List.all_eq_true.1 h.1 i (List.mem_range.2 hi)
  rw [okAt_is (List.getElem?_eq_getElem hi), Bool.and_eq_true] at h1
  obtain ⟨L, hL⟩ := Option.isSome_iff_exists.1 h1.1
  exact read_len hL
def encUp (ks : List K) (c : Bool) (k : Nat) : List UInt8 := (if c = true then 1 else 0) :: (two ks.length ++ body (ks.take k))
theorem encUp_succ {ks : List K} {c : Bool} {k : Nat} {x : K} (h : ks[k]? = some x) : encUp ks c (k + 1) = encUp ks c k ++ two x.length ++ x := by
  unfold encUp body
  rw [List.take_add_one, h]
  simp
theorem encUp_len {ks : List K} {c : Bool} (h : ∀ k ∈ ks, k.length ≤ 401) (k : Nat) : (encUp ks c k).length ≤ 3 + ks.length * 403 := by
  have hb : ∀ l : List K, (∀ k ∈ l, k.length ≤ 401) → (body l).length ≤ l.length * 403 := by
    intro l
    induction l with
    | nil => intro _; simp [body]
    | cons x l ih =>
      intro hl
      have h1 := ih fun y hy => hl y (List.mem_cons_of_mem _ hy)
      have h2 := hl x List.mem_cons_self
      unfold body at *
      rw [List.flatMap_cons, List.length_append, List.length_append, List.length_cons]
      have : (two x.length).length = 2 := rfl
      omega
  have h1 := hb (ks.take k) fun x hx => h x (List.mem_of_mem_take hx)
  have h2 : (ks.take k).length ≤ ks.length := by rw [List.length_take]; exact Nat.min_le_right _ _
  have h3 : (ks.take k).length * 403 ≤ ks.length * 403 := Nat.mul_le_mul_right _ h2
  unfold encUp
  rw [List.length_cons, List.length_append]
  have : (two ks.length).length = 2 := rfl
  omega
end Ky

set_option maxRecDepth 100000 in
set_option maxHeartbeats 4000000 in
theorem rprint_any (w : World) (A : Option Addr) (cap : Nat) (ks : List Ky.K) (c : Bool) (hr : Rd w 1 A ks.length (ks.map sv)) (hl : ks.length ≤ 1000000) (hk : ∀ k ∈ ks, k.length < 100000) :
    Calls Try.prog 43 #[.agg #[.slice A ks.length cap, .bool c]] w fun x w' => x = .returned (.string ⟨(Ky.printK ks c).toArray⟩) ∧ Below w.heap.size w w' := by
  have hright : ∀ u, Below w.heap.size w u → Calls Try.prog 47 #[.agg #[.slice A ks.length cap, .bool c]] u fun x w' => x = .returned (.bool (Ky.rightK ks)) ∧ Below u.heap.size u w' := fun u hu => rright_any u A cap ks c (hr.below hu (Nat.le_refl _)) hl hk
  have hyes : Ky.rightK ks = true → Ky.printK ks c = Ky.encUp ks c ks.length ∧ ks.length ≤ 65535 ∧ ∀ k ∈ ks, k.length ≤ 401 := fun h => ⟨by unfold Ky.printK Ky.encUp Ky.enc15; rw [if_pos h, List.take_length], by unfold Ky.rightK at h; simp at h; exact h.2, Ky.right_len h⟩
  have hno : Ky.rightK ks = false → Ky.printK ks c = [] := fun h => Ky.print_ne.2 h
  obtain ⟨rk, hrk⟩ : ∃ rk, rk = Ky.rightK ks := ⟨_, rfl⟩
  rw [← hrk] at hright hyes hno
  generalize Ky.printK ks c = P at hyes hno ⊢
  have HC := Lib.hid (str_cell hr.toB)
  have HRIGHT := Lib.hid hright
  have HYES := Lib.hid hyes
  have HNO := Lib.hid hno
  clear hr hk hright hyes hno hrk
  obtain ⟨W1, X, hW1, hX, hBW, hXl, hXe⟩ := box_rep w 70 A ks.length cap c
  have HXE := Lib.hid hXe
  have HBW := Lib.hid hBW
  clear hXe hBW hXl
  go_enter Try.func43, Try.ntmps43
  go_upto_region 1 with fail
  rw [← hW1, ← hX]
  clear hW1 hX
  obtain ⟨x0, x1, xl⟩ := HXE.out W1 (Below.refl _ _)
  go_wp2_with fail
  refine (HRIGHT.out W1 HBW.out).mono ?_
  rintro x w2 ⟨rfl, b2⟩
  have HB2 := Lib.hid b2
  have HBB2 := Lib.hid (below_at HBW.out b2)
  clear x0 x1 xl b2
  cases rk with
  | false =>
    have HP := Lib.hid (HNO.out rfl)
    clear HYES HNO
    go_wp2_with fail
    go_ret
    exact ⟨by rw [HP.out]; rfl, HBB2.out⟩
  | true =>
    obtain ⟨hP, hk6, hk4⟩ := HYES.out rfl
    have hel := Ky.encUp_len (c := c) hk4
    have hsn := fun (k : Nat) (x : Ky.K) (h : ks[k]? = some x) => Ky.encUp_succ (c := c) h
    have HP := Lib.hid hP
    have HK4 := Lib.hid hk4
    have HEL := Lib.hid hel
    have HSN := Lib.hid hsn
    clear HYES HNO hP hk4 hel hsn HRIGHT
    go_upto_region 4 with fail
    obtain ⟨w5, hw5⟩ : ∃ w5, w5 = w2.alloc (Obj.cells #[.pointer none, .slice none 0 0] 97) := ⟨_, rfl⟩
    obtain ⟨Y, hY⟩ : ∃ Y, Y = w2.heap.size := ⟨_, rfl⟩
    have hbld : Bld W1.heap.size Y (Lib.byteCells []) w5 := .inl ⟨by have := HB2.out.size; omega, _, by rw [hw5, hY]; exact heap_alloc_new w2 _, ⟨rfl, .inl ⟨rfl, rfl⟩⟩, by simp [Value.ownBlock]⟩
    have hb5 : Below w2.heap.size w2 w5 := by rw [hw5]; exact (Below.refl _ _).alloc (Nat.le_refl _) _
    rw [← hw5, ← hY]
    have HBLD := Lib.hid hbld
    have HB5 := Lib.hid (below_at HB2.out hb5)
    have HBB5 := Lib.hid (below_at HBB2.out hb5)
    clear hw5 hY hbld hb5
    obtain ⟨x0, x1, xl⟩ := HXE.out w5 HB5.out
    obtain ⟨cb, hcb⟩ : ∃ cb : Int, cb = (if c = true then 1 else 0) := ⟨_, rfl⟩
    have hfst : Lib.byteCells [(if c = true then 1 else 0 : UInt8)] = [.int .u8 cb] := by rw [hcb]; cases c <;> rfl
    have he0 : [(if c = true then 1 else 0 : UInt8)] ++ Ky.two ks.length = Ky.encUp ks c 0 := by unfold Ky.encUp Ky.body; simp
    have hby := bld_byte W1.heap.size Y (Lib.byteCells []) cb w5 HBLD.out (by simp [Lib.byteCells]) HB5.out.size
    have HFST := Lib.hid hfst
    have HE0 := Lib.hid he0
    have HBY := Lib.hid hby
    have hcw : (c = true ∧ cb = 1) ∨ (c = false ∧ cb = 0) := by rw [hcb]; cases c <;> simp
    clear hcb hfst hby he0
    rcases hcw with ⟨rfl, rfl⟩ | ⟨rfl, rfl⟩
    all_goals
      go_wp2_with fail
      refine HBY.out.mono ?_
      rintro x w6 ⟨rfl, hbl, hb⟩
      rw [show Lib.byteCells [] = ([] : List Value) from rfl, List.nil_append, ← HFST.out] at hbl
      have HB6 := Lib.hid (HB5.out.trans hb)
      have hput := put_any W1.heap.size Y _ ks.length w6 hbl hk6 (by simp) HB6.out.size
      rw [HE0.out] at hput
      have HPUT := Lib.hid hput
      clear x0 x1 xl hbl hb hput HBY HFST HE0
      obtain ⟨x0, x1, xl⟩ := HXE.out w6 HB6.out
      go_wp2_with fail
      refine HPUT.out.mono ?_
      rintro x w7 ⟨rfl, hbl, hb⟩
      have HB7 := Lib.hid (HB6.out.trans hb)
      have HBL7 := Lib.hid hbl
      clear x0 x1 xl hbl hb HPUT
      obtain ⟨x0, x1, xl⟩ := HXE.out w7 HB7.out
      go_wp2_with fail
      clear x0 x1 xl
      go_loopw [20] (fun v wr => ∃ k : Nat, k ≤ ks.length ∧ v = .int .i64 k ∧ Hid (Bld W1.heap.size Y (Lib.byteCells (Ky.encUp ks _ k)) wr) ∧ Hid (Below W1.heap.size W1 wr)) (fun v _ => ks.length - (intOf v).toNat)
      case atStart => exact ⟨0, Nat.zero_le _, rfl, HBL7, HB7⟩
      case round =>
        obtain ⟨k, hk, rfl, HBL, HBW2⟩ := hrel
        have HBB := Lib.hid (below_at HBW.out HBW2.out)
        by_cases hlt : k < ks.length
        · obtain ⟨x, hx⟩ := get_some hlt
          obtain ⟨g, o, rfl, hg, hcl⟩ := HC.out k x hx
          have v0 := hcl wr HBB.out
          have k1 : (0 : Int) ≤ (k : Int) := Int.natCast_nonneg _
          have k2 : (k : Int) < (ks.length : Int) := by omega
          have lg : g < wr.heap.size := by have := HBB.out.size; omega
          have hsn := HSN.out k x hx
          have hx4 := HK4.out x (List.mem_of_getElem? hx)
          have hel := HEL.out k
          generalize Ky.encUp ks _ k = E at HBL hsn hel
          have hput := put_any W1.heap.size Y E x.length wr HBL.out (by omega) (by omega) HBW2.out.size
          have hsz : (⟨x.toArray⟩ : ByteArray).size = x.length := by show x.toArray.size = _; simp
          have hstr : ∀ u, Bld W1.heap.size Y (Lib.byteCells (E ++ Ky.two x.length)) u → W1.heap.size ≤ u.heap.size → Calls Try.prog 64 #[.pointer (some ⟨Y, 0, none⟩), .string ⟨x.toArray⟩] u fun e w' => e = .returned (.tuple #[.int .i64 (ByteArray.size ⟨x.toArray⟩), .nilIface]) ∧ Bld W1.heap.size Y (Lib.byteCells (E ++ Ky.two x.length ++ x)) w' ∧ Below W1.heap.size u w' := fun u hu hs => by
            have := bld_str W1.heap.size Y (Lib.byteCells (E ++ Ky.two x.length)) ⟨x.toArray⟩ u hu (by rw [Lib.byteCells_length, List.length_append, hsz]; have : (Ky.two x.length).length = 2 := rfl; omega) hs
            rw [Lib.strCells_toArray, ← Lib.byteCells_append] at this
            exact this
          have HPUT := Lib.hid hput
          have HSTR := Lib.hid hstr
          have HSN2 := Lib.hid hsn
          have HSZ := Lib.hid hsz
          have hlx : (⟨x.toArray⟩ : ByteArray).size ≤ 401 := by omega
          rw [← hsz] at hput
          have HPUT := Lib.hid hput
          generalize (⟨x.toArray⟩ : ByteArray) = bx at *
          clear hx hcl hsn hput hstr hsz
          go_wp2_with fail
          refine HPUT.out.mono ?_
          rintro x w8 ⟨rfl, hbl, hb⟩
          rw [HSZ.out] at hbl
          have HB8 := Lib.hid (HBW2.out.trans hb)
          have HSTR8 := Lib.hid (HSTR.out w8 hbl HB8.out.size)
          clear hbl hb HPUT HSTR
          go_wp2_with fail
          refine HSTR8.out.mono ?_
          rintro x w9 ⟨rfl, hbl, hb⟩
          have HB9 := Lib.hid (HB8.out.trans hb)
          have HBL9 := Lib.hid hbl
          clear hbl hb HSTR8
          go_wp2_with fail
          go_roundw
          case rel => exact ⟨k + 1, by omega, by go_num, Lib.hid (by rw [HSN2.out]; exact HBL9.out), HB9⟩
          case measure => simp [intOf]; omega
        · obtain rfl : k = ks.length := by omega
          have hst := Try.Builder_String_any W1.heap.size Y _ wr HBL.out HBW2.out.size
          change Calls Try.prog 66 _ _ _ at hst
          rw [← HP.out] at hst
          have HST := Lib.hid hst
          clear hst
          go_wp2_with fail
          refine HST.out.mono ?_
          rintro x w7 ⟨rfl, hb⟩
          have HB9 := Lib.hid (below_at HBW.out (HBW2.out.trans hb))
          clear hb HST
          go_wp2_with fail
          go_ret
          exact ⟨rfl, HB9.out⟩
end Go.Proofs.Ytgahjibjladafaa
/- Reports: the document's Print. -/
namespace Go.Proofs.Ytgahjibjladafaa
open Go.RowKit
set_option linter.unusedVariables false

theorem conv_one (w : World) (n : Nat) (h : n < 256) : (convert 43 9 (.slice (some ⟨w.heap.size, 0, none⟩) 1 1)).run Try.prog (w.alloc (Obj.cells #[.int .u8 (n : Int)] 5)) = .ok (.string ⟨#[Ky.b8 n]⟩) (w.alloc (Obj.cells #[.int .u8 (n : Int)] 5)) := by
  have hrow : Row (w.alloc (Obj.cells #[.int .u8 (n : Int)] 5)) 5 1 (some ⟨w.heap.size, 0, none⟩) 1 1 (byteVs [Ky.b8 n]) := by
    rw [b8_val h]
    exact ⟨rfl, Nat.le_refl _, by unfold maxLen; omega, fun h => (by cases h), fun a ha => by injection ha with ha; subst ha; exact ⟨rfl, _, heap_alloc_new w _, by simp, rfl⟩⟩
  exact conv_bytes hrow 43 9 Try.underlying43 Try.underlying5 Try.underlying9
theorem ba_app (a b : List UInt8) : (⟨a.toArray⟩ ++ ⟨b.toArray⟩ : ByteArray) = ⟨(a ++ b).toArray⟩ := by
  apply ByteArray.ext
  apply Array.toList_inj.1
  simp [ByteArray.data_append]

set_option maxRecDepth 100000 in
set_option maxHeartbeats 4000000 in
theorem refPrint15_any (w : World) (A : Option Addr) (cap : Nat) (ks : List Ky.K) (c : Bool) (hr : Rd w 1 A ks.length (ks.map sv)) (hl : ks.length ≤ 1000000) (hk : ∀ k ∈ ks, k.length < 100000) :
    Calls Try.prog 46 #[.agg #[.slice A ks.length cap, .bool c]] w fun x w' => x = .returned (.string ⟨(Ky.printK ks c).toArray⟩) ∧ Below w.heap.size w w' := by
  have hright : ∀ u, Below w.heap.size w u → Calls Try.prog 48 #[.agg #[.slice A ks.length cap, .bool c]] u fun x w' => x = .returned (.bool (Ky.rightK ks)) ∧ Below u.heap.size u w' := fun u hu => refRight15_any u A cap ks c (hr.below hu (Nat.le_refl _)) hl hk
  have hyes : Ky.rightK ks = true → Ky.printK ks c = Ky.encUp ks c ks.length ∧ ks.length ≤ 65535 ∧ ∀ k ∈ ks, k.length ≤ 401 := fun h => ⟨by unfold Ky.printK Ky.encUp Ky.enc15; rw [if_pos h, List.take_length], by unfold Ky.rightK at h; simp at h; exact h.2, Ky.right_len h⟩
  have hno : Ky.rightK ks = false → Ky.printK ks c = [] := fun h => Ky.print_ne.2 h
  obtain ⟨rk, hrk⟩ : ∃ rk, rk = Ky.rightK ks := ⟨_, rfl⟩
  rw [← hrk] at hright hyes hno
  generalize Ky.printK ks c = P at hyes hno ⊢
  have HC := Lib.hid (str_cell hr.toB)
  have HRIGHT := Lib.hid hright
  have HYES := Lib.hid hyes
  have HNO := Lib.hid hno
  clear hr hk hright hyes hno hrk
  obtain ⟨W1, X, hW1, hX, hBW, hXl, hXe⟩ := box_rep w 72 A ks.length cap c
  have HXE := Lib.hid hXe
  have HBW := Lib.hid hBW
  clear hXe hBW hXl
  go_enter Try.func46, Try.ntmps46
  go_upto_region 1 with fail
  rw [← hW1, ← hX]
  clear hW1 hX
  obtain ⟨x0, x1, xl⟩ := HXE.out W1 (Below.refl _ _)
  go_wp2_with fail
  refine (HRIGHT.out W1 HBW.out).mono ?_
  rintro x w2 ⟨rfl, b2⟩
  have HB2 := Lib.hid b2
  have HBB2 := Lib.hid (below_at HBW.out b2)
  clear x0 x1 xl b2
  cases rk with
  | false =>
    have HP := Lib.hid (HNO.out rfl)
    clear HYES HNO
    go_wp2_with fail
    go_ret
    exact ⟨by rw [HP.out]; rfl, HBB2.out⟩
  | true =>
    obtain ⟨hP, hk6, hk4⟩ := HYES.out rfl
    have hel := Ky.encUp_len (c := c) hk4
    have hsn := fun (k : Nat) (x : Ky.K) (h : ks[k]? = some x) => Ky.encUp_succ (c := c) h
    have HP := Lib.hid hP
    have HK4 := Lib.hid hk4
    have HEL := Lib.hid hel
    have HSN := Lib.hid hsn
    clear HYES HNO hP hk4 hel hsn HRIGHT
    have hcv0 := conv_one w2 0 (by omega)
    have hcv0' : (convert 43 9 (.slice (some ⟨w2.heap.size, 0, none⟩) 1 1)).run Try.prog (w2.alloc (Obj.cells #[.int .u8 0] 5)) = .ok (.string ⟨#[Ky.b8 0]⟩) (w2.alloc (Obj.cells #[.int .u8 0] 5)) := hcv0
    clear hcv0
    go_upto_region 4 with fail
    obtain ⟨w3, hw3⟩ : ∃ w3, w3 = w2.alloc (Obj.cells #[.int .u8 0] 5) := ⟨_, rfl⟩
    rw [← hw3]
    have hb3 : Below w2.heap.size w2 w3 := by rw [hw3]; exact (Below.refl _ _).alloc (Nat.le_refl _) _
    have HB3 := Lib.hid (below_at HB2.out hb3)
    have HBB3 := Lib.hid (below_at HBB2.out hb3)
    obtain ⟨x0, x1, xl⟩ := HXE.out w3 HB3.out
    have hcv1 : (convert 43 9 (.slice (some ⟨w3.heap.size, 0, none⟩) 1 1)).run Try.prog (w3.alloc (Obj.cells #[.int .u8 1] 5)) = .ok (.string ⟨#[Ky.b8 1]⟩) (w3.alloc (Obj.cells #[.int .u8 1] 5)) := conv_one w3 1 (by omega)
    clear hw3 hb3 hcv0'
    go_upto_if 11 with fail
    go_cut [3] (fun v w4 => v = .string ⟨[(if c = true then 1 else 0 : UInt8)].toArray⟩ ∧ Below W1.heap.size W1 w4)
    case first =>
      cases c with
      | true =>
        go_wp2_with fail
        go_meet
        exact ⟨rfl, HB3.out.alloc HB3.out.size _⟩
      | false =>
        go_wp2_with fail
        go_meet
        exact ⟨rfl, HB3.out⟩
    case rest =>
      obtain ⟨rfl, hb4⟩ := hcut
      clear x0 x1 xl hcv1
      have HB4 := Lib.hid hb4
      have htwo := two_any wc ks.length hk6
      have he0 : (⟨[(if c = true then 1 else 0 : UInt8)].toArray⟩ ++ ⟨(Ky.two ks.length).toArray⟩ : ByteArray) = ⟨(Ky.encUp ks c 0).toArray⟩ := by
        rw [ba_app]; unfold Ky.encUp Ky.body; simp
      have z0 : (⟨[(if c = true then 1 else 0 : UInt8)].toArray⟩ : ByteArray).size = 1 := rfl
      have z1 : (⟨(Ky.two ks.length).toArray⟩ : ByteArray).size = 2 := rfl
      generalize (⟨[(if c = true then 1 else 0 : UInt8)].toArray⟩ : ByteArray) = t0 at *
      generalize (⟨(Ky.two ks.length).toArray⟩ : ByteArray) = t1 at *
      have HTWO := Lib.hid htwo
      have HE0 := Lib.hid he0
      have s0 : ¬ (9223372036854775807 < t0.size + t1.size) := by omega
      have HZ := Lib.hid (And.intro z0 z1)
      obtain ⟨x0, x1, xl⟩ := HXE.out wc hb4
      clear htwo he0 hb4 z0 z1
      go_wp2_with fail
      refine HTWO.out.mono ?_
      rintro x w5 ⟨rfl, b5⟩
      have HB5 := Lib.hid (below_at HB4.out b5)
      clear b5 x0 x1 xl HTWO
      go_wp2_with fail
      go_loopw [3, 4] (fun v3 v wr => ∃ (k : Nat) (E : ByteArray), k ≤ ks.length ∧ v = .int .i64 k ∧ v3 = .string E ∧ Hid (E = ⟨(Ky.encUp ks c k).toArray⟩) ∧ Hid (Below W1.heap.size W1 wr)) (fun _ v _ => ks.length - (intOf v).toNat)
      case atStart => exact ⟨0, t0 ++ t1, Nat.zero_le _, rfl, rfl, HE0, HB5⟩
      case round =>
        obtain ⟨k, E, hk, rfl, rfl, HE, HBW2⟩ := hrel
        have HBB := Lib.hid (below_at HBW.out HBW2.out)
        obtain ⟨x0, x1, xl⟩ := HXE.out wr HBW2.out
        by_cases hlt : k < ks.length
        · obtain ⟨x, hx⟩ := get_some hlt
          obtain ⟨g, o, rfl, hg, hcl⟩ := HC.out k x hx
          have k1 : (0 : Int) ≤ (k : Int) := Int.natCast_nonneg _
          have k2 : (k : Int) < (ks.length : Int) := by omega
          have hsn := HSN.out k x hx
          have hx4 := HK4.out x (List.mem_of_getElem? hx)
          have hel := HEL.out k
          have hes : E.size = (Ky.encUp ks c k).length := by rw [HE.out]; show (Ky.encUp ks c k).toArray.size = _; simp
          have hsz : (⟨x.toArray⟩ : ByteArray).size = x.length := by show x.toArray.size = _; simp
          have htwo : ∀ u, Calls Try.prog 86 #[.int .i64 ((⟨x.toArray⟩ : ByteArray).size : Int)] u fun y w' => y = .returned (.string ⟨(Ky.two x.length).toArray⟩) ∧ Below u.heap.size u w' := fun u => by rw [hsz]; exact two_any u x.length (by omega)
          have z1 : (⟨(Ky.two x.length).toArray⟩ : ByteArray).size = 2 := rfl
          have hnx : E ++ (⟨(Ky.two x.length).toArray⟩ ++ ⟨x.toArray⟩) = ⟨(Ky.encUp ks c (k + 1)).toArray⟩ := by
            rw [HE.out, ba_app, ba_app, hsn, List.append_assoc]
          generalize (⟨(Ky.two x.length).toArray⟩ : ByteArray) = t1 at *
          have hq : ∀ u, Below W1.heap.size W1 u → u.cell? ⟨X, 0, none⟩ = some (.slice (some ⟨g, o, none⟩) ks.length cap) ∧ u.cell? ⟨g, o + k, none⟩ = some (.string ⟨x.toArray⟩) := fun u hu => ⟨(HXE.out u hu).1, hcl u (below_at HBW.out hu)⟩
          generalize (⟨x.toArray⟩ : ByteArray) = bx at *
          have s1 : ¬ (9223372036854775807 < t1.size + bx.size) := by omega
          have s2 : ¬ (9223372036854775807 < E.size + (t1.size + bx.size)) := by omega
          have s3 : ¬ (9223372036854775807 < E.size + (t1 ++ bx).size) := by rw [ByteArray.size_append]; omega
          have HQ := Lib.hid hq
          have HTWO := Lib.hid htwo
          have HNX := Lib.hid hnx
          have hS : Below W1.heap.size W1 wr.drew := HBW2.out.drew
          clear hx hcl hsn hes hsz htwo z1 hnx hq hx4 hel
          go_wp2_with fail
          refine wp_region_plan (by kernel_rfl) (fun u => Below W1.heap.size W1 u) [] [(0, .pure), (1, .pure), (2, .load), (3, .pure), (4, .pure), (5, .load), (6, .pure), (8, .pure), (9, .load), (10, .pure), (11, .pure), (12, .load), (7, .eff), (13, .pure), (14, .pure), (15, .pure)] (by simp only [List.map_cons, List.map_nil, List.getElem?_toArray, List.getElem?_cons_succ, List.getElem?_cons_zero]; rfl) (by kernel_rfl) (fun _ _ d _ _ h => by cases d <;> exact h) (hS) ?_
          repeat (first
            | (refine plan_pure (v := ?_) (by rfl) (fun w1 => ?_) ?_
               rotate_left
               · go_simp <;> with_reducible rfl
               simp only [Act.put, List.setIfInBounds_toArray, List.set_cons_zero, List.set_cons_succ])
            | (refine plan_off (by rfl) ?_
               simp only [Act.put, List.setIfInBounds_toArray, List.set_cons_zero, List.set_cons_succ])
            | (refine plan_load_off (by rfl) ?_
               simp only [Act.put, List.setIfInBounds_toArray, List.set_cons_zero, List.set_cons_succ])
            | (refine plan_load (v := ?_) (by rfl) (fun w1 hw1 => ?_) ?_
               rotate_left
               · (have q := HQ.out w1 hw1
                  obtain ⟨q0, q1⟩ := q
                  clear hw1
                  go_simp <;> with_reducible rfl)
               simp only [Act.put, List.setIfInBounds_toArray, List.set_cons_zero, List.set_cons_succ]))
          refine plan_eff ?_
          go_wp2_with fail
          refine (HTWO.out _).mono ?_
          rintro x w7 ⟨rfl, b7⟩
          have HB7 := Lib.hid (below_at hS b7)
          clear b7 x0 x1 xl
          go_wp2_with fail
          refine plan_on (fun _ h => h) HB7.out ?_
          repeat (first
            | (refine plan_pure (v := ?_) (by rfl) (fun w1 => ?_) ?_
               rotate_left
               · go_simp <;> with_reducible rfl
               simp only [Act.put, List.setIfInBounds_toArray, List.set_cons_zero, List.set_cons_succ])
            | (refine plan_off (by rfl) ?_
               simp only [Act.put, List.setIfInBounds_toArray, List.set_cons_zero, List.set_cons_succ])
            | (refine plan_load_off (by rfl) ?_
               simp only [Act.put, List.setIfInBounds_toArray, List.set_cons_zero, List.set_cons_succ])
            | (refine plan_load (v := ?_) (by rfl) (fun w1 hw1 => ?_) ?_
               rotate_left
               · (skip
                  clear hw1
                  go_simp <;> with_reducible rfl)
               simp only [Act.put, List.setIfInBounds_toArray, List.set_cons_zero, List.set_cons_succ]))
          refine plan_end ?_
          go_wp2_with fail
          go_roundw
          case rel => exact ⟨k + 1, _, by omega, by go_num, rfl, HNX, HB7⟩
          case measure => simp [intOf]; omega
        · obtain rfl : k = ks.length := by omega
          have he := HE.out
          rw [← HP.out] at he
          have HEE := Lib.hid he
          clear he
          go_wp2_with fail
          go_ret
          exact ⟨by rw [← HEE.out]; rfl, HBB.out⟩
end Go.Proofs.Ytgahjibjladafaa
