/- Witnesses: rows, beginnings, ends. -/
import Derived.Test.YtcaapoacmfjnmaaGreatStP
import Derived.Test.YtcaapoacmfjnmaaGreatFr
namespace Go.Proofs.YtcaapoacmfjnmaaGreat
open Go.RowKit
set_option linter.unusedVariables false

namespace Pr
/-- the row of threads that a key tells -/
def rowW (k : List UInt8) : Except Int (List Int) :=
  match Fo.readL k with
  | some L => .ok (L.flatten.map Ev.t)
  | none => .error 3
def beginsW (p : Pg) (f : Int) (row : List Int) : Except Int (List UInt8) :=
  match replay p f row with
  | .ok (_, l) => .ok (Fo.key l)
  | .error e => .error e
def endsW (p : Pg) (f : Int) (row : List Int) : Bool :=
  match replay p f row with
  | .ok (s, _) => (all s).isEmpty
  | .error _ => false
def may (p : Pg) (f : Int) : Prop := Ok p ∧ 0 ≤ f ∧ f ≤ 8
instance (p : Pg) (f : Int) : Decidable (may p f) := by unfold may; infer_instance
/-- the witness of a key -/
def ofW (p : Pg) (f : Int) (k : List UInt8) : Except Int (List Int) :=
  if may p f then
    match rowW k with
    | .error e => .error e
    | .ok row =>
      match beginsW p f row with
      | .error _ => .error 6
      | .ok k' => if k' = k ∧ endsW p f row = true then .ok row else .error 6
  else .error 1
def isW (p : Pg) (f : Int) (k : List UInt8) : Bool :=
  match ofW p f k with
  | .ok _ => true
  | .error _ => false
theorem encP_all : ∀ L : List (List Ev), (Fo.encP L).length = L.length + L.flatten.length := by
  intro L
  unfold Fo.encP
  induction L with
  | nil => rfl
  | cons q L ih =>
    rw [List.flatMap_cons, List.length_append, ih]
    simp [Fo.bytes]
    omega
theorem readL_small {s : List UInt8} {L : List (List Ev)} (h : Fo.readL s = some L) : L.length ≤ s.length ∧ L.flatten.length ≤ s.length := by
  rw [Fo.readL_eq] at h
  cases hp : Fo.parseS s with
  | none => rw [hp] at h; cases h
  | some M =>
    rw [hp] at h
    simp only [Option.bind_some] at h
    split at h
    · rename_i hc
      injection h with h
      subst h
      have h1 := printL_len hc.2 hc.1
      have h2 := encP_all M
      omega
    · cases h
end Pr
theorem Pr.run_err {e : Int} : ∀ (a : List Int) (s : St), Pr.run s a = .error e → e ≠ 0
  | [], s, h => by simp [Pr.run] at h
  | x :: a, s, h => by
    simp only [Pr.run] at h
    by_cases h1 : Pr.stepE s x = 0
    · rw [if_pos h1] at h
      cases hr : Pr.run (Pr.stepS s x.toNat) a with
      | error e' =>
        rw [hr] at h
        injection h with h
        subst h
        exact Pr.run_err a _ hr
      | ok p => rw [hr] at h; cases h
    · rw [if_neg h1] at h
      injection h with h
      subst h
      exact h1
theorem Pr.replay_err {p : Pg} {f : Int} {row : List Int} {e : Int} (h : Pr.replay p f row = .error e) : e ≠ 0 := by
  unfold Pr.replay at h
  split at h
  · exact Pr.run_err _ _ h
  · injection h with h; subst h; decide
theorem Pr.replay_wf {p : Pg} {f : Int} {row : List Int} {s : St} {l : List Ev} (h : Pr.replay p f row = .ok (s, l)) : Pr.Wf s ∧ s.p = p ∧ l.length = row.length := by
  unfold Pr.replay at h
  split at h
  · rename_i hok
    obtain ⟨h1, h2, _, h4⟩ := Pr.run_wf _ (Pr.start_wf hok.1 (by omega)) h
    exact ⟨h1, h2, h4⟩
  · cases h
/-- what is given with an error -/
def RowOutW (w : World) (r : Except Int (List Int)) (x : Ending) (w' : World) : Prop :=
  match r with
  | .ok l => ∃ A cap, x = .returned (.tuple #[.slice A l.length cap, .int .i64 0]) ∧ Rd w' 1 A l.length (l.map iv) ∧ l.length ≤ cap ∧ cap ≤ maxLen ∧ Below w.heap.size w w'
  | .error e => x = .returned (.tuple #[.slice none 0 0, .int .i64 e]) ∧ Below w.heap.size w w'
set_option maxRecDepth 100000 in
theorem rowW_any (w : World) (k : List UInt8) (hk : k.length < 100000) :
    Calls Tryz.prog 15 #[.string ⟨k.toArray⟩] w fun x w' => RowOutW w (Pr.rowW k) x w' := by
  have hread := fread_any w ⟨k.toArray⟩ (by show k.toArray.size < _; simpa using hk)
  have hdat : (⟨k.toArray⟩ : ByteArray).data.toList = k := by simp
  rw [hdat] at hread
  obtain ⟨res, hres⟩ : ∃ res, res = Pr.rowW k := ⟨_, rfl⟩
  rw [← hres]
  have HREAD := Lib.hid hread
  have HRES := Lib.hid hres
  have HK := Lib.hid hk
  generalize (⟨k.toArray⟩ : ByteArray) = kb at *
  clear hread hres hk hdat
  go_enter Tryz.func15, Tryz.ntmps15
  go_wp2_with fail
  refine HREAD.out.mono ?_
  rintro y w1 (⟨A, cap, L, hL, rfl, hlv, b1⟩ | ⟨hL, rfl, b1⟩)
  · obtain ⟨hl1, hl2⟩ := Pr.readL_small hL
    have hrow := frow_any w1 A cap L hlv (by have := HK.out; omega) (by have := HK.out; omega)
    have hres2 : res = .ok (L.flatten.map Ev.t) := by rw [HRES.out]; unfold Pr.rowW; rw [hL]
    obtain ⟨l, hl⟩ : ∃ l, l = L.flatten := ⟨_, rfl⟩
    rw [← hl] at hrow hl2 hres2
    have HROW := Lib.hid hrow
    have HB1 := Lib.hid b1
    have HR2 := Lib.hid hres2
    have HL := Lib.hid (show l.length ≤ 1000000 by have := HK.out; omega)
    clear hrow b1 hres2 hl hlv hL hl1 hl2 HREAD
    go_wp2_with fail
    refine HROW.out.mono ?_
    rintro y w2 ⟨A2, c2, rfl, ⟨hr2, _, _⟩, b2⟩
    have hthr := evThreads_any w2 A2 c2 l hr2 HL.out
    have HTHR := Lib.hid hthr
    have HB2 := Lib.hid (below_at HB1.out b2)
    clear hthr b2 hr2
    go_wp2_with fail
    refine HTHR.out.mono ?_
    rintro y w3 ⟨A3, c3, rfl, ⟨hr3, _⟩, b3⟩
    have HB3 := Lib.hid (below_at HB2.out b3)
    have HR3 := Lib.hid hr3
    clear hr3 b3 HTHR
    go_wp2_with fail
    refine bodyPost_ret (v := .tuple #[.slice A3 (l.map Ev.t).length c3, .int .i64 0]) (by simp [results, Tryz.results15, go_sem]) rfl ?_
    rw [HR2.out]
    exact ⟨A3, c3, rfl, HR3.out.rd, HR3.out.2.1, HR3.out.2.2.1, HB3.out⟩
  · have hres2 : res = .error 3 := by rw [HRES.out]; unfold Pr.rowW; rw [hL]
    have HR2 := Lib.hid hres2
    have HB1 := Lib.hid b1
    clear hres2 hL b1 HREAD
    go_wp2_with fail
    refine bodyPost_ret (v := .tuple #[.slice none 0 0, .int .i64 3]) (by simp [results, Tryz.results15, go_sem]) rfl ?_
    rw [HR2.out]
    exact ⟨rfl, HB1.out⟩
/-- a program that was handed in -/
def PgIn (w : World) (p : Pg) (A : Option Addr) : Prop := CdAt w (fun k => k < w.heap.size) A p.code ∧ p.code.length ≤ maxLen ∧ ∀ q ∈ p.code, q.length ≤ maxLen
theorem PgIn.below {w w' : World} {p : Pg} {A : Option Addr} (h : PgIn w p A) (hb : Below w.heap.size w w') : PgIn w' p A := ⟨(h.1.below hb).imp (fun k hk => by have := hb.size; omega), h.2⟩
def KeyOutW (w : World) (r : Except Int (List UInt8)) (x : Ending) (w' : World) : Prop :=
  match r with
  | .ok k => x = .returned (.tuple #[.string ⟨k.toArray⟩, .int .i64 0]) ∧ Below w.heap.size w w'
  | .error e => x = .returned (.tuple #[.string ⟨#[]⟩, .int .i64 e]) ∧ Below w.heap.size w w'
set_option maxRecDepth 100000 in
theorem beginsW_any (w : World) (p : Pg) (A : Option Addr) (cap : Nat) (f : Int) (B : Option Addr) (cap' : Nat) (row : List Int) (hp : PgIn w p A) (hr : Rd w 1 B row.length (row.map iv)) (hrl : row.length ≤ 1000000) :
    Calls Tryz.prog 17 #[valP p A cap, .int .i64 f, .slice B row.length cap'] w fun x w' => KeyOutW w (Pr.beginsW p f row) x w' := by
  obtain ⟨Wa, X, hWa, hX, hBa, hXl, hXe⟩ := pg_box w p.vars p.mtx A p.code.length cap
  obtain ⟨x0, x1, x2, xl⟩ := hXe Wa (Below.refl _ _)
  have hpa := hp.below hBa
  have hcall := replay_any Wa p A cap f B cap' row hpa.1 hpa.2.1 hpa.2.2 (hr.below hBa (Nat.le_refl _)) hrl
  obtain ⟨res, hres⟩ : ∃ res, res = Pr.beginsW p f row := ⟨_, rfl⟩
  have hlen : ∀ s l, Pr.replay p f row = .ok (s, l) → l.length = row.length := fun s l h => (Pr.replay_wf h).2.2
  have hne : ∀ e, Pr.replay p f row = .error e → e ≠ 0 := fun e h => Pr.replay_err h
  rw [← hres]
  unfold Pr.beginsW at hres
  obtain ⟨r, hrr⟩ : ∃ r, r = Pr.replay p f row := ⟨_, rfl⟩
  rw [← hrr] at hcall hres hlen hne
  unfold valP at hcall ⊢
  have HCALL := Lib.hid hcall
  have HRES := Lib.hid hres
  have HB := Lib.hid hBa
  have HLEN := Lib.hid hlen
  have HNE := Lib.hid hne
  have HRL := Lib.hid hrl
  clear hcall hres hBa hXe hp hpa hr hrl hrr hlen hne
  go_enter Tryz.func17, Tryz.ntmps17
  go_upto_region 1 with fail
  rw [← hWa, ← hX]
  clear hWa hX
  go_wp2_with fail
  refine HCALL.out.mono ?_
  intro y w1 hy
  cases r with
  | error e =>
    obtain ⟨rfl, b1⟩ := hy
    have HB1 := Lib.hid (below_at HB.out b1)
    clear b1
    have hres : res = .error e := HRES.out
    have HR := Lib.hid hres
    clear hres HRES HCALL
    have hne := HNE.out e rfl
    have e1 : (e == 0) = false := by simpa using hne
    have e2 : (e != 0) = true := by simpa using hne
    clear hne
    go_wp2_with fail
    refine bodyPost_ret (v := .tuple #[.string ⟨#[]⟩, .int .i64 e]) (by simp [results, Tryz.results17, go_sem]) rfl ?_
    rw [HR.out]
    exact ⟨rfl, HB1.out⟩
  | ok sl =>
    obtain ⟨s, l⟩ := sl
    obtain ⟨S, T, C, A2, c2, rfl, hsat, _, _, _, hr2, _, _, b1⟩ := hy
    have hkey := fkey_any w1 A2 c2 l hr2 (by have := HLEN.out s l rfl; have := HRL.out; omega)
    have HKEY := Lib.hid hkey
    have HB1 := Lib.hid (below_at HB.out b1)
    have hres : res = .ok (Fo.key l) := HRES.out
    have HR := Lib.hid hres
    obtain ⟨kb, hkb⟩ : ∃ kb : ByteArray, kb = ⟨(Fo.key l).toArray⟩ := ⟨_, rfl⟩
    rw [← hkb] at HKEY
    have HKB := Lib.hid hkb
    clear hres HRES HCALL hkey b1 hr2 hsat hkb
    go_wp2_with fail
    refine HKEY.out.mono ?_
    rintro y w2 ⟨rfl, b2⟩
    have HB2 := Lib.hid (below_at HB1.out b2)
    clear b2
    go_wp2_with fail
    refine bodyPost_ret (v := .tuple #[.string kb, .int .i64 0]) (by simp [results, Tryz.results17, go_sem]) rfl ?_
    rw [HR.out]
    exact ⟨by rw [HKB.out], HB2.out⟩

set_option maxRecDepth 100000 in
theorem endsW_any (w : World) (p : Pg) (A : Option Addr) (cap : Nat) (f : Int) (B : Option Addr) (cap' : Nat) (row : List Int) (hp : PgIn w p A) (hr : Rd w 1 B row.length (row.map iv)) (hrl : row.length ≤ 1000000) :
    Calls Tryz.prog 23 #[valP p A cap, .int .i64 f, .slice B row.length cap'] w fun x w' => x = .returned (.bool (Pr.endsW p f row)) ∧ Below w.heap.size w w' := by
  obtain ⟨Wa, X, hWa, hX, hBa, hXl, hXe⟩ := pg_box w p.vars p.mtx A p.code.length cap
  obtain ⟨x0, x1, x2, xl⟩ := hXe Wa (Below.refl _ _)
  have hpa := hp.below hBa
  have hcall := replay_any Wa p A cap f B cap' row hpa.1 hpa.2.1 hpa.2.2 (hr.below hBa (Nat.le_refl _)) hrl
  obtain ⟨res, hres⟩ : ∃ res, res = Pr.endsW p f row := ⟨_, rfl⟩
  have hwf : ∀ s l, Pr.replay p f row = .ok (s, l) → Pr.Wf s := fun s l h => (Pr.replay_wf h).1
  have hne : ∀ e, Pr.replay p f row = .error e → e ≠ 0 := fun e h => Pr.replay_err h
  rw [← hres]
  unfold Pr.endsW at hres
  obtain ⟨r, hrr⟩ : ∃ r, r = Pr.replay p f row := ⟨_, rfl⟩
  rw [← hrr] at hcall hres hwf hne
  unfold valP at hcall ⊢
  have HCALL := Lib.hid hcall
  have HRES := Lib.hid hres
  have HB := Lib.hid hBa
  have HWF := Lib.hid hwf
  have HNE := Lib.hid hne
  clear hcall hres hBa hXe hp hpa hr hrl hrr hwf hne
  go_enter Tryz.func23, Tryz.ntmps23
  go_upto_region 1 with fail
  rw [← hWa, ← hX]
  clear hWa hX
  go_wp2_with fail
  refine HCALL.out.mono ?_
  intro y w1 hy
  cases r with
  | error e =>
    obtain ⟨rfl, b1⟩ := hy
    have HB1 := Lib.hid (below_at HB.out b1)
    clear b1
    have hres : res = false := HRES.out
    subst hres
    have hne := HNE.out e rfl
    have e1 : (e == 0) = false := by simpa using hne
    have e2 : (e != 0) = true := by simpa using hne
    clear hne HRES HCALL
    go_wp2_with fail
    go_ret
    exact ⟨rfl, HB1.out⟩
  | ok sl =>
    obtain ⟨s, l⟩ := sl
    obtain ⟨S, T, C, A2, c2, rfl, hsat, _, _, _, hr2, _, _, b1⟩ := hy
    have hall := all_any w1 C S T s hsat (HWF.out s l rfl)
    have hres : res = (Pr.all s).isEmpty := HRES.out
    have hlen : ((Pr.all s).map (fun (t : Nat) => (t : Int))).length = (Pr.all s).length := by simp
    rw [hlen] at hall
    have hn0 : (Pr.all s).length < 9223372036854775808 := by
      have := (HWF.out s l rfl).n4
      have h2 : (Pr.all s).length ≤ s.th.length := by unfold Pr.all; exact Nat.le_trans (List.length_filter_le _ _) (by simp)
      omega
    have HALL := Lib.hid hall
    have HB1 := Lib.hid (below_at HB.out b1)
    obtain ⟨n, hn⟩ : ∃ n, n = (Pr.all s).length := ⟨_, rfl⟩
    rw [← hn] at HALL hn0
    have hemp : res = decide (n = 0) := by rw [hres, hn]; cases Pr.all s <;> simp
    have HE := Lib.hid hemp
    clear hall hres hlen hn hemp b1 hsat hr2 HRES HCALL
    by_cases h0 : n = 0
    · subst h0
      go_wp2_with fail
      refine HALL.out.mono ?_
      rintro y w2 ⟨A3, c3, rfl, _, b2⟩
      have HB2 := Lib.hid (below_at HB1.out b2)
      clear b2
      go_wp2_with fail
      go_ret
      exact ⟨by rw [HE.out]; rfl, HB2.out⟩
    · have e1 : ((n : Int) == 0) = false := by simpa using h0
      go_wp2_with fail
      refine HALL.out.mono ?_
      rintro y w2 ⟨A3, c3, rfl, _, b2⟩
      have HB2 := Lib.hid (below_at HB1.out b2)
      clear b2
      go_wp2_with fail
      go_ret
      exact ⟨by rw [HE.out, decide_eq_false h0]; rfl, HB2.out⟩
theorem Pr.rowW_err {k : List UInt8} {e : Int} (h : Pr.rowW k = .error e) : e = 3 := by
  unfold Pr.rowW at h
  split at h
  · cases h
  · injection h with h; exact h.symm
theorem Pr.rowW_small {k : List UInt8} {l : List Int} (h : Pr.rowW k = .ok l) : l.length ≤ k.length := by
  unfold Pr.rowW at h
  split at h
  · rename_i L hL
    injection h with h
    subst h
    rw [List.length_map]
    exact (Pr.readL_small hL).2
  · cases h
theorem Pr.beginsW_err {p : Pg} {f : Int} {row : List Int} {e : Int} (h : Pr.beginsW p f row = .error e) : e ≠ 0 := by
  unfold Pr.beginsW at h
  split at h
  · cases h
  · rename_i e' he; injection h with h; subst h; exact Pr.replay_err he
set_option maxRecDepth 100000 in
set_option maxHeartbeats 2000000 in
theorem ofW_any (w : World) (p : Pg) (A : Option Addr) (cap : Nat) (f : Int) (k : List UInt8) (hp : PgIn w p A) (hk : k.length < 100000) :
    Calls Tryz.prog 19 #[valP p A cap, .int .i64 f, .string ⟨k.toArray⟩] w fun x w' => RowOutW w (Pr.ofW p f k) x w' := by
  obtain ⟨Wa, X, hWa, hX, hBa, hXl, hXe⟩ := pg_box w p.vars p.mtx A p.code.length cap
  have hpa := hp.below hBa
  have hrow : ∀ u, Calls Tryz.prog 15 #[.string ⟨k.toArray⟩] u fun x w' => RowOutW u (Pr.rowW k) x w' := fun u => rowW_any u k hk
  have hbeg : ∀ (u : World) (B : Option Addr) (cap' : Nat) (row : List Int), Below Wa.heap.size Wa u → Rd u 1 B row.length (row.map iv) → row.length ≤ 1000000 → _ := fun u B cap' row hu hr hl => beginsW_any u p A cap f B cap' row (hpa.below hu) hr hl
  have hend : ∀ (u : World) (B : Option Addr) (cap' : Nat) (row : List Int), Below Wa.heap.size Wa u → Rd u 1 B row.length (row.map iv) → row.length ≤ 1000000 → _ := fun u B cap' row hu hr hl => endsW_any u p A cap f B cap' row (hpa.below hu) hr hl
  obtain ⟨kb, hkb⟩ : ∃ kb : ByteArray, kb = ⟨k.toArray⟩ := ⟨_, rfl⟩
  rw [← hkb] at hrow ⊢
  have HXE := Lib.hid hXe
  have HB := Lib.hid hBa
  have HROW := Lib.hid hrow
  have HBEG := Lib.hid hbeg
  have HEND := Lib.hid hend
  have HKB := Lib.hid hkb
  have HK := Lib.hid hk
  have hkey : ∀ k' : List UInt8, ((⟨k'.toArray⟩ : ByteArray) = kb) ↔ k' = k := fun k' => ⟨fun e => by rw [hkb] at e; injection e with e; simpa using congrArg Array.toList e, fun e => by rw [e, hkb]⟩
  have HKEY := Lib.hid hkey
  by_cases hm : Pr.may p f
  · obtain ⟨m, rfl⟩ : ∃ m : Nat, f = m := ⟨f.toNat, by have := hm.2.1; omega⟩
    have hnew := new_ok Wa p A cap m hpa.1 hm.1 (by have := hm.2.2; omega)
    obtain ⟨res, hres⟩ : ∃ res, res = Pr.ofW p m k := ⟨_, rfl⟩
    rw [← hres]
    unfold Pr.ofW at hres
    rw [if_pos hm] at hres
    have HRES := Lib.hid hres
    unfold valP at HBEG HEND hnew ⊢
    have HNEW := Lib.hid hnew
    obtain ⟨x0, x1, x2, xl⟩ := hXe Wa (Below.refl _ _)
    clear hXe hpa hrow hbeg hend hkb hk hkey hm hnew hres hBa hp
    go_enter Tryz.func19, Tryz.ntmps19
    go_upto_region 1 with fail
    rw [← hWa, ← hX]
    clear hWa hX
    go_wp2_with fail
    refine HNEW.out.mono ?_
    rintro y w1 ⟨S, T, C, rfl, _, _, _, _, b1⟩
    have HB1 := Lib.hid b1
    clear b1 x0 x1 x2 xl HNEW
    go_wp2_with fail
    refine (HROW.out w1).mono ?_
    intro y w2 hy
    cases hrw : Pr.rowW k with
    | error e =>
      rw [hrw] at hy
      obtain ⟨rfl, b2⟩ := hy
      have HB2 := Lib.hid (below_at HB.out (below_at HB1.out b2))
      have hres := HRES.out
      rw [hrw] at hres
      have HR := Lib.hid hres
      obtain rfl := Pr.rowW_err hrw
      clear b2 hres hrw HRES
      go_wp2_with fail
      refine bodyPost_ret (v := .tuple #[.slice none 0 0, .int .i64 3]) (by simp [results, Tryz.results19, go_sem]) rfl ?_
      rw [HR.out]
      exact ⟨rfl, HB2.out⟩
    | ok row =>
      rw [hrw] at hy
      obtain ⟨A2, c2, rfl, hr2, hc2, hm2, b2⟩ := hy
      have hsm := Pr.rowW_small hrw
      have HB2 := Lib.hid (below_at HB1.out b2)
      have hres := HRES.out
      rw [hrw] at hres
      simp only at hres
      have HR := Lib.hid hres
      have HR2 := Lib.hid (And.intro hr2 (And.intro hc2 hm2))
      have HL := Lib.hid (show row.length ≤ 1000000 by have := HK.out; omega)
      obtain ⟨x0, x1, x2, xl⟩ := HXE.out w2 HB2.out
      clear b2 hres hrw HRES hr2 hc2 hm2 hsm
      have hbeg := HBEG.out w2 A2 c2 row HB2.out HR2.out.1 HL.out
      have HBG := Lib.hid hbeg
      clear hbeg HBEG
      go_wp2_with fail
      refine HBG.out.mono ?_
      intro y w3 hy
      cases hbw : Pr.beginsW p m row with
      | error e =>
        rw [hbw] at hy
        obtain ⟨rfl, b3⟩ := hy
        have HB3 := Lib.hid (below_at HB.out (below_at HB2.out b3))
        have hres := HR.out
        rw [hbw] at hres
        have HR := Lib.hid hres
        have hne := Pr.beginsW_err hbw
        have e1 : (e == 0) = false := by simpa using hne
        have e2 : (e != 0) = true := by simpa using hne
        clear b3 hres hbw hne x0 x1 x2 xl
        go_wp2_with fail
        refine bodyPost_ret (v := .tuple #[.slice none 0 0, .int .i64 6]) (by simp [results, Tryz.results19, go_sem]) rfl ?_
        rw [HR.out]
        exact ⟨rfl, HB3.out⟩
      | ok k' =>
        rw [hbw] at hy
        obtain ⟨rfl, b3⟩ := hy
        have HB3 := Lib.hid (below_at HB2.out b3)
        have HR3 := Lib.hid (And.intro (HR2.out.1.below b3 (Nat.le_refl _)) HR2.out.2)
        have hres := HR.out
        rw [hbw] at hres
        simp only at hres
        have HR := Lib.hid hres
        clear b3 hres hbw x0 x1 x2 xl HBG
        obtain ⟨x0, x1, x2, xl⟩ := HXE.out w3 HB3.out
        have hend := HEND.out w3 A2 c2 row HB3.out HR3.out.1 HL.out
        obtain ⟨be, hbe⟩ : ∃ b, b = Pr.endsW p m row := ⟨_, rfl⟩
        rw [← hbe] at hend HR
        have HE := Lib.hid hend
        by_cases hkk : k' = k
        · have hb : (⟨k'.toArray⟩ : ByteArray) = kb := (HKEY.out k').2 hkk
          have HKK := Lib.hid hkk
          rw [hb]
          clear hend hbe hkk hb HEND
          have e1 : (kb == kb) = true := by rw [ba_beq]; simp
          go_wp2_with fail
          refine HE.out.mono ?_
          rintro y w4 ⟨rfl, b4⟩
          have HB4 := Lib.hid (below_at HB.out (below_at HB3.out b4))
          have HR4 := Lib.hid (And.intro (HR3.out.1.below b4 (Nat.le_refl _)) HR3.out.2)
          clear b4 x0 x1 x2 xl
          cases be with
          | true =>
            go_wp2_with fail
            refine bodyPost_ret (v := .tuple #[.slice A2 row.length c2, .int .i64 0]) (by simp [results, Tryz.results19, go_sem]) rfl ?_
            have hr := HR.out
            rw [if_pos ⟨HKK.out, by trivial⟩] at hr
            rw [hr]
            exact ⟨A2, c2, rfl, HR4.out.1, HR4.out.2.1, HR4.out.2.2, HB4.out⟩
          | false =>
            go_wp2_with fail
            refine bodyPost_ret (v := .tuple #[.slice none 0 0, .int .i64 6]) (by simp [results, Tryz.results19, go_sem]) rfl ?_
            have hr := HR.out
            rw [if_neg (fun h => by simpa using h.2)] at hr
            rw [hr]
            exact ⟨rfl, HB4.out⟩
        · have hb : ¬ (⟨k'.toArray⟩ : ByteArray) = kb := fun e => hkk ((HKEY.out k').1 e)
          have HKK := Lib.hid hkk
          generalize (⟨k'.toArray⟩ : ByteArray) = kb' at *
          have e1 : (kb' == kb) = false := by rw [ba_beq, decide_eq_false hb]
          have e2 : (kb' != kb) = true := by unfold bne; rw [e1]; rfl
          have e3 : (kb'.toList == kb.toList) = false := by rw [ba_tl, decide_eq_false hb]
          have HB4 := Lib.hid (below_at HB.out HB3.out)
          clear hend hbe hkk hb HEND HE
          go_wp2_with fail
          refine bodyPost_ret (v := .tuple #[.slice none 0 0, .int .i64 6]) (by simp [results, Tryz.results19, go_sem]) rfl ?_
          have hr := HR.out
          rw [if_neg (fun h => HKK.out h.1)] at hr
          rw [hr]
          exact ⟨rfl, HB4.out⟩
  · have hres : Pr.ofW p f k = .error 1 := by unfold Pr.ofW; rw [if_neg hm]
    have hnew := new_bad Wa p A cap f hpa.1 hpa.2.1 hpa.2.2 hm
    rw [hres]
    unfold valP at hnew ⊢
    have HNEW := Lib.hid hnew
    obtain ⟨x0, x1, x2, xl⟩ := hXe Wa (Below.refl _ _)
    clear hXe hpa hrow hbeg hend hkb hk hkey hm hnew hres hBa hp HBEG HEND
    go_enter Tryz.func19, Tryz.ntmps19
    go_upto_region 1 with fail
    rw [← hWa, ← hX]
    clear hWa hX
    go_wp2_with fail
    refine HNEW.out.mono ?_
    rintro y w1 ⟨rfl, b1⟩
    have HB1 := Lib.hid (below_at HB.out b1)
    clear b1
    go_wp2_with fail
    refine bodyPost_ret (v := .tuple #[.slice none 0 0, .int .i64 1]) (by simp [results, Tryz.results19, go_sem]) rfl ?_
    exact ⟨rfl, HB1.out⟩
theorem Pr.ofW_err {p : Pg} {f : Int} {k : List UInt8} {e : Int} (h : Pr.ofW p f k = .error e) : e ≠ 0 := by
  unfold Pr.ofW at h
  split at h
  · split at h
    · rename_i e' he
      injection h with h
      rw [← h, Pr.rowW_err he]; decide
    · split at h
      · injection h with h; rw [← h]; decide
      · split at h
        · cases h
        · injection h with h; rw [← h]; decide
  · injection h with h; rw [← h]; decide
set_option maxRecDepth 100000 in
theorem isW_any (w : World) (p : Pg) (A : Option Addr) (cap : Nat) (f : Int) (k : List UInt8) (hp : PgIn w p A) (hk : k.length < 100000) :
    Calls Tryz.prog 22 #[valP p A cap, .int .i64 f, .string ⟨k.toArray⟩] w fun x w' => x = .returned (.bool (Pr.isW p f k)) ∧ Below w.heap.size w w' := by
  obtain ⟨Wa, X, hWa, hX, hBa, hXl, hXe⟩ := pg_box w p.vars p.mtx A p.code.length cap
  obtain ⟨x0, x1, x2, xl⟩ := hXe Wa (Below.refl _ _)
  have hcall := ofW_any Wa p A cap f k (hp.below hBa) hk
  obtain ⟨res, hres⟩ : ∃ res, res = Pr.isW p f k := ⟨_, rfl⟩
  rw [← hres]
  have hne : ∀ e, Pr.ofW p f k = .error e → e ≠ 0 := fun e h => Pr.ofW_err h
  unfold Pr.isW at hres
  obtain ⟨r, hrr⟩ : ∃ r, r = Pr.ofW p f k := ⟨_, rfl⟩
  rw [← hrr] at hcall hres hne
  generalize (⟨k.toArray⟩ : ByteArray) = kb at *
  unfold valP at hcall ⊢
  have HCALL := Lib.hid hcall
  have HRES := Lib.hid hres
  have HNE := Lib.hid hne
  have HB := Lib.hid hBa
  clear hcall hres hne hBa hXe hp hk hrr
  go_enter Tryz.func22, Tryz.ntmps22
  go_upto_region 1 with fail
  rw [← hWa, ← hX]
  clear hWa hX
  go_wp2_with fail
  refine HCALL.out.mono ?_
  intro y w1 hy
  cases r with
  | error e =>
    obtain ⟨rfl, b1⟩ := hy
    have HB1 := Lib.hid (below_at HB.out b1)
    have hres : res = false := HRES.out
    subst hres
    have hne := HNE.out e rfl
    have e1 : (e == 0) = false := by simpa using hne
    clear b1 hne HRES HCALL
    go_wp2_with fail
    go_ret
    exact ⟨rfl, HB1.out⟩
  | ok l =>
    obtain ⟨A2, c2, rfl, _, _, _, b1⟩ := hy
    have HB1 := Lib.hid (below_at HB.out b1)
    have hres : res = true := HRES.out
    subst hres
    clear b1 HRES HCALL
    go_wp2_with fail
    go_ret
    exact ⟨rfl, HB1.out⟩
end Go.Proofs.YtcaapoacmfjnmaaGreat
