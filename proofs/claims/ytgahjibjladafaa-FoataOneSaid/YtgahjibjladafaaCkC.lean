/- Clocks: clock.Same. -/
import Derived.Test.YtgahjibjladafaaCkB
import Derived.Test.YtgahjibjladafaaMapE
import Derived.Test.YtgahjibjladafaaFoL
namespace Go.Proofs.Ytgahjibjladafaa
open Go.RowKit
set_option linter.unusedVariables false

theorem Try.infoInt9 : (Try.prog.info? 3).map (fun i => (i.zero, i.size, i.bytes)) = some (some (.int .i64 0), 1, 8) := by kernel_rfl
/-! points as keys, clocks as values -/
def arB (f g : Nat → Nat) : Bool := decide (f 0 = g 0 ∧ f 1 = g 1 ∧ f 2 = g 2 ∧ f 3 = g 3)
def ptV (k : Int × Int) : Value := .agg #[.int .i64 k.1, .int .i64 k.2]
def arV (f : Nat → Nat) : Value := .agg #[.int .i64 (f 0 : Nat), .int .i64 (f 1 : Nat), .int .i64 (f 2 : Nat), .int .i64 (f 3 : Nat)]
set_option maxRecDepth 100000 in
theorem ptEq (w : World) (a b : Int × Int) : (Op.equal 113 (ptV a) (ptV b)).run Try.prog w = .ok (decide (a = b)) w := by
  have u3 := Try.underlying3
  have a3 := Try.isAgg3
  have z3 := Try.sizeOf3
  have hS : Try.prog.underlying 113 = some (.struct (Try.prog.fieldsOf 113)) := by kernel_rfl
  have hp : Try.prog.stoodInHeld 113 = false := by kernel_rfl
  unfold Op.equal ptV
  rw [show Op.maxDepth = 9999 + 1 from rfl, run_equalIn_agg w 9999 113 _ _ hS hp]
  simp only [Program.fieldsOf, Try.underlying113]
  go_simp
  obtain ⟨x, y⟩ := a
  obtain ⟨x', y'⟩ := b
  simp only [Prod.mk.injEq]
  by_cases h1 : x = x' <;> by_cases h2 : y = y' <;> simp [h1, h2]
set_option maxRecDepth 100000 in
theorem ptChk (b : Bool) (a : Int × Int) (w : World) : (Instr.checkKey b 10000 113 (ptV a)).run Try.prog w = .ok () w := by
  have u3 := Try.underlying3
  have a3 := Try.isAgg3
  have z3 := Try.sizeOf3
  unfold ptV
  rw [show (10000 : Nat) = 9998 + 1 + 1 from rfl, Instr.checkKey]
  have s0 : ∀ w, (part 3 #[.int .i64 a.1, .int .i64 a.2] 0).run Try.prog w = .ok (.int .i64 a.1) w := fun w => by go_simp
  have s1 : ∀ w, (part 3 #[.int .i64 a.1, .int .i64 a.2] 1).run Try.prog w = .ok (.int .i64 a.2) w := fun w => by go_simp
  have ck : ∀ w n, (Instr.checkKey b (9998 + 1) 3 (.int .i64 n)).run Try.prog w = .ok () w := fun w n => MapKept.run_checkKey u3 (by simp [MapKept.IsKey]) b 9998
  simp only [Sem.run_bind, run_underlying Try.underlying113, Result.andThen_ok, List.forIn_toArray, List.forIn_cons, List.forIn_nil]
  simp [s0, s1, ck, Result.andThen]
def Try.keyP : KeyK Try.prog 113 (Int × Int) :=
  keyAsk ptV (fun {a b} h => by obtain ⟨x, y⟩ := a; obtain ⟨x', y'⟩ := b; simpa [ptV] using h) (by kernel_rfl) ptEq (fun a => by rw [show (10000 : Nat) = 9998 + 1 + 1 from rfl]; simp [ptV, Instr.sameBits]) ptChk
set_option maxRecDepth 100000 in
theorem arEq (f g : Nat → Nat) (w : World) : (Op.equalIn 10000 111 (arV f) (arV g)).run Try.prog w = .ok (arB f g) w := by
  have u3 := Try.underlying3
  have a3 := Try.isAgg3
  have z3 := Try.sizeOf3
  unfold arV
  obtain ⟨i, hi, _⟩ := info_parts Try.infoInt9
  rw [show (10000 : Nat) = 9999 + 1 from rfl, run_equalIn_array w 9999 _ _ Try.underlying111 hi]
  rw [show Try.prog.cellsOf 3 = 1 by kernel_rfl]
  simp only [show List.range 4 = [0, 1, 2, 3] from rfl, Op.eqItems]
  go_simp
  unfold arB
  by_cases h0 : f 0 = g 0 <;> by_cases h1 : f 1 = g 1 <;> by_cases h2 : f 2 = g 2 <;> by_cases h3 : f 3 = g 3 <;> simp [h0, h1, h2, h3] <;> omega
end Go.Proofs.Ytgahjibjladafaa
