/-
  No cell of these rows narrows 'for every input' (looked for: loops, veiled, ifaces, maps, wideKeys, modest, calm, conditions, laid).
  DERIVED. THE GIVEN ROWS OF THIS SEAT. 10 by the template 'for every input the law returns true; each argument reads behind the call as it read before'; 0 by the template 'total and deterministic' (their statements: YtcaapoacmfjnmaaGreatTotals.lean).
  GIVEN WITH THE SEED: the statements are not yours to turn. If you find one false, say at which input.
  Laid BY PROGRAM, IN A SANDBOX (cutbox-rows.mjs): the forced cells as the released guide's own fill.sh prints them over the translation 24fd4790c0141a69… (all of the seat's roots in one cut). By AI agents, Wed Nov 11 2026. No macro, syntax, notation, axiom, sorry.
-/
import Derived.Test.YtcaapoacmfjnmaaGreatChecked
import GoSem.Claim
import GoSem.ClaimJoined
import GoSem.ClaimMapViews
import Derived.JoinedTies
import Derived.KernelRfl
namespace Go.Proofs.YtcaapoacmfjnmaaGreat
/- THE CELL 'sum', in the pinned program and in every row, IS THE sha256 OF THE DUMP (.gsa) THAT YtcaapoacmfjnmaaGreatProg.lean LOADS. Nothing in Lean hashes anything: it is a label: what it is worth is what the hold of that sum in a sandbox is worth. -/
noncomputable def Tryz.pinned : Pinned := { name := "ytcaapoacmfjnmaagreat", sum := "24fd4790c0141a695b111e49551e2309b22677253a8ee1e05238ca3760f2f130", checked := Tryz.checked }
namespace Rows
def none {H : Type} : Left H := { results := [], args := [] }

/-- 'sinnetlaw18.WitnessTells': WHATEVER THE INPUT: true; the input reads as it did. -/
def witnessTellsSpec : ChangeSpec := { name := "witnessTells", fn := fun _ => fun
  | [d1, d2, d3, d4] => { results := [.lit (.bool true)], args := [d1, d2, d3, d4] }
  | _ => none }
def witnessTellsRow : OpenClaim := { program := "ytcaapoacmfjnmaagreat", sum := "24fd4790c0141a695b111e49551e2309b22677253a8ee1e05238ca3760f2f130", func := "sinnet/sinnetlaw18.WitnessTells", spec := "witnessTells", inPlace := ["internal/abi.NoEscape"], unfollowed := true, recurses := true, apart := false }
def WitnessTellsSaid : Prop := witnessTellsRow.holds Tryz.pinned (OpenSpec.ofChange witnessTellsSpec)

/-- ITS FALSE NEIGHBOUR: 'it returns false'. Refute it at one input. -/
def witnessTellsWrong : ChangeSpec := { name := "witnessTells", fn := fun _ => fun
  | [d1, d2, d3, d4] => { results := [.lit (.bool false)], args := [d1, d2, d3, d4] }
  | _ => none }
def WitnessTellsWrongFalsely : Prop := witnessTellsRow.holds Tryz.pinned (OpenSpec.ofChange witnessTellsWrong)

/-- 'sinnetlaw18.WitnessAll': WHATEVER THE INPUT: true; the input reads as it did. -/
def witnessAllSpec : ChangeSpec := { name := "witnessAll", fn := fun _ => fun
  | [d1, d2, d3] => { results := [.lit (.bool true)], args := [d1, d2, d3] }
  | _ => none }
def witnessAllRow : OpenClaim := { program := "ytcaapoacmfjnmaagreat", sum := "24fd4790c0141a695b111e49551e2309b22677253a8ee1e05238ca3760f2f130", func := "sinnet/sinnetlaw18.WitnessAll", spec := "witnessAll", inPlace := ["internal/abi.NoEscape"], unfollowed := true, recurses := true, apart := false }
def WitnessAllSaid : Prop := witnessAllRow.holds Tryz.pinned (OpenSpec.ofChange witnessAllSpec)

/-- ITS FALSE NEIGHBOUR: 'it returns false'. Refute it at one input. -/
def witnessAllWrong : ChangeSpec := { name := "witnessAll", fn := fun _ => fun
  | [d1, d2, d3] => { results := [.lit (.bool false)], args := [d1, d2, d3] }
  | _ => none }
def WitnessAllWrongFalsely : Prop := witnessAllRow.holds Tryz.pinned (OpenSpec.ofChange witnessAllWrong)

/-- 'sinnetlaw18.WitnessCuts': WHATEVER THE INPUT: true; the input reads as it did. -/
def witnessCutsSpec : ChangeSpec := { name := "witnessCuts", fn := fun _ => fun
  | [d1, d2, d3, d4] => { results := [.lit (.bool true)], args := [d1, d2, d3, d4] }
  | _ => none }
def witnessCutsRow : OpenClaim := { program := "ytcaapoacmfjnmaagreat", sum := "24fd4790c0141a695b111e49551e2309b22677253a8ee1e05238ca3760f2f130", func := "sinnet/sinnetlaw18.WitnessCuts", spec := "witnessCuts", inPlace := ["internal/abi.NoEscape"], unfollowed := true, recurses := true, apart := false }
def WitnessCutsSaid : Prop := witnessCutsRow.holds Tryz.pinned (OpenSpec.ofChange witnessCutsSpec)

/-- ITS FALSE NEIGHBOUR: 'it returns false'. Refute it at one input. -/
def witnessCutsWrong : ChangeSpec := { name := "witnessCuts", fn := fun _ => fun
  | [d1, d2, d3, d4] => { results := [.lit (.bool false)], args := [d1, d2, d3, d4] }
  | _ => none }
def WitnessCutsWrongFalsely : Prop := witnessCutsRow.holds Tryz.pinned (OpenSpec.ofChange witnessCutsWrong)

/-- 'sinnetlaw06.WalkTells': WHATEVER THE INPUT: true; the input reads as it did. -/
def walkTellsSpec : ChangeSpec := { name := "walkTells", fn := fun _ => fun
  | [d1, d2, d3] => { results := [.lit (.bool true)], args := [d1, d2, d3] }
  | _ => none }
def walkTellsRow : OpenClaim := { program := "ytcaapoacmfjnmaagreat", sum := "24fd4790c0141a695b111e49551e2309b22677253a8ee1e05238ca3760f2f130", func := "sinnet/sinnetlaw06.WalkTells", spec := "walkTells", inPlace := ["internal/abi.NoEscape"], unfollowed := true, recurses := true, apart := false }
def WalkTellsSaid : Prop := walkTellsRow.holds Tryz.pinned (OpenSpec.ofChange walkTellsSpec)

/-- ITS FALSE NEIGHBOUR: 'it returns false'. Refute it at one input. -/
def walkTellsWrong : ChangeSpec := { name := "walkTells", fn := fun _ => fun
  | [d1, d2, d3] => { results := [.lit (.bool false)], args := [d1, d2, d3] }
  | _ => none }
def WalkTellsWrongFalsely : Prop := walkTellsRow.holds Tryz.pinned (OpenSpec.ofChange walkTellsWrong)

/-- 'sinnetlaw06.WalkFinds': WHATEVER THE INPUT: true; the input reads as it did. -/
def walkFindsSpec : ChangeSpec := { name := "walkFinds", fn := fun _ => fun
  | [d1, d2, d3] => { results := [.lit (.bool true)], args := [d1, d2, d3] }
  | _ => none }
def walkFindsRow : OpenClaim := { program := "ytcaapoacmfjnmaagreat", sum := "24fd4790c0141a695b111e49551e2309b22677253a8ee1e05238ca3760f2f130", func := "sinnet/sinnetlaw06.WalkFinds", spec := "walkFinds", inPlace := ["internal/abi.NoEscape"], unfollowed := true, recurses := true, apart := false }
def WalkFindsSaid : Prop := walkFindsRow.holds Tryz.pinned (OpenSpec.ofChange walkFindsSpec)

/-- ITS FALSE NEIGHBOUR: 'it returns false'. Refute it at one input. -/
def walkFindsWrong : ChangeSpec := { name := "walkFinds", fn := fun _ => fun
  | [d1, d2, d3] => { results := [.lit (.bool false)], args := [d1, d2, d3] }
  | _ => none }
def WalkFindsWrongFalsely : Prop := walkFindsRow.holds Tryz.pinned (OpenSpec.ofChange walkFindsWrong)

/-- 'sinnetlaw06.WalkTurned': WHATEVER THE INPUT: true; the input reads as it did. -/
def walkTurnedSpec : ChangeSpec := { name := "walkTurned", fn := fun _ => fun
  | [d1, d2] => { results := [.lit (.bool true)], args := [d1, d2] }
  | _ => none }
def walkTurnedRow : OpenClaim := { program := "ytcaapoacmfjnmaagreat", sum := "24fd4790c0141a695b111e49551e2309b22677253a8ee1e05238ca3760f2f130", func := "sinnet/sinnetlaw06.WalkTurned", spec := "walkTurned", inPlace := ["internal/abi.NoEscape"], unfollowed := true, recurses := true, apart := false }
def WalkTurnedSaid : Prop := walkTurnedRow.holds Tryz.pinned (OpenSpec.ofChange walkTurnedSpec)

/-- ITS FALSE NEIGHBOUR: 'it returns false'. Refute it at one input. -/
def walkTurnedWrong : ChangeSpec := { name := "walkTurned", fn := fun _ => fun
  | [d1, d2] => { results := [.lit (.bool false)], args := [d1, d2] }
  | _ => none }
def WalkTurnedWrongFalsely : Prop := walkTurnedRow.holds Tryz.pinned (OpenSpec.ofChange walkTurnedWrong)

/-- 'sinnetlaw06.WalkFree': WHATEVER THE INPUT: true; the input reads as it did. -/
def walkFreeSpec : ChangeSpec := { name := "walkFree", fn := fun _ => fun
  | [d1, d2, d3, d4] => { results := [.lit (.bool true)], args := [d1, d2, d3, d4] }
  | _ => none }
def walkFreeRow : OpenClaim := { program := "ytcaapoacmfjnmaagreat", sum := "24fd4790c0141a695b111e49551e2309b22677253a8ee1e05238ca3760f2f130", func := "sinnet/sinnetlaw06.WalkFree", spec := "walkFree", inPlace := ["internal/abi.NoEscape"], unfollowed := true, recurses := true, apart := false }
def WalkFreeSaid : Prop := walkFreeRow.holds Tryz.pinned (OpenSpec.ofChange walkFreeSpec)

/-- ITS FALSE NEIGHBOUR: 'it returns false'. Refute it at one input. -/
def walkFreeWrong : ChangeSpec := { name := "walkFree", fn := fun _ => fun
  | [d1, d2, d3, d4] => { results := [.lit (.bool false)], args := [d1, d2, d3, d4] }
  | _ => none }
def WalkFreeWrongFalsely : Prop := walkFreeRow.holds Tryz.pinned (OpenSpec.ofChange walkFreeWrong)

/-- 'sinnetlaw20.LeastTells': WHATEVER THE INPUT: true; the input reads as it did. -/
def leastTellsSpec : ChangeSpec := { name := "leastTells", fn := fun _ => fun
  | [d1, d2, d3, d4] => { results := [.lit (.bool true)], args := [d1, d2, d3, d4] }
  | _ => none }
def leastTellsRow : OpenClaim := { program := "ytcaapoacmfjnmaagreat", sum := "24fd4790c0141a695b111e49551e2309b22677253a8ee1e05238ca3760f2f130", func := "sinnet/sinnetlaw20.LeastTells", spec := "leastTells", inPlace := ["internal/abi.NoEscape"], unfollowed := true, recurses := true, apart := false }
def LeastTellsSaid : Prop := leastTellsRow.holds Tryz.pinned (OpenSpec.ofChange leastTellsSpec)

/-- ITS FALSE NEIGHBOUR: 'it returns false'. Refute it at one input. -/
def leastTellsWrong : ChangeSpec := { name := "leastTells", fn := fun _ => fun
  | [d1, d2, d3, d4] => { results := [.lit (.bool false)], args := [d1, d2, d3, d4] }
  | _ => none }
def LeastTellsWrongFalsely : Prop := leastTellsRow.holds Tryz.pinned (OpenSpec.ofChange leastTellsWrong)

/-- 'sinnetlaw20.LeastOrder': WHATEVER THE INPUT: true; the input reads as it did. -/
def leastOrderSpec : ChangeSpec := { name := "leastOrder", fn := fun _ => fun
  | [d1, d2, d3] => { results := [.lit (.bool true)], args := [d1, d2, d3] }
  | _ => none }
def leastOrderRow : OpenClaim := { program := "ytcaapoacmfjnmaagreat", sum := "24fd4790c0141a695b111e49551e2309b22677253a8ee1e05238ca3760f2f130", func := "sinnet/sinnetlaw20.LeastOrder", spec := "leastOrder", inPlace := ["internal/abi.NoEscape"], unfollowed := true, recurses := true, apart := false }
def LeastOrderSaid : Prop := leastOrderRow.holds Tryz.pinned (OpenSpec.ofChange leastOrderSpec)

/-- ITS FALSE NEIGHBOUR: 'it returns false'. Refute it at one input. -/
def leastOrderWrong : ChangeSpec := { name := "leastOrder", fn := fun _ => fun
  | [d1, d2, d3] => { results := [.lit (.bool false)], args := [d1, d2, d3] }
  | _ => none }
def LeastOrderWrongFalsely : Prop := leastOrderRow.holds Tryz.pinned (OpenSpec.ofChange leastOrderWrong)

/-- 'sinnetlaw20.LeastAny': WHATEVER THE INPUT: true; the input reads as it did. -/
def leastAnySpec : ChangeSpec := { name := "leastAny", fn := fun _ => fun
  | [d1, d2, d3, d4] => { results := [.lit (.bool true)], args := [d1, d2, d3, d4] }
  | _ => none }
def leastAnyRow : OpenClaim := { program := "ytcaapoacmfjnmaagreat", sum := "24fd4790c0141a695b111e49551e2309b22677253a8ee1e05238ca3760f2f130", func := "sinnet/sinnetlaw20.LeastAny", spec := "leastAny", inPlace := ["internal/abi.NoEscape"], unfollowed := true, recurses := true, apart := false }
def LeastAnySaid : Prop := leastAnyRow.holds Tryz.pinned (OpenSpec.ofChange leastAnySpec)

/-- ITS FALSE NEIGHBOUR: 'it returns false'. Refute it at one input. -/
def leastAnyWrong : ChangeSpec := { name := "leastAny", fn := fun _ => fun
  | [d1, d2, d3, d4] => { results := [.lit (.bool false)], args := [d1, d2, d3, d4] }
  | _ => none }
def LeastAnyWrongFalsely : Prop := leastAnyRow.holds Tryz.pinned (OpenSpec.ofChange leastAnyWrong)

/- THE SECOND FORM. 'bulk': how many values and letters a reading holds, each counted each time it is reached (what is shared counts as often as it is met; a slice's spare places count too). A statement '..UptoSaid' is the law's where the arguments, and the package variables that the reading takes, are together of bulk at most 1048576: NARROWER than '..Said'. Prove '..Said' where nothing that the law and all that it calls make is longer than what came in: it says more and counts as full. Else prove '..UptoSaid'. A law counts once. -/
mutual
def uptoBulk {H : Type} : DataW H → Nat
  | .lit (.string bytes) => bytes.length + 1
  | .lit _ => 1
  | .nil => 1
  | .ptr d => uptoBulk d + 1
  | .slice elems spare => uptoBulkAll elems + uptoBulkAll spare + 1
  | .agg parts => uptoBulkAll parts + 1
  | .iface _ d => uptoBulk d + 1
  | .map entries => uptoBulkEntries entries + 1
  | .held _ => 1
def uptoBulkAll {H : Type} : List (DataW H) → Nat
  | [] => 0
  | d :: r => uptoBulk d + uptoBulkAll r
def uptoBulkEntries {H : Type} : List (Lit × DataW H) → Nat
  | [] => 0
  | x :: r => uptoBulkEntry x + uptoBulkEntries r
def uptoBulkEntry {H : Type} : Lit × DataW H → Nat
  | (.string bytes, d) => bytes.length + uptoBulk d + 1
  | (_, d) => uptoBulk d + 1
 end
def uptoSmall : (H : Type) → List (DataW H) → Bool := fun _ ds => decide (uptoBulkAll ds ≤ 1048576)
def OpenSpec.upto (s : _root_.Go.ChangeSpec) : _root_.Go.OpenSpec := { _root_.Go.OpenSpec.ofChange s with cond := some uptoSmall }

/-- 'sinnetlaw18.WitnessTells', WHERE WHAT IT READS IS OF BULK AT MOST 1048576: true; the input reads as it did. -/
def witnessTellsUptoRow : OpenClaim := { program := "ytcaapoacmfjnmaagreat", sum := "24fd4790c0141a695b111e49551e2309b22677253a8ee1e05238ca3760f2f130", func := "sinnet/sinnetlaw18.WitnessTells", spec := "witnessTells", inPlace := ["internal/abi.NoEscape"], unfollowed := true, recurses := true, apart := false, narrowed := true }
def WitnessTellsUptoSaid : Prop := witnessTellsUptoRow.holds Tryz.pinned (OpenSpec.upto witnessTellsSpec)

/-- 'sinnetlaw18.WitnessAll', WHERE WHAT IT READS IS OF BULK AT MOST 1048576: true; the input reads as it did. -/
def witnessAllUptoRow : OpenClaim := { program := "ytcaapoacmfjnmaagreat", sum := "24fd4790c0141a695b111e49551e2309b22677253a8ee1e05238ca3760f2f130", func := "sinnet/sinnetlaw18.WitnessAll", spec := "witnessAll", inPlace := ["internal/abi.NoEscape"], unfollowed := true, recurses := true, apart := false, narrowed := true }
def WitnessAllUptoSaid : Prop := witnessAllUptoRow.holds Tryz.pinned (OpenSpec.upto witnessAllSpec)

/-- 'sinnetlaw18.WitnessCuts', WHERE WHAT IT READS IS OF BULK AT MOST 1048576: true; the input reads as it did. -/
def witnessCutsUptoRow : OpenClaim := { program := "ytcaapoacmfjnmaagreat", sum := "24fd4790c0141a695b111e49551e2309b22677253a8ee1e05238ca3760f2f130", func := "sinnet/sinnetlaw18.WitnessCuts", spec := "witnessCuts", inPlace := ["internal/abi.NoEscape"], unfollowed := true, recurses := true, apart := false, narrowed := true }
def WitnessCutsUptoSaid : Prop := witnessCutsUptoRow.holds Tryz.pinned (OpenSpec.upto witnessCutsSpec)

/-- 'sinnetlaw06.WalkTells', WHERE WHAT IT READS IS OF BULK AT MOST 1048576: true; the input reads as it did. -/
def walkTellsUptoRow : OpenClaim := { program := "ytcaapoacmfjnmaagreat", sum := "24fd4790c0141a695b111e49551e2309b22677253a8ee1e05238ca3760f2f130", func := "sinnet/sinnetlaw06.WalkTells", spec := "walkTells", inPlace := ["internal/abi.NoEscape"], unfollowed := true, recurses := true, apart := false, narrowed := true }
def WalkTellsUptoSaid : Prop := walkTellsUptoRow.holds Tryz.pinned (OpenSpec.upto walkTellsSpec)

/-- 'sinnetlaw06.WalkFinds', WHERE WHAT IT READS IS OF BULK AT MOST 1048576: true; the input reads as it did. -/
def walkFindsUptoRow : OpenClaim := { program := "ytcaapoacmfjnmaagreat", sum := "24fd4790c0141a695b111e49551e2309b22677253a8ee1e05238ca3760f2f130", func := "sinnet/sinnetlaw06.WalkFinds", spec := "walkFinds", inPlace := ["internal/abi.NoEscape"], unfollowed := true, recurses := true, apart := false, narrowed := true }
def WalkFindsUptoSaid : Prop := walkFindsUptoRow.holds Tryz.pinned (OpenSpec.upto walkFindsSpec)

/-- 'sinnetlaw06.WalkTurned', WHERE WHAT IT READS IS OF BULK AT MOST 1048576: true; the input reads as it did. -/
def walkTurnedUptoRow : OpenClaim := { program := "ytcaapoacmfjnmaagreat", sum := "24fd4790c0141a695b111e49551e2309b22677253a8ee1e05238ca3760f2f130", func := "sinnet/sinnetlaw06.WalkTurned", spec := "walkTurned", inPlace := ["internal/abi.NoEscape"], unfollowed := true, recurses := true, apart := false, narrowed := true }
def WalkTurnedUptoSaid : Prop := walkTurnedUptoRow.holds Tryz.pinned (OpenSpec.upto walkTurnedSpec)

/-- 'sinnetlaw06.WalkFree', WHERE WHAT IT READS IS OF BULK AT MOST 1048576: true; the input reads as it did. -/
def walkFreeUptoRow : OpenClaim := { program := "ytcaapoacmfjnmaagreat", sum := "24fd4790c0141a695b111e49551e2309b22677253a8ee1e05238ca3760f2f130", func := "sinnet/sinnetlaw06.WalkFree", spec := "walkFree", inPlace := ["internal/abi.NoEscape"], unfollowed := true, recurses := true, apart := false, narrowed := true }
def WalkFreeUptoSaid : Prop := walkFreeUptoRow.holds Tryz.pinned (OpenSpec.upto walkFreeSpec)

/-- 'sinnetlaw20.LeastTells', WHERE WHAT IT READS IS OF BULK AT MOST 1048576: true; the input reads as it did. -/
def leastTellsUptoRow : OpenClaim := { program := "ytcaapoacmfjnmaagreat", sum := "24fd4790c0141a695b111e49551e2309b22677253a8ee1e05238ca3760f2f130", func := "sinnet/sinnetlaw20.LeastTells", spec := "leastTells", inPlace := ["internal/abi.NoEscape"], unfollowed := true, recurses := true, apart := false, narrowed := true }
def LeastTellsUptoSaid : Prop := leastTellsUptoRow.holds Tryz.pinned (OpenSpec.upto leastTellsSpec)

/-- 'sinnetlaw20.LeastOrder', WHERE WHAT IT READS IS OF BULK AT MOST 1048576: true; the input reads as it did. -/
def leastOrderUptoRow : OpenClaim := { program := "ytcaapoacmfjnmaagreat", sum := "24fd4790c0141a695b111e49551e2309b22677253a8ee1e05238ca3760f2f130", func := "sinnet/sinnetlaw20.LeastOrder", spec := "leastOrder", inPlace := ["internal/abi.NoEscape"], unfollowed := true, recurses := true, apart := false, narrowed := true }
def LeastOrderUptoSaid : Prop := leastOrderUptoRow.holds Tryz.pinned (OpenSpec.upto leastOrderSpec)

/-- 'sinnetlaw20.LeastAny', WHERE WHAT IT READS IS OF BULK AT MOST 1048576: true; the input reads as it did. -/
def leastAnyUptoRow : OpenClaim := { program := "ytcaapoacmfjnmaagreat", sum := "24fd4790c0141a695b111e49551e2309b22677253a8ee1e05238ca3760f2f130", func := "sinnet/sinnetlaw20.LeastAny", spec := "leastAny", inPlace := ["internal/abi.NoEscape"], unfollowed := true, recurses := true, apart := false, narrowed := true }
def LeastAnyUptoSaid : Prop := leastAnyUptoRow.holds Tryz.pinned (OpenSpec.upto leastAnySpec)

end Rows
end Go.Proofs.YtcaapoacmfjnmaaGreat
