/-
  No cell of these rows narrows 'for every input' (looked for: loops, veiled, ifaces, maps, wideKeys, modest, calm, conditions, laid).
  DERIVED. THE GIVEN ROWS OF THIS SEAT. 14 by the template 'for every input the law returns true; each argument reads behind the call as it read before'; 0 by the template 'total and deterministic' (their statements: YtckdofjpoajblaaGreatTotals.lean).
  GIVEN WITH THE SEED: the statements are not yours to turn. If you find one false, say at which input.
  Laid BY PROGRAM, IN A SANDBOX (cutbox-rows.mjs): the forced cells as the released guide's own fill.sh prints them over the translation 34d1ab17f7d254d0… (all of the seat's roots in one cut). By AI agents, Wed Nov 11 2026. No macro, syntax, notation, axiom, sorry.
-/
import Derived.Test.YtckdofjpoajblaaGreatChecked
import GoSem.Claim
import GoSem.ClaimJoined
import GoSem.ClaimMapViews
import Derived.JoinedTies
import Derived.KernelRfl
namespace Go.Proofs.YtckdofjpoajblaaGreat
/- THE CELL 'sum', in the pinned program and in every row, IS THE sha256 OF THE DUMP (.gsa) THAT YtckdofjpoajblaaGreatProg.lean LOADS. Nothing in Lean hashes anything: it is a label: what it is worth is what the hold of that sum in a sandbox is worth. -/
noncomputable def Tryz.pinned : Pinned := { name := "ytckdofjpoajblaagreat", sum := "34d1ab17f7d254d0ce0c403a289c854b6f37452ab5e4c839682c734c24ad7f71", checked := Tryz.checked }
namespace Rows
def none {H : Type} : Left H := { results := [], args := [] }

/-- 'sinnetlaw20.LeastTells': WHATEVER THE INPUT: true; the input reads as it did. -/
def leastTellsSpec : ChangeSpec := { name := "leastTells", fn := fun _ => fun
  | [d1, d2, d3, d4] => { results := [.lit (.bool true)], args := [d1, d2, d3, d4] }
  | _ => none }
def leastTellsRow : OpenClaim := { program := "ytckdofjpoajblaagreat", sum := "34d1ab17f7d254d0ce0c403a289c854b6f37452ab5e4c839682c734c24ad7f71", func := "sinnet/sinnetlaw20.LeastTells", spec := "leastTells", inPlace := ["internal/abi.NoEscape"], unfollowed := true, recurses := true, apart := false }
def LeastTellsSaid : Prop := leastTellsRow.holds Tryz.pinned (OpenSpec.ofChange leastTellsSpec)

/-- ITS FALSE NEIGHBOUR: 'it returns false'. Refute it at one input. -/
def leastTellsWrong : ChangeSpec := { name := "leastTells", fn := fun _ => fun
  | [d1, d2, d3, d4] => { results := [.lit (.bool false)], args := [d1, d2, d3, d4] }
  | _ => none }
def LeastTellsWrongFalsely : Prop := leastTellsRow.holds Tryz.pinned (OpenSpec.ofChange leastTellsWrong)

/-- 'sinnetlaw20.LeastOrder': WHATEVER THE INPUT: true; the input reads as it did. -/
def leastOrderSpec : ChangeSpec := { name := "leastOrder", fn := fun _ => fun
  | [d1, d2, d3] => { results := [.lit (.bool true)], args := [d1, d2, d3] }
  | _ => none }
def leastOrderRow : OpenClaim := { program := "ytckdofjpoajblaagreat", sum := "34d1ab17f7d254d0ce0c403a289c854b6f37452ab5e4c839682c734c24ad7f71", func := "sinnet/sinnetlaw20.LeastOrder", spec := "leastOrder", inPlace := ["internal/abi.NoEscape"], unfollowed := true, recurses := true, apart := false }
def LeastOrderSaid : Prop := leastOrderRow.holds Tryz.pinned (OpenSpec.ofChange leastOrderSpec)

/-- ITS FALSE NEIGHBOUR: 'it returns false'. Refute it at one input. -/
def leastOrderWrong : ChangeSpec := { name := "leastOrder", fn := fun _ => fun
  | [d1, d2, d3] => { results := [.lit (.bool false)], args := [d1, d2, d3] }
  | _ => none }
def LeastOrderWrongFalsely : Prop := leastOrderRow.holds Tryz.pinned (OpenSpec.ofChange leastOrderWrong)

/-- 'sinnetlaw20.LeastAny': WHATEVER THE INPUT: true; the input reads as it did. -/
def leastAnySpec : ChangeSpec := { name := "leastAny", fn := fun _ => fun
  | [d1, d2, d3, d4] => { results := [.lit (.bool true)], args := [d1, d2, d3, d4] }
  | _ => none }
def leastAnyRow : OpenClaim := { program := "ytckdofjpoajblaagreat", sum := "34d1ab17f7d254d0ce0c403a289c854b6f37452ab5e4c839682c734c24ad7f71", func := "sinnet/sinnetlaw20.LeastAny", spec := "leastAny", inPlace := ["internal/abi.NoEscape"], unfollowed := true, recurses := true, apart := false }
def LeastAnySaid : Prop := leastAnyRow.holds Tryz.pinned (OpenSpec.ofChange leastAnySpec)

/-- ITS FALSE NEIGHBOUR: 'it returns false'. Refute it at one input. -/
def leastAnyWrong : ChangeSpec := { name := "leastAny", fn := fun _ => fun
  | [d1, d2, d3, d4] => { results := [.lit (.bool false)], args := [d1, d2, d3, d4] }
  | _ => none }
def LeastAnyWrongFalsely : Prop := leastAnyRow.holds Tryz.pinned (OpenSpec.ofChange leastAnyWrong)

/-- 'sinnetlaw09.SeqExact': WHATEVER THE INPUT: true; the input reads as it did. -/
def seqExactSpec : ChangeSpec := { name := "seqExact", fn := fun _ => fun
  | [d1, d2, d3] => { results := [.lit (.bool true)], args := [d1, d2, d3] }
  | _ => none }
def seqExactRow : OpenClaim := { program := "ytckdofjpoajblaagreat", sum := "34d1ab17f7d254d0ce0c403a289c854b6f37452ab5e4c839682c734c24ad7f71", func := "sinnet/sinnetlaw09.SeqExact", spec := "seqExact", inPlace := ["internal/abi.NoEscape"], unfollowed := true, recurses := true, apart := false }
def SeqExactSaid : Prop := seqExactRow.holds Tryz.pinned (OpenSpec.ofChange seqExactSpec)

/-- ITS FALSE NEIGHBOUR: 'it returns false'. Refute it at one input. -/
def seqExactWrong : ChangeSpec := { name := "seqExact", fn := fun _ => fun
  | [d1, d2, d3] => { results := [.lit (.bool false)], args := [d1, d2, d3] }
  | _ => none }
def SeqExactWrongFalsely : Prop := seqExactRow.holds Tryz.pinned (OpenSpec.ofChange seqExactWrong)

/-- 'sinnetlaw09.SeqPart': WHATEVER THE INPUT: true; the input reads as it did. -/
def seqPartSpec : ChangeSpec := { name := "seqPart", fn := fun _ => fun
  | [d1, d2, d3, d4] => { results := [.lit (.bool true)], args := [d1, d2, d3, d4] }
  | _ => none }
def seqPartRow : OpenClaim := { program := "ytckdofjpoajblaagreat", sum := "34d1ab17f7d254d0ce0c403a289c854b6f37452ab5e4c839682c734c24ad7f71", func := "sinnet/sinnetlaw09.SeqPart", spec := "seqPart", inPlace := ["internal/abi.NoEscape"], unfollowed := true, recurses := true, apart := false }
def SeqPartSaid : Prop := seqPartRow.holds Tryz.pinned (OpenSpec.ofChange seqPartSpec)

/-- ITS FALSE NEIGHBOUR: 'it returns false'. Refute it at one input. -/
def seqPartWrong : ChangeSpec := { name := "seqPart", fn := fun _ => fun
  | [d1, d2, d3, d4] => { results := [.lit (.bool false)], args := [d1, d2, d3, d4] }
  | _ => none }
def SeqPartWrongFalsely : Prop := seqPartRow.holds Tryz.pinned (OpenSpec.ofChange seqPartWrong)

/-- 'sinnetlaw09.SeqPlain': WHATEVER THE INPUT: true; the input reads as it did. -/
def seqPlainSpec : ChangeSpec := { name := "seqPlain", fn := fun _ => fun
  | [d1, d2, d3] => { results := [.lit (.bool true)], args := [d1, d2, d3] }
  | _ => none }
def seqPlainRow : OpenClaim := { program := "ytckdofjpoajblaagreat", sum := "34d1ab17f7d254d0ce0c403a289c854b6f37452ab5e4c839682c734c24ad7f71", func := "sinnet/sinnetlaw09.SeqPlain", spec := "seqPlain", inPlace := ["internal/abi.NoEscape"], unfollowed := true, recurses := true, apart := false }
def SeqPlainSaid : Prop := seqPlainRow.holds Tryz.pinned (OpenSpec.ofChange seqPlainSpec)

/-- ITS FALSE NEIGHBOUR: 'it returns false'. Refute it at one input. -/
def seqPlainWrong : ChangeSpec := { name := "seqPlain", fn := fun _ => fun
  | [d1, d2, d3] => { results := [.lit (.bool false)], args := [d1, d2, d3] }
  | _ => none }
def SeqPlainWrongFalsely : Prop := seqPlainRow.holds Tryz.pinned (OpenSpec.ofChange seqPlainWrong)

/-- 'sinnetlaw09.SeqTurned': WHATEVER THE INPUT: true; the input reads as it did. -/
def seqTurnedSpec : ChangeSpec := { name := "seqTurned", fn := fun _ => fun
  | [d1, d2, d3, d4] => { results := [.lit (.bool true)], args := [d1, d2, d3, d4] }
  | _ => none }
def seqTurnedRow : OpenClaim := { program := "ytckdofjpoajblaagreat", sum := "34d1ab17f7d254d0ce0c403a289c854b6f37452ab5e4c839682c734c24ad7f71", func := "sinnet/sinnetlaw09.SeqTurned", spec := "seqTurned", inPlace := ["internal/abi.NoEscape"], unfollowed := true, recurses := true, apart := false }
def SeqTurnedSaid : Prop := seqTurnedRow.holds Tryz.pinned (OpenSpec.ofChange seqTurnedSpec)

/-- ITS FALSE NEIGHBOUR: 'it returns false'. Refute it at one input. -/
def seqTurnedWrong : ChangeSpec := { name := "seqTurned", fn := fun _ => fun
  | [d1, d2, d3, d4] => { results := [.lit (.bool false)], args := [d1, d2, d3, d4] }
  | _ => none }
def SeqTurnedWrongFalsely : Prop := seqTurnedRow.holds Tryz.pinned (OpenSpec.ofChange seqTurnedWrong)

/-- 'sinnetlaw09.SeqGrows': WHATEVER THE INPUT: true; the input reads as it did. -/
def seqGrowsSpec : ChangeSpec := { name := "seqGrows", fn := fun _ => fun
  | [d1, d2, d3, d4, d5] => { results := [.lit (.bool true)], args := [d1, d2, d3, d4, d5] }
  | _ => none }
def seqGrowsRow : OpenClaim := { program := "ytckdofjpoajblaagreat", sum := "34d1ab17f7d254d0ce0c403a289c854b6f37452ab5e4c839682c734c24ad7f71", func := "sinnet/sinnetlaw09.SeqGrows", spec := "seqGrows", inPlace := ["internal/abi.NoEscape"], unfollowed := true, recurses := true, apart := false }
def SeqGrowsSaid : Prop := seqGrowsRow.holds Tryz.pinned (OpenSpec.ofChange seqGrowsSpec)

/-- ITS FALSE NEIGHBOUR: 'it returns false'. Refute it at one input. -/
def seqGrowsWrong : ChangeSpec := { name := "seqGrows", fn := fun _ => fun
  | [d1, d2, d3, d4, d5] => { results := [.lit (.bool false)], args := [d1, d2, d3, d4, d5] }
  | _ => none }
def SeqGrowsWrongFalsely : Prop := seqGrowsRow.holds Tryz.pinned (OpenSpec.ofChange seqGrowsWrong)

/-- 'sinnetlaw09.SeqOne': WHATEVER THE INPUT: true; the input reads as it did. -/
def seqOneSpec : ChangeSpec := { name := "seqOne", fn := fun _ => fun
  | [d1, d2, d3] => { results := [.lit (.bool true)], args := [d1, d2, d3] }
  | _ => none }
def seqOneRow : OpenClaim := { program := "ytckdofjpoajblaagreat", sum := "34d1ab17f7d254d0ce0c403a289c854b6f37452ab5e4c839682c734c24ad7f71", func := "sinnet/sinnetlaw09.SeqOne", spec := "seqOne", inPlace := ["internal/abi.NoEscape"], unfollowed := true, recurses := true, apart := false }
def SeqOneSaid : Prop := seqOneRow.holds Tryz.pinned (OpenSpec.ofChange seqOneSpec)

/-- ITS FALSE NEIGHBOUR: 'it returns false'. Refute it at one input. -/
def seqOneWrong : ChangeSpec := { name := "seqOne", fn := fun _ => fun
  | [d1, d2, d3] => { results := [.lit (.bool false)], args := [d1, d2, d3] }
  | _ => none }
def SeqOneWrongFalsely : Prop := seqOneRow.holds Tryz.pinned (OpenSpec.ofChange seqOneWrong)

/-- 'sinnetlaw19.VerdictTells': WHATEVER THE INPUT: true; the input reads as it did. -/
def verdictTellsSpec : ChangeSpec := { name := "verdictTells", fn := fun _ => fun
  | [d1, d2, d3] => { results := [.lit (.bool true)], args := [d1, d2, d3] }
  | _ => none }
def verdictTellsRow : OpenClaim := { program := "ytckdofjpoajblaagreat", sum := "34d1ab17f7d254d0ce0c403a289c854b6f37452ab5e4c839682c734c24ad7f71", func := "sinnet/sinnetlaw19.VerdictTells", spec := "verdictTells", inPlace := ["internal/abi.NoEscape"], unfollowed := true, recurses := true, apart := false }
def VerdictTellsSaid : Prop := verdictTellsRow.holds Tryz.pinned (OpenSpec.ofChange verdictTellsSpec)

/-- ITS FALSE NEIGHBOUR: 'it returns false'. Refute it at one input. -/
def verdictTellsWrong : ChangeSpec := { name := "verdictTells", fn := fun _ => fun
  | [d1, d2, d3] => { results := [.lit (.bool false)], args := [d1, d2, d3] }
  | _ => none }
def VerdictTellsWrongFalsely : Prop := verdictTellsRow.holds Tryz.pinned (OpenSpec.ofChange verdictTellsWrong)

/-- 'sinnetlaw19.VerdictAlike': WHATEVER THE INPUT: true; the input reads as it did. -/
def verdictAlikeSpec : ChangeSpec := { name := "verdictAlike", fn := fun _ => fun
  | [d1, d2, d3] => { results := [.lit (.bool true)], args := [d1, d2, d3] }
  | _ => none }
def verdictAlikeRow : OpenClaim := { program := "ytckdofjpoajblaagreat", sum := "34d1ab17f7d254d0ce0c403a289c854b6f37452ab5e4c839682c734c24ad7f71", func := "sinnet/sinnetlaw19.VerdictAlike", spec := "verdictAlike", inPlace := ["internal/abi.NoEscape"], unfollowed := true, recurses := true, apart := false }
def VerdictAlikeSaid : Prop := verdictAlikeRow.holds Tryz.pinned (OpenSpec.ofChange verdictAlikeSpec)

/-- ITS FALSE NEIGHBOUR: 'it returns false'. Refute it at one input. -/
def verdictAlikeWrong : ChangeSpec := { name := "verdictAlike", fn := fun _ => fun
  | [d1, d2, d3] => { results := [.lit (.bool false)], args := [d1, d2, d3] }
  | _ => none }
def VerdictAlikeWrongFalsely : Prop := verdictAlikeRow.holds Tryz.pinned (OpenSpec.ofChange verdictAlikeWrong)

/-- 'sinnetlaw19.VerdictSafe': WHATEVER THE INPUT: true; the input reads as it did. -/
def verdictSafeSpec : ChangeSpec := { name := "verdictSafe", fn := fun _ => fun
  | [d1, d2] => { results := [.lit (.bool true)], args := [d1, d2] }
  | _ => none }
def verdictSafeRow : OpenClaim := { program := "ytckdofjpoajblaagreat", sum := "34d1ab17f7d254d0ce0c403a289c854b6f37452ab5e4c839682c734c24ad7f71", func := "sinnet/sinnetlaw19.VerdictSafe", spec := "verdictSafe", inPlace := ["internal/abi.NoEscape"], unfollowed := true, recurses := true, apart := false }
def VerdictSafeSaid : Prop := verdictSafeRow.holds Tryz.pinned (OpenSpec.ofChange verdictSafeSpec)

/-- ITS FALSE NEIGHBOUR: 'it returns false'. Refute it at one input. -/
def verdictSafeWrong : ChangeSpec := { name := "verdictSafe", fn := fun _ => fun
  | [d1, d2] => { results := [.lit (.bool false)], args := [d1, d2] }
  | _ => none }
def VerdictSafeWrongFalsely : Prop := verdictSafeRow.holds Tryz.pinned (OpenSpec.ofChange verdictSafeWrong)

/-- 'sinnetlaw19.VerdictFull': WHATEVER THE INPUT: true; the input reads as it did. -/
def verdictFullSpec : ChangeSpec := { name := "verdictFull", fn := fun _ => fun
  | [d1, d2, d3] => { results := [.lit (.bool true)], args := [d1, d2, d3] }
  | _ => none }
def verdictFullRow : OpenClaim := { program := "ytckdofjpoajblaagreat", sum := "34d1ab17f7d254d0ce0c403a289c854b6f37452ab5e4c839682c734c24ad7f71", func := "sinnet/sinnetlaw19.VerdictFull", spec := "verdictFull", inPlace := ["internal/abi.NoEscape"], unfollowed := true, recurses := true, apart := false }
def VerdictFullSaid : Prop := verdictFullRow.holds Tryz.pinned (OpenSpec.ofChange verdictFullSpec)

/-- ITS FALSE NEIGHBOUR: 'it returns false'. Refute it at one input. -/
def verdictFullWrong : ChangeSpec := { name := "verdictFull", fn := fun _ => fun
  | [d1, d2, d3] => { results := [.lit (.bool false)], args := [d1, d2, d3] }
  | _ => none }
def VerdictFullWrongFalsely : Prop := verdictFullRow.holds Tryz.pinned (OpenSpec.ofChange verdictFullWrong)

/-- 'sinnetlaw20.LeastSafe': WHATEVER THE INPUT: true; the input reads as it did. -/
def leastSafeSpec : ChangeSpec := { name := "leastSafe", fn := fun _ => fun
  | [d1, d2] => { results := [.lit (.bool true)], args := [d1, d2] }
  | _ => none }
def leastSafeRow : OpenClaim := { program := "ytckdofjpoajblaagreat", sum := "34d1ab17f7d254d0ce0c403a289c854b6f37452ab5e4c839682c734c24ad7f71", func := "sinnet/sinnetlaw20.LeastSafe", spec := "leastSafe", inPlace := ["internal/abi.NoEscape"], unfollowed := true, recurses := true, apart := false }
def LeastSafeSaid : Prop := leastSafeRow.holds Tryz.pinned (OpenSpec.ofChange leastSafeSpec)

/-- ITS FALSE NEIGHBOUR: 'it returns false'. Refute it at one input. -/
def leastSafeWrong : ChangeSpec := { name := "leastSafe", fn := fun _ => fun
  | [d1, d2] => { results := [.lit (.bool false)], args := [d1, d2] }
  | _ => none }
def LeastSafeWrongFalsely : Prop := leastSafeRow.holds Tryz.pinned (OpenSpec.ofChange leastSafeWrong)

/- THE SECOND FORM. 'bulk': how many values and letters a reading holds, each counted each time it is reached (what is shared counts as often as it is met; a slice's spare places count too). A statement '..UptoSaid' is the law's where the arguments, and the package variables that the reading takes, are together of bulk at most 1048576: NARROWER than '..Said'. Prove '..Said' where nothing that the law and all that it calls make is longer than what came in: it says more and counts as full. Else prove '..UptoSaid'. A law counts once. -/
mutual
def uptoBulk {H : Type} : DataW H → Nat
  | .lit (.string bytes) => bytes.length + 1
  | .lit _ => 1
  | .nil => 1
  | .ptr d => uptoBulk d + 1
  | .slice elems spare => uptoBulkAll elems + uptoBulkAll spare + 1
  | .agg parts => uptoBulkAll parts + 1
  | .iface _ d => uptoBulk d + 1
  | .map entries => uptoBulkEntries entries + 1
  | .held _ => 1
def uptoBulkAll {H : Type} : List (DataW H) → Nat
  | [] => 0
  | d :: r => uptoBulk d + uptoBulkAll r
def uptoBulkEntries {H : Type} : List (Lit × DataW H) → Nat
  | [] => 0
  | x :: r => uptoBulkEntry x + uptoBulkEntries r
def uptoBulkEntry {H : Type} : Lit × DataW H → Nat
  | (.string bytes, d) => bytes.length + uptoBulk d + 1
  | (_, d) => uptoBulk d + 1
 end
def uptoSmall : (H : Type) → List (DataW H) → Bool := fun _ ds => decide (uptoBulkAll ds ≤ 1048576)
def OpenSpec.upto (s : _root_.Go.ChangeSpec) : _root_.Go.OpenSpec := { _root_.Go.OpenSpec.ofChange s with cond := some uptoSmall }

/-- 'sinnetlaw20.LeastTells', WHERE WHAT IT READS IS OF BULK AT MOST 1048576: true; the input reads as it did. -/
def leastTellsUptoRow : OpenClaim := { program := "ytckdofjpoajblaagreat", sum := "34d1ab17f7d254d0ce0c403a289c854b6f37452ab5e4c839682c734c24ad7f71", func := "sinnet/sinnetlaw20.LeastTells", spec := "leastTells", inPlace := ["internal/abi.NoEscape"], unfollowed := true, recurses := true, apart := false, narrowed := true }
def LeastTellsUptoSaid : Prop := leastTellsUptoRow.holds Tryz.pinned (OpenSpec.upto leastTellsSpec)

/-- 'sinnetlaw20.LeastOrder', WHERE WHAT IT READS IS OF BULK AT MOST 1048576: true; the input reads as it did. -/
def leastOrderUptoRow : OpenClaim := { program := "ytckdofjpoajblaagreat", sum := "34d1ab17f7d254d0ce0c403a289c854b6f37452ab5e4c839682c734c24ad7f71", func := "sinnet/sinnetlaw20.LeastOrder", spec := "leastOrder", inPlace := ["internal/abi.NoEscape"], unfollowed := true, recurses := true, apart := false, narrowed := true }
def LeastOrderUptoSaid : Prop := leastOrderUptoRow.holds Tryz.pinned (OpenSpec.upto leastOrderSpec)

/-- 'sinnetlaw20.LeastAny', WHERE WHAT IT READS IS OF BULK AT MOST 1048576: true; the input reads as it did. -/
def leastAnyUptoRow : OpenClaim := { program := "ytckdofjpoajblaagreat", sum := "34d1ab17f7d254d0ce0c403a289c854b6f37452ab5e4c839682c734c24ad7f71", func := "sinnet/sinnetlaw20.LeastAny", spec := "leastAny", inPlace := ["internal/abi.NoEscape"], unfollowed := true, recurses := true, apart := false, narrowed := true }
def LeastAnyUptoSaid : Prop := leastAnyUptoRow.holds Tryz.pinned (OpenSpec.upto leastAnySpec)

/-- 'sinnetlaw09.SeqExact', WHERE WHAT IT READS IS OF BULK AT MOST 1048576: true; the input reads as it did. -/
def seqExactUptoRow : OpenClaim := { program := "ytckdofjpoajblaagreat", sum := "34d1ab17f7d254d0ce0c403a289c854b6f37452ab5e4c839682c734c24ad7f71", func := "sinnet/sinnetlaw09.SeqExact", spec := "seqExact", inPlace := ["internal/abi.NoEscape"], unfollowed := true, recurses := true, apart := false, narrowed := true }
def SeqExactUptoSaid : Prop := seqExactUptoRow.holds Tryz.pinned (OpenSpec.upto seqExactSpec)

/-- 'sinnetlaw09.SeqPart', WHERE WHAT IT READS IS OF BULK AT MOST 1048576: true; the input reads as it did. -/
def seqPartUptoRow : OpenClaim := { program := "ytckdofjpoajblaagreat", sum := "34d1ab17f7d254d0ce0c403a289c854b6f37452ab5e4c839682c734c24ad7f71", func := "sinnet/sinnetlaw09.SeqPart", spec := "seqPart", inPlace := ["internal/abi.NoEscape"], unfollowed := true, recurses := true, apart := false, narrowed := true }
def SeqPartUptoSaid : Prop := seqPartUptoRow.holds Tryz.pinned (OpenSpec.upto seqPartSpec)

/-- 'sinnetlaw09.SeqPlain', WHERE WHAT IT READS IS OF BULK AT MOST 1048576: true; the input reads as it did. -/
def seqPlainUptoRow : OpenClaim := { program := "ytckdofjpoajblaagreat", sum := "34d1ab17f7d254d0ce0c403a289c854b6f37452ab5e4c839682c734c24ad7f71", func := "sinnet/sinnetlaw09.SeqPlain", spec := "seqPlain", inPlace := ["internal/abi.NoEscape"], unfollowed := true, recurses := true, apart := false, narrowed := true }
def SeqPlainUptoSaid : Prop := seqPlainUptoRow.holds Tryz.pinned (OpenSpec.upto seqPlainSpec)

/-- 'sinnetlaw09.SeqTurned', WHERE WHAT IT READS IS OF BULK AT MOST 1048576: true; the input reads as it did. -/
def seqTurnedUptoRow : OpenClaim := { program := "ytckdofjpoajblaagreat", sum := "34d1ab17f7d254d0ce0c403a289c854b6f37452ab5e4c839682c734c24ad7f71", func := "sinnet/sinnetlaw09.SeqTurned", spec := "seqTurned", inPlace := ["internal/abi.NoEscape"], unfollowed := true, recurses := true, apart := false, narrowed := true }
def SeqTurnedUptoSaid : Prop := seqTurnedUptoRow.holds Tryz.pinned (OpenSpec.upto seqTurnedSpec)

/-- 'sinnetlaw09.SeqGrows', WHERE WHAT IT READS IS OF BULK AT MOST 1048576: true; the input reads as it did. -/
def seqGrowsUptoRow : OpenClaim := { program := "ytckdofjpoajblaagreat", sum := "34d1ab17f7d254d0ce0c403a289c854b6f37452ab5e4c839682c734c24ad7f71", func := "sinnet/sinnetlaw09.SeqGrows", spec := "seqGrows", inPlace := ["internal/abi.NoEscape"], unfollowed := true, recurses := true, apart := false, narrowed := true }
def SeqGrowsUptoSaid : Prop := seqGrowsUptoRow.holds Tryz.pinned (OpenSpec.upto seqGrowsSpec)

/-- 'sinnetlaw09.SeqOne', WHERE WHAT IT READS IS OF BULK AT MOST 1048576: true; the input reads as it did. -/
def seqOneUptoRow : OpenClaim := { program := "ytckdofjpoajblaagreat", sum := "34d1ab17f7d254d0ce0c403a289c854b6f37452ab5e4c839682c734c24ad7f71", func := "sinnet/sinnetlaw09.SeqOne", spec := "seqOne", inPlace := ["internal/abi.NoEscape"], unfollowed := true, recurses := true, apart := false, narrowed := true }
def SeqOneUptoSaid : Prop := seqOneUptoRow.holds Tryz.pinned (OpenSpec.upto seqOneSpec)

/-- 'sinnetlaw19.VerdictTells', WHERE WHAT IT READS IS OF BULK AT MOST 1048576: true; the input reads as it did. -/
def verdictTellsUptoRow : OpenClaim := { program := "ytckdofjpoajblaagreat", sum := "34d1ab17f7d254d0ce0c403a289c854b6f37452ab5e4c839682c734c24ad7f71", func := "sinnet/sinnetlaw19.VerdictTells", spec := "verdictTells", inPlace := ["internal/abi.NoEscape"], unfollowed := true, recurses := true, apart := false, narrowed := true }
def VerdictTellsUptoSaid : Prop := verdictTellsUptoRow.holds Tryz.pinned (OpenSpec.upto verdictTellsSpec)

/-- 'sinnetlaw19.VerdictAlike', WHERE WHAT IT READS IS OF BULK AT MOST 1048576: true; the input reads as it did. -/
def verdictAlikeUptoRow : OpenClaim := { program := "ytckdofjpoajblaagreat", sum := "34d1ab17f7d254d0ce0c403a289c854b6f37452ab5e4c839682c734c24ad7f71", func := "sinnet/sinnetlaw19.VerdictAlike", spec := "verdictAlike", inPlace := ["internal/abi.NoEscape"], unfollowed := true, recurses := true, apart := false, narrowed := true }
def VerdictAlikeUptoSaid : Prop := verdictAlikeUptoRow.holds Tryz.pinned (OpenSpec.upto verdictAlikeSpec)

/-- 'sinnetlaw19.VerdictSafe', WHERE WHAT IT READS IS OF BULK AT MOST 1048576: true; the input reads as it did. -/
def verdictSafeUptoRow : OpenClaim := { program := "ytckdofjpoajblaagreat", sum := "34d1ab17f7d254d0ce0c403a289c854b6f37452ab5e4c839682c734c24ad7f71", func := "sinnet/sinnetlaw19.VerdictSafe", spec := "verdictSafe", inPlace := ["internal/abi.NoEscape"], unfollowed := true, recurses := true, apart := false, narrowed := true }
def VerdictSafeUptoSaid : Prop := verdictSafeUptoRow.holds Tryz.pinned (OpenSpec.upto verdictSafeSpec)

/-- 'sinnetlaw19.VerdictFull', WHERE WHAT IT READS IS OF BULK AT MOST 1048576: true; the input reads as it did. -/
def verdictFullUptoRow : OpenClaim := { program := "ytckdofjpoajblaagreat", sum := "34d1ab17f7d254d0ce0c403a289c854b6f37452ab5e4c839682c734c24ad7f71", func := "sinnet/sinnetlaw19.VerdictFull", spec := "verdictFull", inPlace := ["internal/abi.NoEscape"], unfollowed := true, recurses := true, apart := false, narrowed := true }
def VerdictFullUptoSaid : Prop := verdictFullUptoRow.holds Tryz.pinned (OpenSpec.upto verdictFullSpec)

/-- 'sinnetlaw20.LeastSafe', WHERE WHAT IT READS IS OF BULK AT MOST 1048576: true; the input reads as it did. -/
def leastSafeUptoRow : OpenClaim := { program := "ytckdofjpoajblaagreat", sum := "34d1ab17f7d254d0ce0c403a289c854b6f37452ab5e4c839682c734c24ad7f71", func := "sinnet/sinnetlaw20.LeastSafe", spec := "leastSafe", inPlace := ["internal/abi.NoEscape"], unfollowed := true, recurses := true, apart := false, narrowed := true }
def LeastSafeUptoSaid : Prop := leastSafeUptoRow.holds Tryz.pinned (OpenSpec.upto leastSafeSpec)

end Rows
end Go.Proofs.YtckdofjpoajblaaGreat
