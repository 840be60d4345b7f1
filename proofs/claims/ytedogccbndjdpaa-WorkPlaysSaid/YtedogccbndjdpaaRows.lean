/-
  No cell of these rows narrows 'for every input' (looked for: loops, veiled, ifaces, maps, wideKeys, modest, calm, conditions, laid).
  DERIVED. THE GIVEN ROWS OF THIS SEAT. 9 by the template 'for every input the law returns true; each argument reads behind the call as it read before'; 0 by the template 'total and deterministic' (their statements: YtedogccbndjdpaaTotals.lean).
  GIVEN WITH THE SEED: the statements are not yours to turn. If you find one false, say at which input.
  Laid BY PROGRAM, IN A SANDBOX (cutbox-rows.mjs): the forced cells as the released guide's own fill.sh prints them over the translation 046cf3f0b189c969… (all of the seat's roots in one cut). By AI agents, Wed Nov 11 2026. No macro, syntax, notation, axiom, sorry.
-/
import Derived.Test.YtedogccbndjdpaaChecked
import GoSem.Claim
import GoSem.ClaimJoined
import GoSem.ClaimMapViews
import Derived.JoinedTies
import Derived.KernelRfl
namespace Go.Proofs.Ytedogccbndjdpaa
/- THE CELL 'sum', in the pinned program and in every row, IS THE sha256 OF THE DUMP (.gsa) THAT YtedogccbndjdpaaProg.lean LOADS. Nothing in Lean hashes anything: it is a label: what it is worth is what the hold of that sum in a sandbox is worth. -/
noncomputable def Try.pinned : Pinned := { name := "ytedogccbndjdpaa", sum := "046cf3f0b189c969e94b1d12fbd6619e7ec5ef23e2ee3c8e9263a8f79b1ff4e9", checked := Try.checked }
namespace Rows
def none {H : Type} : Left H := { results := [], args := [] }

/-- 'sinnetlaw12.MailPlays': WHATEVER THE INPUT: true; the input reads as it did. -/
def mailPlaysSpec : ChangeSpec := { name := "mailPlays", fn := fun _ => fun
  | [d1, d2] => { results := [.lit (.bool true)], args := [d1, d2] }
  | _ => none }
def mailPlaysRow : OpenClaim := { program := "ytedogccbndjdpaa", sum := "046cf3f0b189c969e94b1d12fbd6619e7ec5ef23e2ee3c8e9263a8f79b1ff4e9", func := "sinnet/sinnetlaw12.MailPlays", spec := "mailPlays", apart := false }
def MailPlaysSaid : Prop := mailPlaysRow.holds Try.pinned (OpenSpec.ofChange mailPlaysSpec)

/-- ITS FALSE NEIGHBOUR: 'it returns false'. Refute it at one input. -/
def mailPlaysWrong : ChangeSpec := { name := "mailPlays", fn := fun _ => fun
  | [d1, d2] => { results := [.lit (.bool false)], args := [d1, d2] }
  | _ => none }
def MailPlaysWrongFalsely : Prop := mailPlaysRow.holds Try.pinned (OpenSpec.ofChange mailPlaysWrong)

/-- 'sinnetlaw12.MailNil': WHATEVER THE INPUT: true; the input reads as it did. -/
def mailNilSpec : ChangeSpec := { name := "mailNil", fn := fun _ => fun
  | [d] => { results := [.lit (.bool true)], args := [d] }
  | _ => none }
def mailNilRow : OpenClaim := { program := "ytedogccbndjdpaa", sum := "046cf3f0b189c969e94b1d12fbd6619e7ec5ef23e2ee3c8e9263a8f79b1ff4e9", func := "sinnet/sinnetlaw12.MailNil", spec := "mailNil", apart := false }
def MailNilSaid : Prop := mailNilRow.holds Try.pinned (OpenSpec.ofChange mailNilSpec)

/-- ITS FALSE NEIGHBOUR: 'it returns false'. Refute it at one input. -/
def mailNilWrong : ChangeSpec := { name := "mailNil", fn := fun _ => fun
  | [d] => { results := [.lit (.bool false)], args := [d] }
  | _ => none }
def MailNilWrongFalsely : Prop := mailNilRow.holds Try.pinned (OpenSpec.ofChange mailNilWrong)

/-- 'sinnetlaw12.MailAll': WHATEVER THE INPUT: true; the input reads as it did. -/
def mailAllSpec : ChangeSpec := { name := "mailAll", fn := fun _ => fun
  | [d1, d2] => { results := [.lit (.bool true)], args := [d1, d2] }
  | _ => none }
def mailAllRow : OpenClaim := { program := "ytedogccbndjdpaa", sum := "046cf3f0b189c969e94b1d12fbd6619e7ec5ef23e2ee3c8e9263a8f79b1ff4e9", func := "sinnet/sinnetlaw12.MailAll", spec := "mailAll", apart := false }
def MailAllSaid : Prop := mailAllRow.holds Try.pinned (OpenSpec.ofChange mailAllSpec)

/-- ITS FALSE NEIGHBOUR: 'it returns false'. Refute it at one input. -/
def mailAllWrong : ChangeSpec := { name := "mailAll", fn := fun _ => fun
  | [d1, d2] => { results := [.lit (.bool false)], args := [d1, d2] }
  | _ => none }
def MailAllWrongFalsely : Prop := mailAllRow.holds Try.pinned (OpenSpec.ofChange mailAllWrong)

/-- 'sinnetlaw11.QueuePlays': WHATEVER THE INPUT: true; the input reads as it did. -/
def queuePlaysSpec : ChangeSpec := { name := "queuePlays", fn := fun _ => fun
  | [d] => { results := [.lit (.bool true)], args := [d] }
  | _ => none }
def queuePlaysRow : OpenClaim := { program := "ytedogccbndjdpaa", sum := "046cf3f0b189c969e94b1d12fbd6619e7ec5ef23e2ee3c8e9263a8f79b1ff4e9", func := "sinnet/sinnetlaw11.QueuePlays", spec := "queuePlays", unfollowed := true, recurses := true, apart := false }
def QueuePlaysSaid : Prop := queuePlaysRow.holds Try.pinned (OpenSpec.ofChange queuePlaysSpec)

/-- ITS FALSE NEIGHBOUR: 'it returns false'. Refute it at one input. -/
def queuePlaysWrong : ChangeSpec := { name := "queuePlays", fn := fun _ => fun
  | [d] => { results := [.lit (.bool false)], args := [d] }
  | _ => none }
def QueuePlaysWrongFalsely : Prop := queuePlaysRow.holds Try.pinned (OpenSpec.ofChange queuePlaysWrong)

/-- 'sinnetlaw11.QueueAll': WHATEVER THE INPUT: true; the input reads as it did. -/
def queueAllSpec : ChangeSpec := { name := "queueAll", fn := fun _ => fun
  | [d1, d2] => { results := [.lit (.bool true)], args := [d1, d2] }
  | _ => none }
def queueAllRow : OpenClaim := { program := "ytedogccbndjdpaa", sum := "046cf3f0b189c969e94b1d12fbd6619e7ec5ef23e2ee3c8e9263a8f79b1ff4e9", func := "sinnet/sinnetlaw11.QueueAll", spec := "queueAll", unfollowed := true, recurses := true, apart := false }
def QueueAllSaid : Prop := queueAllRow.holds Try.pinned (OpenSpec.ofChange queueAllSpec)

/-- ITS FALSE NEIGHBOUR: 'it returns false'. Refute it at one input. -/
def queueAllWrong : ChangeSpec := { name := "queueAll", fn := fun _ => fun
  | [d1, d2] => { results := [.lit (.bool false)], args := [d1, d2] }
  | _ => none }
def QueueAllWrongFalsely : Prop := queueAllRow.holds Try.pinned (OpenSpec.ofChange queueAllWrong)

/-- 'sinnetlaw11.QueueTwo': WHATEVER THE INPUT: true; the input reads as it did. -/
def queueTwoSpec : ChangeSpec := { name := "queueTwo", fn := fun _ => fun
  | [d1, d2, d3] => { results := [.lit (.bool true)], args := [d1, d2, d3] }
  | _ => none }
def queueTwoRow : OpenClaim := { program := "ytedogccbndjdpaa", sum := "046cf3f0b189c969e94b1d12fbd6619e7ec5ef23e2ee3c8e9263a8f79b1ff4e9", func := "sinnet/sinnetlaw11.QueueTwo", spec := "queueTwo", unfollowed := true, recurses := true, apart := false }
def QueueTwoSaid : Prop := queueTwoRow.holds Try.pinned (OpenSpec.ofChange queueTwoSpec)

/-- ITS FALSE NEIGHBOUR: 'it returns false'. Refute it at one input. -/
def queueTwoWrong : ChangeSpec := { name := "queueTwo", fn := fun _ => fun
  | [d1, d2, d3] => { results := [.lit (.bool false)], args := [d1, d2, d3] }
  | _ => none }
def QueueTwoWrongFalsely : Prop := queueTwoRow.holds Try.pinned (OpenSpec.ofChange queueTwoWrong)

/-- 'sinnetlaw13.WorkPlays': WHATEVER THE INPUT: true; the input reads as it did. -/
def workPlaysSpec : ChangeSpec := { name := "workPlays", fn := fun _ => fun
  | [d1, d2] => { results := [.lit (.bool true)], args := [d1, d2] }
  | _ => none }
def workPlaysRow : OpenClaim := { program := "ytedogccbndjdpaa", sum := "046cf3f0b189c969e94b1d12fbd6619e7ec5ef23e2ee3c8e9263a8f79b1ff4e9", func := "sinnet/sinnetlaw13.WorkPlays", spec := "workPlays", unfollowed := true, recurses := true, apart := false }
def WorkPlaysSaid : Prop := workPlaysRow.holds Try.pinned (OpenSpec.ofChange workPlaysSpec)

/-- ITS FALSE NEIGHBOUR: 'it returns false'. Refute it at one input. -/
def workPlaysWrong : ChangeSpec := { name := "workPlays", fn := fun _ => fun
  | [d1, d2] => { results := [.lit (.bool false)], args := [d1, d2] }
  | _ => none }
def WorkPlaysWrongFalsely : Prop := workPlaysRow.holds Try.pinned (OpenSpec.ofChange workPlaysWrong)

/-- 'sinnetlaw13.WorkNil': WHATEVER THE INPUT: true; the input reads as it did. -/
def workNilSpec : ChangeSpec := { name := "workNil", fn := fun _ => fun
  | [d] => { results := [.lit (.bool true)], args := [d] }
  | _ => none }
def workNilRow : OpenClaim := { program := "ytedogccbndjdpaa", sum := "046cf3f0b189c969e94b1d12fbd6619e7ec5ef23e2ee3c8e9263a8f79b1ff4e9", func := "sinnet/sinnetlaw13.WorkNil", spec := "workNil", unfollowed := true, recurses := true, apart := false }
def WorkNilSaid : Prop := workNilRow.holds Try.pinned (OpenSpec.ofChange workNilSpec)

/-- ITS FALSE NEIGHBOUR: 'it returns false'. Refute it at one input. -/
def workNilWrong : ChangeSpec := { name := "workNil", fn := fun _ => fun
  | [d] => { results := [.lit (.bool false)], args := [d] }
  | _ => none }
def WorkNilWrongFalsely : Prop := workNilRow.holds Try.pinned (OpenSpec.ofChange workNilWrong)

/-- 'sinnetlaw13.WorkKeeps': WHATEVER THE INPUT: true; the input reads as it did. -/
def workKeepsSpec : ChangeSpec := { name := "workKeeps", fn := fun _ => fun
  | [d1, d2] => { results := [.lit (.bool true)], args := [d1, d2] }
  | _ => none }
def workKeepsRow : OpenClaim := { program := "ytedogccbndjdpaa", sum := "046cf3f0b189c969e94b1d12fbd6619e7ec5ef23e2ee3c8e9263a8f79b1ff4e9", func := "sinnet/sinnetlaw13.WorkKeeps", spec := "workKeeps", unfollowed := true, recurses := true, apart := false }
def WorkKeepsSaid : Prop := workKeepsRow.holds Try.pinned (OpenSpec.ofChange workKeepsSpec)

/-- ITS FALSE NEIGHBOUR: 'it returns false'. Refute it at one input. -/
def workKeepsWrong : ChangeSpec := { name := "workKeeps", fn := fun _ => fun
  | [d1, d2] => { results := [.lit (.bool false)], args := [d1, d2] }
  | _ => none }
def WorkKeepsWrongFalsely : Prop := workKeepsRow.holds Try.pinned (OpenSpec.ofChange workKeepsWrong)

/- THE SECOND FORM. 'bulk': how many values and letters a reading holds, each counted each time it is reached (what is shared counts as often as it is met; a slice's spare places count too). A statement '..UptoSaid' is the law's where the arguments, and the package variables that the reading takes, are together of bulk at most 1048576: NARROWER than '..Said'. Prove '..Said' where nothing that the law and all that it calls make is longer than what came in: it says more and counts as full. Else prove '..UptoSaid'. A law counts once. -/
mutual
def uptoBulk {H : Type} : DataW H → Nat
  | .lit (.string bytes) => bytes.length + 1
  | .lit _ => 1
  | .nil => 1
  | .ptr d => uptoBulk d + 1
  | .slice elems spare => uptoBulkAll elems + uptoBulkAll spare + 1
  | .agg parts => uptoBulkAll parts + 1
  | .iface _ d => uptoBulk d + 1
  | .map entries => uptoBulkEntries entries + 1
  | .held _ => 1
def uptoBulkAll {H : Type} : List (DataW H) → Nat
  | [] => 0
  | d :: r => uptoBulk d + uptoBulkAll r
def uptoBulkEntries {H : Type} : List (Lit × DataW H) → Nat
  | [] => 0
  | x :: r => uptoBulkEntry x + uptoBulkEntries r
def uptoBulkEntry {H : Type} : Lit × DataW H → Nat
  | (.string bytes, d) => bytes.length + uptoBulk d + 1
  | (_, d) => uptoBulk d + 1
 end
def uptoSmall : (H : Type) → List (DataW H) → Bool := fun _ ds => decide (uptoBulkAll ds ≤ 1048576)
def OpenSpec.upto (s : _root_.Go.ChangeSpec) : _root_.Go.OpenSpec := { _root_.Go.OpenSpec.ofChange s with cond := some uptoSmall }

/-- 'sinnetlaw12.MailPlays', WHERE WHAT IT READS IS OF BULK AT MOST 1048576: true; the input reads as it did. -/
def mailPlaysUptoRow : OpenClaim := { program := "ytedogccbndjdpaa", sum := "046cf3f0b189c969e94b1d12fbd6619e7ec5ef23e2ee3c8e9263a8f79b1ff4e9", func := "sinnet/sinnetlaw12.MailPlays", spec := "mailPlays", apart := false, narrowed := true }
def MailPlaysUptoSaid : Prop := mailPlaysUptoRow.holds Try.pinned (OpenSpec.upto mailPlaysSpec)

/-- 'sinnetlaw12.MailNil', WHERE WHAT IT READS IS OF BULK AT MOST 1048576: true; the input reads as it did. -/
def mailNilUptoRow : OpenClaim := { program := "ytedogccbndjdpaa", sum := "046cf3f0b189c969e94b1d12fbd6619e7ec5ef23e2ee3c8e9263a8f79b1ff4e9", func := "sinnet/sinnetlaw12.MailNil", spec := "mailNil", apart := false, narrowed := true }
def MailNilUptoSaid : Prop := mailNilUptoRow.holds Try.pinned (OpenSpec.upto mailNilSpec)

/-- 'sinnetlaw12.MailAll', WHERE WHAT IT READS IS OF BULK AT MOST 1048576: true; the input reads as it did. -/
def mailAllUptoRow : OpenClaim := { program := "ytedogccbndjdpaa", sum := "046cf3f0b189c969e94b1d12fbd6619e7ec5ef23e2ee3c8e9263a8f79b1ff4e9", func := "sinnet/sinnetlaw12.MailAll", spec := "mailAll", apart := false, narrowed := true }
def MailAllUptoSaid : Prop := mailAllUptoRow.holds Try.pinned (OpenSpec.upto mailAllSpec)

/-- 'sinnetlaw11.QueuePlays', WHERE WHAT IT READS IS OF BULK AT MOST 1048576: true; the input reads as it did. -/
def queuePlaysUptoRow : OpenClaim := { program := "ytedogccbndjdpaa", sum := "046cf3f0b189c969e94b1d12fbd6619e7ec5ef23e2ee3c8e9263a8f79b1ff4e9", func := "sinnet/sinnetlaw11.QueuePlays", spec := "queuePlays", unfollowed := true, recurses := true, apart := false, narrowed := true }
def QueuePlaysUptoSaid : Prop := queuePlaysUptoRow.holds Try.pinned (OpenSpec.upto queuePlaysSpec)

/-- 'sinnetlaw11.QueueAll', WHERE WHAT IT READS IS OF BULK AT MOST 1048576: true; the input reads as it did. -/
def queueAllUptoRow : OpenClaim := { program := "ytedogccbndjdpaa", sum := "046cf3f0b189c969e94b1d12fbd6619e7ec5ef23e2ee3c8e9263a8f79b1ff4e9", func := "sinnet/sinnetlaw11.QueueAll", spec := "queueAll", unfollowed := true, recurses := true, apart := false, narrowed := true }
def QueueAllUptoSaid : Prop := queueAllUptoRow.holds Try.pinned (OpenSpec.upto queueAllSpec)

/-- 'sinnetlaw11.QueueTwo', WHERE WHAT IT READS IS OF BULK AT MOST 1048576: true; the input reads as it did. -/
def queueTwoUptoRow : OpenClaim := { program := "ytedogccbndjdpaa", sum := "046cf3f0b189c969e94b1d12fbd6619e7ec5ef23e2ee3c8e9263a8f79b1ff4e9", func := "sinnet/sinnetlaw11.QueueTwo", spec := "queueTwo", unfollowed := true, recurses := true, apart := false, narrowed := true }
def QueueTwoUptoSaid : Prop := queueTwoUptoRow.holds Try.pinned (OpenSpec.upto queueTwoSpec)

/-- 'sinnetlaw13.WorkPlays', WHERE WHAT IT READS IS OF BULK AT MOST 1048576: true; the input reads as it did. -/
def workPlaysUptoRow : OpenClaim := { program := "ytedogccbndjdpaa", sum := "046cf3f0b189c969e94b1d12fbd6619e7ec5ef23e2ee3c8e9263a8f79b1ff4e9", func := "sinnet/sinnetlaw13.WorkPlays", spec := "workPlays", unfollowed := true, recurses := true, apart := false, narrowed := true }
def WorkPlaysUptoSaid : Prop := workPlaysUptoRow.holds Try.pinned (OpenSpec.upto workPlaysSpec)

/-- 'sinnetlaw13.WorkNil', WHERE WHAT IT READS IS OF BULK AT MOST 1048576: true; the input reads as it did. -/
def workNilUptoRow : OpenClaim := { program := "ytedogccbndjdpaa", sum := "046cf3f0b189c969e94b1d12fbd6619e7ec5ef23e2ee3c8e9263a8f79b1ff4e9", func := "sinnet/sinnetlaw13.WorkNil", spec := "workNil", unfollowed := true, recurses := true, apart := false, narrowed := true }
def WorkNilUptoSaid : Prop := workNilUptoRow.holds Try.pinned (OpenSpec.upto workNilSpec)

/-- 'sinnetlaw13.WorkKeeps', WHERE WHAT IT READS IS OF BULK AT MOST 1048576: true; the input reads as it did. -/
def workKeepsUptoRow : OpenClaim := { program := "ytedogccbndjdpaa", sum := "046cf3f0b189c969e94b1d12fbd6619e7ec5ef23e2ee3c8e9263a8f79b1ff4e9", func := "sinnet/sinnetlaw13.WorkKeeps", spec := "workKeeps", unfollowed := true, recurses := true, apart := false, narrowed := true }
def WorkKeepsUptoSaid : Prop := workKeepsUptoRow.holds Try.pinned (OpenSpec.upto workKeepsSpec)

end Rows
end Go.Proofs.Ytedogccbndjdpaa
