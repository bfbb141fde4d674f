/-
  No cell of these rows narrows 'for every input' (looked for: loops, veiled, ifaces, maps, wideKeys, modest, calm, conditions, laid).
  DERIVED. THE GIVEN ROWS OF THIS SEAT. 12 by the template 'for every input the law returns true; each argument reads behind the call as it read before'; 0 by the template 'total and deterministic' (their statements: YtpbamdcbaloibaaTotals.lean).
  GIVEN WITH THE SEED: the statements are not yours to turn. If you find one false, say at which input.
  Laid BY PROGRAM, IN A SANDBOX (cutbox-rows.mjs): the forced cells as the released guide's own fill.sh prints them over the translation a20c2203b94738f2… (all of the seat's roots in one cut). By AI agents, Wed Nov 11 2026. No macro, syntax, notation, axiom, sorry.
-/
import Derived.Test.YtpbamdcbaloibaaChecked
import GoSem.Claim
import GoSem.ClaimJoined
import GoSem.ClaimMapViews
import Derived.JoinedTies
import Derived.KernelRfl
namespace Go.Proofs.Ytpbamdcbaloibaa
/- THE CELL 'sum', in the pinned program and in every row, IS THE sha256 OF THE DUMP (.gsa) THAT YtpbamdcbaloibaaProg.lean LOADS. Nothing in Lean hashes anything: it is a label: what it is worth is what the hold of that sum in a sandbox is worth. -/
noncomputable def Try.pinned : Pinned := { name := "ytpbamdcbaloibaa", sum := "a20c2203b94738f2f8c2af943e960a1b66920b6f653f82599509fce8e575a72f", checked := Try.checked }
namespace Rows
def none {H : Type} : Left H := { results := [], args := [] }

/-- 'laws.FnExactRecText': WHATEVER THE INPUT: true; the input reads as it did. -/
def fnExactRecTextSpec : ChangeSpec := { name := "fnExactRecText", fn := fun _ => fun
  | [d] => { results := [.lit (.bool true)], args := [d] }
  | _ => none }
def fnExactRecTextRow : OpenClaim := { program := "ytpbamdcbaloibaa", sum := "a20c2203b94738f2f8c2af943e960a1b66920b6f653f82599509fce8e575a72f", func := "loop.example/g00246/laws.FnExactRecText", spec := "fnExactRecText", apart := false }
def FnExactRecTextSaid : Prop := fnExactRecTextRow.holds Try.pinned (OpenSpec.ofChange fnExactRecTextSpec)

/-- ITS FALSE NEIGHBOUR: 'it returns false'. Refute it at one input. -/
def fnExactRecTextWrong : ChangeSpec := { name := "fnExactRecText", fn := fun _ => fun
  | [d] => { results := [.lit (.bool false)], args := [d] }
  | _ => none }
def FnExactRecTextWrongFalsely : Prop := fnExactRecTextRow.holds Try.pinned (OpenSpec.ofChange fnExactRecTextWrong)

/-- 'laws.FnExactRecRead': WHATEVER THE INPUT: true; the input reads as it did. -/
def fnExactRecReadSpec : ChangeSpec := { name := "fnExactRecRead", fn := fun _ => fun
  | [d] => { results := [.lit (.bool true)], args := [d] }
  | _ => none }
def fnExactRecReadRow : OpenClaim := { program := "ytpbamdcbaloibaa", sum := "a20c2203b94738f2f8c2af943e960a1b66920b6f653f82599509fce8e575a72f", func := "loop.example/g00246/laws.FnExactRecRead", spec := "fnExactRecRead", apart := false }
def FnExactRecReadSaid : Prop := fnExactRecReadRow.holds Try.pinned (OpenSpec.ofChange fnExactRecReadSpec)

/-- ITS FALSE NEIGHBOUR: 'it returns false'. Refute it at one input. -/
def fnExactRecReadWrong : ChangeSpec := { name := "fnExactRecRead", fn := fun _ => fun
  | [d] => { results := [.lit (.bool false)], args := [d] }
  | _ => none }
def FnExactRecReadWrongFalsely : Prop := fnExactRecReadRow.holds Try.pinned (OpenSpec.ofChange fnExactRecReadWrong)

/-- 'laws.FnExactLogText': WHATEVER THE INPUT: true; the input reads as it did. -/
def fnExactLogTextSpec : ChangeSpec := { name := "fnExactLogText", fn := fun _ => fun
  | [d] => { results := [.lit (.bool true)], args := [d] }
  | _ => none }
def fnExactLogTextRow : OpenClaim := { program := "ytpbamdcbaloibaa", sum := "a20c2203b94738f2f8c2af943e960a1b66920b6f653f82599509fce8e575a72f", func := "loop.example/g00246/laws.FnExactLogText", spec := "fnExactLogText", unfollowed := true, recurses := true, apart := false }
def FnExactLogTextSaid : Prop := fnExactLogTextRow.holds Try.pinned (OpenSpec.ofChange fnExactLogTextSpec)

/-- ITS FALSE NEIGHBOUR: 'it returns false'. Refute it at one input. -/
def fnExactLogTextWrong : ChangeSpec := { name := "fnExactLogText", fn := fun _ => fun
  | [d] => { results := [.lit (.bool false)], args := [d] }
  | _ => none }
def FnExactLogTextWrongFalsely : Prop := fnExactLogTextRow.holds Try.pinned (OpenSpec.ofChange fnExactLogTextWrong)

/-- 'laws.FnExactLogRead': WHATEVER THE INPUT: true; the input reads as it did. -/
def fnExactLogReadSpec : ChangeSpec := { name := "fnExactLogRead", fn := fun _ => fun
  | [d] => { results := [.lit (.bool true)], args := [d] }
  | _ => none }
def fnExactLogReadRow : OpenClaim := { program := "ytpbamdcbaloibaa", sum := "a20c2203b94738f2f8c2af943e960a1b66920b6f653f82599509fce8e575a72f", func := "loop.example/g00246/laws.FnExactLogRead", spec := "fnExactLogRead", unfollowed := true, recurses := true, apart := false }
def FnExactLogReadSaid : Prop := fnExactLogReadRow.holds Try.pinned (OpenSpec.ofChange fnExactLogReadSpec)

/-- ITS FALSE NEIGHBOUR: 'it returns false'. Refute it at one input. -/
def fnExactLogReadWrong : ChangeSpec := { name := "fnExactLogRead", fn := fun _ => fun
  | [d] => { results := [.lit (.bool false)], args := [d] }
  | _ => none }
def FnExactLogReadWrongFalsely : Prop := fnExactLogReadRow.holds Try.pinned (OpenSpec.ofChange fnExactLogReadWrong)

/-- 'laws.FnNums': WHATEVER THE INPUT: true; the input reads as it did. -/
def fnNumsSpec : ChangeSpec := { name := "fnNums", fn := fun _ => fun
  | [d] => { results := [.lit (.bool true)], args := [d] }
  | _ => none }
def fnNumsRow : OpenClaim := { program := "ytpbamdcbaloibaa", sum := "a20c2203b94738f2f8c2af943e960a1b66920b6f653f82599509fce8e575a72f", func := "loop.example/g00246/laws.FnNums", spec := "fnNums", apart := false }
def FnNumsSaid : Prop := fnNumsRow.holds Try.pinned (OpenSpec.ofChange fnNumsSpec)

/-- ITS FALSE NEIGHBOUR: 'it returns false'. Refute it at one input. -/
def fnNumsWrong : ChangeSpec := { name := "fnNums", fn := fun _ => fun
  | [d] => { results := [.lit (.bool false)], args := [d] }
  | _ => none }
def FnNumsWrongFalsely : Prop := fnNumsRow.holds Try.pinned (OpenSpec.ofChange fnNumsWrong)

/-- 'laws.FnRecords': WHATEVER THE INPUT: true; the input reads as it did. -/
def fnRecordsSpec : ChangeSpec := { name := "fnRecords", fn := fun _ => fun
  | [d] => { results := [.lit (.bool true)], args := [d] }
  | _ => none }
def fnRecordsRow : OpenClaim := { program := "ytpbamdcbaloibaa", sum := "a20c2203b94738f2f8c2af943e960a1b66920b6f653f82599509fce8e575a72f", func := "loop.example/g00246/laws.FnRecords", spec := "fnRecords", apart := false }
def FnRecordsSaid : Prop := fnRecordsRow.holds Try.pinned (OpenSpec.ofChange fnRecordsSpec)

/-- ITS FALSE NEIGHBOUR: 'it returns false'. Refute it at one input. -/
def fnRecordsWrong : ChangeSpec := { name := "fnRecords", fn := fun _ => fun
  | [d] => { results := [.lit (.bool false)], args := [d] }
  | _ => none }
def FnRecordsWrongFalsely : Prop := fnRecordsRow.holds Try.pinned (OpenSpec.ofChange fnRecordsWrong)

/-- 'laws.FnExactNodeOk': WHATEVER THE INPUT: true; the input reads as it did. -/
def fnExactNodeOkSpec : ChangeSpec := { name := "fnExactNodeOk", fn := fun _ => fun
  | [d] => { results := [.lit (.bool true)], args := [d] }
  | _ => none }
def fnExactNodeOkRow : OpenClaim := { program := "ytpbamdcbaloibaa", sum := "a20c2203b94738f2f8c2af943e960a1b66920b6f653f82599509fce8e575a72f", func := "loop.example/g00246/laws.FnExactNodeOk", spec := "fnExactNodeOk", apart := false }
def FnExactNodeOkSaid : Prop := fnExactNodeOkRow.holds Try.pinned (OpenSpec.ofChange fnExactNodeOkSpec)

/-- ITS FALSE NEIGHBOUR: 'it returns false'. Refute it at one input. -/
def fnExactNodeOkWrong : ChangeSpec := { name := "fnExactNodeOk", fn := fun _ => fun
  | [d] => { results := [.lit (.bool false)], args := [d] }
  | _ => none }
def FnExactNodeOkWrongFalsely : Prop := fnExactNodeOkRow.holds Try.pinned (OpenSpec.ofChange fnExactNodeOkWrong)

/-- 'laws.FnExactNodeText': WHATEVER THE INPUT: true; the input reads as it did. -/
def fnExactNodeTextSpec : ChangeSpec := { name := "fnExactNodeText", fn := fun _ => fun
  | [d] => { results := [.lit (.bool true)], args := [d] }
  | _ => none }
def fnExactNodeTextRow : OpenClaim := { program := "ytpbamdcbaloibaa", sum := "a20c2203b94738f2f8c2af943e960a1b66920b6f653f82599509fce8e575a72f", func := "loop.example/g00246/laws.FnExactNodeText", spec := "fnExactNodeText", apart := false }
def FnExactNodeTextSaid : Prop := fnExactNodeTextRow.holds Try.pinned (OpenSpec.ofChange fnExactNodeTextSpec)

/-- ITS FALSE NEIGHBOUR: 'it returns false'. Refute it at one input. -/
def fnExactNodeTextWrong : ChangeSpec := { name := "fnExactNodeText", fn := fun _ => fun
  | [d] => { results := [.lit (.bool false)], args := [d] }
  | _ => none }
def FnExactNodeTextWrongFalsely : Prop := fnExactNodeTextRow.holds Try.pinned (OpenSpec.ofChange fnExactNodeTextWrong)

/-- 'laws.FnExactNodeRead': WHATEVER THE INPUT: true; the input reads as it did. -/
def fnExactNodeReadSpec : ChangeSpec := { name := "fnExactNodeRead", fn := fun _ => fun
  | [d] => { results := [.lit (.bool true)], args := [d] }
  | _ => none }
def fnExactNodeReadRow : OpenClaim := { program := "ytpbamdcbaloibaa", sum := "a20c2203b94738f2f8c2af943e960a1b66920b6f653f82599509fce8e575a72f", func := "loop.example/g00246/laws.FnExactNodeRead", spec := "fnExactNodeRead", apart := false }
def FnExactNodeReadSaid : Prop := fnExactNodeReadRow.holds Try.pinned (OpenSpec.ofChange fnExactNodeReadSpec)

/-- ITS FALSE NEIGHBOUR: 'it returns false'. Refute it at one input. -/
def fnExactNodeReadWrong : ChangeSpec := { name := "fnExactNodeRead", fn := fun _ => fun
  | [d] => { results := [.lit (.bool false)], args := [d] }
  | _ => none }
def FnExactNodeReadWrongFalsely : Prop := fnExactNodeReadRow.holds Try.pinned (OpenSpec.ofChange fnExactNodeReadWrong)

/-- 'laws.FnExactNodeAt': WHATEVER THE INPUT: true; the input reads as it did. -/
def fnExactNodeAtSpec : ChangeSpec := { name := "fnExactNodeAt", fn := fun _ => fun
  | [d1, d2] => { results := [.lit (.bool true)], args := [d1, d2] }
  | _ => none }
def fnExactNodeAtRow : OpenClaim := { program := "ytpbamdcbaloibaa", sum := "a20c2203b94738f2f8c2af943e960a1b66920b6f653f82599509fce8e575a72f", func := "loop.example/g00246/laws.FnExactNodeAt", spec := "fnExactNodeAt", apart := false }
def FnExactNodeAtSaid : Prop := fnExactNodeAtRow.holds Try.pinned (OpenSpec.ofChange fnExactNodeAtSpec)

/-- ITS FALSE NEIGHBOUR: 'it returns false'. Refute it at one input. -/
def fnExactNodeAtWrong : ChangeSpec := { name := "fnExactNodeAt", fn := fun _ => fun
  | [d1, d2] => { results := [.lit (.bool false)], args := [d1, d2] }
  | _ => none }
def FnExactNodeAtWrongFalsely : Prop := fnExactNodeAtRow.holds Try.pinned (OpenSpec.ofChange fnExactNodeAtWrong)

/-- 'laws.FnExactVolumeOk': WHATEVER THE INPUT: true; the input reads as it did. -/
def fnExactVolumeOkSpec : ChangeSpec := { name := "fnExactVolumeOk", fn := fun _ => fun
  | [d] => { results := [.lit (.bool true)], args := [d] }
  | _ => none }
def fnExactVolumeOkRow : OpenClaim := { program := "ytpbamdcbaloibaa", sum := "a20c2203b94738f2f8c2af943e960a1b66920b6f653f82599509fce8e575a72f", func := "loop.example/g00246/laws.FnExactVolumeOk", spec := "fnExactVolumeOk", recurses := true, apart := false }
def FnExactVolumeOkSaid : Prop := fnExactVolumeOkRow.holds Try.pinned (OpenSpec.ofChange fnExactVolumeOkSpec)

/-- ITS FALSE NEIGHBOUR: 'it returns false'. Refute it at one input. -/
def fnExactVolumeOkWrong : ChangeSpec := { name := "fnExactVolumeOk", fn := fun _ => fun
  | [d] => { results := [.lit (.bool false)], args := [d] }
  | _ => none }
def FnExactVolumeOkWrongFalsely : Prop := fnExactVolumeOkRow.holds Try.pinned (OpenSpec.ofChange fnExactVolumeOkWrong)

/-- 'laws.FnNodes': WHATEVER THE INPUT: true; the input reads as it did. -/
def fnNodesSpec : ChangeSpec := { name := "fnNodes", fn := fun _ => fun
  | [d] => { results := [.lit (.bool true)], args := [d] }
  | _ => none }
def fnNodesRow : OpenClaim := { program := "ytpbamdcbaloibaa", sum := "a20c2203b94738f2f8c2af943e960a1b66920b6f653f82599509fce8e575a72f", func := "loop.example/g00246/laws.FnNodes", spec := "fnNodes", apart := false }
def FnNodesSaid : Prop := fnNodesRow.holds Try.pinned (OpenSpec.ofChange fnNodesSpec)

/-- ITS FALSE NEIGHBOUR: 'it returns false'. Refute it at one input. -/
def fnNodesWrong : ChangeSpec := { name := "fnNodes", fn := fun _ => fun
  | [d] => { results := [.lit (.bool false)], args := [d] }
  | _ => none }
def FnNodesWrongFalsely : Prop := fnNodesRow.holds Try.pinned (OpenSpec.ofChange fnNodesWrong)

/- THE SECOND FORM. 'bulk': how many values and letters a reading holds, each counted each time it is reached (what is shared counts as often as it is met; a slice's spare places count too). A statement '..UptoSaid' is the law's where the arguments, and the package variables that the reading takes, are together of bulk at most 1048576: NARROWER than '..Said'. Prove '..Said' where nothing that the law and all that it calls make is longer than what came in: it says more and counts as full. Else prove '..UptoSaid'. A law counts once. -/
mutual
def uptoBulk {H : Type} : DataW H → Nat
  | .lit (.string bytes) => bytes.length + 1
  | .lit _ => 1
  | .nil => 1
  | .ptr d => uptoBulk d + 1
  | .slice elems spare => uptoBulkAll elems + uptoBulkAll spare + 1
  | .agg parts => uptoBulkAll parts + 1
  | .iface _ d => uptoBulk d + 1
  | .map entries => uptoBulkEntries entries + 1
  | .held _ => 1
def uptoBulkAll {H : Type} : List (DataW H) → Nat
  | [] => 0
  | d :: r => uptoBulk d + uptoBulkAll r
def uptoBulkEntries {H : Type} : List (Lit × DataW H) → Nat
  | [] => 0
  | x :: r => uptoBulkEntry x + uptoBulkEntries r
def uptoBulkEntry {H : Type} : Lit × DataW H → Nat
  | (.string bytes, d) => bytes.length + uptoBulk d + 1
  | (_, d) => uptoBulk d + 1
 end
def uptoSmall : (H : Type) → List (DataW H) → Bool := fun _ ds => decide (uptoBulkAll ds ≤ 1048576)
def OpenSpec.upto (s : _root_.Go.ChangeSpec) : _root_.Go.OpenSpec := { _root_.Go.OpenSpec.ofChange s with cond := some uptoSmall }

/-- 'laws.FnExactRecText', WHERE WHAT IT READS IS OF BULK AT MOST 1048576: true; the input reads as it did. -/
def fnExactRecTextUptoRow : OpenClaim := { program := "ytpbamdcbaloibaa", sum := "a20c2203b94738f2f8c2af943e960a1b66920b6f653f82599509fce8e575a72f", func := "loop.example/g00246/laws.FnExactRecText", spec := "fnExactRecText", apart := false, narrowed := true }
def FnExactRecTextUptoSaid : Prop := fnExactRecTextUptoRow.holds Try.pinned (OpenSpec.upto fnExactRecTextSpec)

/-- 'laws.FnExactRecRead', WHERE WHAT IT READS IS OF BULK AT MOST 1048576: true; the input reads as it did. -/
def fnExactRecReadUptoRow : OpenClaim := { program := "ytpbamdcbaloibaa", sum := "a20c2203b94738f2f8c2af943e960a1b66920b6f653f82599509fce8e575a72f", func := "loop.example/g00246/laws.FnExactRecRead", spec := "fnExactRecRead", apart := false, narrowed := true }
def FnExactRecReadUptoSaid : Prop := fnExactRecReadUptoRow.holds Try.pinned (OpenSpec.upto fnExactRecReadSpec)

/-- 'laws.FnExactLogText', WHERE WHAT IT READS IS OF BULK AT MOST 1048576: true; the input reads as it did. -/
def fnExactLogTextUptoRow : OpenClaim := { program := "ytpbamdcbaloibaa", sum := "a20c2203b94738f2f8c2af943e960a1b66920b6f653f82599509fce8e575a72f", func := "loop.example/g00246/laws.FnExactLogText", spec := "fnExactLogText", unfollowed := true, recurses := true, apart := false, narrowed := true }
def FnExactLogTextUptoSaid : Prop := fnExactLogTextUptoRow.holds Try.pinned (OpenSpec.upto fnExactLogTextSpec)

/-- 'laws.FnExactLogRead', WHERE WHAT IT READS IS OF BULK AT MOST 1048576: true; the input reads as it did. -/
def fnExactLogReadUptoRow : OpenClaim := { program := "ytpbamdcbaloibaa", sum := "a20c2203b94738f2f8c2af943e960a1b66920b6f653f82599509fce8e575a72f", func := "loop.example/g00246/laws.FnExactLogRead", spec := "fnExactLogRead", unfollowed := true, recurses := true, apart := false, narrowed := true }
def FnExactLogReadUptoSaid : Prop := fnExactLogReadUptoRow.holds Try.pinned (OpenSpec.upto fnExactLogReadSpec)

/-- 'laws.FnNums', WHERE WHAT IT READS IS OF BULK AT MOST 1048576: true; the input reads as it did. -/
def fnNumsUptoRow : OpenClaim := { program := "ytpbamdcbaloibaa", sum := "a20c2203b94738f2f8c2af943e960a1b66920b6f653f82599509fce8e575a72f", func := "loop.example/g00246/laws.FnNums", spec := "fnNums", apart := false, narrowed := true }
def FnNumsUptoSaid : Prop := fnNumsUptoRow.holds Try.pinned (OpenSpec.upto fnNumsSpec)

/-- 'laws.FnRecords', WHERE WHAT IT READS IS OF BULK AT MOST 1048576: true; the input reads as it did. -/
def fnRecordsUptoRow : OpenClaim := { program := "ytpbamdcbaloibaa", sum := "a20c2203b94738f2f8c2af943e960a1b66920b6f653f82599509fce8e575a72f", func := "loop.example/g00246/laws.FnRecords", spec := "fnRecords", apart := false, narrowed := true }
def FnRecordsUptoSaid : Prop := fnRecordsUptoRow.holds Try.pinned (OpenSpec.upto fnRecordsSpec)

/-- 'laws.FnExactNodeOk', WHERE WHAT IT READS IS OF BULK AT MOST 1048576: true; the input reads as it did. -/
def fnExactNodeOkUptoRow : OpenClaim := { program := "ytpbamdcbaloibaa", sum := "a20c2203b94738f2f8c2af943e960a1b66920b6f653f82599509fce8e575a72f", func := "loop.example/g00246/laws.FnExactNodeOk", spec := "fnExactNodeOk", apart := false, narrowed := true }
def FnExactNodeOkUptoSaid : Prop := fnExactNodeOkUptoRow.holds Try.pinned (OpenSpec.upto fnExactNodeOkSpec)

/-- 'laws.FnExactNodeText', WHERE WHAT IT READS IS OF BULK AT MOST 1048576: true; the input reads as it did. -/
def fnExactNodeTextUptoRow : OpenClaim := { program := "ytpbamdcbaloibaa", sum := "a20c2203b94738f2f8c2af943e960a1b66920b6f653f82599509fce8e575a72f", func := "loop.example/g00246/laws.FnExactNodeText", spec := "fnExactNodeText", apart := false, narrowed := true }
def FnExactNodeTextUptoSaid : Prop := fnExactNodeTextUptoRow.holds Try.pinned (OpenSpec.upto fnExactNodeTextSpec)

/-- 'laws.FnExactNodeRead', WHERE WHAT IT READS IS OF BULK AT MOST 1048576: true; the input reads as it did. -/
def fnExactNodeReadUptoRow : OpenClaim := { program := "ytpbamdcbaloibaa", sum := "a20c2203b94738f2f8c2af943e960a1b66920b6f653f82599509fce8e575a72f", func := "loop.example/g00246/laws.FnExactNodeRead", spec := "fnExactNodeRead", apart := false, narrowed := true }
def FnExactNodeReadUptoSaid : Prop := fnExactNodeReadUptoRow.holds Try.pinned (OpenSpec.upto fnExactNodeReadSpec)

/-- 'laws.FnExactNodeAt', WHERE WHAT IT READS IS OF BULK AT MOST 1048576: true; the input reads as it did. -/
def fnExactNodeAtUptoRow : OpenClaim := { program := "ytpbamdcbaloibaa", sum := "a20c2203b94738f2f8c2af943e960a1b66920b6f653f82599509fce8e575a72f", func := "loop.example/g00246/laws.FnExactNodeAt", spec := "fnExactNodeAt", apart := false, narrowed := true }
def FnExactNodeAtUptoSaid : Prop := fnExactNodeAtUptoRow.holds Try.pinned (OpenSpec.upto fnExactNodeAtSpec)

/-- 'laws.FnExactVolumeOk', WHERE WHAT IT READS IS OF BULK AT MOST 1048576: true; the input reads as it did. -/
def fnExactVolumeOkUptoRow : OpenClaim := { program := "ytpbamdcbaloibaa", sum := "a20c2203b94738f2f8c2af943e960a1b66920b6f653f82599509fce8e575a72f", func := "loop.example/g00246/laws.FnExactVolumeOk", spec := "fnExactVolumeOk", recurses := true, apart := false, narrowed := true }
def FnExactVolumeOkUptoSaid : Prop := fnExactVolumeOkUptoRow.holds Try.pinned (OpenSpec.upto fnExactVolumeOkSpec)

/-- 'laws.FnNodes', WHERE WHAT IT READS IS OF BULK AT MOST 1048576: true; the input reads as it did. -/
def fnNodesUptoRow : OpenClaim := { program := "ytpbamdcbaloibaa", sum := "a20c2203b94738f2f8c2af943e960a1b66920b6f653f82599509fce8e575a72f", func := "loop.example/g00246/laws.FnNodes", spec := "fnNodes", apart := false, narrowed := true }
def FnNodesUptoSaid : Prop := fnNodesUptoRow.holds Try.pinned (OpenSpec.upto fnNodesSpec)

end Rows
end Go.Proofs.Ytpbamdcbaloibaa
