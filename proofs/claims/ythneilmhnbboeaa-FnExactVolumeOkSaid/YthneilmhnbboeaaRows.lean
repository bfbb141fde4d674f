/-
  No cell of these rows narrows 'for every input' (looked for: loops, veiled, ifaces, maps, wideKeys, modest, calm, conditions, laid).
  DERIVED. THE GIVEN ROWS OF THIS SEAT. 12 by the template 'for every input the law returns true; each argument reads behind the call as it read before'; 0 by the template 'total and deterministic' (their statements: YthneilmhnbboeaaTotals.lean).
  GIVEN WITH THE SEED: the statements are not yours to turn. If you find one false, say at which input.
  Laid BY PROGRAM, IN A SANDBOX (cutbox-rows.mjs): the forced cells as the released guide's own fill.sh prints them over the translation e19c04383ef52fa7… (all of the seat's roots in one cut). By AI agents, Wed Nov 11 2026. No macro, syntax, notation, axiom, sorry.
-/
import Derived.Test.YthneilmhnbboeaaChecked
import GoSem.Claim
import GoSem.ClaimJoined
import GoSem.ClaimMapViews
import Derived.JoinedTies
import Derived.KernelRfl
namespace Go.Proofs.Ythneilmhnbboeaa
/- THE CELL 'sum', in the pinned program and in every row, IS THE sha256 OF THE DUMP (.gsa) THAT YthneilmhnbboeaaProg.lean LOADS. Nothing in Lean hashes anything: it is a label: what it is worth is what the hold of that sum in a sandbox is worth. -/
noncomputable def Try.pinned : Pinned := { name := "ythneilmhnbboeaa", sum := "e19c04383ef52fa73bc964db143a77240321ea3185edfda0727502f22144ab95", checked := Try.checked }
namespace Rows
def none {H : Type} : Left H := { results := [], args := [] }

/-- 'laws.FnExactRecRead': WHATEVER THE INPUT: true; the input reads as it did. -/
def fnExactRecReadSpec : ChangeSpec := { name := "fnExactRecRead", fn := fun _ => fun
  | [d] => { results := [.lit (.bool true)], args := [d] }
  | _ => none }
def fnExactRecReadRow : OpenClaim := { program := "ythneilmhnbboeaa", sum := "e19c04383ef52fa73bc964db143a77240321ea3185edfda0727502f22144ab95", func := "loop.example/g00246/laws.FnExactRecRead", spec := "fnExactRecRead", apart := false }
def FnExactRecReadSaid : Prop := fnExactRecReadRow.holds Try.pinned (OpenSpec.ofChange fnExactRecReadSpec)

/-- ITS FALSE NEIGHBOUR: 'it returns false'. Refute it at one input. -/
def fnExactRecReadWrong : ChangeSpec := { name := "fnExactRecRead", fn := fun _ => fun
  | [d] => { results := [.lit (.bool false)], args := [d] }
  | _ => none }
def FnExactRecReadWrongFalsely : Prop := fnExactRecReadRow.holds Try.pinned (OpenSpec.ofChange fnExactRecReadWrong)

/-- 'laws.FnNums': WHATEVER THE INPUT: true; the input reads as it did. -/
def fnNumsSpec : ChangeSpec := { name := "fnNums", fn := fun _ => fun
  | [d] => { results := [.lit (.bool true)], args := [d] }
  | _ => none }
def fnNumsRow : OpenClaim := { program := "ythneilmhnbboeaa", sum := "e19c04383ef52fa73bc964db143a77240321ea3185edfda0727502f22144ab95", func := "loop.example/g00246/laws.FnNums", spec := "fnNums", apart := false }
def FnNumsSaid : Prop := fnNumsRow.holds Try.pinned (OpenSpec.ofChange fnNumsSpec)

/-- ITS FALSE NEIGHBOUR: 'it returns false'. Refute it at one input. -/
def fnNumsWrong : ChangeSpec := { name := "fnNums", fn := fun _ => fun
  | [d] => { results := [.lit (.bool false)], args := [d] }
  | _ => none }
def FnNumsWrongFalsely : Prop := fnNumsRow.holds Try.pinned (OpenSpec.ofChange fnNumsWrong)

/-- 'laws.FnExactNodeText': WHATEVER THE INPUT: true; the input reads as it did. -/
def fnExactNodeTextSpec : ChangeSpec := { name := "fnExactNodeText", fn := fun _ => fun
  | [d] => { results := [.lit (.bool true)], args := [d] }
  | _ => none }
def fnExactNodeTextRow : OpenClaim := { program := "ythneilmhnbboeaa", sum := "e19c04383ef52fa73bc964db143a77240321ea3185edfda0727502f22144ab95", func := "loop.example/g00246/laws.FnExactNodeText", spec := "fnExactNodeText", apart := false }
def FnExactNodeTextSaid : Prop := fnExactNodeTextRow.holds Try.pinned (OpenSpec.ofChange fnExactNodeTextSpec)

/-- ITS FALSE NEIGHBOUR: 'it returns false'. Refute it at one input. -/
def fnExactNodeTextWrong : ChangeSpec := { name := "fnExactNodeText", fn := fun _ => fun
  | [d] => { results := [.lit (.bool false)], args := [d] }
  | _ => none }
def FnExactNodeTextWrongFalsely : Prop := fnExactNodeTextRow.holds Try.pinned (OpenSpec.ofChange fnExactNodeTextWrong)

/-- 'laws.FnExactLogText': WHATEVER THE INPUT: true; the input reads as it did. -/
def fnExactLogTextSpec : ChangeSpec := { name := "fnExactLogText", fn := fun _ => fun
  | [d] => { results := [.lit (.bool true)], args := [d] }
  | _ => none }
def fnExactLogTextRow : OpenClaim := { program := "ythneilmhnbboeaa", sum := "e19c04383ef52fa73bc964db143a77240321ea3185edfda0727502f22144ab95", func := "loop.example/g00246/laws.FnExactLogText", spec := "fnExactLogText", unfollowed := true, recurses := true, apart := false }
def FnExactLogTextSaid : Prop := fnExactLogTextRow.holds Try.pinned (OpenSpec.ofChange fnExactLogTextSpec)

/-- ITS FALSE NEIGHBOUR: 'it returns false'. Refute it at one input. -/
def fnExactLogTextWrong : ChangeSpec := { name := "fnExactLogText", fn := fun _ => fun
  | [d] => { results := [.lit (.bool false)], args := [d] }
  | _ => none }
def FnExactLogTextWrongFalsely : Prop := fnExactLogTextRow.holds Try.pinned (OpenSpec.ofChange fnExactLogTextWrong)

/-- 'laws.FnExactLogRead': WHATEVER THE INPUT: true; the input reads as it did. -/
def fnExactLogReadSpec : ChangeSpec := { name := "fnExactLogRead", fn := fun _ => fun
  | [d] => { results := [.lit (.bool true)], args := [d] }
  | _ => none }
def fnExactLogReadRow : OpenClaim := { program := "ythneilmhnbboeaa", sum := "e19c04383ef52fa73bc964db143a77240321ea3185edfda0727502f22144ab95", func := "loop.example/g00246/laws.FnExactLogRead", spec := "fnExactLogRead", unfollowed := true, recurses := true, apart := false }
def FnExactLogReadSaid : Prop := fnExactLogReadRow.holds Try.pinned (OpenSpec.ofChange fnExactLogReadSpec)

/-- ITS FALSE NEIGHBOUR: 'it returns false'. Refute it at one input. -/
def fnExactLogReadWrong : ChangeSpec := { name := "fnExactLogRead", fn := fun _ => fun
  | [d] => { results := [.lit (.bool false)], args := [d] }
  | _ => none }
def FnExactLogReadWrongFalsely : Prop := fnExactLogReadRow.holds Try.pinned (OpenSpec.ofChange fnExactLogReadWrong)

/-- 'laws.FnRecords': WHATEVER THE INPUT: true; the input reads as it did. -/
def fnRecordsSpec : ChangeSpec := { name := "fnRecords", fn := fun _ => fun
  | [d] => { results := [.lit (.bool true)], args := [d] }
  | _ => none }
def fnRecordsRow : OpenClaim := { program := "ythneilmhnbboeaa", sum := "e19c04383ef52fa73bc964db143a77240321ea3185edfda0727502f22144ab95", func := "loop.example/g00246/laws.FnRecords", spec := "fnRecords", apart := false }
def FnRecordsSaid : Prop := fnRecordsRow.holds Try.pinned (OpenSpec.ofChange fnRecordsSpec)

/-- ITS FALSE NEIGHBOUR: 'it returns false'. Refute it at one input. -/
def fnRecordsWrong : ChangeSpec := { name := "fnRecords", fn := fun _ => fun
  | [d] => { results := [.lit (.bool false)], args := [d] }
  | _ => none }
def FnRecordsWrongFalsely : Prop := fnRecordsRow.holds Try.pinned (OpenSpec.ofChange fnRecordsWrong)

/-- 'laws.FnExactNodeRead': WHATEVER THE INPUT: true; the input reads as it did. -/
def fnExactNodeReadSpec : ChangeSpec := { name := "fnExactNodeRead", fn := fun _ => fun
  | [d] => { results := [.lit (.bool true)], args := [d] }
  | _ => none }
def fnExactNodeReadRow : OpenClaim := { program := "ythneilmhnbboeaa", sum := "e19c04383ef52fa73bc964db143a77240321ea3185edfda0727502f22144ab95", func := "loop.example/g00246/laws.FnExactNodeRead", spec := "fnExactNodeRead", apart := false }
def FnExactNodeReadSaid : Prop := fnExactNodeReadRow.holds Try.pinned (OpenSpec.ofChange fnExactNodeReadSpec)

/-- ITS FALSE NEIGHBOUR: 'it returns false'. Refute it at one input. -/
def fnExactNodeReadWrong : ChangeSpec := { name := "fnExactNodeRead", fn := fun _ => fun
  | [d] => { results := [.lit (.bool false)], args := [d] }
  | _ => none }
def FnExactNodeReadWrongFalsely : Prop := fnExactNodeReadRow.holds Try.pinned (OpenSpec.ofChange fnExactNodeReadWrong)

/-- 'laws.FnExactNodeAt': WHATEVER THE INPUT: true; the input reads as it did. -/
def fnExactNodeAtSpec : ChangeSpec := { name := "fnExactNodeAt", fn := fun _ => fun
  | [d1, d2] => { results := [.lit (.bool true)], args := [d1, d2] }
  | _ => none }
def fnExactNodeAtRow : OpenClaim := { program := "ythneilmhnbboeaa", sum := "e19c04383ef52fa73bc964db143a77240321ea3185edfda0727502f22144ab95", func := "loop.example/g00246/laws.FnExactNodeAt", spec := "fnExactNodeAt", apart := false }
def FnExactNodeAtSaid : Prop := fnExactNodeAtRow.holds Try.pinned (OpenSpec.ofChange fnExactNodeAtSpec)

/-- ITS FALSE NEIGHBOUR: 'it returns false'. Refute it at one input. -/
def fnExactNodeAtWrong : ChangeSpec := { name := "fnExactNodeAt", fn := fun _ => fun
  | [d1, d2] => { results := [.lit (.bool false)], args := [d1, d2] }
  | _ => none }
def FnExactNodeAtWrongFalsely : Prop := fnExactNodeAtRow.holds Try.pinned (OpenSpec.ofChange fnExactNodeAtWrong)

/-- 'laws.FnNodes': WHATEVER THE INPUT: true; the input reads as it did. -/
def fnNodesSpec : ChangeSpec := { name := "fnNodes", fn := fun _ => fun
  | [d] => { results := [.lit (.bool true)], args := [d] }
  | _ => none }
def fnNodesRow : OpenClaim := { program := "ythneilmhnbboeaa", sum := "e19c04383ef52fa73bc964db143a77240321ea3185edfda0727502f22144ab95", func := "loop.example/g00246/laws.FnNodes", spec := "fnNodes", apart := false }
def FnNodesSaid : Prop := fnNodesRow.holds Try.pinned (OpenSpec.ofChange fnNodesSpec)

/-- ITS FALSE NEIGHBOUR: 'it returns false'. Refute it at one input. -/
def fnNodesWrong : ChangeSpec := { name := "fnNodes", fn := fun _ => fun
  | [d] => { results := [.lit (.bool false)], args := [d] }
  | _ => none }
def FnNodesWrongFalsely : Prop := fnNodesRow.holds Try.pinned (OpenSpec.ofChange fnNodesWrong)

/-- 'laws.FnExactVolumeOk': WHATEVER THE INPUT: true; the input reads as it did. -/
def fnExactVolumeOkSpec : ChangeSpec := { name := "fnExactVolumeOk", fn := fun _ => fun
  | [d] => { results := [.lit (.bool true)], args := [d] }
  | _ => none }
def fnExactVolumeOkRow : OpenClaim := { program := "ythneilmhnbboeaa", sum := "e19c04383ef52fa73bc964db143a77240321ea3185edfda0727502f22144ab95", func := "loop.example/g00246/laws.FnExactVolumeOk", spec := "fnExactVolumeOk", recurses := true, apart := false }
def FnExactVolumeOkSaid : Prop := fnExactVolumeOkRow.holds Try.pinned (OpenSpec.ofChange fnExactVolumeOkSpec)

/-- ITS FALSE NEIGHBOUR: 'it returns false'. Refute it at one input. -/
def fnExactVolumeOkWrong : ChangeSpec := { name := "fnExactVolumeOk", fn := fun _ => fun
  | [d] => { results := [.lit (.bool false)], args := [d] }
  | _ => none }
def FnExactVolumeOkWrongFalsely : Prop := fnExactVolumeOkRow.holds Try.pinned (OpenSpec.ofChange fnExactVolumeOkWrong)

/-- 'laws.FnExactVolumeNew': WHATEVER THE INPUT: true; the input reads as it did. -/
def fnExactVolumeNewSpec : ChangeSpec := { name := "fnExactVolumeNew", fn := fun _ => fun
  | [] => { results := [.lit (.bool true)], args := [] }
  | _ => none }
def fnExactVolumeNewRow : OpenClaim := { program := "ythneilmhnbboeaa", sum := "e19c04383ef52fa73bc964db143a77240321ea3185edfda0727502f22144ab95", func := "loop.example/g00246/laws.FnExactVolumeNew", spec := "fnExactVolumeNew", apart := false }
def FnExactVolumeNewSaid : Prop := fnExactVolumeNewRow.holds Try.pinned (OpenSpec.ofChange fnExactVolumeNewSpec)

/-- ITS FALSE NEIGHBOUR: 'it returns false'. Refute it at one input. -/
def fnExactVolumeNewWrong : ChangeSpec := { name := "fnExactVolumeNew", fn := fun _ => fun
  | [] => { results := [.lit (.bool false)], args := [] }
  | _ => none }
def FnExactVolumeNewWrongFalsely : Prop := fnExactVolumeNewRow.holds Try.pinned (OpenSpec.ofChange fnExactVolumeNewWrong)

/-- 'laws.FnExactKidDrop': WHATEVER THE INPUT: true; the input reads as it did. -/
def fnExactKidDropSpec : ChangeSpec := { name := "fnExactKidDrop", fn := fun _ => fun
  | [d1, d2] => { results := [.lit (.bool true)], args := [d1, d2] }
  | _ => none }
def fnExactKidDropRow : OpenClaim := { program := "ythneilmhnbboeaa", sum := "e19c04383ef52fa73bc964db143a77240321ea3185edfda0727502f22144ab95", func := "loop.example/g00246/laws.FnExactKidDrop", spec := "fnExactKidDrop", apart := false }
def FnExactKidDropSaid : Prop := fnExactKidDropRow.holds Try.pinned (OpenSpec.ofChange fnExactKidDropSpec)

/-- ITS FALSE NEIGHBOUR: 'it returns false'. Refute it at one input. -/
def fnExactKidDropWrong : ChangeSpec := { name := "fnExactKidDrop", fn := fun _ => fun
  | [d1, d2] => { results := [.lit (.bool false)], args := [d1, d2] }
  | _ => none }
def FnExactKidDropWrongFalsely : Prop := fnExactKidDropRow.holds Try.pinned (OpenSpec.ofChange fnExactKidDropWrong)

/- THE SECOND FORM. 'bulk': how many values and letters a reading holds, each counted each time it is reached (what is shared counts as often as it is met; a slice's spare places count too). A statement '..UptoSaid' is the law's where the arguments, and the package variables that the reading takes, are together of bulk at most 1048576: NARROWER than '..Said'. Prove '..Said' where nothing that the law and all that it calls make is longer than what came in: it says more and counts as full. Else prove '..UptoSaid'. A law counts once. -/
mutual
def uptoBulk {H : Type} : DataW H → Nat
  | .lit (.string bytes) => bytes.length + 1
  | .lit _ => 1
  | .nil => 1
  | .ptr d => uptoBulk d + 1
  | .slice elems spare => uptoBulkAll elems + uptoBulkAll spare + 1
  | .agg parts => uptoBulkAll parts + 1
  | .iface _ d => uptoBulk d + 1
  | .map entries => uptoBulkEntries entries + 1
  | .held _ => 1
def uptoBulkAll {H : Type} : List (DataW H) → Nat
  | [] => 0
  | d :: r => uptoBulk d + uptoBulkAll r
def uptoBulkEntries {H : Type} : List (Lit × DataW H) → Nat
  | [] => 0
  | x :: r => uptoBulkEntry x + uptoBulkEntries r
def uptoBulkEntry {H : Type} : Lit × DataW H → Nat
  | (.string bytes, d) => bytes.length + uptoBulk d + 1
  | (_, d) => uptoBulk d + 1
 end
def uptoSmall : (H : Type) → List (DataW H) → Bool := fun _ ds => decide (uptoBulkAll ds ≤ 1048576)
def OpenSpec.upto (s : _root_.Go.ChangeSpec) : _root_.Go.OpenSpec := { _root_.Go.OpenSpec.ofChange s with cond := some uptoSmall }

/-- 'laws.FnExactRecRead', WHERE WHAT IT READS IS OF BULK AT MOST 1048576: true; the input reads as it did. -/
def fnExactRecReadUptoRow : OpenClaim := { program := "ythneilmhnbboeaa", sum := "e19c04383ef52fa73bc964db143a77240321ea3185edfda0727502f22144ab95", func := "loop.example/g00246/laws.FnExactRecRead", spec := "fnExactRecRead", apart := false, narrowed := true }
def FnExactRecReadUptoSaid : Prop := fnExactRecReadUptoRow.holds Try.pinned (OpenSpec.upto fnExactRecReadSpec)

/-- 'laws.FnNums', WHERE WHAT IT READS IS OF BULK AT MOST 1048576: true; the input reads as it did. -/
def fnNumsUptoRow : OpenClaim := { program := "ythneilmhnbboeaa", sum := "e19c04383ef52fa73bc964db143a77240321ea3185edfda0727502f22144ab95", func := "loop.example/g00246/laws.FnNums", spec := "fnNums", apart := false, narrowed := true }
def FnNumsUptoSaid : Prop := fnNumsUptoRow.holds Try.pinned (OpenSpec.upto fnNumsSpec)

/-- 'laws.FnExactNodeText', WHERE WHAT IT READS IS OF BULK AT MOST 1048576: true; the input reads as it did. -/
def fnExactNodeTextUptoRow : OpenClaim := { program := "ythneilmhnbboeaa", sum := "e19c04383ef52fa73bc964db143a77240321ea3185edfda0727502f22144ab95", func := "loop.example/g00246/laws.FnExactNodeText", spec := "fnExactNodeText", apart := false, narrowed := true }
def FnExactNodeTextUptoSaid : Prop := fnExactNodeTextUptoRow.holds Try.pinned (OpenSpec.upto fnExactNodeTextSpec)

/-- 'laws.FnExactLogText', WHERE WHAT IT READS IS OF BULK AT MOST 1048576: true; the input reads as it did. -/
def fnExactLogTextUptoRow : OpenClaim := { program := "ythneilmhnbboeaa", sum := "e19c04383ef52fa73bc964db143a77240321ea3185edfda0727502f22144ab95", func := "loop.example/g00246/laws.FnExactLogText", spec := "fnExactLogText", unfollowed := true, recurses := true, apart := false, narrowed := true }
def FnExactLogTextUptoSaid : Prop := fnExactLogTextUptoRow.holds Try.pinned (OpenSpec.upto fnExactLogTextSpec)

/-- 'laws.FnExactLogRead', WHERE WHAT IT READS IS OF BULK AT MOST 1048576: true; the input reads as it did. -/
def fnExactLogReadUptoRow : OpenClaim := { program := "ythneilmhnbboeaa", sum := "e19c04383ef52fa73bc964db143a77240321ea3185edfda0727502f22144ab95", func := "loop.example/g00246/laws.FnExactLogRead", spec := "fnExactLogRead", unfollowed := true, recurses := true, apart := false, narrowed := true }
def FnExactLogReadUptoSaid : Prop := fnExactLogReadUptoRow.holds Try.pinned (OpenSpec.upto fnExactLogReadSpec)

/-- 'laws.FnRecords', WHERE WHAT IT READS IS OF BULK AT MOST 1048576: true; the input reads as it did. -/
def fnRecordsUptoRow : OpenClaim := { program := "ythneilmhnbboeaa", sum := "e19c04383ef52fa73bc964db143a77240321ea3185edfda0727502f22144ab95", func := "loop.example/g00246/laws.FnRecords", spec := "fnRecords", apart := false, narrowed := true }
def FnRecordsUptoSaid : Prop := fnRecordsUptoRow.holds Try.pinned (OpenSpec.upto fnRecordsSpec)

/-- 'laws.FnExactNodeRead', WHERE WHAT IT READS IS OF BULK AT MOST 1048576: true; the input reads as it did. -/
def fnExactNodeReadUptoRow : OpenClaim := { program := "ythneilmhnbboeaa", sum := "e19c04383ef52fa73bc964db143a77240321ea3185edfda0727502f22144ab95", func := "loop.example/g00246/laws.FnExactNodeRead", spec := "fnExactNodeRead", apart := false, narrowed := true }
def FnExactNodeReadUptoSaid : Prop := fnExactNodeReadUptoRow.holds Try.pinned (OpenSpec.upto fnExactNodeReadSpec)

/-- 'laws.FnExactNodeAt', WHERE WHAT IT READS IS OF BULK AT MOST 1048576: true; the input reads as it did. -/
def fnExactNodeAtUptoRow : OpenClaim := { program := "ythneilmhnbboeaa", sum := "e19c04383ef52fa73bc964db143a77240321ea3185edfda0727502f22144ab95", func := "loop.example/g00246/laws.FnExactNodeAt", spec := "fnExactNodeAt", apart := false, narrowed := true }
def FnExactNodeAtUptoSaid : Prop := fnExactNodeAtUptoRow.holds Try.pinned (OpenSpec.upto fnExactNodeAtSpec)

/-- 'laws.FnNodes', WHERE WHAT IT READS IS OF BULK AT MOST 1048576: true; the input reads as it did. -/
def fnNodesUptoRow : OpenClaim := { program := "ythneilmhnbboeaa", sum := "e19c04383ef52fa73bc964db143a77240321ea3185edfda0727502f22144ab95", func := "loop.example/g00246/laws.FnNodes", spec := "fnNodes", apart := false, narrowed := true }
def FnNodesUptoSaid : Prop := fnNodesUptoRow.holds Try.pinned (OpenSpec.upto fnNodesSpec)

/-- 'laws.FnExactVolumeOk', WHERE WHAT IT READS IS OF BULK AT MOST 1048576: true; the input reads as it did. -/
def fnExactVolumeOkUptoRow : OpenClaim := { program := "ythneilmhnbboeaa", sum := "e19c04383ef52fa73bc964db143a77240321ea3185edfda0727502f22144ab95", func := "loop.example/g00246/laws.FnExactVolumeOk", spec := "fnExactVolumeOk", recurses := true, apart := false, narrowed := true }
def FnExactVolumeOkUptoSaid : Prop := fnExactVolumeOkUptoRow.holds Try.pinned (OpenSpec.upto fnExactVolumeOkSpec)

/-- 'laws.FnExactVolumeNew', WHERE WHAT IT READS IS OF BULK AT MOST 1048576: true; the input reads as it did. -/
def fnExactVolumeNewUptoRow : OpenClaim := { program := "ythneilmhnbboeaa", sum := "e19c04383ef52fa73bc964db143a77240321ea3185edfda0727502f22144ab95", func := "loop.example/g00246/laws.FnExactVolumeNew", spec := "fnExactVolumeNew", apart := false, narrowed := true }
def FnExactVolumeNewUptoSaid : Prop := fnExactVolumeNewUptoRow.holds Try.pinned (OpenSpec.upto fnExactVolumeNewSpec)

/-- 'laws.FnExactKidDrop', WHERE WHAT IT READS IS OF BULK AT MOST 1048576: true; the input reads as it did. -/
def fnExactKidDropUptoRow : OpenClaim := { program := "ythneilmhnbboeaa", sum := "e19c04383ef52fa73bc964db143a77240321ea3185edfda0727502f22144ab95", func := "loop.example/g00246/laws.FnExactKidDrop", spec := "fnExactKidDrop", apart := false, narrowed := true }
def FnExactKidDropUptoSaid : Prop := fnExactKidDropUptoRow.holds Try.pinned (OpenSpec.upto fnExactKidDropSpec)

end Rows
end Go.Proofs.Ythneilmhnbboeaa
