/-
  No cell of these rows narrows 'for every input' (looked for: loops, veiled, ifaces, maps, wideKeys, modest, calm, conditions, laid).
  DERIVED. THE GIVEN ROWS OF THIS SEAT. 6 by the template 'for every input the law returns true; each argument reads behind the call as it read before'; 0 by the template 'total and deterministic' (their statements: YtmodnnokcmabhaaTotals.lean).
  GIVEN WITH THE SEED: the statements are not yours to turn. If you find one false, say at which input.
  Laid BY PROGRAM, IN A SANDBOX (cutbox-rows.mjs): the forced cells as the released guide's own fill.sh prints them over the translation 508c06ef813e44f1… (all of the seat's roots in one cut). By AI agents, Wed Nov 11 2026. No macro, syntax, notation, axiom, sorry.
-/
import Derived.Test.YtmodnnokcmabhaaChecked
import GoSem.Claim
import GoSem.ClaimJoined
import GoSem.ClaimMapViews
import Derived.JoinedTies
import Derived.KernelRfl
namespace Go.Proofs.Ytmodnnokcmabhaa
/- THE CELL 'sum', in the pinned program and in every row, IS THE sha256 OF THE DUMP (.gsa) THAT YtmodnnokcmabhaaProg.lean LOADS. Nothing in Lean hashes anything: it is a label: what it is worth is what the hold of that sum in a sandbox is worth. -/
noncomputable def Try.pinned : Pinned := { name := "ytmodnnokcmabhaa", sum := "508c06ef813e44f1b0fd3db8db2816fed92b9a40750100526680274ffb989fa8", checked := Try.checked }
namespace Rows
def none {H : Type} : Left H := { results := [], args := [] }

/-- 'laws.FnExactKidDrop': WHATEVER THE INPUT: true; the input reads as it did. -/
def fnExactKidDropSpec : ChangeSpec := { name := "fnExactKidDrop", fn := fun _ => fun
  | [d1, d2] => { results := [.lit (.bool true)], args := [d1, d2] }
  | _ => none }
def fnExactKidDropRow : OpenClaim := { program := "ytmodnnokcmabhaa", sum := "508c06ef813e44f1b0fd3db8db2816fed92b9a40750100526680274ffb989fa8", func := "loop.example/g00246/laws.FnExactKidDrop", spec := "fnExactKidDrop", apart := false }
def FnExactKidDropSaid : Prop := fnExactKidDropRow.holds Try.pinned (OpenSpec.ofChange fnExactKidDropSpec)

/-- ITS FALSE NEIGHBOUR: 'it returns false'. Refute it at one input. -/
def fnExactKidDropWrong : ChangeSpec := { name := "fnExactKidDrop", fn := fun _ => fun
  | [d1, d2] => { results := [.lit (.bool false)], args := [d1, d2] }
  | _ => none }
def FnExactKidDropWrongFalsely : Prop := fnExactKidDropRow.holds Try.pinned (OpenSpec.ofChange fnExactKidDropWrong)

/-- 'laws.FnExactKidPut': WHATEVER THE INPUT: true; the input reads as it did. -/
def fnExactKidPutSpec : ChangeSpec := { name := "fnExactKidPut", fn := fun _ => fun
  | [d1, d2, d3] => { results := [.lit (.bool true)], args := [d1, d2, d3] }
  | _ => none }
def fnExactKidPutRow : OpenClaim := { program := "ytmodnnokcmabhaa", sum := "508c06ef813e44f1b0fd3db8db2816fed92b9a40750100526680274ffb989fa8", func := "loop.example/g00246/laws.FnExactKidPut", spec := "fnExactKidPut", inPlace := ["slices.overlaps[string]", "slices.overlaps[int]"], apart := false }
def FnExactKidPutSaid : Prop := fnExactKidPutRow.holds Try.pinned (OpenSpec.ofChange fnExactKidPutSpec)

/-- ITS FALSE NEIGHBOUR: 'it returns false'. Refute it at one input. -/
def fnExactKidPutWrong : ChangeSpec := { name := "fnExactKidPut", fn := fun _ => fun
  | [d1, d2, d3] => { results := [.lit (.bool false)], args := [d1, d2, d3] }
  | _ => none }
def FnExactKidPutWrongFalsely : Prop := fnExactKidPutRow.holds Try.pinned (OpenSpec.ofChange fnExactKidPutWrong)

/-- 'laws.FnKids': WHATEVER THE INPUT: true; the input reads as it did. -/
def fnKidsSpec : ChangeSpec := { name := "fnKids", fn := fun _ => fun
  | [d] => { results := [.lit (.bool true)], args := [d] }
  | _ => none }
def fnKidsRow : OpenClaim := { program := "ytmodnnokcmabhaa", sum := "508c06ef813e44f1b0fd3db8db2816fed92b9a40750100526680274ffb989fa8", func := "loop.example/g00246/laws.FnKids", spec := "fnKids", inPlace := ["slices.overlaps[string]", "slices.overlaps[int]"], apart := false }
def FnKidsSaid : Prop := fnKidsRow.holds Try.pinned (OpenSpec.ofChange fnKidsSpec)

/-- ITS FALSE NEIGHBOUR: 'it returns false'. Refute it at one input. -/
def fnKidsWrong : ChangeSpec := { name := "fnKids", fn := fun _ => fun
  | [d] => { results := [.lit (.bool false)], args := [d] }
  | _ => none }
def FnKidsWrongFalsely : Prop := fnKidsRow.holds Try.pinned (OpenSpec.ofChange fnKidsWrong)

/-- 'laws.FnMounted': WHATEVER THE INPUT: true; the input reads as it did. -/
def fnMountedSpec : ChangeSpec := { name := "fnMounted", fn := fun _ => fun
  | [d] => { results := [.lit (.bool true)], args := [d] }
  | _ => none }
def fnMountedRow : OpenClaim := { program := "ytmodnnokcmabhaa", sum := "508c06ef813e44f1b0fd3db8db2816fed92b9a40750100526680274ffb989fa8", func := "loop.example/g00246/laws.FnMounted", spec := "fnMounted", unfollowed := true, recurses := true, apart := false }
def FnMountedSaid : Prop := fnMountedRow.holds Try.pinned (OpenSpec.ofChange fnMountedSpec)

/-- ITS FALSE NEIGHBOUR: 'it returns false'. Refute it at one input. -/
def fnMountedWrong : ChangeSpec := { name := "fnMounted", fn := fun _ => fun
  | [d] => { results := [.lit (.bool false)], args := [d] }
  | _ => none }
def FnMountedWrongFalsely : Prop := fnMountedRow.holds Try.pinned (OpenSpec.ofChange fnMountedWrong)

/-- 'laws.FnChip': WHATEVER THE INPUT: true; the input reads as it did. -/
def fnChipSpec : ChangeSpec := { name := "fnChip", fn := fun _ => fun
  | [d] => { results := [.lit (.bool true)], args := [d] }
  | _ => none }
def fnChipRow : OpenClaim := { program := "ytmodnnokcmabhaa", sum := "508c06ef813e44f1b0fd3db8db2816fed92b9a40750100526680274ffb989fa8", func := "loop.example/g00246/laws.FnChip", spec := "fnChip", unfollowed := true, recurses := true, apart := false }
def FnChipSaid : Prop := fnChipRow.holds Try.pinned (OpenSpec.ofChange fnChipSpec)

/-- ITS FALSE NEIGHBOUR: 'it returns false'. Refute it at one input. -/
def fnChipWrong : ChangeSpec := { name := "fnChip", fn := fun _ => fun
  | [d] => { results := [.lit (.bool false)], args := [d] }
  | _ => none }
def FnChipWrongFalsely : Prop := fnChipRow.holds Try.pinned (OpenSpec.ofChange fnChipWrong)

/-- 'laws.FnTorn': WHATEVER THE INPUT: true; the input reads as it did. -/
def fnTornSpec : ChangeSpec := { name := "fnTorn", fn := fun _ => fun
  | [d] => { results := [.lit (.bool true)], args := [d] }
  | _ => none }
def fnTornRow : OpenClaim := { program := "ytmodnnokcmabhaa", sum := "508c06ef813e44f1b0fd3db8db2816fed92b9a40750100526680274ffb989fa8", func := "loop.example/g00246/laws.FnTorn", spec := "fnTorn", unfollowed := true, recurses := true, apart := false }
def FnTornSaid : Prop := fnTornRow.holds Try.pinned (OpenSpec.ofChange fnTornSpec)

/-- ITS FALSE NEIGHBOUR: 'it returns false'. Refute it at one input. -/
def fnTornWrong : ChangeSpec := { name := "fnTorn", fn := fun _ => fun
  | [d] => { results := [.lit (.bool false)], args := [d] }
  | _ => none }
def FnTornWrongFalsely : Prop := fnTornRow.holds Try.pinned (OpenSpec.ofChange fnTornWrong)

/- THE SECOND FORM. 'bulk': how many values and letters a reading holds, each counted each time it is reached (what is shared counts as often as it is met; a slice's spare places count too). A statement '..UptoSaid' is the law's where the arguments, and the package variables that the reading takes, are together of bulk at most 1048576: NARROWER than '..Said'. Prove '..Said' where nothing that the law and all that it calls make is longer than what came in: it says more and counts as full. Else prove '..UptoSaid'. A law counts once. -/
mutual
def uptoBulk {H : Type} : DataW H → Nat
  | .lit (.string bytes) => bytes.length + 1
  | .lit _ => 1
  | .nil => 1
  | .ptr d => uptoBulk d + 1
  | .slice elems spare => uptoBulkAll elems + uptoBulkAll spare + 1
  | .agg parts => uptoBulkAll parts + 1
  | .iface _ d => uptoBulk d + 1
  | .map entries => uptoBulkEntries entries + 1
  | .held _ => 1
def uptoBulkAll {H : Type} : List (DataW H) → Nat
  | [] => 0
  | d :: r => uptoBulk d + uptoBulkAll r
def uptoBulkEntries {H : Type} : List (Lit × DataW H) → Nat
  | [] => 0
  | x :: r => uptoBulkEntry x + uptoBulkEntries r
def uptoBulkEntry {H : Type} : Lit × DataW H → Nat
  | (.string bytes, d) => bytes.length + uptoBulk d + 1
  | (_, d) => uptoBulk d + 1
 end
def uptoSmall : (H : Type) → List (DataW H) → Bool := fun _ ds => decide (uptoBulkAll ds ≤ 1048576)
def OpenSpec.upto (s : _root_.Go.ChangeSpec) : _root_.Go.OpenSpec := { _root_.Go.OpenSpec.ofChange s with cond := some uptoSmall }

/-- 'laws.FnExactKidDrop', WHERE WHAT IT READS IS OF BULK AT MOST 1048576: true; the input reads as it did. -/
def fnExactKidDropUptoRow : OpenClaim := { program := "ytmodnnokcmabhaa", sum := "508c06ef813e44f1b0fd3db8db2816fed92b9a40750100526680274ffb989fa8", func := "loop.example/g00246/laws.FnExactKidDrop", spec := "fnExactKidDrop", apart := false, narrowed := true }
def FnExactKidDropUptoSaid : Prop := fnExactKidDropUptoRow.holds Try.pinned (OpenSpec.upto fnExactKidDropSpec)

/-- 'laws.FnExactKidPut', WHERE WHAT IT READS IS OF BULK AT MOST 1048576: true; the input reads as it did. -/
def fnExactKidPutUptoRow : OpenClaim := { program := "ytmodnnokcmabhaa", sum := "508c06ef813e44f1b0fd3db8db2816fed92b9a40750100526680274ffb989fa8", func := "loop.example/g00246/laws.FnExactKidPut", spec := "fnExactKidPut", inPlace := ["slices.overlaps[string]", "slices.overlaps[int]"], apart := false, narrowed := true }
def FnExactKidPutUptoSaid : Prop := fnExactKidPutUptoRow.holds Try.pinned (OpenSpec.upto fnExactKidPutSpec)

/-- 'laws.FnKids', WHERE WHAT IT READS IS OF BULK AT MOST 1048576: true; the input reads as it did. -/
def fnKidsUptoRow : OpenClaim := { program := "ytmodnnokcmabhaa", sum := "508c06ef813e44f1b0fd3db8db2816fed92b9a40750100526680274ffb989fa8", func := "loop.example/g00246/laws.FnKids", spec := "fnKids", inPlace := ["slices.overlaps[string]", "slices.overlaps[int]"], apart := false, narrowed := true }
def FnKidsUptoSaid : Prop := fnKidsUptoRow.holds Try.pinned (OpenSpec.upto fnKidsSpec)

/-- 'laws.FnMounted', WHERE WHAT IT READS IS OF BULK AT MOST 1048576: true; the input reads as it did. -/
def fnMountedUptoRow : OpenClaim := { program := "ytmodnnokcmabhaa", sum := "508c06ef813e44f1b0fd3db8db2816fed92b9a40750100526680274ffb989fa8", func := "loop.example/g00246/laws.FnMounted", spec := "fnMounted", unfollowed := true, recurses := true, apart := false, narrowed := true }
def FnMountedUptoSaid : Prop := fnMountedUptoRow.holds Try.pinned (OpenSpec.upto fnMountedSpec)

/-- 'laws.FnChip', WHERE WHAT IT READS IS OF BULK AT MOST 1048576: true; the input reads as it did. -/
def fnChipUptoRow : OpenClaim := { program := "ytmodnnokcmabhaa", sum := "508c06ef813e44f1b0fd3db8db2816fed92b9a40750100526680274ffb989fa8", func := "loop.example/g00246/laws.FnChip", spec := "fnChip", unfollowed := true, recurses := true, apart := false, narrowed := true }
def FnChipUptoSaid : Prop := fnChipUptoRow.holds Try.pinned (OpenSpec.upto fnChipSpec)

/-- 'laws.FnTorn', WHERE WHAT IT READS IS OF BULK AT MOST 1048576: true; the input reads as it did. -/
def fnTornUptoRow : OpenClaim := { program := "ytmodnnokcmabhaa", sum := "508c06ef813e44f1b0fd3db8db2816fed92b9a40750100526680274ffb989fa8", func := "loop.example/g00246/laws.FnTorn", spec := "fnTorn", unfollowed := true, recurses := true, apart := false, narrowed := true }
def FnTornUptoSaid : Prop := fnTornUptoRow.holds Try.pinned (OpenSpec.upto fnTornSpec)

end Rows
end Go.Proofs.Ytmodnnokcmabhaa
