/-
  No cell of these rows narrows 'for every input' (looked for: loops, veiled, ifaces, maps, wideKeys, modest, calm, conditions, laid).
  DERIVED. THE GIVEN ROWS OF THIS SEAT. 11 by the template 'for every input the law returns true; each argument reads behind the call as it read before'; 0 by the template 'total and deterministic' (their statements: YtenhjfemghpciaaTotals.lean).
  GIVEN WITH THE SEED: the statements are not yours to turn. If you find one false, say at which input.
  Laid BY PROGRAM, IN A SANDBOX (cutbox-rows.mjs): the forced cells as the released guide's own fill.sh prints them over the translation 2cd0b8c29652a9b8… (all of the seat's roots in one cut). By AI agents, Wed Nov 11 2026. No macro, syntax, notation, axiom, sorry.
-/
import Derived.Test.YtenhjfemghpciaaChecked
import GoSem.Claim
import GoSem.ClaimJoined
import GoSem.ClaimMapViews
import Derived.JoinedTies
import Derived.KernelRfl
namespace Go.Proofs.Ytenhjfemghpciaa
/- THE CELL 'sum', in the pinned program and in every row, IS THE sha256 OF THE DUMP (.gsa) THAT YtenhjfemghpciaaProg.lean LOADS. Nothing in Lean hashes anything: it is a label: what it is worth is what the hold of that sum in a sandbox is worth. -/
noncomputable def Try.pinned : Pinned := { name := "ytenhjfemghpciaa", sum := "2cd0b8c29652a9b85f9550f30015a0a89e977da949f26759be31f330093e8ea6", checked := Try.checked }
namespace Rows
def none {H : Type} : Left H := { results := [], args := [] }

/-- 'laws.FnExactKidPut': WHATEVER THE INPUT: true; the input reads as it did. -/
def fnExactKidPutSpec : ChangeSpec := { name := "fnExactKidPut", fn := fun _ => fun
  | [d1, d2, d3] => { results := [.lit (.bool true)], args := [d1, d2, d3] }
  | _ => none }
def fnExactKidPutRow : OpenClaim := { program := "ytenhjfemghpciaa", sum := "2cd0b8c29652a9b85f9550f30015a0a89e977da949f26759be31f330093e8ea6", func := "loop.example/g00246/laws.FnExactKidPut", spec := "fnExactKidPut", inPlace := ["slices.overlaps[string]", "slices.overlaps[int]"], apart := false }
def FnExactKidPutSaid : Prop := fnExactKidPutRow.holds Try.pinned (OpenSpec.ofChange fnExactKidPutSpec)

/-- ITS FALSE NEIGHBOUR: 'it returns false'. Refute it at one input. -/
def fnExactKidPutWrong : ChangeSpec := { name := "fnExactKidPut", fn := fun _ => fun
  | [d1, d2, d3] => { results := [.lit (.bool false)], args := [d1, d2, d3] }
  | _ => none }
def FnExactKidPutWrongFalsely : Prop := fnExactKidPutRow.holds Try.pinned (OpenSpec.ofChange fnExactKidPutWrong)

/-- 'laws.FnKids': WHATEVER THE INPUT: true; the input reads as it did. -/
def fnKidsSpec : ChangeSpec := { name := "fnKids", fn := fun _ => fun
  | [d] => { results := [.lit (.bool true)], args := [d] }
  | _ => none }
def fnKidsRow : OpenClaim := { program := "ytenhjfemghpciaa", sum := "2cd0b8c29652a9b85f9550f30015a0a89e977da949f26759be31f330093e8ea6", func := "loop.example/g00246/laws.FnKids", spec := "fnKids", inPlace := ["slices.overlaps[string]", "slices.overlaps[int]"], apart := false }
def FnKidsSaid : Prop := fnKidsRow.holds Try.pinned (OpenSpec.ofChange fnKidsSpec)

/-- ITS FALSE NEIGHBOUR: 'it returns false'. Refute it at one input. -/
def fnKidsWrong : ChangeSpec := { name := "fnKids", fn := fun _ => fun
  | [d] => { results := [.lit (.bool false)], args := [d] }
  | _ => none }
def FnKidsWrongFalsely : Prop := fnKidsRow.holds Try.pinned (OpenSpec.ofChange fnKidsWrong)

/-- 'laws.FnExactFtlOk': WHATEVER THE INPUT: true; the input reads as it did. -/
def fnExactFtlOkSpec : ChangeSpec := { name := "fnExactFtlOk", fn := fun _ => fun
  | [d] => { results := [.lit (.bool true)], args := [d] }
  | _ => none }
def fnExactFtlOkRow : OpenClaim := { program := "ytenhjfemghpciaa", sum := "2cd0b8c29652a9b85f9550f30015a0a89e977da949f26759be31f330093e8ea6", func := "loop.example/g00246/laws.FnExactFtlOk", spec := "fnExactFtlOk", unfollowed := true, recurses := true, apart := false }
def FnExactFtlOkSaid : Prop := fnExactFtlOkRow.holds Try.pinned (OpenSpec.ofChange fnExactFtlOkSpec)

/-- ITS FALSE NEIGHBOUR: 'it returns false'. Refute it at one input. -/
def fnExactFtlOkWrong : ChangeSpec := { name := "fnExactFtlOk", fn := fun _ => fun
  | [d] => { results := [.lit (.bool false)], args := [d] }
  | _ => none }
def FnExactFtlOkWrongFalsely : Prop := fnExactFtlOkRow.holds Try.pinned (OpenSpec.ofChange fnExactFtlOkWrong)

/-- 'laws.FnExactWears': WHATEVER THE INPUT: true; the input reads as it did. -/
def fnExactWearsSpec : ChangeSpec := { name := "fnExactWears", fn := fun _ => fun
  | [d] => { results := [.lit (.bool true)], args := [d] }
  | _ => none }
def fnExactWearsRow : OpenClaim := { program := "ytenhjfemghpciaa", sum := "2cd0b8c29652a9b85f9550f30015a0a89e977da949f26759be31f330093e8ea6", func := "loop.example/g00246/laws.FnExactWears", spec := "fnExactWears", unfollowed := true, recurses := true, apart := false }
def FnExactWearsSaid : Prop := fnExactWearsRow.holds Try.pinned (OpenSpec.ofChange fnExactWearsSpec)

/-- ITS FALSE NEIGHBOUR: 'it returns false'. Refute it at one input. -/
def fnExactWearsWrong : ChangeSpec := { name := "fnExactWears", fn := fun _ => fun
  | [d] => { results := [.lit (.bool false)], args := [d] }
  | _ => none }
def FnExactWearsWrongFalsely : Prop := fnExactWearsRow.holds Try.pinned (OpenSpec.ofChange fnExactWearsWrong)

/-- 'laws.FnExactSector': WHATEVER THE INPUT: true; the input reads as it did. -/
def fnExactSectorSpec : ChangeSpec := { name := "fnExactSector", fn := fun _ => fun
  | [d1, d2] => { results := [.lit (.bool true)], args := [d1, d2] }
  | _ => none }
def fnExactSectorRow : OpenClaim := { program := "ytenhjfemghpciaa", sum := "2cd0b8c29652a9b85f9550f30015a0a89e977da949f26759be31f330093e8ea6", func := "loop.example/g00246/laws.FnExactSector", spec := "fnExactSector", unfollowed := true, recurses := true, apart := false }
def FnExactSectorSaid : Prop := fnExactSectorRow.holds Try.pinned (OpenSpec.ofChange fnExactSectorSpec)

/-- ITS FALSE NEIGHBOUR: 'it returns false'. Refute it at one input. -/
def fnExactSectorWrong : ChangeSpec := { name := "fnExactSector", fn := fun _ => fun
  | [d1, d2] => { results := [.lit (.bool false)], args := [d1, d2] }
  | _ => none }
def FnExactSectorWrongFalsely : Prop := fnExactSectorRow.holds Try.pinned (OpenSpec.ofChange fnExactSectorWrong)

/-- 'laws.FnExactMount': WHATEVER THE INPUT: true; the input reads as it did. -/
def fnExactMountSpec : ChangeSpec := { name := "fnExactMount", fn := fun _ => fun
  | [d] => { results := [.lit (.bool true)], args := [d] }
  | _ => none }
def fnExactMountRow : OpenClaim := { program := "ytenhjfemghpciaa", sum := "2cd0b8c29652a9b85f9550f30015a0a89e977da949f26759be31f330093e8ea6", func := "loop.example/g00246/laws.FnExactMount", spec := "fnExactMount", unfollowed := true, recurses := true, apart := false }
def FnExactMountSaid : Prop := fnExactMountRow.holds Try.pinned (OpenSpec.ofChange fnExactMountSpec)

/-- ITS FALSE NEIGHBOUR: 'it returns false'. Refute it at one input. -/
def fnExactMountWrong : ChangeSpec := { name := "fnExactMount", fn := fun _ => fun
  | [d] => { results := [.lit (.bool false)], args := [d] }
  | _ => none }
def FnExactMountWrongFalsely : Prop := fnExactMountRow.holds Try.pinned (OpenSpec.ofChange fnExactMountWrong)

/-- 'laws.FnExactView': WHATEVER THE INPUT: true; the input reads as it did. -/
def fnExactViewSpec : ChangeSpec := { name := "fnExactView", fn := fun _ => fun
  | [d] => { results := [.lit (.bool true)], args := [d] }
  | _ => none }
def fnExactViewRow : OpenClaim := { program := "ytenhjfemghpciaa", sum := "2cd0b8c29652a9b85f9550f30015a0a89e977da949f26759be31f330093e8ea6", func := "loop.example/g00246/laws.FnExactView", spec := "fnExactView", unfollowed := true, recurses := true, apart := false }
def FnExactViewSaid : Prop := fnExactViewRow.holds Try.pinned (OpenSpec.ofChange fnExactViewSpec)

/-- ITS FALSE NEIGHBOUR: 'it returns false'. Refute it at one input. -/
def fnExactViewWrong : ChangeSpec := { name := "fnExactView", fn := fun _ => fun
  | [d] => { results := [.lit (.bool false)], args := [d] }
  | _ => none }
def FnExactViewWrongFalsely : Prop := fnExactViewRow.holds Try.pinned (OpenSpec.ofChange fnExactViewWrong)

/-- 'laws.FnExactVolume': WHATEVER THE INPUT: true; the input reads as it did. -/
def fnExactVolumeSpec : ChangeSpec := { name := "fnExactVolume", fn := fun _ => fun
  | [d1, d2] => { results := [.lit (.bool true)], args := [d1, d2] }
  | _ => none }
def fnExactVolumeRow : OpenClaim := { program := "ytenhjfemghpciaa", sum := "2cd0b8c29652a9b85f9550f30015a0a89e977da949f26759be31f330093e8ea6", func := "loop.example/g00246/laws.FnExactVolume", spec := "fnExactVolume", unfollowed := true, recurses := true, apart := false }
def FnExactVolumeSaid : Prop := fnExactVolumeRow.holds Try.pinned (OpenSpec.ofChange fnExactVolumeSpec)

/-- ITS FALSE NEIGHBOUR: 'it returns false'. Refute it at one input. -/
def fnExactVolumeWrong : ChangeSpec := { name := "fnExactVolume", fn := fun _ => fun
  | [d1, d2] => { results := [.lit (.bool false)], args := [d1, d2] }
  | _ => none }
def FnExactVolumeWrongFalsely : Prop := fnExactVolumeRow.holds Try.pinned (OpenSpec.ofChange fnExactVolumeWrong)

/-- 'laws.FnExactLives': WHATEVER THE INPUT: true; the input reads as it did. -/
def fnExactLivesSpec : ChangeSpec := { name := "fnExactLives", fn := fun _ => fun
  | [d1, d2] => { results := [.lit (.bool true)], args := [d1, d2] }
  | _ => none }
def fnExactLivesRow : OpenClaim := { program := "ytenhjfemghpciaa", sum := "2cd0b8c29652a9b85f9550f30015a0a89e977da949f26759be31f330093e8ea6", func := "loop.example/g00246/laws.FnExactLives", spec := "fnExactLives", unfollowed := true, recurses := true, apart := false }
def FnExactLivesSaid : Prop := fnExactLivesRow.holds Try.pinned (OpenSpec.ofChange fnExactLivesSpec)

/-- ITS FALSE NEIGHBOUR: 'it returns false'. Refute it at one input. -/
def fnExactLivesWrong : ChangeSpec := { name := "fnExactLives", fn := fun _ => fun
  | [d1, d2] => { results := [.lit (.bool false)], args := [d1, d2] }
  | _ => none }
def FnExactLivesWrongFalsely : Prop := fnExactLivesRow.holds Try.pinned (OpenSpec.ofChange fnExactLivesWrong)

/-- 'laws.FnExactWorst': WHATEVER THE INPUT: true; the input reads as it did. -/
def fnExactWorstSpec : ChangeSpec := { name := "fnExactWorst", fn := fun _ => fun
  | [d] => { results := [.lit (.bool true)], args := [d] }
  | _ => none }
def fnExactWorstRow : OpenClaim := { program := "ytenhjfemghpciaa", sum := "2cd0b8c29652a9b85f9550f30015a0a89e977da949f26759be31f330093e8ea6", func := "loop.example/g00246/laws.FnExactWorst", spec := "fnExactWorst", unfollowed := true, recurses := true, apart := false }
def FnExactWorstSaid : Prop := fnExactWorstRow.holds Try.pinned (OpenSpec.ofChange fnExactWorstSpec)

/-- ITS FALSE NEIGHBOUR: 'it returns false'. Refute it at one input. -/
def fnExactWorstWrong : ChangeSpec := { name := "fnExactWorst", fn := fun _ => fun
  | [d] => { results := [.lit (.bool false)], args := [d] }
  | _ => none }
def FnExactWorstWrongFalsely : Prop := fnExactWorstRow.holds Try.pinned (OpenSpec.ofChange fnExactWorstWrong)

/-- 'laws.FnMounted': WHATEVER THE INPUT: true; the input reads as it did. -/
def fnMountedSpec : ChangeSpec := { name := "fnMounted", fn := fun _ => fun
  | [d] => { results := [.lit (.bool true)], args := [d] }
  | _ => none }
def fnMountedRow : OpenClaim := { program := "ytenhjfemghpciaa", sum := "2cd0b8c29652a9b85f9550f30015a0a89e977da949f26759be31f330093e8ea6", func := "loop.example/g00246/laws.FnMounted", spec := "fnMounted", unfollowed := true, recurses := true, apart := false }
def FnMountedSaid : Prop := fnMountedRow.holds Try.pinned (OpenSpec.ofChange fnMountedSpec)

/-- ITS FALSE NEIGHBOUR: 'it returns false'. Refute it at one input. -/
def fnMountedWrong : ChangeSpec := { name := "fnMounted", fn := fun _ => fun
  | [d] => { results := [.lit (.bool false)], args := [d] }
  | _ => none }
def FnMountedWrongFalsely : Prop := fnMountedRow.holds Try.pinned (OpenSpec.ofChange fnMountedWrong)

/- THE SECOND FORM. 'bulk': how many values and letters a reading holds, each counted each time it is reached (what is shared counts as often as it is met; a slice's spare places count too). A statement '..UptoSaid' is the law's where the arguments, and the package variables that the reading takes, are together of bulk at most 1048576: NARROWER than '..Said'. Prove '..Said' where nothing that the law and all that it calls make is longer than what came in: it says more and counts as full. Else prove '..UptoSaid'. A law counts once. -/
mutual
def uptoBulk {H : Type} : DataW H → Nat
  | .lit (.string bytes) => bytes.length + 1
  | .lit _ => 1
  | .nil => 1
  | .ptr d => uptoBulk d + 1
  | .slice elems spare => uptoBulkAll elems + uptoBulkAll spare + 1
  | .agg parts => uptoBulkAll parts + 1
  | .iface _ d => uptoBulk d + 1
  | .map entries => uptoBulkEntries entries + 1
  | .held _ => 1
def uptoBulkAll {H : Type} : List (DataW H) → Nat
  | [] => 0
  | d :: r => uptoBulk d + uptoBulkAll r
def uptoBulkEntries {H : Type} : List (Lit × DataW H) → Nat
  | [] => 0
  | x :: r => uptoBulkEntry x + uptoBulkEntries r
def uptoBulkEntry {H : Type} : Lit × DataW H → Nat
  | (.string bytes, d) => bytes.length + uptoBulk d + 1
  | (_, d) => uptoBulk d + 1
 end
def uptoSmall : (H : Type) → List (DataW H) → Bool := fun _ ds => decide (uptoBulkAll ds ≤ 1048576)
def OpenSpec.upto (s : _root_.Go.ChangeSpec) : _root_.Go.OpenSpec := { _root_.Go.OpenSpec.ofChange s with cond := some uptoSmall }

/-- 'laws.FnExactKidPut', WHERE WHAT IT READS IS OF BULK AT MOST 1048576: true; the input reads as it did. -/
def fnExactKidPutUptoRow : OpenClaim := { program := "ytenhjfemghpciaa", sum := "2cd0b8c29652a9b85f9550f30015a0a89e977da949f26759be31f330093e8ea6", func := "loop.example/g00246/laws.FnExactKidPut", spec := "fnExactKidPut", inPlace := ["slices.overlaps[string]", "slices.overlaps[int]"], apart := false, narrowed := true }
def FnExactKidPutUptoSaid : Prop := fnExactKidPutUptoRow.holds Try.pinned (OpenSpec.upto fnExactKidPutSpec)

/-- 'laws.FnKids', WHERE WHAT IT READS IS OF BULK AT MOST 1048576: true; the input reads as it did. -/
def fnKidsUptoRow : OpenClaim := { program := "ytenhjfemghpciaa", sum := "2cd0b8c29652a9b85f9550f30015a0a89e977da949f26759be31f330093e8ea6", func := "loop.example/g00246/laws.FnKids", spec := "fnKids", inPlace := ["slices.overlaps[string]", "slices.overlaps[int]"], apart := false, narrowed := true }
def FnKidsUptoSaid : Prop := fnKidsUptoRow.holds Try.pinned (OpenSpec.upto fnKidsSpec)

/-- 'laws.FnExactFtlOk', WHERE WHAT IT READS IS OF BULK AT MOST 1048576: true; the input reads as it did. -/
def fnExactFtlOkUptoRow : OpenClaim := { program := "ytenhjfemghpciaa", sum := "2cd0b8c29652a9b85f9550f30015a0a89e977da949f26759be31f330093e8ea6", func := "loop.example/g00246/laws.FnExactFtlOk", spec := "fnExactFtlOk", unfollowed := true, recurses := true, apart := false, narrowed := true }
def FnExactFtlOkUptoSaid : Prop := fnExactFtlOkUptoRow.holds Try.pinned (OpenSpec.upto fnExactFtlOkSpec)

/-- 'laws.FnExactWears', WHERE WHAT IT READS IS OF BULK AT MOST 1048576: true; the input reads as it did. -/
def fnExactWearsUptoRow : OpenClaim := { program := "ytenhjfemghpciaa", sum := "2cd0b8c29652a9b85f9550f30015a0a89e977da949f26759be31f330093e8ea6", func := "loop.example/g00246/laws.FnExactWears", spec := "fnExactWears", unfollowed := true, recurses := true, apart := false, narrowed := true }
def FnExactWearsUptoSaid : Prop := fnExactWearsUptoRow.holds Try.pinned (OpenSpec.upto fnExactWearsSpec)

/-- 'laws.FnExactSector', WHERE WHAT IT READS IS OF BULK AT MOST 1048576: true; the input reads as it did. -/
def fnExactSectorUptoRow : OpenClaim := { program := "ytenhjfemghpciaa", sum := "2cd0b8c29652a9b85f9550f30015a0a89e977da949f26759be31f330093e8ea6", func := "loop.example/g00246/laws.FnExactSector", spec := "fnExactSector", unfollowed := true, recurses := true, apart := false, narrowed := true }
def FnExactSectorUptoSaid : Prop := fnExactSectorUptoRow.holds Try.pinned (OpenSpec.upto fnExactSectorSpec)

/-- 'laws.FnExactMount', WHERE WHAT IT READS IS OF BULK AT MOST 1048576: true; the input reads as it did. -/
def fnExactMountUptoRow : OpenClaim := { program := "ytenhjfemghpciaa", sum := "2cd0b8c29652a9b85f9550f30015a0a89e977da949f26759be31f330093e8ea6", func := "loop.example/g00246/laws.FnExactMount", spec := "fnExactMount", unfollowed := true, recurses := true, apart := false, narrowed := true }
def FnExactMountUptoSaid : Prop := fnExactMountUptoRow.holds Try.pinned (OpenSpec.upto fnExactMountSpec)

/-- 'laws.FnExactView', WHERE WHAT IT READS IS OF BULK AT MOST 1048576: true; the input reads as it did. -/
def fnExactViewUptoRow : OpenClaim := { program := "ytenhjfemghpciaa", sum := "2cd0b8c29652a9b85f9550f30015a0a89e977da949f26759be31f330093e8ea6", func := "loop.example/g00246/laws.FnExactView", spec := "fnExactView", unfollowed := true, recurses := true, apart := false, narrowed := true }
def FnExactViewUptoSaid : Prop := fnExactViewUptoRow.holds Try.pinned (OpenSpec.upto fnExactViewSpec)

/-- 'laws.FnExactVolume', WHERE WHAT IT READS IS OF BULK AT MOST 1048576: true; the input reads as it did. -/
def fnExactVolumeUptoRow : OpenClaim := { program := "ytenhjfemghpciaa", sum := "2cd0b8c29652a9b85f9550f30015a0a89e977da949f26759be31f330093e8ea6", func := "loop.example/g00246/laws.FnExactVolume", spec := "fnExactVolume", unfollowed := true, recurses := true, apart := false, narrowed := true }
def FnExactVolumeUptoSaid : Prop := fnExactVolumeUptoRow.holds Try.pinned (OpenSpec.upto fnExactVolumeSpec)

/-- 'laws.FnExactLives', WHERE WHAT IT READS IS OF BULK AT MOST 1048576: true; the input reads as it did. -/
def fnExactLivesUptoRow : OpenClaim := { program := "ytenhjfemghpciaa", sum := "2cd0b8c29652a9b85f9550f30015a0a89e977da949f26759be31f330093e8ea6", func := "loop.example/g00246/laws.FnExactLives", spec := "fnExactLives", unfollowed := true, recurses := true, apart := false, narrowed := true }
def FnExactLivesUptoSaid : Prop := fnExactLivesUptoRow.holds Try.pinned (OpenSpec.upto fnExactLivesSpec)

/-- 'laws.FnExactWorst', WHERE WHAT IT READS IS OF BULK AT MOST 1048576: true; the input reads as it did. -/
def fnExactWorstUptoRow : OpenClaim := { program := "ytenhjfemghpciaa", sum := "2cd0b8c29652a9b85f9550f30015a0a89e977da949f26759be31f330093e8ea6", func := "loop.example/g00246/laws.FnExactWorst", spec := "fnExactWorst", unfollowed := true, recurses := true, apart := false, narrowed := true }
def FnExactWorstUptoSaid : Prop := fnExactWorstUptoRow.holds Try.pinned (OpenSpec.upto fnExactWorstSpec)

/-- 'laws.FnMounted', WHERE WHAT IT READS IS OF BULK AT MOST 1048576: true; the input reads as it did. -/
def fnMountedUptoRow : OpenClaim := { program := "ytenhjfemghpciaa", sum := "2cd0b8c29652a9b85f9550f30015a0a89e977da949f26759be31f330093e8ea6", func := "loop.example/g00246/laws.FnMounted", spec := "fnMounted", unfollowed := true, recurses := true, apart := false, narrowed := true }
def FnMountedUptoSaid : Prop := fnMountedUptoRow.holds Try.pinned (OpenSpec.upto fnMountedSpec)

end Rows
end Go.Proofs.Ytenhjfemghpciaa
