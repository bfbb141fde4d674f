/-
  No cell of these rows narrows 'for every input' (looked for: loops, veiled, ifaces, maps, wideKeys, modest, calm, conditions, laid).
  DERIVED. THE GIVEN ROWS OF THIS SEAT. 11 by the template 'for every input the law returns true; each argument reads behind the call as it read before'; 0 by the template 'total and deterministic' (their statements: YtpbamdcbaloibabTotals.lean).
  GIVEN WITH THE SEED: the statements are not yours to turn. If you find one false, say at which input.
  Laid BY PROGRAM, IN A SANDBOX (cutbox-rows.mjs): the forced cells as the released guide's own fill.sh prints them over the translation 75f5b50e3da214b1… (all of the seat's roots in one cut). By AI agents, Wed Nov 11 2026. No macro, syntax, notation, axiom, sorry.
-/
import Derived.Test.YtpbamdcbaloibabChecked
import GoSem.Claim
import GoSem.ClaimJoined
import GoSem.ClaimMapViews
import Derived.JoinedTies
import Derived.KernelRfl
namespace Go.Proofs.Ytpbamdcbaloibab
/- THE CELL 'sum', in the pinned program and in every row, IS THE sha256 OF THE DUMP (.gsa) THAT YtpbamdcbaloibabProg.lean LOADS. Nothing in Lean hashes anything: it is a label: what it is worth is what the hold of that sum in a sandbox is worth. -/
noncomputable def Try.pinned : Pinned := { name := "ytpbamdcbaloibab", sum := "75f5b50e3da214b1e52797b91a14c148d15fb9eacb9447b5b0dc36dfbaae7b30", checked := Try.checked }
namespace Rows
def none {H : Type} : Left H := { results := [], args := [] }

/-- 'laws.FnExactKid': WHATEVER THE INPUT: true; the input reads as it did. -/
def fnExactKidSpec : ChangeSpec := { name := "fnExactKid", fn := fun _ => fun
  | [d1, d2] => { results := [.lit (.bool true)], args := [d1, d2] }
  | _ => none }
def fnExactKidRow : OpenClaim := { program := "ytpbamdcbaloibab", sum := "75f5b50e3da214b1e52797b91a14c148d15fb9eacb9447b5b0dc36dfbaae7b30", func := "loop.example/g00246/laws.FnExactKid", spec := "fnExactKid", apart := false }
def FnExactKidSaid : Prop := fnExactKidRow.holds Try.pinned (OpenSpec.ofChange fnExactKidSpec)

/-- ITS FALSE NEIGHBOUR: 'it returns false'. Refute it at one input. -/
def fnExactKidWrong : ChangeSpec := { name := "fnExactKid", fn := fun _ => fun
  | [d1, d2] => { results := [.lit (.bool false)], args := [d1, d2] }
  | _ => none }
def FnExactKidWrongFalsely : Prop := fnExactKidRow.holds Try.pinned (OpenSpec.ofChange fnExactKidWrong)

/-- 'laws.FnExactKidDrop': WHATEVER THE INPUT: true; the input reads as it did. -/
def fnExactKidDropSpec : ChangeSpec := { name := "fnExactKidDrop", fn := fun _ => fun
  | [d1, d2] => { results := [.lit (.bool true)], args := [d1, d2] }
  | _ => none }
def fnExactKidDropRow : OpenClaim := { program := "ytpbamdcbaloibab", sum := "75f5b50e3da214b1e52797b91a14c148d15fb9eacb9447b5b0dc36dfbaae7b30", func := "loop.example/g00246/laws.FnExactKidDrop", spec := "fnExactKidDrop", apart := false }
def FnExactKidDropSaid : Prop := fnExactKidDropRow.holds Try.pinned (OpenSpec.ofChange fnExactKidDropSpec)

/-- ITS FALSE NEIGHBOUR: 'it returns false'. Refute it at one input. -/
def fnExactKidDropWrong : ChangeSpec := { name := "fnExactKidDrop", fn := fun _ => fun
  | [d1, d2] => { results := [.lit (.bool false)], args := [d1, d2] }
  | _ => none }
def FnExactKidDropWrongFalsely : Prop := fnExactKidDropRow.holds Try.pinned (OpenSpec.ofChange fnExactKidDropWrong)

/-- 'laws.FnExactKidPut': WHATEVER THE INPUT: true; the input reads as it did. -/
def fnExactKidPutSpec : ChangeSpec := { name := "fnExactKidPut", fn := fun _ => fun
  | [d1, d2, d3] => { results := [.lit (.bool true)], args := [d1, d2, d3] }
  | _ => none }
def fnExactKidPutRow : OpenClaim := { program := "ytpbamdcbaloibab", sum := "75f5b50e3da214b1e52797b91a14c148d15fb9eacb9447b5b0dc36dfbaae7b30", func := "loop.example/g00246/laws.FnExactKidPut", spec := "fnExactKidPut", inPlace := ["slices.overlaps[string]", "slices.overlaps[int]"], apart := false }
def FnExactKidPutSaid : Prop := fnExactKidPutRow.holds Try.pinned (OpenSpec.ofChange fnExactKidPutSpec)

/-- ITS FALSE NEIGHBOUR: 'it returns false'. Refute it at one input. -/
def fnExactKidPutWrong : ChangeSpec := { name := "fnExactKidPut", fn := fun _ => fun
  | [d1, d2, d3] => { results := [.lit (.bool false)], args := [d1, d2, d3] }
  | _ => none }
def FnExactKidPutWrongFalsely : Prop := fnExactKidPutRow.holds Try.pinned (OpenSpec.ofChange fnExactKidPutWrong)

/-- 'laws.FnKids': WHATEVER THE INPUT: true; the input reads as it did. -/
def fnKidsSpec : ChangeSpec := { name := "fnKids", fn := fun _ => fun
  | [d] => { results := [.lit (.bool true)], args := [d] }
  | _ => none }
def fnKidsRow : OpenClaim := { program := "ytpbamdcbaloibab", sum := "75f5b50e3da214b1e52797b91a14c148d15fb9eacb9447b5b0dc36dfbaae7b30", func := "loop.example/g00246/laws.FnKids", spec := "fnKids", inPlace := ["slices.overlaps[string]", "slices.overlaps[int]"], apart := false }
def FnKidsSaid : Prop := fnKidsRow.holds Try.pinned (OpenSpec.ofChange fnKidsSpec)

/-- ITS FALSE NEIGHBOUR: 'it returns false'. Refute it at one input. -/
def fnKidsWrong : ChangeSpec := { name := "fnKids", fn := fun _ => fun
  | [d] => { results := [.lit (.bool false)], args := [d] }
  | _ => none }
def FnKidsWrongFalsely : Prop := fnKidsRow.holds Try.pinned (OpenSpec.ofChange fnKidsWrong)

/-- 'laws.FnExactChipOk': WHATEVER THE INPUT: true; the input reads as it did. -/
def fnExactChipOkSpec : ChangeSpec := { name := "fnExactChipOk", fn := fun _ => fun
  | [d] => { results := [.lit (.bool true)], args := [d] }
  | _ => none }
def fnExactChipOkRow : OpenClaim := { program := "ytpbamdcbaloibab", sum := "75f5b50e3da214b1e52797b91a14c148d15fb9eacb9447b5b0dc36dfbaae7b30", func := "loop.example/g00246/laws.FnExactChipOk", spec := "fnExactChipOk", unfollowed := true, recurses := true, apart := false }
def FnExactChipOkSaid : Prop := fnExactChipOkRow.holds Try.pinned (OpenSpec.ofChange fnExactChipOkSpec)

/-- ITS FALSE NEIGHBOUR: 'it returns false'. Refute it at one input. -/
def fnExactChipOkWrong : ChangeSpec := { name := "fnExactChipOk", fn := fun _ => fun
  | [d] => { results := [.lit (.bool false)], args := [d] }
  | _ => none }
def FnExactChipOkWrongFalsely : Prop := fnExactChipOkRow.holds Try.pinned (OpenSpec.ofChange fnExactChipOkWrong)

/-- 'laws.FnExactNextPage': WHATEVER THE INPUT: true; the input reads as it did. -/
def fnExactNextPageSpec : ChangeSpec := { name := "fnExactNextPage", fn := fun _ => fun
  | [d] => { results := [.lit (.bool true)], args := [d] }
  | _ => none }
def fnExactNextPageRow : OpenClaim := { program := "ytpbamdcbaloibab", sum := "75f5b50e3da214b1e52797b91a14c148d15fb9eacb9447b5b0dc36dfbaae7b30", func := "loop.example/g00246/laws.FnExactNextPage", spec := "fnExactNextPage", unfollowed := true, recurses := true, apart := false }
def FnExactNextPageSaid : Prop := fnExactNextPageRow.holds Try.pinned (OpenSpec.ofChange fnExactNextPageSpec)

/-- ITS FALSE NEIGHBOUR: 'it returns false'. Refute it at one input. -/
def fnExactNextPageWrong : ChangeSpec := { name := "fnExactNextPage", fn := fun _ => fun
  | [d] => { results := [.lit (.bool false)], args := [d] }
  | _ => none }
def FnExactNextPageWrongFalsely : Prop := fnExactNextPageRow.holds Try.pinned (OpenSpec.ofChange fnExactNextPageWrong)

/-- 'laws.FnExactFreeBlocks': WHATEVER THE INPUT: true; the input reads as it did. -/
def fnExactFreeBlocksSpec : ChangeSpec := { name := "fnExactFreeBlocks", fn := fun _ => fun
  | [d] => { results := [.lit (.bool true)], args := [d] }
  | _ => none }
def fnExactFreeBlocksRow : OpenClaim := { program := "ytpbamdcbaloibab", sum := "75f5b50e3da214b1e52797b91a14c148d15fb9eacb9447b5b0dc36dfbaae7b30", func := "loop.example/g00246/laws.FnExactFreeBlocks", spec := "fnExactFreeBlocks", unfollowed := true, recurses := true, apart := false }
def FnExactFreeBlocksSaid : Prop := fnExactFreeBlocksRow.holds Try.pinned (OpenSpec.ofChange fnExactFreeBlocksSpec)

/-- ITS FALSE NEIGHBOUR: 'it returns false'. Refute it at one input. -/
def fnExactFreeBlocksWrong : ChangeSpec := { name := "fnExactFreeBlocks", fn := fun _ => fun
  | [d] => { results := [.lit (.bool false)], args := [d] }
  | _ => none }
def FnExactFreeBlocksWrongFalsely : Prop := fnExactFreeBlocksRow.holds Try.pinned (OpenSpec.ofChange fnExactFreeBlocksWrong)

/-- 'laws.FnExactBurn': WHATEVER THE INPUT: true; the input reads as it did. -/
def fnExactBurnSpec : ChangeSpec := { name := "fnExactBurn", fn := fun _ => fun
  | [d1, d2, d3] => { results := [.lit (.bool true)], args := [d1, d2, d3] }
  | _ => none }
def fnExactBurnRow : OpenClaim := { program := "ytpbamdcbaloibab", sum := "75f5b50e3da214b1e52797b91a14c148d15fb9eacb9447b5b0dc36dfbaae7b30", func := "loop.example/g00246/laws.FnExactBurn", spec := "fnExactBurn", unfollowed := true, recurses := true, apart := false }
def FnExactBurnSaid : Prop := fnExactBurnRow.holds Try.pinned (OpenSpec.ofChange fnExactBurnSpec)

/-- ITS FALSE NEIGHBOUR: 'it returns false'. Refute it at one input. -/
def fnExactBurnWrong : ChangeSpec := { name := "fnExactBurn", fn := fun _ => fun
  | [d1, d2, d3] => { results := [.lit (.bool false)], args := [d1, d2, d3] }
  | _ => none }
def FnExactBurnWrongFalsely : Prop := fnExactBurnRow.holds Try.pinned (OpenSpec.ofChange fnExactBurnWrong)

/-- 'laws.FnExactClear': WHATEVER THE INPUT: true; the input reads as it did. -/
def fnExactClearSpec : ChangeSpec := { name := "fnExactClear", fn := fun _ => fun
  | [d1, d2] => { results := [.lit (.bool true)], args := [d1, d2] }
  | _ => none }
def fnExactClearRow : OpenClaim := { program := "ytpbamdcbaloibab", sum := "75f5b50e3da214b1e52797b91a14c148d15fb9eacb9447b5b0dc36dfbaae7b30", func := "loop.example/g00246/laws.FnExactClear", spec := "fnExactClear", unfollowed := true, recurses := true, apart := false }
def FnExactClearSaid : Prop := fnExactClearRow.holds Try.pinned (OpenSpec.ofChange fnExactClearSpec)

/-- ITS FALSE NEIGHBOUR: 'it returns false'. Refute it at one input. -/
def fnExactClearWrong : ChangeSpec := { name := "fnExactClear", fn := fun _ => fun
  | [d1, d2] => { results := [.lit (.bool false)], args := [d1, d2] }
  | _ => none }
def FnExactClearWrongFalsely : Prop := fnExactClearRow.holds Try.pinned (OpenSpec.ofChange fnExactClearWrong)

/-- 'laws.FnExactHalf': WHATEVER THE INPUT: true; the input reads as it did. -/
def fnExactHalfSpec : ChangeSpec := { name := "fnExactHalf", fn := fun _ => fun
  | [d1, d2, d3] => { results := [.lit (.bool true)], args := [d1, d2, d3] }
  | _ => none }
def fnExactHalfRow : OpenClaim := { program := "ytpbamdcbaloibab", sum := "75f5b50e3da214b1e52797b91a14c148d15fb9eacb9447b5b0dc36dfbaae7b30", func := "loop.example/g00246/laws.FnExactHalf", spec := "fnExactHalf", unfollowed := true, recurses := true, apart := false }
def FnExactHalfSaid : Prop := fnExactHalfRow.holds Try.pinned (OpenSpec.ofChange fnExactHalfSpec)

/-- ITS FALSE NEIGHBOUR: 'it returns false'. Refute it at one input. -/
def fnExactHalfWrong : ChangeSpec := { name := "fnExactHalf", fn := fun _ => fun
  | [d1, d2, d3] => { results := [.lit (.bool false)], args := [d1, d2, d3] }
  | _ => none }
def FnExactHalfWrongFalsely : Prop := fnExactHalfRow.holds Try.pinned (OpenSpec.ofChange fnExactHalfWrong)

/-- 'laws.FnExactTorn': WHATEVER THE INPUT: true; the input reads as it did. -/
def fnExactTornSpec : ChangeSpec := { name := "fnExactTorn", fn := fun _ => fun
  | [d1, d2, d3, d4] => { results := [.lit (.bool true)], args := [d1, d2, d3, d4] }
  | _ => none }
def fnExactTornRow : OpenClaim := { program := "ytpbamdcbaloibab", sum := "75f5b50e3da214b1e52797b91a14c148d15fb9eacb9447b5b0dc36dfbaae7b30", func := "loop.example/g00246/laws.FnExactTorn", spec := "fnExactTorn", unfollowed := true, recurses := true, apart := false }
def FnExactTornSaid : Prop := fnExactTornRow.holds Try.pinned (OpenSpec.ofChange fnExactTornSpec)

/-- ITS FALSE NEIGHBOUR: 'it returns false'. Refute it at one input. -/
def fnExactTornWrong : ChangeSpec := { name := "fnExactTorn", fn := fun _ => fun
  | [d1, d2, d3, d4] => { results := [.lit (.bool false)], args := [d1, d2, d3, d4] }
  | _ => none }
def FnExactTornWrongFalsely : Prop := fnExactTornRow.holds Try.pinned (OpenSpec.ofChange fnExactTornWrong)

/- THE SECOND FORM. 'bulk': how many values and letters a reading holds, each counted each time it is reached (what is shared counts as often as it is met; a slice's spare places count too). A statement '..UptoSaid' is the law's where the arguments, and the package variables that the reading takes, are together of bulk at most 1048576: NARROWER than '..Said'. Prove '..Said' where nothing that the law and all that it calls make is longer than what came in: it says more and counts as full. Else prove '..UptoSaid'. A law counts once. -/
mutual
def uptoBulk {H : Type} : DataW H → Nat
  | .lit (.string bytes) => bytes.length + 1
  | .lit _ => 1
  | .nil => 1
  | .ptr d => uptoBulk d + 1
  | .slice elems spare => uptoBulkAll elems + uptoBulkAll spare + 1
  | .agg parts => uptoBulkAll parts + 1
  | .iface _ d => uptoBulk d + 1
  | .map entries => uptoBulkEntries entries + 1
  | .held _ => 1
def uptoBulkAll {H : Type} : List (DataW H) → Nat
  | [] => 0
  | d :: r => uptoBulk d + uptoBulkAll r
def uptoBulkEntries {H : Type} : List (Lit × DataW H) → Nat
  | [] => 0
  | x :: r => uptoBulkEntry x + uptoBulkEntries r
def uptoBulkEntry {H : Type} : Lit × DataW H → Nat
  | (.string bytes, d) => bytes.length + uptoBulk d + 1
  | (_, d) => uptoBulk d + 1
 end
def uptoSmall : (H : Type) → List (DataW H) → Bool := fun _ ds => decide (uptoBulkAll ds ≤ 1048576)
def OpenSpec.upto (s : _root_.Go.ChangeSpec) : _root_.Go.OpenSpec := { _root_.Go.OpenSpec.ofChange s with cond := some uptoSmall }

/-- 'laws.FnExactKid', WHERE WHAT IT READS IS OF BULK AT MOST 1048576: true; the input reads as it did. -/
def fnExactKidUptoRow : OpenClaim := { program := "ytpbamdcbaloibab", sum := "75f5b50e3da214b1e52797b91a14c148d15fb9eacb9447b5b0dc36dfbaae7b30", func := "loop.example/g00246/laws.FnExactKid", spec := "fnExactKid", apart := false, narrowed := true }
def FnExactKidUptoSaid : Prop := fnExactKidUptoRow.holds Try.pinned (OpenSpec.upto fnExactKidSpec)

/-- 'laws.FnExactKidDrop', WHERE WHAT IT READS IS OF BULK AT MOST 1048576: true; the input reads as it did. -/
def fnExactKidDropUptoRow : OpenClaim := { program := "ytpbamdcbaloibab", sum := "75f5b50e3da214b1e52797b91a14c148d15fb9eacb9447b5b0dc36dfbaae7b30", func := "loop.example/g00246/laws.FnExactKidDrop", spec := "fnExactKidDrop", apart := false, narrowed := true }
def FnExactKidDropUptoSaid : Prop := fnExactKidDropUptoRow.holds Try.pinned (OpenSpec.upto fnExactKidDropSpec)

/-- 'laws.FnExactKidPut', WHERE WHAT IT READS IS OF BULK AT MOST 1048576: true; the input reads as it did. -/
def fnExactKidPutUptoRow : OpenClaim := { program := "ytpbamdcbaloibab", sum := "75f5b50e3da214b1e52797b91a14c148d15fb9eacb9447b5b0dc36dfbaae7b30", func := "loop.example/g00246/laws.FnExactKidPut", spec := "fnExactKidPut", inPlace := ["slices.overlaps[string]", "slices.overlaps[int]"], apart := false, narrowed := true }
def FnExactKidPutUptoSaid : Prop := fnExactKidPutUptoRow.holds Try.pinned (OpenSpec.upto fnExactKidPutSpec)

/-- 'laws.FnKids', WHERE WHAT IT READS IS OF BULK AT MOST 1048576: true; the input reads as it did. -/
def fnKidsUptoRow : OpenClaim := { program := "ytpbamdcbaloibab", sum := "75f5b50e3da214b1e52797b91a14c148d15fb9eacb9447b5b0dc36dfbaae7b30", func := "loop.example/g00246/laws.FnKids", spec := "fnKids", inPlace := ["slices.overlaps[string]", "slices.overlaps[int]"], apart := false, narrowed := true }
def FnKidsUptoSaid : Prop := fnKidsUptoRow.holds Try.pinned (OpenSpec.upto fnKidsSpec)

/-- 'laws.FnExactChipOk', WHERE WHAT IT READS IS OF BULK AT MOST 1048576: true; the input reads as it did. -/
def fnExactChipOkUptoRow : OpenClaim := { program := "ytpbamdcbaloibab", sum := "75f5b50e3da214b1e52797b91a14c148d15fb9eacb9447b5b0dc36dfbaae7b30", func := "loop.example/g00246/laws.FnExactChipOk", spec := "fnExactChipOk", unfollowed := true, recurses := true, apart := false, narrowed := true }
def FnExactChipOkUptoSaid : Prop := fnExactChipOkUptoRow.holds Try.pinned (OpenSpec.upto fnExactChipOkSpec)

/-- 'laws.FnExactNextPage', WHERE WHAT IT READS IS OF BULK AT MOST 1048576: true; the input reads as it did. -/
def fnExactNextPageUptoRow : OpenClaim := { program := "ytpbamdcbaloibab", sum := "75f5b50e3da214b1e52797b91a14c148d15fb9eacb9447b5b0dc36dfbaae7b30", func := "loop.example/g00246/laws.FnExactNextPage", spec := "fnExactNextPage", unfollowed := true, recurses := true, apart := false, narrowed := true }
def FnExactNextPageUptoSaid : Prop := fnExactNextPageUptoRow.holds Try.pinned (OpenSpec.upto fnExactNextPageSpec)

/-- 'laws.FnExactFreeBlocks', WHERE WHAT IT READS IS OF BULK AT MOST 1048576: true; the input reads as it did. -/
def fnExactFreeBlocksUptoRow : OpenClaim := { program := "ytpbamdcbaloibab", sum := "75f5b50e3da214b1e52797b91a14c148d15fb9eacb9447b5b0dc36dfbaae7b30", func := "loop.example/g00246/laws.FnExactFreeBlocks", spec := "fnExactFreeBlocks", unfollowed := true, recurses := true, apart := false, narrowed := true }
def FnExactFreeBlocksUptoSaid : Prop := fnExactFreeBlocksUptoRow.holds Try.pinned (OpenSpec.upto fnExactFreeBlocksSpec)

/-- 'laws.FnExactBurn', WHERE WHAT IT READS IS OF BULK AT MOST 1048576: true; the input reads as it did. -/
def fnExactBurnUptoRow : OpenClaim := { program := "ytpbamdcbaloibab", sum := "75f5b50e3da214b1e52797b91a14c148d15fb9eacb9447b5b0dc36dfbaae7b30", func := "loop.example/g00246/laws.FnExactBurn", spec := "fnExactBurn", unfollowed := true, recurses := true, apart := false, narrowed := true }
def FnExactBurnUptoSaid : Prop := fnExactBurnUptoRow.holds Try.pinned (OpenSpec.upto fnExactBurnSpec)

/-- 'laws.FnExactClear', WHERE WHAT IT READS IS OF BULK AT MOST 1048576: true; the input reads as it did. -/
def fnExactClearUptoRow : OpenClaim := { program := "ytpbamdcbaloibab", sum := "75f5b50e3da214b1e52797b91a14c148d15fb9eacb9447b5b0dc36dfbaae7b30", func := "loop.example/g00246/laws.FnExactClear", spec := "fnExactClear", unfollowed := true, recurses := true, apart := false, narrowed := true }
def FnExactClearUptoSaid : Prop := fnExactClearUptoRow.holds Try.pinned (OpenSpec.upto fnExactClearSpec)

/-- 'laws.FnExactHalf', WHERE WHAT IT READS IS OF BULK AT MOST 1048576: true; the input reads as it did. -/
def fnExactHalfUptoRow : OpenClaim := { program := "ytpbamdcbaloibab", sum := "75f5b50e3da214b1e52797b91a14c148d15fb9eacb9447b5b0dc36dfbaae7b30", func := "loop.example/g00246/laws.FnExactHalf", spec := "fnExactHalf", unfollowed := true, recurses := true, apart := false, narrowed := true }
def FnExactHalfUptoSaid : Prop := fnExactHalfUptoRow.holds Try.pinned (OpenSpec.upto fnExactHalfSpec)

/-- 'laws.FnExactTorn', WHERE WHAT IT READS IS OF BULK AT MOST 1048576: true; the input reads as it did. -/
def fnExactTornUptoRow : OpenClaim := { program := "ytpbamdcbaloibab", sum := "75f5b50e3da214b1e52797b91a14c148d15fb9eacb9447b5b0dc36dfbaae7b30", func := "loop.example/g00246/laws.FnExactTorn", spec := "fnExactTorn", unfollowed := true, recurses := true, apart := false, narrowed := true }
def FnExactTornUptoSaid : Prop := fnExactTornUptoRow.holds Try.pinned (OpenSpec.upto fnExactTornSpec)

end Rows
end Go.Proofs.Ytpbamdcbaloibab
