-- Laid by a program out of the translation, with contracts of our own for what it does not take; Lean checks it.
import Derived.Test.YtdikjefddgbkfaaProg
import Derived.Below
import Derived.Deep.Draws
import Derived.Deep.AppendLies
import Derived.Maps.AppendAt
import Derived.OwnWalk
import Derived.Laws.BytesArg
import Derived.Laws.MakeOwn
import Derived.Laws.OwnMore
import Derived.Deep.OwnRows
import Derived.Tactics
import Derived.Lib.ConvBytes
import Derived.Laws.Slices
import Derived.WalkKit
import Derived.KernelRfl
import Derived.RowKit3
import Derived.Deep.LoopGhost
import Derived.Deep.QuietTactic
import Derived.BigQuiet
import Derived.WideLaws
import Derived.Deep.DeepCutAuto
import Derived.Deep.CutBlock
import Derived.Deep.RegionHeld3
import Derived.Laws.Rows
import Derived.Lib.AppendStr
import Derived.ArgAppend
import Derived.Laws.IdiomCopy
import Derived.OrdersHeld
import Derived.Laws.BitsLemmas
import Derived.RowKit
import Derived.Test.YtdikjefddgbkfaaLibH
import Derived.Test.YtdikjefddgbkfaaWWords
import Derived.Test.YtdikjefddgbkfaaWLast
import Derived.Test.YtdikjefddgbkfaaWTab
import Derived.Test.YtdikjefddgbkfaaWFour
import Derived.Test.YtdikjefddgbkfaaWQPut
import Derived.Test.YtdikjefddgbkfaaWApart
import Derived.Test.YtdikjefddgbkfaaWArr
import Derived.Test.YtdikjefddgbkfaaWZeros
import Derived.Test.YtdikjefddgbkfaaWFoot
import Derived.Test.YtdikjefddgbkfaaWKept
import Derived.Test.YtdikjefddgbkfaaWShare
import Derived.Test.YtdikjefddgbkfaaWN
import Derived.Test.YtdikjefddgbkfaaWFootNe
import Derived.Test.YtdikjefddgbkfaaWAt
import Derived.Test.YtdikjefddgbkfaaWEqStruct
import Derived.Test.YtdikjefddgbkfaaWRepsOne
import Derived.Test.YtdikjefddgbkfaaWInv
import Derived.Test.YtdikjefddgbkfaaWInvWords
import Derived.Test.YtdikjefddgbkfaaWGuard
import Derived.Test.YtdikjefddgbkfaaWNEv
import Derived.Test.YtdikjefddgbkfaaWMore
namespace Go.Proofs.Ytdikjefddgbkfaa.PFnExactPutText
open Go.RowKit Go.Proofs.YtdikjefddgbkfaaW.PrintWords Go.Proofs.YtdikjefddgbkfaaW.PrintLast Go.Proofs.YtdikjefddgbkfaaW.PrintMore
attribute [local go_sem] max2_int min2_int max_two min_two max_three min_three max_four min_four   -- for this text's walks alone
set_option linter.unusedVariables false
set_option linter.unusedSimpArgs false



def errW : Option Int → Value
  | none => .nilIface
  | some c => .iface 0 (.int .i64 c)
theorem errW_none : errW none = .nilIface := rfl
theorem errW_some (c : Int) : errW (some c) = .iface 0 (.int .i64 c) := rfl

theorem info5 : (Try.prog.info? 5).map (fun i => (i.zero, i.size, i.bytes)) = some (some (.int .u8 0), 1, 1) := by kernel_rfl
-- the values' own types

end Go.Proofs.Ytdikjefddgbkfaa.PFnExactPutText
