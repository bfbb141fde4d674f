-- Laid by a program out of the translation, with contracts of our own for what it does not take; Lean checks it.
import Derived.Test.YtpbamdcbaloibaaProg
import Derived.Below
import Derived.Deep.Draws
import Derived.Deep.AppendLies
import Derived.Maps.AppendAt
import Derived.OwnWalk
import Derived.Laws.BytesArg
import Derived.Laws.MakeOwn
import Derived.Laws.OwnMore
import Derived.Deep.OwnRows
import Derived.Tactics
import Derived.Lib.ConvBytes
import Derived.Laws.Slices
import Derived.WalkKit
import Derived.KernelRfl
import Derived.RowKit3
import Derived.Deep.LoopGhost
import Derived.Deep.QuietTactic
import Derived.BigQuiet
import Derived.WideLaws
import Derived.Deep.DeepCutAuto
import Derived.Deep.CutBlock
import Derived.Deep.RegionHeld3
import Derived.Laws.Rows
import Derived.Lib.AppendStr
import Derived.ArgAppend
import Derived.Laws.IdiomCopy
import Derived.OrdersHeld
import Derived.Laws.BitsLemmas
import Derived.RowKit
import Derived.Laws.Cover1
import Derived.Test.YtpbamdcbaloibaaLibH
import Derived.Test.YtpbamdcbaloibaaWWords
import Derived.Test.YtpbamdcbaloibaaWLast
import Derived.Test.YtpbamdcbaloibaaWTab
import Derived.Test.YtpbamdcbaloibaaWFour
import Derived.Test.YtpbamdcbaloibaaWQPut
import Derived.Test.YtpbamdcbaloibaaWApart
import Derived.Test.YtpbamdcbaloibaaWArr
import Derived.Test.YtpbamdcbaloibaaWZeros
import Derived.Test.YtpbamdcbaloibaaWFoot
import Derived.Test.YtpbamdcbaloibaaWKept
import Derived.Test.YtpbamdcbaloibaaWShare
import Derived.Test.YtpbamdcbaloibaaWN
import Derived.Test.YtpbamdcbaloibaaWFootNe
import Derived.Test.YtpbamdcbaloibaaWAt
import Derived.Test.YtpbamdcbaloibaaWEqStruct
import Derived.Test.YtpbamdcbaloibaaWRepsOne
import Derived.Test.YtpbamdcbaloibaaWInv
import Derived.Test.YtpbamdcbaloibaaWInvWords
import Derived.Test.YtpbamdcbaloibaaWGuard
import Derived.Test.YtpbamdcbaloibaaWNEv
import Derived.Test.YtpbamdcbaloibaaWMore
namespace Go.Proofs.Ytpbamdcbaloibaa.PFnExactNodeOk
open Go.RowKit Go.Proofs.YtpbamdcbaloibaaW.PrintWords Go.Proofs.YtpbamdcbaloibaaW.PrintLast Go.Proofs.YtpbamdcbaloibaaW.PrintMore
attribute [local go_sem] max2_int min2_int max_two min_two max_three min_three max_four min_four   -- for this text's walks alone
set_option linter.unusedVariables false
set_option linter.unusedSimpArgs false



def errW : Option Int → Value
  | none => .nilIface
  | some c => .iface 0 (.int .i64 c)
theorem errW_none : errW none = .nilIface := rfl
theorem errW_some (c : Int) : errW (some c) = .iface 0 (.int .i64 c) := rfl

theorem info3 : (Try.prog.info? 3).map (fun i => (i.zero, i.size, i.bytes)) = some (some (.int .i64 0), 1, 8) := by kernel_rfl
theorem info9 : (Try.prog.info? 9).map (fun i => (i.zero, i.size, i.bytes)) = some (some (.string ⟨#[]⟩), 1, 16) := by kernel_rfl
-- the values' own types

end Go.Proofs.Ytpbamdcbaloibaa.PFnExactNodeOk
