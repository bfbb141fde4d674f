/- The law FnExactConstants answers true at every input; no condition. -/
import Derived.Test.YtdikjefddgbkfaaPFnExactConstantsx1
import Derived.Test.YtdikjefddgbkfaaLibM
namespace Go.Proofs.Ytdikjefddgbkfaa.Pure
open Go.RowKit Go.Proofs.Ytdikjefddgbkfaa.PFnExactConstants Go.Proofs.YtdikjefddgbkfaaW.PrintWords Go.Proofs.YtdikjefddgbkfaaW.PrintLast Go.Proofs.YtdikjefddgbkfaaW.PrintMore Go.Proofs.Ytdikjefddgbkfaa.Lib
set_option linter.unusedVariables false

/-! ### laws_FnExactConstants -/
theorem FnExactConstants : laws_FnExactConstants.Pure := by
  unfold laws_FnExactConstants.Pure laws_FnExactConstants.f
  rfl

end Go.Proofs.Ytdikjefddgbkfaa.Pure
