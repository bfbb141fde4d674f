/- The law FnExactVolumeNew, in plain words: its function answers true. -/
import Derived.Test.YthneilmhnbboeaaGFnExactVolumeNew
import Derived.Test.YthneilmhnbboeaaDenMod
import Derived.KernelRfl
namespace Go.Proofs.Ythneilmhnbboeaa.Pure
open Go Go.RowKit Go.Proofs.Ythneilmhnbboeaa.Den Go.Proofs.Ythneilmhnbboeaa.GFnExactVolumeNew
set_option linter.unusedSimpArgs false
set_option linter.unusedVariables false
theorem FnExactVolumeNew_pure : laws.FnExactVolumeNew.f 10000000000000 = some true := by kernel_rfl
end Go.Proofs.Ythneilmhnbboeaa.Pure
