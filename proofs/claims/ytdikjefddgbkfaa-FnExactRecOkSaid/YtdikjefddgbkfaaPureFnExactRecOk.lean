/- The law FnExactRecOk answers true at every input; no condition. -/
import Derived.Test.YtdikjefddgbkfaaPFnExactRecOkx1
import Derived.Test.YtdikjefddgbkfaaLibM
namespace Go.Proofs.Ytdikjefddgbkfaa.Pure
open Go.RowKit Go.Proofs.Ytdikjefddgbkfaa.PFnExactRecOk Go.Proofs.YtdikjefddgbkfaaW.PrintWords Go.Proofs.YtdikjefddgbkfaaW.PrintLast Go.Proofs.YtdikjefddgbkfaaW.PrintMore Go.Proofs.Ytdikjefddgbkfaa.Lib
set_option linter.unusedVariables false

/-! ### laws_FnExactRecOk -/
theorem FnExactRecOk_pure (a b : Int) (s : ByteArray) (w : (Lit.int .i64 a).wf = true ∧ (Lit.int .i64 b).wf = true ∧ s.size ≤ maxLen) : ∃ _k : Nat, laws_FnExactRecOk.f a b s = some true := by
  obtain ⟨_, _, hs⟩ := w
  unfold maxLen at hs
  refine ⟨0, ?_⟩
  have e1 : impl_RecOk.f a b s = spec_RecOk.f a b s := by
    unfold impl_RecOk.f spec_RecOk.f impl_isSector.f impl_in.f spec_l1In.f
    by_cases h : a ≥ 0
    · simp only [if_pos h, Option.bind_some]
    · simp only [if_neg h, Option.bind_some]
  have e2 : ∃ r, spec_RecOk.f a b s = some r := by
    unfold spec_RecOk.f spec_l1In.f
    by_cases h : a ≥ 0 <;> by_cases h' : b ≥ 1 <;> simp only [h, h', if_true, if_false, Option.bind_some] <;> (repeat (first | split | exact ⟨_, rfl⟩))
  obtain ⟨r, e2⟩ := e2
  unfold laws_FnExactRecOk.f laws_szRec.f laws_toRec.f
  rw [w64 (x := 1048576 - (s.size : Int)) (by omega) (by omega)]
  by_cases c : 1048576 - (s.size : Int) < 0
  · simp [c]
  · simp [c, e1, e2]

end Go.Proofs.Ytdikjefddgbkfaa.Pure
