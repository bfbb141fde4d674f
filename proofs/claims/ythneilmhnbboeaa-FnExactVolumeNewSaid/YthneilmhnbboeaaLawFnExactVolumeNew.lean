/- The row of the law FnExactVolumeNew: it answers true at every input; no condition. -/
import Derived.Test.YthneilmhnbboeaaRows
import Derived.Test.YthneilmhnbboeaaGFnExactVolumeNew
import Derived.Test.YthneilmhnbboeaaPureFnExactVolumeNew
import Derived.Test.YthneilmhnbboeaaDenY
import Derived.WalkKit
import Derived.ProofKit
import Derived.OpenShut
import Derived.ShutString
import Derived.ChangeOld
import Derived.Below
import Derived.SizedLaws
namespace Go.Proofs.Ythneilmhnbboeaa.fnExactVolumeNew
open Go Go.ChangeShapes Go.WideShapes Go.ChangeAt Go.RowKit Go.Proofs.Ythneilmhnbboeaa.Den
open Go.ChangeMaps (open_string shut_string)
set_option linter.unusedVariables false
theorem own : ownKnob Try.prog.godebug = none := by kernel_rfl
theorem laidOut : laidOutB Try.prog = true := by kernel_rfl
set_option maxRecDepth 100000 in
theorem lifted (os : Os) (started : os.Started) (H : Type) (enc : TypeId × Value → H) :
    ReturnsInHanded {} Try.checked os 13 .any (Rows.fnExactVolumeNewSpec.pre6 enc Try.prog Try.f13 Rows.fnExactVolumeNewRow.domain false) (Rows.fnExactVolumeNewSpec.post enc Try.prog Try.f13 false true false false) := by
  refine returnsInHanded_of_change_sized (C := Try.checked) own started (by kernel_rfl) Try.func13
    (ChangeSpec.witness6 (enc := enc) (C := Try.checked) false ⟨#[], #[], []⟩ 8 (by kernel_rfl) (by kernel_rfl) (by kernel_rfl) (by kernel_rfl)) ?_
  intro W base args ds gs before hval0 hW hcnd hsz0 _
  have hval : ∀ (j : Nat) t v, Try.f13.params[j]? = some t → args[j]? = some v → Value.okWide Try.prog W .any base t v := hval0
  have hW' := hW
  obtain ⟨p, q, hA0, hV, rfl, hfz, hnd⟩ := hW
  have hA : DataW.TrodAll enc Try.prog W 0 (fun _ => true) true Try.f13.params.toList args.toList ds p := hA0
  rw [Try.params13] at hA hval
  obtain ⟨hargs, rfl, rfl⟩ := trodAll_nil hA
  obtain rfl : args = #[] := by cases args; simp_all
  obtain ⟨rfl, rfl⟩ := trodVars_none hV
  clear hA0 hval0 hsz0
  have hlaw := GFnExactVolumeNew.laws.FnExactVolumeNew.spec 10000000000000  true (Pure.FnExactVolumeNew_pure  )
  have hcall : Calls Try.prog 13 #[] W (fun e W' => e = .returned (.bool true) ∧ Below W.heap.size W W') := by
    exact Spec.at [] hlaw trivial (fun x hx => by cases hx) rfl
  refine hcall.mono fun e W' ⟨he, bel⟩ => ?_
  subst he
  exact ⟨_, rfl, _, _, _, [], _, [], hW', trodAll_mk1 (shut_bool Try.underlying4 _), trodAll_mk0, rfl, bel.frame _, fun h => by cases h⟩
theorem over : Rows.fnExactVolumeNewRow.holds Try.pinned (OpenSpec.ofChange Rows.fnExactVolumeNewSpec) :=
  OpenClaim.holds_of_wide 13 Try.f13 rfl rfl rfl rfl rfl rfl rfl ⟨rfl, rfl, rfl, rfl, rfl⟩ rfl rfl rfl rfl rfl (by kernel_rfl) Try.func13 (by kernel_rfl)
    (of_decide_eq_true (by kernel_rfl)) (by unfold Func.isWrapper; first | (rw [if_pos (by decide +kernel)]; kernel_rfl) | (rw [if_neg (by decide +kernel)]; exact ⟨rfl, rfl⟩))
    (fun os started H enc _ => lifted os started H enc)
theorem proved : Rows.FnExactVolumeNewSaid := over
#print axioms proved
end Go.Proofs.Ythneilmhnbboeaa.fnExactVolumeNew
namespace Go.Proofs.Ythneilmhnbboeaa
/-- The row, under a short name, for the claim. -/
theorem fnExactVolumeNew_holds : Rows.FnExactVolumeNewSaid := fnExactVolumeNew.proved
end Go.Proofs.Ythneilmhnbboeaa
