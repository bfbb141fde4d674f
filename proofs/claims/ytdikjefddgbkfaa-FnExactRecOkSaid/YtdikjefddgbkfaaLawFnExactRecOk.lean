/- The row of the law FnExactRecOk: it answers true at every input; no condition. -/
import Derived.Test.YtdikjefddgbkfaaRows
import Derived.Test.YtdikjefddgbkfaaPFnExactRecOkx1
import Derived.Test.YtdikjefddgbkfaaPureFnExactRecOk
import Derived.Test.YtdikjefddgbkfaaLibR
import Derived.WalkKit
import Derived.ProofKit
import Derived.OpenShut
import Derived.ShutString
import Derived.ChangeOld
import Derived.Below
import Derived.SizedLaws
namespace Go.Proofs.Ytdikjefddgbkfaa.fnExactRecOk
open Go.ChangeShapes Go.WideShapes Go.ChangeAt Go.RowKit
open Go.Proofs.YtdikjefddgbkfaaW.PrintWords Go.Proofs.YtdikjefddgbkfaaW.PrintLast Go.Proofs.YtdikjefddgbkfaaW.PrintMore Go.Proofs.Ytdikjefddgbkfaa.Row
open Go.ChangeMaps (open_string shut_string)
set_option linter.unusedVariables false
theorem own : ownKnob Try.prog.godebug = none := by kernel_rfl
theorem laidOut : laidOutB Try.prog = true := by kernel_rfl
set_option maxRecDepth 100000 in
theorem lifted (os : Os) (started : os.Started) (H : Type) (enc : TypeId × Value → H) :
    ReturnsInHanded {} Try.checked os 5 .any (Rows.fnExactRecOkSpec.pre6 enc Try.prog Try.f5 Rows.fnExactRecOkRow.domain false) (Rows.fnExactRecOkSpec.post enc Try.prog Try.f5 false true false false) := by
  refine returnsInHanded_of_change_sized (C := Try.checked) own started (by kernel_rfl) Try.func5
    (ChangeSpec.witness6 (enc := enc) (C := Try.checked) false ⟨#[], #[.agg #[.int .i64 0, .int .i64 0, .string ⟨#[]⟩]], []⟩ 8 (by kernel_rfl) (by kernel_rfl) (by kernel_rfl) (by kernel_rfl)) ?_
  intro W base args ds gs before hval0 hW hcnd hsz0 _
  have hval : ∀ (j : Nat) t v, Try.f5.params[j]? = some t → args[j]? = some v → Value.okWide Try.prog W .any base t v := hval0
  have hW' := hW
  obtain ⟨p, q, hA0, hV, rfl, hfz, hnd⟩ := hW
  have hA : DataW.TrodAll enc Try.prog W 0 (fun _ => true) true Try.f5.params.toList args.toList ds p := hA0
  rw [Try.params5] at hA hval
  obtain ⟨v0, vs0, d0, ds0, p0, q0, hargs, rfl, rfl, h0, r0⟩ := trodAll_cons hA
  obtain ⟨rfl, rfl, rfl⟩ := trodAll_nil r0
  obtain rfl : args = #[v0] := by cases args; simp_all
  obtain ⟨rfl, rfl⟩ := trodVars_none hV
  have k0 := h0
  have lt0 : ∀ x ∈ p0, x.block < W.heap.size := by obtain ⟨m, hm⟩ := k0; exact DataW.trod_lt m _ _ _ hm
  obtain ⟨cs0, rfl, hsz0⟩ := okWide_struct Try.underlying25 (hval 0 25 v0 rfl rfl)
  obtain ⟨⟨a0_0, a0_1, a0_2⟩, ⟨_, _, hK0, rfl, ⟨_, _, rfl, rfl, rfl⟩⟩, w0⟩ := Opens.top (opens_struct3 Try.underlying25 ⟨rfl, rfl, rfl, by kernel_rfl, by kernel_rfl, by kernel_rfl, by kernel_rfl⟩ (opens_int Try.underlying3) (opens_int Try.underlying3) (opens_string Try.underlying9)) h0
  have e0 : Value.agg cs0 = .agg #[.int .i64 a0_0, .int .i64 a0_1, .string a0_2] := agg_of hK0
  clear hA0 hval0 hsz0
  obtain ⟨k, hk⟩ := Pure.FnExactRecOk_pure a0_0 a0_1 a0_2 w0
  have hcall : Calls Try.prog 5 #[.agg cs0] W (fun e W' => e = .returned (.bool true) ∧ Below W.heap.size W W') := by
    rw [e0]
    exact PFnExactRecOk.laws_FnExactRecOk.calls (r := true) (w := W) (h := hk) 
  refine hcall.mono fun e W' ⟨he, bel⟩ => ?_
  subst he
  exact ⟨_, rfl, _, _, _, [], _, [], hW', trodAll_mk1 (shut_bool Try.underlying4 _), (trodAll_cons_mk (Below.trod laidOut (by kernel_rfl) (of_decide_eq_true (by kernel_rfl)) k0 bel lt0) trodAll_mk0), rfl, bel.frame _, fun h => by cases h⟩
theorem over : Rows.fnExactRecOkRow.holds Try.pinned (OpenSpec.ofChange Rows.fnExactRecOkSpec) :=
  OpenClaim.holds_of_wide 5 Try.f5 rfl rfl rfl rfl rfl rfl rfl ⟨rfl, rfl, rfl, rfl, rfl⟩ rfl rfl rfl rfl rfl (by kernel_rfl) Try.func5 (by kernel_rfl)
    (of_decide_eq_true (by kernel_rfl)) (by unfold Func.isWrapper; first | (rw [if_pos (by decide +kernel)]; kernel_rfl) | (rw [if_neg (by decide +kernel)]; exact ⟨rfl, rfl⟩))
    (fun os started H enc _ => lifted os started H enc)
theorem proved : Rows.FnExactRecOkSaid := over
#print axioms proved
end Go.Proofs.Ytdikjefddgbkfaa.fnExactRecOk
namespace Go.Proofs.Ytdikjefddgbkfaa
/-- The row, under a short name, for the claim. -/
theorem fnExactRecOk_holds : Rows.FnExactRecOkSaid := fnExactRecOk.proved
end Go.Proofs.Ytdikjefddgbkfaa
