/- The row of the law FnExactFreeNode: it answers true at every input; no condition. -/
import Derived.Test.YtdikjefddgbkfaaRows
import Derived.Test.YtdikjefddgbkfaaPFnExactFreeNodex1
import Derived.Test.YtdikjefddgbkfaaPureFnExactFreeNode
import Derived.Test.YtdikjefddgbkfaaLibR
import Derived.WalkKit
import Derived.ProofKit
import Derived.OpenShut
import Derived.ShutString
import Derived.ChangeOld
import Derived.Below
import Derived.SizedLaws
namespace Go.Proofs.Ytdikjefddgbkfaa.fnExactFreeNode
open Go.ChangeShapes Go.WideShapes Go.ChangeAt Go.RowKit
open Go.Proofs.YtdikjefddgbkfaaW.PrintWords Go.Proofs.YtdikjefddgbkfaaW.PrintLast Go.Proofs.YtdikjefddgbkfaaW.PrintMore Go.Proofs.Ytdikjefddgbkfaa.Row
open Go.ChangeMaps (open_string shut_string)
set_option linter.unusedVariables false
theorem own : ownKnob Try.prog.godebug = none := by kernel_rfl
theorem laidOut : laidOutB Try.prog = true := by kernel_rfl
set_option maxRecDepth 100000 in
theorem lifted (os : Os) (started : os.Started) (H : Type) (enc : TypeId × Value → H) :
    ReturnsInHanded {} Try.checked os 8 .any (Rows.fnExactFreeNodeSpec.pre6 enc Try.prog Try.f8 Rows.fnExactFreeNodeRow.domain false) (Rows.fnExactFreeNodeSpec.post enc Try.prog Try.f8 false true false false) := by
  refine returnsInHanded_of_change_sized (C := Try.checked) own started (by kernel_rfl) Try.func8
    (ChangeSpec.witness6 (enc := enc) (C := Try.checked) false ⟨#[], #[.slice none 0 0], []⟩ 8 (by kernel_rfl) (by kernel_rfl) (by kernel_rfl) (by kernel_rfl)) ?_
  intro W base args ds gs before hval0 hW hcnd hsz0 _
  have hval : ∀ (j : Nat) t v, Try.f8.params[j]? = some t → args[j]? = some v → Value.okWide Try.prog W .any base t v := hval0
  have hW' := hW
  obtain ⟨p, q, hA0, hV, rfl, hfz, hnd⟩ := hW
  have hA : DataW.TrodAll enc Try.prog W 0 (fun _ => true) true Try.f8.params.toList args.toList ds p := hA0
  rw [Try.params8] at hA hval
  obtain ⟨v0, vs0, d0, ds0, p0, q0, hargs, rfl, rfl, h0, r0⟩ := trodAll_cons hA
  obtain ⟨rfl, rfl, rfl⟩ := trodAll_nil r0
  obtain rfl : args = #[v0] := by cases args; simp_all
  obtain ⟨rfl, rfl⟩ := trodVars_none hV
  have k0 := h0
  have lt0 : ∀ x ∈ p0, x.block < W.heap.size := by obtain ⟨m, hm⟩ := k0; exact DataW.trod_lt m _ _ _ hm
  obtain ⟨a0, len0, cap0, rfl⟩ := okWide_slice Try.underlying36 (hval 0 36 v0 rfl rfl)
  obtain ⟨l0, ⟨A0, c0, hK0, hc0, hr0⟩, w0⟩ := Opens.top (opens_slice (P := Try.prog) (d := Kd.string) Try.underlying36 (by kernel_rfl) (opens_string Try.underlying9) (⟨#[]⟩ : ByteArray)) h0
  have hK0 : [Value.slice a0 len0 cap0] = [.slice A0 l0.length c0] := hK0
  injection hK0 with hK0 _
  injection hK0 with e0 e0_ e0__
  subst e0 e0_ e0__
  clear hA0 hval0 hsz0
  obtain ⟨k, hk⟩ := Pure.FnExactFreeNode_pure l0 w0
  have hcall : Calls Try.prog 8 #[.slice a0 l0.length cap0] W (fun e W' => e = .returned (.bool true) ∧ Below W.heap.size W W') := by
    exact PFnExactFreeNode.laws_FnExactFreeNode.calls (r := true) (w := W) (h := hk) (k := k) (hr0 := hr0) (hc0 := hc0)
  refine hcall.mono fun e W' ⟨he, bel⟩ => ?_
  subst he
  exact ⟨_, rfl, _, _, _, [], _, [], hW', trodAll_mk1 (shut_bool Try.underlying4 _), (trodAll_cons_mk (Below.trod laidOut (by kernel_rfl) (of_decide_eq_true (by kernel_rfl)) k0 bel lt0) trodAll_mk0), rfl, bel.frame _, fun h => by cases h⟩
theorem over : Rows.fnExactFreeNodeRow.holds Try.pinned (OpenSpec.ofChange Rows.fnExactFreeNodeSpec) :=
  OpenClaim.holds_of_wide 8 Try.f8 rfl rfl rfl rfl rfl rfl rfl ⟨rfl, rfl, rfl, rfl, rfl⟩ rfl rfl rfl rfl rfl (by kernel_rfl) Try.func8 (by kernel_rfl)
    (of_decide_eq_true (by kernel_rfl)) (by unfold Func.isWrapper; first | (rw [if_pos (by decide +kernel)]; kernel_rfl) | (rw [if_neg (by decide +kernel)]; exact ⟨rfl, rfl⟩))
    (fun os started H enc _ => lifted os started H enc)
theorem proved : Rows.FnExactFreeNodeSaid := over
#print axioms proved
end Go.Proofs.Ytdikjefddgbkfaa.fnExactFreeNode
namespace Go.Proofs.Ytdikjefddgbkfaa
/-- The row, under a short name, for the claim. -/
theorem fnExactFreeNode_holds : Rows.FnExactFreeNodeSaid := fnExactFreeNode.proved
end Go.Proofs.Ytdikjefddgbkfaa
