/- The row of the law FnExactFreeBlocks: it answers true at every input; no condition. -/
import Derived.Test.YtpbamdcbaloibabRows
import Derived.Test.YtpbamdcbaloibabPFnExactFreeBlocksx5
import Derived.Test.YtpbamdcbaloibabPureFnExactFreeBlocks
import Derived.Test.YtpbamdcbaloibabLibR
import Derived.WalkKit
import Derived.ProofKit
import Derived.OpenShut
import Derived.ShutString
import Derived.ChangeOld
import Derived.Below
import Derived.SizedLaws
namespace Go.Proofs.Ytpbamdcbaloibab.fnExactFreeBlocks
open Go.ChangeShapes Go.WideShapes Go.ChangeAt Go.RowKit
open Go.Proofs.YtpbamdcbaloibabW.PrintWords Go.Proofs.YtpbamdcbaloibabW.PrintLast Go.Proofs.YtpbamdcbaloibabW.PrintMore Go.Proofs.Ytpbamdcbaloibab.Row
open Go.ChangeMaps (open_string shut_string)
set_option linter.unusedVariables false
theorem own : ownKnob Try.prog.godebug = none := by kernel_rfl
theorem laidOut : laidOutB Try.prog = true := by kernel_rfl
set_option maxRecDepth 100000 in
theorem lifted (os : Os) (started : os.Started) (H : Type) (enc : TypeId × Value → H) :
    ReturnsInHanded {} Try.checked os 9 .any (Rows.fnExactFreeBlocksSpec.pre6 enc Try.prog Try.f9 Rows.fnExactFreeBlocksRow.domain false) (Rows.fnExactFreeBlocksSpec.post enc Try.prog Try.f9 false true false false) := by
  refine returnsInHanded_of_change_sized (C := Try.checked) own started (by kernel_rfl) Try.func9
    (ChangeSpec.witness6 (enc := enc) (C := Try.checked) false ⟨#[], #[.agg #[.slice none 0 0, .slice none 0 0]], []⟩ 8 (by kernel_rfl) (by kernel_rfl) (by kernel_rfl) (by kernel_rfl)) ?_
  intro W base args ds gs before hval0 hW hcnd hsz0 _
  have hval : ∀ (j : Nat) t v, Try.f9.params[j]? = some t → args[j]? = some v → Value.okWide Try.prog W .any base t v := hval0
  have hW' := hW
  obtain ⟨p, q, hA0, hV, rfl, hfz, hnd⟩ := hW
  have hA : DataW.TrodAll enc Try.prog W 0 (fun _ => true) true Try.f9.params.toList args.toList ds p := hA0
  rw [Try.params9] at hA hval
  obtain ⟨v0, vs0, d0, ds0, p0, q0, hargs, rfl, rfl, h0, r0⟩ := trodAll_cons hA
  obtain ⟨rfl, rfl, rfl⟩ := trodAll_nil r0
  obtain rfl : args = #[v0] := by cases args; simp_all
  obtain ⟨rfl, rfl⟩ := trodVars_none hV
  have k0 := h0
  have lt0 : ∀ x ∈ p0, x.block < W.heap.size := by obtain ⟨m, hm⟩ := k0; exact DataW.trod_lt m _ _ _ hm
  obtain ⟨cs0, rfl, hsz0⟩ := okWide_struct Try.underlying46 (hval 0 46 v0 rfl rfl)
  obtain ⟨⟨l0_0, l0_1⟩, ⟨_, _, hK0, ⟨A0_0, c0_0, rfl, hc0_0, hr0_0⟩, ⟨A0_1, c0_1, rfl, hc0_1, hr0_1⟩⟩, w0⟩ := Opens.top (opens_struct2 Try.underlying46 ⟨rfl, rfl, by kernel_rfl, by kernel_rfl, by kernel_rfl⟩ (opens_slice (P := Try.prog) (d := Kd.string) Try.underlying22 (by kernel_rfl) (opens_string Try.underlying9) (⟨#[]⟩ : ByteArray)) (opens_slice (P := Try.prog) (d := (Kd.int .i64)) Try.underlying23 (by kernel_rfl) (opens_int Try.underlying3) (0 : Int))) h0
  have e0 : Value.agg cs0 = .agg #[.slice A0_0 l0_0.length c0_0, .slice A0_1 l0_1.length c0_1] := agg_of hK0
  clear hA0 hval0 hsz0
  obtain ⟨k, hk⟩ := Pure.FnExactFreeBlocks_pure l0_0 l0_1 w0
  have hcall : Calls Try.prog 9 #[.agg cs0] W (fun e W' => e = .returned (.bool true) ∧ Below W.heap.size W W') := by
    rw [e0]
    exact PFnExactFreeBlocks.laws_FnExactFreeBlocks.calls (r := true) (w := W) (h := hk) (k := k) (hT := ⟨rfl⟩) (hr0_0 := hr0_0) (hc0_0 := hc0_0) (hr0_1 := hr0_1) (hc0_1 := hc0_1)
  refine hcall.mono fun e W' ⟨he, bel⟩ => ?_
  subst he
  exact ⟨_, rfl, _, _, _, [], _, [], hW', trodAll_mk1 (shut_bool Try.underlying4 _), (trodAll_cons_mk (Below.trod laidOut (by kernel_rfl) (of_decide_eq_true (by kernel_rfl)) k0 bel lt0) trodAll_mk0), rfl, bel.frame _, fun h => by cases h⟩
theorem over : Rows.fnExactFreeBlocksRow.holds Try.pinned (OpenSpec.ofChange Rows.fnExactFreeBlocksSpec) :=
  OpenClaim.holds_of_wide 9 Try.f9 rfl rfl rfl rfl rfl rfl rfl ⟨rfl, rfl, rfl, rfl, rfl⟩ rfl rfl rfl rfl rfl (by kernel_rfl) Try.func9 (by kernel_rfl)
    (of_decide_eq_true (by kernel_rfl)) (by unfold Func.isWrapper; first | (rw [if_pos (by decide +kernel)]; kernel_rfl) | (rw [if_neg (by decide +kernel)]; exact ⟨rfl, rfl⟩))
    (fun os started H enc _ => lifted os started H enc)
theorem proved : Rows.FnExactFreeBlocksSaid := over
#print axioms proved
end Go.Proofs.Ytpbamdcbaloibab.fnExactFreeBlocks
namespace Go.Proofs.Ytpbamdcbaloibab
/-- The row, under a short name, for the claim. -/
theorem fnExactFreeBlocks_holds : Rows.FnExactFreeBlocksSaid := fnExactFreeBlocks.proved
end Go.Proofs.Ytpbamdcbaloibab
