/- The row of the law FnFlash: it answers true at every input; no condition. -/
import Derived.Test.YtmodnnokcmabhaaGreatRows
import Derived.Test.YtmodnnokcmabhaaGreatGFnFlash
import Derived.Test.YtmodnnokcmabhaaGreatPureFnFlash
import Derived.Test.YtmodnnokcmabhaaGreatDenY
import Derived.WalkKit
import Derived.ProofKit
import Derived.OpenShut
import Derived.ShutString
import Derived.ChangeOld
import Derived.Below
import Derived.SizedLaws
namespace Go.Proofs.YtmodnnokcmabhaaGreat.fnFlash
open Go Go.ChangeShapes Go.WideShapes Go.ChangeAt Go.RowKit Go.Proofs.YtmodnnokcmabhaaGreat.Den
open Go.ChangeMaps (open_string shut_string)
set_option linter.unusedVariables false
theorem own : ownKnob Tryz.prog.godebug = none := by kernel_rfl
theorem laidOut : laidOutB Tryz.prog = true := by kernel_rfl
set_option maxRecDepth 100000 in
theorem lifted (os : Os) (started : os.Started) (H : Type) (enc : TypeId × Value → H) :
    ReturnsInHanded {} Tryz.checked os 5 .any (Rows.fnFlashSpec.pre6 enc Tryz.prog Tryz.f5 Rows.fnFlashRow.domain false) (Rows.fnFlashSpec.post enc Tryz.prog Tryz.f5 false true false false) := by
  refine returnsInHanded_of_change_sized (C := Tryz.checked) own started (by kernel_rfl) Tryz.func5
    (ChangeSpec.witness6 (enc := enc) (C := Tryz.checked) false ⟨#[], #[.slice none 0 0], []⟩ 8 (by kernel_rfl) (by kernel_rfl) (by kernel_rfl) (by kernel_rfl)) ?_
  intro W base args ds gs before hval0 hW hcnd hsz0 _
  have hval : ∀ (j : Nat) t v, Tryz.f5.params[j]? = some t → args[j]? = some v → Value.okWide Tryz.prog W .any base t v := hval0
  have hW' := hW
  obtain ⟨p, q, hA0, hV, rfl, hfz, hnd⟩ := hW
  have hA : DataW.TrodAll enc Tryz.prog W 0 (fun _ => true) true Tryz.f5.params.toList args.toList ds p := hA0
  rw [Tryz.params5] at hA hval
  obtain ⟨v0, vs0, d0, ds0, p0, q0, hargs, rfl, rfl, h0, r0⟩ := trodAll_cons hA
  obtain ⟨rfl, rfl, rfl⟩ := trodAll_nil r0
  obtain rfl : args = #[v0] := by cases args; simp_all
  obtain ⟨rfl, rfl⟩ := trodVars_none hV
  have k0 := h0
  have lt0 : ∀ x ∈ p0, x.block < W.heap.size := by obtain ⟨m, hm⟩ := k0; exact DataW.trod_lt m _ _ _ hm
  obtain ⟨x0, len0, cap0, rfl⟩ := okWide_slice Tryz.underlying22 (hval 0 22 v0 rfl rfl)
  obtain ⟨fuel0, hf0⟩ := h0
  obtain ⟨u0, lc0, l0, hu0, hr0, hl0, hq0⟩ := row_ints Tryz.underlying22 Tryz.underlying5 (by kernel_rfl) hf0
  have hu0 : [Value.slice x0 len0 cap0] = [u0] := hu0
  obtain ⟨rfl, _⟩ := List.cons.inj hu0
  clear hA0 hval0 hsz0
  have hlaw := GFnFlash.laws.FnFlash.spec 10000000000000 l0 true (Pure.FnFlash_pure l0 hl0 hq0)
  have hcall : Calls Tryz.prog 5 #[.slice x0 len0 cap0] W (fun e W' => e = .returned (.bool true) ∧ Below W.heap.size W W') := by
    exact Spec.at [(.ints .u8 l0, .slice x0 len0 cap0, lc0)] hlaw ⟨hr0, trivial⟩ (by intro x hx; simp only [List.mem_cons, List.not_mem_nil, or_false] at hx; rcases hx with rfl <;> rfl) ⟨_, _, rfl, (hr0.sl rfl), rfl⟩
  refine hcall.mono fun e W' ⟨he, bel⟩ => ?_
  subst he
  exact ⟨_, rfl, _, _, _, [], _, [], hW', trodAll_mk1 (shut_bool Tryz.underlying4 _), (trodAll_cons_mk (Below.trod laidOut (by kernel_rfl) (of_decide_eq_true (by kernel_rfl)) k0 bel lt0) trodAll_mk0), rfl, bel.frame _, fun h => by cases h⟩
theorem over : Rows.fnFlashRow.holds Tryz.pinned (OpenSpec.ofChange Rows.fnFlashSpec) :=
  OpenClaim.holds_of_wide 5 Tryz.f5 rfl rfl rfl rfl rfl rfl rfl ⟨rfl, rfl, rfl, rfl, rfl⟩ rfl rfl rfl rfl rfl (by kernel_rfl) Tryz.func5 (by kernel_rfl)
    (of_decide_eq_true (by kernel_rfl)) (by unfold Func.isWrapper; first | (rw [if_pos (by decide +kernel)]; kernel_rfl) | (rw [if_neg (by decide +kernel)]; exact ⟨rfl, rfl⟩))
    (fun os started H enc _ => lifted os started H enc)
theorem proved : Rows.FnFlashSaid := over
#print axioms proved
end Go.Proofs.YtmodnnokcmabhaaGreat.fnFlash
namespace Go.Proofs.YtmodnnokcmabhaaGreat
/-- The row, under a short name, for the claim. -/
theorem fnFlash_holds : Rows.FnFlashSaid := fnFlash.proved
end Go.Proofs.YtmodnnokcmabhaaGreat
