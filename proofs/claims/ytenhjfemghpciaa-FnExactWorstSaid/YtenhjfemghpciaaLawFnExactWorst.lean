/- The row of the law FnExactWorst: it answers true at every input; no condition. -/
import Derived.Test.YtenhjfemghpciaaRows
import Derived.Test.YtenhjfemghpciaaGFnExactWorst
import Derived.Test.YtenhjfemghpciaaPureFnExactWorst
import Derived.Test.YtenhjfemghpciaaDenY
import Derived.WalkKit
import Derived.ProofKit
import Derived.OpenShut
import Derived.ShutString
import Derived.ChangeOld
import Derived.Below
import Derived.SizedLaws
namespace Go.Proofs.Ytenhjfemghpciaa.fnExactWorst
open Go Go.ChangeShapes Go.WideShapes Go.ChangeAt Go.RowKit Go.Proofs.Ytenhjfemghpciaa.Den
open Go.ChangeMaps (open_string shut_string)
set_option linter.unusedVariables false
theorem own : ownKnob Try.prog.godebug = none := by kernel_rfl
theorem laidOut : laidOutB Try.prog = true := by kernel_rfl
set_option maxRecDepth 100000 in
theorem lifted (os : Os) (started : os.Started) (H : Type) (enc : TypeId × Value → H) :
    ReturnsInHanded {} Try.checked os 12 .any (Rows.fnExactWorstSpec.pre6 enc Try.prog Try.f12 Rows.fnExactWorstRow.domain false) (Rows.fnExactWorstSpec.post enc Try.prog Try.f12 false true false false) := by
  refine returnsInHanded_of_change_sized (C := Try.checked) own started (by kernel_rfl) Try.func12
    (ChangeSpec.witness6 (enc := enc) (C := Try.checked) false ⟨#[], #[.agg #[.slice none 0 0, .slice none 0 0, .slice none 0 0, .int .i64 0]], []⟩ 8 (by kernel_rfl) (by kernel_rfl) (by kernel_rfl) (by kernel_rfl)) ?_
  intro W base args ds gs before hval0 hW hcnd hsz0 _
  have hval : ∀ (j : Nat) t v, Try.f12.params[j]? = some t → args[j]? = some v → Value.okWide Try.prog W .any base t v := hval0
  have hW' := hW
  obtain ⟨p, q, hA0, hV, rfl, hfz, hnd⟩ := hW
  have hA : DataW.TrodAll enc Try.prog W 0 (fun _ => true) true Try.f12.params.toList args.toList ds p := hA0
  rw [Try.params12] at hA hval
  obtain ⟨v0, vs0, d0, ds0, p0, q0, hargs, rfl, rfl, h0, r0⟩ := trodAll_cons hA
  obtain ⟨rfl, rfl, rfl⟩ := trodAll_nil r0
  obtain rfl : args = #[v0] := by cases args; simp_all
  obtain ⟨rfl, rfl⟩ := trodVars_none hV
  have k0 := h0
  have lt0 : ∀ x ∈ p0, x.block < W.heap.size := by obtain ⟨m, hm⟩ := k0; exact DataW.trod_lt m _ _ _ hm
  obtain ⟨cs0, rfl, hsz0⟩ := okWide_struct Try.underlying47 (hval 0 47 v0 rfl rfl)
  obtain ⟨fuel0, hf0⟩ := h0
  obtain ⟨n0, c0_0, c0_1, c0_2, y0_0, y0_1, y0_2, hcs0, g0_0, g0_1, g0_2⟩ := struct3_ (s0 := 2) (s1 := 1) (s2 := 1) Try.underlying47 ⟨rfl, rfl, rfl, by kernel_rfl, by kernel_rfl, by kernel_rfl, by kernel_rfl⟩ hf0
  obtain ⟨n0_0, c0_0_0, c0_0_1, y0_0_0, y0_0_1, rfl, g0_0_0, g0_0_1⟩ := struct2_ (s0 := 1) (s1 := 1) Try.underlying45 ⟨rfl, rfl, by kernel_rfl, by kernel_rfl, by kernel_rfl⟩ g0_0
  obtain ⟨u0_0_0, lc0_0_0, l0_0_0, rfl, hr0_0_0, hl0_0_0, hq0_0_0⟩ := row_strs Try.underlying22 Try.underlying9 (by kernel_rfl) g0_0_0
  obtain ⟨u0_0_1, lc0_0_1, l0_0_1, rfl, hr0_0_1, hl0_0_1, hq0_0_1⟩ := row_ints Try.underlying23 Try.underlying3 (by kernel_rfl) g0_0_1
  obtain ⟨u0_1, lc0_1, l0_1, rfl, hr0_1, hl0_1, hq0_1⟩ := row_ints Try.underlying23 Try.underlying3 (by kernel_rfl) g0_1
  obtain ⟨a0_2, rfl, _, w0_2⟩ := DataW.trod_int Try.underlying3 g0_2
  have e0 : Value.agg cs0 = .agg #[u0_0_0, u0_0_1, u0_1, .int .i64 a0_2] := agg_of hcs0
  clear hA0 hval0 hsz0
  have hlaw := GFnExactWorst.laws.FnExactWorst.spec 10000000000000 l0_0_0 l0_0_1 l0_1 a0_2 true (Pure.FnExactWorst_pure l0_0_0 l0_0_1 l0_1 a0_2 hl0_0_0 hq0_0_0 hl0_0_1 hq0_0_1 hl0_1 hq0_1 w0_2)
  have hcall : Calls Try.prog 12 #[.agg cs0] W (fun e W' => e = .returned (.bool true) ∧ Below W.heap.size W W') := by
    rw [e0]
    exact Spec.at [(.strs l0_0_0, u0_0_0, lc0_0_0), (.ints .i64 l0_0_1, u0_0_1, lc0_0_1), (.ints .i64 l0_1, u0_1, lc0_1)] hlaw ⟨hr0_0_0, ⟨hr0_0_1, ⟨hr0_1, trivial⟩⟩⟩ (by intro x hx; simp only [List.mem_cons, List.not_mem_nil, or_false] at hx; rcases hx with rfl | rfl | rfl <;> rfl) ⟨_, _, rfl, ⟨_, rfl, ⟨_, _, rfl, (hr0_0_0.sl rfl), ⟨_, _, rfl, (hr0_0_1.sl rfl), ⟨_, _, rfl, (hr0_1.sl rfl), ⟨_, _, rfl, rfl, rfl⟩⟩⟩⟩⟩, rfl⟩
  refine hcall.mono fun e W' ⟨he, bel⟩ => ?_
  subst he
  exact ⟨_, rfl, _, _, _, [], _, [], hW', trodAll_mk1 (shut_bool Try.underlying4 _), (trodAll_cons_mk (Below.trod laidOut (by kernel_rfl) (of_decide_eq_true (by kernel_rfl)) k0 bel lt0) trodAll_mk0), rfl, bel.frame _, fun h => by cases h⟩
theorem over : Rows.fnExactWorstRow.holds Try.pinned (OpenSpec.ofChange Rows.fnExactWorstSpec) :=
  OpenClaim.holds_of_wide 12 Try.f12 rfl rfl rfl rfl rfl rfl rfl ⟨rfl, rfl, rfl, rfl, rfl⟩ rfl rfl rfl rfl rfl (by kernel_rfl) Try.func12 (by kernel_rfl)
    (of_decide_eq_true (by kernel_rfl)) (by unfold Func.isWrapper; first | (rw [if_pos (by decide +kernel)]; kernel_rfl) | (rw [if_neg (by decide +kernel)]; exact ⟨rfl, rfl⟩))
    (fun os started H enc _ => lifted os started H enc)
theorem proved : Rows.FnExactWorstSaid := over
#print axioms proved
end Go.Proofs.Ytenhjfemghpciaa.fnExactWorst
namespace Go.Proofs.Ytenhjfemghpciaa
/-- The row, under a short name, for the claim. -/
theorem fnExactWorst_holds : Rows.FnExactWorstSaid := fnExactWorst.proved
end Go.Proofs.Ytenhjfemghpciaa
