/- The row of the law FnExactKidPut: it answers true at every input; no condition. -/
import Derived.Test.YtmodnnokcmabhaaRows
import Derived.Test.YtmodnnokcmabhaaGFnExactKidPut
import Derived.Test.YtmodnnokcmabhaaPureFnExactKidPut
import Derived.Test.YtmodnnokcmabhaaDenY
import Derived.WalkKit
import Derived.ProofKit
import Derived.OpenShut
import Derived.ShutString
import Derived.ChangeOld
import Derived.Below
import Derived.SizedLaws
namespace Go.Proofs.Ytmodnnokcmabhaa.fnExactKidPut
open Go Go.ChangeShapes Go.WideShapes Go.ChangeAt Go.RowKit Go.Proofs.Ytmodnnokcmabhaa.Den
open Go.ChangeMaps (open_string shut_string)
set_option linter.unusedVariables false
theorem own : ownKnob Try.prog.godebug = none := by kernel_rfl
theorem laidOut : laidOutB Try.prog = true := by kernel_rfl
set_option maxRecDepth 100000 in
theorem lifted (os : Os) (started : os.Started) (H : Type) (enc : TypeId × Value → H) :
    ReturnsInHanded {} Try.checked os 4 .any (Rows.fnExactKidPutSpec.pre6 enc Try.prog Try.f4 Rows.fnExactKidPutRow.domain false) (Rows.fnExactKidPutSpec.post enc Try.prog Try.f4 false true false false) := by
  refine returnsInHanded_of_change_sized (C := Try.checked) own started (by kernel_rfl) Try.func4
    (ChangeSpec.witness6 (enc := enc) (C := Try.checked) false ⟨#[], #[.agg #[.bool false, .slice none 0 0, .slice none 0 0, .string ⟨#[]⟩], .string ⟨#[]⟩, .int .i64 0], []⟩ 8 (by kernel_rfl) (by kernel_rfl) (by kernel_rfl) (by kernel_rfl)) ?_
  intro W base args ds gs before hval0 hW hcnd hsz0 _
  have hval : ∀ (j : Nat) t v, Try.f4.params[j]? = some t → args[j]? = some v → Value.okWide Try.prog W .any base t v := hval0
  have hW' := hW
  obtain ⟨p, q, hA0, hV, rfl, hfz, hnd⟩ := hW
  have hA : DataW.TrodAll enc Try.prog W 0 (fun _ => true) true Try.f4.params.toList args.toList ds p := hA0
  rw [Try.params4] at hA hval
  obtain ⟨v0, vs0, d0, ds0, p0, q0, hargs, rfl, rfl, h0, r0⟩ := trodAll_cons hA
  obtain ⟨v1, vs1, d1, ds1, p1, q1, rfl, rfl, rfl, h1, r1⟩ := trodAll_cons r0
  obtain ⟨v2, vs2, d2, ds2, p2, q2, rfl, rfl, rfl, h2, r2⟩ := trodAll_cons r1
  obtain ⟨rfl, rfl, rfl⟩ := trodAll_nil r2
  obtain rfl : args = #[v0, v1, v2] := by cases args; simp_all
  obtain ⟨rfl, rfl⟩ := trodVars_none hV
  have k0 := h0
  have lt0 : ∀ x ∈ p0, x.block < W.heap.size := by obtain ⟨m, hm⟩ := k0; exact DataW.trod_lt m _ _ _ hm
  obtain ⟨cs0, rfl, hsz0⟩ := okWide_struct Try.underlying25 (hval 0 25 v0 rfl rfl)
  obtain ⟨fuel0, hf0⟩ := h0
  obtain ⟨n0, c0_0, c0_1, c0_2, c0_3, y0_0, y0_1, y0_2, y0_3, hcs0, g0_0, g0_1, g0_2, g0_3⟩ := struct4_ (s0 := 1) (s1 := 1) (s2 := 1) (s3 := 1) Try.underlying25 ⟨rfl, rfl, rfl, rfl, by kernel_rfl, by kernel_rfl, by kernel_rfl, by kernel_rfl, by kernel_rfl⟩ hf0
  obtain ⟨a0_0, rfl, _⟩ := DataW.trod_bool Try.underlying4 g0_0
  obtain ⟨u0_1, lc0_1, l0_1, rfl, hr0_1, hl0_1, hq0_1⟩ := row_strs Try.underlying22 Try.underlying9 (by kernel_rfl) g0_1
  obtain ⟨u0_2, lc0_2, l0_2, rfl, hr0_2, hl0_2, hq0_2⟩ := row_ints Try.underlying23 Try.underlying3 (by kernel_rfl) g0_2
  obtain ⟨a0_3, rfl, _, w0_3⟩ := DataW.trod_string Try.underlying9 g0_3
  have e0 : Value.agg cs0 = .agg #[.bool a0_0, u0_1, u0_2, .string a0_3] := agg_of hcs0
  have k1 := h1
  have lt1 : ∀ x ∈ p1, x.block < W.heap.size := by obtain ⟨m, hm⟩ := k1; exact DataW.trod_lt m _ _ _ hm
  obtain ⟨a1, rfl, _, _, w1⟩ := open_string Try.underlying9 (hval 1 9 v1 rfl rfl) h1
  have k2 := h2
  have lt2 : ∀ x ∈ p2, x.block < W.heap.size := by obtain ⟨m, hm⟩ := k2; exact DataW.trod_lt m _ _ _ hm
  obtain ⟨a2, rfl, _, _, w2⟩ := open_int Try.underlying3 (hval 2 3 v2 rfl rfl) h2
  clear hA0 hval0 hsz0
  have hlaw := GFnExactKidPut.laws.FnExactKidPut.spec 10000000000000 a0_0 l0_1 l0_2 a0_3 a1 a2 true (Pure.FnExactKidPut_pure a0_0 l0_1 l0_2 a0_3 a1 a2 hl0_1 hq0_1 hl0_2 hq0_2 w0_3 w1 w2)
  have hcall : Calls Try.prog 4 #[.agg cs0, .string a1, .int .i64 a2] W (fun e W' => e = .returned (.bool true) ∧ Below W.heap.size W W') := by
    rw [e0]
    exact Spec.at [(.strs l0_1, u0_1, lc0_1), (.ints .i64 l0_2, u0_2, lc0_2)] hlaw ⟨hr0_1, ⟨hr0_2, trivial⟩⟩ (by intro x hx; simp only [List.mem_cons, List.not_mem_nil, or_false] at hx; rcases hx with rfl | rfl <;> rfl) ⟨_, _, rfl, ⟨_, rfl, ⟨_, _, rfl, rfl, ⟨_, _, rfl, (hr0_1.sl rfl), ⟨_, _, rfl, (hr0_2.sl rfl), ⟨_, _, rfl, rfl, rfl⟩⟩⟩⟩⟩, ⟨_, _, rfl, rfl, ⟨_, _, rfl, rfl, rfl⟩⟩⟩
  refine hcall.mono fun e W' ⟨he, bel⟩ => ?_
  subst he
  exact ⟨_, rfl, _, _, _, [], _, [], hW', trodAll_mk1 (shut_bool Try.underlying4 _), (trodAll_cons_mk (Below.trod laidOut (by kernel_rfl) (of_decide_eq_true (by kernel_rfl)) k0 bel lt0) (trodAll_cons_mk (Below.trod laidOut (by kernel_rfl) (of_decide_eq_true (by kernel_rfl)) k1 bel lt1) (trodAll_cons_mk (Below.trod laidOut (by kernel_rfl) (of_decide_eq_true (by kernel_rfl)) k2 bel lt2) trodAll_mk0))), rfl, bel.frame _, fun h => by cases h⟩
theorem over : Rows.fnExactKidPutRow.holds Try.pinned (OpenSpec.ofChange Rows.fnExactKidPutSpec) :=
  OpenClaim.holds_of_wide 4 Try.f4 rfl rfl rfl rfl rfl rfl rfl ⟨rfl, rfl, rfl, rfl, rfl⟩ rfl rfl rfl rfl rfl (by kernel_rfl) Try.func4 (by kernel_rfl)
    (of_decide_eq_true (by kernel_rfl)) (by unfold Func.isWrapper; first | (rw [if_pos (by decide +kernel)]; kernel_rfl) | (rw [if_neg (by decide +kernel)]; exact ⟨rfl, rfl⟩))
    (fun os started H enc _ => lifted os started H enc)
theorem proved : Rows.FnExactKidPutSaid := over
#print axioms proved
end Go.Proofs.Ytmodnnokcmabhaa.fnExactKidPut
namespace Go.Proofs.Ytmodnnokcmabhaa
/-- The row, under a short name, for the claim. -/
theorem fnExactKidPut_holds : Rows.FnExactKidPutSaid := fnExactKidPut.proved
end Go.Proofs.Ytmodnnokcmabhaa
