-- Laid by a program out of the translation, with contracts of our own for what it does not take; Lean checks it.
import Derived.Test.YtpbamdcbaloibabPFnExactClearx0
import Derived.Test.YtpbamdcbaloibabPFnExactClearx1
import Derived.Test.YtpbamdcbaloibabPFnExactClearx2
import Derived.Test.YtpbamdcbaloibabPFnExactClearx3
import Derived.Test.YtpbamdcbaloibabPFnExactClearx5
import Derived.Test.YtpbamdcbaloibabPFnExactClearx6
namespace Go.Proofs.Ytpbamdcbaloibab.PFnExactClear
open Go.RowKit Go.Proofs.YtpbamdcbaloibabW.PrintWords Go.Proofs.YtpbamdcbaloibabW.PrintLast Go.Proofs.YtpbamdcbaloibabW.PrintMore
attribute [local go_sem] max2_int min2_int max_two min_two max_three min_three max_four min_four   -- for this text's walks alone
set_option linter.unusedVariables false
set_option linter.unusedSimpArgs false

/-! ### laws_FnExactClear: function 11 -/
mutual
def laws_FnExactClear.j0 : Nat → Int → Bool → Bool → Bool → List ByteArray → List Int → List ByteArray → List Int → List ByteArray → List Int → List ByteArray → List Int → Option (Bool)
  | 0, _, _, _, _, _, _, _, _, _, _, _, _ => none
  | k + 1, x1, x7, x10, x44, x230000, x230001, x245000, x245001, x252000, x252001, x260000, x260001 => if x44 = true then (some false) else ((laws_toChip.f k x230000 x230001).bind fun bt261 => ((laws_eqChip.f k x252000 x252001 bt261.1 bt261.2).bind fun t267 => (if t267 = true then ((laws_markChip.f k x252000 x252001 1).bind fun bt268 => (if bt268.1 < 0 then (laws_FnExactClear.j1 k x1 x7 true x230000 x230001 x245000 x245001 x260000 x260001) else ((laws_eqChip.f k x260000 x260001 x245000 x245001).bind fun t271 => (if t271 = true then (laws_FnExactClear.j1 k x1 x7 (x10 != x7) x230000 x230001 x245000 x245001 x260000 x260001) else (laws_FnExactClear.j1 k x1 x7 true x230000 x230001 x245000 x245001 x260000 x260001))))) else (some false))))
def laws_FnExactClear.j1 : Nat → Int → Bool → Bool → List ByteArray → List Int → List ByteArray → List Int → List ByteArray → List Int → Option (Bool)
  | 0, _, _, _, _, _, _, _, _, _ => none
  | k + 1, x1, x7, x65, x230000, x230001, x245000, x245001, x260000, x260001 => if x65 = true then (some false) else ((laws_markChip.f k x260000 x260001 1).bind fun bt272 => ((laws_heldChip.f k bt272.2.1 bt272.2.2 1).bind fun t275 => (if t275 < 0 then (some false) else (if t275 = bt272.1 then ((laws_toChip.f k x230000 x230001).bind fun bt276 => ((impl_Clear.f k bt276.1 bt276.2 x1).bind fun bt282 => ((laws_eqChip.f k bt282.1 bt282.2.1 x245000 x245001).bind fun t290 => (if t290 = true then (laws_FnExactClear.j2 k bt272.1 (bt282.2.2 != x7) bt272.2.1 bt272.2.2) else (laws_FnExactClear.j2 k bt272.1 true bt272.2.1 bt272.2.2))))) else (some false)))))
def laws_FnExactClear.j2 : Nat → Int → Bool → List ByteArray → List Int → Option (Bool)
  | 0, _, _, _, _ => none
  | k + 1, x12, x92, x260000, x260001 => if x92 = true then (some false) else ((laws_heldChip.f k x260000 x260001 1).bind fun t291 => (if t291 < 0 then (some false) else (if t291 = x12 then (some true) else (some false))))
end
def laws_FnExactClear.f (k : Nat) (l0_0 : List ByteArray) (l0_1 : List Int) (a1 : Int) : Option (Bool) := (laws_szChip.f k l0_0 l0_1 1048576).bind fun t230 => (if t230 < 0 then (some true) else ((laws_toChip.f k l0_0 l0_1).bind fun bt231 => ((spec_Clear.f k bt231.1 bt231.2 a1).bind fun bt237 => ((laws_toChip.f k l0_0 l0_1).bind fun bt245 => ((impl_Clear.f k bt245.1 bt245.2 a1).bind fun bt252 => ((laws_eqChip.f k bt252.1 bt252.2.1 bt237.1 bt237.2.1).bind fun t260 => (if t260 = true then (laws_FnExactClear.j0 k a1 bt237.2.2 bt252.2.2 (bt252.2.2 != bt237.2.2) l0_0 l0_1 bt237.1 bt237.2.1 bt245.1 bt245.2 bt252.1 bt252.2.1) else (laws_FnExactClear.j0 k a1 bt237.2.2 bt252.2.2 true l0_0 l0_1 bt237.1 bt237.2.1 bt245.1 bt245.2 bt252.1 bt252.2.1))))))))
theorem laws_FnExactClear.mono_l : ∀ k, (∀ y0 y1 y2 y3 y4 y5 y6 y7 y8 y9 y10 y11, LeO (laws_FnExactClear.j0 k y0 y1 y2 y3 y4 y5 y6 y7 y8 y9 y10 y11) (laws_FnExactClear.j0 (k + 1) y0 y1 y2 y3 y4 y5 y6 y7 y8 y9 y10 y11)) ∧ (∀ y0 y1 y2 y3 y4 y5 y6 y7 y8, LeO (laws_FnExactClear.j1 k y0 y1 y2 y3 y4 y5 y6 y7 y8) (laws_FnExactClear.j1 (k + 1) y0 y1 y2 y3 y4 y5 y6 y7 y8)) ∧ (∀ y0 y1 y2 y3, LeO (laws_FnExactClear.j2 k y0 y1 y2 y3) (laws_FnExactClear.j2 (k + 1) y0 y1 y2 y3))
  | 0 => ⟨fun _ _ _ _ _ _ _ _ _ _ _ _ r h => by simp [laws_FnExactClear.j0] at h, fun _ _ _ _ _ _ _ _ _ r h => by simp [laws_FnExactClear.j1] at h, fun _ _ _ _ r h => by simp [laws_FnExactClear.j2] at h⟩
  | k + 1 => by
    obtain ⟨ih0, ih1, ih2⟩ := laws_FnExactClear.mono_l k
    refine ⟨?_, ?_, ?_⟩
    · intro y0 y1 y2 y3 y4 y5 y6 y7 y8 y9 y10 y11
      unfold laws_FnExactClear.j0
      repeat' first
      | (with_reducible exact ih0 _ _ _ _ _ _ _ _ _ _ _ _)
      | (with_reducible exact ih1 _ _ _ _ _ _ _ _ _)
      | (with_reducible exact ih2 _ _ _ _)
      | (with_reducible exact impl_Clear.mono _ _ _ _)
      | (with_reducible exact laws_eqChip.mono _ _ _ _ _)
      | (with_reducible exact laws_heldChip.mono _ _ _ _)
      | (with_reducible exact laws_markChip.mono _ _ _ _)
      | (with_reducible exact laws_szChip.mono _ _ _ _)
      | (with_reducible exact laws_toChip.mono _ _ _)
      | (with_reducible exact spec_Clear.mono _ _ _ _)
      | (with_reducible exact LeO.refl _)
      | (with_reducible exact LeO.none _)
      | (with_reducible refine LeO.ite ?_ ?_)
      | (with_reducible refine LeO.bind ?_ (fun _ => ?_))
      | exact ih0 _ _ _ _ _ _ _ _ _ _ _ _
      | exact ih1 _ _ _ _ _ _ _ _ _
      | exact ih2 _ _ _ _
      | exact impl_Clear.mono _ _ _ _
      | exact laws_eqChip.mono _ _ _ _ _
      | exact laws_heldChip.mono _ _ _ _
      | exact laws_markChip.mono _ _ _ _
      | exact laws_szChip.mono _ _ _ _
      | exact laws_toChip.mono _ _ _
      | exact spec_Clear.mono _ _ _ _
      | exact LeO.none _
      | refine LeO.ite ?_ ?_
      | refine LeO.bind ?_ (fun _ => ?_)
    · intro y0 y1 y2 y3 y4 y5 y6 y7 y8
      unfold laws_FnExactClear.j1
      repeat' first
      | (with_reducible exact ih0 _ _ _ _ _ _ _ _ _ _ _ _)
      | (with_reducible exact ih1 _ _ _ _ _ _ _ _ _)
      | (with_reducible exact ih2 _ _ _ _)
      | (with_reducible exact impl_Clear.mono _ _ _ _)
      | (with_reducible exact laws_eqChip.mono _ _ _ _ _)
      | (with_reducible exact laws_heldChip.mono _ _ _ _)
      | (with_reducible exact laws_markChip.mono _ _ _ _)
      | (with_reducible exact laws_szChip.mono _ _ _ _)
      | (with_reducible exact laws_toChip.mono _ _ _)
      | (with_reducible exact spec_Clear.mono _ _ _ _)
      | (with_reducible exact LeO.refl _)
      | (with_reducible exact LeO.none _)
      | (with_reducible refine LeO.ite ?_ ?_)
      | (with_reducible refine LeO.bind ?_ (fun _ => ?_))
      | exact ih0 _ _ _ _ _ _ _ _ _ _ _ _
      | exact ih1 _ _ _ _ _ _ _ _ _
      | exact ih2 _ _ _ _
      | exact impl_Clear.mono _ _ _ _
      | exact laws_eqChip.mono _ _ _ _ _
      | exact laws_heldChip.mono _ _ _ _
      | exact laws_markChip.mono _ _ _ _
      | exact laws_szChip.mono _ _ _ _
      | exact laws_toChip.mono _ _ _
      | exact spec_Clear.mono _ _ _ _
      | exact LeO.none _
      | refine LeO.ite ?_ ?_
      | refine LeO.bind ?_ (fun _ => ?_)
    · intro y0 y1 y2 y3
      unfold laws_FnExactClear.j2
      repeat' first
      | (with_reducible exact ih0 _ _ _ _ _ _ _ _ _ _ _ _)
      | (with_reducible exact ih1 _ _ _ _ _ _ _ _ _)
      | (with_reducible exact ih2 _ _ _ _)
      | (with_reducible exact impl_Clear.mono _ _ _ _)
      | (with_reducible exact laws_eqChip.mono _ _ _ _ _)
      | (with_reducible exact laws_heldChip.mono _ _ _ _)
      | (with_reducible exact laws_markChip.mono _ _ _ _)
      | (with_reducible exact laws_szChip.mono _ _ _ _)
      | (with_reducible exact laws_toChip.mono _ _ _)
      | (with_reducible exact spec_Clear.mono _ _ _ _)
      | (with_reducible exact LeO.refl _)
      | (with_reducible exact LeO.none _)
      | (with_reducible refine LeO.ite ?_ ?_)
      | (with_reducible refine LeO.bind ?_ (fun _ => ?_))
      | exact ih0 _ _ _ _ _ _ _ _ _ _ _ _
      | exact ih1 _ _ _ _ _ _ _ _ _
      | exact ih2 _ _ _ _
      | exact impl_Clear.mono _ _ _ _
      | exact laws_eqChip.mono _ _ _ _ _
      | exact laws_heldChip.mono _ _ _ _
      | exact laws_markChip.mono _ _ _ _
      | exact laws_szChip.mono _ _ _ _
      | exact laws_toChip.mono _ _ _
      | exact spec_Clear.mono _ _ _ _
      | exact LeO.none _
      | refine LeO.ite ?_ ?_
      | refine LeO.bind ?_ (fun _ => ?_)
theorem laws_FnExactClear.mono : ∀ a0 a1 a2 k, LeO (laws_FnExactClear.f k a0 a1 a2) (laws_FnExactClear.f (k + 1) a0 a1 a2) := by
  intro a0 a1 a2 k
  obtain ⟨ih0, ih1, ih2⟩ := laws_FnExactClear.mono_l k
  unfold laws_FnExactClear.f
  repeat' first
      | (with_reducible exact ih0 _ _ _ _ _ _ _ _ _ _ _ _)
      | (with_reducible exact ih1 _ _ _ _ _ _ _ _ _)
      | (with_reducible exact ih2 _ _ _ _)
      | (with_reducible exact impl_Clear.mono _ _ _ _)
      | (with_reducible exact laws_eqChip.mono _ _ _ _ _)
      | (with_reducible exact laws_heldChip.mono _ _ _ _)
      | (with_reducible exact laws_markChip.mono _ _ _ _)
      | (with_reducible exact laws_szChip.mono _ _ _ _)
      | (with_reducible exact laws_toChip.mono _ _ _)
      | (with_reducible exact spec_Clear.mono _ _ _ _)
      | (with_reducible exact LeO.refl _)
      | (with_reducible exact LeO.none _)
      | (with_reducible refine LeO.ite ?_ ?_)
      | (with_reducible refine LeO.bind ?_ (fun _ => ?_))
      | exact ih0 _ _ _ _ _ _ _ _ _ _ _ _
      | exact ih1 _ _ _ _ _ _ _ _ _
      | exact ih2 _ _ _ _
      | exact impl_Clear.mono _ _ _ _
      | exact laws_eqChip.mono _ _ _ _ _
      | exact laws_heldChip.mono _ _ _ _
      | exact laws_markChip.mono _ _ _ _
      | exact laws_szChip.mono _ _ _ _
      | exact laws_toChip.mono _ _ _
      | exact spec_Clear.mono _ _ _ _
      | exact LeO.none _
      | refine LeO.ite ?_ ?_
      | refine LeO.bind ?_ (fun _ => ?_)
set_option maxHeartbeats 8000000 in
set_option maxRecDepth 100000 in
theorem laws_FnExactClear.calls (k : Nat) (A0_0 : Option Addr) (c0_0 : Nat) (l0_0 : List ByteArray) (A0_1 : Option Addr) (c0_1 : Nat) (l0_1 : List Int) (a1 : Int) (r : Bool) (hT : Aside0 (r = true)) (w : World) (hr0_0 : Kd.C Kd.string w A0_0 l0_0.length l0_0) (hc0_0 : l0_0.length ≤ c0_0) (hr0_1 : Kd.C (Kd.int .i64) w A0_1 l0_1.length l0_1) (hc0_1 : l0_1.length ≤ c0_1) (h : laws_FnExactClear.f k l0_0 l0_1 a1 = some r) :
    Calls Try.prog 11 #[.agg #[.slice A0_0 l0_0.length c0_0, .slice A0_1 l0_1.length c0_1], .int .i64 a1] w fun e w' => e = .returned (.bool r) ∧ Below w.heap.size w w' := by
  have hu46 := Try.underlying46
  have hu49 := Try.underlying49
  have HR0_0 := Aside0.mk hr0_0
  have HC0_0 := Aside0.mk hc0_0
  clear hr0_0 hc0_0
  have HR0_1 := Aside0.mk hr0_1
  have HC0_1 := Aside0.mk hc0_1
  clear hr0_1 hc0_1
  have HB := Aside0.mk (Below.refl w.heap.size w)
  have H : ((laws_szChip.f k l0_0 l0_1 1048576).bind fun t230 => (if t230 < 0 then (some true) else ((laws_toChip.f k l0_0 l0_1).bind fun bt231 => ((spec_Clear.f k bt231.1 bt231.2 a1).bind fun bt237 => ((laws_toChip.f k l0_0 l0_1).bind fun bt245 => ((impl_Clear.f k bt245.1 bt245.2 a1).bind fun bt252 => ((laws_eqChip.f k bt252.1 bt252.2.1 bt237.1 bt237.2.1).bind fun t260 => (if t260 = true then (laws_FnExactClear.j0 k a1 bt237.2.2 bt252.2.2 (bt252.2.2 != bt237.2.2) l0_0 l0_1 bt237.1 bt237.2.1 bt245.1 bt245.2 bt252.1 bt252.2.1) else (laws_FnExactClear.j0 k a1 bt237.2.2 bt252.2.2 true l0_0 l0_1 bt237.1 bt237.2.1 bt245.1 bt245.2 bt252.1 bt252.2.1))))))))) = some r := h
  clear h
  replace H := Option.bind_eq_some_iff.mp H
  obtain ⟨t230, A30, H⟩ := H
  replace H : (if t230 < 0 then (some true) else ((laws_toChip.f k l0_0 l0_1).bind fun bt231 => ((spec_Clear.f k bt231.1 bt231.2 a1).bind fun bt237 => ((laws_toChip.f k l0_0 l0_1).bind fun bt245 => ((impl_Clear.f k bt245.1 bt245.2 a1).bind fun bt252 => ((laws_eqChip.f k bt252.1 bt252.2.1 bt237.1 bt237.2.1).bind fun t260 => (if t260 = true then (laws_FnExactClear.j0 k a1 bt237.2.2 bt252.2.2 (bt252.2.2 != bt237.2.2) l0_0 l0_1 bt237.1 bt237.2.1 bt245.1 bt245.2 bt252.1 bt252.2.1) else (laws_FnExactClear.j0 k a1 bt237.2.2 bt252.2.2 true l0_0 l0_1 bt237.1 bt237.2.1 bt245.1 bt245.2 bt252.1 bt252.2.1)))))))) = some r := H
  have A3 := Aside0.mk A30
  clear A30
  by_cases c4 : t230 < 0
  · rw [if_pos c4] at H
    have c4b0 : decide (t230 < 0) = true := decide_eq_true c4
    clear c4
    obtain rfl := Option.some.inj H
    go_enter Try.func11, Try.ntmps11
    go_wp2_with (first | ((with_reducible refine gate_dst (N := 2) rfl ?_); refine box_event ?hg (N := 2) ?hd (cs := #[.slice A0_0 l0_0.length c0_0, .slice A0_1 l0_1.length c0_1]) (t := 46) ?hr ?_; (case hd => rfl); (case hg => rfl); (case hr => first | (go_simp; done) | (go_simp; rfl)); intro gb229 hg w5 hbox hb; have n0_ := Aside0.mk (below_step (by repeat (first | (with_reducible first | exact HB.out | apply below_alloc | apply pw_below_drewN | apply below_drew1) | exact HB.out)) hb); have n1_ := Aside0.mk (hbox); have n2_ := Aside0.mk ((by rw [hg]; exact (below_size (by repeat (first | (with_reducible first | exact HB.out | apply below_alloc | apply pw_below_drewN | apply below_drew1) | exact HB.out))) : w.heap.size ≤ gb229)); have n3_ := Aside0.mk ((by rw [hg]; exact (below_size (by repeat (first | (with_reducible first | exact HB.out | apply below_alloc | apply pw_below_drewN | apply below_drew1) | exact HB.out))) : w.heap.size ≤ gb229)); clear HB; have HB := n0_; have BK229 := n1_; have GW229 := n2_; have GE229 := n3_; clear n0_ n1_ n2_ n3_; clear hb hbox hg; have hcz6_0 : w5.cell? ⟨gb229, 0, none⟩ = some (.slice A0_0 l0_0.length c0_0) := (blk_cell BK229.out 0).trans rfl; have hcz6_1 : w5.cell? ⟨gb229, 1, none⟩ = some (.slice A0_1 l0_1.length c0_1) := (blk_cell BK229.out 1).trans rfl; have hfz6_0 := blk_frozen BK229.out 0; have hfz6_1 := blk_frozen BK229.out 1) | ((with_reducible refine gate_callee (f := 32) rfl ?_); refine goesL_ (some 18) rfl rfl Try.func32 (by kernel_rfl) rfl #[.agg #[.slice A0_0 l0_0.length c0_0, .slice A0_1 l0_1.length c0_1], .int .i64 1048576] rfl (by (try simp only [List.map_toArray, List.map_cons, List.map_nil]); first | done | rfl | (simp only [List.length_drop, List.length_take]; rfl)) ?_; (with_reducible refine (laws_szChip.calls k _ _ l0_0 _ _ l0_1 1048576 t230 _ ?side1 ?side2 ?side3 ?side4 A3.out).mono ?_); (case side1 => repeat (first | exact (Kd.C_below HR0_0.out HB.out) | (with_reducible refine Kd.C_alloc ?_ _) | (with_reducible refine Kd.C_drewN ?_ _) | (with_reducible refine Kd.C_drew ?_))); (case side2 => exact HC0_0.out); (case side3 => repeat (first | exact (Kd.C_below HR0_1.out HB.out) | (with_reducible refine Kd.C_alloc ?_ _) | (with_reducible refine Kd.C_drewN ?_ _) | (with_reducible refine Kd.C_drew ?_))); (case side4 => exact HC0_1.out); rintro e w7 ⟨rfl, hb⟩; refine ⟨_, rfl, ?_⟩; have n0_ := Aside0.mk (blk_below (g := gb229) (o := .cells #[.slice A0_0 l0_0.length c0_0, .slice A0_1 l0_1.length c0_1] 46 (0, 0)) (by (with_reducible repeat (first | refine blk_drewN ?_ _ | refine blk_drew ?_ | refine blk_alloc ?_ _)); exact BK229.out) hb); have n1_ := Aside0.mk (below_step (by repeat (first | (with_reducible first | exact HB.out | apply below_alloc | apply pw_below_drewN | apply below_drew1 | refine below_set ?_ GE229.out) | exact HB.out)) hb); clear BK229; clear HB; have BK229 := n0_; have HB := n1_; clear n0_ n1_; (try clear hb); (try clear hb2); (try clear hk); (try clear hi)))
    go_ret
    exact ⟨by first | rfl | (simp [errW_none, errW_some] <;> rfl) | (simp [*, errW_none, errW_some] <;> rfl), by repeat (first | (with_reducible first | exact HB.out | apply below_alloc | apply pw_below_drewN | apply below_drew1 | refine below_set ?_ GE229.out) | exact HB.out)⟩
  · rw [if_neg c4] at H
    have c4b0 : decide (t230 < 0) = false := decide_eq_false c4
    clear c4
    replace H := Option.bind_eq_some_iff.mp H
    obtain ⟨⟨t231, t234⟩, A80, H⟩ := H
    replace H : ((spec_Clear.f k t231 t234 a1).bind fun bt237 => ((laws_toChip.f k l0_0 l0_1).bind fun bt245 => ((impl_Clear.f k bt245.1 bt245.2 a1).bind fun bt252 => ((laws_eqChip.f k bt252.1 bt252.2.1 bt237.1 bt237.2.1).bind fun t260 => (if t260 = true then (laws_FnExactClear.j0 k a1 bt237.2.2 bt252.2.2 (bt252.2.2 != bt237.2.2) l0_0 l0_1 bt237.1 bt237.2.1 bt245.1 bt245.2 bt252.1 bt252.2.1) else (laws_FnExactClear.j0 k a1 bt237.2.2 bt252.2.2 true l0_0 l0_1 bt237.1 bt237.2.1 bt245.1 bt245.2 bt252.1 bt252.2.1)))))) = some r := H
    have A8 := Aside0.mk A80
    clear A80
    replace H := Option.bind_eq_some_iff.mp H
    obtain ⟨⟨t237, t240, t243⟩, A90, H⟩ := H
    replace H : ((laws_toChip.f k l0_0 l0_1).bind fun bt245 => ((impl_Clear.f k bt245.1 bt245.2 a1).bind fun bt252 => ((laws_eqChip.f k bt252.1 bt252.2.1 t237 t240).bind fun t260 => (if t260 = true then (laws_FnExactClear.j0 k a1 t243 bt252.2.2 (bt252.2.2 != t243) l0_0 l0_1 t237 t240 bt245.1 bt245.2 bt252.1 bt252.2.1) else (laws_FnExactClear.j0 k a1 t243 bt252.2.2 true l0_0 l0_1 t237 t240 bt245.1 bt245.2 bt252.1 bt252.2.1))))) = some r := H
    have A9 := Aside0.mk A90
    clear A90
    replace H := Option.bind_eq_some_iff.mp H
    obtain ⟨⟨t245, t248⟩, A100, H⟩ := H
    replace H : ((impl_Clear.f k t245 t248 a1).bind fun bt252 => ((laws_eqChip.f k bt252.1 bt252.2.1 t237 t240).bind fun t260 => (if t260 = true then (laws_FnExactClear.j0 k a1 t243 bt252.2.2 (bt252.2.2 != t243) l0_0 l0_1 t237 t240 t245 t248 bt252.1 bt252.2.1) else (laws_FnExactClear.j0 k a1 t243 bt252.2.2 true l0_0 l0_1 t237 t240 t245 t248 bt252.1 bt252.2.1)))) = some r := H
    have A10 := Aside0.mk A100
    clear A100
    replace H := Option.bind_eq_some_iff.mp H
    obtain ⟨⟨t252, t255, t258⟩, A110, H⟩ := H
    replace H : ((laws_eqChip.f k t252 t255 t237 t240).bind fun t260 => (if t260 = true then (laws_FnExactClear.j0 k a1 t243 t258 (t258 != t243) l0_0 l0_1 t237 t240 t245 t248 t252 t255) else (laws_FnExactClear.j0 k a1 t243 t258 true l0_0 l0_1 t237 t240 t245 t248 t252 t255))) = some r := H
    have A11 := Aside0.mk A110
    clear A110
    have HC12 := Aside0.mk H
    clear H
    go_enter Try.func11, Try.ntmps11
    go_upto_region 8 with (first | ((with_reducible refine gate_dst (N := 2) rfl ?_); refine box_event ?hg (N := 2) ?hd (cs := #[.slice A0_0 l0_0.length c0_0, .slice A0_1 l0_1.length c0_1]) (t := 46) ?hr ?_; (case hd => rfl); (case hg => rfl); (case hr => first | (go_simp; done) | (go_simp; rfl)); intro gb229 hg w13 hbox hb; have n0_ := Aside0.mk (below_step (by repeat (first | (with_reducible first | exact HB.out | apply below_alloc | apply pw_below_drewN | apply below_drew1) | exact HB.out)) hb); have n1_ := Aside0.mk (hbox); have n2_ := Aside0.mk ((by rw [hg]; exact (below_size (by repeat (first | (with_reducible first | exact HB.out | apply below_alloc | apply pw_below_drewN | apply below_drew1) | exact HB.out))) : w.heap.size ≤ gb229)); have n3_ := Aside0.mk ((by rw [hg]; exact (below_size (by repeat (first | (with_reducible first | exact HB.out | apply below_alloc | apply pw_below_drewN | apply below_drew1) | exact HB.out))) : w.heap.size ≤ gb229)); clear HB; have HB := n0_; have BK229 := n1_; have GW229 := n2_; have GE229 := n3_; clear n0_ n1_ n2_ n3_; clear hb hbox hg; have hcz14_0 : w13.cell? ⟨gb229, 0, none⟩ = some (.slice A0_0 l0_0.length c0_0) := (blk_cell BK229.out 0).trans rfl; have hcz14_1 : w13.cell? ⟨gb229, 1, none⟩ = some (.slice A0_1 l0_1.length c0_1) := (blk_cell BK229.out 1).trans rfl; have hfz14_0 := blk_frozen BK229.out 0; have hfz14_1 := blk_frozen BK229.out 1) | ((with_reducible refine gate_callee (f := 32) rfl ?_); refine goesL_ (some 18) rfl rfl Try.func32 (by kernel_rfl) rfl #[.agg #[.slice A0_0 l0_0.length c0_0, .slice A0_1 l0_1.length c0_1], .int .i64 1048576] rfl (by (try simp only [List.map_toArray, List.map_cons, List.map_nil]); first | done | rfl | (simp only [List.length_drop, List.length_take]; rfl)) ?_; (with_reducible refine (laws_szChip.calls k _ _ l0_0 _ _ l0_1 1048576 t230 _ ?side1 ?side2 ?side3 ?side4 A3.out).mono ?_); (case side1 => repeat (first | exact (Kd.C_below HR0_0.out HB.out) | (with_reducible refine Kd.C_alloc ?_ _) | (with_reducible refine Kd.C_drewN ?_ _) | (with_reducible refine Kd.C_drew ?_))); (case side2 => exact HC0_0.out); (case side3 => repeat (first | exact (Kd.C_below HR0_1.out HB.out) | (with_reducible refine Kd.C_alloc ?_ _) | (with_reducible refine Kd.C_drewN ?_ _) | (with_reducible refine Kd.C_drew ?_))); (case side4 => exact HC0_1.out); rintro e w15 ⟨rfl, hb⟩; refine ⟨_, rfl, ?_⟩; have n0_ := Aside0.mk (blk_below (g := gb229) (o := .cells #[.slice A0_0 l0_0.length c0_0, .slice A0_1 l0_1.length c0_1] 46 (0, 0)) (by (with_reducible repeat (first | refine blk_drewN ?_ _ | refine blk_drew ?_ | refine blk_alloc ?_ _)); exact BK229.out) hb); have n1_ := Aside0.mk (below_step (by repeat (first | (with_reducible first | exact HB.out | apply below_alloc | apply pw_below_drewN | apply below_drew1 | refine below_set ?_ GE229.out) | exact HB.out)) hb); clear BK229; clear HB; have BK229 := n0_; have HB := n1_; clear n0_ n1_; (try clear hb); (try clear hb2); (try clear hk); (try clear hi); have hcz16_0 : w15.cell? ⟨gb229, 0, none⟩ = some (.slice A0_0 l0_0.length c0_0) := (blk_cell BK229.out 0).trans rfl; have hcz16_1 : w15.cell? ⟨gb229, 1, none⟩ = some (.slice A0_1 l0_1.length c0_1) := (blk_cell BK229.out 1).trans rfl; have hfz16_0 := blk_frozen BK229.out 0; have hfz16_1 := blk_frozen BK229.out 1) | ((with_reducible refine gate_callee (f := 34) rfl ?_); refine goesL_ (some 23) rfl rfl Try.func34 (by kernel_rfl) rfl #[.agg #[.slice A0_0 l0_0.length c0_0, .slice A0_1 l0_1.length c0_1]] rfl (by (try simp only [List.map_toArray, List.map_cons, List.map_nil]); first | done | rfl | (simp only [List.length_drop, List.length_take]; rfl)) ?_; (with_reducible refine (laws_toChip.calls k _ _ l0_0 _ _ l0_1 t231 t234 _ ?side1 ?side2 ?side3 ?side4 A8.out).mono ?_); (case side1 => repeat (first | exact (Kd.C_below HR0_0.out HB.out) | (with_reducible refine Kd.C_alloc ?_ _) | (with_reducible refine Kd.C_drewN ?_ _) | (with_reducible refine Kd.C_drew ?_))); (case side2 => exact HC0_0.out); (case side3 => repeat (first | exact (Kd.C_below HR0_1.out HB.out) | (with_reducible refine Kd.C_alloc ?_ _) | (with_reducible refine Kd.C_drewN ?_ _) | (with_reducible refine Kd.C_drew ?_))); (case side4 => exact HC0_1.out); rintro e w17 ⟨v232, v235, rfl, ho0, ho1, hb⟩; refine ⟨_, rfl, ?_⟩; have n0_ := Aside0.mk (Kd.R_lower ho0 (below_size (by repeat (first | (with_reducible first | exact HB.out | apply below_alloc | apply pw_below_drewN | apply below_drew1 | refine below_set ?_ GE229.out) | exact HB.out)))); have n1_ := Aside0.mk (Kd.R_lower ho1 (below_size (by repeat (first | (with_reducible first | exact HB.out | apply below_alloc | apply pw_below_drewN | apply below_drew1 | refine below_set ?_ GE229.out) | exact HB.out)))); have n2_ := Aside0.mk (blk_below (g := gb229) (o := .cells #[.slice A0_0 l0_0.length c0_0, .slice A0_1 l0_1.length c0_1] 46 (0, 0)) (by (with_reducible repeat (first | refine blk_drewN ?_ _ | refine blk_drew ?_ | refine blk_alloc ?_ _)); exact BK229.out) hb); have n3_ := Aside0.mk (below_step (by repeat (first | (with_reducible first | exact HB.out | apply below_alloc | apply pw_below_drewN | apply below_drew1 | refine below_set ?_ GE229.out) | exact HB.out)) hb); clear BK229; clear HB; have HO233 := n0_; have HO236 := n1_; have BK229 := n2_; have HB := n3_; clear n0_ n1_ n2_ n3_; (try clear hb); (try clear hb2); (try clear hk); (try clear hi); (try clear ho0); (try clear ho1); obtain ⟨Ao18, co18, eo18⟩ := Kd.R_slice HO233.out; subst eo18; obtain ⟨Ao19, co19, eo19⟩ := Kd.R_slice HO236.out; subst eo19) | ((with_reducible refine gate_callee (f := 48) rfl ?_); refine goesL_ (some 25) rfl rfl Try.func48 (by kernel_rfl) rfl #[.agg #[.slice Ao18 t231.length co18, .slice Ao19 t234.length co19], .int .i64 a1] rfl (by (try simp only [List.map_toArray, List.map_cons, List.map_nil]); first | done | rfl | (simp only [List.length_drop, List.length_take]; rfl)) ?_; (with_reducible refine (spec_Clear.calls k _ _ t231 _ _ t234 a1 t237 t240 t243 _ ?side1 ?side2 ?side3 ?side4 A9.out).mono ?_); (case side1 => repeat (first | exact (Kd.R_reads' HO233.out).2.2 | (with_reducible refine Kd.C_alloc ?_ _) | (with_reducible refine Kd.C_drewN ?_ _) | (with_reducible refine Kd.C_drew ?_))); (case side2 => exact (Kd.R_reads' HO233.out).2.1); (case side3 => repeat (first | exact (Kd.R_reads' HO236.out).2.2 | (with_reducible refine Kd.C_alloc ?_ _) | (with_reducible refine Kd.C_drewN ?_ _) | (with_reducible refine Kd.C_drew ?_))); (case side4 => exact (Kd.R_reads' HO236.out).2.1); rintro e w20 ⟨v238, v241, rfl, ho0, ho1, hb⟩; refine ⟨_, rfl, ?_⟩; have n0_ := Aside0.mk (Kd.R_elder' (by (with_reducible repeat (first | apply Kd.R_alloc | apply Kd.R_drewN | apply Kd.R_drew)); exact HO233.out) (Kd.R_base ho0) hb); have n1_ := Aside0.mk (Kd.R_elder' (by (with_reducible repeat (first | apply Kd.R_alloc | apply Kd.R_drewN | apply Kd.R_drew)); exact HO236.out) (Kd.R_base ho1) hb); have n2_ := Aside0.mk (Kd.R_lower (Kd.R_new' ho0 (Kd.R_lt (by (with_reducible repeat (first | apply Kd.R_alloc | apply Kd.R_drewN | apply Kd.R_drew)); exact HO233.out))) (below_size (by repeat (first | (with_reducible first | exact HB.out | apply below_alloc | apply pw_below_drewN | apply below_drew1 | refine below_set ?_ GE229.out) | exact HB.out)))); have n3_ := Aside0.mk (Kd.R_lower (Kd.R_new' ho1 (Kd.R_lt (by (with_reducible repeat (first | apply Kd.R_alloc | apply Kd.R_drewN | apply Kd.R_drew)); exact HO236.out))) (below_size (by repeat (first | (with_reducible first | exact HB.out | apply below_alloc | apply pw_below_drewN | apply below_drew1 | refine below_set ?_ GE229.out) | exact HB.out)))); have n4_ := Aside0.mk (blk_below (g := gb229) (o := .cells #[.slice A0_0 l0_0.length c0_0, .slice A0_1 l0_1.length c0_1] 46 (0, 0)) (by (with_reducible repeat (first | refine blk_drewN ?_ _ | refine blk_drew ?_ | refine blk_alloc ?_ _)); exact BK229.out) hb); have n5_ := Aside0.mk (below_step (by repeat (first | (with_reducible first | exact HB.out | apply below_alloc | apply pw_below_drewN | apply below_drew1 | refine below_set ?_ GE229.out) | exact HB.out)) hb); clear HO233; clear HO236; clear BK229; clear HB; have HO233 := n0_; have HO236 := n1_; have HO239 := n2_; have HO242 := n3_; have BK229 := n4_; have HB := n5_; clear n0_ n1_ n2_ n3_ n4_ n5_; (try clear hb); (try clear hb2); (try clear hk); (try clear hi); (try clear ho0); (try clear ho1)) | ((with_reducible refine gate_dst (N := 6) rfl ?_); refine box_event ?hg (N := 6) ?hd (cs := #[.slice none 0 0, .slice none 0 0]) (t := 49) ?hr ?_; (case hd => rfl); (case hg => rfl); (case hr => first | (go_simp; done) | (go_simp; rfl)); intro gb244 hg w21 hbox hb; have n0_ := Aside0.mk (Kd.R_below (by (with_reducible repeat (first | apply Kd.R_alloc | apply Kd.R_drewN | apply Kd.R_drew)); exact HO233.out) hb); have n1_ := Aside0.mk (Kd.R_below (by (with_reducible repeat (first | apply Kd.R_alloc | apply Kd.R_drewN | apply Kd.R_drew)); exact HO236.out) hb); have n2_ := Aside0.mk (Kd.R_below (by (with_reducible repeat (first | apply Kd.R_alloc | apply Kd.R_drewN | apply Kd.R_drew)); exact HO239.out) hb); have n3_ := Aside0.mk (Kd.R_below (by (with_reducible repeat (first | apply Kd.R_alloc | apply Kd.R_drewN | apply Kd.R_drew)); exact HO242.out) hb); have n4_ := Aside0.mk (blk_below (g := gb229) (o := .cells #[.slice A0_0 l0_0.length c0_0, .slice A0_1 l0_1.length c0_1] 46 (0, 0)) (by (with_reducible repeat (first | refine blk_drewN ?_ _ | refine blk_drew ?_ | refine blk_alloc ?_ _)); exact BK229.out) hb); have n5_ := Aside0.mk (below_step (by repeat (first | (with_reducible first | exact HB.out | apply below_alloc | apply pw_below_drewN | apply below_drew1 | refine below_set ?_ GE229.out) | exact HB.out)) hb); have n6_ := Aside0.mk (hbox); have n7_ := Aside0.mk ((by rw [hg]; exact (below_size (by repeat (first | (with_reducible first | exact HB.out | apply below_alloc | apply pw_below_drewN | apply below_drew1 | refine below_set ?_ GE229.out) | exact HB.out))) : w.heap.size ≤ gb244)); have n8_ := Aside0.mk ((by rw [hg]; exact (below_size (by repeat (first | (with_reducible first | exact HB.out | apply below_alloc | apply pw_below_drewN | apply below_drew1 | refine below_set ?_ GE229.out) | exact HB.out))) : w.heap.size ≤ gb244)); have n9_ := Aside0.mk ((by rw [hg]; exact Nat.ne_of_lt (blk_lt (g := gb229) (o := .cells #[.slice A0_0 l0_0.length c0_0, .slice A0_1 l0_1.length c0_1] 46 (0, 0)) (by (with_reducible repeat (first | refine blk_drewN ?_ _ | refine blk_drew ?_ | refine blk_alloc ?_ _)); exact BK229.out)) : gb229 ≠ gb244)); have n10_ := Aside0.mk ((by rw [hg]; exact Nat.ne_of_gt (blk_lt (g := gb229) (o := .cells #[.slice A0_0 l0_0.length c0_0, .slice A0_1 l0_1.length c0_1] 46 (0, 0)) (by (with_reducible repeat (first | refine blk_drewN ?_ _ | refine blk_drew ?_ | refine blk_alloc ?_ _)); exact BK229.out)) : gb244 ≠ gb229)); clear HO233; clear HO236; clear HO239; clear HO242; clear BK229; clear HB; have HO233 := n0_; have HO236 := n1_; have HO239 := n2_; have HO242 := n3_; have BK229 := n4_; have HB := n5_; have BK244 := n6_; have GW244 := n7_; have GE244 := n8_; have NB229_244 := n9_; have NB244_229 := n10_; clear n0_ n1_ n2_ n3_ n4_ n5_ n6_ n7_ n8_ n9_ n10_; clear hb hbox hg; obtain ⟨Ao22, co22, eo22⟩ := Kd.R_slice HO239.out; subst eo22; have hnb23 := NB244_229.out; have hnc23 := NB229_244.out; have hcz24_0 : w21.cell? ⟨gb244, 0, none⟩ = some (.slice none 0 0) := (blk_cell BK244.out 0).trans rfl; have hcz24_1 : w21.cell? ⟨gb244, 1, none⟩ = some (.slice none 0 0) := (blk_cell BK244.out 1).trans rfl; have hfz24_0 := blk_frozen BK244.out 0; have hfz24_1 := blk_frozen BK244.out 1; obtain ⟨Ao25, co25, eo25⟩ := Kd.R_slice HO242.out; subst eo25; have hcz26_0 : w21.cell? ⟨gb229, 0, none⟩ = some (.slice A0_0 l0_0.length c0_0) := (blk_cell BK229.out 0).trans rfl; have hcz26_1 : w21.cell? ⟨gb229, 1, none⟩ = some (.slice A0_1 l0_1.length c0_1) := (blk_cell BK229.out 1).trans rfl; have hfz26_0 := blk_frozen BK229.out 0; have hfz26_1 := blk_frozen BK229.out 1) | ((with_reducible refine gate_callee (f := 34) rfl ?_); refine goesL_ (some 29) rfl rfl Try.func34 (by kernel_rfl) rfl #[.agg #[.slice A0_0 l0_0.length c0_0, .slice A0_1 l0_1.length c0_1]] rfl (by (try simp only [List.map_toArray, List.map_cons, List.map_nil]); first | done | rfl | (simp only [List.length_drop, List.length_take]; rfl)) ?_; (with_reducible refine (laws_toChip.calls k _ _ l0_0 _ _ l0_1 t245 t248 _ ?side1 ?side2 ?side3 ?side4 A10.out).mono ?_); (case side1 => exact Kd.C_below HR0_0.out (by repeat (first | (with_reducible first | exact HB.out | apply below_alloc | apply pw_below_drewN | apply below_drew1 | refine below_set ?_ GE229.out | refine below_set ?_ GE244.out) | exact HB.out))); (case side2 => exact HC0_0.out); (case side3 => exact Kd.C_below HR0_1.out (by repeat (first | (with_reducible first | exact HB.out | apply below_alloc | apply pw_below_drewN | apply below_drew1 | refine below_set ?_ GE229.out | refine below_set ?_ GE244.out) | exact HB.out))); (case side4 => exact HC0_1.out); rintro e w27 ⟨v246, v249, rfl, ho0, ho1, hb⟩; refine ⟨_, rfl, ?_⟩; have n0_ := Aside0.mk (Kd.R_elder' (by (with_reducible repeat (first | apply Kd.R_alloc | apply Kd.R_drewN | apply Kd.R_drew)); exact (Kd.R_mono (Kd.R_far (p := ⟨gb244, 1, none⟩) (Kd.R_far (p := ⟨gb244, 0, none⟩) (Kd.R_types HO233.out BK244.out (by decide)) (fun _ hk => hk.2) (.slice Ao22 t237.length co22)) (fun _ hk => hk.2) (.slice Ao25 t240.length co25)) (fun _ h_ => h_.1))) (Kd.R_base ho0) hb); have n1_ := Aside0.mk (Kd.R_elder' (by (with_reducible repeat (first | apply Kd.R_alloc | apply Kd.R_drewN | apply Kd.R_drew)); exact (Kd.R_mono (Kd.R_far (p := ⟨gb244, 1, none⟩) (Kd.R_far (p := ⟨gb244, 0, none⟩) (Kd.R_types HO236.out BK244.out (by decide)) (fun _ hk => hk.2) (.slice Ao22 t237.length co22)) (fun _ hk => hk.2) (.slice Ao25 t240.length co25)) (fun _ h_ => h_.1))) (Kd.R_base ho1) hb); have n2_ := Aside0.mk (Kd.R_elder' (by (with_reducible repeat (first | apply Kd.R_alloc | apply Kd.R_drewN | apply Kd.R_drew)); exact (Kd.R_mono (Kd.R_far (p := ⟨gb244, 1, none⟩) (Kd.R_far (p := ⟨gb244, 0, none⟩) (Kd.R_types HO239.out BK244.out (by decide)) (fun _ hk => hk.2) (.slice Ao22 t237.length co22)) (fun _ hk => hk.2) (.slice Ao25 t240.length co25)) (fun _ h_ => h_.1))) (Kd.R_base ho0) hb); have n3_ := Aside0.mk (Kd.R_elder' (by (with_reducible repeat (first | apply Kd.R_alloc | apply Kd.R_drewN | apply Kd.R_drew)); exact (Kd.R_mono (Kd.R_far (p := ⟨gb244, 1, none⟩) (Kd.R_far (p := ⟨gb244, 0, none⟩) (Kd.R_types HO242.out BK244.out (by decide)) (fun _ hk => hk.2) (.slice Ao22 t237.length co22)) (fun _ hk => hk.2) (.slice Ao25 t240.length co25)) (fun _ h_ => h_.1))) (Kd.R_base ho1) hb); have n4_ := Aside0.mk (Kd.R_lower (Kd.R_new' (Kd.R_new' ho0 (Kd.R_lt (by (with_reducible repeat (first | apply Kd.R_alloc | apply Kd.R_drewN | apply Kd.R_drew)); exact (Kd.R_mono (Kd.R_far (p := ⟨gb244, 1, none⟩) (Kd.R_far (p := ⟨gb244, 0, none⟩) (Kd.R_types HO233.out BK244.out (by decide)) (fun _ hk => hk.2) (.slice Ao22 t237.length co22)) (fun _ hk => hk.2) (.slice Ao25 t240.length co25)) (fun _ h_ => h_.1))))) (Kd.R_lt (by (with_reducible repeat (first | apply Kd.R_alloc | apply Kd.R_drewN | apply Kd.R_drew)); exact (Kd.R_mono (Kd.R_far (p := ⟨gb244, 1, none⟩) (Kd.R_far (p := ⟨gb244, 0, none⟩) (Kd.R_types HO239.out BK244.out (by decide)) (fun _ hk => hk.2) (.slice Ao22 t237.length co22)) (fun _ hk => hk.2) (.slice Ao25 t240.length co25)) (fun _ h_ => h_.1))))) (below_size (by repeat (first | (with_reducible first | exact HB.out | apply below_alloc | apply pw_below_drewN | apply below_drew1 | refine below_set ?_ GE229.out | refine below_set ?_ GE244.out) | exact HB.out)))); have n5_ := Aside0.mk (Kd.R_lower (Kd.R_new' (Kd.R_new' ho1 (Kd.R_lt (by (with_reducible repeat (first | apply Kd.R_alloc | apply Kd.R_drewN | apply Kd.R_drew)); exact (Kd.R_mono (Kd.R_far (p := ⟨gb244, 1, none⟩) (Kd.R_far (p := ⟨gb244, 0, none⟩) (Kd.R_types HO236.out BK244.out (by decide)) (fun _ hk => hk.2) (.slice Ao22 t237.length co22)) (fun _ hk => hk.2) (.slice Ao25 t240.length co25)) (fun _ h_ => h_.1))))) (Kd.R_lt (by (with_reducible repeat (first | apply Kd.R_alloc | apply Kd.R_drewN | apply Kd.R_drew)); exact (Kd.R_mono (Kd.R_far (p := ⟨gb244, 1, none⟩) (Kd.R_far (p := ⟨gb244, 0, none⟩) (Kd.R_types HO242.out BK244.out (by decide)) (fun _ hk => hk.2) (.slice Ao22 t237.length co22)) (fun _ hk => hk.2) (.slice Ao25 t240.length co25)) (fun _ h_ => h_.1))))) (below_size (by repeat (first | (with_reducible first | exact HB.out | apply below_alloc | apply pw_below_drewN | apply below_drew1 | refine below_set ?_ GE229.out | refine below_set ?_ GE244.out) | exact HB.out)))); have n6_ := Aside0.mk (blk_below (g := gb229) (o := .cells #[.slice A0_0 l0_0.length c0_0, .slice A0_1 l0_1.length c0_1] 46 (0, 0)) (by (with_reducible repeat (first | refine blk_drewN ?_ _ | refine blk_drew ?_ | refine blk_alloc ?_ _)); refine blk_far ?_ NB229_244.out _; (with_reducible repeat (first | refine blk_drewN ?_ _ | refine blk_drew ?_ | refine blk_alloc ?_ _)); refine blk_far ?_ NB229_244.out _; (with_reducible repeat (first | refine blk_drewN ?_ _ | refine blk_drew ?_ | refine blk_alloc ?_ _)); exact BK229.out) hb); have n7_ := Aside0.mk (blk_below (g := gb244) (o := .cells #[.slice Ao22 t237.length co22, .slice Ao25 t240.length co25] 49 (0, 0)) (by (with_reducible repeat (first | refine blk_drewN ?_ _ | refine blk_drew ?_ | refine blk_alloc ?_ _)); refine blk_put (cs := #[.slice Ao22 t237.length co22, .slice none 0 0]) ?_ 1 _ rfl; (with_reducible repeat (first | refine blk_drewN ?_ _ | refine blk_drew ?_ | refine blk_alloc ?_ _)); refine blk_put (cs := #[.slice none 0 0, .slice none 0 0]) ?_ 0 _ rfl; (with_reducible repeat (first | refine blk_drewN ?_ _ | refine blk_drew ?_ | refine blk_alloc ?_ _)); exact BK244.out) hb); have n8_ := Aside0.mk (below_step (by repeat (first | (with_reducible first | exact HB.out | apply below_alloc | apply pw_below_drewN | apply below_drew1 | refine below_set ?_ GE229.out | refine below_set ?_ GE244.out) | exact HB.out)) hb); clear HO233; clear HO236; clear HO239; clear HO242; clear BK229; clear BK244; clear HB; have HO233 := n0_; have HO236 := n1_; have HO239 := n2_; have HO242 := n3_; have HO247 := n4_; have HO250 := n5_; have BK229 := n6_; have BK244 := n7_; have HB := n8_; clear n0_ n1_ n2_ n3_ n4_ n5_ n6_ n7_ n8_; (try clear hb); (try clear hb2); (try clear hk); (try clear hi); (try clear ho0); (try clear ho1)) | ((with_reducible refine gate_dst (N := 8) rfl ?_); refine box_event ?hg (N := 8) ?hd (cs := #[.slice none 0 0, .slice none 0 0]) (t := 49) ?hr ?_; (case hd => rfl); (case hg => rfl); (case hr => first | (go_simp; done) | (go_simp; rfl)); intro gb251 hg w28 hbox hb; have n0_ := Aside0.mk (Kd.R_below (by (with_reducible repeat (first | apply Kd.R_alloc | apply Kd.R_drewN | apply Kd.R_drew)); exact HO233.out) hb); have n1_ := Aside0.mk (Kd.R_below (by (with_reducible repeat (first | apply Kd.R_alloc | apply Kd.R_drewN | apply Kd.R_drew)); exact HO236.out) hb); have n2_ := Aside0.mk (Kd.R_below (by (with_reducible repeat (first | apply Kd.R_alloc | apply Kd.R_drewN | apply Kd.R_drew)); exact HO239.out) hb); have n3_ := Aside0.mk (Kd.R_below (by (with_reducible repeat (first | apply Kd.R_alloc | apply Kd.R_drewN | apply Kd.R_drew)); exact HO242.out) hb); have n4_ := Aside0.mk (Kd.R_below (by (with_reducible repeat (first | apply Kd.R_alloc | apply Kd.R_drewN | apply Kd.R_drew)); exact HO247.out) hb); have n5_ := Aside0.mk (Kd.R_below (by (with_reducible repeat (first | apply Kd.R_alloc | apply Kd.R_drewN | apply Kd.R_drew)); exact HO250.out) hb); have n6_ := Aside0.mk (blk_below (g := gb229) (o := .cells #[.slice A0_0 l0_0.length c0_0, .slice A0_1 l0_1.length c0_1] 46 (0, 0)) (by (with_reducible repeat (first | refine blk_drewN ?_ _ | refine blk_drew ?_ | refine blk_alloc ?_ _)); exact BK229.out) hb); have n7_ := Aside0.mk (blk_below (g := gb244) (o := .cells #[.slice Ao22 t237.length co22, .slice Ao25 t240.length co25] 49 (0, 0)) (by (with_reducible repeat (first | refine blk_drewN ?_ _ | refine blk_drew ?_ | refine blk_alloc ?_ _)); exact BK244.out) hb); have n8_ := Aside0.mk (below_step (by repeat (first | (with_reducible first | exact HB.out | apply below_alloc | apply pw_below_drewN | apply below_drew1 | refine below_set ?_ GE229.out | refine below_set ?_ GE244.out) | exact HB.out)) hb); have n9_ := Aside0.mk (hbox); have n10_ := Aside0.mk ((by rw [hg]; exact (below_size (by repeat (first | (with_reducible first | exact HB.out | apply below_alloc | apply pw_below_drewN | apply below_drew1 | refine below_set ?_ GE229.out | refine below_set ?_ GE244.out) | exact HB.out))) : w.heap.size ≤ gb251)); have n11_ := Aside0.mk ((by rw [hg]; exact (below_size (by repeat (first | (with_reducible first | exact HB.out | apply below_alloc | apply pw_below_drewN | apply below_drew1 | refine below_set ?_ GE229.out | refine below_set ?_ GE244.out) | exact HB.out))) : w.heap.size ≤ gb251)); have n12_ := Aside0.mk ((by rw [hg]; exact Nat.ne_of_lt (blk_lt (g := gb229) (o := .cells #[.slice A0_0 l0_0.length c0_0, .slice A0_1 l0_1.length c0_1] 46 (0, 0)) (by (with_reducible repeat (first | refine blk_drewN ?_ _ | refine blk_drew ?_ | refine blk_alloc ?_ _)); exact BK229.out)) : gb229 ≠ gb251)); have n13_ := Aside0.mk ((by rw [hg]; exact Nat.ne_of_gt (blk_lt (g := gb229) (o := .cells #[.slice A0_0 l0_0.length c0_0, .slice A0_1 l0_1.length c0_1] 46 (0, 0)) (by (with_reducible repeat (first | refine blk_drewN ?_ _ | refine blk_drew ?_ | refine blk_alloc ?_ _)); exact BK229.out)) : gb251 ≠ gb229)); have n14_ := Aside0.mk ((by rw [hg]; exact Nat.ne_of_lt (blk_lt (g := gb244) (o := .cells #[.slice Ao22 t237.length co22, .slice Ao25 t240.length co25] 49 (0, 0)) (by (with_reducible repeat (first | refine blk_drewN ?_ _ | refine blk_drew ?_ | refine blk_alloc ?_ _)); exact BK244.out)) : gb244 ≠ gb251)); have n15_ := Aside0.mk ((by rw [hg]; exact Nat.ne_of_gt (blk_lt (g := gb244) (o := .cells #[.slice Ao22 t237.length co22, .slice Ao25 t240.length co25] 49 (0, 0)) (by (with_reducible repeat (first | refine blk_drewN ?_ _ | refine blk_drew ?_ | refine blk_alloc ?_ _)); exact BK244.out)) : gb251 ≠ gb244)); clear HO233; clear HO236; clear HO239; clear HO242; clear HO247; clear HO250; clear BK229; clear BK244; clear HB; have HO233 := n0_; have HO236 := n1_; have HO239 := n2_; have HO242 := n3_; have HO247 := n4_; have HO250 := n5_; have BK229 := n6_; have BK244 := n7_; have HB := n8_; have BK251 := n9_; have GW251 := n10_; have GE251 := n11_; have NB229_251 := n12_; have NB251_229 := n13_; have NB244_251 := n14_; have NB251_244 := n15_; clear n0_ n1_ n2_ n3_ n4_ n5_ n6_ n7_ n8_ n9_ n10_ n11_ n12_ n13_ n14_ n15_; clear hb hbox hg; obtain ⟨Ao29, co29, eo29⟩ := Kd.R_slice HO247.out; subst eo29; have hnb30 := NB251_229.out; have hnc30 := NB229_251.out; have hnb31 := NB251_244.out; have hnc31 := NB244_251.out; have hcz32_0 : w28.cell? ⟨gb251, 0, none⟩ = some (.slice none 0 0) := (blk_cell BK251.out 0).trans rfl; have hcz32_1 : w28.cell? ⟨gb251, 1, none⟩ = some (.slice none 0 0) := (blk_cell BK251.out 1).trans rfl; have hfz32_0 := blk_frozen BK251.out 0; have hfz32_1 := blk_frozen BK251.out 1; obtain ⟨Ao33, co33, eo33⟩ := Kd.R_slice HO250.out; subst eo33) | ((with_reducible refine gate_callee (f := 49) rfl ?_); refine goesL_ (some 33) rfl rfl Try.func49 (by kernel_rfl) rfl #[.agg #[.slice Ao29 t245.length co29, .slice Ao33 t248.length co33], .int .i64 a1] rfl (by (try simp only [List.map_toArray, List.map_cons, List.map_nil]); first | done | rfl | (simp only [List.length_drop, List.length_take]; rfl)) ?_; (with_reducible refine (impl_Clear.calls k _ _ t245 _ _ t248 a1 t252 t255 t258 _ ?side1 ?side2 ?side3 ?side4 A11.out).mono ?_); (case side1 => refine (Kd.R_reads' (e := 9) (base := w.heap.size) (ok := fun k_ => ((True ∧ some k_ ≠ (.slice Ao18 t231.length co18 : Value).ownBlock) ∧ some k_ ≠ (.slice Ao22 t237.length co22 : Value).ownBlock)) (n := t245.length) (c := co29) ?_).2.2; exact (by (with_reducible repeat (first | apply Kd.R_alloc | apply Kd.R_drewN | apply Kd.R_drew)); exact (Kd.R_mono (Kd.R_far (p := ⟨gb251, 1, none⟩) (Kd.R_far (p := ⟨gb251, 0, none⟩) (Kd.R_types HO247.out BK251.out (by decide)) (fun _ hk => hk.2) (.slice Ao29 t245.length co29)) (fun _ hk => hk.2) (.slice Ao33 t248.length co33)) (fun _ h_ => h_.1)))); (case side2 => exact (Kd.R_reads' HO247.out).2.1); (case side3 => refine (Kd.R_reads' (e := 3) (base := w.heap.size) (ok := fun k_ => ((True ∧ some k_ ≠ (.slice Ao19 t234.length co19 : Value).ownBlock) ∧ some k_ ≠ (.slice Ao25 t240.length co25 : Value).ownBlock)) (n := t248.length) (c := co33) ?_).2.2; exact (by (with_reducible repeat (first | apply Kd.R_alloc | apply Kd.R_drewN | apply Kd.R_drew)); exact (Kd.R_mono (Kd.R_far (p := ⟨gb251, 1, none⟩) (Kd.R_far (p := ⟨gb251, 0, none⟩) (Kd.R_types HO250.out BK251.out (by decide)) (fun _ hk => hk.2) (.slice Ao29 t245.length co29)) (fun _ hk => hk.2) (.slice Ao33 t248.length co33)) (fun _ h_ => h_.1)))); (case side4 => exact (Kd.R_reads' HO250.out).2.1); rintro e w34 ⟨v253, v256, rfl, ho0, ho1, hb⟩; refine ⟨_, rfl, ?_⟩; have n0_ := Aside0.mk (Kd.R_elder' (by (with_reducible repeat (first | apply Kd.R_alloc | apply Kd.R_drewN | apply Kd.R_drew)); exact (Kd.R_mono (Kd.R_far (p := ⟨gb251, 1, none⟩) (Kd.R_far (p := ⟨gb251, 0, none⟩) (Kd.R_types HO233.out BK251.out (by decide)) (fun _ hk => hk.2) (.slice Ao29 t245.length co29)) (fun _ hk => hk.2) (.slice Ao33 t248.length co33)) (fun _ h_ => h_.1))) (Kd.R_base ho0) hb); have n1_ := Aside0.mk (Kd.R_elder' (by (with_reducible repeat (first | apply Kd.R_alloc | apply Kd.R_drewN | apply Kd.R_drew)); exact (Kd.R_mono (Kd.R_far (p := ⟨gb251, 1, none⟩) (Kd.R_far (p := ⟨gb251, 0, none⟩) (Kd.R_types HO236.out BK251.out (by decide)) (fun _ hk => hk.2) (.slice Ao29 t245.length co29)) (fun _ hk => hk.2) (.slice Ao33 t248.length co33)) (fun _ h_ => h_.1))) (Kd.R_base ho1) hb); have n2_ := Aside0.mk (Kd.R_elder' (by (with_reducible repeat (first | apply Kd.R_alloc | apply Kd.R_drewN | apply Kd.R_drew)); exact (Kd.R_mono (Kd.R_far (p := ⟨gb251, 1, none⟩) (Kd.R_far (p := ⟨gb251, 0, none⟩) (Kd.R_types HO239.out BK251.out (by decide)) (fun _ hk => hk.2) (.slice Ao29 t245.length co29)) (fun _ hk => hk.2) (.slice Ao33 t248.length co33)) (fun _ h_ => h_.1))) (Kd.R_base ho0) hb); have n3_ := Aside0.mk (Kd.R_elder' (by (with_reducible repeat (first | apply Kd.R_alloc | apply Kd.R_drewN | apply Kd.R_drew)); exact (Kd.R_mono (Kd.R_far (p := ⟨gb251, 1, none⟩) (Kd.R_far (p := ⟨gb251, 0, none⟩) (Kd.R_types HO242.out BK251.out (by decide)) (fun _ hk => hk.2) (.slice Ao29 t245.length co29)) (fun _ hk => hk.2) (.slice Ao33 t248.length co33)) (fun _ h_ => h_.1))) (Kd.R_base ho1) hb); have n4_ := Aside0.mk (Kd.R_elder' (by (with_reducible repeat (first | apply Kd.R_alloc | apply Kd.R_drewN | apply Kd.R_drew)); exact (Kd.R_mono (Kd.R_far (p := ⟨gb251, 1, none⟩) (Kd.R_far (p := ⟨gb251, 0, none⟩) (Kd.R_types HO247.out BK251.out (by decide)) (fun _ hk => hk.2) (.slice Ao29 t245.length co29)) (fun _ hk => hk.2) (.slice Ao33 t248.length co33)) (fun _ h_ => h_.1))) (Kd.R_base ho0) hb); have n5_ := Aside0.mk (Kd.R_elder' (by (with_reducible repeat (first | apply Kd.R_alloc | apply Kd.R_drewN | apply Kd.R_drew)); exact (Kd.R_mono (Kd.R_far (p := ⟨gb251, 1, none⟩) (Kd.R_far (p := ⟨gb251, 0, none⟩) (Kd.R_types HO250.out BK251.out (by decide)) (fun _ hk => hk.2) (.slice Ao29 t245.length co29)) (fun _ hk => hk.2) (.slice Ao33 t248.length co33)) (fun _ h_ => h_.1))) (Kd.R_base ho1) hb); have n6_ := Aside0.mk (Kd.R_lower (Kd.R_new' (Kd.R_new' (Kd.R_new' ho0 (Kd.R_lt (by (with_reducible repeat (first | apply Kd.R_alloc | apply Kd.R_drewN | apply Kd.R_drew)); exact (Kd.R_mono (Kd.R_far (p := ⟨gb251, 1, none⟩) (Kd.R_far (p := ⟨gb251, 0, none⟩) (Kd.R_types HO233.out BK251.out (by decide)) (fun _ hk => hk.2) (.slice Ao29 t245.length co29)) (fun _ hk => hk.2) (.slice Ao33 t248.length co33)) (fun _ h_ => h_.1))))) (Kd.R_lt (by (with_reducible repeat (first | apply Kd.R_alloc | apply Kd.R_drewN | apply Kd.R_drew)); exact (Kd.R_mono (Kd.R_far (p := ⟨gb251, 1, none⟩) (Kd.R_far (p := ⟨gb251, 0, none⟩) (Kd.R_types HO239.out BK251.out (by decide)) (fun _ hk => hk.2) (.slice Ao29 t245.length co29)) (fun _ hk => hk.2) (.slice Ao33 t248.length co33)) (fun _ h_ => h_.1))))) (Kd.R_lt (by (with_reducible repeat (first | apply Kd.R_alloc | apply Kd.R_drewN | apply Kd.R_drew)); exact (Kd.R_mono (Kd.R_far (p := ⟨gb251, 1, none⟩) (Kd.R_far (p := ⟨gb251, 0, none⟩) (Kd.R_types HO247.out BK251.out (by decide)) (fun _ hk => hk.2) (.slice Ao29 t245.length co29)) (fun _ hk => hk.2) (.slice Ao33 t248.length co33)) (fun _ h_ => h_.1))))) (below_size (by repeat (first | (with_reducible first | exact HB.out | apply below_alloc | apply pw_below_drewN | apply below_drew1 | refine below_set ?_ GE229.out | refine below_set ?_ GE244.out | refine below_set ?_ GE251.out) | exact HB.out)))); have n7_ := Aside0.mk (Kd.R_lower (Kd.R_new' (Kd.R_new' (Kd.R_new' ho1 (Kd.R_lt (by (with_reducible repeat (first | apply Kd.R_alloc | apply Kd.R_drewN | apply Kd.R_drew)); exact (Kd.R_mono (Kd.R_far (p := ⟨gb251, 1, none⟩) (Kd.R_far (p := ⟨gb251, 0, none⟩) (Kd.R_types HO236.out BK251.out (by decide)) (fun _ hk => hk.2) (.slice Ao29 t245.length co29)) (fun _ hk => hk.2) (.slice Ao33 t248.length co33)) (fun _ h_ => h_.1))))) (Kd.R_lt (by (with_reducible repeat (first | apply Kd.R_alloc | apply Kd.R_drewN | apply Kd.R_drew)); exact (Kd.R_mono (Kd.R_far (p := ⟨gb251, 1, none⟩) (Kd.R_far (p := ⟨gb251, 0, none⟩) (Kd.R_types HO242.out BK251.out (by decide)) (fun _ hk => hk.2) (.slice Ao29 t245.length co29)) (fun _ hk => hk.2) (.slice Ao33 t248.length co33)) (fun _ h_ => h_.1))))) (Kd.R_lt (by (with_reducible repeat (first | apply Kd.R_alloc | apply Kd.R_drewN | apply Kd.R_drew)); exact (Kd.R_mono (Kd.R_far (p := ⟨gb251, 1, none⟩) (Kd.R_far (p := ⟨gb251, 0, none⟩) (Kd.R_types HO250.out BK251.out (by decide)) (fun _ hk => hk.2) (.slice Ao29 t245.length co29)) (fun _ hk => hk.2) (.slice Ao33 t248.length co33)) (fun _ h_ => h_.1))))) (below_size (by repeat (first | (with_reducible first | exact HB.out | apply below_alloc | apply pw_below_drewN | apply below_drew1 | refine below_set ?_ GE229.out | refine below_set ?_ GE244.out | refine below_set ?_ GE251.out) | exact HB.out)))); have n8_ := Aside0.mk (blk_below (g := gb229) (o := .cells #[.slice A0_0 l0_0.length c0_0, .slice A0_1 l0_1.length c0_1] 46 (0, 0)) (by (with_reducible repeat (first | refine blk_drewN ?_ _ | refine blk_drew ?_ | refine blk_alloc ?_ _)); refine blk_far ?_ NB229_251.out _; (with_reducible repeat (first | refine blk_drewN ?_ _ | refine blk_drew ?_ | refine blk_alloc ?_ _)); refine blk_far ?_ NB229_251.out _; (with_reducible repeat (first | refine blk_drewN ?_ _ | refine blk_drew ?_ | refine blk_alloc ?_ _)); exact BK229.out) hb); have n9_ := Aside0.mk (blk_below (g := gb244) (o := .cells #[.slice Ao22 t237.length co22, .slice Ao25 t240.length co25] 49 (0, 0)) (by (with_reducible repeat (first | refine blk_drewN ?_ _ | refine blk_drew ?_ | refine blk_alloc ?_ _)); refine blk_far ?_ NB244_251.out _; (with_reducible repeat (first | refine blk_drewN ?_ _ | refine blk_drew ?_ | refine blk_alloc ?_ _)); refine blk_far ?_ NB244_251.out _; (with_reducible repeat (first | refine blk_drewN ?_ _ | refine blk_drew ?_ | refine blk_alloc ?_ _)); exact BK244.out) hb); have n10_ := Aside0.mk (blk_below (g := gb251) (o := .cells #[.slice Ao29 t245.length co29, .slice Ao33 t248.length co33] 49 (0, 0)) (by (with_reducible repeat (first | refine blk_drewN ?_ _ | refine blk_drew ?_ | refine blk_alloc ?_ _)); refine blk_put (cs := #[.slice Ao29 t245.length co29, .slice none 0 0]) ?_ 1 _ rfl; (with_reducible repeat (first | refine blk_drewN ?_ _ | refine blk_drew ?_ | refine blk_alloc ?_ _)); refine blk_put (cs := #[.slice none 0 0, .slice none 0 0]) ?_ 0 _ rfl; (with_reducible repeat (first | refine blk_drewN ?_ _ | refine blk_drew ?_ | refine blk_alloc ?_ _)); exact BK251.out) hb); have n11_ := Aside0.mk (below_step (by repeat (first | (with_reducible first | exact HB.out | apply below_alloc | apply pw_below_drewN | apply below_drew1 | refine below_set ?_ GE229.out | refine below_set ?_ GE244.out | refine below_set ?_ GE251.out) | exact HB.out)) hb); clear HO233; clear HO236; clear HO239; clear HO242; clear HO247; clear HO250; clear BK229; clear BK244; clear BK251; clear HB; have HO233 := n0_; have HO236 := n1_; have HO239 := n2_; have HO242 := n3_; have HO247 := n4_; have HO250 := n5_; have HO254 := n6_; have HO257 := n7_; have BK229 := n8_; have BK244 := n9_; have BK251 := n10_; have HB := n11_; clear n0_ n1_ n2_ n3_ n4_ n5_ n6_ n7_ n8_ n9_ n10_ n11_; (try clear hb); (try clear hb2); (try clear hk); (try clear hi); (try clear ho0); (try clear ho1)) | ((with_reducible refine gate_dst (N := 9) rfl ?_); refine box_event ?hg (N := 9) ?hd (cs := #[.slice none 0 0, .slice none 0 0]) (t := 49) ?hr ?_; (case hd => rfl); (case hg => rfl); (case hr => first | (go_simp; done) | (go_simp; rfl)); intro gb259 hg w35 hbox hb; have n0_ := Aside0.mk (Kd.R_below (by (with_reducible repeat (first | apply Kd.R_alloc | apply Kd.R_drewN | apply Kd.R_drew)); exact HO233.out) hb); have n1_ := Aside0.mk (Kd.R_below (by (with_reducible repeat (first | apply Kd.R_alloc | apply Kd.R_drewN | apply Kd.R_drew)); exact HO236.out) hb); have n2_ := Aside0.mk (Kd.R_below (by (with_reducible repeat (first | apply Kd.R_alloc | apply Kd.R_drewN | apply Kd.R_drew)); exact HO239.out) hb); have n3_ := Aside0.mk (Kd.R_below (by (with_reducible repeat (first | apply Kd.R_alloc | apply Kd.R_drewN | apply Kd.R_drew)); exact HO242.out) hb); have n4_ := Aside0.mk (Kd.R_below (by (with_reducible repeat (first | apply Kd.R_alloc | apply Kd.R_drewN | apply Kd.R_drew)); exact HO247.out) hb); have n5_ := Aside0.mk (Kd.R_below (by (with_reducible repeat (first | apply Kd.R_alloc | apply Kd.R_drewN | apply Kd.R_drew)); exact HO250.out) hb); have n6_ := Aside0.mk (Kd.R_below (by (with_reducible repeat (first | apply Kd.R_alloc | apply Kd.R_drewN | apply Kd.R_drew)); exact HO254.out) hb); have n7_ := Aside0.mk (Kd.R_below (by (with_reducible repeat (first | apply Kd.R_alloc | apply Kd.R_drewN | apply Kd.R_drew)); exact HO257.out) hb); have n8_ := Aside0.mk (blk_below (g := gb229) (o := .cells #[.slice A0_0 l0_0.length c0_0, .slice A0_1 l0_1.length c0_1] 46 (0, 0)) (by (with_reducible repeat (first | refine blk_drewN ?_ _ | refine blk_drew ?_ | refine blk_alloc ?_ _)); exact BK229.out) hb); have n9_ := Aside0.mk (blk_below (g := gb244) (o := .cells #[.slice Ao22 t237.length co22, .slice Ao25 t240.length co25] 49 (0, 0)) (by (with_reducible repeat (first | refine blk_drewN ?_ _ | refine blk_drew ?_ | refine blk_alloc ?_ _)); exact BK244.out) hb); have n10_ := Aside0.mk (blk_below (g := gb251) (o := .cells #[.slice Ao29 t245.length co29, .slice Ao33 t248.length co33] 49 (0, 0)) (by (with_reducible repeat (first | refine blk_drewN ?_ _ | refine blk_drew ?_ | refine blk_alloc ?_ _)); exact BK251.out) hb); have n11_ := Aside0.mk (below_step (by repeat (first | (with_reducible first | exact HB.out | apply below_alloc | apply pw_below_drewN | apply below_drew1 | refine below_set ?_ GE229.out | refine below_set ?_ GE244.out | refine below_set ?_ GE251.out) | exact HB.out)) hb); have n12_ := Aside0.mk (hbox); have n13_ := Aside0.mk ((by rw [hg]; exact (below_size (by repeat (first | (with_reducible first | exact HB.out | apply below_alloc | apply pw_below_drewN | apply below_drew1 | refine below_set ?_ GE229.out | refine below_set ?_ GE244.out | refine below_set ?_ GE251.out) | exact HB.out))) : w.heap.size ≤ gb259)); have n14_ := Aside0.mk ((by rw [hg]; exact (below_size (by repeat (first | (with_reducible first | exact HB.out | apply below_alloc | apply pw_below_drewN | apply below_drew1 | refine below_set ?_ GE229.out | refine below_set ?_ GE244.out | refine below_set ?_ GE251.out) | exact HB.out))) : w.heap.size ≤ gb259)); have n15_ := Aside0.mk ((by rw [hg]; exact Nat.ne_of_lt (blk_lt (g := gb229) (o := .cells #[.slice A0_0 l0_0.length c0_0, .slice A0_1 l0_1.length c0_1] 46 (0, 0)) (by (with_reducible repeat (first | refine blk_drewN ?_ _ | refine blk_drew ?_ | refine blk_alloc ?_ _)); exact BK229.out)) : gb229 ≠ gb259)); have n16_ := Aside0.mk ((by rw [hg]; exact Nat.ne_of_gt (blk_lt (g := gb229) (o := .cells #[.slice A0_0 l0_0.length c0_0, .slice A0_1 l0_1.length c0_1] 46 (0, 0)) (by (with_reducible repeat (first | refine blk_drewN ?_ _ | refine blk_drew ?_ | refine blk_alloc ?_ _)); exact BK229.out)) : gb259 ≠ gb229)); have n17_ := Aside0.mk ((by rw [hg]; exact Nat.ne_of_lt (blk_lt (g := gb244) (o := .cells #[.slice Ao22 t237.length co22, .slice Ao25 t240.length co25] 49 (0, 0)) (by (with_reducible repeat (first | refine blk_drewN ?_ _ | refine blk_drew ?_ | refine blk_alloc ?_ _)); exact BK244.out)) : gb244 ≠ gb259)); have n18_ := Aside0.mk ((by rw [hg]; exact Nat.ne_of_gt (blk_lt (g := gb244) (o := .cells #[.slice Ao22 t237.length co22, .slice Ao25 t240.length co25] 49 (0, 0)) (by (with_reducible repeat (first | refine blk_drewN ?_ _ | refine blk_drew ?_ | refine blk_alloc ?_ _)); exact BK244.out)) : gb259 ≠ gb244)); have n19_ := Aside0.mk ((by rw [hg]; exact Nat.ne_of_lt (blk_lt (g := gb251) (o := .cells #[.slice Ao29 t245.length co29, .slice Ao33 t248.length co33] 49 (0, 0)) (by (with_reducible repeat (first | refine blk_drewN ?_ _ | refine blk_drew ?_ | refine blk_alloc ?_ _)); exact BK251.out)) : gb251 ≠ gb259)); have n20_ := Aside0.mk ((by rw [hg]; exact Nat.ne_of_gt (blk_lt (g := gb251) (o := .cells #[.slice Ao29 t245.length co29, .slice Ao33 t248.length co33] 49 (0, 0)) (by (with_reducible repeat (first | refine blk_drewN ?_ _ | refine blk_drew ?_ | refine blk_alloc ?_ _)); exact BK251.out)) : gb259 ≠ gb251)); clear HO233; clear HO236; clear HO239; clear HO242; clear HO247; clear HO250; clear HO254; clear HO257; clear BK229; clear BK244; clear BK251; clear HB; have HO233 := n0_; have HO236 := n1_; have HO239 := n2_; have HO242 := n3_; have HO247 := n4_; have HO250 := n5_; have HO254 := n6_; have HO257 := n7_; have BK229 := n8_; have BK244 := n9_; have BK251 := n10_; have HB := n11_; have BK259 := n12_; have GW259 := n13_; have GE259 := n14_; have NB229_259 := n15_; have NB259_229 := n16_; have NB244_259 := n17_; have NB259_244 := n18_; have NB251_259 := n19_; have NB259_251 := n20_; clear n0_ n1_ n2_ n3_ n4_ n5_ n6_ n7_ n8_ n9_ n10_ n11_ n12_ n13_ n14_ n15_ n16_ n17_ n18_ n19_ n20_; clear hb hbox hg; obtain ⟨Ao36, co36, eo36⟩ := Kd.R_slice HO254.out; subst eo36; have hnb37 := NB259_229.out; have hnc37 := NB229_259.out; have hnb38 := NB259_244.out; have hnc38 := NB244_259.out; have hnb39 := NB259_251.out; have hnc39 := NB251_259.out; have hcz40_0 : w35.cell? ⟨gb259, 0, none⟩ = some (.slice none 0 0) := (blk_cell BK259.out 0).trans rfl; have hcz40_1 : w35.cell? ⟨gb259, 1, none⟩ = some (.slice none 0 0) := (blk_cell BK259.out 1).trans rfl; have hfz40_0 := blk_frozen BK259.out 0; have hfz40_1 := blk_frozen BK259.out 1; obtain ⟨Ao41, co41, eo41⟩ := Kd.R_slice HO257.out; subst eo41))
    (try simp only [Act.put, List.setIfInBounds_toArray, List.set_cons_zero, List.set_cons_succ])
    go_cut [44] (fun v44 wc => ∃ (kq : Nat) (x44_11 : Bool), v44 = .bool x44_11 ∧ Aside0 (laws_FnExactClear.j0 kq a1 t243 t258 x44_11 l0_0 l0_1 t237 t240 t245 t248 t252 t255 = some r) ∧ Aside0 (kq ≤ k) ∧ Aside0 (Kd.R Kd.string 9 wc w.heap.size (fun k_ => some k_ ≠ ((.slice Ao29 t245.length co29) : Value).ownBlock ∧ some k_ ≠ ((.slice Ao36 t252.length co36) : Value).ownBlock) (.slice Ao22 t237.length co22) t237) ∧ Aside0 (Kd.R (Kd.int .i64) 3 wc w.heap.size (fun k_ => some k_ ≠ ((.slice Ao33 t248.length co33) : Value).ownBlock ∧ some k_ ≠ ((.slice Ao41 t255.length co41) : Value).ownBlock) (.slice Ao25 t240.length co25) t240) ∧ Aside0 (Kd.R Kd.string 9 wc w.heap.size (fun k_ => some k_ ≠ ((.slice Ao22 t237.length co22) : Value).ownBlock ∧ some k_ ≠ ((.slice Ao36 t252.length co36) : Value).ownBlock) (.slice Ao29 t245.length co29) t245) ∧ Aside0 (Kd.R (Kd.int .i64) 3 wc w.heap.size (fun k_ => some k_ ≠ ((.slice Ao25 t240.length co25) : Value).ownBlock ∧ some k_ ≠ ((.slice Ao41 t255.length co41) : Value).ownBlock) (.slice Ao33 t248.length co33) t248) ∧ Aside0 (Kd.R Kd.string 9 wc w.heap.size (fun k_ => some k_ ≠ ((.slice Ao22 t237.length co22) : Value).ownBlock ∧ some k_ ≠ ((.slice Ao29 t245.length co29) : Value).ownBlock) (.slice Ao36 t252.length co36) t252) ∧ Aside0 (Kd.R (Kd.int .i64) 3 wc w.heap.size (fun k_ => some k_ ≠ ((.slice Ao25 t240.length co25) : Value).ownBlock ∧ some k_ ≠ ((.slice Ao33 t248.length co33) : Value).ownBlock) (.slice Ao41 t255.length co41) t255) ∧ Aside0 (wc.heap[gb229]? = some (.cells #[(.slice A0_0 l0_0.length c0_0), (.slice A0_1 l0_1.length c0_1)] 46 (0, 0))) ∧ Aside0 (wc.heap[gb244]? = some (.cells #[(.slice Ao22 t237.length co22), (.slice Ao25 t240.length co25)] 49 (0, 0))) ∧ Aside0 (wc.heap[gb251]? = some (.cells #[(.slice Ao29 t245.length co29), (.slice Ao33 t248.length co33)] 49 (0, 0))) ∧ Aside0 (wc.heap[gb259]? = some (.cells #[(.slice Ao36 t252.length co36), (.slice Ao41 t255.length co41)] 49 (0, 0))) ∧ Aside0 (Below w.heap.size w wc))
    case first =>
      have H := HC12.out
      clear HC12
      replace H := Option.bind_eq_some_iff.mp H
      obtain ⟨t260, A420, H⟩ := H
      replace H : (if t260 = true then (laws_FnExactClear.j0 k a1 t243 t258 (t258 != t243) l0_0 l0_1 t237 t240 t245 t248 t252 t255) else (laws_FnExactClear.j0 k a1 t243 t258 true l0_0 l0_1 t237 t240 t245 t248 t252 t255)) = some r := H
      have A42 := Aside0.mk A420
      clear A420
      by_cases c43 : t260 = true
      · subst c43
        have H1 : (laws_FnExactClear.j0 k a1 t243 t258 (t258 != t243) l0_0 l0_1 t237 t240 t245 t248 t252 t255) = some r := by rw [if_pos rfl] at H; exact H
        clear H
        have H := H1
        clear H1
        have H' := Aside0.mk H
        clear H
        have hnb44 := NB259_229.out
        have hnc44 := NB229_259.out
        have hnb45 := NB259_244.out
        have hnc45 := NB244_259.out
        have hnb46 := NB259_251.out
        have hnc46 := NB251_259.out
        have hcz47_0 : w35.cell? ⟨gb259, 0, none⟩ = some (.slice none 0 0) := (blk_cell BK259.out 0).trans rfl
        have hcz47_1 : w35.cell? ⟨gb259, 1, none⟩ = some (.slice none 0 0) := (blk_cell BK259.out 1).trans rfl
        have hfz47_0 := blk_frozen BK259.out 0
        have hfz47_1 := blk_frozen BK259.out 1
        have hnb48 := NB244_229.out
        have hnc48 := NB229_244.out
        have hnb49 := NB244_251.out
        have hnc49 := NB251_244.out
        have hcz50_0 : w35.cell? ⟨gb244, 0, none⟩ = some (.slice Ao22 t237.length co22) := (blk_cell BK244.out 0).trans rfl
        have hcz50_1 : w35.cell? ⟨gb244, 1, none⟩ = some (.slice Ao25 t240.length co25) := (blk_cell BK244.out 1).trans rfl
        have hfz50_0 := blk_frozen BK244.out 0
        have hfz50_1 := blk_frozen BK244.out 1
        go_wp2_with (first | ((with_reducible refine gate_callee (f := 36) rfl ?_); refine goesL_ (some 38) rfl rfl Try.func36 (by kernel_rfl) rfl #[.agg #[.slice Ao36 t252.length co36, .slice Ao41 t255.length co41], .agg #[.slice Ao22 t237.length co22, .slice Ao25 t240.length co25]] rfl (by (try simp only [List.map_toArray, List.map_cons, List.map_nil]); first | done | rfl | (simp only [List.length_drop, List.length_take]; rfl)) ?_; (with_reducible refine (laws_eqChip.calls k _ _ t252 _ _ t255 _ _ t237 _ _ t240 true _ ?side1 ?side2 ?side3 ?side4 ?side5 ?side6 ?side7 ?side8 A42.out).mono ?_); (case side1 => refine (Kd.R_reads' (e := 9) (base := w.heap.size) (ok := fun k_ => (((True ∧ some k_ ≠ (.slice Ao18 t231.length co18 : Value).ownBlock) ∧ some k_ ≠ (.slice Ao22 t237.length co22 : Value).ownBlock) ∧ some k_ ≠ (.slice Ao29 t245.length co29 : Value).ownBlock)) (n := t252.length) (c := co36) ?_).2.2; exact (by (with_reducible repeat (first | apply Kd.R_alloc | apply Kd.R_drewN | apply Kd.R_drew)); exact (Kd.R_mono (Kd.R_far (p := ⟨gb259, 1, none⟩) (Kd.R_far (p := ⟨gb259, 0, none⟩) (Kd.R_types HO254.out BK259.out (by decide)) (fun _ hk => hk.2) (.slice Ao36 t252.length co36)) (fun _ hk => hk.2) (.slice Ao41 t255.length co41)) (fun _ h_ => h_.1)))); (case side2 => exact (Kd.R_reads' HO254.out).2.1); (case side3 => refine (Kd.R_reads' (e := 3) (base := w.heap.size) (ok := fun k_ => (((True ∧ some k_ ≠ (.slice Ao19 t234.length co19 : Value).ownBlock) ∧ some k_ ≠ (.slice Ao25 t240.length co25 : Value).ownBlock) ∧ some k_ ≠ (.slice Ao33 t248.length co33 : Value).ownBlock)) (n := t255.length) (c := co41) ?_).2.2; exact (by (with_reducible repeat (first | apply Kd.R_alloc | apply Kd.R_drewN | apply Kd.R_drew)); exact (Kd.R_mono (Kd.R_far (p := ⟨gb259, 1, none⟩) (Kd.R_far (p := ⟨gb259, 0, none⟩) (Kd.R_types HO257.out BK259.out (by decide)) (fun _ hk => hk.2) (.slice Ao36 t252.length co36)) (fun _ hk => hk.2) (.slice Ao41 t255.length co41)) (fun _ h_ => h_.1)))); (case side4 => exact (Kd.R_reads' HO257.out).2.1); (case side5 => refine (Kd.R_reads' (e := 9) (base := w.heap.size) (ok := fun k_ => (((True ∧ some k_ ≠ (.slice Ao18 t231.length co18 : Value).ownBlock) ∧ some k_ ≠ (.slice Ao29 t245.length co29 : Value).ownBlock) ∧ some k_ ≠ (.slice Ao36 t252.length co36 : Value).ownBlock)) (n := t237.length) (c := co22) ?_).2.2; exact (by (with_reducible repeat (first | apply Kd.R_alloc | apply Kd.R_drewN | apply Kd.R_drew)); exact (Kd.R_mono (Kd.R_far (p := ⟨gb259, 1, none⟩) (Kd.R_far (p := ⟨gb259, 0, none⟩) (Kd.R_types HO239.out BK259.out (by decide)) (fun _ hk => hk.2) (.slice Ao36 t252.length co36)) (fun _ hk => hk.2) (.slice Ao41 t255.length co41)) (fun _ h_ => h_.1)))); (case side6 => exact (Kd.R_reads' HO239.out).2.1); (case side7 => refine (Kd.R_reads' (e := 3) (base := w.heap.size) (ok := fun k_ => (((True ∧ some k_ ≠ (.slice Ao19 t234.length co19 : Value).ownBlock) ∧ some k_ ≠ (.slice Ao33 t248.length co33 : Value).ownBlock) ∧ some k_ ≠ (.slice Ao41 t255.length co41 : Value).ownBlock)) (n := t240.length) (c := co25) ?_).2.2; exact (by (with_reducible repeat (first | apply Kd.R_alloc | apply Kd.R_drewN | apply Kd.R_drew)); exact (Kd.R_mono (Kd.R_far (p := ⟨gb259, 1, none⟩) (Kd.R_far (p := ⟨gb259, 0, none⟩) (Kd.R_types HO242.out BK259.out (by decide)) (fun _ hk => hk.2) (.slice Ao36 t252.length co36)) (fun _ hk => hk.2) (.slice Ao41 t255.length co41)) (fun _ h_ => h_.1)))); (case side8 => exact (Kd.R_reads' HO242.out).2.1); rintro e w51 ⟨rfl, hb⟩; refine ⟨_, rfl, ?_⟩; have n0_ := Aside0.mk (Kd.R_below (by (with_reducible repeat (first | apply Kd.R_alloc | apply Kd.R_drewN | apply Kd.R_drew)); exact (Kd.R_mono (Kd.R_far (p := ⟨gb259, 1, none⟩) (Kd.R_far (p := ⟨gb259, 0, none⟩) (Kd.R_types HO233.out BK259.out (by decide)) (fun _ hk => hk.2) (.slice Ao36 t252.length co36)) (fun _ hk => hk.2) (.slice Ao41 t255.length co41)) (fun _ h_ => h_.1))) hb); have n1_ := Aside0.mk (Kd.R_below (by (with_reducible repeat (first | apply Kd.R_alloc | apply Kd.R_drewN | apply Kd.R_drew)); exact (Kd.R_mono (Kd.R_far (p := ⟨gb259, 1, none⟩) (Kd.R_far (p := ⟨gb259, 0, none⟩) (Kd.R_types HO236.out BK259.out (by decide)) (fun _ hk => hk.2) (.slice Ao36 t252.length co36)) (fun _ hk => hk.2) (.slice Ao41 t255.length co41)) (fun _ h_ => h_.1))) hb); have n2_ := Aside0.mk (Kd.R_below (by (with_reducible repeat (first | apply Kd.R_alloc | apply Kd.R_drewN | apply Kd.R_drew)); exact (Kd.R_mono (Kd.R_far (p := ⟨gb259, 1, none⟩) (Kd.R_far (p := ⟨gb259, 0, none⟩) (Kd.R_types HO239.out BK259.out (by decide)) (fun _ hk => hk.2) (.slice Ao36 t252.length co36)) (fun _ hk => hk.2) (.slice Ao41 t255.length co41)) (fun _ h_ => h_.1))) hb); have n3_ := Aside0.mk (Kd.R_below (by (with_reducible repeat (first | apply Kd.R_alloc | apply Kd.R_drewN | apply Kd.R_drew)); exact (Kd.R_mono (Kd.R_far (p := ⟨gb259, 1, none⟩) (Kd.R_far (p := ⟨gb259, 0, none⟩) (Kd.R_types HO242.out BK259.out (by decide)) (fun _ hk => hk.2) (.slice Ao36 t252.length co36)) (fun _ hk => hk.2) (.slice Ao41 t255.length co41)) (fun _ h_ => h_.1))) hb); have n4_ := Aside0.mk (Kd.R_below (by (with_reducible repeat (first | apply Kd.R_alloc | apply Kd.R_drewN | apply Kd.R_drew)); exact (Kd.R_mono (Kd.R_far (p := ⟨gb259, 1, none⟩) (Kd.R_far (p := ⟨gb259, 0, none⟩) (Kd.R_types HO247.out BK259.out (by decide)) (fun _ hk => hk.2) (.slice Ao36 t252.length co36)) (fun _ hk => hk.2) (.slice Ao41 t255.length co41)) (fun _ h_ => h_.1))) hb); have n5_ := Aside0.mk (Kd.R_below (by (with_reducible repeat (first | apply Kd.R_alloc | apply Kd.R_drewN | apply Kd.R_drew)); exact (Kd.R_mono (Kd.R_far (p := ⟨gb259, 1, none⟩) (Kd.R_far (p := ⟨gb259, 0, none⟩) (Kd.R_types HO250.out BK259.out (by decide)) (fun _ hk => hk.2) (.slice Ao36 t252.length co36)) (fun _ hk => hk.2) (.slice Ao41 t255.length co41)) (fun _ h_ => h_.1))) hb); have n6_ := Aside0.mk (Kd.R_below (by (with_reducible repeat (first | apply Kd.R_alloc | apply Kd.R_drewN | apply Kd.R_drew)); exact (Kd.R_mono (Kd.R_far (p := ⟨gb259, 1, none⟩) (Kd.R_far (p := ⟨gb259, 0, none⟩) (Kd.R_types HO254.out BK259.out (by decide)) (fun _ hk => hk.2) (.slice Ao36 t252.length co36)) (fun _ hk => hk.2) (.slice Ao41 t255.length co41)) (fun _ h_ => h_.1))) hb); have n7_ := Aside0.mk (Kd.R_below (by (with_reducible repeat (first | apply Kd.R_alloc | apply Kd.R_drewN | apply Kd.R_drew)); exact (Kd.R_mono (Kd.R_far (p := ⟨gb259, 1, none⟩) (Kd.R_far (p := ⟨gb259, 0, none⟩) (Kd.R_types HO257.out BK259.out (by decide)) (fun _ hk => hk.2) (.slice Ao36 t252.length co36)) (fun _ hk => hk.2) (.slice Ao41 t255.length co41)) (fun _ h_ => h_.1))) hb); have n8_ := Aside0.mk (blk_below (g := gb229) (o := .cells #[.slice A0_0 l0_0.length c0_0, .slice A0_1 l0_1.length c0_1] 46 (0, 0)) (by (with_reducible repeat (first | refine blk_drewN ?_ _ | refine blk_drew ?_ | refine blk_alloc ?_ _)); refine blk_far ?_ NB229_259.out _; (with_reducible repeat (first | refine blk_drewN ?_ _ | refine blk_drew ?_ | refine blk_alloc ?_ _)); refine blk_far ?_ NB229_259.out _; (with_reducible repeat (first | refine blk_drewN ?_ _ | refine blk_drew ?_ | refine blk_alloc ?_ _)); exact BK229.out) hb); have n9_ := Aside0.mk (blk_below (g := gb244) (o := .cells #[.slice Ao22 t237.length co22, .slice Ao25 t240.length co25] 49 (0, 0)) (by (with_reducible repeat (first | refine blk_drewN ?_ _ | refine blk_drew ?_ | refine blk_alloc ?_ _)); refine blk_far ?_ NB244_259.out _; (with_reducible repeat (first | refine blk_drewN ?_ _ | refine blk_drew ?_ | refine blk_alloc ?_ _)); refine blk_far ?_ NB244_259.out _; (with_reducible repeat (first | refine blk_drewN ?_ _ | refine blk_drew ?_ | refine blk_alloc ?_ _)); exact BK244.out) hb); have n10_ := Aside0.mk (blk_below (g := gb251) (o := .cells #[.slice Ao29 t245.length co29, .slice Ao33 t248.length co33] 49 (0, 0)) (by (with_reducible repeat (first | refine blk_drewN ?_ _ | refine blk_drew ?_ | refine blk_alloc ?_ _)); refine blk_far ?_ NB251_259.out _; (with_reducible repeat (first | refine blk_drewN ?_ _ | refine blk_drew ?_ | refine blk_alloc ?_ _)); refine blk_far ?_ NB251_259.out _; (with_reducible repeat (first | refine blk_drewN ?_ _ | refine blk_drew ?_ | refine blk_alloc ?_ _)); exact BK251.out) hb); have n11_ := Aside0.mk (blk_below (g := gb259) (o := .cells #[.slice Ao36 t252.length co36, .slice Ao41 t255.length co41] 49 (0, 0)) (by (with_reducible repeat (first | refine blk_drewN ?_ _ | refine blk_drew ?_ | refine blk_alloc ?_ _)); refine blk_put (cs := #[.slice Ao36 t252.length co36, .slice none 0 0]) ?_ 1 _ rfl; (with_reducible repeat (first | refine blk_drewN ?_ _ | refine blk_drew ?_ | refine blk_alloc ?_ _)); refine blk_put (cs := #[.slice none 0 0, .slice none 0 0]) ?_ 0 _ rfl; (with_reducible repeat (first | refine blk_drewN ?_ _ | refine blk_drew ?_ | refine blk_alloc ?_ _)); exact BK259.out) hb); have n12_ := Aside0.mk (below_step (by repeat (first | (with_reducible first | exact HB.out | apply below_alloc | apply pw_below_drewN | apply below_drew1 | refine below_set ?_ GE229.out | refine below_set ?_ GE244.out | refine below_set ?_ GE251.out | refine below_set ?_ GE259.out) | exact HB.out)) hb); clear HO233; clear HO236; clear HO239; clear HO242; clear HO247; clear HO250; clear HO254; clear HO257; clear BK229; clear BK244; clear BK251; clear BK259; clear HB; have HO233 := n0_; have HO236 := n1_; have HO239 := n2_; have HO242 := n3_; have HO247 := n4_; have HO250 := n5_; have HO254 := n6_; have HO257 := n7_; have BK229 := n8_; have BK244 := n9_; have BK251 := n10_; have BK259 := n11_; have HB := n12_; clear n0_ n1_ n2_ n3_ n4_ n5_ n6_ n7_ n8_ n9_ n10_ n11_ n12_; (try clear hb); (try clear hb2); (try clear hk); (try clear hi)))
        go_meet
        case rel => exact ⟨_, ((t258 != t243)), (by first | rfl | (simp; done) | (simp [*]; done)), H', ⟨by first | omega | exact Nat.le_refl _⟩, ⟨by (with_reducible repeat (first | apply Kd.R_alloc | apply Kd.R_drewN | apply Kd.R_drew)); exact Kd.R_mono HO239.out (fun _ hk => ⟨hk.1.2, hk.2⟩)⟩, ⟨by (with_reducible repeat (first | apply Kd.R_alloc | apply Kd.R_drewN | apply Kd.R_drew)); exact Kd.R_mono HO242.out (fun _ hk => ⟨hk.1.2, hk.2⟩)⟩, ⟨by (with_reducible repeat (first | apply Kd.R_alloc | apply Kd.R_drewN | apply Kd.R_drew)); exact Kd.R_mono HO247.out (fun _ hk => ⟨hk.1.2, hk.2⟩)⟩, ⟨by (with_reducible repeat (first | apply Kd.R_alloc | apply Kd.R_drewN | apply Kd.R_drew)); exact Kd.R_mono HO250.out (fun _ hk => ⟨hk.1.2, hk.2⟩)⟩, ⟨by (with_reducible repeat (first | apply Kd.R_alloc | apply Kd.R_drewN | apply Kd.R_drew)); exact Kd.R_mono HO254.out (fun _ hk => ⟨hk.1.2, hk.2⟩)⟩, ⟨by (with_reducible repeat (first | apply Kd.R_alloc | apply Kd.R_drewN | apply Kd.R_drew)); exact Kd.R_mono HO257.out (fun _ hk => ⟨hk.1.2, hk.2⟩)⟩, ⟨by (with_reducible repeat (first | refine blk_drewN ?_ _ | refine blk_drew ?_ | refine blk_alloc ?_ _)); exact BK229.out⟩, ⟨by (with_reducible repeat (first | refine blk_drewN ?_ _ | refine blk_drew ?_ | refine blk_alloc ?_ _)); exact BK244.out⟩, ⟨by (with_reducible repeat (first | refine blk_drewN ?_ _ | refine blk_drew ?_ | refine blk_alloc ?_ _)); exact BK251.out⟩, ⟨by (with_reducible repeat (first | refine blk_drewN ?_ _ | refine blk_drew ?_ | refine blk_alloc ?_ _)); exact BK259.out⟩, ⟨by repeat (first | (with_reducible first | exact HB.out | apply below_alloc | apply pw_below_drewN | apply below_drew1 | refine below_set ?_ GE229.out | refine below_set ?_ GE244.out | refine below_set ?_ GE251.out | refine below_set ?_ GE259.out) | exact HB.out)⟩⟩
      · replace c43 := Bool.eq_false_iff.mpr c43
        subst c43
        have H1 : (laws_FnExactClear.j0 k a1 t243 t258 true l0_0 l0_1 t237 t240 t245 t248 t252 t255) = some r := by rw [if_neg (show ¬ (false = true) by decide)] at H; exact H
        clear H
        have H := H1
        clear H1
        have H' := Aside0.mk H
        clear H
        have hnb52 := NB259_229.out
        have hnc52 := NB229_259.out
        have hnb53 := NB259_244.out
        have hnc53 := NB244_259.out
        have hnb54 := NB259_251.out
        have hnc54 := NB251_259.out
        have hcz55_0 : w35.cell? ⟨gb259, 0, none⟩ = some (.slice none 0 0) := (blk_cell BK259.out 0).trans rfl
        have hcz55_1 : w35.cell? ⟨gb259, 1, none⟩ = some (.slice none 0 0) := (blk_cell BK259.out 1).trans rfl
        have hfz55_0 := blk_frozen BK259.out 0
        have hfz55_1 := blk_frozen BK259.out 1
        have hnb56 := NB244_229.out
        have hnc56 := NB229_244.out
        have hnb57 := NB244_251.out
        have hnc57 := NB251_244.out
        have hcz58_0 : w35.cell? ⟨gb244, 0, none⟩ = some (.slice Ao22 t237.length co22) := (blk_cell BK244.out 0).trans rfl
        have hcz58_1 : w35.cell? ⟨gb244, 1, none⟩ = some (.slice Ao25 t240.length co25) := (blk_cell BK244.out 1).trans rfl
        have hfz58_0 := blk_frozen BK244.out 0
        have hfz58_1 := blk_frozen BK244.out 1
        go_wp2_with (first | ((with_reducible refine gate_callee (f := 36) rfl ?_); refine goesL_ (some 38) rfl rfl Try.func36 (by kernel_rfl) rfl #[.agg #[.slice Ao36 t252.length co36, .slice Ao41 t255.length co41], .agg #[.slice Ao22 t237.length co22, .slice Ao25 t240.length co25]] rfl (by (try simp only [List.map_toArray, List.map_cons, List.map_nil]); first | done | rfl | (simp only [List.length_drop, List.length_take]; rfl)) ?_; (with_reducible refine (laws_eqChip.calls k _ _ t252 _ _ t255 _ _ t237 _ _ t240 false _ ?side1 ?side2 ?side3 ?side4 ?side5 ?side6 ?side7 ?side8 A42.out).mono ?_); (case side1 => refine (Kd.R_reads' (e := 9) (base := w.heap.size) (ok := fun k_ => (((True ∧ some k_ ≠ (.slice Ao18 t231.length co18 : Value).ownBlock) ∧ some k_ ≠ (.slice Ao22 t237.length co22 : Value).ownBlock) ∧ some k_ ≠ (.slice Ao29 t245.length co29 : Value).ownBlock)) (n := t252.length) (c := co36) ?_).2.2; exact (by (with_reducible repeat (first | apply Kd.R_alloc | apply Kd.R_drewN | apply Kd.R_drew)); exact (Kd.R_mono (Kd.R_far (p := ⟨gb259, 1, none⟩) (Kd.R_far (p := ⟨gb259, 0, none⟩) (Kd.R_types HO254.out BK259.out (by decide)) (fun _ hk => hk.2) (.slice Ao36 t252.length co36)) (fun _ hk => hk.2) (.slice Ao41 t255.length co41)) (fun _ h_ => h_.1)))); (case side2 => exact (Kd.R_reads' HO254.out).2.1); (case side3 => refine (Kd.R_reads' (e := 3) (base := w.heap.size) (ok := fun k_ => (((True ∧ some k_ ≠ (.slice Ao19 t234.length co19 : Value).ownBlock) ∧ some k_ ≠ (.slice Ao25 t240.length co25 : Value).ownBlock) ∧ some k_ ≠ (.slice Ao33 t248.length co33 : Value).ownBlock)) (n := t255.length) (c := co41) ?_).2.2; exact (by (with_reducible repeat (first | apply Kd.R_alloc | apply Kd.R_drewN | apply Kd.R_drew)); exact (Kd.R_mono (Kd.R_far (p := ⟨gb259, 1, none⟩) (Kd.R_far (p := ⟨gb259, 0, none⟩) (Kd.R_types HO257.out BK259.out (by decide)) (fun _ hk => hk.2) (.slice Ao36 t252.length co36)) (fun _ hk => hk.2) (.slice Ao41 t255.length co41)) (fun _ h_ => h_.1)))); (case side4 => exact (Kd.R_reads' HO257.out).2.1); (case side5 => refine (Kd.R_reads' (e := 9) (base := w.heap.size) (ok := fun k_ => (((True ∧ some k_ ≠ (.slice Ao18 t231.length co18 : Value).ownBlock) ∧ some k_ ≠ (.slice Ao29 t245.length co29 : Value).ownBlock) ∧ some k_ ≠ (.slice Ao36 t252.length co36 : Value).ownBlock)) (n := t237.length) (c := co22) ?_).2.2; exact (by (with_reducible repeat (first | apply Kd.R_alloc | apply Kd.R_drewN | apply Kd.R_drew)); exact (Kd.R_mono (Kd.R_far (p := ⟨gb259, 1, none⟩) (Kd.R_far (p := ⟨gb259, 0, none⟩) (Kd.R_types HO239.out BK259.out (by decide)) (fun _ hk => hk.2) (.slice Ao36 t252.length co36)) (fun _ hk => hk.2) (.slice Ao41 t255.length co41)) (fun _ h_ => h_.1)))); (case side6 => exact (Kd.R_reads' HO239.out).2.1); (case side7 => refine (Kd.R_reads' (e := 3) (base := w.heap.size) (ok := fun k_ => (((True ∧ some k_ ≠ (.slice Ao19 t234.length co19 : Value).ownBlock) ∧ some k_ ≠ (.slice Ao33 t248.length co33 : Value).ownBlock) ∧ some k_ ≠ (.slice Ao41 t255.length co41 : Value).ownBlock)) (n := t240.length) (c := co25) ?_).2.2; exact (by (with_reducible repeat (first | apply Kd.R_alloc | apply Kd.R_drewN | apply Kd.R_drew)); exact (Kd.R_mono (Kd.R_far (p := ⟨gb259, 1, none⟩) (Kd.R_far (p := ⟨gb259, 0, none⟩) (Kd.R_types HO242.out BK259.out (by decide)) (fun _ hk => hk.2) (.slice Ao36 t252.length co36)) (fun _ hk => hk.2) (.slice Ao41 t255.length co41)) (fun _ h_ => h_.1)))); (case side8 => exact (Kd.R_reads' HO242.out).2.1); rintro e w59 ⟨rfl, hb⟩; refine ⟨_, rfl, ?_⟩; have n0_ := Aside0.mk (Kd.R_below (by (with_reducible repeat (first | apply Kd.R_alloc | apply Kd.R_drewN | apply Kd.R_drew)); exact (Kd.R_mono (Kd.R_far (p := ⟨gb259, 1, none⟩) (Kd.R_far (p := ⟨gb259, 0, none⟩) (Kd.R_types HO233.out BK259.out (by decide)) (fun _ hk => hk.2) (.slice Ao36 t252.length co36)) (fun _ hk => hk.2) (.slice Ao41 t255.length co41)) (fun _ h_ => h_.1))) hb); have n1_ := Aside0.mk (Kd.R_below (by (with_reducible repeat (first | apply Kd.R_alloc | apply Kd.R_drewN | apply Kd.R_drew)); exact (Kd.R_mono (Kd.R_far (p := ⟨gb259, 1, none⟩) (Kd.R_far (p := ⟨gb259, 0, none⟩) (Kd.R_types HO236.out BK259.out (by decide)) (fun _ hk => hk.2) (.slice Ao36 t252.length co36)) (fun _ hk => hk.2) (.slice Ao41 t255.length co41)) (fun _ h_ => h_.1))) hb); have n2_ := Aside0.mk (Kd.R_below (by (with_reducible repeat (first | apply Kd.R_alloc | apply Kd.R_drewN | apply Kd.R_drew)); exact (Kd.R_mono (Kd.R_far (p := ⟨gb259, 1, none⟩) (Kd.R_far (p := ⟨gb259, 0, none⟩) (Kd.R_types HO239.out BK259.out (by decide)) (fun _ hk => hk.2) (.slice Ao36 t252.length co36)) (fun _ hk => hk.2) (.slice Ao41 t255.length co41)) (fun _ h_ => h_.1))) hb); have n3_ := Aside0.mk (Kd.R_below (by (with_reducible repeat (first | apply Kd.R_alloc | apply Kd.R_drewN | apply Kd.R_drew)); exact (Kd.R_mono (Kd.R_far (p := ⟨gb259, 1, none⟩) (Kd.R_far (p := ⟨gb259, 0, none⟩) (Kd.R_types HO242.out BK259.out (by decide)) (fun _ hk => hk.2) (.slice Ao36 t252.length co36)) (fun _ hk => hk.2) (.slice Ao41 t255.length co41)) (fun _ h_ => h_.1))) hb); have n4_ := Aside0.mk (Kd.R_below (by (with_reducible repeat (first | apply Kd.R_alloc | apply Kd.R_drewN | apply Kd.R_drew)); exact (Kd.R_mono (Kd.R_far (p := ⟨gb259, 1, none⟩) (Kd.R_far (p := ⟨gb259, 0, none⟩) (Kd.R_types HO247.out BK259.out (by decide)) (fun _ hk => hk.2) (.slice Ao36 t252.length co36)) (fun _ hk => hk.2) (.slice Ao41 t255.length co41)) (fun _ h_ => h_.1))) hb); have n5_ := Aside0.mk (Kd.R_below (by (with_reducible repeat (first | apply Kd.R_alloc | apply Kd.R_drewN | apply Kd.R_drew)); exact (Kd.R_mono (Kd.R_far (p := ⟨gb259, 1, none⟩) (Kd.R_far (p := ⟨gb259, 0, none⟩) (Kd.R_types HO250.out BK259.out (by decide)) (fun _ hk => hk.2) (.slice Ao36 t252.length co36)) (fun _ hk => hk.2) (.slice Ao41 t255.length co41)) (fun _ h_ => h_.1))) hb); have n6_ := Aside0.mk (Kd.R_below (by (with_reducible repeat (first | apply Kd.R_alloc | apply Kd.R_drewN | apply Kd.R_drew)); exact (Kd.R_mono (Kd.R_far (p := ⟨gb259, 1, none⟩) (Kd.R_far (p := ⟨gb259, 0, none⟩) (Kd.R_types HO254.out BK259.out (by decide)) (fun _ hk => hk.2) (.slice Ao36 t252.length co36)) (fun _ hk => hk.2) (.slice Ao41 t255.length co41)) (fun _ h_ => h_.1))) hb); have n7_ := Aside0.mk (Kd.R_below (by (with_reducible repeat (first | apply Kd.R_alloc | apply Kd.R_drewN | apply Kd.R_drew)); exact (Kd.R_mono (Kd.R_far (p := ⟨gb259, 1, none⟩) (Kd.R_far (p := ⟨gb259, 0, none⟩) (Kd.R_types HO257.out BK259.out (by decide)) (fun _ hk => hk.2) (.slice Ao36 t252.length co36)) (fun _ hk => hk.2) (.slice Ao41 t255.length co41)) (fun _ h_ => h_.1))) hb); have n8_ := Aside0.mk (blk_below (g := gb229) (o := .cells #[.slice A0_0 l0_0.length c0_0, .slice A0_1 l0_1.length c0_1] 46 (0, 0)) (by (with_reducible repeat (first | refine blk_drewN ?_ _ | refine blk_drew ?_ | refine blk_alloc ?_ _)); refine blk_far ?_ NB229_259.out _; (with_reducible repeat (first | refine blk_drewN ?_ _ | refine blk_drew ?_ | refine blk_alloc ?_ _)); refine blk_far ?_ NB229_259.out _; (with_reducible repeat (first | refine blk_drewN ?_ _ | refine blk_drew ?_ | refine blk_alloc ?_ _)); exact BK229.out) hb); have n9_ := Aside0.mk (blk_below (g := gb244) (o := .cells #[.slice Ao22 t237.length co22, .slice Ao25 t240.length co25] 49 (0, 0)) (by (with_reducible repeat (first | refine blk_drewN ?_ _ | refine blk_drew ?_ | refine blk_alloc ?_ _)); refine blk_far ?_ NB244_259.out _; (with_reducible repeat (first | refine blk_drewN ?_ _ | refine blk_drew ?_ | refine blk_alloc ?_ _)); refine blk_far ?_ NB244_259.out _; (with_reducible repeat (first | refine blk_drewN ?_ _ | refine blk_drew ?_ | refine blk_alloc ?_ _)); exact BK244.out) hb); have n10_ := Aside0.mk (blk_below (g := gb251) (o := .cells #[.slice Ao29 t245.length co29, .slice Ao33 t248.length co33] 49 (0, 0)) (by (with_reducible repeat (first | refine blk_drewN ?_ _ | refine blk_drew ?_ | refine blk_alloc ?_ _)); refine blk_far ?_ NB251_259.out _; (with_reducible repeat (first | refine blk_drewN ?_ _ | refine blk_drew ?_ | refine blk_alloc ?_ _)); refine blk_far ?_ NB251_259.out _; (with_reducible repeat (first | refine blk_drewN ?_ _ | refine blk_drew ?_ | refine blk_alloc ?_ _)); exact BK251.out) hb); have n11_ := Aside0.mk (blk_below (g := gb259) (o := .cells #[.slice Ao36 t252.length co36, .slice Ao41 t255.length co41] 49 (0, 0)) (by (with_reducible repeat (first | refine blk_drewN ?_ _ | refine blk_drew ?_ | refine blk_alloc ?_ _)); refine blk_put (cs := #[.slice Ao36 t252.length co36, .slice none 0 0]) ?_ 1 _ rfl; (with_reducible repeat (first | refine blk_drewN ?_ _ | refine blk_drew ?_ | refine blk_alloc ?_ _)); refine blk_put (cs := #[.slice none 0 0, .slice none 0 0]) ?_ 0 _ rfl; (with_reducible repeat (first | refine blk_drewN ?_ _ | refine blk_drew ?_ | refine blk_alloc ?_ _)); exact BK259.out) hb); have n12_ := Aside0.mk (below_step (by repeat (first | (with_reducible first | exact HB.out | apply below_alloc | apply pw_below_drewN | apply below_drew1 | refine below_set ?_ GE229.out | refine below_set ?_ GE244.out | refine below_set ?_ GE251.out | refine below_set ?_ GE259.out) | exact HB.out)) hb); clear HO233; clear HO236; clear HO239; clear HO242; clear HO247; clear HO250; clear HO254; clear HO257; clear BK229; clear BK244; clear BK251; clear BK259; clear HB; have HO233 := n0_; have HO236 := n1_; have HO239 := n2_; have HO242 := n3_; have HO247 := n4_; have HO250 := n5_; have HO254 := n6_; have HO257 := n7_; have BK229 := n8_; have BK244 := n9_; have BK251 := n10_; have BK259 := n11_; have HB := n12_; clear n0_ n1_ n2_ n3_ n4_ n5_ n6_ n7_ n8_ n9_ n10_ n11_ n12_; (try clear hb); (try clear hb2); (try clear hk); (try clear hi)))
        go_meet
        case rel => exact ⟨_, (true), (by first | rfl | (simp; done) | (simp [*]; done)), H', ⟨by first | omega | exact Nat.le_refl _⟩, ⟨by (with_reducible repeat (first | apply Kd.R_alloc | apply Kd.R_drewN | apply Kd.R_drew)); exact Kd.R_mono HO239.out (fun _ hk => ⟨hk.1.2, hk.2⟩)⟩, ⟨by (with_reducible repeat (first | apply Kd.R_alloc | apply Kd.R_drewN | apply Kd.R_drew)); exact Kd.R_mono HO242.out (fun _ hk => ⟨hk.1.2, hk.2⟩)⟩, ⟨by (with_reducible repeat (first | apply Kd.R_alloc | apply Kd.R_drewN | apply Kd.R_drew)); exact Kd.R_mono HO247.out (fun _ hk => ⟨hk.1.2, hk.2⟩)⟩, ⟨by (with_reducible repeat (first | apply Kd.R_alloc | apply Kd.R_drewN | apply Kd.R_drew)); exact Kd.R_mono HO250.out (fun _ hk => ⟨hk.1.2, hk.2⟩)⟩, ⟨by (with_reducible repeat (first | apply Kd.R_alloc | apply Kd.R_drewN | apply Kd.R_drew)); exact Kd.R_mono HO254.out (fun _ hk => ⟨hk.1.2, hk.2⟩)⟩, ⟨by (with_reducible repeat (first | apply Kd.R_alloc | apply Kd.R_drewN | apply Kd.R_drew)); exact Kd.R_mono HO257.out (fun _ hk => ⟨hk.1.2, hk.2⟩)⟩, ⟨by (with_reducible repeat (first | refine blk_drewN ?_ _ | refine blk_drew ?_ | refine blk_alloc ?_ _)); exact BK229.out⟩, ⟨by (with_reducible repeat (first | refine blk_drewN ?_ _ | refine blk_drew ?_ | refine blk_alloc ?_ _)); exact BK244.out⟩, ⟨by (with_reducible repeat (first | refine blk_drewN ?_ _ | refine blk_drew ?_ | refine blk_alloc ?_ _)); exact BK251.out⟩, ⟨by (with_reducible repeat (first | refine blk_drewN ?_ _ | refine blk_drew ?_ | refine blk_alloc ?_ _)); exact BK259.out⟩, ⟨by repeat (first | (with_reducible first | exact HB.out | apply below_alloc | apply pw_below_drewN | apply below_drew1 | refine below_set ?_ GE229.out | refine below_set ?_ GE244.out | refine below_set ?_ GE251.out | refine below_set ?_ GE259.out) | exact HB.out)⟩⟩
    case rest =>
      clear HC12
      try clear c1
      try clear c2
      try clear p2
      try clear c3
      try clear c4
      try clear c4b0
      try clear c5
      try clear c11
      try clear c23
      try clear c30
      try clear c31
      try clear c32
      try clear c34
      try clear c36
      try clear c37
      try clear c38
      try clear c39
      try clear c43
      try clear c44
      try clear c45
      try clear c46
      try clear c48
      try clear c49
      try clear c52
      try clear c53
      try clear c54
      try clear c56
      try clear c57
      try clear hcz14_0
      try clear hcz14_1
      try clear hcz16_0
      try clear hcz16_1
      try clear hcz24_0
      try clear hcz24_1
      try clear hcz26_0
      try clear hcz26_1
      try clear hcz32_0
      try clear hcz32_1
      try clear hcz40_0
      try clear hcz40_1
      try clear hcz47_0
      try clear hcz47_1
      try clear hcz50_0
      try clear hcz50_1
      try clear hcz55_0
      try clear hcz55_1
      try clear hcz58_0
      try clear hcz58_1
      try clear hcz6_0
      try clear hcz6_1
      try clear hfz14_0
      try clear hfz14_1
      try clear hfz16_0
      try clear hfz16_1
      try clear hfz24_0
      try clear hfz24_1
      try clear hfz26_0
      try clear hfz26_1
      try clear hfz32_0
      try clear hfz32_1
      try clear hfz40_0
      try clear hfz40_1
      try clear hfz47_0
      try clear hfz47_1
      try clear hfz50_0
      try clear hfz50_1
      try clear hfz55_0
      try clear hfz55_1
      try clear hfz58_0
      try clear hfz58_1
      try clear hfz6_0
      try clear hfz6_1
      obtain ⟨kq, x44_11, rfl, HA, HJ11, HO_245000, HO_245001, HO_252000, HO_252001, HO_260000, HO_260001, BK229, BK244, BK251, BK259, HB⟩ := hcut
      cases kq with
      | zero => exact absurd HA.out (by simp [laws_FnExactClear.j0])
      | succ kj11 =>
        have H := HA.out
        clear HA
        simp only [laws_FnExactClear.j0] at H
        by_cases c60 : x44_11 = true
        · subst c60
          have H1 : (some false) = some r := by rw [if_pos rfl] at H; exact H
          clear H
          have H := H1
          clear H1
          exact absurd ((Option.some.inj H).trans hT.out) (by decide)
        · replace c60 := Bool.eq_false_iff.mpr c60
          subst c60
          have H1 : ((laws_toChip.f kj11 l0_0 l0_1).bind fun bt261 => ((laws_eqChip.f kj11 t245 t248 bt261.1 bt261.2).bind fun t267 => (if t267 = true then ((laws_markChip.f kj11 t245 t248 1).bind fun bt268 => (if bt268.1 < 0 then (laws_FnExactClear.j1 kj11 a1 t243 true l0_0 l0_1 t237 t240 t252 t255) else ((laws_eqChip.f kj11 t252 t255 t237 t240).bind fun t271 => (if t271 = true then (laws_FnExactClear.j1 kj11 a1 t243 (t258 != t243) l0_0 l0_1 t237 t240 t252 t255) else (laws_FnExactClear.j1 kj11 a1 t243 true l0_0 l0_1 t237 t240 t252 t255))))) else (some false)))) = some r := by rw [if_neg (show ¬ (false = true) by decide)] at H; exact H
          clear H
          have H := H1
          clear H1
          replace H := Option.bind_eq_some_iff.mp H
          obtain ⟨⟨t261, t264⟩, A610, H⟩ := H
          replace H : ((laws_eqChip.f kj11 t245 t248 t261 t264).bind fun t267 => (if t267 = true then ((laws_markChip.f kj11 t245 t248 1).bind fun bt268 => (if bt268.1 < 0 then (laws_FnExactClear.j1 kj11 a1 t243 true l0_0 l0_1 t237 t240 t252 t255) else ((laws_eqChip.f kj11 t252 t255 t237 t240).bind fun t271 => (if t271 = true then (laws_FnExactClear.j1 kj11 a1 t243 (t258 != t243) l0_0 l0_1 t237 t240 t252 t255) else (laws_FnExactClear.j1 kj11 a1 t243 true l0_0 l0_1 t237 t240 t252 t255))))) else (some false))) = some r := H
          have A61 := Aside0.mk A610
          clear A610
          replace H := Option.bind_eq_some_iff.mp H
          obtain ⟨t267, A620, H⟩ := H
          replace H : (if t267 = true then ((laws_markChip.f kj11 t245 t248 1).bind fun bt268 => (if bt268.1 < 0 then (laws_FnExactClear.j1 kj11 a1 t243 true l0_0 l0_1 t237 t240 t252 t255) else ((laws_eqChip.f kj11 t252 t255 t237 t240).bind fun t271 => (if t271 = true then (laws_FnExactClear.j1 kj11 a1 t243 (t258 != t243) l0_0 l0_1 t237 t240 t252 t255) else (laws_FnExactClear.j1 kj11 a1 t243 true l0_0 l0_1 t237 t240 t252 t255))))) else (some false)) = some r := H
          have A62 := Aside0.mk A620
          clear A620
          by_cases c63 : t267 = true
          · subst c63
            have H1 : ((laws_markChip.f kj11 t245 t248 1).bind fun bt268 => (if bt268.1 < 0 then (laws_FnExactClear.j1 kj11 a1 t243 true l0_0 l0_1 t237 t240 t252 t255) else ((laws_eqChip.f kj11 t252 t255 t237 t240).bind fun t271 => (if t271 = true then (laws_FnExactClear.j1 kj11 a1 t243 (t258 != t243) l0_0 l0_1 t237 t240 t252 t255) else (laws_FnExactClear.j1 kj11 a1 t243 true l0_0 l0_1 t237 t240 t252 t255))))) = some r := by rw [if_pos rfl] at H; exact H
            clear H
            have H := H1
            clear H1
            replace H := Option.bind_eq_some_iff.mp H
            obtain ⟨⟨t268, t269, t270⟩, A640, H⟩ := H
            replace H : (if t268 < 0 then (laws_FnExactClear.j1 kj11 a1 t243 true l0_0 l0_1 t237 t240 t252 t255) else ((laws_eqChip.f kj11 t252 t255 t237 t240).bind fun t271 => (if t271 = true then (laws_FnExactClear.j1 kj11 a1 t243 (t258 != t243) l0_0 l0_1 t237 t240 t252 t255) else (laws_FnExactClear.j1 kj11 a1 t243 true l0_0 l0_1 t237 t240 t252 t255)))) = some r := H
            have A64 := Aside0.mk A640
            clear A640
            have HC65 := Aside0.mk H
            clear H
            try go_wp2
            have n0_ := Aside0.mk (Kd.R_drew HO_245000.out)
            have n1_ := Aside0.mk (Kd.R_drew HO_245001.out)
            have n2_ := Aside0.mk (Kd.R_drew HO_252000.out)
            have n3_ := Aside0.mk (Kd.R_drew HO_252001.out)
            have n4_ := Aside0.mk (Kd.R_drew HO_260000.out)
            have n5_ := Aside0.mk (Kd.R_drew HO_260001.out)
            have n6_ := Aside0.mk (blk_drew BK229.out)
            have n7_ := Aside0.mk (blk_drew BK244.out)
            have n8_ := Aside0.mk (blk_drew BK251.out)
            have n9_ := Aside0.mk (blk_drew BK259.out)
            have n10_ := Aside0.mk (below_drew1 HB.out)
            clear HO_245000
            clear HO_245001
            clear HO_252000
            clear HO_252001
            clear HO_260000
            clear HO_260001
            clear BK229
            clear BK244
            clear BK251
            clear BK259
            clear HB
            have HO_245000 := n0_
            have HO_245001 := n1_
            have HO_252000 := n2_
            have HO_252001 := n3_
            have HO_260000 := n4_
            have HO_260001 := n5_
            have BK229 := n6_
            have BK244 := n7_
            have BK251 := n8_
            have BK259 := n9_
            have HB := n10_
            clear n0_ n1_ n2_ n3_ n4_ n5_ n6_ n7_ n8_ n9_ n10_
            refine start_ (n := 5) (S := fun w' => w'.cell? ⟨gb251, 0, none⟩ = some (.slice Ao29 t245.length co29) ∧ w'.cell? ⟨gb251, 1, none⟩ = some (.slice Ao33 t248.length co33) ∧ w'.cell? ⟨gb229, 0, none⟩ = some (.slice A0_0 l0_0.length c0_0) ∧ w'.cell? ⟨gb229, 1, none⟩ = some (.slice A0_1 l0_1.length c0_1)) (ds := []) #[false, false, false, false, false] (by kernel_rfl) rfl rfl ⟨(blk_cell BK251.out 0).trans rfl, (blk_cell BK251.out 1).trans rfl, (blk_cell BK229.out 0).trans rfl, (blk_cell BK229.out 1).trans rfl⟩ (fun hHeld => ?_)
            generalize wc.drew = w66 at HO_245000 HO_245001 HO_252000 HO_252001 HO_260000 HO_260001 BK229 BK244 BK251 BK259 HB hHeld ⊢
            refine take_ (i := 0) (N := some 45) (v := ?_) (a' := ?_) #[true, false, false, false, false] rfl rfl (by kernel_rfl) (fun _ _ _ h => h) (Or.inl ⟨by rfl, ?_⟩) hHeld ?_ ?_
            rotate_left
            · rintro w' ⟨s0, s1, s2, s3⟩
              go_simp
              with_reducible rfl
            rotate_left
            · simp only [Act.put, List.setIfInBounds_toArray, List.set_cons_zero, List.set_cons_succ, i64_w, i32_w]
              rfl
            refine take_ (i := 1) (N := some 46) (v := ?_) (a' := ?_) #[true, true, false, false, false] rfl rfl (by kernel_rfl) (fun _ _ _ h => h) (Or.inl ⟨by rfl, ?_⟩) hHeld ?_ ?_
            rotate_left
            · rintro w' ⟨s0, s1, s2, s3⟩
              go_simp
              with_reducible rfl
            rotate_left
            · simp only [Act.put, List.setIfInBounds_toArray, List.set_cons_zero, List.set_cons_succ, i64_w, i32_w]
              rfl
            refine one_ (i := 2) (N := some 47) #[true, true, true, false, false] rfl rfl (by kernel_rfl) (by decide) (fun K hK => ?_)
            refine goes_ Try.func34 (by kernel_rfl) rfl #[.agg #[.slice A0_0 l0_0.length c0_0, .slice A0_1 l0_1.length c0_1]] (by rfl) rfl rfl (by (try simp only [List.map_toArray, List.map_cons, List.map_nil]); first | done | rfl | (simp only [List.length_drop, List.length_take]; rfl)) ?_
            with_reducible refine (laws_toChip.calls kj11 _ _ l0_0 _ _ l0_1 t261 t264 _ ?side1 ?side2 ?side3 ?side4 A61.out).mono ?_
            (case side1 => repeat (first | exact (Kd.C_below HR0_0.out HB.out) | (with_reducible refine Kd.C_alloc ?_ _) | (with_reducible refine Kd.C_drewN ?_ _) | (with_reducible refine Kd.C_drew ?_)))
            (case side2 => exact HC0_0.out)
            (case side3 => repeat (first | exact (Kd.C_below HR0_1.out HB.out) | (with_reducible refine Kd.C_alloc ?_ _) | (with_reducible refine Kd.C_drewN ?_ _) | (with_reducible refine Kd.C_drew ?_)))
            (case side4 => exact HC0_1.out)
            rintro e w67 ⟨v262, v265, rfl, ho0, ho1, hb⟩
            refine ⟨_, rfl, ?_⟩
            have n0_ := Aside0.mk (Kd.R_elder' (by (with_reducible repeat (first | apply Kd.R_alloc | apply Kd.R_drewN | apply Kd.R_drew)); exact HO_245000.out) (Kd.R_base ho0) hb)
            have n1_ := Aside0.mk (Kd.R_elder' (by (with_reducible repeat (first | apply Kd.R_alloc | apply Kd.R_drewN | apply Kd.R_drew)); exact HO_245001.out) (Kd.R_base ho1) hb)
            have n2_ := Aside0.mk (Kd.R_elder' (by (with_reducible repeat (first | apply Kd.R_alloc | apply Kd.R_drewN | apply Kd.R_drew)); exact HO_252000.out) (Kd.R_base ho0) hb)
            have n3_ := Aside0.mk (Kd.R_elder' (by (with_reducible repeat (first | apply Kd.R_alloc | apply Kd.R_drewN | apply Kd.R_drew)); exact HO_252001.out) (Kd.R_base ho1) hb)
            have n4_ := Aside0.mk (Kd.R_elder' (by (with_reducible repeat (first | apply Kd.R_alloc | apply Kd.R_drewN | apply Kd.R_drew)); exact HO_260000.out) (Kd.R_base ho0) hb)
            have n5_ := Aside0.mk (Kd.R_elder' (by (with_reducible repeat (first | apply Kd.R_alloc | apply Kd.R_drewN | apply Kd.R_drew)); exact HO_260001.out) (Kd.R_base ho1) hb)
            have n6_ := Aside0.mk (Kd.R_lower (Kd.R_new' (Kd.R_new' (Kd.R_new' ho0 (Kd.R_lt (by (with_reducible repeat (first | apply Kd.R_alloc | apply Kd.R_drewN | apply Kd.R_drew)); exact HO_245000.out))) (Kd.R_lt (by (with_reducible repeat (first | apply Kd.R_alloc | apply Kd.R_drewN | apply Kd.R_drew)); exact HO_252000.out))) (Kd.R_lt (by (with_reducible repeat (first | apply Kd.R_alloc | apply Kd.R_drewN | apply Kd.R_drew)); exact HO_260000.out))) (below_size (by repeat (first | (with_reducible first | exact HB.out | apply below_alloc | apply pw_below_drewN | apply below_drew1 | refine below_set ?_ GE229.out | refine below_set ?_ GE244.out | refine below_set ?_ GE251.out | refine below_set ?_ GE259.out) | exact HB.out))))
            have n7_ := Aside0.mk (Kd.R_lower (Kd.R_new' (Kd.R_new' (Kd.R_new' ho1 (Kd.R_lt (by (with_reducible repeat (first | apply Kd.R_alloc | apply Kd.R_drewN | apply Kd.R_drew)); exact HO_245001.out))) (Kd.R_lt (by (with_reducible repeat (first | apply Kd.R_alloc | apply Kd.R_drewN | apply Kd.R_drew)); exact HO_252001.out))) (Kd.R_lt (by (with_reducible repeat (first | apply Kd.R_alloc | apply Kd.R_drewN | apply Kd.R_drew)); exact HO_260001.out))) (below_size (by repeat (first | (with_reducible first | exact HB.out | apply below_alloc | apply pw_below_drewN | apply below_drew1 | refine below_set ?_ GE229.out | refine below_set ?_ GE244.out | refine below_set ?_ GE251.out | refine below_set ?_ GE259.out) | exact HB.out))))
            have n8_ := Aside0.mk (blk_below (g := gb229) (o := .cells #[.slice A0_0 l0_0.length c0_0, .slice A0_1 l0_1.length c0_1] 46 (0, 0)) (by (with_reducible repeat (first | refine blk_drewN ?_ _ | refine blk_drew ?_ | refine blk_alloc ?_ _)); exact BK229.out) hb)
            have n9_ := Aside0.mk (blk_below (g := gb244) (o := .cells #[.slice Ao22 t237.length co22, .slice Ao25 t240.length co25] 49 (0, 0)) (by (with_reducible repeat (first | refine blk_drewN ?_ _ | refine blk_drew ?_ | refine blk_alloc ?_ _)); exact BK244.out) hb)
            have n10_ := Aside0.mk (blk_below (g := gb251) (o := .cells #[.slice Ao29 t245.length co29, .slice Ao33 t248.length co33] 49 (0, 0)) (by (with_reducible repeat (first | refine blk_drewN ?_ _ | refine blk_drew ?_ | refine blk_alloc ?_ _)); exact BK251.out) hb)
            have n11_ := Aside0.mk (blk_below (g := gb259) (o := .cells #[.slice Ao36 t252.length co36, .slice Ao41 t255.length co41] 49 (0, 0)) (by (with_reducible repeat (first | refine blk_drewN ?_ _ | refine blk_drew ?_ | refine blk_alloc ?_ _)); exact BK259.out) hb)
            have n12_ := Aside0.mk (below_step (by repeat (first | (with_reducible first | exact HB.out | apply below_alloc | apply pw_below_drewN | apply below_drew1 | refine below_set ?_ GE229.out | refine below_set ?_ GE244.out | refine below_set ?_ GE251.out | refine below_set ?_ GE259.out) | exact HB.out)) hb)
            clear HO_245000
            clear HO_245001
            clear HO_252000
            clear HO_252001
            clear HO_260000
            clear HO_260001
            clear BK229
            clear BK244
            clear BK251
            clear BK259
            clear HB
            have HO_245000 := n0_
            have HO_245001 := n1_
            have HO_252000 := n2_
            have HO_252001 := n3_
            have HO_260000 := n4_
            have HO_260001 := n5_
            have HO263 := n6_
            have HO266 := n7_
            have BK229 := n8_
            have BK244 := n9_
            have BK251 := n10_
            have BK259 := n11_
            have HB := n12_
            clear n0_ n1_ n2_ n3_ n4_ n5_ n6_ n7_ n8_ n9_ n10_ n11_ n12_
            (try clear hb)
            (try clear hb2)
            (try clear hk)
            (try clear hi)
            (try clear ho0)
            (try clear ho1)
            obtain ⟨Ao68, co68, eo68⟩ := Kd.R_slice HO263.out
            (first | subst eo68 | (injection eo68 with f1_ f2_ f3_; have f4_ := f1_.symm; have f5_ := f3_.symm; clear f1_ f2_ f3_; subst f4_; subst f5_))
            obtain ⟨Ao69, co69, eo69⟩ := Kd.R_slice HO266.out
            (first | subst eo69 | (injection eo69 with f1_ f2_ f3_; have f4_ := f1_.symm; have f5_ := f3_.symm; clear f1_ f2_ f3_; subst f4_; subst f5_))
            refine hK.out _ _ ⟨(blk_cell BK251.out 0).trans rfl, (blk_cell BK251.out 1).trans rfl, (blk_cell BK229.out 0).trans rfl, (blk_cell BK229.out 1).trans rfl⟩ (fun hHeld => ?_)
            clear hK K
            refine norm_ (a' := ?_) ?_ ?_
            rotate_left
            · show Act.put _ (some 47) _ = _
              simp only [Act.put, List.setIfInBounds_toArray, List.set_cons_zero, List.set_cons_succ, i64_w, i32_w]
              rfl
            refine one_ (i := 3) (N := some 48) #[true, true, true, true, false] rfl rfl (by kernel_rfl) (by decide) (fun K hK => ?_)
            refine goes_ Try.func36 (by kernel_rfl) rfl #[.agg #[.slice Ao29 t245.length co29, .slice Ao33 t248.length co33], .agg #[.slice Ao68 t261.length co68, .slice Ao69 t264.length co69]] (by rfl) rfl rfl (by (try simp only [List.map_toArray, List.map_cons, List.map_nil]); first | done | rfl | (simp only [List.length_drop, List.length_take]; rfl)) ?_
            with_reducible refine (laws_eqChip.calls kj11 _ _ t245 _ _ t248 _ _ t261 _ _ t264 true _ ?side1 ?side2 ?side3 ?side4 ?side5 ?side6 ?side7 ?side8 A62.out).mono ?_
            (case side1 => repeat (first | exact (Kd.R_reads' HO_252000.out).2.2 | (with_reducible refine Kd.C_alloc ?_ _) | (with_reducible refine Kd.C_drewN ?_ _) | (with_reducible refine Kd.C_drew ?_)))
            (case side2 => exact (Kd.R_reads' HO_252000.out).2.1)
            (case side3 => repeat (first | exact (Kd.R_reads' HO_252001.out).2.2 | (with_reducible refine Kd.C_alloc ?_ _) | (with_reducible refine Kd.C_drewN ?_ _) | (with_reducible refine Kd.C_drew ?_)))
            (case side4 => exact (Kd.R_reads' HO_252001.out).2.1)
            (case side5 => repeat (first | exact (Kd.R_reads' HO263.out).2.2 | (with_reducible refine Kd.C_alloc ?_ _) | (with_reducible refine Kd.C_drewN ?_ _) | (with_reducible refine Kd.C_drew ?_)))
            (case side6 => exact (Kd.R_reads' HO263.out).2.1)
            (case side7 => repeat (first | exact (Kd.R_reads' HO266.out).2.2 | (with_reducible refine Kd.C_alloc ?_ _) | (with_reducible refine Kd.C_drewN ?_ _) | (with_reducible refine Kd.C_drew ?_)))
            (case side8 => exact (Kd.R_reads' HO266.out).2.1)
            rintro e w70 ⟨rfl, hb⟩
            refine ⟨_, rfl, ?_⟩
            have n0_ := Aside0.mk (Kd.R_below (by (with_reducible repeat (first | apply Kd.R_alloc | apply Kd.R_drewN | apply Kd.R_drew)); exact HO_245000.out) hb)
            have n1_ := Aside0.mk (Kd.R_below (by (with_reducible repeat (first | apply Kd.R_alloc | apply Kd.R_drewN | apply Kd.R_drew)); exact HO_245001.out) hb)
            have n2_ := Aside0.mk (Kd.R_below (by (with_reducible repeat (first | apply Kd.R_alloc | apply Kd.R_drewN | apply Kd.R_drew)); exact HO_252000.out) hb)
            have n3_ := Aside0.mk (Kd.R_below (by (with_reducible repeat (first | apply Kd.R_alloc | apply Kd.R_drewN | apply Kd.R_drew)); exact HO_252001.out) hb)
            have n4_ := Aside0.mk (Kd.R_below (by (with_reducible repeat (first | apply Kd.R_alloc | apply Kd.R_drewN | apply Kd.R_drew)); exact HO_260000.out) hb)
            have n5_ := Aside0.mk (Kd.R_below (by (with_reducible repeat (first | apply Kd.R_alloc | apply Kd.R_drewN | apply Kd.R_drew)); exact HO_260001.out) hb)
            have n6_ := Aside0.mk (Kd.R_below (by (with_reducible repeat (first | apply Kd.R_alloc | apply Kd.R_drewN | apply Kd.R_drew)); exact HO263.out) hb)
            have n7_ := Aside0.mk (Kd.R_below (by (with_reducible repeat (first | apply Kd.R_alloc | apply Kd.R_drewN | apply Kd.R_drew)); exact HO266.out) hb)
            have n8_ := Aside0.mk (blk_below (g := gb229) (o := .cells #[.slice A0_0 l0_0.length c0_0, .slice A0_1 l0_1.length c0_1] 46 (0, 0)) (by (with_reducible repeat (first | refine blk_drewN ?_ _ | refine blk_drew ?_ | refine blk_alloc ?_ _)); exact BK229.out) hb)
            have n9_ := Aside0.mk (blk_below (g := gb244) (o := .cells #[.slice Ao22 t237.length co22, .slice Ao25 t240.length co25] 49 (0, 0)) (by (with_reducible repeat (first | refine blk_drewN ?_ _ | refine blk_drew ?_ | refine blk_alloc ?_ _)); exact BK244.out) hb)
            have n10_ := Aside0.mk (blk_below (g := gb251) (o := .cells #[.slice Ao29 t245.length co29, .slice Ao33 t248.length co33] 49 (0, 0)) (by (with_reducible repeat (first | refine blk_drewN ?_ _ | refine blk_drew ?_ | refine blk_alloc ?_ _)); exact BK251.out) hb)
            have n11_ := Aside0.mk (blk_below (g := gb259) (o := .cells #[.slice Ao36 t252.length co36, .slice Ao41 t255.length co41] 49 (0, 0)) (by (with_reducible repeat (first | refine blk_drewN ?_ _ | refine blk_drew ?_ | refine blk_alloc ?_ _)); exact BK259.out) hb)
            have n12_ := Aside0.mk (below_step (by repeat (first | (with_reducible first | exact HB.out | apply below_alloc | apply pw_below_drewN | apply below_drew1 | refine below_set ?_ GE229.out | refine below_set ?_ GE244.out | refine below_set ?_ GE251.out | refine below_set ?_ GE259.out) | exact HB.out)) hb)
            clear HO_245000
            clear HO_245001
            clear HO_252000
            clear HO_252001
            clear HO_260000
            clear HO_260001
            clear HO263
            clear HO266
            clear BK229
            clear BK244
            clear BK251
            clear BK259
            clear HB
            have HO_245000 := n0_
            have HO_245001 := n1_
            have HO_252000 := n2_
            have HO_252001 := n3_
            have HO_260000 := n4_
            have HO_260001 := n5_
            have HO263 := n6_
            have HO266 := n7_
            have BK229 := n8_
            have BK244 := n9_
            have BK251 := n10_
            have BK259 := n11_
            have HB := n12_
            clear n0_ n1_ n2_ n3_ n4_ n5_ n6_ n7_ n8_ n9_ n10_ n11_ n12_
            (try clear hb)
            (try clear hb2)
            (try clear hk)
            (try clear hi)
            refine hK.out _ _ ⟨(blk_cell BK251.out 0).trans rfl, (blk_cell BK251.out 1).trans rfl, (blk_cell BK229.out 0).trans rfl, (blk_cell BK229.out 1).trans rfl⟩ (fun hHeld => ?_)
            clear hK K
            refine norm_ (a' := ?_) ?_ ?_
            rotate_left
            · show Act.put _ (some 48) _ = _
              simp only [Act.put, List.setIfInBounds_toArray, List.set_cons_zero, List.set_cons_succ, i64_w, i32_w]
              rfl
            refine pure_ (i := 4) (N := some 49) (v := ?_) (a' := ?_) #[true, true, true, true, true] rfl rfl (by kernel_rfl) (fun _ _ _ h => h) (Or.inl ⟨by rfl, ?_⟩) ?_ ?_
            rotate_left
            · intro w'
              go_simp
              with_reducible rfl
            rotate_left
            · simp only [Act.put, List.setIfInBounds_toArray, List.set_cons_zero, List.set_cons_succ, i64_w, i32_w]
              rfl
            refine done_ (by kernel_rfl) ?_
            have hnb71 := NB251_229.out
            have hnc71 := NB229_251.out
            have hnb72 := NB251_244.out
            have hnc72 := NB244_251.out
            have hnb73 := NB251_259.out
            have hnc73 := NB259_251.out
            have hcz74_0 : w70.cell? ⟨gb251, 0, none⟩ = some (.slice Ao29 t245.length co29) := (blk_cell BK251.out 0).trans rfl
            have hcz74_1 : w70.cell? ⟨gb251, 1, none⟩ = some (.slice Ao33 t248.length co33) := (blk_cell BK251.out 1).trans rfl
            have hfz74_0 := blk_frozen BK251.out 0
            have hfz74_1 := blk_frozen BK251.out 1
            go_upto_region 14 with (first | ((with_reducible refine gate_callee (f := 42) rfl ?_); refine goesL_ (some 52) rfl rfl Try.func42 (by kernel_rfl) rfl #[.agg #[.slice Ao29 t245.length co29, .slice Ao33 t248.length co33], .int .i64 1] rfl (by (try simp only [List.map_toArray, List.map_cons, List.map_nil]); first | done | rfl | (simp only [List.length_drop, List.length_take]; rfl)) ?_; (with_reducible refine (laws_markChip.calls kj11 (fun k_ => some k_ = (.slice Ao29 t245.length co29 : Value).ownBlock) (.slice Ao29 t245.length co29) t245 (fun k_ => some k_ = (.slice Ao33 t248.length co33 : Value).ownBlock) (.slice Ao33 t248.length co33) t248 1 t268 t269 t270 w _ ?side1 ?side2 ?side3 A64.out).mono ?_); (case side1 => repeat (first | (with_reducible first | exact HB.out | apply below_alloc | apply pw_below_drewN | apply below_drew1 | refine below_set ?_ GE229.out | refine below_set ?_ GE244.out | refine below_set ?_ GE251.out | refine below_set ?_ GE259.out) | exact HB.out)); (case side2 => exact Kd.R_tight rfl HO_252000.out); (case side3 => exact Kd.R_tight rfl HO_252001.out); rintro e w75 ⟨rfl, hy0, hy1, hb, hkp⟩; refine ⟨_, rfl, ?_⟩; have n0_ := Aside0.mk (Kd.R_mono (ok' := fun k_ => some k_ ≠ (.slice Ao29 t245.length co29 : Value).ownBlock ∧ some k_ ≠ (.slice Ao36 t252.length co36 : Value).ownBlock ∧ some k_ ≠ (.slice Ao68 t261.length co68 : Value).ownBlock) (Kd.R_keptB ((Kd.R_apart' HO_245000.out (Kd.R_typed HO_252001.out) (by decide))) hkp (fun k_ hk_ hs_ => Or.elim hs_ (fun e_ => (hk_.1.1.1) e_) (fun e_ => (hk_.2) e_))) (fun k_ hk_ => ⟨hk_.1.1.1.1, hk_.1.1.1.2, hk_.1.1.2⟩)); have n1_ := Aside0.mk (Kd.R_mono (ok' := fun k_ => some k_ ≠ (.slice Ao33 t248.length co33 : Value).ownBlock ∧ some k_ ≠ (.slice Ao41 t255.length co41 : Value).ownBlock ∧ some k_ ≠ (.slice Ao69 t264.length co69 : Value).ownBlock) (Kd.R_keptB ((Kd.R_apart' HO_245001.out (Kd.R_typed HO_252000.out) (by decide))) hkp (fun k_ hk_ hs_ => Or.elim hs_ (fun e_ => (hk_.2) e_) (fun e_ => (hk_.1.1.1) e_))) (fun k_ hk_ => ⟨hk_.1.1.1.1, hk_.1.1.1.2, hk_.1.1.2⟩)); have n2_ := Aside0.mk (Kd.R_reok rfl hy0 (fun k_ e_ => HO_252000.out.1 k_ e_)); have n3_ := Aside0.mk (Kd.R_reok rfl hy1 (fun k_ e_ => HO_252001.out.1 k_ e_)); have n4_ := Aside0.mk (Kd.R_mono (ok' := fun k_ => some k_ ≠ (.slice Ao22 t237.length co22 : Value).ownBlock ∧ some k_ ≠ (.slice Ao29 t245.length co29 : Value).ownBlock ∧ some k_ ≠ (.slice Ao68 t261.length co68 : Value).ownBlock) (Kd.R_keptB ((Kd.R_apart' HO_260000.out (Kd.R_typed HO_252001.out) (by decide))) hkp (fun k_ hk_ hs_ => Or.elim hs_ (fun e_ => (hk_.1.1.2) e_) (fun e_ => (hk_.2) e_))) (fun k_ hk_ => ⟨hk_.1.1.1.1, hk_.1.1.1.2, hk_.1.1.2⟩)); have n5_ := Aside0.mk (Kd.R_mono (ok' := fun k_ => some k_ ≠ (.slice Ao25 t240.length co25 : Value).ownBlock ∧ some k_ ≠ (.slice Ao33 t248.length co33 : Value).ownBlock ∧ some k_ ≠ (.slice Ao69 t264.length co69 : Value).ownBlock) (Kd.R_keptB ((Kd.R_apart' HO_260001.out (Kd.R_typed HO_252000.out) (by decide))) hkp (fun k_ hk_ hs_ => Or.elim hs_ (fun e_ => (hk_.2) e_) (fun e_ => (hk_.1.1.2) e_))) (fun k_ hk_ => ⟨hk_.1.1.1.1, hk_.1.1.1.2, hk_.1.1.2⟩)); have n6_ := Aside0.mk (blk_kept (by (with_reducible repeat (first | refine blk_drewN ?_ _ | refine blk_drew ?_ | refine blk_alloc ?_ _)); exact BK229.out) hkp (fun hs_ => Or.elim hs_ (fun e_ => (fun e_ => (Kd.R_ne HO_252000.out BK229.out (by decide)) e_) e_) (fun e_ => (fun e_ => (Kd.R_ne HO_252001.out BK229.out (by decide)) e_) e_))); have n7_ := Aside0.mk (blk_kept (by (with_reducible repeat (first | refine blk_drewN ?_ _ | refine blk_drew ?_ | refine blk_alloc ?_ _)); exact BK244.out) hkp (fun hs_ => Or.elim hs_ (fun e_ => (fun e_ => (Kd.R_ne HO_252000.out BK244.out (by decide)) e_) e_) (fun e_ => (fun e_ => (Kd.R_ne HO_252001.out BK244.out (by decide)) e_) e_))); have n8_ := Aside0.mk (blk_kept (by (with_reducible repeat (first | refine blk_drewN ?_ _ | refine blk_drew ?_ | refine blk_alloc ?_ _)); exact BK251.out) hkp (fun hs_ => Or.elim hs_ (fun e_ => (fun e_ => (Kd.R_ne HO_252000.out BK251.out (by decide)) e_) e_) (fun e_ => (fun e_ => (Kd.R_ne HO_252001.out BK251.out (by decide)) e_) e_))); have n9_ := Aside0.mk (blk_kept (by (with_reducible repeat (first | refine blk_drewN ?_ _ | refine blk_drew ?_ | refine blk_alloc ?_ _)); exact BK259.out) hkp (fun hs_ => Or.elim hs_ (fun e_ => (fun e_ => (Kd.R_ne HO_252000.out BK259.out (by decide)) e_) e_) (fun e_ => (fun e_ => (Kd.R_ne HO_252001.out BK259.out (by decide)) e_) e_))); have n10_ := Aside0.mk (Kd.R_mono (ok' := fun k_ => some k_ ≠ (.slice Ao22 t237.length co22 : Value).ownBlock ∧ some k_ ≠ (.slice Ao29 t245.length co29 : Value).ownBlock ∧ some k_ ≠ (.slice Ao36 t252.length co36 : Value).ownBlock) (Kd.R_keptB ((Kd.R_apart' HO263.out (Kd.R_typed HO_252001.out) (by decide))) hkp (fun k_ hk_ hs_ => Or.elim hs_ (fun e_ => (hk_.1.1.2) e_) (fun e_ => (hk_.2) e_))) (fun k_ hk_ => ⟨hk_.1.1.1.1.2, hk_.1.1.1.2, hk_.1.1.2⟩)); have n11_ := Aside0.mk (Kd.R_mono (ok' := fun k_ => some k_ ≠ (.slice Ao25 t240.length co25 : Value).ownBlock ∧ some k_ ≠ (.slice Ao33 t248.length co33 : Value).ownBlock ∧ some k_ ≠ (.slice Ao41 t255.length co41 : Value).ownBlock) (Kd.R_keptB ((Kd.R_apart' HO266.out (Kd.R_typed HO_252000.out) (by decide))) hkp (fun k_ hk_ hs_ => Or.elim hs_ (fun e_ => (hk_.2) e_) (fun e_ => (hk_.1.1.2) e_))) (fun k_ hk_ => ⟨hk_.1.1.1.1.2, hk_.1.1.1.2, hk_.1.1.2⟩)); have n12_ := Aside0.mk (hb); clear HO_245000; clear HO_245001; clear HO_252000; clear HO_252001; clear HO_260000; clear HO_260001; clear BK229; clear BK244; clear BK251; clear BK259; clear HO263; clear HO266; clear HB; have HO_245000 := n0_; have HO_245001 := n1_; have HO_252000 := n2_; have HO_252001 := n3_; have HO_260000 := n4_; have HO_260001 := n5_; have BK229 := n6_; have BK244 := n7_; have BK251 := n8_; have BK259 := n9_; have HO263 := n10_; have HO266 := n11_; have HB := n12_; clear n0_ n1_ n2_ n3_ n4_ n5_ n6_ n7_ n8_ n9_ n10_ n11_ n12_; (try clear hb); (try clear hkp); (try clear hy0); (try clear hy1)))
            (try simp only [Act.put, List.setIfInBounds_toArray, List.set_cons_zero, List.set_cons_succ])
            go_cut [65] (fun v65 wc => ∃ (kq : Nat) (x65_64 : Bool), v65 = .bool x65_64 ∧ Aside0 (laws_FnExactClear.j1 kq a1 t243 x65_64 l0_0 l0_1 t237 t240 t252 t255 = some r) ∧ Aside0 (kq ≤ kj11) ∧ Aside0 (Kd.R Kd.string 9 wc w.heap.size (fun k_ => some k_ ≠ ((.slice Ao29 t245.length co29) : Value).ownBlock ∧ some k_ ≠ ((.slice Ao36 t252.length co36) : Value).ownBlock) (.slice Ao22 t237.length co22) t237) ∧ Aside0 (Kd.R (Kd.int .i64) 3 wc w.heap.size (fun k_ => some k_ ≠ ((.slice Ao33 t248.length co33) : Value).ownBlock ∧ some k_ ≠ ((.slice Ao41 t255.length co41) : Value).ownBlock) (.slice Ao25 t240.length co25) t240) ∧ Aside0 (Kd.R Kd.string 9 wc w.heap.size (fun k_ => some k_ ≠ ((.slice Ao22 t237.length co22) : Value).ownBlock ∧ some k_ ≠ ((.slice Ao36 t252.length co36) : Value).ownBlock) (.slice Ao29 t245.length co29) t269) ∧ Aside0 (Kd.R (Kd.int .i64) 3 wc w.heap.size (fun k_ => some k_ ≠ ((.slice Ao25 t240.length co25) : Value).ownBlock ∧ some k_ ≠ ((.slice Ao41 t255.length co41) : Value).ownBlock) (.slice Ao33 t248.length co33) t270) ∧ Aside0 (Kd.R Kd.string 9 wc w.heap.size (fun k_ => some k_ ≠ ((.slice Ao22 t237.length co22) : Value).ownBlock ∧ some k_ ≠ ((.slice Ao29 t245.length co29) : Value).ownBlock) (.slice Ao36 t252.length co36) t252) ∧ Aside0 (Kd.R (Kd.int .i64) 3 wc w.heap.size (fun k_ => some k_ ≠ ((.slice Ao25 t240.length co25) : Value).ownBlock ∧ some k_ ≠ ((.slice Ao33 t248.length co33) : Value).ownBlock) (.slice Ao41 t255.length co41) t255) ∧ Aside0 (wc.heap[gb229]? = some (.cells #[(.slice A0_0 l0_0.length c0_0), (.slice A0_1 l0_1.length c0_1)] 46 (0, 0))) ∧ Aside0 (wc.heap[gb244]? = some (.cells #[(.slice Ao22 t237.length co22), (.slice Ao25 t240.length co25)] 49 (0, 0))) ∧ Aside0 (wc.heap[gb251]? = some (.cells #[(.slice Ao29 t245.length co29), (.slice Ao33 t248.length co33)] 49 (0, 0))) ∧ Aside0 (wc.heap[gb259]? = some (.cells #[(.slice Ao36 t252.length co36), (.slice Ao41 t255.length co41)] 49 (0, 0))) ∧ Aside0 (Below w.heap.size w wc))
            case first =>
              have H := HC65.out
              clear HC65
              by_cases c76 : t268 < 0
              · rw [if_pos c76] at H
                have c76b0 : decide (t268 < 0) = true := decide_eq_true c76
                clear c76
                (first | rw [c76b0] | (simp only [i64_w, i32_w]; rw [c76b0]) | skip)
                have H' := Aside0.mk H
                clear H
                go_wp2
                go_meet
                case rel => exact ⟨_, (true), (by first | rfl | (simp; done) | (simp [*]; done)), H', ⟨by have := HJ11.out; first | omega | exact Nat.le_refl _⟩, ⟨by (with_reducible repeat (first | apply Kd.R_alloc | apply Kd.R_drewN | apply Kd.R_drew)); exact Kd.R_mono HO_245000.out (fun _ hk => ⟨hk.1, hk.2.1⟩)⟩, ⟨by (with_reducible repeat (first | apply Kd.R_alloc | apply Kd.R_drewN | apply Kd.R_drew)); exact Kd.R_mono HO_245001.out (fun _ hk => ⟨hk.1, hk.2.1⟩)⟩, ⟨by (with_reducible repeat (first | apply Kd.R_alloc | apply Kd.R_drewN | apply Kd.R_drew)); exact Kd.R_mono HO_252000.out (fun _ hk => ⟨hk.1.1, hk.1.2⟩)⟩, ⟨by (with_reducible repeat (first | apply Kd.R_alloc | apply Kd.R_drewN | apply Kd.R_drew)); exact Kd.R_mono HO_252001.out (fun _ hk => ⟨hk.1.1, hk.1.2⟩)⟩, ⟨by (with_reducible repeat (first | apply Kd.R_alloc | apply Kd.R_drewN | apply Kd.R_drew)); exact Kd.R_mono HO_260000.out (fun _ hk => ⟨hk.1, hk.2.1⟩)⟩, ⟨by (with_reducible repeat (first | apply Kd.R_alloc | apply Kd.R_drewN | apply Kd.R_drew)); exact Kd.R_mono HO_260001.out (fun _ hk => ⟨hk.1, hk.2.1⟩)⟩, ⟨by (with_reducible repeat (first | refine blk_drewN ?_ _ | refine blk_drew ?_ | refine blk_alloc ?_ _)); exact BK229.out⟩, ⟨by (with_reducible repeat (first | refine blk_drewN ?_ _ | refine blk_drew ?_ | refine blk_alloc ?_ _)); exact BK244.out⟩, ⟨by (with_reducible repeat (first | refine blk_drewN ?_ _ | refine blk_drew ?_ | refine blk_alloc ?_ _)); exact BK251.out⟩, ⟨by (with_reducible repeat (first | refine blk_drewN ?_ _ | refine blk_drew ?_ | refine blk_alloc ?_ _)); exact BK259.out⟩, ⟨by repeat (first | (with_reducible first | exact HB.out | apply below_alloc | apply pw_below_drewN | apply below_drew1 | refine below_set ?_ GE229.out | refine below_set ?_ GE244.out | refine below_set ?_ GE251.out | refine below_set ?_ GE259.out) | exact HB.out)⟩⟩
              · rw [if_neg c76] at H
                have c76b0 : decide (t268 < 0) = false := decide_eq_false c76
                clear c76
                (first | rw [c76b0] | (simp only [i64_w, i32_w]; rw [c76b0]) | skip)
                replace H := Option.bind_eq_some_iff.mp H
                obtain ⟨t271, A770, H⟩ := H
                replace H : (if t271 = true then (laws_FnExactClear.j1 kj11 a1 t243 (t258 != t243) l0_0 l0_1 t237 t240 t252 t255) else (laws_FnExactClear.j1 kj11 a1 t243 true l0_0 l0_1 t237 t240 t252 t255)) = some r := H
                have A77 := Aside0.mk A770
                clear A770
                by_cases c78 : t271 = true
                · subst c78
                  have H1 : (laws_FnExactClear.j1 kj11 a1 t243 (t258 != t243) l0_0 l0_1 t237 t240 t252 t255) = some r := by rw [if_pos rfl] at H; exact H
                  clear H
                  have H := H1
                  clear H1
                  have H' := Aside0.mk H
                  clear H
                  have hnb79 := NB259_229.out
                  have hnc79 := NB229_259.out
                  have hnb80 := NB259_244.out
                  have hnc80 := NB244_259.out
                  have hnb81 := NB259_251.out
                  have hnc81 := NB251_259.out
                  have hcz82_0 : w75.cell? ⟨gb259, 0, none⟩ = some (.slice Ao36 t252.length co36) := (blk_cell BK259.out 0).trans rfl
                  have hcz82_1 : w75.cell? ⟨gb259, 1, none⟩ = some (.slice Ao41 t255.length co41) := (blk_cell BK259.out 1).trans rfl
                  have hfz82_0 := blk_frozen BK259.out 0
                  have hfz82_1 := blk_frozen BK259.out 1
                  have hnb83 := NB244_229.out
                  have hnc83 := NB229_244.out
                  have hnb84 := NB244_251.out
                  have hnc84 := NB251_244.out
                  have hcz85_0 : w75.cell? ⟨gb244, 0, none⟩ = some (.slice Ao22 t237.length co22) := (blk_cell BK244.out 0).trans rfl
                  have hcz85_1 : w75.cell? ⟨gb244, 1, none⟩ = some (.slice Ao25 t240.length co25) := (blk_cell BK244.out 1).trans rfl
                  have hfz85_0 := blk_frozen BK244.out 0
                  have hfz85_1 := blk_frozen BK244.out 1
                  go_wp2_with (first | (go_at_call 36; (with_reducible refine (laws_eqChip.calls kj11 _ _ t252 _ _ t255 _ _ t237 _ _ t240 true _ ?side1 ?side2 ?side3 ?side4 ?side5 ?side6 ?side7 ?side8 A77.out).mono ?_); (case side1 => repeat (first | exact (Kd.R_reads' HO_260000.out).2.2 | (with_reducible refine Kd.C_alloc ?_ _) | (with_reducible refine Kd.C_drewN ?_ _) | (with_reducible refine Kd.C_drew ?_))); (case side2 => exact (Kd.R_reads' HO_260000.out).2.1); (case side3 => repeat (first | exact (Kd.R_reads' HO_260001.out).2.2 | (with_reducible refine Kd.C_alloc ?_ _) | (with_reducible refine Kd.C_drewN ?_ _) | (with_reducible refine Kd.C_drew ?_))); (case side4 => exact (Kd.R_reads' HO_260001.out).2.1); (case side5 => repeat (first | exact (Kd.R_reads' HO_245000.out).2.2 | (with_reducible refine Kd.C_alloc ?_ _) | (with_reducible refine Kd.C_drewN ?_ _) | (with_reducible refine Kd.C_drew ?_))); (case side6 => exact (Kd.R_reads' HO_245000.out).2.1); (case side7 => repeat (first | exact (Kd.R_reads' HO_245001.out).2.2 | (with_reducible refine Kd.C_alloc ?_ _) | (with_reducible refine Kd.C_drewN ?_ _) | (with_reducible refine Kd.C_drew ?_))); (case side8 => exact (Kd.R_reads' HO_245001.out).2.1); rintro e w86 ⟨rfl, hb⟩; have n0_ := Aside0.mk (Kd.R_below (by (with_reducible repeat (first | apply Kd.R_alloc | apply Kd.R_drewN | apply Kd.R_drew)); exact HO_245000.out) hb); have n1_ := Aside0.mk (Kd.R_below (by (with_reducible repeat (first | apply Kd.R_alloc | apply Kd.R_drewN | apply Kd.R_drew)); exact HO_245001.out) hb); have n2_ := Aside0.mk (Kd.R_below (by (with_reducible repeat (first | apply Kd.R_alloc | apply Kd.R_drewN | apply Kd.R_drew)); exact HO_252000.out) hb); have n3_ := Aside0.mk (Kd.R_below (by (with_reducible repeat (first | apply Kd.R_alloc | apply Kd.R_drewN | apply Kd.R_drew)); exact HO_252001.out) hb); have n4_ := Aside0.mk (Kd.R_below (by (with_reducible repeat (first | apply Kd.R_alloc | apply Kd.R_drewN | apply Kd.R_drew)); exact HO_260000.out) hb); have n5_ := Aside0.mk (Kd.R_below (by (with_reducible repeat (first | apply Kd.R_alloc | apply Kd.R_drewN | apply Kd.R_drew)); exact HO_260001.out) hb); have n6_ := Aside0.mk (Kd.R_below (by (with_reducible repeat (first | apply Kd.R_alloc | apply Kd.R_drewN | apply Kd.R_drew)); exact HO263.out) hb); have n7_ := Aside0.mk (Kd.R_below (by (with_reducible repeat (first | apply Kd.R_alloc | apply Kd.R_drewN | apply Kd.R_drew)); exact HO266.out) hb); have n8_ := Aside0.mk (blk_below (g := gb229) (o := .cells #[.slice A0_0 l0_0.length c0_0, .slice A0_1 l0_1.length c0_1] 46 (0, 0)) (by (with_reducible repeat (first | refine blk_drewN ?_ _ | refine blk_drew ?_ | refine blk_alloc ?_ _)); exact BK229.out) hb); have n9_ := Aside0.mk (blk_below (g := gb244) (o := .cells #[.slice Ao22 t237.length co22, .slice Ao25 t240.length co25] 49 (0, 0)) (by (with_reducible repeat (first | refine blk_drewN ?_ _ | refine blk_drew ?_ | refine blk_alloc ?_ _)); exact BK244.out) hb); have n10_ := Aside0.mk (blk_below (g := gb251) (o := .cells #[.slice Ao29 t245.length co29, .slice Ao33 t248.length co33] 49 (0, 0)) (by (with_reducible repeat (first | refine blk_drewN ?_ _ | refine blk_drew ?_ | refine blk_alloc ?_ _)); exact BK251.out) hb); have n11_ := Aside0.mk (blk_below (g := gb259) (o := .cells #[.slice Ao36 t252.length co36, .slice Ao41 t255.length co41] 49 (0, 0)) (by (with_reducible repeat (first | refine blk_drewN ?_ _ | refine blk_drew ?_ | refine blk_alloc ?_ _)); exact BK259.out) hb); have n12_ := Aside0.mk (below_step (by repeat (first | (with_reducible first | exact HB.out | apply below_alloc | apply pw_below_drewN | apply below_drew1 | refine below_set ?_ GE229.out | refine below_set ?_ GE244.out | refine below_set ?_ GE251.out | refine below_set ?_ GE259.out) | exact HB.out)) hb); clear HO_245000; clear HO_245001; clear HO_252000; clear HO_252001; clear HO_260000; clear HO_260001; clear HO263; clear HO266; clear BK229; clear BK244; clear BK251; clear BK259; clear HB; have HO_245000 := n0_; have HO_245001 := n1_; have HO_252000 := n2_; have HO_252001 := n3_; have HO_260000 := n4_; have HO_260001 := n5_; have HO263 := n6_; have HO266 := n7_; have BK229 := n8_; have BK244 := n9_; have BK251 := n10_; have BK259 := n11_; have HB := n12_; clear n0_ n1_ n2_ n3_ n4_ n5_ n6_ n7_ n8_ n9_ n10_ n11_ n12_; (try clear hb); (try clear hb2); (try clear hk); (try clear hi)))
                  go_meet
                  case rel => exact ⟨_, ((t258 != t243)), (by first | rfl | (simp; done) | (simp [*]; done)), H', ⟨by have := HJ11.out; first | omega | exact Nat.le_refl _⟩, ⟨by (with_reducible repeat (first | apply Kd.R_alloc | apply Kd.R_drewN | apply Kd.R_drew)); exact Kd.R_mono HO_245000.out (fun _ hk => ⟨hk.1, hk.2.1⟩)⟩, ⟨by (with_reducible repeat (first | apply Kd.R_alloc | apply Kd.R_drewN | apply Kd.R_drew)); exact Kd.R_mono HO_245001.out (fun _ hk => ⟨hk.1, hk.2.1⟩)⟩, ⟨by (with_reducible repeat (first | apply Kd.R_alloc | apply Kd.R_drewN | apply Kd.R_drew)); exact Kd.R_mono HO_252000.out (fun _ hk => ⟨hk.1.1, hk.1.2⟩)⟩, ⟨by (with_reducible repeat (first | apply Kd.R_alloc | apply Kd.R_drewN | apply Kd.R_drew)); exact Kd.R_mono HO_252001.out (fun _ hk => ⟨hk.1.1, hk.1.2⟩)⟩, ⟨by (with_reducible repeat (first | apply Kd.R_alloc | apply Kd.R_drewN | apply Kd.R_drew)); exact Kd.R_mono HO_260000.out (fun _ hk => ⟨hk.1, hk.2.1⟩)⟩, ⟨by (with_reducible repeat (first | apply Kd.R_alloc | apply Kd.R_drewN | apply Kd.R_drew)); exact Kd.R_mono HO_260001.out (fun _ hk => ⟨hk.1, hk.2.1⟩)⟩, ⟨by (with_reducible repeat (first | refine blk_drewN ?_ _ | refine blk_drew ?_ | refine blk_alloc ?_ _)); exact BK229.out⟩, ⟨by (with_reducible repeat (first | refine blk_drewN ?_ _ | refine blk_drew ?_ | refine blk_alloc ?_ _)); exact BK244.out⟩, ⟨by (with_reducible repeat (first | refine blk_drewN ?_ _ | refine blk_drew ?_ | refine blk_alloc ?_ _)); exact BK251.out⟩, ⟨by (with_reducible repeat (first | refine blk_drewN ?_ _ | refine blk_drew ?_ | refine blk_alloc ?_ _)); exact BK259.out⟩, ⟨by repeat (first | (with_reducible first | exact HB.out | apply below_alloc | apply pw_below_drewN | apply below_drew1 | refine below_set ?_ GE229.out | refine below_set ?_ GE244.out | refine below_set ?_ GE251.out | refine below_set ?_ GE259.out) | exact HB.out)⟩⟩
                · replace c78 := Bool.eq_false_iff.mpr c78
                  subst c78
                  have H1 : (laws_FnExactClear.j1 kj11 a1 t243 true l0_0 l0_1 t237 t240 t252 t255) = some r := by rw [if_neg (show ¬ (false = true) by decide)] at H; exact H
                  clear H
                  have H := H1
                  clear H1
                  have H' := Aside0.mk H
                  clear H
                  have hnb87 := NB259_229.out
                  have hnc87 := NB229_259.out
                  have hnb88 := NB259_244.out
                  have hnc88 := NB244_259.out
                  have hnb89 := NB259_251.out
                  have hnc89 := NB251_259.out
                  have hcz90_0 : w75.cell? ⟨gb259, 0, none⟩ = some (.slice Ao36 t252.length co36) := (blk_cell BK259.out 0).trans rfl
                  have hcz90_1 : w75.cell? ⟨gb259, 1, none⟩ = some (.slice Ao41 t255.length co41) := (blk_cell BK259.out 1).trans rfl
                  have hfz90_0 := blk_frozen BK259.out 0
                  have hfz90_1 := blk_frozen BK259.out 1
                  have hnb91 := NB244_229.out
                  have hnc91 := NB229_244.out
                  have hnb92 := NB244_251.out
                  have hnc92 := NB251_244.out
                  have hcz93_0 : w75.cell? ⟨gb244, 0, none⟩ = some (.slice Ao22 t237.length co22) := (blk_cell BK244.out 0).trans rfl
                  have hcz93_1 : w75.cell? ⟨gb244, 1, none⟩ = some (.slice Ao25 t240.length co25) := (blk_cell BK244.out 1).trans rfl
                  have hfz93_0 := blk_frozen BK244.out 0
                  have hfz93_1 := blk_frozen BK244.out 1
                  go_wp2_with (first | (go_at_call 36; (with_reducible refine (laws_eqChip.calls kj11 _ _ t252 _ _ t255 _ _ t237 _ _ t240 false _ ?side1 ?side2 ?side3 ?side4 ?side5 ?side6 ?side7 ?side8 A77.out).mono ?_); (case side1 => repeat (first | exact (Kd.R_reads' HO_260000.out).2.2 | (with_reducible refine Kd.C_alloc ?_ _) | (with_reducible refine Kd.C_drewN ?_ _) | (with_reducible refine Kd.C_drew ?_))); (case side2 => exact (Kd.R_reads' HO_260000.out).2.1); (case side3 => repeat (first | exact (Kd.R_reads' HO_260001.out).2.2 | (with_reducible refine Kd.C_alloc ?_ _) | (with_reducible refine Kd.C_drewN ?_ _) | (with_reducible refine Kd.C_drew ?_))); (case side4 => exact (Kd.R_reads' HO_260001.out).2.1); (case side5 => repeat (first | exact (Kd.R_reads' HO_245000.out).2.2 | (with_reducible refine Kd.C_alloc ?_ _) | (with_reducible refine Kd.C_drewN ?_ _) | (with_reducible refine Kd.C_drew ?_))); (case side6 => exact (Kd.R_reads' HO_245000.out).2.1); (case side7 => repeat (first | exact (Kd.R_reads' HO_245001.out).2.2 | (with_reducible refine Kd.C_alloc ?_ _) | (with_reducible refine Kd.C_drewN ?_ _) | (with_reducible refine Kd.C_drew ?_))); (case side8 => exact (Kd.R_reads' HO_245001.out).2.1); rintro e w94 ⟨rfl, hb⟩; have n0_ := Aside0.mk (Kd.R_below (by (with_reducible repeat (first | apply Kd.R_alloc | apply Kd.R_drewN | apply Kd.R_drew)); exact HO_245000.out) hb); have n1_ := Aside0.mk (Kd.R_below (by (with_reducible repeat (first | apply Kd.R_alloc | apply Kd.R_drewN | apply Kd.R_drew)); exact HO_245001.out) hb); have n2_ := Aside0.mk (Kd.R_below (by (with_reducible repeat (first | apply Kd.R_alloc | apply Kd.R_drewN | apply Kd.R_drew)); exact HO_252000.out) hb); have n3_ := Aside0.mk (Kd.R_below (by (with_reducible repeat (first | apply Kd.R_alloc | apply Kd.R_drewN | apply Kd.R_drew)); exact HO_252001.out) hb); have n4_ := Aside0.mk (Kd.R_below (by (with_reducible repeat (first | apply Kd.R_alloc | apply Kd.R_drewN | apply Kd.R_drew)); exact HO_260000.out) hb); have n5_ := Aside0.mk (Kd.R_below (by (with_reducible repeat (first | apply Kd.R_alloc | apply Kd.R_drewN | apply Kd.R_drew)); exact HO_260001.out) hb); have n6_ := Aside0.mk (Kd.R_below (by (with_reducible repeat (first | apply Kd.R_alloc | apply Kd.R_drewN | apply Kd.R_drew)); exact HO263.out) hb); have n7_ := Aside0.mk (Kd.R_below (by (with_reducible repeat (first | apply Kd.R_alloc | apply Kd.R_drewN | apply Kd.R_drew)); exact HO266.out) hb); have n8_ := Aside0.mk (blk_below (g := gb229) (o := .cells #[.slice A0_0 l0_0.length c0_0, .slice A0_1 l0_1.length c0_1] 46 (0, 0)) (by (with_reducible repeat (first | refine blk_drewN ?_ _ | refine blk_drew ?_ | refine blk_alloc ?_ _)); exact BK229.out) hb); have n9_ := Aside0.mk (blk_below (g := gb244) (o := .cells #[.slice Ao22 t237.length co22, .slice Ao25 t240.length co25] 49 (0, 0)) (by (with_reducible repeat (first | refine blk_drewN ?_ _ | refine blk_drew ?_ | refine blk_alloc ?_ _)); exact BK244.out) hb); have n10_ := Aside0.mk (blk_below (g := gb251) (o := .cells #[.slice Ao29 t245.length co29, .slice Ao33 t248.length co33] 49 (0, 0)) (by (with_reducible repeat (first | refine blk_drewN ?_ _ | refine blk_drew ?_ | refine blk_alloc ?_ _)); exact BK251.out) hb); have n11_ := Aside0.mk (blk_below (g := gb259) (o := .cells #[.slice Ao36 t252.length co36, .slice Ao41 t255.length co41] 49 (0, 0)) (by (with_reducible repeat (first | refine blk_drewN ?_ _ | refine blk_drew ?_ | refine blk_alloc ?_ _)); exact BK259.out) hb); have n12_ := Aside0.mk (below_step (by repeat (first | (with_reducible first | exact HB.out | apply below_alloc | apply pw_below_drewN | apply below_drew1 | refine below_set ?_ GE229.out | refine below_set ?_ GE244.out | refine below_set ?_ GE251.out | refine below_set ?_ GE259.out) | exact HB.out)) hb); clear HO_245000; clear HO_245001; clear HO_252000; clear HO_252001; clear HO_260000; clear HO_260001; clear HO263; clear HO266; clear BK229; clear BK244; clear BK251; clear BK259; clear HB; have HO_245000 := n0_; have HO_245001 := n1_; have HO_252000 := n2_; have HO_252001 := n3_; have HO_260000 := n4_; have HO_260001 := n5_; have HO263 := n6_; have HO266 := n7_; have BK229 := n8_; have BK244 := n9_; have BK251 := n10_; have BK259 := n11_; have HB := n12_; clear n0_ n1_ n2_ n3_ n4_ n5_ n6_ n7_ n8_ n9_ n10_ n11_ n12_; (try clear hb); (try clear hb2); (try clear hk); (try clear hi)))
                  go_meet
                  case rel => exact ⟨_, (true), (by first | rfl | (simp; done) | (simp [*]; done)), H', ⟨by have := HJ11.out; first | omega | exact Nat.le_refl _⟩, ⟨by (with_reducible repeat (first | apply Kd.R_alloc | apply Kd.R_drewN | apply Kd.R_drew)); exact Kd.R_mono HO_245000.out (fun _ hk => ⟨hk.1, hk.2.1⟩)⟩, ⟨by (with_reducible repeat (first | apply Kd.R_alloc | apply Kd.R_drewN | apply Kd.R_drew)); exact Kd.R_mono HO_245001.out (fun _ hk => ⟨hk.1, hk.2.1⟩)⟩, ⟨by (with_reducible repeat (first | apply Kd.R_alloc | apply Kd.R_drewN | apply Kd.R_drew)); exact Kd.R_mono HO_252000.out (fun _ hk => ⟨hk.1.1, hk.1.2⟩)⟩, ⟨by (with_reducible repeat (first | apply Kd.R_alloc | apply Kd.R_drewN | apply Kd.R_drew)); exact Kd.R_mono HO_252001.out (fun _ hk => ⟨hk.1.1, hk.1.2⟩)⟩, ⟨by (with_reducible repeat (first | apply Kd.R_alloc | apply Kd.R_drewN | apply Kd.R_drew)); exact Kd.R_mono HO_260000.out (fun _ hk => ⟨hk.1, hk.2.1⟩)⟩, ⟨by (with_reducible repeat (first | apply Kd.R_alloc | apply Kd.R_drewN | apply Kd.R_drew)); exact Kd.R_mono HO_260001.out (fun _ hk => ⟨hk.1, hk.2.1⟩)⟩, ⟨by (with_reducible repeat (first | refine blk_drewN ?_ _ | refine blk_drew ?_ | refine blk_alloc ?_ _)); exact BK229.out⟩, ⟨by (with_reducible repeat (first | refine blk_drewN ?_ _ | refine blk_drew ?_ | refine blk_alloc ?_ _)); exact BK244.out⟩, ⟨by (with_reducible repeat (first | refine blk_drewN ?_ _ | refine blk_drew ?_ | refine blk_alloc ?_ _)); exact BK251.out⟩, ⟨by (with_reducible repeat (first | refine blk_drewN ?_ _ | refine blk_drew ?_ | refine blk_alloc ?_ _)); exact BK259.out⟩, ⟨by repeat (first | (with_reducible first | exact HB.out | apply below_alloc | apply pw_below_drewN | apply below_drew1 | refine below_set ?_ GE229.out | refine below_set ?_ GE244.out | refine below_set ?_ GE251.out | refine below_set ?_ GE259.out) | exact HB.out)⟩⟩
            case rest =>
              clear HC65
              try clear c1
              try clear c2
              try clear p2
              try clear c3
              try clear c4
              try clear c4b0
              try clear c5
              try clear c6
              try clear c7
              try clear c8
              try clear c9
              try clear c11
              try clear c23
              try clear c30
              try clear c31
              try clear c32
              try clear c34
              try clear c36
              try clear c37
              try clear c38
              try clear c39
              try clear c42
              try clear c43
              try clear c44
              try clear c45
              try clear c46
              try clear c48
              try clear c49
              try clear c52
              try clear c53
              try clear c54
              try clear c56
              try clear c57
              try clear c60
              try clear c63
              try clear c71
              try clear c72
              try clear c73
              try clear c76
              try clear c76b0
              try clear c78
              try clear c79
              try clear c80
              try clear c81
              try clear c83
              try clear c84
              try clear c87
              try clear c88
              try clear c89
              try clear c91
              try clear c92
              try clear hcz14_0
              try clear hcz14_1
              try clear hcz16_0
              try clear hcz16_1
              try clear hcz24_0
              try clear hcz24_1
              try clear hcz26_0
              try clear hcz26_1
              try clear hcz32_0
              try clear hcz32_1
              try clear hcz40_0
              try clear hcz40_1
              try clear hcz47_0
              try clear hcz47_1
              try clear hcz50_0
              try clear hcz50_1
              try clear hcz55_0
              try clear hcz55_1
              try clear hcz58_0
              try clear hcz58_1
              try clear hcz6_0
              try clear hcz6_1
              try clear hcz74_0
              try clear hcz74_1
              try clear hcz82_0
              try clear hcz82_1
              try clear hcz85_0
              try clear hcz85_1
              try clear hcz90_0
              try clear hcz90_1
              try clear hcz93_0
              try clear hcz93_1
              try clear hfz14_0
              try clear hfz14_1
              try clear hfz16_0
              try clear hfz16_1
              try clear hfz24_0
              try clear hfz24_1
              try clear hfz26_0
              try clear hfz26_1
              try clear hfz32_0
              try clear hfz32_1
              try clear hfz40_0
              try clear hfz40_1
              try clear hfz47_0
              try clear hfz47_1
              try clear hfz50_0
              try clear hfz50_1
              try clear hfz55_0
              try clear hfz55_1
              try clear hfz58_0
              try clear hfz58_1
              try clear hfz6_0
              try clear hfz6_1
              try clear hfz74_0
              try clear hfz74_1
              try clear hfz82_0
              try clear hfz82_1
              try clear hfz85_0
              try clear hfz85_1
              try clear hfz90_0
              try clear hfz90_1
              try clear hfz93_0
              try clear hfz93_1
              try clear p2
              obtain ⟨kq, x65_64, rfl, HA, HJ64, HO_245000, HO_245001, HO_252000, HO_252001, HO_260000, HO_260001, BK229, BK244, BK251, BK259, HB⟩ := hcut
              have hl252000_64 := (Kd.R_reads' HO_252000.out).1
              rw [hl252000_64] at HO_252000
              (try simp only [hl252000_64])
              (try simp only [hl252000_64] at BK229)
              (try simp only [hl252000_64] at BK244)
              (try simp only [hl252000_64] at BK251)
              (try simp only [hl252000_64] at BK259)
              (try simp only [hl252000_64] at HO_245000)
              (try simp only [hl252000_64] at HO_245001)
              (try simp only [hl252000_64] at HO_252001)
              (try simp only [hl252000_64] at HO_260000)
              (try simp only [hl252000_64] at HO_260001)
              have hl252001_64 := (Kd.R_reads' HO_252001.out).1
              rw [hl252001_64] at HO_252001
              (try simp only [hl252001_64])
              (try simp only [hl252001_64] at BK229)
              (try simp only [hl252001_64] at BK244)
              (try simp only [hl252001_64] at BK251)
              (try simp only [hl252001_64] at BK259)
              (try simp only [hl252001_64] at HO_245000)
              (try simp only [hl252001_64] at HO_245001)
              (try simp only [hl252001_64] at HO_252000)
              (try simp only [hl252001_64] at HO_260000)
              (try simp only [hl252001_64] at HO_260001)
              cases kq with
              | zero => exact absurd HA.out (by simp [laws_FnExactClear.j1])
              | succ kj64 =>
                have H := HA.out
                clear HA
                simp only [laws_FnExactClear.j1] at H
                by_cases c95 : x65_64 = true
                · subst c95
                  have H1 : (some false) = some r := by rw [if_pos rfl] at H; exact H
                  clear H
                  have H := H1
                  clear H1
                  exact absurd ((Option.some.inj H).trans hT.out) (by decide)
                · replace c95 := Bool.eq_false_iff.mpr c95
                  subst c95
                  have H1 : ((laws_markChip.f kj64 t252 t255 1).bind fun bt272 => ((laws_heldChip.f kj64 bt272.2.1 bt272.2.2 1).bind fun t275 => (if t275 < 0 then (some false) else (if t275 = bt272.1 then ((laws_toChip.f kj64 l0_0 l0_1).bind fun bt276 => ((impl_Clear.f kj64 bt276.1 bt276.2 a1).bind fun bt282 => ((laws_eqChip.f kj64 bt282.1 bt282.2.1 t237 t240).bind fun t290 => (if t290 = true then (laws_FnExactClear.j2 kj64 bt272.1 (bt282.2.2 != t243) bt272.2.1 bt272.2.2) else (laws_FnExactClear.j2 kj64 bt272.1 true bt272.2.1 bt272.2.2))))) else (some false))))) = some r := by rw [if_neg (show ¬ (false = true) by decide)] at H; exact H
                  clear H
                  have H := H1
                  clear H1
                  replace H := Option.bind_eq_some_iff.mp H
                  obtain ⟨⟨t272, t273, t274⟩, A960, H⟩ := H
                  replace H : ((laws_heldChip.f kj64 t273 t274 1).bind fun t275 => (if t275 < 0 then (some false) else (if t275 = t272 then ((laws_toChip.f kj64 l0_0 l0_1).bind fun bt276 => ((impl_Clear.f kj64 bt276.1 bt276.2 a1).bind fun bt282 => ((laws_eqChip.f kj64 bt282.1 bt282.2.1 t237 t240).bind fun t290 => (if t290 = true then (laws_FnExactClear.j2 kj64 t272 (bt282.2.2 != t243) t273 t274) else (laws_FnExactClear.j2 kj64 t272 true t273 t274))))) else (some false)))) = some r := H
                  have A96 := Aside0.mk A960
                  clear A960
                  replace H := Option.bind_eq_some_iff.mp H
                  obtain ⟨t275, A970, H⟩ := H
                  replace H : (if t275 < 0 then (some false) else (if t275 = t272 then ((laws_toChip.f kj64 l0_0 l0_1).bind fun bt276 => ((impl_Clear.f kj64 bt276.1 bt276.2 a1).bind fun bt282 => ((laws_eqChip.f kj64 bt282.1 bt282.2.1 t237 t240).bind fun t290 => (if t290 = true then (laws_FnExactClear.j2 kj64 t272 (bt282.2.2 != t243) t273 t274) else (laws_FnExactClear.j2 kj64 t272 true t273 t274))))) else (some false))) = some r := H
                  have A97 := Aside0.mk A970
                  clear A970
                  by_cases c98 : t275 < 0
                  · rw [if_pos c98] at H
                    have c98b0 : decide (t275 < 0) = true := decide_eq_true c98
                    clear c98
                    exact absurd ((Option.some.inj H).trans hT.out) (by decide)
                  · rw [if_neg c98] at H
                    have c98b0 : decide (t275 < 0) = false := decide_eq_false c98
                    clear c98
                    by_cases c99 : t275 = t272
                    · rw [if_pos c99] at H
                      have c99b0 : (t275 == t272) = true := beq_iff_eq.mpr c99
                      have c99b1 : (t275 != t272) = false := bne_eq_false_iff_eq.mpr c99
                      clear c99
                      replace H := Option.bind_eq_some_iff.mp H
                      obtain ⟨⟨t276, t279⟩, A1000, H⟩ := H
                      replace H : ((impl_Clear.f kj64 t276 t279 a1).bind fun bt282 => ((laws_eqChip.f kj64 bt282.1 bt282.2.1 t237 t240).bind fun t290 => (if t290 = true then (laws_FnExactClear.j2 kj64 t272 (bt282.2.2 != t243) t273 t274) else (laws_FnExactClear.j2 kj64 t272 true t273 t274)))) = some r := H
                      have A100 := Aside0.mk A1000
                      clear A1000
                      replace H := Option.bind_eq_some_iff.mp H
                      obtain ⟨⟨t282, t285, t288⟩, A1010, H⟩ := H
                      replace H : ((laws_eqChip.f kj64 t282 t285 t237 t240).bind fun t290 => (if t290 = true then (laws_FnExactClear.j2 kj64 t272 (t288 != t243) t273 t274) else (laws_FnExactClear.j2 kj64 t272 true t273 t274))) = some r := H
                      have A101 := Aside0.mk A1010
                      clear A1010
                      have HC102 := Aside0.mk H
                      clear H
                      have hnb103 := NB259_229.out
                      have hnc103 := NB229_259.out
                      have hnb104 := NB259_244.out
                      have hnc104 := NB244_259.out
                      have hnb105 := NB259_251.out
                      have hnc105 := NB251_259.out
                      have hcz106_0 : wc.cell? ⟨gb259, 0, none⟩ = some (.slice Ao36 t252.length co36) := (blk_cell BK259.out 0).trans rfl
                      have hcz106_1 : wc.cell? ⟨gb259, 1, none⟩ = some (.slice Ao41 t255.length co41) := (blk_cell BK259.out 1).trans rfl
                      have hfz106_0 := blk_frozen BK259.out 0
                      have hfz106_1 := blk_frozen BK259.out 1
                      go_upto_region 25 with (first | ((with_reducible refine gate_callee (f := 42) rfl ?_); refine goesL_ (some 68) rfl rfl Try.func42 (by kernel_rfl) rfl #[.agg #[.slice Ao36 t252.length co36, .slice Ao41 t255.length co41], .int .i64 1] rfl (by (try simp only [List.map_toArray, List.map_cons, List.map_nil]); first | done | rfl | (simp only [List.length_drop, List.length_take]; rfl)) ?_; (with_reducible refine (laws_markChip.calls kj64 (fun k_ => some k_ = (.slice Ao36 t252.length co36 : Value).ownBlock) (.slice Ao36 t252.length co36) t252 (fun k_ => some k_ = (.slice Ao41 t255.length co41 : Value).ownBlock) (.slice Ao41 t255.length co41) t255 1 t272 t273 t274 w _ ?side1 ?side2 ?side3 A96.out).mono ?_); (case side1 => repeat (first | (with_reducible first | exact HB.out | apply below_alloc | apply pw_below_drewN | apply below_drew1 | refine below_set ?_ GE229.out | refine below_set ?_ GE244.out | refine below_set ?_ GE251.out | refine below_set ?_ GE259.out) | exact HB.out)); (case side2 => exact Kd.R_tight rfl HO_260000.out); (case side3 => exact Kd.R_tight rfl HO_260001.out); rintro e w107 ⟨rfl, hy0, hy1, hb, hkp⟩; refine ⟨_, rfl, ?_⟩; have n0_ := Aside0.mk (Kd.R_mono (ok' := fun k_ => some k_ ≠ (.slice Ao29 t269.length co29 : Value).ownBlock ∧ some k_ ≠ (.slice Ao36 t252.length co36 : Value).ownBlock) (Kd.R_keptB ((Kd.R_apart' HO_245000.out (Kd.R_typed HO_260001.out) (by decide))) hkp (fun k_ hk_ hs_ => Or.elim hs_ (fun e_ => (hk_.1.2) e_) (fun e_ => (hk_.2) e_))) (fun k_ hk_ => ⟨hk_.1.1.1, hk_.1.1.2⟩)); have n1_ := Aside0.mk (Kd.R_mono (ok' := fun k_ => some k_ ≠ (.slice Ao33 t270.length co33 : Value).ownBlock ∧ some k_ ≠ (.slice Ao41 t255.length co41 : Value).ownBlock) (Kd.R_keptB ((Kd.R_apart' HO_245001.out (Kd.R_typed HO_260000.out) (by decide))) hkp (fun k_ hk_ hs_ => Or.elim hs_ (fun e_ => (hk_.2) e_) (fun e_ => (hk_.1.2) e_))) (fun k_ hk_ => ⟨hk_.1.1.1, hk_.1.1.2⟩)); have n2_ := Aside0.mk (Kd.R_mono (ok' := fun k_ => some k_ ≠ (.slice Ao22 t237.length co22 : Value).ownBlock ∧ some k_ ≠ (.slice Ao36 t252.length co36 : Value).ownBlock) (Kd.R_keptB ((Kd.R_apart' HO_252000.out (Kd.R_typed HO_260001.out) (by decide))) hkp (fun k_ hk_ hs_ => Or.elim hs_ (fun e_ => (hk_.1.2) e_) (fun e_ => (hk_.2) e_))) (fun k_ hk_ => ⟨hk_.1.1.1, hk_.1.1.2⟩)); have n3_ := Aside0.mk (Kd.R_mono (ok' := fun k_ => some k_ ≠ (.slice Ao25 t240.length co25 : Value).ownBlock ∧ some k_ ≠ (.slice Ao41 t255.length co41 : Value).ownBlock) (Kd.R_keptB ((Kd.R_apart' HO_252001.out (Kd.R_typed HO_260000.out) (by decide))) hkp (fun k_ hk_ hs_ => Or.elim hs_ (fun e_ => (hk_.2) e_) (fun e_ => (hk_.1.2) e_))) (fun k_ hk_ => ⟨hk_.1.1.1, hk_.1.1.2⟩)); have n4_ := Aside0.mk (Kd.R_reok rfl hy0 (fun k_ e_ => HO_260000.out.1 k_ e_)); have n5_ := Aside0.mk (Kd.R_reok rfl hy1 (fun k_ e_ => HO_260001.out.1 k_ e_)); have n6_ := Aside0.mk (blk_kept (by (with_reducible repeat (first | refine blk_drewN ?_ _ | refine blk_drew ?_ | refine blk_alloc ?_ _)); exact BK229.out) hkp (fun hs_ => Or.elim hs_ (fun e_ => (fun e_ => (Kd.R_ne HO_260000.out BK229.out (by decide)) e_) e_) (fun e_ => (fun e_ => (Kd.R_ne HO_260001.out BK229.out (by decide)) e_) e_))); have n7_ := Aside0.mk (blk_kept (by (with_reducible repeat (first | refine blk_drewN ?_ _ | refine blk_drew ?_ | refine blk_alloc ?_ _)); exact BK244.out) hkp (fun hs_ => Or.elim hs_ (fun e_ => (fun e_ => (Kd.R_ne HO_260000.out BK244.out (by decide)) e_) e_) (fun e_ => (fun e_ => (Kd.R_ne HO_260001.out BK244.out (by decide)) e_) e_))); have n8_ := Aside0.mk (blk_kept (by (with_reducible repeat (first | refine blk_drewN ?_ _ | refine blk_drew ?_ | refine blk_alloc ?_ _)); exact BK251.out) hkp (fun hs_ => Or.elim hs_ (fun e_ => (fun e_ => (Kd.R_ne HO_260000.out BK251.out (by decide)) e_) e_) (fun e_ => (fun e_ => (Kd.R_ne HO_260001.out BK251.out (by decide)) e_) e_))); have n9_ := Aside0.mk (blk_kept (by (with_reducible repeat (first | refine blk_drewN ?_ _ | refine blk_drew ?_ | refine blk_alloc ?_ _)); exact BK259.out) hkp (fun hs_ => Or.elim hs_ (fun e_ => (fun e_ => (Kd.R_ne HO_260000.out BK259.out (by decide)) e_) e_) (fun e_ => (fun e_ => (Kd.R_ne HO_260001.out BK259.out (by decide)) e_) e_))); have n10_ := Aside0.mk (hb); clear HO_245000; clear HO_245001; clear HO_252000; clear HO_252001; clear HO_260000; clear HO_260001; clear BK229; clear BK244; clear BK251; clear BK259; clear HB; have HO_245000 := n0_; have HO_245001 := n1_; have HO_252000 := n2_; have HO_252001 := n3_; have HO_260000 := n4_; have HO_260001 := n5_; have BK229 := n6_; have BK244 := n7_; have BK251 := n8_; have BK259 := n9_; have HB := n10_; clear n0_ n1_ n2_ n3_ n4_ n5_ n6_ n7_ n8_ n9_ n10_; (try clear hb); (try clear hkp); (try clear hy0); (try clear hy1); have hcz108_0 : w107.cell? ⟨gb259, 0, none⟩ = some (.slice Ao36 t252.length co36) := (blk_cell BK259.out 0).trans rfl; have hcz108_1 : w107.cell? ⟨gb259, 1, none⟩ = some (.slice Ao41 t255.length co41) := (blk_cell BK259.out 1).trans rfl; have hfz108_0 := blk_frozen BK259.out 0; have hfz108_1 := blk_frozen BK259.out 1) | ((with_reducible refine gate_callee (f := 47) rfl ?_); refine goesL_ (some 71) rfl rfl Try.func47 (by kernel_rfl) rfl #[.agg #[.slice Ao36 t273.length co36, .slice Ao41 t274.length co41], .int .i64 1] rfl (by (try simp only [List.map_toArray, List.map_cons, List.map_nil]); first | done | (rw [show t273.length = t252.length from (Kd.R_reads' HO_260000.out).1.symm, show t274.length = t255.length from (Kd.R_reads' HO_260001.out).1.symm] <;> rfl) | rfl | (simp only [List.length_drop, List.length_take]; rfl)) ?_; (with_reducible refine (laws_heldChip.calls kj64 _ _ t273 _ _ t274 1 t275 _ ?side1 ?side2 ?side3 ?side4 A97.out).mono ?_); (case side1 => repeat (first | exact (Kd.R_reads' HO_260000.out).2.2 | (with_reducible refine Kd.C_alloc ?_ _) | (with_reducible refine Kd.C_drewN ?_ _) | (with_reducible refine Kd.C_drew ?_))); (case side2 => rw [show t273.length = t252.length from (Kd.R_reads' HO_260000.out).1.symm]; exact (Kd.R_reads' HO_260000.out).2.1); (case side3 => repeat (first | exact (Kd.R_reads' HO_260001.out).2.2 | (with_reducible refine Kd.C_alloc ?_ _) | (with_reducible refine Kd.C_drewN ?_ _) | (with_reducible refine Kd.C_drew ?_))); (case side4 => rw [show t274.length = t255.length from (Kd.R_reads' HO_260001.out).1.symm]; exact (Kd.R_reads' HO_260001.out).2.1); rintro e w109 ⟨rfl, hb⟩; refine ⟨_, rfl, ?_⟩; have n0_ := Aside0.mk (Kd.R_below (by (with_reducible repeat (first | apply Kd.R_alloc | apply Kd.R_drewN | apply Kd.R_drew)); exact HO_245000.out) hb); have n1_ := Aside0.mk (Kd.R_below (by (with_reducible repeat (first | apply Kd.R_alloc | apply Kd.R_drewN | apply Kd.R_drew)); exact HO_245001.out) hb); have n2_ := Aside0.mk (Kd.R_below (by (with_reducible repeat (first | apply Kd.R_alloc | apply Kd.R_drewN | apply Kd.R_drew)); exact HO_252000.out) hb); have n3_ := Aside0.mk (Kd.R_below (by (with_reducible repeat (first | apply Kd.R_alloc | apply Kd.R_drewN | apply Kd.R_drew)); exact HO_252001.out) hb); have n4_ := Aside0.mk (Kd.R_below (by (with_reducible repeat (first | apply Kd.R_alloc | apply Kd.R_drewN | apply Kd.R_drew)); exact HO_260000.out) hb); have n5_ := Aside0.mk (Kd.R_below (by (with_reducible repeat (first | apply Kd.R_alloc | apply Kd.R_drewN | apply Kd.R_drew)); exact HO_260001.out) hb); have n6_ := Aside0.mk (blk_below (g := gb229) (o := .cells #[.slice A0_0 l0_0.length c0_0, .slice A0_1 l0_1.length c0_1] 46 (0, 0)) (by (with_reducible repeat (first | refine blk_drewN ?_ _ | refine blk_drew ?_ | refine blk_alloc ?_ _)); exact BK229.out) hb); have n7_ := Aside0.mk (blk_below (g := gb244) (o := .cells #[.slice Ao22 t237.length co22, .slice Ao25 t240.length co25] 49 (0, 0)) (by (with_reducible repeat (first | refine blk_drewN ?_ _ | refine blk_drew ?_ | refine blk_alloc ?_ _)); exact BK244.out) hb); have n8_ := Aside0.mk (blk_below (g := gb251) (o := .cells #[.slice Ao29 t269.length co29, .slice Ao33 t270.length co33] 49 (0, 0)) (by (with_reducible repeat (first | refine blk_drewN ?_ _ | refine blk_drew ?_ | refine blk_alloc ?_ _)); exact BK251.out) hb); have n9_ := Aside0.mk (blk_below (g := gb259) (o := .cells #[.slice Ao36 t252.length co36, .slice Ao41 t255.length co41] 49 (0, 0)) (by (with_reducible repeat (first | refine blk_drewN ?_ _ | refine blk_drew ?_ | refine blk_alloc ?_ _)); exact BK259.out) hb); have n10_ := Aside0.mk (below_step (by repeat (first | (with_reducible first | exact HB.out | apply below_alloc | apply pw_below_drewN | apply below_drew1 | refine below_set ?_ GE229.out | refine below_set ?_ GE244.out | refine below_set ?_ GE251.out | refine below_set ?_ GE259.out) | exact HB.out)) hb); clear HO_245000; clear HO_245001; clear HO_252000; clear HO_252001; clear HO_260000; clear HO_260001; clear BK229; clear BK244; clear BK251; clear BK259; clear HB; have HO_245000 := n0_; have HO_245001 := n1_; have HO_252000 := n2_; have HO_252001 := n3_; have HO_260000 := n4_; have HO_260001 := n5_; have BK229 := n6_; have BK244 := n7_; have BK251 := n8_; have BK259 := n9_; have HB := n10_; clear n0_ n1_ n2_ n3_ n4_ n5_ n6_ n7_ n8_ n9_ n10_; (try clear hb); (try clear hb2); (try clear hk); (try clear hi); have hnb110 := NB229_244.out; have hnc110 := NB244_229.out; have hnb111 := NB229_251.out; have hnc111 := NB251_229.out; have hcz112_0 : w109.cell? ⟨gb229, 0, none⟩ = some (.slice A0_0 l0_0.length c0_0) := (blk_cell BK229.out 0).trans rfl; have hcz112_1 : w109.cell? ⟨gb229, 1, none⟩ = some (.slice A0_1 l0_1.length c0_1) := (blk_cell BK229.out 1).trans rfl; have hfz112_0 := blk_frozen BK229.out 0; have hfz112_1 := blk_frozen BK229.out 1) | ((with_reducible refine gate_callee (f := 34) rfl ?_); refine goesL_ (some 79) rfl rfl Try.func34 (by kernel_rfl) rfl #[.agg #[.slice A0_0 l0_0.length c0_0, .slice A0_1 l0_1.length c0_1]] rfl (by (try simp only [List.map_toArray, List.map_cons, List.map_nil]); first | done | rfl | (simp only [List.length_drop, List.length_take]; rfl)) ?_; (with_reducible refine (laws_toChip.calls kj64 _ _ l0_0 _ _ l0_1 t276 t279 _ ?side1 ?side2 ?side3 ?side4 A100.out).mono ?_); (case side1 => repeat (first | exact (Kd.C_below HR0_0.out HB.out) | (with_reducible refine Kd.C_alloc ?_ _) | (with_reducible refine Kd.C_drewN ?_ _) | (with_reducible refine Kd.C_drew ?_))); (case side2 => exact HC0_0.out); (case side3 => repeat (first | exact (Kd.C_below HR0_1.out HB.out) | (with_reducible refine Kd.C_alloc ?_ _) | (with_reducible refine Kd.C_drewN ?_ _) | (with_reducible refine Kd.C_drew ?_))); (case side4 => exact HC0_1.out); rintro e w113 ⟨v277, v280, rfl, ho0, ho1, hb⟩; refine ⟨_, rfl, ?_⟩; have n0_ := Aside0.mk (Kd.R_elder' (by (with_reducible repeat (first | apply Kd.R_alloc | apply Kd.R_drewN | apply Kd.R_drew)); exact HO_245000.out) (Kd.R_base ho0) hb); have n1_ := Aside0.mk (Kd.R_elder' (by (with_reducible repeat (first | apply Kd.R_alloc | apply Kd.R_drewN | apply Kd.R_drew)); exact HO_245001.out) (Kd.R_base ho1) hb); have n2_ := Aside0.mk (Kd.R_elder' (by (with_reducible repeat (first | apply Kd.R_alloc | apply Kd.R_drewN | apply Kd.R_drew)); exact HO_252000.out) (Kd.R_base ho0) hb); have n3_ := Aside0.mk (Kd.R_elder' (by (with_reducible repeat (first | apply Kd.R_alloc | apply Kd.R_drewN | apply Kd.R_drew)); exact HO_252001.out) (Kd.R_base ho1) hb); have n4_ := Aside0.mk (Kd.R_elder' (by (with_reducible repeat (first | apply Kd.R_alloc | apply Kd.R_drewN | apply Kd.R_drew)); exact HO_260000.out) (Kd.R_base ho0) hb); have n5_ := Aside0.mk (Kd.R_elder' (by (with_reducible repeat (first | apply Kd.R_alloc | apply Kd.R_drewN | apply Kd.R_drew)); exact HO_260001.out) (Kd.R_base ho1) hb); have n6_ := Aside0.mk (Kd.R_lower (Kd.R_new' (Kd.R_new' (Kd.R_new' ho0 (Kd.R_lt (by (with_reducible repeat (first | apply Kd.R_alloc | apply Kd.R_drewN | apply Kd.R_drew)); exact HO_245000.out))) (Kd.R_lt (by (with_reducible repeat (first | apply Kd.R_alloc | apply Kd.R_drewN | apply Kd.R_drew)); exact HO_252000.out))) (Kd.R_lt (by (with_reducible repeat (first | apply Kd.R_alloc | apply Kd.R_drewN | apply Kd.R_drew)); exact HO_260000.out))) (below_size (by repeat (first | (with_reducible first | exact HB.out | apply below_alloc | apply pw_below_drewN | apply below_drew1 | refine below_set ?_ GE229.out | refine below_set ?_ GE244.out | refine below_set ?_ GE251.out | refine below_set ?_ GE259.out) | exact HB.out)))); have n7_ := Aside0.mk (Kd.R_lower (Kd.R_new' (Kd.R_new' (Kd.R_new' ho1 (Kd.R_lt (by (with_reducible repeat (first | apply Kd.R_alloc | apply Kd.R_drewN | apply Kd.R_drew)); exact HO_245001.out))) (Kd.R_lt (by (with_reducible repeat (first | apply Kd.R_alloc | apply Kd.R_drewN | apply Kd.R_drew)); exact HO_252001.out))) (Kd.R_lt (by (with_reducible repeat (first | apply Kd.R_alloc | apply Kd.R_drewN | apply Kd.R_drew)); exact HO_260001.out))) (below_size (by repeat (first | (with_reducible first | exact HB.out | apply below_alloc | apply pw_below_drewN | apply below_drew1 | refine below_set ?_ GE229.out | refine below_set ?_ GE244.out | refine below_set ?_ GE251.out | refine below_set ?_ GE259.out) | exact HB.out)))); have n8_ := Aside0.mk (blk_below (g := gb229) (o := .cells #[.slice A0_0 l0_0.length c0_0, .slice A0_1 l0_1.length c0_1] 46 (0, 0)) (by (with_reducible repeat (first | refine blk_drewN ?_ _ | refine blk_drew ?_ | refine blk_alloc ?_ _)); exact BK229.out) hb); have n9_ := Aside0.mk (blk_below (g := gb244) (o := .cells #[.slice Ao22 t237.length co22, .slice Ao25 t240.length co25] 49 (0, 0)) (by (with_reducible repeat (first | refine blk_drewN ?_ _ | refine blk_drew ?_ | refine blk_alloc ?_ _)); exact BK244.out) hb); have n10_ := Aside0.mk (blk_below (g := gb251) (o := .cells #[.slice Ao29 t269.length co29, .slice Ao33 t270.length co33] 49 (0, 0)) (by (with_reducible repeat (first | refine blk_drewN ?_ _ | refine blk_drew ?_ | refine blk_alloc ?_ _)); exact BK251.out) hb); have n11_ := Aside0.mk (blk_below (g := gb259) (o := .cells #[.slice Ao36 t252.length co36, .slice Ao41 t255.length co41] 49 (0, 0)) (by (with_reducible repeat (first | refine blk_drewN ?_ _ | refine blk_drew ?_ | refine blk_alloc ?_ _)); exact BK259.out) hb); have n12_ := Aside0.mk (below_step (by repeat (first | (with_reducible first | exact HB.out | apply below_alloc | apply pw_below_drewN | apply below_drew1 | refine below_set ?_ GE229.out | refine below_set ?_ GE244.out | refine below_set ?_ GE251.out | refine below_set ?_ GE259.out) | exact HB.out)) hb); clear HO_245000; clear HO_245001; clear HO_252000; clear HO_252001; clear HO_260000; clear HO_260001; clear BK229; clear BK244; clear BK251; clear BK259; clear HB; have HO_245000 := n0_; have HO_245001 := n1_; have HO_252000 := n2_; have HO_252001 := n3_; have HO_260000 := n4_; have HO_260001 := n5_; have HO278 := n6_; have HO281 := n7_; have BK229 := n8_; have BK244 := n9_; have BK251 := n10_; have BK259 := n11_; have HB := n12_; clear n0_ n1_ n2_ n3_ n4_ n5_ n6_ n7_ n8_ n9_ n10_ n11_ n12_; (try clear hb); (try clear hb2); (try clear hk); (try clear hi); (try clear ho0); (try clear ho1); obtain ⟨Ao114, co114, eo114⟩ := Kd.R_slice HO278.out; subst eo114; obtain ⟨Ao115, co115, eo115⟩ := Kd.R_slice HO281.out; subst eo115) | ((with_reducible refine gate_callee (f := 49) rfl ?_); refine goesL_ (some 81) rfl rfl Try.func49 (by kernel_rfl) rfl #[.agg #[.slice Ao114 t276.length co114, .slice Ao115 t279.length co115], .int .i64 a1] rfl (by (try simp only [List.map_toArray, List.map_cons, List.map_nil]); first | done | rfl | (simp only [List.length_drop, List.length_take]; rfl)) ?_; (with_reducible refine (impl_Clear.calls kj64 _ _ t276 _ _ t279 a1 t282 t285 t288 _ ?side1 ?side2 ?side3 ?side4 A101.out).mono ?_); (case side1 => repeat (first | exact (Kd.R_reads' HO278.out).2.2 | (with_reducible refine Kd.C_alloc ?_ _) | (with_reducible refine Kd.C_drewN ?_ _) | (with_reducible refine Kd.C_drew ?_))); (case side2 => exact (Kd.R_reads' HO278.out).2.1); (case side3 => repeat (first | exact (Kd.R_reads' HO281.out).2.2 | (with_reducible refine Kd.C_alloc ?_ _) | (with_reducible refine Kd.C_drewN ?_ _) | (with_reducible refine Kd.C_drew ?_))); (case side4 => exact (Kd.R_reads' HO281.out).2.1); rintro e w116 ⟨v283, v286, rfl, ho0, ho1, hb⟩; refine ⟨_, rfl, ?_⟩; have n0_ := Aside0.mk (Kd.R_elder' (by (with_reducible repeat (first | apply Kd.R_alloc | apply Kd.R_drewN | apply Kd.R_drew)); exact HO_245000.out) (Kd.R_base ho0) hb); have n1_ := Aside0.mk (Kd.R_elder' (by (with_reducible repeat (first | apply Kd.R_alloc | apply Kd.R_drewN | apply Kd.R_drew)); exact HO_245001.out) (Kd.R_base ho1) hb); have n2_ := Aside0.mk (Kd.R_elder' (by (with_reducible repeat (first | apply Kd.R_alloc | apply Kd.R_drewN | apply Kd.R_drew)); exact HO_252000.out) (Kd.R_base ho0) hb); have n3_ := Aside0.mk (Kd.R_elder' (by (with_reducible repeat (first | apply Kd.R_alloc | apply Kd.R_drewN | apply Kd.R_drew)); exact HO_252001.out) (Kd.R_base ho1) hb); have n4_ := Aside0.mk (Kd.R_elder' (by (with_reducible repeat (first | apply Kd.R_alloc | apply Kd.R_drewN | apply Kd.R_drew)); exact HO_260000.out) (Kd.R_base ho0) hb); have n5_ := Aside0.mk (Kd.R_elder' (by (with_reducible repeat (first | apply Kd.R_alloc | apply Kd.R_drewN | apply Kd.R_drew)); exact HO_260001.out) (Kd.R_base ho1) hb); have n6_ := Aside0.mk (Kd.R_elder' (by (with_reducible repeat (first | apply Kd.R_alloc | apply Kd.R_drewN | apply Kd.R_drew)); exact HO278.out) (Kd.R_base ho0) hb); have n7_ := Aside0.mk (Kd.R_elder' (by (with_reducible repeat (first | apply Kd.R_alloc | apply Kd.R_drewN | apply Kd.R_drew)); exact HO281.out) (Kd.R_base ho1) hb); have n8_ := Aside0.mk (Kd.R_lower (Kd.R_new' (Kd.R_new' (Kd.R_new' (Kd.R_new' ho0 (Kd.R_lt (by (with_reducible repeat (first | apply Kd.R_alloc | apply Kd.R_drewN | apply Kd.R_drew)); exact HO_245000.out))) (Kd.R_lt (by (with_reducible repeat (first | apply Kd.R_alloc | apply Kd.R_drewN | apply Kd.R_drew)); exact HO_252000.out))) (Kd.R_lt (by (with_reducible repeat (first | apply Kd.R_alloc | apply Kd.R_drewN | apply Kd.R_drew)); exact HO_260000.out))) (Kd.R_lt (by (with_reducible repeat (first | apply Kd.R_alloc | apply Kd.R_drewN | apply Kd.R_drew)); exact HO278.out))) (below_size (by repeat (first | (with_reducible first | exact HB.out | apply below_alloc | apply pw_below_drewN | apply below_drew1 | refine below_set ?_ GE229.out | refine below_set ?_ GE244.out | refine below_set ?_ GE251.out | refine below_set ?_ GE259.out) | exact HB.out)))); have n9_ := Aside0.mk (Kd.R_lower (Kd.R_new' (Kd.R_new' (Kd.R_new' (Kd.R_new' ho1 (Kd.R_lt (by (with_reducible repeat (first | apply Kd.R_alloc | apply Kd.R_drewN | apply Kd.R_drew)); exact HO_245001.out))) (Kd.R_lt (by (with_reducible repeat (first | apply Kd.R_alloc | apply Kd.R_drewN | apply Kd.R_drew)); exact HO_252001.out))) (Kd.R_lt (by (with_reducible repeat (first | apply Kd.R_alloc | apply Kd.R_drewN | apply Kd.R_drew)); exact HO_260001.out))) (Kd.R_lt (by (with_reducible repeat (first | apply Kd.R_alloc | apply Kd.R_drewN | apply Kd.R_drew)); exact HO281.out))) (below_size (by repeat (first | (with_reducible first | exact HB.out | apply below_alloc | apply pw_below_drewN | apply below_drew1 | refine below_set ?_ GE229.out | refine below_set ?_ GE244.out | refine below_set ?_ GE251.out | refine below_set ?_ GE259.out) | exact HB.out)))); have n10_ := Aside0.mk (blk_below (g := gb229) (o := .cells #[.slice A0_0 l0_0.length c0_0, .slice A0_1 l0_1.length c0_1] 46 (0, 0)) (by (with_reducible repeat (first | refine blk_drewN ?_ _ | refine blk_drew ?_ | refine blk_alloc ?_ _)); exact BK229.out) hb); have n11_ := Aside0.mk (blk_below (g := gb244) (o := .cells #[.slice Ao22 t237.length co22, .slice Ao25 t240.length co25] 49 (0, 0)) (by (with_reducible repeat (first | refine blk_drewN ?_ _ | refine blk_drew ?_ | refine blk_alloc ?_ _)); exact BK244.out) hb); have n12_ := Aside0.mk (blk_below (g := gb251) (o := .cells #[.slice Ao29 t269.length co29, .slice Ao33 t270.length co33] 49 (0, 0)) (by (with_reducible repeat (first | refine blk_drewN ?_ _ | refine blk_drew ?_ | refine blk_alloc ?_ _)); exact BK251.out) hb); have n13_ := Aside0.mk (blk_below (g := gb259) (o := .cells #[.slice Ao36 t252.length co36, .slice Ao41 t255.length co41] 49 (0, 0)) (by (with_reducible repeat (first | refine blk_drewN ?_ _ | refine blk_drew ?_ | refine blk_alloc ?_ _)); exact BK259.out) hb); have n14_ := Aside0.mk (below_step (by repeat (first | (with_reducible first | exact HB.out | apply below_alloc | apply pw_below_drewN | apply below_drew1 | refine below_set ?_ GE229.out | refine below_set ?_ GE244.out | refine below_set ?_ GE251.out | refine below_set ?_ GE259.out) | exact HB.out)) hb); clear HO_245000; clear HO_245001; clear HO_252000; clear HO_252001; clear HO_260000; clear HO_260001; clear HO278; clear HO281; clear BK229; clear BK244; clear BK251; clear BK259; clear HB; have HO_245000 := n0_; have HO_245001 := n1_; have HO_252000 := n2_; have HO_252001 := n3_; have HO_260000 := n4_; have HO_260001 := n5_; have HO278 := n6_; have HO281 := n7_; have HO284 := n8_; have HO287 := n9_; have BK229 := n10_; have BK244 := n11_; have BK251 := n12_; have BK259 := n13_; have HB := n14_; clear n0_ n1_ n2_ n3_ n4_ n5_ n6_ n7_ n8_ n9_ n10_ n11_ n12_ n13_ n14_; (try clear hb); (try clear hb2); (try clear hk); (try clear hi); (try clear ho0); (try clear ho1)) | ((with_reducible refine gate_dst (N := 14) rfl ?_); refine box_event ?hg (N := 14) ?hd (cs := #[.slice none 0 0, .slice none 0 0]) (t := 49) ?hr ?_; (case hd => rfl); (case hg => rfl); (case hr => first | (go_simp; done) | (go_simp; rfl)); intro gb289 hg w117 hbox hb; have n0_ := Aside0.mk (Kd.R_below (by (with_reducible repeat (first | apply Kd.R_alloc | apply Kd.R_drewN | apply Kd.R_drew)); exact HO_245000.out) hb); have n1_ := Aside0.mk (Kd.R_below (by (with_reducible repeat (first | apply Kd.R_alloc | apply Kd.R_drewN | apply Kd.R_drew)); exact HO_245001.out) hb); have n2_ := Aside0.mk (Kd.R_below (by (with_reducible repeat (first | apply Kd.R_alloc | apply Kd.R_drewN | apply Kd.R_drew)); exact HO_252000.out) hb); have n3_ := Aside0.mk (Kd.R_below (by (with_reducible repeat (first | apply Kd.R_alloc | apply Kd.R_drewN | apply Kd.R_drew)); exact HO_252001.out) hb); have n4_ := Aside0.mk (Kd.R_below (by (with_reducible repeat (first | apply Kd.R_alloc | apply Kd.R_drewN | apply Kd.R_drew)); exact HO_260000.out) hb); have n5_ := Aside0.mk (Kd.R_below (by (with_reducible repeat (first | apply Kd.R_alloc | apply Kd.R_drewN | apply Kd.R_drew)); exact HO_260001.out) hb); have n6_ := Aside0.mk (Kd.R_below (by (with_reducible repeat (first | apply Kd.R_alloc | apply Kd.R_drewN | apply Kd.R_drew)); exact HO278.out) hb); have n7_ := Aside0.mk (Kd.R_below (by (with_reducible repeat (first | apply Kd.R_alloc | apply Kd.R_drewN | apply Kd.R_drew)); exact HO281.out) hb); have n8_ := Aside0.mk (Kd.R_below (by (with_reducible repeat (first | apply Kd.R_alloc | apply Kd.R_drewN | apply Kd.R_drew)); exact HO284.out) hb); have n9_ := Aside0.mk (Kd.R_below (by (with_reducible repeat (first | apply Kd.R_alloc | apply Kd.R_drewN | apply Kd.R_drew)); exact HO287.out) hb); have n10_ := Aside0.mk (blk_below (g := gb229) (o := .cells #[.slice A0_0 l0_0.length c0_0, .slice A0_1 l0_1.length c0_1] 46 (0, 0)) (by (with_reducible repeat (first | refine blk_drewN ?_ _ | refine blk_drew ?_ | refine blk_alloc ?_ _)); exact BK229.out) hb); have n11_ := Aside0.mk (blk_below (g := gb244) (o := .cells #[.slice Ao22 t237.length co22, .slice Ao25 t240.length co25] 49 (0, 0)) (by (with_reducible repeat (first | refine blk_drewN ?_ _ | refine blk_drew ?_ | refine blk_alloc ?_ _)); exact BK244.out) hb); have n12_ := Aside0.mk (blk_below (g := gb251) (o := .cells #[.slice Ao29 t269.length co29, .slice Ao33 t270.length co33] 49 (0, 0)) (by (with_reducible repeat (first | refine blk_drewN ?_ _ | refine blk_drew ?_ | refine blk_alloc ?_ _)); exact BK251.out) hb); have n13_ := Aside0.mk (blk_below (g := gb259) (o := .cells #[.slice Ao36 t252.length co36, .slice Ao41 t255.length co41] 49 (0, 0)) (by (with_reducible repeat (first | refine blk_drewN ?_ _ | refine blk_drew ?_ | refine blk_alloc ?_ _)); exact BK259.out) hb); have n14_ := Aside0.mk (below_step (by repeat (first | (with_reducible first | exact HB.out | apply below_alloc | apply pw_below_drewN | apply below_drew1 | refine below_set ?_ GE229.out | refine below_set ?_ GE244.out | refine below_set ?_ GE251.out | refine below_set ?_ GE259.out) | exact HB.out)) hb); have n15_ := Aside0.mk (hbox); have n16_ := Aside0.mk ((by rw [hg]; exact (below_size (by repeat (first | (with_reducible first | exact HB.out | apply below_alloc | apply pw_below_drewN | apply below_drew1 | refine below_set ?_ GE229.out | refine below_set ?_ GE244.out | refine below_set ?_ GE251.out | refine below_set ?_ GE259.out) | exact HB.out))) : w.heap.size ≤ gb289)); have n17_ := Aside0.mk ((by rw [hg]; exact (below_size (by repeat (first | (with_reducible first | exact HB.out | apply below_alloc | apply pw_below_drewN | apply below_drew1 | refine below_set ?_ GE229.out | refine below_set ?_ GE244.out | refine below_set ?_ GE251.out | refine below_set ?_ GE259.out) | exact HB.out))) : w.heap.size ≤ gb289)); have n18_ := Aside0.mk ((by rw [hg]; exact Nat.ne_of_lt (blk_lt (g := gb229) (o := .cells #[.slice A0_0 l0_0.length c0_0, .slice A0_1 l0_1.length c0_1] 46 (0, 0)) (by (with_reducible repeat (first | refine blk_drewN ?_ _ | refine blk_drew ?_ | refine blk_alloc ?_ _)); exact BK229.out)) : gb229 ≠ gb289)); have n19_ := Aside0.mk ((by rw [hg]; exact Nat.ne_of_gt (blk_lt (g := gb229) (o := .cells #[.slice A0_0 l0_0.length c0_0, .slice A0_1 l0_1.length c0_1] 46 (0, 0)) (by (with_reducible repeat (first | refine blk_drewN ?_ _ | refine blk_drew ?_ | refine blk_alloc ?_ _)); exact BK229.out)) : gb289 ≠ gb229)); have n20_ := Aside0.mk ((by rw [hg]; exact Nat.ne_of_lt (blk_lt (g := gb244) (o := .cells #[.slice Ao22 t237.length co22, .slice Ao25 t240.length co25] 49 (0, 0)) (by (with_reducible repeat (first | refine blk_drewN ?_ _ | refine blk_drew ?_ | refine blk_alloc ?_ _)); exact BK244.out)) : gb244 ≠ gb289)); have n21_ := Aside0.mk ((by rw [hg]; exact Nat.ne_of_gt (blk_lt (g := gb244) (o := .cells #[.slice Ao22 t237.length co22, .slice Ao25 t240.length co25] 49 (0, 0)) (by (with_reducible repeat (first | refine blk_drewN ?_ _ | refine blk_drew ?_ | refine blk_alloc ?_ _)); exact BK244.out)) : gb289 ≠ gb244)); have n22_ := Aside0.mk ((by rw [hg]; exact Nat.ne_of_lt (blk_lt (g := gb251) (o := .cells #[.slice Ao29 t269.length co29, .slice Ao33 t270.length co33] 49 (0, 0)) (by (with_reducible repeat (first | refine blk_drewN ?_ _ | refine blk_drew ?_ | refine blk_alloc ?_ _)); exact BK251.out)) : gb251 ≠ gb289)); have n23_ := Aside0.mk ((by rw [hg]; exact Nat.ne_of_gt (blk_lt (g := gb251) (o := .cells #[.slice Ao29 t269.length co29, .slice Ao33 t270.length co33] 49 (0, 0)) (by (with_reducible repeat (first | refine blk_drewN ?_ _ | refine blk_drew ?_ | refine blk_alloc ?_ _)); exact BK251.out)) : gb289 ≠ gb251)); have n24_ := Aside0.mk ((by rw [hg]; exact Nat.ne_of_lt (blk_lt (g := gb259) (o := .cells #[.slice Ao36 t252.length co36, .slice Ao41 t255.length co41] 49 (0, 0)) (by (with_reducible repeat (first | refine blk_drewN ?_ _ | refine blk_drew ?_ | refine blk_alloc ?_ _)); exact BK259.out)) : gb259 ≠ gb289)); have n25_ := Aside0.mk ((by rw [hg]; exact Nat.ne_of_gt (blk_lt (g := gb259) (o := .cells #[.slice Ao36 t252.length co36, .slice Ao41 t255.length co41] 49 (0, 0)) (by (with_reducible repeat (first | refine blk_drewN ?_ _ | refine blk_drew ?_ | refine blk_alloc ?_ _)); exact BK259.out)) : gb289 ≠ gb259)); clear HO_245000; clear HO_245001; clear HO_252000; clear HO_252001; clear HO_260000; clear HO_260001; clear HO278; clear HO281; clear HO284; clear HO287; clear BK229; clear BK244; clear BK251; clear BK259; clear HB; have HO_245000 := n0_; have HO_245001 := n1_; have HO_252000 := n2_; have HO_252001 := n3_; have HO_260000 := n4_; have HO_260001 := n5_; have HO278 := n6_; have HO281 := n7_; have HO284 := n8_; have HO287 := n9_; have BK229 := n10_; have BK244 := n11_; have BK251 := n12_; have BK259 := n13_; have HB := n14_; have BK289 := n15_; have GW289 := n16_; have GE289 := n17_; have NB229_289 := n18_; have NB289_229 := n19_; have NB244_289 := n20_; have NB289_244 := n21_; have NB251_289 := n22_; have NB289_251 := n23_; have NB259_289 := n24_; have NB289_259 := n25_; clear n0_ n1_ n2_ n3_ n4_ n5_ n6_ n7_ n8_ n9_ n10_ n11_ n12_ n13_ n14_ n15_ n16_ n17_ n18_ n19_ n20_ n21_ n22_ n23_ n24_ n25_; clear hb hbox hg; obtain ⟨Ao118, co118, eo118⟩ := Kd.R_slice HO284.out; subst eo118; have hnb119 := NB289_229.out; have hnc119 := NB229_289.out; have hnb120 := NB289_244.out; have hnc120 := NB244_289.out; have hnb121 := NB289_251.out; have hnc121 := NB251_289.out; have hnb122 := NB289_259.out; have hnc122 := NB259_289.out; have hcz123_0 : w117.cell? ⟨gb289, 0, none⟩ = some (.slice none 0 0) := (blk_cell BK289.out 0).trans rfl; have hcz123_1 : w117.cell? ⟨gb289, 1, none⟩ = some (.slice none 0 0) := (blk_cell BK289.out 1).trans rfl; have hfz123_0 := blk_frozen BK289.out 0; have hfz123_1 := blk_frozen BK289.out 1; obtain ⟨Ao124, co124, eo124⟩ := Kd.R_slice HO287.out; subst eo124))
                      (try simp only [Act.put, List.setIfInBounds_toArray, List.set_cons_zero, List.set_cons_succ])
                      go_cut [92] (fun v92 wc => ∃ (kq : Nat) (x92_101 : Bool), v92 = .bool x92_101 ∧ Aside0 (laws_FnExactClear.j2 kq t272 x92_101 t273 t274 = some r) ∧ Aside0 (kq ≤ kj64) ∧ Aside0 (Kd.R Kd.string 9 wc w.heap.size (fun k_ => some k_ ≠ ((.slice Ao29 t269.length co29) : Value).ownBlock ∧ some k_ ≠ ((.slice Ao36 t252.length co36) : Value).ownBlock ∧ some k_ ≠ ((.slice Ao118 t282.length co118) : Value).ownBlock) (.slice Ao22 t237.length co22) t237) ∧ Aside0 (Kd.R (Kd.int .i64) 3 wc w.heap.size (fun k_ => some k_ ≠ ((.slice Ao33 t270.length co33) : Value).ownBlock ∧ some k_ ≠ ((.slice Ao41 t255.length co41) : Value).ownBlock ∧ some k_ ≠ ((.slice Ao124 t285.length co124) : Value).ownBlock) (.slice Ao25 t240.length co25) t240) ∧ Aside0 (Kd.R Kd.string 9 wc w.heap.size (fun k_ => some k_ ≠ ((.slice Ao22 t237.length co22) : Value).ownBlock ∧ some k_ ≠ ((.slice Ao36 t252.length co36) : Value).ownBlock ∧ some k_ ≠ ((.slice Ao118 t282.length co118) : Value).ownBlock) (.slice Ao29 t269.length co29) t269) ∧ Aside0 (Kd.R (Kd.int .i64) 3 wc w.heap.size (fun k_ => some k_ ≠ ((.slice Ao25 t240.length co25) : Value).ownBlock ∧ some k_ ≠ ((.slice Ao41 t255.length co41) : Value).ownBlock ∧ some k_ ≠ ((.slice Ao124 t285.length co124) : Value).ownBlock) (.slice Ao33 t270.length co33) t270) ∧ Aside0 (Kd.R Kd.string 9 wc w.heap.size (fun k_ => some k_ ≠ ((.slice Ao22 t237.length co22) : Value).ownBlock ∧ some k_ ≠ ((.slice Ao29 t269.length co29) : Value).ownBlock ∧ some k_ ≠ ((.slice Ao118 t282.length co118) : Value).ownBlock) (.slice Ao36 t252.length co36) t273) ∧ Aside0 (Kd.R (Kd.int .i64) 3 wc w.heap.size (fun k_ => some k_ ≠ ((.slice Ao25 t240.length co25) : Value).ownBlock ∧ some k_ ≠ ((.slice Ao33 t270.length co33) : Value).ownBlock ∧ some k_ ≠ ((.slice Ao124 t285.length co124) : Value).ownBlock) (.slice Ao41 t255.length co41) t274) ∧ Aside0 (Kd.R Kd.string 9 wc w.heap.size (fun k_ => some k_ ≠ ((.slice Ao22 t237.length co22) : Value).ownBlock ∧ some k_ ≠ ((.slice Ao29 t269.length co29) : Value).ownBlock ∧ some k_ ≠ ((.slice Ao36 t252.length co36) : Value).ownBlock) (.slice Ao118 t282.length co118) t282) ∧ Aside0 (Kd.R (Kd.int .i64) 3 wc w.heap.size (fun k_ => some k_ ≠ ((.slice Ao25 t240.length co25) : Value).ownBlock ∧ some k_ ≠ ((.slice Ao33 t270.length co33) : Value).ownBlock ∧ some k_ ≠ ((.slice Ao41 t255.length co41) : Value).ownBlock) (.slice Ao124 t285.length co124) t285) ∧ Aside0 (wc.heap[gb229]? = some (.cells #[(.slice A0_0 l0_0.length c0_0), (.slice A0_1 l0_1.length c0_1)] 46 (0, 0))) ∧ Aside0 (wc.heap[gb244]? = some (.cells #[(.slice Ao22 t237.length co22), (.slice Ao25 t240.length co25)] 49 (0, 0))) ∧ Aside0 (wc.heap[gb251]? = some (.cells #[(.slice Ao29 t269.length co29), (.slice Ao33 t270.length co33)] 49 (0, 0))) ∧ Aside0 (wc.heap[gb259]? = some (.cells #[(.slice Ao36 t252.length co36), (.slice Ao41 t255.length co41)] 49 (0, 0))) ∧ Aside0 (wc.heap[gb289]? = some (.cells #[(.slice Ao118 t282.length co118), (.slice Ao124 t285.length co124)] 49 (0, 0))) ∧ Aside0 (Below w.heap.size w wc))
                      case first =>
                        have H := HC102.out
                        clear HC102
                        replace H := Option.bind_eq_some_iff.mp H
                        obtain ⟨t290, A1250, H⟩ := H
                        replace H : (if t290 = true then (laws_FnExactClear.j2 kj64 t272 (t288 != t243) t273 t274) else (laws_FnExactClear.j2 kj64 t272 true t273 t274)) = some r := H
                        have A125 := Aside0.mk A1250
                        clear A1250
                        by_cases c126 : t290 = true
                        · subst c126
                          have H1 : (laws_FnExactClear.j2 kj64 t272 (t288 != t243) t273 t274) = some r := by rw [if_pos rfl] at H; exact H
                          clear H
                          have H := H1
                          clear H1
                          have H' := Aside0.mk H
                          clear H
                          have hnb127 := NB289_229.out
                          have hnc127 := NB229_289.out
                          have hnb128 := NB289_244.out
                          have hnc128 := NB244_289.out
                          have hnb129 := NB289_251.out
                          have hnc129 := NB251_289.out
                          have hnb130 := NB289_259.out
                          have hnc130 := NB259_289.out
                          have hcz131_0 : w117.cell? ⟨gb289, 0, none⟩ = some (.slice none 0 0) := (blk_cell BK289.out 0).trans rfl
                          have hcz131_1 : w117.cell? ⟨gb289, 1, none⟩ = some (.slice none 0 0) := (blk_cell BK289.out 1).trans rfl
                          have hfz131_0 := blk_frozen BK289.out 0
                          have hfz131_1 := blk_frozen BK289.out 1
                          have hnb132 := NB244_229.out
                          have hnc132 := NB229_244.out
                          have hnb133 := NB244_251.out
                          have hnc133 := NB251_244.out
                          have hnb134 := NB244_259.out
                          have hnc134 := NB259_244.out
                          have hcz135_0 : w117.cell? ⟨gb244, 0, none⟩ = some (.slice Ao22 t237.length co22) := (blk_cell BK244.out 0).trans rfl
                          have hcz135_1 : w117.cell? ⟨gb244, 1, none⟩ = some (.slice Ao25 t240.length co25) := (blk_cell BK244.out 1).trans rfl
                          have hfz135_0 := blk_frozen BK244.out 0
                          have hfz135_1 := blk_frozen BK244.out 1
                          go_wp2_with (first | ((with_reducible refine gate_callee (f := 36) rfl ?_); refine goesL_ (some 86) rfl rfl Try.func36 (by kernel_rfl) rfl #[.agg #[.slice Ao118 t282.length co118, .slice Ao124 t285.length co124], .agg #[.slice Ao22 t237.length co22, .slice Ao25 t240.length co25]] rfl (by (try simp only [List.map_toArray, List.map_cons, List.map_nil]); first | done | rfl | (simp only [List.length_drop, List.length_take]; rfl)) ?_; (with_reducible refine (laws_eqChip.calls kj64 _ _ t282 _ _ t285 _ _ t237 _ _ t240 true _ ?side1 ?side2 ?side3 ?side4 ?side5 ?side6 ?side7 ?side8 A125.out).mono ?_); (case side1 => refine (Kd.R_reads' (e := 9) (base := w.heap.size) (ok := fun k_ => ((((True ∧ some k_ ≠ (.slice Ao22 t237.length co22 : Value).ownBlock) ∧ some k_ ≠ (.slice Ao29 t269.length co29 : Value).ownBlock) ∧ some k_ ≠ (.slice Ao36 t252.length co36 : Value).ownBlock) ∧ some k_ ≠ (.slice Ao114 t276.length co114 : Value).ownBlock)) (n := t282.length) (c := co118) ?_).2.2; exact (by (with_reducible repeat (first | apply Kd.R_alloc | apply Kd.R_drewN | apply Kd.R_drew)); exact (Kd.R_mono (Kd.R_far (p := ⟨gb289, 1, none⟩) (Kd.R_far (p := ⟨gb289, 0, none⟩) (Kd.R_types HO284.out BK289.out (by decide)) (fun _ hk => hk.2) (.slice Ao118 t282.length co118)) (fun _ hk => hk.2) (.slice Ao124 t285.length co124)) (fun _ h_ => h_.1)))); (case side2 => exact (Kd.R_reads' HO284.out).2.1); (case side3 => refine (Kd.R_reads' (e := 3) (base := w.heap.size) (ok := fun k_ => ((((True ∧ some k_ ≠ (.slice Ao25 t240.length co25 : Value).ownBlock) ∧ some k_ ≠ (.slice Ao33 t270.length co33 : Value).ownBlock) ∧ some k_ ≠ (.slice Ao41 t255.length co41 : Value).ownBlock) ∧ some k_ ≠ (.slice Ao115 t279.length co115 : Value).ownBlock)) (n := t285.length) (c := co124) ?_).2.2; exact (by (with_reducible repeat (first | apply Kd.R_alloc | apply Kd.R_drewN | apply Kd.R_drew)); exact (Kd.R_mono (Kd.R_far (p := ⟨gb289, 1, none⟩) (Kd.R_far (p := ⟨gb289, 0, none⟩) (Kd.R_types HO287.out BK289.out (by decide)) (fun _ hk => hk.2) (.slice Ao118 t282.length co118)) (fun _ hk => hk.2) (.slice Ao124 t285.length co124)) (fun _ h_ => h_.1)))); (case side4 => exact (Kd.R_reads' HO287.out).2.1); (case side5 => refine (Kd.R_reads' (e := 9) (base := w.heap.size) (ok := fun k_ => (((some k_ ≠ (.slice Ao29 t269.length co29 : Value).ownBlock ∧ some k_ ≠ (.slice Ao36 t252.length co36 : Value).ownBlock) ∧ some k_ ≠ (.slice Ao114 t276.length co114 : Value).ownBlock) ∧ some k_ ≠ (.slice Ao118 t282.length co118 : Value).ownBlock)) (n := t237.length) (c := co22) ?_).2.2; exact (by (with_reducible repeat (first | apply Kd.R_alloc | apply Kd.R_drewN | apply Kd.R_drew)); exact (Kd.R_mono (Kd.R_far (p := ⟨gb289, 1, none⟩) (Kd.R_far (p := ⟨gb289, 0, none⟩) (Kd.R_types HO_245000.out BK289.out (by decide)) (fun _ hk => hk.2) (.slice Ao118 t282.length co118)) (fun _ hk => hk.2) (.slice Ao124 t285.length co124)) (fun _ h_ => h_.1)))); (case side6 => exact (Kd.R_reads' HO_245000.out).2.1); (case side7 => refine (Kd.R_reads' (e := 3) (base := w.heap.size) (ok := fun k_ => (((some k_ ≠ (.slice Ao33 t270.length co33 : Value).ownBlock ∧ some k_ ≠ (.slice Ao41 t255.length co41 : Value).ownBlock) ∧ some k_ ≠ (.slice Ao115 t279.length co115 : Value).ownBlock) ∧ some k_ ≠ (.slice Ao124 t285.length co124 : Value).ownBlock)) (n := t240.length) (c := co25) ?_).2.2; exact (by (with_reducible repeat (first | apply Kd.R_alloc | apply Kd.R_drewN | apply Kd.R_drew)); exact (Kd.R_mono (Kd.R_far (p := ⟨gb289, 1, none⟩) (Kd.R_far (p := ⟨gb289, 0, none⟩) (Kd.R_types HO_245001.out BK289.out (by decide)) (fun _ hk => hk.2) (.slice Ao118 t282.length co118)) (fun _ hk => hk.2) (.slice Ao124 t285.length co124)) (fun _ h_ => h_.1)))); (case side8 => exact (Kd.R_reads' HO_245001.out).2.1); rintro e w136 ⟨rfl, hb⟩; refine ⟨_, rfl, ?_⟩; have n0_ := Aside0.mk (Kd.R_below (by (with_reducible repeat (first | apply Kd.R_alloc | apply Kd.R_drewN | apply Kd.R_drew)); exact (Kd.R_mono (Kd.R_far (p := ⟨gb289, 1, none⟩) (Kd.R_far (p := ⟨gb289, 0, none⟩) (Kd.R_types HO_245000.out BK289.out (by decide)) (fun _ hk => hk.2) (.slice Ao118 t282.length co118)) (fun _ hk => hk.2) (.slice Ao124 t285.length co124)) (fun _ h_ => h_.1))) hb); have n1_ := Aside0.mk (Kd.R_below (by (with_reducible repeat (first | apply Kd.R_alloc | apply Kd.R_drewN | apply Kd.R_drew)); exact (Kd.R_mono (Kd.R_far (p := ⟨gb289, 1, none⟩) (Kd.R_far (p := ⟨gb289, 0, none⟩) (Kd.R_types HO_245001.out BK289.out (by decide)) (fun _ hk => hk.2) (.slice Ao118 t282.length co118)) (fun _ hk => hk.2) (.slice Ao124 t285.length co124)) (fun _ h_ => h_.1))) hb); have n2_ := Aside0.mk (Kd.R_below (by (with_reducible repeat (first | apply Kd.R_alloc | apply Kd.R_drewN | apply Kd.R_drew)); exact (Kd.R_mono (Kd.R_far (p := ⟨gb289, 1, none⟩) (Kd.R_far (p := ⟨gb289, 0, none⟩) (Kd.R_types HO_252000.out BK289.out (by decide)) (fun _ hk => hk.2) (.slice Ao118 t282.length co118)) (fun _ hk => hk.2) (.slice Ao124 t285.length co124)) (fun _ h_ => h_.1))) hb); have n3_ := Aside0.mk (Kd.R_below (by (with_reducible repeat (first | apply Kd.R_alloc | apply Kd.R_drewN | apply Kd.R_drew)); exact (Kd.R_mono (Kd.R_far (p := ⟨gb289, 1, none⟩) (Kd.R_far (p := ⟨gb289, 0, none⟩) (Kd.R_types HO_252001.out BK289.out (by decide)) (fun _ hk => hk.2) (.slice Ao118 t282.length co118)) (fun _ hk => hk.2) (.slice Ao124 t285.length co124)) (fun _ h_ => h_.1))) hb); have n4_ := Aside0.mk (Kd.R_below (by (with_reducible repeat (first | apply Kd.R_alloc | apply Kd.R_drewN | apply Kd.R_drew)); exact (Kd.R_mono (Kd.R_far (p := ⟨gb289, 1, none⟩) (Kd.R_far (p := ⟨gb289, 0, none⟩) (Kd.R_types HO_260000.out BK289.out (by decide)) (fun _ hk => hk.2) (.slice Ao118 t282.length co118)) (fun _ hk => hk.2) (.slice Ao124 t285.length co124)) (fun _ h_ => h_.1))) hb); have n5_ := Aside0.mk (Kd.R_below (by (with_reducible repeat (first | apply Kd.R_alloc | apply Kd.R_drewN | apply Kd.R_drew)); exact (Kd.R_mono (Kd.R_far (p := ⟨gb289, 1, none⟩) (Kd.R_far (p := ⟨gb289, 0, none⟩) (Kd.R_types HO_260001.out BK289.out (by decide)) (fun _ hk => hk.2) (.slice Ao118 t282.length co118)) (fun _ hk => hk.2) (.slice Ao124 t285.length co124)) (fun _ h_ => h_.1))) hb); have n6_ := Aside0.mk (Kd.R_below (by (with_reducible repeat (first | apply Kd.R_alloc | apply Kd.R_drewN | apply Kd.R_drew)); exact (Kd.R_mono (Kd.R_far (p := ⟨gb289, 1, none⟩) (Kd.R_far (p := ⟨gb289, 0, none⟩) (Kd.R_types HO278.out BK289.out (by decide)) (fun _ hk => hk.2) (.slice Ao118 t282.length co118)) (fun _ hk => hk.2) (.slice Ao124 t285.length co124)) (fun _ h_ => h_.1))) hb); have n7_ := Aside0.mk (Kd.R_below (by (with_reducible repeat (first | apply Kd.R_alloc | apply Kd.R_drewN | apply Kd.R_drew)); exact (Kd.R_mono (Kd.R_far (p := ⟨gb289, 1, none⟩) (Kd.R_far (p := ⟨gb289, 0, none⟩) (Kd.R_types HO281.out BK289.out (by decide)) (fun _ hk => hk.2) (.slice Ao118 t282.length co118)) (fun _ hk => hk.2) (.slice Ao124 t285.length co124)) (fun _ h_ => h_.1))) hb); have n8_ := Aside0.mk (Kd.R_below (by (with_reducible repeat (first | apply Kd.R_alloc | apply Kd.R_drewN | apply Kd.R_drew)); exact (Kd.R_mono (Kd.R_far (p := ⟨gb289, 1, none⟩) (Kd.R_far (p := ⟨gb289, 0, none⟩) (Kd.R_types HO284.out BK289.out (by decide)) (fun _ hk => hk.2) (.slice Ao118 t282.length co118)) (fun _ hk => hk.2) (.slice Ao124 t285.length co124)) (fun _ h_ => h_.1))) hb); have n9_ := Aside0.mk (Kd.R_below (by (with_reducible repeat (first | apply Kd.R_alloc | apply Kd.R_drewN | apply Kd.R_drew)); exact (Kd.R_mono (Kd.R_far (p := ⟨gb289, 1, none⟩) (Kd.R_far (p := ⟨gb289, 0, none⟩) (Kd.R_types HO287.out BK289.out (by decide)) (fun _ hk => hk.2) (.slice Ao118 t282.length co118)) (fun _ hk => hk.2) (.slice Ao124 t285.length co124)) (fun _ h_ => h_.1))) hb); have n10_ := Aside0.mk (blk_below (g := gb229) (o := .cells #[.slice A0_0 l0_0.length c0_0, .slice A0_1 l0_1.length c0_1] 46 (0, 0)) (by (with_reducible repeat (first | refine blk_drewN ?_ _ | refine blk_drew ?_ | refine blk_alloc ?_ _)); refine blk_far ?_ NB229_289.out _; (with_reducible repeat (first | refine blk_drewN ?_ _ | refine blk_drew ?_ | refine blk_alloc ?_ _)); refine blk_far ?_ NB229_289.out _; (with_reducible repeat (first | refine blk_drewN ?_ _ | refine blk_drew ?_ | refine blk_alloc ?_ _)); exact BK229.out) hb); have n11_ := Aside0.mk (blk_below (g := gb244) (o := .cells #[.slice Ao22 t237.length co22, .slice Ao25 t240.length co25] 49 (0, 0)) (by (with_reducible repeat (first | refine blk_drewN ?_ _ | refine blk_drew ?_ | refine blk_alloc ?_ _)); refine blk_far ?_ NB244_289.out _; (with_reducible repeat (first | refine blk_drewN ?_ _ | refine blk_drew ?_ | refine blk_alloc ?_ _)); refine blk_far ?_ NB244_289.out _; (with_reducible repeat (first | refine blk_drewN ?_ _ | refine blk_drew ?_ | refine blk_alloc ?_ _)); exact BK244.out) hb); have n12_ := Aside0.mk (blk_below (g := gb251) (o := .cells #[.slice Ao29 t269.length co29, .slice Ao33 t270.length co33] 49 (0, 0)) (by (with_reducible repeat (first | refine blk_drewN ?_ _ | refine blk_drew ?_ | refine blk_alloc ?_ _)); refine blk_far ?_ NB251_289.out _; (with_reducible repeat (first | refine blk_drewN ?_ _ | refine blk_drew ?_ | refine blk_alloc ?_ _)); refine blk_far ?_ NB251_289.out _; (with_reducible repeat (first | refine blk_drewN ?_ _ | refine blk_drew ?_ | refine blk_alloc ?_ _)); exact BK251.out) hb); have n13_ := Aside0.mk (blk_below (g := gb259) (o := .cells #[.slice Ao36 t252.length co36, .slice Ao41 t255.length co41] 49 (0, 0)) (by (with_reducible repeat (first | refine blk_drewN ?_ _ | refine blk_drew ?_ | refine blk_alloc ?_ _)); refine blk_far ?_ NB259_289.out _; (with_reducible repeat (first | refine blk_drewN ?_ _ | refine blk_drew ?_ | refine blk_alloc ?_ _)); refine blk_far ?_ NB259_289.out _; (with_reducible repeat (first | refine blk_drewN ?_ _ | refine blk_drew ?_ | refine blk_alloc ?_ _)); exact BK259.out) hb); have n14_ := Aside0.mk (blk_below (g := gb289) (o := .cells #[.slice Ao118 t282.length co118, .slice Ao124 t285.length co124] 49 (0, 0)) (by (with_reducible repeat (first | refine blk_drewN ?_ _ | refine blk_drew ?_ | refine blk_alloc ?_ _)); refine blk_put (cs := #[.slice Ao118 t282.length co118, .slice none 0 0]) ?_ 1 _ rfl; (with_reducible repeat (first | refine blk_drewN ?_ _ | refine blk_drew ?_ | refine blk_alloc ?_ _)); refine blk_put (cs := #[.slice none 0 0, .slice none 0 0]) ?_ 0 _ rfl; (with_reducible repeat (first | refine blk_drewN ?_ _ | refine blk_drew ?_ | refine blk_alloc ?_ _)); exact BK289.out) hb); have n15_ := Aside0.mk (below_step (by repeat (first | (with_reducible first | exact HB.out | apply below_alloc | apply pw_below_drewN | apply below_drew1 | refine below_set ?_ GE229.out | refine below_set ?_ GE244.out | refine below_set ?_ GE251.out | refine below_set ?_ GE259.out | refine below_set ?_ GE289.out) | exact HB.out)) hb); clear HO_245000; clear HO_245001; clear HO_252000; clear HO_252001; clear HO_260000; clear HO_260001; clear HO278; clear HO281; clear HO284; clear HO287; clear BK229; clear BK244; clear BK251; clear BK259; clear BK289; clear HB; have HO_245000 := n0_; have HO_245001 := n1_; have HO_252000 := n2_; have HO_252001 := n3_; have HO_260000 := n4_; have HO_260001 := n5_; have HO278 := n6_; have HO281 := n7_; have HO284 := n8_; have HO287 := n9_; have BK229 := n10_; have BK244 := n11_; have BK251 := n12_; have BK259 := n13_; have BK289 := n14_; have HB := n15_; clear n0_ n1_ n2_ n3_ n4_ n5_ n6_ n7_ n8_ n9_ n10_ n11_ n12_ n13_ n14_ n15_; (try clear hb); (try clear hb2); (try clear hk); (try clear hi)))
                          go_meet
                          case rel => exact ⟨_, ((t288 != t243)), (by first | rfl | (simp; done) | (simp [*]; done)), H', ⟨by have := HJ11.out; have := HJ64.out; first | omega | exact Nat.le_refl _⟩, ⟨by (try simp only [hl252000_64]); (try simp only [hl252001_64]); (with_reducible repeat (first | apply Kd.R_alloc | apply Kd.R_drewN | apply Kd.R_drew)); exact Kd.R_mono HO_245000.out (fun _ hk => ⟨hk.1.1.1, ⟨hk.1.1.2, hk.2⟩⟩)⟩, ⟨by (try simp only [hl252000_64]); (try simp only [hl252001_64]); (with_reducible repeat (first | apply Kd.R_alloc | apply Kd.R_drewN | apply Kd.R_drew)); exact Kd.R_mono HO_245001.out (fun _ hk => ⟨hk.1.1.1, ⟨hk.1.1.2, hk.2⟩⟩)⟩, ⟨by (try simp only [hl252000_64]); (try simp only [hl252001_64]); (with_reducible repeat (first | apply Kd.R_alloc | apply Kd.R_drewN | apply Kd.R_drew)); exact Kd.R_mono HO_252000.out (fun _ hk => ⟨hk.1.1.1, ⟨hk.1.1.2, hk.2⟩⟩)⟩, ⟨by (try simp only [hl252000_64]); (try simp only [hl252001_64]); (with_reducible repeat (first | apply Kd.R_alloc | apply Kd.R_drewN | apply Kd.R_drew)); exact Kd.R_mono HO_252001.out (fun _ hk => ⟨hk.1.1.1, ⟨hk.1.1.2, hk.2⟩⟩)⟩, ⟨by (try simp only [hl252000_64]); (try simp only [hl252001_64]); (with_reducible repeat (first | apply Kd.R_alloc | apply Kd.R_drewN | apply Kd.R_drew)); exact Kd.R_mono HO_260000.out (fun _ hk => ⟨hk.1.1.1, ⟨hk.1.1.2, hk.2⟩⟩)⟩, ⟨by (try simp only [hl252000_64]); (try simp only [hl252001_64]); (with_reducible repeat (first | apply Kd.R_alloc | apply Kd.R_drewN | apply Kd.R_drew)); exact Kd.R_mono HO_260001.out (fun _ hk => ⟨hk.1.1.1, ⟨hk.1.1.2, hk.2⟩⟩)⟩, ⟨by (try simp only [hl252000_64]); (try simp only [hl252001_64]); (with_reducible repeat (first | apply Kd.R_alloc | apply Kd.R_drewN | apply Kd.R_drew)); exact Kd.R_mono HO284.out (fun _ hk => ⟨hk.1.1.1.2, ⟨hk.1.1.2, hk.1.2⟩⟩)⟩, ⟨by (try simp only [hl252000_64]); (try simp only [hl252001_64]); (with_reducible repeat (first | apply Kd.R_alloc | apply Kd.R_drewN | apply Kd.R_drew)); exact Kd.R_mono HO287.out (fun _ hk => ⟨hk.1.1.1.2, ⟨hk.1.1.2, hk.1.2⟩⟩)⟩, ⟨by (try simp only [hl252000_64]); (try simp only [hl252001_64]); (with_reducible repeat (first | refine blk_drewN ?_ _ | refine blk_drew ?_ | refine blk_alloc ?_ _)); exact BK229.out⟩, ⟨by (try simp only [hl252000_64]); (try simp only [hl252001_64]); (with_reducible repeat (first | refine blk_drewN ?_ _ | refine blk_drew ?_ | refine blk_alloc ?_ _)); exact BK244.out⟩, ⟨by (try simp only [hl252000_64]); (try simp only [hl252001_64]); (with_reducible repeat (first | refine blk_drewN ?_ _ | refine blk_drew ?_ | refine blk_alloc ?_ _)); exact BK251.out⟩, ⟨by (try simp only [hl252000_64]); (try simp only [hl252001_64]); (with_reducible repeat (first | refine blk_drewN ?_ _ | refine blk_drew ?_ | refine blk_alloc ?_ _)); exact BK259.out⟩, ⟨by (try simp only [hl252000_64]); (try simp only [hl252001_64]); (with_reducible repeat (first | refine blk_drewN ?_ _ | refine blk_drew ?_ | refine blk_alloc ?_ _)); exact BK289.out⟩, ⟨by repeat (first | (with_reducible first | exact HB.out | apply below_alloc | apply pw_below_drewN | apply below_drew1 | refine below_set ?_ GE229.out | refine below_set ?_ GE244.out | refine below_set ?_ GE251.out | refine below_set ?_ GE259.out | refine below_set ?_ GE289.out) | exact HB.out)⟩⟩
                        · replace c126 := Bool.eq_false_iff.mpr c126
                          subst c126
                          have H1 : (laws_FnExactClear.j2 kj64 t272 true t273 t274) = some r := by rw [if_neg (show ¬ (false = true) by decide)] at H; exact H
                          clear H
                          have H := H1
                          clear H1
                          have H' := Aside0.mk H
                          clear H
                          have hnb137 := NB289_229.out
                          have hnc137 := NB229_289.out
                          have hnb138 := NB289_244.out
                          have hnc138 := NB244_289.out
                          have hnb139 := NB289_251.out
                          have hnc139 := NB251_289.out
                          have hnb140 := NB289_259.out
                          have hnc140 := NB259_289.out
                          have hcz141_0 : w117.cell? ⟨gb289, 0, none⟩ = some (.slice none 0 0) := (blk_cell BK289.out 0).trans rfl
                          have hcz141_1 : w117.cell? ⟨gb289, 1, none⟩ = some (.slice none 0 0) := (blk_cell BK289.out 1).trans rfl
                          have hfz141_0 := blk_frozen BK289.out 0
                          have hfz141_1 := blk_frozen BK289.out 1
                          have hnb142 := NB244_229.out
                          have hnc142 := NB229_244.out
                          have hnb143 := NB244_251.out
                          have hnc143 := NB251_244.out
                          have hnb144 := NB244_259.out
                          have hnc144 := NB259_244.out
                          have hcz145_0 : w117.cell? ⟨gb244, 0, none⟩ = some (.slice Ao22 t237.length co22) := (blk_cell BK244.out 0).trans rfl
                          have hcz145_1 : w117.cell? ⟨gb244, 1, none⟩ = some (.slice Ao25 t240.length co25) := (blk_cell BK244.out 1).trans rfl
                          have hfz145_0 := blk_frozen BK244.out 0
                          have hfz145_1 := blk_frozen BK244.out 1
                          go_wp2_with (first | ((with_reducible refine gate_callee (f := 36) rfl ?_); refine goesL_ (some 86) rfl rfl Try.func36 (by kernel_rfl) rfl #[.agg #[.slice Ao118 t282.length co118, .slice Ao124 t285.length co124], .agg #[.slice Ao22 t237.length co22, .slice Ao25 t240.length co25]] rfl (by (try simp only [List.map_toArray, List.map_cons, List.map_nil]); first | done | rfl | (simp only [List.length_drop, List.length_take]; rfl)) ?_; (with_reducible refine (laws_eqChip.calls kj64 _ _ t282 _ _ t285 _ _ t237 _ _ t240 false _ ?side1 ?side2 ?side3 ?side4 ?side5 ?side6 ?side7 ?side8 A125.out).mono ?_); (case side1 => refine (Kd.R_reads' (e := 9) (base := w.heap.size) (ok := fun k_ => ((((True ∧ some k_ ≠ (.slice Ao22 t237.length co22 : Value).ownBlock) ∧ some k_ ≠ (.slice Ao29 t269.length co29 : Value).ownBlock) ∧ some k_ ≠ (.slice Ao36 t252.length co36 : Value).ownBlock) ∧ some k_ ≠ (.slice Ao114 t276.length co114 : Value).ownBlock)) (n := t282.length) (c := co118) ?_).2.2; exact (by (with_reducible repeat (first | apply Kd.R_alloc | apply Kd.R_drewN | apply Kd.R_drew)); exact (Kd.R_mono (Kd.R_far (p := ⟨gb289, 1, none⟩) (Kd.R_far (p := ⟨gb289, 0, none⟩) (Kd.R_types HO284.out BK289.out (by decide)) (fun _ hk => hk.2) (.slice Ao118 t282.length co118)) (fun _ hk => hk.2) (.slice Ao124 t285.length co124)) (fun _ h_ => h_.1)))); (case side2 => exact (Kd.R_reads' HO284.out).2.1); (case side3 => refine (Kd.R_reads' (e := 3) (base := w.heap.size) (ok := fun k_ => ((((True ∧ some k_ ≠ (.slice Ao25 t240.length co25 : Value).ownBlock) ∧ some k_ ≠ (.slice Ao33 t270.length co33 : Value).ownBlock) ∧ some k_ ≠ (.slice Ao41 t255.length co41 : Value).ownBlock) ∧ some k_ ≠ (.slice Ao115 t279.length co115 : Value).ownBlock)) (n := t285.length) (c := co124) ?_).2.2; exact (by (with_reducible repeat (first | apply Kd.R_alloc | apply Kd.R_drewN | apply Kd.R_drew)); exact (Kd.R_mono (Kd.R_far (p := ⟨gb289, 1, none⟩) (Kd.R_far (p := ⟨gb289, 0, none⟩) (Kd.R_types HO287.out BK289.out (by decide)) (fun _ hk => hk.2) (.slice Ao118 t282.length co118)) (fun _ hk => hk.2) (.slice Ao124 t285.length co124)) (fun _ h_ => h_.1)))); (case side4 => exact (Kd.R_reads' HO287.out).2.1); (case side5 => refine (Kd.R_reads' (e := 9) (base := w.heap.size) (ok := fun k_ => (((some k_ ≠ (.slice Ao29 t269.length co29 : Value).ownBlock ∧ some k_ ≠ (.slice Ao36 t252.length co36 : Value).ownBlock) ∧ some k_ ≠ (.slice Ao114 t276.length co114 : Value).ownBlock) ∧ some k_ ≠ (.slice Ao118 t282.length co118 : Value).ownBlock)) (n := t237.length) (c := co22) ?_).2.2; exact (by (with_reducible repeat (first | apply Kd.R_alloc | apply Kd.R_drewN | apply Kd.R_drew)); exact (Kd.R_mono (Kd.R_far (p := ⟨gb289, 1, none⟩) (Kd.R_far (p := ⟨gb289, 0, none⟩) (Kd.R_types HO_245000.out BK289.out (by decide)) (fun _ hk => hk.2) (.slice Ao118 t282.length co118)) (fun _ hk => hk.2) (.slice Ao124 t285.length co124)) (fun _ h_ => h_.1)))); (case side6 => exact (Kd.R_reads' HO_245000.out).2.1); (case side7 => refine (Kd.R_reads' (e := 3) (base := w.heap.size) (ok := fun k_ => (((some k_ ≠ (.slice Ao33 t270.length co33 : Value).ownBlock ∧ some k_ ≠ (.slice Ao41 t255.length co41 : Value).ownBlock) ∧ some k_ ≠ (.slice Ao115 t279.length co115 : Value).ownBlock) ∧ some k_ ≠ (.slice Ao124 t285.length co124 : Value).ownBlock)) (n := t240.length) (c := co25) ?_).2.2; exact (by (with_reducible repeat (first | apply Kd.R_alloc | apply Kd.R_drewN | apply Kd.R_drew)); exact (Kd.R_mono (Kd.R_far (p := ⟨gb289, 1, none⟩) (Kd.R_far (p := ⟨gb289, 0, none⟩) (Kd.R_types HO_245001.out BK289.out (by decide)) (fun _ hk => hk.2) (.slice Ao118 t282.length co118)) (fun _ hk => hk.2) (.slice Ao124 t285.length co124)) (fun _ h_ => h_.1)))); (case side8 => exact (Kd.R_reads' HO_245001.out).2.1); rintro e w146 ⟨rfl, hb⟩; refine ⟨_, rfl, ?_⟩; have n0_ := Aside0.mk (Kd.R_below (by (with_reducible repeat (first | apply Kd.R_alloc | apply Kd.R_drewN | apply Kd.R_drew)); exact (Kd.R_mono (Kd.R_far (p := ⟨gb289, 1, none⟩) (Kd.R_far (p := ⟨gb289, 0, none⟩) (Kd.R_types HO_245000.out BK289.out (by decide)) (fun _ hk => hk.2) (.slice Ao118 t282.length co118)) (fun _ hk => hk.2) (.slice Ao124 t285.length co124)) (fun _ h_ => h_.1))) hb); have n1_ := Aside0.mk (Kd.R_below (by (with_reducible repeat (first | apply Kd.R_alloc | apply Kd.R_drewN | apply Kd.R_drew)); exact (Kd.R_mono (Kd.R_far (p := ⟨gb289, 1, none⟩) (Kd.R_far (p := ⟨gb289, 0, none⟩) (Kd.R_types HO_245001.out BK289.out (by decide)) (fun _ hk => hk.2) (.slice Ao118 t282.length co118)) (fun _ hk => hk.2) (.slice Ao124 t285.length co124)) (fun _ h_ => h_.1))) hb); have n2_ := Aside0.mk (Kd.R_below (by (with_reducible repeat (first | apply Kd.R_alloc | apply Kd.R_drewN | apply Kd.R_drew)); exact (Kd.R_mono (Kd.R_far (p := ⟨gb289, 1, none⟩) (Kd.R_far (p := ⟨gb289, 0, none⟩) (Kd.R_types HO_252000.out BK289.out (by decide)) (fun _ hk => hk.2) (.slice Ao118 t282.length co118)) (fun _ hk => hk.2) (.slice Ao124 t285.length co124)) (fun _ h_ => h_.1))) hb); have n3_ := Aside0.mk (Kd.R_below (by (with_reducible repeat (first | apply Kd.R_alloc | apply Kd.R_drewN | apply Kd.R_drew)); exact (Kd.R_mono (Kd.R_far (p := ⟨gb289, 1, none⟩) (Kd.R_far (p := ⟨gb289, 0, none⟩) (Kd.R_types HO_252001.out BK289.out (by decide)) (fun _ hk => hk.2) (.slice Ao118 t282.length co118)) (fun _ hk => hk.2) (.slice Ao124 t285.length co124)) (fun _ h_ => h_.1))) hb); have n4_ := Aside0.mk (Kd.R_below (by (with_reducible repeat (first | apply Kd.R_alloc | apply Kd.R_drewN | apply Kd.R_drew)); exact (Kd.R_mono (Kd.R_far (p := ⟨gb289, 1, none⟩) (Kd.R_far (p := ⟨gb289, 0, none⟩) (Kd.R_types HO_260000.out BK289.out (by decide)) (fun _ hk => hk.2) (.slice Ao118 t282.length co118)) (fun _ hk => hk.2) (.slice Ao124 t285.length co124)) (fun _ h_ => h_.1))) hb); have n5_ := Aside0.mk (Kd.R_below (by (with_reducible repeat (first | apply Kd.R_alloc | apply Kd.R_drewN | apply Kd.R_drew)); exact (Kd.R_mono (Kd.R_far (p := ⟨gb289, 1, none⟩) (Kd.R_far (p := ⟨gb289, 0, none⟩) (Kd.R_types HO_260001.out BK289.out (by decide)) (fun _ hk => hk.2) (.slice Ao118 t282.length co118)) (fun _ hk => hk.2) (.slice Ao124 t285.length co124)) (fun _ h_ => h_.1))) hb); have n6_ := Aside0.mk (Kd.R_below (by (with_reducible repeat (first | apply Kd.R_alloc | apply Kd.R_drewN | apply Kd.R_drew)); exact (Kd.R_mono (Kd.R_far (p := ⟨gb289, 1, none⟩) (Kd.R_far (p := ⟨gb289, 0, none⟩) (Kd.R_types HO278.out BK289.out (by decide)) (fun _ hk => hk.2) (.slice Ao118 t282.length co118)) (fun _ hk => hk.2) (.slice Ao124 t285.length co124)) (fun _ h_ => h_.1))) hb); have n7_ := Aside0.mk (Kd.R_below (by (with_reducible repeat (first | apply Kd.R_alloc | apply Kd.R_drewN | apply Kd.R_drew)); exact (Kd.R_mono (Kd.R_far (p := ⟨gb289, 1, none⟩) (Kd.R_far (p := ⟨gb289, 0, none⟩) (Kd.R_types HO281.out BK289.out (by decide)) (fun _ hk => hk.2) (.slice Ao118 t282.length co118)) (fun _ hk => hk.2) (.slice Ao124 t285.length co124)) (fun _ h_ => h_.1))) hb); have n8_ := Aside0.mk (Kd.R_below (by (with_reducible repeat (first | apply Kd.R_alloc | apply Kd.R_drewN | apply Kd.R_drew)); exact (Kd.R_mono (Kd.R_far (p := ⟨gb289, 1, none⟩) (Kd.R_far (p := ⟨gb289, 0, none⟩) (Kd.R_types HO284.out BK289.out (by decide)) (fun _ hk => hk.2) (.slice Ao118 t282.length co118)) (fun _ hk => hk.2) (.slice Ao124 t285.length co124)) (fun _ h_ => h_.1))) hb); have n9_ := Aside0.mk (Kd.R_below (by (with_reducible repeat (first | apply Kd.R_alloc | apply Kd.R_drewN | apply Kd.R_drew)); exact (Kd.R_mono (Kd.R_far (p := ⟨gb289, 1, none⟩) (Kd.R_far (p := ⟨gb289, 0, none⟩) (Kd.R_types HO287.out BK289.out (by decide)) (fun _ hk => hk.2) (.slice Ao118 t282.length co118)) (fun _ hk => hk.2) (.slice Ao124 t285.length co124)) (fun _ h_ => h_.1))) hb); have n10_ := Aside0.mk (blk_below (g := gb229) (o := .cells #[.slice A0_0 l0_0.length c0_0, .slice A0_1 l0_1.length c0_1] 46 (0, 0)) (by (with_reducible repeat (first | refine blk_drewN ?_ _ | refine blk_drew ?_ | refine blk_alloc ?_ _)); refine blk_far ?_ NB229_289.out _; (with_reducible repeat (first | refine blk_drewN ?_ _ | refine blk_drew ?_ | refine blk_alloc ?_ _)); refine blk_far ?_ NB229_289.out _; (with_reducible repeat (first | refine blk_drewN ?_ _ | refine blk_drew ?_ | refine blk_alloc ?_ _)); exact BK229.out) hb); have n11_ := Aside0.mk (blk_below (g := gb244) (o := .cells #[.slice Ao22 t237.length co22, .slice Ao25 t240.length co25] 49 (0, 0)) (by (with_reducible repeat (first | refine blk_drewN ?_ _ | refine blk_drew ?_ | refine blk_alloc ?_ _)); refine blk_far ?_ NB244_289.out _; (with_reducible repeat (first | refine blk_drewN ?_ _ | refine blk_drew ?_ | refine blk_alloc ?_ _)); refine blk_far ?_ NB244_289.out _; (with_reducible repeat (first | refine blk_drewN ?_ _ | refine blk_drew ?_ | refine blk_alloc ?_ _)); exact BK244.out) hb); have n12_ := Aside0.mk (blk_below (g := gb251) (o := .cells #[.slice Ao29 t269.length co29, .slice Ao33 t270.length co33] 49 (0, 0)) (by (with_reducible repeat (first | refine blk_drewN ?_ _ | refine blk_drew ?_ | refine blk_alloc ?_ _)); refine blk_far ?_ NB251_289.out _; (with_reducible repeat (first | refine blk_drewN ?_ _ | refine blk_drew ?_ | refine blk_alloc ?_ _)); refine blk_far ?_ NB251_289.out _; (with_reducible repeat (first | refine blk_drewN ?_ _ | refine blk_drew ?_ | refine blk_alloc ?_ _)); exact BK251.out) hb); have n13_ := Aside0.mk (blk_below (g := gb259) (o := .cells #[.slice Ao36 t252.length co36, .slice Ao41 t255.length co41] 49 (0, 0)) (by (with_reducible repeat (first | refine blk_drewN ?_ _ | refine blk_drew ?_ | refine blk_alloc ?_ _)); refine blk_far ?_ NB259_289.out _; (with_reducible repeat (first | refine blk_drewN ?_ _ | refine blk_drew ?_ | refine blk_alloc ?_ _)); refine blk_far ?_ NB259_289.out _; (with_reducible repeat (first | refine blk_drewN ?_ _ | refine blk_drew ?_ | refine blk_alloc ?_ _)); exact BK259.out) hb); have n14_ := Aside0.mk (blk_below (g := gb289) (o := .cells #[.slice Ao118 t282.length co118, .slice Ao124 t285.length co124] 49 (0, 0)) (by (with_reducible repeat (first | refine blk_drewN ?_ _ | refine blk_drew ?_ | refine blk_alloc ?_ _)); refine blk_put (cs := #[.slice Ao118 t282.length co118, .slice none 0 0]) ?_ 1 _ rfl; (with_reducible repeat (first | refine blk_drewN ?_ _ | refine blk_drew ?_ | refine blk_alloc ?_ _)); refine blk_put (cs := #[.slice none 0 0, .slice none 0 0]) ?_ 0 _ rfl; (with_reducible repeat (first | refine blk_drewN ?_ _ | refine blk_drew ?_ | refine blk_alloc ?_ _)); exact BK289.out) hb); have n15_ := Aside0.mk (below_step (by repeat (first | (with_reducible first | exact HB.out | apply below_alloc | apply pw_below_drewN | apply below_drew1 | refine below_set ?_ GE229.out | refine below_set ?_ GE244.out | refine below_set ?_ GE251.out | refine below_set ?_ GE259.out | refine below_set ?_ GE289.out) | exact HB.out)) hb); clear HO_245000; clear HO_245001; clear HO_252000; clear HO_252001; clear HO_260000; clear HO_260001; clear HO278; clear HO281; clear HO284; clear HO287; clear BK229; clear BK244; clear BK251; clear BK259; clear BK289; clear HB; have HO_245000 := n0_; have HO_245001 := n1_; have HO_252000 := n2_; have HO_252001 := n3_; have HO_260000 := n4_; have HO_260001 := n5_; have HO278 := n6_; have HO281 := n7_; have HO284 := n8_; have HO287 := n9_; have BK229 := n10_; have BK244 := n11_; have BK251 := n12_; have BK259 := n13_; have BK289 := n14_; have HB := n15_; clear n0_ n1_ n2_ n3_ n4_ n5_ n6_ n7_ n8_ n9_ n10_ n11_ n12_ n13_ n14_ n15_; (try clear hb); (try clear hb2); (try clear hk); (try clear hi)))
                          go_meet
                          case rel => exact ⟨_, (true), (by first | rfl | (simp; done) | (simp [*]; done)), H', ⟨by have := HJ11.out; have := HJ64.out; first | omega | exact Nat.le_refl _⟩, ⟨by (try simp only [hl252000_64]); (try simp only [hl252001_64]); (with_reducible repeat (first | apply Kd.R_alloc | apply Kd.R_drewN | apply Kd.R_drew)); exact Kd.R_mono HO_245000.out (fun _ hk => ⟨hk.1.1.1, ⟨hk.1.1.2, hk.2⟩⟩)⟩, ⟨by (try simp only [hl252000_64]); (try simp only [hl252001_64]); (with_reducible repeat (first | apply Kd.R_alloc | apply Kd.R_drewN | apply Kd.R_drew)); exact Kd.R_mono HO_245001.out (fun _ hk => ⟨hk.1.1.1, ⟨hk.1.1.2, hk.2⟩⟩)⟩, ⟨by (try simp only [hl252000_64]); (try simp only [hl252001_64]); (with_reducible repeat (first | apply Kd.R_alloc | apply Kd.R_drewN | apply Kd.R_drew)); exact Kd.R_mono HO_252000.out (fun _ hk => ⟨hk.1.1.1, ⟨hk.1.1.2, hk.2⟩⟩)⟩, ⟨by (try simp only [hl252000_64]); (try simp only [hl252001_64]); (with_reducible repeat (first | apply Kd.R_alloc | apply Kd.R_drewN | apply Kd.R_drew)); exact Kd.R_mono HO_252001.out (fun _ hk => ⟨hk.1.1.1, ⟨hk.1.1.2, hk.2⟩⟩)⟩, ⟨by (try simp only [hl252000_64]); (try simp only [hl252001_64]); (with_reducible repeat (first | apply Kd.R_alloc | apply Kd.R_drewN | apply Kd.R_drew)); exact Kd.R_mono HO_260000.out (fun _ hk => ⟨hk.1.1.1, ⟨hk.1.1.2, hk.2⟩⟩)⟩, ⟨by (try simp only [hl252000_64]); (try simp only [hl252001_64]); (with_reducible repeat (first | apply Kd.R_alloc | apply Kd.R_drewN | apply Kd.R_drew)); exact Kd.R_mono HO_260001.out (fun _ hk => ⟨hk.1.1.1, ⟨hk.1.1.2, hk.2⟩⟩)⟩, ⟨by (try simp only [hl252000_64]); (try simp only [hl252001_64]); (with_reducible repeat (first | apply Kd.R_alloc | apply Kd.R_drewN | apply Kd.R_drew)); exact Kd.R_mono HO284.out (fun _ hk => ⟨hk.1.1.1.2, ⟨hk.1.1.2, hk.1.2⟩⟩)⟩, ⟨by (try simp only [hl252000_64]); (try simp only [hl252001_64]); (with_reducible repeat (first | apply Kd.R_alloc | apply Kd.R_drewN | apply Kd.R_drew)); exact Kd.R_mono HO287.out (fun _ hk => ⟨hk.1.1.1.2, ⟨hk.1.1.2, hk.1.2⟩⟩)⟩, ⟨by (try simp only [hl252000_64]); (try simp only [hl252001_64]); (with_reducible repeat (first | refine blk_drewN ?_ _ | refine blk_drew ?_ | refine blk_alloc ?_ _)); exact BK229.out⟩, ⟨by (try simp only [hl252000_64]); (try simp only [hl252001_64]); (with_reducible repeat (first | refine blk_drewN ?_ _ | refine blk_drew ?_ | refine blk_alloc ?_ _)); exact BK244.out⟩, ⟨by (try simp only [hl252000_64]); (try simp only [hl252001_64]); (with_reducible repeat (first | refine blk_drewN ?_ _ | refine blk_drew ?_ | refine blk_alloc ?_ _)); exact BK251.out⟩, ⟨by (try simp only [hl252000_64]); (try simp only [hl252001_64]); (with_reducible repeat (first | refine blk_drewN ?_ _ | refine blk_drew ?_ | refine blk_alloc ?_ _)); exact BK259.out⟩, ⟨by (try simp only [hl252000_64]); (try simp only [hl252001_64]); (with_reducible repeat (first | refine blk_drewN ?_ _ | refine blk_drew ?_ | refine blk_alloc ?_ _)); exact BK289.out⟩, ⟨by repeat (first | (with_reducible first | exact HB.out | apply below_alloc | apply pw_below_drewN | apply below_drew1 | refine below_set ?_ GE229.out | refine below_set ?_ GE244.out | refine below_set ?_ GE251.out | refine below_set ?_ GE259.out | refine below_set ?_ GE289.out) | exact HB.out)⟩⟩
                      case rest =>
                        clear HC102
                        try clear c1
                        try clear c2
                        try clear p2
                        try clear c3
                        try clear c4
                        try clear c4b0
                        try clear c5
                        try clear c6
                        try clear c7
                        try clear c8
                        try clear c9
                        try clear c10
                        try clear c11
                        try clear c12
                        try clear c13
                        try clear c14
                        try clear c23
                        try clear c30
                        try clear c31
                        try clear c32
                        try clear c34
                        try clear c36
                        try clear c37
                        try clear c38
                        try clear c39
                        try clear c42
                        try clear c43
                        try clear c44
                        try clear c45
                        try clear c46
                        try clear c47
                        try clear c48
                        try clear c49
                        try clear c52
                        try clear c53
                        try clear c54
                        try clear c56
                        try clear c57
                        try clear c60
                        try clear c63
                        try clear c71
                        try clear c72
                        try clear c73
                        try clear c76
                        try clear c76b0
                        try clear c78
                        try clear c79
                        try clear c80
                        try clear c81
                        try clear c83
                        try clear c84
                        try clear c87
                        try clear c88
                        try clear c89
                        try clear c91
                        try clear c92
                        try clear c95
                        try clear c98
                        try clear c98b0
                        try clear c99
                        try clear c99b0
                        try clear c99b1
                        try clear c103
                        try clear c104
                        try clear c105
                        try clear c110
                        try clear c111
                        try clear c119
                        try clear c120
                        try clear c121
                        try clear c122
                        try clear c126
                        try clear c127
                        try clear c128
                        try clear c129
                        try clear c130
                        try clear c132
                        try clear c133
                        try clear c134
                        try clear c137
                        try clear c138
                        try clear c139
                        try clear c140
                        try clear c142
                        try clear c143
                        try clear c144
                        try clear hcz106_0
                        try clear hcz106_1
                        try clear hcz108_0
                        try clear hcz108_1
                        try clear hcz112_0
                        try clear hcz112_1
                        try clear hcz123_0
                        try clear hcz123_1
                        try clear hcz131_0
                        try clear hcz131_1
                        try clear hcz135_0
                        try clear hcz135_1
                        try clear hcz141_0
                        try clear hcz141_1
                        try clear hcz145_0
                        try clear hcz145_1
                        try clear hcz14_0
                        try clear hcz14_1
                        try clear hcz16_0
                        try clear hcz16_1
                        try clear hcz24_0
                        try clear hcz24_1
                        try clear hcz26_0
                        try clear hcz26_1
                        try clear hcz32_0
                        try clear hcz32_1
                        try clear hcz40_0
                        try clear hcz40_1
                        try clear hcz47_0
                        try clear hcz47_1
                        try clear hcz50_0
                        try clear hcz50_1
                        try clear hcz55_0
                        try clear hcz55_1
                        try clear hcz58_0
                        try clear hcz58_1
                        try clear hcz6_0
                        try clear hcz6_1
                        try clear hcz74_0
                        try clear hcz74_1
                        try clear hcz82_0
                        try clear hcz82_1
                        try clear hcz85_0
                        try clear hcz85_1
                        try clear hcz90_0
                        try clear hcz90_1
                        try clear hcz93_0
                        try clear hcz93_1
                        try clear hfz106_0
                        try clear hfz106_1
                        try clear hfz108_0
                        try clear hfz108_1
                        try clear hfz112_0
                        try clear hfz112_1
                        try clear hfz123_0
                        try clear hfz123_1
                        try clear hfz131_0
                        try clear hfz131_1
                        try clear hfz135_0
                        try clear hfz135_1
                        try clear hfz141_0
                        try clear hfz141_1
                        try clear hfz145_0
                        try clear hfz145_1
                        try clear hfz14_0
                        try clear hfz14_1
                        try clear hfz16_0
                        try clear hfz16_1
                        try clear hfz24_0
                        try clear hfz24_1
                        try clear hfz26_0
                        try clear hfz26_1
                        try clear hfz32_0
                        try clear hfz32_1
                        try clear hfz40_0
                        try clear hfz40_1
                        try clear hfz47_0
                        try clear hfz47_1
                        try clear hfz50_0
                        try clear hfz50_1
                        try clear hfz55_0
                        try clear hfz55_1
                        try clear hfz58_0
                        try clear hfz58_1
                        try clear hfz6_0
                        try clear hfz6_1
                        try clear hfz74_0
                        try clear hfz74_1
                        try clear hfz82_0
                        try clear hfz82_1
                        try clear hfz85_0
                        try clear hfz85_1
                        try clear hfz90_0
                        try clear hfz90_1
                        try clear hfz93_0
                        try clear hfz93_1
                        try clear p2
                        obtain ⟨kq, x92_101, rfl, HA, HJ101, HO_245000, HO_245001, HO_252000, HO_252001, HO_260000, HO_260001, HO_290000, HO_290001, BK229, BK244, BK251, BK259, BK289, HB⟩ := hcut
                        have hl260000_101 := (Kd.R_reads' HO_260000.out).1
                        rw [hl260000_101] at HO_260000
                        (try simp only [hl260000_101])
                        (try simp only [hl260000_101] at BK229)
                        (try simp only [hl260000_101] at BK244)
                        (try simp only [hl260000_101] at BK251)
                        (try simp only [hl260000_101] at BK259)
                        (try simp only [hl260000_101] at BK289)
                        (try simp only [hl260000_101] at HO_245000)
                        (try simp only [hl260000_101] at HO_245001)
                        (try simp only [hl260000_101] at HO_252000)
                        (try simp only [hl260000_101] at HO_252001)
                        (try simp only [hl260000_101] at HO_260001)
                        (try simp only [hl260000_101] at HO_290000)
                        (try simp only [hl260000_101] at HO_290001)
                        have hl260001_101 := (Kd.R_reads' HO_260001.out).1
                        rw [hl260001_101] at HO_260001
                        (try simp only [hl260001_101])
                        (try simp only [hl260001_101] at BK229)
                        (try simp only [hl260001_101] at BK244)
                        (try simp only [hl260001_101] at BK251)
                        (try simp only [hl260001_101] at BK259)
                        (try simp only [hl260001_101] at BK289)
                        (try simp only [hl260001_101] at HO_245000)
                        (try simp only [hl260001_101] at HO_245001)
                        (try simp only [hl260001_101] at HO_252000)
                        (try simp only [hl260001_101] at HO_252001)
                        (try simp only [hl260001_101] at HO_260000)
                        (try simp only [hl260001_101] at HO_290000)
                        (try simp only [hl260001_101] at HO_290001)
                        cases kq with
                        | zero => exact absurd HA.out (by simp [laws_FnExactClear.j2])
                        | succ kj101 =>
                          have H := HA.out
                          clear HA
                          simp only [laws_FnExactClear.j2] at H
                          by_cases c147 : x92_101 = true
                          · subst c147
                            have H1 : (some false) = some r := by rw [if_pos rfl] at H; exact H
                            clear H
                            have H := H1
                            clear H1
                            exact absurd ((Option.some.inj H).trans hT.out) (by decide)
                          · replace c147 := Bool.eq_false_iff.mpr c147
                            subst c147
                            have H1 : ((laws_heldChip.f kj101 t273 t274 1).bind fun t291 => (if t291 < 0 then (some false) else (if t291 = t272 then (some true) else (some false)))) = some r := by rw [if_neg (show ¬ (false = true) by decide)] at H; exact H
                            clear H
                            have H := H1
                            clear H1
                            replace H := Option.bind_eq_some_iff.mp H
                            obtain ⟨t291, A1480, H⟩ := H
                            replace H : (if t291 < 0 then (some false) else (if t291 = t272 then (some true) else (some false))) = some r := H
                            have A148 := Aside0.mk A1480
                            clear A1480
                            by_cases c149 : t291 < 0
                            · rw [if_pos c149] at H
                              have c149b0 : decide (t291 < 0) = true := decide_eq_true c149
                              clear c149
                              exact absurd ((Option.some.inj H).trans hT.out) (by decide)
                            · rw [if_neg c149] at H
                              have c149b0 : decide (t291 < 0) = false := decide_eq_false c149
                              clear c149
                              by_cases c150 : t291 = t272
                              · rw [if_pos c150] at H
                                have c150b0 : (t291 == t272) = true := beq_iff_eq.mpr c150
                                have c150b1 : (t291 != t272) = false := bne_eq_false_iff_eq.mpr c150
                                clear c150
                                obtain rfl := Option.some.inj H
                                have hnb151 := NB259_229.out
                                have hnc151 := NB229_259.out
                                have hnb152 := NB259_244.out
                                have hnc152 := NB244_259.out
                                have hnb153 := NB259_251.out
                                have hnc153 := NB251_259.out
                                have hnb154 := NB259_289.out
                                have hnc154 := NB289_259.out
                                have hcz155_0 : wc.cell? ⟨gb259, 0, none⟩ = some (.slice Ao36 t273.length co36) := (blk_cell BK259.out 0).trans rfl
                                have hcz155_1 : wc.cell? ⟨gb259, 1, none⟩ = some (.slice Ao41 t274.length co41) := (blk_cell BK259.out 1).trans rfl
                                have hfz155_0 := blk_frozen BK259.out 0
                                have hfz155_1 := blk_frozen BK259.out 1
                                go_wp2_with (first | ((with_reducible refine gate_callee (f := 47) rfl ?_); refine goesL_ (some 95) rfl rfl Try.func47 (by kernel_rfl) rfl #[.agg #[.slice Ao36 t273.length co36, .slice Ao41 t274.length co41], .int .i64 1] rfl (by (try simp only [List.map_toArray, List.map_cons, List.map_nil]); first | done | rfl | (simp only [List.length_drop, List.length_take]; rfl)) ?_; (with_reducible refine (laws_heldChip.calls kj101 _ _ t273 _ _ t274 1 t291 _ ?side1 ?side2 ?side3 ?side4 A148.out).mono ?_); (case side1 => repeat (first | exact (Kd.R_reads' HO_260000.out).2.2 | (with_reducible refine Kd.C_alloc ?_ _) | (with_reducible refine Kd.C_drewN ?_ _) | (with_reducible refine Kd.C_drew ?_))); (case side2 => exact (Kd.R_reads' HO_260000.out).2.1); (case side3 => repeat (first | exact (Kd.R_reads' HO_260001.out).2.2 | (with_reducible refine Kd.C_alloc ?_ _) | (with_reducible refine Kd.C_drewN ?_ _) | (with_reducible refine Kd.C_drew ?_))); (case side4 => exact (Kd.R_reads' HO_260001.out).2.1); rintro e w156 ⟨rfl, hb⟩; refine ⟨_, rfl, ?_⟩; have n0_ := Aside0.mk (Kd.R_below (by (with_reducible repeat (first | apply Kd.R_alloc | apply Kd.R_drewN | apply Kd.R_drew)); exact HO_245000.out) hb); have n1_ := Aside0.mk (Kd.R_below (by (with_reducible repeat (first | apply Kd.R_alloc | apply Kd.R_drewN | apply Kd.R_drew)); exact HO_245001.out) hb); have n2_ := Aside0.mk (Kd.R_below (by (with_reducible repeat (first | apply Kd.R_alloc | apply Kd.R_drewN | apply Kd.R_drew)); exact HO_252000.out) hb); have n3_ := Aside0.mk (Kd.R_below (by (with_reducible repeat (first | apply Kd.R_alloc | apply Kd.R_drewN | apply Kd.R_drew)); exact HO_252001.out) hb); have n4_ := Aside0.mk (Kd.R_below (by (with_reducible repeat (first | apply Kd.R_alloc | apply Kd.R_drewN | apply Kd.R_drew)); exact HO_260000.out) hb); have n5_ := Aside0.mk (Kd.R_below (by (with_reducible repeat (first | apply Kd.R_alloc | apply Kd.R_drewN | apply Kd.R_drew)); exact HO_260001.out) hb); have n6_ := Aside0.mk (Kd.R_below (by (with_reducible repeat (first | apply Kd.R_alloc | apply Kd.R_drewN | apply Kd.R_drew)); exact HO_290000.out) hb); have n7_ := Aside0.mk (Kd.R_below (by (with_reducible repeat (first | apply Kd.R_alloc | apply Kd.R_drewN | apply Kd.R_drew)); exact HO_290001.out) hb); have n8_ := Aside0.mk (blk_below (g := gb229) (o := .cells #[.slice A0_0 l0_0.length c0_0, .slice A0_1 l0_1.length c0_1] 46 (0, 0)) (by (with_reducible repeat (first | refine blk_drewN ?_ _ | refine blk_drew ?_ | refine blk_alloc ?_ _)); exact BK229.out) hb); have n9_ := Aside0.mk (blk_below (g := gb244) (o := .cells #[.slice Ao22 t237.length co22, .slice Ao25 t240.length co25] 49 (0, 0)) (by (with_reducible repeat (first | refine blk_drewN ?_ _ | refine blk_drew ?_ | refine blk_alloc ?_ _)); exact BK244.out) hb); have n10_ := Aside0.mk (blk_below (g := gb251) (o := .cells #[.slice Ao29 t269.length co29, .slice Ao33 t270.length co33] 49 (0, 0)) (by (with_reducible repeat (first | refine blk_drewN ?_ _ | refine blk_drew ?_ | refine blk_alloc ?_ _)); exact BK251.out) hb); have n11_ := Aside0.mk (blk_below (g := gb259) (o := .cells #[.slice Ao36 t273.length co36, .slice Ao41 t274.length co41] 49 (0, 0)) (by (with_reducible repeat (first | refine blk_drewN ?_ _ | refine blk_drew ?_ | refine blk_alloc ?_ _)); exact BK259.out) hb); have n12_ := Aside0.mk (blk_below (g := gb289) (o := .cells #[.slice Ao118 t282.length co118, .slice Ao124 t285.length co124] 49 (0, 0)) (by (with_reducible repeat (first | refine blk_drewN ?_ _ | refine blk_drew ?_ | refine blk_alloc ?_ _)); exact BK289.out) hb); have n13_ := Aside0.mk (below_step (by repeat (first | (with_reducible first | exact HB.out | apply below_alloc | apply pw_below_drewN | apply below_drew1 | refine below_set ?_ GE229.out | refine below_set ?_ GE244.out | refine below_set ?_ GE251.out | refine below_set ?_ GE259.out | refine below_set ?_ GE289.out) | exact HB.out)) hb); clear HO_245000; clear HO_245001; clear HO_252000; clear HO_252001; clear HO_260000; clear HO_260001; clear HO_290000; clear HO_290001; clear BK229; clear BK244; clear BK251; clear BK259; clear BK289; clear HB; have HO_245000 := n0_; have HO_245001 := n1_; have HO_252000 := n2_; have HO_252001 := n3_; have HO_260000 := n4_; have HO_260001 := n5_; have HO_290000 := n6_; have HO_290001 := n7_; have BK229 := n8_; have BK244 := n9_; have BK251 := n10_; have BK259 := n11_; have BK289 := n12_; have HB := n13_; clear n0_ n1_ n2_ n3_ n4_ n5_ n6_ n7_ n8_ n9_ n10_ n11_ n12_ n13_; (try clear hb); (try clear hb2); (try clear hk); (try clear hi)))
                                go_ret
                                exact ⟨by first | rfl | (simp [errW_none, errW_some] <;> rfl) | (simp [*, errW_none, errW_some] <;> rfl), by repeat (first | (with_reducible first | exact HB.out | apply below_alloc | apply pw_below_drewN | apply below_drew1 | refine below_set ?_ GE229.out | refine below_set ?_ GE244.out | refine below_set ?_ GE251.out | refine below_set ?_ GE259.out | refine below_set ?_ GE289.out) | exact HB.out)⟩
                              · rw [if_neg c150] at H
                                have c150b0 : (t291 == t272) = false := beq_eq_false_iff_ne.mpr c150
                                have c150b1 : (t291 != t272) = true := bne_iff_ne.mpr c150
                                exact absurd ((Option.some.inj H).trans hT.out) (by decide)
                    · rw [if_neg c99] at H
                      have c99b0 : (t275 == t272) = false := beq_eq_false_iff_ne.mpr c99
                      have c99b1 : (t275 != t272) = true := bne_iff_ne.mpr c99
                      exact absurd ((Option.some.inj H).trans hT.out) (by decide)
          · replace c63 := Bool.eq_false_iff.mpr c63
            subst c63
            have H1 : (some false) = some r := by rw [if_neg (show ¬ (false = true) by decide)] at H; exact H
            clear H
            have H := H1
            clear H1
            exact absurd ((Option.some.inj H).trans hT.out) (by decide)

end Go.Proofs.Ytpbamdcbaloibab.PFnExactClear
