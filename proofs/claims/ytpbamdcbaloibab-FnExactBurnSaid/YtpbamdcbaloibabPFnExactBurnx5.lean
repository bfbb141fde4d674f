-- Laid by a program out of the translation, with contracts of our own for what it does not take; Lean checks it.
import Derived.Test.YtpbamdcbaloibabPFnExactBurnx0
import Derived.Test.YtpbamdcbaloibabPFnExactBurnx1
import Derived.Test.YtpbamdcbaloibabPFnExactBurnx2
import Derived.Test.YtpbamdcbaloibabPFnExactBurnx3
import Derived.Test.YtpbamdcbaloibabPFnExactBurnx4
namespace Go.Proofs.Ytpbamdcbaloibab.PFnExactBurn
open Go.RowKit Go.Proofs.YtpbamdcbaloibabW.PrintWords Go.Proofs.YtpbamdcbaloibabW.PrintLast Go.Proofs.YtpbamdcbaloibabW.PrintMore
attribute [local go_sem] max2_int min2_int max_two min_two max_three min_three max_four min_four   -- for this text's walks alone
set_option linter.unusedVariables false
set_option linter.unusedSimpArgs false

/-! ### laws_FnExactBurn: function 10 -/
mutual
def laws_FnExactBurn.j0 : Nat → Int → ByteArray → Bool → Bool → Bool → List ByteArray → List Int → List ByteArray → List Int → List ByteArray → List Int → List ByteArray → List Int → Option (Bool)
  | 0, _, _, _, _, _, _, _, _, _, _, _, _, _ => none
  | k + 1, x1, x2, x9, x12, x51, x212000, x212001, x227000, x227001, x234000, x234001, x242000, x242001 => if x51 = true then (some false) else ((laws_toChip.f k x212000 x212001).bind fun bt243 => ((laws_eqChip.f k x234000 x234001 bt243.1 bt243.2).bind fun t249 => (if t249 = true then ((laws_markChip.f k x234000 x234001 1).bind fun bt250 => (if bt250.1 < 0 then (laws_FnExactBurn.j1 k x1 x2 x9 true x212000 x212001 x227000 x227001 x242000 x242001) else ((laws_eqChip.f k x242000 x242001 x227000 x227001).bind fun t253 => (if t253 = true then (laws_FnExactBurn.j1 k x1 x2 x9 (x12 != x9) x212000 x212001 x227000 x227001 x242000 x242001) else (laws_FnExactBurn.j1 k x1 x2 x9 true x212000 x212001 x227000 x227001 x242000 x242001))))) else (some false))))
def laws_FnExactBurn.j1 : Nat → Int → ByteArray → Bool → Bool → List ByteArray → List Int → List ByteArray → List Int → List ByteArray → List Int → Option (Bool)
  | 0, _, _, _, _, _, _, _, _, _, _ => none
  | k + 1, x1, x2, x9, x72, x212000, x212001, x227000, x227001, x242000, x242001 => if x72 = true then (some false) else ((laws_markChip.f k x242000 x242001 1).bind fun bt254 => ((laws_heldChip.f k bt254.2.1 bt254.2.2 1).bind fun t257 => (if t257 < 0 then (some false) else (if t257 = bt254.1 then ((laws_toChip.f k x212000 x212001).bind fun bt258 => ((impl_Burn.f bt258.1 bt258.2 x1 x2).bind fun bt264 => ((laws_eqChip.f k bt264.1 bt264.2.1 x227000 x227001).bind fun t272 => (if t272 = true then (laws_FnExactBurn.j2 k bt254.1 (bt264.2.2 != x9) bt254.2.1 bt254.2.2) else (laws_FnExactBurn.j2 k bt254.1 true bt254.2.1 bt254.2.2))))) else (some false)))))
def laws_FnExactBurn.j2 : Nat → Int → Bool → List ByteArray → List Int → Option (Bool)
  | 0, _, _, _, _ => none
  | k + 1, x14, x100, x242000, x242001 => if x100 = true then (some false) else ((laws_heldChip.f k x242000 x242001 1).bind fun t273 => (if t273 < 0 then (some false) else (if t273 = x14 then (some true) else (some false))))
end
def laws_FnExactBurn.f (k : Nat) (l0_0 : List ByteArray) (l0_1 : List Int) (a1 : Int) (a2 : ByteArray) : Option (Bool) := if (a2.size : Int) > 1048576 then (some true) else ((laws_szChip.f k l0_0 l0_1 1048576).bind fun t212 => (if t212 < 0 then (some true) else ((laws_toChip.f k l0_0 l0_1).bind fun bt213 => ((spec_Burn.f k bt213.1 bt213.2 a1 a2).bind fun bt219 => ((laws_toChip.f k l0_0 l0_1).bind fun bt227 => ((impl_Burn.f bt227.1 bt227.2 a1 a2).bind fun bt234 => ((laws_eqChip.f k bt234.1 bt234.2.1 bt219.1 bt219.2.1).bind fun t242 => (if t242 = true then (laws_FnExactBurn.j0 k a1 a2 bt219.2.2 bt234.2.2 (bt234.2.2 != bt219.2.2) l0_0 l0_1 bt219.1 bt219.2.1 bt227.1 bt227.2 bt234.1 bt234.2.1) else (laws_FnExactBurn.j0 k a1 a2 bt219.2.2 bt234.2.2 true l0_0 l0_1 bt219.1 bt219.2.1 bt227.1 bt227.2 bt234.1 bt234.2.1)))))))))
theorem laws_FnExactBurn.mono_l : ∀ k, (∀ y0 y1 y2 y3 y4 y5 y6 y7 y8 y9 y10 y11 y12, LeO (laws_FnExactBurn.j0 k y0 y1 y2 y3 y4 y5 y6 y7 y8 y9 y10 y11 y12) (laws_FnExactBurn.j0 (k + 1) y0 y1 y2 y3 y4 y5 y6 y7 y8 y9 y10 y11 y12)) ∧ (∀ y0 y1 y2 y3 y4 y5 y6 y7 y8 y9, LeO (laws_FnExactBurn.j1 k y0 y1 y2 y3 y4 y5 y6 y7 y8 y9) (laws_FnExactBurn.j1 (k + 1) y0 y1 y2 y3 y4 y5 y6 y7 y8 y9)) ∧ (∀ y0 y1 y2 y3, LeO (laws_FnExactBurn.j2 k y0 y1 y2 y3) (laws_FnExactBurn.j2 (k + 1) y0 y1 y2 y3))
  | 0 => ⟨fun _ _ _ _ _ _ _ _ _ _ _ _ _ r h => by simp [laws_FnExactBurn.j0] at h, fun _ _ _ _ _ _ _ _ _ _ r h => by simp [laws_FnExactBurn.j1] at h, fun _ _ _ _ r h => by simp [laws_FnExactBurn.j2] at h⟩
  | k + 1 => by
    obtain ⟨ih0, ih1, ih2⟩ := laws_FnExactBurn.mono_l k
    refine ⟨?_, ?_, ?_⟩
    · intro y0 y1 y2 y3 y4 y5 y6 y7 y8 y9 y10 y11 y12
      unfold laws_FnExactBurn.j0
      repeat' first
      | (with_reducible exact ih0 _ _ _ _ _ _ _ _ _ _ _ _ _)
      | (with_reducible exact ih1 _ _ _ _ _ _ _ _ _ _)
      | (with_reducible exact ih2 _ _ _ _)
      | (with_reducible exact laws_eqChip.mono _ _ _ _ _)
      | (with_reducible exact laws_heldChip.mono _ _ _ _)
      | (with_reducible exact laws_markChip.mono _ _ _ _)
      | (with_reducible exact laws_szChip.mono _ _ _ _)
      | (with_reducible exact laws_toChip.mono _ _ _)
      | (with_reducible exact spec_Burn.mono _ _ _ _ _)
      | (with_reducible exact LeO.refl _)
      | (with_reducible exact LeO.none _)
      | (with_reducible refine LeO.ite ?_ ?_)
      | (with_reducible refine LeO.bind ?_ (fun _ => ?_))
      | exact ih0 _ _ _ _ _ _ _ _ _ _ _ _ _
      | exact ih1 _ _ _ _ _ _ _ _ _ _
      | exact ih2 _ _ _ _
      | exact laws_eqChip.mono _ _ _ _ _
      | exact laws_heldChip.mono _ _ _ _
      | exact laws_markChip.mono _ _ _ _
      | exact laws_szChip.mono _ _ _ _
      | exact laws_toChip.mono _ _ _
      | exact spec_Burn.mono _ _ _ _ _
      | exact LeO.none _
      | refine LeO.ite ?_ ?_
      | refine LeO.bind ?_ (fun _ => ?_)
    · intro y0 y1 y2 y3 y4 y5 y6 y7 y8 y9
      unfold laws_FnExactBurn.j1
      repeat' first
      | (with_reducible exact ih0 _ _ _ _ _ _ _ _ _ _ _ _ _)
      | (with_reducible exact ih1 _ _ _ _ _ _ _ _ _ _)
      | (with_reducible exact ih2 _ _ _ _)
      | (with_reducible exact laws_eqChip.mono _ _ _ _ _)
      | (with_reducible exact laws_heldChip.mono _ _ _ _)
      | (with_reducible exact laws_markChip.mono _ _ _ _)
      | (with_reducible exact laws_szChip.mono _ _ _ _)
      | (with_reducible exact laws_toChip.mono _ _ _)
      | (with_reducible exact spec_Burn.mono _ _ _ _ _)
      | (with_reducible exact LeO.refl _)
      | (with_reducible exact LeO.none _)
      | (with_reducible refine LeO.ite ?_ ?_)
      | (with_reducible refine LeO.bind ?_ (fun _ => ?_))
      | exact ih0 _ _ _ _ _ _ _ _ _ _ _ _ _
      | exact ih1 _ _ _ _ _ _ _ _ _ _
      | exact ih2 _ _ _ _
      | exact laws_eqChip.mono _ _ _ _ _
      | exact laws_heldChip.mono _ _ _ _
      | exact laws_markChip.mono _ _ _ _
      | exact laws_szChip.mono _ _ _ _
      | exact laws_toChip.mono _ _ _
      | exact spec_Burn.mono _ _ _ _ _
      | exact LeO.none _
      | refine LeO.ite ?_ ?_
      | refine LeO.bind ?_ (fun _ => ?_)
    · intro y0 y1 y2 y3
      unfold laws_FnExactBurn.j2
      repeat' first
      | (with_reducible exact ih0 _ _ _ _ _ _ _ _ _ _ _ _ _)
      | (with_reducible exact ih1 _ _ _ _ _ _ _ _ _ _)
      | (with_reducible exact ih2 _ _ _ _)
      | (with_reducible exact laws_eqChip.mono _ _ _ _ _)
      | (with_reducible exact laws_heldChip.mono _ _ _ _)
      | (with_reducible exact laws_markChip.mono _ _ _ _)
      | (with_reducible exact laws_szChip.mono _ _ _ _)
      | (with_reducible exact laws_toChip.mono _ _ _)
      | (with_reducible exact spec_Burn.mono _ _ _ _ _)
      | (with_reducible exact LeO.refl _)
      | (with_reducible exact LeO.none _)
      | (with_reducible refine LeO.ite ?_ ?_)
      | (with_reducible refine LeO.bind ?_ (fun _ => ?_))
      | exact ih0 _ _ _ _ _ _ _ _ _ _ _ _ _
      | exact ih1 _ _ _ _ _ _ _ _ _ _
      | exact ih2 _ _ _ _
      | exact laws_eqChip.mono _ _ _ _ _
      | exact laws_heldChip.mono _ _ _ _
      | exact laws_markChip.mono _ _ _ _
      | exact laws_szChip.mono _ _ _ _
      | exact laws_toChip.mono _ _ _
      | exact spec_Burn.mono _ _ _ _ _
      | exact LeO.none _
      | refine LeO.ite ?_ ?_
      | refine LeO.bind ?_ (fun _ => ?_)
theorem laws_FnExactBurn.mono : ∀ a0 a1 a2 a3 k, LeO (laws_FnExactBurn.f k a0 a1 a2 a3) (laws_FnExactBurn.f (k + 1) a0 a1 a2 a3) := by
  intro a0 a1 a2 a3 k
  obtain ⟨ih0, ih1, ih2⟩ := laws_FnExactBurn.mono_l k
  unfold laws_FnExactBurn.f
  repeat' first
      | (with_reducible exact ih0 _ _ _ _ _ _ _ _ _ _ _ _ _)
      | (with_reducible exact ih1 _ _ _ _ _ _ _ _ _ _)
      | (with_reducible exact ih2 _ _ _ _)
      | (with_reducible exact laws_eqChip.mono _ _ _ _ _)
      | (with_reducible exact laws_heldChip.mono _ _ _ _)
      | (with_reducible exact laws_markChip.mono _ _ _ _)
      | (with_reducible exact laws_szChip.mono _ _ _ _)
      | (with_reducible exact laws_toChip.mono _ _ _)
      | (with_reducible exact spec_Burn.mono _ _ _ _ _)
      | (with_reducible exact LeO.refl _)
      | (with_reducible exact LeO.none _)
      | (with_reducible refine LeO.ite ?_ ?_)
      | (with_reducible refine LeO.bind ?_ (fun _ => ?_))
      | exact ih0 _ _ _ _ _ _ _ _ _ _ _ _ _
      | exact ih1 _ _ _ _ _ _ _ _ _ _
      | exact ih2 _ _ _ _
      | exact laws_eqChip.mono _ _ _ _ _
      | exact laws_heldChip.mono _ _ _ _
      | exact laws_markChip.mono _ _ _ _
      | exact laws_szChip.mono _ _ _ _
      | exact laws_toChip.mono _ _ _
      | exact spec_Burn.mono _ _ _ _ _
      | exact LeO.none _
      | refine LeO.ite ?_ ?_
      | refine LeO.bind ?_ (fun _ => ?_)
set_option maxHeartbeats 8000000 in
set_option maxRecDepth 100000 in
theorem laws_FnExactBurn.calls (k : Nat) (A0_0 : Option Addr) (c0_0 : Nat) (l0_0 : List ByteArray) (A0_1 : Option Addr) (c0_1 : Nat) (l0_1 : List Int) (a1 : Int) (a2 : ByteArray) (r : Bool) (hT : Aside0 (r = true)) (w : World) (hr0_0 : Kd.C Kd.string w A0_0 l0_0.length l0_0) (hc0_0 : l0_0.length ≤ c0_0) (hr0_1 : Kd.C (Kd.int .i64) w A0_1 l0_1.length l0_1) (hc0_1 : l0_1.length ≤ c0_1) (h : laws_FnExactBurn.f k l0_0 l0_1 a1 a2 = some r) :
    Calls Try.prog 10 #[.agg #[.slice A0_0 l0_0.length c0_0, .slice A0_1 l0_1.length c0_1], .int .i64 a1, .string a2] w fun e w' => e = .returned (.bool r) ∧ Below w.heap.size w w' := by
  have hu46 := Try.underlying46
  have hu49 := Try.underlying49
  have HR0_0 := Aside0.mk hr0_0
  have HC0_0 := Aside0.mk hc0_0
  clear hr0_0 hc0_0
  have HR0_1 := Aside0.mk hr0_1
  have HC0_1 := Aside0.mk hc0_1
  clear hr0_1 hc0_1
  have HB := Aside0.mk (Below.refl w.heap.size w)
  have H : (if (a2.size : Int) > 1048576 then (some true) else ((laws_szChip.f k l0_0 l0_1 1048576).bind fun t212 => (if t212 < 0 then (some true) else ((laws_toChip.f k l0_0 l0_1).bind fun bt213 => ((spec_Burn.f k bt213.1 bt213.2 a1 a2).bind fun bt219 => ((laws_toChip.f k l0_0 l0_1).bind fun bt227 => ((impl_Burn.f bt227.1 bt227.2 a1 a2).bind fun bt234 => ((laws_eqChip.f k bt234.1 bt234.2.1 bt219.1 bt219.2.1).bind fun t242 => (if t242 = true then (laws_FnExactBurn.j0 k a1 a2 bt219.2.2 bt234.2.2 (bt234.2.2 != bt219.2.2) l0_0 l0_1 bt219.1 bt219.2.1 bt227.1 bt227.2 bt234.1 bt234.2.1) else (laws_FnExactBurn.j0 k a1 a2 bt219.2.2 bt234.2.2 true l0_0 l0_1 bt219.1 bt219.2.1 bt227.1 bt227.2 bt234.1 bt234.2.1)))))))))) = some r := h
  clear h
  by_cases c4 : (a2.size : Int) > 1048576
  · rw [if_pos c4] at H
    have c4b0 : decide (1048576 < (a2.size : Int)) = true := decide_eq_true c4
    have c4b1 : decide (1048576 < a2.size) = true := decide_eq_true (by omega)
    clear c4
    obtain rfl := Option.some.inj H
    go_enter Try.func10, Try.ntmps10
    go_wp2_with (first | ((with_reducible refine gate_dst (N := 3) rfl ?_); refine box_event ?hg (N := 3) ?hd (cs := #[.slice A0_0 l0_0.length c0_0, .slice A0_1 l0_1.length c0_1]) (t := 46) ?hr ?_; (case hd => rfl); (case hg => rfl); (case hr => first | (go_simp; done) | (go_simp; rfl)); intro gb211 hg w5 hbox hb; have n0_ := Aside0.mk (below_step (by repeat (first | (with_reducible first | exact HB.out | apply below_alloc | apply pw_below_drewN | apply below_drew1) | exact HB.out)) hb); have n1_ := Aside0.mk (hbox); have n2_ := Aside0.mk ((by rw [hg]; exact (below_size (by repeat (first | (with_reducible first | exact HB.out | apply below_alloc | apply pw_below_drewN | apply below_drew1) | exact HB.out))) : w.heap.size ≤ gb211)); have n3_ := Aside0.mk ((by rw [hg]; exact (below_size (by repeat (first | (with_reducible first | exact HB.out | apply below_alloc | apply pw_below_drewN | apply below_drew1) | exact HB.out))) : w.heap.size ≤ gb211)); clear HB; have HB := n0_; have BK211 := n1_; have GW211 := n2_; have GE211 := n3_; clear n0_ n1_ n2_ n3_; clear hb hbox hg))
    go_ret
    exact ⟨by first | rfl | (simp [errW_none, errW_some] <;> rfl) | (simp [*, errW_none, errW_some] <;> rfl), by repeat (first | (with_reducible first | exact HB.out | apply below_alloc | apply pw_below_drewN | apply below_drew1 | refine below_set ?_ GE211.out) | exact HB.out)⟩
  · rw [if_neg c4] at H
    have c4b0 : decide (1048576 < (a2.size : Int)) = false := decide_eq_false c4
    have c4b1 : decide (1048576 < a2.size) = false := decide_eq_false (by omega)
    clear c4
    replace H := Option.bind_eq_some_iff.mp H
    obtain ⟨t212, A60, H⟩ := H
    replace H : (if t212 < 0 then (some true) else ((laws_toChip.f k l0_0 l0_1).bind fun bt213 => ((spec_Burn.f k bt213.1 bt213.2 a1 a2).bind fun bt219 => ((laws_toChip.f k l0_0 l0_1).bind fun bt227 => ((impl_Burn.f bt227.1 bt227.2 a1 a2).bind fun bt234 => ((laws_eqChip.f k bt234.1 bt234.2.1 bt219.1 bt219.2.1).bind fun t242 => (if t242 = true then (laws_FnExactBurn.j0 k a1 a2 bt219.2.2 bt234.2.2 (bt234.2.2 != bt219.2.2) l0_0 l0_1 bt219.1 bt219.2.1 bt227.1 bt227.2 bt234.1 bt234.2.1) else (laws_FnExactBurn.j0 k a1 a2 bt219.2.2 bt234.2.2 true l0_0 l0_1 bt219.1 bt219.2.1 bt227.1 bt227.2 bt234.1 bt234.2.1)))))))) = some r := H
    have A6 := Aside0.mk A60
    clear A60
    by_cases c7 : t212 < 0
    · rw [if_pos c7] at H
      have c7b0 : decide (t212 < 0) = true := decide_eq_true c7
      clear c7
      obtain rfl := Option.some.inj H
      go_enter Try.func10, Try.ntmps10
      go_wp2_with (first | ((with_reducible refine gate_dst (N := 3) rfl ?_); refine box_event ?hg (N := 3) ?hd (cs := #[.slice A0_0 l0_0.length c0_0, .slice A0_1 l0_1.length c0_1]) (t := 46) ?hr ?_; (case hd => rfl); (case hg => rfl); (case hr => first | (go_simp; done) | (go_simp; rfl)); intro gb211 hg w8 hbox hb; have n0_ := Aside0.mk (below_step (by repeat (first | (with_reducible first | exact HB.out | apply below_alloc | apply pw_below_drewN | apply below_drew1) | exact HB.out)) hb); have n1_ := Aside0.mk (hbox); have n2_ := Aside0.mk ((by rw [hg]; exact (below_size (by repeat (first | (with_reducible first | exact HB.out | apply below_alloc | apply pw_below_drewN | apply below_drew1) | exact HB.out))) : w.heap.size ≤ gb211)); have n3_ := Aside0.mk ((by rw [hg]; exact (below_size (by repeat (first | (with_reducible first | exact HB.out | apply below_alloc | apply pw_below_drewN | apply below_drew1) | exact HB.out))) : w.heap.size ≤ gb211)); clear HB; have HB := n0_; have BK211 := n1_; have GW211 := n2_; have GE211 := n3_; clear n0_ n1_ n2_ n3_; clear hb hbox hg; have hcz9_0 : w8.cell? ⟨gb211, 0, none⟩ = some (.slice A0_0 l0_0.length c0_0) := (blk_cell BK211.out 0).trans rfl; have hcz9_1 : w8.cell? ⟨gb211, 1, none⟩ = some (.slice A0_1 l0_1.length c0_1) := (blk_cell BK211.out 1).trans rfl; have hfz9_0 := blk_frozen BK211.out 0; have hfz9_1 := blk_frozen BK211.out 1) | ((with_reducible refine gate_callee (f := 32) rfl ?_); refine goesL_ (some 23) rfl rfl Try.func32 (by kernel_rfl) rfl #[.agg #[.slice A0_0 l0_0.length c0_0, .slice A0_1 l0_1.length c0_1], .int .i64 1048576] rfl (by (try simp only [List.map_toArray, List.map_cons, List.map_nil]); first | done | rfl | (simp only [List.length_drop, List.length_take]; rfl)) ?_; (with_reducible refine (laws_szChip.calls k _ _ l0_0 _ _ l0_1 1048576 t212 _ ?side1 ?side2 ?side3 ?side4 A6.out).mono ?_); (case side1 => repeat (first | exact (Kd.C_below HR0_0.out HB.out) | (with_reducible refine Kd.C_alloc ?_ _) | (with_reducible refine Kd.C_drewN ?_ _) | (with_reducible refine Kd.C_drew ?_))); (case side2 => exact HC0_0.out); (case side3 => repeat (first | exact (Kd.C_below HR0_1.out HB.out) | (with_reducible refine Kd.C_alloc ?_ _) | (with_reducible refine Kd.C_drewN ?_ _) | (with_reducible refine Kd.C_drew ?_))); (case side4 => exact HC0_1.out); rintro e w10 ⟨rfl, hb⟩; refine ⟨_, rfl, ?_⟩; have n0_ := Aside0.mk (blk_below (g := gb211) (o := .cells #[.slice A0_0 l0_0.length c0_0, .slice A0_1 l0_1.length c0_1] 46 (0, 0)) (by (with_reducible repeat (first | refine blk_drewN ?_ _ | refine blk_drew ?_ | refine blk_alloc ?_ _)); exact BK211.out) hb); have n1_ := Aside0.mk (below_step (by repeat (first | (with_reducible first | exact HB.out | apply below_alloc | apply pw_below_drewN | apply below_drew1 | refine below_set ?_ GE211.out) | exact HB.out)) hb); clear BK211; clear HB; have BK211 := n0_; have HB := n1_; clear n0_ n1_; (try clear hb); (try clear hb2); (try clear hk); (try clear hi)))
      go_ret
      exact ⟨by first | rfl | (simp [errW_none, errW_some] <;> rfl) | (simp [*, errW_none, errW_some] <;> rfl), by repeat (first | (with_reducible first | exact HB.out | apply below_alloc | apply pw_below_drewN | apply below_drew1 | refine below_set ?_ GE211.out) | exact HB.out)⟩
    · rw [if_neg c7] at H
      have c7b0 : decide (t212 < 0) = false := decide_eq_false c7
      clear c7
      replace H := Option.bind_eq_some_iff.mp H
      obtain ⟨⟨t213, t216⟩, A110, H⟩ := H
      replace H : ((spec_Burn.f k t213 t216 a1 a2).bind fun bt219 => ((laws_toChip.f k l0_0 l0_1).bind fun bt227 => ((impl_Burn.f bt227.1 bt227.2 a1 a2).bind fun bt234 => ((laws_eqChip.f k bt234.1 bt234.2.1 bt219.1 bt219.2.1).bind fun t242 => (if t242 = true then (laws_FnExactBurn.j0 k a1 a2 bt219.2.2 bt234.2.2 (bt234.2.2 != bt219.2.2) l0_0 l0_1 bt219.1 bt219.2.1 bt227.1 bt227.2 bt234.1 bt234.2.1) else (laws_FnExactBurn.j0 k a1 a2 bt219.2.2 bt234.2.2 true l0_0 l0_1 bt219.1 bt219.2.1 bt227.1 bt227.2 bt234.1 bt234.2.1)))))) = some r := H
      have A11 := Aside0.mk A110
      clear A110
      replace H := Option.bind_eq_some_iff.mp H
      obtain ⟨⟨t219, t222, t225⟩, A120, H⟩ := H
      replace H : ((laws_toChip.f k l0_0 l0_1).bind fun bt227 => ((impl_Burn.f bt227.1 bt227.2 a1 a2).bind fun bt234 => ((laws_eqChip.f k bt234.1 bt234.2.1 t219 t222).bind fun t242 => (if t242 = true then (laws_FnExactBurn.j0 k a1 a2 t225 bt234.2.2 (bt234.2.2 != t225) l0_0 l0_1 t219 t222 bt227.1 bt227.2 bt234.1 bt234.2.1) else (laws_FnExactBurn.j0 k a1 a2 t225 bt234.2.2 true l0_0 l0_1 t219 t222 bt227.1 bt227.2 bt234.1 bt234.2.1))))) = some r := H
      have A12 := Aside0.mk A120
      clear A120
      replace H := Option.bind_eq_some_iff.mp H
      obtain ⟨⟨t227, t230⟩, A130, H⟩ := H
      replace H : ((impl_Burn.f t227 t230 a1 a2).bind fun bt234 => ((laws_eqChip.f k bt234.1 bt234.2.1 t219 t222).bind fun t242 => (if t242 = true then (laws_FnExactBurn.j0 k a1 a2 t225 bt234.2.2 (bt234.2.2 != t225) l0_0 l0_1 t219 t222 t227 t230 bt234.1 bt234.2.1) else (laws_FnExactBurn.j0 k a1 a2 t225 bt234.2.2 true l0_0 l0_1 t219 t222 t227 t230 bt234.1 bt234.2.1)))) = some r := H
      have A13 := Aside0.mk A130
      clear A130
      replace H := Option.bind_eq_some_iff.mp H
      obtain ⟨⟨t234, t237, t240⟩, A140, H⟩ := H
      replace H : ((laws_eqChip.f k t234 t237 t219 t222).bind fun t242 => (if t242 = true then (laws_FnExactBurn.j0 k a1 a2 t225 t240 (t240 != t225) l0_0 l0_1 t219 t222 t227 t230 t234 t237) else (laws_FnExactBurn.j0 k a1 a2 t225 t240 true l0_0 l0_1 t219 t222 t227 t230 t234 t237))) = some r := H
      have A14 := Aside0.mk A140
      clear A140
      have HC15 := Aside0.mk H
      clear H
      go_enter Try.func10, Try.ntmps10
      go_upto_region 10 with (first | ((with_reducible refine gate_dst (N := 3) rfl ?_); refine box_event ?hg (N := 3) ?hd (cs := #[.slice A0_0 l0_0.length c0_0, .slice A0_1 l0_1.length c0_1]) (t := 46) ?hr ?_; (case hd => rfl); (case hg => rfl); (case hr => first | (go_simp; done) | (go_simp; rfl)); intro gb211 hg w16 hbox hb; have n0_ := Aside0.mk (below_step (by repeat (first | (with_reducible first | exact HB.out | apply below_alloc | apply pw_below_drewN | apply below_drew1) | exact HB.out)) hb); have n1_ := Aside0.mk (hbox); have n2_ := Aside0.mk ((by rw [hg]; exact (below_size (by repeat (first | (with_reducible first | exact HB.out | apply below_alloc | apply pw_below_drewN | apply below_drew1) | exact HB.out))) : w.heap.size ≤ gb211)); have n3_ := Aside0.mk ((by rw [hg]; exact (below_size (by repeat (first | (with_reducible first | exact HB.out | apply below_alloc | apply pw_below_drewN | apply below_drew1) | exact HB.out))) : w.heap.size ≤ gb211)); clear HB; have HB := n0_; have BK211 := n1_; have GW211 := n2_; have GE211 := n3_; clear n0_ n1_ n2_ n3_; clear hb hbox hg; have hcz17_0 : w16.cell? ⟨gb211, 0, none⟩ = some (.slice A0_0 l0_0.length c0_0) := (blk_cell BK211.out 0).trans rfl; have hcz17_1 : w16.cell? ⟨gb211, 1, none⟩ = some (.slice A0_1 l0_1.length c0_1) := (blk_cell BK211.out 1).trans rfl; have hfz17_0 := blk_frozen BK211.out 0; have hfz17_1 := blk_frozen BK211.out 1) | ((with_reducible refine gate_callee (f := 32) rfl ?_); refine goesL_ (some 23) rfl rfl Try.func32 (by kernel_rfl) rfl #[.agg #[.slice A0_0 l0_0.length c0_0, .slice A0_1 l0_1.length c0_1], .int .i64 1048576] rfl (by (try simp only [List.map_toArray, List.map_cons, List.map_nil]); first | done | rfl | (simp only [List.length_drop, List.length_take]; rfl)) ?_; (with_reducible refine (laws_szChip.calls k _ _ l0_0 _ _ l0_1 1048576 t212 _ ?side1 ?side2 ?side3 ?side4 A6.out).mono ?_); (case side1 => repeat (first | exact (Kd.C_below HR0_0.out HB.out) | (with_reducible refine Kd.C_alloc ?_ _) | (with_reducible refine Kd.C_drewN ?_ _) | (with_reducible refine Kd.C_drew ?_))); (case side2 => exact HC0_0.out); (case side3 => repeat (first | exact (Kd.C_below HR0_1.out HB.out) | (with_reducible refine Kd.C_alloc ?_ _) | (with_reducible refine Kd.C_drewN ?_ _) | (with_reducible refine Kd.C_drew ?_))); (case side4 => exact HC0_1.out); rintro e w18 ⟨rfl, hb⟩; refine ⟨_, rfl, ?_⟩; have n0_ := Aside0.mk (blk_below (g := gb211) (o := .cells #[.slice A0_0 l0_0.length c0_0, .slice A0_1 l0_1.length c0_1] 46 (0, 0)) (by (with_reducible repeat (first | refine blk_drewN ?_ _ | refine blk_drew ?_ | refine blk_alloc ?_ _)); exact BK211.out) hb); have n1_ := Aside0.mk (below_step (by repeat (first | (with_reducible first | exact HB.out | apply below_alloc | apply pw_below_drewN | apply below_drew1 | refine below_set ?_ GE211.out) | exact HB.out)) hb); clear BK211; clear HB; have BK211 := n0_; have HB := n1_; clear n0_ n1_; (try clear hb); (try clear hb2); (try clear hk); (try clear hi); have hcz19_0 : w18.cell? ⟨gb211, 0, none⟩ = some (.slice A0_0 l0_0.length c0_0) := (blk_cell BK211.out 0).trans rfl; have hcz19_1 : w18.cell? ⟨gb211, 1, none⟩ = some (.slice A0_1 l0_1.length c0_1) := (blk_cell BK211.out 1).trans rfl; have hfz19_0 := blk_frozen BK211.out 0; have hfz19_1 := blk_frozen BK211.out 1) | ((with_reducible refine gate_callee (f := 34) rfl ?_); refine goesL_ (some 28) rfl rfl Try.func34 (by kernel_rfl) rfl #[.agg #[.slice A0_0 l0_0.length c0_0, .slice A0_1 l0_1.length c0_1]] rfl (by (try simp only [List.map_toArray, List.map_cons, List.map_nil]); first | done | rfl | (simp only [List.length_drop, List.length_take]; rfl)) ?_; (with_reducible refine (laws_toChip.calls k _ _ l0_0 _ _ l0_1 t213 t216 _ ?side1 ?side2 ?side3 ?side4 A11.out).mono ?_); (case side1 => repeat (first | exact (Kd.C_below HR0_0.out HB.out) | (with_reducible refine Kd.C_alloc ?_ _) | (with_reducible refine Kd.C_drewN ?_ _) | (with_reducible refine Kd.C_drew ?_))); (case side2 => exact HC0_0.out); (case side3 => repeat (first | exact (Kd.C_below HR0_1.out HB.out) | (with_reducible refine Kd.C_alloc ?_ _) | (with_reducible refine Kd.C_drewN ?_ _) | (with_reducible refine Kd.C_drew ?_))); (case side4 => exact HC0_1.out); rintro e w20 ⟨v214, v217, rfl, ho0, ho1, hb⟩; refine ⟨_, rfl, ?_⟩; have n0_ := Aside0.mk (Kd.R_lower ho0 (below_size (by repeat (first | (with_reducible first | exact HB.out | apply below_alloc | apply pw_below_drewN | apply below_drew1 | refine below_set ?_ GE211.out) | exact HB.out)))); have n1_ := Aside0.mk (Kd.R_lower ho1 (below_size (by repeat (first | (with_reducible first | exact HB.out | apply below_alloc | apply pw_below_drewN | apply below_drew1 | refine below_set ?_ GE211.out) | exact HB.out)))); have n2_ := Aside0.mk (blk_below (g := gb211) (o := .cells #[.slice A0_0 l0_0.length c0_0, .slice A0_1 l0_1.length c0_1] 46 (0, 0)) (by (with_reducible repeat (first | refine blk_drewN ?_ _ | refine blk_drew ?_ | refine blk_alloc ?_ _)); exact BK211.out) hb); have n3_ := Aside0.mk (below_step (by repeat (first | (with_reducible first | exact HB.out | apply below_alloc | apply pw_below_drewN | apply below_drew1 | refine below_set ?_ GE211.out) | exact HB.out)) hb); clear BK211; clear HB; have HO215 := n0_; have HO218 := n1_; have BK211 := n2_; have HB := n3_; clear n0_ n1_ n2_ n3_; (try clear hb); (try clear hb2); (try clear hk); (try clear hi); (try clear ho0); (try clear ho1); obtain ⟨Ao21, co21, eo21⟩ := Kd.R_slice HO215.out; subst eo21; obtain ⟨Ao22, co22, eo22⟩ := Kd.R_slice HO218.out; subst eo22) | ((with_reducible refine gate_callee (f := 45) rfl ?_); refine goesL_ (some 31) rfl rfl Try.func45 (by kernel_rfl) rfl #[.agg #[.slice Ao21 t213.length co21, .slice Ao22 t216.length co22], .int .i64 a1, .string a2] rfl (by (try simp only [List.map_toArray, List.map_cons, List.map_nil]); first | done | rfl | (simp only [List.length_drop, List.length_take]; rfl)) ?_; (with_reducible refine (spec_Burn.calls k _ _ t213 _ _ t216 a1 a2 t219 t222 t225 _ ?side1 ?side2 ?side3 ?side4 A12.out).mono ?_); (case side1 => repeat (first | exact (Kd.R_reads' HO215.out).2.2 | (with_reducible refine Kd.C_alloc ?_ _) | (with_reducible refine Kd.C_drewN ?_ _) | (with_reducible refine Kd.C_drew ?_))); (case side2 => exact (Kd.R_reads' HO215.out).2.1); (case side3 => repeat (first | exact (Kd.R_reads' HO218.out).2.2 | (with_reducible refine Kd.C_alloc ?_ _) | (with_reducible refine Kd.C_drewN ?_ _) | (with_reducible refine Kd.C_drew ?_))); (case side4 => exact (Kd.R_reads' HO218.out).2.1); rintro e w23 ⟨v220, v223, rfl, ho0, ho1, hb⟩; refine ⟨_, rfl, ?_⟩; have n0_ := Aside0.mk (Kd.R_elder' (by (with_reducible repeat (first | apply Kd.R_alloc | apply Kd.R_drewN | apply Kd.R_drew)); exact HO215.out) (Kd.R_base ho0) hb); have n1_ := Aside0.mk (Kd.R_elder' (by (with_reducible repeat (first | apply Kd.R_alloc | apply Kd.R_drewN | apply Kd.R_drew)); exact HO218.out) (Kd.R_base ho1) hb); have n2_ := Aside0.mk (Kd.R_lower (Kd.R_new' ho0 (Kd.R_lt (by (with_reducible repeat (first | apply Kd.R_alloc | apply Kd.R_drewN | apply Kd.R_drew)); exact HO215.out))) (below_size (by repeat (first | (with_reducible first | exact HB.out | apply below_alloc | apply pw_below_drewN | apply below_drew1 | refine below_set ?_ GE211.out) | exact HB.out)))); have n3_ := Aside0.mk (Kd.R_lower (Kd.R_new' ho1 (Kd.R_lt (by (with_reducible repeat (first | apply Kd.R_alloc | apply Kd.R_drewN | apply Kd.R_drew)); exact HO218.out))) (below_size (by repeat (first | (with_reducible first | exact HB.out | apply below_alloc | apply pw_below_drewN | apply below_drew1 | refine below_set ?_ GE211.out) | exact HB.out)))); have n4_ := Aside0.mk (blk_below (g := gb211) (o := .cells #[.slice A0_0 l0_0.length c0_0, .slice A0_1 l0_1.length c0_1] 46 (0, 0)) (by (with_reducible repeat (first | refine blk_drewN ?_ _ | refine blk_drew ?_ | refine blk_alloc ?_ _)); exact BK211.out) hb); have n5_ := Aside0.mk (below_step (by repeat (first | (with_reducible first | exact HB.out | apply below_alloc | apply pw_below_drewN | apply below_drew1 | refine below_set ?_ GE211.out) | exact HB.out)) hb); clear HO215; clear HO218; clear BK211; clear HB; have HO215 := n0_; have HO218 := n1_; have HO221 := n2_; have HO224 := n3_; have BK211 := n4_; have HB := n5_; clear n0_ n1_ n2_ n3_ n4_ n5_; (try clear hb); (try clear hb2); (try clear hk); (try clear hi); (try clear ho0); (try clear ho1)) | ((with_reducible refine gate_dst (N := 8) rfl ?_); refine box_event ?hg (N := 8) ?hd (cs := #[.slice none 0 0, .slice none 0 0]) (t := 49) ?hr ?_; (case hd => rfl); (case hg => rfl); (case hr => first | (go_simp; done) | (go_simp; rfl)); intro gb226 hg w24 hbox hb; have n0_ := Aside0.mk (Kd.R_below (by (with_reducible repeat (first | apply Kd.R_alloc | apply Kd.R_drewN | apply Kd.R_drew)); exact HO215.out) hb); have n1_ := Aside0.mk (Kd.R_below (by (with_reducible repeat (first | apply Kd.R_alloc | apply Kd.R_drewN | apply Kd.R_drew)); exact HO218.out) hb); have n2_ := Aside0.mk (Kd.R_below (by (with_reducible repeat (first | apply Kd.R_alloc | apply Kd.R_drewN | apply Kd.R_drew)); exact HO221.out) hb); have n3_ := Aside0.mk (Kd.R_below (by (with_reducible repeat (first | apply Kd.R_alloc | apply Kd.R_drewN | apply Kd.R_drew)); exact HO224.out) hb); have n4_ := Aside0.mk (blk_below (g := gb211) (o := .cells #[.slice A0_0 l0_0.length c0_0, .slice A0_1 l0_1.length c0_1] 46 (0, 0)) (by (with_reducible repeat (first | refine blk_drewN ?_ _ | refine blk_drew ?_ | refine blk_alloc ?_ _)); exact BK211.out) hb); have n5_ := Aside0.mk (below_step (by repeat (first | (with_reducible first | exact HB.out | apply below_alloc | apply pw_below_drewN | apply below_drew1 | refine below_set ?_ GE211.out) | exact HB.out)) hb); have n6_ := Aside0.mk (hbox); have n7_ := Aside0.mk ((by rw [hg]; exact (below_size (by repeat (first | (with_reducible first | exact HB.out | apply below_alloc | apply pw_below_drewN | apply below_drew1 | refine below_set ?_ GE211.out) | exact HB.out))) : w.heap.size ≤ gb226)); have n8_ := Aside0.mk ((by rw [hg]; exact (below_size (by repeat (first | (with_reducible first | exact HB.out | apply below_alloc | apply pw_below_drewN | apply below_drew1 | refine below_set ?_ GE211.out) | exact HB.out))) : w.heap.size ≤ gb226)); have n9_ := Aside0.mk ((by rw [hg]; exact Nat.ne_of_lt (blk_lt (g := gb211) (o := .cells #[.slice A0_0 l0_0.length c0_0, .slice A0_1 l0_1.length c0_1] 46 (0, 0)) (by (with_reducible repeat (first | refine blk_drewN ?_ _ | refine blk_drew ?_ | refine blk_alloc ?_ _)); exact BK211.out)) : gb211 ≠ gb226)); have n10_ := Aside0.mk ((by rw [hg]; exact Nat.ne_of_gt (blk_lt (g := gb211) (o := .cells #[.slice A0_0 l0_0.length c0_0, .slice A0_1 l0_1.length c0_1] 46 (0, 0)) (by (with_reducible repeat (first | refine blk_drewN ?_ _ | refine blk_drew ?_ | refine blk_alloc ?_ _)); exact BK211.out)) : gb226 ≠ gb211)); clear HO215; clear HO218; clear HO221; clear HO224; clear BK211; clear HB; have HO215 := n0_; have HO218 := n1_; have HO221 := n2_; have HO224 := n3_; have BK211 := n4_; have HB := n5_; have BK226 := n6_; have GW226 := n7_; have GE226 := n8_; have NB211_226 := n9_; have NB226_211 := n10_; clear n0_ n1_ n2_ n3_ n4_ n5_ n6_ n7_ n8_ n9_ n10_; clear hb hbox hg; obtain ⟨Ao25, co25, eo25⟩ := Kd.R_slice HO221.out; subst eo25; have hnb26 := NB226_211.out; have hnc26 := NB211_226.out; have hcz27_0 : w24.cell? ⟨gb226, 0, none⟩ = some (.slice none 0 0) := (blk_cell BK226.out 0).trans rfl; have hcz27_1 : w24.cell? ⟨gb226, 1, none⟩ = some (.slice none 0 0) := (blk_cell BK226.out 1).trans rfl; have hfz27_0 := blk_frozen BK226.out 0; have hfz27_1 := blk_frozen BK226.out 1; obtain ⟨Ao28, co28, eo28⟩ := Kd.R_slice HO224.out; subst eo28; have hcz29_0 : w24.cell? ⟨gb211, 0, none⟩ = some (.slice A0_0 l0_0.length c0_0) := (blk_cell BK211.out 0).trans rfl; have hcz29_1 : w24.cell? ⟨gb211, 1, none⟩ = some (.slice A0_1 l0_1.length c0_1) := (blk_cell BK211.out 1).trans rfl; have hfz29_0 := blk_frozen BK211.out 0; have hfz29_1 := blk_frozen BK211.out 1) | ((with_reducible refine gate_callee (f := 34) rfl ?_); refine goesL_ (some 35) rfl rfl Try.func34 (by kernel_rfl) rfl #[.agg #[.slice A0_0 l0_0.length c0_0, .slice A0_1 l0_1.length c0_1]] rfl (by (try simp only [List.map_toArray, List.map_cons, List.map_nil]); first | done | rfl | (simp only [List.length_drop, List.length_take]; rfl)) ?_; (with_reducible refine (laws_toChip.calls k _ _ l0_0 _ _ l0_1 t227 t230 _ ?side1 ?side2 ?side3 ?side4 A13.out).mono ?_); (case side1 => exact Kd.C_below HR0_0.out (by repeat (first | (with_reducible first | exact HB.out | apply below_alloc | apply pw_below_drewN | apply below_drew1 | refine below_set ?_ GE211.out | refine below_set ?_ GE226.out) | exact HB.out))); (case side2 => exact HC0_0.out); (case side3 => exact Kd.C_below HR0_1.out (by repeat (first | (with_reducible first | exact HB.out | apply below_alloc | apply pw_below_drewN | apply below_drew1 | refine below_set ?_ GE211.out | refine below_set ?_ GE226.out) | exact HB.out))); (case side4 => exact HC0_1.out); rintro e w30 ⟨v228, v231, rfl, ho0, ho1, hb⟩; refine ⟨_, rfl, ?_⟩; have n0_ := Aside0.mk (Kd.R_elder' (by (with_reducible repeat (first | apply Kd.R_alloc | apply Kd.R_drewN | apply Kd.R_drew)); exact (Kd.R_mono (Kd.R_far (p := ⟨gb226, 1, none⟩) (Kd.R_far (p := ⟨gb226, 0, none⟩) (Kd.R_types HO215.out BK226.out (by decide)) (fun _ hk => hk.2) (.slice Ao25 t219.length co25)) (fun _ hk => hk.2) (.slice Ao28 t222.length co28)) (fun _ h_ => h_.1))) (Kd.R_base ho0) hb); have n1_ := Aside0.mk (Kd.R_elder' (by (with_reducible repeat (first | apply Kd.R_alloc | apply Kd.R_drewN | apply Kd.R_drew)); exact (Kd.R_mono (Kd.R_far (p := ⟨gb226, 1, none⟩) (Kd.R_far (p := ⟨gb226, 0, none⟩) (Kd.R_types HO218.out BK226.out (by decide)) (fun _ hk => hk.2) (.slice Ao25 t219.length co25)) (fun _ hk => hk.2) (.slice Ao28 t222.length co28)) (fun _ h_ => h_.1))) (Kd.R_base ho1) hb); have n2_ := Aside0.mk (Kd.R_elder' (by (with_reducible repeat (first | apply Kd.R_alloc | apply Kd.R_drewN | apply Kd.R_drew)); exact (Kd.R_mono (Kd.R_far (p := ⟨gb226, 1, none⟩) (Kd.R_far (p := ⟨gb226, 0, none⟩) (Kd.R_types HO221.out BK226.out (by decide)) (fun _ hk => hk.2) (.slice Ao25 t219.length co25)) (fun _ hk => hk.2) (.slice Ao28 t222.length co28)) (fun _ h_ => h_.1))) (Kd.R_base ho0) hb); have n3_ := Aside0.mk (Kd.R_elder' (by (with_reducible repeat (first | apply Kd.R_alloc | apply Kd.R_drewN | apply Kd.R_drew)); exact (Kd.R_mono (Kd.R_far (p := ⟨gb226, 1, none⟩) (Kd.R_far (p := ⟨gb226, 0, none⟩) (Kd.R_types HO224.out BK226.out (by decide)) (fun _ hk => hk.2) (.slice Ao25 t219.length co25)) (fun _ hk => hk.2) (.slice Ao28 t222.length co28)) (fun _ h_ => h_.1))) (Kd.R_base ho1) hb); have n4_ := Aside0.mk (Kd.R_lower (Kd.R_new' (Kd.R_new' ho0 (Kd.R_lt (by (with_reducible repeat (first | apply Kd.R_alloc | apply Kd.R_drewN | apply Kd.R_drew)); exact (Kd.R_mono (Kd.R_far (p := ⟨gb226, 1, none⟩) (Kd.R_far (p := ⟨gb226, 0, none⟩) (Kd.R_types HO215.out BK226.out (by decide)) (fun _ hk => hk.2) (.slice Ao25 t219.length co25)) (fun _ hk => hk.2) (.slice Ao28 t222.length co28)) (fun _ h_ => h_.1))))) (Kd.R_lt (by (with_reducible repeat (first | apply Kd.R_alloc | apply Kd.R_drewN | apply Kd.R_drew)); exact (Kd.R_mono (Kd.R_far (p := ⟨gb226, 1, none⟩) (Kd.R_far (p := ⟨gb226, 0, none⟩) (Kd.R_types HO221.out BK226.out (by decide)) (fun _ hk => hk.2) (.slice Ao25 t219.length co25)) (fun _ hk => hk.2) (.slice Ao28 t222.length co28)) (fun _ h_ => h_.1))))) (below_size (by repeat (first | (with_reducible first | exact HB.out | apply below_alloc | apply pw_below_drewN | apply below_drew1 | refine below_set ?_ GE211.out | refine below_set ?_ GE226.out) | exact HB.out)))); have n5_ := Aside0.mk (Kd.R_lower (Kd.R_new' (Kd.R_new' ho1 (Kd.R_lt (by (with_reducible repeat (first | apply Kd.R_alloc | apply Kd.R_drewN | apply Kd.R_drew)); exact (Kd.R_mono (Kd.R_far (p := ⟨gb226, 1, none⟩) (Kd.R_far (p := ⟨gb226, 0, none⟩) (Kd.R_types HO218.out BK226.out (by decide)) (fun _ hk => hk.2) (.slice Ao25 t219.length co25)) (fun _ hk => hk.2) (.slice Ao28 t222.length co28)) (fun _ h_ => h_.1))))) (Kd.R_lt (by (with_reducible repeat (first | apply Kd.R_alloc | apply Kd.R_drewN | apply Kd.R_drew)); exact (Kd.R_mono (Kd.R_far (p := ⟨gb226, 1, none⟩) (Kd.R_far (p := ⟨gb226, 0, none⟩) (Kd.R_types HO224.out BK226.out (by decide)) (fun _ hk => hk.2) (.slice Ao25 t219.length co25)) (fun _ hk => hk.2) (.slice Ao28 t222.length co28)) (fun _ h_ => h_.1))))) (below_size (by repeat (first | (with_reducible first | exact HB.out | apply below_alloc | apply pw_below_drewN | apply below_drew1 | refine below_set ?_ GE211.out | refine below_set ?_ GE226.out) | exact HB.out)))); have n6_ := Aside0.mk (blk_below (g := gb211) (o := .cells #[.slice A0_0 l0_0.length c0_0, .slice A0_1 l0_1.length c0_1] 46 (0, 0)) (by (with_reducible repeat (first | refine blk_drewN ?_ _ | refine blk_drew ?_ | refine blk_alloc ?_ _)); refine blk_far ?_ NB211_226.out _; (with_reducible repeat (first | refine blk_drewN ?_ _ | refine blk_drew ?_ | refine blk_alloc ?_ _)); refine blk_far ?_ NB211_226.out _; (with_reducible repeat (first | refine blk_drewN ?_ _ | refine blk_drew ?_ | refine blk_alloc ?_ _)); exact BK211.out) hb); have n7_ := Aside0.mk (blk_below (g := gb226) (o := .cells #[.slice Ao25 t219.length co25, .slice Ao28 t222.length co28] 49 (0, 0)) (by (with_reducible repeat (first | refine blk_drewN ?_ _ | refine blk_drew ?_ | refine blk_alloc ?_ _)); refine blk_put (cs := #[.slice Ao25 t219.length co25, .slice none 0 0]) ?_ 1 _ rfl; (with_reducible repeat (first | refine blk_drewN ?_ _ | refine blk_drew ?_ | refine blk_alloc ?_ _)); refine blk_put (cs := #[.slice none 0 0, .slice none 0 0]) ?_ 0 _ rfl; (with_reducible repeat (first | refine blk_drewN ?_ _ | refine blk_drew ?_ | refine blk_alloc ?_ _)); exact BK226.out) hb); have n8_ := Aside0.mk (below_step (by repeat (first | (with_reducible first | exact HB.out | apply below_alloc | apply pw_below_drewN | apply below_drew1 | refine below_set ?_ GE211.out | refine below_set ?_ GE226.out) | exact HB.out)) hb); clear HO215; clear HO218; clear HO221; clear HO224; clear BK211; clear BK226; clear HB; have HO215 := n0_; have HO218 := n1_; have HO221 := n2_; have HO224 := n3_; have HO229 := n4_; have HO232 := n5_; have BK211 := n6_; have BK226 := n7_; have HB := n8_; clear n0_ n1_ n2_ n3_ n4_ n5_ n6_ n7_ n8_; (try clear hb); (try clear hb2); (try clear hk); (try clear hi); (try clear ho0); (try clear ho1)) | ((with_reducible refine gate_dst (N := 10) rfl ?_); refine box_event ?hg (N := 10) ?hd (cs := #[.slice none 0 0, .slice none 0 0]) (t := 49) ?hr ?_; (case hd => rfl); (case hg => rfl); (case hr => first | (go_simp; done) | (go_simp; rfl)); intro gb233 hg w31 hbox hb; have n0_ := Aside0.mk (Kd.R_below (by (with_reducible repeat (first | apply Kd.R_alloc | apply Kd.R_drewN | apply Kd.R_drew)); exact HO215.out) hb); have n1_ := Aside0.mk (Kd.R_below (by (with_reducible repeat (first | apply Kd.R_alloc | apply Kd.R_drewN | apply Kd.R_drew)); exact HO218.out) hb); have n2_ := Aside0.mk (Kd.R_below (by (with_reducible repeat (first | apply Kd.R_alloc | apply Kd.R_drewN | apply Kd.R_drew)); exact HO221.out) hb); have n3_ := Aside0.mk (Kd.R_below (by (with_reducible repeat (first | apply Kd.R_alloc | apply Kd.R_drewN | apply Kd.R_drew)); exact HO224.out) hb); have n4_ := Aside0.mk (Kd.R_below (by (with_reducible repeat (first | apply Kd.R_alloc | apply Kd.R_drewN | apply Kd.R_drew)); exact HO229.out) hb); have n5_ := Aside0.mk (Kd.R_below (by (with_reducible repeat (first | apply Kd.R_alloc | apply Kd.R_drewN | apply Kd.R_drew)); exact HO232.out) hb); have n6_ := Aside0.mk (blk_below (g := gb211) (o := .cells #[.slice A0_0 l0_0.length c0_0, .slice A0_1 l0_1.length c0_1] 46 (0, 0)) (by (with_reducible repeat (first | refine blk_drewN ?_ _ | refine blk_drew ?_ | refine blk_alloc ?_ _)); exact BK211.out) hb); have n7_ := Aside0.mk (blk_below (g := gb226) (o := .cells #[.slice Ao25 t219.length co25, .slice Ao28 t222.length co28] 49 (0, 0)) (by (with_reducible repeat (first | refine blk_drewN ?_ _ | refine blk_drew ?_ | refine blk_alloc ?_ _)); exact BK226.out) hb); have n8_ := Aside0.mk (below_step (by repeat (first | (with_reducible first | exact HB.out | apply below_alloc | apply pw_below_drewN | apply below_drew1 | refine below_set ?_ GE211.out | refine below_set ?_ GE226.out) | exact HB.out)) hb); have n9_ := Aside0.mk (hbox); have n10_ := Aside0.mk ((by rw [hg]; exact (below_size (by repeat (first | (with_reducible first | exact HB.out | apply below_alloc | apply pw_below_drewN | apply below_drew1 | refine below_set ?_ GE211.out | refine below_set ?_ GE226.out) | exact HB.out))) : w.heap.size ≤ gb233)); have n11_ := Aside0.mk ((by rw [hg]; exact (below_size (by repeat (first | (with_reducible first | exact HB.out | apply below_alloc | apply pw_below_drewN | apply below_drew1 | refine below_set ?_ GE211.out | refine below_set ?_ GE226.out) | exact HB.out))) : w.heap.size ≤ gb233)); have n12_ := Aside0.mk ((by rw [hg]; exact Nat.ne_of_lt (blk_lt (g := gb211) (o := .cells #[.slice A0_0 l0_0.length c0_0, .slice A0_1 l0_1.length c0_1] 46 (0, 0)) (by (with_reducible repeat (first | refine blk_drewN ?_ _ | refine blk_drew ?_ | refine blk_alloc ?_ _)); exact BK211.out)) : gb211 ≠ gb233)); have n13_ := Aside0.mk ((by rw [hg]; exact Nat.ne_of_gt (blk_lt (g := gb211) (o := .cells #[.slice A0_0 l0_0.length c0_0, .slice A0_1 l0_1.length c0_1] 46 (0, 0)) (by (with_reducible repeat (first | refine blk_drewN ?_ _ | refine blk_drew ?_ | refine blk_alloc ?_ _)); exact BK211.out)) : gb233 ≠ gb211)); have n14_ := Aside0.mk ((by rw [hg]; exact Nat.ne_of_lt (blk_lt (g := gb226) (o := .cells #[.slice Ao25 t219.length co25, .slice Ao28 t222.length co28] 49 (0, 0)) (by (with_reducible repeat (first | refine blk_drewN ?_ _ | refine blk_drew ?_ | refine blk_alloc ?_ _)); exact BK226.out)) : gb226 ≠ gb233)); have n15_ := Aside0.mk ((by rw [hg]; exact Nat.ne_of_gt (blk_lt (g := gb226) (o := .cells #[.slice Ao25 t219.length co25, .slice Ao28 t222.length co28] 49 (0, 0)) (by (with_reducible repeat (first | refine blk_drewN ?_ _ | refine blk_drew ?_ | refine blk_alloc ?_ _)); exact BK226.out)) : gb233 ≠ gb226)); clear HO215; clear HO218; clear HO221; clear HO224; clear HO229; clear HO232; clear BK211; clear BK226; clear HB; have HO215 := n0_; have HO218 := n1_; have HO221 := n2_; have HO224 := n3_; have HO229 := n4_; have HO232 := n5_; have BK211 := n6_; have BK226 := n7_; have HB := n8_; have BK233 := n9_; have GW233 := n10_; have GE233 := n11_; have NB211_233 := n12_; have NB233_211 := n13_; have NB226_233 := n14_; have NB233_226 := n15_; clear n0_ n1_ n2_ n3_ n4_ n5_ n6_ n7_ n8_ n9_ n10_ n11_ n12_ n13_ n14_ n15_; clear hb hbox hg; obtain ⟨Ao32, co32, eo32⟩ := Kd.R_slice HO229.out; subst eo32; have hnb33 := NB233_211.out; have hnc33 := NB211_233.out; have hnb34 := NB233_226.out; have hnc34 := NB226_233.out; have hcz35_0 : w31.cell? ⟨gb233, 0, none⟩ = some (.slice none 0 0) := (blk_cell BK233.out 0).trans rfl; have hcz35_1 : w31.cell? ⟨gb233, 1, none⟩ = some (.slice none 0 0) := (blk_cell BK233.out 1).trans rfl; have hfz35_0 := blk_frozen BK233.out 0; have hfz35_1 := blk_frozen BK233.out 1; obtain ⟨Ao36, co36, eo36⟩ := Kd.R_slice HO232.out; subst eo36) | ((with_reducible refine gate_callee (f := 46) rfl ?_); refine goesL_ (some 40) rfl rfl Try.func46 (by kernel_rfl) rfl #[.agg #[.slice Ao32 t227.length co32, .slice Ao36 t230.length co36], .int .i64 a1, .string a2] rfl (by (try simp only [List.map_toArray, List.map_cons, List.map_nil]); first | done | rfl | (simp only [List.length_drop, List.length_take]; rfl)) ?_; (with_reducible refine (impl_Burn.calls _ _ t227 _ _ t230 a1 a2 t234 t237 t240 _ ?side1 ?side2 ?side3 ?side4 A14.out).mono ?_); (case side1 => refine (Kd.R_reads' (e := 9) (base := w.heap.size) (ok := fun k_ => ((True ∧ some k_ ≠ (.slice Ao21 t213.length co21 : Value).ownBlock) ∧ some k_ ≠ (.slice Ao25 t219.length co25 : Value).ownBlock)) (n := t227.length) (c := co32) ?_).2.2; exact (by (with_reducible repeat (first | apply Kd.R_alloc | apply Kd.R_drewN | apply Kd.R_drew)); exact (Kd.R_mono (Kd.R_far (p := ⟨gb233, 1, none⟩) (Kd.R_far (p := ⟨gb233, 0, none⟩) (Kd.R_types HO229.out BK233.out (by decide)) (fun _ hk => hk.2) (.slice Ao32 t227.length co32)) (fun _ hk => hk.2) (.slice Ao36 t230.length co36)) (fun _ h_ => h_.1)))); (case side2 => exact (Kd.R_reads' HO229.out).2.1); (case side3 => refine (Kd.R_reads' (e := 3) (base := w.heap.size) (ok := fun k_ => ((True ∧ some k_ ≠ (.slice Ao22 t216.length co22 : Value).ownBlock) ∧ some k_ ≠ (.slice Ao28 t222.length co28 : Value).ownBlock)) (n := t230.length) (c := co36) ?_).2.2; exact (by (with_reducible repeat (first | apply Kd.R_alloc | apply Kd.R_drewN | apply Kd.R_drew)); exact (Kd.R_mono (Kd.R_far (p := ⟨gb233, 1, none⟩) (Kd.R_far (p := ⟨gb233, 0, none⟩) (Kd.R_types HO232.out BK233.out (by decide)) (fun _ hk => hk.2) (.slice Ao32 t227.length co32)) (fun _ hk => hk.2) (.slice Ao36 t230.length co36)) (fun _ h_ => h_.1)))); (case side4 => exact (Kd.R_reads' HO232.out).2.1); rintro e w37 ⟨v235, v238, rfl, ho0, ho1, hb⟩; refine ⟨_, rfl, ?_⟩; have n0_ := Aside0.mk (Kd.R_elder' (by (with_reducible repeat (first | apply Kd.R_alloc | apply Kd.R_drewN | apply Kd.R_drew)); exact (Kd.R_mono (Kd.R_far (p := ⟨gb233, 1, none⟩) (Kd.R_far (p := ⟨gb233, 0, none⟩) (Kd.R_types HO215.out BK233.out (by decide)) (fun _ hk => hk.2) (.slice Ao32 t227.length co32)) (fun _ hk => hk.2) (.slice Ao36 t230.length co36)) (fun _ h_ => h_.1))) (Kd.R_base ho0) hb); have n1_ := Aside0.mk (Kd.R_elder' (by (with_reducible repeat (first | apply Kd.R_alloc | apply Kd.R_drewN | apply Kd.R_drew)); exact (Kd.R_mono (Kd.R_far (p := ⟨gb233, 1, none⟩) (Kd.R_far (p := ⟨gb233, 0, none⟩) (Kd.R_types HO218.out BK233.out (by decide)) (fun _ hk => hk.2) (.slice Ao32 t227.length co32)) (fun _ hk => hk.2) (.slice Ao36 t230.length co36)) (fun _ h_ => h_.1))) (Kd.R_base ho1) hb); have n2_ := Aside0.mk (Kd.R_elder' (by (with_reducible repeat (first | apply Kd.R_alloc | apply Kd.R_drewN | apply Kd.R_drew)); exact (Kd.R_mono (Kd.R_far (p := ⟨gb233, 1, none⟩) (Kd.R_far (p := ⟨gb233, 0, none⟩) (Kd.R_types HO221.out BK233.out (by decide)) (fun _ hk => hk.2) (.slice Ao32 t227.length co32)) (fun _ hk => hk.2) (.slice Ao36 t230.length co36)) (fun _ h_ => h_.1))) (Kd.R_base ho0) hb); have n3_ := Aside0.mk (Kd.R_elder' (by (with_reducible repeat (first | apply Kd.R_alloc | apply Kd.R_drewN | apply Kd.R_drew)); exact (Kd.R_mono (Kd.R_far (p := ⟨gb233, 1, none⟩) (Kd.R_far (p := ⟨gb233, 0, none⟩) (Kd.R_types HO224.out BK233.out (by decide)) (fun _ hk => hk.2) (.slice Ao32 t227.length co32)) (fun _ hk => hk.2) (.slice Ao36 t230.length co36)) (fun _ h_ => h_.1))) (Kd.R_base ho1) hb); have n4_ := Aside0.mk (Kd.R_elder' (by (with_reducible repeat (first | apply Kd.R_alloc | apply Kd.R_drewN | apply Kd.R_drew)); exact (Kd.R_mono (Kd.R_far (p := ⟨gb233, 1, none⟩) (Kd.R_far (p := ⟨gb233, 0, none⟩) (Kd.R_types HO229.out BK233.out (by decide)) (fun _ hk => hk.2) (.slice Ao32 t227.length co32)) (fun _ hk => hk.2) (.slice Ao36 t230.length co36)) (fun _ h_ => h_.1))) (Kd.R_base ho0) hb); have n5_ := Aside0.mk (Kd.R_elder' (by (with_reducible repeat (first | apply Kd.R_alloc | apply Kd.R_drewN | apply Kd.R_drew)); exact (Kd.R_mono (Kd.R_far (p := ⟨gb233, 1, none⟩) (Kd.R_far (p := ⟨gb233, 0, none⟩) (Kd.R_types HO232.out BK233.out (by decide)) (fun _ hk => hk.2) (.slice Ao32 t227.length co32)) (fun _ hk => hk.2) (.slice Ao36 t230.length co36)) (fun _ h_ => h_.1))) (Kd.R_base ho1) hb); have n6_ := Aside0.mk (Kd.R_lower (Kd.R_new' (Kd.R_new' (Kd.R_new' ho0 (Kd.R_lt (by (with_reducible repeat (first | apply Kd.R_alloc | apply Kd.R_drewN | apply Kd.R_drew)); exact (Kd.R_mono (Kd.R_far (p := ⟨gb233, 1, none⟩) (Kd.R_far (p := ⟨gb233, 0, none⟩) (Kd.R_types HO215.out BK233.out (by decide)) (fun _ hk => hk.2) (.slice Ao32 t227.length co32)) (fun _ hk => hk.2) (.slice Ao36 t230.length co36)) (fun _ h_ => h_.1))))) (Kd.R_lt (by (with_reducible repeat (first | apply Kd.R_alloc | apply Kd.R_drewN | apply Kd.R_drew)); exact (Kd.R_mono (Kd.R_far (p := ⟨gb233, 1, none⟩) (Kd.R_far (p := ⟨gb233, 0, none⟩) (Kd.R_types HO221.out BK233.out (by decide)) (fun _ hk => hk.2) (.slice Ao32 t227.length co32)) (fun _ hk => hk.2) (.slice Ao36 t230.length co36)) (fun _ h_ => h_.1))))) (Kd.R_lt (by (with_reducible repeat (first | apply Kd.R_alloc | apply Kd.R_drewN | apply Kd.R_drew)); exact (Kd.R_mono (Kd.R_far (p := ⟨gb233, 1, none⟩) (Kd.R_far (p := ⟨gb233, 0, none⟩) (Kd.R_types HO229.out BK233.out (by decide)) (fun _ hk => hk.2) (.slice Ao32 t227.length co32)) (fun _ hk => hk.2) (.slice Ao36 t230.length co36)) (fun _ h_ => h_.1))))) (below_size (by repeat (first | (with_reducible first | exact HB.out | apply below_alloc | apply pw_below_drewN | apply below_drew1 | refine below_set ?_ GE211.out | refine below_set ?_ GE226.out | refine below_set ?_ GE233.out) | exact HB.out)))); have n7_ := Aside0.mk (Kd.R_lower (Kd.R_new' (Kd.R_new' (Kd.R_new' ho1 (Kd.R_lt (by (with_reducible repeat (first | apply Kd.R_alloc | apply Kd.R_drewN | apply Kd.R_drew)); exact (Kd.R_mono (Kd.R_far (p := ⟨gb233, 1, none⟩) (Kd.R_far (p := ⟨gb233, 0, none⟩) (Kd.R_types HO218.out BK233.out (by decide)) (fun _ hk => hk.2) (.slice Ao32 t227.length co32)) (fun _ hk => hk.2) (.slice Ao36 t230.length co36)) (fun _ h_ => h_.1))))) (Kd.R_lt (by (with_reducible repeat (first | apply Kd.R_alloc | apply Kd.R_drewN | apply Kd.R_drew)); exact (Kd.R_mono (Kd.R_far (p := ⟨gb233, 1, none⟩) (Kd.R_far (p := ⟨gb233, 0, none⟩) (Kd.R_types HO224.out BK233.out (by decide)) (fun _ hk => hk.2) (.slice Ao32 t227.length co32)) (fun _ hk => hk.2) (.slice Ao36 t230.length co36)) (fun _ h_ => h_.1))))) (Kd.R_lt (by (with_reducible repeat (first | apply Kd.R_alloc | apply Kd.R_drewN | apply Kd.R_drew)); exact (Kd.R_mono (Kd.R_far (p := ⟨gb233, 1, none⟩) (Kd.R_far (p := ⟨gb233, 0, none⟩) (Kd.R_types HO232.out BK233.out (by decide)) (fun _ hk => hk.2) (.slice Ao32 t227.length co32)) (fun _ hk => hk.2) (.slice Ao36 t230.length co36)) (fun _ h_ => h_.1))))) (below_size (by repeat (first | (with_reducible first | exact HB.out | apply below_alloc | apply pw_below_drewN | apply below_drew1 | refine below_set ?_ GE211.out | refine below_set ?_ GE226.out | refine below_set ?_ GE233.out) | exact HB.out)))); have n8_ := Aside0.mk (blk_below (g := gb211) (o := .cells #[.slice A0_0 l0_0.length c0_0, .slice A0_1 l0_1.length c0_1] 46 (0, 0)) (by (with_reducible repeat (first | refine blk_drewN ?_ _ | refine blk_drew ?_ | refine blk_alloc ?_ _)); refine blk_far ?_ NB211_233.out _; (with_reducible repeat (first | refine blk_drewN ?_ _ | refine blk_drew ?_ | refine blk_alloc ?_ _)); refine blk_far ?_ NB211_233.out _; (with_reducible repeat (first | refine blk_drewN ?_ _ | refine blk_drew ?_ | refine blk_alloc ?_ _)); exact BK211.out) hb); have n9_ := Aside0.mk (blk_below (g := gb226) (o := .cells #[.slice Ao25 t219.length co25, .slice Ao28 t222.length co28] 49 (0, 0)) (by (with_reducible repeat (first | refine blk_drewN ?_ _ | refine blk_drew ?_ | refine blk_alloc ?_ _)); refine blk_far ?_ NB226_233.out _; (with_reducible repeat (first | refine blk_drewN ?_ _ | refine blk_drew ?_ | refine blk_alloc ?_ _)); refine blk_far ?_ NB226_233.out _; (with_reducible repeat (first | refine blk_drewN ?_ _ | refine blk_drew ?_ | refine blk_alloc ?_ _)); exact BK226.out) hb); have n10_ := Aside0.mk (blk_below (g := gb233) (o := .cells #[.slice Ao32 t227.length co32, .slice Ao36 t230.length co36] 49 (0, 0)) (by (with_reducible repeat (first | refine blk_drewN ?_ _ | refine blk_drew ?_ | refine blk_alloc ?_ _)); refine blk_put (cs := #[.slice Ao32 t227.length co32, .slice none 0 0]) ?_ 1 _ rfl; (with_reducible repeat (first | refine blk_drewN ?_ _ | refine blk_drew ?_ | refine blk_alloc ?_ _)); refine blk_put (cs := #[.slice none 0 0, .slice none 0 0]) ?_ 0 _ rfl; (with_reducible repeat (first | refine blk_drewN ?_ _ | refine blk_drew ?_ | refine blk_alloc ?_ _)); exact BK233.out) hb); have n11_ := Aside0.mk (below_step (by repeat (first | (with_reducible first | exact HB.out | apply below_alloc | apply pw_below_drewN | apply below_drew1 | refine below_set ?_ GE211.out | refine below_set ?_ GE226.out | refine below_set ?_ GE233.out) | exact HB.out)) hb); clear HO215; clear HO218; clear HO221; clear HO224; clear HO229; clear HO232; clear BK211; clear BK226; clear BK233; clear HB; have HO215 := n0_; have HO218 := n1_; have HO221 := n2_; have HO224 := n3_; have HO229 := n4_; have HO232 := n5_; have HO236 := n6_; have HO239 := n7_; have BK211 := n8_; have BK226 := n9_; have BK233 := n10_; have HB := n11_; clear n0_ n1_ n2_ n3_ n4_ n5_ n6_ n7_ n8_ n9_ n10_ n11_; (try clear hb); (try clear hb2); (try clear hk); (try clear hi); (try clear ho0); (try clear ho1)) | ((with_reducible refine gate_dst (N := 11) rfl ?_); refine box_event ?hg (N := 11) ?hd (cs := #[.slice none 0 0, .slice none 0 0]) (t := 49) ?hr ?_; (case hd => rfl); (case hg => rfl); (case hr => first | (go_simp; done) | (go_simp; rfl)); intro gb241 hg w38 hbox hb; have n0_ := Aside0.mk (Kd.R_below (by (with_reducible repeat (first | apply Kd.R_alloc | apply Kd.R_drewN | apply Kd.R_drew)); exact HO215.out) hb); have n1_ := Aside0.mk (Kd.R_below (by (with_reducible repeat (first | apply Kd.R_alloc | apply Kd.R_drewN | apply Kd.R_drew)); exact HO218.out) hb); have n2_ := Aside0.mk (Kd.R_below (by (with_reducible repeat (first | apply Kd.R_alloc | apply Kd.R_drewN | apply Kd.R_drew)); exact HO221.out) hb); have n3_ := Aside0.mk (Kd.R_below (by (with_reducible repeat (first | apply Kd.R_alloc | apply Kd.R_drewN | apply Kd.R_drew)); exact HO224.out) hb); have n4_ := Aside0.mk (Kd.R_below (by (with_reducible repeat (first | apply Kd.R_alloc | apply Kd.R_drewN | apply Kd.R_drew)); exact HO229.out) hb); have n5_ := Aside0.mk (Kd.R_below (by (with_reducible repeat (first | apply Kd.R_alloc | apply Kd.R_drewN | apply Kd.R_drew)); exact HO232.out) hb); have n6_ := Aside0.mk (Kd.R_below (by (with_reducible repeat (first | apply Kd.R_alloc | apply Kd.R_drewN | apply Kd.R_drew)); exact HO236.out) hb); have n7_ := Aside0.mk (Kd.R_below (by (with_reducible repeat (first | apply Kd.R_alloc | apply Kd.R_drewN | apply Kd.R_drew)); exact HO239.out) hb); have n8_ := Aside0.mk (blk_below (g := gb211) (o := .cells #[.slice A0_0 l0_0.length c0_0, .slice A0_1 l0_1.length c0_1] 46 (0, 0)) (by (with_reducible repeat (first | refine blk_drewN ?_ _ | refine blk_drew ?_ | refine blk_alloc ?_ _)); exact BK211.out) hb); have n9_ := Aside0.mk (blk_below (g := gb226) (o := .cells #[.slice Ao25 t219.length co25, .slice Ao28 t222.length co28] 49 (0, 0)) (by (with_reducible repeat (first | refine blk_drewN ?_ _ | refine blk_drew ?_ | refine blk_alloc ?_ _)); exact BK226.out) hb); have n10_ := Aside0.mk (blk_below (g := gb233) (o := .cells #[.slice Ao32 t227.length co32, .slice Ao36 t230.length co36] 49 (0, 0)) (by (with_reducible repeat (first | refine blk_drewN ?_ _ | refine blk_drew ?_ | refine blk_alloc ?_ _)); exact BK233.out) hb); have n11_ := Aside0.mk (below_step (by repeat (first | (with_reducible first | exact HB.out | apply below_alloc | apply pw_below_drewN | apply below_drew1 | refine below_set ?_ GE211.out | refine below_set ?_ GE226.out | refine below_set ?_ GE233.out) | exact HB.out)) hb); have n12_ := Aside0.mk (hbox); have n13_ := Aside0.mk ((by rw [hg]; exact (below_size (by repeat (first | (with_reducible first | exact HB.out | apply below_alloc | apply pw_below_drewN | apply below_drew1 | refine below_set ?_ GE211.out | refine below_set ?_ GE226.out | refine below_set ?_ GE233.out) | exact HB.out))) : w.heap.size ≤ gb241)); have n14_ := Aside0.mk ((by rw [hg]; exact (below_size (by repeat (first | (with_reducible first | exact HB.out | apply below_alloc | apply pw_below_drewN | apply below_drew1 | refine below_set ?_ GE211.out | refine below_set ?_ GE226.out | refine below_set ?_ GE233.out) | exact HB.out))) : w.heap.size ≤ gb241)); have n15_ := Aside0.mk ((by rw [hg]; exact Nat.ne_of_lt (blk_lt (g := gb211) (o := .cells #[.slice A0_0 l0_0.length c0_0, .slice A0_1 l0_1.length c0_1] 46 (0, 0)) (by (with_reducible repeat (first | refine blk_drewN ?_ _ | refine blk_drew ?_ | refine blk_alloc ?_ _)); exact BK211.out)) : gb211 ≠ gb241)); have n16_ := Aside0.mk ((by rw [hg]; exact Nat.ne_of_gt (blk_lt (g := gb211) (o := .cells #[.slice A0_0 l0_0.length c0_0, .slice A0_1 l0_1.length c0_1] 46 (0, 0)) (by (with_reducible repeat (first | refine blk_drewN ?_ _ | refine blk_drew ?_ | refine blk_alloc ?_ _)); exact BK211.out)) : gb241 ≠ gb211)); have n17_ := Aside0.mk ((by rw [hg]; exact Nat.ne_of_lt (blk_lt (g := gb226) (o := .cells #[.slice Ao25 t219.length co25, .slice Ao28 t222.length co28] 49 (0, 0)) (by (with_reducible repeat (first | refine blk_drewN ?_ _ | refine blk_drew ?_ | refine blk_alloc ?_ _)); exact BK226.out)) : gb226 ≠ gb241)); have n18_ := Aside0.mk ((by rw [hg]; exact Nat.ne_of_gt (blk_lt (g := gb226) (o := .cells #[.slice Ao25 t219.length co25, .slice Ao28 t222.length co28] 49 (0, 0)) (by (with_reducible repeat (first | refine blk_drewN ?_ _ | refine blk_drew ?_ | refine blk_alloc ?_ _)); exact BK226.out)) : gb241 ≠ gb226)); have n19_ := Aside0.mk ((by rw [hg]; exact Nat.ne_of_lt (blk_lt (g := gb233) (o := .cells #[.slice Ao32 t227.length co32, .slice Ao36 t230.length co36] 49 (0, 0)) (by (with_reducible repeat (first | refine blk_drewN ?_ _ | refine blk_drew ?_ | refine blk_alloc ?_ _)); exact BK233.out)) : gb233 ≠ gb241)); have n20_ := Aside0.mk ((by rw [hg]; exact Nat.ne_of_gt (blk_lt (g := gb233) (o := .cells #[.slice Ao32 t227.length co32, .slice Ao36 t230.length co36] 49 (0, 0)) (by (with_reducible repeat (first | refine blk_drewN ?_ _ | refine blk_drew ?_ | refine blk_alloc ?_ _)); exact BK233.out)) : gb241 ≠ gb233)); clear HO215; clear HO218; clear HO221; clear HO224; clear HO229; clear HO232; clear HO236; clear HO239; clear BK211; clear BK226; clear BK233; clear HB; have HO215 := n0_; have HO218 := n1_; have HO221 := n2_; have HO224 := n3_; have HO229 := n4_; have HO232 := n5_; have HO236 := n6_; have HO239 := n7_; have BK211 := n8_; have BK226 := n9_; have BK233 := n10_; have HB := n11_; have BK241 := n12_; have GW241 := n13_; have GE241 := n14_; have NB211_241 := n15_; have NB241_211 := n16_; have NB226_241 := n17_; have NB241_226 := n18_; have NB233_241 := n19_; have NB241_233 := n20_; clear n0_ n1_ n2_ n3_ n4_ n5_ n6_ n7_ n8_ n9_ n10_ n11_ n12_ n13_ n14_ n15_ n16_ n17_ n18_ n19_ n20_; clear hb hbox hg; obtain ⟨Ao39, co39, eo39⟩ := Kd.R_slice HO236.out; subst eo39; have hnb40 := NB241_211.out; have hnc40 := NB211_241.out; have hnb41 := NB241_226.out; have hnc41 := NB226_241.out; have hnb42 := NB241_233.out; have hnc42 := NB233_241.out; have hcz43_0 : w38.cell? ⟨gb241, 0, none⟩ = some (.slice none 0 0) := (blk_cell BK241.out 0).trans rfl; have hcz43_1 : w38.cell? ⟨gb241, 1, none⟩ = some (.slice none 0 0) := (blk_cell BK241.out 1).trans rfl; have hfz43_0 := blk_frozen BK241.out 0; have hfz43_1 := blk_frozen BK241.out 1; obtain ⟨Ao44, co44, eo44⟩ := Kd.R_slice HO239.out; subst eo44))
      (try simp only [Act.put, List.setIfInBounds_toArray, List.set_cons_zero, List.set_cons_succ])
      go_cut [51] (fun v51 wc => ∃ (kq : Nat) (x51_14 : Bool), v51 = .bool x51_14 ∧ Aside0 (laws_FnExactBurn.j0 kq a1 a2 t225 t240 x51_14 l0_0 l0_1 t219 t222 t227 t230 t234 t237 = some r) ∧ Aside0 (kq ≤ k) ∧ Aside0 (Kd.R Kd.string 9 wc w.heap.size (fun k_ => some k_ ≠ ((.slice Ao32 t227.length co32) : Value).ownBlock ∧ some k_ ≠ ((.slice Ao39 t234.length co39) : Value).ownBlock) (.slice Ao25 t219.length co25) t219) ∧ Aside0 (Kd.R (Kd.int .i64) 3 wc w.heap.size (fun k_ => some k_ ≠ ((.slice Ao36 t230.length co36) : Value).ownBlock ∧ some k_ ≠ ((.slice Ao44 t237.length co44) : Value).ownBlock) (.slice Ao28 t222.length co28) t222) ∧ Aside0 (Kd.R Kd.string 9 wc w.heap.size (fun k_ => some k_ ≠ ((.slice Ao25 t219.length co25) : Value).ownBlock ∧ some k_ ≠ ((.slice Ao39 t234.length co39) : Value).ownBlock) (.slice Ao32 t227.length co32) t227) ∧ Aside0 (Kd.R (Kd.int .i64) 3 wc w.heap.size (fun k_ => some k_ ≠ ((.slice Ao28 t222.length co28) : Value).ownBlock ∧ some k_ ≠ ((.slice Ao44 t237.length co44) : Value).ownBlock) (.slice Ao36 t230.length co36) t230) ∧ Aside0 (Kd.R Kd.string 9 wc w.heap.size (fun k_ => some k_ ≠ ((.slice Ao25 t219.length co25) : Value).ownBlock ∧ some k_ ≠ ((.slice Ao32 t227.length co32) : Value).ownBlock) (.slice Ao39 t234.length co39) t234) ∧ Aside0 (Kd.R (Kd.int .i64) 3 wc w.heap.size (fun k_ => some k_ ≠ ((.slice Ao28 t222.length co28) : Value).ownBlock ∧ some k_ ≠ ((.slice Ao36 t230.length co36) : Value).ownBlock) (.slice Ao44 t237.length co44) t237) ∧ Aside0 (wc.heap[gb211]? = some (.cells #[(.slice A0_0 l0_0.length c0_0), (.slice A0_1 l0_1.length c0_1)] 46 (0, 0))) ∧ Aside0 (wc.heap[gb226]? = some (.cells #[(.slice Ao25 t219.length co25), (.slice Ao28 t222.length co28)] 49 (0, 0))) ∧ Aside0 (wc.heap[gb233]? = some (.cells #[(.slice Ao32 t227.length co32), (.slice Ao36 t230.length co36)] 49 (0, 0))) ∧ Aside0 (wc.heap[gb241]? = some (.cells #[(.slice Ao39 t234.length co39), (.slice Ao44 t237.length co44)] 49 (0, 0))) ∧ Aside0 (Below w.heap.size w wc))
      case first =>
        have H := HC15.out
        clear HC15
        replace H := Option.bind_eq_some_iff.mp H
        obtain ⟨t242, A450, H⟩ := H
        replace H : (if t242 = true then (laws_FnExactBurn.j0 k a1 a2 t225 t240 (t240 != t225) l0_0 l0_1 t219 t222 t227 t230 t234 t237) else (laws_FnExactBurn.j0 k a1 a2 t225 t240 true l0_0 l0_1 t219 t222 t227 t230 t234 t237)) = some r := H
        have A45 := Aside0.mk A450
        clear A450
        by_cases c46 : t242 = true
        · subst c46
          have H1 : (laws_FnExactBurn.j0 k a1 a2 t225 t240 (t240 != t225) l0_0 l0_1 t219 t222 t227 t230 t234 t237) = some r := by rw [if_pos rfl] at H; exact H
          clear H
          have H := H1
          clear H1
          have H' := Aside0.mk H
          clear H
          have hnb47 := NB241_211.out
          have hnc47 := NB211_241.out
          have hnb48 := NB241_226.out
          have hnc48 := NB226_241.out
          have hnb49 := NB241_233.out
          have hnc49 := NB233_241.out
          have hcz50_0 : w38.cell? ⟨gb241, 0, none⟩ = some (.slice none 0 0) := (blk_cell BK241.out 0).trans rfl
          have hcz50_1 : w38.cell? ⟨gb241, 1, none⟩ = some (.slice none 0 0) := (blk_cell BK241.out 1).trans rfl
          have hfz50_0 := blk_frozen BK241.out 0
          have hfz50_1 := blk_frozen BK241.out 1
          have hnb51 := NB226_211.out
          have hnc51 := NB211_226.out
          have hnb52 := NB226_233.out
          have hnc52 := NB233_226.out
          have hcz53_0 : w38.cell? ⟨gb226, 0, none⟩ = some (.slice Ao25 t219.length co25) := (blk_cell BK226.out 0).trans rfl
          have hcz53_1 : w38.cell? ⟨gb226, 1, none⟩ = some (.slice Ao28 t222.length co28) := (blk_cell BK226.out 1).trans rfl
          have hfz53_0 := blk_frozen BK226.out 0
          have hfz53_1 := blk_frozen BK226.out 1
          go_wp2_with (first | ((with_reducible refine gate_callee (f := 36) rfl ?_); refine goesL_ (some 45) rfl rfl Try.func36 (by kernel_rfl) rfl #[.agg #[.slice Ao39 t234.length co39, .slice Ao44 t237.length co44], .agg #[.slice Ao25 t219.length co25, .slice Ao28 t222.length co28]] rfl (by (try simp only [List.map_toArray, List.map_cons, List.map_nil]); first | done | rfl | (simp only [List.length_drop, List.length_take]; rfl)) ?_; (with_reducible refine (laws_eqChip.calls k _ _ t234 _ _ t237 _ _ t219 _ _ t222 true _ ?side1 ?side2 ?side3 ?side4 ?side5 ?side6 ?side7 ?side8 A45.out).mono ?_); (case side1 => refine (Kd.R_reads' (e := 9) (base := w.heap.size) (ok := fun k_ => (((True ∧ some k_ ≠ (.slice Ao21 t213.length co21 : Value).ownBlock) ∧ some k_ ≠ (.slice Ao25 t219.length co25 : Value).ownBlock) ∧ some k_ ≠ (.slice Ao32 t227.length co32 : Value).ownBlock)) (n := t234.length) (c := co39) ?_).2.2; exact (by (with_reducible repeat (first | apply Kd.R_alloc | apply Kd.R_drewN | apply Kd.R_drew)); exact (Kd.R_mono (Kd.R_far (p := ⟨gb241, 1, none⟩) (Kd.R_far (p := ⟨gb241, 0, none⟩) (Kd.R_types HO236.out BK241.out (by decide)) (fun _ hk => hk.2) (.slice Ao39 t234.length co39)) (fun _ hk => hk.2) (.slice Ao44 t237.length co44)) (fun _ h_ => h_.1)))); (case side2 => exact (Kd.R_reads' HO236.out).2.1); (case side3 => refine (Kd.R_reads' (e := 3) (base := w.heap.size) (ok := fun k_ => (((True ∧ some k_ ≠ (.slice Ao22 t216.length co22 : Value).ownBlock) ∧ some k_ ≠ (.slice Ao28 t222.length co28 : Value).ownBlock) ∧ some k_ ≠ (.slice Ao36 t230.length co36 : Value).ownBlock)) (n := t237.length) (c := co44) ?_).2.2; exact (by (with_reducible repeat (first | apply Kd.R_alloc | apply Kd.R_drewN | apply Kd.R_drew)); exact (Kd.R_mono (Kd.R_far (p := ⟨gb241, 1, none⟩) (Kd.R_far (p := ⟨gb241, 0, none⟩) (Kd.R_types HO239.out BK241.out (by decide)) (fun _ hk => hk.2) (.slice Ao39 t234.length co39)) (fun _ hk => hk.2) (.slice Ao44 t237.length co44)) (fun _ h_ => h_.1)))); (case side4 => exact (Kd.R_reads' HO239.out).2.1); (case side5 => refine (Kd.R_reads' (e := 9) (base := w.heap.size) (ok := fun k_ => (((True ∧ some k_ ≠ (.slice Ao21 t213.length co21 : Value).ownBlock) ∧ some k_ ≠ (.slice Ao32 t227.length co32 : Value).ownBlock) ∧ some k_ ≠ (.slice Ao39 t234.length co39 : Value).ownBlock)) (n := t219.length) (c := co25) ?_).2.2; exact (by (with_reducible repeat (first | apply Kd.R_alloc | apply Kd.R_drewN | apply Kd.R_drew)); exact (Kd.R_mono (Kd.R_far (p := ⟨gb241, 1, none⟩) (Kd.R_far (p := ⟨gb241, 0, none⟩) (Kd.R_types HO221.out BK241.out (by decide)) (fun _ hk => hk.2) (.slice Ao39 t234.length co39)) (fun _ hk => hk.2) (.slice Ao44 t237.length co44)) (fun _ h_ => h_.1)))); (case side6 => exact (Kd.R_reads' HO221.out).2.1); (case side7 => refine (Kd.R_reads' (e := 3) (base := w.heap.size) (ok := fun k_ => (((True ∧ some k_ ≠ (.slice Ao22 t216.length co22 : Value).ownBlock) ∧ some k_ ≠ (.slice Ao36 t230.length co36 : Value).ownBlock) ∧ some k_ ≠ (.slice Ao44 t237.length co44 : Value).ownBlock)) (n := t222.length) (c := co28) ?_).2.2; exact (by (with_reducible repeat (first | apply Kd.R_alloc | apply Kd.R_drewN | apply Kd.R_drew)); exact (Kd.R_mono (Kd.R_far (p := ⟨gb241, 1, none⟩) (Kd.R_far (p := ⟨gb241, 0, none⟩) (Kd.R_types HO224.out BK241.out (by decide)) (fun _ hk => hk.2) (.slice Ao39 t234.length co39)) (fun _ hk => hk.2) (.slice Ao44 t237.length co44)) (fun _ h_ => h_.1)))); (case side8 => exact (Kd.R_reads' HO224.out).2.1); rintro e w54 ⟨rfl, hb⟩; refine ⟨_, rfl, ?_⟩; have n0_ := Aside0.mk (Kd.R_below (by (with_reducible repeat (first | apply Kd.R_alloc | apply Kd.R_drewN | apply Kd.R_drew)); exact (Kd.R_mono (Kd.R_far (p := ⟨gb241, 1, none⟩) (Kd.R_far (p := ⟨gb241, 0, none⟩) (Kd.R_types HO215.out BK241.out (by decide)) (fun _ hk => hk.2) (.slice Ao39 t234.length co39)) (fun _ hk => hk.2) (.slice Ao44 t237.length co44)) (fun _ h_ => h_.1))) hb); have n1_ := Aside0.mk (Kd.R_below (by (with_reducible repeat (first | apply Kd.R_alloc | apply Kd.R_drewN | apply Kd.R_drew)); exact (Kd.R_mono (Kd.R_far (p := ⟨gb241, 1, none⟩) (Kd.R_far (p := ⟨gb241, 0, none⟩) (Kd.R_types HO218.out BK241.out (by decide)) (fun _ hk => hk.2) (.slice Ao39 t234.length co39)) (fun _ hk => hk.2) (.slice Ao44 t237.length co44)) (fun _ h_ => h_.1))) hb); have n2_ := Aside0.mk (Kd.R_below (by (with_reducible repeat (first | apply Kd.R_alloc | apply Kd.R_drewN | apply Kd.R_drew)); exact (Kd.R_mono (Kd.R_far (p := ⟨gb241, 1, none⟩) (Kd.R_far (p := ⟨gb241, 0, none⟩) (Kd.R_types HO221.out BK241.out (by decide)) (fun _ hk => hk.2) (.slice Ao39 t234.length co39)) (fun _ hk => hk.2) (.slice Ao44 t237.length co44)) (fun _ h_ => h_.1))) hb); have n3_ := Aside0.mk (Kd.R_below (by (with_reducible repeat (first | apply Kd.R_alloc | apply Kd.R_drewN | apply Kd.R_drew)); exact (Kd.R_mono (Kd.R_far (p := ⟨gb241, 1, none⟩) (Kd.R_far (p := ⟨gb241, 0, none⟩) (Kd.R_types HO224.out BK241.out (by decide)) (fun _ hk => hk.2) (.slice Ao39 t234.length co39)) (fun _ hk => hk.2) (.slice Ao44 t237.length co44)) (fun _ h_ => h_.1))) hb); have n4_ := Aside0.mk (Kd.R_below (by (with_reducible repeat (first | apply Kd.R_alloc | apply Kd.R_drewN | apply Kd.R_drew)); exact (Kd.R_mono (Kd.R_far (p := ⟨gb241, 1, none⟩) (Kd.R_far (p := ⟨gb241, 0, none⟩) (Kd.R_types HO229.out BK241.out (by decide)) (fun _ hk => hk.2) (.slice Ao39 t234.length co39)) (fun _ hk => hk.2) (.slice Ao44 t237.length co44)) (fun _ h_ => h_.1))) hb); have n5_ := Aside0.mk (Kd.R_below (by (with_reducible repeat (first | apply Kd.R_alloc | apply Kd.R_drewN | apply Kd.R_drew)); exact (Kd.R_mono (Kd.R_far (p := ⟨gb241, 1, none⟩) (Kd.R_far (p := ⟨gb241, 0, none⟩) (Kd.R_types HO232.out BK241.out (by decide)) (fun _ hk => hk.2) (.slice Ao39 t234.length co39)) (fun _ hk => hk.2) (.slice Ao44 t237.length co44)) (fun _ h_ => h_.1))) hb); have n6_ := Aside0.mk (Kd.R_below (by (with_reducible repeat (first | apply Kd.R_alloc | apply Kd.R_drewN | apply Kd.R_drew)); exact (Kd.R_mono (Kd.R_far (p := ⟨gb241, 1, none⟩) (Kd.R_far (p := ⟨gb241, 0, none⟩) (Kd.R_types HO236.out BK241.out (by decide)) (fun _ hk => hk.2) (.slice Ao39 t234.length co39)) (fun _ hk => hk.2) (.slice Ao44 t237.length co44)) (fun _ h_ => h_.1))) hb); have n7_ := Aside0.mk (Kd.R_below (by (with_reducible repeat (first | apply Kd.R_alloc | apply Kd.R_drewN | apply Kd.R_drew)); exact (Kd.R_mono (Kd.R_far (p := ⟨gb241, 1, none⟩) (Kd.R_far (p := ⟨gb241, 0, none⟩) (Kd.R_types HO239.out BK241.out (by decide)) (fun _ hk => hk.2) (.slice Ao39 t234.length co39)) (fun _ hk => hk.2) (.slice Ao44 t237.length co44)) (fun _ h_ => h_.1))) hb); have n8_ := Aside0.mk (blk_below (g := gb211) (o := .cells #[.slice A0_0 l0_0.length c0_0, .slice A0_1 l0_1.length c0_1] 46 (0, 0)) (by (with_reducible repeat (first | refine blk_drewN ?_ _ | refine blk_drew ?_ | refine blk_alloc ?_ _)); refine blk_far ?_ NB211_241.out _; (with_reducible repeat (first | refine blk_drewN ?_ _ | refine blk_drew ?_ | refine blk_alloc ?_ _)); refine blk_far ?_ NB211_241.out _; (with_reducible repeat (first | refine blk_drewN ?_ _ | refine blk_drew ?_ | refine blk_alloc ?_ _)); exact BK211.out) hb); have n9_ := Aside0.mk (blk_below (g := gb226) (o := .cells #[.slice Ao25 t219.length co25, .slice Ao28 t222.length co28] 49 (0, 0)) (by (with_reducible repeat (first | refine blk_drewN ?_ _ | refine blk_drew ?_ | refine blk_alloc ?_ _)); refine blk_far ?_ NB226_241.out _; (with_reducible repeat (first | refine blk_drewN ?_ _ | refine blk_drew ?_ | refine blk_alloc ?_ _)); refine blk_far ?_ NB226_241.out _; (with_reducible repeat (first | refine blk_drewN ?_ _ | refine blk_drew ?_ | refine blk_alloc ?_ _)); exact BK226.out) hb); have n10_ := Aside0.mk (blk_below (g := gb233) (o := .cells #[.slice Ao32 t227.length co32, .slice Ao36 t230.length co36] 49 (0, 0)) (by (with_reducible repeat (first | refine blk_drewN ?_ _ | refine blk_drew ?_ | refine blk_alloc ?_ _)); refine blk_far ?_ NB233_241.out _; (with_reducible repeat (first | refine blk_drewN ?_ _ | refine blk_drew ?_ | refine blk_alloc ?_ _)); refine blk_far ?_ NB233_241.out _; (with_reducible repeat (first | refine blk_drewN ?_ _ | refine blk_drew ?_ | refine blk_alloc ?_ _)); exact BK233.out) hb); have n11_ := Aside0.mk (blk_below (g := gb241) (o := .cells #[.slice Ao39 t234.length co39, .slice Ao44 t237.length co44] 49 (0, 0)) (by (with_reducible repeat (first | refine blk_drewN ?_ _ | refine blk_drew ?_ | refine blk_alloc ?_ _)); refine blk_put (cs := #[.slice Ao39 t234.length co39, .slice none 0 0]) ?_ 1 _ rfl; (with_reducible repeat (first | refine blk_drewN ?_ _ | refine blk_drew ?_ | refine blk_alloc ?_ _)); refine blk_put (cs := #[.slice none 0 0, .slice none 0 0]) ?_ 0 _ rfl; (with_reducible repeat (first | refine blk_drewN ?_ _ | refine blk_drew ?_ | refine blk_alloc ?_ _)); exact BK241.out) hb); have n12_ := Aside0.mk (below_step (by repeat (first | (with_reducible first | exact HB.out | apply below_alloc | apply pw_below_drewN | apply below_drew1 | refine below_set ?_ GE211.out | refine below_set ?_ GE226.out | refine below_set ?_ GE233.out | refine below_set ?_ GE241.out) | exact HB.out)) hb); clear HO215; clear HO218; clear HO221; clear HO224; clear HO229; clear HO232; clear HO236; clear HO239; clear BK211; clear BK226; clear BK233; clear BK241; clear HB; have HO215 := n0_; have HO218 := n1_; have HO221 := n2_; have HO224 := n3_; have HO229 := n4_; have HO232 := n5_; have HO236 := n6_; have HO239 := n7_; have BK211 := n8_; have BK226 := n9_; have BK233 := n10_; have BK241 := n11_; have HB := n12_; clear n0_ n1_ n2_ n3_ n4_ n5_ n6_ n7_ n8_ n9_ n10_ n11_ n12_; (try clear hb); (try clear hb2); (try clear hk); (try clear hi)))
          go_meet
          case rel => exact ⟨_, ((t240 != t225)), (by first | rfl | (simp; done) | (simp [*]; done)), H', ⟨by first | omega | exact Nat.le_refl _⟩, ⟨by (with_reducible repeat (first | apply Kd.R_alloc | apply Kd.R_drewN | apply Kd.R_drew)); exact Kd.R_mono HO221.out (fun _ hk => ⟨hk.1.2, hk.2⟩)⟩, ⟨by (with_reducible repeat (first | apply Kd.R_alloc | apply Kd.R_drewN | apply Kd.R_drew)); exact Kd.R_mono HO224.out (fun _ hk => ⟨hk.1.2, hk.2⟩)⟩, ⟨by (with_reducible repeat (first | apply Kd.R_alloc | apply Kd.R_drewN | apply Kd.R_drew)); exact Kd.R_mono HO229.out (fun _ hk => ⟨hk.1.2, hk.2⟩)⟩, ⟨by (with_reducible repeat (first | apply Kd.R_alloc | apply Kd.R_drewN | apply Kd.R_drew)); exact Kd.R_mono HO232.out (fun _ hk => ⟨hk.1.2, hk.2⟩)⟩, ⟨by (with_reducible repeat (first | apply Kd.R_alloc | apply Kd.R_drewN | apply Kd.R_drew)); exact Kd.R_mono HO236.out (fun _ hk => ⟨hk.1.2, hk.2⟩)⟩, ⟨by (with_reducible repeat (first | apply Kd.R_alloc | apply Kd.R_drewN | apply Kd.R_drew)); exact Kd.R_mono HO239.out (fun _ hk => ⟨hk.1.2, hk.2⟩)⟩, ⟨by (with_reducible repeat (first | refine blk_drewN ?_ _ | refine blk_drew ?_ | refine blk_alloc ?_ _)); exact BK211.out⟩, ⟨by (with_reducible repeat (first | refine blk_drewN ?_ _ | refine blk_drew ?_ | refine blk_alloc ?_ _)); exact BK226.out⟩, ⟨by (with_reducible repeat (first | refine blk_drewN ?_ _ | refine blk_drew ?_ | refine blk_alloc ?_ _)); exact BK233.out⟩, ⟨by (with_reducible repeat (first | refine blk_drewN ?_ _ | refine blk_drew ?_ | refine blk_alloc ?_ _)); exact BK241.out⟩, ⟨by repeat (first | (with_reducible first | exact HB.out | apply below_alloc | apply pw_below_drewN | apply below_drew1 | refine below_set ?_ GE211.out | refine below_set ?_ GE226.out | refine below_set ?_ GE233.out | refine below_set ?_ GE241.out) | exact HB.out)⟩⟩
        · replace c46 := Bool.eq_false_iff.mpr c46
          subst c46
          have H1 : (laws_FnExactBurn.j0 k a1 a2 t225 t240 true l0_0 l0_1 t219 t222 t227 t230 t234 t237) = some r := by rw [if_neg (show ¬ (false = true) by decide)] at H; exact H
          clear H
          have H := H1
          clear H1
          have H' := Aside0.mk H
          clear H
          have hnb55 := NB241_211.out
          have hnc55 := NB211_241.out
          have hnb56 := NB241_226.out
          have hnc56 := NB226_241.out
          have hnb57 := NB241_233.out
          have hnc57 := NB233_241.out
          have hcz58_0 : w38.cell? ⟨gb241, 0, none⟩ = some (.slice none 0 0) := (blk_cell BK241.out 0).trans rfl
          have hcz58_1 : w38.cell? ⟨gb241, 1, none⟩ = some (.slice none 0 0) := (blk_cell BK241.out 1).trans rfl
          have hfz58_0 := blk_frozen BK241.out 0
          have hfz58_1 := blk_frozen BK241.out 1
          have hnb59 := NB226_211.out
          have hnc59 := NB211_226.out
          have hnb60 := NB226_233.out
          have hnc60 := NB233_226.out
          have hcz61_0 : w38.cell? ⟨gb226, 0, none⟩ = some (.slice Ao25 t219.length co25) := (blk_cell BK226.out 0).trans rfl
          have hcz61_1 : w38.cell? ⟨gb226, 1, none⟩ = some (.slice Ao28 t222.length co28) := (blk_cell BK226.out 1).trans rfl
          have hfz61_0 := blk_frozen BK226.out 0
          have hfz61_1 := blk_frozen BK226.out 1
          go_wp2_with (first | ((with_reducible refine gate_callee (f := 36) rfl ?_); refine goesL_ (some 45) rfl rfl Try.func36 (by kernel_rfl) rfl #[.agg #[.slice Ao39 t234.length co39, .slice Ao44 t237.length co44], .agg #[.slice Ao25 t219.length co25, .slice Ao28 t222.length co28]] rfl (by (try simp only [List.map_toArray, List.map_cons, List.map_nil]); first | done | rfl | (simp only [List.length_drop, List.length_take]; rfl)) ?_; (with_reducible refine (laws_eqChip.calls k _ _ t234 _ _ t237 _ _ t219 _ _ t222 false _ ?side1 ?side2 ?side3 ?side4 ?side5 ?side6 ?side7 ?side8 A45.out).mono ?_); (case side1 => refine (Kd.R_reads' (e := 9) (base := w.heap.size) (ok := fun k_ => (((True ∧ some k_ ≠ (.slice Ao21 t213.length co21 : Value).ownBlock) ∧ some k_ ≠ (.slice Ao25 t219.length co25 : Value).ownBlock) ∧ some k_ ≠ (.slice Ao32 t227.length co32 : Value).ownBlock)) (n := t234.length) (c := co39) ?_).2.2; exact (by (with_reducible repeat (first | apply Kd.R_alloc | apply Kd.R_drewN | apply Kd.R_drew)); exact (Kd.R_mono (Kd.R_far (p := ⟨gb241, 1, none⟩) (Kd.R_far (p := ⟨gb241, 0, none⟩) (Kd.R_types HO236.out BK241.out (by decide)) (fun _ hk => hk.2) (.slice Ao39 t234.length co39)) (fun _ hk => hk.2) (.slice Ao44 t237.length co44)) (fun _ h_ => h_.1)))); (case side2 => exact (Kd.R_reads' HO236.out).2.1); (case side3 => refine (Kd.R_reads' (e := 3) (base := w.heap.size) (ok := fun k_ => (((True ∧ some k_ ≠ (.slice Ao22 t216.length co22 : Value).ownBlock) ∧ some k_ ≠ (.slice Ao28 t222.length co28 : Value).ownBlock) ∧ some k_ ≠ (.slice Ao36 t230.length co36 : Value).ownBlock)) (n := t237.length) (c := co44) ?_).2.2; exact (by (with_reducible repeat (first | apply Kd.R_alloc | apply Kd.R_drewN | apply Kd.R_drew)); exact (Kd.R_mono (Kd.R_far (p := ⟨gb241, 1, none⟩) (Kd.R_far (p := ⟨gb241, 0, none⟩) (Kd.R_types HO239.out BK241.out (by decide)) (fun _ hk => hk.2) (.slice Ao39 t234.length co39)) (fun _ hk => hk.2) (.slice Ao44 t237.length co44)) (fun _ h_ => h_.1)))); (case side4 => exact (Kd.R_reads' HO239.out).2.1); (case side5 => refine (Kd.R_reads' (e := 9) (base := w.heap.size) (ok := fun k_ => (((True ∧ some k_ ≠ (.slice Ao21 t213.length co21 : Value).ownBlock) ∧ some k_ ≠ (.slice Ao32 t227.length co32 : Value).ownBlock) ∧ some k_ ≠ (.slice Ao39 t234.length co39 : Value).ownBlock)) (n := t219.length) (c := co25) ?_).2.2; exact (by (with_reducible repeat (first | apply Kd.R_alloc | apply Kd.R_drewN | apply Kd.R_drew)); exact (Kd.R_mono (Kd.R_far (p := ⟨gb241, 1, none⟩) (Kd.R_far (p := ⟨gb241, 0, none⟩) (Kd.R_types HO221.out BK241.out (by decide)) (fun _ hk => hk.2) (.slice Ao39 t234.length co39)) (fun _ hk => hk.2) (.slice Ao44 t237.length co44)) (fun _ h_ => h_.1)))); (case side6 => exact (Kd.R_reads' HO221.out).2.1); (case side7 => refine (Kd.R_reads' (e := 3) (base := w.heap.size) (ok := fun k_ => (((True ∧ some k_ ≠ (.slice Ao22 t216.length co22 : Value).ownBlock) ∧ some k_ ≠ (.slice Ao36 t230.length co36 : Value).ownBlock) ∧ some k_ ≠ (.slice Ao44 t237.length co44 : Value).ownBlock)) (n := t222.length) (c := co28) ?_).2.2; exact (by (with_reducible repeat (first | apply Kd.R_alloc | apply Kd.R_drewN | apply Kd.R_drew)); exact (Kd.R_mono (Kd.R_far (p := ⟨gb241, 1, none⟩) (Kd.R_far (p := ⟨gb241, 0, none⟩) (Kd.R_types HO224.out BK241.out (by decide)) (fun _ hk => hk.2) (.slice Ao39 t234.length co39)) (fun _ hk => hk.2) (.slice Ao44 t237.length co44)) (fun _ h_ => h_.1)))); (case side8 => exact (Kd.R_reads' HO224.out).2.1); rintro e w62 ⟨rfl, hb⟩; refine ⟨_, rfl, ?_⟩; have n0_ := Aside0.mk (Kd.R_below (by (with_reducible repeat (first | apply Kd.R_alloc | apply Kd.R_drewN | apply Kd.R_drew)); exact (Kd.R_mono (Kd.R_far (p := ⟨gb241, 1, none⟩) (Kd.R_far (p := ⟨gb241, 0, none⟩) (Kd.R_types HO215.out BK241.out (by decide)) (fun _ hk => hk.2) (.slice Ao39 t234.length co39)) (fun _ hk => hk.2) (.slice Ao44 t237.length co44)) (fun _ h_ => h_.1))) hb); have n1_ := Aside0.mk (Kd.R_below (by (with_reducible repeat (first | apply Kd.R_alloc | apply Kd.R_drewN | apply Kd.R_drew)); exact (Kd.R_mono (Kd.R_far (p := ⟨gb241, 1, none⟩) (Kd.R_far (p := ⟨gb241, 0, none⟩) (Kd.R_types HO218.out BK241.out (by decide)) (fun _ hk => hk.2) (.slice Ao39 t234.length co39)) (fun _ hk => hk.2) (.slice Ao44 t237.length co44)) (fun _ h_ => h_.1))) hb); have n2_ := Aside0.mk (Kd.R_below (by (with_reducible repeat (first | apply Kd.R_alloc | apply Kd.R_drewN | apply Kd.R_drew)); exact (Kd.R_mono (Kd.R_far (p := ⟨gb241, 1, none⟩) (Kd.R_far (p := ⟨gb241, 0, none⟩) (Kd.R_types HO221.out BK241.out (by decide)) (fun _ hk => hk.2) (.slice Ao39 t234.length co39)) (fun _ hk => hk.2) (.slice Ao44 t237.length co44)) (fun _ h_ => h_.1))) hb); have n3_ := Aside0.mk (Kd.R_below (by (with_reducible repeat (first | apply Kd.R_alloc | apply Kd.R_drewN | apply Kd.R_drew)); exact (Kd.R_mono (Kd.R_far (p := ⟨gb241, 1, none⟩) (Kd.R_far (p := ⟨gb241, 0, none⟩) (Kd.R_types HO224.out BK241.out (by decide)) (fun _ hk => hk.2) (.slice Ao39 t234.length co39)) (fun _ hk => hk.2) (.slice Ao44 t237.length co44)) (fun _ h_ => h_.1))) hb); have n4_ := Aside0.mk (Kd.R_below (by (with_reducible repeat (first | apply Kd.R_alloc | apply Kd.R_drewN | apply Kd.R_drew)); exact (Kd.R_mono (Kd.R_far (p := ⟨gb241, 1, none⟩) (Kd.R_far (p := ⟨gb241, 0, none⟩) (Kd.R_types HO229.out BK241.out (by decide)) (fun _ hk => hk.2) (.slice Ao39 t234.length co39)) (fun _ hk => hk.2) (.slice Ao44 t237.length co44)) (fun _ h_ => h_.1))) hb); have n5_ := Aside0.mk (Kd.R_below (by (with_reducible repeat (first | apply Kd.R_alloc | apply Kd.R_drewN | apply Kd.R_drew)); exact (Kd.R_mono (Kd.R_far (p := ⟨gb241, 1, none⟩) (Kd.R_far (p := ⟨gb241, 0, none⟩) (Kd.R_types HO232.out BK241.out (by decide)) (fun _ hk => hk.2) (.slice Ao39 t234.length co39)) (fun _ hk => hk.2) (.slice Ao44 t237.length co44)) (fun _ h_ => h_.1))) hb); have n6_ := Aside0.mk (Kd.R_below (by (with_reducible repeat (first | apply Kd.R_alloc | apply Kd.R_drewN | apply Kd.R_drew)); exact (Kd.R_mono (Kd.R_far (p := ⟨gb241, 1, none⟩) (Kd.R_far (p := ⟨gb241, 0, none⟩) (Kd.R_types HO236.out BK241.out (by decide)) (fun _ hk => hk.2) (.slice Ao39 t234.length co39)) (fun _ hk => hk.2) (.slice Ao44 t237.length co44)) (fun _ h_ => h_.1))) hb); have n7_ := Aside0.mk (Kd.R_below (by (with_reducible repeat (first | apply Kd.R_alloc | apply Kd.R_drewN | apply Kd.R_drew)); exact (Kd.R_mono (Kd.R_far (p := ⟨gb241, 1, none⟩) (Kd.R_far (p := ⟨gb241, 0, none⟩) (Kd.R_types HO239.out BK241.out (by decide)) (fun _ hk => hk.2) (.slice Ao39 t234.length co39)) (fun _ hk => hk.2) (.slice Ao44 t237.length co44)) (fun _ h_ => h_.1))) hb); have n8_ := Aside0.mk (blk_below (g := gb211) (o := .cells #[.slice A0_0 l0_0.length c0_0, .slice A0_1 l0_1.length c0_1] 46 (0, 0)) (by (with_reducible repeat (first | refine blk_drewN ?_ _ | refine blk_drew ?_ | refine blk_alloc ?_ _)); refine blk_far ?_ NB211_241.out _; (with_reducible repeat (first | refine blk_drewN ?_ _ | refine blk_drew ?_ | refine blk_alloc ?_ _)); refine blk_far ?_ NB211_241.out _; (with_reducible repeat (first | refine blk_drewN ?_ _ | refine blk_drew ?_ | refine blk_alloc ?_ _)); exact BK211.out) hb); have n9_ := Aside0.mk (blk_below (g := gb226) (o := .cells #[.slice Ao25 t219.length co25, .slice Ao28 t222.length co28] 49 (0, 0)) (by (with_reducible repeat (first | refine blk_drewN ?_ _ | refine blk_drew ?_ | refine blk_alloc ?_ _)); refine blk_far ?_ NB226_241.out _; (with_reducible repeat (first | refine blk_drewN ?_ _ | refine blk_drew ?_ | refine blk_alloc ?_ _)); refine blk_far ?_ NB226_241.out _; (with_reducible repeat (first | refine blk_drewN ?_ _ | refine blk_drew ?_ | refine blk_alloc ?_ _)); exact BK226.out) hb); have n10_ := Aside0.mk (blk_below (g := gb233) (o := .cells #[.slice Ao32 t227.length co32, .slice Ao36 t230.length co36] 49 (0, 0)) (by (with_reducible repeat (first | refine blk_drewN ?_ _ | refine blk_drew ?_ | refine blk_alloc ?_ _)); refine blk_far ?_ NB233_241.out _; (with_reducible repeat (first | refine blk_drewN ?_ _ | refine blk_drew ?_ | refine blk_alloc ?_ _)); refine blk_far ?_ NB233_241.out _; (with_reducible repeat (first | refine blk_drewN ?_ _ | refine blk_drew ?_ | refine blk_alloc ?_ _)); exact BK233.out) hb); have n11_ := Aside0.mk (blk_below (g := gb241) (o := .cells #[.slice Ao39 t234.length co39, .slice Ao44 t237.length co44] 49 (0, 0)) (by (with_reducible repeat (first | refine blk_drewN ?_ _ | refine blk_drew ?_ | refine blk_alloc ?_ _)); refine blk_put (cs := #[.slice Ao39 t234.length co39, .slice none 0 0]) ?_ 1 _ rfl; (with_reducible repeat (first | refine blk_drewN ?_ _ | refine blk_drew ?_ | refine blk_alloc ?_ _)); refine blk_put (cs := #[.slice none 0 0, .slice none 0 0]) ?_ 0 _ rfl; (with_reducible repeat (first | refine blk_drewN ?_ _ | refine blk_drew ?_ | refine blk_alloc ?_ _)); exact BK241.out) hb); have n12_ := Aside0.mk (below_step (by repeat (first | (with_reducible first | exact HB.out | apply below_alloc | apply pw_below_drewN | apply below_drew1 | refine below_set ?_ GE211.out | refine below_set ?_ GE226.out | refine below_set ?_ GE233.out | refine below_set ?_ GE241.out) | exact HB.out)) hb); clear HO215; clear HO218; clear HO221; clear HO224; clear HO229; clear HO232; clear HO236; clear HO239; clear BK211; clear BK226; clear BK233; clear BK241; clear HB; have HO215 := n0_; have HO218 := n1_; have HO221 := n2_; have HO224 := n3_; have HO229 := n4_; have HO232 := n5_; have HO236 := n6_; have HO239 := n7_; have BK211 := n8_; have BK226 := n9_; have BK233 := n10_; have BK241 := n11_; have HB := n12_; clear n0_ n1_ n2_ n3_ n4_ n5_ n6_ n7_ n8_ n9_ n10_ n11_ n12_; (try clear hb); (try clear hb2); (try clear hk); (try clear hi)))
          go_meet
          case rel => exact ⟨_, (true), (by first | rfl | (simp; done) | (simp [*]; done)), H', ⟨by first | omega | exact Nat.le_refl _⟩, ⟨by (with_reducible repeat (first | apply Kd.R_alloc | apply Kd.R_drewN | apply Kd.R_drew)); exact Kd.R_mono HO221.out (fun _ hk => ⟨hk.1.2, hk.2⟩)⟩, ⟨by (with_reducible repeat (first | apply Kd.R_alloc | apply Kd.R_drewN | apply Kd.R_drew)); exact Kd.R_mono HO224.out (fun _ hk => ⟨hk.1.2, hk.2⟩)⟩, ⟨by (with_reducible repeat (first | apply Kd.R_alloc | apply Kd.R_drewN | apply Kd.R_drew)); exact Kd.R_mono HO229.out (fun _ hk => ⟨hk.1.2, hk.2⟩)⟩, ⟨by (with_reducible repeat (first | apply Kd.R_alloc | apply Kd.R_drewN | apply Kd.R_drew)); exact Kd.R_mono HO232.out (fun _ hk => ⟨hk.1.2, hk.2⟩)⟩, ⟨by (with_reducible repeat (first | apply Kd.R_alloc | apply Kd.R_drewN | apply Kd.R_drew)); exact Kd.R_mono HO236.out (fun _ hk => ⟨hk.1.2, hk.2⟩)⟩, ⟨by (with_reducible repeat (first | apply Kd.R_alloc | apply Kd.R_drewN | apply Kd.R_drew)); exact Kd.R_mono HO239.out (fun _ hk => ⟨hk.1.2, hk.2⟩)⟩, ⟨by (with_reducible repeat (first | refine blk_drewN ?_ _ | refine blk_drew ?_ | refine blk_alloc ?_ _)); exact BK211.out⟩, ⟨by (with_reducible repeat (first | refine blk_drewN ?_ _ | refine blk_drew ?_ | refine blk_alloc ?_ _)); exact BK226.out⟩, ⟨by (with_reducible repeat (first | refine blk_drewN ?_ _ | refine blk_drew ?_ | refine blk_alloc ?_ _)); exact BK233.out⟩, ⟨by (with_reducible repeat (first | refine blk_drewN ?_ _ | refine blk_drew ?_ | refine blk_alloc ?_ _)); exact BK241.out⟩, ⟨by repeat (first | (with_reducible first | exact HB.out | apply below_alloc | apply pw_below_drewN | apply below_drew1 | refine below_set ?_ GE211.out | refine below_set ?_ GE226.out | refine below_set ?_ GE233.out | refine below_set ?_ GE241.out) | exact HB.out)⟩⟩
      case rest =>
        clear HC15
        try clear c1
        try clear c2
        try clear p2
        try clear c3
        try clear c4
        try clear c4b0
        try clear c4b1
        try clear c5
        try clear c6
        try clear c7
        try clear c7b0
        try clear c10
        try clear c26
        try clear c32
        try clear c33
        try clear c34
        try clear c36
        try clear c40
        try clear c41
        try clear c42
        try clear c45
        try clear c46
        try clear c47
        try clear c48
        try clear c49
        try clear c51
        try clear c52
        try clear c55
        try clear c56
        try clear c57
        try clear c59
        try clear c60
        try clear hcz17_0
        try clear hcz17_1
        try clear hcz19_0
        try clear hcz19_1
        try clear hcz27_0
        try clear hcz27_1
        try clear hcz29_0
        try clear hcz29_1
        try clear hcz35_0
        try clear hcz35_1
        try clear hcz43_0
        try clear hcz43_1
        try clear hcz50_0
        try clear hcz50_1
        try clear hcz53_0
        try clear hcz53_1
        try clear hcz58_0
        try clear hcz58_1
        try clear hcz61_0
        try clear hcz61_1
        try clear hcz9_0
        try clear hcz9_1
        try clear hfz17_0
        try clear hfz17_1
        try clear hfz19_0
        try clear hfz19_1
        try clear hfz27_0
        try clear hfz27_1
        try clear hfz29_0
        try clear hfz29_1
        try clear hfz35_0
        try clear hfz35_1
        try clear hfz43_0
        try clear hfz43_1
        try clear hfz50_0
        try clear hfz50_1
        try clear hfz53_0
        try clear hfz53_1
        try clear hfz58_0
        try clear hfz58_1
        try clear hfz61_0
        try clear hfz61_1
        try clear hfz9_0
        try clear hfz9_1
        obtain ⟨kq, x51_14, rfl, HA, HJ14, HO_227000, HO_227001, HO_234000, HO_234001, HO_242000, HO_242001, BK211, BK226, BK233, BK241, HB⟩ := hcut
        cases kq with
        | zero => exact absurd HA.out (by simp [laws_FnExactBurn.j0])
        | succ kj14 =>
          have H := HA.out
          clear HA
          simp only [laws_FnExactBurn.j0] at H
          by_cases c63 : x51_14 = true
          · subst c63
            have H1 : (some false) = some r := by rw [if_pos rfl] at H; exact H
            clear H
            have H := H1
            clear H1
            exact absurd ((Option.some.inj H).trans hT.out) (by decide)
          · replace c63 := Bool.eq_false_iff.mpr c63
            subst c63
            have H1 : ((laws_toChip.f kj14 l0_0 l0_1).bind fun bt243 => ((laws_eqChip.f kj14 t227 t230 bt243.1 bt243.2).bind fun t249 => (if t249 = true then ((laws_markChip.f kj14 t227 t230 1).bind fun bt250 => (if bt250.1 < 0 then (laws_FnExactBurn.j1 kj14 a1 a2 t225 true l0_0 l0_1 t219 t222 t234 t237) else ((laws_eqChip.f kj14 t234 t237 t219 t222).bind fun t253 => (if t253 = true then (laws_FnExactBurn.j1 kj14 a1 a2 t225 (t240 != t225) l0_0 l0_1 t219 t222 t234 t237) else (laws_FnExactBurn.j1 kj14 a1 a2 t225 true l0_0 l0_1 t219 t222 t234 t237))))) else (some false)))) = some r := by rw [if_neg (show ¬ (false = true) by decide)] at H; exact H
            clear H
            have H := H1
            clear H1
            replace H := Option.bind_eq_some_iff.mp H
            obtain ⟨⟨t243, t246⟩, A640, H⟩ := H
            replace H : ((laws_eqChip.f kj14 t227 t230 t243 t246).bind fun t249 => (if t249 = true then ((laws_markChip.f kj14 t227 t230 1).bind fun bt250 => (if bt250.1 < 0 then (laws_FnExactBurn.j1 kj14 a1 a2 t225 true l0_0 l0_1 t219 t222 t234 t237) else ((laws_eqChip.f kj14 t234 t237 t219 t222).bind fun t253 => (if t253 = true then (laws_FnExactBurn.j1 kj14 a1 a2 t225 (t240 != t225) l0_0 l0_1 t219 t222 t234 t237) else (laws_FnExactBurn.j1 kj14 a1 a2 t225 true l0_0 l0_1 t219 t222 t234 t237))))) else (some false))) = some r := H
            have A64 := Aside0.mk A640
            clear A640
            replace H := Option.bind_eq_some_iff.mp H
            obtain ⟨t249, A650, H⟩ := H
            replace H : (if t249 = true then ((laws_markChip.f kj14 t227 t230 1).bind fun bt250 => (if bt250.1 < 0 then (laws_FnExactBurn.j1 kj14 a1 a2 t225 true l0_0 l0_1 t219 t222 t234 t237) else ((laws_eqChip.f kj14 t234 t237 t219 t222).bind fun t253 => (if t253 = true then (laws_FnExactBurn.j1 kj14 a1 a2 t225 (t240 != t225) l0_0 l0_1 t219 t222 t234 t237) else (laws_FnExactBurn.j1 kj14 a1 a2 t225 true l0_0 l0_1 t219 t222 t234 t237))))) else (some false)) = some r := H
            have A65 := Aside0.mk A650
            clear A650
            by_cases c66 : t249 = true
            · subst c66
              have H1 : ((laws_markChip.f kj14 t227 t230 1).bind fun bt250 => (if bt250.1 < 0 then (laws_FnExactBurn.j1 kj14 a1 a2 t225 true l0_0 l0_1 t219 t222 t234 t237) else ((laws_eqChip.f kj14 t234 t237 t219 t222).bind fun t253 => (if t253 = true then (laws_FnExactBurn.j1 kj14 a1 a2 t225 (t240 != t225) l0_0 l0_1 t219 t222 t234 t237) else (laws_FnExactBurn.j1 kj14 a1 a2 t225 true l0_0 l0_1 t219 t222 t234 t237))))) = some r := by rw [if_pos rfl] at H; exact H
              clear H
              have H := H1
              clear H1
              replace H := Option.bind_eq_some_iff.mp H
              obtain ⟨⟨t250, t251, t252⟩, A670, H⟩ := H
              replace H : (if t250 < 0 then (laws_FnExactBurn.j1 kj14 a1 a2 t225 true l0_0 l0_1 t219 t222 t234 t237) else ((laws_eqChip.f kj14 t234 t237 t219 t222).bind fun t253 => (if t253 = true then (laws_FnExactBurn.j1 kj14 a1 a2 t225 (t240 != t225) l0_0 l0_1 t219 t222 t234 t237) else (laws_FnExactBurn.j1 kj14 a1 a2 t225 true l0_0 l0_1 t219 t222 t234 t237)))) = some r := H
              have A67 := Aside0.mk A670
              clear A670
              have HC68 := Aside0.mk H
              clear H
              try go_wp2
              have n0_ := Aside0.mk (Kd.R_drew HO_227000.out)
              have n1_ := Aside0.mk (Kd.R_drew HO_227001.out)
              have n2_ := Aside0.mk (Kd.R_drew HO_234000.out)
              have n3_ := Aside0.mk (Kd.R_drew HO_234001.out)
              have n4_ := Aside0.mk (Kd.R_drew HO_242000.out)
              have n5_ := Aside0.mk (Kd.R_drew HO_242001.out)
              have n6_ := Aside0.mk (blk_drew BK211.out)
              have n7_ := Aside0.mk (blk_drew BK226.out)
              have n8_ := Aside0.mk (blk_drew BK233.out)
              have n9_ := Aside0.mk (blk_drew BK241.out)
              have n10_ := Aside0.mk (below_drew1 HB.out)
              clear HO_227000
              clear HO_227001
              clear HO_234000
              clear HO_234001
              clear HO_242000
              clear HO_242001
              clear BK211
              clear BK226
              clear BK233
              clear BK241
              clear HB
              have HO_227000 := n0_
              have HO_227001 := n1_
              have HO_234000 := n2_
              have HO_234001 := n3_
              have HO_242000 := n4_
              have HO_242001 := n5_
              have BK211 := n6_
              have BK226 := n7_
              have BK233 := n8_
              have BK241 := n9_
              have HB := n10_
              clear n0_ n1_ n2_ n3_ n4_ n5_ n6_ n7_ n8_ n9_ n10_
              refine start_ (n := 5) (S := fun w' => w'.cell? ⟨gb233, 0, none⟩ = some (.slice Ao32 t227.length co32) ∧ w'.cell? ⟨gb233, 1, none⟩ = some (.slice Ao36 t230.length co36) ∧ w'.cell? ⟨gb211, 0, none⟩ = some (.slice A0_0 l0_0.length c0_0) ∧ w'.cell? ⟨gb211, 1, none⟩ = some (.slice A0_1 l0_1.length c0_1)) (ds := []) #[false, false, false, false, false] (by kernel_rfl) rfl rfl ⟨(blk_cell BK233.out 0).trans rfl, (blk_cell BK233.out 1).trans rfl, (blk_cell BK211.out 0).trans rfl, (blk_cell BK211.out 1).trans rfl⟩ (fun hHeld => ?_)
              generalize wc.drew = w69 at HO_227000 HO_227001 HO_234000 HO_234001 HO_242000 HO_242001 BK211 BK226 BK233 BK241 HB hHeld ⊢
              refine take_ (i := 0) (N := some 52) (v := ?_) (a' := ?_) #[true, false, false, false, false] rfl rfl (by kernel_rfl) (fun _ _ _ h => h) (Or.inl ⟨by rfl, ?_⟩) hHeld ?_ ?_
              rotate_left
              · rintro w' ⟨s0, s1, s2, s3⟩
                go_simp
                with_reducible rfl
              rotate_left
              · simp only [Act.put, List.setIfInBounds_toArray, List.set_cons_zero, List.set_cons_succ, i64_w, i32_w]
                rfl
              refine take_ (i := 1) (N := some 53) (v := ?_) (a' := ?_) #[true, true, false, false, false] rfl rfl (by kernel_rfl) (fun _ _ _ h => h) (Or.inl ⟨by rfl, ?_⟩) hHeld ?_ ?_
              rotate_left
              · rintro w' ⟨s0, s1, s2, s3⟩
                go_simp
                with_reducible rfl
              rotate_left
              · simp only [Act.put, List.setIfInBounds_toArray, List.set_cons_zero, List.set_cons_succ, i64_w, i32_w]
                rfl
              refine one_ (i := 2) (N := some 54) #[true, true, true, false, false] rfl rfl (by kernel_rfl) (by decide) (fun K hK => ?_)
              refine goes_ Try.func34 (by kernel_rfl) rfl #[.agg #[.slice A0_0 l0_0.length c0_0, .slice A0_1 l0_1.length c0_1]] (by rfl) rfl rfl (by (try simp only [List.map_toArray, List.map_cons, List.map_nil]); first | done | rfl | (simp only [List.length_drop, List.length_take]; rfl)) ?_
              with_reducible refine (laws_toChip.calls kj14 _ _ l0_0 _ _ l0_1 t243 t246 _ ?side1 ?side2 ?side3 ?side4 A64.out).mono ?_
              (case side1 => repeat (first | exact (Kd.C_below HR0_0.out HB.out) | (with_reducible refine Kd.C_alloc ?_ _) | (with_reducible refine Kd.C_drewN ?_ _) | (with_reducible refine Kd.C_drew ?_)))
              (case side2 => exact HC0_0.out)
              (case side3 => repeat (first | exact (Kd.C_below HR0_1.out HB.out) | (with_reducible refine Kd.C_alloc ?_ _) | (with_reducible refine Kd.C_drewN ?_ _) | (with_reducible refine Kd.C_drew ?_)))
              (case side4 => exact HC0_1.out)
              rintro e w70 ⟨v244, v247, rfl, ho0, ho1, hb⟩
              refine ⟨_, rfl, ?_⟩
              have n0_ := Aside0.mk (Kd.R_elder' (by (with_reducible repeat (first | apply Kd.R_alloc | apply Kd.R_drewN | apply Kd.R_drew)); exact HO_227000.out) (Kd.R_base ho0) hb)
              have n1_ := Aside0.mk (Kd.R_elder' (by (with_reducible repeat (first | apply Kd.R_alloc | apply Kd.R_drewN | apply Kd.R_drew)); exact HO_227001.out) (Kd.R_base ho1) hb)
              have n2_ := Aside0.mk (Kd.R_elder' (by (with_reducible repeat (first | apply Kd.R_alloc | apply Kd.R_drewN | apply Kd.R_drew)); exact HO_234000.out) (Kd.R_base ho0) hb)
              have n3_ := Aside0.mk (Kd.R_elder' (by (with_reducible repeat (first | apply Kd.R_alloc | apply Kd.R_drewN | apply Kd.R_drew)); exact HO_234001.out) (Kd.R_base ho1) hb)
              have n4_ := Aside0.mk (Kd.R_elder' (by (with_reducible repeat (first | apply Kd.R_alloc | apply Kd.R_drewN | apply Kd.R_drew)); exact HO_242000.out) (Kd.R_base ho0) hb)
              have n5_ := Aside0.mk (Kd.R_elder' (by (with_reducible repeat (first | apply Kd.R_alloc | apply Kd.R_drewN | apply Kd.R_drew)); exact HO_242001.out) (Kd.R_base ho1) hb)
              have n6_ := Aside0.mk (Kd.R_lower (Kd.R_new' (Kd.R_new' (Kd.R_new' ho0 (Kd.R_lt (by (with_reducible repeat (first | apply Kd.R_alloc | apply Kd.R_drewN | apply Kd.R_drew)); exact HO_227000.out))) (Kd.R_lt (by (with_reducible repeat (first | apply Kd.R_alloc | apply Kd.R_drewN | apply Kd.R_drew)); exact HO_234000.out))) (Kd.R_lt (by (with_reducible repeat (first | apply Kd.R_alloc | apply Kd.R_drewN | apply Kd.R_drew)); exact HO_242000.out))) (below_size (by repeat (first | (with_reducible first | exact HB.out | apply below_alloc | apply pw_below_drewN | apply below_drew1 | refine below_set ?_ GE211.out | refine below_set ?_ GE226.out | refine below_set ?_ GE233.out | refine below_set ?_ GE241.out) | exact HB.out))))
              have n7_ := Aside0.mk (Kd.R_lower (Kd.R_new' (Kd.R_new' (Kd.R_new' ho1 (Kd.R_lt (by (with_reducible repeat (first | apply Kd.R_alloc | apply Kd.R_drewN | apply Kd.R_drew)); exact HO_227001.out))) (Kd.R_lt (by (with_reducible repeat (first | apply Kd.R_alloc | apply Kd.R_drewN | apply Kd.R_drew)); exact HO_234001.out))) (Kd.R_lt (by (with_reducible repeat (first | apply Kd.R_alloc | apply Kd.R_drewN | apply Kd.R_drew)); exact HO_242001.out))) (below_size (by repeat (first | (with_reducible first | exact HB.out | apply below_alloc | apply pw_below_drewN | apply below_drew1 | refine below_set ?_ GE211.out | refine below_set ?_ GE226.out | refine below_set ?_ GE233.out | refine below_set ?_ GE241.out) | exact HB.out))))
              have n8_ := Aside0.mk (blk_below (g := gb211) (o := .cells #[.slice A0_0 l0_0.length c0_0, .slice A0_1 l0_1.length c0_1] 46 (0, 0)) (by (with_reducible repeat (first | refine blk_drewN ?_ _ | refine blk_drew ?_ | refine blk_alloc ?_ _)); exact BK211.out) hb)
              have n9_ := Aside0.mk (blk_below (g := gb226) (o := .cells #[.slice Ao25 t219.length co25, .slice Ao28 t222.length co28] 49 (0, 0)) (by (with_reducible repeat (first | refine blk_drewN ?_ _ | refine blk_drew ?_ | refine blk_alloc ?_ _)); exact BK226.out) hb)
              have n10_ := Aside0.mk (blk_below (g := gb233) (o := .cells #[.slice Ao32 t227.length co32, .slice Ao36 t230.length co36] 49 (0, 0)) (by (with_reducible repeat (first | refine blk_drewN ?_ _ | refine blk_drew ?_ | refine blk_alloc ?_ _)); exact BK233.out) hb)
              have n11_ := Aside0.mk (blk_below (g := gb241) (o := .cells #[.slice Ao39 t234.length co39, .slice Ao44 t237.length co44] 49 (0, 0)) (by (with_reducible repeat (first | refine blk_drewN ?_ _ | refine blk_drew ?_ | refine blk_alloc ?_ _)); exact BK241.out) hb)
              have n12_ := Aside0.mk (below_step (by repeat (first | (with_reducible first | exact HB.out | apply below_alloc | apply pw_below_drewN | apply below_drew1 | refine below_set ?_ GE211.out | refine below_set ?_ GE226.out | refine below_set ?_ GE233.out | refine below_set ?_ GE241.out) | exact HB.out)) hb)
              clear HO_227000
              clear HO_227001
              clear HO_234000
              clear HO_234001
              clear HO_242000
              clear HO_242001
              clear BK211
              clear BK226
              clear BK233
              clear BK241
              clear HB
              have HO_227000 := n0_
              have HO_227001 := n1_
              have HO_234000 := n2_
              have HO_234001 := n3_
              have HO_242000 := n4_
              have HO_242001 := n5_
              have HO245 := n6_
              have HO248 := n7_
              have BK211 := n8_
              have BK226 := n9_
              have BK233 := n10_
              have BK241 := n11_
              have HB := n12_
              clear n0_ n1_ n2_ n3_ n4_ n5_ n6_ n7_ n8_ n9_ n10_ n11_ n12_
              (try clear hb)
              (try clear hb2)
              (try clear hk)
              (try clear hi)
              (try clear ho0)
              (try clear ho1)
              obtain ⟨Ao71, co71, eo71⟩ := Kd.R_slice HO245.out
              (first | subst eo71 | (injection eo71 with f1_ f2_ f3_; have f4_ := f1_.symm; have f5_ := f3_.symm; clear f1_ f2_ f3_; subst f4_; subst f5_))
              obtain ⟨Ao72, co72, eo72⟩ := Kd.R_slice HO248.out
              (first | subst eo72 | (injection eo72 with f1_ f2_ f3_; have f4_ := f1_.symm; have f5_ := f3_.symm; clear f1_ f2_ f3_; subst f4_; subst f5_))
              refine hK.out _ _ ⟨(blk_cell BK233.out 0).trans rfl, (blk_cell BK233.out 1).trans rfl, (blk_cell BK211.out 0).trans rfl, (blk_cell BK211.out 1).trans rfl⟩ (fun hHeld => ?_)
              clear hK K
              refine norm_ (a' := ?_) ?_ ?_
              rotate_left
              · show Act.put _ (some 54) _ = _
                simp only [Act.put, List.setIfInBounds_toArray, List.set_cons_zero, List.set_cons_succ, i64_w, i32_w]
                rfl
              refine one_ (i := 3) (N := some 55) #[true, true, true, true, false] rfl rfl (by kernel_rfl) (by decide) (fun K hK => ?_)
              refine goes_ Try.func36 (by kernel_rfl) rfl #[.agg #[.slice Ao32 t227.length co32, .slice Ao36 t230.length co36], .agg #[.slice Ao71 t243.length co71, .slice Ao72 t246.length co72]] (by rfl) rfl rfl (by (try simp only [List.map_toArray, List.map_cons, List.map_nil]); first | done | rfl | (simp only [List.length_drop, List.length_take]; rfl)) ?_
              with_reducible refine (laws_eqChip.calls kj14 _ _ t227 _ _ t230 _ _ t243 _ _ t246 true _ ?side1 ?side2 ?side3 ?side4 ?side5 ?side6 ?side7 ?side8 A65.out).mono ?_
              (case side1 => repeat (first | exact (Kd.R_reads' HO_234000.out).2.2 | (with_reducible refine Kd.C_alloc ?_ _) | (with_reducible refine Kd.C_drewN ?_ _) | (with_reducible refine Kd.C_drew ?_)))
              (case side2 => exact (Kd.R_reads' HO_234000.out).2.1)
              (case side3 => repeat (first | exact (Kd.R_reads' HO_234001.out).2.2 | (with_reducible refine Kd.C_alloc ?_ _) | (with_reducible refine Kd.C_drewN ?_ _) | (with_reducible refine Kd.C_drew ?_)))
              (case side4 => exact (Kd.R_reads' HO_234001.out).2.1)
              (case side5 => repeat (first | exact (Kd.R_reads' HO245.out).2.2 | (with_reducible refine Kd.C_alloc ?_ _) | (with_reducible refine Kd.C_drewN ?_ _) | (with_reducible refine Kd.C_drew ?_)))
              (case side6 => exact (Kd.R_reads' HO245.out).2.1)
              (case side7 => repeat (first | exact (Kd.R_reads' HO248.out).2.2 | (with_reducible refine Kd.C_alloc ?_ _) | (with_reducible refine Kd.C_drewN ?_ _) | (with_reducible refine Kd.C_drew ?_)))
              (case side8 => exact (Kd.R_reads' HO248.out).2.1)
              rintro e w73 ⟨rfl, hb⟩
              refine ⟨_, rfl, ?_⟩
              have n0_ := Aside0.mk (Kd.R_below (by (with_reducible repeat (first | apply Kd.R_alloc | apply Kd.R_drewN | apply Kd.R_drew)); exact HO_227000.out) hb)
              have n1_ := Aside0.mk (Kd.R_below (by (with_reducible repeat (first | apply Kd.R_alloc | apply Kd.R_drewN | apply Kd.R_drew)); exact HO_227001.out) hb)
              have n2_ := Aside0.mk (Kd.R_below (by (with_reducible repeat (first | apply Kd.R_alloc | apply Kd.R_drewN | apply Kd.R_drew)); exact HO_234000.out) hb)
              have n3_ := Aside0.mk (Kd.R_below (by (with_reducible repeat (first | apply Kd.R_alloc | apply Kd.R_drewN | apply Kd.R_drew)); exact HO_234001.out) hb)
              have n4_ := Aside0.mk (Kd.R_below (by (with_reducible repeat (first | apply Kd.R_alloc | apply Kd.R_drewN | apply Kd.R_drew)); exact HO_242000.out) hb)
              have n5_ := Aside0.mk (Kd.R_below (by (with_reducible repeat (first | apply Kd.R_alloc | apply Kd.R_drewN | apply Kd.R_drew)); exact HO_242001.out) hb)
              have n6_ := Aside0.mk (Kd.R_below (by (with_reducible repeat (first | apply Kd.R_alloc | apply Kd.R_drewN | apply Kd.R_drew)); exact HO245.out) hb)
              have n7_ := Aside0.mk (Kd.R_below (by (with_reducible repeat (first | apply Kd.R_alloc | apply Kd.R_drewN | apply Kd.R_drew)); exact HO248.out) hb)
              have n8_ := Aside0.mk (blk_below (g := gb211) (o := .cells #[.slice A0_0 l0_0.length c0_0, .slice A0_1 l0_1.length c0_1] 46 (0, 0)) (by (with_reducible repeat (first | refine blk_drewN ?_ _ | refine blk_drew ?_ | refine blk_alloc ?_ _)); exact BK211.out) hb)
              have n9_ := Aside0.mk (blk_below (g := gb226) (o := .cells #[.slice Ao25 t219.length co25, .slice Ao28 t222.length co28] 49 (0, 0)) (by (with_reducible repeat (first | refine blk_drewN ?_ _ | refine blk_drew ?_ | refine blk_alloc ?_ _)); exact BK226.out) hb)
              have n10_ := Aside0.mk (blk_below (g := gb233) (o := .cells #[.slice Ao32 t227.length co32, .slice Ao36 t230.length co36] 49 (0, 0)) (by (with_reducible repeat (first | refine blk_drewN ?_ _ | refine blk_drew ?_ | refine blk_alloc ?_ _)); exact BK233.out) hb)
              have n11_ := Aside0.mk (blk_below (g := gb241) (o := .cells #[.slice Ao39 t234.length co39, .slice Ao44 t237.length co44] 49 (0, 0)) (by (with_reducible repeat (first | refine blk_drewN ?_ _ | refine blk_drew ?_ | refine blk_alloc ?_ _)); exact BK241.out) hb)
              have n12_ := Aside0.mk (below_step (by repeat (first | (with_reducible first | exact HB.out | apply below_alloc | apply pw_below_drewN | apply below_drew1 | refine below_set ?_ GE211.out | refine below_set ?_ GE226.out | refine below_set ?_ GE233.out | refine below_set ?_ GE241.out) | exact HB.out)) hb)
              clear HO_227000
              clear HO_227001
              clear HO_234000
              clear HO_234001
              clear HO_242000
              clear HO_242001
              clear HO245
              clear HO248
              clear BK211
              clear BK226
              clear BK233
              clear BK241
              clear HB
              have HO_227000 := n0_
              have HO_227001 := n1_
              have HO_234000 := n2_
              have HO_234001 := n3_
              have HO_242000 := n4_
              have HO_242001 := n5_
              have HO245 := n6_
              have HO248 := n7_
              have BK211 := n8_
              have BK226 := n9_
              have BK233 := n10_
              have BK241 := n11_
              have HB := n12_
              clear n0_ n1_ n2_ n3_ n4_ n5_ n6_ n7_ n8_ n9_ n10_ n11_ n12_
              (try clear hb)
              (try clear hb2)
              (try clear hk)
              (try clear hi)
              refine hK.out _ _ ⟨(blk_cell BK233.out 0).trans rfl, (blk_cell BK233.out 1).trans rfl, (blk_cell BK211.out 0).trans rfl, (blk_cell BK211.out 1).trans rfl⟩ (fun hHeld => ?_)
              clear hK K
              refine norm_ (a' := ?_) ?_ ?_
              rotate_left
              · show Act.put _ (some 55) _ = _
                simp only [Act.put, List.setIfInBounds_toArray, List.set_cons_zero, List.set_cons_succ, i64_w, i32_w]
                rfl
              refine pure_ (i := 4) (N := some 56) (v := ?_) (a' := ?_) #[true, true, true, true, true] rfl rfl (by kernel_rfl) (fun _ _ _ h => h) (Or.inl ⟨by rfl, ?_⟩) ?_ ?_
              rotate_left
              · intro w'
                go_simp
                with_reducible rfl
              rotate_left
              · simp only [Act.put, List.setIfInBounds_toArray, List.set_cons_zero, List.set_cons_succ, i64_w, i32_w]
                rfl
              refine done_ (by kernel_rfl) ?_
              have hnb74 := NB233_211.out
              have hnc74 := NB211_233.out
              have hnb75 := NB233_226.out
              have hnc75 := NB226_233.out
              have hnb76 := NB233_241.out
              have hnc76 := NB241_233.out
              have hcz77_0 : w73.cell? ⟨gb233, 0, none⟩ = some (.slice Ao32 t227.length co32) := (blk_cell BK233.out 0).trans rfl
              have hcz77_1 : w73.cell? ⟨gb233, 1, none⟩ = some (.slice Ao36 t230.length co36) := (blk_cell BK233.out 1).trans rfl
              have hfz77_0 := blk_frozen BK233.out 0
              have hfz77_1 := blk_frozen BK233.out 1
              go_upto_region 16 with (first | ((with_reducible refine gate_callee (f := 42) rfl ?_); refine goesL_ (some 59) rfl rfl Try.func42 (by kernel_rfl) rfl #[.agg #[.slice Ao32 t227.length co32, .slice Ao36 t230.length co36], .int .i64 1] rfl (by (try simp only [List.map_toArray, List.map_cons, List.map_nil]); first | done | rfl | (simp only [List.length_drop, List.length_take]; rfl)) ?_; (with_reducible refine (laws_markChip.calls kj14 (fun k_ => some k_ = (.slice Ao32 t227.length co32 : Value).ownBlock) (.slice Ao32 t227.length co32) t227 (fun k_ => some k_ = (.slice Ao36 t230.length co36 : Value).ownBlock) (.slice Ao36 t230.length co36) t230 1 t250 t251 t252 w _ ?side1 ?side2 ?side3 A67.out).mono ?_); (case side1 => repeat (first | (with_reducible first | exact HB.out | apply below_alloc | apply pw_below_drewN | apply below_drew1 | refine below_set ?_ GE211.out | refine below_set ?_ GE226.out | refine below_set ?_ GE233.out | refine below_set ?_ GE241.out) | exact HB.out)); (case side2 => exact Kd.R_tight rfl HO_234000.out); (case side3 => exact Kd.R_tight rfl HO_234001.out); rintro e w78 ⟨rfl, hy0, hy1, hb, hkp⟩; refine ⟨_, rfl, ?_⟩; have n0_ := Aside0.mk (Kd.R_mono (ok' := fun k_ => some k_ ≠ (.slice Ao32 t227.length co32 : Value).ownBlock ∧ some k_ ≠ (.slice Ao39 t234.length co39 : Value).ownBlock ∧ some k_ ≠ (.slice Ao71 t243.length co71 : Value).ownBlock) (Kd.R_keptB ((Kd.R_apart' HO_227000.out (Kd.R_typed HO_234001.out) (by decide))) hkp (fun k_ hk_ hs_ => Or.elim hs_ (fun e_ => (hk_.1.1.1) e_) (fun e_ => (hk_.2) e_))) (fun k_ hk_ => ⟨hk_.1.1.1.1, hk_.1.1.1.2, hk_.1.1.2⟩)); have n1_ := Aside0.mk (Kd.R_mono (ok' := fun k_ => some k_ ≠ (.slice Ao36 t230.length co36 : Value).ownBlock ∧ some k_ ≠ (.slice Ao44 t237.length co44 : Value).ownBlock ∧ some k_ ≠ (.slice Ao72 t246.length co72 : Value).ownBlock) (Kd.R_keptB ((Kd.R_apart' HO_227001.out (Kd.R_typed HO_234000.out) (by decide))) hkp (fun k_ hk_ hs_ => Or.elim hs_ (fun e_ => (hk_.2) e_) (fun e_ => (hk_.1.1.1) e_))) (fun k_ hk_ => ⟨hk_.1.1.1.1, hk_.1.1.1.2, hk_.1.1.2⟩)); have n2_ := Aside0.mk (Kd.R_reok rfl hy0 (fun k_ e_ => HO_234000.out.1 k_ e_)); have n3_ := Aside0.mk (Kd.R_reok rfl hy1 (fun k_ e_ => HO_234001.out.1 k_ e_)); have n4_ := Aside0.mk (Kd.R_mono (ok' := fun k_ => some k_ ≠ (.slice Ao25 t219.length co25 : Value).ownBlock ∧ some k_ ≠ (.slice Ao32 t227.length co32 : Value).ownBlock ∧ some k_ ≠ (.slice Ao71 t243.length co71 : Value).ownBlock) (Kd.R_keptB ((Kd.R_apart' HO_242000.out (Kd.R_typed HO_234001.out) (by decide))) hkp (fun k_ hk_ hs_ => Or.elim hs_ (fun e_ => (hk_.1.1.2) e_) (fun e_ => (hk_.2) e_))) (fun k_ hk_ => ⟨hk_.1.1.1.1, hk_.1.1.1.2, hk_.1.1.2⟩)); have n5_ := Aside0.mk (Kd.R_mono (ok' := fun k_ => some k_ ≠ (.slice Ao28 t222.length co28 : Value).ownBlock ∧ some k_ ≠ (.slice Ao36 t230.length co36 : Value).ownBlock ∧ some k_ ≠ (.slice Ao72 t246.length co72 : Value).ownBlock) (Kd.R_keptB ((Kd.R_apart' HO_242001.out (Kd.R_typed HO_234000.out) (by decide))) hkp (fun k_ hk_ hs_ => Or.elim hs_ (fun e_ => (hk_.2) e_) (fun e_ => (hk_.1.1.2) e_))) (fun k_ hk_ => ⟨hk_.1.1.1.1, hk_.1.1.1.2, hk_.1.1.2⟩)); have n6_ := Aside0.mk (blk_kept (by (with_reducible repeat (first | refine blk_drewN ?_ _ | refine blk_drew ?_ | refine blk_alloc ?_ _)); exact BK211.out) hkp (fun hs_ => Or.elim hs_ (fun e_ => (fun e_ => (Kd.R_ne HO_234000.out BK211.out (by decide)) e_) e_) (fun e_ => (fun e_ => (Kd.R_ne HO_234001.out BK211.out (by decide)) e_) e_))); have n7_ := Aside0.mk (blk_kept (by (with_reducible repeat (first | refine blk_drewN ?_ _ | refine blk_drew ?_ | refine blk_alloc ?_ _)); exact BK226.out) hkp (fun hs_ => Or.elim hs_ (fun e_ => (fun e_ => (Kd.R_ne HO_234000.out BK226.out (by decide)) e_) e_) (fun e_ => (fun e_ => (Kd.R_ne HO_234001.out BK226.out (by decide)) e_) e_))); have n8_ := Aside0.mk (blk_kept (by (with_reducible repeat (first | refine blk_drewN ?_ _ | refine blk_drew ?_ | refine blk_alloc ?_ _)); exact BK233.out) hkp (fun hs_ => Or.elim hs_ (fun e_ => (fun e_ => (Kd.R_ne HO_234000.out BK233.out (by decide)) e_) e_) (fun e_ => (fun e_ => (Kd.R_ne HO_234001.out BK233.out (by decide)) e_) e_))); have n9_ := Aside0.mk (blk_kept (by (with_reducible repeat (first | refine blk_drewN ?_ _ | refine blk_drew ?_ | refine blk_alloc ?_ _)); exact BK241.out) hkp (fun hs_ => Or.elim hs_ (fun e_ => (fun e_ => (Kd.R_ne HO_234000.out BK241.out (by decide)) e_) e_) (fun e_ => (fun e_ => (Kd.R_ne HO_234001.out BK241.out (by decide)) e_) e_))); have n10_ := Aside0.mk (Kd.R_mono (ok' := fun k_ => some k_ ≠ (.slice Ao25 t219.length co25 : Value).ownBlock ∧ some k_ ≠ (.slice Ao32 t227.length co32 : Value).ownBlock ∧ some k_ ≠ (.slice Ao39 t234.length co39 : Value).ownBlock) (Kd.R_keptB ((Kd.R_apart' HO245.out (Kd.R_typed HO_234001.out) (by decide))) hkp (fun k_ hk_ hs_ => Or.elim hs_ (fun e_ => (hk_.1.1.2) e_) (fun e_ => (hk_.2) e_))) (fun k_ hk_ => ⟨hk_.1.1.1.1.2, hk_.1.1.1.2, hk_.1.1.2⟩)); have n11_ := Aside0.mk (Kd.R_mono (ok' := fun k_ => some k_ ≠ (.slice Ao28 t222.length co28 : Value).ownBlock ∧ some k_ ≠ (.slice Ao36 t230.length co36 : Value).ownBlock ∧ some k_ ≠ (.slice Ao44 t237.length co44 : Value).ownBlock) (Kd.R_keptB ((Kd.R_apart' HO248.out (Kd.R_typed HO_234000.out) (by decide))) hkp (fun k_ hk_ hs_ => Or.elim hs_ (fun e_ => (hk_.2) e_) (fun e_ => (hk_.1.1.2) e_))) (fun k_ hk_ => ⟨hk_.1.1.1.1.2, hk_.1.1.1.2, hk_.1.1.2⟩)); have n12_ := Aside0.mk (hb); clear HO_227000; clear HO_227001; clear HO_234000; clear HO_234001; clear HO_242000; clear HO_242001; clear BK211; clear BK226; clear BK233; clear BK241; clear HO245; clear HO248; clear HB; have HO_227000 := n0_; have HO_227001 := n1_; have HO_234000 := n2_; have HO_234001 := n3_; have HO_242000 := n4_; have HO_242001 := n5_; have BK211 := n6_; have BK226 := n7_; have BK233 := n8_; have BK241 := n9_; have HO245 := n10_; have HO248 := n11_; have HB := n12_; clear n0_ n1_ n2_ n3_ n4_ n5_ n6_ n7_ n8_ n9_ n10_ n11_ n12_; (try clear hb); (try clear hkp); (try clear hy0); (try clear hy1)))
              (try simp only [Act.put, List.setIfInBounds_toArray, List.set_cons_zero, List.set_cons_succ])
              go_cut [72] (fun v72 wc => ∃ (kq : Nat) (x72_67 : Bool), v72 = .bool x72_67 ∧ Aside0 (laws_FnExactBurn.j1 kq a1 a2 t225 x72_67 l0_0 l0_1 t219 t222 t234 t237 = some r) ∧ Aside0 (kq ≤ kj14) ∧ Aside0 (Kd.R Kd.string 9 wc w.heap.size (fun k_ => some k_ ≠ ((.slice Ao32 t227.length co32) : Value).ownBlock ∧ some k_ ≠ ((.slice Ao39 t234.length co39) : Value).ownBlock) (.slice Ao25 t219.length co25) t219) ∧ Aside0 (Kd.R (Kd.int .i64) 3 wc w.heap.size (fun k_ => some k_ ≠ ((.slice Ao36 t230.length co36) : Value).ownBlock ∧ some k_ ≠ ((.slice Ao44 t237.length co44) : Value).ownBlock) (.slice Ao28 t222.length co28) t222) ∧ Aside0 (Kd.R Kd.string 9 wc w.heap.size (fun k_ => some k_ ≠ ((.slice Ao25 t219.length co25) : Value).ownBlock ∧ some k_ ≠ ((.slice Ao39 t234.length co39) : Value).ownBlock) (.slice Ao32 t227.length co32) t251) ∧ Aside0 (Kd.R (Kd.int .i64) 3 wc w.heap.size (fun k_ => some k_ ≠ ((.slice Ao28 t222.length co28) : Value).ownBlock ∧ some k_ ≠ ((.slice Ao44 t237.length co44) : Value).ownBlock) (.slice Ao36 t230.length co36) t252) ∧ Aside0 (Kd.R Kd.string 9 wc w.heap.size (fun k_ => some k_ ≠ ((.slice Ao25 t219.length co25) : Value).ownBlock ∧ some k_ ≠ ((.slice Ao32 t227.length co32) : Value).ownBlock) (.slice Ao39 t234.length co39) t234) ∧ Aside0 (Kd.R (Kd.int .i64) 3 wc w.heap.size (fun k_ => some k_ ≠ ((.slice Ao28 t222.length co28) : Value).ownBlock ∧ some k_ ≠ ((.slice Ao36 t230.length co36) : Value).ownBlock) (.slice Ao44 t237.length co44) t237) ∧ Aside0 (wc.heap[gb211]? = some (.cells #[(.slice A0_0 l0_0.length c0_0), (.slice A0_1 l0_1.length c0_1)] 46 (0, 0))) ∧ Aside0 (wc.heap[gb226]? = some (.cells #[(.slice Ao25 t219.length co25), (.slice Ao28 t222.length co28)] 49 (0, 0))) ∧ Aside0 (wc.heap[gb233]? = some (.cells #[(.slice Ao32 t227.length co32), (.slice Ao36 t230.length co36)] 49 (0, 0))) ∧ Aside0 (wc.heap[gb241]? = some (.cells #[(.slice Ao39 t234.length co39), (.slice Ao44 t237.length co44)] 49 (0, 0))) ∧ Aside0 (Below w.heap.size w wc))
              case first =>
                have H := HC68.out
                clear HC68
                by_cases c79 : t250 < 0
                · rw [if_pos c79] at H
                  have c79b0 : decide (t250 < 0) = true := decide_eq_true c79
                  clear c79
                  (first | rw [c79b0] | (simp only [i64_w, i32_w]; rw [c79b0]) | skip)
                  have H' := Aside0.mk H
                  clear H
                  go_wp2
                  go_meet
                  case rel => exact ⟨_, (true), (by first | rfl | (simp; done) | (simp [*]; done)), H', ⟨by have := HJ14.out; first | omega | exact Nat.le_refl _⟩, ⟨by (with_reducible repeat (first | apply Kd.R_alloc | apply Kd.R_drewN | apply Kd.R_drew)); exact Kd.R_mono HO_227000.out (fun _ hk => ⟨hk.1, hk.2.1⟩)⟩, ⟨by (with_reducible repeat (first | apply Kd.R_alloc | apply Kd.R_drewN | apply Kd.R_drew)); exact Kd.R_mono HO_227001.out (fun _ hk => ⟨hk.1, hk.2.1⟩)⟩, ⟨by (with_reducible repeat (first | apply Kd.R_alloc | apply Kd.R_drewN | apply Kd.R_drew)); exact Kd.R_mono HO_234000.out (fun _ hk => ⟨hk.1.1, hk.1.2⟩)⟩, ⟨by (with_reducible repeat (first | apply Kd.R_alloc | apply Kd.R_drewN | apply Kd.R_drew)); exact Kd.R_mono HO_234001.out (fun _ hk => ⟨hk.1.1, hk.1.2⟩)⟩, ⟨by (with_reducible repeat (first | apply Kd.R_alloc | apply Kd.R_drewN | apply Kd.R_drew)); exact Kd.R_mono HO_242000.out (fun _ hk => ⟨hk.1, hk.2.1⟩)⟩, ⟨by (with_reducible repeat (first | apply Kd.R_alloc | apply Kd.R_drewN | apply Kd.R_drew)); exact Kd.R_mono HO_242001.out (fun _ hk => ⟨hk.1, hk.2.1⟩)⟩, ⟨by (with_reducible repeat (first | refine blk_drewN ?_ _ | refine blk_drew ?_ | refine blk_alloc ?_ _)); exact BK211.out⟩, ⟨by (with_reducible repeat (first | refine blk_drewN ?_ _ | refine blk_drew ?_ | refine blk_alloc ?_ _)); exact BK226.out⟩, ⟨by (with_reducible repeat (first | refine blk_drewN ?_ _ | refine blk_drew ?_ | refine blk_alloc ?_ _)); exact BK233.out⟩, ⟨by (with_reducible repeat (first | refine blk_drewN ?_ _ | refine blk_drew ?_ | refine blk_alloc ?_ _)); exact BK241.out⟩, ⟨by repeat (first | (with_reducible first | exact HB.out | apply below_alloc | apply pw_below_drewN | apply below_drew1 | refine below_set ?_ GE211.out | refine below_set ?_ GE226.out | refine below_set ?_ GE233.out | refine below_set ?_ GE241.out) | exact HB.out)⟩⟩
                · rw [if_neg c79] at H
                  have c79b0 : decide (t250 < 0) = false := decide_eq_false c79
                  clear c79
                  (first | rw [c79b0] | (simp only [i64_w, i32_w]; rw [c79b0]) | skip)
                  replace H := Option.bind_eq_some_iff.mp H
                  obtain ⟨t253, A800, H⟩ := H
                  replace H : (if t253 = true then (laws_FnExactBurn.j1 kj14 a1 a2 t225 (t240 != t225) l0_0 l0_1 t219 t222 t234 t237) else (laws_FnExactBurn.j1 kj14 a1 a2 t225 true l0_0 l0_1 t219 t222 t234 t237)) = some r := H
                  have A80 := Aside0.mk A800
                  clear A800
                  by_cases c81 : t253 = true
                  · subst c81
                    have H1 : (laws_FnExactBurn.j1 kj14 a1 a2 t225 (t240 != t225) l0_0 l0_1 t219 t222 t234 t237) = some r := by rw [if_pos rfl] at H; exact H
                    clear H
                    have H := H1
                    clear H1
                    have H' := Aside0.mk H
                    clear H
                    have hnb82 := NB241_211.out
                    have hnc82 := NB211_241.out
                    have hnb83 := NB241_226.out
                    have hnc83 := NB226_241.out
                    have hnb84 := NB241_233.out
                    have hnc84 := NB233_241.out
                    have hcz85_0 : w78.cell? ⟨gb241, 0, none⟩ = some (.slice Ao39 t234.length co39) := (blk_cell BK241.out 0).trans rfl
                    have hcz85_1 : w78.cell? ⟨gb241, 1, none⟩ = some (.slice Ao44 t237.length co44) := (blk_cell BK241.out 1).trans rfl
                    have hfz85_0 := blk_frozen BK241.out 0
                    have hfz85_1 := blk_frozen BK241.out 1
                    have hnb86 := NB226_211.out
                    have hnc86 := NB211_226.out
                    have hnb87 := NB226_233.out
                    have hnc87 := NB233_226.out
                    have hcz88_0 : w78.cell? ⟨gb226, 0, none⟩ = some (.slice Ao25 t219.length co25) := (blk_cell BK226.out 0).trans rfl
                    have hcz88_1 : w78.cell? ⟨gb226, 1, none⟩ = some (.slice Ao28 t222.length co28) := (blk_cell BK226.out 1).trans rfl
                    have hfz88_0 := blk_frozen BK226.out 0
                    have hfz88_1 := blk_frozen BK226.out 1
                    go_wp2_with (first | (go_at_call 36; (with_reducible refine (laws_eqChip.calls kj14 _ _ t234 _ _ t237 _ _ t219 _ _ t222 true _ ?side1 ?side2 ?side3 ?side4 ?side5 ?side6 ?side7 ?side8 A80.out).mono ?_); (case side1 => repeat (first | exact (Kd.R_reads' HO_242000.out).2.2 | (with_reducible refine Kd.C_alloc ?_ _) | (with_reducible refine Kd.C_drewN ?_ _) | (with_reducible refine Kd.C_drew ?_))); (case side2 => exact (Kd.R_reads' HO_242000.out).2.1); (case side3 => repeat (first | exact (Kd.R_reads' HO_242001.out).2.2 | (with_reducible refine Kd.C_alloc ?_ _) | (with_reducible refine Kd.C_drewN ?_ _) | (with_reducible refine Kd.C_drew ?_))); (case side4 => exact (Kd.R_reads' HO_242001.out).2.1); (case side5 => repeat (first | exact (Kd.R_reads' HO_227000.out).2.2 | (with_reducible refine Kd.C_alloc ?_ _) | (with_reducible refine Kd.C_drewN ?_ _) | (with_reducible refine Kd.C_drew ?_))); (case side6 => exact (Kd.R_reads' HO_227000.out).2.1); (case side7 => repeat (first | exact (Kd.R_reads' HO_227001.out).2.2 | (with_reducible refine Kd.C_alloc ?_ _) | (with_reducible refine Kd.C_drewN ?_ _) | (with_reducible refine Kd.C_drew ?_))); (case side8 => exact (Kd.R_reads' HO_227001.out).2.1); rintro e w89 ⟨rfl, hb⟩; have n0_ := Aside0.mk (Kd.R_below (by (with_reducible repeat (first | apply Kd.R_alloc | apply Kd.R_drewN | apply Kd.R_drew)); exact HO_227000.out) hb); have n1_ := Aside0.mk (Kd.R_below (by (with_reducible repeat (first | apply Kd.R_alloc | apply Kd.R_drewN | apply Kd.R_drew)); exact HO_227001.out) hb); have n2_ := Aside0.mk (Kd.R_below (by (with_reducible repeat (first | apply Kd.R_alloc | apply Kd.R_drewN | apply Kd.R_drew)); exact HO_234000.out) hb); have n3_ := Aside0.mk (Kd.R_below (by (with_reducible repeat (first | apply Kd.R_alloc | apply Kd.R_drewN | apply Kd.R_drew)); exact HO_234001.out) hb); have n4_ := Aside0.mk (Kd.R_below (by (with_reducible repeat (first | apply Kd.R_alloc | apply Kd.R_drewN | apply Kd.R_drew)); exact HO_242000.out) hb); have n5_ := Aside0.mk (Kd.R_below (by (with_reducible repeat (first | apply Kd.R_alloc | apply Kd.R_drewN | apply Kd.R_drew)); exact HO_242001.out) hb); have n6_ := Aside0.mk (Kd.R_below (by (with_reducible repeat (first | apply Kd.R_alloc | apply Kd.R_drewN | apply Kd.R_drew)); exact HO245.out) hb); have n7_ := Aside0.mk (Kd.R_below (by (with_reducible repeat (first | apply Kd.R_alloc | apply Kd.R_drewN | apply Kd.R_drew)); exact HO248.out) hb); have n8_ := Aside0.mk (blk_below (g := gb211) (o := .cells #[.slice A0_0 l0_0.length c0_0, .slice A0_1 l0_1.length c0_1] 46 (0, 0)) (by (with_reducible repeat (first | refine blk_drewN ?_ _ | refine blk_drew ?_ | refine blk_alloc ?_ _)); exact BK211.out) hb); have n9_ := Aside0.mk (blk_below (g := gb226) (o := .cells #[.slice Ao25 t219.length co25, .slice Ao28 t222.length co28] 49 (0, 0)) (by (with_reducible repeat (first | refine blk_drewN ?_ _ | refine blk_drew ?_ | refine blk_alloc ?_ _)); exact BK226.out) hb); have n10_ := Aside0.mk (blk_below (g := gb233) (o := .cells #[.slice Ao32 t227.length co32, .slice Ao36 t230.length co36] 49 (0, 0)) (by (with_reducible repeat (first | refine blk_drewN ?_ _ | refine blk_drew ?_ | refine blk_alloc ?_ _)); exact BK233.out) hb); have n11_ := Aside0.mk (blk_below (g := gb241) (o := .cells #[.slice Ao39 t234.length co39, .slice Ao44 t237.length co44] 49 (0, 0)) (by (with_reducible repeat (first | refine blk_drewN ?_ _ | refine blk_drew ?_ | refine blk_alloc ?_ _)); exact BK241.out) hb); have n12_ := Aside0.mk (below_step (by repeat (first | (with_reducible first | exact HB.out | apply below_alloc | apply pw_below_drewN | apply below_drew1 | refine below_set ?_ GE211.out | refine below_set ?_ GE226.out | refine below_set ?_ GE233.out | refine below_set ?_ GE241.out) | exact HB.out)) hb); clear HO_227000; clear HO_227001; clear HO_234000; clear HO_234001; clear HO_242000; clear HO_242001; clear HO245; clear HO248; clear BK211; clear BK226; clear BK233; clear BK241; clear HB; have HO_227000 := n0_; have HO_227001 := n1_; have HO_234000 := n2_; have HO_234001 := n3_; have HO_242000 := n4_; have HO_242001 := n5_; have HO245 := n6_; have HO248 := n7_; have BK211 := n8_; have BK226 := n9_; have BK233 := n10_; have BK241 := n11_; have HB := n12_; clear n0_ n1_ n2_ n3_ n4_ n5_ n6_ n7_ n8_ n9_ n10_ n11_ n12_; (try clear hb); (try clear hb2); (try clear hk); (try clear hi)))
                    go_meet
                    case rel => exact ⟨_, ((t240 != t225)), (by first | rfl | (simp; done) | (simp [*]; done)), H', ⟨by have := HJ14.out; first | omega | exact Nat.le_refl _⟩, ⟨by (with_reducible repeat (first | apply Kd.R_alloc | apply Kd.R_drewN | apply Kd.R_drew)); exact Kd.R_mono HO_227000.out (fun _ hk => ⟨hk.1, hk.2.1⟩)⟩, ⟨by (with_reducible repeat (first | apply Kd.R_alloc | apply Kd.R_drewN | apply Kd.R_drew)); exact Kd.R_mono HO_227001.out (fun _ hk => ⟨hk.1, hk.2.1⟩)⟩, ⟨by (with_reducible repeat (first | apply Kd.R_alloc | apply Kd.R_drewN | apply Kd.R_drew)); exact Kd.R_mono HO_234000.out (fun _ hk => ⟨hk.1.1, hk.1.2⟩)⟩, ⟨by (with_reducible repeat (first | apply Kd.R_alloc | apply Kd.R_drewN | apply Kd.R_drew)); exact Kd.R_mono HO_234001.out (fun _ hk => ⟨hk.1.1, hk.1.2⟩)⟩, ⟨by (with_reducible repeat (first | apply Kd.R_alloc | apply Kd.R_drewN | apply Kd.R_drew)); exact Kd.R_mono HO_242000.out (fun _ hk => ⟨hk.1, hk.2.1⟩)⟩, ⟨by (with_reducible repeat (first | apply Kd.R_alloc | apply Kd.R_drewN | apply Kd.R_drew)); exact Kd.R_mono HO_242001.out (fun _ hk => ⟨hk.1, hk.2.1⟩)⟩, ⟨by (with_reducible repeat (first | refine blk_drewN ?_ _ | refine blk_drew ?_ | refine blk_alloc ?_ _)); exact BK211.out⟩, ⟨by (with_reducible repeat (first | refine blk_drewN ?_ _ | refine blk_drew ?_ | refine blk_alloc ?_ _)); exact BK226.out⟩, ⟨by (with_reducible repeat (first | refine blk_drewN ?_ _ | refine blk_drew ?_ | refine blk_alloc ?_ _)); exact BK233.out⟩, ⟨by (with_reducible repeat (first | refine blk_drewN ?_ _ | refine blk_drew ?_ | refine blk_alloc ?_ _)); exact BK241.out⟩, ⟨by repeat (first | (with_reducible first | exact HB.out | apply below_alloc | apply pw_below_drewN | apply below_drew1 | refine below_set ?_ GE211.out | refine below_set ?_ GE226.out | refine below_set ?_ GE233.out | refine below_set ?_ GE241.out) | exact HB.out)⟩⟩
                  · replace c81 := Bool.eq_false_iff.mpr c81
                    subst c81
                    have H1 : (laws_FnExactBurn.j1 kj14 a1 a2 t225 true l0_0 l0_1 t219 t222 t234 t237) = some r := by rw [if_neg (show ¬ (false = true) by decide)] at H; exact H
                    clear H
                    have H := H1
                    clear H1
                    have H' := Aside0.mk H
                    clear H
                    have hnb90 := NB241_211.out
                    have hnc90 := NB211_241.out
                    have hnb91 := NB241_226.out
                    have hnc91 := NB226_241.out
                    have hnb92 := NB241_233.out
                    have hnc92 := NB233_241.out
                    have hcz93_0 : w78.cell? ⟨gb241, 0, none⟩ = some (.slice Ao39 t234.length co39) := (blk_cell BK241.out 0).trans rfl
                    have hcz93_1 : w78.cell? ⟨gb241, 1, none⟩ = some (.slice Ao44 t237.length co44) := (blk_cell BK241.out 1).trans rfl
                    have hfz93_0 := blk_frozen BK241.out 0
                    have hfz93_1 := blk_frozen BK241.out 1
                    have hnb94 := NB226_211.out
                    have hnc94 := NB211_226.out
                    have hnb95 := NB226_233.out
                    have hnc95 := NB233_226.out
                    have hcz96_0 : w78.cell? ⟨gb226, 0, none⟩ = some (.slice Ao25 t219.length co25) := (blk_cell BK226.out 0).trans rfl
                    have hcz96_1 : w78.cell? ⟨gb226, 1, none⟩ = some (.slice Ao28 t222.length co28) := (blk_cell BK226.out 1).trans rfl
                    have hfz96_0 := blk_frozen BK226.out 0
                    have hfz96_1 := blk_frozen BK226.out 1
                    go_wp2_with (first | (go_at_call 36; (with_reducible refine (laws_eqChip.calls kj14 _ _ t234 _ _ t237 _ _ t219 _ _ t222 false _ ?side1 ?side2 ?side3 ?side4 ?side5 ?side6 ?side7 ?side8 A80.out).mono ?_); (case side1 => repeat (first | exact (Kd.R_reads' HO_242000.out).2.2 | (with_reducible refine Kd.C_alloc ?_ _) | (with_reducible refine Kd.C_drewN ?_ _) | (with_reducible refine Kd.C_drew ?_))); (case side2 => exact (Kd.R_reads' HO_242000.out).2.1); (case side3 => repeat (first | exact (Kd.R_reads' HO_242001.out).2.2 | (with_reducible refine Kd.C_alloc ?_ _) | (with_reducible refine Kd.C_drewN ?_ _) | (with_reducible refine Kd.C_drew ?_))); (case side4 => exact (Kd.R_reads' HO_242001.out).2.1); (case side5 => repeat (first | exact (Kd.R_reads' HO_227000.out).2.2 | (with_reducible refine Kd.C_alloc ?_ _) | (with_reducible refine Kd.C_drewN ?_ _) | (with_reducible refine Kd.C_drew ?_))); (case side6 => exact (Kd.R_reads' HO_227000.out).2.1); (case side7 => repeat (first | exact (Kd.R_reads' HO_227001.out).2.2 | (with_reducible refine Kd.C_alloc ?_ _) | (with_reducible refine Kd.C_drewN ?_ _) | (with_reducible refine Kd.C_drew ?_))); (case side8 => exact (Kd.R_reads' HO_227001.out).2.1); rintro e w97 ⟨rfl, hb⟩; have n0_ := Aside0.mk (Kd.R_below (by (with_reducible repeat (first | apply Kd.R_alloc | apply Kd.R_drewN | apply Kd.R_drew)); exact HO_227000.out) hb); have n1_ := Aside0.mk (Kd.R_below (by (with_reducible repeat (first | apply Kd.R_alloc | apply Kd.R_drewN | apply Kd.R_drew)); exact HO_227001.out) hb); have n2_ := Aside0.mk (Kd.R_below (by (with_reducible repeat (first | apply Kd.R_alloc | apply Kd.R_drewN | apply Kd.R_drew)); exact HO_234000.out) hb); have n3_ := Aside0.mk (Kd.R_below (by (with_reducible repeat (first | apply Kd.R_alloc | apply Kd.R_drewN | apply Kd.R_drew)); exact HO_234001.out) hb); have n4_ := Aside0.mk (Kd.R_below (by (with_reducible repeat (first | apply Kd.R_alloc | apply Kd.R_drewN | apply Kd.R_drew)); exact HO_242000.out) hb); have n5_ := Aside0.mk (Kd.R_below (by (with_reducible repeat (first | apply Kd.R_alloc | apply Kd.R_drewN | apply Kd.R_drew)); exact HO_242001.out) hb); have n6_ := Aside0.mk (Kd.R_below (by (with_reducible repeat (first | apply Kd.R_alloc | apply Kd.R_drewN | apply Kd.R_drew)); exact HO245.out) hb); have n7_ := Aside0.mk (Kd.R_below (by (with_reducible repeat (first | apply Kd.R_alloc | apply Kd.R_drewN | apply Kd.R_drew)); exact HO248.out) hb); have n8_ := Aside0.mk (blk_below (g := gb211) (o := .cells #[.slice A0_0 l0_0.length c0_0, .slice A0_1 l0_1.length c0_1] 46 (0, 0)) (by (with_reducible repeat (first | refine blk_drewN ?_ _ | refine blk_drew ?_ | refine blk_alloc ?_ _)); exact BK211.out) hb); have n9_ := Aside0.mk (blk_below (g := gb226) (o := .cells #[.slice Ao25 t219.length co25, .slice Ao28 t222.length co28] 49 (0, 0)) (by (with_reducible repeat (first | refine blk_drewN ?_ _ | refine blk_drew ?_ | refine blk_alloc ?_ _)); exact BK226.out) hb); have n10_ := Aside0.mk (blk_below (g := gb233) (o := .cells #[.slice Ao32 t227.length co32, .slice Ao36 t230.length co36] 49 (0, 0)) (by (with_reducible repeat (first | refine blk_drewN ?_ _ | refine blk_drew ?_ | refine blk_alloc ?_ _)); exact BK233.out) hb); have n11_ := Aside0.mk (blk_below (g := gb241) (o := .cells #[.slice Ao39 t234.length co39, .slice Ao44 t237.length co44] 49 (0, 0)) (by (with_reducible repeat (first | refine blk_drewN ?_ _ | refine blk_drew ?_ | refine blk_alloc ?_ _)); exact BK241.out) hb); have n12_ := Aside0.mk (below_step (by repeat (first | (with_reducible first | exact HB.out | apply below_alloc | apply pw_below_drewN | apply below_drew1 | refine below_set ?_ GE211.out | refine below_set ?_ GE226.out | refine below_set ?_ GE233.out | refine below_set ?_ GE241.out) | exact HB.out)) hb); clear HO_227000; clear HO_227001; clear HO_234000; clear HO_234001; clear HO_242000; clear HO_242001; clear HO245; clear HO248; clear BK211; clear BK226; clear BK233; clear BK241; clear HB; have HO_227000 := n0_; have HO_227001 := n1_; have HO_234000 := n2_; have HO_234001 := n3_; have HO_242000 := n4_; have HO_242001 := n5_; have HO245 := n6_; have HO248 := n7_; have BK211 := n8_; have BK226 := n9_; have BK233 := n10_; have BK241 := n11_; have HB := n12_; clear n0_ n1_ n2_ n3_ n4_ n5_ n6_ n7_ n8_ n9_ n10_ n11_ n12_; (try clear hb); (try clear hb2); (try clear hk); (try clear hi)))
                    go_meet
                    case rel => exact ⟨_, (true), (by first | rfl | (simp; done) | (simp [*]; done)), H', ⟨by have := HJ14.out; first | omega | exact Nat.le_refl _⟩, ⟨by (with_reducible repeat (first | apply Kd.R_alloc | apply Kd.R_drewN | apply Kd.R_drew)); exact Kd.R_mono HO_227000.out (fun _ hk => ⟨hk.1, hk.2.1⟩)⟩, ⟨by (with_reducible repeat (first | apply Kd.R_alloc | apply Kd.R_drewN | apply Kd.R_drew)); exact Kd.R_mono HO_227001.out (fun _ hk => ⟨hk.1, hk.2.1⟩)⟩, ⟨by (with_reducible repeat (first | apply Kd.R_alloc | apply Kd.R_drewN | apply Kd.R_drew)); exact Kd.R_mono HO_234000.out (fun _ hk => ⟨hk.1.1, hk.1.2⟩)⟩, ⟨by (with_reducible repeat (first | apply Kd.R_alloc | apply Kd.R_drewN | apply Kd.R_drew)); exact Kd.R_mono HO_234001.out (fun _ hk => ⟨hk.1.1, hk.1.2⟩)⟩, ⟨by (with_reducible repeat (first | apply Kd.R_alloc | apply Kd.R_drewN | apply Kd.R_drew)); exact Kd.R_mono HO_242000.out (fun _ hk => ⟨hk.1, hk.2.1⟩)⟩, ⟨by (with_reducible repeat (first | apply Kd.R_alloc | apply Kd.R_drewN | apply Kd.R_drew)); exact Kd.R_mono HO_242001.out (fun _ hk => ⟨hk.1, hk.2.1⟩)⟩, ⟨by (with_reducible repeat (first | refine blk_drewN ?_ _ | refine blk_drew ?_ | refine blk_alloc ?_ _)); exact BK211.out⟩, ⟨by (with_reducible repeat (first | refine blk_drewN ?_ _ | refine blk_drew ?_ | refine blk_alloc ?_ _)); exact BK226.out⟩, ⟨by (with_reducible repeat (first | refine blk_drewN ?_ _ | refine blk_drew ?_ | refine blk_alloc ?_ _)); exact BK233.out⟩, ⟨by (with_reducible repeat (first | refine blk_drewN ?_ _ | refine blk_drew ?_ | refine blk_alloc ?_ _)); exact BK241.out⟩, ⟨by repeat (first | (with_reducible first | exact HB.out | apply below_alloc | apply pw_below_drewN | apply below_drew1 | refine below_set ?_ GE211.out | refine below_set ?_ GE226.out | refine below_set ?_ GE233.out | refine below_set ?_ GE241.out) | exact HB.out)⟩⟩
              case rest =>
                clear HC68
                try clear c1
                try clear c2
                try clear p2
                try clear c3
                try clear c4
                try clear c4b0
                try clear c4b1
                try clear c5
                try clear c6
                try clear c7
                try clear c7b0
                try clear c8
                try clear c9
                try clear c10
                try clear c26
                try clear c32
                try clear c33
                try clear c34
                try clear c36
                try clear c40
                try clear c41
                try clear c42
                try clear c45
                try clear c46
                try clear c47
                try clear c48
                try clear c49
                try clear c51
                try clear c52
                try clear c55
                try clear c56
                try clear c57
                try clear c59
                try clear c60
                try clear c63
                try clear c66
                try clear c74
                try clear c75
                try clear c76
                try clear c79
                try clear c79b0
                try clear c81
                try clear c82
                try clear c83
                try clear c84
                try clear c86
                try clear c87
                try clear c90
                try clear c91
                try clear c92
                try clear c94
                try clear c95
                try clear hcz17_0
                try clear hcz17_1
                try clear hcz19_0
                try clear hcz19_1
                try clear hcz27_0
                try clear hcz27_1
                try clear hcz29_0
                try clear hcz29_1
                try clear hcz35_0
                try clear hcz35_1
                try clear hcz43_0
                try clear hcz43_1
                try clear hcz50_0
                try clear hcz50_1
                try clear hcz53_0
                try clear hcz53_1
                try clear hcz58_0
                try clear hcz58_1
                try clear hcz61_0
                try clear hcz61_1
                try clear hcz77_0
                try clear hcz77_1
                try clear hcz85_0
                try clear hcz85_1
                try clear hcz88_0
                try clear hcz88_1
                try clear hcz93_0
                try clear hcz93_1
                try clear hcz96_0
                try clear hcz96_1
                try clear hcz9_0
                try clear hcz9_1
                try clear hfz17_0
                try clear hfz17_1
                try clear hfz19_0
                try clear hfz19_1
                try clear hfz27_0
                try clear hfz27_1
                try clear hfz29_0
                try clear hfz29_1
                try clear hfz35_0
                try clear hfz35_1
                try clear hfz43_0
                try clear hfz43_1
                try clear hfz50_0
                try clear hfz50_1
                try clear hfz53_0
                try clear hfz53_1
                try clear hfz58_0
                try clear hfz58_1
                try clear hfz61_0
                try clear hfz61_1
                try clear hfz77_0
                try clear hfz77_1
                try clear hfz85_0
                try clear hfz85_1
                try clear hfz88_0
                try clear hfz88_1
                try clear hfz93_0
                try clear hfz93_1
                try clear hfz96_0
                try clear hfz96_1
                try clear hfz9_0
                try clear hfz9_1
                try clear p2
                obtain ⟨kq, x72_67, rfl, HA, HJ67, HO_227000, HO_227001, HO_234000, HO_234001, HO_242000, HO_242001, BK211, BK226, BK233, BK241, HB⟩ := hcut
                have hl234000_67 := (Kd.R_reads' HO_234000.out).1
                rw [hl234000_67] at HO_234000
                (try simp only [hl234000_67])
                (try simp only [hl234000_67] at BK211)
                (try simp only [hl234000_67] at BK226)
                (try simp only [hl234000_67] at BK233)
                (try simp only [hl234000_67] at BK241)
                (try simp only [hl234000_67] at HO_227000)
                (try simp only [hl234000_67] at HO_227001)
                (try simp only [hl234000_67] at HO_234001)
                (try simp only [hl234000_67] at HO_242000)
                (try simp only [hl234000_67] at HO_242001)
                have hl234001_67 := (Kd.R_reads' HO_234001.out).1
                rw [hl234001_67] at HO_234001
                (try simp only [hl234001_67])
                (try simp only [hl234001_67] at BK211)
                (try simp only [hl234001_67] at BK226)
                (try simp only [hl234001_67] at BK233)
                (try simp only [hl234001_67] at BK241)
                (try simp only [hl234001_67] at HO_227000)
                (try simp only [hl234001_67] at HO_227001)
                (try simp only [hl234001_67] at HO_234000)
                (try simp only [hl234001_67] at HO_242000)
                (try simp only [hl234001_67] at HO_242001)
                cases kq with
                | zero => exact absurd HA.out (by simp [laws_FnExactBurn.j1])
                | succ kj67 =>
                  have H := HA.out
                  clear HA
                  simp only [laws_FnExactBurn.j1] at H
                  by_cases c98 : x72_67 = true
                  · subst c98
                    have H1 : (some false) = some r := by rw [if_pos rfl] at H; exact H
                    clear H
                    have H := H1
                    clear H1
                    exact absurd ((Option.some.inj H).trans hT.out) (by decide)
                  · replace c98 := Bool.eq_false_iff.mpr c98
                    subst c98
                    have H1 : ((laws_markChip.f kj67 t234 t237 1).bind fun bt254 => ((laws_heldChip.f kj67 bt254.2.1 bt254.2.2 1).bind fun t257 => (if t257 < 0 then (some false) else (if t257 = bt254.1 then ((laws_toChip.f kj67 l0_0 l0_1).bind fun bt258 => ((impl_Burn.f bt258.1 bt258.2 a1 a2).bind fun bt264 => ((laws_eqChip.f kj67 bt264.1 bt264.2.1 t219 t222).bind fun t272 => (if t272 = true then (laws_FnExactBurn.j2 kj67 bt254.1 (bt264.2.2 != t225) bt254.2.1 bt254.2.2) else (laws_FnExactBurn.j2 kj67 bt254.1 true bt254.2.1 bt254.2.2))))) else (some false))))) = some r := by rw [if_neg (show ¬ (false = true) by decide)] at H; exact H
                    clear H
                    have H := H1
                    clear H1
                    replace H := Option.bind_eq_some_iff.mp H
                    obtain ⟨⟨t254, t255, t256⟩, A990, H⟩ := H
                    replace H : ((laws_heldChip.f kj67 t255 t256 1).bind fun t257 => (if t257 < 0 then (some false) else (if t257 = t254 then ((laws_toChip.f kj67 l0_0 l0_1).bind fun bt258 => ((impl_Burn.f bt258.1 bt258.2 a1 a2).bind fun bt264 => ((laws_eqChip.f kj67 bt264.1 bt264.2.1 t219 t222).bind fun t272 => (if t272 = true then (laws_FnExactBurn.j2 kj67 t254 (bt264.2.2 != t225) t255 t256) else (laws_FnExactBurn.j2 kj67 t254 true t255 t256))))) else (some false)))) = some r := H
                    have A99 := Aside0.mk A990
                    clear A990
                    replace H := Option.bind_eq_some_iff.mp H
                    obtain ⟨t257, A1000, H⟩ := H
                    replace H : (if t257 < 0 then (some false) else (if t257 = t254 then ((laws_toChip.f kj67 l0_0 l0_1).bind fun bt258 => ((impl_Burn.f bt258.1 bt258.2 a1 a2).bind fun bt264 => ((laws_eqChip.f kj67 bt264.1 bt264.2.1 t219 t222).bind fun t272 => (if t272 = true then (laws_FnExactBurn.j2 kj67 t254 (bt264.2.2 != t225) t255 t256) else (laws_FnExactBurn.j2 kj67 t254 true t255 t256))))) else (some false))) = some r := H
                    have A100 := Aside0.mk A1000
                    clear A1000
                    by_cases c101 : t257 < 0
                    · rw [if_pos c101] at H
                      have c101b0 : decide (t257 < 0) = true := decide_eq_true c101
                      clear c101
                      exact absurd ((Option.some.inj H).trans hT.out) (by decide)
                    · rw [if_neg c101] at H
                      have c101b0 : decide (t257 < 0) = false := decide_eq_false c101
                      clear c101
                      by_cases c102 : t257 = t254
                      · rw [if_pos c102] at H
                        have c102b0 : (t257 == t254) = true := beq_iff_eq.mpr c102
                        have c102b1 : (t257 != t254) = false := bne_eq_false_iff_eq.mpr c102
                        clear c102
                        replace H := Option.bind_eq_some_iff.mp H
                        obtain ⟨⟨t258, t261⟩, A1030, H⟩ := H
                        replace H : ((impl_Burn.f t258 t261 a1 a2).bind fun bt264 => ((laws_eqChip.f kj67 bt264.1 bt264.2.1 t219 t222).bind fun t272 => (if t272 = true then (laws_FnExactBurn.j2 kj67 t254 (bt264.2.2 != t225) t255 t256) else (laws_FnExactBurn.j2 kj67 t254 true t255 t256)))) = some r := H
                        have A103 := Aside0.mk A1030
                        clear A1030
                        replace H := Option.bind_eq_some_iff.mp H
                        obtain ⟨⟨t264, t267, t270⟩, A1040, H⟩ := H
                        replace H : ((laws_eqChip.f kj67 t264 t267 t219 t222).bind fun t272 => (if t272 = true then (laws_FnExactBurn.j2 kj67 t254 (t270 != t225) t255 t256) else (laws_FnExactBurn.j2 kj67 t254 true t255 t256))) = some r := H
                        have A104 := Aside0.mk A1040
                        clear A1040
                        have HC105 := Aside0.mk H
                        clear H
                        have hnb106 := NB241_211.out
                        have hnc106 := NB211_241.out
                        have hnb107 := NB241_226.out
                        have hnc107 := NB226_241.out
                        have hnb108 := NB241_233.out
                        have hnc108 := NB233_241.out
                        have hcz109_0 : wc.cell? ⟨gb241, 0, none⟩ = some (.slice Ao39 t234.length co39) := (blk_cell BK241.out 0).trans rfl
                        have hcz109_1 : wc.cell? ⟨gb241, 1, none⟩ = some (.slice Ao44 t237.length co44) := (blk_cell BK241.out 1).trans rfl
                        have hfz109_0 := blk_frozen BK241.out 0
                        have hfz109_1 := blk_frozen BK241.out 1
                        go_upto_region 27 with (first | ((with_reducible refine gate_callee (f := 42) rfl ?_); refine goesL_ (some 75) rfl rfl Try.func42 (by kernel_rfl) rfl #[.agg #[.slice Ao39 t234.length co39, .slice Ao44 t237.length co44], .int .i64 1] rfl (by (try simp only [List.map_toArray, List.map_cons, List.map_nil]); first | done | rfl | (simp only [List.length_drop, List.length_take]; rfl)) ?_; (with_reducible refine (laws_markChip.calls kj67 (fun k_ => some k_ = (.slice Ao39 t234.length co39 : Value).ownBlock) (.slice Ao39 t234.length co39) t234 (fun k_ => some k_ = (.slice Ao44 t237.length co44 : Value).ownBlock) (.slice Ao44 t237.length co44) t237 1 t254 t255 t256 w _ ?side1 ?side2 ?side3 A99.out).mono ?_); (case side1 => repeat (first | (with_reducible first | exact HB.out | apply below_alloc | apply pw_below_drewN | apply below_drew1 | refine below_set ?_ GE211.out | refine below_set ?_ GE226.out | refine below_set ?_ GE233.out | refine below_set ?_ GE241.out) | exact HB.out)); (case side2 => exact Kd.R_tight rfl HO_242000.out); (case side3 => exact Kd.R_tight rfl HO_242001.out); rintro e w110 ⟨rfl, hy0, hy1, hb, hkp⟩; refine ⟨_, rfl, ?_⟩; have n0_ := Aside0.mk (Kd.R_mono (ok' := fun k_ => some k_ ≠ (.slice Ao32 t251.length co32 : Value).ownBlock ∧ some k_ ≠ (.slice Ao39 t234.length co39 : Value).ownBlock) (Kd.R_keptB ((Kd.R_apart' HO_227000.out (Kd.R_typed HO_242001.out) (by decide))) hkp (fun k_ hk_ hs_ => Or.elim hs_ (fun e_ => (hk_.1.2) e_) (fun e_ => (hk_.2) e_))) (fun k_ hk_ => ⟨hk_.1.1.1, hk_.1.1.2⟩)); have n1_ := Aside0.mk (Kd.R_mono (ok' := fun k_ => some k_ ≠ (.slice Ao36 t252.length co36 : Value).ownBlock ∧ some k_ ≠ (.slice Ao44 t237.length co44 : Value).ownBlock) (Kd.R_keptB ((Kd.R_apart' HO_227001.out (Kd.R_typed HO_242000.out) (by decide))) hkp (fun k_ hk_ hs_ => Or.elim hs_ (fun e_ => (hk_.2) e_) (fun e_ => (hk_.1.2) e_))) (fun k_ hk_ => ⟨hk_.1.1.1, hk_.1.1.2⟩)); have n2_ := Aside0.mk (Kd.R_mono (ok' := fun k_ => some k_ ≠ (.slice Ao25 t219.length co25 : Value).ownBlock ∧ some k_ ≠ (.slice Ao39 t234.length co39 : Value).ownBlock) (Kd.R_keptB ((Kd.R_apart' HO_234000.out (Kd.R_typed HO_242001.out) (by decide))) hkp (fun k_ hk_ hs_ => Or.elim hs_ (fun e_ => (hk_.1.2) e_) (fun e_ => (hk_.2) e_))) (fun k_ hk_ => ⟨hk_.1.1.1, hk_.1.1.2⟩)); have n3_ := Aside0.mk (Kd.R_mono (ok' := fun k_ => some k_ ≠ (.slice Ao28 t222.length co28 : Value).ownBlock ∧ some k_ ≠ (.slice Ao44 t237.length co44 : Value).ownBlock) (Kd.R_keptB ((Kd.R_apart' HO_234001.out (Kd.R_typed HO_242000.out) (by decide))) hkp (fun k_ hk_ hs_ => Or.elim hs_ (fun e_ => (hk_.2) e_) (fun e_ => (hk_.1.2) e_))) (fun k_ hk_ => ⟨hk_.1.1.1, hk_.1.1.2⟩)); have n4_ := Aside0.mk (Kd.R_reok rfl hy0 (fun k_ e_ => HO_242000.out.1 k_ e_)); have n5_ := Aside0.mk (Kd.R_reok rfl hy1 (fun k_ e_ => HO_242001.out.1 k_ e_)); have n6_ := Aside0.mk (blk_kept (by (with_reducible repeat (first | refine blk_drewN ?_ _ | refine blk_drew ?_ | refine blk_alloc ?_ _)); exact BK211.out) hkp (fun hs_ => Or.elim hs_ (fun e_ => (fun e_ => (Kd.R_ne HO_242000.out BK211.out (by decide)) e_) e_) (fun e_ => (fun e_ => (Kd.R_ne HO_242001.out BK211.out (by decide)) e_) e_))); have n7_ := Aside0.mk (blk_kept (by (with_reducible repeat (first | refine blk_drewN ?_ _ | refine blk_drew ?_ | refine blk_alloc ?_ _)); exact BK226.out) hkp (fun hs_ => Or.elim hs_ (fun e_ => (fun e_ => (Kd.R_ne HO_242000.out BK226.out (by decide)) e_) e_) (fun e_ => (fun e_ => (Kd.R_ne HO_242001.out BK226.out (by decide)) e_) e_))); have n8_ := Aside0.mk (blk_kept (by (with_reducible repeat (first | refine blk_drewN ?_ _ | refine blk_drew ?_ | refine blk_alloc ?_ _)); exact BK233.out) hkp (fun hs_ => Or.elim hs_ (fun e_ => (fun e_ => (Kd.R_ne HO_242000.out BK233.out (by decide)) e_) e_) (fun e_ => (fun e_ => (Kd.R_ne HO_242001.out BK233.out (by decide)) e_) e_))); have n9_ := Aside0.mk (blk_kept (by (with_reducible repeat (first | refine blk_drewN ?_ _ | refine blk_drew ?_ | refine blk_alloc ?_ _)); exact BK241.out) hkp (fun hs_ => Or.elim hs_ (fun e_ => (fun e_ => (Kd.R_ne HO_242000.out BK241.out (by decide)) e_) e_) (fun e_ => (fun e_ => (Kd.R_ne HO_242001.out BK241.out (by decide)) e_) e_))); have n10_ := Aside0.mk (hb); clear HO_227000; clear HO_227001; clear HO_234000; clear HO_234001; clear HO_242000; clear HO_242001; clear BK211; clear BK226; clear BK233; clear BK241; clear HB; have HO_227000 := n0_; have HO_227001 := n1_; have HO_234000 := n2_; have HO_234001 := n3_; have HO_242000 := n4_; have HO_242001 := n5_; have BK211 := n6_; have BK226 := n7_; have BK233 := n8_; have BK241 := n9_; have HB := n10_; clear n0_ n1_ n2_ n3_ n4_ n5_ n6_ n7_ n8_ n9_ n10_; (try clear hb); (try clear hkp); (try clear hy0); (try clear hy1); have hcz111_0 : w110.cell? ⟨gb241, 0, none⟩ = some (.slice Ao39 t234.length co39) := (blk_cell BK241.out 0).trans rfl; have hcz111_1 : w110.cell? ⟨gb241, 1, none⟩ = some (.slice Ao44 t237.length co44) := (blk_cell BK241.out 1).trans rfl; have hfz111_0 := blk_frozen BK241.out 0; have hfz111_1 := blk_frozen BK241.out 1) | ((with_reducible refine gate_callee (f := 47) rfl ?_); refine goesL_ (some 78) rfl rfl Try.func47 (by kernel_rfl) rfl #[.agg #[.slice Ao39 t255.length co39, .slice Ao44 t256.length co44], .int .i64 1] rfl (by (try simp only [List.map_toArray, List.map_cons, List.map_nil]); first | done | (rw [show t255.length = t234.length from (Kd.R_reads' HO_242000.out).1.symm, show t256.length = t237.length from (Kd.R_reads' HO_242001.out).1.symm] <;> rfl) | rfl | (simp only [List.length_drop, List.length_take]; rfl)) ?_; (with_reducible refine (laws_heldChip.calls kj67 _ _ t255 _ _ t256 1 t257 _ ?side1 ?side2 ?side3 ?side4 A100.out).mono ?_); (case side1 => repeat (first | exact (Kd.R_reads' HO_242000.out).2.2 | (with_reducible refine Kd.C_alloc ?_ _) | (with_reducible refine Kd.C_drewN ?_ _) | (with_reducible refine Kd.C_drew ?_))); (case side2 => rw [show t255.length = t234.length from (Kd.R_reads' HO_242000.out).1.symm]; exact (Kd.R_reads' HO_242000.out).2.1); (case side3 => repeat (first | exact (Kd.R_reads' HO_242001.out).2.2 | (with_reducible refine Kd.C_alloc ?_ _) | (with_reducible refine Kd.C_drewN ?_ _) | (with_reducible refine Kd.C_drew ?_))); (case side4 => rw [show t256.length = t237.length from (Kd.R_reads' HO_242001.out).1.symm]; exact (Kd.R_reads' HO_242001.out).2.1); rintro e w112 ⟨rfl, hb⟩; refine ⟨_, rfl, ?_⟩; have n0_ := Aside0.mk (Kd.R_below (by (with_reducible repeat (first | apply Kd.R_alloc | apply Kd.R_drewN | apply Kd.R_drew)); exact HO_227000.out) hb); have n1_ := Aside0.mk (Kd.R_below (by (with_reducible repeat (first | apply Kd.R_alloc | apply Kd.R_drewN | apply Kd.R_drew)); exact HO_227001.out) hb); have n2_ := Aside0.mk (Kd.R_below (by (with_reducible repeat (first | apply Kd.R_alloc | apply Kd.R_drewN | apply Kd.R_drew)); exact HO_234000.out) hb); have n3_ := Aside0.mk (Kd.R_below (by (with_reducible repeat (first | apply Kd.R_alloc | apply Kd.R_drewN | apply Kd.R_drew)); exact HO_234001.out) hb); have n4_ := Aside0.mk (Kd.R_below (by (with_reducible repeat (first | apply Kd.R_alloc | apply Kd.R_drewN | apply Kd.R_drew)); exact HO_242000.out) hb); have n5_ := Aside0.mk (Kd.R_below (by (with_reducible repeat (first | apply Kd.R_alloc | apply Kd.R_drewN | apply Kd.R_drew)); exact HO_242001.out) hb); have n6_ := Aside0.mk (blk_below (g := gb211) (o := .cells #[.slice A0_0 l0_0.length c0_0, .slice A0_1 l0_1.length c0_1] 46 (0, 0)) (by (with_reducible repeat (first | refine blk_drewN ?_ _ | refine blk_drew ?_ | refine blk_alloc ?_ _)); exact BK211.out) hb); have n7_ := Aside0.mk (blk_below (g := gb226) (o := .cells #[.slice Ao25 t219.length co25, .slice Ao28 t222.length co28] 49 (0, 0)) (by (with_reducible repeat (first | refine blk_drewN ?_ _ | refine blk_drew ?_ | refine blk_alloc ?_ _)); exact BK226.out) hb); have n8_ := Aside0.mk (blk_below (g := gb233) (o := .cells #[.slice Ao32 t251.length co32, .slice Ao36 t252.length co36] 49 (0, 0)) (by (with_reducible repeat (first | refine blk_drewN ?_ _ | refine blk_drew ?_ | refine blk_alloc ?_ _)); exact BK233.out) hb); have n9_ := Aside0.mk (blk_below (g := gb241) (o := .cells #[.slice Ao39 t234.length co39, .slice Ao44 t237.length co44] 49 (0, 0)) (by (with_reducible repeat (first | refine blk_drewN ?_ _ | refine blk_drew ?_ | refine blk_alloc ?_ _)); exact BK241.out) hb); have n10_ := Aside0.mk (below_step (by repeat (first | (with_reducible first | exact HB.out | apply below_alloc | apply pw_below_drewN | apply below_drew1 | refine below_set ?_ GE211.out | refine below_set ?_ GE226.out | refine below_set ?_ GE233.out | refine below_set ?_ GE241.out) | exact HB.out)) hb); clear HO_227000; clear HO_227001; clear HO_234000; clear HO_234001; clear HO_242000; clear HO_242001; clear BK211; clear BK226; clear BK233; clear BK241; clear HB; have HO_227000 := n0_; have HO_227001 := n1_; have HO_234000 := n2_; have HO_234001 := n3_; have HO_242000 := n4_; have HO_242001 := n5_; have BK211 := n6_; have BK226 := n7_; have BK233 := n8_; have BK241 := n9_; have HB := n10_; clear n0_ n1_ n2_ n3_ n4_ n5_ n6_ n7_ n8_ n9_ n10_; (try clear hb); (try clear hb2); (try clear hk); (try clear hi); have hnb113 := NB211_226.out; have hnc113 := NB226_211.out; have hnb114 := NB211_233.out; have hnc114 := NB233_211.out; have hcz115_0 : w112.cell? ⟨gb211, 0, none⟩ = some (.slice A0_0 l0_0.length c0_0) := (blk_cell BK211.out 0).trans rfl; have hcz115_1 : w112.cell? ⟨gb211, 1, none⟩ = some (.slice A0_1 l0_1.length c0_1) := (blk_cell BK211.out 1).trans rfl; have hfz115_0 := blk_frozen BK211.out 0; have hfz115_1 := blk_frozen BK211.out 1) | ((with_reducible refine gate_callee (f := 34) rfl ?_); refine goesL_ (some 86) rfl rfl Try.func34 (by kernel_rfl) rfl #[.agg #[.slice A0_0 l0_0.length c0_0, .slice A0_1 l0_1.length c0_1]] rfl (by (try simp only [List.map_toArray, List.map_cons, List.map_nil]); first | done | rfl | (simp only [List.length_drop, List.length_take]; rfl)) ?_; (with_reducible refine (laws_toChip.calls kj67 _ _ l0_0 _ _ l0_1 t258 t261 _ ?side1 ?side2 ?side3 ?side4 A103.out).mono ?_); (case side1 => repeat (first | exact (Kd.C_below HR0_0.out HB.out) | (with_reducible refine Kd.C_alloc ?_ _) | (with_reducible refine Kd.C_drewN ?_ _) | (with_reducible refine Kd.C_drew ?_))); (case side2 => exact HC0_0.out); (case side3 => repeat (first | exact (Kd.C_below HR0_1.out HB.out) | (with_reducible refine Kd.C_alloc ?_ _) | (with_reducible refine Kd.C_drewN ?_ _) | (with_reducible refine Kd.C_drew ?_))); (case side4 => exact HC0_1.out); rintro e w116 ⟨v259, v262, rfl, ho0, ho1, hb⟩; refine ⟨_, rfl, ?_⟩; have n0_ := Aside0.mk (Kd.R_elder' (by (with_reducible repeat (first | apply Kd.R_alloc | apply Kd.R_drewN | apply Kd.R_drew)); exact HO_227000.out) (Kd.R_base ho0) hb); have n1_ := Aside0.mk (Kd.R_elder' (by (with_reducible repeat (first | apply Kd.R_alloc | apply Kd.R_drewN | apply Kd.R_drew)); exact HO_227001.out) (Kd.R_base ho1) hb); have n2_ := Aside0.mk (Kd.R_elder' (by (with_reducible repeat (first | apply Kd.R_alloc | apply Kd.R_drewN | apply Kd.R_drew)); exact HO_234000.out) (Kd.R_base ho0) hb); have n3_ := Aside0.mk (Kd.R_elder' (by (with_reducible repeat (first | apply Kd.R_alloc | apply Kd.R_drewN | apply Kd.R_drew)); exact HO_234001.out) (Kd.R_base ho1) hb); have n4_ := Aside0.mk (Kd.R_elder' (by (with_reducible repeat (first | apply Kd.R_alloc | apply Kd.R_drewN | apply Kd.R_drew)); exact HO_242000.out) (Kd.R_base ho0) hb); have n5_ := Aside0.mk (Kd.R_elder' (by (with_reducible repeat (first | apply Kd.R_alloc | apply Kd.R_drewN | apply Kd.R_drew)); exact HO_242001.out) (Kd.R_base ho1) hb); have n6_ := Aside0.mk (Kd.R_lower (Kd.R_new' (Kd.R_new' (Kd.R_new' ho0 (Kd.R_lt (by (with_reducible repeat (first | apply Kd.R_alloc | apply Kd.R_drewN | apply Kd.R_drew)); exact HO_227000.out))) (Kd.R_lt (by (with_reducible repeat (first | apply Kd.R_alloc | apply Kd.R_drewN | apply Kd.R_drew)); exact HO_234000.out))) (Kd.R_lt (by (with_reducible repeat (first | apply Kd.R_alloc | apply Kd.R_drewN | apply Kd.R_drew)); exact HO_242000.out))) (below_size (by repeat (first | (with_reducible first | exact HB.out | apply below_alloc | apply pw_below_drewN | apply below_drew1 | refine below_set ?_ GE211.out | refine below_set ?_ GE226.out | refine below_set ?_ GE233.out | refine below_set ?_ GE241.out) | exact HB.out)))); have n7_ := Aside0.mk (Kd.R_lower (Kd.R_new' (Kd.R_new' (Kd.R_new' ho1 (Kd.R_lt (by (with_reducible repeat (first | apply Kd.R_alloc | apply Kd.R_drewN | apply Kd.R_drew)); exact HO_227001.out))) (Kd.R_lt (by (with_reducible repeat (first | apply Kd.R_alloc | apply Kd.R_drewN | apply Kd.R_drew)); exact HO_234001.out))) (Kd.R_lt (by (with_reducible repeat (first | apply Kd.R_alloc | apply Kd.R_drewN | apply Kd.R_drew)); exact HO_242001.out))) (below_size (by repeat (first | (with_reducible first | exact HB.out | apply below_alloc | apply pw_below_drewN | apply below_drew1 | refine below_set ?_ GE211.out | refine below_set ?_ GE226.out | refine below_set ?_ GE233.out | refine below_set ?_ GE241.out) | exact HB.out)))); have n8_ := Aside0.mk (blk_below (g := gb211) (o := .cells #[.slice A0_0 l0_0.length c0_0, .slice A0_1 l0_1.length c0_1] 46 (0, 0)) (by (with_reducible repeat (first | refine blk_drewN ?_ _ | refine blk_drew ?_ | refine blk_alloc ?_ _)); exact BK211.out) hb); have n9_ := Aside0.mk (blk_below (g := gb226) (o := .cells #[.slice Ao25 t219.length co25, .slice Ao28 t222.length co28] 49 (0, 0)) (by (with_reducible repeat (first | refine blk_drewN ?_ _ | refine blk_drew ?_ | refine blk_alloc ?_ _)); exact BK226.out) hb); have n10_ := Aside0.mk (blk_below (g := gb233) (o := .cells #[.slice Ao32 t251.length co32, .slice Ao36 t252.length co36] 49 (0, 0)) (by (with_reducible repeat (first | refine blk_drewN ?_ _ | refine blk_drew ?_ | refine blk_alloc ?_ _)); exact BK233.out) hb); have n11_ := Aside0.mk (blk_below (g := gb241) (o := .cells #[.slice Ao39 t234.length co39, .slice Ao44 t237.length co44] 49 (0, 0)) (by (with_reducible repeat (first | refine blk_drewN ?_ _ | refine blk_drew ?_ | refine blk_alloc ?_ _)); exact BK241.out) hb); have n12_ := Aside0.mk (below_step (by repeat (first | (with_reducible first | exact HB.out | apply below_alloc | apply pw_below_drewN | apply below_drew1 | refine below_set ?_ GE211.out | refine below_set ?_ GE226.out | refine below_set ?_ GE233.out | refine below_set ?_ GE241.out) | exact HB.out)) hb); clear HO_227000; clear HO_227001; clear HO_234000; clear HO_234001; clear HO_242000; clear HO_242001; clear BK211; clear BK226; clear BK233; clear BK241; clear HB; have HO_227000 := n0_; have HO_227001 := n1_; have HO_234000 := n2_; have HO_234001 := n3_; have HO_242000 := n4_; have HO_242001 := n5_; have HO260 := n6_; have HO263 := n7_; have BK211 := n8_; have BK226 := n9_; have BK233 := n10_; have BK241 := n11_; have HB := n12_; clear n0_ n1_ n2_ n3_ n4_ n5_ n6_ n7_ n8_ n9_ n10_ n11_ n12_; (try clear hb); (try clear hb2); (try clear hk); (try clear hi); (try clear ho0); (try clear ho1); obtain ⟨Ao117, co117, eo117⟩ := Kd.R_slice HO260.out; subst eo117; obtain ⟨Ao118, co118, eo118⟩ := Kd.R_slice HO263.out; subst eo118) | ((with_reducible refine gate_callee (f := 46) rfl ?_); refine goesL_ (some 89) rfl rfl Try.func46 (by kernel_rfl) rfl #[.agg #[.slice Ao117 t258.length co117, .slice Ao118 t261.length co118], .int .i64 a1, .string a2] rfl (by (try simp only [List.map_toArray, List.map_cons, List.map_nil]); first | done | rfl | (simp only [List.length_drop, List.length_take]; rfl)) ?_; (with_reducible refine (impl_Burn.calls _ _ t258 _ _ t261 a1 a2 t264 t267 t270 _ ?side1 ?side2 ?side3 ?side4 A104.out).mono ?_); (case side1 => repeat (first | exact (Kd.R_reads' HO260.out).2.2 | (with_reducible refine Kd.C_alloc ?_ _) | (with_reducible refine Kd.C_drewN ?_ _) | (with_reducible refine Kd.C_drew ?_))); (case side2 => exact (Kd.R_reads' HO260.out).2.1); (case side3 => repeat (first | exact (Kd.R_reads' HO263.out).2.2 | (with_reducible refine Kd.C_alloc ?_ _) | (with_reducible refine Kd.C_drewN ?_ _) | (with_reducible refine Kd.C_drew ?_))); (case side4 => exact (Kd.R_reads' HO263.out).2.1); rintro e w119 ⟨v265, v268, rfl, ho0, ho1, hb⟩; refine ⟨_, rfl, ?_⟩; have n0_ := Aside0.mk (Kd.R_elder' (by (with_reducible repeat (first | apply Kd.R_alloc | apply Kd.R_drewN | apply Kd.R_drew)); exact HO_227000.out) (Kd.R_base ho0) hb); have n1_ := Aside0.mk (Kd.R_elder' (by (with_reducible repeat (first | apply Kd.R_alloc | apply Kd.R_drewN | apply Kd.R_drew)); exact HO_227001.out) (Kd.R_base ho1) hb); have n2_ := Aside0.mk (Kd.R_elder' (by (with_reducible repeat (first | apply Kd.R_alloc | apply Kd.R_drewN | apply Kd.R_drew)); exact HO_234000.out) (Kd.R_base ho0) hb); have n3_ := Aside0.mk (Kd.R_elder' (by (with_reducible repeat (first | apply Kd.R_alloc | apply Kd.R_drewN | apply Kd.R_drew)); exact HO_234001.out) (Kd.R_base ho1) hb); have n4_ := Aside0.mk (Kd.R_elder' (by (with_reducible repeat (first | apply Kd.R_alloc | apply Kd.R_drewN | apply Kd.R_drew)); exact HO_242000.out) (Kd.R_base ho0) hb); have n5_ := Aside0.mk (Kd.R_elder' (by (with_reducible repeat (first | apply Kd.R_alloc | apply Kd.R_drewN | apply Kd.R_drew)); exact HO_242001.out) (Kd.R_base ho1) hb); have n6_ := Aside0.mk (Kd.R_elder' (by (with_reducible repeat (first | apply Kd.R_alloc | apply Kd.R_drewN | apply Kd.R_drew)); exact HO260.out) (Kd.R_base ho0) hb); have n7_ := Aside0.mk (Kd.R_elder' (by (with_reducible repeat (first | apply Kd.R_alloc | apply Kd.R_drewN | apply Kd.R_drew)); exact HO263.out) (Kd.R_base ho1) hb); have n8_ := Aside0.mk (Kd.R_lower (Kd.R_new' (Kd.R_new' (Kd.R_new' (Kd.R_new' ho0 (Kd.R_lt (by (with_reducible repeat (first | apply Kd.R_alloc | apply Kd.R_drewN | apply Kd.R_drew)); exact HO_227000.out))) (Kd.R_lt (by (with_reducible repeat (first | apply Kd.R_alloc | apply Kd.R_drewN | apply Kd.R_drew)); exact HO_234000.out))) (Kd.R_lt (by (with_reducible repeat (first | apply Kd.R_alloc | apply Kd.R_drewN | apply Kd.R_drew)); exact HO_242000.out))) (Kd.R_lt (by (with_reducible repeat (first | apply Kd.R_alloc | apply Kd.R_drewN | apply Kd.R_drew)); exact HO260.out))) (below_size (by repeat (first | (with_reducible first | exact HB.out | apply below_alloc | apply pw_below_drewN | apply below_drew1 | refine below_set ?_ GE211.out | refine below_set ?_ GE226.out | refine below_set ?_ GE233.out | refine below_set ?_ GE241.out) | exact HB.out)))); have n9_ := Aside0.mk (Kd.R_lower (Kd.R_new' (Kd.R_new' (Kd.R_new' (Kd.R_new' ho1 (Kd.R_lt (by (with_reducible repeat (first | apply Kd.R_alloc | apply Kd.R_drewN | apply Kd.R_drew)); exact HO_227001.out))) (Kd.R_lt (by (with_reducible repeat (first | apply Kd.R_alloc | apply Kd.R_drewN | apply Kd.R_drew)); exact HO_234001.out))) (Kd.R_lt (by (with_reducible repeat (first | apply Kd.R_alloc | apply Kd.R_drewN | apply Kd.R_drew)); exact HO_242001.out))) (Kd.R_lt (by (with_reducible repeat (first | apply Kd.R_alloc | apply Kd.R_drewN | apply Kd.R_drew)); exact HO263.out))) (below_size (by repeat (first | (with_reducible first | exact HB.out | apply below_alloc | apply pw_below_drewN | apply below_drew1 | refine below_set ?_ GE211.out | refine below_set ?_ GE226.out | refine below_set ?_ GE233.out | refine below_set ?_ GE241.out) | exact HB.out)))); have n10_ := Aside0.mk (blk_below (g := gb211) (o := .cells #[.slice A0_0 l0_0.length c0_0, .slice A0_1 l0_1.length c0_1] 46 (0, 0)) (by (with_reducible repeat (first | refine blk_drewN ?_ _ | refine blk_drew ?_ | refine blk_alloc ?_ _)); exact BK211.out) hb); have n11_ := Aside0.mk (blk_below (g := gb226) (o := .cells #[.slice Ao25 t219.length co25, .slice Ao28 t222.length co28] 49 (0, 0)) (by (with_reducible repeat (first | refine blk_drewN ?_ _ | refine blk_drew ?_ | refine blk_alloc ?_ _)); exact BK226.out) hb); have n12_ := Aside0.mk (blk_below (g := gb233) (o := .cells #[.slice Ao32 t251.length co32, .slice Ao36 t252.length co36] 49 (0, 0)) (by (with_reducible repeat (first | refine blk_drewN ?_ _ | refine blk_drew ?_ | refine blk_alloc ?_ _)); exact BK233.out) hb); have n13_ := Aside0.mk (blk_below (g := gb241) (o := .cells #[.slice Ao39 t234.length co39, .slice Ao44 t237.length co44] 49 (0, 0)) (by (with_reducible repeat (first | refine blk_drewN ?_ _ | refine blk_drew ?_ | refine blk_alloc ?_ _)); exact BK241.out) hb); have n14_ := Aside0.mk (below_step (by repeat (first | (with_reducible first | exact HB.out | apply below_alloc | apply pw_below_drewN | apply below_drew1 | refine below_set ?_ GE211.out | refine below_set ?_ GE226.out | refine below_set ?_ GE233.out | refine below_set ?_ GE241.out) | exact HB.out)) hb); clear HO_227000; clear HO_227001; clear HO_234000; clear HO_234001; clear HO_242000; clear HO_242001; clear HO260; clear HO263; clear BK211; clear BK226; clear BK233; clear BK241; clear HB; have HO_227000 := n0_; have HO_227001 := n1_; have HO_234000 := n2_; have HO_234001 := n3_; have HO_242000 := n4_; have HO_242001 := n5_; have HO260 := n6_; have HO263 := n7_; have HO266 := n8_; have HO269 := n9_; have BK211 := n10_; have BK226 := n11_; have BK233 := n12_; have BK241 := n13_; have HB := n14_; clear n0_ n1_ n2_ n3_ n4_ n5_ n6_ n7_ n8_ n9_ n10_ n11_ n12_ n13_ n14_; (try clear hb); (try clear hb2); (try clear hk); (try clear hi); (try clear ho0); (try clear ho1)) | ((with_reducible refine gate_dst (N := 16) rfl ?_); refine box_event ?hg (N := 16) ?hd (cs := #[.slice none 0 0, .slice none 0 0]) (t := 49) ?hr ?_; (case hd => rfl); (case hg => rfl); (case hr => first | (go_simp; done) | (go_simp; rfl)); intro gb271 hg w120 hbox hb; have n0_ := Aside0.mk (Kd.R_below (by (with_reducible repeat (first | apply Kd.R_alloc | apply Kd.R_drewN | apply Kd.R_drew)); exact HO_227000.out) hb); have n1_ := Aside0.mk (Kd.R_below (by (with_reducible repeat (first | apply Kd.R_alloc | apply Kd.R_drewN | apply Kd.R_drew)); exact HO_227001.out) hb); have n2_ := Aside0.mk (Kd.R_below (by (with_reducible repeat (first | apply Kd.R_alloc | apply Kd.R_drewN | apply Kd.R_drew)); exact HO_234000.out) hb); have n3_ := Aside0.mk (Kd.R_below (by (with_reducible repeat (first | apply Kd.R_alloc | apply Kd.R_drewN | apply Kd.R_drew)); exact HO_234001.out) hb); have n4_ := Aside0.mk (Kd.R_below (by (with_reducible repeat (first | apply Kd.R_alloc | apply Kd.R_drewN | apply Kd.R_drew)); exact HO_242000.out) hb); have n5_ := Aside0.mk (Kd.R_below (by (with_reducible repeat (first | apply Kd.R_alloc | apply Kd.R_drewN | apply Kd.R_drew)); exact HO_242001.out) hb); have n6_ := Aside0.mk (Kd.R_below (by (with_reducible repeat (first | apply Kd.R_alloc | apply Kd.R_drewN | apply Kd.R_drew)); exact HO260.out) hb); have n7_ := Aside0.mk (Kd.R_below (by (with_reducible repeat (first | apply Kd.R_alloc | apply Kd.R_drewN | apply Kd.R_drew)); exact HO263.out) hb); have n8_ := Aside0.mk (Kd.R_below (by (with_reducible repeat (first | apply Kd.R_alloc | apply Kd.R_drewN | apply Kd.R_drew)); exact HO266.out) hb); have n9_ := Aside0.mk (Kd.R_below (by (with_reducible repeat (first | apply Kd.R_alloc | apply Kd.R_drewN | apply Kd.R_drew)); exact HO269.out) hb); have n10_ := Aside0.mk (blk_below (g := gb211) (o := .cells #[.slice A0_0 l0_0.length c0_0, .slice A0_1 l0_1.length c0_1] 46 (0, 0)) (by (with_reducible repeat (first | refine blk_drewN ?_ _ | refine blk_drew ?_ | refine blk_alloc ?_ _)); exact BK211.out) hb); have n11_ := Aside0.mk (blk_below (g := gb226) (o := .cells #[.slice Ao25 t219.length co25, .slice Ao28 t222.length co28] 49 (0, 0)) (by (with_reducible repeat (first | refine blk_drewN ?_ _ | refine blk_drew ?_ | refine blk_alloc ?_ _)); exact BK226.out) hb); have n12_ := Aside0.mk (blk_below (g := gb233) (o := .cells #[.slice Ao32 t251.length co32, .slice Ao36 t252.length co36] 49 (0, 0)) (by (with_reducible repeat (first | refine blk_drewN ?_ _ | refine blk_drew ?_ | refine blk_alloc ?_ _)); exact BK233.out) hb); have n13_ := Aside0.mk (blk_below (g := gb241) (o := .cells #[.slice Ao39 t234.length co39, .slice Ao44 t237.length co44] 49 (0, 0)) (by (with_reducible repeat (first | refine blk_drewN ?_ _ | refine blk_drew ?_ | refine blk_alloc ?_ _)); exact BK241.out) hb); have n14_ := Aside0.mk (below_step (by repeat (first | (with_reducible first | exact HB.out | apply below_alloc | apply pw_below_drewN | apply below_drew1 | refine below_set ?_ GE211.out | refine below_set ?_ GE226.out | refine below_set ?_ GE233.out | refine below_set ?_ GE241.out) | exact HB.out)) hb); have n15_ := Aside0.mk (hbox); have n16_ := Aside0.mk ((by rw [hg]; exact (below_size (by repeat (first | (with_reducible first | exact HB.out | apply below_alloc | apply pw_below_drewN | apply below_drew1 | refine below_set ?_ GE211.out | refine below_set ?_ GE226.out | refine below_set ?_ GE233.out | refine below_set ?_ GE241.out) | exact HB.out))) : w.heap.size ≤ gb271)); have n17_ := Aside0.mk ((by rw [hg]; exact (below_size (by repeat (first | (with_reducible first | exact HB.out | apply below_alloc | apply pw_below_drewN | apply below_drew1 | refine below_set ?_ GE211.out | refine below_set ?_ GE226.out | refine below_set ?_ GE233.out | refine below_set ?_ GE241.out) | exact HB.out))) : w.heap.size ≤ gb271)); have n18_ := Aside0.mk ((by rw [hg]; exact Nat.ne_of_lt (blk_lt (g := gb211) (o := .cells #[.slice A0_0 l0_0.length c0_0, .slice A0_1 l0_1.length c0_1] 46 (0, 0)) (by (with_reducible repeat (first | refine blk_drewN ?_ _ | refine blk_drew ?_ | refine blk_alloc ?_ _)); exact BK211.out)) : gb211 ≠ gb271)); have n19_ := Aside0.mk ((by rw [hg]; exact Nat.ne_of_gt (blk_lt (g := gb211) (o := .cells #[.slice A0_0 l0_0.length c0_0, .slice A0_1 l0_1.length c0_1] 46 (0, 0)) (by (with_reducible repeat (first | refine blk_drewN ?_ _ | refine blk_drew ?_ | refine blk_alloc ?_ _)); exact BK211.out)) : gb271 ≠ gb211)); have n20_ := Aside0.mk ((by rw [hg]; exact Nat.ne_of_lt (blk_lt (g := gb226) (o := .cells #[.slice Ao25 t219.length co25, .slice Ao28 t222.length co28] 49 (0, 0)) (by (with_reducible repeat (first | refine blk_drewN ?_ _ | refine blk_drew ?_ | refine blk_alloc ?_ _)); exact BK226.out)) : gb226 ≠ gb271)); have n21_ := Aside0.mk ((by rw [hg]; exact Nat.ne_of_gt (blk_lt (g := gb226) (o := .cells #[.slice Ao25 t219.length co25, .slice Ao28 t222.length co28] 49 (0, 0)) (by (with_reducible repeat (first | refine blk_drewN ?_ _ | refine blk_drew ?_ | refine blk_alloc ?_ _)); exact BK226.out)) : gb271 ≠ gb226)); have n22_ := Aside0.mk ((by rw [hg]; exact Nat.ne_of_lt (blk_lt (g := gb233) (o := .cells #[.slice Ao32 t251.length co32, .slice Ao36 t252.length co36] 49 (0, 0)) (by (with_reducible repeat (first | refine blk_drewN ?_ _ | refine blk_drew ?_ | refine blk_alloc ?_ _)); exact BK233.out)) : gb233 ≠ gb271)); have n23_ := Aside0.mk ((by rw [hg]; exact Nat.ne_of_gt (blk_lt (g := gb233) (o := .cells #[.slice Ao32 t251.length co32, .slice Ao36 t252.length co36] 49 (0, 0)) (by (with_reducible repeat (first | refine blk_drewN ?_ _ | refine blk_drew ?_ | refine blk_alloc ?_ _)); exact BK233.out)) : gb271 ≠ gb233)); have n24_ := Aside0.mk ((by rw [hg]; exact Nat.ne_of_lt (blk_lt (g := gb241) (o := .cells #[.slice Ao39 t234.length co39, .slice Ao44 t237.length co44] 49 (0, 0)) (by (with_reducible repeat (first | refine blk_drewN ?_ _ | refine blk_drew ?_ | refine blk_alloc ?_ _)); exact BK241.out)) : gb241 ≠ gb271)); have n25_ := Aside0.mk ((by rw [hg]; exact Nat.ne_of_gt (blk_lt (g := gb241) (o := .cells #[.slice Ao39 t234.length co39, .slice Ao44 t237.length co44] 49 (0, 0)) (by (with_reducible repeat (first | refine blk_drewN ?_ _ | refine blk_drew ?_ | refine blk_alloc ?_ _)); exact BK241.out)) : gb271 ≠ gb241)); clear HO_227000; clear HO_227001; clear HO_234000; clear HO_234001; clear HO_242000; clear HO_242001; clear HO260; clear HO263; clear HO266; clear HO269; clear BK211; clear BK226; clear BK233; clear BK241; clear HB; have HO_227000 := n0_; have HO_227001 := n1_; have HO_234000 := n2_; have HO_234001 := n3_; have HO_242000 := n4_; have HO_242001 := n5_; have HO260 := n6_; have HO263 := n7_; have HO266 := n8_; have HO269 := n9_; have BK211 := n10_; have BK226 := n11_; have BK233 := n12_; have BK241 := n13_; have HB := n14_; have BK271 := n15_; have GW271 := n16_; have GE271 := n17_; have NB211_271 := n18_; have NB271_211 := n19_; have NB226_271 := n20_; have NB271_226 := n21_; have NB233_271 := n22_; have NB271_233 := n23_; have NB241_271 := n24_; have NB271_241 := n25_; clear n0_ n1_ n2_ n3_ n4_ n5_ n6_ n7_ n8_ n9_ n10_ n11_ n12_ n13_ n14_ n15_ n16_ n17_ n18_ n19_ n20_ n21_ n22_ n23_ n24_ n25_; clear hb hbox hg; obtain ⟨Ao121, co121, eo121⟩ := Kd.R_slice HO266.out; subst eo121; have hnb122 := NB271_211.out; have hnc122 := NB211_271.out; have hnb123 := NB271_226.out; have hnc123 := NB226_271.out; have hnb124 := NB271_233.out; have hnc124 := NB233_271.out; have hnb125 := NB271_241.out; have hnc125 := NB241_271.out; have hcz126_0 : w120.cell? ⟨gb271, 0, none⟩ = some (.slice none 0 0) := (blk_cell BK271.out 0).trans rfl; have hcz126_1 : w120.cell? ⟨gb271, 1, none⟩ = some (.slice none 0 0) := (blk_cell BK271.out 1).trans rfl; have hfz126_0 := blk_frozen BK271.out 0; have hfz126_1 := blk_frozen BK271.out 1; obtain ⟨Ao127, co127, eo127⟩ := Kd.R_slice HO269.out; subst eo127))
                        (try simp only [Act.put, List.setIfInBounds_toArray, List.set_cons_zero, List.set_cons_succ])
                        go_cut [100] (fun v100 wc => ∃ (kq : Nat) (x100_104 : Bool), v100 = .bool x100_104 ∧ Aside0 (laws_FnExactBurn.j2 kq t254 x100_104 t255 t256 = some r) ∧ Aside0 (kq ≤ kj67) ∧ Aside0 (Kd.R Kd.string 9 wc w.heap.size (fun k_ => some k_ ≠ ((.slice Ao32 t251.length co32) : Value).ownBlock ∧ some k_ ≠ ((.slice Ao39 t234.length co39) : Value).ownBlock ∧ some k_ ≠ ((.slice Ao121 t264.length co121) : Value).ownBlock) (.slice Ao25 t219.length co25) t219) ∧ Aside0 (Kd.R (Kd.int .i64) 3 wc w.heap.size (fun k_ => some k_ ≠ ((.slice Ao36 t252.length co36) : Value).ownBlock ∧ some k_ ≠ ((.slice Ao44 t237.length co44) : Value).ownBlock ∧ some k_ ≠ ((.slice Ao127 t267.length co127) : Value).ownBlock) (.slice Ao28 t222.length co28) t222) ∧ Aside0 (Kd.R Kd.string 9 wc w.heap.size (fun k_ => some k_ ≠ ((.slice Ao25 t219.length co25) : Value).ownBlock ∧ some k_ ≠ ((.slice Ao39 t234.length co39) : Value).ownBlock ∧ some k_ ≠ ((.slice Ao121 t264.length co121) : Value).ownBlock) (.slice Ao32 t251.length co32) t251) ∧ Aside0 (Kd.R (Kd.int .i64) 3 wc w.heap.size (fun k_ => some k_ ≠ ((.slice Ao28 t222.length co28) : Value).ownBlock ∧ some k_ ≠ ((.slice Ao44 t237.length co44) : Value).ownBlock ∧ some k_ ≠ ((.slice Ao127 t267.length co127) : Value).ownBlock) (.slice Ao36 t252.length co36) t252) ∧ Aside0 (Kd.R Kd.string 9 wc w.heap.size (fun k_ => some k_ ≠ ((.slice Ao25 t219.length co25) : Value).ownBlock ∧ some k_ ≠ ((.slice Ao32 t251.length co32) : Value).ownBlock ∧ some k_ ≠ ((.slice Ao121 t264.length co121) : Value).ownBlock) (.slice Ao39 t234.length co39) t255) ∧ Aside0 (Kd.R (Kd.int .i64) 3 wc w.heap.size (fun k_ => some k_ ≠ ((.slice Ao28 t222.length co28) : Value).ownBlock ∧ some k_ ≠ ((.slice Ao36 t252.length co36) : Value).ownBlock ∧ some k_ ≠ ((.slice Ao127 t267.length co127) : Value).ownBlock) (.slice Ao44 t237.length co44) t256) ∧ Aside0 (Kd.R Kd.string 9 wc w.heap.size (fun k_ => some k_ ≠ ((.slice Ao25 t219.length co25) : Value).ownBlock ∧ some k_ ≠ ((.slice Ao32 t251.length co32) : Value).ownBlock ∧ some k_ ≠ ((.slice Ao39 t234.length co39) : Value).ownBlock) (.slice Ao121 t264.length co121) t264) ∧ Aside0 (Kd.R (Kd.int .i64) 3 wc w.heap.size (fun k_ => some k_ ≠ ((.slice Ao28 t222.length co28) : Value).ownBlock ∧ some k_ ≠ ((.slice Ao36 t252.length co36) : Value).ownBlock ∧ some k_ ≠ ((.slice Ao44 t237.length co44) : Value).ownBlock) (.slice Ao127 t267.length co127) t267) ∧ Aside0 (wc.heap[gb211]? = some (.cells #[(.slice A0_0 l0_0.length c0_0), (.slice A0_1 l0_1.length c0_1)] 46 (0, 0))) ∧ Aside0 (wc.heap[gb226]? = some (.cells #[(.slice Ao25 t219.length co25), (.slice Ao28 t222.length co28)] 49 (0, 0))) ∧ Aside0 (wc.heap[gb233]? = some (.cells #[(.slice Ao32 t251.length co32), (.slice Ao36 t252.length co36)] 49 (0, 0))) ∧ Aside0 (wc.heap[gb241]? = some (.cells #[(.slice Ao39 t234.length co39), (.slice Ao44 t237.length co44)] 49 (0, 0))) ∧ Aside0 (wc.heap[gb271]? = some (.cells #[(.slice Ao121 t264.length co121), (.slice Ao127 t267.length co127)] 49 (0, 0))) ∧ Aside0 (Below w.heap.size w wc))
                        case first =>
                          have H := HC105.out
                          clear HC105
                          replace H := Option.bind_eq_some_iff.mp H
                          obtain ⟨t272, A1280, H⟩ := H
                          replace H : (if t272 = true then (laws_FnExactBurn.j2 kj67 t254 (t270 != t225) t255 t256) else (laws_FnExactBurn.j2 kj67 t254 true t255 t256)) = some r := H
                          have A128 := Aside0.mk A1280
                          clear A1280
                          by_cases c129 : t272 = true
                          · subst c129
                            have H1 : (laws_FnExactBurn.j2 kj67 t254 (t270 != t225) t255 t256) = some r := by rw [if_pos rfl] at H; exact H
                            clear H
                            have H := H1
                            clear H1
                            have H' := Aside0.mk H
                            clear H
                            have hnb130 := NB271_211.out
                            have hnc130 := NB211_271.out
                            have hnb131 := NB271_226.out
                            have hnc131 := NB226_271.out
                            have hnb132 := NB271_233.out
                            have hnc132 := NB233_271.out
                            have hnb133 := NB271_241.out
                            have hnc133 := NB241_271.out
                            have hcz134_0 : w120.cell? ⟨gb271, 0, none⟩ = some (.slice none 0 0) := (blk_cell BK271.out 0).trans rfl
                            have hcz134_1 : w120.cell? ⟨gb271, 1, none⟩ = some (.slice none 0 0) := (blk_cell BK271.out 1).trans rfl
                            have hfz134_0 := blk_frozen BK271.out 0
                            have hfz134_1 := blk_frozen BK271.out 1
                            have hnb135 := NB226_211.out
                            have hnc135 := NB211_226.out
                            have hnb136 := NB226_233.out
                            have hnc136 := NB233_226.out
                            have hnb137 := NB226_241.out
                            have hnc137 := NB241_226.out
                            have hcz138_0 : w120.cell? ⟨gb226, 0, none⟩ = some (.slice Ao25 t219.length co25) := (blk_cell BK226.out 0).trans rfl
                            have hcz138_1 : w120.cell? ⟨gb226, 1, none⟩ = some (.slice Ao28 t222.length co28) := (blk_cell BK226.out 1).trans rfl
                            have hfz138_0 := blk_frozen BK226.out 0
                            have hfz138_1 := blk_frozen BK226.out 1
                            go_wp2_with (first | ((with_reducible refine gate_callee (f := 36) rfl ?_); refine goesL_ (some 94) rfl rfl Try.func36 (by kernel_rfl) rfl #[.agg #[.slice Ao121 t264.length co121, .slice Ao127 t267.length co127], .agg #[.slice Ao25 t219.length co25, .slice Ao28 t222.length co28]] rfl (by (try simp only [List.map_toArray, List.map_cons, List.map_nil]); first | done | rfl | (simp only [List.length_drop, List.length_take]; rfl)) ?_; (with_reducible refine (laws_eqChip.calls kj67 _ _ t264 _ _ t267 _ _ t219 _ _ t222 true _ ?side1 ?side2 ?side3 ?side4 ?side5 ?side6 ?side7 ?side8 A128.out).mono ?_); (case side1 => refine (Kd.R_reads' (e := 9) (base := w.heap.size) (ok := fun k_ => ((((True ∧ some k_ ≠ (.slice Ao25 t219.length co25 : Value).ownBlock) ∧ some k_ ≠ (.slice Ao32 t251.length co32 : Value).ownBlock) ∧ some k_ ≠ (.slice Ao39 t234.length co39 : Value).ownBlock) ∧ some k_ ≠ (.slice Ao117 t258.length co117 : Value).ownBlock)) (n := t264.length) (c := co121) ?_).2.2; exact (by (with_reducible repeat (first | apply Kd.R_alloc | apply Kd.R_drewN | apply Kd.R_drew)); exact (Kd.R_mono (Kd.R_far (p := ⟨gb271, 1, none⟩) (Kd.R_far (p := ⟨gb271, 0, none⟩) (Kd.R_types HO266.out BK271.out (by decide)) (fun _ hk => hk.2) (.slice Ao121 t264.length co121)) (fun _ hk => hk.2) (.slice Ao127 t267.length co127)) (fun _ h_ => h_.1)))); (case side2 => exact (Kd.R_reads' HO266.out).2.1); (case side3 => refine (Kd.R_reads' (e := 3) (base := w.heap.size) (ok := fun k_ => ((((True ∧ some k_ ≠ (.slice Ao28 t222.length co28 : Value).ownBlock) ∧ some k_ ≠ (.slice Ao36 t252.length co36 : Value).ownBlock) ∧ some k_ ≠ (.slice Ao44 t237.length co44 : Value).ownBlock) ∧ some k_ ≠ (.slice Ao118 t261.length co118 : Value).ownBlock)) (n := t267.length) (c := co127) ?_).2.2; exact (by (with_reducible repeat (first | apply Kd.R_alloc | apply Kd.R_drewN | apply Kd.R_drew)); exact (Kd.R_mono (Kd.R_far (p := ⟨gb271, 1, none⟩) (Kd.R_far (p := ⟨gb271, 0, none⟩) (Kd.R_types HO269.out BK271.out (by decide)) (fun _ hk => hk.2) (.slice Ao121 t264.length co121)) (fun _ hk => hk.2) (.slice Ao127 t267.length co127)) (fun _ h_ => h_.1)))); (case side4 => exact (Kd.R_reads' HO269.out).2.1); (case side5 => refine (Kd.R_reads' (e := 9) (base := w.heap.size) (ok := fun k_ => (((some k_ ≠ (.slice Ao32 t251.length co32 : Value).ownBlock ∧ some k_ ≠ (.slice Ao39 t234.length co39 : Value).ownBlock) ∧ some k_ ≠ (.slice Ao117 t258.length co117 : Value).ownBlock) ∧ some k_ ≠ (.slice Ao121 t264.length co121 : Value).ownBlock)) (n := t219.length) (c := co25) ?_).2.2; exact (by (with_reducible repeat (first | apply Kd.R_alloc | apply Kd.R_drewN | apply Kd.R_drew)); exact (Kd.R_mono (Kd.R_far (p := ⟨gb271, 1, none⟩) (Kd.R_far (p := ⟨gb271, 0, none⟩) (Kd.R_types HO_227000.out BK271.out (by decide)) (fun _ hk => hk.2) (.slice Ao121 t264.length co121)) (fun _ hk => hk.2) (.slice Ao127 t267.length co127)) (fun _ h_ => h_.1)))); (case side6 => exact (Kd.R_reads' HO_227000.out).2.1); (case side7 => refine (Kd.R_reads' (e := 3) (base := w.heap.size) (ok := fun k_ => (((some k_ ≠ (.slice Ao36 t252.length co36 : Value).ownBlock ∧ some k_ ≠ (.slice Ao44 t237.length co44 : Value).ownBlock) ∧ some k_ ≠ (.slice Ao118 t261.length co118 : Value).ownBlock) ∧ some k_ ≠ (.slice Ao127 t267.length co127 : Value).ownBlock)) (n := t222.length) (c := co28) ?_).2.2; exact (by (with_reducible repeat (first | apply Kd.R_alloc | apply Kd.R_drewN | apply Kd.R_drew)); exact (Kd.R_mono (Kd.R_far (p := ⟨gb271, 1, none⟩) (Kd.R_far (p := ⟨gb271, 0, none⟩) (Kd.R_types HO_227001.out BK271.out (by decide)) (fun _ hk => hk.2) (.slice Ao121 t264.length co121)) (fun _ hk => hk.2) (.slice Ao127 t267.length co127)) (fun _ h_ => h_.1)))); (case side8 => exact (Kd.R_reads' HO_227001.out).2.1); rintro e w139 ⟨rfl, hb⟩; refine ⟨_, rfl, ?_⟩; have n0_ := Aside0.mk (Kd.R_below (by (with_reducible repeat (first | apply Kd.R_alloc | apply Kd.R_drewN | apply Kd.R_drew)); exact (Kd.R_mono (Kd.R_far (p := ⟨gb271, 1, none⟩) (Kd.R_far (p := ⟨gb271, 0, none⟩) (Kd.R_types HO_227000.out BK271.out (by decide)) (fun _ hk => hk.2) (.slice Ao121 t264.length co121)) (fun _ hk => hk.2) (.slice Ao127 t267.length co127)) (fun _ h_ => h_.1))) hb); have n1_ := Aside0.mk (Kd.R_below (by (with_reducible repeat (first | apply Kd.R_alloc | apply Kd.R_drewN | apply Kd.R_drew)); exact (Kd.R_mono (Kd.R_far (p := ⟨gb271, 1, none⟩) (Kd.R_far (p := ⟨gb271, 0, none⟩) (Kd.R_types HO_227001.out BK271.out (by decide)) (fun _ hk => hk.2) (.slice Ao121 t264.length co121)) (fun _ hk => hk.2) (.slice Ao127 t267.length co127)) (fun _ h_ => h_.1))) hb); have n2_ := Aside0.mk (Kd.R_below (by (with_reducible repeat (first | apply Kd.R_alloc | apply Kd.R_drewN | apply Kd.R_drew)); exact (Kd.R_mono (Kd.R_far (p := ⟨gb271, 1, none⟩) (Kd.R_far (p := ⟨gb271, 0, none⟩) (Kd.R_types HO_234000.out BK271.out (by decide)) (fun _ hk => hk.2) (.slice Ao121 t264.length co121)) (fun _ hk => hk.2) (.slice Ao127 t267.length co127)) (fun _ h_ => h_.1))) hb); have n3_ := Aside0.mk (Kd.R_below (by (with_reducible repeat (first | apply Kd.R_alloc | apply Kd.R_drewN | apply Kd.R_drew)); exact (Kd.R_mono (Kd.R_far (p := ⟨gb271, 1, none⟩) (Kd.R_far (p := ⟨gb271, 0, none⟩) (Kd.R_types HO_234001.out BK271.out (by decide)) (fun _ hk => hk.2) (.slice Ao121 t264.length co121)) (fun _ hk => hk.2) (.slice Ao127 t267.length co127)) (fun _ h_ => h_.1))) hb); have n4_ := Aside0.mk (Kd.R_below (by (with_reducible repeat (first | apply Kd.R_alloc | apply Kd.R_drewN | apply Kd.R_drew)); exact (Kd.R_mono (Kd.R_far (p := ⟨gb271, 1, none⟩) (Kd.R_far (p := ⟨gb271, 0, none⟩) (Kd.R_types HO_242000.out BK271.out (by decide)) (fun _ hk => hk.2) (.slice Ao121 t264.length co121)) (fun _ hk => hk.2) (.slice Ao127 t267.length co127)) (fun _ h_ => h_.1))) hb); have n5_ := Aside0.mk (Kd.R_below (by (with_reducible repeat (first | apply Kd.R_alloc | apply Kd.R_drewN | apply Kd.R_drew)); exact (Kd.R_mono (Kd.R_far (p := ⟨gb271, 1, none⟩) (Kd.R_far (p := ⟨gb271, 0, none⟩) (Kd.R_types HO_242001.out BK271.out (by decide)) (fun _ hk => hk.2) (.slice Ao121 t264.length co121)) (fun _ hk => hk.2) (.slice Ao127 t267.length co127)) (fun _ h_ => h_.1))) hb); have n6_ := Aside0.mk (Kd.R_below (by (with_reducible repeat (first | apply Kd.R_alloc | apply Kd.R_drewN | apply Kd.R_drew)); exact (Kd.R_mono (Kd.R_far (p := ⟨gb271, 1, none⟩) (Kd.R_far (p := ⟨gb271, 0, none⟩) (Kd.R_types HO260.out BK271.out (by decide)) (fun _ hk => hk.2) (.slice Ao121 t264.length co121)) (fun _ hk => hk.2) (.slice Ao127 t267.length co127)) (fun _ h_ => h_.1))) hb); have n7_ := Aside0.mk (Kd.R_below (by (with_reducible repeat (first | apply Kd.R_alloc | apply Kd.R_drewN | apply Kd.R_drew)); exact (Kd.R_mono (Kd.R_far (p := ⟨gb271, 1, none⟩) (Kd.R_far (p := ⟨gb271, 0, none⟩) (Kd.R_types HO263.out BK271.out (by decide)) (fun _ hk => hk.2) (.slice Ao121 t264.length co121)) (fun _ hk => hk.2) (.slice Ao127 t267.length co127)) (fun _ h_ => h_.1))) hb); have n8_ := Aside0.mk (Kd.R_below (by (with_reducible repeat (first | apply Kd.R_alloc | apply Kd.R_drewN | apply Kd.R_drew)); exact (Kd.R_mono (Kd.R_far (p := ⟨gb271, 1, none⟩) (Kd.R_far (p := ⟨gb271, 0, none⟩) (Kd.R_types HO266.out BK271.out (by decide)) (fun _ hk => hk.2) (.slice Ao121 t264.length co121)) (fun _ hk => hk.2) (.slice Ao127 t267.length co127)) (fun _ h_ => h_.1))) hb); have n9_ := Aside0.mk (Kd.R_below (by (with_reducible repeat (first | apply Kd.R_alloc | apply Kd.R_drewN | apply Kd.R_drew)); exact (Kd.R_mono (Kd.R_far (p := ⟨gb271, 1, none⟩) (Kd.R_far (p := ⟨gb271, 0, none⟩) (Kd.R_types HO269.out BK271.out (by decide)) (fun _ hk => hk.2) (.slice Ao121 t264.length co121)) (fun _ hk => hk.2) (.slice Ao127 t267.length co127)) (fun _ h_ => h_.1))) hb); have n10_ := Aside0.mk (blk_below (g := gb211) (o := .cells #[.slice A0_0 l0_0.length c0_0, .slice A0_1 l0_1.length c0_1] 46 (0, 0)) (by (with_reducible repeat (first | refine blk_drewN ?_ _ | refine blk_drew ?_ | refine blk_alloc ?_ _)); refine blk_far ?_ NB211_271.out _; (with_reducible repeat (first | refine blk_drewN ?_ _ | refine blk_drew ?_ | refine blk_alloc ?_ _)); refine blk_far ?_ NB211_271.out _; (with_reducible repeat (first | refine blk_drewN ?_ _ | refine blk_drew ?_ | refine blk_alloc ?_ _)); exact BK211.out) hb); have n11_ := Aside0.mk (blk_below (g := gb226) (o := .cells #[.slice Ao25 t219.length co25, .slice Ao28 t222.length co28] 49 (0, 0)) (by (with_reducible repeat (first | refine blk_drewN ?_ _ | refine blk_drew ?_ | refine blk_alloc ?_ _)); refine blk_far ?_ NB226_271.out _; (with_reducible repeat (first | refine blk_drewN ?_ _ | refine blk_drew ?_ | refine blk_alloc ?_ _)); refine blk_far ?_ NB226_271.out _; (with_reducible repeat (first | refine blk_drewN ?_ _ | refine blk_drew ?_ | refine blk_alloc ?_ _)); exact BK226.out) hb); have n12_ := Aside0.mk (blk_below (g := gb233) (o := .cells #[.slice Ao32 t251.length co32, .slice Ao36 t252.length co36] 49 (0, 0)) (by (with_reducible repeat (first | refine blk_drewN ?_ _ | refine blk_drew ?_ | refine blk_alloc ?_ _)); refine blk_far ?_ NB233_271.out _; (with_reducible repeat (first | refine blk_drewN ?_ _ | refine blk_drew ?_ | refine blk_alloc ?_ _)); refine blk_far ?_ NB233_271.out _; (with_reducible repeat (first | refine blk_drewN ?_ _ | refine blk_drew ?_ | refine blk_alloc ?_ _)); exact BK233.out) hb); have n13_ := Aside0.mk (blk_below (g := gb241) (o := .cells #[.slice Ao39 t234.length co39, .slice Ao44 t237.length co44] 49 (0, 0)) (by (with_reducible repeat (first | refine blk_drewN ?_ _ | refine blk_drew ?_ | refine blk_alloc ?_ _)); refine blk_far ?_ NB241_271.out _; (with_reducible repeat (first | refine blk_drewN ?_ _ | refine blk_drew ?_ | refine blk_alloc ?_ _)); refine blk_far ?_ NB241_271.out _; (with_reducible repeat (first | refine blk_drewN ?_ _ | refine blk_drew ?_ | refine blk_alloc ?_ _)); exact BK241.out) hb); have n14_ := Aside0.mk (blk_below (g := gb271) (o := .cells #[.slice Ao121 t264.length co121, .slice Ao127 t267.length co127] 49 (0, 0)) (by (with_reducible repeat (first | refine blk_drewN ?_ _ | refine blk_drew ?_ | refine blk_alloc ?_ _)); refine blk_put (cs := #[.slice Ao121 t264.length co121, .slice none 0 0]) ?_ 1 _ rfl; (with_reducible repeat (first | refine blk_drewN ?_ _ | refine blk_drew ?_ | refine blk_alloc ?_ _)); refine blk_put (cs := #[.slice none 0 0, .slice none 0 0]) ?_ 0 _ rfl; (with_reducible repeat (first | refine blk_drewN ?_ _ | refine blk_drew ?_ | refine blk_alloc ?_ _)); exact BK271.out) hb); have n15_ := Aside0.mk (below_step (by repeat (first | (with_reducible first | exact HB.out | apply below_alloc | apply pw_below_drewN | apply below_drew1 | refine below_set ?_ GE211.out | refine below_set ?_ GE226.out | refine below_set ?_ GE233.out | refine below_set ?_ GE241.out | refine below_set ?_ GE271.out) | exact HB.out)) hb); clear HO_227000; clear HO_227001; clear HO_234000; clear HO_234001; clear HO_242000; clear HO_242001; clear HO260; clear HO263; clear HO266; clear HO269; clear BK211; clear BK226; clear BK233; clear BK241; clear BK271; clear HB; have HO_227000 := n0_; have HO_227001 := n1_; have HO_234000 := n2_; have HO_234001 := n3_; have HO_242000 := n4_; have HO_242001 := n5_; have HO260 := n6_; have HO263 := n7_; have HO266 := n8_; have HO269 := n9_; have BK211 := n10_; have BK226 := n11_; have BK233 := n12_; have BK241 := n13_; have BK271 := n14_; have HB := n15_; clear n0_ n1_ n2_ n3_ n4_ n5_ n6_ n7_ n8_ n9_ n10_ n11_ n12_ n13_ n14_ n15_; (try clear hb); (try clear hb2); (try clear hk); (try clear hi)))
                            go_meet
                            case rel => exact ⟨_, ((t270 != t225)), (by first | rfl | (simp; done) | (simp [*]; done)), H', ⟨by have := HJ14.out; have := HJ67.out; first | omega | exact Nat.le_refl _⟩, ⟨by (try simp only [hl234000_67]); (try simp only [hl234001_67]); (with_reducible repeat (first | apply Kd.R_alloc | apply Kd.R_drewN | apply Kd.R_drew)); exact Kd.R_mono HO_227000.out (fun _ hk => ⟨hk.1.1.1, ⟨hk.1.1.2, hk.2⟩⟩)⟩, ⟨by (try simp only [hl234000_67]); (try simp only [hl234001_67]); (with_reducible repeat (first | apply Kd.R_alloc | apply Kd.R_drewN | apply Kd.R_drew)); exact Kd.R_mono HO_227001.out (fun _ hk => ⟨hk.1.1.1, ⟨hk.1.1.2, hk.2⟩⟩)⟩, ⟨by (try simp only [hl234000_67]); (try simp only [hl234001_67]); (with_reducible repeat (first | apply Kd.R_alloc | apply Kd.R_drewN | apply Kd.R_drew)); exact Kd.R_mono HO_234000.out (fun _ hk => ⟨hk.1.1.1, ⟨hk.1.1.2, hk.2⟩⟩)⟩, ⟨by (try simp only [hl234000_67]); (try simp only [hl234001_67]); (with_reducible repeat (first | apply Kd.R_alloc | apply Kd.R_drewN | apply Kd.R_drew)); exact Kd.R_mono HO_234001.out (fun _ hk => ⟨hk.1.1.1, ⟨hk.1.1.2, hk.2⟩⟩)⟩, ⟨by (try simp only [hl234000_67]); (try simp only [hl234001_67]); (with_reducible repeat (first | apply Kd.R_alloc | apply Kd.R_drewN | apply Kd.R_drew)); exact Kd.R_mono HO_242000.out (fun _ hk => ⟨hk.1.1.1, ⟨hk.1.1.2, hk.2⟩⟩)⟩, ⟨by (try simp only [hl234000_67]); (try simp only [hl234001_67]); (with_reducible repeat (first | apply Kd.R_alloc | apply Kd.R_drewN | apply Kd.R_drew)); exact Kd.R_mono HO_242001.out (fun _ hk => ⟨hk.1.1.1, ⟨hk.1.1.2, hk.2⟩⟩)⟩, ⟨by (try simp only [hl234000_67]); (try simp only [hl234001_67]); (with_reducible repeat (first | apply Kd.R_alloc | apply Kd.R_drewN | apply Kd.R_drew)); exact Kd.R_mono HO266.out (fun _ hk => ⟨hk.1.1.1.2, ⟨hk.1.1.2, hk.1.2⟩⟩)⟩, ⟨by (try simp only [hl234000_67]); (try simp only [hl234001_67]); (with_reducible repeat (first | apply Kd.R_alloc | apply Kd.R_drewN | apply Kd.R_drew)); exact Kd.R_mono HO269.out (fun _ hk => ⟨hk.1.1.1.2, ⟨hk.1.1.2, hk.1.2⟩⟩)⟩, ⟨by (try simp only [hl234000_67]); (try simp only [hl234001_67]); (with_reducible repeat (first | refine blk_drewN ?_ _ | refine blk_drew ?_ | refine blk_alloc ?_ _)); exact BK211.out⟩, ⟨by (try simp only [hl234000_67]); (try simp only [hl234001_67]); (with_reducible repeat (first | refine blk_drewN ?_ _ | refine blk_drew ?_ | refine blk_alloc ?_ _)); exact BK226.out⟩, ⟨by (try simp only [hl234000_67]); (try simp only [hl234001_67]); (with_reducible repeat (first | refine blk_drewN ?_ _ | refine blk_drew ?_ | refine blk_alloc ?_ _)); exact BK233.out⟩, ⟨by (try simp only [hl234000_67]); (try simp only [hl234001_67]); (with_reducible repeat (first | refine blk_drewN ?_ _ | refine blk_drew ?_ | refine blk_alloc ?_ _)); exact BK241.out⟩, ⟨by (try simp only [hl234000_67]); (try simp only [hl234001_67]); (with_reducible repeat (first | refine blk_drewN ?_ _ | refine blk_drew ?_ | refine blk_alloc ?_ _)); exact BK271.out⟩, ⟨by repeat (first | (with_reducible first | exact HB.out | apply below_alloc | apply pw_below_drewN | apply below_drew1 | refine below_set ?_ GE211.out | refine below_set ?_ GE226.out | refine below_set ?_ GE233.out | refine below_set ?_ GE241.out | refine below_set ?_ GE271.out) | exact HB.out)⟩⟩
                          · replace c129 := Bool.eq_false_iff.mpr c129
                            subst c129
                            have H1 : (laws_FnExactBurn.j2 kj67 t254 true t255 t256) = some r := by rw [if_neg (show ¬ (false = true) by decide)] at H; exact H
                            clear H
                            have H := H1
                            clear H1
                            have H' := Aside0.mk H
                            clear H
                            have hnb140 := NB271_211.out
                            have hnc140 := NB211_271.out
                            have hnb141 := NB271_226.out
                            have hnc141 := NB226_271.out
                            have hnb142 := NB271_233.out
                            have hnc142 := NB233_271.out
                            have hnb143 := NB271_241.out
                            have hnc143 := NB241_271.out
                            have hcz144_0 : w120.cell? ⟨gb271, 0, none⟩ = some (.slice none 0 0) := (blk_cell BK271.out 0).trans rfl
                            have hcz144_1 : w120.cell? ⟨gb271, 1, none⟩ = some (.slice none 0 0) := (blk_cell BK271.out 1).trans rfl
                            have hfz144_0 := blk_frozen BK271.out 0
                            have hfz144_1 := blk_frozen BK271.out 1
                            have hnb145 := NB226_211.out
                            have hnc145 := NB211_226.out
                            have hnb146 := NB226_233.out
                            have hnc146 := NB233_226.out
                            have hnb147 := NB226_241.out
                            have hnc147 := NB241_226.out
                            have hcz148_0 : w120.cell? ⟨gb226, 0, none⟩ = some (.slice Ao25 t219.length co25) := (blk_cell BK226.out 0).trans rfl
                            have hcz148_1 : w120.cell? ⟨gb226, 1, none⟩ = some (.slice Ao28 t222.length co28) := (blk_cell BK226.out 1).trans rfl
                            have hfz148_0 := blk_frozen BK226.out 0
                            have hfz148_1 := blk_frozen BK226.out 1
                            go_wp2_with (first | ((with_reducible refine gate_callee (f := 36) rfl ?_); refine goesL_ (some 94) rfl rfl Try.func36 (by kernel_rfl) rfl #[.agg #[.slice Ao121 t264.length co121, .slice Ao127 t267.length co127], .agg #[.slice Ao25 t219.length co25, .slice Ao28 t222.length co28]] rfl (by (try simp only [List.map_toArray, List.map_cons, List.map_nil]); first | done | rfl | (simp only [List.length_drop, List.length_take]; rfl)) ?_; (with_reducible refine (laws_eqChip.calls kj67 _ _ t264 _ _ t267 _ _ t219 _ _ t222 false _ ?side1 ?side2 ?side3 ?side4 ?side5 ?side6 ?side7 ?side8 A128.out).mono ?_); (case side1 => refine (Kd.R_reads' (e := 9) (base := w.heap.size) (ok := fun k_ => ((((True ∧ some k_ ≠ (.slice Ao25 t219.length co25 : Value).ownBlock) ∧ some k_ ≠ (.slice Ao32 t251.length co32 : Value).ownBlock) ∧ some k_ ≠ (.slice Ao39 t234.length co39 : Value).ownBlock) ∧ some k_ ≠ (.slice Ao117 t258.length co117 : Value).ownBlock)) (n := t264.length) (c := co121) ?_).2.2; exact (by (with_reducible repeat (first | apply Kd.R_alloc | apply Kd.R_drewN | apply Kd.R_drew)); exact (Kd.R_mono (Kd.R_far (p := ⟨gb271, 1, none⟩) (Kd.R_far (p := ⟨gb271, 0, none⟩) (Kd.R_types HO266.out BK271.out (by decide)) (fun _ hk => hk.2) (.slice Ao121 t264.length co121)) (fun _ hk => hk.2) (.slice Ao127 t267.length co127)) (fun _ h_ => h_.1)))); (case side2 => exact (Kd.R_reads' HO266.out).2.1); (case side3 => refine (Kd.R_reads' (e := 3) (base := w.heap.size) (ok := fun k_ => ((((True ∧ some k_ ≠ (.slice Ao28 t222.length co28 : Value).ownBlock) ∧ some k_ ≠ (.slice Ao36 t252.length co36 : Value).ownBlock) ∧ some k_ ≠ (.slice Ao44 t237.length co44 : Value).ownBlock) ∧ some k_ ≠ (.slice Ao118 t261.length co118 : Value).ownBlock)) (n := t267.length) (c := co127) ?_).2.2; exact (by (with_reducible repeat (first | apply Kd.R_alloc | apply Kd.R_drewN | apply Kd.R_drew)); exact (Kd.R_mono (Kd.R_far (p := ⟨gb271, 1, none⟩) (Kd.R_far (p := ⟨gb271, 0, none⟩) (Kd.R_types HO269.out BK271.out (by decide)) (fun _ hk => hk.2) (.slice Ao121 t264.length co121)) (fun _ hk => hk.2) (.slice Ao127 t267.length co127)) (fun _ h_ => h_.1)))); (case side4 => exact (Kd.R_reads' HO269.out).2.1); (case side5 => refine (Kd.R_reads' (e := 9) (base := w.heap.size) (ok := fun k_ => (((some k_ ≠ (.slice Ao32 t251.length co32 : Value).ownBlock ∧ some k_ ≠ (.slice Ao39 t234.length co39 : Value).ownBlock) ∧ some k_ ≠ (.slice Ao117 t258.length co117 : Value).ownBlock) ∧ some k_ ≠ (.slice Ao121 t264.length co121 : Value).ownBlock)) (n := t219.length) (c := co25) ?_).2.2; exact (by (with_reducible repeat (first | apply Kd.R_alloc | apply Kd.R_drewN | apply Kd.R_drew)); exact (Kd.R_mono (Kd.R_far (p := ⟨gb271, 1, none⟩) (Kd.R_far (p := ⟨gb271, 0, none⟩) (Kd.R_types HO_227000.out BK271.out (by decide)) (fun _ hk => hk.2) (.slice Ao121 t264.length co121)) (fun _ hk => hk.2) (.slice Ao127 t267.length co127)) (fun _ h_ => h_.1)))); (case side6 => exact (Kd.R_reads' HO_227000.out).2.1); (case side7 => refine (Kd.R_reads' (e := 3) (base := w.heap.size) (ok := fun k_ => (((some k_ ≠ (.slice Ao36 t252.length co36 : Value).ownBlock ∧ some k_ ≠ (.slice Ao44 t237.length co44 : Value).ownBlock) ∧ some k_ ≠ (.slice Ao118 t261.length co118 : Value).ownBlock) ∧ some k_ ≠ (.slice Ao127 t267.length co127 : Value).ownBlock)) (n := t222.length) (c := co28) ?_).2.2; exact (by (with_reducible repeat (first | apply Kd.R_alloc | apply Kd.R_drewN | apply Kd.R_drew)); exact (Kd.R_mono (Kd.R_far (p := ⟨gb271, 1, none⟩) (Kd.R_far (p := ⟨gb271, 0, none⟩) (Kd.R_types HO_227001.out BK271.out (by decide)) (fun _ hk => hk.2) (.slice Ao121 t264.length co121)) (fun _ hk => hk.2) (.slice Ao127 t267.length co127)) (fun _ h_ => h_.1)))); (case side8 => exact (Kd.R_reads' HO_227001.out).2.1); rintro e w149 ⟨rfl, hb⟩; refine ⟨_, rfl, ?_⟩; have n0_ := Aside0.mk (Kd.R_below (by (with_reducible repeat (first | apply Kd.R_alloc | apply Kd.R_drewN | apply Kd.R_drew)); exact (Kd.R_mono (Kd.R_far (p := ⟨gb271, 1, none⟩) (Kd.R_far (p := ⟨gb271, 0, none⟩) (Kd.R_types HO_227000.out BK271.out (by decide)) (fun _ hk => hk.2) (.slice Ao121 t264.length co121)) (fun _ hk => hk.2) (.slice Ao127 t267.length co127)) (fun _ h_ => h_.1))) hb); have n1_ := Aside0.mk (Kd.R_below (by (with_reducible repeat (first | apply Kd.R_alloc | apply Kd.R_drewN | apply Kd.R_drew)); exact (Kd.R_mono (Kd.R_far (p := ⟨gb271, 1, none⟩) (Kd.R_far (p := ⟨gb271, 0, none⟩) (Kd.R_types HO_227001.out BK271.out (by decide)) (fun _ hk => hk.2) (.slice Ao121 t264.length co121)) (fun _ hk => hk.2) (.slice Ao127 t267.length co127)) (fun _ h_ => h_.1))) hb); have n2_ := Aside0.mk (Kd.R_below (by (with_reducible repeat (first | apply Kd.R_alloc | apply Kd.R_drewN | apply Kd.R_drew)); exact (Kd.R_mono (Kd.R_far (p := ⟨gb271, 1, none⟩) (Kd.R_far (p := ⟨gb271, 0, none⟩) (Kd.R_types HO_234000.out BK271.out (by decide)) (fun _ hk => hk.2) (.slice Ao121 t264.length co121)) (fun _ hk => hk.2) (.slice Ao127 t267.length co127)) (fun _ h_ => h_.1))) hb); have n3_ := Aside0.mk (Kd.R_below (by (with_reducible repeat (first | apply Kd.R_alloc | apply Kd.R_drewN | apply Kd.R_drew)); exact (Kd.R_mono (Kd.R_far (p := ⟨gb271, 1, none⟩) (Kd.R_far (p := ⟨gb271, 0, none⟩) (Kd.R_types HO_234001.out BK271.out (by decide)) (fun _ hk => hk.2) (.slice Ao121 t264.length co121)) (fun _ hk => hk.2) (.slice Ao127 t267.length co127)) (fun _ h_ => h_.1))) hb); have n4_ := Aside0.mk (Kd.R_below (by (with_reducible repeat (first | apply Kd.R_alloc | apply Kd.R_drewN | apply Kd.R_drew)); exact (Kd.R_mono (Kd.R_far (p := ⟨gb271, 1, none⟩) (Kd.R_far (p := ⟨gb271, 0, none⟩) (Kd.R_types HO_242000.out BK271.out (by decide)) (fun _ hk => hk.2) (.slice Ao121 t264.length co121)) (fun _ hk => hk.2) (.slice Ao127 t267.length co127)) (fun _ h_ => h_.1))) hb); have n5_ := Aside0.mk (Kd.R_below (by (with_reducible repeat (first | apply Kd.R_alloc | apply Kd.R_drewN | apply Kd.R_drew)); exact (Kd.R_mono (Kd.R_far (p := ⟨gb271, 1, none⟩) (Kd.R_far (p := ⟨gb271, 0, none⟩) (Kd.R_types HO_242001.out BK271.out (by decide)) (fun _ hk => hk.2) (.slice Ao121 t264.length co121)) (fun _ hk => hk.2) (.slice Ao127 t267.length co127)) (fun _ h_ => h_.1))) hb); have n6_ := Aside0.mk (Kd.R_below (by (with_reducible repeat (first | apply Kd.R_alloc | apply Kd.R_drewN | apply Kd.R_drew)); exact (Kd.R_mono (Kd.R_far (p := ⟨gb271, 1, none⟩) (Kd.R_far (p := ⟨gb271, 0, none⟩) (Kd.R_types HO260.out BK271.out (by decide)) (fun _ hk => hk.2) (.slice Ao121 t264.length co121)) (fun _ hk => hk.2) (.slice Ao127 t267.length co127)) (fun _ h_ => h_.1))) hb); have n7_ := Aside0.mk (Kd.R_below (by (with_reducible repeat (first | apply Kd.R_alloc | apply Kd.R_drewN | apply Kd.R_drew)); exact (Kd.R_mono (Kd.R_far (p := ⟨gb271, 1, none⟩) (Kd.R_far (p := ⟨gb271, 0, none⟩) (Kd.R_types HO263.out BK271.out (by decide)) (fun _ hk => hk.2) (.slice Ao121 t264.length co121)) (fun _ hk => hk.2) (.slice Ao127 t267.length co127)) (fun _ h_ => h_.1))) hb); have n8_ := Aside0.mk (Kd.R_below (by (with_reducible repeat (first | apply Kd.R_alloc | apply Kd.R_drewN | apply Kd.R_drew)); exact (Kd.R_mono (Kd.R_far (p := ⟨gb271, 1, none⟩) (Kd.R_far (p := ⟨gb271, 0, none⟩) (Kd.R_types HO266.out BK271.out (by decide)) (fun _ hk => hk.2) (.slice Ao121 t264.length co121)) (fun _ hk => hk.2) (.slice Ao127 t267.length co127)) (fun _ h_ => h_.1))) hb); have n9_ := Aside0.mk (Kd.R_below (by (with_reducible repeat (first | apply Kd.R_alloc | apply Kd.R_drewN | apply Kd.R_drew)); exact (Kd.R_mono (Kd.R_far (p := ⟨gb271, 1, none⟩) (Kd.R_far (p := ⟨gb271, 0, none⟩) (Kd.R_types HO269.out BK271.out (by decide)) (fun _ hk => hk.2) (.slice Ao121 t264.length co121)) (fun _ hk => hk.2) (.slice Ao127 t267.length co127)) (fun _ h_ => h_.1))) hb); have n10_ := Aside0.mk (blk_below (g := gb211) (o := .cells #[.slice A0_0 l0_0.length c0_0, .slice A0_1 l0_1.length c0_1] 46 (0, 0)) (by (with_reducible repeat (first | refine blk_drewN ?_ _ | refine blk_drew ?_ | refine blk_alloc ?_ _)); refine blk_far ?_ NB211_271.out _; (with_reducible repeat (first | refine blk_drewN ?_ _ | refine blk_drew ?_ | refine blk_alloc ?_ _)); refine blk_far ?_ NB211_271.out _; (with_reducible repeat (first | refine blk_drewN ?_ _ | refine blk_drew ?_ | refine blk_alloc ?_ _)); exact BK211.out) hb); have n11_ := Aside0.mk (blk_below (g := gb226) (o := .cells #[.slice Ao25 t219.length co25, .slice Ao28 t222.length co28] 49 (0, 0)) (by (with_reducible repeat (first | refine blk_drewN ?_ _ | refine blk_drew ?_ | refine blk_alloc ?_ _)); refine blk_far ?_ NB226_271.out _; (with_reducible repeat (first | refine blk_drewN ?_ _ | refine blk_drew ?_ | refine blk_alloc ?_ _)); refine blk_far ?_ NB226_271.out _; (with_reducible repeat (first | refine blk_drewN ?_ _ | refine blk_drew ?_ | refine blk_alloc ?_ _)); exact BK226.out) hb); have n12_ := Aside0.mk (blk_below (g := gb233) (o := .cells #[.slice Ao32 t251.length co32, .slice Ao36 t252.length co36] 49 (0, 0)) (by (with_reducible repeat (first | refine blk_drewN ?_ _ | refine blk_drew ?_ | refine blk_alloc ?_ _)); refine blk_far ?_ NB233_271.out _; (with_reducible repeat (first | refine blk_drewN ?_ _ | refine blk_drew ?_ | refine blk_alloc ?_ _)); refine blk_far ?_ NB233_271.out _; (with_reducible repeat (first | refine blk_drewN ?_ _ | refine blk_drew ?_ | refine blk_alloc ?_ _)); exact BK233.out) hb); have n13_ := Aside0.mk (blk_below (g := gb241) (o := .cells #[.slice Ao39 t234.length co39, .slice Ao44 t237.length co44] 49 (0, 0)) (by (with_reducible repeat (first | refine blk_drewN ?_ _ | refine blk_drew ?_ | refine blk_alloc ?_ _)); refine blk_far ?_ NB241_271.out _; (with_reducible repeat (first | refine blk_drewN ?_ _ | refine blk_drew ?_ | refine blk_alloc ?_ _)); refine blk_far ?_ NB241_271.out _; (with_reducible repeat (first | refine blk_drewN ?_ _ | refine blk_drew ?_ | refine blk_alloc ?_ _)); exact BK241.out) hb); have n14_ := Aside0.mk (blk_below (g := gb271) (o := .cells #[.slice Ao121 t264.length co121, .slice Ao127 t267.length co127] 49 (0, 0)) (by (with_reducible repeat (first | refine blk_drewN ?_ _ | refine blk_drew ?_ | refine blk_alloc ?_ _)); refine blk_put (cs := #[.slice Ao121 t264.length co121, .slice none 0 0]) ?_ 1 _ rfl; (with_reducible repeat (first | refine blk_drewN ?_ _ | refine blk_drew ?_ | refine blk_alloc ?_ _)); refine blk_put (cs := #[.slice none 0 0, .slice none 0 0]) ?_ 0 _ rfl; (with_reducible repeat (first | refine blk_drewN ?_ _ | refine blk_drew ?_ | refine blk_alloc ?_ _)); exact BK271.out) hb); have n15_ := Aside0.mk (below_step (by repeat (first | (with_reducible first | exact HB.out | apply below_alloc | apply pw_below_drewN | apply below_drew1 | refine below_set ?_ GE211.out | refine below_set ?_ GE226.out | refine below_set ?_ GE233.out | refine below_set ?_ GE241.out | refine below_set ?_ GE271.out) | exact HB.out)) hb); clear HO_227000; clear HO_227001; clear HO_234000; clear HO_234001; clear HO_242000; clear HO_242001; clear HO260; clear HO263; clear HO266; clear HO269; clear BK211; clear BK226; clear BK233; clear BK241; clear BK271; clear HB; have HO_227000 := n0_; have HO_227001 := n1_; have HO_234000 := n2_; have HO_234001 := n3_; have HO_242000 := n4_; have HO_242001 := n5_; have HO260 := n6_; have HO263 := n7_; have HO266 := n8_; have HO269 := n9_; have BK211 := n10_; have BK226 := n11_; have BK233 := n12_; have BK241 := n13_; have BK271 := n14_; have HB := n15_; clear n0_ n1_ n2_ n3_ n4_ n5_ n6_ n7_ n8_ n9_ n10_ n11_ n12_ n13_ n14_ n15_; (try clear hb); (try clear hb2); (try clear hk); (try clear hi)))
                            go_meet
                            case rel => exact ⟨_, (true), (by first | rfl | (simp; done) | (simp [*]; done)), H', ⟨by have := HJ14.out; have := HJ67.out; first | omega | exact Nat.le_refl _⟩, ⟨by (try simp only [hl234000_67]); (try simp only [hl234001_67]); (with_reducible repeat (first | apply Kd.R_alloc | apply Kd.R_drewN | apply Kd.R_drew)); exact Kd.R_mono HO_227000.out (fun _ hk => ⟨hk.1.1.1, ⟨hk.1.1.2, hk.2⟩⟩)⟩, ⟨by (try simp only [hl234000_67]); (try simp only [hl234001_67]); (with_reducible repeat (first | apply Kd.R_alloc | apply Kd.R_drewN | apply Kd.R_drew)); exact Kd.R_mono HO_227001.out (fun _ hk => ⟨hk.1.1.1, ⟨hk.1.1.2, hk.2⟩⟩)⟩, ⟨by (try simp only [hl234000_67]); (try simp only [hl234001_67]); (with_reducible repeat (first | apply Kd.R_alloc | apply Kd.R_drewN | apply Kd.R_drew)); exact Kd.R_mono HO_234000.out (fun _ hk => ⟨hk.1.1.1, ⟨hk.1.1.2, hk.2⟩⟩)⟩, ⟨by (try simp only [hl234000_67]); (try simp only [hl234001_67]); (with_reducible repeat (first | apply Kd.R_alloc | apply Kd.R_drewN | apply Kd.R_drew)); exact Kd.R_mono HO_234001.out (fun _ hk => ⟨hk.1.1.1, ⟨hk.1.1.2, hk.2⟩⟩)⟩, ⟨by (try simp only [hl234000_67]); (try simp only [hl234001_67]); (with_reducible repeat (first | apply Kd.R_alloc | apply Kd.R_drewN | apply Kd.R_drew)); exact Kd.R_mono HO_242000.out (fun _ hk => ⟨hk.1.1.1, ⟨hk.1.1.2, hk.2⟩⟩)⟩, ⟨by (try simp only [hl234000_67]); (try simp only [hl234001_67]); (with_reducible repeat (first | apply Kd.R_alloc | apply Kd.R_drewN | apply Kd.R_drew)); exact Kd.R_mono HO_242001.out (fun _ hk => ⟨hk.1.1.1, ⟨hk.1.1.2, hk.2⟩⟩)⟩, ⟨by (try simp only [hl234000_67]); (try simp only [hl234001_67]); (with_reducible repeat (first | apply Kd.R_alloc | apply Kd.R_drewN | apply Kd.R_drew)); exact Kd.R_mono HO266.out (fun _ hk => ⟨hk.1.1.1.2, ⟨hk.1.1.2, hk.1.2⟩⟩)⟩, ⟨by (try simp only [hl234000_67]); (try simp only [hl234001_67]); (with_reducible repeat (first | apply Kd.R_alloc | apply Kd.R_drewN | apply Kd.R_drew)); exact Kd.R_mono HO269.out (fun _ hk => ⟨hk.1.1.1.2, ⟨hk.1.1.2, hk.1.2⟩⟩)⟩, ⟨by (try simp only [hl234000_67]); (try simp only [hl234001_67]); (with_reducible repeat (first | refine blk_drewN ?_ _ | refine blk_drew ?_ | refine blk_alloc ?_ _)); exact BK211.out⟩, ⟨by (try simp only [hl234000_67]); (try simp only [hl234001_67]); (with_reducible repeat (first | refine blk_drewN ?_ _ | refine blk_drew ?_ | refine blk_alloc ?_ _)); exact BK226.out⟩, ⟨by (try simp only [hl234000_67]); (try simp only [hl234001_67]); (with_reducible repeat (first | refine blk_drewN ?_ _ | refine blk_drew ?_ | refine blk_alloc ?_ _)); exact BK233.out⟩, ⟨by (try simp only [hl234000_67]); (try simp only [hl234001_67]); (with_reducible repeat (first | refine blk_drewN ?_ _ | refine blk_drew ?_ | refine blk_alloc ?_ _)); exact BK241.out⟩, ⟨by (try simp only [hl234000_67]); (try simp only [hl234001_67]); (with_reducible repeat (first | refine blk_drewN ?_ _ | refine blk_drew ?_ | refine blk_alloc ?_ _)); exact BK271.out⟩, ⟨by repeat (first | (with_reducible first | exact HB.out | apply below_alloc | apply pw_below_drewN | apply below_drew1 | refine below_set ?_ GE211.out | refine below_set ?_ GE226.out | refine below_set ?_ GE233.out | refine below_set ?_ GE241.out | refine below_set ?_ GE271.out) | exact HB.out)⟩⟩
                        case rest =>
                          clear HC105
                          try clear c1
                          try clear c2
                          try clear p2
                          try clear c3
                          try clear c4
                          try clear c4b0
                          try clear c4b1
                          try clear c5
                          try clear c6
                          try clear c7
                          try clear c7b0
                          try clear c8
                          try clear c9
                          try clear c10
                          try clear c11
                          try clear c12
                          try clear c13
                          try clear c14
                          try clear c26
                          try clear c32
                          try clear c33
                          try clear c34
                          try clear c36
                          try clear c40
                          try clear c41
                          try clear c42
                          try clear c45
                          try clear c46
                          try clear c47
                          try clear c48
                          try clear c49
                          try clear c51
                          try clear c52
                          try clear c55
                          try clear c56
                          try clear c57
                          try clear c59
                          try clear c60
                          try clear c63
                          try clear c66
                          try clear c74
                          try clear c75
                          try clear c76
                          try clear c79
                          try clear c79b0
                          try clear c81
                          try clear c82
                          try clear c83
                          try clear c84
                          try clear c86
                          try clear c87
                          try clear c90
                          try clear c91
                          try clear c92
                          try clear c94
                          try clear c95
                          try clear c98
                          try clear c101
                          try clear c101b0
                          try clear c102
                          try clear c102b0
                          try clear c102b1
                          try clear c106
                          try clear c107
                          try clear c108
                          try clear c113
                          try clear c114
                          try clear c122
                          try clear c123
                          try clear c124
                          try clear c125
                          try clear c129
                          try clear c130
                          try clear c131
                          try clear c132
                          try clear c133
                          try clear c135
                          try clear c136
                          try clear c137
                          try clear c140
                          try clear c141
                          try clear c142
                          try clear c143
                          try clear c145
                          try clear c146
                          try clear c147
                          try clear hcz109_0
                          try clear hcz109_1
                          try clear hcz111_0
                          try clear hcz111_1
                          try clear hcz115_0
                          try clear hcz115_1
                          try clear hcz126_0
                          try clear hcz126_1
                          try clear hcz134_0
                          try clear hcz134_1
                          try clear hcz138_0
                          try clear hcz138_1
                          try clear hcz144_0
                          try clear hcz144_1
                          try clear hcz148_0
                          try clear hcz148_1
                          try clear hcz17_0
                          try clear hcz17_1
                          try clear hcz19_0
                          try clear hcz19_1
                          try clear hcz27_0
                          try clear hcz27_1
                          try clear hcz29_0
                          try clear hcz29_1
                          try clear hcz35_0
                          try clear hcz35_1
                          try clear hcz43_0
                          try clear hcz43_1
                          try clear hcz50_0
                          try clear hcz50_1
                          try clear hcz53_0
                          try clear hcz53_1
                          try clear hcz58_0
                          try clear hcz58_1
                          try clear hcz61_0
                          try clear hcz61_1
                          try clear hcz77_0
                          try clear hcz77_1
                          try clear hcz85_0
                          try clear hcz85_1
                          try clear hcz88_0
                          try clear hcz88_1
                          try clear hcz93_0
                          try clear hcz93_1
                          try clear hcz96_0
                          try clear hcz96_1
                          try clear hcz9_0
                          try clear hcz9_1
                          try clear hfz109_0
                          try clear hfz109_1
                          try clear hfz111_0
                          try clear hfz111_1
                          try clear hfz115_0
                          try clear hfz115_1
                          try clear hfz126_0
                          try clear hfz126_1
                          try clear hfz134_0
                          try clear hfz134_1
                          try clear hfz138_0
                          try clear hfz138_1
                          try clear hfz144_0
                          try clear hfz144_1
                          try clear hfz148_0
                          try clear hfz148_1
                          try clear hfz17_0
                          try clear hfz17_1
                          try clear hfz19_0
                          try clear hfz19_1
                          try clear hfz27_0
                          try clear hfz27_1
                          try clear hfz29_0
                          try clear hfz29_1
                          try clear hfz35_0
                          try clear hfz35_1
                          try clear hfz43_0
                          try clear hfz43_1
                          try clear hfz50_0
                          try clear hfz50_1
                          try clear hfz53_0
                          try clear hfz53_1
                          try clear hfz58_0
                          try clear hfz58_1
                          try clear hfz61_0
                          try clear hfz61_1
                          try clear hfz77_0
                          try clear hfz77_1
                          try clear hfz85_0
                          try clear hfz85_1
                          try clear hfz88_0
                          try clear hfz88_1
                          try clear hfz93_0
                          try clear hfz93_1
                          try clear hfz96_0
                          try clear hfz96_1
                          try clear hfz9_0
                          try clear hfz9_1
                          try clear p2
                          obtain ⟨kq, x100_104, rfl, HA, HJ104, HO_227000, HO_227001, HO_234000, HO_234001, HO_242000, HO_242001, HO_272000, HO_272001, BK211, BK226, BK233, BK241, BK271, HB⟩ := hcut
                          have hl242000_104 := (Kd.R_reads' HO_242000.out).1
                          rw [hl242000_104] at HO_242000
                          (try simp only [hl242000_104])
                          (try simp only [hl242000_104] at BK211)
                          (try simp only [hl242000_104] at BK226)
                          (try simp only [hl242000_104] at BK233)
                          (try simp only [hl242000_104] at BK241)
                          (try simp only [hl242000_104] at BK271)
                          (try simp only [hl242000_104] at HO_227000)
                          (try simp only [hl242000_104] at HO_227001)
                          (try simp only [hl242000_104] at HO_234000)
                          (try simp only [hl242000_104] at HO_234001)
                          (try simp only [hl242000_104] at HO_242001)
                          (try simp only [hl242000_104] at HO_272000)
                          (try simp only [hl242000_104] at HO_272001)
                          have hl242001_104 := (Kd.R_reads' HO_242001.out).1
                          rw [hl242001_104] at HO_242001
                          (try simp only [hl242001_104])
                          (try simp only [hl242001_104] at BK211)
                          (try simp only [hl242001_104] at BK226)
                          (try simp only [hl242001_104] at BK233)
                          (try simp only [hl242001_104] at BK241)
                          (try simp only [hl242001_104] at BK271)
                          (try simp only [hl242001_104] at HO_227000)
                          (try simp only [hl242001_104] at HO_227001)
                          (try simp only [hl242001_104] at HO_234000)
                          (try simp only [hl242001_104] at HO_234001)
                          (try simp only [hl242001_104] at HO_242000)
                          (try simp only [hl242001_104] at HO_272000)
                          (try simp only [hl242001_104] at HO_272001)
                          cases kq with
                          | zero => exact absurd HA.out (by simp [laws_FnExactBurn.j2])
                          | succ kj104 =>
                            have H := HA.out
                            clear HA
                            simp only [laws_FnExactBurn.j2] at H
                            by_cases c150 : x100_104 = true
                            · subst c150
                              have H1 : (some false) = some r := by rw [if_pos rfl] at H; exact H
                              clear H
                              have H := H1
                              clear H1
                              exact absurd ((Option.some.inj H).trans hT.out) (by decide)
                            · replace c150 := Bool.eq_false_iff.mpr c150
                              subst c150
                              have H1 : ((laws_heldChip.f kj104 t255 t256 1).bind fun t273 => (if t273 < 0 then (some false) else (if t273 = t254 then (some true) else (some false)))) = some r := by rw [if_neg (show ¬ (false = true) by decide)] at H; exact H
                              clear H
                              have H := H1
                              clear H1
                              replace H := Option.bind_eq_some_iff.mp H
                              obtain ⟨t273, A1510, H⟩ := H
                              replace H : (if t273 < 0 then (some false) else (if t273 = t254 then (some true) else (some false))) = some r := H
                              have A151 := Aside0.mk A1510
                              clear A1510
                              by_cases c152 : t273 < 0
                              · rw [if_pos c152] at H
                                have c152b0 : decide (t273 < 0) = true := decide_eq_true c152
                                clear c152
                                exact absurd ((Option.some.inj H).trans hT.out) (by decide)
                              · rw [if_neg c152] at H
                                have c152b0 : decide (t273 < 0) = false := decide_eq_false c152
                                clear c152
                                by_cases c153 : t273 = t254
                                · rw [if_pos c153] at H
                                  have c153b0 : (t273 == t254) = true := beq_iff_eq.mpr c153
                                  have c153b1 : (t273 != t254) = false := bne_eq_false_iff_eq.mpr c153
                                  clear c153
                                  obtain rfl := Option.some.inj H
                                  have hnb154 := NB241_211.out
                                  have hnc154 := NB211_241.out
                                  have hnb155 := NB241_226.out
                                  have hnc155 := NB226_241.out
                                  have hnb156 := NB241_233.out
                                  have hnc156 := NB233_241.out
                                  have hnb157 := NB241_271.out
                                  have hnc157 := NB271_241.out
                                  have hcz158_0 : wc.cell? ⟨gb241, 0, none⟩ = some (.slice Ao39 t255.length co39) := (blk_cell BK241.out 0).trans rfl
                                  have hcz158_1 : wc.cell? ⟨gb241, 1, none⟩ = some (.slice Ao44 t256.length co44) := (blk_cell BK241.out 1).trans rfl
                                  have hfz158_0 := blk_frozen BK241.out 0
                                  have hfz158_1 := blk_frozen BK241.out 1
                                  go_wp2_with (first | ((with_reducible refine gate_callee (f := 47) rfl ?_); refine goesL_ (some 103) rfl rfl Try.func47 (by kernel_rfl) rfl #[.agg #[.slice Ao39 t255.length co39, .slice Ao44 t256.length co44], .int .i64 1] rfl (by (try simp only [List.map_toArray, List.map_cons, List.map_nil]); first | done | rfl | (simp only [List.length_drop, List.length_take]; rfl)) ?_; (with_reducible refine (laws_heldChip.calls kj104 _ _ t255 _ _ t256 1 t273 _ ?side1 ?side2 ?side3 ?side4 A151.out).mono ?_); (case side1 => repeat (first | exact (Kd.R_reads' HO_242000.out).2.2 | (with_reducible refine Kd.C_alloc ?_ _) | (with_reducible refine Kd.C_drewN ?_ _) | (with_reducible refine Kd.C_drew ?_))); (case side2 => exact (Kd.R_reads' HO_242000.out).2.1); (case side3 => repeat (first | exact (Kd.R_reads' HO_242001.out).2.2 | (with_reducible refine Kd.C_alloc ?_ _) | (with_reducible refine Kd.C_drewN ?_ _) | (with_reducible refine Kd.C_drew ?_))); (case side4 => exact (Kd.R_reads' HO_242001.out).2.1); rintro e w159 ⟨rfl, hb⟩; refine ⟨_, rfl, ?_⟩; have n0_ := Aside0.mk (Kd.R_below (by (with_reducible repeat (first | apply Kd.R_alloc | apply Kd.R_drewN | apply Kd.R_drew)); exact HO_227000.out) hb); have n1_ := Aside0.mk (Kd.R_below (by (with_reducible repeat (first | apply Kd.R_alloc | apply Kd.R_drewN | apply Kd.R_drew)); exact HO_227001.out) hb); have n2_ := Aside0.mk (Kd.R_below (by (with_reducible repeat (first | apply Kd.R_alloc | apply Kd.R_drewN | apply Kd.R_drew)); exact HO_234000.out) hb); have n3_ := Aside0.mk (Kd.R_below (by (with_reducible repeat (first | apply Kd.R_alloc | apply Kd.R_drewN | apply Kd.R_drew)); exact HO_234001.out) hb); have n4_ := Aside0.mk (Kd.R_below (by (with_reducible repeat (first | apply Kd.R_alloc | apply Kd.R_drewN | apply Kd.R_drew)); exact HO_242000.out) hb); have n5_ := Aside0.mk (Kd.R_below (by (with_reducible repeat (first | apply Kd.R_alloc | apply Kd.R_drewN | apply Kd.R_drew)); exact HO_242001.out) hb); have n6_ := Aside0.mk (Kd.R_below (by (with_reducible repeat (first | apply Kd.R_alloc | apply Kd.R_drewN | apply Kd.R_drew)); exact HO_272000.out) hb); have n7_ := Aside0.mk (Kd.R_below (by (with_reducible repeat (first | apply Kd.R_alloc | apply Kd.R_drewN | apply Kd.R_drew)); exact HO_272001.out) hb); have n8_ := Aside0.mk (blk_below (g := gb211) (o := .cells #[.slice A0_0 l0_0.length c0_0, .slice A0_1 l0_1.length c0_1] 46 (0, 0)) (by (with_reducible repeat (first | refine blk_drewN ?_ _ | refine blk_drew ?_ | refine blk_alloc ?_ _)); exact BK211.out) hb); have n9_ := Aside0.mk (blk_below (g := gb226) (o := .cells #[.slice Ao25 t219.length co25, .slice Ao28 t222.length co28] 49 (0, 0)) (by (with_reducible repeat (first | refine blk_drewN ?_ _ | refine blk_drew ?_ | refine blk_alloc ?_ _)); exact BK226.out) hb); have n10_ := Aside0.mk (blk_below (g := gb233) (o := .cells #[.slice Ao32 t251.length co32, .slice Ao36 t252.length co36] 49 (0, 0)) (by (with_reducible repeat (first | refine blk_drewN ?_ _ | refine blk_drew ?_ | refine blk_alloc ?_ _)); exact BK233.out) hb); have n11_ := Aside0.mk (blk_below (g := gb241) (o := .cells #[.slice Ao39 t255.length co39, .slice Ao44 t256.length co44] 49 (0, 0)) (by (with_reducible repeat (first | refine blk_drewN ?_ _ | refine blk_drew ?_ | refine blk_alloc ?_ _)); exact BK241.out) hb); have n12_ := Aside0.mk (blk_below (g := gb271) (o := .cells #[.slice Ao121 t264.length co121, .slice Ao127 t267.length co127] 49 (0, 0)) (by (with_reducible repeat (first | refine blk_drewN ?_ _ | refine blk_drew ?_ | refine blk_alloc ?_ _)); exact BK271.out) hb); have n13_ := Aside0.mk (below_step (by repeat (first | (with_reducible first | exact HB.out | apply below_alloc | apply pw_below_drewN | apply below_drew1 | refine below_set ?_ GE211.out | refine below_set ?_ GE226.out | refine below_set ?_ GE233.out | refine below_set ?_ GE241.out | refine below_set ?_ GE271.out) | exact HB.out)) hb); clear HO_227000; clear HO_227001; clear HO_234000; clear HO_234001; clear HO_242000; clear HO_242001; clear HO_272000; clear HO_272001; clear BK211; clear BK226; clear BK233; clear BK241; clear BK271; clear HB; have HO_227000 := n0_; have HO_227001 := n1_; have HO_234000 := n2_; have HO_234001 := n3_; have HO_242000 := n4_; have HO_242001 := n5_; have HO_272000 := n6_; have HO_272001 := n7_; have BK211 := n8_; have BK226 := n9_; have BK233 := n10_; have BK241 := n11_; have BK271 := n12_; have HB := n13_; clear n0_ n1_ n2_ n3_ n4_ n5_ n6_ n7_ n8_ n9_ n10_ n11_ n12_ n13_; (try clear hb); (try clear hb2); (try clear hk); (try clear hi)))
                                  go_ret
                                  exact ⟨by first | rfl | (simp [errW_none, errW_some] <;> rfl) | (simp [*, errW_none, errW_some] <;> rfl), by repeat (first | (with_reducible first | exact HB.out | apply below_alloc | apply pw_below_drewN | apply below_drew1 | refine below_set ?_ GE211.out | refine below_set ?_ GE226.out | refine below_set ?_ GE233.out | refine below_set ?_ GE241.out | refine below_set ?_ GE271.out) | exact HB.out)⟩
                                · rw [if_neg c153] at H
                                  have c153b0 : (t273 == t254) = false := beq_eq_false_iff_ne.mpr c153
                                  have c153b1 : (t273 != t254) = true := bne_iff_ne.mpr c153
                                  exact absurd ((Option.some.inj H).trans hT.out) (by decide)
                      · rw [if_neg c102] at H
                        have c102b0 : (t257 == t254) = false := beq_eq_false_iff_ne.mpr c102
                        have c102b1 : (t257 != t254) = true := bne_iff_ne.mpr c102
                        exact absurd ((Option.some.inj H).trans hT.out) (by decide)
            · replace c66 := Bool.eq_false_iff.mpr c66
              subst c66
              have H1 : (some false) = some r := by rw [if_neg (show ¬ (false = true) by decide)] at H; exact H
              clear H
              have H := H1
              clear H1
              exact absurd ((Option.some.inj H).trans hT.out) (by decide)

end Go.Proofs.Ytpbamdcbaloibab.PFnExactBurn
