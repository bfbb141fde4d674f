-- Laid by a program out of the translation, with contracts of our own for what it does not take; Lean checks it.
import Derived.Test.YtdikjefddgbkfaaPFnExactPutTextx0
import Derived.Test.YtdikjefddgbkfaaPFnExactPutTextx1
namespace Go.Proofs.Ytdikjefddgbkfaa.PFnExactPutText
open Go.RowKit Go.Proofs.YtdikjefddgbkfaaW.PrintWords Go.Proofs.YtdikjefddgbkfaaW.PrintLast Go.Proofs.YtdikjefddgbkfaaW.PrintMore
attribute [local go_sem] max2_int min2_int max_two min_two max_three min_three max_four min_four   -- for this text's walks alone
set_option linter.unusedVariables false
set_option linter.unusedSimpArgs false

/-! ### laws_FnExactPutText: function 11 -/
def laws_FnExactPutText.f (k : Nat) (a0 : ByteArray) : Option (Bool) := if (a0.size : Int) > 1048576 then (some true) else ((spec_PutText.f k a0).bind fun t143 => ((impl_PutText.f k a0).bind fun t146 => ((laws_eqByteS.f k t146 t143).bind fun t149 => (if t149 = true then ((laws_markByteS.f k t146 1).bind fun bt150 => ((laws_heldByteS.f k bt150.2 1).bind fun t152 => (if t152 < 0 then (some false) else (if t152 = bt150.1 then ((impl_PutText.f k a0).bind fun t153 => ((laws_eqByteS.f k t153 t143).bind fun t156 => (if t156 = true then ((laws_heldByteS.f k bt150.2 1).bind fun t157 => (if t157 < 0 then (some false) else (if t157 = bt150.1 then (some true) else (some false)))) else (some false)))) else (some false))))) else (some false)))))
theorem laws_FnExactPutText.mono : ∀ a0 k, LeO (laws_FnExactPutText.f k a0) (laws_FnExactPutText.f (k + 1) a0) := by
  intro a0 k
  unfold laws_FnExactPutText.f
  repeat' first
      | (with_reducible exact impl_PutText.mono _ _)
      | (with_reducible exact laws_eqByteS.mono _ _ _)
      | (with_reducible exact laws_heldByteS.mono _ _ _)
      | (with_reducible exact laws_markByteS.mono _ _ _)
      | (with_reducible exact spec_PutText.mono _ _)
      | (with_reducible exact LeO.refl _)
      | (with_reducible exact LeO.none _)
      | (with_reducible refine LeO.ite ?_ ?_)
      | (with_reducible refine LeO.bind ?_ (fun _ => ?_))
      | exact impl_PutText.mono _ _
      | exact laws_eqByteS.mono _ _ _
      | exact laws_heldByteS.mono _ _ _
      | exact laws_markByteS.mono _ _ _
      | exact spec_PutText.mono _ _
      | exact LeO.none _
      | refine LeO.ite ?_ ?_
      | refine LeO.bind ?_ (fun _ => ?_)
set_option maxHeartbeats 8000000 in
set_option maxRecDepth 100000 in
theorem laws_FnExactPutText.calls (k : Nat) (a0 : ByteArray) (r : Bool) (hT : Aside0 (r = true)) (w : World) (h : laws_FnExactPutText.f k a0 = some r) :
    Calls Try.prog 11 #[.string a0] w fun e w' => e = .returned (.bool r) ∧ Below w.heap.size w w' := by
  have HB := Aside0.mk (Below.refl w.heap.size w)
  have H : (if (a0.size : Int) > 1048576 then (some true) else ((spec_PutText.f k a0).bind fun t143 => ((impl_PutText.f k a0).bind fun t146 => ((laws_eqByteS.f k t146 t143).bind fun t149 => (if t149 = true then ((laws_markByteS.f k t146 1).bind fun bt150 => ((laws_heldByteS.f k bt150.2 1).bind fun t152 => (if t152 < 0 then (some false) else (if t152 = bt150.1 then ((impl_PutText.f k a0).bind fun t153 => ((laws_eqByteS.f k t153 t143).bind fun t156 => (if t156 = true then ((laws_heldByteS.f k bt150.2 1).bind fun t157 => (if t157 < 0 then (some false) else (if t157 = bt150.1 then (some true) else (some false)))) else (some false)))) else (some false))))) else (some false)))))) = some r := h
  clear h
  by_cases c2 : (a0.size : Int) > 1048576
  · rw [if_pos c2] at H
    have c2b0 : decide (1048576 < (a0.size : Int)) = true := decide_eq_true c2
    have c2b1 : decide (1048576 < a0.size) = true := decide_eq_true (by omega)
    clear c2
    obtain rfl := Option.some.inj H
    go_enter Try.func11, Try.ntmps11
    go_wp2
    go_ret
    exact ⟨by first | rfl | (simp [errW_none, errW_some] <;> rfl) | (simp [*, errW_none, errW_some] <;> rfl), by repeat (first | (with_reducible first | exact HB.out | apply below_alloc | apply pw_below_drewN | apply below_drew1) | exact HB.out)⟩
  · rw [if_neg c2] at H
    have c2b0 : decide (1048576 < (a0.size : Int)) = false := decide_eq_false c2
    have c2b1 : decide (1048576 < a0.size) = false := decide_eq_false (by omega)
    clear c2
    replace H := Option.bind_eq_some_iff.mp H
    obtain ⟨t143, A30, H⟩ := H
    replace H : ((impl_PutText.f k a0).bind fun t146 => ((laws_eqByteS.f k t146 t143).bind fun t149 => (if t149 = true then ((laws_markByteS.f k t146 1).bind fun bt150 => ((laws_heldByteS.f k bt150.2 1).bind fun t152 => (if t152 < 0 then (some false) else (if t152 = bt150.1 then ((impl_PutText.f k a0).bind fun t153 => ((laws_eqByteS.f k t153 t143).bind fun t156 => (if t156 = true then ((laws_heldByteS.f k bt150.2 1).bind fun t157 => (if t157 < 0 then (some false) else (if t157 = bt150.1 then (some true) else (some false)))) else (some false)))) else (some false))))) else (some false)))) = some r := H
    have A3 := Aside0.mk A30
    clear A30
    replace H := Option.bind_eq_some_iff.mp H
    obtain ⟨t146, A40, H⟩ := H
    replace H : ((laws_eqByteS.f k t146 t143).bind fun t149 => (if t149 = true then ((laws_markByteS.f k t146 1).bind fun bt150 => ((laws_heldByteS.f k bt150.2 1).bind fun t152 => (if t152 < 0 then (some false) else (if t152 = bt150.1 then ((impl_PutText.f k a0).bind fun t153 => ((laws_eqByteS.f k t153 t143).bind fun t156 => (if t156 = true then ((laws_heldByteS.f k bt150.2 1).bind fun t157 => (if t157 < 0 then (some false) else (if t157 = bt150.1 then (some true) else (some false)))) else (some false)))) else (some false))))) else (some false))) = some r := H
    have A4 := Aside0.mk A40
    clear A40
    replace H := Option.bind_eq_some_iff.mp H
    obtain ⟨t149, A50, H⟩ := H
    replace H : (if t149 = true then ((laws_markByteS.f k t146 1).bind fun bt150 => ((laws_heldByteS.f k bt150.2 1).bind fun t152 => (if t152 < 0 then (some false) else (if t152 = bt150.1 then ((impl_PutText.f k a0).bind fun t153 => ((laws_eqByteS.f k t153 t143).bind fun t156 => (if t156 = true then ((laws_heldByteS.f k bt150.2 1).bind fun t157 => (if t157 < 0 then (some false) else (if t157 = bt150.1 then (some true) else (some false)))) else (some false)))) else (some false))))) else (some false)) = some r := H
    have A5 := Aside0.mk A50
    clear A50
    by_cases c6 : t149 = true
    · subst c6
      have H1 : ((laws_markByteS.f k t146 1).bind fun bt150 => ((laws_heldByteS.f k bt150.2 1).bind fun t152 => (if t152 < 0 then (some false) else (if t152 = bt150.1 then ((impl_PutText.f k a0).bind fun t153 => ((laws_eqByteS.f k t153 t143).bind fun t156 => (if t156 = true then ((laws_heldByteS.f k bt150.2 1).bind fun t157 => (if t157 < 0 then (some false) else (if t157 = bt150.1 then (some true) else (some false)))) else (some false)))) else (some false))))) = some r := by rw [if_pos rfl] at H; exact H
      clear H
      have H := H1
      clear H1
      replace H := Option.bind_eq_some_iff.mp H
      obtain ⟨⟨t150, t151⟩, A70, H⟩ := H
      replace H : ((laws_heldByteS.f k t151 1).bind fun t152 => (if t152 < 0 then (some false) else (if t152 = t150 then ((impl_PutText.f k a0).bind fun t153 => ((laws_eqByteS.f k t153 t143).bind fun t156 => (if t156 = true then ((laws_heldByteS.f k t151 1).bind fun t157 => (if t157 < 0 then (some false) else (if t157 = t150 then (some true) else (some false)))) else (some false)))) else (some false)))) = some r := H
      have A7 := Aside0.mk A70
      clear A70
      replace H := Option.bind_eq_some_iff.mp H
      obtain ⟨t152, A80, H⟩ := H
      replace H : (if t152 < 0 then (some false) else (if t152 = t150 then ((impl_PutText.f k a0).bind fun t153 => ((laws_eqByteS.f k t153 t143).bind fun t156 => (if t156 = true then ((laws_heldByteS.f k t151 1).bind fun t157 => (if t157 < 0 then (some false) else (if t157 = t150 then (some true) else (some false)))) else (some false)))) else (some false))) = some r := H
      have A8 := Aside0.mk A80
      clear A80
      by_cases c9 : t152 < 0
      · rw [if_pos c9] at H
        have c9b0 : decide (t152 < 0) = true := decide_eq_true c9
        clear c9
        exact absurd ((Option.some.inj H).trans hT.out) (by decide)
      · rw [if_neg c9] at H
        have c9b0 : decide (t152 < 0) = false := decide_eq_false c9
        clear c9
        by_cases c10 : t152 = t150
        · rw [if_pos c10] at H
          have c10b0 : (t152 == t150) = true := beq_iff_eq.mpr c10
          have c10b1 : (t152 != t150) = false := bne_eq_false_iff_eq.mpr c10
          clear c10
          replace H := Option.bind_eq_some_iff.mp H
          obtain ⟨t153, A110, H⟩ := H
          replace H : ((laws_eqByteS.f k t153 t143).bind fun t156 => (if t156 = true then ((laws_heldByteS.f k t151 1).bind fun t157 => (if t157 < 0 then (some false) else (if t157 = t150 then (some true) else (some false)))) else (some false))) = some r := H
          have A11 := Aside0.mk A110
          clear A110
          replace H := Option.bind_eq_some_iff.mp H
          obtain ⟨t156, A120, H⟩ := H
          replace H : (if t156 = true then ((laws_heldByteS.f k t151 1).bind fun t157 => (if t157 < 0 then (some false) else (if t157 = t150 then (some true) else (some false)))) else (some false)) = some r := H
          have A12 := Aside0.mk A120
          clear A120
          by_cases c13 : t156 = true
          · subst c13
            have H1 : ((laws_heldByteS.f k t151 1).bind fun t157 => (if t157 < 0 then (some false) else (if t157 = t150 then (some true) else (some false)))) = some r := by rw [if_pos rfl] at H; exact H
            clear H
            have H := H1
            clear H1
            replace H := Option.bind_eq_some_iff.mp H
            obtain ⟨t157, A140, H⟩ := H
            replace H : (if t157 < 0 then (some false) else (if t157 = t150 then (some true) else (some false))) = some r := H
            have A14 := Aside0.mk A140
            clear A140
            by_cases c15 : t157 < 0
            · rw [if_pos c15] at H
              have c15b0 : decide (t157 < 0) = true := decide_eq_true c15
              clear c15
              exact absurd ((Option.some.inj H).trans hT.out) (by decide)
            · rw [if_neg c15] at H
              have c15b0 : decide (t157 < 0) = false := decide_eq_false c15
              clear c15
              by_cases c16 : t157 = t150
              · rw [if_pos c16] at H
                have c16b0 : (t157 == t150) = true := beq_iff_eq.mpr c16
                have c16b1 : (t157 != t150) = false := bne_eq_false_iff_eq.mpr c16
                clear c16
                obtain rfl := Option.some.inj H
                go_enter Try.func11, Try.ntmps11
                go_wp2_with (first | ((with_reducible refine gate_callee (f := 38) rfl ?_); refine goesL_ (some 12) rfl rfl Try.func38 (by kernel_rfl) rfl #[.string a0] rfl (by (try simp only [List.map_toArray, List.map_cons, List.map_nil]); first | done | rfl | (simp only [List.length_drop, List.length_take]; rfl)) ?_; (with_reducible refine (spec_PutText.calls k a0 t143 _ A3.out).mono ?_); rintro e w17 ⟨v144, rfl, ho0, hb⟩; refine ⟨_, rfl, ?_⟩; have n0_ := Aside0.mk (Kd.R_lower ho0 (below_size (by repeat (first | (with_reducible first | exact HB.out | apply below_alloc | apply pw_below_drewN | apply below_drew1) | exact HB.out)))); have n1_ := Aside0.mk (below_step (by repeat (first | (with_reducible first | exact HB.out | apply below_alloc | apply pw_below_drewN | apply below_drew1) | exact HB.out)) hb); clear HB; have HO145 := n0_; have HB := n1_; clear n0_ n1_; (try clear hb); (try clear hb2); (try clear hk); (try clear hi); (try clear ho0)) | ((with_reducible refine gate_callee (f := 39) rfl ?_); refine goesL_ (some 14) rfl rfl Try.func39 (by kernel_rfl) rfl #[.string a0] rfl (by (try simp only [List.map_toArray, List.map_cons, List.map_nil]); first | done | rfl | (simp only [List.length_drop, List.length_take]; rfl)) ?_; (with_reducible refine (impl_PutText.calls k a0 t146 _ A4.out).mono ?_); rintro e w18 ⟨v147, rfl, ho0, hb⟩; refine ⟨_, rfl, ?_⟩; have n0_ := Aside0.mk (Kd.R_elder' (by (with_reducible repeat (first | apply Kd.R_alloc | apply Kd.R_drewN | apply Kd.R_drew)); exact HO145.out) (Kd.R_base ho0) hb); have n1_ := Aside0.mk (Kd.R_lower (Kd.R_new' ho0 (Kd.R_lt (by (with_reducible repeat (first | apply Kd.R_alloc | apply Kd.R_drewN | apply Kd.R_drew)); exact HO145.out))) (below_size (by repeat (first | (with_reducible first | exact HB.out | apply below_alloc | apply pw_below_drewN | apply below_drew1) | exact HB.out)))); have n2_ := Aside0.mk (below_step (by repeat (first | (with_reducible first | exact HB.out | apply below_alloc | apply pw_below_drewN | apply below_drew1) | exact HB.out)) hb); clear HO145; clear HB; have HO145 := n0_; have HO148 := n1_; have HB := n2_; clear n0_ n1_ n2_; (try clear hb); (try clear hb2); (try clear hk); (try clear hi); (try clear ho0); obtain ⟨Ao19, co19, eo19⟩ := Kd.R_slice HO148.out; subst eo19; obtain ⟨Ao20, co20, eo20⟩ := Kd.R_slice HO145.out; subst eo20) | ((with_reducible refine gate_callee (f := 24) rfl ?_); refine goesL_ (some 17) rfl rfl Try.func24 (by kernel_rfl) rfl #[.slice Ao19 t146.length co19, .slice Ao20 t143.length co20] rfl (by (try simp only [List.map_toArray, List.map_cons, List.map_nil]); first | done | rfl | (simp only [List.length_drop, List.length_take]; rfl)) ?_; (with_reducible refine (laws_eqByteS.calls k _ _ t146 _ _ t143 true _ ?side1 ?side2 ?side3 ?side4 A5.out).mono ?_); (case side1 => repeat (first | exact (Kd.R_reads' HO148.out).2.2 | (with_reducible refine Kd.C_alloc ?_ _) | (with_reducible refine Kd.C_drewN ?_ _) | (with_reducible refine Kd.C_drew ?_))); (case side2 => exact (Kd.R_reads' HO148.out).2.1); (case side3 => repeat (first | exact (Kd.R_reads' HO145.out).2.2 | (with_reducible refine Kd.C_alloc ?_ _) | (with_reducible refine Kd.C_drewN ?_ _) | (with_reducible refine Kd.C_drew ?_))); (case side4 => exact (Kd.R_reads' HO145.out).2.1); rintro e w' ⟨rfl, ⟨nd, rfl⟩⟩; refine ⟨_, rfl, ?_⟩) | ((with_reducible refine gate_callee (f := 34) rfl ?_); refine goesL_ (some 21) rfl rfl Try.func34 (by kernel_rfl) rfl #[.slice Ao19 t146.length co19, .int .i64 1] rfl (by (try simp only [List.map_toArray, List.map_cons, List.map_nil]); first | done | rfl | (simp only [List.length_drop, List.length_take]; rfl)) ?_; (with_reducible refine (laws_markByteS.calls k (fun k_ => some k_ = (.slice Ao19 t146.length co19 : Value).ownBlock) (.slice Ao19 t146.length co19) t146 1 t150 t151 w _ ?side1 ?side2 A7.out).mono ?_); (case side1 => repeat (first | (with_reducible first | exact HB.out | apply below_alloc | apply pw_below_drewN | apply below_drew1) | exact HB.out)); (case side2 => exact Kd.R_tight rfl HO148.out); rintro e w21 ⟨rfl, hy0, hb, hkp⟩; refine ⟨_, rfl, ?_⟩; have n0_ := Aside0.mk (Kd.R_mono (ok' := fun k_ => some k_ ≠ (.slice Ao19 t146.length co19 : Value).ownBlock) (Kd.R_keptB (HO145.out) hkp (fun k_ hk_ hs_ => (hk_.2) hs_)) (fun k_ hk_ => hk_.1.2)); have n1_ := Aside0.mk (Kd.R_reok rfl hy0 (fun k_ e_ => HO148.out.1 k_ e_)); have n2_ := Aside0.mk (hb); clear HO145; clear HO148; clear HB; have HO145 := n0_; have HO148 := n1_; have HB := n2_; clear n0_ n1_ n2_; (try clear hb); (try clear hkp); (try clear hy0)) | ((with_reducible refine gate_callee (f := 35) rfl ?_); refine goesL_ (some 24) rfl rfl Try.func35 (by kernel_rfl) rfl #[.slice Ao19 t151.length co19, .int .i64 1] rfl (by (try simp only [List.map_toArray, List.map_cons, List.map_nil]); first | done | (rw [show t151.length = t146.length from (Kd.R_reads' HO148.out).1.symm] <;> rfl) | rfl | (simp only [List.length_drop, List.length_take]; rfl)) ?_; (with_reducible refine (laws_heldByteS.calls k _ _ t151 1 t152 _ ?side1 ?side2 A8.out).mono ?_); (case side1 => repeat (first | exact (Kd.R_reads' HO148.out).2.2 | (with_reducible refine Kd.C_alloc ?_ _) | (with_reducible refine Kd.C_drewN ?_ _) | (with_reducible refine Kd.C_drew ?_))); (case side2 => rw [show t151.length = t146.length from (Kd.R_reads' HO148.out).1.symm]; exact (Kd.R_reads' HO148.out).2.1); rintro e w' ⟨rfl, ⟨nd, rfl⟩⟩; refine ⟨_, rfl, ?_⟩) | ((with_reducible refine gate_callee (f := 39) rfl ?_); refine goesL_ (some 31) rfl rfl Try.func39 (by kernel_rfl) rfl #[.string a0] rfl (by (try simp only [List.map_toArray, List.map_cons, List.map_nil]); first | done | rfl | (simp only [List.length_drop, List.length_take]; rfl)) ?_; (with_reducible refine (impl_PutText.calls k a0 t153 _ A11.out).mono ?_); rintro e w22 ⟨v154, rfl, ho0, hb⟩; refine ⟨_, rfl, ?_⟩; have n0_ := Aside0.mk (Kd.R_elder' (by (with_reducible repeat (first | apply Kd.R_alloc | apply Kd.R_drewN | apply Kd.R_drew)); exact HO145.out) (Kd.R_base ho0) hb); have n1_ := Aside0.mk (Kd.R_elder' (by (with_reducible repeat (first | apply Kd.R_alloc | apply Kd.R_drewN | apply Kd.R_drew)); exact HO148.out) (Kd.R_base ho0) hb); have n2_ := Aside0.mk (Kd.R_lower (Kd.R_new' (Kd.R_new' ho0 (Kd.R_lt (by (with_reducible repeat (first | apply Kd.R_alloc | apply Kd.R_drewN | apply Kd.R_drew)); exact HO145.out))) (Kd.R_lt (by (with_reducible repeat (first | apply Kd.R_alloc | apply Kd.R_drewN | apply Kd.R_drew)); exact HO148.out))) (below_size (by repeat (first | (with_reducible first | exact HB.out | apply below_alloc | apply pw_below_drewN | apply below_drew1) | exact HB.out)))); have n3_ := Aside0.mk (below_step (by repeat (first | (with_reducible first | exact HB.out | apply below_alloc | apply pw_below_drewN | apply below_drew1) | exact HB.out)) hb); clear HO145; clear HO148; clear HB; have HO145 := n0_; have HO148 := n1_; have HO155 := n2_; have HB := n3_; clear n0_ n1_ n2_ n3_; (try clear hb); (try clear hb2); (try clear hk); (try clear hi); (try clear ho0); obtain ⟨Ao23, co23, eo23⟩ := Kd.R_slice HO155.out; subst eo23) | ((with_reducible refine gate_callee (f := 24) rfl ?_); refine goesL_ (some 34) rfl rfl Try.func24 (by kernel_rfl) rfl #[.slice Ao23 t153.length co23, .slice Ao20 t143.length co20] rfl (by (try simp only [List.map_toArray, List.map_cons, List.map_nil]); first | done | rfl | (simp only [List.length_drop, List.length_take]; rfl)) ?_; (with_reducible refine (laws_eqByteS.calls k _ _ t153 _ _ t143 true _ ?side1 ?side2 ?side3 ?side4 A12.out).mono ?_); (case side1 => repeat (first | exact (Kd.R_reads' HO155.out).2.2 | (with_reducible refine Kd.C_alloc ?_ _) | (with_reducible refine Kd.C_drewN ?_ _) | (with_reducible refine Kd.C_drew ?_))); (case side2 => exact (Kd.R_reads' HO155.out).2.1); (case side3 => repeat (first | exact (Kd.R_reads' HO145.out).2.2 | (with_reducible refine Kd.C_alloc ?_ _) | (with_reducible refine Kd.C_drewN ?_ _) | (with_reducible refine Kd.C_drew ?_))); (case side4 => exact (Kd.R_reads' HO145.out).2.1); rintro e w' ⟨rfl, ⟨nd, rfl⟩⟩; refine ⟨_, rfl, ?_⟩) | ((with_reducible refine gate_callee (f := 35) rfl ?_); refine goesL_ (some 38) rfl rfl Try.func35 (by kernel_rfl) rfl #[.slice Ao19 t151.length co19, .int .i64 1] rfl (by (try simp only [List.map_toArray, List.map_cons, List.map_nil]); first | done | (rw [show t151.length = t146.length from (Kd.R_reads' HO148.out).1.symm] <;> rfl) | rfl | (simp only [List.length_drop, List.length_take]; rfl)) ?_; (with_reducible refine (laws_heldByteS.calls k _ _ t151 1 t157 _ ?side1 ?side2 A14.out).mono ?_); (case side1 => repeat (first | exact (Kd.R_reads' HO148.out).2.2 | (with_reducible refine Kd.C_alloc ?_ _) | (with_reducible refine Kd.C_drewN ?_ _) | (with_reducible refine Kd.C_drew ?_))); (case side2 => rw [show t151.length = t146.length from (Kd.R_reads' HO148.out).1.symm]; exact (Kd.R_reads' HO148.out).2.1); rintro e w' ⟨rfl, ⟨nd, rfl⟩⟩; refine ⟨_, rfl, ?_⟩))
                go_ret
                exact ⟨by first | rfl | (simp [errW_none, errW_some] <;> rfl) | (simp [*, errW_none, errW_some] <;> rfl), by repeat (first | (with_reducible first | exact HB.out | apply below_alloc | apply pw_below_drewN | apply below_drew1) | exact HB.out)⟩
              · rw [if_neg c16] at H
                have c16b0 : (t157 == t150) = false := beq_eq_false_iff_ne.mpr c16
                have c16b1 : (t157 != t150) = true := bne_iff_ne.mpr c16
                exact absurd ((Option.some.inj H).trans hT.out) (by decide)
          · replace c13 := Bool.eq_false_iff.mpr c13
            subst c13
            have H1 : (some false) = some r := by rw [if_neg (show ¬ (false = true) by decide)] at H; exact H
            clear H
            have H := H1
            clear H1
            exact absurd ((Option.some.inj H).trans hT.out) (by decide)
        · rw [if_neg c10] at H
          have c10b0 : (t152 == t150) = false := beq_eq_false_iff_ne.mpr c10
          have c10b1 : (t152 != t150) = true := bne_iff_ne.mpr c10
          exact absurd ((Option.some.inj H).trans hT.out) (by decide)
    · replace c6 := Bool.eq_false_iff.mpr c6
      subst c6
      have H1 : (some false) = some r := by rw [if_neg (show ¬ (false = true) by decide)] at H; exact H
      clear H
      have H := H1
      clear H1
      exact absurd ((Option.some.inj H).trans hT.out) (by decide)

/-- THE ONE PURE STATEMENT of laws_FnExactPutText: yours. -/
def laws_FnExactPutText.Pure : Prop := ∀ (a0 : ByteArray), a0.size ≤ 140737488351232 → ∃ k, laws_FnExactPutText.f k a0 = some true
theorem laws_FnExactPutText.walk (P : laws_FnExactPutText.Pure) (a0 : ByteArray) (w : World) (w0 : a0.size ≤ 140737488351232) :
    Calls Try.prog 11 #[.string a0] w fun e w' => e = .returned (.bool true) ∧ Below w.heap.size w w' := by
  obtain ⟨k, h⟩ := P a0 w0
  refine (laws_FnExactPutText.calls k a0 true ⟨rfl⟩ w h).mono ?_
  rintro e w' ⟨rfl, hd⟩
  exact ⟨rfl, hd⟩

end Go.Proofs.Ytdikjefddgbkfaa.PFnExactPutText
