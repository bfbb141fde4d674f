/- The law FnExactNameOk answers true at every input; no condition. -/
import Derived.Test.YtdikjefddgbkfaaPFnExactNameOkx1
import Derived.Test.YtdikjefddgbkfaaLibM
namespace Go.Proofs.Ytdikjefddgbkfaa.Pure
open Go.RowKit Go.Proofs.Ytdikjefddgbkfaa.PFnExactNameOk Go.Proofs.YtdikjefddgbkfaaW.PrintWords Go.Proofs.YtdikjefddgbkfaaW.PrintLast Go.Proofs.YtdikjefddgbkfaaW.PrintMore Go.Proofs.Ytdikjefddgbkfaa.Lib
set_option linter.unusedVariables false

/-! ### spec_NameOk -/
theorem spec_NameOk_l0 (s : ByteArray) (hl : s.size ≤ 1000000000000) : ∀ (d i : Nat), s.size - i = d → i ≤ s.size → Ev (fun k => spec_NameOk.l0 k s (i : Int)) (nameOkB s i d) := by
  intro d
  induction d with
  | zero =>
    intro i hd hi
    refine Ev.step (f := fun _ => some (nameOkB s i 0)) (fun k => ?_) (Ev.now _)
    simp only [spec_NameOk.l0, spec_l1In.f, nameOkB]
    rw [if_neg (by omega)]
    by_cases c : (s.size : Int) ≥ 1
    · rw [if_pos c]
      simp only [Option.bind_some]
      congr 1
      exact decide_eq_decide.2 (by omega)
    · rw [if_neg c]
      simp only [Option.bind_some]
      congr 1
      exact (decide_eq_false (by omega)).symm
  | succ d ih =>
    intro i hd hi
    have h : i < s.size := by omega
    simp only [nameOkB]
    by_cases c1 : bt s (i : Int) < 97
    · rw [if_pos (Or.inl c1)]
      refine Ev.step (f := fun _ => some false) (fun k => ?_) (Ev.now _)
      simp only [spec_NameOk.l0]
      rw [if_pos (by omega), if_pos (by omega), if_pos c1]
    · by_cases c2 : bt s (i : Int) > 122
      · rw [if_pos (Or.inr c2)]
        refine Ev.step (f := fun _ => some false) (fun k => ?_) (Ev.now _)
        simp only [spec_NameOk.l0]
        rw [if_pos (by omega), if_pos (by omega), if_neg c1, if_pos c2]
      · rw [if_neg (by omega)]
        refine Ev.step (f := fun k => spec_NameOk.l0 k s ((i + 1 : Nat) : Int)) (fun k => ?_) (ih (i + 1) (by omega) (by omega))
        simp only [spec_NameOk.l0]
        rw [if_pos (by omega), if_pos (by omega), if_neg c1, if_neg c2, wsucc (by omega)]
theorem spec_NameOk_ev (s : ByteArray) (hl : s.size ≤ 1000000000000) : Ev (fun k => spec_NameOk.f k s) (nameOkB s 0 s.size) := by
  unfold spec_NameOk.f
  exact spec_NameOk_l0 s hl s.size 0 (by omega) (by omega)

/-! ### impl_NameOk -/
theorem impl_NameOk_l0 (s : ByteArray) (hl : s.size ≤ 1000000000000) : ∀ (d i : Nat), s.size - i = d → i ≤ s.size → Ev (fun k => impl_NameOk.l0 k s (s.size : Int) (i : Int)) (nameOkB s i d) := by
  intro d
  induction d with
  | zero =>
    intro i hd hi
    refine Ev.step (f := fun _ => some (nameOkB s i 0)) (fun k => ?_) (Ev.now _)
    simp only [impl_NameOk.l0, impl_in.f, nameOkB]
    rw [if_neg (by omega)]
    by_cases c : (s.size : Int) ≥ 1
    · rw [if_pos c]
      simp only [Option.bind_some]
      congr 1
      exact decide_eq_decide.2 (by omega)
    · rw [if_neg c]
      simp only [Option.bind_some]
      congr 1
      exact (decide_eq_false (by omega)).symm
  | succ d ih =>
    intro i hd hi
    have h : i < s.size := by omega
    simp only [nameOkB]
    by_cases c1 : bt s (i : Int) < 97
    · rw [if_pos (Or.inl c1)]
      refine Ev.step (f := fun _ => some false) (fun k => ?_) (Ev.now _)
      simp only [impl_NameOk.l0]
      rw [if_pos (by omega), if_pos (by omega), if_pos (by omega), if_pos c1]
    · by_cases c2 : bt s (i : Int) > 122
      · rw [if_pos (Or.inr c2)]
        refine Ev.step (f := fun _ => some false) (fun k => ?_) (Ev.now _)
        simp only [impl_NameOk.l0]
        rw [if_pos (by omega), if_pos (by omega), if_pos (by omega), if_neg c1, if_pos c2]
      · rw [if_neg (by omega)]
        refine Ev.step (f := fun k => impl_NameOk.l0 k s (s.size : Int) ((i + 1 : Nat) : Int)) (fun k => ?_) (ih (i + 1) (by omega) (by omega))
        simp only [impl_NameOk.l0]
        rw [if_pos (by omega), if_pos (by omega), if_pos (by omega), if_neg c1, if_neg c2, wsucc (by omega)]
theorem impl_NameOk_ev (s : ByteArray) (hl : s.size ≤ 1000000000000) : Ev (fun k => impl_NameOk.f k s) (nameOkB s 0 s.size) := by
  unfold impl_NameOk.f
  exact impl_NameOk_l0 s hl s.size 0 (by omega) (by omega)

/-! ### laws_FnExactNameOk -/
theorem FnExactNameOk : laws_FnExactNameOk.Pure := by
  intro s _
  unfold laws_FnExactNameOk.f
  by_cases c : (s.size : Int) > 1048576
  · exact ⟨0, by rw [if_pos c]⟩
  · obtain ⟨K1, h1⟩ := spec_NameOk_ev s (by omega)
    obtain ⟨K2, h2⟩ := impl_NameOk_ev s (by omega)
    refine ⟨K1 + K2, ?_⟩
    rw [if_neg c]
    simp only [h1 _ (show K1 ≤ K1 + K2 by omega), h2 _ (show K2 ≤ K1 + K2 by omega), Option.bind_some]
    simp

end Go.Proofs.Ytdikjefddgbkfaa.Pure
