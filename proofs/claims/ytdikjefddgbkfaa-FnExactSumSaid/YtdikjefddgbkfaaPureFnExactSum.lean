/- The law FnExactSum answers true at every input; no condition. -/
import Derived.Test.YtdikjefddgbkfaaPFnExactSumx1
import Derived.Test.YtdikjefddgbkfaaLibM
namespace Go.Proofs.Ytdikjefddgbkfaa.Pure
open Go.RowKit Go.Proofs.Ytdikjefddgbkfaa.PFnExactSum Go.Proofs.YtdikjefddgbkfaaW.PrintWords Go.Proofs.YtdikjefddgbkfaaW.PrintLast Go.Proofs.YtdikjefddgbkfaaW.PrintMore Go.Proofs.Ytdikjefddgbkfaa.Lib
set_option linter.unusedVariables false

/-! ### laws_toByteS -/
theorem toByteS_l0 (l : List Int) (hl : l.length ≤ 17592186044416) : ∀ (n i : Nat) (x : List Int), l.length - i = n → i ≤ l.length → x.length = l.length → (∀ j, j < i → x[j]? = l[j]?) →
    Ev (fun k => laws_toByteS.l0 k l x (i : Int)) l := by
  intro n
  induction n with
  | zero =>
    intro i x hn hi hx hj
    have : i = l.length := by omega
    subst this
    have e : x = l := List.ext_getElem? fun j => by
      by_cases h : j < l.length
      · exact hj j h
      · rw [List.getElem?_eq_none (by omega), List.getElem?_eq_none (by omega)]
    subst e
    refine Ev.step (f := fun _ => some x) (fun k => ?_) (Ev.now _)
    simp only [laws_toByteS.l0]
    rw [if_neg (by omega)]
  | succ n ih =>
    intro i x hn hi hx hj
    have h : i < l.length := by omega
    refine Ev.step (f := fun k => laws_toByteS.l0 k l (x.set i l[i]) ((i + 1 : Nat) : Int)) (fun k => ?_) (ih (i + 1) (x.set i l[i]) (by omega) (by omega) (by simpa using hx) ?_)
    · simp only [laws_toByteS.l0]
      rw [if_pos (by omega), if_pos (by omega), if_pos (by omega), rd_at h, wsucc (by omega)]
      rfl
    · intro j hj'
      rw [List.getElem?_set]
      by_cases e : i = j
      · subst e
        rw [if_pos rfl, if_pos (by omega), List.getElem?_eq_getElem h]
      · rw [if_neg e]
        exact hj j (by omega)
theorem toByteS_ev (l : List Int) (hl : l.length ≤ 17592186044416) : Ev (fun k => laws_toByteS.f k l) l := by
  unfold laws_toByteS.f
  exact ev_pos (by omega) (ev_pos (by omega) (toByteS_l0 l hl l.length 0 _ (by omega) (by omega) (by simp) (fun j h => by omega)))

/-! ### laws_eqByteS -/
theorem eqByteS_l0 (l : List Int) (hl : l.length ≤ 17592186044416) : ∀ (n i : Nat), l.length - i = n → i ≤ l.length → Ev (fun k => laws_eqByteS.l0 k l l (i : Int)) true := by
  intro n
  induction n with
  | zero =>
    intro i hn hi
    refine Ev.step (f := fun _ => some true) (fun k => ?_) (Ev.now _)
    simp only [laws_eqByteS.l0]
    rw [if_neg (by omega)]
  | succ n ih =>
    intro i hn hi
    refine Ev.step (f := fun k => laws_eqByteS.l0 k l l ((i + 1 : Nat) : Int)) (fun k => ?_) (ih (i + 1) (by omega) (by omega))
    simp only [laws_eqByteS.l0]
    rw [if_pos (by omega), if_pos (by omega), if_pos (by omega), if_pos trivial, wsucc (by omega)]
theorem eqByteS_ev (l : List Int) (hl : l.length ≤ 17592186044416) : Ev (fun k => laws_eqByteS.f k l l) true := by
  unfold laws_eqByteS.f
  simp only [if_true]
  exact eqByteS_l0 l hl l.length 0 (by omega) (by omega)

/-! ### spec_Sum -/
theorem spec_Sum_l0 (l : List Int) (hb : Bytes l) (hl : l.length ≤ 1000000000000) : ∀ (d i : Nat) (n : Int), l.length - i = d → i ≤ l.length → 0 ≤ n → n < 1000003 → Ev (fun k => spec_Sum.l0 k l n (i : Int)) (sumF n (l.drop i)) := by
  intro d
  induction d with
  | zero =>
    intro i n hd hi h0 h1
    rw [List.drop_of_length_le (by omega), sumF_nil]
    refine Ev.step (f := fun _ => some n) (fun k => ?_) (Ev.now _)
    simp only [spec_Sum.l0]
    rw [if_neg (by omega)]
  | succ d ih =>
    intro i n hd hi h0 h1
    have h : i < l.length := by omega
    have hv := hb.at_ h
    rw [List.drop_eq_getElem_cons h, sumF_cons]
    refine Ev.step (f := fun k => spec_Sum.l0 k l ((31 * n + l[i]) % 1000003) ((i + 1 : Nat) : Int)) (fun k => ?_) (ih (i + 1) ((31 * n + l[i]) % 1000003) (by omega) (by omega) (by omega) (by omega))
    simp only [spec_Sum.l0]
    rw [if_pos (by omega), if_pos (by omega), rd_at h, wsucc (by omega), w64 (x := l[i]) (by omega) (by omega), w64 (x := 31 * n) (by omega) (by omega), w64 (by omega) (by omega), Int.tmod_eq_emod_of_nonneg (by omega)]
theorem spec_Sum_ev (l : List Int) (hb : Bytes l) (hl : l.length ≤ 1000000000000) : Ev (fun k => spec_Sum.f k l) (sumF 7 l) := by
  unfold spec_Sum.f
  simpa using spec_Sum_l0 l hb hl l.length 0 7 (by omega) (by omega) (by omega) (by omega)

/-! ### impl_Sum -/
theorem impl_Sum_l0 (l : List Int) (hb : Bytes l) (hl : l.length ≤ 1000000000000) : ∀ (d i : Nat) (n : Int), l.length - i = d → i ≤ l.length → 0 ≤ n → n < 1000003 → Ev (fun k => impl_Sum.l0 k n l (l.length : Int) (i : Int)) (sumF n (l.drop i)) := by
  intro d
  induction d with
  | zero =>
    intro i n hd hi h0 h1
    rw [List.drop_of_length_le (by omega), sumF_nil]
    refine Ev.step (f := fun _ => some n) (fun k => ?_) (Ev.now _)
    simp only [impl_Sum.l0]
    rw [if_neg (by omega)]
  | succ d ih =>
    intro i n hd hi h0 h1
    have h : i < l.length := by omega
    have hv := hb.at_ h
    rw [List.drop_eq_getElem_cons h, sumF_cons]
    refine Ev.step (f := fun k => impl_Sum.l0 k ((31 * n + l[i]) % 1000003) l (l.length : Int) ((i + 1 : Nat) : Int)) (fun k => ?_) (ih (i + 1) ((31 * n + l[i]) % 1000003) (by omega) (by omega) (by omega) (by omega))
    simp only [impl_Sum.l0]
    rw [if_pos (by omega), if_pos (by omega), if_pos (by omega), rd_at h, wsucc (by omega), w64 (x := l[i]) (by omega) (by omega), w64 (x := 31 * n) (by omega) (by omega), w64 (by omega) (by omega), Int.tmod_eq_emod_of_nonneg (by omega)]
theorem impl_Sum_ev (l : List Int) (hb : Bytes l) (hl : l.length ≤ 1000000000000) : Ev (fun k => impl_Sum.f k l) (sumF 7 l) := by
  unfold impl_Sum.f
  simpa using impl_Sum_l0 l hb hl l.length 0 7 (by omega) (by omega) (by omega) (by omega)

/-! ### laws_FnExactSum -/
theorem FnExactSum_pure (l0 : List Int) (h : Bytes l0) : ∃ k, laws_FnExactSum.f k l0 = some true := by
  unfold laws_FnExactSum.f
  by_cases c : (l0.length : Int) > 1048576
  · exact ⟨0, by rw [if_pos c]⟩
  · obtain ⟨K1, h1⟩ := toByteS_ev l0 (by omega)
    obtain ⟨K2, h2⟩ := spec_Sum_ev l0 h (by omega)
    obtain ⟨K3, h3⟩ := impl_Sum_ev l0 h (by omega)
    obtain ⟨K4, h4⟩ := eqByteS_ev l0 (by omega)
    refine ⟨K1 + K2 + K3 + K4, ?_⟩
    rw [if_neg c]
    simp only [h1 _ (show K1 ≤ K1 + K2 + K3 + K4 by omega), h2 _ (show K2 ≤ K1 + K2 + K3 + K4 by omega), h3 _ (show K3 ≤ K1 + K2 + K3 + K4 by omega), h4 _ (show K4 ≤ K1 + K2 + K3 + K4 by omega), Option.bind_some, if_true]
theorem FnExactSum : laws_FnExactSum.Pure := fun l0 _ _ h => FnExactSum_pure l0 (bytes_of h)

end Go.Proofs.Ytdikjefddgbkfaa.Pure
