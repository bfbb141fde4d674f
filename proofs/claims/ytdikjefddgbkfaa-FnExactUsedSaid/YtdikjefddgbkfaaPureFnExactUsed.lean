/- The law FnExactUsed answers true at every input; no condition. -/
import Derived.Test.YtdikjefddgbkfaaPFnExactUsedx1
import Derived.Test.YtdikjefddgbkfaaLibM
namespace Go.Proofs.Ytdikjefddgbkfaa.Pure
open Go.RowKit Go.Proofs.Ytdikjefddgbkfaa.PFnExactUsed Go.Proofs.YtdikjefddgbkfaaW.PrintWords Go.Proofs.YtdikjefddgbkfaaW.PrintLast Go.Proofs.YtdikjefddgbkfaaW.PrintMore Go.Proofs.Ytdikjefddgbkfaa.Lib
set_option linter.unusedVariables false

/-! ### laws_szStringS -/
theorem szStringS_l0 (l : List ByteArray) (hl : l.length ≤ 1048576) (hs : ∀ x ∈ l, x.size ≤ maxLen) : ∀ (d i : Nat) (n : Int), l.length - i = d → i ≤ l.length → 0 ≤ n → n ≤ 1048576 →
    Ev (fun k => laws_szStringS.l0 k l n (i : Int)) (left_ n (total (l.drop i))) := by
  intro d
  induction d with
  | zero =>
    intro i n hd hi h0 h1
    rw [List.drop_of_length_le (by omega), total_nil]
    refine Ev.step (f := fun _ => some n) (fun k => ?_) (ev_eq ?_)
    · simp only [laws_szStringS.l0]
      rw [if_neg (by omega)]
    · unfold left_
      rw [if_neg (by omega)]
      simp
  | succ d ih =>
    intro i n hd hi h0 h1
    have h : i < l.length := by omega
    have hx := hs _ (List.getElem_mem h)
    unfold maxLen at hx
    rw [List.drop_eq_getElem_cons h, total_cons]
    by_cases c : n - (l[i].size : Int) < 0
    · refine Ev.step (f := fun _ => some (-1)) (fun k => ?_) (ev_eq ?_)
      · simp only [laws_szStringS.l0]
        rw [if_pos (by omega), if_pos (by omega), rds_at h, w64 (x := n - (l[i].size : Int)) (by omega) (by omega), if_pos c]
      · unfold left_
        rw [if_pos (by omega)]
    · have e := ih (i + 1) (n - (l[i].size : Int)) (by omega) (by omega) (by omega) (by omega)
      have e2 : left_ (n - (l[i].size : Int)) (total (l.drop (i + 1))) = left_ n (l[i].size + total (l.drop (i + 1))) := by
        unfold left_
        rw [show n - ((l[i].size + total (l.drop (i + 1)) : Nat) : Int) = n - (l[i].size : Int) - (total (l.drop (i + 1)) : Nat) by omega]
      rw [← e2]
      refine Ev.step (fun k => ?_) e
      simp only [laws_szStringS.l0]
      rw [if_pos (by omega), if_pos (by omega), rds_at h, w64 (x := n - (l[i].size : Int)) (by omega) (by omega), if_neg c, wsucc (by omega)]
theorem szStringS_ev (l : List ByteArray) (n : Int) (hl : l.length ≤ maxLen) (hs : ∀ x ∈ l, x.size ≤ maxLen) (h0 : 0 ≤ n) (h1 : n ≤ 1048576) :
    Ev (fun k => laws_szStringS.f k l n) (left_ n (l.length + total l)) := by
  unfold maxLen at hl
  unfold laws_szStringS.f
  rw [w64 (x := n - (l.length : Int)) (by omega) (by omega)]
  by_cases c : n - (l.length : Int) < 0
  · refine ev_pos c (ev_eq ?_)
    unfold left_
    rw [if_pos (by omega)]
  · refine ev_neg c ?_
    have e := szStringS_l0 l (by omega) hs l.length 0 (n - (l.length : Int)) (by omega) (by omega) (by omega) (by omega)
    have e2 : left_ (n - (l.length : Int)) (total l) = left_ n (l.length + total l) := by
      unfold left_
      rw [show n - ((l.length + total l : Nat) : Int) = n - (l.length : Int) - (total l : Nat) by omega]
    rw [← e2]
    simpa using e

/-! ### laws_toStringS -/
theorem toStringS_l0 (l : List ByteArray) (hl : l.length ≤ 17592186044416) : ∀ (n i : Nat) (x : List ByteArray), l.length - i = n → i ≤ l.length → x.length = l.length → (∀ j, j < i → x[j]? = l[j]?) →
    Ev (fun k => laws_toStringS.l0 k l x (i : Int)) l := by
  intro n
  induction n with
  | zero =>
    intro i x hn hi hx hj
    have : i = l.length := by omega
    subst this
    have e : x = l := List.ext_getElem? fun j => by
      by_cases h : j < l.length
      · exact hj j h
      · rw [List.getElem?_eq_none (by omega), List.getElem?_eq_none (by omega)]
    subst e
    refine Ev.step (f := fun _ => some x) (fun k => ?_) (Ev.now _)
    simp only [laws_toStringS.l0]
    rw [if_neg (by omega)]
  | succ n ih =>
    intro i x hn hi hx hj
    have h : i < l.length := by omega
    refine Ev.step (f := fun k => laws_toStringS.l0 k l (x.set i l[i]) ((i + 1 : Nat) : Int)) (fun k => ?_) (ih (i + 1) (x.set i l[i]) (by omega) (by omega) (by simpa using hx) ?_)
    · simp only [laws_toStringS.l0]
      rw [if_pos (by omega), if_pos (by omega), if_pos (by omega), rds_at h, wsucc (by omega)]
      rfl
    · intro j hj'
      rw [List.getElem?_set]
      by_cases e : i = j
      · subst e
        rw [if_pos rfl, if_pos (by omega), List.getElem?_eq_getElem h]
      · rw [if_neg e]
        exact hj j (by omega)
theorem toStringS_ev (l : List ByteArray) (hl : l.length ≤ 17592186044416) : Ev (fun k => laws_toStringS.f k l) l := by
  unfold laws_toStringS.f
  exact ev_pos (by omega) (ev_pos (by omega) (toStringS_l0 l hl l.length 0 _ (by omega) (by omega) (by simp) (fun j h => by omega)))

/-! ### laws_eqStringS -/
theorem eqStringS_l0 (l : List ByteArray) (hl : l.length ≤ 17592186044416) : ∀ (n i : Nat), l.length - i = n → i ≤ l.length → Ev (fun k => laws_eqStringS.l0 k l l (i : Int)) true := by
  intro n
  induction n with
  | zero =>
    intro i hn hi
    refine Ev.step (f := fun _ => some true) (fun k => ?_) (Ev.now _)
    simp only [laws_eqStringS.l0]
    rw [if_neg (by omega)]
  | succ n ih =>
    intro i hn hi
    refine Ev.step (f := fun k => laws_eqStringS.l0 k l l ((i + 1 : Nat) : Int)) (fun k => ?_) (ih (i + 1) (by omega) (by omega))
    simp only [laws_eqStringS.l0]
    rw [if_pos (by omega), if_pos (by omega), if_pos (by omega), if_pos trivial, wsucc (by omega)]
theorem eqStringS_ev (l : List ByteArray) (hl : l.length ≤ 17592186044416) : Ev (fun k => laws_eqStringS.f k l l) true := by
  unfold laws_eqStringS.f
  simp only [if_true]
  exact eqStringS_l0 l hl l.length 0 (by omega) (by omega)

/-! ### spec_Used -/
theorem spec_Used_l0 (l : List ByteArray) (hl : l.length ≤ 1000000000000) : ∀ (d i : Nat) (n : Int), l.length - i = d → i ≤ l.length → 0 ≤ n → n ≤ i →
    Ev (fun k => spec_Used.l0 k l n (i : Int)) (n + ((l.drop i).filter (fun x => x.size != 0)).length) := by
  intro d
  induction d with
  | zero =>
    intro i n hd hi h0 h1
    rw [List.drop_of_length_le (by omega)]
    refine Ev.step (f := fun _ => some n) (fun k => ?_) (ev_eq (by simp))
    simp only [spec_Used.l0]
    rw [if_neg (by omega)]
  | succ d ih =>
    intro i n hd hi h0 h1
    have h : i < l.length := by omega
    rw [List.drop_eq_getElem_cons h]
    by_cases c : l[i].size = 0
    · have e := ih (i + 1) n (by omega) (by omega) h0 (by omega)
      rw [List.filter_cons_of_neg (by simp [c])]
      refine Ev.step (fun k => ?_) e
      simp only [spec_Used.l0]
      rw [if_pos (by omega), if_pos (by omega), rds_at h, if_pos (toList_nil_iff.2 c), wsucc (by omega)]
    · have e := ih (i + 1) (n + 1) (by omega) (by omega) (by omega) (by omega)
      rw [List.filter_cons_of_pos (by simp [c]), List.length_cons, show n + (((l.drop (i + 1)).filter (fun x => x.size != 0)).length + 1 : Nat) = n + 1 + ((l.drop (i + 1)).filter (fun x => x.size != 0)).length by omega]
      refine Ev.step (fun k => ?_) e
      simp only [spec_Used.l0]
      rw [if_pos (by omega), if_pos (by omega), rds_at h, if_neg (fun h => c (toList_nil_iff.1 h)), wsucc (by omega), w64 (by omega) (by omega)]
theorem spec_Used_ev (l : List ByteArray) (hl : l.length ≤ 1000000000000) : Ev (fun k => spec_Used.f k l) ((l.filter (fun x => x.size != 0)).length : Int) := by
  unfold spec_Used.f
  simpa using spec_Used_l0 l hl l.length 0 0 (by omega) (by omega) (by omega) (by omega)

/-! ### impl_Used -/
theorem impl_Used_l0 (l : List ByteArray) (hl : l.length ≤ 1000000000000) : ∀ (d i : Nat) (n : Int), l.length - i = d → i ≤ l.length → 0 ≤ n → n ≤ i →
    Ev (fun k => impl_Used.l0 k n l (l.length : Int) (i : Int)) (n + ((l.drop i).filter (fun x => x.size != 0)).length) := by
  intro d
  induction d with
  | zero =>
    intro i n hd hi h0 h1
    rw [List.drop_of_length_le (by omega)]
    refine Ev.step (f := fun _ => some n) (fun k => ?_) (ev_eq (by simp))
    simp only [impl_Used.l0]
    rw [if_neg (by omega)]
  | succ d ih =>
    intro i n hd hi h0 h1
    have h : i < l.length := by omega
    rw [List.drop_eq_getElem_cons h]
    by_cases c : l[i].size = 0
    · have e := ih (i + 1) n (by omega) (by omega) h0 (by omega)
      rw [List.filter_cons_of_neg (by simp [c])]
      refine Ev.step (fun k => ?_) e
      simp only [impl_Used.l0]
      rw [if_pos (by omega), if_pos (by omega), if_pos (by omega), rds_at h, if_pos (toList_nil_iff.2 c), wsucc (by omega)]
    · have e := ih (i + 1) (n + 1) (by omega) (by omega) (by omega) (by omega)
      rw [List.filter_cons_of_pos (by simp [c]), List.length_cons, show n + (((l.drop (i + 1)).filter (fun x => x.size != 0)).length + 1 : Nat) = n + 1 + ((l.drop (i + 1)).filter (fun x => x.size != 0)).length by omega]
      refine Ev.step (fun k => ?_) e
      simp only [impl_Used.l0]
      rw [if_pos (by omega), if_pos (by omega), if_pos (by omega), rds_at h, if_neg (fun h => c (toList_nil_iff.1 h)), wsucc (by omega), w64 (by omega) (by omega)]
theorem impl_Used_ev (l : List ByteArray) (hl : l.length ≤ 1000000000000) : Ev (fun k => impl_Used.f k l) ((l.filter (fun x => x.size != 0)).length : Int) := by
  unfold impl_Used.f
  simpa using impl_Used_l0 l hl l.length 0 0 (by omega) (by omega) (by omega) (by omega)

/-! ### laws_FnExactUsed -/
theorem FnExactUsed_pure (l : List ByteArray) (w : l.length ≤ maxLen ∧ ∀ x ∈ l, x.size ≤ maxLen) : ∃ k, laws_FnExactUsed.f k l = some true := by
  refine Ev.rounds ?_
  unfold laws_FnExactUsed.f
  refine Ev.bind (szStringS_ev l 1048576 w.1 w.2 (by omega) (by omega)) ?_
  by_cases c : left_ 1048576 (l.length + total l) < 0
  · exact ev_pos c (Ev.now _)
  · have := left_pos c
    refine ev_neg c ?_
    have t := toStringS_ev l (by omega)
    exact Ev.bind t (Ev.bind (spec_Used_ev l (by omega)) (Ev.bind t (Ev.bind (impl_Used_ev l (by omega)) (ev_pos rfl (Ev.bind t (Ev.bind (eqStringS_ev l (by omega)) (ev_pos rfl (Ev.now _))))))))

end Go.Proofs.Ytdikjefddgbkfaa.Pure
