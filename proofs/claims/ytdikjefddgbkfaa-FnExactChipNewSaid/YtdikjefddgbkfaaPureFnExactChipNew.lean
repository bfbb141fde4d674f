/- The law FnExactChipNew answers true at every input; no condition. -/
import Derived.Test.YtdikjefddgbkfaaPFnExactChipNewx3
import Derived.Test.YtdikjefddgbkfaaLibM
namespace Go.Proofs.Ytdikjefddgbkfaa.Pure
open Go.RowKit Go.Proofs.Ytdikjefddgbkfaa.PFnExactChipNew Go.Proofs.YtdikjefddgbkfaaW.PrintWords Go.Proofs.YtdikjefddgbkfaaW.PrintLast Go.Proofs.YtdikjefddgbkfaaW.PrintMore Go.Proofs.Ytdikjefddgbkfaa.Lib
set_option linter.unusedVariables false

/-! ### spec_ChipNew -/
theorem spec_ChipNew_eq : spec_ChipNew.f = some (List.replicate 60 (⟨#[]⟩ : ByteArray), List.replicate 10 0) := by
  unfold spec_ChipNew.f
  rw [if_pos (by omega), if_pos (by omega)]

/-! ### impl_ChipNew -/
theorem impl_ChipNew_eq : impl_ChipNew.f = some (List.replicate 60 (⟨#[]⟩ : ByteArray), List.replicate 10 0) := by
  unfold impl_ChipNew.f
  rw [if_pos (by omega), if_pos (by omega)]

/-! ### laws_eqStringS -/
theorem eqStringS_l0 (l : List ByteArray) (hl : l.length ≤ 17592186044416) : ∀ (n i : Nat), l.length - i = n → i ≤ l.length → Ev (fun k => laws_eqStringS.l0 k l l (i : Int)) true := by
  intro n
  induction n with
  | zero =>
    intro i hn hi
    refine Ev.step (f := fun _ => some true) (fun k => ?_) (Ev.now _)
    simp only [laws_eqStringS.l0]
    rw [if_neg (by omega)]
  | succ n ih =>
    intro i hn hi
    refine Ev.step (f := fun k => laws_eqStringS.l0 k l l ((i + 1 : Nat) : Int)) (fun k => ?_) (ih (i + 1) (by omega) (by omega))
    simp only [laws_eqStringS.l0]
    rw [if_pos (by omega), if_pos (by omega), if_pos (by omega), if_pos trivial, wsucc (by omega)]
theorem eqStringS_ev (l : List ByteArray) (hl : l.length ≤ 17592186044416) : Ev (fun k => laws_eqStringS.f k l l) true := by
  unfold laws_eqStringS.f
  simp only [if_true]
  exact eqStringS_l0 l hl l.length 0 (by omega) (by omega)

/-! ### laws_eqIntS -/
theorem eqIntS_l0 (l : List Int) (hl : l.length ≤ 17592186044416) : ∀ (n i : Nat), l.length - i = n → i ≤ l.length → Ev (fun k => laws_eqIntS.l0 k l l (i : Int)) true := by
  intro n
  induction n with
  | zero =>
    intro i hn hi
    refine Ev.step (f := fun _ => some true) (fun k => ?_) (Ev.now _)
    simp only [laws_eqIntS.l0]
    rw [if_neg (by omega)]
  | succ n ih =>
    intro i hn hi
    refine Ev.step (f := fun k => laws_eqIntS.l0 k l l ((i + 1 : Nat) : Int)) (fun k => ?_) (ih (i + 1) (by omega) (by omega))
    simp only [laws_eqIntS.l0]
    rw [if_pos (by omega), if_pos (by omega), if_pos (by omega), if_pos trivial, wsucc (by omega)]
theorem eqIntS_ev (l : List Int) (hl : l.length ≤ 17592186044416) : Ev (fun k => laws_eqIntS.f k l l) true := by
  unfold laws_eqIntS.f
  simp only [if_true]
  exact eqIntS_l0 l hl l.length 0 (by omega) (by omega)

/-! ### laws_eqChip -/
theorem eqChip_ev (p : List ByteArray) (w : List Int) (hp : p.length ≤ 1000000000000) (hw : w.length ≤ 1000000000000) : Ev (fun k => laws_eqChip.f k p w p w) true := by
  unfold laws_eqChip.f
  exact Ev.bind (eqStringS_ev p (by omega)) (ev_pos rfl (Ev.bind (eqIntS_ev w (by omega)) (ev_pos rfl (Ev.now _))))

/-! ### laws_markText -/
theorem markText_l0 : ∀ (f : Nat) (n : Int) (x : ByteArray), 0 ≤ n → n < 10 ^ f → n < 9223372036854775808 → x.size + f ≤ 1000 → ∃ r, Ev (fun k => laws_markText.l0 k n x) r := by
  intro f
  induction f with
  | zero =>
    intro n x h0 h1 h2 hx
    have h1 : n < 1 := h1
    refine ⟨_, Ev.step (f := fun _ => some ((⟨#[109]⟩ : ByteArray) ++ x)) (fun k => ?_) (Ev.now _)⟩
    simp only [laws_markText.l0]
    rw [if_neg (by omega), if_pos (by omega)]
  | succ f ih =>
    intro n x h0 h1 h2 hx
    by_cases c : n > 0
    · have hs : ∀ y, (strOfNums [y]).size = 1 := fun y => by simp [strOfNums, ByteArray.size]
      obtain ⟨r, hr⟩ := ih (n / 10) (strOfNums [(wrap64 (48 + (Int.tmod n 10))) % 256] ++ x) (by omega) (by rw [Int.pow_succ] at h1; omega) (by omega) (by rw [ByteArray.size_append, hs]; omega)
      refine ⟨r, Ev.step (f := fun k => laws_markText.l0 k (n / 10) (strOfNums [(wrap64 (48 + (Int.tmod n 10))) % 256] ++ x)) (fun k => ?_) hr⟩
      simp only [laws_markText.l0]
      rw [if_pos c]
      simp only [Option.bind_some, hs]
      rw [if_pos (by omega), Int.tdiv_eq_ediv_of_nonneg (by omega), w64 (x := n / 10) (by omega) (by omega)]
    · refine ⟨_, Ev.step (f := fun _ => some ((⟨#[109]⟩ : ByteArray) ++ x)) (fun k => ?_) (Ev.now _)⟩
      simp only [laws_markText.l0]
      rw [if_neg c, if_pos (by omega)]
theorem markText_some (n : Int) (h : n < 9223372036854775808) : ∃ r, Ev (fun k => laws_markText.f k n) r := by
  unfold laws_markText.f
  by_cases c : n ≤ 0
  · exact ⟨_, ev_pos c (Ev.now _)⟩
  · obtain ⟨r, hr⟩ := markText_l0 19 n ⟨#[]⟩ (by omega) (by omega) h (by simp [ByteArray.size])
    exact ⟨r, ev_neg c hr⟩
/-- The mark of a number, as a text. -/
noncomputable def mtx (n : Int) : ByteArray := Classical.epsilon fun r => Ev (fun k => laws_markText.f k n) r
theorem mtx_ev (n : Int) (h : n < 9223372036854775808) : Ev (fun k => laws_markText.f k n) (mtx n) := Classical.epsilon_spec (markText_some n h)

/-! ### laws_markStringS -/
/-- What the marks are. -/
noncomputable def mkStringS (m : Int) (n : Nat) : List ByteArray := (List.range n).map fun j => mtx (m + (j : Nat))
theorem mkStringS_length (m : Int) (n : Nat) : (mkStringS m n).length = n := by simp [mkStringS]
theorem mkStringS_at (m : Int) (n j : Nat) (h : j < (mkStringS m n).length) : (mkStringS m n)[j] = mtx (m + (j : Nat)) := by simp [mkStringS]
theorem markStringS_l0 (m : Int) (N : Nat) (h0 : -1000000000000000000 ≤ m) (h1 : m ≤ 1000000000000000000) (hN : N ≤ 17592186044416) : ∀ (n i : Nat) (x : List ByteArray), N - i = n → i ≤ N → x.length = N → (∀ j, j < i → x[j]? = some (mtx (m + (j : Nat)))) →
    Ev (fun k => laws_markStringS.l0 k x (m + (i : Nat)) (i : Int)) (m + (N : Nat), mkStringS m N) := by
  intro n
  induction n with
  | zero =>
    intro i x hn hi hx hj
    have : i = N := by omega
    subst this
    have e : x = mkStringS m i := List.ext_getElem? fun j => by
      by_cases h : j < i
      · rw [hj j h]
        simp [mkStringS, h]
      · rw [List.getElem?_eq_none (by omega), List.getElem?_eq_none (by rw [mkStringS_length]; omega)]
    subst e
    refine Ev.step (f := fun _ => some (m + (i : Nat), mkStringS m i)) (fun k => ?_) (Ev.now _)
    simp only [laws_markStringS.l0]
    rw [if_neg (by omega)]
  | succ n ih =>
    intro i x hn hi hx hj
    have e2 := Ev.bind (f := fun k t => laws_markStringS.l0 k (x.set i t) (m + ((i + 1 : Nat) : Nat)) ((i + 1 : Nat) : Int)) (mtx_ev (m + (i : Nat)) (by omega)) (ih (i + 1) (x.set i (mtx (m + (i : Nat)))) (by omega) (by omega) (by simpa using hx) ?_)
    · refine Ev.step (fun k => ?_) e2
      simp only [laws_markStringS.l0]
      rw [if_pos (by omega)]
      congr 1
      funext t
      rw [if_pos (by omega), wsucc (by omega), w64 (by omega) (by omega)]
      congr 1
      omega
    · intro j hj'
      rw [List.getElem?_set]
      by_cases e : i = j
      · subst e
        rw [if_pos rfl, if_pos (by omega)]
      · rw [if_neg e]
        exact hj j (by omega)
theorem markStringS_ev (l : List ByteArray) (m : Int) (h0 : -1000000000000000000 ≤ m) (h1 : m ≤ 1000000000000000000) (hl : l.length ≤ 17592186044416) : Ev (fun k => laws_markStringS.f k l m) (m + (l.length : Nat), mkStringS m l.length) := by
  unfold laws_markStringS.f
  have := markStringS_l0 m l.length h0 h1 hl l.length 0 l (by omega) (by omega) rfl (fun j h => by omega)
  simpa using this

/-! ### laws_markIntS -/
/-- What the marks are. -/
def mkIntS (m : Int) (n : Nat) : List Int := (List.range n).map fun j => (m + (j : Nat))
theorem mkIntS_length (m : Int) (n : Nat) : (mkIntS m n).length = n := by simp [mkIntS]
theorem mkIntS_at (m : Int) (n j : Nat) (h : j < (mkIntS m n).length) : (mkIntS m n)[j] = (m + (j : Nat)) := by simp [mkIntS]
theorem markIntS_l0 (m : Int) (N : Nat) (h0 : -1000000000000000000 ≤ m) (h1 : m ≤ 1000000000000000000) (hN : N ≤ 17592186044416) : ∀ (n i : Nat) (x : List Int), N - i = n → i ≤ N → x.length = N → (∀ j, j < i → x[j]? = some (m + (j : Nat))) →
    Ev (fun k => laws_markIntS.l0 k x (m + (i : Nat)) (i : Int)) (m + (N : Nat), mkIntS m N) := by
  intro n
  induction n with
  | zero =>
    intro i x hn hi hx hj
    have : i = N := by omega
    subst this
    have e : x = mkIntS m i := List.ext_getElem? fun j => by
      by_cases h : j < i
      · rw [hj j h]
        simp [mkIntS, h]
      · rw [List.getElem?_eq_none (by omega), List.getElem?_eq_none (by rw [mkIntS_length]; omega)]
    subst e
    refine Ev.step (f := fun _ => some (m + (i : Nat), mkIntS m i)) (fun k => ?_) (Ev.now _)
    simp only [laws_markIntS.l0]
    rw [if_neg (by omega)]
  | succ n ih =>
    intro i x hn hi hx hj
    refine Ev.step (f := fun k => laws_markIntS.l0 k (x.set i (m + (i : Nat))) (m + ((i + 1 : Nat) : Nat)) ((i + 1 : Nat) : Int)) (fun k => ?_) (ih (i + 1) _ (by omega) (by omega) (by simpa using hx) ?_)
    · simp only [laws_markIntS.l0]
      rw [if_pos (by omega), if_pos (by omega), wsucc (by omega), w64 (by omega) (by omega)]
      congr 1
      omega
    · intro j hj'
      rw [List.getElem?_set]
      by_cases e : i = j
      · subst e
        rw [if_pos rfl, if_pos (by omega)]
      · rw [if_neg e]
        exact hj j (by omega)
theorem markIntS_ev (l : List Int) (m : Int) (h0 : -1000000000000000000 ≤ m) (h1 : m ≤ 1000000000000000000) (hl : l.length ≤ 17592186044416) : Ev (fun k => laws_markIntS.f k l m) (m + (l.length : Nat), mkIntS m l.length) := by
  unfold laws_markIntS.f
  have := markIntS_l0 m l.length h0 h1 hl l.length 0 l (by omega) (by omega) rfl (fun j h => by omega)
  simpa using this

/-! ### laws_markChip -/
theorem markChip_ev (p : List ByteArray) (w : List Int) (m : Int) (h0 : 0 ≤ m) (h1 : m ≤ 1000000000000) (hp : p.length ≤ 1000000000000) (hw : w.length ≤ 1000000000000) :
    Ev (fun k => laws_markChip.f k p w m) (m + (p.length : Nat) + (w.length : Nat), mkStringS m p.length, mkIntS (m + (p.length : Nat)) w.length) := by
  unfold laws_markChip.f
  exact Ev.bind (markStringS_ev p m (by omega) (by omega) (by omega)) (Ev.bind (markIntS_ev w (m + (p.length : Nat)) (by omega) (by omega) (by omega)) (Ev.now _))

/-! ### laws_heldStringS -/
theorem heldStringS_l0 (m : Int) (N : Nat) (h0 : -1000000000000000000 ≤ m) (h1 : m ≤ 1000000000000000000) (hN : N ≤ 17592186044416) : ∀ (n i : Nat), N - i = n → i ≤ N →
    Ev (fun k => laws_heldStringS.l0 k (mkStringS m N) (m + (i : Nat)) (i : Int)) (m + (N : Nat)) := by
  intro n
  induction n with
  | zero =>
    intro i hn hi
    have : i = N := by omega
    subst this
    refine Ev.step (f := fun _ => some (m + (i : Nat))) (fun k => ?_) (Ev.now _)
    simp only [laws_heldStringS.l0, mkStringS_length]
    rw [if_neg (by omega)]
  | succ n ih =>
    intro i hn hi
    have h : i < (mkStringS m N).length := by rw [mkStringS_length]; omega
    have e2 := Ev.bind (f := fun k (t : ByteArray) => if (mtx (m + (i : Nat))).toList = t.toList then laws_heldStringS.l0 k (mkStringS m N) (m + ((i + 1 : Nat) : Nat)) ((i + 1 : Nat) : Int) else some (-1)) (mtx_ev (m + (i : Nat)) (by omega)) (ev_pos rfl (ih (i + 1) (by omega) (by omega)))
    refine Ev.step (fun k => ?_) e2
    simp only [laws_heldStringS.l0]
    rw [if_pos (by omega), if_pos (by omega), rds_at h, mkStringS_at]
    congr 1
    funext t
    rw [wsucc (by omega), w64 (by omega) (by omega)]
    congr 2
    omega
theorem heldStringS_ev (m : Int) (N : Nat) (h0 : -1000000000000000000 ≤ m) (h1 : m ≤ 1000000000000000000) (hN : N ≤ 17592186044416) : Ev (fun k => laws_heldStringS.f k (mkStringS m N) m) (m + (N : Nat)) := by
  unfold laws_heldStringS.f
  simpa using heldStringS_l0 m N h0 h1 hN N 0 (by omega) (by omega)

/-! ### laws_heldIntS -/
theorem heldIntS_l0 (m : Int) (N : Nat) (h0 : -1000000000000000000 ≤ m) (h1 : m ≤ 1000000000000000000) (hN : N ≤ 17592186044416) : ∀ (n i : Nat), N - i = n → i ≤ N →
    Ev (fun k => laws_heldIntS.l0 k (mkIntS m N) (m + (i : Nat)) (i : Int)) (m + (N : Nat)) := by
  intro n
  induction n with
  | zero =>
    intro i hn hi
    have : i = N := by omega
    subst this
    refine Ev.step (f := fun _ => some (m + (i : Nat))) (fun k => ?_) (Ev.now _)
    simp only [laws_heldIntS.l0, mkIntS_length]
    rw [if_neg (by omega)]
  | succ n ih =>
    intro i hn hi
    have h : i < (mkIntS m N).length := by rw [mkIntS_length]; omega
    refine Ev.step (f := fun k => laws_heldIntS.l0 k (mkIntS m N) (m + ((i + 1 : Nat) : Nat)) ((i + 1 : Nat) : Int)) (fun k => ?_) (ih (i + 1) (by omega) (by omega))
    simp only [laws_heldIntS.l0]
    rw [if_pos (by omega), if_pos (by omega), rd_at h, mkIntS_at, if_pos rfl, wsucc (by omega), w64 (by omega) (by omega)]
    congr 1
    omega
theorem heldIntS_ev (m : Int) (N : Nat) (h0 : -1000000000000000000 ≤ m) (h1 : m ≤ 1000000000000000000) (hN : N ≤ 17592186044416) : Ev (fun k => laws_heldIntS.f k (mkIntS m N) m) (m + (N : Nat)) := by
  unfold laws_heldIntS.f
  simpa using heldIntS_l0 m N h0 h1 hN N 0 (by omega) (by omega)

/-! ### laws_heldChip -/
theorem heldChip_ev (a b : Nat) (m : Int) (h0 : 0 ≤ m) (h1 : m ≤ 1000000000000) (hp : a ≤ 1000000000000) (hw : b ≤ 1000000000000) :
    Ev (fun k => laws_heldChip.f k (mkStringS m a) (mkIntS (m + (a : Nat)) b) m) (m + (a : Nat) + (b : Nat)) := by
  unfold laws_heldChip.f
  exact Ev.bind (heldStringS_ev m a (by omega) (by omega) (by omega)) (ev_neg (by omega) (Ev.bind (heldIntS_ev (m + (a : Nat)) b (by omega) (by omega) (by omega)) (ev_neg (by omega) (Ev.now _))))

/-! ### laws_FnExactChipNew -/
theorem FnExactChipNew : laws_FnExactChipNew.Pure := by
  refine Ev.rounds ?_
  unfold laws_FnExactChipNew.f
  have e := eqChip_ev (List.replicate 60 (⟨#[]⟩ : ByteArray)) (List.replicate 10 0) (by simp) (by simp)
  have m := markChip_ev (List.replicate 60 (⟨#[]⟩ : ByteArray)) (List.replicate 10 0) 1 (by omega) (by omega) (by simp) (by simp)
  have h := heldChip_ev 60 10 1 (by omega) (by omega) (by omega) (by omega)
  simp only [List.length_replicate] at m
  exact ev_bind spec_ChipNew_eq (ev_bind impl_ChipNew_eq (Ev.bind e (ev_pos rfl (Ev.bind m (Ev.bind h (ev_neg (by omega) (ev_pos rfl (ev_bind impl_ChipNew_eq (Ev.bind e (ev_pos rfl (Ev.bind h (ev_neg (by omega) (ev_pos rfl (Ev.now _))))))))))))))

end Go.Proofs.Ytdikjefddgbkfaa.Pure
