/- The law FnExactGetNum answers true at every input; no condition. -/
import Derived.Test.YtdikjefddgbkfaaPFnExactGetNumx2
import Derived.Test.YtdikjefddgbkfaaLibM
namespace Go.Proofs.Ytdikjefddgbkfaa.Pure
open Go.RowKit Go.Proofs.Ytdikjefddgbkfaa.PFnExactGetNum Go.Proofs.YtdikjefddgbkfaaW.PrintWords Go.Proofs.YtdikjefddgbkfaaW.PrintLast Go.Proofs.YtdikjefddgbkfaaW.PrintMore Go.Proofs.Ytdikjefddgbkfaa.Lib
set_option linter.unusedVariables false

/-! ### laws_toByteS -/
theorem toByteS_l0 (l : List Int) (hl : l.length ≤ 17592186044416) : ∀ (n i : Nat) (x : List Int), l.length - i = n → i ≤ l.length → x.length = l.length → (∀ j, j < i → x[j]? = l[j]?) →
    Ev (fun k => laws_toByteS.l0 k l x (i : Int)) l := by
  intro n
  induction n with
  | zero =>
    intro i x hn hi hx hj
    have : i = l.length := by omega
    subst this
    have e : x = l := List.ext_getElem? fun j => by
      by_cases h : j < l.length
      · exact hj j h
      · rw [List.getElem?_eq_none (by omega), List.getElem?_eq_none (by omega)]
    subst e
    refine Ev.step (f := fun _ => some x) (fun k => ?_) (Ev.now _)
    simp only [laws_toByteS.l0]
    rw [if_neg (by omega)]
  | succ n ih =>
    intro i x hn hi hx hj
    have h : i < l.length := by omega
    refine Ev.step (f := fun k => laws_toByteS.l0 k l (x.set i l[i]) ((i + 1 : Nat) : Int)) (fun k => ?_) (ih (i + 1) (x.set i l[i]) (by omega) (by omega) (by simpa using hx) ?_)
    · simp only [laws_toByteS.l0]
      rw [if_pos (by omega), if_pos (by omega), if_pos (by omega), rd_at h, wsucc (by omega)]
      rfl
    · intro j hj'
      rw [List.getElem?_set]
      by_cases e : i = j
      · subst e
        rw [if_pos rfl, if_pos (by omega), List.getElem?_eq_getElem h]
      · rw [if_neg e]
        exact hj j (by omega)
theorem toByteS_ev (l : List Int) (hl : l.length ≤ 17592186044416) : Ev (fun k => laws_toByteS.f k l) l := by
  unfold laws_toByteS.f
  exact ev_pos (by omega) (ev_pos (by omega) (toByteS_l0 l hl l.length 0 _ (by omega) (by omega) (by simp) (fun j h => by omega)))

/-! ### laws_eqByteS -/
theorem eqByteS_l0 (l : List Int) (hl : l.length ≤ 17592186044416) : ∀ (n i : Nat), l.length - i = n → i ≤ l.length → Ev (fun k => laws_eqByteS.l0 k l l (i : Int)) true := by
  intro n
  induction n with
  | zero =>
    intro i hn hi
    refine Ev.step (f := fun _ => some true) (fun k => ?_) (Ev.now _)
    simp only [laws_eqByteS.l0]
    rw [if_neg (by omega)]
  | succ n ih =>
    intro i hn hi
    refine Ev.step (f := fun k => laws_eqByteS.l0 k l l ((i + 1 : Nat) : Int)) (fun k => ?_) (ih (i + 1) (by omega) (by omega))
    simp only [laws_eqByteS.l0]
    rw [if_pos (by omega), if_pos (by omega), if_pos (by omega), if_pos trivial, wsucc (by omega)]
theorem eqByteS_ev (l : List Int) (hl : l.length ≤ 17592186044416) : Ev (fun k => laws_eqByteS.f k l l) true := by
  unfold laws_eqByteS.f
  simp only [if_true]
  exact eqByteS_l0 l hl l.length 0 (by omega) (by omega)

/-! ### spec_GetNum -/
/-- What is answered where the rest of the bytes is told by 'getF'. -/
def getR (at_ : Int) : Option (Int × Int) → Int × Int × Bool
  | none => (0, 0, false)
  | some (n, c) => (n, at_ + c, true)
theorem getI_at (b : List Int) (a : Nat) : getI b (a : Int) = getR (a : Int) (getF 5 0 0 (b.drop a)) := by
  unfold getI getR
  rw [if_neg (by omega), Int.toNat_natCast]
  rfl
theorem spec_GetNum_l0 (b : List Int) (hb : Bytes b) (hl : b.length ≤ 1000000000000) (a : Nat) (ha : a < 9223372036854775808) : ∀ (f k : Nat) (n : Int), f + k = 5 → 0 ≤ n → n < 128 ^ k →
    Ev (fun q => spec_GetNum.l0 q b (a : Int) n (k : Int)) (getR (a : Int) (getF f k n (b.drop (a + k)))) := by
  intro f
  induction f with
  | zero =>
    intro k n hk h0 h1
    refine Ev.step (f := fun _ => some (0, 0, false)) (fun q => ?_) (Ev.now _)
    simp only [spec_GetNum.l0]
    rw [if_neg (by omega)]
  | succ f ih =>
    intro k n hk h0 h1
    by_cases h : a + k < b.length
    · have hv := hb.at_ h
      have hp : (0 : Int) < 128 ^ k := Int.pow_pos (by decide)
      have hp4 : (128 : Int) ^ k ≤ 128 ^ 4 := by
        have : (128 : Nat) ^ k ≤ 128 ^ 4 := Nat.pow_le_pow_right (by decide) (by omega)
        exact_mod_cast this
      have hm : b[a + k] % 128 * 128 ^ k ≤ 127 * 128 ^ k := Int.mul_le_mul_of_nonneg_right (by omega) (by omega)
      have hm0 : 0 ≤ b[a + k] % 128 * 128 ^ k := Int.mul_nonneg (by omega) (by omega)
      rw [List.drop_eq_getElem_cons h]
      have first : ∀ q, spec_GetNum.l0 (q + 2) b (a : Int) n (k : Int) = if b[a + k] < 128 then (if (k : Int) > 0 then (if b[a + k] = 0 then some (0, 0, false) else if n + b[a + k] % 128 * 128 ^ k > 1000000000 then some (0, 0, false) else some (n + b[a + k] % 128 * 128 ^ k, (a : Int) + ((k : Int) + 1), true))
          else if n + b[a + k] % 128 * 128 ^ k > 1000000000 then some (0, 0, false) else some (n + b[a + k] % 128 * 128 ^ k, (a : Int) + ((k : Int) + 1), true)) else spec_GetNum.l0 q b (a : Int) (n + b[a + k] % 128 * 128 ^ k) ((k + 1 : Nat) : Int) := by
        intro q
        simp only [spec_GetNum.l0]
        rw [if_pos (by omega), if_neg (by omega), w64 (x := (b.length : Int) - k) (by omega) (by omega)]
        have hd : decide ((a : Int) ≥ (b.length : Int) - k) = false := decide_eq_false (by omega)
        rw [hd]
        simp only [spec_GetNum.j1]
        have hr : rd b ((a : Int) + k) = b[a + k] := by
          have := rd_at h
          rwa [show ((a + k : Nat) : Int) = (a : Int) + k by omega] at this
        rw [if_neg (by decide), w64 (x := (a : Int) + k) (by omega) (by omega), w64 (x := 7 * (k : Int)) (by omega) (by omega), if_pos (by omega), if_pos (by omega), if_pos (by omega), hr, w64 (x := b[a + k]) (by omega) (by omega),
          Int.tmod_eq_emod_of_nonneg (by omega), or_shl k (by omega) h0 h1 (by omega) (by omega), wsucc (by omega), w64 (x := (a : Int) + k + 1) (by omega) (by omega), Int.add_assoc]
      have second := fun (g : Nat → Option (Int × Int × Bool)) (r : Int × Int × Bool) (he : ∀ q, spec_GetNum.l0 (q + 2) b (a : Int) n (k : Int) = g q) (e : Ev g r) =>
        (show Ev (fun q => spec_GetNum.l0 q b (a : Int) n (k : Int)) r from Ev.step (f := fun q => spec_GetNum.l0 (q + 1) b (a : Int) n (k : Int)) (fun q => rfl) (Ev.step (f := g) he e))
      unfold getF
      by_cases c : b[a + k] ≥ 128
      · rw [if_pos c]
        have hlt : n + b[a + k] % 128 * 128 ^ k < 128 ^ (k + 1) := by
          rw [Int.pow_succ]
          omega
        have := ih (k + 1) (n + b[a + k] % 128 * 128 ^ k) (by omega) (by omega) hlt
        refine second _ _ (fun q => ?_) this
        rw [first, if_neg (by omega)]
      · rw [if_neg c]
        by_cases c0 : b[a + k] = 0 ∧ k > 0
        · rw [if_pos c0]
          refine second (fun _ => some (0, 0, false)) _ (fun q => ?_) (Ev.now _)
          rw [first, if_pos (by omega), if_pos (by omega), if_pos c0.1]
        · rw [if_neg c0]
          by_cases cm : n + b[a + k] % 128 * 128 ^ k > 1000000000
          · rw [if_pos cm]
            refine second (fun _ => some (0, 0, false)) _ (fun q => ?_) (Ev.now _)
            by_cases ck : (k : Int) > 0
            · rw [first, if_pos (by omega), if_pos ck, if_neg (by omega), if_pos cm]
            · rw [first, if_pos (by omega), if_neg ck, if_pos cm]
          · rw [if_neg cm]
            refine second (fun _ => some (n + b[a + k] % 128 * 128 ^ k, (a : Int) + ((k : Int) + 1), true)) _ (fun q => ?_) (Ev.now _)
            by_cases ck : (k : Int) > 0
            · rw [first, if_pos (by omega), if_pos ck, if_neg (by omega), if_neg cm]
            · rw [first, if_pos (by omega), if_neg ck, if_neg cm]
    · rw [List.drop_of_length_le (by omega)]
      refine Ev.step (f := fun q => spec_GetNum.j1 q b (a : Int) n (k : Int) true) (fun q => ?_) (Ev.step (f := fun _ => some (0, 0, false)) (fun q => ?_) (Ev.now _))
      · simp only [spec_GetNum.l0]
        rw [if_pos (by omega), if_neg (by omega), w64 (x := (b.length : Int) - k) (by omega) (by omega), decide_eq_true (by omega)]
      · simp only [spec_GetNum.j1]
        rw [if_pos trivial]
theorem spec_GetNum_ev (b : List Int) (at_ : Int) (hb : Bytes b) (hl : b.length ≤ 1000000000000) (h1 : at_ < 9223372036854775808) : Ev (fun k => spec_GetNum.f k b at_) (getI b at_) := by
  unfold spec_GetNum.f
  by_cases c : at_ < 0
  · have e : getI b at_ = (0, 0, false) := by unfold getI; rw [if_pos c]
    rw [e]
    refine Ev.step (f := fun q => spec_GetNum.j1 q b at_ 0 0 true) (fun q => ?_) (Ev.step (f := fun _ => some (0, 0, false)) (fun q => ?_) (Ev.now _))
    · simp only [spec_GetNum.l0]
      rw [if_pos (by omega), if_pos c]
    · simp only [spec_GetNum.j1]
      rw [if_pos trivial]
  · obtain ⟨a, rfl⟩ := Int.eq_ofNat_of_zero_le (show 0 ≤ at_ by omega)
    rw [getI_at]
    simpa using spec_GetNum_l0 b hb hl a (by omega) 5 0 0 (by omega) (by omega) (by simp)

/-! ### impl_GetNum -/
theorem impl_GetNum_l0 (b : List Int) (hb : Bytes b) (hl : b.length ≤ 1000000000000) (a : Nat) (ha : a < 1000000000001) : ∀ (f k : Nat) (n : Int), f + k = 5 → 0 ≤ n → n < 128 ^ k →
    Ev (fun q => impl_GetNum.l0 q b (a : Int) n (k : Int)) (getR (a : Int) (getF f k n (b.drop (a + k)))) := by
  intro f
  induction f with
  | zero =>
    intro k n hk h0 h1
    refine Ev.step (f := fun q => impl_GetNum.j1 q b (a : Int) n (k : Int) false) (fun q => ?_) (Ev.step (f := fun _ => some (0, 0, false)) (fun q => ?_) (Ev.now _))
    · simp only [impl_GetNum.l0]
      rw [if_neg (by omega)]
    · simp only [impl_GetNum.j1]
      rw [if_neg (by decide)]
  | succ f ih =>
    intro k n hk h0 h1
    by_cases h : a + k < b.length
    · have hv := hb.at_ h
      have hp : (0 : Int) < 128 ^ k := Int.pow_pos (by decide)
      have hp4 : (128 : Int) ^ k ≤ 128 ^ 4 := by
        have : (128 : Nat) ^ k ≤ 128 ^ 4 := Nat.pow_le_pow_right (by decide) (by omega)
        exact_mod_cast this
      have hm : b[a + k] % 128 * 128 ^ k ≤ 127 * 128 ^ k := Int.mul_le_mul_of_nonneg_right (by omega) (by omega)
      have hm0 : 0 ≤ b[a + k] % 128 * 128 ^ k := Int.mul_nonneg (by omega) (by omega)
      rw [List.drop_eq_getElem_cons h]
      have first : ∀ q, impl_GetNum.l0 (q + 2) b (a : Int) n (k : Int) = if b[a + k] > 127 then impl_GetNum.l0 q b (a : Int) (n + b[a + k] % 128 * 128 ^ k) ((k + 1 : Nat) : Int)
          else (if b[a + k] = 0 then (if (k : Int) > 0 then some (0, 0, false) else if n + b[a + k] % 128 * 128 ^ k > 1000000000 then some (0, 0, false) else some (n + b[a + k] % 128 * 128 ^ k, (a : Int) + ((k : Int) + 1), true))
          else if n + b[a + k] % 128 * 128 ^ k > 1000000000 then some (0, 0, false) else some (n + b[a + k] % 128 * 128 ^ k, (a : Int) + ((k : Int) + 1), true)) := by
        intro q
        simp only [impl_GetNum.l0]
        rw [if_pos (by omega), w64 (x := (a : Int) + k) (by omega) (by omega)]
        have hd : decide ((a : Int) + k < (b.length : Int)) = true := decide_eq_true (by omega)
        rw [hd]
        simp only [impl_GetNum.j1]
        have hr : rd b ((a : Int) + k) = b[a + k] := by
          have := rd_at h
          rwa [show ((a + k : Nat) : Int) = (a : Int) + k by omega] at this
        rw [if_pos trivial, w64 (x := (a : Int) + k) (by omega) (by omega), w64 (x := 7 * (k : Int)) (by omega) (by omega), if_pos (by omega), if_pos (by omega), if_pos (by omega), hr, w64 (x := b[a + k]) (by omega) (by omega),
          and127 (by omega) (by omega), or_shl k (by omega) h0 h1 (by omega) (by omega), wsucc (by omega), w64 (x := (a : Int) + k + 1) (by omega) (by omega), Int.add_assoc]
      have second := fun (g : Nat → Option (Int × Int × Bool)) (r : Int × Int × Bool) (he : ∀ q, impl_GetNum.l0 (q + 2) b (a : Int) n (k : Int) = g q) (e : Ev g r) =>
        (show Ev (fun q => impl_GetNum.l0 q b (a : Int) n (k : Int)) r from Ev.step (f := fun q => impl_GetNum.l0 (q + 1) b (a : Int) n (k : Int)) (fun q => rfl) (Ev.step (f := g) he e))
      unfold getF
      by_cases c : b[a + k] ≥ 128
      · rw [if_pos c]
        have hlt : n + b[a + k] % 128 * 128 ^ k < 128 ^ (k + 1) := by
          rw [Int.pow_succ]
          omega
        have := ih (k + 1) (n + b[a + k] % 128 * 128 ^ k) (by omega) (by omega) hlt
        refine second _ _ (fun q => ?_) this
        rw [first, if_pos (by omega)]
      · rw [if_neg c]
        by_cases c0 : b[a + k] = 0 ∧ k > 0
        · rw [if_pos c0]
          refine second (fun _ => some (0, 0, false)) _ (fun q => ?_) (Ev.now _)
          rw [first, if_neg (by omega), if_pos c0.1, if_pos (by omega)]
        · rw [if_neg c0]
          by_cases cm : n + b[a + k] % 128 * 128 ^ k > 1000000000
          · rw [if_pos cm]
            refine second (fun _ => some (0, 0, false)) _ (fun q => ?_) (Ev.now _)
            by_cases cz : b[a + k] = 0
            · rw [first, if_neg (by omega), if_pos cz, if_neg (by omega), if_pos cm]
            · rw [first, if_neg (by omega), if_neg cz, if_pos cm]
          · rw [if_neg cm]
            refine second (fun _ => some (n + b[a + k] % 128 * 128 ^ k, (a : Int) + ((k : Int) + 1), true)) _ (fun q => ?_) (Ev.now _)
            by_cases cz : b[a + k] = 0
            · rw [first, if_neg (by omega), if_pos cz, if_neg (by omega), if_neg cm]
            · rw [first, if_neg (by omega), if_neg cz, if_neg cm]
    · rw [List.drop_of_length_le (by omega)]
      refine Ev.step (f := fun q => impl_GetNum.j1 q b (a : Int) n (k : Int) false) (fun q => ?_) (Ev.step (f := fun _ => some (0, 0, false)) (fun q => ?_) (Ev.now _))
      · simp only [impl_GetNum.l0]
        rw [if_pos (by omega), w64 (x := (a : Int) + k) (by omega) (by omega), decide_eq_false (by omega)]
      · simp only [impl_GetNum.j1]
        rw [if_neg (by decide)]
theorem impl_GetNum_ev (b : List Int) (at_ : Int) (hb : Bytes b) (hl : b.length ≤ 1000000000000) : Ev (fun k => impl_GetNum.f k b at_) (getI b at_) := by
  unfold impl_GetNum.f
  by_cases c : 0 ≤ at_ ∧ at_ ≤ b.length
  · refine ev_bind (x := true) (by unfold impl_in.f; rw [if_pos (by omega)]; simp; omega) ?_
    simp only [if_true]
    obtain ⟨a, rfl⟩ := Int.eq_ofNat_of_zero_le c.1
    rw [getI_at]
    simpa using impl_GetNum_l0 b hb hl a (by omega) 5 0 0 (by omega) (by omega) (by simp)
  · refine ev_bind (x := false) (by unfold impl_in.f; split <;> simp; omega) ?_
    have e : getI b at_ = (0, 0, false) := by
      unfold getI
      split
      · rfl
      · rw [List.drop_of_length_le (by omega)]
        rfl
    rw [e]
    exact Ev.now _

/-! ### laws_FnExactGetNum -/
theorem FnExactGetNum_j0 (l : List Int) (hl : l.length ≤ 1048576) : Ev (fun k => laws_FnExactGetNum.j0 k l l false) true := by
  refine Ev.step (f := fun k => (laws_toByteS.f k l).bind fun t => (laws_eqByteS.f k l t).bind fun u => (if u = true then (some true) else (some false))) (fun k => ?_) (Ev.bind (toByteS_ev l (by omega)) (Ev.bind (eqByteS_ev l (by omega)) (Ev.now _)))
  simp only [laws_FnExactGetNum.j0]
  rw [if_neg (by decide)]
theorem FnExactGetNum : laws_FnExactGetNum.Pure := by
  intro l a _ _ hb ha
  have hb := bytes_of hb
  have ha := i64_of ha
  refine Ev.rounds ?_
  unfold laws_FnExactGetNum.f
  by_cases c : (l.length : Int) > 1048576
  · exact ev_pos c (Ev.now _)
  refine ev_neg c (Ev.bind (toByteS_ev l (by omega)) (Ev.bind (spec_GetNum_ev l a hb (by omega) ha.2) (Ev.bind (toByteS_ev l (by omega)) (Ev.bind (impl_GetNum_ev l a hb (by omega)) (ev_pos rfl (ev_pos rfl ?_))))))
  rw [bne_self_eq_false]
  exact FnExactGetNum_j0 l (by omega)

end Go.Proofs.Ytdikjefddgbkfaa.Pure
