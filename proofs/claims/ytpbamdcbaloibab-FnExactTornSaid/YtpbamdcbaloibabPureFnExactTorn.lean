/- The law FnExactTorn answers true at every input; no condition. -/
import Derived.Test.YtpbamdcbaloibabPFnExactTornx8
import Derived.Test.YtpbamdcbaloibabLibM
namespace Go.Proofs.Ytpbamdcbaloibab.Pure
open Go.RowKit Go.Proofs.Ytpbamdcbaloibab.PFnExactTorn Go.Proofs.YtpbamdcbaloibabW.PrintWords Go.Proofs.YtpbamdcbaloibabW.PrintLast Go.Proofs.YtpbamdcbaloibabW.PrintMore Go.Proofs.Ytpbamdcbaloibab.Lib
set_option linter.unusedVariables false

/-! ### laws_szStringS -/
theorem szStringS_l0 (l : List ByteArray) (hl : l.length ≤ 1048576) (hs : ∀ x ∈ l, x.size ≤ maxLen) : ∀ (d i : Nat) (n : Int), l.length - i = d → i ≤ l.length → 0 ≤ n → n ≤ 1048576 →
    Ev (fun k => laws_szStringS.l0 k l n (i : Int)) (left_ n (total (l.drop i))) := by
  intro d
  induction d with
  | zero =>
    intro i n hd hi h0 h1
    rw [List.drop_of_length_le (by omega), total_nil]
    refine Ev.step (f := fun _ => some n) (fun k => ?_) (ev_eq ?_)
    · simp only [laws_szStringS.l0]
      rw [if_neg (by omega)]
    · unfold left_
      rw [if_neg (by omega)]
      simp
  | succ d ih =>
    intro i n hd hi h0 h1
    have h : i < l.length := by omega
    have hx := hs _ (List.getElem_mem h)
    unfold maxLen at hx
    rw [List.drop_eq_getElem_cons h, total_cons]
    by_cases c : n - (l[i].size : Int) < 0
    · refine Ev.step (f := fun _ => some (-1)) (fun k => ?_) (ev_eq ?_)
      · simp only [laws_szStringS.l0]
        rw [if_pos (by omega), if_pos (by omega), rds_at h, w64 (x := n - (l[i].size : Int)) (by omega) (by omega), if_pos c]
      · unfold left_
        rw [if_pos (by omega)]
    · have e := ih (i + 1) (n - (l[i].size : Int)) (by omega) (by omega) (by omega) (by omega)
      have e2 : left_ (n - (l[i].size : Int)) (total (l.drop (i + 1))) = left_ n (l[i].size + total (l.drop (i + 1))) := by
        unfold left_
        rw [show n - ((l[i].size + total (l.drop (i + 1)) : Nat) : Int) = n - (l[i].size : Int) - (total (l.drop (i + 1)) : Nat) by omega]
      rw [← e2]
      refine Ev.step (fun k => ?_) e
      simp only [laws_szStringS.l0]
      rw [if_pos (by omega), if_pos (by omega), rds_at h, w64 (x := n - (l[i].size : Int)) (by omega) (by omega), if_neg c, wsucc (by omega)]
theorem szStringS_ev (l : List ByteArray) (n : Int) (hl : l.length ≤ maxLen) (hs : ∀ x ∈ l, x.size ≤ maxLen) (h0 : 0 ≤ n) (h1 : n ≤ 1048576) :
    Ev (fun k => laws_szStringS.f k l n) (left_ n (l.length + total l)) := by
  unfold maxLen at hl
  unfold laws_szStringS.f
  rw [w64 (x := n - (l.length : Int)) (by omega) (by omega)]
  by_cases c : n - (l.length : Int) < 0
  · refine ev_pos c (ev_eq ?_)
    unfold left_
    rw [if_pos (by omega)]
  · refine ev_neg c ?_
    have e := szStringS_l0 l (by omega) hs l.length 0 (n - (l.length : Int)) (by omega) (by omega) (by omega) (by omega)
    have e2 : left_ (n - (l.length : Int)) (total l) = left_ n (l.length + total l) := by
      unfold left_
      rw [show n - ((l.length + total l : Nat) : Int) = n - (l.length : Int) - (total l : Nat) by omega]
    rw [← e2]
    simpa using e

/-! ### laws_szIntS -/
theorem szIntS_eq (l : List Int) (n : Int) (hl : l.length ≤ maxLen) (h0 : 0 ≤ n) (h1 : n ≤ 1048576) : laws_szIntS.f l n = some (left_ n l.length) := by
  unfold maxLen at hl
  unfold laws_szIntS.f left_
  rw [w64 (x := n - (l.length : Int)) (by omega) (by omega)]
  by_cases c : n - (l.length : Int) < 0
  · rw [if_pos c, if_pos c]
  · rw [if_neg c, if_neg c]

/-! ### laws_szChip -/
theorem szChip_ev (p : List ByteArray) (w : List Int) (n : Int) (hp : p.length ≤ maxLen) (hs : ∀ x ∈ p, x.size ≤ maxLen) (hw : w.length ≤ maxLen) (h0 : 0 ≤ n) (h1 : n ≤ 1048576) :
    Ev (fun k => laws_szChip.f k p w n) (left_ n (p.length + total p + w.length)) := by
  unfold laws_szChip.f
  refine Ev.bind (szStringS_ev p n hp hs h0 h1) ?_
  by_cases c : left_ n (p.length + total p) < 0
  · have := left_neg c
    refine ev_pos c (ev_eq ?_)
    unfold left_
    rw [if_pos (by omega)]
  · have := left_pos c
    refine ev_neg c (ev_bind (szIntS_eq w _ hw (by omega) (by omega)) ?_)
    have e : left_ (left_ n (p.length + total p)) w.length = left_ n (p.length + total p + w.length) := by
      rw [this.1]
      unfold left_
      rw [show n - ((p.length + total p + w.length : Nat) : Int) = n - ((p.length + total p : Nat) : Int) - (w.length : Nat) by omega]
    rw [e]
    by_cases d : left_ n (p.length + total p + w.length) < 0
    · refine ev_pos d (ev_eq ?_)
      have := left_neg d
      unfold left_
      rw [if_pos (by omega)]
    · exact ev_neg d (Ev.now _)

/-! ### laws_toStringS -/
theorem toStringS_l0 (l : List ByteArray) (hl : l.length ≤ 17592186044416) : ∀ (n i : Nat) (x : List ByteArray), l.length - i = n → i ≤ l.length → x.length = l.length → (∀ j, j < i → x[j]? = l[j]?) →
    Ev (fun k => laws_toStringS.l0 k l x (i : Int)) l := by
  intro n
  induction n with
  | zero =>
    intro i x hn hi hx hj
    have : i = l.length := by omega
    subst this
    have e : x = l := List.ext_getElem? fun j => by
      by_cases h : j < l.length
      · exact hj j h
      · rw [List.getElem?_eq_none (by omega), List.getElem?_eq_none (by omega)]
    subst e
    refine Ev.step (f := fun _ => some x) (fun k => ?_) (Ev.now _)
    simp only [laws_toStringS.l0]
    rw [if_neg (by omega)]
  | succ n ih =>
    intro i x hn hi hx hj
    have h : i < l.length := by omega
    refine Ev.step (f := fun k => laws_toStringS.l0 k l (x.set i l[i]) ((i + 1 : Nat) : Int)) (fun k => ?_) (ih (i + 1) (x.set i l[i]) (by omega) (by omega) (by simpa using hx) ?_)
    · simp only [laws_toStringS.l0]
      rw [if_pos (by omega), if_pos (by omega), if_pos (by omega), rds_at h, wsucc (by omega)]
      rfl
    · intro j hj'
      rw [List.getElem?_set]
      by_cases e : i = j
      · subst e
        rw [if_pos rfl, if_pos (by omega), List.getElem?_eq_getElem h]
      · rw [if_neg e]
        exact hj j (by omega)
theorem toStringS_ev (l : List ByteArray) (hl : l.length ≤ 17592186044416) : Ev (fun k => laws_toStringS.f k l) l := by
  unfold laws_toStringS.f
  exact ev_pos (by omega) (ev_pos (by omega) (toStringS_l0 l hl l.length 0 _ (by omega) (by omega) (by simp) (fun j h => by omega)))

/-! ### laws_toIntS -/
theorem toIntS_l0 (l : List Int) (hl : l.length ≤ 17592186044416) : ∀ (n i : Nat) (x : List Int), l.length - i = n → i ≤ l.length → x.length = l.length → (∀ j, j < i → x[j]? = l[j]?) →
    Ev (fun k => laws_toIntS.l0 k l x (i : Int)) l := by
  intro n
  induction n with
  | zero =>
    intro i x hn hi hx hj
    have : i = l.length := by omega
    subst this
    have e : x = l := List.ext_getElem? fun j => by
      by_cases h : j < l.length
      · exact hj j h
      · rw [List.getElem?_eq_none (by omega), List.getElem?_eq_none (by omega)]
    subst e
    refine Ev.step (f := fun _ => some x) (fun k => ?_) (Ev.now _)
    simp only [laws_toIntS.l0]
    rw [if_neg (by omega)]
  | succ n ih =>
    intro i x hn hi hx hj
    have h : i < l.length := by omega
    refine Ev.step (f := fun k => laws_toIntS.l0 k l (x.set i l[i]) ((i + 1 : Nat) : Int)) (fun k => ?_) (ih (i + 1) (x.set i l[i]) (by omega) (by omega) (by simpa using hx) ?_)
    · simp only [laws_toIntS.l0]
      rw [if_pos (by omega), if_pos (by omega), if_pos (by omega), rd_at h, wsucc (by omega)]
      rfl
    · intro j hj'
      rw [List.getElem?_set]
      by_cases e : i = j
      · subst e
        rw [if_pos rfl, if_pos (by omega), List.getElem?_eq_getElem h]
      · rw [if_neg e]
        exact hj j (by omega)
theorem toIntS_ev (l : List Int) (hl : l.length ≤ 17592186044416) : Ev (fun k => laws_toIntS.f k l) l := by
  unfold laws_toIntS.f
  exact ev_pos (by omega) (ev_pos (by omega) (toIntS_l0 l hl l.length 0 _ (by omega) (by omega) (by simp) (fun j h => by omega)))

/-! ### laws_toChip -/
theorem toChip_ev (p : List ByteArray) (w : List Int) (hp : p.length ≤ 1000000000000) (hw : w.length ≤ 1000000000000) : Ev (fun k => laws_toChip.f k p w) (p, w) := by
  unfold laws_toChip.f
  exact Ev.bind (toStringS_ev p (by omega)) (Ev.bind (toIntS_ev w (by omega)) (Ev.now _))

/-! ### laws_eqStringS -/
theorem eqStringS_l0 (l : List ByteArray) (hl : l.length ≤ 17592186044416) : ∀ (n i : Nat), l.length - i = n → i ≤ l.length → Ev (fun k => laws_eqStringS.l0 k l l (i : Int)) true := by
  intro n
  induction n with
  | zero =>
    intro i hn hi
    refine Ev.step (f := fun _ => some true) (fun k => ?_) (Ev.now _)
    simp only [laws_eqStringS.l0]
    rw [if_neg (by omega)]
  | succ n ih =>
    intro i hn hi
    refine Ev.step (f := fun k => laws_eqStringS.l0 k l l ((i + 1 : Nat) : Int)) (fun k => ?_) (ih (i + 1) (by omega) (by omega))
    simp only [laws_eqStringS.l0]
    rw [if_pos (by omega), if_pos (by omega), if_pos (by omega), if_pos trivial, wsucc (by omega)]
theorem eqStringS_ev (l : List ByteArray) (hl : l.length ≤ 17592186044416) : Ev (fun k => laws_eqStringS.f k l l) true := by
  unfold laws_eqStringS.f
  simp only [if_true]
  exact eqStringS_l0 l hl l.length 0 (by omega) (by omega)

/-! ### laws_eqIntS -/
theorem eqIntS_l0 (l : List Int) (hl : l.length ≤ 17592186044416) : ∀ (n i : Nat), l.length - i = n → i ≤ l.length → Ev (fun k => laws_eqIntS.l0 k l l (i : Int)) true := by
  intro n
  induction n with
  | zero =>
    intro i hn hi
    refine Ev.step (f := fun _ => some true) (fun k => ?_) (Ev.now _)
    simp only [laws_eqIntS.l0]
    rw [if_neg (by omega)]
  | succ n ih =>
    intro i hn hi
    refine Ev.step (f := fun k => laws_eqIntS.l0 k l l ((i + 1 : Nat) : Int)) (fun k => ?_) (ih (i + 1) (by omega) (by omega))
    simp only [laws_eqIntS.l0]
    rw [if_pos (by omega), if_pos (by omega), if_pos (by omega), if_pos trivial, wsucc (by omega)]
theorem eqIntS_ev (l : List Int) (hl : l.length ≤ 17592186044416) : Ev (fun k => laws_eqIntS.f k l l) true := by
  unfold laws_eqIntS.f
  simp only [if_true]
  exact eqIntS_l0 l hl l.length 0 (by omega) (by omega)

/-! ### laws_eqChip -/
theorem eqChip_ev (p : List ByteArray) (w : List Int) (hp : p.length ≤ 1000000000000) (hw : w.length ≤ 1000000000000) : Ev (fun k => laws_eqChip.f k p w p w) true := by
  unfold laws_eqChip.f
  exact Ev.bind (eqStringS_ev p (by omega)) (ev_pos rfl (Ev.bind (eqIntS_ev w (by omega)) (ev_pos rfl (Ev.now _))))

/-! ### laws_markText -/
theorem markText_l0 : ∀ (f : Nat) (n : Int) (x : ByteArray), 0 ≤ n → n < 10 ^ f → n < 9223372036854775808 → x.size + f ≤ 1000 → ∃ r, Ev (fun k => laws_markText.l0 k n x) r := by
  intro f
  induction f with
  | zero =>
    intro n x h0 h1 h2 hx
    have h1 : n < 1 := h1
    refine ⟨_, Ev.step (f := fun _ => some ((⟨#[109]⟩ : ByteArray) ++ x)) (fun k => ?_) (Ev.now _)⟩
    simp only [laws_markText.l0]
    rw [if_neg (by omega), if_pos (by omega)]
  | succ f ih =>
    intro n x h0 h1 h2 hx
    by_cases c : n > 0
    · have hs : ∀ y, (strOfNums [y]).size = 1 := fun y => by simp [strOfNums, ByteArray.size]
      obtain ⟨r, hr⟩ := ih (n / 10) (strOfNums [(wrap64 (48 + (Int.tmod n 10))) % 256] ++ x) (by omega) (by rw [Int.pow_succ] at h1; omega) (by omega) (by rw [ByteArray.size_append, hs]; omega)
      refine ⟨r, Ev.step (f := fun k => laws_markText.l0 k (n / 10) (strOfNums [(wrap64 (48 + (Int.tmod n 10))) % 256] ++ x)) (fun k => ?_) hr⟩
      simp only [laws_markText.l0]
      rw [if_pos c]
      simp only [Option.bind_some, hs]
      rw [if_pos (by omega), Int.tdiv_eq_ediv_of_nonneg (by omega), w64 (x := n / 10) (by omega) (by omega)]
    · refine ⟨_, Ev.step (f := fun _ => some ((⟨#[109]⟩ : ByteArray) ++ x)) (fun k => ?_) (Ev.now _)⟩
      simp only [laws_markText.l0]
      rw [if_neg c, if_pos (by omega)]
theorem markText_some (n : Int) (h : n < 9223372036854775808) : ∃ r, Ev (fun k => laws_markText.f k n) r := by
  unfold laws_markText.f
  by_cases c : n ≤ 0
  · exact ⟨_, ev_pos c (Ev.now _)⟩
  · obtain ⟨r, hr⟩ := markText_l0 19 n ⟨#[]⟩ (by omega) (by omega) h (by simp [ByteArray.size])
    exact ⟨r, ev_neg c hr⟩
/-- The mark of a number, as a text. -/
noncomputable def mtx (n : Int) : ByteArray := Classical.epsilon fun r => Ev (fun k => laws_markText.f k n) r
theorem mtx_ev (n : Int) (h : n < 9223372036854775808) : Ev (fun k => laws_markText.f k n) (mtx n) := Classical.epsilon_spec (markText_some n h)

/-! ### laws_markStringS -/
/-- What the marks are. -/
noncomputable def mkStringS (m : Int) (n : Nat) : List ByteArray := (List.range n).map fun j => mtx (m + (j : Nat))
theorem mkStringS_length (m : Int) (n : Nat) : (mkStringS m n).length = n := by simp [mkStringS]
theorem mkStringS_at (m : Int) (n j : Nat) (h : j < (mkStringS m n).length) : (mkStringS m n)[j] = mtx (m + (j : Nat)) := by simp [mkStringS]
theorem markStringS_l0 (m : Int) (N : Nat) (h0 : -1000000000000000000 ≤ m) (h1 : m ≤ 1000000000000000000) (hN : N ≤ 17592186044416) : ∀ (n i : Nat) (x : List ByteArray), N - i = n → i ≤ N → x.length = N → (∀ j, j < i → x[j]? = some (mtx (m + (j : Nat)))) →
    Ev (fun k => laws_markStringS.l0 k x (m + (i : Nat)) (i : Int)) (m + (N : Nat), mkStringS m N) := by
  intro n
  induction n with
  | zero =>
    intro i x hn hi hx hj
    have : i = N := by omega
    subst this
    have e : x = mkStringS m i := List.ext_getElem? fun j => by
      by_cases h : j < i
      · rw [hj j h]
        simp [mkStringS, h]
      · rw [List.getElem?_eq_none (by omega), List.getElem?_eq_none (by rw [mkStringS_length]; omega)]
    subst e
    refine Ev.step (f := fun _ => some (m + (i : Nat), mkStringS m i)) (fun k => ?_) (Ev.now _)
    simp only [laws_markStringS.l0]
    rw [if_neg (by omega)]
  | succ n ih =>
    intro i x hn hi hx hj
    have e2 := Ev.bind (f := fun k t => laws_markStringS.l0 k (x.set i t) (m + ((i + 1 : Nat) : Nat)) ((i + 1 : Nat) : Int)) (mtx_ev (m + (i : Nat)) (by omega)) (ih (i + 1) (x.set i (mtx (m + (i : Nat)))) (by omega) (by omega) (by simpa using hx) ?_)
    · refine Ev.step (fun k => ?_) e2
      simp only [laws_markStringS.l0]
      rw [if_pos (by omega)]
      congr 1
      funext t
      rw [if_pos (by omega), wsucc (by omega), w64 (by omega) (by omega)]
      congr 1
      omega
    · intro j hj'
      rw [List.getElem?_set]
      by_cases e : i = j
      · subst e
        rw [if_pos rfl, if_pos (by omega)]
      · rw [if_neg e]
        exact hj j (by omega)
theorem markStringS_ev (l : List ByteArray) (m : Int) (h0 : -1000000000000000000 ≤ m) (h1 : m ≤ 1000000000000000000) (hl : l.length ≤ 17592186044416) : Ev (fun k => laws_markStringS.f k l m) (m + (l.length : Nat), mkStringS m l.length) := by
  unfold laws_markStringS.f
  have := markStringS_l0 m l.length h0 h1 hl l.length 0 l (by omega) (by omega) rfl (fun j h => by omega)
  simpa using this

/-! ### laws_markIntS -/
/-- What the marks are. -/
def mkIntS (m : Int) (n : Nat) : List Int := (List.range n).map fun j => (m + (j : Nat))
theorem mkIntS_length (m : Int) (n : Nat) : (mkIntS m n).length = n := by simp [mkIntS]
theorem mkIntS_at (m : Int) (n j : Nat) (h : j < (mkIntS m n).length) : (mkIntS m n)[j] = (m + (j : Nat)) := by simp [mkIntS]
theorem markIntS_l0 (m : Int) (N : Nat) (h0 : -1000000000000000000 ≤ m) (h1 : m ≤ 1000000000000000000) (hN : N ≤ 17592186044416) : ∀ (n i : Nat) (x : List Int), N - i = n → i ≤ N → x.length = N → (∀ j, j < i → x[j]? = some (m + (j : Nat))) →
    Ev (fun k => laws_markIntS.l0 k x (m + (i : Nat)) (i : Int)) (m + (N : Nat), mkIntS m N) := by
  intro n
  induction n with
  | zero =>
    intro i x hn hi hx hj
    have : i = N := by omega
    subst this
    have e : x = mkIntS m i := List.ext_getElem? fun j => by
      by_cases h : j < i
      · rw [hj j h]
        simp [mkIntS, h]
      · rw [List.getElem?_eq_none (by omega), List.getElem?_eq_none (by rw [mkIntS_length]; omega)]
    subst e
    refine Ev.step (f := fun _ => some (m + (i : Nat), mkIntS m i)) (fun k => ?_) (Ev.now _)
    simp only [laws_markIntS.l0]
    rw [if_neg (by omega)]
  | succ n ih =>
    intro i x hn hi hx hj
    refine Ev.step (f := fun k => laws_markIntS.l0 k (x.set i (m + (i : Nat))) (m + ((i + 1 : Nat) : Nat)) ((i + 1 : Nat) : Int)) (fun k => ?_) (ih (i + 1) (x.set i (m + (i : Nat))) (by omega) (by omega) (by simpa using hx) ?_)
    · simp only [laws_markIntS.l0]
      rw [if_pos (by omega), if_pos (by omega), wsucc (by omega), w64 (by omega) (by omega)]
      congr 1
      omega
    · intro j hj'
      rw [List.getElem?_set]
      by_cases e : i = j
      · subst e
        rw [if_pos rfl, if_pos (by omega)]
      · rw [if_neg e]
        exact hj j (by omega)
theorem markIntS_ev (l : List Int) (m : Int) (h0 : -1000000000000000000 ≤ m) (h1 : m ≤ 1000000000000000000) (hl : l.length ≤ 17592186044416) : Ev (fun k => laws_markIntS.f k l m) (m + (l.length : Nat), mkIntS m l.length) := by
  unfold laws_markIntS.f
  have := markIntS_l0 m l.length h0 h1 hl l.length 0 l (by omega) (by omega) rfl (fun j h => by omega)
  simpa using this

/-! ### laws_markChip -/
theorem markChip_ev (p : List ByteArray) (w : List Int) (m : Int) (h0 : 0 ≤ m) (h1 : m ≤ 1000000000000) (hp : p.length ≤ 1000000000000) (hw : w.length ≤ 1000000000000) :
    Ev (fun k => laws_markChip.f k p w m) (m + (p.length : Nat) + (w.length : Nat), mkStringS m p.length, mkIntS (m + (p.length : Nat)) w.length) := by
  unfold laws_markChip.f
  exact Ev.bind (markStringS_ev p m (by omega) (by omega) (by omega)) (Ev.bind (markIntS_ev w (m + (p.length : Nat)) (by omega) (by omega) (by omega)) (Ev.now _))

/-! ### laws_heldStringS -/
theorem heldStringS_l0 (m : Int) (N : Nat) (h0 : -1000000000000000000 ≤ m) (h1 : m ≤ 1000000000000000000) (hN : N ≤ 17592186044416) : ∀ (n i : Nat), N - i = n → i ≤ N →
    Ev (fun k => laws_heldStringS.l0 k (mkStringS m N) (m + (i : Nat)) (i : Int)) (m + (N : Nat)) := by
  intro n
  induction n with
  | zero =>
    intro i hn hi
    have : i = N := by omega
    subst this
    refine Ev.step (f := fun _ => some (m + (i : Nat))) (fun k => ?_) (Ev.now _)
    simp only [laws_heldStringS.l0, mkStringS_length]
    rw [if_neg (by omega)]
  | succ n ih =>
    intro i hn hi
    have h : i < (mkStringS m N).length := by rw [mkStringS_length]; omega
    have e2 := Ev.bind (f := fun k (t : ByteArray) => if (mtx (m + (i : Nat))).toList = t.toList then laws_heldStringS.l0 k (mkStringS m N) (m + ((i + 1 : Nat) : Nat)) ((i + 1 : Nat) : Int) else some (-1)) (mtx_ev (m + (i : Nat)) (by omega)) (ev_pos rfl (ih (i + 1) (by omega) (by omega)))
    refine Ev.step (fun k => ?_) e2
    simp only [laws_heldStringS.l0]
    rw [if_pos (by omega), if_pos (by omega), rds_at h, mkStringS_at]
    congr 1
    funext t
    rw [wsucc (by omega), w64 (by omega) (by omega)]
    congr 2
    omega
theorem heldStringS_ev (m : Int) (N : Nat) (h0 : -1000000000000000000 ≤ m) (h1 : m ≤ 1000000000000000000) (hN : N ≤ 17592186044416) : Ev (fun k => laws_heldStringS.f k (mkStringS m N) m) (m + (N : Nat)) := by
  unfold laws_heldStringS.f
  simpa using heldStringS_l0 m N h0 h1 hN N 0 (by omega) (by omega)

/-! ### laws_heldIntS -/
theorem heldIntS_l0 (m : Int) (N : Nat) (h0 : -1000000000000000000 ≤ m) (h1 : m ≤ 1000000000000000000) (hN : N ≤ 17592186044416) : ∀ (n i : Nat), N - i = n → i ≤ N →
    Ev (fun k => laws_heldIntS.l0 k (mkIntS m N) (m + (i : Nat)) (i : Int)) (m + (N : Nat)) := by
  intro n
  induction n with
  | zero =>
    intro i hn hi
    have : i = N := by omega
    subst this
    refine Ev.step (f := fun _ => some (m + (i : Nat))) (fun k => ?_) (Ev.now _)
    simp only [laws_heldIntS.l0, mkIntS_length]
    rw [if_neg (by omega)]
  | succ n ih =>
    intro i hn hi
    have h : i < (mkIntS m N).length := by rw [mkIntS_length]; omega
    refine Ev.step (f := fun k => laws_heldIntS.l0 k (mkIntS m N) (m + ((i + 1 : Nat) : Nat)) ((i + 1 : Nat) : Int)) (fun k => ?_) (ih (i + 1) (by omega) (by omega))
    simp only [laws_heldIntS.l0]
    rw [if_pos (by omega), if_pos (by omega), rd_at h, mkIntS_at, if_pos rfl, wsucc (by omega), w64 (by omega) (by omega)]
    congr 1
    omega
theorem heldIntS_ev (m : Int) (N : Nat) (h0 : -1000000000000000000 ≤ m) (h1 : m ≤ 1000000000000000000) (hN : N ≤ 17592186044416) : Ev (fun k => laws_heldIntS.f k (mkIntS m N) m) (m + (N : Nat)) := by
  unfold laws_heldIntS.f
  simpa using heldIntS_l0 m N h0 h1 hN N 0 (by omega) (by omega)

/-! ### laws_heldChip -/
theorem heldChip_ev (a b : Nat) (m : Int) (h0 : 0 ≤ m) (h1 : m ≤ 1000000000000) (hp : a ≤ 1000000000000) (hw : b ≤ 1000000000000) :
    Ev (fun k => laws_heldChip.f k (mkStringS m a) (mkIntS (m + (a : Nat)) b) m) (m + (a : Nat) + (b : Nat)) := by
  unfold laws_heldChip.f
  exact Ev.bind (heldStringS_ev m a (by omega) (by omega) (by omega)) (ev_neg (by omega) (Ev.bind (heldIntS_ev (m + (a : Nat)) b (by omega) (by omega) (by omega)) (ev_neg (by omega) (Ev.now _))))

/-! ### spec_l1In -/
theorem spec_l1In_eq (a b c : Int) : spec_l1In.f a b c = some (decide (b ≤ a ∧ a ≤ c)) := by
  unfold spec_l1In.f
  by_cases h : a ≥ b
  · rw [if_pos h]
    congr 1
    by_cases g : a ≤ c
    · rw [decide_eq_true g, decide_eq_true ⟨h, g⟩]
    · rw [decide_eq_false g, decide_eq_false (fun x => g x.2)]
  · rw [if_neg h, decide_eq_false (fun x => h x.1)]

/-! ### spec_ChipOk -/
theorem spec_ChipOk_l1 (p : List ByteArray) (w : List Int) (hw : w.length ≤ 1000000000000) : ∀ (d i : Nat), w.length - i = d → i ≤ w.length →
    Ev (fun k => spec_ChipOk.l1 k (i : Int) p w) (!((w.drop i).any fun n => !(decide (0 ≤ n ∧ n ≤ 1000000000)))) := by
  intro d
  induction d with
  | zero =>
    intro i hd hi
    rw [List.drop_of_length_le (by omega)]
    refine Ev.step (f := fun _ => some true) (fun k => ?_) (Ev.now _)
    simp only [spec_ChipOk.l1]
    rw [if_neg (by omega)]
  | succ d ih =>
    intro i hd hi
    have h : i < w.length := by omega
    rw [List.drop_eq_getElem_cons h, List.any_cons]
    have e := ih (i + 1) (by omega) (by omega)
    by_cases c : 0 ≤ w[i] ∧ w[i] ≤ 1000000000
    · rw [decide_eq_true c]
      refine Ev.step (f := fun k => spec_ChipOk.l1 k ((i + 1 : Nat) : Int) p w) (fun k => ?_) e
      simp only [spec_ChipOk.l1]
      rw [if_pos (by omega), if_pos (by omega), spec_l1In_eq, rd_at h, decide_eq_true c, Option.bind_some, if_pos rfl, wsucc (by omega)]
    · rw [decide_eq_false c]
      refine Ev.step (f := fun k => some false) (fun k => ?_) (Ev.now _)
      simp only [spec_ChipOk.l1]
      rw [if_pos (by omega), if_pos (by omega), spec_l1In_eq, rd_at h, decide_eq_false c, Option.bind_some, if_neg (by decide)]
theorem spec_ChipOk_l0 (p : List ByteArray) (w : List Int) (hp : p.length ≤ 1000000000000) (hw : w.length ≤ 1000000000000) : ∀ (d i : Nat), p.length - i = d → i ≤ p.length →
    Ev (fun k => spec_ChipOk.l0 k (i : Int) p w) (!((p.drop i).any fun s => decide (800 < (s.size : Int))) && !(w.any fun n => !(decide (0 ≤ n ∧ n ≤ 1000000000)))) := by
  intro d
  induction d with
  | zero =>
    intro i hd hi
    rw [List.drop_of_length_le (by omega)]
    refine Ev.step (f := fun k => spec_ChipOk.l1 k 0 p w) (fun k => ?_) (by simpa using spec_ChipOk_l1 p w hw w.length 0 (by omega) (by omega))
    simp only [spec_ChipOk.l0]
    rw [if_neg (by omega)]
  | succ d ih =>
    intro i hd hi
    have h : i < p.length := by omega
    rw [List.drop_eq_getElem_cons h, List.any_cons]
    have e := ih (i + 1) (by omega) (by omega)
    by_cases c : 800 < (p[i].size : Int)
    · rw [decide_eq_true c]
      refine Ev.step (f := fun k => some false) (fun k => ?_) (Ev.now _)
      simp only [spec_ChipOk.l0]
      rw [if_pos (by omega), if_pos (by omega), rds_at h, if_pos c]
    · rw [decide_eq_false c]
      refine Ev.step (f := fun k => spec_ChipOk.l0 k ((i + 1 : Nat) : Int) p w) (fun k => ?_) e
      simp only [spec_ChipOk.l0]
      rw [if_pos (by omega), if_pos (by omega), rds_at h, if_neg c, wsucc (by omega)]
theorem spec_ChipOk_ev (p : List ByteArray) (w : List Int) (hp : p.length ≤ 1000000000000) (hw : w.length ≤ 1000000000000) : Ev (fun k => spec_ChipOk.f k p w) (chipOkB p w) := by
  unfold spec_ChipOk.f chipOkB
  by_cases c : p.length = 60
  · refine ev_pos (by omega) ?_
    rw [decide_eq_true c]
    by_cases b : w.length = 10
    · rw [decide_eq_true b]
      have e : ((w.length : Int) != 10) = false := by rw [b]; rfl
      rw [e]
      refine Ev.step (f := fun k => spec_ChipOk.l0 k 0 p w) (fun k => ?_) (by simpa using spec_ChipOk_l0 p w hp hw p.length 0 (by omega) (by omega))
      simp only [spec_ChipOk.j0]
      rw [if_neg (by decide)]
    · rw [decide_eq_false b]
      have e : ((w.length : Int) != 10) = true := by
        rw [bne_iff_ne]
        omega
      rw [e]
      refine Ev.step (f := fun k => some false) (fun k => ?_) (Ev.now _)
      simp only [spec_ChipOk.j0]
      rw [if_pos trivial]
  · refine ev_neg (by omega) ?_
    rw [decide_eq_false c]
    refine Ev.step (f := fun k => some false) (fun k => ?_) (Ev.now _)
    simp only [spec_ChipOk.j0]
    rw [if_pos trivial]
theorem chipOk_len {p : List ByteArray} {w : List Int} (h : chipOkB p w = true) : p.length = 60 ∧ w.length = 10 := by
  unfold chipOkB at h
  simp only [Bool.and_eq_true, decide_eq_true_eq] at h
  exact ⟨h.1.1.1, h.1.1.2⟩
theorem chipOk_page {p : List ByteArray} {w : List Int} (h : chipOkB p w = true) {i : Nat} (hi : i < p.length) : p[i].size ≤ 800 := by
  unfold chipOkB at h
  simp only [Bool.and_eq_true, Bool.not_eq_true', List.any_eq_false, decide_eq_true_eq] at h
  have := h.1.2 _ (List.getElem_mem hi)
  omega
theorem chipOk_wear {p : List ByteArray} {w : List Int} (h : chipOkB p w = true) {i : Nat} (hi : i < w.length) : 0 ≤ w[i] ∧ w[i] ≤ 1000000000 := by
  unfold chipOkB at h
  simp only [Bool.and_eq_true, Bool.not_eq_true', List.any_eq_false] at h
  have := h.2 _ (List.getElem_mem hi)
  simpa using this

/-! ### spec_l2Copy -/
theorem spec_l2Copy_eq (p : List ByteArray) (w : List Int) (hp : p.length ≤ 1000000000000) (hw : w.length ≤ 1000000000000) : spec_l2Copy.f p w = some (p, w) := by
  unfold spec_l2Copy.f
  rw [Option.bind_some, if_pos (by simp; omega), Option.bind_some, if_pos (by simp; omega), List.nil_append, List.nil_append]

/-! ### m_burn -/
/-- What a burn answers. -/
def burnR (p : List ByteArray) (w : List Int) (a : Int) (s : ByteArray) : List ByteArray × List Int × Bool :=
  if chipOkB p w = true then (if 0 ≤ a ∧ a < 60 ∧ (rdOf ByteArray.empty p a).toList = ([] : List UInt8) ∧ s.toList ≠ [] ∧ s.size ≤ 800 then (p.set a.toNat s, w, true) else (p, w, false)) else ([], [], false)
theorem burnR_len (p : List ByteArray) (w : List Int) (a : Int) (s : ByteArray) : (burnR p w a s).1.length ≤ p.length ∧ (burnR p w a s).2.1.length ≤ w.length := by
  unfold burnR
  split
  · split
    · exact ⟨by simp, Nat.le_refl _⟩
    · exact ⟨Nat.le_refl _, Nat.le_refl _⟩
  · exact ⟨by simp, by simp⟩

/-! ### spec_Burn -/
theorem spec_Burn_ev (p : List ByteArray) (w : List Int) (a : Int) (s : ByteArray) (hp : p.length ≤ 1000000000000) (hw : w.length ≤ 1000000000000) : Ev (fun k => spec_Burn.f k p w a s) (burnR p w a s) := by
  unfold spec_Burn.f burnR
  refine Ev.bind (spec_ChipOk_ev p w hp hw) ?_
  by_cases c : chipOkB p w = true
  · have hl := (chipOk_len c).1
    refine ev_pos c (ev_bind (spec_l2Copy_eq p w hp hw) (ev_bind (spec_l1In_eq _ _ _) (ev_eq ?_)))
    rw [w64 (by omega) (by omega), if_pos c]
    by_cases i : 0 ≤ a ∧ a ≤ (p.length : Int) - 1
    · rw [decide_eq_true i, if_pos rfl, if_pos (by omega), if_pos (by omega)]
      by_cases e : (rdOf ByteArray.empty p a).toList = ([] : List UInt8)
      · rw [if_pos e]
        by_cases z : s.toList = ([] : List UInt8)
        · rw [if_pos z, if_neg (fun x => x.2.2.2.1 z)]
        · rw [if_neg z]
          by_cases b : (s.size : Int) > 800
          · rw [if_pos b, if_neg (fun x => by have := x.2.2.2.2; omega)]
          · rw [if_neg b, if_pos (by show a < (p.length : Int); omega), if_pos ⟨i.1, by omega, e, z, by omega⟩]
      · rw [if_neg e, if_neg (fun x => e x.2.2.1)]
    · rw [decide_eq_false i, if_neg (by decide), if_neg (fun x => i ⟨x.1, by omega⟩)]
  · exact ev_neg c (by rw [if_neg c]; exact Ev.now _)

/-! ### impl_in -/
theorem impl_in_eq (a b c : Int) : impl_in.f a b c = some (decide (b ≤ a ∧ a ≤ c)) := by
  unfold impl_in.f
  by_cases h : a ≥ b
  · rw [if_pos h]
    congr 1
    by_cases g : a ≤ c
    · rw [decide_eq_true g, decide_eq_true ⟨h, g⟩]
    · rw [decide_eq_false g, decide_eq_false (fun x => g x.2)]
  · rw [if_neg h, decide_eq_false (fun x => h x.1)]

/-! ### impl_cloneChip -/
theorem impl_cloneChip_eq (p : List ByteArray) (w : List Int) (hp : p.length ≤ 1000000000000) (hw : w.length ≤ 1000000000000) : impl_cloneChip.f p w = some (p, w) := by
  unfold impl_cloneChip.f slices_Clone_string_string.f slices_Clone_int_int.f
  rw [if_pos (by omega), Option.bind_some, if_pos (by omega), Option.bind_some]

/-! ### impl_Burn -/
theorem impl_Burn_eq (p : List ByteArray) (w : List Int) (a : Int) (s : ByteArray) (hp : p.length ≤ 1000000000000) (hw : w.length ≤ 1000000000000) : impl_Burn.f p w a s = some (burnR p w a s) := by
  unfold impl_Burn.f burnR impl_ChipOk.f
  rw [Option.bind_some]
  by_cases c : chipOkB p w = true
  · have hl := (chipOk_len c).1
    have e : impl_burn.f p w a s = some (if 0 ≤ a ∧ a < 60 ∧ (rdOf ByteArray.empty p a).toList = ([] : List UInt8) ∧ s.toList ≠ [] ∧ s.size ≤ 800 then (p.set a.toNat s, w, true) else (p, w, false)) := by
      unfold impl_burn.f
      rw [impl_cloneChip_eq p w hp hw, Option.bind_some, impl_in_eq, Option.bind_some, w64 (by omega) (by omega)]
      by_cases i : 0 ≤ a ∧ a ≤ (p.length : Int) - 1
      · rw [decide_eq_true i, if_pos rfl, if_pos (by omega), if_pos (by omega)]
        by_cases e : (rdOf ByteArray.empty p a).toList = ([] : List UInt8)
        · rw [if_pos e, impl_in_eq, Option.bind_some]
          by_cases b : (1 : Int) ≤ (s.size : Int) ∧ (s.size : Int) ≤ 800
          · rw [decide_eq_true b, if_pos rfl, if_pos (by show a < (p.length : Int); omega), if_pos ⟨i.1, by omega, e, fun z => by have := toList_nil_iff.1 z; omega, by omega⟩]
          · rw [decide_eq_false b, if_neg (by decide), if_neg (fun x => b ⟨by have : s.size ≠ 0 := fun z => x.2.2.2.1 (toList_nil_iff.2 z); omega, by have := x.2.2.2.2; omega⟩)]
        · rw [if_neg e, if_neg (fun x => e x.2.2.1)]
      · rw [decide_eq_false i, if_neg (by decide), if_neg (fun x => i ⟨x.1, by omega⟩)]
    rw [if_pos c, if_pos c, e, Option.bind_some]
  · rw [if_neg c, if_neg c]

/-! ### laws_FnExactTorn -/
/-- How many bytes of the text a torn burn brings. -/
def cutAt (n : Int) (m : Nat) : Nat := if n < 0 then 0 else if n < m then n.toNat else m
theorem cutAt_le (n : Int) (m : Nat) : cutAt n m ≤ m := by
  unfold cutAt
  split
  · omega
  · split <;> omega
theorem mxmn (n : Int) (m : Nat) : mx 0 (mn n (m : Int)) = (cutAt n m : Int) := by
  unfold mx mn cutAt
  repeat' split
  all_goals omega
theorem maxmin (n : Int) (m : Nat) : (spec_l1Min.f n (m : Int)).bind (fun t => spec_l1Max.f t 0) = some (cutAt n m : Int) := by
  unfold spec_l1Min.f cutAt
  by_cases a : n < (m : Int)
  · rw [if_pos a, Option.bind_some]
    unfold spec_l1Max.f
    repeat' split
    all_goals first | omega | rfl | (congr 1; done) | (congr 1; omega)
  · rw [if_neg a, Option.bind_some]
    unfold spec_l1Max.f
    repeat' split
    all_goals first | omega | rfl | (congr 1; done) | (congr 1; omega)
theorem spec_Torn_ev (p : List ByteArray) (w : List Int) (a : Int) (s : ByteArray) (n : Int) (hp : p.length ≤ 1000000000000) (hw : w.length ≤ 1000000000000) :
    Ev (fun k => spec_Torn.f k p w a s n) ((burnR p w a (s.extract 0 (cutAt n s.size))).1, (burnR p w a (s.extract 0 (cutAt n s.size))).2.1) := by
  have hm := maxmin n s.size
  have hc := cutAt_le n s.size
  unfold spec_Torn.f
  obtain ⟨x, hx, hy⟩ := Option.bind_eq_some_iff.1 hm
  refine ev_bind hx (ev_bind hy (ev_pos (by omega) (ev_pos (by omega) ?_)))
  rw [Int.toNat_natCast]
  exact Ev.bind (spec_Burn_ev p w a _ hp hw) (Ev.now _)
theorem impl_Torn_eq (p : List ByteArray) (w : List Int) (a : Int) (s : ByteArray) (n : Int) (hp : p.length ≤ 1000000000000) (hw : w.length ≤ 1000000000000) :
    impl_Torn.f p w a s n = some ((burnR p w a (s.extract 0 (cutAt n s.size))).1, (burnR p w a (s.extract 0 (cutAt n s.size))).2.1) := by
  have hc := cutAt_le n s.size
  unfold impl_Torn.f
  rw [mxmn, if_pos (by omega), if_pos (by omega), Int.toNat_natCast, impl_Burn_eq p w a _ hp hw, Option.bind_some]
theorem FnExactTorn_pure (p : List ByteArray) (w : List Int) (a : Int) (s : ByteArray) (n : Int) (h : (p.length ≤ maxLen ∧ ∀ x ∈ p, x.size ≤ maxLen) ∧ (w.length ≤ maxLen ∧ ∀ x ∈ w, (Lit.int .i64 x).wf = true)) (ha : (Lit.int .i64 a).wf = true) (hs : s.size ≤ maxLen) (hn : (Lit.int .i64 n).wf = true) :
    ∃ k, laws_FnExactTorn.f k p w a s n = some true := by
  refine Ev.rounds ?_
  unfold laws_FnExactTorn.f
  by_cases g : (s.size : Int) > 1048576
  · exact ev_pos g (Ev.now _)
  refine ev_neg g (Ev.bind (szChip_ev p w 1048576 h.1.1 h.1.2 h.2.1 (by omega) (by omega)) ?_)
  by_cases c : left_ 1048576 (p.length + total p + w.length) < 0
  · exact ev_pos c (Ev.now _)
  have hl := left_pos c
  have hp : p.length ≤ 1000000000 := by omega
  have hw : w.length ≤ 1000000000 := by omega
  have t := toChip_ev p w (by omega) (by omega)
  have hb := burnR_len p w a (s.extract 0 (cutAt n s.size))
  have sp := spec_Torn_ev p w a s n (by omega) (by omega)
  have im := impl_Torn_eq p w a s n (by omega) (by omega)
  generalize (burnR p w a (s.extract 0 (cutAt n s.size))).1 = P at hb sp im
  generalize (burnR p w a (s.extract 0 (cutAt n s.size))).2.1 = W at hb sp im
  have hb1 := hb.1
  have hb2 := hb.2
  have e := eqChip_ev P W (by omega) (by omega)
  have e0 := eqChip_ev p w (by omega) (by omega)
  have m := markChip_ev P W 1 (by omega) (by omega) (by omega) (by omega)
  have m0 := markChip_ev p w 1 (by omega) (by omega) (by omega) (by omega)
  have hd := heldChip_ev P.length W.length 1 (by omega) (by omega) (by omega) (by omega)
  refine ev_neg c (Ev.bind t (Ev.bind sp (Ev.bind t (ev_bind im (Ev.bind e (ev_pos rfl (Ev.bind t (Ev.bind e0 (ev_pos rfl (Ev.bind m0 (ev_neg (by show ¬ _ < (0 : Int); omega) (Ev.bind e ?_))))))))))))
  show Ev (fun k => laws_FnExactTorn.j0 k a s n false p w P W P W) true
  refine Ev.step (fun k => by simp only [laws_FnExactTorn.j0]; exact rfl) ?_
  exact ev_neg (by decide) (Ev.bind m (Ev.bind hd (ev_neg (by omega) (ev_pos rfl (Ev.bind t (ev_bind im (Ev.bind e (ev_pos rfl (Ev.bind hd (ev_neg (by omega) (ev_pos rfl (Ev.now _))))))))))))

end Go.Proofs.Ytpbamdcbaloibab.Pure
