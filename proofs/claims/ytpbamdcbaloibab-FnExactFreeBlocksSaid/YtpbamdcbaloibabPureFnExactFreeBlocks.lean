/- The law FnExactFreeBlocks answers true at every input; no condition. -/
import Derived.Test.YtpbamdcbaloibabPFnExactFreeBlocksx5
import Derived.Test.YtpbamdcbaloibabLibM
namespace Go.Proofs.Ytpbamdcbaloibab.Pure
open Go.RowKit Go.Proofs.Ytpbamdcbaloibab.PFnExactFreeBlocks Go.Proofs.YtpbamdcbaloibabW.PrintWords Go.Proofs.YtpbamdcbaloibabW.PrintLast Go.Proofs.YtpbamdcbaloibabW.PrintMore Go.Proofs.Ytpbamdcbaloibab.Lib
set_option linter.unusedVariables false

/-! ### laws_szStringS -/
theorem szStringS_l0 (l : List ByteArray) (hl : l.length ≤ 1048576) (hs : ∀ x ∈ l, x.size ≤ maxLen) : ∀ (d i : Nat) (n : Int), l.length - i = d → i ≤ l.length → 0 ≤ n → n ≤ 1048576 →
    Ev (fun k => laws_szStringS.l0 k l n (i : Int)) (left_ n (total (l.drop i))) := by
  intro d
  induction d with
  | zero =>
    intro i n hd hi h0 h1
    rw [List.drop_of_length_le (by omega), total_nil]
    refine Ev.step (f := fun _ => some n) (fun k => ?_) (ev_eq ?_)
    · simp only [laws_szStringS.l0]
      rw [if_neg (by omega)]
    · unfold left_
      rw [if_neg (by omega)]
      simp
  | succ d ih =>
    intro i n hd hi h0 h1
    have h : i < l.length := by omega
    have hx := hs _ (List.getElem_mem h)
    unfold maxLen at hx
    rw [List.drop_eq_getElem_cons h, total_cons]
    by_cases c : n - (l[i].size : Int) < 0
    · refine Ev.step (f := fun _ => some (-1)) (fun k => ?_) (ev_eq ?_)
      · simp only [laws_szStringS.l0]
        rw [if_pos (by omega), if_pos (by omega), rds_at h, w64 (x := n - (l[i].size : Int)) (by omega) (by omega), if_pos c]
      · unfold left_
        rw [if_pos (by omega)]
    · have e := ih (i + 1) (n - (l[i].size : Int)) (by omega) (by omega) (by omega) (by omega)
      have e2 : left_ (n - (l[i].size : Int)) (total (l.drop (i + 1))) = left_ n (l[i].size + total (l.drop (i + 1))) := by
        unfold left_
        rw [show n - ((l[i].size + total (l.drop (i + 1)) : Nat) : Int) = n - (l[i].size : Int) - (total (l.drop (i + 1)) : Nat) by omega]
      rw [← e2]
      refine Ev.step (fun k => ?_) e
      simp only [laws_szStringS.l0]
      rw [if_pos (by omega), if_pos (by omega), rds_at h, w64 (x := n - (l[i].size : Int)) (by omega) (by omega), if_neg c, wsucc (by omega)]
theorem szStringS_ev (l : List ByteArray) (n : Int) (hl : l.length ≤ maxLen) (hs : ∀ x ∈ l, x.size ≤ maxLen) (h0 : 0 ≤ n) (h1 : n ≤ 1048576) :
    Ev (fun k => laws_szStringS.f k l n) (left_ n (l.length + total l)) := by
  unfold maxLen at hl
  unfold laws_szStringS.f
  rw [w64 (x := n - (l.length : Int)) (by omega) (by omega)]
  by_cases c : n - (l.length : Int) < 0
  · refine ev_pos c (ev_eq ?_)
    unfold left_
    rw [if_pos (by omega)]
  · refine ev_neg c ?_
    have e := szStringS_l0 l (by omega) hs l.length 0 (n - (l.length : Int)) (by omega) (by omega) (by omega) (by omega)
    have e2 : left_ (n - (l.length : Int)) (total l) = left_ n (l.length + total l) := by
      unfold left_
      rw [show n - ((l.length + total l : Nat) : Int) = n - (l.length : Int) - (total l : Nat) by omega]
    rw [← e2]
    simpa using e

/-! ### laws_szIntS -/
theorem szIntS_eq (l : List Int) (n : Int) (hl : l.length ≤ maxLen) (h0 : 0 ≤ n) (h1 : n ≤ 1048576) : laws_szIntS.f l n = some (left_ n l.length) := by
  unfold maxLen at hl
  unfold laws_szIntS.f left_
  rw [w64 (x := n - (l.length : Int)) (by omega) (by omega)]
  by_cases c : n - (l.length : Int) < 0
  · rw [if_pos c, if_pos c]
  · rw [if_neg c, if_neg c]

/-! ### laws_szChip -/
theorem szChip_ev (p : List ByteArray) (w : List Int) (n : Int) (hp : p.length ≤ maxLen) (hs : ∀ x ∈ p, x.size ≤ maxLen) (hw : w.length ≤ maxLen) (h0 : 0 ≤ n) (h1 : n ≤ 1048576) :
    Ev (fun k => laws_szChip.f k p w n) (left_ n (p.length + total p + w.length)) := by
  unfold laws_szChip.f
  refine Ev.bind (szStringS_ev p n hp hs h0 h1) ?_
  by_cases c : left_ n (p.length + total p) < 0
  · have := left_neg c
    refine ev_pos c (ev_eq ?_)
    unfold left_
    rw [if_pos (by omega)]
  · have := left_pos c
    refine ev_neg c (ev_bind (szIntS_eq w _ hw (by omega) (by omega)) ?_)
    have e : left_ (left_ n (p.length + total p)) w.length = left_ n (p.length + total p + w.length) := by
      rw [this.1]
      unfold left_
      rw [show n - ((p.length + total p + w.length : Nat) : Int) = n - ((p.length + total p : Nat) : Int) - (w.length : Nat) by omega]
    rw [e]
    by_cases d : left_ n (p.length + total p + w.length) < 0
    · refine ev_pos d (ev_eq ?_)
      have := left_neg d
      unfold left_
      rw [if_pos (by omega)]
    · exact ev_neg d (Ev.now _)

/-! ### laws_toStringS -/
theorem toStringS_l0 (l : List ByteArray) (hl : l.length ≤ 17592186044416) : ∀ (n i : Nat) (x : List ByteArray), l.length - i = n → i ≤ l.length → x.length = l.length → (∀ j, j < i → x[j]? = l[j]?) →
    Ev (fun k => laws_toStringS.l0 k l x (i : Int)) l := by
  intro n
  induction n with
  | zero =>
    intro i x hn hi hx hj
    have : i = l.length := by omega
    subst this
    have e : x = l := List.ext_getElem? fun j => by
      by_cases h : j < l.length
      · exact hj j h
      · rw [List.getElem?_eq_none (by omega), List.getElem?_eq_none (by omega)]
    subst e
    refine Ev.step (f := fun _ => some x) (fun k => ?_) (Ev.now _)
    simp only [laws_toStringS.l0]
    rw [if_neg (by omega)]
  | succ n ih =>
    intro i x hn hi hx hj
    have h : i < l.length := by omega
    refine Ev.step (f := fun k => laws_toStringS.l0 k l (x.set i l[i]) ((i + 1 : Nat) : Int)) (fun k => ?_) (ih (i + 1) (x.set i l[i]) (by omega) (by omega) (by simpa using hx) ?_)
    · simp only [laws_toStringS.l0]
      rw [if_pos (by omega), if_pos (by omega), if_pos (by omega), rds_at h, wsucc (by omega)]
      rfl
    · intro j hj'
      rw [List.getElem?_set]
      by_cases e : i = j
      · subst e
        rw [if_pos rfl, if_pos (by omega), List.getElem?_eq_getElem h]
      · rw [if_neg e]
        exact hj j (by omega)
theorem toStringS_ev (l : List ByteArray) (hl : l.length ≤ 17592186044416) : Ev (fun k => laws_toStringS.f k l) l := by
  unfold laws_toStringS.f
  exact ev_pos (by omega) (ev_pos (by omega) (toStringS_l0 l hl l.length 0 _ (by omega) (by omega) (by simp) (fun j h => by omega)))

/-! ### laws_toIntS -/
theorem toIntS_l0 (l : List Int) (hl : l.length ≤ 17592186044416) : ∀ (n i : Nat) (x : List Int), l.length - i = n → i ≤ l.length → x.length = l.length → (∀ j, j < i → x[j]? = l[j]?) →
    Ev (fun k => laws_toIntS.l0 k l x (i : Int)) l := by
  intro n
  induction n with
  | zero =>
    intro i x hn hi hx hj
    have : i = l.length := by omega
    subst this
    have e : x = l := List.ext_getElem? fun j => by
      by_cases h : j < l.length
      · exact hj j h
      · rw [List.getElem?_eq_none (by omega), List.getElem?_eq_none (by omega)]
    subst e
    refine Ev.step (f := fun _ => some x) (fun k => ?_) (Ev.now _)
    simp only [laws_toIntS.l0]
    rw [if_neg (by omega)]
  | succ n ih =>
    intro i x hn hi hx hj
    have h : i < l.length := by omega
    refine Ev.step (f := fun k => laws_toIntS.l0 k l (x.set i l[i]) ((i + 1 : Nat) : Int)) (fun k => ?_) (ih (i + 1) (x.set i l[i]) (by omega) (by omega) (by simpa using hx) ?_)
    · simp only [laws_toIntS.l0]
      rw [if_pos (by omega), if_pos (by omega), if_pos (by omega), rd_at h, wsucc (by omega)]
      rfl
    · intro j hj'
      rw [List.getElem?_set]
      by_cases e : i = j
      · subst e
        rw [if_pos rfl, if_pos (by omega), List.getElem?_eq_getElem h]
      · rw [if_neg e]
        exact hj j (by omega)
theorem toIntS_ev (l : List Int) (hl : l.length ≤ 17592186044416) : Ev (fun k => laws_toIntS.f k l) l := by
  unfold laws_toIntS.f
  exact ev_pos (by omega) (ev_pos (by omega) (toIntS_l0 l hl l.length 0 _ (by omega) (by omega) (by simp) (fun j h => by omega)))

/-! ### laws_toChip -/
theorem toChip_ev (p : List ByteArray) (w : List Int) (hp : p.length ≤ 1000000000000) (hw : w.length ≤ 1000000000000) : Ev (fun k => laws_toChip.f k p w) (p, w) := by
  unfold laws_toChip.f
  exact Ev.bind (toStringS_ev p (by omega)) (Ev.bind (toIntS_ev w (by omega)) (Ev.now _))

/-! ### laws_eqStringS -/
theorem eqStringS_l0 (l : List ByteArray) (hl : l.length ≤ 17592186044416) : ∀ (n i : Nat), l.length - i = n → i ≤ l.length → Ev (fun k => laws_eqStringS.l0 k l l (i : Int)) true := by
  intro n
  induction n with
  | zero =>
    intro i hn hi
    refine Ev.step (f := fun _ => some true) (fun k => ?_) (Ev.now _)
    simp only [laws_eqStringS.l0]
    rw [if_neg (by omega)]
  | succ n ih =>
    intro i hn hi
    refine Ev.step (f := fun k => laws_eqStringS.l0 k l l ((i + 1 : Nat) : Int)) (fun k => ?_) (ih (i + 1) (by omega) (by omega))
    simp only [laws_eqStringS.l0]
    rw [if_pos (by omega), if_pos (by omega), if_pos (by omega), if_pos trivial, wsucc (by omega)]
theorem eqStringS_ev (l : List ByteArray) (hl : l.length ≤ 17592186044416) : Ev (fun k => laws_eqStringS.f k l l) true := by
  unfold laws_eqStringS.f
  simp only [if_true]
  exact eqStringS_l0 l hl l.length 0 (by omega) (by omega)

/-! ### laws_eqIntS -/
theorem eqIntS_l0 (l : List Int) (hl : l.length ≤ 17592186044416) : ∀ (n i : Nat), l.length - i = n → i ≤ l.length → Ev (fun k => laws_eqIntS.l0 k l l (i : Int)) true := by
  intro n
  induction n with
  | zero =>
    intro i hn hi
    refine Ev.step (f := fun _ => some true) (fun k => ?_) (Ev.now _)
    simp only [laws_eqIntS.l0]
    rw [if_neg (by omega)]
  | succ n ih =>
    intro i hn hi
    refine Ev.step (f := fun k => laws_eqIntS.l0 k l l ((i + 1 : Nat) : Int)) (fun k => ?_) (ih (i + 1) (by omega) (by omega))
    simp only [laws_eqIntS.l0]
    rw [if_pos (by omega), if_pos (by omega), if_pos (by omega), if_pos trivial, wsucc (by omega)]
theorem eqIntS_ev (l : List Int) (hl : l.length ≤ 17592186044416) : Ev (fun k => laws_eqIntS.f k l l) true := by
  unfold laws_eqIntS.f
  simp only [if_true]
  exact eqIntS_l0 l hl l.length 0 (by omega) (by omega)

/-! ### laws_eqChip -/
theorem eqChip_ev (p : List ByteArray) (w : List Int) (hp : p.length ≤ 1000000000000) (hw : w.length ≤ 1000000000000) : Ev (fun k => laws_eqChip.f k p w p w) true := by
  unfold laws_eqChip.f
  exact Ev.bind (eqStringS_ev p (by omega)) (ev_pos rfl (Ev.bind (eqIntS_ev w (by omega)) (ev_pos rfl (Ev.now _))))

/-! ### laws_markText -/
theorem markText_l0 : ∀ (f : Nat) (n : Int) (x : ByteArray), 0 ≤ n → n < 10 ^ f → n < 9223372036854775808 → x.size + f ≤ 1000 → ∃ r, Ev (fun k => laws_markText.l0 k n x) r := by
  intro f
  induction f with
  | zero =>
    intro n x h0 h1 h2 hx
    have h1 : n < 1 := h1
    refine ⟨_, Ev.step (f := fun _ => some ((⟨#[109]⟩ : ByteArray) ++ x)) (fun k => ?_) (Ev.now _)⟩
    simp only [laws_markText.l0]
    rw [if_neg (by omega), if_pos (by omega)]
  | succ f ih =>
    intro n x h0 h1 h2 hx
    by_cases c : n > 0
    · have hs : ∀ y, (strOfNums [y]).size = 1 := fun y => by simp [strOfNums, ByteArray.size]
      obtain ⟨r, hr⟩ := ih (n / 10) (strOfNums [(wrap64 (48 + (Int.tmod n 10))) % 256] ++ x) (by omega) (by rw [Int.pow_succ] at h1; omega) (by omega) (by rw [ByteArray.size_append, hs]; omega)
      refine ⟨r, Ev.step (f := fun k => laws_markText.l0 k (n / 10) (strOfNums [(wrap64 (48 + (Int.tmod n 10))) % 256] ++ x)) (fun k => ?_) hr⟩
      simp only [laws_markText.l0]
      rw [if_pos c]
      simp only [Option.bind_some, hs]
      rw [if_pos (by omega), Int.tdiv_eq_ediv_of_nonneg (by omega), w64 (x := n / 10) (by omega) (by omega)]
    · refine ⟨_, Ev.step (f := fun _ => some ((⟨#[109]⟩ : ByteArray) ++ x)) (fun k => ?_) (Ev.now _)⟩
      simp only [laws_markText.l0]
      rw [if_neg c, if_pos (by omega)]
theorem markText_some (n : Int) (h : n < 9223372036854775808) : ∃ r, Ev (fun k => laws_markText.f k n) r := by
  unfold laws_markText.f
  by_cases c : n ≤ 0
  · exact ⟨_, ev_pos c (Ev.now _)⟩
  · obtain ⟨r, hr⟩ := markText_l0 19 n ⟨#[]⟩ (by omega) (by omega) h (by simp [ByteArray.size])
    exact ⟨r, ev_neg c hr⟩
/-- The mark of a number, as a text. -/
noncomputable def mtx (n : Int) : ByteArray := Classical.epsilon fun r => Ev (fun k => laws_markText.f k n) r
theorem mtx_ev (n : Int) (h : n < 9223372036854775808) : Ev (fun k => laws_markText.f k n) (mtx n) := Classical.epsilon_spec (markText_some n h)

/-! ### laws_markStringS -/
/-- What the marks are. -/
noncomputable def mkStringS (m : Int) (n : Nat) : List ByteArray := (List.range n).map fun j => mtx (m + (j : Nat))
theorem mkStringS_length (m : Int) (n : Nat) : (mkStringS m n).length = n := by simp [mkStringS]
theorem mkStringS_at (m : Int) (n j : Nat) (h : j < (mkStringS m n).length) : (mkStringS m n)[j] = mtx (m + (j : Nat)) := by simp [mkStringS]
theorem markStringS_l0 (m : Int) (N : Nat) (h0 : -1000000000000000000 ≤ m) (h1 : m ≤ 1000000000000000000) (hN : N ≤ 17592186044416) : ∀ (n i : Nat) (x : List ByteArray), N - i = n → i ≤ N → x.length = N → (∀ j, j < i → x[j]? = some (mtx (m + (j : Nat)))) →
    Ev (fun k => laws_markStringS.l0 k x (m + (i : Nat)) (i : Int)) (m + (N : Nat), mkStringS m N) := by
  intro n
  induction n with
  | zero =>
    intro i x hn hi hx hj
    have : i = N := by omega
    subst this
    have e : x = mkStringS m i := List.ext_getElem? fun j => by
      by_cases h : j < i
      · rw [hj j h]
        simp [mkStringS, h]
      · rw [List.getElem?_eq_none (by omega), List.getElem?_eq_none (by rw [mkStringS_length]; omega)]
    subst e
    refine Ev.step (f := fun _ => some (m + (i : Nat), mkStringS m i)) (fun k => ?_) (Ev.now _)
    simp only [laws_markStringS.l0]
    rw [if_neg (by omega)]
  | succ n ih =>
    intro i x hn hi hx hj
    have e2 := Ev.bind (f := fun k t => laws_markStringS.l0 k (x.set i t) (m + ((i + 1 : Nat) : Nat)) ((i + 1 : Nat) : Int)) (mtx_ev (m + (i : Nat)) (by omega)) (ih (i + 1) (x.set i (mtx (m + (i : Nat)))) (by omega) (by omega) (by simpa using hx) ?_)
    · refine Ev.step (fun k => ?_) e2
      simp only [laws_markStringS.l0]
      rw [if_pos (by omega)]
      congr 1
      funext t
      rw [if_pos (by omega), wsucc (by omega), w64 (by omega) (by omega)]
      congr 1
      omega
    · intro j hj'
      rw [List.getElem?_set]
      by_cases e : i = j
      · subst e
        rw [if_pos rfl, if_pos (by omega)]
      · rw [if_neg e]
        exact hj j (by omega)
theorem markStringS_ev (l : List ByteArray) (m : Int) (h0 : -1000000000000000000 ≤ m) (h1 : m ≤ 1000000000000000000) (hl : l.length ≤ 17592186044416) : Ev (fun k => laws_markStringS.f k l m) (m + (l.length : Nat), mkStringS m l.length) := by
  unfold laws_markStringS.f
  have := markStringS_l0 m l.length h0 h1 hl l.length 0 l (by omega) (by omega) rfl (fun j h => by omega)
  simpa using this

/-! ### laws_markIntS -/
/-- What the marks are. -/
def mkIntS (m : Int) (n : Nat) : List Int := (List.range n).map fun j => (m + (j : Nat))
theorem mkIntS_length (m : Int) (n : Nat) : (mkIntS m n).length = n := by simp [mkIntS]
theorem mkIntS_at (m : Int) (n j : Nat) (h : j < (mkIntS m n).length) : (mkIntS m n)[j] = (m + (j : Nat)) := by simp [mkIntS]
theorem markIntS_l0 (m : Int) (N : Nat) (h0 : -1000000000000000000 ≤ m) (h1 : m ≤ 1000000000000000000) (hN : N ≤ 17592186044416) : ∀ (n i : Nat) (x : List Int), N - i = n → i ≤ N → x.length = N → (∀ j, j < i → x[j]? = some (m + (j : Nat))) →
    Ev (fun k => laws_markIntS.l0 k x (m + (i : Nat)) (i : Int)) (m + (N : Nat), mkIntS m N) := by
  intro n
  induction n with
  | zero =>
    intro i x hn hi hx hj
    have : i = N := by omega
    subst this
    have e : x = mkIntS m i := List.ext_getElem? fun j => by
      by_cases h : j < i
      · rw [hj j h]
        simp [mkIntS, h]
      · rw [List.getElem?_eq_none (by omega), List.getElem?_eq_none (by rw [mkIntS_length]; omega)]
    subst e
    refine Ev.step (f := fun _ => some (m + (i : Nat), mkIntS m i)) (fun k => ?_) (Ev.now _)
    simp only [laws_markIntS.l0]
    rw [if_neg (by omega)]
  | succ n ih =>
    intro i x hn hi hx hj
    refine Ev.step (f := fun k => laws_markIntS.l0 k (x.set i (m + (i : Nat))) (m + ((i + 1 : Nat) : Nat)) ((i + 1 : Nat) : Int)) (fun k => ?_) (ih (i + 1) (x.set i (m + (i : Nat))) (by omega) (by omega) (by simpa using hx) ?_)
    · simp only [laws_markIntS.l0]
      rw [if_pos (by omega), if_pos (by omega), wsucc (by omega), w64 (by omega) (by omega)]
      congr 1
      omega
    · intro j hj'
      rw [List.getElem?_set]
      by_cases e : i = j
      · subst e
        rw [if_pos rfl, if_pos (by omega)]
      · rw [if_neg e]
        exact hj j (by omega)
theorem markIntS_ev (l : List Int) (m : Int) (h0 : -1000000000000000000 ≤ m) (h1 : m ≤ 1000000000000000000) (hl : l.length ≤ 17592186044416) : Ev (fun k => laws_markIntS.f k l m) (m + (l.length : Nat), mkIntS m l.length) := by
  unfold laws_markIntS.f
  have := markIntS_l0 m l.length h0 h1 hl l.length 0 l (by omega) (by omega) rfl (fun j h => by omega)
  simpa using this

/-! ### laws_markChip -/
theorem markChip_ev (p : List ByteArray) (w : List Int) (m : Int) (h0 : 0 ≤ m) (h1 : m ≤ 1000000000000) (hp : p.length ≤ 1000000000000) (hw : w.length ≤ 1000000000000) :
    Ev (fun k => laws_markChip.f k p w m) (m + (p.length : Nat) + (w.length : Nat), mkStringS m p.length, mkIntS (m + (p.length : Nat)) w.length) := by
  unfold laws_markChip.f
  exact Ev.bind (markStringS_ev p m (by omega) (by omega) (by omega)) (Ev.bind (markIntS_ev w (m + (p.length : Nat)) (by omega) (by omega) (by omega)) (Ev.now _))

/-! ### laws_heldIntS -/
theorem heldIntS_l0 (m : Int) (N : Nat) (h0 : -1000000000000000000 ≤ m) (h1 : m ≤ 1000000000000000000) (hN : N ≤ 17592186044416) : ∀ (n i : Nat), N - i = n → i ≤ N →
    Ev (fun k => laws_heldIntS.l0 k (mkIntS m N) (m + (i : Nat)) (i : Int)) (m + (N : Nat)) := by
  intro n
  induction n with
  | zero =>
    intro i hn hi
    have : i = N := by omega
    subst this
    refine Ev.step (f := fun _ => some (m + (i : Nat))) (fun k => ?_) (Ev.now _)
    simp only [laws_heldIntS.l0, mkIntS_length]
    rw [if_neg (by omega)]
  | succ n ih =>
    intro i hn hi
    have h : i < (mkIntS m N).length := by rw [mkIntS_length]; omega
    refine Ev.step (f := fun k => laws_heldIntS.l0 k (mkIntS m N) (m + ((i + 1 : Nat) : Nat)) ((i + 1 : Nat) : Int)) (fun k => ?_) (ih (i + 1) (by omega) (by omega))
    simp only [laws_heldIntS.l0]
    rw [if_pos (by omega), if_pos (by omega), rd_at h, mkIntS_at, if_pos rfl, wsucc (by omega), w64 (by omega) (by omega)]
    congr 1
    omega
theorem heldIntS_ev (m : Int) (N : Nat) (h0 : -1000000000000000000 ≤ m) (h1 : m ≤ 1000000000000000000) (hN : N ≤ 17592186044416) : Ev (fun k => laws_heldIntS.f k (mkIntS m N) m) (m + (N : Nat)) := by
  unfold laws_heldIntS.f
  simpa using heldIntS_l0 m N h0 h1 hN N 0 (by omega) (by omega)

/-! ### spec_l1In -/
theorem spec_l1In_eq (a b c : Int) : spec_l1In.f a b c = some (decide (b ≤ a ∧ a ≤ c)) := by
  unfold spec_l1In.f
  by_cases h : a ≥ b
  · rw [if_pos h]
    congr 1
    by_cases g : a ≤ c
    · rw [decide_eq_true g, decide_eq_true ⟨h, g⟩]
    · rw [decide_eq_false g, decide_eq_false (fun x => g x.2)]
  · rw [if_neg h, decide_eq_false (fun x => h x.1)]

/-! ### spec_ChipOk -/
theorem spec_ChipOk_l1 (p : List ByteArray) (w : List Int) (hw : w.length ≤ 1000000000000) : ∀ (d i : Nat), w.length - i = d → i ≤ w.length →
    Ev (fun k => spec_ChipOk.l1 k (i : Int) p w) (!((w.drop i).any fun n => !(decide (0 ≤ n ∧ n ≤ 1000000000)))) := by
  intro d
  induction d with
  | zero =>
    intro i hd hi
    rw [List.drop_of_length_le (by omega)]
    refine Ev.step (f := fun _ => some true) (fun k => ?_) (Ev.now _)
    simp only [spec_ChipOk.l1]
    rw [if_neg (by omega)]
  | succ d ih =>
    intro i hd hi
    have h : i < w.length := by omega
    rw [List.drop_eq_getElem_cons h, List.any_cons]
    have e := ih (i + 1) (by omega) (by omega)
    by_cases c : 0 ≤ w[i] ∧ w[i] ≤ 1000000000
    · rw [decide_eq_true c]
      refine Ev.step (f := fun k => spec_ChipOk.l1 k ((i + 1 : Nat) : Int) p w) (fun k => ?_) e
      simp only [spec_ChipOk.l1]
      rw [if_pos (by omega), if_pos (by omega), spec_l1In_eq, rd_at h, decide_eq_true c, Option.bind_some, if_pos rfl, wsucc (by omega)]
    · rw [decide_eq_false c]
      refine Ev.step (f := fun k => some false) (fun k => ?_) (Ev.now _)
      simp only [spec_ChipOk.l1]
      rw [if_pos (by omega), if_pos (by omega), spec_l1In_eq, rd_at h, decide_eq_false c, Option.bind_some, if_neg (by decide)]
theorem spec_ChipOk_l0 (p : List ByteArray) (w : List Int) (hp : p.length ≤ 1000000000000) (hw : w.length ≤ 1000000000000) : ∀ (d i : Nat), p.length - i = d → i ≤ p.length →
    Ev (fun k => spec_ChipOk.l0 k (i : Int) p w) (!((p.drop i).any fun s => decide (800 < (s.size : Int))) && !(w.any fun n => !(decide (0 ≤ n ∧ n ≤ 1000000000)))) := by
  intro d
  induction d with
  | zero =>
    intro i hd hi
    rw [List.drop_of_length_le (by omega)]
    refine Ev.step (f := fun k => spec_ChipOk.l1 k 0 p w) (fun k => ?_) (by simpa using spec_ChipOk_l1 p w hw w.length 0 (by omega) (by omega))
    simp only [spec_ChipOk.l0]
    rw [if_neg (by omega)]
  | succ d ih =>
    intro i hd hi
    have h : i < p.length := by omega
    rw [List.drop_eq_getElem_cons h, List.any_cons]
    have e := ih (i + 1) (by omega) (by omega)
    by_cases c : 800 < (p[i].size : Int)
    · rw [decide_eq_true c]
      refine Ev.step (f := fun k => some false) (fun k => ?_) (Ev.now _)
      simp only [spec_ChipOk.l0]
      rw [if_pos (by omega), if_pos (by omega), rds_at h, if_pos c]
    · rw [decide_eq_false c]
      refine Ev.step (f := fun k => spec_ChipOk.l0 k ((i + 1 : Nat) : Int) p w) (fun k => ?_) e
      simp only [spec_ChipOk.l0]
      rw [if_pos (by omega), if_pos (by omega), rds_at h, if_neg c, wsucc (by omega)]
theorem spec_ChipOk_ev (p : List ByteArray) (w : List Int) (hp : p.length ≤ 1000000000000) (hw : w.length ≤ 1000000000000) : Ev (fun k => spec_ChipOk.f k p w) (chipOkB p w) := by
  unfold spec_ChipOk.f chipOkB
  by_cases c : p.length = 60
  · refine ev_pos (by omega) ?_
    rw [decide_eq_true c]
    by_cases b : w.length = 10
    · rw [decide_eq_true b]
      have e : ((w.length : Int) != 10) = false := by rw [b]; rfl
      rw [e]
      refine Ev.step (f := fun k => spec_ChipOk.l0 k 0 p w) (fun k => ?_) (by simpa using spec_ChipOk_l0 p w hp hw p.length 0 (by omega) (by omega))
      simp only [spec_ChipOk.j0]
      rw [if_neg (by decide)]
    · rw [decide_eq_false b]
      have e : ((w.length : Int) != 10) = true := by
        rw [bne_iff_ne]
        omega
      rw [e]
      refine Ev.step (f := fun k => some false) (fun k => ?_) (Ev.now _)
      simp only [spec_ChipOk.j0]
      rw [if_pos trivial]
  · refine ev_neg (by omega) ?_
    rw [decide_eq_false c]
    refine Ev.step (f := fun k => some false) (fun k => ?_) (Ev.now _)
    simp only [spec_ChipOk.j0]
    rw [if_pos trivial]
theorem chipOk_len {p : List ByteArray} {w : List Int} (h : chipOkB p w = true) : p.length = 60 ∧ w.length = 10 := by
  unfold chipOkB at h
  simp only [Bool.and_eq_true, decide_eq_true_eq] at h
  exact ⟨h.1.1.1, h.1.1.2⟩
theorem chipOk_page {p : List ByteArray} {w : List Int} (h : chipOkB p w = true) {i : Nat} (hi : i < p.length) : p[i].size ≤ 800 := by
  unfold chipOkB at h
  simp only [Bool.and_eq_true, Bool.not_eq_true', List.any_eq_false, decide_eq_true_eq] at h
  have := h.1.2 _ (List.getElem_mem hi)
  omega
theorem chipOk_wear {p : List ByteArray} {w : List Int} (h : chipOkB p w = true) {i : Nat} (hi : i < w.length) : 0 ≤ w[i] ∧ w[i] ≤ 1000000000 := by
  unfold chipOkB at h
  simp only [Bool.and_eq_true, Bool.not_eq_true', List.any_eq_false] at h
  have := h.2 _ (List.getElem_mem hi)
  simpa using this

/-! ### m_next -/
/-- The page j is clear. -/
def em (p : List ByteArray) (j : Nat) : Bool := decide ((rdOf ByteArray.empty p (j : Int)).toList = ([] : List UInt8))
/-- Clear places, and clear places at the end, of d places from i on. -/
def cnt (e : Nat → Bool) (i c t : Nat) : Nat → Nat × Nat
  | 0 => (c, t)
  | d + 1 => if e i = true then cnt e (i + 1) (c + 1) (t + 1) d else cnt e (i + 1) c 0 d
def idx (e : Nat → Bool) (i : Nat) : Nat → Int
  | 0 => -1
  | d + 1 => if e i = true then (i : Int) else idx e (i + 1) d
def anyFull (e : Nat → Bool) (i : Nat) : Nat → Bool
  | 0 => false
  | d + 1 => !e i || anyFull e (i + 1) d
/-- The first clear place of 6, when all behind it are clear; or -1. -/
def fcE (e : Nat → Bool) : Int := if idx e 0 6 < 0 then -1 else if anyFull e (idx e 0 6).toNat (6 - (idx e 0 6).toNat) = true then -1 else idx e 0 6
def fc (p : List ByteArray) (b : Nat) : Int := fcE fun j => em p (b * 6 + j)
def fcT (b0 b1 b2 b3 b4 b5 : Bool) : Nat → Bool
  | 0 => b0 | 1 => b1 | 2 => b2 | 3 => b3 | 4 => b4 | _ => b5
theorem fcE_of (e : Nat → Bool) : fcE e = fcE (fcT (e 0) (e 1) (e 2) (e 3) (e 4) (e 5)) ∧ cnt e 0 0 0 6 = cnt (fcT (e 0) (e 1) (e 2) (e 3) (e 4) (e 5)) 0 0 0 6 := by
  constructor
  · have hi : idx e 0 6 = idx (fcT (e 0) (e 1) (e 2) (e 3) (e 4) (e 5)) 0 6 := rfl
    unfold fcE
    rw [hi]
    generalize hb0 : e 0 = b0
    generalize hb1 : e 1 = b1
    generalize hb2 : e 2 = b2
    generalize hb3 : e 3 = b3
    generalize hb4 : e 4 = b4
    generalize hb5 : e 5 = b5
    cases b0 <;> cases b1 <;> cases b2 <;> cases b3 <;> cases b4 <;> cases b5 <;> simp [idx, fcT, anyFull, hb0, hb1, hb2, hb3, hb4, hb5]
  · rfl
theorem fc_range_ : ∀ b0 b1 b2 b3 b4 b5 : Bool, -1 ≤ fcE (fcT b0 b1 b2 b3 b4 b5) ∧ fcE (fcT b0 b1 b2 b3 b4 b5) ≤ 5 := by decide
theorem fc_cnt_ : ∀ b0 b1 b2 b3 b4 b5 : Bool, (cnt (fcT b0 b1 b2 b3 b4 b5) 0 0 0 6).1 ≤ 6 ∧ ((cnt (fcT b0 b1 b2 b3 b4 b5) 0 0 0 6).1 = 6 ↔ fcE (fcT b0 b1 b2 b3 b4 b5) = 0) ∧
    ((0 < (cnt (fcT b0 b1 b2 b3 b4 b5) 0 0 0 6).1 ∧ (cnt (fcT b0 b1 b2 b3 b4 b5) 0 0 0 6).1 < 6 ∧ (cnt (fcT b0 b1 b2 b3 b4 b5) 0 0 0 6).2 = (cnt (fcT b0 b1 b2 b3 b4 b5) 0 0 0 6).1) ↔ 0 < fcE (fcT b0 b1 b2 b3 b4 b5)) ∧
    (0 < fcE (fcT b0 b1 b2 b3 b4 b5) → fcE (fcT b0 b1 b2 b3 b4 b5) = 6 - ((cnt (fcT b0 b1 b2 b3 b4 b5) 0 0 0 6).1 : Int)) := by decide
theorem fcE_range (e : Nat → Bool) : -1 ≤ fcE e ∧ fcE e ≤ 5 := by
  rw [(fcE_of e).1]
  exact fc_range_ _ _ _ _ _ _
theorem fcE_cnt (e : Nat → Bool) : (cnt e 0 0 0 6).1 ≤ 6 ∧ ((cnt e 0 0 0 6).1 = 6 ↔ fcE e = 0) ∧ ((0 < (cnt e 0 0 0 6).1 ∧ (cnt e 0 0 0 6).1 < 6 ∧ (cnt e 0 0 0 6).2 = (cnt e 0 0 0 6).1) ↔ 0 < fcE e) ∧ (0 < fcE e → fcE e = 6 - ((cnt e 0 0 0 6).1 : Int)) := by
  rw [(fcE_of e).1, (fcE_of e).2]
  exact fc_cnt_ _ _ _ _ _ _
/-- The next page of the first open block, past one block that is skipped. -/
def openAt (p : List ByteArray) (skip : Int) (i : Nat) : Nat → Option Int
  | 0 => none
  | d + 1 => if 0 < fc p i ∧ (i : Int) ≠ skip then some ((i : Int) * 6 + fc p i) else openAt p skip (i + 1) d
/-- The free blocks. -/
def frees (p : List ByteArray) (i : Nat) : Nat → List Int
  | 0 => []
  | d + 1 => if fc p i = 0 then (i : Int) :: frees p (i + 1) d else frees p (i + 1) d
/-- The first of the least worn. -/
def best (w : List Int) (skip x : Int) : List Int → Int
  | [] => x
  | b :: l => if b = skip then best w skip x l else if x < 0 then best w skip b l else if rd w b < rd w x then best w skip b l else best w skip x l
def atBlock (x : Int) : Int := if x < 0 then -1 else x * 6
def pageR (p : List ByteArray) (w : List Int) (skip : Int) : Int := (openAt p skip 0 10).getD (atBlock (best w skip (-1) (frees p 0 10)))
theorem frees_mem (p : List ByteArray) : ∀ (d i : Nat), i + d = 10 → ∀ x ∈ frees p i d, 0 ≤ x ∧ x ≤ 9 := by
  intro d
  induction d with
  | zero => exact fun _ _ x h => by cases h
  | succ d ih =>
    intro i hi x h
    unfold frees at h
    split at h
    · rcases List.mem_cons.1 h with rfl | h
      · omega
      · exact ih (i + 1) (by omega) x h
    · exact ih (i + 1) (by omega) x h
theorem frees_len (p : List ByteArray) : ∀ (d i : Nat), (frees p i d).length ≤ d := by
  intro d
  induction d with
  | zero => exact fun _ => Nat.le_refl _
  | succ d ih =>
    intro i
    unfold frees
    have := ih (i + 1)
    split
    · rw [List.length_cons]
      omega
    · omega

/-! ### impl_firstClear -/
theorem index_l0 (pg : List ByteArray) (hl : pg.length ≤ 1000000) : ∀ (d i : Nat), pg.length - i = d → i ≤ pg.length →
    Ev (fun k => slices_Index_string_string.l0 k pg (⟨#[]⟩ : ByteArray) (pg.length : Int) (i : Int)) (idx (em pg) i d) := by
  intro d
  induction d with
  | zero =>
    intro i hd hi
    refine Ev.step (f := fun _ => some (-1)) (fun k => ?_) (Ev.now _)
    simp only [slices_Index_string_string.l0]
    rw [if_neg (by omega)]
  | succ d ih =>
    intro i hd hi
    have h : i < pg.length := by omega
    have z : (⟨#[]⟩ : ByteArray).toList = ([] : List UInt8) := toList_nil_iff.2 rfl
    unfold idx em
    by_cases c : (rdOf ByteArray.empty pg (i : Int)).toList = ([] : List UInt8)
    · rw [decide_eq_true c, if_pos rfl]
      refine Ev.step (f := fun _ => some (i : Int)) (fun k => ?_) (Ev.now _)
      simp only [slices_Index_string_string.l0]
      rw [if_pos (by omega), if_pos (by omega), if_pos (by omega), z, c, if_pos rfl]
    · rw [decide_eq_false c, if_neg (by decide)]
      refine Ev.step (f := fun k => slices_Index_string_string.l0 k pg (⟨#[]⟩ : ByteArray) (pg.length : Int) ((i + 1 : Nat) : Int)) (fun k => ?_) (ih (i + 1) (by omega) (by omega))
      simp only [slices_Index_string_string.l0]
      rw [if_pos (by omega), if_pos (by omega), if_pos (by omega), z, if_neg (fun x => c x.symm), wsucc (by omega)]
theorem anyFull_of (pg : List ByteArray) : ∀ (d i : Nat), pg.length - i = d → i ≤ pg.length → ((pg.drop i).any fun x => (impl_firstClear_1.f x).getD false) = anyFull (em pg) i d := by
  intro d
  induction d with
  | zero =>
    intro i hd hi
    rw [List.drop_of_length_le (by omega)]
    rfl
  | succ d ih =>
    intro i hd hi
    have h : i < pg.length := by omega
    rw [List.drop_eq_getElem_cons h, List.any_cons, ih (i + 1) (by omega) (by omega)]
    show ((impl_firstClear_1.f pg[i]).getD false || anyFull (em pg) (i + 1) d) = (!em pg i || anyFull (em pg) (i + 1) d)
    congr 1
    unfold em impl_firstClear_1.f
    rw [rds_at h, Option.getD_some, Bool.eq_iff_iff]
    simp
theorem idx_range (e : Nat → Bool) : ∀ (d i : Nat), idx e i d = -1 ∨ ((i : Int) ≤ idx e i d ∧ idx e i d < (i + d : Nat)) := by
  intro d
  induction d with
  | zero => exact fun _ => .inl rfl
  | succ d ih =>
    intro i
    unfold idx
    split
    · exact .inr ⟨by omega, by omega⟩
    · rcases ih (i + 1) with h | h
      · exact .inl h
      · exact .inr ⟨by omega, by omega⟩
theorem firstClearO_ev (pg : List ByteArray) (hl : pg.length = 6) : Ev (fun k => firstClearO k pg) (fcE (em pg)) := by
  unfold firstClearO slices_Index_string_string.f fcE
  have e := index_l0 pg (by omega) 6 0 (by omega) (by omega)
  refine Ev.bind e ?_
  rcases idx_range (em pg) 6 0 with h | h
  · rw [h]
    exact Ev.now _
  · refine ev_r (if_neg (by omega)) ?_
    refine ev_neg (by omega) (ev_pos (by omega) ?_)
    have ha : containsFunc_f109.f (pg.drop (idx (em pg) 0 6).toNat) = some (anyFull (em pg) (idx (em pg) 0 6).toNat (6 - (idx (em pg) 0 6).toNat)) := by
      unfold containsFunc_f109.f
      rw [if_pos (by rw [List.all_eq_true]; exact fun _ _ => rfl), anyFull_of pg (6 - (idx (em pg) 0 6).toNat) _ (by omega) (by omega)]
    refine ev_bind ha ?_
    by_cases c : anyFull (em pg) (idx (em pg) 0 6).toNat (6 - (idx (em pg) 0 6).toNat) = true
    · rw [if_pos c, c]
      exact Ev.now _
    · rw [if_neg c, Bool.eq_false_iff.2 c]
      exact Ev.now _
theorem impl_firstClear_ev (p : List ByteArray) (w : List Int) (b : Nat) (hp : p.length = 60) (hb : b ≤ 9) : Ev (fun k => impl_firstClear.f k p w (b : Int)) (fc p b) := by
  unfold impl_firstClear.f fc
  refine ev_pos (by omega) ?_
  have e1 : (((b : Int) + 1) * 6).toNat = b * 6 + 6 := by omega
  have e2 : ((b : Int) * 6).toNat = b * 6 := by omega
  rw [e1, e2]
  have hl : ((p.take (b * 6 + 6)).drop (b * 6)).length = 6 := by
    rw [List.length_drop, List.length_take]
    omega
  have e := firstClearO_ev ((p.take (b * 6 + 6)).drop (b * 6)) hl
  have ee : fcE (em ((p.take (b * 6 + 6)).drop (b * 6))) = fcE fun j => em p (b * 6 + j) := by
    have g : ∀ j, j < 6 → em ((p.take (b * 6 + 6)).drop (b * 6)) j = em p (b * 6 + j) := fun j hj => by
      unfold em
      rw [rds_at (by omega), rds_at (by omega), List.getElem_drop, List.getElem_take]
    rw [(fcE_of (em ((p.take (b * 6 + 6)).drop (b * 6)))).1, (fcE_of fun j => em p (b * 6 + j)).1, g 0 (by omega), g 1 (by omega), g 2 (by omega), g 3 (by omega), g 4 (by omega), g 5 (by omega)]
  rw [← ee]
  exact e

/-! ### impl_freeBlocks -/
theorem impl_isFree_ev (p : List ByteArray) (w : List Int) (b : Nat) (hp : p.length = 60) (hb : b ≤ 9) : Ev (fun k => impl_isFree.f k p w (b : Int)) (fc p b == 0) := by
  unfold impl_isFree.f
  exact Ev.bind (impl_firstClear_ev p w b hp hb) (Ev.now _)
theorem impl_freeBlocks_l0 (p : List ByteArray) (w : List Int) (hp : p.length = 60) : ∀ (d i : Nat) (x : List Int), i + d = 10 → x.length ≤ i →
    Ev (fun k => impl_freeBlocks.l0 k x (i : Int) p w) (x ++ frees p i d) := by
  intro d
  induction d with
  | zero =>
    intro i x hi hx
    refine Ev.step (f := fun _ => some x) (fun k => ?_) (by rw [show x ++ frees p i 0 = x by simp [frees]]; exact Ev.now _)
    simp only [impl_freeBlocks.l0]
    rw [if_neg (by omega)]
  | succ d ih =>
    intro i x hi hx
    refine Ev.step (fun k => by simp only [impl_freeBlocks.l0]; exact rfl) ?_
    refine ev_pos (by omega) (Ev.bind (impl_isFree_ev p w i hp (by omega)) ?_)
    unfold frees
    by_cases c : fc p i = 0
    · rw [if_pos c]
      refine ev_pos (by rw [beq_iff_eq]; exact c) (ev_pos (by omega) ?_)
      rw [wsucc (by omega)]
      have e := ih (i + 1) (x ++ [(i : Int)]) (by omega) (by simp; omega)
      rw [List.append_assoc] at e
      exact e
    · rw [if_neg c]
      refine ev_neg (by rw [beq_iff_eq]; exact c) ?_
      rw [wsucc (by omega)]
      exact ih (i + 1) x (by omega) (by omega)
theorem impl_freeBlocks_ev (p : List ByteArray) (w : List Int) (hp : p.length = 60) : Ev (fun k => impl_freeBlocks.f k p w) (frees p 0 10) := by
  unfold impl_freeBlocks.f
  simpa using impl_freeBlocks_l0 p w hp 10 0 [] (by omega) (by simp)

/-! ### spec_l4Clear -/
theorem spec_l4Clear_l0 (p : List ByteArray) (w : List Int) (b : Nat) (hp : p.length = 60) (hb : b ≤ 9) : ∀ (d i c t : Nat), i + d = 6 → c ≤ i → t ≤ i →
    Ev (fun k => spec_l4Clear.l0 k (b : Int) (c : Int) (t : Int) (i : Int) p w) (((cnt (fun j => em p (b * 6 + j)) i c t d).1 : Int), ((cnt (fun j => em p (b * 6 + j)) i c t d).2 : Int)) := by
  intro d
  induction d with
  | zero =>
    intro i c t hi hc ht
    refine Ev.step (f := fun _ => some ((c : Int), (t : Int))) (fun k => ?_) (Ev.now _)
    simp only [spec_l4Clear.l0]
    rw [if_neg (by omega)]
  | succ d ih =>
    intro i c t hi hc ht
    refine Ev.step (fun k => by simp only [spec_l4Clear.l0]; exact rfl) ?_
    rw [w64 (x := (b : Int) * 6) (by omega) (by omega), w64 (x := (b : Int) * 6 + (i : Int)) (by omega) (by omega), wsucc (i := i) (by omega), wsucc (i := c) (by omega), wsucc (i := t) (by omega)]
    refine ev_pos (by omega) (ev_pos (by omega) (ev_pos (by omega) ?_))
    rw [show (b : Int) * 6 + (i : Int) = ((b * 6 + i : Nat) : Int) by omega]
    unfold cnt
    show Ev _ (((if em p (b * 6 + i) = true then _ else _ : Nat × Nat).1 : Int), ((if em p (b * 6 + i) = true then _ else _ : Nat × Nat).2 : Int))
    by_cases e : (rdOf ByteArray.empty p ((b * 6 + i : Nat) : Int)).toList = ([] : List UInt8)
    · have : em p (b * 6 + i) = true := decide_eq_true e
      rw [if_pos this]
      exact ev_pos e (ih (i + 1) (c + 1) (t + 1) (by omega) (by omega) (by omega))
    · have : ¬ em p (b * 6 + i) = true := by
        unfold em
        rw [decide_eq_false e]
        decide
      rw [if_neg this]
      exact ev_neg e (ih (i + 1) c 0 (by omega) (by omega) (by omega))

/-! ### laws_FnExactFreeBlocks -/
theorem spec_FreeBlocks_l0 (p : List ByteArray) (w : List Int) (c : chipOkB p w = true) : ∀ (d i : Nat) (x : List Int), i + d = 10 → x.length ≤ i → Ev (fun k => spec_FreeBlocks.l0 k x (i : Int) p w) (x ++ frees p i d) := by
  have hl := chipOk_len c
  intro d
  induction d with
  | zero =>
    intro i x hi hx
    refine Ev.step (fun k => by simp only [spec_FreeBlocks.l0]; exact rfl) ?_
    refine ev_neg (by omega) ?_
    refine Ev.step (fun k => by simp only [spec_FreeBlocks.j1]; exact rfl) ?_
    rw [show x ++ frees p i 0 = x by simp [frees]]
    exact ev_neg (by decide) (Ev.now _)
  | succ d ih =>
    intro i x hi hx
    obtain ⟨h1, h2, _⟩ := fcE_cnt fun j => em p (i * 6 + j)
    have e := spec_l4Clear_l0 p w i hl.1 (by omega) 6 0 0 0 (by omega) (by omega) (by omega)
    have ck := spec_ChipOk_ev p w (by omega) (by omega)
    rw [c] at ck
    refine Ev.step (fun k => by simp only [spec_FreeBlocks.l0]; exact rfl) ?_
    refine ev_pos (by omega) (Ev.bind ck ?_)
    refine Ev.step (fun k => by simp only [spec_FreeBlocks.j1]; exact rfl) ?_
    refine ev_pos trivial (Ev.bind e ?_)
    unfold frees
    by_cases g : (cnt (fun j => em p (i * 6 + j)) 0 0 0 6).1 = 6
    · have g' : fc p i = 0 := h2.1 g
      rw [if_pos g']
      refine ev_pos (by show ((cnt _ 0 0 0 6).1 : Int) = 6; omega) (ev_pos (by omega) ?_)
      rw [wsucc (by omega)]
      have e := ih (i + 1) (x ++ [(i : Int)]) (by omega) (by simp; omega)
      rw [List.append_assoc] at e
      exact e
    · have g' : ¬ fc p i = 0 := fun y => g (h2.2 y)
      rw [if_neg g']
      refine ev_neg (by show ¬ ((cnt _ 0 0 0 6).1 : Int) = 6; omega) ?_
      rw [wsucc (by omega)]
      exact ih (i + 1) x (by omega) (by omega)
theorem FnExactFreeBlocks_pure (p : List ByteArray) (w : List Int) (h : (p.length ≤ maxLen ∧ ∀ x ∈ p, x.size ≤ maxLen) ∧ (w.length ≤ maxLen ∧ ∀ x ∈ w, (Lit.int .i64 x).wf = true)) :
    ∃ k, laws_FnExactFreeBlocks.f k p w = some true := by
  refine Ev.rounds ?_
  unfold laws_FnExactFreeBlocks.f
  refine (Ev.bind (szChip_ev p w 1048576 h.1.1 h.1.2 h.2.1 (by omega) (by omega)) ?_)
  by_cases c : left_ 1048576 (p.length + total p + w.length) < 0
  · exact ev_pos c (Ev.now _)
  have hl := left_pos c
  have t := toChip_ev p w (by omega) (by omega)
  have e0 := eqChip_ev p w (by omega) (by omega)
  have m0 := markChip_ev p w 1 (by omega) (by omega) (by omega) (by omega)
  obtain ⟨r, hr, sp, im⟩ : ∃ r : List Int, r.length ≤ 10 ∧ Ev (fun k => spec_FreeBlocks.f k p w) r ∧ Ev (fun k => impl_FreeBlocks.f k p w) r := by
    unfold spec_FreeBlocks.f impl_FreeBlocks.f
    by_cases g : chipOkB p w = true
    · have gl := chipOk_len g
      refine ⟨frees p 0 10, frees_len p 10 0, ?_, ev_bind (x := chipOkB p w) rfl (ev_pos g (Ev.bind (impl_freeBlocks_ev p w gl.1) (ev_bind (x := frees p 0 10) rfl (Ev.now _))))⟩
      simpa using spec_FreeBlocks_l0 p w g 10 0 [] (by omega) (by simp)
    · have gf : chipOkB p w = false := Bool.eq_false_iff.2 g
      refine ⟨[], by simp, ?_, ev_bind (x := chipOkB p w) rfl (ev_neg g (Ev.now _))⟩
      have ck := spec_ChipOk_ev p w (by omega) (by omega)
      rw [gf] at ck
      refine Ev.step (fun k => by simp only [spec_FreeBlocks.l0]; exact rfl) ?_
      refine ev_pos (by omega) (Ev.bind ck ?_)
      refine Ev.step (fun k => by simp only [spec_FreeBlocks.j1]; exact rfl) ?_
      exact ev_neg (by decide) (Ev.now _)
  have e := eqIntS_ev r (by omega)
  have m := markIntS_ev r 1 (by omega) (by omega) (by omega)
  have hd := heldIntS_ev 1 r.length (by omega) (by omega) (by omega)
  refine ev_neg c (Ev.bind t (Ev.bind sp (Ev.bind t (Ev.bind im (Ev.bind e (ev_pos rfl (Ev.bind t (Ev.bind e0 (ev_pos rfl (Ev.bind m0 (ev_neg (by show ¬ _ < (0 : Int); omega) (Ev.bind e ?_))))))))))))
  show Ev (fun k => laws_FnExactFreeBlocks.j0 k r r false p w) true
  refine Ev.step (fun k => by simp only [laws_FnExactFreeBlocks.j0]; exact rfl) ?_
  exact ev_neg (by decide) (Ev.bind m (Ev.bind hd (ev_neg (by omega) (ev_pos rfl (Ev.bind t (Ev.bind im (Ev.bind e (ev_pos rfl (Ev.bind hd (ev_neg (by omega) (ev_pos rfl (Ev.now _))))))))))))

end Go.Proofs.Ytpbamdcbaloibab.Pure
