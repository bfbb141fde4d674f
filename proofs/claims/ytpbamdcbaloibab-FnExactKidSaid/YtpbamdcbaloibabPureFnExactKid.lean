/- The law FnExactKid answers true at every input; no condition. -/
import Derived.Test.YtpbamdcbaloibabPFnExactKidx3
import Derived.Test.YtpbamdcbaloibabLibM
namespace Go.Proofs.Ytpbamdcbaloibab.Pure
open Go.RowKit Go.Proofs.Ytpbamdcbaloibab.PFnExactKid Go.Proofs.YtpbamdcbaloibabW.PrintWords Go.Proofs.YtpbamdcbaloibabW.PrintLast Go.Proofs.YtpbamdcbaloibabW.PrintMore Go.Proofs.Ytpbamdcbaloibab.Lib
set_option linter.unusedVariables false

/-! ### laws_szStringS -/
theorem szStringS_l0 (l : List ByteArray) (hl : l.length ≤ 1048576) (hs : ∀ x ∈ l, x.size ≤ maxLen) : ∀ (d i : Nat) (n : Int), l.length - i = d → i ≤ l.length → 0 ≤ n → n ≤ 1048576 →
    Ev (fun k => laws_szStringS.l0 k l n (i : Int)) (left_ n (total (l.drop i))) := by
  intro d
  induction d with
  | zero =>
    intro i n hd hi h0 h1
    rw [List.drop_of_length_le (by omega), total_nil]
    refine Ev.step (f := fun _ => some n) (fun k => ?_) (ev_eq ?_)
    · simp only [laws_szStringS.l0]
      rw [if_neg (by omega)]
    · unfold left_
      rw [if_neg (by omega)]
      simp
  | succ d ih =>
    intro i n hd hi h0 h1
    have h : i < l.length := by omega
    have hx := hs _ (List.getElem_mem h)
    unfold maxLen at hx
    rw [List.drop_eq_getElem_cons h, total_cons]
    by_cases c : n - (l[i].size : Int) < 0
    · refine Ev.step (f := fun _ => some (-1)) (fun k => ?_) (ev_eq ?_)
      · simp only [laws_szStringS.l0]
        rw [if_pos (by omega), if_pos (by omega), rds_at h, w64 (x := n - (l[i].size : Int)) (by omega) (by omega), if_pos c]
      · unfold left_
        rw [if_pos (by omega)]
    · have e := ih (i + 1) (n - (l[i].size : Int)) (by omega) (by omega) (by omega) (by omega)
      have e2 : left_ (n - (l[i].size : Int)) (total (l.drop (i + 1))) = left_ n (l[i].size + total (l.drop (i + 1))) := by
        unfold left_
        rw [show n - ((l[i].size + total (l.drop (i + 1)) : Nat) : Int) = n - (l[i].size : Int) - (total (l.drop (i + 1)) : Nat) by omega]
      rw [← e2]
      refine Ev.step (fun k => ?_) e
      simp only [laws_szStringS.l0]
      rw [if_pos (by omega), if_pos (by omega), rds_at h, w64 (x := n - (l[i].size : Int)) (by omega) (by omega), if_neg c, wsucc (by omega)]
theorem szStringS_ev (l : List ByteArray) (n : Int) (hl : l.length ≤ maxLen) (hs : ∀ x ∈ l, x.size ≤ maxLen) (h0 : 0 ≤ n) (h1 : n ≤ 1048576) :
    Ev (fun k => laws_szStringS.f k l n) (left_ n (l.length + total l)) := by
  unfold maxLen at hl
  unfold laws_szStringS.f
  rw [w64 (x := n - (l.length : Int)) (by omega) (by omega)]
  by_cases c : n - (l.length : Int) < 0
  · refine ev_pos c (ev_eq ?_)
    unfold left_
    rw [if_pos (by omega)]
  · refine ev_neg c ?_
    have e := szStringS_l0 l (by omega) hs l.length 0 (n - (l.length : Int)) (by omega) (by omega) (by omega) (by omega)
    have e2 : left_ (n - (l.length : Int)) (total l) = left_ n (l.length + total l) := by
      unfold left_
      rw [show n - ((l.length + total l : Nat) : Int) = n - (l.length : Int) - (total l : Nat) by omega]
    rw [← e2]
    simpa using e

/-! ### laws_szIntS -/
theorem szIntS_eq (l : List Int) (n : Int) (hl : l.length ≤ maxLen) (h0 : 0 ≤ n) (h1 : n ≤ 1048576) : laws_szIntS.f l n = some (left_ n l.length) := by
  unfold maxLen at hl
  unfold laws_szIntS.f left_
  rw [w64 (x := n - (l.length : Int)) (by omega) (by omega)]
  by_cases c : n - (l.length : Int) < 0
  · rw [if_pos c, if_pos c]
  · rw [if_neg c, if_neg c]

/-! ### laws_szNode -/
theorem szNode_ev (b : Bool) (p : List ByteArray) (w : List Int) (t : ByteArray) (n : Int) (hp : p.length ≤ maxLen) (hs : ∀ x ∈ p, x.size ≤ maxLen) (hw : w.length ≤ maxLen) (ht : t.size ≤ maxLen) (h0 : 0 ≤ n) (h1 : n ≤ 1048576) :
    Ev (fun k => laws_szNode.f k b p w t n) (left_ n (p.length + total p + w.length + t.size)) := by
  unfold laws_szNode.f
  refine Ev.bind (szStringS_ev p n hp hs h0 h1) ?_
  by_cases c : left_ n (p.length + total p) < 0
  · have := left_neg c
    refine ev_pos c (ev_eq ?_)
    unfold left_
    rw [if_pos (by omega)]
  · have := left_pos c
    refine ev_neg c (ev_bind (szIntS_eq w _ hw (by omega) (by omega)) ?_)
    have e : left_ (left_ n (p.length + total p)) w.length = left_ n (p.length + total p + w.length) := by
      rw [this.1]
      unfold left_
      rw [show n - ((p.length + total p + w.length : Nat) : Int) = n - ((p.length + total p : Nat) : Int) - (w.length : Nat) by omega]
    rw [e]
    by_cases d : left_ n (p.length + total p + w.length) < 0
    · refine ev_pos d (ev_eq ?_)
      have := left_neg d
      unfold left_
      rw [if_pos (by omega)]
    · have hd := left_pos d
      unfold maxLen at ht
      refine ev_neg d ?_
      rw [w64 (by omega) (by omega)]
      by_cases g : left_ n (p.length + total p + w.length) - (t.size : Int) < 0
      · refine ev_pos g (ev_eq ?_)
        unfold left_
        rw [if_pos (by omega)]
      · refine ev_neg g (ev_eq ?_)
        rw [hd.1] at g ⊢
        unfold left_
        rw [if_neg (by omega)]
        congr 1
        omega

/-! ### laws_toStringS -/
theorem toStringS_l0 (l : List ByteArray) (hl : l.length ≤ 17592186044416) : ∀ (n i : Nat) (x : List ByteArray), l.length - i = n → i ≤ l.length → x.length = l.length → (∀ j, j < i → x[j]? = l[j]?) →
    Ev (fun k => laws_toStringS.l0 k l x (i : Int)) l := by
  intro n
  induction n with
  | zero =>
    intro i x hn hi hx hj
    have : i = l.length := by omega
    subst this
    have e : x = l := List.ext_getElem? fun j => by
      by_cases h : j < l.length
      · exact hj j h
      · rw [List.getElem?_eq_none (by omega), List.getElem?_eq_none (by omega)]
    subst e
    refine Ev.step (f := fun _ => some x) (fun k => ?_) (Ev.now _)
    simp only [laws_toStringS.l0]
    rw [if_neg (by omega)]
  | succ n ih =>
    intro i x hn hi hx hj
    have h : i < l.length := by omega
    refine Ev.step (f := fun k => laws_toStringS.l0 k l (x.set i l[i]) ((i + 1 : Nat) : Int)) (fun k => ?_) (ih (i + 1) (x.set i l[i]) (by omega) (by omega) (by simpa using hx) ?_)
    · simp only [laws_toStringS.l0]
      rw [if_pos (by omega), if_pos (by omega), if_pos (by omega), rds_at h, wsucc (by omega)]
      rfl
    · intro j hj'
      rw [List.getElem?_set]
      by_cases e : i = j
      · subst e
        rw [if_pos rfl, if_pos (by omega), List.getElem?_eq_getElem h]
      · rw [if_neg e]
        exact hj j (by omega)
theorem toStringS_ev (l : List ByteArray) (hl : l.length ≤ 17592186044416) : Ev (fun k => laws_toStringS.f k l) l := by
  unfold laws_toStringS.f
  exact ev_pos (by omega) (ev_pos (by omega) (toStringS_l0 l hl l.length 0 _ (by omega) (by omega) (by simp) (fun j h => by omega)))

/-! ### laws_toIntS -/
theorem toIntS_l0 (l : List Int) (hl : l.length ≤ 17592186044416) : ∀ (n i : Nat) (x : List Int), l.length - i = n → i ≤ l.length → x.length = l.length → (∀ j, j < i → x[j]? = l[j]?) →
    Ev (fun k => laws_toIntS.l0 k l x (i : Int)) l := by
  intro n
  induction n with
  | zero =>
    intro i x hn hi hx hj
    have : i = l.length := by omega
    subst this
    have e : x = l := List.ext_getElem? fun j => by
      by_cases h : j < l.length
      · exact hj j h
      · rw [List.getElem?_eq_none (by omega), List.getElem?_eq_none (by omega)]
    subst e
    refine Ev.step (f := fun _ => some x) (fun k => ?_) (Ev.now _)
    simp only [laws_toIntS.l0]
    rw [if_neg (by omega)]
  | succ n ih =>
    intro i x hn hi hx hj
    have h : i < l.length := by omega
    refine Ev.step (f := fun k => laws_toIntS.l0 k l (x.set i l[i]) ((i + 1 : Nat) : Int)) (fun k => ?_) (ih (i + 1) (x.set i l[i]) (by omega) (by omega) (by simpa using hx) ?_)
    · simp only [laws_toIntS.l0]
      rw [if_pos (by omega), if_pos (by omega), if_pos (by omega), rd_at h, wsucc (by omega)]
      rfl
    · intro j hj'
      rw [List.getElem?_set]
      by_cases e : i = j
      · subst e
        rw [if_pos rfl, if_pos (by omega), List.getElem?_eq_getElem h]
      · rw [if_neg e]
        exact hj j (by omega)
theorem toIntS_ev (l : List Int) (hl : l.length ≤ 17592186044416) : Ev (fun k => laws_toIntS.f k l) l := by
  unfold laws_toIntS.f
  exact ev_pos (by omega) (ev_pos (by omega) (toIntS_l0 l hl l.length 0 _ (by omega) (by omega) (by simp) (fun j h => by omega)))

/-! ### laws_toNode -/
theorem toNode_ev (b : Bool) (p : List ByteArray) (w : List Int) (t : ByteArray) (hp : p.length ≤ 1000000000000) (hw : w.length ≤ 1000000000000) : Ev (fun k => laws_toNode.f k b p w t) (b, p, w, t) := by
  unfold laws_toNode.f
  exact Ev.bind (toStringS_ev p (by omega)) (Ev.bind (toIntS_ev w (by omega)) (Ev.now _))

/-! ### laws_eqStringS -/
theorem eqStringS_l0 (l : List ByteArray) (hl : l.length ≤ 17592186044416) : ∀ (n i : Nat), l.length - i = n → i ≤ l.length → Ev (fun k => laws_eqStringS.l0 k l l (i : Int)) true := by
  intro n
  induction n with
  | zero =>
    intro i hn hi
    refine Ev.step (f := fun _ => some true) (fun k => ?_) (Ev.now _)
    simp only [laws_eqStringS.l0]
    rw [if_neg (by omega)]
  | succ n ih =>
    intro i hn hi
    refine Ev.step (f := fun k => laws_eqStringS.l0 k l l ((i + 1 : Nat) : Int)) (fun k => ?_) (ih (i + 1) (by omega) (by omega))
    simp only [laws_eqStringS.l0]
    rw [if_pos (by omega), if_pos (by omega), if_pos (by omega), if_pos trivial, wsucc (by omega)]
theorem eqStringS_ev (l : List ByteArray) (hl : l.length ≤ 17592186044416) : Ev (fun k => laws_eqStringS.f k l l) true := by
  unfold laws_eqStringS.f
  simp only [if_true]
  exact eqStringS_l0 l hl l.length 0 (by omega) (by omega)

/-! ### laws_eqIntS -/
theorem eqIntS_l0 (l : List Int) (hl : l.length ≤ 17592186044416) : ∀ (n i : Nat), l.length - i = n → i ≤ l.length → Ev (fun k => laws_eqIntS.l0 k l l (i : Int)) true := by
  intro n
  induction n with
  | zero =>
    intro i hn hi
    refine Ev.step (f := fun _ => some true) (fun k => ?_) (Ev.now _)
    simp only [laws_eqIntS.l0]
    rw [if_neg (by omega)]
  | succ n ih =>
    intro i hn hi
    refine Ev.step (f := fun k => laws_eqIntS.l0 k l l ((i + 1 : Nat) : Int)) (fun k => ?_) (ih (i + 1) (by omega) (by omega))
    simp only [laws_eqIntS.l0]
    rw [if_pos (by omega), if_pos (by omega), if_pos (by omega), if_pos trivial, wsucc (by omega)]
theorem eqIntS_ev (l : List Int) (hl : l.length ≤ 17592186044416) : Ev (fun k => laws_eqIntS.f k l l) true := by
  unfold laws_eqIntS.f
  simp only [if_true]
  exact eqIntS_l0 l hl l.length 0 (by omega) (by omega)

/-! ### laws_eqNode -/
theorem eqNode_ev (b : Bool) (p : List ByteArray) (w : List Int) (t : ByteArray) (hp : p.length ≤ 1000000000000) (hw : w.length ≤ 1000000000000) : Ev (fun k => laws_eqNode.f k b p w t b p w t) true := by
  unfold laws_eqNode.f
  refine ev_neg (by cases b <;> decide) ?_
  exact Ev.bind (eqStringS_ev p (by omega)) (ev_pos rfl (Ev.bind (eqIntS_ev w (by omega)) (ev_pos rfl (ev_pos rfl (Ev.now _)))))

/-! ### m_idx -/
/-- The first of d places from i on where it holds, or -1. -/
def idxOf (e : Nat → Bool) (i : Nat) : Nat → Int
  | 0 => -1
  | d + 1 => if e i = true then (i : Int) else idxOf e (i + 1) d
theorem idxOf_range (e : Nat → Bool) : ∀ (d i : Nat), idxOf e i d = -1 ∨ ((i : Int) ≤ idxOf e i d ∧ idxOf e i d < (i + d : Nat)) := by
  intro d
  induction d with
  | zero => exact fun _ => .inl rfl
  | succ d ih =>
    intro i
    unfold idxOf
    split
    · exact .inr ⟨by omega, by omega⟩
    · rcases ih (i + 1) with h | h
      · exact .inl h
      · exact .inr ⟨by omega, by omega⟩
theorem idxOf_congr {e f : Nat → Bool} : ∀ (d i : Nat), (∀ j, i ≤ j → j < i + d → e j = f j) → idxOf e i d = idxOf f i d := by
  intro d
  induction d with
  | zero => exact fun _ _ => rfl
  | succ d ih =>
    intro i h
    unfold idxOf
    rw [h i (by omega) (by omega), ih (i + 1) (fun j h1 h2 => h j (by omega) (by omega))]
/-- The j-th text is that text. -/
def isAt (n : List ByteArray) (x : ByteArray) (j : Nat) : Bool := decide ((rdOf ByteArray.empty n (j : Int)).toList = x.toList)

/-! ### spec_l8At -/
theorem spec_l8At_l0 (b : Bool) (n : List ByteArray) (m : List Int) (t x : ByteArray) (hl : n.length ≤ 1000000000000) : ∀ (d i : Nat), min n.length m.length - i = d → i ≤ min n.length m.length →
    Ev (fun k => spec_l8At.l0 k x (i : Int) b n m t) (idxOf (isAt n x) i d) := by
  intro d
  induction d with
  | zero =>
    intro i hd hi
    have no : Ev (fun k => spec_l8At.j1 k x (i : Int) false b n m t) (-1) := by
      refine Ev.step (f := fun _ => some (-1)) (fun k => ?_) (Ev.now _)
      simp only [spec_l8At.j1]
      rw [if_neg (by decide)]
    refine Ev.step (fun k => by simp only [spec_l8At.l0]; exact rfl) ?_
    by_cases c : (i : Int) < (n.length : Int)
    · refine ev_pos c ?_
      rw [decide_eq_false (by omega)]
      exact no
    · exact ev_neg c no
  | succ d ih =>
    intro i hd hi
    refine Ev.step (fun k => by simp only [spec_l8At.l0]; exact rfl) ?_
    refine ev_pos (by omega) ?_
    rw [decide_eq_true (by omega)]
    refine Ev.step (fun k => by simp only [spec_l8At.j1]; exact rfl) ?_
    refine ev_pos trivial (ev_pos (by omega) (ev_pos (by omega) ?_))
    unfold idxOf isAt
    by_cases c : (rdOf ByteArray.empty n (i : Int)).toList = x.toList
    · rw [decide_eq_true c]
      exact ev_r (if_pos rfl) (ev_pos c (Ev.now _))
    · rw [decide_eq_false c]
      refine ev_r (if_neg (by decide)) (ev_neg c ?_)
      rw [wsucc (by omega)]
      exact ih (i + 1) (by omega) (by omega)
theorem spec_l8At_ev (b : Bool) (n : List ByteArray) (m : List Int) (t x : ByteArray) (hl : n.length ≤ 1000000000000) : Ev (fun k => spec_l8At.f k b n m t x) (idxOf (isAt n x) 0 (min n.length m.length)) := by
  unfold spec_l8At.f
  exact spec_l8At_l0 b n m t x hl _ 0 (by omega) (by omega)

/-! ### impl_index -/
theorem indexS_l0 (pg : List ByteArray) (x : ByteArray) (hl : pg.length ≤ 1000000000000) : ∀ (d i : Nat), pg.length - i = d → i ≤ pg.length →
    Ev (fun k => slices_Index_string_string.l0 k pg x (pg.length : Int) (i : Int)) (idxOf (isAt pg x) i d) := by
  intro d
  induction d with
  | zero =>
    intro i hd hi
    refine Ev.step (f := fun _ => some (-1)) (fun k => ?_) (Ev.now _)
    simp only [slices_Index_string_string.l0]
    rw [if_neg (by omega)]
  | succ d ih =>
    intro i hd hi
    have h : i < pg.length := by omega
    unfold idxOf isAt
    by_cases c : (rdOf ByteArray.empty pg (i : Int)).toList = x.toList
    · rw [decide_eq_true c, if_pos rfl]
      refine Ev.step (f := fun _ => some (i : Int)) (fun k => ?_) (Ev.now _)
      simp only [slices_Index_string_string.l0]
      rw [if_pos (by omega), if_pos (by omega), if_pos (by omega), if_pos c.symm]
    · rw [decide_eq_false c, if_neg (by decide)]
      refine Ev.step (f := fun k => slices_Index_string_string.l0 k pg x (pg.length : Int) ((i + 1 : Nat) : Int)) (fun k => ?_) (ih (i + 1) (by omega) (by omega))
      simp only [slices_Index_string_string.l0]
      rw [if_pos (by omega), if_pos (by omega), if_pos (by omega), if_neg (fun y => c y.symm), wsucc (by omega)]
theorem indexS_ev (pg : List ByteArray) (x : ByteArray) (hl : pg.length ≤ 1000000000000) : Ev (fun k => slices_Index_string_string.f k pg x) (idxOf (isAt pg x) 0 pg.length) := by
  unfold slices_Index_string_string.f
  exact indexS_l0 pg x hl pg.length 0 (by omega) (by omega)

/-! ### impl_pairs -/
theorem mn_nat (a b : Nat) : mn (a : Int) (b : Int) = ((min a b : Nat) : Int) := by
  unfold mn
  split <;> omega
theorem impl_pairs_eq (b : Bool) (n : List ByteArray) (m : List Int) (t : ByteArray) (hn : n.length ≤ 1000000000000) (hm : m.length ≤ 1000000000000) :
    impl_pairs.f b n m t = some (b, n.take (min n.length m.length), m.take (min n.length m.length), t) := by
  unfold impl_pairs.f slices_Clone_string_string.f slices_Clone_int_int.f
  rw [mn_nat, if_pos (by omega), if_pos (by omega), if_pos (by rw [List.length_take]; omega), Option.bind_some, if_pos (by omega), if_pos (by rw [List.length_take]; omega), Option.bind_some, Int.toNat_natCast]

/-! ### laws_FnExactKid -/
theorem FnExactKid_pure (b : Bool) (n : List ByteArray) (m : List Int) (t x : ByteArray) (h : True ∧ (n.length ≤ maxLen ∧ ∀ x ∈ n, x.size ≤ maxLen) ∧ (m.length ≤ maxLen ∧ ∀ x ∈ m, (Lit.int .i64 x).wf = true) ∧ t.size ≤ maxLen) (hx : x.size ≤ maxLen) :
    ∃ k, laws_FnExactKid.f k b n m t x = some true := by
  refine Ev.rounds ?_
  unfold laws_FnExactKid.f
  by_cases g : (x.size : Int) > 1048576
  · exact ev_pos g (Ev.now _)
  refine ev_neg g (Ev.bind (szNode_ev b n m t 1048576 h.2.1.1 h.2.1.2 h.2.2.1.1 h.2.2.2 (by omega) (by omega)) ?_)
  by_cases c : left_ 1048576 (n.length + total n + m.length + t.size) < 0
  · exact ev_pos c (Ev.now _)
  have hl := left_pos c
  have tn := toNode_ev b n m t (by omega) (by omega)
  have en := eqNode_ev b n m t (by omega) (by omega)
  obtain ⟨r, sp, im⟩ : ∃ r, Ev (fun k => spec_Kid.f k b n m t x) r ∧ Ev (fun k => impl_Kid.f k b n m t x) r := by
    have e1 := spec_l8At_ev b n m t x (by omega)
    have e2 := indexS_ev (n.take (min n.length m.length)) x (by rw [List.length_take]; omega)
    have e3 : idxOf (isAt (n.take (min n.length m.length)) x) 0 (n.take (min n.length m.length)).length = idxOf (isAt n x) 0 (min n.length m.length) := by
      rw [show (n.take (min n.length m.length)).length = min n.length m.length by rw [List.length_take]; omega]
      refine idxOf_congr _ _ fun j h1 h2 => ?_
      unfold isAt
      rw [rds_at (by rw [List.length_take]; omega), rds_at (by omega), List.getElem_take]
    rw [e3] at e2
    have hr := idxOf_range (isAt n x) (min n.length m.length) 0
    generalize idxOf (isAt n x) 0 (min n.length m.length) = i at e1 e2 hr
    by_cases z : i < 0
    · refine ⟨-1, ?_, ?_⟩
      · unfold spec_Kid.f
        exact Ev.bind e1 (ev_pos z (Ev.now _))
      · unfold impl_Kid.f
        exact ev_bind (impl_pairs_eq b n m t (by omega) (by omega)) (Ev.bind e2 (ev_pos z (Ev.now _)))
    · refine ⟨rd m i, ?_, ?_⟩
      · unfold spec_Kid.f
        exact Ev.bind e1 (ev_neg z (ev_pos (by omega) (ev_pos (by omega) (Ev.now _))))
      · unfold impl_Kid.f
        refine ev_bind (impl_pairs_eq b n m t (by omega) (by omega)) (Ev.bind e2 (ev_neg z (ev_pos (by omega) (ev_pos (by show i < ((m.take _).length : Int); rw [List.length_take]; omega) (ev_eq ?_)))))
        obtain ⟨j, rfl⟩ := Int.eq_ofNat_of_zero_le (by omega : 0 ≤ i)
        show some (rd (m.take (min n.length m.length)) (j : Int)) = some (rd m (j : Int))
        rw [rd_at (by rw [List.length_take]; omega), rd_at (by omega), List.getElem_take]
  exact ev_neg c (Ev.bind tn (Ev.bind sp (Ev.bind tn (Ev.bind im (ev_pos rfl (Ev.bind tn (Ev.bind en (ev_pos rfl (Ev.now _)))))))))

end Go.Proofs.Ytpbamdcbaloibab.Pure
