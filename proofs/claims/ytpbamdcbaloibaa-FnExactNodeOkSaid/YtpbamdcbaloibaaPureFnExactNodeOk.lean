/- The law FnExactNodeOk answers true at every input; no condition. -/
import Derived.Test.YtpbamdcbaloibaaPFnExactNodeOkx5
import Derived.Test.YtpbamdcbaloibaaLibM
namespace Go.Proofs.Ytpbamdcbaloibaa.Pure
open Go.RowKit Go.Proofs.Ytpbamdcbaloibaa.PFnExactNodeOk Go.Proofs.YtpbamdcbaloibaaW.PrintWords Go.Proofs.YtpbamdcbaloibaaW.PrintLast Go.Proofs.YtpbamdcbaloibaaW.PrintMore Go.Proofs.Ytpbamdcbaloibaa.Lib
set_option linter.unusedVariables false

/-! ### laws_szStringS -/
theorem szStringS_l0 (l : List ByteArray) (hl : l.length ≤ 1048576) (hs : ∀ x ∈ l, x.size ≤ maxLen) : ∀ (d i : Nat) (n : Int), l.length - i = d → i ≤ l.length → 0 ≤ n → n ≤ 1048576 →
    Ev (fun k => laws_szStringS.l0 k l n (i : Int)) (left_ n (total (l.drop i))) := by
  intro d
  induction d with
  | zero =>
    intro i n hd hi h0 h1
    rw [List.drop_of_length_le (by omega), total_nil]
    refine Ev.step (f := fun _ => some n) (fun k => ?_) (ev_eq ?_)
    · simp only [laws_szStringS.l0]
      rw [if_neg (by omega)]
    · unfold left_
      rw [if_neg (by omega)]
      simp
  | succ d ih =>
    intro i n hd hi h0 h1
    have h : i < l.length := by omega
    have hx := hs _ (List.getElem_mem h)
    unfold maxLen at hx
    rw [List.drop_eq_getElem_cons h, total_cons]
    by_cases c : n - (l[i].size : Int) < 0
    · refine Ev.step (f := fun _ => some (-1)) (fun k => ?_) (ev_eq ?_)
      · simp only [laws_szStringS.l0]
        rw [if_pos (by omega), if_pos (by omega), rds_at h, w64 (x := n - (l[i].size : Int)) (by omega) (by omega), if_pos c]
      · unfold left_
        rw [if_pos (by omega)]
    · have e := ih (i + 1) (n - (l[i].size : Int)) (by omega) (by omega) (by omega) (by omega)
      have e2 : left_ (n - (l[i].size : Int)) (total (l.drop (i + 1))) = left_ n (l[i].size + total (l.drop (i + 1))) := by
        unfold left_
        rw [show n - ((l[i].size + total (l.drop (i + 1)) : Nat) : Int) = n - (l[i].size : Int) - (total (l.drop (i + 1)) : Nat) by omega]
      rw [← e2]
      refine Ev.step (fun k => ?_) e
      simp only [laws_szStringS.l0]
      rw [if_pos (by omega), if_pos (by omega), rds_at h, w64 (x := n - (l[i].size : Int)) (by omega) (by omega), if_neg c, wsucc (by omega)]
theorem szStringS_ev (l : List ByteArray) (n : Int) (hl : l.length ≤ maxLen) (hs : ∀ x ∈ l, x.size ≤ maxLen) (h0 : 0 ≤ n) (h1 : n ≤ 1048576) :
    Ev (fun k => laws_szStringS.f k l n) (left_ n (l.length + total l)) := by
  unfold maxLen at hl
  unfold laws_szStringS.f
  rw [w64 (x := n - (l.length : Int)) (by omega) (by omega)]
  by_cases c : n - (l.length : Int) < 0
  · refine ev_pos c (ev_eq ?_)
    unfold left_
    rw [if_pos (by omega)]
  · refine ev_neg c ?_
    have e := szStringS_l0 l (by omega) hs l.length 0 (n - (l.length : Int)) (by omega) (by omega) (by omega) (by omega)
    have e2 : left_ (n - (l.length : Int)) (total l) = left_ n (l.length + total l) := by
      unfold left_
      rw [show n - ((l.length + total l : Nat) : Int) = n - (l.length : Int) - (total l : Nat) by omega]
    rw [← e2]
    simpa using e

/-! ### laws_szIntS -/
theorem szIntS_eq (l : List Int) (n : Int) (hl : l.length ≤ maxLen) (h0 : 0 ≤ n) (h1 : n ≤ 1048576) : laws_szIntS.f l n = some (left_ n l.length) := by
  unfold maxLen at hl
  unfold laws_szIntS.f left_
  rw [w64 (x := n - (l.length : Int)) (by omega) (by omega)]
  by_cases c : n - (l.length : Int) < 0
  · rw [if_pos c, if_pos c]
  · rw [if_neg c, if_neg c]

/-! ### laws_szNode -/
theorem szNode_ev (b : Bool) (p : List ByteArray) (w : List Int) (t : ByteArray) (n : Int) (hp : p.length ≤ maxLen) (hs : ∀ x ∈ p, x.size ≤ maxLen) (hw : w.length ≤ maxLen) (ht : t.size ≤ maxLen) (h0 : 0 ≤ n) (h1 : n ≤ 1048576) :
    Ev (fun k => laws_szNode.f k b p w t n) (left_ n (p.length + total p + w.length + t.size)) := by
  unfold laws_szNode.f
  refine Ev.bind (szStringS_ev p n hp hs h0 h1) ?_
  by_cases c : left_ n (p.length + total p) < 0
  · have := left_neg c
    refine ev_pos c (ev_eq ?_)
    unfold left_
    rw [if_pos (by omega)]
  · have := left_pos c
    refine ev_neg c (ev_bind (szIntS_eq w _ hw (by omega) (by omega)) ?_)
    have e : left_ (left_ n (p.length + total p)) w.length = left_ n (p.length + total p + w.length) := by
      rw [this.1]
      unfold left_
      rw [show n - ((p.length + total p + w.length : Nat) : Int) = n - ((p.length + total p : Nat) : Int) - (w.length : Nat) by omega]
    rw [e]
    by_cases d : left_ n (p.length + total p + w.length) < 0
    · refine ev_pos d (ev_eq ?_)
      have := left_neg d
      unfold left_
      rw [if_pos (by omega)]
    · have hd := left_pos d
      unfold maxLen at ht
      refine ev_neg d ?_
      rw [w64 (by omega) (by omega)]
      by_cases g : left_ n (p.length + total p + w.length) - (t.size : Int) < 0
      · refine ev_pos g (ev_eq ?_)
        unfold left_
        rw [if_pos (by omega)]
      · refine ev_neg g (ev_eq ?_)
        rw [hd.1] at g ⊢
        unfold left_
        rw [if_neg (by omega)]
        congr 1
        omega

/-! ### laws_toStringS -/
theorem toStringS_l0 (l : List ByteArray) (hl : l.length ≤ 17592186044416) : ∀ (n i : Nat) (x : List ByteArray), l.length - i = n → i ≤ l.length → x.length = l.length → (∀ j, j < i → x[j]? = l[j]?) →
    Ev (fun k => laws_toStringS.l0 k l x (i : Int)) l := by
  intro n
  induction n with
  | zero =>
    intro i x hn hi hx hj
    have : i = l.length := by omega
    subst this
    have e : x = l := List.ext_getElem? fun j => by
      by_cases h : j < l.length
      · exact hj j h
      · rw [List.getElem?_eq_none (by omega), List.getElem?_eq_none (by omega)]
    subst e
    refine Ev.step (f := fun _ => some x) (fun k => ?_) (Ev.now _)
    simp only [laws_toStringS.l0]
    rw [if_neg (by omega)]
  | succ n ih =>
    intro i x hn hi hx hj
    have h : i < l.length := by omega
    refine Ev.step (f := fun k => laws_toStringS.l0 k l (x.set i l[i]) ((i + 1 : Nat) : Int)) (fun k => ?_) (ih (i + 1) (x.set i l[i]) (by omega) (by omega) (by simpa using hx) ?_)
    · simp only [laws_toStringS.l0]
      rw [if_pos (by omega), if_pos (by omega), if_pos (by omega), rds_at h, wsucc (by omega)]
      rfl
    · intro j hj'
      rw [List.getElem?_set]
      by_cases e : i = j
      · subst e
        rw [if_pos rfl, if_pos (by omega), List.getElem?_eq_getElem h]
      · rw [if_neg e]
        exact hj j (by omega)
theorem toStringS_ev (l : List ByteArray) (hl : l.length ≤ 17592186044416) : Ev (fun k => laws_toStringS.f k l) l := by
  unfold laws_toStringS.f
  exact ev_pos (by omega) (ev_pos (by omega) (toStringS_l0 l hl l.length 0 _ (by omega) (by omega) (by simp) (fun j h => by omega)))

/-! ### laws_toIntS -/
theorem toIntS_l0 (l : List Int) (hl : l.length ≤ 17592186044416) : ∀ (n i : Nat) (x : List Int), l.length - i = n → i ≤ l.length → x.length = l.length → (∀ j, j < i → x[j]? = l[j]?) →
    Ev (fun k => laws_toIntS.l0 k l x (i : Int)) l := by
  intro n
  induction n with
  | zero =>
    intro i x hn hi hx hj
    have : i = l.length := by omega
    subst this
    have e : x = l := List.ext_getElem? fun j => by
      by_cases h : j < l.length
      · exact hj j h
      · rw [List.getElem?_eq_none (by omega), List.getElem?_eq_none (by omega)]
    subst e
    refine Ev.step (f := fun _ => some x) (fun k => ?_) (Ev.now _)
    simp only [laws_toIntS.l0]
    rw [if_neg (by omega)]
  | succ n ih =>
    intro i x hn hi hx hj
    have h : i < l.length := by omega
    refine Ev.step (f := fun k => laws_toIntS.l0 k l (x.set i l[i]) ((i + 1 : Nat) : Int)) (fun k => ?_) (ih (i + 1) (x.set i l[i]) (by omega) (by omega) (by simpa using hx) ?_)
    · simp only [laws_toIntS.l0]
      rw [if_pos (by omega), if_pos (by omega), if_pos (by omega), rd_at h, wsucc (by omega)]
      rfl
    · intro j hj'
      rw [List.getElem?_set]
      by_cases e : i = j
      · subst e
        rw [if_pos rfl, if_pos (by omega), List.getElem?_eq_getElem h]
      · rw [if_neg e]
        exact hj j (by omega)
theorem toIntS_ev (l : List Int) (hl : l.length ≤ 17592186044416) : Ev (fun k => laws_toIntS.f k l) l := by
  unfold laws_toIntS.f
  exact ev_pos (by omega) (ev_pos (by omega) (toIntS_l0 l hl l.length 0 _ (by omega) (by omega) (by simp) (fun j h => by omega)))

/-! ### laws_toNode -/
theorem toNode_ev (b : Bool) (p : List ByteArray) (w : List Int) (t : ByteArray) (hp : p.length ≤ 1000000000000) (hw : w.length ≤ 1000000000000) : Ev (fun k => laws_toNode.f k b p w t) (b, p, w, t) := by
  unfold laws_toNode.f
  exact Ev.bind (toStringS_ev p (by omega)) (Ev.bind (toIntS_ev w (by omega)) (Ev.now _))

/-! ### laws_eqStringS -/
theorem eqStringS_l0 (l : List ByteArray) (hl : l.length ≤ 17592186044416) : ∀ (n i : Nat), l.length - i = n → i ≤ l.length → Ev (fun k => laws_eqStringS.l0 k l l (i : Int)) true := by
  intro n
  induction n with
  | zero =>
    intro i hn hi
    refine Ev.step (f := fun _ => some true) (fun k => ?_) (Ev.now _)
    simp only [laws_eqStringS.l0]
    rw [if_neg (by omega)]
  | succ n ih =>
    intro i hn hi
    refine Ev.step (f := fun k => laws_eqStringS.l0 k l l ((i + 1 : Nat) : Int)) (fun k => ?_) (ih (i + 1) (by omega) (by omega))
    simp only [laws_eqStringS.l0]
    rw [if_pos (by omega), if_pos (by omega), if_pos (by omega), if_pos trivial, wsucc (by omega)]
theorem eqStringS_ev (l : List ByteArray) (hl : l.length ≤ 17592186044416) : Ev (fun k => laws_eqStringS.f k l l) true := by
  unfold laws_eqStringS.f
  simp only [if_true]
  exact eqStringS_l0 l hl l.length 0 (by omega) (by omega)

/-! ### laws_eqIntS -/
theorem eqIntS_l0 (l : List Int) (hl : l.length ≤ 17592186044416) : ∀ (n i : Nat), l.length - i = n → i ≤ l.length → Ev (fun k => laws_eqIntS.l0 k l l (i : Int)) true := by
  intro n
  induction n with
  | zero =>
    intro i hn hi
    refine Ev.step (f := fun _ => some true) (fun k => ?_) (Ev.now _)
    simp only [laws_eqIntS.l0]
    rw [if_neg (by omega)]
  | succ n ih =>
    intro i hn hi
    refine Ev.step (f := fun k => laws_eqIntS.l0 k l l ((i + 1 : Nat) : Int)) (fun k => ?_) (ih (i + 1) (by omega) (by omega))
    simp only [laws_eqIntS.l0]
    rw [if_pos (by omega), if_pos (by omega), if_pos (by omega), if_pos trivial, wsucc (by omega)]
theorem eqIntS_ev (l : List Int) (hl : l.length ≤ 17592186044416) : Ev (fun k => laws_eqIntS.f k l l) true := by
  unfold laws_eqIntS.f
  simp only [if_true]
  exact eqIntS_l0 l hl l.length 0 (by omega) (by omega)

/-! ### laws_eqNode -/
theorem eqNode_ev (b : Bool) (p : List ByteArray) (w : List Int) (t : ByteArray) (hp : p.length ≤ 1000000000000) (hw : w.length ≤ 1000000000000) : Ev (fun k => laws_eqNode.f k b p w t b p w t) true := by
  unfold laws_eqNode.f
  refine ev_neg (by cases b <;> decide) ?_
  exact Ev.bind (eqStringS_ev p (by omega)) (ev_pos rfl (Ev.bind (eqIntS_ev w (by omega)) (ev_pos rfl (ev_pos rfl (Ev.now _)))))

/-! ### m_idx -/
/-- The first of d places from i on where it holds, or -1. -/
def idxOf (e : Nat → Bool) (i : Nat) : Nat → Int
  | 0 => -1
  | d + 1 => if e i = true then (i : Int) else idxOf e (i + 1) d
theorem idxOf_range (e : Nat → Bool) : ∀ (d i : Nat), idxOf e i d = -1 ∨ ((i : Int) ≤ idxOf e i d ∧ idxOf e i d < (i + d : Nat)) := by
  intro d
  induction d with
  | zero => exact fun _ => .inl rfl
  | succ d ih =>
    intro i
    unfold idxOf
    split
    · exact .inr ⟨by omega, by omega⟩
    · rcases ih (i + 1) with h | h
      · exact .inl h
      · exact .inr ⟨by omega, by omega⟩
theorem idxOf_congr {e f : Nat → Bool} : ∀ (d i : Nat), (∀ j, i ≤ j → j < i + d → e j = f j) → idxOf e i d = idxOf f i d := by
  intro d
  induction d with
  | zero => exact fun _ _ => rfl
  | succ d ih =>
    intro i h
    unfold idxOf
    rw [h i (by omega) (by omega), ih (i + 1) (fun j h1 h2 => h j (by omega) (by omega))]
/-- The j-th text is that text. -/
def isAt (n : List ByteArray) (x : ByteArray) (j : Nat) : Bool := decide ((rdOf ByteArray.empty n (j : Int)).toList = x.toList)

/-! ### m_node -/
theorem idxOf_succ (e : Nat → Bool) (i d : Nat) : idxOf e i (d + 1) = if e i = true then (i : Int) else idxOf e (i + 1) d := rfl
theorem idxOf_split (e : Nat → Bool) : ∀ (a i b : Nat), idxOf e i (a + b) = if idxOf e i a = -1 then idxOf e (i + a) b else idxOf e i a := by
  intro a
  induction a with
  | zero =>
    intro i b
    rw [Nat.zero_add]
    exact (if_pos rfl).symm
  | succ a ih =>
    intro i b
    rw [show a + 1 + b = (a + b) + 1 by omega, idxOf_succ, idxOf_succ]
    by_cases c : e i = true
    · rw [if_pos c, if_pos c, if_neg (by omega)]
    · rw [if_neg c, if_neg c, ih (i + 1) b, show i + 1 + a = i + (a + 1) by omega]
/-- The j-th number is the i-th one. -/
def kidE (m : List Int) (x : Int) (j : Nat) : Bool := decide (rd m (j : Int) = x)
theorem kid_first (m : List Int) (i : Nat) (h : i < m.length) : idxOf (kidE m (rd m (i : Int))) 0 m.length = (i : Int) ↔ idxOf (kidE m (rd m (i : Int))) 0 i = -1 := by
  have hi : kidE m (rd m (i : Int)) i = true := decide_eq_true rfl
  rw [show m.length = i + ((m.length - i - 1) + 1) by omega, idxOf_split]
  have hr := idxOf_range (kidE m (rd m (i : Int))) i 0
  by_cases c : idxOf (kidE m (rd m (i : Int))) 0 i = -1
  · rw [if_pos c, Nat.zero_add, idxOf_succ, if_pos hi]
    exact ⟨fun _ => c, fun _ => rfl⟩
  · rw [if_neg c]
    exact ⟨fun y => by omega, fun y => absurd y c⟩
/-- The i-th name and number of a directory are right. -/
def okAt (n : List ByteArray) (m : List Int) (i : Nat) : Bool :=
  nameOkB (rdOf ByteArray.empty n (i : Int)) 0 (rdOf ByteArray.empty n (i : Int)).size && decide (1 ≤ rd m (i : Int) ∧ rd m (i : Int) ≤ 11) &&
    (decide (i = 0) || Op.bytesLess (rdOf ByteArray.empty n ((i : Int) - 1)).toList (rdOf ByteArray.empty n (i : Int)).toList) && decide (idxOf (kidE m (rd m (i : Int))) 0 i = -1)
def okFrom (n : List ByteArray) (m : List Int) (i : Nat) : Nat → Bool
  | 0 => true
  | d + 1 => okAt n m i && okFrom n m (i + 1) d
def nodeOkB (b : Bool) (n : List ByteArray) (m : List Int) (t : ByteArray) : Bool :=
  if b = true then decide (n.length = m.length) && decide (t.size = 0) && okFrom n m 0 n.length else decide (n.length = 0) && decide (m.length = 0) && decide (t.size ≤ 60)
theorem okFrom_pos {n : List ByteArray} {m : List Int} {i d : Nat} (h : okAt n m i = true) : okFrom n m i (d + 1) = okFrom n m (i + 1) d := by
  show (okAt n m i && okFrom n m (i + 1) d) = _
  rw [h, Bool.true_and]
theorem okFrom_neg {n : List ByteArray} {m : List Int} {i d : Nat} (h : okAt n m i = false) : okFrom n m i (d + 1) = false := by
  show (okAt n m i && okFrom n m (i + 1) d) = _
  rw [h, Bool.false_and]
theorem bne_nil (t : ByteArray) : (t.toList != ([] : List UInt8)) = !(decide (t.size = 0)) := by
  by_cases c : t.size = 0
  · rw [toList_nil_iff.2 c, decide_eq_true c]
    rfl
  · rw [decide_eq_false c, bne_iff_ne.2 (fun y => c (toList_nil_iff.1 y))]
    rfl

/-! ### spec_NameOk -/
theorem spec_NameOk_l0 (s : ByteArray) (hl : s.size ≤ 1000000000000) : ∀ (d i : Nat), s.size - i = d → i ≤ s.size → Ev (fun k => spec_NameOk.l0 k s (i : Int)) (nameOkB s i d) := by
  intro d
  induction d with
  | zero =>
    intro i hd hi
    refine Ev.step (f := fun _ => some (nameOkB s i 0)) (fun k => ?_) (Ev.now _)
    simp only [spec_NameOk.l0, spec_l1In.f, nameOkB]
    rw [if_neg (by omega)]
    by_cases c : (s.size : Int) ≥ 1
    · rw [if_pos c]
      simp only [Option.bind_some]
      congr 1
      exact decide_eq_decide.2 (by omega)
    · rw [if_neg c]
      simp only [Option.bind_some]
      congr 1
      exact (decide_eq_false (by omega)).symm
  | succ d ih =>
    intro i hd hi
    have h : i < s.size := by omega
    simp only [nameOkB]
    by_cases c1 : bt s (i : Int) < 97
    · rw [if_pos (Or.inl c1)]
      refine Ev.step (f := fun _ => some false) (fun k => ?_) (Ev.now _)
      simp only [spec_NameOk.l0]
      rw [if_pos (by omega), if_pos (by omega), if_pos c1]
    · by_cases c2 : bt s (i : Int) > 122
      · rw [if_pos (Or.inr c2)]
        refine Ev.step (f := fun _ => some false) (fun k => ?_) (Ev.now _)
        simp only [spec_NameOk.l0]
        rw [if_pos (by omega), if_pos (by omega), if_neg c1, if_pos c2]
      · rw [if_neg (by omega)]
        refine Ev.step (f := fun k => spec_NameOk.l0 k s ((i + 1 : Nat) : Int)) (fun k => ?_) (ih (i + 1) (by omega) (by omega))
        simp only [spec_NameOk.l0]
        rw [if_pos (by omega), if_pos (by omega), if_neg c1, if_neg c2, wsucc (by omega)]
theorem spec_NameOk_ev (s : ByteArray) (hl : s.size ≤ 1000000000000) : Ev (fun k => spec_NameOk.f k s) (nameOkB s 0 s.size) := by
  unfold spec_NameOk.f
  exact spec_NameOk_l0 s hl s.size 0 (by omega) (by omega)

/-! ### spec_l1In -/
theorem spec_l1In_eq (a b c : Int) : spec_l1In.f a b c = some (decide (b ≤ a ∧ a ≤ c)) := by
  unfold spec_l1In.f
  by_cases h : a ≥ b
  · rw [if_pos h]
    congr 1
    by_cases g : a ≤ c
    · rw [decide_eq_true g, decide_eq_true ⟨h, g⟩]
    · rw [decide_eq_false g, decide_eq_false (fun x => g x.2)]
  · rw [if_neg h, decide_eq_false (fun x => h x.1)]

/-! ### spec_NodeOk -/
theorem spec_NodeOk_l1 (b : Bool) (n : List ByteArray) (m : List Int) (t : ByteArray) (i : Nat) (R : Bool) (hm : m.length ≤ 1000000000000) (hi : i < m.length) (hR : Ev (fun k => spec_NodeOk.l0 k ((i + 1 : Nat) : Int) b n m t) R) : ∀ (d j : Nat), j + d = i →
    Ev (fun k => spec_NodeOk.l1 k (i : Int) (j : Int) b n m t) (decide (idxOf (kidE m (rd m (i : Int))) j d = -1) && R) := by
  intro d
  induction d with
  | zero =>
    intro j hj
    refine Ev.step (fun k => by simp only [spec_NodeOk.l1]; exact rfl) ?_
    refine ev_neg (by omega) ?_
    rw [wsucc (by omega)]
    exact hR
  | succ d ih =>
    intro j hj
    refine Ev.step (fun k => by simp only [spec_NodeOk.l1]; exact rfl) ?_
    refine ev_pos (by omega) (ev_pos (by omega) (ev_pos (by omega) (ev_pos (by omega) (ev_pos (by omega) ?_))))
    unfold idxOf
    by_cases c : rd m (j : Int) = rd m (i : Int)
    · have : kidE m (rd m (i : Int)) j = true := decide_eq_true c
      rw [if_pos this, decide_eq_false (by omega), Bool.false_and]
      exact ev_pos c (Ev.now _)
    · have : ¬ kidE m (rd m (i : Int)) j = true := fun y => c (of_decide_eq_true y)
      rw [if_neg this]
      refine ev_neg c ?_
      rw [wsucc (by omega)]
      exact ih (j + 1) (by omega)
theorem spec_NodeOk_l0 (b : Bool) (n : List ByteArray) (m : List Int) (t : ByteArray) (hn : n.length ≤ 1000000000000) (hs : ∀ x ∈ n, x.size ≤ 1000000000000) (hm : n.length = m.length) : ∀ (d i : Nat), n.length - i = d → i ≤ n.length →
    Ev (fun k => spec_NodeOk.l0 k (i : Int) b n m t) (okFrom n m i d) := by
  intro d
  induction d with
  | zero =>
    intro i hd hi
    refine Ev.step (f := fun _ => some true) (fun k => ?_) (Ev.now _)
    simp only [spec_NodeOk.l0]
    rw [if_neg (by omega)]
  | succ d ih =>
    intro i hd hi
    have h : i < n.length := by omega
    have hR := ih (i + 1) (by omega) (by omega)
    have ht : Ev (fun k => spec_NodeOk.j2 k (i : Int) true b n m t) false := by
      refine Ev.step (f := fun _ => some false) (fun k => ?_) (Ev.now _)
      simp only [spec_NodeOk.j2]
      rw [if_pos trivial]
    have hf : Ev (fun k => spec_NodeOk.j2 k (i : Int) false b n m t) (decide (idxOf (kidE m (rd m (i : Int))) 0 i = -1) && okFrom n m (i + 1) d) := by
      refine Ev.step (fun k => by simp only [spec_NodeOk.j2]; exact rfl) ?_
      exact ev_neg (by decide) (spec_NodeOk_l1 b n m t i _ (by omega) (by omega) hR i 0 (by omega))
    have sz : (rdOf ByteArray.empty n (i : Int)).size ≤ 1000000000000 := by
      rw [rds_at h]
      exact hs _ (List.getElem_mem h)
    refine Ev.step (fun k => by simp only [spec_NodeOk.l0]; exact rfl) ?_
    refine ev_pos (by omega) (ev_pos (by omega) (Ev.bind (spec_NameOk_ev _ sz) ?_))
    show Ev _ (okAt n m i && okFrom n m (i + 1) d)
    unfold okAt
    by_cases c1 : nameOkB (rdOf ByteArray.empty n (i : Int)) 0 (rdOf ByteArray.empty n (i : Int)).size = true
    · refine ev_pos c1 (ev_pos (by omega) (ev_bind (spec_l1In_eq _ _ _) ?_))
      rw [c1, Bool.true_and]
      by_cases c2 : 1 ≤ rd m (i : Int) ∧ rd m (i : Int) ≤ 11
      · rw [decide_eq_true c2, Bool.true_and]
        refine ev_pos rfl ?_
        by_cases c3 : i = 0
        · rw [decide_eq_true c3, Bool.true_or, Bool.true_and]
          exact ev_neg (by omega) hf
        · rw [decide_eq_false c3, Bool.false_or]
          refine ev_pos (by omega) ?_
          rw [w64 (x := (i : Int) - 1) (by omega) (by omega)]
          refine ev_pos (by omega) (ev_pos (by omega) ?_)
          by_cases c4 : Op.bytesLess (rdOf ByteArray.empty n ((i : Int) - 1)).toList (rdOf ByteArray.empty n (i : Int)).toList = true
          · rw [c4, Bool.true_and]
            exact hf
          · rw [Bool.eq_false_iff.2 c4, Bool.false_and, Bool.false_and]
            exact ht
      · rw [decide_eq_false c2, Bool.false_and, Bool.false_and, Bool.false_and]
        exact ev_neg (by decide) ht
    · rw [Bool.eq_false_iff.2 c1]
      simp only [Bool.false_and]
      exact ev_neg (by decide) ht
theorem spec_NodeOk_ev (b : Bool) (n : List ByteArray) (m : List Int) (t : ByteArray) (hn : n.length ≤ 1000000000000) (hs : ∀ x ∈ n, x.size ≤ 1000000000000) (hm : m.length ≤ 1000000000000) :
    Ev (fun k => spec_NodeOk.f k b n m t) (nodeOkB b n m t) := by
  unfold spec_NodeOk.f nodeOkB
  have jt : Ev (fun k => spec_NodeOk.j0 k true b n m t) false := by
    refine Ev.step (f := fun _ => some false) (fun k => ?_) (Ev.now _)
    simp only [spec_NodeOk.j0]
    rw [if_pos trivial]
  by_cases cb : b = true
  · refine ev_r (if_pos cb) (ev_pos cb ?_)
    by_cases ce : n.length = m.length
    · refine ev_pos (by omega) ?_
      rw [decide_eq_true ce, Bool.true_and, bne_nil]
      by_cases cz : t.size = 0
      · rw [decide_eq_true cz, Bool.true_and]
        refine Ev.step (fun k => by simp only [spec_NodeOk.j0]; exact rfl) ?_
        exact ev_neg (by decide) (spec_NodeOk_l0 b n m t hn hs ce n.length 0 (by omega) (by omega))
      · rw [decide_eq_false cz, Bool.false_and]
        exact jt
    · refine ev_neg (by omega) ?_
      rw [decide_eq_false ce, Bool.false_and, Bool.false_and]
      exact jt
  · refine ev_r (if_neg cb) (ev_neg cb ?_)
    rw [w64 (by omega) (by omega)]
    by_cases c0 : n.length = 0 ∧ m.length = 0
    · refine ev_pos (by omega) ?_
      rw [decide_eq_true c0.1, decide_eq_true c0.2]
      refine ev_eq ?_
      congr 1
      rw [Bool.true_and, Bool.true_and, decide_eq_decide]
      omega
    · refine ev_neg (by omega) ?_
      by_cases c1 : n.length = 0
      · rw [decide_eq_false (fun y => c0 ⟨c1, y⟩), Bool.and_false, Bool.false_and]
        exact Ev.now _
      · rw [decide_eq_false c1, Bool.false_and, Bool.false_and]
        exact Ev.now _

/-! ### impl_NameOk -/
theorem impl_NameOk_l0 (s : ByteArray) (hl : s.size ≤ 1000000000000) : ∀ (d i : Nat), s.size - i = d → i ≤ s.size → Ev (fun k => impl_NameOk.l0 k s (s.size : Int) (i : Int)) (nameOkB s i d) := by
  intro d
  induction d with
  | zero =>
    intro i hd hi
    refine Ev.step (f := fun _ => some (nameOkB s i 0)) (fun k => ?_) (Ev.now _)
    simp only [impl_NameOk.l0, impl_in.f, nameOkB]
    rw [if_neg (by omega)]
    by_cases c : (s.size : Int) ≥ 1
    · rw [if_pos c]
      simp only [Option.bind_some]
      congr 1
      exact decide_eq_decide.2 (by omega)
    · rw [if_neg c]
      simp only [Option.bind_some]
      congr 1
      exact (decide_eq_false (by omega)).symm
  | succ d ih =>
    intro i hd hi
    have h : i < s.size := by omega
    simp only [nameOkB]
    by_cases c1 : bt s (i : Int) < 97
    · rw [if_pos (Or.inl c1)]
      refine Ev.step (f := fun _ => some false) (fun k => ?_) (Ev.now _)
      simp only [impl_NameOk.l0]
      rw [if_pos (by omega), if_pos (by omega), if_pos (by omega), if_pos c1]
    · by_cases c2 : bt s (i : Int) > 122
      · rw [if_pos (Or.inr c2)]
        refine Ev.step (f := fun _ => some false) (fun k => ?_) (Ev.now _)
        simp only [impl_NameOk.l0]
        rw [if_pos (by omega), if_pos (by omega), if_pos (by omega), if_neg c1, if_pos c2]
      · rw [if_neg (by omega)]
        refine Ev.step (f := fun k => impl_NameOk.l0 k s (s.size : Int) ((i + 1 : Nat) : Int)) (fun k => ?_) (ih (i + 1) (by omega) (by omega))
        simp only [impl_NameOk.l0]
        rw [if_pos (by omega), if_pos (by omega), if_pos (by omega), if_neg c1, if_neg c2, wsucc (by omega)]
theorem impl_NameOk_ev (s : ByteArray) (hl : s.size ≤ 1000000000000) : Ev (fun k => impl_NameOk.f k s) (nameOkB s 0 s.size) := by
  unfold impl_NameOk.f
  exact impl_NameOk_l0 s hl s.size 0 (by omega) (by omega)

/-! ### impl_in -/
theorem impl_in_eq (a b c : Int) : impl_in.f a b c = some (decide (b ≤ a ∧ a ≤ c)) := by
  unfold impl_in.f
  by_cases h : a ≥ b
  · rw [if_pos h]
    congr 1
    by_cases g : a ≤ c
    · rw [decide_eq_true g, decide_eq_true ⟨h, g⟩]
    · rw [decide_eq_false g, decide_eq_false (fun x => g x.2)]
  · rw [if_neg h, decide_eq_false (fun x => h x.1)]

/-! ### impl_indexI -/
theorem indexI_l0 (pg : List Int) (x : Int) (hl : pg.length ≤ 1000000000000) : ∀ (d i : Nat), pg.length - i = d → i ≤ pg.length →
    Ev (fun k => slices_Index_int_int.l0 k pg x (pg.length : Int) (i : Int)) (idxOf (kidE pg x) i d) := by
  intro d
  induction d with
  | zero =>
    intro i hd hi
    refine Ev.step (f := fun _ => some (-1)) (fun k => ?_) (Ev.now _)
    simp only [slices_Index_int_int.l0]
    rw [if_neg (by omega)]
  | succ d ih =>
    intro i hd hi
    have h : i < pg.length := by omega
    unfold idxOf kidE
    by_cases c : rd pg (i : Int) = x
    · rw [decide_eq_true c, if_pos rfl]
      refine Ev.step (f := fun _ => some (i : Int)) (fun k => ?_) (Ev.now _)
      simp only [slices_Index_int_int.l0]
      rw [if_pos (by omega), if_pos (by omega), if_pos (by omega), if_pos c.symm]
    · rw [decide_eq_false c, if_neg (by decide)]
      refine Ev.step (f := fun k => slices_Index_int_int.l0 k pg x (pg.length : Int) ((i + 1 : Nat) : Int)) (fun k => ?_) (ih (i + 1) (by omega) (by omega))
      simp only [slices_Index_int_int.l0]
      rw [if_pos (by omega), if_pos (by omega), if_pos (by omega), if_neg (fun y => c y.symm), wsucc (by omega)]
theorem indexI_ev (pg : List Int) (x : Int) (hl : pg.length ≤ 1000000000000) : Ev (fun k => slices_Index_int_int.f k pg x) (idxOf (kidE pg x) 0 pg.length) := by
  unfold slices_Index_int_int.f
  exact indexI_l0 pg x hl pg.length 0 (by omega) (by omega)

/-! ### impl_NodeOk -/
theorem impl_isKid_eq (x : Int) : impl_isKid.f x = some (decide (1 ≤ x ∧ x ≤ 11)) := by
  unfold impl_isKid.f
  rw [impl_in_eq, Option.bind_some]
theorem impl_NodeOk_l0 (b : Bool) (n : List ByteArray) (m : List Int) (t : ByteArray) (hn : n.length ≤ 1000000000000) (hs : ∀ x ∈ n, x.size ≤ 1000000000000) (hm : n.length = m.length) : ∀ (d i : Nat), n.length - i = d → i ≤ n.length →
    Ev (fun k => impl_NodeOk.l0 k n (n.length : Int) (i : Int) b n m t) (okFrom n m i d) := by
  intro d
  induction d with
  | zero =>
    intro i hd hi
    refine Ev.step (f := fun _ => some true) (fun k => ?_) (Ev.now _)
    simp only [impl_NodeOk.l0]
    rw [if_neg (by omega)]
  | succ d ih =>
    intro i hd hi
    have h : i < n.length := by omega
    have hR := ih (i + 1) (by omega) (by omega)
    have sz : (rdOf ByteArray.empty n (i : Int)).size ≤ 1000000000000 := by
      rw [rds_at h]
      exact hs _ (List.getElem_mem h)
    have ix := indexI_ev m (rd m (i : Int)) (by omega)
    have kf := kid_first m i (by omega)
    generalize idxOf (kidE m (rd m (i : Int))) 0 m.length = q at ix kf
    have rest : Ev (fun k => (impl_isKid.f (rd m (i : Int))).bind fun t142 => (if t142 = true then ((slices_Index_int_int.f k m (rd m (i : Int))).bind fun t144 => (if t144 = (i : Int) then (impl_NodeOk.l0 k n (n.length : Int) (wrap64 ((i : Int) + 1)) b n m t) else (some false))) else (some false)))
        (decide (1 ≤ rd m (i : Int) ∧ rd m (i : Int) ≤ 11) && decide (idxOf (kidE m (rd m (i : Int))) 0 i = -1) && okFrom n m (i + 1) d) := by
      refine ev_bind (impl_isKid_eq _) ?_
      by_cases c2 : 1 ≤ rd m (i : Int) ∧ rd m (i : Int) ≤ 11
      · rw [decide_eq_true c2, Bool.true_and]
        refine ev_pos rfl (Ev.bind ix ?_)
        by_cases cq : q = (i : Int)
        · rw [decide_eq_true (kf.1 cq), Bool.true_and, wsucc (by omega)]
          exact ev_pos cq hR
        · rw [decide_eq_false (fun y => cq (kf.2 y)), Bool.false_and]
          exact ev_neg cq (Ev.now _)
      · rw [decide_eq_false c2, Bool.false_and, Bool.false_and]
        exact ev_neg (by decide) (Ev.now _)
    refine Ev.step (fun k => by simp only [impl_NodeOk.l0]; exact rfl) ?_
    refine ev_pos (by omega) (ev_pos (by omega) (ev_pos (by omega) (Ev.bind (impl_NameOk_ev _ sz) ?_)))
    show Ev _ (okAt n m i && okFrom n m (i + 1) d)
    unfold okAt
    by_cases c1 : nameOkB (rdOf ByteArray.empty n (i : Int)) 0 (rdOf ByteArray.empty n (i : Int)).size = true
    · refine ev_pos c1 ?_
      rw [c1, Bool.true_and]
      by_cases c3 : i = 0
      · rw [decide_eq_true c3, Bool.true_or, Bool.and_true]
        exact ev_neg (by omega) (ev_pos (by omega) rest)
      · rw [decide_eq_false c3, Bool.false_or]
        refine ev_pos (by omega) ?_
        rw [w64 (x := (i : Int) - 1) (by omega) (by omega)]
        refine ev_pos (by omega) (ev_pos (by omega) ?_)
        by_cases c4 : Op.bytesLess (rdOf ByteArray.empty n ((i : Int) - 1)).toList (rdOf ByteArray.empty n (i : Int)).toList = true
        · rw [c4, Bool.and_true]
          exact ev_pos rfl (ev_pos (by omega) rest)
        · rw [Bool.eq_false_iff.2 c4, Bool.and_false, Bool.false_and, Bool.false_and]
          exact ev_neg (by decide) (Ev.now _)
    · rw [Bool.eq_false_iff.2 c1]
      simp only [Bool.false_and]
      exact ev_neg (by decide) (Ev.now _)
theorem impl_NodeOk_ev (b : Bool) (n : List ByteArray) (m : List Int) (t : ByteArray) (hn : n.length ≤ 1000000000000) (hs : ∀ x ∈ n, x.size ≤ 1000000000000) (hm : m.length ≤ 1000000000000) :
    Ev (fun k => impl_NodeOk.f k b n m t) (nodeOkB b n m t) := by
  unfold impl_NodeOk.f nodeOkB
  have jt : Ev (fun k => impl_NodeOk.j0 k true b n m t) false := by
    refine Ev.step (f := fun _ => some false) (fun k => ?_) (Ev.now _)
    simp only [impl_NodeOk.j0]
    rw [if_pos trivial]
  by_cases cb : b = true
  · refine ev_r (if_pos cb) (ev_pos cb ?_)
    by_cases ce : n.length = m.length
    · refine ev_pos (by omega) ?_
      rw [decide_eq_true ce, Bool.true_and, bne_nil]
      by_cases cz : t.size = 0
      · rw [decide_eq_true cz, Bool.true_and]
        refine Ev.step (fun k => by simp only [impl_NodeOk.j0]; exact rfl) ?_
        exact ev_neg (by decide) (impl_NodeOk_l0 b n m t hn hs ce n.length 0 (by omega) (by omega))
      · rw [decide_eq_false cz, Bool.false_and]
        exact jt
    · refine ev_neg (by omega) ?_
      rw [decide_eq_false ce, Bool.false_and, Bool.false_and]
      exact jt
  · refine ev_r (if_neg cb) (ev_neg cb ?_)
    by_cases c0 : n.length = 0
    · refine ev_pos (by omega) ?_
      by_cases c1 : m.length = 0
      · refine ev_pos (by omega) ?_
        rw [decide_eq_true c0, decide_eq_true c1]
        refine ev_eq ?_
        congr 1
        rw [Bool.true_and, Bool.true_and, decide_eq_decide]
        omega
      · rw [decide_eq_false c1, Bool.and_false, Bool.false_and]
        exact ev_neg (by omega) (Ev.now _)
    · rw [decide_eq_false c0, Bool.false_and, Bool.false_and]
      exact ev_neg (by omega) (Ev.now _)

/-! ### laws_FnExactNodeOk -/
theorem FnExactNodeOk_pure (b : Bool) (n : List ByteArray) (m : List Int) (t : ByteArray) (h : True ∧ (n.length ≤ maxLen ∧ ∀ x ∈ n, x.size ≤ maxLen) ∧ (m.length ≤ maxLen ∧ ∀ x ∈ m, (Lit.int .i64 x).wf = true) ∧ t.size ≤ maxLen) :
    ∃ k, laws_FnExactNodeOk.f k b n m t = some true := by
  refine Ev.rounds ?_
  unfold laws_FnExactNodeOk.f
  refine (Ev.bind (szNode_ev b n m t 1048576 h.2.1.1 h.2.1.2 h.2.2.1.1 h.2.2.2 (by omega) (by omega)) ?_)
  by_cases c : left_ 1048576 (n.length + total n + m.length + t.size) < 0
  · exact ev_pos c (Ev.now _)
  have hl := left_pos c
  have hs : ∀ x ∈ n, x.size ≤ 1000000000000 := fun x hx => by
    have := size_le_total hx
    omega
  have tn := toNode_ev b n m t (by omega) (by omega)
  have en := eqNode_ev b n m t (by omega) (by omega)
  have sp := spec_NodeOk_ev b n m t (by omega) hs (by omega)
  have im := impl_NodeOk_ev b n m t (by omega) hs (by omega)
  refine ev_neg c (Ev.bind tn (Ev.bind sp (Ev.bind tn (Ev.bind im (ev_neg ?_ (Ev.bind tn (Ev.bind en (ev_pos rfl (Ev.now _)))))))))
  simp

end Go.Proofs.Ytpbamdcbaloibaa.Pure
