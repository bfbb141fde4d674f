/- The law FnExactChipOk answers true at every input; no condition. -/
import Derived.Test.YtpbamdcbaloibabPFnExactChipOkx3
import Derived.Test.YtpbamdcbaloibabLibM
namespace Go.Proofs.Ytpbamdcbaloibab.Pure
open Go.RowKit Go.Proofs.Ytpbamdcbaloibab.PFnExactChipOk Go.Proofs.YtpbamdcbaloibabW.PrintWords Go.Proofs.YtpbamdcbaloibabW.PrintLast Go.Proofs.YtpbamdcbaloibabW.PrintMore Go.Proofs.Ytpbamdcbaloibab.Lib
set_option linter.unusedVariables false

/-! ### laws_szStringS -/
theorem szStringS_l0 (l : List ByteArray) (hl : l.length ≤ 1048576) (hs : ∀ x ∈ l, x.size ≤ maxLen) : ∀ (d i : Nat) (n : Int), l.length - i = d → i ≤ l.length → 0 ≤ n → n ≤ 1048576 →
    Ev (fun k => laws_szStringS.l0 k l n (i : Int)) (left_ n (total (l.drop i))) := by
  intro d
  induction d with
  | zero =>
    intro i n hd hi h0 h1
    rw [List.drop_of_length_le (by omega), total_nil]
    refine Ev.step (f := fun _ => some n) (fun k => ?_) (ev_eq ?_)
    · simp only [laws_szStringS.l0]
      rw [if_neg (by omega)]
    · unfold left_
      rw [if_neg (by omega)]
      simp
  | succ d ih =>
    intro i n hd hi h0 h1
    have h : i < l.length := by omega
    have hx := hs _ (List.getElem_mem h)
    unfold maxLen at hx
    rw [List.drop_eq_getElem_cons h, total_cons]
    by_cases c : n - (l[i].size : Int) < 0
    · refine Ev.step (f := fun _ => some (-1)) (fun k => ?_) (ev_eq ?_)
      · simp only [laws_szStringS.l0]
        rw [if_pos (by omega), if_pos (by omega), rds_at h, w64 (x := n - (l[i].size : Int)) (by omega) (by omega), if_pos c]
      · unfold left_
        rw [if_pos (by omega)]
    · have e := ih (i + 1) (n - (l[i].size : Int)) (by omega) (by omega) (by omega) (by omega)
      have e2 : left_ (n - (l[i].size : Int)) (total (l.drop (i + 1))) = left_ n (l[i].size + total (l.drop (i + 1))) := by
        unfold left_
        rw [show n - ((l[i].size + total (l.drop (i + 1)) : Nat) : Int) = n - (l[i].size : Int) - (total (l.drop (i + 1)) : Nat) by omega]
      rw [← e2]
      refine Ev.step (fun k => ?_) e
      simp only [laws_szStringS.l0]
      rw [if_pos (by omega), if_pos (by omega), rds_at h, w64 (x := n - (l[i].size : Int)) (by omega) (by omega), if_neg c, wsucc (by omega)]
theorem szStringS_ev (l : List ByteArray) (n : Int) (hl : l.length ≤ maxLen) (hs : ∀ x ∈ l, x.size ≤ maxLen) (h0 : 0 ≤ n) (h1 : n ≤ 1048576) :
    Ev (fun k => laws_szStringS.f k l n) (left_ n (l.length + total l)) := by
  unfold maxLen at hl
  unfold laws_szStringS.f
  rw [w64 (x := n - (l.length : Int)) (by omega) (by omega)]
  by_cases c : n - (l.length : Int) < 0
  · refine ev_pos c (ev_eq ?_)
    unfold left_
    rw [if_pos (by omega)]
  · refine ev_neg c ?_
    have e := szStringS_l0 l (by omega) hs l.length 0 (n - (l.length : Int)) (by omega) (by omega) (by omega) (by omega)
    have e2 : left_ (n - (l.length : Int)) (total l) = left_ n (l.length + total l) := by
      unfold left_
      rw [show n - ((l.length + total l : Nat) : Int) = n - (l.length : Int) - (total l : Nat) by omega]
    rw [← e2]
    simpa using e

/-! ### laws_szIntS -/
theorem szIntS_eq (l : List Int) (n : Int) (hl : l.length ≤ maxLen) (h0 : 0 ≤ n) (h1 : n ≤ 1048576) : laws_szIntS.f l n = some (left_ n l.length) := by
  unfold maxLen at hl
  unfold laws_szIntS.f left_
  rw [w64 (x := n - (l.length : Int)) (by omega) (by omega)]
  by_cases c : n - (l.length : Int) < 0
  · rw [if_pos c, if_pos c]
  · rw [if_neg c, if_neg c]

/-! ### laws_szChip -/
theorem szChip_ev (p : List ByteArray) (w : List Int) (n : Int) (hp : p.length ≤ maxLen) (hs : ∀ x ∈ p, x.size ≤ maxLen) (hw : w.length ≤ maxLen) (h0 : 0 ≤ n) (h1 : n ≤ 1048576) :
    Ev (fun k => laws_szChip.f k p w n) (left_ n (p.length + total p + w.length)) := by
  unfold laws_szChip.f
  refine Ev.bind (szStringS_ev p n hp hs h0 h1) ?_
  by_cases c : left_ n (p.length + total p) < 0
  · have := left_neg c
    refine ev_pos c (ev_eq ?_)
    unfold left_
    rw [if_pos (by omega)]
  · have := left_pos c
    refine ev_neg c (ev_bind (szIntS_eq w _ hw (by omega) (by omega)) ?_)
    have e : left_ (left_ n (p.length + total p)) w.length = left_ n (p.length + total p + w.length) := by
      rw [this.1]
      unfold left_
      rw [show n - ((p.length + total p + w.length : Nat) : Int) = n - ((p.length + total p : Nat) : Int) - (w.length : Nat) by omega]
    rw [e]
    by_cases d : left_ n (p.length + total p + w.length) < 0
    · refine ev_pos d (ev_eq ?_)
      have := left_neg d
      unfold left_
      rw [if_pos (by omega)]
    · exact ev_neg d (Ev.now _)

/-! ### laws_toStringS -/
theorem toStringS_l0 (l : List ByteArray) (hl : l.length ≤ 17592186044416) : ∀ (n i : Nat) (x : List ByteArray), l.length - i = n → i ≤ l.length → x.length = l.length → (∀ j, j < i → x[j]? = l[j]?) →
    Ev (fun k => laws_toStringS.l0 k l x (i : Int)) l := by
  intro n
  induction n with
  | zero =>
    intro i x hn hi hx hj
    have : i = l.length := by omega
    subst this
    have e : x = l := List.ext_getElem? fun j => by
      by_cases h : j < l.length
      · exact hj j h
      · rw [List.getElem?_eq_none (by omega), List.getElem?_eq_none (by omega)]
    subst e
    refine Ev.step (f := fun _ => some x) (fun k => ?_) (Ev.now _)
    simp only [laws_toStringS.l0]
    rw [if_neg (by omega)]
  | succ n ih =>
    intro i x hn hi hx hj
    have h : i < l.length := by omega
    refine Ev.step (f := fun k => laws_toStringS.l0 k l (x.set i l[i]) ((i + 1 : Nat) : Int)) (fun k => ?_) (ih (i + 1) (x.set i l[i]) (by omega) (by omega) (by simpa using hx) ?_)
    · simp only [laws_toStringS.l0]
      rw [if_pos (by omega), if_pos (by omega), if_pos (by omega), rds_at h, wsucc (by omega)]
      rfl
    · intro j hj'
      rw [List.getElem?_set]
      by_cases e : i = j
      · subst e
        rw [if_pos rfl, if_pos (by omega), List.getElem?_eq_getElem h]
      · rw [if_neg e]
        exact hj j (by omega)
theorem toStringS_ev (l : List ByteArray) (hl : l.length ≤ 17592186044416) : Ev (fun k => laws_toStringS.f k l) l := by
  unfold laws_toStringS.f
  exact ev_pos (by omega) (ev_pos (by omega) (toStringS_l0 l hl l.length 0 _ (by omega) (by omega) (by simp) (fun j h => by omega)))

/-! ### laws_toIntS -/
theorem toIntS_l0 (l : List Int) (hl : l.length ≤ 17592186044416) : ∀ (n i : Nat) (x : List Int), l.length - i = n → i ≤ l.length → x.length = l.length → (∀ j, j < i → x[j]? = l[j]?) →
    Ev (fun k => laws_toIntS.l0 k l x (i : Int)) l := by
  intro n
  induction n with
  | zero =>
    intro i x hn hi hx hj
    have : i = l.length := by omega
    subst this
    have e : x = l := List.ext_getElem? fun j => by
      by_cases h : j < l.length
      · exact hj j h
      · rw [List.getElem?_eq_none (by omega), List.getElem?_eq_none (by omega)]
    subst e
    refine Ev.step (f := fun _ => some x) (fun k => ?_) (Ev.now _)
    simp only [laws_toIntS.l0]
    rw [if_neg (by omega)]
  | succ n ih =>
    intro i x hn hi hx hj
    have h : i < l.length := by omega
    refine Ev.step (f := fun k => laws_toIntS.l0 k l (x.set i l[i]) ((i + 1 : Nat) : Int)) (fun k => ?_) (ih (i + 1) (x.set i l[i]) (by omega) (by omega) (by simpa using hx) ?_)
    · simp only [laws_toIntS.l0]
      rw [if_pos (by omega), if_pos (by omega), if_pos (by omega), rd_at h, wsucc (by omega)]
      rfl
    · intro j hj'
      rw [List.getElem?_set]
      by_cases e : i = j
      · subst e
        rw [if_pos rfl, if_pos (by omega), List.getElem?_eq_getElem h]
      · rw [if_neg e]
        exact hj j (by omega)
theorem toIntS_ev (l : List Int) (hl : l.length ≤ 17592186044416) : Ev (fun k => laws_toIntS.f k l) l := by
  unfold laws_toIntS.f
  exact ev_pos (by omega) (ev_pos (by omega) (toIntS_l0 l hl l.length 0 _ (by omega) (by omega) (by simp) (fun j h => by omega)))

/-! ### laws_toChip -/
theorem toChip_ev (p : List ByteArray) (w : List Int) (hp : p.length ≤ 1000000000000) (hw : w.length ≤ 1000000000000) : Ev (fun k => laws_toChip.f k p w) (p, w) := by
  unfold laws_toChip.f
  exact Ev.bind (toStringS_ev p (by omega)) (Ev.bind (toIntS_ev w (by omega)) (Ev.now _))

/-! ### laws_eqStringS -/
theorem eqStringS_l0 (l : List ByteArray) (hl : l.length ≤ 17592186044416) : ∀ (n i : Nat), l.length - i = n → i ≤ l.length → Ev (fun k => laws_eqStringS.l0 k l l (i : Int)) true := by
  intro n
  induction n with
  | zero =>
    intro i hn hi
    refine Ev.step (f := fun _ => some true) (fun k => ?_) (Ev.now _)
    simp only [laws_eqStringS.l0]
    rw [if_neg (by omega)]
  | succ n ih =>
    intro i hn hi
    refine Ev.step (f := fun k => laws_eqStringS.l0 k l l ((i + 1 : Nat) : Int)) (fun k => ?_) (ih (i + 1) (by omega) (by omega))
    simp only [laws_eqStringS.l0]
    rw [if_pos (by omega), if_pos (by omega), if_pos (by omega), if_pos trivial, wsucc (by omega)]
theorem eqStringS_ev (l : List ByteArray) (hl : l.length ≤ 17592186044416) : Ev (fun k => laws_eqStringS.f k l l) true := by
  unfold laws_eqStringS.f
  simp only [if_true]
  exact eqStringS_l0 l hl l.length 0 (by omega) (by omega)

/-! ### laws_eqIntS -/
theorem eqIntS_l0 (l : List Int) (hl : l.length ≤ 17592186044416) : ∀ (n i : Nat), l.length - i = n → i ≤ l.length → Ev (fun k => laws_eqIntS.l0 k l l (i : Int)) true := by
  intro n
  induction n with
  | zero =>
    intro i hn hi
    refine Ev.step (f := fun _ => some true) (fun k => ?_) (Ev.now _)
    simp only [laws_eqIntS.l0]
    rw [if_neg (by omega)]
  | succ n ih =>
    intro i hn hi
    refine Ev.step (f := fun k => laws_eqIntS.l0 k l l ((i + 1 : Nat) : Int)) (fun k => ?_) (ih (i + 1) (by omega) (by omega))
    simp only [laws_eqIntS.l0]
    rw [if_pos (by omega), if_pos (by omega), if_pos (by omega), if_pos trivial, wsucc (by omega)]
theorem eqIntS_ev (l : List Int) (hl : l.length ≤ 17592186044416) : Ev (fun k => laws_eqIntS.f k l l) true := by
  unfold laws_eqIntS.f
  simp only [if_true]
  exact eqIntS_l0 l hl l.length 0 (by omega) (by omega)

/-! ### laws_eqChip -/
theorem eqChip_ev (p : List ByteArray) (w : List Int) (hp : p.length ≤ 1000000000000) (hw : w.length ≤ 1000000000000) : Ev (fun k => laws_eqChip.f k p w p w) true := by
  unfold laws_eqChip.f
  exact Ev.bind (eqStringS_ev p (by omega)) (ev_pos rfl (Ev.bind (eqIntS_ev w (by omega)) (ev_pos rfl (Ev.now _))))

/-! ### spec_l1In -/
theorem spec_l1In_eq (a b c : Int) : spec_l1In.f a b c = some (decide (b ≤ a ∧ a ≤ c)) := by
  unfold spec_l1In.f
  by_cases h : a ≥ b
  · rw [if_pos h]
    congr 1
    by_cases g : a ≤ c
    · rw [decide_eq_true g, decide_eq_true ⟨h, g⟩]
    · rw [decide_eq_false g, decide_eq_false (fun x => g x.2)]
  · rw [if_neg h, decide_eq_false (fun x => h x.1)]

/-! ### spec_ChipOk -/
theorem spec_ChipOk_l1 (p : List ByteArray) (w : List Int) (hw : w.length ≤ 1000000000000) : ∀ (d i : Nat), w.length - i = d → i ≤ w.length →
    Ev (fun k => spec_ChipOk.l1 k (i : Int) p w) (!((w.drop i).any fun n => !(decide (0 ≤ n ∧ n ≤ 1000000000)))) := by
  intro d
  induction d with
  | zero =>
    intro i hd hi
    rw [List.drop_of_length_le (by omega)]
    refine Ev.step (f := fun _ => some true) (fun k => ?_) (Ev.now _)
    simp only [spec_ChipOk.l1]
    rw [if_neg (by omega)]
  | succ d ih =>
    intro i hd hi
    have h : i < w.length := by omega
    rw [List.drop_eq_getElem_cons h, List.any_cons]
    have e := ih (i + 1) (by omega) (by omega)
    by_cases c : 0 ≤ w[i] ∧ w[i] ≤ 1000000000
    · rw [decide_eq_true c]
      refine Ev.step (f := fun k => spec_ChipOk.l1 k ((i + 1 : Nat) : Int) p w) (fun k => ?_) e
      simp only [spec_ChipOk.l1]
      rw [if_pos (by omega), if_pos (by omega), spec_l1In_eq, rd_at h, decide_eq_true c, Option.bind_some, if_pos rfl, wsucc (by omega)]
    · rw [decide_eq_false c]
      refine Ev.step (f := fun k => some false) (fun k => ?_) (Ev.now _)
      simp only [spec_ChipOk.l1]
      rw [if_pos (by omega), if_pos (by omega), spec_l1In_eq, rd_at h, decide_eq_false c, Option.bind_some, if_neg (by decide)]
theorem spec_ChipOk_l0 (p : List ByteArray) (w : List Int) (hp : p.length ≤ 1000000000000) (hw : w.length ≤ 1000000000000) : ∀ (d i : Nat), p.length - i = d → i ≤ p.length →
    Ev (fun k => spec_ChipOk.l0 k (i : Int) p w) (!((p.drop i).any fun s => decide (800 < (s.size : Int))) && !(w.any fun n => !(decide (0 ≤ n ∧ n ≤ 1000000000)))) := by
  intro d
  induction d with
  | zero =>
    intro i hd hi
    rw [List.drop_of_length_le (by omega)]
    refine Ev.step (f := fun k => spec_ChipOk.l1 k 0 p w) (fun k => ?_) (by simpa using spec_ChipOk_l1 p w hw w.length 0 (by omega) (by omega))
    simp only [spec_ChipOk.l0]
    rw [if_neg (by omega)]
  | succ d ih =>
    intro i hd hi
    have h : i < p.length := by omega
    rw [List.drop_eq_getElem_cons h, List.any_cons]
    have e := ih (i + 1) (by omega) (by omega)
    by_cases c : 800 < (p[i].size : Int)
    · rw [decide_eq_true c]
      refine Ev.step (f := fun k => some false) (fun k => ?_) (Ev.now _)
      simp only [spec_ChipOk.l0]
      rw [if_pos (by omega), if_pos (by omega), rds_at h, if_pos c]
    · rw [decide_eq_false c]
      refine Ev.step (f := fun k => spec_ChipOk.l0 k ((i + 1 : Nat) : Int) p w) (fun k => ?_) e
      simp only [spec_ChipOk.l0]
      rw [if_pos (by omega), if_pos (by omega), rds_at h, if_neg c, wsucc (by omega)]
theorem spec_ChipOk_ev (p : List ByteArray) (w : List Int) (hp : p.length ≤ 1000000000000) (hw : w.length ≤ 1000000000000) : Ev (fun k => spec_ChipOk.f k p w) (chipOkB p w) := by
  unfold spec_ChipOk.f chipOkB
  by_cases c : p.length = 60
  · refine ev_pos (by omega) ?_
    rw [decide_eq_true c]
    by_cases b : w.length = 10
    · rw [decide_eq_true b]
      have e : ((w.length : Int) != 10) = false := by rw [b]; rfl
      rw [e]
      refine Ev.step (f := fun k => spec_ChipOk.l0 k 0 p w) (fun k => ?_) (by simpa using spec_ChipOk_l0 p w hp hw p.length 0 (by omega) (by omega))
      simp only [spec_ChipOk.j0]
      rw [if_neg (by decide)]
    · rw [decide_eq_false b]
      have e : ((w.length : Int) != 10) = true := by
        rw [bne_iff_ne]
        omega
      rw [e]
      refine Ev.step (f := fun k => some false) (fun k => ?_) (Ev.now _)
      simp only [spec_ChipOk.j0]
      rw [if_pos trivial]
  · refine ev_neg (by omega) ?_
    rw [decide_eq_false c]
    refine Ev.step (f := fun k => some false) (fun k => ?_) (Ev.now _)
    simp only [spec_ChipOk.j0]
    rw [if_pos trivial]
theorem chipOk_len {p : List ByteArray} {w : List Int} (h : chipOkB p w = true) : p.length = 60 ∧ w.length = 10 := by
  unfold chipOkB at h
  simp only [Bool.and_eq_true, decide_eq_true_eq] at h
  exact ⟨h.1.1.1, h.1.1.2⟩
theorem chipOk_page {p : List ByteArray} {w : List Int} (h : chipOkB p w = true) {i : Nat} (hi : i < p.length) : p[i].size ≤ 800 := by
  unfold chipOkB at h
  simp only [Bool.and_eq_true, Bool.not_eq_true', List.any_eq_false, decide_eq_true_eq] at h
  have := h.1.2 _ (List.getElem_mem hi)
  omega
theorem chipOk_wear {p : List ByteArray} {w : List Int} (h : chipOkB p w = true) {i : Nat} (hi : i < w.length) : 0 ≤ w[i] ∧ w[i] ≤ 1000000000 := by
  unfold chipOkB at h
  simp only [Bool.and_eq_true, Bool.not_eq_true', List.any_eq_false] at h
  have := h.2 _ (List.getElem_mem hi)
  simpa using this

/-! ### laws_FnExactChipOk -/
theorem FnExactChipOk_pure (p : List ByteArray) (w : List Int) (h : (p.length ≤ maxLen ∧ ∀ x ∈ p, x.size ≤ maxLen) ∧ (w.length ≤ maxLen ∧ ∀ x ∈ w, (Lit.int .i64 x).wf = true)) :
    ∃ k, laws_FnExactChipOk.f k p w = some true := by
  refine Ev.rounds ?_
  unfold laws_FnExactChipOk.f
  refine (Ev.bind (szChip_ev p w 1048576 h.1.1 h.1.2 h.2.1 (by omega) (by omega)) ?_)
  by_cases c : left_ 1048576 (p.length + total p + w.length) < 0
  · exact ev_pos c (Ev.now _)
  have hl := left_pos c
  have t := toChip_ev p w (by omega) (by omega)
  have e0 := eqChip_ev p w (by omega) (by omega)
  have sp := spec_ChipOk_ev p w (by omega) (by omega)
  have im : impl_ChipOk.f p w = some (chipOkB p w) := rfl
  refine ev_neg c (Ev.bind t (Ev.bind sp (Ev.bind t (ev_bind im (ev_neg ?_ (Ev.bind t (Ev.bind e0 (ev_pos rfl (Ev.now _)))))))))
  simp

end Go.Proofs.Ytpbamdcbaloibab.Pure
