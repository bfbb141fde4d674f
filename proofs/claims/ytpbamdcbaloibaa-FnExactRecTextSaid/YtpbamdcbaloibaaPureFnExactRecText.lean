/- The law FnExactRecText answers true at every input; no condition. -/
import Derived.Test.YtpbamdcbaloibaaPFnExactRecTextx2
import Derived.Test.YtpbamdcbaloibaaLibM
namespace Go.Proofs.Ytpbamdcbaloibaa.Pure
open Go.RowKit Go.Proofs.Ytpbamdcbaloibaa.PFnExactRecText Go.Proofs.YtpbamdcbaloibaaW.PrintWords Go.Proofs.YtpbamdcbaloibaaW.PrintLast Go.Proofs.YtpbamdcbaloibaaW.PrintMore Go.Proofs.Ytpbamdcbaloibaa.Lib
set_option linter.unusedVariables false

/-! ### spec_PutNum -/
theorem spec_PutNum_l0 : ∀ (f n : Nat) (acc : List Int), n < 128 ^ (f + 1) → n ≤ 1000000000 → acc.length + f ≤ 1000000000000 → Ev (fun k => spec_PutNum.l0 k (n : Int) acc) (acc ++ putF f n) := by
  intro f
  induction f with
  | zero =>
    intro n acc hn _ ha
    refine Ev.step (f := fun _ => some (acc ++ [(n : Int)])) (fun k => ?_) (Ev.now _)
    simp only [spec_PutNum.l0]
    rw [if_neg (by omega), if_pos (by omega), show ((n : Int)) % 256 = n by omega]
  | succ f ih =>
    intro n acc hn hb ha
    unfold putF
    split
    · rename_i c
      have := ih (n / 128) (acc ++ [((n % 128 + 128 : Nat) : Int)]) (Nat.div_lt_of_lt_mul (by rw [Nat.pow_succ, Nat.mul_comm] at hn; exact hn)) (by omega) (by simp; omega)
      rw [List.append_assoc] at this
      refine Ev.step (f := fun k => spec_PutNum.l0 k ((n / 128 : Nat) : Int) (acc ++ [((n % 128 + 128 : Nat) : Int)])) (fun k => ?_) this
      simp only [spec_PutNum.l0]
      rw [if_pos (by omega), if_pos (by omega), Int.tdiv_eq_ediv_of_nonneg (by omega), Int.tmod_eq_emod_of_nonneg (by omega), w64 (by omega) (by omega), w64 (by omega) (by omega),
        show ((n : Int) % 128 + 128) % 256 = ((n % 128 + 128 : Nat) : Int) by omega, show (n : Int) / 128 = ((n / 128 : Nat) : Int) by omega]
    · refine Ev.step (f := fun _ => some (acc ++ [(n : Int)])) (fun k => ?_) (Ev.now _)
      simp only [spec_PutNum.l0]
      rw [if_neg (by omega), if_pos (by omega), show ((n : Int)) % 256 = n by omega]
theorem spec_PutNum_ev (n : Int) : Ev (fun k => spec_PutNum.f k n) (putI n) := by
  unfold spec_PutNum.f
  refine ev_bind rfl ?_
  by_cases c : 0 ≤ n ∧ n ≤ 1000000000
  · refine ev_bind (x := true) (by unfold spec_l1In.f; rw [if_pos (by omega)]; simp; omega) ?_
    simp only [if_true]
    have := spec_PutNum_l0 4 n.toNat [] (by omega) (by omega) (by simp)
    rw [show ((n.toNat : Nat) : Int) = n by omega] at this
    unfold putI
    rw [if_pos c]
    simpa using this
  · refine ev_bind (x := false) (by unfold spec_l1In.f; split <;> simp; omega) ?_
    unfold putI
    rw [if_neg c]
    exact Ev.now _

/-! ### m_rec -/
theorem bytesOf_bytes (s : ByteArray) : Bytes (bytesOf s) := fun x hx => by
  unfold bytesOf at hx
  obtain ⟨b, _, rfl⟩ := List.mem_map.1 hx
  have := b.toNat_lt
  omega
/-- A text with its length before it. -/
def putT (s : ByteArray) : List Int := if s.size > 400 then [] else putI (s.size : Nat) ++ bytesOf s
theorem putT_bytes (s : ByteArray) : Bytes (putT s) := by
  unfold putT
  split
  · exact Bytes.nil
  · exact (putI_bytes _).append (bytesOf_bytes s)
theorem putT_length (s : ByteArray) : (putT s).length ≤ 405 := by
  unfold putT
  split
  · simp
  · have := putI_length (s.size : Nat)
    rw [List.length_append, bytesOf_length]
    omega
/-- Bytes with their sum before them. -/
def summ (l : List Int) : List Int := putI (sumF 7 l) ++ l
/-- What a record's text is. -/
def recL (a b : Int) (s : ByteArray) : List Int := putI a ++ putI b ++ putT s
def recT (a b : Int) (s : ByteArray) : ByteArray := if (0 ≤ a ∧ a ≤ 25) ∧ (1 ≤ b ∧ b ≤ 1000000000) ∧ s.size ≤ 400 then strOfNums (summ (recL a b s)) else (⟨#[]⟩ : ByteArray)
theorem recL_bytes (a b : Int) (s : ByteArray) : Bytes (recL a b s) := ((putI_bytes a).append (putI_bytes b)).append (putT_bytes s)
theorem recL_length (a b : Int) (s : ByteArray) : (recL a b s).length ≤ 415 := by
  unfold recL
  rw [List.length_append, List.length_append]
  have := putI_length a
  have := putI_length b
  have := putT_length s
  omega

/-! ### spec_PutText -/
theorem spec_PutText_ev (s : ByteArray) : Ev (fun k => spec_PutText.f k s) (putT s) := by
  unfold spec_PutText.f putT
  by_cases c : (s.size : Int) > 400
  · exact ev_r (if_pos (by omega)) (ev_pos c (Ev.now _))
  · have := putI_length (s.size : Nat)
    exact ev_r (if_neg (by omega)) (ev_neg c (Ev.bind (spec_PutNum_ev _) (ev_pos (by omega) (ev_bind rfl (ev_pos (by rw [bytesOf_length]; omega) (Ev.now _))))))

/-! ### spec_Sum -/
theorem spec_Sum_l0 (l : List Int) (hb : Bytes l) (hl : l.length ≤ 1000000000000) : ∀ (d i : Nat) (n : Int), l.length - i = d → i ≤ l.length → 0 ≤ n → n < 1000003 → Ev (fun k => spec_Sum.l0 k l n (i : Int)) (sumF n (l.drop i)) := by
  intro d
  induction d with
  | zero =>
    intro i n hd hi h0 h1
    rw [List.drop_of_length_le (by omega), sumF_nil]
    refine Ev.step (f := fun _ => some n) (fun k => ?_) (Ev.now _)
    simp only [spec_Sum.l0]
    rw [if_neg (by omega)]
  | succ d ih =>
    intro i n hd hi h0 h1
    have h : i < l.length := by omega
    have hv := hb.at_ h
    rw [List.drop_eq_getElem_cons h, sumF_cons]
    refine Ev.step (f := fun k => spec_Sum.l0 k l ((31 * n + l[i]) % 1000003) ((i + 1 : Nat) : Int)) (fun k => ?_) (ih (i + 1) ((31 * n + l[i]) % 1000003) (by omega) (by omega) (by omega) (by omega))
    simp only [spec_Sum.l0]
    rw [if_pos (by omega), if_pos (by omega), rd_at h, wsucc (by omega), w64 (x := l[i]) (by omega) (by omega), w64 (x := 31 * n) (by omega) (by omega), w64 (by omega) (by omega), Int.tmod_eq_emod_of_nonneg (by omega)]
theorem spec_Sum_ev (l : List Int) (hb : Bytes l) (hl : l.length ≤ 1000000000000) : Ev (fun k => spec_Sum.f k l) (sumF 7 l) := by
  unfold spec_Sum.f
  simpa using spec_Sum_l0 l hb hl l.length 0 7 (by omega) (by omega) (by omega) (by omega)

/-! ### spec_l1In -/
theorem spec_l1In_eq (a b c : Int) : spec_l1In.f a b c = some (decide (b ≤ a ∧ a ≤ c)) := by
  unfold spec_l1In.f
  by_cases h : a ≥ b
  · rw [if_pos h]
    congr 1
    by_cases g : a ≤ c
    · rw [decide_eq_true g, decide_eq_true ⟨h, g⟩]
    · rw [decide_eq_false g, decide_eq_false (fun x => g x.2)]
  · rw [if_neg h, decide_eq_false (fun x => h x.1)]

/-! ### m_recok -/
theorem spec_RecOk_eq (a b : Int) (s : ByteArray) : spec_RecOk.f a b s = some (decide ((0 ≤ a ∧ a ≤ 25) ∧ (1 ≤ b ∧ b ≤ 1000000000) ∧ s.size ≤ 400)) := by
  unfold spec_RecOk.f
  rw [spec_l1In_eq, Option.bind_some]
  by_cases h : 0 ≤ a ∧ a ≤ 25
  · rw [if_pos (decide_eq_true h), spec_l1In_eq, Option.bind_some]
    by_cases g : 1 ≤ b ∧ b ≤ 1000000000
    · rw [if_pos (decide_eq_true g)]
      congr 1
      rw [decide_eq_decide]
      constructor
      · exact fun x => ⟨h, g, by omega⟩
      · exact fun x => by have := x.2.2; omega
    · rw [if_neg (by simpa using g), decide_eq_false (fun x => g x.2.1)]
  · rw [if_neg (by simpa using h), decide_eq_false (fun x => h x.1)]

/-! ### spec_RecText -/
theorem spec_RecText_ev (a b : Int) (s : ByteArray) : Ev (fun k => spec_RecText.f k a b s) (recT a b s) := by
  unfold spec_RecText.f recT
  refine ev_bind (spec_RecOk_eq a b s) ?_
  by_cases c : (0 ≤ a ∧ a ≤ 25) ∧ (1 ≤ b ∧ b ≤ 1000000000) ∧ s.size ≤ 400
  · refine ev_r (if_pos c) (ev_pos (decide_eq_true c) ?_)
    have h1 := putI_length a
    have h2 := putI_length b
    have h3 := putT_length s
    have h4 := recL_length a b s
    have h5 := putI_length (sumF 7 (recL a b s))
    refine Ev.bind (spec_PutNum_ev a) (Ev.bind (spec_PutNum_ev b) (ev_pos (by omega) (ev_bind rfl (Ev.bind (spec_PutText_ev s) (ev_pos (by rw [List.length_append]; omega) (ev_bind rfl ?_))))))
    exact Ev.bind (spec_Sum_ev (recL a b s) (recL_bytes a b s) (by omega)) (Ev.bind (spec_PutNum_ev _) (ev_pos (by show _ + (recL a b s).length < _; omega) (Ev.now _)))
  · exact ev_r (if_neg c) (ev_neg (by simpa using c) (Ev.now _))

/-! ### impl_PutNum -/
theorem impl_PutNum_l0 : ∀ (f n : Nat) (acc : List Int), n < 128 ^ (f + 1) → n ≤ 1000000000 → acc.length + f ≤ 1000000000000 → Ev (fun k => impl_PutNum.l0 k (n : Int) acc) (acc ++ putF f n) := by
  intro f
  induction f with
  | zero =>
    intro n acc hn _ ha
    refine Ev.step (f := fun _ => some (acc ++ [(n : Int)])) (fun k => ?_) (Ev.now _)
    simp only [impl_PutNum.l0]
    rw [if_neg (by omega), if_pos (by omega), show ((n : Int)) % 256 = n by omega]
  | succ f ih =>
    intro n acc hn hb ha
    unfold putF
    split
    · rename_i c
      have := ih (n / 128) (acc ++ [((n % 128 + 128 : Nat) : Int)]) (Nat.div_lt_of_lt_mul (by rw [Nat.pow_succ, Nat.mul_comm] at hn; exact hn)) (by omega) (by simp; omega)
      rw [List.append_assoc] at this
      refine Ev.step (f := fun k => impl_PutNum.l0 k ((n / 128 : Nat) : Int) (acc ++ [((n % 128 + 128 : Nat) : Int)])) (fun k => ?_) this
      simp only [impl_PutNum.l0]
      rw [if_pos (by omega), if_pos (by omega), and127 (by omega) (by omega), or128 (by omega) (by omega),
        show ((n : Int) % 128 + 128) % 256 = ((n % 128 + 128 : Nat) : Int) by omega, show (n : Int) / 128 = ((n / 128 : Nat) : Int) by omega]
    · refine Ev.step (f := fun _ => some (acc ++ [(n : Int)])) (fun k => ?_) (Ev.now _)
      simp only [impl_PutNum.l0]
      rw [if_neg (by omega), if_pos (by omega), show ((n : Int)) % 256 = n by omega]
theorem impl_PutNum_ev (n : Int) : Ev (fun k => impl_PutNum.f k n) (putI n) := by
  unfold impl_PutNum.f
  by_cases c : 0 ≤ n ∧ n ≤ 1000000000
  · refine ev_bind (x := true) (by unfold impl_in.f; rw [if_pos (by omega)]; simp; omega) ?_
    simp only [if_true]
    have := impl_PutNum_l0 4 n.toNat [] (by omega) (by omega) (by simp)
    rw [show ((n.toNat : Nat) : Int) = n by omega] at this
    unfold putI
    rw [if_pos c]
    simpa using this
  · refine ev_bind (x := false) (by unfold impl_in.f; split <;> simp; omega) ?_
    unfold putI
    rw [if_neg c]
    exact Ev.now _

/-! ### impl_PutText -/
theorem impl_PutText_ev (s : ByteArray) : Ev (fun k => impl_PutText.f k s) (putT s) := by
  unfold impl_PutText.f putT
  by_cases c : (s.size : Int) > 400
  · exact ev_r (if_pos (by omega)) (ev_pos c (Ev.now _))
  · have := putI_length (s.size : Nat)
    exact ev_r (if_neg (by omega)) (ev_neg c (Ev.bind (impl_PutNum_ev _) (ev_pos (by omega) (Ev.now _))))

/-! ### impl_Sum -/
theorem impl_Sum_l0 (l : List Int) (hb : Bytes l) (hl : l.length ≤ 1000000000000) : ∀ (d i : Nat) (n : Int), l.length - i = d → i ≤ l.length → 0 ≤ n → n < 1000003 → Ev (fun k => impl_Sum.l0 k n l (l.length : Int) (i : Int)) (sumF n (l.drop i)) := by
  intro d
  induction d with
  | zero =>
    intro i n hd hi h0 h1
    rw [List.drop_of_length_le (by omega), sumF_nil]
    refine Ev.step (f := fun _ => some n) (fun k => ?_) (Ev.now _)
    simp only [impl_Sum.l0]
    rw [if_neg (by omega)]
  | succ d ih =>
    intro i n hd hi h0 h1
    have h : i < l.length := by omega
    have hv := hb.at_ h
    rw [List.drop_eq_getElem_cons h, sumF_cons]
    refine Ev.step (f := fun k => impl_Sum.l0 k ((31 * n + l[i]) % 1000003) l (l.length : Int) ((i + 1 : Nat) : Int)) (fun k => ?_) (ih (i + 1) ((31 * n + l[i]) % 1000003) (by omega) (by omega) (by omega) (by omega))
    simp only [impl_Sum.l0]
    rw [if_pos (by omega), if_pos (by omega), if_pos (by omega), rd_at h, wsucc (by omega), w64 (x := l[i]) (by omega) (by omega), w64 (x := 31 * n) (by omega) (by omega), w64 (by omega) (by omega), Int.tmod_eq_emod_of_nonneg (by omega)]
theorem impl_Sum_ev (l : List Int) (hb : Bytes l) (hl : l.length ≤ 1000000000000) : Ev (fun k => impl_Sum.f k l) (sumF 7 l) := by
  unfold impl_Sum.f
  simpa using impl_Sum_l0 l hb hl l.length 0 7 (by omega) (by omega) (by omega) (by omega)

/-! ### impl_concatB -/
theorem rdL_at {xs : List (List Int)} {i : Nat} (h : i < xs.length) : rd_L1 xs (i : Int) = xs[i] := by
  simp [rd_L1, h]
theorem concatB_l1 (xs : List (List Int)) (hx : xs.length ≤ 1000000) : ∀ (d i : Nat) (acc : List Int), xs.length - i = d → i ≤ xs.length → acc.length + ((xs.drop i).flatten).length ≤ 1000000000000 →
    Ev (fun k => slices_Concat_byte_byte.l1 k acc xs (xs.length : Int) (i : Int)) (acc ++ (xs.drop i).flatten) := by
  intro d
  induction d with
  | zero =>
    intro i acc hd hi ha
    rw [List.drop_of_length_le (by omega)]
    refine Ev.step (f := fun _ => some acc) (fun k => ?_) (by simpa using Ev.now acc)
    simp only [slices_Concat_byte_byte.l1]
    rw [if_neg (by omega)]
  | succ d ih =>
    intro i acc hd hi ha
    have h : i < xs.length := by omega
    rw [List.drop_eq_getElem_cons h, List.flatten_cons] at ha ⊢
    rw [List.length_append] at ha
    have e := ih (i + 1) (acc ++ xs[i]) (by omega) (by omega) (by rw [List.length_append]; omega)
    rw [List.append_assoc] at e
    refine Ev.step (f := fun k => slices_Concat_byte_byte.l1 k (acc ++ xs[i]) xs (xs.length : Int) ((i + 1 : Nat) : Int)) (fun k => ?_) e
    simp only [slices_Concat_byte_byte.l1]
    rw [if_pos (by omega), if_pos (by omega), if_pos (by omega), rdL_at h, if_pos (by omega), wsucc (by omega)]
theorem concatB_l0 (xs : List (List Int)) (hx : xs.length ≤ 1000000) (hf : xs.flatten.length ≤ 1000000000000) : ∀ (d i : Nat) (n : Int), xs.length - i = d → i ≤ xs.length → 0 ≤ n → n + (((xs.drop i).flatten).length : Nat) ≤ 1000000000000 →
    Ev (fun k => slices_Concat_byte_byte.l0 k xs n xs (xs.length : Int) (i : Int)) xs.flatten := by
  intro d
  induction d with
  | zero =>
    intro i n hd hi h0 ha
    have e := concatB_l1 xs hx xs.length 0 [] (by omega) (by omega) (by simpa using hf)
    refine Ev.step (f := fun k => slices_Concat_byte_byte.l1 k [] xs (xs.length : Int) 0) (fun k => ?_) (by simpa using e)
    simp only [slices_Concat_byte_byte.l0]
    rw [if_neg (by omega)]
    unfold grow_nil_114.f
    rw [if_pos (by omega), Option.bind_some]
  | succ d ih =>
    intro i n hd hi h0 ha
    have h : i < xs.length := by omega
    rw [List.drop_eq_getElem_cons h, List.flatten_cons, List.length_append] at ha
    have e := ih (i + 1) (n + (xs[i].length : Nat)) (by omega) (by omega) (by omega) (by omega)
    refine Ev.step (f := fun k => slices_Concat_byte_byte.l0 k xs (n + (xs[i].length : Nat)) xs (xs.length : Int) ((i + 1 : Nat) : Int)) (fun k => ?_) e
    simp only [slices_Concat_byte_byte.l0]
    rw [if_pos (by omega), if_pos (by omega), if_pos (by omega), rdL_at h, w64 (x := n + _) (by omega) (by omega), if_neg (by omega), wsucc (by omega)]
theorem concatB_ev (xs : List (List Int)) (hx : xs.length ≤ 1000000) (hf : xs.flatten.length ≤ 1000000000000) : Ev (fun k => slices_Concat_byte_byte.f k xs) xs.flatten := by
  unfold slices_Concat_byte_byte.f
  exact concatB_l0 xs hx hf xs.length 0 0 (by omega) (by omega) (by omega) (by rw [List.drop_zero]; omega)

/-! ### impl_summed -/
theorem impl_summed_ev (l : List Int) (hb : Bytes l) (hl : l.length ≤ 100000000000) : Ev (fun k => impl_summed.f k l) (strOfNums (summ l)) := by
  unfold impl_summed.f summ
  have hp := putI_length (sumF 7 l)
  refine Ev.bind (impl_Sum_ev l hb (by omega)) (Ev.bind (impl_PutNum_ev _) (Ev.bind (concatB_ev [putI (sumF 7 l), l] (by simp) (by simp; omega)) ?_))
  simpa using Ev.now (strOfNums (putI (sumF 7 l) ++ l))

/-! ### impl_in -/
theorem impl_in_eq (a b c : Int) : impl_in.f a b c = some (decide (b ≤ a ∧ a ≤ c)) := by
  unfold impl_in.f
  by_cases h : a ≥ b
  · rw [if_pos h]
    congr 1
    by_cases g : a ≤ c
    · rw [decide_eq_true g, decide_eq_true ⟨h, g⟩]
    · rw [decide_eq_false g, decide_eq_false (fun x => g x.2)]
  · rw [if_neg h, decide_eq_false (fun x => h x.1)]

/-! ### m_recoki -/
theorem impl_RecOk_eq (a b : Int) (s : ByteArray) : impl_RecOk.f a b s = some (decide ((0 ≤ a ∧ a ≤ 25) ∧ (1 ≤ b ∧ b ≤ 1000000000) ∧ s.size ≤ 400)) := by
  unfold impl_RecOk.f impl_isSector.f
  rw [impl_in_eq, Option.bind_some, Option.bind_some]
  by_cases h : 0 ≤ a ∧ a ≤ 25
  · rw [if_pos (decide_eq_true h), impl_in_eq, Option.bind_some]
    by_cases g : 1 ≤ b ∧ b ≤ 1000000000
    · rw [if_pos (decide_eq_true g)]
      congr 1
      rw [decide_eq_decide]
      constructor
      · exact fun x => ⟨h, g, by omega⟩
      · exact fun x => by have := x.2.2; omega
    · rw [if_neg (by simpa using g), decide_eq_false (fun x => g x.2.1)]
  · rw [if_neg (by simpa using h), decide_eq_false (fun x => h x.1)]

/-! ### impl_RecText -/
theorem impl_RecText_ev (a b : Int) (s : ByteArray) : Ev (fun k => impl_RecText.f k a b s) (recT a b s) := by
  unfold impl_RecText.f recT
  refine ev_bind (impl_RecOk_eq a b s) ?_
  by_cases c : (0 ≤ a ∧ a ≤ 25) ∧ (1 ≤ b ∧ b ≤ 1000000000) ∧ s.size ≤ 400
  · refine ev_r (if_pos c) (ev_pos (decide_eq_true c) ?_)
    have h1 := putI_length a
    have h2 := putI_length b
    have h3 := putT_length s
    have h4 := recL_length a b s
    have e := concatB_ev [putI a, putI b, putT s] (by simp) (by simp; omega)
    have f : ([putI a, putI b, putT s] : List (List Int)).flatten = recL a b s := by simp [recL]
    rw [f] at e
    exact Ev.bind (impl_PutNum_ev a) (Ev.bind (impl_PutNum_ev b) (Ev.bind (impl_PutText_ev s) (Ev.bind e (Ev.bind (impl_summed_ev _ (recL_bytes a b s) (by omega)) (Ev.now _)))))
  · exact ev_r (if_neg c) (ev_neg (by simpa using c) (Ev.now _))

/-! ### laws_FnExactRecText -/
theorem FnExactRecText_pure (a b : Int) (s : ByteArray) (w : (Lit.int .i64 a).wf = true ∧ (Lit.int .i64 b).wf = true ∧ s.size ≤ maxLen) : ∃ k, laws_FnExactRecText.f k a b s = some true := by
  obtain ⟨_, _, hs⟩ := w
  unfold maxLen at hs
  refine Ev.rounds ?_
  unfold laws_FnExactRecText.f laws_szRec.f laws_toRec.f
  rw [w64 (x := 1048576 - (s.size : Int)) (by omega) (by omega)]
  by_cases c : 1048576 - (s.size : Int) < 0
  · exact ev_bind (if_pos c) (ev_pos (by omega) (Ev.now _))
  · exact ev_bind (if_neg c) (ev_neg (by omega) (ev_bind rfl (Ev.bind (spec_RecText_ev a b s) (ev_bind rfl (Ev.bind (impl_RecText_ev a b s) (ev_pos rfl (Ev.now _)))))))

end Go.Proofs.Ytpbamdcbaloibaa.Pure
