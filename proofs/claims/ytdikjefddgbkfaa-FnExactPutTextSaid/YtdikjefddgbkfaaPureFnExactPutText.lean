/- The law FnExactPutText answers true at every input; no condition. -/
import Derived.Test.YtdikjefddgbkfaaPFnExactPutTextx2
import Derived.Test.YtdikjefddgbkfaaLibM
namespace Go.Proofs.Ytdikjefddgbkfaa.Pure
open Go.RowKit Go.Proofs.Ytdikjefddgbkfaa.PFnExactPutText Go.Proofs.YtdikjefddgbkfaaW.PrintWords Go.Proofs.YtdikjefddgbkfaaW.PrintLast Go.Proofs.YtdikjefddgbkfaaW.PrintMore Go.Proofs.Ytdikjefddgbkfaa.Lib
set_option linter.unusedVariables false

/-! ### laws_eqByteS -/
theorem eqByteS_l0 (l : List Int) (hl : l.length ≤ 17592186044416) : ∀ (n i : Nat), l.length - i = n → i ≤ l.length → Ev (fun k => laws_eqByteS.l0 k l l (i : Int)) true := by
  intro n
  induction n with
  | zero =>
    intro i hn hi
    refine Ev.step (f := fun _ => some true) (fun k => ?_) (Ev.now _)
    simp only [laws_eqByteS.l0]
    rw [if_neg (by omega)]
  | succ n ih =>
    intro i hn hi
    refine Ev.step (f := fun k => laws_eqByteS.l0 k l l ((i + 1 : Nat) : Int)) (fun k => ?_) (ih (i + 1) (by omega) (by omega))
    simp only [laws_eqByteS.l0]
    rw [if_pos (by omega), if_pos (by omega), if_pos (by omega), if_pos trivial, wsucc (by omega)]
theorem eqByteS_ev (l : List Int) (hl : l.length ≤ 17592186044416) : Ev (fun k => laws_eqByteS.f k l l) true := by
  unfold laws_eqByteS.f
  simp only [if_true]
  exact eqByteS_l0 l hl l.length 0 (by omega) (by omega)

/-! ### spec_PutNum -/
theorem spec_PutNum_l0 : ∀ (f n : Nat) (acc : List Int), n < 128 ^ (f + 1) → n ≤ 1000000000 → acc.length + f ≤ 1000000000000 → Ev (fun k => spec_PutNum.l0 k (n : Int) acc) (acc ++ putF f n) := by
  intro f
  induction f with
  | zero =>
    intro n acc hn _ ha
    refine Ev.step (f := fun _ => some (acc ++ [(n : Int)])) (fun k => ?_) (Ev.now _)
    simp only [spec_PutNum.l0]
    rw [if_neg (by omega), if_pos (by omega), show ((n : Int)) % 256 = n by omega]
  | succ f ih =>
    intro n acc hn hb ha
    unfold putF
    split
    · rename_i c
      have := ih (n / 128) (acc ++ [((n % 128 + 128 : Nat) : Int)]) (Nat.div_lt_of_lt_mul (by rw [Nat.pow_succ, Nat.mul_comm] at hn; exact hn)) (by omega) (by simp; omega)
      rw [List.append_assoc] at this
      refine Ev.step (f := fun k => spec_PutNum.l0 k ((n / 128 : Nat) : Int) (acc ++ [((n % 128 + 128 : Nat) : Int)])) (fun k => ?_) this
      simp only [spec_PutNum.l0]
      rw [if_pos (by omega), if_pos (by omega), Int.tdiv_eq_ediv_of_nonneg (by omega), Int.tmod_eq_emod_of_nonneg (by omega), w64 (by omega) (by omega), w64 (by omega) (by omega),
        show ((n : Int) % 128 + 128) % 256 = ((n % 128 + 128 : Nat) : Int) by omega, show (n : Int) / 128 = ((n / 128 : Nat) : Int) by omega]
    · refine Ev.step (f := fun _ => some (acc ++ [(n : Int)])) (fun k => ?_) (Ev.now _)
      simp only [spec_PutNum.l0]
      rw [if_neg (by omega), if_pos (by omega), show ((n : Int)) % 256 = n by omega]
theorem spec_PutNum_ev (n : Int) : Ev (fun k => spec_PutNum.f k n) (putI n) := by
  unfold spec_PutNum.f
  refine ev_bind rfl ?_
  by_cases c : 0 ≤ n ∧ n ≤ 1000000000
  · refine ev_bind (x := true) (by unfold spec_l1In.f; rw [if_pos (by omega)]; simp; omega) ?_
    simp only [if_true]
    have := spec_PutNum_l0 4 n.toNat [] (by omega) (by omega) (by simp)
    rw [show ((n.toNat : Nat) : Int) = n by omega] at this
    unfold putI
    rw [if_pos c]
    simpa using this
  · refine ev_bind (x := false) (by unfold spec_l1In.f; split <;> simp; omega) ?_
    unfold putI
    rw [if_neg c]
    exact Ev.now _

/-! ### m_rec -/
theorem bytesOf_bytes (s : ByteArray) : Bytes (bytesOf s) := fun x hx => by
  unfold bytesOf at hx
  obtain ⟨b, _, rfl⟩ := List.mem_map.1 hx
  have := b.toNat_lt
  omega
/-- A text with its length before it. -/
def putT (s : ByteArray) : List Int := if s.size > 400 then [] else putI (s.size : Nat) ++ bytesOf s
theorem putT_bytes (s : ByteArray) : Bytes (putT s) := by
  unfold putT
  split
  · exact Bytes.nil
  · exact (putI_bytes _).append (bytesOf_bytes s)
theorem putT_length (s : ByteArray) : (putT s).length ≤ 405 := by
  unfold putT
  split
  · simp
  · have := putI_length (s.size : Nat)
    rw [List.length_append, bytesOf_length]
    omega
/-- Bytes with their sum before them. -/
def summ (l : List Int) : List Int := putI (sumF 7 l) ++ l
/-- What a record's text is. -/
def recL (a b : Int) (s : ByteArray) : List Int := putI a ++ putI b ++ putT s
def recT (a b : Int) (s : ByteArray) : ByteArray := if (0 ≤ a ∧ a ≤ 25) ∧ (1 ≤ b ∧ b ≤ 1000000000) ∧ s.size ≤ 400 then strOfNums (summ (recL a b s)) else (⟨#[]⟩ : ByteArray)
theorem recL_bytes (a b : Int) (s : ByteArray) : Bytes (recL a b s) := ((putI_bytes a).append (putI_bytes b)).append (putT_bytes s)
theorem recL_length (a b : Int) (s : ByteArray) : (recL a b s).length ≤ 415 := by
  unfold recL
  rw [List.length_append, List.length_append]
  have := putI_length a
  have := putI_length b
  have := putT_length s
  omega

/-! ### spec_PutText -/
theorem spec_PutText_ev (s : ByteArray) : Ev (fun k => spec_PutText.f k s) (putT s) := by
  unfold spec_PutText.f putT
  by_cases c : (s.size : Int) > 400
  · exact ev_r (if_pos (by omega)) (ev_pos c (Ev.now _))
  · have := putI_length (s.size : Nat)
    exact ev_r (if_neg (by omega)) (ev_neg c (Ev.bind (spec_PutNum_ev _) (ev_pos (by omega) (ev_bind rfl (ev_pos (by rw [bytesOf_length]; omega) (Ev.now _))))))

/-! ### impl_PutNum -/
theorem impl_PutNum_l0 : ∀ (f n : Nat) (acc : List Int), n < 128 ^ (f + 1) → n ≤ 1000000000 → acc.length + f ≤ 1000000000000 → Ev (fun k => impl_PutNum.l0 k (n : Int) acc) (acc ++ putF f n) := by
  intro f
  induction f with
  | zero =>
    intro n acc hn _ ha
    refine Ev.step (f := fun _ => some (acc ++ [(n : Int)])) (fun k => ?_) (Ev.now _)
    simp only [impl_PutNum.l0]
    rw [if_neg (by omega), if_pos (by omega), show ((n : Int)) % 256 = n by omega]
  | succ f ih =>
    intro n acc hn hb ha
    unfold putF
    split
    · rename_i c
      have := ih (n / 128) (acc ++ [((n % 128 + 128 : Nat) : Int)]) (Nat.div_lt_of_lt_mul (by rw [Nat.pow_succ, Nat.mul_comm] at hn; exact hn)) (by omega) (by simp; omega)
      rw [List.append_assoc] at this
      refine Ev.step (f := fun k => impl_PutNum.l0 k ((n / 128 : Nat) : Int) (acc ++ [((n % 128 + 128 : Nat) : Int)])) (fun k => ?_) this
      simp only [impl_PutNum.l0]
      rw [if_pos (by omega), if_pos (by omega), and127 (by omega) (by omega), or128 (by omega) (by omega),
        show ((n : Int) % 128 + 128) % 256 = ((n % 128 + 128 : Nat) : Int) by omega, show (n : Int) / 128 = ((n / 128 : Nat) : Int) by omega]
    · refine Ev.step (f := fun _ => some (acc ++ [(n : Int)])) (fun k => ?_) (Ev.now _)
      simp only [impl_PutNum.l0]
      rw [if_neg (by omega), if_pos (by omega), show ((n : Int)) % 256 = n by omega]
theorem impl_PutNum_ev (n : Int) : Ev (fun k => impl_PutNum.f k n) (putI n) := by
  unfold impl_PutNum.f
  by_cases c : 0 ≤ n ∧ n ≤ 1000000000
  · refine ev_bind (x := true) (by unfold impl_in.f; rw [if_pos (by omega)]; simp; omega) ?_
    simp only [if_true]
    have := impl_PutNum_l0 4 n.toNat [] (by omega) (by omega) (by simp)
    rw [show ((n.toNat : Nat) : Int) = n by omega] at this
    unfold putI
    rw [if_pos c]
    simpa using this
  · refine ev_bind (x := false) (by unfold impl_in.f; split <;> simp; omega) ?_
    unfold putI
    rw [if_neg c]
    exact Ev.now _

/-! ### impl_PutText -/
theorem impl_PutText_ev (s : ByteArray) : Ev (fun k => impl_PutText.f k s) (putT s) := by
  unfold impl_PutText.f putT
  by_cases c : (s.size : Int) > 400
  · exact ev_r (if_pos (by omega)) (ev_pos c (Ev.now _))
  · have := putI_length (s.size : Nat)
    exact ev_r (if_neg (by omega)) (ev_neg c (Ev.bind (impl_PutNum_ev _) (ev_pos (by omega) (Ev.now _))))

/-! ### laws_markByteS -/
/-- What the marks are. -/
def mkByteS (m : Int) (n : Nat) : List Int := (List.range n).map fun j => ((m + (j : Nat)) % 256)
theorem mkByteS_length (m : Int) (n : Nat) : (mkByteS m n).length = n := by simp [mkByteS]
theorem mkByteS_at (m : Int) (n j : Nat) (h : j < (mkByteS m n).length) : (mkByteS m n)[j] = ((m + (j : Nat)) % 256) := by simp [mkByteS]
theorem markByteS_l0 (m : Int) (N : Nat) (h0 : -1000000000000000000 ≤ m) (h1 : m ≤ 1000000000000000000) (hN : N ≤ 17592186044416) : ∀ (n i : Nat) (x : List Int), N - i = n → i ≤ N → x.length = N → (∀ j, j < i → x[j]? = some ((m + (j : Nat)) % 256)) →
    Ev (fun k => laws_markByteS.l0 k x (m + (i : Nat)) (i : Int)) (m + (N : Nat), mkByteS m N) := by
  intro n
  induction n with
  | zero =>
    intro i x hn hi hx hj
    have : i = N := by omega
    subst this
    have e : x = mkByteS m i := List.ext_getElem? fun j => by
      by_cases h : j < i
      · rw [hj j h]
        simp [mkByteS, h]
      · rw [List.getElem?_eq_none (by omega), List.getElem?_eq_none (by rw [mkByteS_length]; omega)]
    subst e
    refine Ev.step (f := fun _ => some (m + (i : Nat), mkByteS m i)) (fun k => ?_) (Ev.now _)
    simp only [laws_markByteS.l0]
    rw [if_neg (by omega)]
  | succ n ih =>
    intro i x hn hi hx hj
    refine Ev.step (f := fun k => laws_markByteS.l0 k (x.set i ((m + (i : Nat)) % 256)) (m + ((i + 1 : Nat) : Nat)) ((i + 1 : Nat) : Int)) (fun k => ?_) (ih (i + 1) (x.set i ((m + (i : Nat)) % 256)) (by omega) (by omega) (by simpa using hx) ?_)
    · simp only [laws_markByteS.l0]
      rw [if_pos (by omega), if_pos (by omega), wsucc (by omega), w64 (by omega) (by omega)]
      congr 1
      omega
    · intro j hj'
      rw [List.getElem?_set]
      by_cases e : i = j
      · subst e
        rw [if_pos rfl, if_pos (by omega)]
      · rw [if_neg e]
        exact hj j (by omega)
theorem markByteS_ev (l : List Int) (m : Int) (h0 : -1000000000000000000 ≤ m) (h1 : m ≤ 1000000000000000000) (hl : l.length ≤ 17592186044416) : Ev (fun k => laws_markByteS.f k l m) (m + (l.length : Nat), mkByteS m l.length) := by
  unfold laws_markByteS.f
  have := markByteS_l0 m l.length h0 h1 hl l.length 0 l (by omega) (by omega) rfl (fun j h => by omega)
  simpa using this

/-! ### laws_heldByteS -/
theorem heldByteS_l0 (m : Int) (N : Nat) (h0 : -1000000000000000000 ≤ m) (h1 : m ≤ 1000000000000000000) (hN : N ≤ 17592186044416) : ∀ (n i : Nat), N - i = n → i ≤ N →
    Ev (fun k => laws_heldByteS.l0 k (mkByteS m N) (m + (i : Nat)) (i : Int)) (m + (N : Nat)) := by
  intro n
  induction n with
  | zero =>
    intro i hn hi
    have : i = N := by omega
    subst this
    refine Ev.step (f := fun _ => some (m + (i : Nat))) (fun k => ?_) (Ev.now _)
    simp only [laws_heldByteS.l0, mkByteS_length]
    rw [if_neg (by omega)]
  | succ n ih =>
    intro i hn hi
    have h : i < (mkByteS m N).length := by rw [mkByteS_length]; omega
    refine Ev.step (f := fun k => laws_heldByteS.l0 k (mkByteS m N) (m + ((i + 1 : Nat) : Nat)) ((i + 1 : Nat) : Int)) (fun k => ?_) (ih (i + 1) (by omega) (by omega))
    simp only [laws_heldByteS.l0]
    rw [if_pos (by omega), if_pos (by omega), rd_at h, mkByteS_at, if_pos rfl, wsucc (by omega), w64 (by omega) (by omega)]
    congr 1
    omega
theorem heldByteS_ev (m : Int) (N : Nat) (h0 : -1000000000000000000 ≤ m) (h1 : m ≤ 1000000000000000000) (hN : N ≤ 17592186044416) : Ev (fun k => laws_heldByteS.f k (mkByteS m N) m) (m + (N : Nat)) := by
  unfold laws_heldByteS.f
  simpa using heldByteS_l0 m N h0 h1 hN N 0 (by omega) (by omega)

/-! ### laws_FnExactPutText -/
theorem FnExactPutText_pure (s : ByteArray) (hs : s.size ≤ maxLen) : ∃ k, laws_FnExactPutText.f k s = some true := by
  refine Ev.rounds ?_
  unfold laws_FnExactPutText.f
  have hl := putT_length s
  have e := eqByteS_ev (putT s) (by omega)
  have m := markByteS_ev (putT s) 1 (by omega) (by omega) (by omega)
  have h := heldByteS_ev 1 (putT s).length (by omega) (by omega) (by omega)
  have sp := spec_PutText_ev s
  have im := impl_PutText_ev s
  by_cases c : (s.size : Int) > 1048576
  · exact ev_pos c (Ev.now _)
  refine ev_neg c ?_
  exact Ev.bind sp (Ev.bind im (Ev.bind e (ev_pos rfl (Ev.bind m (Ev.bind h (ev_neg (by omega) (ev_pos rfl (Ev.bind im (Ev.bind e (ev_pos rfl (Ev.bind h (ev_neg (by omega) (ev_pos rfl (Ev.now _))))))))))))))

end Go.Proofs.Ytdikjefddgbkfaa.Pure
