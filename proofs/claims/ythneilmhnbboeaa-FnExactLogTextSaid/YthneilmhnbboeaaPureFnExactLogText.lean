/- The law FnExactLogText, in plain words: its function answers true. -/
import Derived.Test.YthneilmhnbboeaaGFnExactLogText
import Derived.Test.YthneilmhnbboeaaDenMod
import Derived.KernelRfl
namespace Go.Proofs.Ythneilmhnbboeaa.Pure
open Go Go.RowKit Go.Proofs.Ythneilmhnbboeaa.Den Go.Proofs.Ythneilmhnbboeaa.GFnExactLogText
set_option linter.unusedSimpArgs false
set_option linter.unusedVariables false
theorem szPut_eq (n : Int) (s : ByteArray) (hs : s.size ≤ maxLen) (left : Int) (h0 : 0 ≤ left) (h1 : left ≤ 1000000000000) : laws.szPut.f n s left = some (if left - (s.size : Int) < 0 then -1 else left - (s.size : Int)) := by
  unfold laws.szPut.f
  have hm := maxLen_le
  have e2 : w64 (left - (s.size : Int)) = left - (s.size : Int) := w64_id (by omega) (by omega)
  rw [e2]
  by_cases c : left - (s.size : Int) < 0
  · rw [if_pos c]; exact br_d c rfl
  · rw [if_neg c]; exact br_n c rfl
theorem szPutS_l0 (a : List (Int × ByteArray)) (hl : a.length ≤ 1000000000000000) (hs : ∀ x ∈ a, x.2.size ≤ maxLen) : ∀ (f i : Nat) (left : Int), a.length < i + f → i ≤ a.length → 0 ≤ left → left ≤ 1000000000000 →
    laws.szPutS.l0.f a f left (i : Int) = some (.inl ()) ∨ ∃ r, laws.szPutS.l0.f a f left (i : Int) = some (.inr r) ∧ 0 ≤ r ∧ r + tot ((a.drop i).map (·.2)) = left := by
  intro f
  induction f with
  | zero => intro i left h hi; omega
  | succ f ih =>
    intro i left h hi h0 h1
    rw [laws.szPutS.l0.f]
    by_cases c : i < a.length
    · have e1 : w64 ((i : Int) + 1) = ((i + 1 : Nat) : Int) := wsucc (by omega)
      have hx := hs _ (List.getElem_mem c)
      have e2 := szPut_eq a[i].1 a[i].2 hx left h0 h1
      simp only [Int.toNat_natCast, getD_at c, e1, e2, Option.bind_some]
      by_cases c2 : left - (a[i].2.size : Int) < 0
      · rw [if_pos c2]
        exact .inl (br_d (by omega) (ck_t (by omega) (br_d (by omega) rfl)))
      · rw [if_neg c2]
        rcases ih (i + 1) (left - (a[i].2.size : Int)) (by omega) (by omega) (by omega) (by omega) with g | ⟨r, g1, g2, g3⟩
        · exact .inl (br_d (by omega) (ck_t (by omega) (br_n c2 g)))
        · refine .inr ⟨r, br_d (by omega) (ck_t (by omega) (br_n c2 g1)), g2, ?_⟩
          rw [List.drop_eq_getElem_cons c, List.map_cons, tot_cons]
          omega
    · refine .inr ⟨left, br_n (by omega) rfl, h0, ?_⟩
      rw [List.drop_of_length_le (by omega)]
      simp [tot]
theorem szPutS_eq (K : Nat) (hK : 10000000000000 ≤ K) (a : List (Int × ByteArray)) (hl : a.length ≤ maxLen) (hs : ∀ x ∈ a, x.2.size ≤ maxLen) (left : Int) (h0 : 0 ≤ left) (h1 : left ≤ 1000000000000) :
    ∃ r, laws.szPutS.f K a left = some r ∧ (0 ≤ r → r + a.length + tot (a.map (·.2)) = left) := by
  unfold laws.szPutS.f
  have hm := maxLen_le
  have e2 : w64 (left - (a.length : Int)) = left - (a.length : Int) := w64_id (by omega) (by omega)
  rw [e2]
  by_cases c : left - (a.length : Int) < 0
  · exact ⟨-1, br_d c rfl, fun h => by omega⟩
  · rcases szPutS_l0 a (by omega) hs K 0 (left - a.length) (by omega) (by omega) (by omega) (by omega) with g | ⟨r, g1, g2, g3⟩
    · exact ⟨-1, br_n c (bind_t g rfl), fun h => by omega⟩
    · refine ⟨r, br_n c (bind_t g1 rfl), fun _ => ?_⟩
      rw [List.drop_zero] at g3
      omega
theorem toPutS_l0 (a : List (Int × ByteArray)) (hl : a.length ≤ 1000000000000000) : ∀ (f i : Nat) (v : List (Int × ByteArray)), a.length < i + f → i ≤ a.length → v.length = a.length → v.take i = a.take i → laws.toPutS.l0.f a f v a.length (i : Int) = some (a, a.length) := by
  intro f
  induction f with
  | zero => intro i v h hi; omega
  | succ f ih =>
    intro i v h hi hv ht
    rw [laws.toPutS.l0.f]
    by_cases c : i < a.length
    · have e1 : w64 ((i : Int) + 1) = ((i + 1 : Nat) : Int) := wsucc (by omega)
      simp only [Int.toNat_natCast, getD_at c, e1]
      exact br_d (by omega) (ck_t (by omega) (bind_t rfl (ck_t (by omega) (ck_t (by omega) (ih (i + 1) _ (by omega) (by omega) (by rw [List.length_set]; exact hv) (set_take c hv ht))))))
    · rw [take_all (by omega) hv ht]
      exact br_n (by omega) rfl
theorem toPutS_eq (K : Nat) (hK : 10000000000000 ≤ K) (a : List (Int × ByteArray)) (hl : a.length ≤ 1000000000000) : laws.toPutS.f K a = some (a, a.length) := by
  unfold laws.toPutS.f
  rw [List.length_replicate]
  exact ck_t (by omega) (bind_t (toPutS_l0 a (by omega) K 0 _ (by omega) (by omega) (by rw [List.length_replicate]) rfl) rfl)
theorem eqPut_self (n : Int) (s : ByteArray) : laws.eqPut.f n s n s = some true := by
  unfold laws.eqPut.f
  simp [strEq_self]
theorem eqPutS_l0 (a : List (Int × ByteArray)) (hl : a.length ≤ 1000000000000000) : ∀ (f i : Nat), a.length < i + f → i ≤ a.length → laws.eqPutS.l0.f a a f (i : Int) = some (.inr ()) := by
  intro f
  induction f with
  | zero => intro i h hi; omega
  | succ f ih =>
    intro i h hi
    rw [laws.eqPutS.l0.f]
    by_cases c : i < a.length
    · have e1 : w64 ((i : Int) + 1) = ((i + 1 : Nat) : Int) := wsucc (by omega)
      simp only [e1]
      exact br_d (by omega) (ck_t (by omega) (ck_t (by omega) (bind_t (eqPut_self _ _) (br_t rfl (ih (i + 1) (by omega) (by omega))))))
    · exact br_n (by omega) rfl
theorem eqPutS_self (K : Nat) (hK : 10000000000000 ≤ K) (a : List (Int × ByteArray)) (hl : a.length ≤ 1000000000000) : laws.eqPutS.f K a a = some true := by
  unfold laws.eqPutS.f
  exact br_f (by simp) (bind_t (eqPutS_l0 a (by omega) K 0 (by omega) (by omega)) rfl)
theorem nat_tmod (n m : Nat) : ((n : Int).tmod (m : Int)) = ((n % m : Nat) : Int) := (Int.ofNat_tmod n m).symm
theorem nat_tdiv (n m : Nat) : ((n : Int).tdiv (m : Int)) = ((n / m : Nat) : Int) := (Int.ofNat_tdiv n m).symm
theorem impl_in_eq (n lo hi : Int) : impl.in_.f n lo hi = some (decide (lo ≤ n ∧ n ≤ hi)) := by
  unfold impl.in_.f
  by_cases c : n ≥ lo
  · refine br_d c ?_
    by_cases d : n ≤ hi
    · rw [decide_eq_true d, decide_eq_true ⟨c, d⟩]
    · rw [decide_eq_false d, decide_eq_false (fun h => d h.2)]
  · refine br_n c ?_
    rw [decide_eq_false (fun h => c h.1)]
theorem spec_l1In_eq (n lo hi : Int) : spec.l1In.f n lo hi = some (decide (lo ≤ n ∧ n ≤ hi)) := by
  unfold spec.l1In.f
  by_cases c : n ≥ lo
  · refine br_d c ?_
    by_cases d : n ≤ hi
    · rw [decide_eq_true d, decide_eq_true ⟨c, d⟩]
    · rw [decide_eq_false d, decide_eq_false (fun h => d h.2)]
  · refine br_n c ?_
    rw [decide_eq_false (fun h => c h.1)]
theorem spec_PutNum_l0 : ∀ (f q n : Nat) (acc : List Int), n < 128 ^ (f + 1) → f ≤ 4 → f < q → acc.length + f ≤ 1000 →
    ∃ m a', spec.PutNum.l0.f q (n : Int) acc = some (m, a') ∧ a' ++ [IntKind.u8.wrap m] = acc ++ putF f n ∧ a'.length ≤ acc.length + f := by
  intro f
  induction f with
  | zero =>
    intro q n acc hn _ hq ha
    obtain ⟨q, rfl⟩ := Nat.exists_eq_add_one_of_ne_zero (by omega : q ≠ 0)
    have hn : n < 128 := hn
    refine ⟨n, acc, ?_, ?_, by omega⟩
    · rw [spec.PutNum.l0.f]; exact br_n (by omega) rfl
    · rw [wrap_u8 (by omega) (by omega)]; rfl
  | succ f ih =>
    intro q n acc hn hf hq ha
    obtain ⟨q, rfl⟩ := Nat.exists_eq_add_one_of_ne_zero (by omega : q ≠ 0)
    have hp : 128 ^ (f + 1 + 1) ≤ 128 ^ 5 := Nat.pow_le_pow_right (by decide) (by omega)
    rw [spec.PutNum.l0.f]
    by_cases c : n > 127
    · have e1 : (n : Int).tmod 128 = ((n % 128 : Nat) : Int) := nat_tmod n 128
      have e2 : (n : Int).tdiv 128 = ((n / 128 : Nat) : Int) := nat_tdiv n 128
      have e3 : w64 (((n % 128 : Nat) : Int) + 128) = ((n % 128 + 128 : Nat) : Int) := by rw [w64_id (by omega) (by omega)]; omega
      have e4 : w64 ((n / 128 : Nat) : Int) = ((n / 128 : Nat) : Int) := w64_id (by omega) (by omega)
      have e5 : IntKind.u8.wrap ((n % 128 + 128 : Nat) : Int) = ((n % 128 + 128 : Nat) : Int) := wrap_u8 (by omega) (by omega)
      simp only [e1, e2, e3, e4, e5]
      obtain ⟨m, a', h1, h2, h3⟩ := ih q (n / 128) (acc ++ [((n % 128 + 128 : Nat) : Int)]) (Nat.div_lt_of_lt_mul (by rw [Nat.pow_succ, Nat.mul_comm] at hn; exact hn)) (by omega) (by omega) (by simp; omega)
      refine ⟨m, a', br_d (by omega) (ck_t (by simp; omega) h1), ?_, by simp at h3; omega⟩
      rw [h2, putF, if_pos c, List.append_assoc]; rfl
    · refine ⟨n, acc, br_n (by omega) rfl, ?_, by omega⟩
      rw [wrap_u8 (by omega) (by omega), putF, if_neg c]
theorem spec_PutNum_eq (K : Nat) (hK : 10000000000000 ≤ K) (n : Int) : spec.PutNum.f K n = some (putI n) := by
  unfold spec.PutNum.f putI
  refine bind_t (spec_l1In_eq n 0 1000000000) ?_
  by_cases c : 0 ≤ n ∧ n ≤ 1000000000
  · rw [if_pos c]
    obtain ⟨m, rfl⟩ := Int.eq_ofNat_of_zero_le c.1
    obtain ⟨x, a', h1, h2, h3⟩ := spec_PutNum_l0 4 K m [] (by omega) (by omega) (by omega) (by simp)
    refine br_d c (bind_t h1 (ck_t (by simp at h3 ⊢; omega) ?_))
    rw [h2]; rfl
  · rw [if_neg c]
    exact br_n c rfl
theorem impl_PutNum_l0 : ∀ (f q n : Nat) (acc : List Int), n < 128 ^ (f + 1) → f ≤ 4 → f < q → acc.length + f ≤ 1000 →
    ∃ m a', impl.PutNum.l0.f q (n : Int) acc = some (m, a') ∧ a' ++ [IntKind.u8.wrap m] = acc ++ putF f n ∧ a'.length ≤ acc.length + f := by
  intro f
  induction f with
  | zero =>
    intro q n acc hn _ hq ha
    obtain ⟨q, rfl⟩ := Nat.exists_eq_add_one_of_ne_zero (by omega : q ≠ 0)
    have hn : n < 128 := hn
    refine ⟨n, acc, ?_, ?_, by omega⟩
    · rw [impl.PutNum.l0.f]; exact br_n (by omega) rfl
    · rw [wrap_u8 (by omega) (by omega)]; rfl
  | succ f ih =>
    intro q n acc hn hf hq ha
    obtain ⟨q, rfl⟩ := Nat.exists_eq_add_one_of_ne_zero (by omega : q ≠ 0)
    have hp : 128 ^ (f + 1 + 1) ≤ 128 ^ 5 := Nat.pow_le_pow_right (by decide) (by omega)
    rw [impl.PutNum.l0.f]
    by_cases c : n > 127
    · have e1 : bits2 .i64 (· &&& ·) (n : Int) 127 = ((n % 128 : Nat) : Int) := by rw [and127 (by omega) (by omega)]; omega
      have e2 : (n : Int).fdiv (2 ^ 7) = ((n / 128 : Nat) : Int) := by rw [Int.fdiv_eq_ediv_of_nonneg _ (by decide)]; rfl
      have e3 : bits2 .i64 (· ||| ·) ((n % 128 : Nat) : Int) 128 = ((n % 128 + 128 : Nat) : Int) := by rw [or128 (by omega) (by omega)]; omega
      have e5 : IntKind.u8.wrap ((n % 128 + 128 : Nat) : Int) = ((n % 128 + 128 : Nat) : Int) := wrap_u8 (by omega) (by omega)
      simp only [e1, e2, e3, e5]
      obtain ⟨m, a', h1, h2, h3⟩ := ih q (n / 128) (acc ++ [((n % 128 + 128 : Nat) : Int)]) (Nat.div_lt_of_lt_mul (by rw [Nat.pow_succ, Nat.mul_comm] at hn; exact hn)) (by omega) (by omega) (by simp; omega)
      refine ⟨m, a', br_d (by omega) (ck_t (by simp; omega) h1), ?_, by simp at h3; omega⟩
      rw [h2, putF, if_pos c, List.append_assoc]; rfl
    · refine ⟨n, acc, br_n (by omega) rfl, ?_, by omega⟩
      rw [wrap_u8 (by omega) (by omega), putF, if_neg c]
theorem impl_PutNum_eq (K : Nat) (hK : 10000000000000 ≤ K) (n : Int) : impl.PutNum.f K n = some (putI n) := by
  unfold impl.PutNum.f putI
  refine bind_t (impl_in_eq n 0 1000000000) ?_
  by_cases c : 0 ≤ n ∧ n ≤ 1000000000
  · rw [if_pos c]
    obtain ⟨m, rfl⟩ := Int.eq_ofNat_of_zero_le c.1
    obtain ⟨x, a', h1, h2, h3⟩ := impl_PutNum_l0 4 K m [] (by omega) (by omega) (by omega) (by simp)
    refine br_d c (bind_t h1 (ck_t (by simp at h3 ⊢; omega) ?_))
    rw [h2]; rfl
  · rw [if_neg c]
    exact br_n c rfl
theorem spec_PutText_eq (K : Nat) (hK : 10000000000000 ≤ K) (s : ByteArray) : spec.PutText.f K s = some (if s.size ≤ 400 then putI s.size ++ bytesL s else []) := by
  unfold spec.PutText.f
  by_cases c : s.size ≤ 400
  · rw [if_pos c]
    refine br_n (by omega) (bind_t (spec_PutNum_eq K hK _) (ck_t ?_ rfl))
    have := putI_length s.size
    rw [List.length_append, bytesL_len]
    omega
  · rw [if_neg c]
    exact br_d (by omega) rfl
theorem impl_PutText_eq (K : Nat) (hK : 10000000000000 ≤ K) (s : ByteArray) : impl.PutText.f K s = some (if s.size ≤ 400 then putI s.size ++ bytesL s else []) := by
  unfold impl.PutText.f
  by_cases c : s.size ≤ 400
  · rw [if_pos c]
    refine br_n (by omega) (bind_t (impl_PutNum_eq K hK _) (ck_t ?_ rfl))
    have := putI_length s.size
    rw [List.length_append, bytesL_len]
    omega
  · rw [if_neg c]
    exact br_d (by omega) rfl
/-! sums -/
theorem spec_Sum_l0 (b : List Int) (hb : Bytes b) (hl : b.length ≤ 1000000000000) : ∀ (f i : Nat) (n : Int), b.length < i + f → i ≤ b.length → 0 ≤ n → n < 1000003 → spec.Sum.l0.f b f n (i : Int) = some (sumF n (b.drop i)) := by
  intro f
  induction f with
  | zero => intro i n h hi; omega
  | succ f ih =>
    intro i n h hi h0 h1
    rw [spec.Sum.l0.f]
    by_cases c : i < b.length
    · have hv := hb.at_ c
      have e1 : w64 ((i : Int) + 1) = ((i + 1 : Nat) : Int) := wsucc (by omega)
      have e2 : w64 (31 * n) = 31 * n := w64_id (by omega) (by omega)
      have e3 : w64 b[i] = b[i] := w64_id (by omega) (by omega)
      have e4 : w64 (31 * n + b[i]) = 31 * n + b[i] := w64_id (by omega) (by omega)
      have e5 : (31 * n + b[i]).tmod 1000003 = (31 * n + b[i]) % 1000003 := Int.tmod_eq_emod_of_nonneg (by omega)
      simp only [Int.toNat_natCast, getD_at c, e1, e2, e3, e4, e5]
      rw [List.drop_eq_getElem_cons c, sumF_cons]
      exact br_d (by omega) (ck_t (by omega) (ih (i + 1) _ (by omega) (by omega) (by omega) (by omega)))
    · rw [List.drop_of_length_le (by omega)]
      exact br_n (by omega) rfl
theorem spec_Sum_eq (K : Nat) (hK : 10000000000000 ≤ K) (b : List Int) (hb : Bytes b) (hl : b.length ≤ 1000000000000) : spec.Sum.f K b = some (sumF 7 b) := by
  unfold spec.Sum.f
  exact bind_t (spec_Sum_l0 b hb hl K 0 7 (by omega) (by omega) (by omega) (by omega)) rfl
/-! sums -/
theorem impl_Sum_l0 (b : List Int) (hb : Bytes b) (hl : b.length ≤ 1000000000000) : ∀ (f i : Nat) (n : Int), b.length < i + f → i ≤ b.length → 0 ≤ n → n < 1000003 → impl.Sum.l0.f b f n (i : Int) = some (sumF n (b.drop i)) := by
  intro f
  induction f with
  | zero => intro i n h hi; omega
  | succ f ih =>
    intro i n h hi h0 h1
    rw [impl.Sum.l0.f]
    by_cases c : i < b.length
    · have hv := hb.at_ c
      have e1 : w64 ((i : Int) + 1) = ((i + 1 : Nat) : Int) := wsucc (by omega)
      have e2 : w64 (31 * n) = 31 * n := w64_id (by omega) (by omega)
      have e3 : w64 b[i] = b[i] := w64_id (by omega) (by omega)
      have e4 : w64 (31 * n + b[i]) = 31 * n + b[i] := w64_id (by omega) (by omega)
      have e5 : (31 * n + b[i]).tmod 1000003 = (31 * n + b[i]) % 1000003 := Int.tmod_eq_emod_of_nonneg (by omega)
      simp only [Int.toNat_natCast, getD_at c, e1, e2, e3, e4, e5]
      rw [List.drop_eq_getElem_cons c, sumF_cons]
      exact br_d (by omega) (ck_t (by omega) (ih (i + 1) _ (by omega) (by omega) (by omega) (by omega)))
    · rw [List.drop_of_length_le (by omega)]
      exact br_n (by omega) rfl
theorem impl_Sum_eq (K : Nat) (hK : 10000000000000 ≤ K) (b : List Int) (hb : Bytes b) (hl : b.length ≤ 1000000000000) : impl.Sum.f K b = some (sumF 7 b) := by
  unfold impl.Sum.f
  exact bind_t (impl_Sum_l0 b hb hl K 0 7 (by omega) (by omega) (by omega) (by omega)) rfl
theorem spec_l7Batch_l1 (a : List (Int × ByteArray)) (hl : a.length ≤ 1000000000000) (i : Nat) (hi : i < a.length) : ∀ (f k : Nat), i < k + f → k ≤ i →
    spec.l7Batch.l1.f a (i : Int) f (k : Int) = some (if allF (fun k => sec a k ≠ sec a i) k i then .inr () else .inl ()) := by
  intro f
  induction f with
  | zero => intro k h hk; omega
  | succ f ih =>
    intro k h hk
    rw [spec.l7Batch.l1.f]
    by_cases c : k < i
    · have e1 : w64 ((k : Int) + 1) = ((k + 1 : Nat) : Int) := wsucc (by omega)
      simp only [Int.toNat_natCast, e1]
      by_cases d : sec a k = sec a i
      · rw [if_neg (fun g => (show sec a k ≠ sec a i from ((allF_step c).1 g).1) d)]
        exact br_d (by omega) (ck_t (by omega) (ck_t (by omega) (ck_t (by omega) (ck_t (by omega) (br_t (beq_iff_eq.2 d) rfl)))))
      · have e : (if allF (fun k => sec a k ≠ sec a i) k i then (.inr () : Unit ⊕ Unit) else .inl ()) = if allF (fun k => sec a k ≠ sec a i) (k + 1) i then .inr () else .inl () := by
          exact if_iff ((allF_step c).trans ⟨fun g => g.2, fun g => ⟨d, g⟩⟩) _ _
        rw [e]
        exact br_d (by omega) (ck_t (by omega) (ck_t (by omega) (ck_t (by omega) (ck_t (by omega) (br_f (beq_eq_false_iff_ne.2 d) (ih (k + 1) (by omega) (by omega)))))))
    · rw [if_pos (allF_end (by omega))]
      exact br_n (by omega) rfl
theorem spec_l7Batch_l0 (K : Nat) (hK : 10000000000000 ≤ K) (a : List (Int × ByteArray)) (hl : a.length ≤ 1000000000000) : ∀ (f i : Nat), a.length < i + f → i ≤ a.length →
    spec.l7Batch.l0.f K a f (i : Int) = some (if allF (putOk a) i a.length then .inr () else .inl ()) := by
  intro f
  induction f with
  | zero => intro i h hk; omega
  | succ f ih =>
    intro i h hi
    rw [spec.l7Batch.l0.f]
    by_cases c : i < a.length
    · have e1 : w64 ((i : Int) + 1) = ((i + 1 : Nat) : Int) := wsucc (by omega)
      simp only [Int.toNat_natCast, e1]
      by_cases d1 : 0 ≤ (a.getD i (0, noVal)).1 ∧ (a.getD i (0, noVal)).1 ≤ 23
      case neg =>
        rw [if_neg (fun g => d1 ⟨((allF_step c).1 g).1.1, ((allF_step c).1 g).1.2.1⟩)]
        exact br_d (by omega) (ck_t (by omega) (bind_t (spec_l1In_eq _ 0 23) (br_n d1 rfl)))
      by_cases d2 : (a.getD i (0, noVal)).2.size ≤ 400
      case neg =>
        rw [if_neg (fun g => d2 ((allF_step c).1 g).1.2.2.1)]
        exact br_d (by omega) (ck_t (by omega) (bind_t (spec_l1In_eq _ 0 23) (br_d d1 (br_d (by omega) rfl))))
      by_cases d3 : allF (fun k => sec a k ≠ sec a i) 0 i
      case neg =>
        rw [if_neg (fun g => d3 ((allF_step c).1 g).1.2.2.2)]
        have g := spec_l7Batch_l1 a hl i c K 0 (by omega) (by omega)
        rw [if_neg d3] at g
        exact br_d (by omega) (ck_t (by omega) (bind_t (spec_l1In_eq _ 0 23) (br_d d1 (br_n (by omega) (bind_t g rfl)))))
      have g := spec_l7Batch_l1 a hl i c K 0 (by omega) (by omega)
      rw [if_pos d3] at g
      have e : (if allF (putOk a) i a.length then (.inr () : Unit ⊕ Unit) else .inl ()) = if allF (putOk a) (i + 1) a.length then .inr () else .inl () :=
        if_iff ((allF_step c).trans ⟨fun g => g.2, fun g => ⟨⟨d1.1, d1.2, d2, d3⟩, g⟩⟩) _ _
      rw [e]
      exact br_d (by omega) (ck_t (by omega) (bind_t (spec_l1In_eq _ 0 23) (br_d d1 (br_n (by omega) (bind_t g (ih (i + 1) (by omega) (by omega)))))))
    · rw [if_pos (allF_end (by omega))]
      exact br_n (by omega) rfl
theorem spec_l7Batch_eq (K : Nat) (hK : 10000000000000 ≤ K) (a : List (Int × ByteArray)) (hl : a.length ≤ 1000000000000) : spec.l7Batch.f K a = some (decide (batchOk a)) := by
  unfold spec.l7Batch.f
  refine bind_t (spec_l7Batch_l0 K hK a hl K 0 (by omega) (by omega)) ?_
  by_cases d : allF (putOk a) 0 a.length
  · rw [if_pos d]
    simp only [Sum.elim_inr]
    congr 1
    exact decide_eq_decide.2 ⟨fun g => ⟨d, by omega⟩, fun g => by have := g.2; omega⟩
  · rw [if_neg d, decide_eq_false (p := batchOk a) (fun g => d g.1)]
    rfl
theorem impl_indexPut_l0 (a : List (Int × ByteArray)) (hl : a.length ≤ 1000000000000) (x : Int) (s : ByteArray) : ∀ (f k : Nat), a.length < k + f → k ≤ a.length →
    ∃ r, slices.IndexFunc_impl.Put_impl.Put.l0.f a x s f (k : Int) = some r ∧ ((allF (fun k => sec a k ≠ x) k a.length ∧ r = .inr ()) ∨ (¬ allF (fun k => sec a k ≠ x) k a.length ∧ ∃ j : Nat, r = .inl (j : Int))) := by
  intro f
  induction f with
  | zero => intro k h hk; omega
  | succ f ih =>
    intro k h hk
    rw [slices.IndexFunc_impl.Put_impl.Put.l0.f]
    by_cases c : k < a.length
    · have e1 : w64 ((k : Int) + 1) = ((k + 1 : Nat) : Int) := wsucc (by omega)
      simp only [Int.toNat_natCast, e1]
      by_cases d : sec a k = x
      · refine ⟨.inl (k : Int), br_d (by omega) (ck_t (by omega) (bind_t rfl (br_t (beq_iff_eq.2 d) rfl))), .inr ⟨fun g => (show sec a k ≠ x from ((allF_step c).1 g).1) d, k, rfl⟩⟩
      · obtain ⟨r, h1, h2⟩ := ih (k + 1) (by omega) (by omega)
        refine ⟨r, br_d (by omega) (ck_t (by omega) (bind_t rfl (br_f (beq_eq_false_iff_ne.2 d) h1))), ?_⟩
        rcases h2 with ⟨g, e⟩ | ⟨g, e⟩
        · exact .inl ⟨(allF_step c).2 ⟨d, g⟩, e⟩
        · exact .inr ⟨fun q => g ((allF_step c).1 q).2, e⟩
    · exact ⟨.inr (), br_n (by omega) rfl, .inl ⟨allF_end (by omega), rfl⟩⟩
theorem impl_containsPut_eq (K : Nat) (hK : 10000000000000 ≤ K) (a : List (Int × ByteArray)) (hl : a.length ≤ 1000000000000) (x : Int) (s : ByteArray) : slices.ContainsFunc_impl.Put_impl.Put.f K a x s = some (!decide (allF (fun k => sec a k ≠ x) 0 a.length)) := by
  unfold slices.ContainsFunc_impl.Put_impl.Put.f slices.IndexFunc_impl.Put_impl.Put.f
  obtain ⟨r, h1, h2⟩ := impl_indexPut_l0 a hl x s K 0 (by omega) (by omega)
  rcases h2 with ⟨g, rfl⟩ | ⟨g, j, rfl⟩
  · refine bind_t (bind_t h1 rfl) ?_
    rw [decide_eq_true g]; rfl
  · refine bind_t (bind_t h1 rfl) ?_
    rw [decide_eq_false g]
    congr 1
theorem sec_take (a : List (Int × ByteArray)) (i k : Nat) (h : k < i) (hi : i ≤ a.length) : sec ((a.drop 0).take i) k = sec a k := by
  unfold sec
  rw [List.drop_zero, List.getD_eq_getElem?_getD, List.getElem?_take, if_pos h, ← List.getD_eq_getElem?_getD]
theorem impl_isBatch_l0 (K : Nat) (hK : 10000000000000 ≤ K) (a : List (Int × ByteArray)) (hl : a.length ≤ 1000000000000) : ∀ (f i : Nat), a.length < i + f → i ≤ a.length →
    impl.isBatch.l0.f K a f (i : Int) = some (if allF (putOk a) i a.length then .inr () else .inl ()) := by
  intro f
  induction f with
  | zero => intro i h hk; omega
  | succ f ih =>
    intro i h hi
    rw [impl.isBatch.l0.f]
    by_cases c : i < a.length
    · have e1 : w64 ((i : Int) + 1) = ((i + 1 : Nat) : Int) := wsucc (by omega)
      simp only [Int.toNat_natCast, e1]
      have hwl : ((a.drop 0).take i).length = i := by simp; omega
      have cont := impl_containsPut_eq K hK ((a.drop 0).take i) (by omega) (sec a i) (dat a i)
      have hiff : allF (fun k => sec ((a.drop 0).take i) k ≠ sec a i) 0 ((a.drop 0).take i).length ↔ allF (fun k => sec a k ≠ sec a i) 0 i := by
        rw [hwl]
        refine ⟨fun g j h1 h2 => ?_, fun g j h1 h2 => ?_⟩
        · have := g j h1 h2
          show sec a j ≠ sec a i
          rw [← sec_take a i j h2 (by omega)]
          exact this
        · show sec ((a.drop 0).take i) j ≠ sec a i
          rw [sec_take a i j h2 (by omega)]
          exact g j h1 h2
      by_cases d1 : 0 ≤ (a.getD i (0, noVal)).1 ∧ (a.getD i (0, noVal)).1 ≤ 23
      case neg =>
        rw [if_neg (fun g => d1 ⟨((allF_step c).1 g).1.1, ((allF_step c).1 g).1.2.1⟩)]
        exact br_d (by omega) (ck_t (by omega) (bind_t (impl_in_eq _ 0 23) (br_n d1 rfl)))
      by_cases d2 : (a.getD i (0, noVal)).2.size ≤ 400
      case neg =>
        rw [if_neg (fun g => d2 ((allF_step c).1 g).1.2.2.1)]
        exact br_d (by omega) (ck_t (by omega) (bind_t (impl_in_eq _ 0 23) (br_d d1 (br_d (by omega) rfl))))
      by_cases d3 : allF (fun k => sec a k ≠ sec a i) 0 i
      case neg =>
        rw [if_neg (fun g => d3 ((allF_step c).1 g).1.2.2.2)]
        rw [decide_eq_false (p := allF _ 0 _) (fun g => d3 (hiff.1 g))] at cont
        exact br_d (by omega) (ck_t (by omega) (bind_t (impl_in_eq _ 0 23) (br_d d1 (br_n (by omega) (ck_t (by omega) (bind_t cont (ck_t (by omega) rfl)))))))
      rw [decide_eq_true (hiff.2 d3)] at cont
      have e : (if allF (putOk a) i a.length then (.inr () : Unit ⊕ Unit) else .inl ()) = if allF (putOk a) (i + 1) a.length then .inr () else .inl () :=
        if_iff ((allF_step c).trans ⟨fun g => g.2, fun g => ⟨⟨d1.1, d1.2, d2, d3⟩, g⟩⟩) _ _
      rw [e]
      exact br_d (by omega) (ck_t (by omega) (bind_t (impl_in_eq _ 0 23) (br_d d1 (br_n (by omega) (ck_t (by omega) (bind_t cont (ck_t (by omega) (ih (i + 1) (by omega) (by omega)))))))))
    · rw [if_pos (allF_end (by omega))]
      exact br_n (by omega) rfl
theorem impl_isBatch_eq (K : Nat) (hK : 10000000000000 ≤ K) (a : List (Int × ByteArray)) (hl : a.length ≤ 1000000000000) : impl.isBatch.f K a = some (decide (batchOk a)) := by
  unfold impl.isBatch.f
  refine bind_t (impl_isBatch_l0 K hK a hl K 0 (by omega) (by omega)) ?_
  by_cases d : allF (putOk a) 0 a.length
  · rw [if_pos d]
    simp only [Sum.elim_inr]
    congr 1
    exact decide_eq_decide.2 ⟨fun g => ⟨d, by omega⟩, fun g => by have := g.2; omega⟩
  · rw [if_neg d, decide_eq_false (p := batchOk a) (fun g => d g.1)]
    rfl
theorem spec_LogText_l0 (K : Nat) (hK : 10000000000000 ≤ K) (a : List (Int × ByteArray)) (hl : a.length ≤ 3) (ha : ∀ x ∈ a, x.2.size ≤ 400) : ∀ (f i : Nat) (v : List Int), a.length < i + f → i ≤ a.length → v.length ≤ 10 + 410 * i →
    spec.LogText.l0.f K a f v (i : Int) = some (v ++ (a.drop i).flatMap logE) := by
  intro f
  induction f with
  | zero => intro i v h hi; omega
  | succ f ih =>
    intro i v h hi hv
    rw [spec.LogText.l0.f]
    by_cases c : i < a.length
    · have e1 : w64 ((i : Int) + 1) = ((i + 1 : Nat) : Int) := wsucc (by omega)
      have hx := ha _ (List.getElem_mem c)
      have h1 := putI_length a[i].1
      have h2 := putI_length a[i].2.size
      have e2 : (v ++ putI a[i].1) ++ (putI a[i].2.size ++ bytesL a[i].2) = v ++ logE a[i] := by rw [List.append_assoc]; rfl
      have h3 := logE_len hx
      have hp := spec_PutText_eq K hK a[i].2
      rw [if_pos hx] at hp
      simp only [Int.toNat_natCast, getD_at c, e1]
      refine br_d (by omega) (ck_t (by omega) (bind_t (spec_PutNum_eq K hK _) (ck_t (by rw [List.length_append]; omega) (bind_t hp ?_))))
      rw [e2]
      refine ck_t (by rw [List.length_append]; omega) ?_
      rw [ih (i + 1) _ (by omega) (by omega) (by rw [List.length_append]; omega), List.drop_eq_getElem_cons c, List.flatMap_cons, List.append_assoc]
    · rw [List.drop_of_length_le (by omega)]
      exact br_n (by omega) (by simp)
theorem spec_LogText_eq (K : Nat) (hK : 10000000000000 ≤ K) (a : List (Int × ByteArray)) (hl : a.length ≤ 1000000000000) : spec.LogText.f K a = some (logT a) := by
  unfold spec.LogText.f logT
  refine bind_t (spec_l7Batch_eq K hK a hl) ?_
  by_cases c : batchOk a
  case neg =>
    rw [if_neg (fun g => c g.1)]
    exact br_n c rfl
  refine br_d c ?_
  by_cases c0 : a = []
  · rw [if_neg (fun g => g.2.1 c0), c0]
    rfl
  have hlen : a.length ≠ 0 := fun h => c0 (List.eq_nil_of_length_eq_zero h)
  have h3 := c.2
  have hall : ∀ x ∈ a, x.2.size ≤ 400 := fun x hx => (batch_all c x hx).2.2
  have hf := flat_len_le a hall
  have hp := putI_length (a.length : Int)
  have hL : (putI (a.length : Int) ++ a.flatMap logE) = logL a := rfl
  have hLl : (logL a).length ≤ 1300 := by rw [← hL, List.length_append]; omega
  have hp2 := putI_length (sumF 7 (logL a))
  have l0 := spec_LogText_l0 K hK a h3 hall K 0 (putI a.length) (by omega) (by omega) (by omega)
  rw [List.drop_zero, hL] at l0
  have hI : putI (sumF 7 (logL a)) ++ logL a = logI a := rfl
  refine br_f (beq_eq_false_iff_ne.2 (by omega)) (bind_t (spec_PutNum_eq K hK _) (bind_t l0 (bind_t (spec_Sum_eq K hK _ (logL_bytes a) (by omega)) (bind_t (spec_PutNum_eq K hK _) ?_))))
  rw [hI]
  refine ck_t (by rw [← hI, List.length_append]; omega) ?_
  by_cases c4 : (logI a).length ≤ 400
  · rw [if_pos ⟨c, c0, c4⟩]
    exact br_n (by omega) rfl
  · rw [if_neg (fun g => c4 g.2.2)]
    exact br_d (by omega) rfl
theorem impl_Grow_eq (n : Int) (h0 : 0 ≤ n) (h1 : n ≤ 70368744177664) : ∃ l, slices.Grow_byte_byte.f n = some (l, 0) := by
  unfold slices.Grow_byte_byte.f
  have e : w64 (n - 0) = n := by rw [w64_id (by omega) (by omega)]; omega
  rw [e]
  by_cases c : n > 0
  · exact ⟨_, br_n (by omega) (br_d c (ck_t (by omega) rfl))⟩
  · exact ⟨_, br_n (by omega) (br_n c rfl)⟩
theorem impl_Concat2_eq (a b : List Int) (h : a.length + b.length ≤ 70368744177664) : slices.Concat_byte_byte_1.f a b = some (a ++ b) := by
  unfold slices.Concat_byte_byte_1.f
  have e0 : w64 (0 + (a.length : Int)) = (a.length : Int) := by rw [w64_id (by omega) (by omega)]; omega
  have e1 : w64 ((a.length : Int) + (b.length : Int)) = ((a.length + b.length : Nat) : Int) := by rw [w64_id (by omega) (by omega)]; omega
  simp only [e0, e1]
  obtain ⟨l, hl⟩ := impl_Grow_eq ((a.length + b.length : Nat) : Int) (by omega) (by omega)
  refine ck_t (by decide) (br_n (by omega) (ck_t (by decide) (br_n (by omega) (bind_t hl ?_))))
  have : ((l.drop 0).take 0 : List Int) = [] := List.take_zero ..
  simp only [this, List.nil_append]
  exact ck_t (by omega) (ck_t (by omega) (ck_t (by rw [List.length_append]; omega) rfl))
theorem impl_Concat3_eq (a b c : List Int) (h : a.length + b.length + c.length ≤ 70368744177664) : slices.Concat_byte_byte.f a b c = some ((a ++ b) ++ c) := by
  unfold slices.Concat_byte_byte.f
  have e0 : w64 (0 + (a.length : Int)) = (a.length : Int) := by rw [w64_id (by omega) (by omega)]; omega
  have e1 : w64 ((a.length : Int) + (b.length : Int)) = ((a.length + b.length : Nat) : Int) := by rw [w64_id (by omega) (by omega)]; omega
  have e2 : w64 (((a.length + b.length : Nat) : Int) + (c.length : Int)) = ((a.length + b.length + c.length : Nat) : Int) := by rw [w64_id (by omega) (by omega)]; omega
  simp only [e0, e1, e2]
  obtain ⟨l, hl⟩ := impl_Grow_eq ((a.length + b.length + c.length : Nat) : Int) (by omega) (by omega)
  refine ck_t (by decide) (br_n (by omega) (ck_t (by decide) (br_n (by omega) (ck_t (by decide) (br_n (by omega) (bind_t hl ?_))))))
  have : ((l.drop 0).take 0 : List Int) = [] := List.take_zero ..
  simp only [this, List.nil_append]
  exact ck_t (by omega) (ck_t (by omega) (ck_t (by rw [List.length_append]; omega) (ck_t (by simp only [List.length_append]; omega) rfl)))
theorem impl_summed_eq (K : Nat) (hK : 10000000000000 ≤ K) (l : List Int) (hb : Bytes l) (hl : l.length ≤ 1000000) : impl.summed.f K l = some (ofBytes (summedI l)) := by
  unfold impl.summed.f
  have := putI_length (sumF 7 l)
  exact bind_t (impl_Sum_eq K hK l hb (by omega)) (bind_t (impl_PutNum_eq K hK _) (bind_t (impl_Concat2_eq _ _ (by omega)) rfl))
theorem impl_LogText_l0 (K : Nat) (hK : 10000000000000 ≤ K) (a : List (Int × ByteArray)) (hl : a.length ≤ 3) (ha : ∀ x ∈ a, x.2.size ≤ 400) : ∀ (f i : Nat) (v : List Int), a.length < i + f → i ≤ a.length → v.length ≤ 10 + 410 * i →
    impl.LogText.l0.f K a f v (i : Int) = some (v ++ (a.drop i).flatMap logE) := by
  intro f
  induction f with
  | zero => intro i v h hi; omega
  | succ f ih =>
    intro i v h hi hv
    rw [impl.LogText.l0.f]
    by_cases c : i < a.length
    · have e1 : w64 ((i : Int) + 1) = ((i + 1 : Nat) : Int) := wsucc (by omega)
      have hx := ha _ (List.getElem_mem c)
      have h1 := putI_length a[i].1
      have h2 := putI_length a[i].2.size
      have e2 : (v ++ putI a[i].1) ++ (putI a[i].2.size ++ bytesL a[i].2) = v ++ logE a[i] := by rw [List.append_assoc]; rfl
      have h3 := logE_len hx
      have h4 : (putI a[i].2.size ++ bytesL a[i].2).length ≤ 405 := by rw [List.length_append, bytesL_len]; omega
      have hp := impl_PutText_eq K hK a[i].2
      rw [if_pos hx] at hp
      simp only [Int.toNat_natCast, getD_at c, e1]
      refine br_d (by omega) (ck_t (by omega) (bind_t (impl_PutNum_eq K hK _) (bind_t hp (bind_t (impl_Concat3_eq _ _ _ (by omega)) ?_))))
      rw [e2, ih (i + 1) _ (by omega) (by omega) (by rw [List.length_append]; omega), List.drop_eq_getElem_cons c, List.flatMap_cons, List.append_assoc]
    · rw [List.drop_of_length_le (by omega)]
      exact br_n (by omega) (by simp)
theorem impl_LogText_eq (K : Nat) (hK : 10000000000000 ≤ K) (a : List (Int × ByteArray)) (hl : a.length ≤ 1000000000000) : impl.LogText.f K a = some (logT a) := by
  unfold impl.LogText.f logT
  refine bind_t (impl_isBatch_eq K hK a hl) ?_
  by_cases c : batchOk a
  case neg =>
    rw [if_neg (fun g => c g.1)]
    exact br_n c rfl
  refine br_d c ?_
  by_cases c0 : a = []
  · rw [if_neg (fun g => g.2.1 c0), c0]
    rfl
  have hlen : a.length ≠ 0 := fun h => c0 (List.eq_nil_of_length_eq_zero h)
  have h3 := c.2
  have hall : ∀ x ∈ a, x.2.size ≤ 400 := fun x hx => (batch_all c x hx).2.2
  have hf := flat_len_le a hall
  have hp := putI_length (a.length : Int)
  have hL : (putI (a.length : Int) ++ a.flatMap logE) = logL a := rfl
  have hLl : (logL a).length ≤ 1300 := by rw [← hL, List.length_append]; omega
  have l0 := impl_LogText_l0 K hK a h3 hall K 0 (putI a.length) (by omega) (by omega) (by omega)
  rw [List.drop_zero, hL] at l0
  have hI : summedI (logL a) = logI a := rfl
  refine br_f (beq_eq_false_iff_ne.2 (by omega)) (bind_t (impl_PutNum_eq K hK _) (bind_t l0 (bind_t (impl_summed_eq K hK _ (logL_bytes a) (by omega)) ?_)))
  rw [hI]
  have hs := ofBytes_size (logI a)
  by_cases c4 : (logI a).length ≤ 400
  · rw [if_pos ⟨c, c0, c4⟩]
    exact br_n (by omega) rfl
  · rw [if_neg (fun g => c4 g.2.2)]
    exact br_d (by omega) rfl
theorem FnExactLogText_pure (a : List (Int × ByteArray)) (hl : a.length ≤ maxLen) (hs : ∀ x ∈ a, (Lit.int .i64 x.1).wf = true ∧ x.2.size ≤ maxLen) : laws.FnExactLogText.f 10000000000000 a = some true := by
  unfold laws.FnExactLogText.f
  obtain ⟨r, h1, h2⟩ := szPutS_eq 10000000000000 (by decide) a hl (fun x hx => (hs x hx).2) 1048576 (by decide) (by decide)
  refine bind_t h1 ?_
  by_cases c : r < 0
  · exact br_d c rfl
  · have h3 := h2 (by omega)
    have ha : a.length ≤ 1000000000000 := by omega
    have ht := toPutS_eq 10000000000000 (by decide) a ha
    refine br_n c (bind_t ht ?_)
    simp only [win_all]
    refine bind_t (spec_LogText_eq _ (by decide) a ha) (ck_t (by omega) (bind_t ht ?_))
    simp only [win_all]
    refine bind_t (impl_LogText_eq _ (by decide) a ha) (ck_t (by omega) (br_t (strEq_self _) (bind_t ht ?_)))
    simp only [win_all]
    exact bind_t (eqPutS_self _ (by decide) a ha) (ck_t (by omega) (br_t rfl rfl))
end Go.Proofs.Ythneilmhnbboeaa.Pure
