/- The law FnNums, in plain words: its function answers true. -/
import Derived.Test.YthneilmhnbboeaaGFnNums
import Derived.Test.YthneilmhnbboeaaDenMod
import Derived.KernelRfl
namespace Go.Proofs.Ythneilmhnbboeaa.Pure
open Go Go.RowKit Go.Proofs.Ythneilmhnbboeaa.Den Go.Proofs.Ythneilmhnbboeaa.GFnNums
set_option linter.unusedSimpArgs false
set_option linter.unusedVariables false
theorem nat_tmod (n m : Nat) : ((n : Int).tmod (m : Int)) = ((n % m : Nat) : Int) := (Int.ofNat_tmod n m).symm
theorem nat_tdiv (n m : Nat) : ((n : Int).tdiv (m : Int)) = ((n / m : Nat) : Int) := (Int.ofNat_tdiv n m).symm
theorem impl_in_eq (n lo hi : Int) : impl.in_.f n lo hi = some (decide (lo ≤ n ∧ n ≤ hi)) := by
  unfold impl.in_.f
  by_cases c : n ≥ lo
  · refine br_d c ?_
    by_cases d : n ≤ hi
    · rw [decide_eq_true d, decide_eq_true ⟨c, d⟩]
    · rw [decide_eq_false d, decide_eq_false (fun h => d h.2)]
  · refine br_n c ?_
    rw [decide_eq_false (fun h => c h.1)]
theorem spec_l1In_eq (n lo hi : Int) : spec.l1In.f n lo hi = some (decide (lo ≤ n ∧ n ≤ hi)) := by
  unfold spec.l1In.f
  by_cases c : n ≥ lo
  · refine br_d c ?_
    by_cases d : n ≤ hi
    · rw [decide_eq_true d, decide_eq_true ⟨c, d⟩]
    · rw [decide_eq_false d, decide_eq_false (fun h => d h.2)]
  · refine br_n c ?_
    rw [decide_eq_false (fun h => c h.1)]
/-- What a search for a number answers, inside the loop or behind it. -/
def numOut : ((Int × Int × Bool) ⊕ Unit) → Int × Int × Bool := Sum.elim id (fun _ => (0, 0, false))
theorem spec_GetNum_l0 (b : List Int) (hb : Bytes b) (hl : b.length ≤ 1000000000000) (a : Nat) (ha : a < 9223372036854775808) : ∀ (f k q : Nat) (n : Int), f + k = 5 → f < q → 0 ≤ n → n < 128 ^ k →
    ∃ x, spec.GetNum.l0.f b (a : Int) q n (k : Int) = some x ∧ numOut x = getR (a : Int) (getF f k n (b.drop (a + k))) := by
  intro f
  induction f with
  | zero =>
    intro k q n hk hq h0 h1
    obtain ⟨q, rfl⟩ := Nat.exists_eq_add_one_of_ne_zero (by omega : q ≠ 0)
    refine ⟨.inr (), ?_, rfl⟩
    rw [spec.GetNum.l0.f]
    exact br_n (by omega) rfl
  | succ f ih =>
    intro k q n hk hq h0 h1
    obtain ⟨q, rfl⟩ := Nat.exists_eq_add_one_of_ne_zero (by omega : q ≠ 0)
    rw [spec.GetNum.l0.f]
    by_cases h : a + k < b.length
    · have hv := hb.at_ h
      have hp : (0 : Int) < 128 ^ k := Int.pow_pos (by decide)
      have hp4 : (128 : Int) ^ k ≤ 128 ^ 4 := by
        have : (128 : Nat) ^ k ≤ 128 ^ 4 := Nat.pow_le_pow_right (by decide) (by omega)
        exact_mod_cast this
      have hm : b[a + k] % 128 * 128 ^ k ≤ 127 * 128 ^ k := Int.mul_le_mul_of_nonneg_right (by omega) (by omega)
      have hm0 : 0 ≤ b[a + k] % 128 * 128 ^ k := Int.mul_nonneg (by omega) (by omega)
      rw [List.drop_eq_getElem_cons h]
      have e1 : w64 ((a : Int) + k) = ((a + k : Nat) : Int) := by rw [w64_id (by omega) (by omega)]; omega
      have e2 : w64 ((b.length : Int) - k) = (b.length : Int) - k := w64_id (by omega) (by omega)
      have e3 : w64 (7 * (k : Int)) = 7 * (k : Int) := w64_id (by omega) (by omega)
      have e4 : b.getD (a + k) 0 = b[a + k] := getD_at h 0
      have e5 : w64 b[a + k] = b[a + k] := w64_id (by omega) (by omega)
      have e6 : b[a + k].tmod 128 = b[a + k] % 128 := Int.tmod_eq_emod_of_nonneg (by omega)
      have e7 := or_shl k (by omega) h0 h1 (d := b[a + k] % 128) (by omega) (by omega)
      have e8 : w64 (((a + k : Nat) : Int) + 1) = (a : Int) + ((k : Int) + 1) := by rw [w64_id (by omega) (by omega)]; omega
      have e9 : w64 ((k : Int) + 1) = ((k + 1 : Nat) : Int) := wsucc (by omega)
      simp only [e1, e2, e3, Int.toNat_natCast, e4, e5, e6, e7, e8, e9]
      unfold getF
      by_cases c : b[a + k] ≥ 128
      · rw [if_pos c]
        have hlt : n + b[a + k] % 128 * 128 ^ k < 128 ^ (k + 1) := by
          rw [Int.pow_succ]
          omega
        obtain ⟨x, hx, hr⟩ := ih (k + 1) q (n + b[a + k] % 128 * 128 ^ k) (by omega) (by omega) (by omega) hlt
        exact ⟨x, br_d (by omega) (br_n (by omega) (br_n (by omega) (ck_t (by omega) (ck_t (by omega) (ck_t (by omega) (br_n (by omega) hx)))))), hr⟩
      · rw [if_neg c]
        have pre : ∀ {X Y : Option ((Int × Int × Bool) ⊕ Unit)} {r}, X = r → cond (decide ((k : Int) < 5)) (cond (decide ((a : Int) < 0)) (some (.inl (0, 0, false))) (cond (decide ((a : Int) ≥ (b.length : Int) - k)) (some (.inl (0, 0, false))) (ck (0 ≤ ((a + k : Nat) : Int)) (ck (((a + k : Nat) : Int) < (b.length : Int)) (ck (0 ≤ 7 * (k : Int)) (cond (decide (b[a + k] < 128)) X Y)))))) (some (.inr ())) = r := fun hx =>
          br_d (by omega) (br_n (by omega) (br_n (by omega) (ck_t (by omega) (ck_t (by omega) (ck_t (by omega) (br_d (by omega) hx))))))
        by_cases c0 : b[a + k] = 0 ∧ k > 0
        · rw [if_pos c0]
          exact ⟨.inl (0, 0, false), pre (br_d (by omega) (br_t (by rw [c0.1]; rfl) rfl)), rfl⟩
        · rw [if_neg c0]
          by_cases cm : n + b[a + k] % 128 * 128 ^ k > 1000000000
          · rw [if_pos cm]
            by_cases ck0 : (k : Int) > 0
            · exact ⟨.inl (0, 0, false), pre (br_d ck0 (br_f (by rw [beq_eq_false_iff_ne]; intro h; exact c0 ⟨h, by omega⟩) (br_d cm rfl))), rfl⟩
            · exact ⟨.inl (0, 0, false), pre (br_n ck0 (br_d cm rfl)), rfl⟩
          · rw [if_neg cm]
            by_cases ck0 : (k : Int) > 0
            · exact ⟨.inl (_, _, true), pre (br_d ck0 (br_f (by rw [beq_eq_false_iff_ne]; intro h; exact c0 ⟨h, by omega⟩) (br_n cm rfl))), rfl⟩
            · exact ⟨.inl (_, _, true), pre (br_n ck0 (br_n cm rfl)), rfl⟩
    · rw [List.drop_of_length_le (by omega)]
      refine ⟨.inl (0, 0, false), br_d (by omega) (br_n (by omega) (br_d ?_ rfl)), rfl⟩
      rw [w64_id (by omega) (by omega)]
      omega
theorem spec_GetNum_eq (K : Nat) (hK : 10000000000000 ≤ K) (b : List Int) (at_ : Int) (hb : Bytes b) (hl : b.length ≤ 1000000000000) (ha : at_ < 9223372036854775808) (ha0 : -9223372036854775808 ≤ at_) : spec.GetNum.f K b at_ = some (getI b at_) := by
  unfold spec.GetNum.f
  obtain ⟨K, rfl⟩ := Nat.exists_eq_add_one_of_ne_zero (by omega : K ≠ 0)
  by_cases c : at_ < 0
  · refine bind_t (a := .inl (0, 0, false)) ?_ ?_
    · rw [spec.GetNum.l0.f]
      exact br_d (by decide) (br_d c rfl)
    · unfold getI
      rw [if_pos c]
      rfl
  · obtain ⟨a, rfl⟩ := Int.eq_ofNat_of_zero_le (by omega : 0 ≤ at_)
    obtain ⟨x, h1, h2⟩ := spec_GetNum_l0 b hb hl a (by omega) 5 0 (K + 1) 0 rfl (by omega) (by decide) (by decide)
    refine bind_t h1 ?_
    rw [getI_at]
    rw [show a + 0 = a from rfl] at h2
    rw [← h2]
    cases x <;> rfl
theorem impl_GetNum_l0 (b : List Int) (hb : Bytes b) (hl : b.length ≤ 1000000000000) (a : Nat) (ha : a ≤ b.length) : ∀ (f k q : Nat) (n : Int), f + k = 5 → f < q → 0 ≤ n → n < 128 ^ k →
    ∃ x, impl.GetNum.l0.f b (a : Int) q n (k : Int) = some x ∧ numOut x = getR (a : Int) (getF f k n (b.drop (a + k))) := by
  intro f
  induction f with
  | zero =>
    intro k q n hk hq h0 h1
    obtain ⟨q, rfl⟩ := Nat.exists_eq_add_one_of_ne_zero (by omega : q ≠ 0)
    refine ⟨.inr (), ?_, rfl⟩
    rw [impl.GetNum.l0.f]
    exact br_n (by omega) rfl
  | succ f ih =>
    intro k q n hk hq h0 h1
    obtain ⟨q, rfl⟩ := Nat.exists_eq_add_one_of_ne_zero (by omega : q ≠ 0)
    rw [impl.GetNum.l0.f]
    have e1 : w64 ((a : Int) + k) = ((a + k : Nat) : Int) := by rw [w64_id (by omega) (by omega)]; omega
    by_cases h : a + k < b.length
    · have hv := hb.at_ h
      have hp : (0 : Int) < 128 ^ k := Int.pow_pos (by decide)
      have hp4 : (128 : Int) ^ k ≤ 128 ^ 4 := by
        have : (128 : Nat) ^ k ≤ 128 ^ 4 := Nat.pow_le_pow_right (by decide) (by omega)
        exact_mod_cast this
      have hm : b[a + k] % 128 * 128 ^ k ≤ 127 * 128 ^ k := Int.mul_le_mul_of_nonneg_right (by omega) (by omega)
      have hm0 : 0 ≤ b[a + k] % 128 * 128 ^ k := Int.mul_nonneg (by omega) (by omega)
      rw [List.drop_eq_getElem_cons h]
      have e3 : w64 (7 * (k : Int)) = 7 * (k : Int) := w64_id (by omega) (by omega)
      have e4 : b.getD (a + k) 0 = b[a + k] := getD_at h 0
      have e5 : w64 b[a + k] = b[a + k] := w64_id (by omega) (by omega)
      have e6 : bits2 .i64 (· &&& ·) b[a + k] 127 = b[a + k] % 128 := and127 (by omega) (by omega)
      have e7 := or_shl k (by omega) h0 h1 (d := b[a + k] % 128) (by omega) (by omega)
      have e8 : w64 (((a + k : Nat) : Int) + 1) = (a : Int) + ((k : Int) + 1) := by rw [w64_id (by omega) (by omega)]; omega
      have e9 : w64 ((k : Int) + 1) = ((k + 1 : Nat) : Int) := wsucc (by omega)
      simp only [e1, e3, Int.toNat_natCast, e4, e5, e6, e7, e8, e9]
      unfold getF
      by_cases c : b[a + k] ≥ 128
      · rw [if_pos c]
        have hlt : n + b[a + k] % 128 * 128 ^ k < 128 ^ (k + 1) := by
          rw [Int.pow_succ]
          omega
        obtain ⟨x, hx, hr⟩ := ih (k + 1) q (n + b[a + k] % 128 * 128 ^ k) (by omega) (by omega) (by omega) hlt
        exact ⟨x, br_d (by omega) (br_d (by omega) (ck_t (by omega) (ck_t (by omega) (br_d (by omega) hx)))), hr⟩
      · rw [if_neg c]
        by_cases c0 : b[a + k] = 0 ∧ k > 0
        · rw [if_pos c0]
          exact ⟨.inl (0, 0, false), br_d (by omega) (br_d (by omega) (ck_t (by omega) (ck_t (by omega) (br_n (by omega) (br_t (by rw [c0.1]; rfl) (br_d (by omega) rfl)))))), rfl⟩
        · rw [if_neg c0]
          by_cases cz : b[a + k] = 0
          · have ck0 : ¬ ((k : Int) > 0) := fun h => c0 ⟨cz, by omega⟩
            by_cases cm : n + b[a + k] % 128 * 128 ^ k > 1000000000
            · rw [if_pos cm]
              exact ⟨.inl (0, 0, false), br_d (by omega) (br_d (by omega) (ck_t (by omega) (ck_t (by omega) (br_n (by omega) (br_t (by rw [cz]; rfl) (br_n ck0 (br_d cm rfl))))))), rfl⟩
            · rw [if_neg cm]
              exact ⟨.inl (_, _, true), br_d (by omega) (br_d (by omega) (ck_t (by omega) (ck_t (by omega) (br_n (by omega) (br_t (by rw [cz]; rfl) (br_n ck0 (br_n cm rfl))))))), rfl⟩
          · by_cases cm : n + b[a + k] % 128 * 128 ^ k > 1000000000
            · rw [if_pos cm]
              exact ⟨.inl (0, 0, false), br_d (by omega) (br_d (by omega) (ck_t (by omega) (ck_t (by omega) (br_n (by omega) (br_f (beq_eq_false_iff_ne.2 cz) (br_d cm rfl)))))), rfl⟩
            · rw [if_neg cm]
              exact ⟨.inl (_, _, true), br_d (by omega) (br_d (by omega) (ck_t (by omega) (ck_t (by omega) (br_n (by omega) (br_f (beq_eq_false_iff_ne.2 cz) (br_n cm rfl)))))), rfl⟩
    · rw [List.drop_of_length_le (by omega)]
      simp only [e1]
      exact ⟨.inr (), br_d (by omega) (br_n (by omega) rfl), rfl⟩
theorem impl_GetNum_eq (K : Nat) (hK : 10000000000000 ≤ K) (b : List Int) (at_ : Int) (hb : Bytes b) (hl : b.length ≤ 1000000000000) (ha : at_ < 9223372036854775808) (ha0 : -9223372036854775808 ≤ at_) : impl.GetNum.f K b at_ = some (getI b at_) := by
  unfold impl.GetNum.f
  refine bind_t (impl_in_eq at_ 0 (b.length : Int)) ?_
  by_cases c : 0 ≤ at_ ∧ at_ ≤ b.length
  · refine br_d c ?_
    obtain ⟨a, rfl⟩ := Int.eq_ofNat_of_zero_le c.1
    obtain ⟨x, h1, h2⟩ := impl_GetNum_l0 b hb hl a (by omega) 5 0 K 0 rfl (by omega) (by decide) (by decide)
    refine bind_t h1 ?_
    rw [getI_at]
    rw [show a + 0 = a from rfl] at h2
    rw [← h2]
    cases x <;> rfl
  · refine br_n c ?_
    by_cases c0 : at_ < 0
    · unfold getI; rw [if_pos c0]
    · obtain ⟨a, rfl⟩ := Int.eq_ofNat_of_zero_le (by omega : 0 ≤ at_)
      rw [getI_at, List.drop_of_length_le (by omega)]; rfl
theorem spec_PutNum_l0 : ∀ (f q n : Nat) (acc : List Int), n < 128 ^ (f + 1) → f ≤ 4 → f < q → acc.length + f ≤ 1000 →
    ∃ m a', spec.PutNum.l0.f q (n : Int) acc = some (m, a') ∧ a' ++ [IntKind.u8.wrap m] = acc ++ putF f n ∧ a'.length ≤ acc.length + f := by
  intro f
  induction f with
  | zero =>
    intro q n acc hn _ hq ha
    obtain ⟨q, rfl⟩ := Nat.exists_eq_add_one_of_ne_zero (by omega : q ≠ 0)
    have hn : n < 128 := hn
    refine ⟨n, acc, ?_, ?_, by omega⟩
    · rw [spec.PutNum.l0.f]; exact br_n (by omega) rfl
    · rw [wrap_u8 (by omega) (by omega)]; rfl
  | succ f ih =>
    intro q n acc hn hf hq ha
    obtain ⟨q, rfl⟩ := Nat.exists_eq_add_one_of_ne_zero (by omega : q ≠ 0)
    have hp : 128 ^ (f + 1 + 1) ≤ 128 ^ 5 := Nat.pow_le_pow_right (by decide) (by omega)
    rw [spec.PutNum.l0.f]
    by_cases c : n > 127
    · have e1 : (n : Int).tmod 128 = ((n % 128 : Nat) : Int) := nat_tmod n 128
      have e2 : (n : Int).tdiv 128 = ((n / 128 : Nat) : Int) := nat_tdiv n 128
      have e3 : w64 (((n % 128 : Nat) : Int) + 128) = ((n % 128 + 128 : Nat) : Int) := by rw [w64_id (by omega) (by omega)]; omega
      have e4 : w64 ((n / 128 : Nat) : Int) = ((n / 128 : Nat) : Int) := w64_id (by omega) (by omega)
      have e5 : IntKind.u8.wrap ((n % 128 + 128 : Nat) : Int) = ((n % 128 + 128 : Nat) : Int) := wrap_u8 (by omega) (by omega)
      simp only [e1, e2, e3, e4, e5]
      obtain ⟨m, a', h1, h2, h3⟩ := ih q (n / 128) (acc ++ [((n % 128 + 128 : Nat) : Int)]) (Nat.div_lt_of_lt_mul (by rw [Nat.pow_succ, Nat.mul_comm] at hn; exact hn)) (by omega) (by omega) (by simp; omega)
      refine ⟨m, a', br_d (by omega) (ck_t (by simp; omega) h1), ?_, by simp at h3; omega⟩
      rw [h2, putF, if_pos c, List.append_assoc]; rfl
    · refine ⟨n, acc, br_n (by omega) rfl, ?_, by omega⟩
      rw [wrap_u8 (by omega) (by omega), putF, if_neg c]
theorem spec_PutNum_eq (K : Nat) (hK : 10000000000000 ≤ K) (n : Int) : spec.PutNum.f K n = some (putI n) := by
  unfold spec.PutNum.f putI
  refine bind_t (spec_l1In_eq n 0 1000000000) ?_
  by_cases c : 0 ≤ n ∧ n ≤ 1000000000
  · rw [if_pos c]
    obtain ⟨m, rfl⟩ := Int.eq_ofNat_of_zero_le c.1
    obtain ⟨x, a', h1, h2, h3⟩ := spec_PutNum_l0 4 K m [] (by omega) (by omega) (by omega) (by simp)
    refine br_d c (bind_t h1 (ck_t (by simp at h3 ⊢; omega) ?_))
    rw [h2]; rfl
  · rw [if_neg c]
    exact br_n c rfl
theorem impl_PutNum_l0 : ∀ (f q n : Nat) (acc : List Int), n < 128 ^ (f + 1) → f ≤ 4 → f < q → acc.length + f ≤ 1000 →
    ∃ m a', impl.PutNum.l0.f q (n : Int) acc = some (m, a') ∧ a' ++ [IntKind.u8.wrap m] = acc ++ putF f n ∧ a'.length ≤ acc.length + f := by
  intro f
  induction f with
  | zero =>
    intro q n acc hn _ hq ha
    obtain ⟨q, rfl⟩ := Nat.exists_eq_add_one_of_ne_zero (by omega : q ≠ 0)
    have hn : n < 128 := hn
    refine ⟨n, acc, ?_, ?_, by omega⟩
    · rw [impl.PutNum.l0.f]; exact br_n (by omega) rfl
    · rw [wrap_u8 (by omega) (by omega)]; rfl
  | succ f ih =>
    intro q n acc hn hf hq ha
    obtain ⟨q, rfl⟩ := Nat.exists_eq_add_one_of_ne_zero (by omega : q ≠ 0)
    have hp : 128 ^ (f + 1 + 1) ≤ 128 ^ 5 := Nat.pow_le_pow_right (by decide) (by omega)
    rw [impl.PutNum.l0.f]
    by_cases c : n > 127
    · have e1 : bits2 .i64 (· &&& ·) (n : Int) 127 = ((n % 128 : Nat) : Int) := by rw [and127 (by omega) (by omega)]; omega
      have e2 : (n : Int).fdiv (2 ^ 7) = ((n / 128 : Nat) : Int) := by rw [Int.fdiv_eq_ediv_of_nonneg _ (by decide)]; rfl
      have e3 : bits2 .i64 (· ||| ·) ((n % 128 : Nat) : Int) 128 = ((n % 128 + 128 : Nat) : Int) := by rw [or128 (by omega) (by omega)]; omega
      have e5 : IntKind.u8.wrap ((n % 128 + 128 : Nat) : Int) = ((n % 128 + 128 : Nat) : Int) := wrap_u8 (by omega) (by omega)
      simp only [e1, e2, e3, e5]
      obtain ⟨m, a', h1, h2, h3⟩ := ih q (n / 128) (acc ++ [((n % 128 + 128 : Nat) : Int)]) (Nat.div_lt_of_lt_mul (by rw [Nat.pow_succ, Nat.mul_comm] at hn; exact hn)) (by omega) (by omega) (by simp; omega)
      refine ⟨m, a', br_d (by omega) (ck_t (by simp; omega) h1), ?_, by simp at h3; omega⟩
      rw [h2, putF, if_pos c, List.append_assoc]; rfl
    · refine ⟨n, acc, br_n (by omega) rfl, ?_, by omega⟩
      rw [wrap_u8 (by omega) (by omega), putF, if_neg c]
theorem impl_PutNum_eq (K : Nat) (hK : 10000000000000 ≤ K) (n : Int) : impl.PutNum.f K n = some (putI n) := by
  unfold impl.PutNum.f putI
  refine bind_t (impl_in_eq n 0 1000000000) ?_
  by_cases c : 0 ≤ n ∧ n ≤ 1000000000
  · rw [if_pos c]
    obtain ⟨m, rfl⟩ := Int.eq_ofNat_of_zero_le c.1
    obtain ⟨x, a', h1, h2, h3⟩ := impl_PutNum_l0 4 K m [] (by omega) (by omega) (by omega) (by simp)
    refine br_d c (bind_t h1 (ck_t (by simp at h3 ⊢; omega) ?_))
    rw [h2]; rfl
  · rw [if_neg c]
    exact br_n c rfl
theorem spec_PutText_eq (K : Nat) (hK : 10000000000000 ≤ K) (s : ByteArray) : spec.PutText.f K s = some (if s.size ≤ 400 then putI s.size ++ bytesL s else []) := by
  unfold spec.PutText.f
  by_cases c : s.size ≤ 400
  · rw [if_pos c]
    refine br_n (by omega) (bind_t (spec_PutNum_eq K hK _) (ck_t ?_ rfl))
    have := putI_length s.size
    rw [List.length_append, bytesL_len]
    omega
  · rw [if_neg c]
    exact br_d (by omega) rfl
theorem impl_PutText_eq (K : Nat) (hK : 10000000000000 ≤ K) (s : ByteArray) : impl.PutText.f K s = some (if s.size ≤ 400 then putI s.size ++ bytesL s else []) := by
  unfold impl.PutText.f
  by_cases c : s.size ≤ 400
  · rw [if_pos c]
    refine br_n (by omega) (bind_t (impl_PutNum_eq K hK _) (ck_t ?_ rfl))
    have := putI_length s.size
    rw [List.length_append, bytesL_len]
    omega
  · rw [if_neg c]
    exact br_d (by omega) rfl
theorem spec_GetText_eq (K : Nat) (hK : 10000000000000 ≤ K) (b : List Int) (at_ : Int) (hb : Bytes b) (hl : b.length ≤ 1000000000000) (ha : at_ < 9223372036854775808) (ha0 : -9223372036854775808 ≤ at_) : spec.GetText.f K b at_ = some (gettI b at_) := by
  unfold spec.GetText.f
  refine bind_t (spec_GetNum_eq K hK b at_ hb hl ha ha0) ?_
  unfold gettI
  by_cases h : (getI b at_).2.2 = true
  · obtain ⟨g1, g2, g3, g4, g5⟩ := getI_ok hb h
    have e1 : w64 ((b.length : Int) - (getI b at_).2.1) = (b.length : Int) - (getI b at_).2.1 := w64_id (by omega) (by omega)
    have e2 : w64 ((getI b at_).2.1 + (getI b at_).1) = (getI b at_).2.1 + (getI b at_).1 := w64_id (by omega) (by omega)
    have e3 : ((getI b at_).2.1 + (getI b at_).1).toNat - (getI b at_).2.1.toNat = (getI b at_).1.toNat := by omega
    simp only [e1, e2, e3]
    refine br_t h ?_
    by_cases c1 : (getI b at_).1 > 400
    · rw [if_neg (by omega)]
      exact br_d c1 rfl
    · refine br_n c1 ?_
      by_cases c2 : (getI b at_).1 > (b.length : Int) - (getI b at_).2.1
      · rw [if_neg (by omega)]
        exact br_d c2 rfl
      · rw [if_pos ⟨h, by omega, by omega⟩]
        exact br_n c2 (ck_t (by omega) (ck_t (by omega) (ck_t (by omega) (ck_t (by omega) rfl))))
  · rw [if_neg (fun hh => h hh.1)]
    exact br_f (by simpa using h) rfl
theorem impl_GetText_eq (K : Nat) (hK : 10000000000000 ≤ K) (b : List Int) (at_ : Int) (hb : Bytes b) (hl : b.length ≤ 1000000000000) (ha : at_ < 9223372036854775808) (ha0 : -9223372036854775808 ≤ at_) : impl.GetText.f K b at_ = some (gettI b at_) := by
  unfold impl.GetText.f
  refine bind_t (impl_GetNum_eq K hK b at_ hb hl ha ha0) ?_
  unfold gettI
  by_cases h : (getI b at_).2.2 = true
  · obtain ⟨g1, g2, g3, g4, g5⟩ := getI_ok hb h
    have e1 : w64 ((b.length : Int) - (getI b at_).2.1) = (b.length : Int) - (getI b at_).2.1 := w64_id (by omega) (by omega)
    have e2 : w64 ((getI b at_).2.1 + (getI b at_).1) = (getI b at_).2.1 + (getI b at_).1 := w64_id (by omega) (by omega)
    have e3 : ((getI b at_).2.1 + (getI b at_).1).toNat - (getI b at_).2.1.toNat = (getI b at_).1.toNat := by omega
    simp only [e1, e2, e3]
    refine br_t h ?_
    by_cases c1 : (getI b at_).1 > 400
    · rw [if_neg (by omega)]
      exact br_d c1 rfl
    · refine br_n c1 ?_
      by_cases c2 : (getI b at_).1 > (b.length : Int) - (getI b at_).2.1
      · rw [if_neg (by omega)]
        exact br_d c2 rfl
      · rw [if_pos ⟨h, by omega, by omega⟩]
        exact br_n c2 (ck_t (by omega) (ck_t (by omega) (ck_t (by omega) (ck_t (by omega) rfl))))
  · rw [if_neg (fun hh => h hh.1)]
    exact br_f (by simpa using h) rfl
/-! sums -/
theorem spec_Sum_l0 (b : List Int) (hb : Bytes b) (hl : b.length ≤ 1000000000000) : ∀ (f i : Nat) (n : Int), b.length < i + f → i ≤ b.length → 0 ≤ n → n < 1000003 → spec.Sum.l0.f b f n (i : Int) = some (sumF n (b.drop i)) := by
  intro f
  induction f with
  | zero => intro i n h hi; omega
  | succ f ih =>
    intro i n h hi h0 h1
    rw [spec.Sum.l0.f]
    by_cases c : i < b.length
    · have hv := hb.at_ c
      have e1 : w64 ((i : Int) + 1) = ((i + 1 : Nat) : Int) := wsucc (by omega)
      have e2 : w64 (31 * n) = 31 * n := w64_id (by omega) (by omega)
      have e3 : w64 b[i] = b[i] := w64_id (by omega) (by omega)
      have e4 : w64 (31 * n + b[i]) = 31 * n + b[i] := w64_id (by omega) (by omega)
      have e5 : (31 * n + b[i]).tmod 1000003 = (31 * n + b[i]) % 1000003 := Int.tmod_eq_emod_of_nonneg (by omega)
      simp only [Int.toNat_natCast, getD_at c, e1, e2, e3, e4, e5]
      rw [List.drop_eq_getElem_cons c, sumF_cons]
      exact br_d (by omega) (ck_t (by omega) (ih (i + 1) _ (by omega) (by omega) (by omega) (by omega)))
    · rw [List.drop_of_length_le (by omega)]
      exact br_n (by omega) rfl
theorem spec_Sum_eq (K : Nat) (hK : 10000000000000 ≤ K) (b : List Int) (hb : Bytes b) (hl : b.length ≤ 1000000000000) : spec.Sum.f K b = some (sumF 7 b) := by
  unfold spec.Sum.f
  exact bind_t (spec_Sum_l0 b hb hl K 0 7 (by omega) (by omega) (by omega) (by omega)) rfl
/-! sums -/
theorem impl_Sum_l0 (b : List Int) (hb : Bytes b) (hl : b.length ≤ 1000000000000) : ∀ (f i : Nat) (n : Int), b.length < i + f → i ≤ b.length → 0 ≤ n → n < 1000003 → impl.Sum.l0.f b f n (i : Int) = some (sumF n (b.drop i)) := by
  intro f
  induction f with
  | zero => intro i n h hi; omega
  | succ f ih =>
    intro i n h hi h0 h1
    rw [impl.Sum.l0.f]
    by_cases c : i < b.length
    · have hv := hb.at_ c
      have e1 : w64 ((i : Int) + 1) = ((i + 1 : Nat) : Int) := wsucc (by omega)
      have e2 : w64 (31 * n) = 31 * n := w64_id (by omega) (by omega)
      have e3 : w64 b[i] = b[i] := w64_id (by omega) (by omega)
      have e4 : w64 (31 * n + b[i]) = 31 * n + b[i] := w64_id (by omega) (by omega)
      have e5 : (31 * n + b[i]).tmod 1000003 = (31 * n + b[i]) % 1000003 := Int.tmod_eq_emod_of_nonneg (by omega)
      simp only [Int.toNat_natCast, getD_at c, e1, e2, e3, e4, e5]
      rw [List.drop_eq_getElem_cons c, sumF_cons]
      exact br_d (by omega) (ck_t (by omega) (ih (i + 1) _ (by omega) (by omega) (by omega) (by omega)))
    · rw [List.drop_of_length_le (by omega)]
      exact br_n (by omega) rfl
theorem impl_Sum_eq (K : Nat) (hK : 10000000000000 ≤ K) (b : List Int) (hb : Bytes b) (hl : b.length ≤ 1000000000000) : impl.Sum.f K b = some (sumF 7 b) := by
  unfold impl.Sum.f
  exact bind_t (impl_Sum_l0 b hb hl K 0 7 (by omega) (by omega) (by omega) (by omega)) rfl
theorem and255 (x : Int) : 0 ≤ bits2 .i64 (· &&& ·) x 255 ∧ bits2 .i64 (· &&& ·) x 255 < 256 := by
  unfold bits2
  have h : ((BitVec.ofInt 64 x) &&& (BitVec.ofInt 64 255)).toNat ≤ 255 := by
    rw [BitVec.toNat_and]
    exact Nat.le_trans Nat.and_le_right (by decide)
  have e : IntKind.i64.wrap (((BitVec.ofInt 64 x) &&& (BitVec.ofInt 64 255)).toNat : Int) = (((BitVec.ofInt 64 x) &&& (BitVec.ofInt 64 255)).toNat : Int) := wraps_i64 _ (by omega) (by omega)
  show 0 ≤ IntKind.i64.wrap (((BitVec.ofInt 64 x) &&& (BitVec.ofInt 64 255)).toNat : Int) ∧ IntKind.i64.wrap (((BitVec.ofInt 64 x) &&& (BitVec.ofInt 64 255)).toNat : Int) < 256
  rw [e]
  exact ⟨by omega, by omega⟩
theorem l1New_l0 (b : List Int) (hl : b.length ≤ 1000000000000) : ∀ (f i : Nat) (n : Int), b.length < i + f → i ≤ b.length → ∃ s, spec.l1New.l0.f b f n (i : Int) = some s := by
  intro f
  induction f with
  | zero => intro i n h hi; omega
  | succ f ih =>
    intro i n h hi
    rw [spec.l1New.l0.f]
    by_cases c : i < b.length
    · by_cases d : (i : Int) < 4000
      · obtain ⟨s, g⟩ := ih (i + 1) (bits2 .i64 (· &&& ·) (w64 ((w64 ((w64 (n * 131)) + (w64 (b.getD (i : Int).toNat 0)))) + 7)) 1073741823) (by omega) (by omega)
        refine ⟨s, br_d (by omega) (br_d d (ck_t (by omega) ?_))⟩
        rw [wsucc (by omega)]
        exact g
      · exact ⟨n, br_d (by omega) (br_n d rfl)⟩
    · exact ⟨n, br_n (by omega) rfl⟩
theorem l1New_ok (K : Nat) (hK : 10000000000000 ≤ K) (b : List Int) (hl : b.length ≤ 1000000000000) : ∃ s, spec.l1New.f K b = some s := by
  obtain ⟨s, h⟩ := l1New_l0 b hl K 0 (w64 (19109 + (b.length : Int))) (by omega) (by omega)
  exact ⟨s, bind_t h rfl⟩
theorem l1Byte_ok (b : List Int) (hl : b.length ≤ 1000000000000) (i s : Int) (hi : 0 ≤ i) : ∃ v j, spec.l1Byte.f b i s = some (v, j) ∧ 0 ≤ v ∧ v < 256 ∧ 0 ≤ j := by
  unfold spec.l1Byte.f
  by_cases c : i < (b.length : Int)
  · exact ⟨_, _, br_d c (ck_t hi rfl), (and255 _).1, (and255 _).2, by rw [w64_id (by omega) (by omega)]; omega⟩
  · exact ⟨_, _, br_n c rfl, (and255 _).1, (and255 _).2, hi⟩
theorem l1Below_ok (b : List Int) (hl : b.length ≤ 1000000000000) (i s n : Int) (hi : 0 ≤ i) : ∃ v j t, spec.l1Below.f b i s n = some (v, j, t) ∧ 0 ≤ j ∧ 0 ≤ v ∧ (0 < n → v < n) := by
  unfold spec.l1Below.f
  by_cases c : n ≤ 0
  · exact ⟨0, i, s, br_d c rfl, hi, Int.le_refl _, fun h => by omega⟩
  by_cases d : n ≤ 256
  · obtain ⟨v, j, h1, h2, h3, h4⟩ := l1Byte_ok b hl i s hi
    exact ⟨_, _, _, br_n c (br_d d (bind_t h1 (ck_t (by omega) rfl))), h4, Int.tmod_nonneg _ h2, fun h => Int.tmod_lt_of_pos _ h⟩
  · obtain ⟨v1, j1, a1, a2, a3, a4⟩ := l1Byte_ok b hl i s hi
    obtain ⟨v2, j2, b1, b2, b3, b4⟩ := l1Byte_ok b hl j1 (w64 ((w64 (s * 6364136223846793005)) + 1442695040888963407)) a4
    obtain ⟨v3, j3, c1, c2, c3, c4⟩ := l1Byte_ok b hl j2 (w64 ((w64 ((w64 ((w64 (s * 6364136223846793005)) + 1442695040888963407)) * 6364136223846793005)) + 1442695040888963407)) b4
    obtain ⟨v4, j4, d1, d2, d3, d4⟩ := l1Byte_ok b hl j3 (w64 ((w64 ((w64 ((w64 ((w64 ((w64 (s * 6364136223846793005)) + 1442695040888963407)) * 6364136223846793005)) + 1442695040888963407)) * 6364136223846793005)) + 1442695040888963407)) c4
    refine ⟨_, _, _, br_n c (br_n d (bind_t a1 (bind_t b1 (bind_t c1 (bind_t d1 (ck_t (by omega) rfl)))))), d4, Int.tmod_nonneg _ ?_, fun h => Int.tmod_lt_of_pos _ h⟩
    show 0 ≤ w64 (w64 (w64 (w64 (v1 * 16777216) + w64 (v2 * 65536)) + w64 (v3 * 256)) + v4)
    rw [w64_id (x := v1 * 16777216) (by omega) (by omega), w64_id (x := v2 * 65536) (by omega) (by omega), w64_id (x := v3 * 256) (by omega) (by omega), w64_id (x := v1 * 16777216 + v2 * 65536) (by omega) (by omega), w64_id (x := v1 * 16777216 + v2 * 65536 + v3 * 256) (by omega) (by omega), w64_id (by omega) (by omega)]
    omega
theorem l1Once_ok (b : List Int) (hl : b.length ≤ 1000000000000) (i s n : Int) (hi : 0 ≤ i) : ∃ c j t, spec.l1Once.f b i s n = some (c, j, t) ∧ 0 ≤ j := by
  obtain ⟨v, j, t, h1, h2, _⟩ := l1Below_ok b hl i s n hi
  exact ⟨_, j, t, bind_t h1 rfl, h2⟩
theorem l1PickInt_ok (b : List Int) (hl : b.length ≤ 1000000000000) (i s : Int) (L : List Int) (hi : 0 ≤ i) (h0 : 0 < L.length) : ∃ v j t, spec.l1PickInt.f b i s L = some (v, j, t) ∧ 0 ≤ j ∧ v ∈ L := by
  unfold spec.l1PickInt.f
  obtain ⟨v, j, t, h1, h2, h3, h4⟩ := l1Below_ok b hl i s L.length hi
  have h5 := h4 (by omega)
  refine ⟨_, j, t, bind_t h1 (ck_t h3 (ck_t h5 rfl)), h2, ?_⟩
  show L.getD v.toNat 0 ∈ L
  rw [getD_at (by omega)]
  exact List.getElem_mem _
theorem l1Pick_ok (b : List Int) (hl : b.length ≤ 1000000000000) (i s : Int) (L : List ByteArray) (hi : 0 ≤ i) (h0 : 0 < L.length) : ∃ v j t, spec.l1Pick.f b i s L = some (v, j, t) ∧ 0 ≤ j ∧ v ∈ L := by
  unfold spec.l1Pick.f
  obtain ⟨v, j, t, h1, h2, h3, h4⟩ := l1Below_ok b hl i s L.length hi
  have h5 := h4 (by omega)
  refine ⟨_, j, t, bind_t h1 (ck_t h3 (ck_t h5 rfl)), h2, ?_⟩
  show L.getD v.toNat noVal ∈ L
  rw [getD_at (by omega)]
  exact List.getElem_mem _
theorem l1DrawText_l0 (b : List Int) (hl : b.length ≤ 1000000000000) : ∀ (f : Nat) (i s : Int) (d : ByteArray), 0 ≤ i → 401 < d.size + f → d.size ≤ 401 → ∃ v j t, spec.l1DrawText.l0.f b f i s d = some (v, j, t) ∧ 0 ≤ j ∧ v.size ≤ 401 := by
  intro f
  induction f with
  | zero => intro i s d h1 h2 h3; omega
  | succ f ih =>
    intro i s d h1 h2 h3
    rw [spec.l1DrawText.l0.f]
    obtain ⟨v, j, t, g1, g2, g3, g4⟩ := l1Below_ok b hl i s 2 h1
    have g5 := g4 (by decide)
    have e : w64 (400 + v) = 400 + v := w64_id (by omega) (by omega)
    by_cases c : (d.size : Int) < 400 + v
    · have hz : (d ++ (ByteArray.mk #[113])).size = d.size + 1 := by rw [ByteArray.size_append]; rfl
      obtain ⟨v', j', t', k1, k2, k3⟩ := ih j t (d ++ (ByteArray.mk #[113])) g2 (by omega) (by omega)
      have hs : (ByteArray.mk #[113]).size = 1 := rfl
      exact ⟨v', j', t', bind_t g1 (br_d (by show (d.size : Int) < w64 (400 + v); omega) (ck_t (by rw [hs]; omega) k1)), k2, k3⟩
    · exact ⟨d, j, t, bind_t g1 (br_n (by show ¬ (d.size : Int) < w64 (400 + v); omega) rfl), g2, h3⟩
theorem l1DrawText_ok (K : Nat) (hK : 10000000000000 ≤ K) (b : List Int) (hl : b.length ≤ 1000000000000) (i s : Int) (hi : 0 ≤ i) : ∃ v j t, spec.l1DrawText.f K b i s = some (v, j, t) ∧ 0 ≤ j ∧ v.size ≤ 401 := by
  unfold spec.l1DrawText.f
  obtain ⟨c, j, t, h1, h2⟩ := l1Once_ok b hl i s 20 hi
  cases c with
  | true =>
    obtain ⟨v, j', t', k1, k2, k3⟩ := l1DrawText_l0 b hl K j t noVal h2 (by omega) (by decide)
    exact ⟨v, j', t', bind_t h1 (br_t rfl (bind_t k1 rfl)), k2, k3⟩
  | false =>
    obtain ⟨v, j', t', k1, k2, k3⟩ := l1Pick_ok b hl j t [noVal, (ByteArray.mk #[97]), (ByteArray.mk #[104, 101, 108, 108, 111]), (ByteArray.mk #[116, 119, 111, 32, 119, 111, 114, 100, 115]), (ByteArray.mk #[0, 255]), (ByteArray.mk #[100]), (ByteArray.mk #[102, 100, 97, 116, 97])] h2 (by decide)
    refine ⟨v, j', t', bind_t h1 (br_f rfl (bind_t k1 rfl)), k2, ?_⟩
    simp only [List.mem_cons, List.not_mem_nil, or_false] at k3
    rcases k3 with rfl | rfl | rfl | rfl | rfl | rfl | rfl <;> decide
theorem wrap8 (x : Int) : 0 ≤ IntKind.u8.wrap x ∧ IntKind.u8.wrap x < 256 := by
  rw [IntKind.wrap_u8]
  omega
theorem l1DrawBytes_l0 (K : Nat) (hK : 10000000000000 ≤ K) (b : List Int) (hl : b.length ≤ 1000000000000) : ∀ (f n : Nat) (i s : Int) (l : List Int), 0 ≤ i → 4 < n + f → n ≤ 4 → Bytes l → l.length ≤ 5 * n → ∃ j t v, spec.l1DrawBytes.l0.f K b f i s l (n : Int) = some (j, t, v) ∧ 0 ≤ j ∧ Bytes v ∧ v.length ≤ 20 := by
  intro f
  induction f with
  | zero => intro n i s l h1 h2 h3; omega
  | succ f ih =>
    intro n i s l h1 h2 h3 h4 h5
    rw [spec.l1DrawBytes.l0.f]
    obtain ⟨v, j, t, g1, g2, g3, g4⟩ := l1Below_ok b hl i s 5 h1
    have g5 := g4 (by decide)
    by_cases c : (n : Int) < v
    · obtain ⟨x, j', t', k1, k2, k3⟩ := l1PickInt_ok b hl j t [0, 1, 127, 128, 300, 1000000000] g2 (by decide)
      have hp := spec_PutNum_eq K hK x
      have hpl := putI_length x
      obtain ⟨j'', t'', v', q1, q2, q3, q4⟩ := ih (n + 1) j' t' (l ++ putI x) k2 (by omega) (by omega) (h4.append (putI_bytes x)) (by rw [List.length_append]; omega)
      refine ⟨j'', t'', v', bind_t g1 (br_d c (bind_t k1 (bind_t hp (ck_t (by rw [List.length_append]; omega) ?_)))), q2, q3, q4⟩
      rw [wsucc (by omega)]
      exact q1
    · exact ⟨j, t, l, bind_t g1 (br_n c rfl), g2, h4, by omega⟩
theorem l1DrawBytes_ok (K : Nat) (hK : 10000000000000 ≤ K) (b : List Int) (hl : b.length ≤ 1000000000000) (i s : Int) (hi : 0 ≤ i) : ∃ v j t, spec.l1DrawBytes.f K b i s = some (v, j, t) ∧ 0 ≤ j ∧ Bytes v ∧ v.length ≤ 22 := by
  unfold spec.l1DrawBytes.f
  obtain ⟨j, t, v, h1, h2, h3, h4⟩ := l1DrawBytes_l0 K hK b hl K 0 i s [] hi (by omega) (by omega) .nil (by simp)
  obtain ⟨c, j1, t1, g1, g2⟩ := l1Once_ok b hl j t 3 h2
  cases c with
  | false => exact ⟨v, j1, t1, bind_t h1 (bind_t g1 (br_f rfl rfl)), g2, h3, by omega⟩
  | true =>
    obtain ⟨x, j2, t2, k1, k2, k3⟩ := l1PickInt_ok b hl j1 t1 [0, 128, 255] g2 (by decide)
    obtain ⟨y, j3, t3, q1, q2, q3, q4⟩ := l1Below_ok b hl j2 t2 3 k2
    refine ⟨v ++ [IntKind.u8.wrap x, IntKind.u8.wrap y], j3, t3, bind_t h1 (bind_t g1 (br_t rfl (bind_t k1 (bind_t q1 (ck_t (by simp; omega) rfl))))), q2, ?_, by simp; omega⟩
    exact h3.append ((Bytes.one (wrap8 x).1 (wrap8 x).2).append (Bytes.one (wrap8 y).1 (wrap8 y).2))
theorem DrawPutNum_ok (K : Nat) (hK : 10000000000000 ≤ K) (b : List Int) (hl : b.length ≤ 1000000000000) : ∃ x, spec.DrawPutNum.f K b = some x := by
  unfold spec.DrawPutNum.f
  obtain ⟨s, h1⟩ := l1New_ok K hK b hl
  obtain ⟨x, j, t, h2, _⟩ := l1PickInt_ok b hl 0 s [0, 1, 127, 128, 300, 16383, 16384, 1000000000, 1000000001, (-1)] (by decide) (by decide)
  exact ⟨x, bind_t h1 (bind_t h2 rfl)⟩
theorem DrawGetNum_ok (K : Nat) (hK : 10000000000000 ≤ K) (b : List Int) (hl : b.length ≤ 1000000000000) : ∃ l a, spec.DrawGetNum.f K b = some (l, a) ∧ Bytes l ∧ l.length ≤ 22 ∧ -9223372036854775808 ≤ a ∧ a < 9223372036854775808 := by
  unfold spec.DrawGetNum.f
  obtain ⟨s, h1⟩ := l1New_ok K hK b hl
  obtain ⟨l, j, t, h2, h3, h4, h5⟩ := l1DrawBytes_ok K hK b hl 0 s (by decide)
  obtain ⟨x, j2, t2, h6, _, h7⟩ := l1PickInt_ok b hl j t [0, 0, 1, (l.length : Int), w64 ((l.length : Int) - 1), (-1), 9223372036854775807] h3 (by simp)
  refine ⟨l, x, bind_t h1 (bind_t h2 (bind_t h6 rfl)), h4, h5, ?_⟩
  have e : w64 ((l.length : Int) - 1) = (l.length : Int) - 1 := w64_id (by omega) (by omega)
  rw [e] at h7
  simp only [List.mem_cons, List.not_mem_nil, or_false] at h7
  omega
theorem DrawPutText_ok (K : Nat) (hK : 10000000000000 ≤ K) (b : List Int) (hl : b.length ≤ 1000000000000) : ∃ x, spec.DrawPutText.f K b = some x ∧ x.size ≤ 401 := by
  unfold spec.DrawPutText.f
  obtain ⟨s, h1⟩ := l1New_ok K hK b hl
  obtain ⟨x, j, t, h2, h3, h4⟩ := l1DrawText_ok K hK b hl 0 s (by decide)
  exact ⟨x, bind_t h1 (bind_t h2 rfl), h4⟩
theorem puttI_len (d : ByteArray) : (puttI d).length ≤ 5 + d.size := by
  unfold puttI
  have := putI_length d.size
  rw [List.length_append, bytesL_len]; omega
theorem spec_PutText_b (K : Nat) (hK : 10000000000000 ≤ K) (s : ByteArray) (hs : s.size ≤ 401) : ∃ l, spec.PutText.f K s = some l ∧ impl.PutText.f K s = some l ∧ Bytes l ∧ l.length ≤ 410 ∧ (0 < l.length → s.size ≤ 400 ∧ l = puttI s) := by
  have h1 := spec_PutText_eq K hK s
  have h2 := impl_PutText_eq K hK s
  have h3 := puttI_len s
  by_cases c : s.size ≤ 400
  · rw [if_pos c] at h1 h2
    exact ⟨puttI s, h1, h2, puttI_bytes s, by omega, fun _ => ⟨c, rfl⟩⟩
  · rw [if_neg c] at h1 h2
    exact ⟨[], h1, h2, .nil, by simp, fun h => by simp at h⟩
theorem DrawGetText_ok (K : Nat) (hK : 10000000000000 ≤ K) (b : List Int) (hl : b.length ≤ 1000000000000) : ∃ l n a, spec.DrawGetText.f K b = some (l, n, a) ∧ Bytes l ∧ l.length ≤ 1000 ∧ n ≤ l.length ∧ -1 ≤ a ∧ a ≤ 1000 := by
  unfold spec.DrawGetText.f
  obtain ⟨s, h1⟩ := l1New_ok K hK b hl
  obtain ⟨x, j, t, h2, h3, h4⟩ := l1DrawText_ok K hK b hl 0 s (by decide)
  obtain ⟨l, p1, _, p2, p3, _⟩ := spec_PutText_b K hK x h4
  obtain ⟨m, j2, t2, q1, q2, q3, q4⟩ := l1DrawBytes_ok K hK b hl j t h3
  obtain ⟨c, j3, t3, r1, r2⟩ := l1Once_ok b hl j2 t2 4 q2
  have hlen : (l ++ m).length ≤ 1000 := by rw [List.length_append]; omega
  have hby := p2.append q3
  cases c with
  | false =>
    obtain ⟨y, j4, t4, u1, u2, u3⟩ := l1PickInt_ok b hl j3 t3 [0, 0, 0, 1, ((l ++ m).length : Int), (-1)] r2 (by simp)
    refine ⟨l ++ m, (l ++ m).length, y, bind_t h1 (bind_t h2 (bind_t p1 (bind_t q1 (ck_t (by show (l ++ m).length * 1 ≤ _; omega) (bind_t r1 (br_f rfl (bind_t u1 rfl))))))), hby, hlen, Nat.le_refl _, ?_⟩
    simp only [List.mem_cons, List.not_mem_nil, or_false] at u3
    omega
  | true =>
    have e : w64 (((l ++ m).length : Int) + 1) = ((l ++ m).length : Int) + 1 := w64_id (by omega) (by omega)
    obtain ⟨z, j4, t4, v1, v2, v3, v4⟩ := l1Below_ok b hl j3 t3 (w64 (((l ++ m).length : Int) + 1)) r2
    rw [e] at v4
    have v5 := v4 (by omega)
    obtain ⟨y, j5, t5, u1, u2, u3⟩ := l1PickInt_ok b hl j4 t4 [0, 0, 0, 1, (z.toNat : Int), (-1)] v2 (by simp)
    refine ⟨l ++ m, z.toNat, y, bind_t h1 (bind_t h2 (bind_t p1 (bind_t q1 (ck_t (by show (l ++ m).length * 1 ≤ _; omega) (bind_t r1 (br_t rfl (bind_t v1 (ck_t v3 (ck_t (by show z ≤ ((l ++ m).length : Int); omega) (bind_t u1 rfl)))))))))), hby, hlen, by omega, ?_⟩
    simp only [List.mem_cons, List.not_mem_nil, or_false] at u3
    omega
theorem DrawSum_ok (K : Nat) (hK : 10000000000000 ≤ K) (b : List Int) (hl : b.length ≤ 1000000000000) : ∃ l, spec.DrawSum.f K b = some l ∧ Bytes l ∧ l.length ≤ 1000 := by
  unfold spec.DrawSum.f
  obtain ⟨s, h1⟩ := l1New_ok K hK b hl
  obtain ⟨l, j, t, h2, h3, h4, h5⟩ := l1DrawBytes_ok K hK b hl 0 s (by decide)
  obtain ⟨x, j2, t2, h6, h7, h8⟩ := l1DrawText_ok K hK b hl j t h3
  have hz : (l ++ bytesL x).length ≤ 1000 := by rw [List.length_append, bytesL_len]; omega
  exact ⟨l ++ bytesL x, bind_t h1 (bind_t h2 (bind_t h6 (ck_t (by show (l ++ bytesL x).length * 1 ≤ _; omega) rfl))), h4.append (bytesL_ok x), hz⟩
theorem at_ok (b : List Int) (i : Int) (hi : 0 ≤ i) : ∃ v, laws.at_.f b i = some v := by
  unfold laws.at_.f
  by_cases c : i < (b.length : Int)
  · exact ⟨_, br_d c (ck_t hi rfl)⟩
  · exact ⟨_, br_n c rfl⟩
theorem chk3 {b k1 k2 k3 : Bool} {T r : Option Bool} (h : b = true → k1 = true ∧ k2 = false ∧ k3 = false) (e : T = r) : cond b (cond k1 (cond k2 (some false) (cond k3 (some false) T)) (some false)) T = r := by
  cases b with
  | false => exact e
  | true => obtain ⟨h1, h2, h3⟩ := h rfl; rw [h1, h2, h3]; exact e
theorem chk3' {b k1 k2 k3 : Bool} {T r : Option Bool} (h : b = true → k1 = true ∧ k2 = true ∧ k3 = false) (e : T = r) : cond b (cond k1 (cond k2 (cond k3 (some false) T) (some false)) (some false)) T = r := by
  cases b with
  | false => exact e
  | true => obtain ⟨h1, h2, h3⟩ := h rfl; rw [h1, h2, h3]; exact e
theorem chkS {α : Type} {b : Bool} {u : Option α} {v : α} {p1 p2 p3 p4 : Prop} [Decidable p1] [Decidable p2] [Decidable p3] [Decidable p4] {k : α → Bool} {T r : Option Bool} (h : b = true → u = some v ∧ p1 ∧ p2 ∧ p3 ∧ p4 ∧ k v = true) (e : T = r) : cond b (Option.bind u fun x => ck p1 (ck p2 (ck p3 (ck p4 (cond (k x) T (some false)))))) T = r := by
  cases b with
  | false => exact e
  | true =>
    obtain ⟨h1, h2, h3, h4, h5, h6⟩ := h rfl
    exact bind_t h1 (ck_t h2 (ck_t h3 (ck_t h4 (ck_t h5 (br_t h6 e)))))
theorem getI_slice {b : List Int} {a : Int} (hb : Bytes b) (h : (getI b a).2.2 = true) : 0 ≤ a ∧ a ≤ (getI b a).2.1 ∧ (getI b a).2.1 ≤ (b.length : Int) ∧ (b.drop a.toNat).take ((getI b a).2.1.toNat - a.toNat) = putI (getI b a).1 := by
  have h0 : 0 ≤ a := by
    by_cases c : a < 0
    · unfold getI at h; rw [if_pos c] at h; cases h
    · omega
  obtain ⟨k, rfl⟩ := Int.eq_ofNat_of_zero_le h0
  obtain ⟨n, r, h1, h2, h3, h4⟩ := getI_inv hb h
  have hp := putI_pos h1 h2
  have hl : b.length - k = (putI n).length + r.length := by rw [← List.length_drop, h3, List.length_append]
  rw [h4]
  refine ⟨h0, by show (k : Int) ≤ (k : Int) + _; omega, by show (k : Int) + _ ≤ _; omega, ?_⟩
  show (b.drop (k : Int).toNat).take (((k : Int) + ((putI n).length : Nat)).toNat - (k : Int).toNat) = putI n
  rw [Int.toNat_natCast, h3, show ((k : Int) + ((putI n).length : Nat)).toNat - k = (putI n).length by omega, List.take_left]
theorem gettI_slice {b : List Int} {a : Int} (hb : Bytes b) (h : (gettI b a).2.2 = true) : 0 ≤ a ∧ a ≤ (gettI b a).2.1 ∧ (gettI b a).2.1 ≤ (b.length : Int) ∧ (gettI b a).1.size ≤ 400 ∧ (b.drop a.toNat).take ((gettI b a).2.1.toNat - a.toNat) = puttI (gettI b a).1 := by
  have h0 : 0 ≤ a := by
    by_cases c : a < 0
    · have hg : (getI b a).2.2 = true := by
        unfold gettI at h
        split at h
        · rename_i hc; exact hc.1
        · cases h
      unfold getI at hg; rw [if_pos c] at hg; cases hg
    · omega
  obtain ⟨k, rfl⟩ := Int.eq_ofNat_of_zero_le h0
  obtain ⟨d, r, h1, h3, h4⟩ := gettI_inv hb h
  have hp : 1 ≤ (puttI d).length := by
    have := putI_pos (n := (d.size : Int)) (by omega) (by omega)
    unfold puttI; rw [List.length_append]; omega
  have hl : b.length - k = (puttI d).length + r.length := by rw [← List.length_drop, h3, List.length_append]
  rw [h4]
  refine ⟨h0, by show (k : Int) ≤ (k : Int) + _; omega, by show (k : Int) + _ ≤ _; omega, h1, ?_⟩
  show (b.drop (k : Int).toNat).take (((k : Int) + ((puttI d).length : Nat)).toNat - (k : Int).toNat) = puttI d
  rw [Int.toNat_natCast, h3, show ((k : Int) + ((puttI d).length : Nat)).toNat - k = (puttI d).length by omega, List.take_left]
theorem FnNums_pure (b : List Int) (_ : b.length ≤ maxLen) (_ : ∀ x ∈ b, (Lit.int .u8 x).wf = true) : laws.FnNums.f 10000000000000 b = some true := by
  unfold laws.FnNums.f
  refine bind_t (a := ()) rfl ?_
  by_cases c : (b.length : Int) > 1048576
  · exact br_d c rfl
  have hl : b.length ≤ 1000000000000 := by omega
  have hK : 10000000000000 ≤ 10000000000000 := Nat.le_refl _
  obtain ⟨x, hx⟩ := DrawPutNum_ok 10000000000000 hK b hl
  obtain ⟨v, hv⟩ := at_ok b 1 (by decide)
  obtain ⟨l, at2, hd2, hb2, hl2, ha2, ha3⟩ := DrawGetNum_ok 10000000000000 hK b hl
  obtain ⟨t3, hd3, hz3⟩ := DrawPutText_ok 10000000000000 hK b hl
  obtain ⟨l3, hs3, hi3, hb3, hl3, hp3⟩ := spec_PutText_b 10000000000000 hK t3 hz3
  obtain ⟨l4, n4, at4, hd4, hb4, hl4, hn4, ha4, ha5⟩ := DrawGetText_ok 10000000000000 hK b hl
  obtain ⟨l5, hd5, hb5, hl5⟩ := DrawSum_ok 10000000000000 hK b hl
  have hput := putI_length x
  have hby1 : Bytes (([] ++ putI x) ++ [IntKind.u8.wrap v]) := (putI_bytes x).append (Bytes.one (wrap8 v).1 (wrap8 v).2)
  refine br_n c (bind_t hx (bind_t (impl_PutNum_eq _ hK x) (bind_t (spec_PutNum_eq _ hK x) (br_t (strEq_self _) (ck_t (by rw [List.nil_append]; omega) (bind_t hv (ck_t (by simp; omega) (bind_t (impl_GetNum_eq _ hK _ 0 hby1 (by simp; omega) (by decide) (by decide)) ?_))))))))
  refine chk3 (fun h => ?_) ?_
  · have hx0 : 0 ≤ x ∧ x ≤ 1000000000 := by
      by_cases q : 0 ≤ x ∧ x ≤ 1000000000
      · exact q
      · have e : putI x = [] := by unfold putI; rw [if_neg q]
        rw [e] at h; exact absurd h (by decide)
    have hg : getI (([] ++ putI x) ++ [IntKind.u8.wrap v]) ((0 : Nat) : Int) = (x, ((0 : Nat) : Int) + (putI x).length, true) := getI_put (r := [IntKind.u8.wrap v]) (by rw [List.drop_zero, List.nil_append]) hx0.1 hx0.2
    have hg' : getI (([] ++ putI x) ++ [IntKind.u8.wrap v]) 0 = (x, ((putI x).length : Int), true) := by rw [show (0 : Int) = ((0 : Nat) : Int) from rfl, hg]; simp
    rw [hg']
    exact ⟨rfl, by simp, by simp⟩
  have hw : ((l4.drop 0).take n4) = l4.take n4 := by rw [List.drop_zero]
  have hbw : Bytes ((l4.drop 0).take n4) := (hb4.drop 0).take n4
  have hlw : ((l4.drop 0).take n4).length = n4 := by rw [hw, List.length_take]; omega
  refine bind_t hd2 (bind_t (impl_GetNum_eq _ hK l at2 hb2 (by omega) ha3 ha2) (bind_t (spec_GetNum_eq _ hK l at2 hb2 (by omega) ha3 ha2) (br_t (by simp) (br_f (by simp) ?_))))
  refine chkS (v := putI (getI l at2).1) (fun h => ?_) ?_
  · obtain ⟨g1, g2, g3, g4⟩ := getI_slice hb2 h
    refine ⟨impl_PutNum_eq _ hK _, g1, g2, g3, ?_, ?_⟩
    · show at2.toNat + ((getI l at2).2.1.toNat - at2.toNat) ≤ l.length
      omega
    · show strEq (ofBytes (putI (getI l at2).1)) (ofBytes ((l.drop at2.toNat).take ((getI l at2).2.1.toNat - at2.toNat))) = true
      rw [g4]; exact strEq_self _
  refine bind_t hd3 (bind_t hi3 (bind_t (impl_GetText_eq _ hK l3 0 hb3 (by omega) (by decide) (by decide)) (bind_t hs3 (br_t (strEq_self _) ?_))))
  refine chk3' (fun h => ?_) ?_
  · obtain ⟨g1, g2⟩ := hp3 (by have := of_decide_eq_true h; omega)
    have g3 : gettI l3 ((0 : Nat) : Int) = (t3, ((0 : Nat) : Int) + (puttI t3).length, true) := gettI_put (r := []) (by rw [List.drop_zero, List.append_nil]; exact g2) g1
    have g4 : gettI l3 0 = (t3, (l3.length : Int), true) := by rw [show (0 : Int) = ((0 : Nat) : Int) from rfl, g3, ← g2]; simp
    rw [g4]
    exact ⟨rfl, strEq_self _, by simp⟩
  have hi4 := impl_GetText_eq _ hK ((l4.drop 0).take n4) at4 hbw (by omega) (by omega) (by omega)
  have hs4 := spec_GetText_eq _ hK ((l4.drop 0).take n4) at4 hbw (by omega) (by omega) (by omega)
  have hz : gettI ((l4.drop 0).take n4) at4 = gettI (l4.take n4) at4 := by rw [hw]
  refine bind_t hd4 (bind_t hi4 (ck_t (by show 0 + n4 ≤ l4.length; omega) (bind_t hs4 (br_t (by simp) (br_f (by simp) ?_)))))
  refine chkS (v := puttI (gettI ((l4.drop 0).take n4) at4).1) (fun h => ?_) ?_
  · obtain ⟨g1, g2, g3, g5, g4⟩ := gettI_slice hbw h
    have hpt := impl_PutText_eq 10000000000000 hK (gettI ((l4.drop 0).take n4) at4).1
    rw [if_pos g5] at hpt
    generalize gettI ((l4.drop 0).take n4) at4 = G at g1 g2 g3 g4 g5 hpt h
    refine ⟨hpt, g1, g2, by show _ ≤ (n4 : Int); omega, ?_, ?_⟩
    · show at4.toNat + (G.2.1.toNat - at4.toNat) ≤ l4.length
      omega
    · show strEq (ofBytes (puttI G.1)) (ofBytes ((l4.drop at4.toNat).take (G.2.1.toNat - at4.toNat))) = true
      have : (l4.drop at4.toNat).take (G.2.1.toNat - at4.toNat) = (((l4.drop 0).take n4).drop at4.toNat).take (G.2.1.toNat - at4.toNat) := by
        rw [hw, List.drop_take, List.take_take, Nat.min_eq_left (by omega)]
      rw [this, g4]; exact strEq_self _
  exact bind_t hd5 (bind_t (impl_Sum_eq _ hK l5 hb5 (by omega)) (bind_t (spec_Sum_eq _ hK l5 hb5 (by omega)) (by simp)))
end Go.Proofs.Ythneilmhnbboeaa.Pure
