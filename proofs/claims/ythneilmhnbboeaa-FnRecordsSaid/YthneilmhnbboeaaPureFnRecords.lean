/- The law FnRecords, in plain words: its function answers true. -/
import Derived.Test.YthneilmhnbboeaaGFnRecords
import Derived.Test.YthneilmhnbboeaaDenMod
import Derived.KernelRfl
namespace Go.Proofs.Ythneilmhnbboeaa.Pure
open Go Go.RowKit Go.Proofs.Ythneilmhnbboeaa.Den Go.Proofs.Ythneilmhnbboeaa.GFnRecords
set_option linter.unusedSimpArgs false
set_option linter.unusedVariables false
theorem nat_tmod (n m : Nat) : ((n : Int).tmod (m : Int)) = ((n % m : Nat) : Int) := (Int.ofNat_tmod n m).symm
theorem nat_tdiv (n m : Nat) : ((n : Int).tdiv (m : Int)) = ((n / m : Nat) : Int) := (Int.ofNat_tdiv n m).symm
theorem impl_in_eq (n lo hi : Int) : impl.in_.f n lo hi = some (decide (lo ≤ n ∧ n ≤ hi)) := by
  unfold impl.in_.f
  by_cases c : n ≥ lo
  · refine br_d c ?_
    by_cases d : n ≤ hi
    · rw [decide_eq_true d, decide_eq_true ⟨c, d⟩]
    · rw [decide_eq_false d, decide_eq_false (fun h => d h.2)]
  · refine br_n c ?_
    rw [decide_eq_false (fun h => c h.1)]
theorem spec_l1In_eq (n lo hi : Int) : spec.l1In.f n lo hi = some (decide (lo ≤ n ∧ n ≤ hi)) := by
  unfold spec.l1In.f
  by_cases c : n ≥ lo
  · refine br_d c ?_
    by_cases d : n ≤ hi
    · rw [decide_eq_true d, decide_eq_true ⟨c, d⟩]
    · rw [decide_eq_false d, decide_eq_false (fun h => d h.2)]
  · refine br_n c ?_
    rw [decide_eq_false (fun h => c h.1)]
/-- What a search for a number answers, inside the loop or behind it. -/
def numOut : ((Int × Int × Bool) ⊕ Unit) → Int × Int × Bool := Sum.elim id (fun _ => (0, 0, false))
theorem spec_GetNum_l0 (b : List Int) (hb : Bytes b) (hl : b.length ≤ 1000000000000) (a : Nat) (ha : a < 9223372036854775808) : ∀ (f k q : Nat) (n : Int), f + k = 5 → f < q → 0 ≤ n → n < 128 ^ k →
    ∃ x, spec.GetNum.l0.f b (a : Int) q n (k : Int) = some x ∧ numOut x = getR (a : Int) (getF f k n (b.drop (a + k))) := by
  intro f
  induction f with
  | zero =>
    intro k q n hk hq h0 h1
    obtain ⟨q, rfl⟩ := Nat.exists_eq_add_one_of_ne_zero (by omega : q ≠ 0)
    refine ⟨.inr (), ?_, rfl⟩
    rw [spec.GetNum.l0.f]
    exact br_n (by omega) rfl
  | succ f ih =>
    intro k q n hk hq h0 h1
    obtain ⟨q, rfl⟩ := Nat.exists_eq_add_one_of_ne_zero (by omega : q ≠ 0)
    rw [spec.GetNum.l0.f]
    by_cases h : a + k < b.length
    · have hv := hb.at_ h
      have hp : (0 : Int) < 128 ^ k := Int.pow_pos (by decide)
      have hp4 : (128 : Int) ^ k ≤ 128 ^ 4 := by
        have : (128 : Nat) ^ k ≤ 128 ^ 4 := Nat.pow_le_pow_right (by decide) (by omega)
        exact_mod_cast this
      have hm : b[a + k] % 128 * 128 ^ k ≤ 127 * 128 ^ k := Int.mul_le_mul_of_nonneg_right (by omega) (by omega)
      have hm0 : 0 ≤ b[a + k] % 128 * 128 ^ k := Int.mul_nonneg (by omega) (by omega)
      rw [List.drop_eq_getElem_cons h]
      have e1 : w64 ((a : Int) + k) = ((a + k : Nat) : Int) := by rw [w64_id (by omega) (by omega)]; omega
      have e2 : w64 ((b.length : Int) - k) = (b.length : Int) - k := w64_id (by omega) (by omega)
      have e3 : w64 (7 * (k : Int)) = 7 * (k : Int) := w64_id (by omega) (by omega)
      have e4 : b.getD (a + k) 0 = b[a + k] := getD_at h 0
      have e5 : w64 b[a + k] = b[a + k] := w64_id (by omega) (by omega)
      have e6 : b[a + k].tmod 128 = b[a + k] % 128 := Int.tmod_eq_emod_of_nonneg (by omega)
      have e7 := or_shl k (by omega) h0 h1 (d := b[a + k] % 128) (by omega) (by omega)
      have e8 : w64 (((a + k : Nat) : Int) + 1) = (a : Int) + ((k : Int) + 1) := by rw [w64_id (by omega) (by omega)]; omega
      have e9 : w64 ((k : Int) + 1) = ((k + 1 : Nat) : Int) := wsucc (by omega)
      simp only [e1, e2, e3, Int.toNat_natCast, e4, e5, e6, e7, e8, e9]
      unfold getF
      by_cases c : b[a + k] ≥ 128
      · rw [if_pos c]
        have hlt : n + b[a + k] % 128 * 128 ^ k < 128 ^ (k + 1) := by
          rw [Int.pow_succ]
          omega
        obtain ⟨x, hx, hr⟩ := ih (k + 1) q (n + b[a + k] % 128 * 128 ^ k) (by omega) (by omega) (by omega) hlt
        exact ⟨x, br_d (by omega) (br_n (by omega) (br_n (by omega) (ck_t (by omega) (ck_t (by omega) (ck_t (by omega) (br_n (by omega) hx)))))), hr⟩
      · rw [if_neg c]
        have pre : ∀ {X Y : Option ((Int × Int × Bool) ⊕ Unit)} {r}, X = r → cond (decide ((k : Int) < 5)) (cond (decide ((a : Int) < 0)) (some (.inl (0, 0, false))) (cond (decide ((a : Int) ≥ (b.length : Int) - k)) (some (.inl (0, 0, false))) (ck (0 ≤ ((a + k : Nat) : Int)) (ck (((a + k : Nat) : Int) < (b.length : Int)) (ck (0 ≤ 7 * (k : Int)) (cond (decide (b[a + k] < 128)) X Y)))))) (some (.inr ())) = r := fun hx =>
          br_d (by omega) (br_n (by omega) (br_n (by omega) (ck_t (by omega) (ck_t (by omega) (ck_t (by omega) (br_d (by omega) hx))))))
        by_cases c0 : b[a + k] = 0 ∧ k > 0
        · rw [if_pos c0]
          exact ⟨.inl (0, 0, false), pre (br_d (by omega) (br_t (by rw [c0.1]; rfl) rfl)), rfl⟩
        · rw [if_neg c0]
          by_cases cm : n + b[a + k] % 128 * 128 ^ k > 1000000000
          · rw [if_pos cm]
            by_cases ck0 : (k : Int) > 0
            · exact ⟨.inl (0, 0, false), pre (br_d ck0 (br_f (by rw [beq_eq_false_iff_ne]; intro h; exact c0 ⟨h, by omega⟩) (br_d cm rfl))), rfl⟩
            · exact ⟨.inl (0, 0, false), pre (br_n ck0 (br_d cm rfl)), rfl⟩
          · rw [if_neg cm]
            by_cases ck0 : (k : Int) > 0
            · exact ⟨.inl (_, _, true), pre (br_d ck0 (br_f (by rw [beq_eq_false_iff_ne]; intro h; exact c0 ⟨h, by omega⟩) (br_n cm rfl))), rfl⟩
            · exact ⟨.inl (_, _, true), pre (br_n ck0 (br_n cm rfl)), rfl⟩
    · rw [List.drop_of_length_le (by omega)]
      refine ⟨.inl (0, 0, false), br_d (by omega) (br_n (by omega) (br_d ?_ rfl)), rfl⟩
      rw [w64_id (by omega) (by omega)]
      omega
theorem spec_GetNum_eq (K : Nat) (hK : 10000000000000 ≤ K) (b : List Int) (at_ : Int) (hb : Bytes b) (hl : b.length ≤ 1000000000000) (ha : at_ < 9223372036854775808) (ha0 : -9223372036854775808 ≤ at_) : spec.GetNum.f K b at_ = some (getI b at_) := by
  unfold spec.GetNum.f
  obtain ⟨K, rfl⟩ := Nat.exists_eq_add_one_of_ne_zero (by omega : K ≠ 0)
  by_cases c : at_ < 0
  · refine bind_t (a := .inl (0, 0, false)) ?_ ?_
    · rw [spec.GetNum.l0.f]
      exact br_d (by decide) (br_d c rfl)
    · unfold getI
      rw [if_pos c]
      rfl
  · obtain ⟨a, rfl⟩ := Int.eq_ofNat_of_zero_le (by omega : 0 ≤ at_)
    obtain ⟨x, h1, h2⟩ := spec_GetNum_l0 b hb hl a (by omega) 5 0 (K + 1) 0 rfl (by omega) (by decide) (by decide)
    refine bind_t h1 ?_
    rw [getI_at]
    rw [show a + 0 = a from rfl] at h2
    rw [← h2]
    cases x <;> rfl
theorem impl_GetNum_l0 (b : List Int) (hb : Bytes b) (hl : b.length ≤ 1000000000000) (a : Nat) (ha : a ≤ b.length) : ∀ (f k q : Nat) (n : Int), f + k = 5 → f < q → 0 ≤ n → n < 128 ^ k →
    ∃ x, impl.GetNum.l0.f b (a : Int) q n (k : Int) = some x ∧ numOut x = getR (a : Int) (getF f k n (b.drop (a + k))) := by
  intro f
  induction f with
  | zero =>
    intro k q n hk hq h0 h1
    obtain ⟨q, rfl⟩ := Nat.exists_eq_add_one_of_ne_zero (by omega : q ≠ 0)
    refine ⟨.inr (), ?_, rfl⟩
    rw [impl.GetNum.l0.f]
    exact br_n (by omega) rfl
  | succ f ih =>
    intro k q n hk hq h0 h1
    obtain ⟨q, rfl⟩ := Nat.exists_eq_add_one_of_ne_zero (by omega : q ≠ 0)
    rw [impl.GetNum.l0.f]
    have e1 : w64 ((a : Int) + k) = ((a + k : Nat) : Int) := by rw [w64_id (by omega) (by omega)]; omega
    by_cases h : a + k < b.length
    · have hv := hb.at_ h
      have hp : (0 : Int) < 128 ^ k := Int.pow_pos (by decide)
      have hp4 : (128 : Int) ^ k ≤ 128 ^ 4 := by
        have : (128 : Nat) ^ k ≤ 128 ^ 4 := Nat.pow_le_pow_right (by decide) (by omega)
        exact_mod_cast this
      have hm : b[a + k] % 128 * 128 ^ k ≤ 127 * 128 ^ k := Int.mul_le_mul_of_nonneg_right (by omega) (by omega)
      have hm0 : 0 ≤ b[a + k] % 128 * 128 ^ k := Int.mul_nonneg (by omega) (by omega)
      rw [List.drop_eq_getElem_cons h]
      have e3 : w64 (7 * (k : Int)) = 7 * (k : Int) := w64_id (by omega) (by omega)
      have e4 : b.getD (a + k) 0 = b[a + k] := getD_at h 0
      have e5 : w64 b[a + k] = b[a + k] := w64_id (by omega) (by omega)
      have e6 : bits2 .i64 (· &&& ·) b[a + k] 127 = b[a + k] % 128 := and127 (by omega) (by omega)
      have e7 := or_shl k (by omega) h0 h1 (d := b[a + k] % 128) (by omega) (by omega)
      have e8 : w64 (((a + k : Nat) : Int) + 1) = (a : Int) + ((k : Int) + 1) := by rw [w64_id (by omega) (by omega)]; omega
      have e9 : w64 ((k : Int) + 1) = ((k + 1 : Nat) : Int) := wsucc (by omega)
      simp only [e1, e3, Int.toNat_natCast, e4, e5, e6, e7, e8, e9]
      unfold getF
      by_cases c : b[a + k] ≥ 128
      · rw [if_pos c]
        have hlt : n + b[a + k] % 128 * 128 ^ k < 128 ^ (k + 1) := by
          rw [Int.pow_succ]
          omega
        obtain ⟨x, hx, hr⟩ := ih (k + 1) q (n + b[a + k] % 128 * 128 ^ k) (by omega) (by omega) (by omega) hlt
        exact ⟨x, br_d (by omega) (br_d (by omega) (ck_t (by omega) (ck_t (by omega) (br_d (by omega) hx)))), hr⟩
      · rw [if_neg c]
        by_cases c0 : b[a + k] = 0 ∧ k > 0
        · rw [if_pos c0]
          exact ⟨.inl (0, 0, false), br_d (by omega) (br_d (by omega) (ck_t (by omega) (ck_t (by omega) (br_n (by omega) (br_t (by rw [c0.1]; rfl) (br_d (by omega) rfl)))))), rfl⟩
        · rw [if_neg c0]
          by_cases cz : b[a + k] = 0
          · have ck0 : ¬ ((k : Int) > 0) := fun h => c0 ⟨cz, by omega⟩
            by_cases cm : n + b[a + k] % 128 * 128 ^ k > 1000000000
            · rw [if_pos cm]
              exact ⟨.inl (0, 0, false), br_d (by omega) (br_d (by omega) (ck_t (by omega) (ck_t (by omega) (br_n (by omega) (br_t (by rw [cz]; rfl) (br_n ck0 (br_d cm rfl))))))), rfl⟩
            · rw [if_neg cm]
              exact ⟨.inl (_, _, true), br_d (by omega) (br_d (by omega) (ck_t (by omega) (ck_t (by omega) (br_n (by omega) (br_t (by rw [cz]; rfl) (br_n ck0 (br_n cm rfl))))))), rfl⟩
          · by_cases cm : n + b[a + k] % 128 * 128 ^ k > 1000000000
            · rw [if_pos cm]
              exact ⟨.inl (0, 0, false), br_d (by omega) (br_d (by omega) (ck_t (by omega) (ck_t (by omega) (br_n (by omega) (br_f (beq_eq_false_iff_ne.2 cz) (br_d cm rfl)))))), rfl⟩
            · rw [if_neg cm]
              exact ⟨.inl (_, _, true), br_d (by omega) (br_d (by omega) (ck_t (by omega) (ck_t (by omega) (br_n (by omega) (br_f (beq_eq_false_iff_ne.2 cz) (br_n cm rfl)))))), rfl⟩
    · rw [List.drop_of_length_le (by omega)]
      simp only [e1]
      exact ⟨.inr (), br_d (by omega) (br_n (by omega) rfl), rfl⟩
theorem impl_GetNum_eq (K : Nat) (hK : 10000000000000 ≤ K) (b : List Int) (at_ : Int) (hb : Bytes b) (hl : b.length ≤ 1000000000000) (ha : at_ < 9223372036854775808) (ha0 : -9223372036854775808 ≤ at_) : impl.GetNum.f K b at_ = some (getI b at_) := by
  unfold impl.GetNum.f
  refine bind_t (impl_in_eq at_ 0 (b.length : Int)) ?_
  by_cases c : 0 ≤ at_ ∧ at_ ≤ b.length
  · refine br_d c ?_
    obtain ⟨a, rfl⟩ := Int.eq_ofNat_of_zero_le c.1
    obtain ⟨x, h1, h2⟩ := impl_GetNum_l0 b hb hl a (by omega) 5 0 K 0 rfl (by omega) (by decide) (by decide)
    refine bind_t h1 ?_
    rw [getI_at]
    rw [show a + 0 = a from rfl] at h2
    rw [← h2]
    cases x <;> rfl
  · refine br_n c ?_
    by_cases c0 : at_ < 0
    · unfold getI; rw [if_pos c0]
    · obtain ⟨a, rfl⟩ := Int.eq_ofNat_of_zero_le (by omega : 0 ≤ at_)
      rw [getI_at, List.drop_of_length_le (by omega)]; rfl
theorem spec_PutNum_l0 : ∀ (f q n : Nat) (acc : List Int), n < 128 ^ (f + 1) → f ≤ 4 → f < q → acc.length + f ≤ 1000 →
    ∃ m a', spec.PutNum.l0.f q (n : Int) acc = some (m, a') ∧ a' ++ [IntKind.u8.wrap m] = acc ++ putF f n ∧ a'.length ≤ acc.length + f := by
  intro f
  induction f with
  | zero =>
    intro q n acc hn _ hq ha
    obtain ⟨q, rfl⟩ := Nat.exists_eq_add_one_of_ne_zero (by omega : q ≠ 0)
    have hn : n < 128 := hn
    refine ⟨n, acc, ?_, ?_, by omega⟩
    · rw [spec.PutNum.l0.f]; exact br_n (by omega) rfl
    · rw [wrap_u8 (by omega) (by omega)]; rfl
  | succ f ih =>
    intro q n acc hn hf hq ha
    obtain ⟨q, rfl⟩ := Nat.exists_eq_add_one_of_ne_zero (by omega : q ≠ 0)
    have hp : 128 ^ (f + 1 + 1) ≤ 128 ^ 5 := Nat.pow_le_pow_right (by decide) (by omega)
    rw [spec.PutNum.l0.f]
    by_cases c : n > 127
    · have e1 : (n : Int).tmod 128 = ((n % 128 : Nat) : Int) := nat_tmod n 128
      have e2 : (n : Int).tdiv 128 = ((n / 128 : Nat) : Int) := nat_tdiv n 128
      have e3 : w64 (((n % 128 : Nat) : Int) + 128) = ((n % 128 + 128 : Nat) : Int) := by rw [w64_id (by omega) (by omega)]; omega
      have e4 : w64 ((n / 128 : Nat) : Int) = ((n / 128 : Nat) : Int) := w64_id (by omega) (by omega)
      have e5 : IntKind.u8.wrap ((n % 128 + 128 : Nat) : Int) = ((n % 128 + 128 : Nat) : Int) := wrap_u8 (by omega) (by omega)
      simp only [e1, e2, e3, e4, e5]
      obtain ⟨m, a', h1, h2, h3⟩ := ih q (n / 128) (acc ++ [((n % 128 + 128 : Nat) : Int)]) (Nat.div_lt_of_lt_mul (by rw [Nat.pow_succ, Nat.mul_comm] at hn; exact hn)) (by omega) (by omega) (by simp; omega)
      refine ⟨m, a', br_d (by omega) (ck_t (by simp; omega) h1), ?_, by simp at h3; omega⟩
      rw [h2, putF, if_pos c, List.append_assoc]; rfl
    · refine ⟨n, acc, br_n (by omega) rfl, ?_, by omega⟩
      rw [wrap_u8 (by omega) (by omega), putF, if_neg c]
theorem spec_PutNum_eq (K : Nat) (hK : 10000000000000 ≤ K) (n : Int) : spec.PutNum.f K n = some (putI n) := by
  unfold spec.PutNum.f putI
  refine bind_t (spec_l1In_eq n 0 1000000000) ?_
  by_cases c : 0 ≤ n ∧ n ≤ 1000000000
  · rw [if_pos c]
    obtain ⟨m, rfl⟩ := Int.eq_ofNat_of_zero_le c.1
    obtain ⟨x, a', h1, h2, h3⟩ := spec_PutNum_l0 4 K m [] (by omega) (by omega) (by omega) (by simp)
    refine br_d c (bind_t h1 (ck_t (by simp at h3 ⊢; omega) ?_))
    rw [h2]; rfl
  · rw [if_neg c]
    exact br_n c rfl
theorem impl_PutNum_l0 : ∀ (f q n : Nat) (acc : List Int), n < 128 ^ (f + 1) → f ≤ 4 → f < q → acc.length + f ≤ 1000 →
    ∃ m a', impl.PutNum.l0.f q (n : Int) acc = some (m, a') ∧ a' ++ [IntKind.u8.wrap m] = acc ++ putF f n ∧ a'.length ≤ acc.length + f := by
  intro f
  induction f with
  | zero =>
    intro q n acc hn _ hq ha
    obtain ⟨q, rfl⟩ := Nat.exists_eq_add_one_of_ne_zero (by omega : q ≠ 0)
    have hn : n < 128 := hn
    refine ⟨n, acc, ?_, ?_, by omega⟩
    · rw [impl.PutNum.l0.f]; exact br_n (by omega) rfl
    · rw [wrap_u8 (by omega) (by omega)]; rfl
  | succ f ih =>
    intro q n acc hn hf hq ha
    obtain ⟨q, rfl⟩ := Nat.exists_eq_add_one_of_ne_zero (by omega : q ≠ 0)
    have hp : 128 ^ (f + 1 + 1) ≤ 128 ^ 5 := Nat.pow_le_pow_right (by decide) (by omega)
    rw [impl.PutNum.l0.f]
    by_cases c : n > 127
    · have e1 : bits2 .i64 (· &&& ·) (n : Int) 127 = ((n % 128 : Nat) : Int) := by rw [and127 (by omega) (by omega)]; omega
      have e2 : (n : Int).fdiv (2 ^ 7) = ((n / 128 : Nat) : Int) := by rw [Int.fdiv_eq_ediv_of_nonneg _ (by decide)]; rfl
      have e3 : bits2 .i64 (· ||| ·) ((n % 128 : Nat) : Int) 128 = ((n % 128 + 128 : Nat) : Int) := by rw [or128 (by omega) (by omega)]; omega
      have e5 : IntKind.u8.wrap ((n % 128 + 128 : Nat) : Int) = ((n % 128 + 128 : Nat) : Int) := wrap_u8 (by omega) (by omega)
      simp only [e1, e2, e3, e5]
      obtain ⟨m, a', h1, h2, h3⟩ := ih q (n / 128) (acc ++ [((n % 128 + 128 : Nat) : Int)]) (Nat.div_lt_of_lt_mul (by rw [Nat.pow_succ, Nat.mul_comm] at hn; exact hn)) (by omega) (by omega) (by simp; omega)
      refine ⟨m, a', br_d (by omega) (ck_t (by simp; omega) h1), ?_, by simp at h3; omega⟩
      rw [h2, putF, if_pos c, List.append_assoc]; rfl
    · refine ⟨n, acc, br_n (by omega) rfl, ?_, by omega⟩
      rw [wrap_u8 (by omega) (by omega), putF, if_neg c]
theorem impl_PutNum_eq (K : Nat) (hK : 10000000000000 ≤ K) (n : Int) : impl.PutNum.f K n = some (putI n) := by
  unfold impl.PutNum.f putI
  refine bind_t (impl_in_eq n 0 1000000000) ?_
  by_cases c : 0 ≤ n ∧ n ≤ 1000000000
  · rw [if_pos c]
    obtain ⟨m, rfl⟩ := Int.eq_ofNat_of_zero_le c.1
    obtain ⟨x, a', h1, h2, h3⟩ := impl_PutNum_l0 4 K m [] (by omega) (by omega) (by omega) (by simp)
    refine br_d c (bind_t h1 (ck_t (by simp at h3 ⊢; omega) ?_))
    rw [h2]; rfl
  · rw [if_neg c]
    exact br_n c rfl
theorem spec_PutText_eq (K : Nat) (hK : 10000000000000 ≤ K) (s : ByteArray) : spec.PutText.f K s = some (if s.size ≤ 400 then putI s.size ++ bytesL s else []) := by
  unfold spec.PutText.f
  by_cases c : s.size ≤ 400
  · rw [if_pos c]
    refine br_n (by omega) (bind_t (spec_PutNum_eq K hK _) (ck_t ?_ rfl))
    have := putI_length s.size
    rw [List.length_append, bytesL_len]
    omega
  · rw [if_neg c]
    exact br_d (by omega) rfl
theorem impl_PutText_eq (K : Nat) (hK : 10000000000000 ≤ K) (s : ByteArray) : impl.PutText.f K s = some (if s.size ≤ 400 then putI s.size ++ bytesL s else []) := by
  unfold impl.PutText.f
  by_cases c : s.size ≤ 400
  · rw [if_pos c]
    refine br_n (by omega) (bind_t (impl_PutNum_eq K hK _) (ck_t ?_ rfl))
    have := putI_length s.size
    rw [List.length_append, bytesL_len]
    omega
  · rw [if_neg c]
    exact br_d (by omega) rfl
theorem spec_GetText_eq (K : Nat) (hK : 10000000000000 ≤ K) (b : List Int) (at_ : Int) (hb : Bytes b) (hl : b.length ≤ 1000000000000) (ha : at_ < 9223372036854775808) (ha0 : -9223372036854775808 ≤ at_) : spec.GetText.f K b at_ = some (gettI b at_) := by
  unfold spec.GetText.f
  refine bind_t (spec_GetNum_eq K hK b at_ hb hl ha ha0) ?_
  unfold gettI
  by_cases h : (getI b at_).2.2 = true
  · obtain ⟨g1, g2, g3, g4, g5⟩ := getI_ok hb h
    have e1 : w64 ((b.length : Int) - (getI b at_).2.1) = (b.length : Int) - (getI b at_).2.1 := w64_id (by omega) (by omega)
    have e2 : w64 ((getI b at_).2.1 + (getI b at_).1) = (getI b at_).2.1 + (getI b at_).1 := w64_id (by omega) (by omega)
    have e3 : ((getI b at_).2.1 + (getI b at_).1).toNat - (getI b at_).2.1.toNat = (getI b at_).1.toNat := by omega
    simp only [e1, e2, e3]
    refine br_t h ?_
    by_cases c1 : (getI b at_).1 > 400
    · rw [if_neg (by omega)]
      exact br_d c1 rfl
    · refine br_n c1 ?_
      by_cases c2 : (getI b at_).1 > (b.length : Int) - (getI b at_).2.1
      · rw [if_neg (by omega)]
        exact br_d c2 rfl
      · rw [if_pos ⟨h, by omega, by omega⟩]
        exact br_n c2 (ck_t (by omega) (ck_t (by omega) (ck_t (by omega) (ck_t (by omega) rfl))))
  · rw [if_neg (fun hh => h hh.1)]
    exact br_f (by simpa using h) rfl
theorem impl_GetText_eq (K : Nat) (hK : 10000000000000 ≤ K) (b : List Int) (at_ : Int) (hb : Bytes b) (hl : b.length ≤ 1000000000000) (ha : at_ < 9223372036854775808) (ha0 : -9223372036854775808 ≤ at_) : impl.GetText.f K b at_ = some (gettI b at_) := by
  unfold impl.GetText.f
  refine bind_t (impl_GetNum_eq K hK b at_ hb hl ha ha0) ?_
  unfold gettI
  by_cases h : (getI b at_).2.2 = true
  · obtain ⟨g1, g2, g3, g4, g5⟩ := getI_ok hb h
    have e1 : w64 ((b.length : Int) - (getI b at_).2.1) = (b.length : Int) - (getI b at_).2.1 := w64_id (by omega) (by omega)
    have e2 : w64 ((getI b at_).2.1 + (getI b at_).1) = (getI b at_).2.1 + (getI b at_).1 := w64_id (by omega) (by omega)
    have e3 : ((getI b at_).2.1 + (getI b at_).1).toNat - (getI b at_).2.1.toNat = (getI b at_).1.toNat := by omega
    simp only [e1, e2, e3]
    refine br_t h ?_
    by_cases c1 : (getI b at_).1 > 400
    · rw [if_neg (by omega)]
      exact br_d c1 rfl
    · refine br_n c1 ?_
      by_cases c2 : (getI b at_).1 > (b.length : Int) - (getI b at_).2.1
      · rw [if_neg (by omega)]
        exact br_d c2 rfl
      · rw [if_pos ⟨h, by omega, by omega⟩]
        exact br_n c2 (ck_t (by omega) (ck_t (by omega) (ck_t (by omega) (ck_t (by omega) rfl))))
  · rw [if_neg (fun hh => h hh.1)]
    exact br_f (by simpa using h) rfl
/-! sums -/
theorem spec_Sum_l0 (b : List Int) (hb : Bytes b) (hl : b.length ≤ 1000000000000) : ∀ (f i : Nat) (n : Int), b.length < i + f → i ≤ b.length → 0 ≤ n → n < 1000003 → spec.Sum.l0.f b f n (i : Int) = some (sumF n (b.drop i)) := by
  intro f
  induction f with
  | zero => intro i n h hi; omega
  | succ f ih =>
    intro i n h hi h0 h1
    rw [spec.Sum.l0.f]
    by_cases c : i < b.length
    · have hv := hb.at_ c
      have e1 : w64 ((i : Int) + 1) = ((i + 1 : Nat) : Int) := wsucc (by omega)
      have e2 : w64 (31 * n) = 31 * n := w64_id (by omega) (by omega)
      have e3 : w64 b[i] = b[i] := w64_id (by omega) (by omega)
      have e4 : w64 (31 * n + b[i]) = 31 * n + b[i] := w64_id (by omega) (by omega)
      have e5 : (31 * n + b[i]).tmod 1000003 = (31 * n + b[i]) % 1000003 := Int.tmod_eq_emod_of_nonneg (by omega)
      simp only [Int.toNat_natCast, getD_at c, e1, e2, e3, e4, e5]
      rw [List.drop_eq_getElem_cons c, sumF_cons]
      exact br_d (by omega) (ck_t (by omega) (ih (i + 1) _ (by omega) (by omega) (by omega) (by omega)))
    · rw [List.drop_of_length_le (by omega)]
      exact br_n (by omega) rfl
theorem spec_Sum_eq (K : Nat) (hK : 10000000000000 ≤ K) (b : List Int) (hb : Bytes b) (hl : b.length ≤ 1000000000000) : spec.Sum.f K b = some (sumF 7 b) := by
  unfold spec.Sum.f
  exact bind_t (spec_Sum_l0 b hb hl K 0 7 (by omega) (by omega) (by omega) (by omega)) rfl
/-! sums -/
theorem impl_Sum_l0 (b : List Int) (hb : Bytes b) (hl : b.length ≤ 1000000000000) : ∀ (f i : Nat) (n : Int), b.length < i + f → i ≤ b.length → 0 ≤ n → n < 1000003 → impl.Sum.l0.f b f n (i : Int) = some (sumF n (b.drop i)) := by
  intro f
  induction f with
  | zero => intro i n h hi; omega
  | succ f ih =>
    intro i n h hi h0 h1
    rw [impl.Sum.l0.f]
    by_cases c : i < b.length
    · have hv := hb.at_ c
      have e1 : w64 ((i : Int) + 1) = ((i + 1 : Nat) : Int) := wsucc (by omega)
      have e2 : w64 (31 * n) = 31 * n := w64_id (by omega) (by omega)
      have e3 : w64 b[i] = b[i] := w64_id (by omega) (by omega)
      have e4 : w64 (31 * n + b[i]) = 31 * n + b[i] := w64_id (by omega) (by omega)
      have e5 : (31 * n + b[i]).tmod 1000003 = (31 * n + b[i]) % 1000003 := Int.tmod_eq_emod_of_nonneg (by omega)
      simp only [Int.toNat_natCast, getD_at c, e1, e2, e3, e4, e5]
      rw [List.drop_eq_getElem_cons c, sumF_cons]
      exact br_d (by omega) (ck_t (by omega) (ih (i + 1) _ (by omega) (by omega) (by omega) (by omega)))
    · rw [List.drop_of_length_le (by omega)]
      exact br_n (by omega) rfl
theorem impl_Sum_eq (K : Nat) (hK : 10000000000000 ≤ K) (b : List Int) (hb : Bytes b) (hl : b.length ≤ 1000000000000) : impl.Sum.f K b = some (sumF 7 b) := by
  unfold impl.Sum.f
  exact bind_t (impl_Sum_l0 b hb hl K 0 7 (by omega) (by omega) (by omega) (by omega)) rfl
theorem spec_RecOk_eq (n q : Int) (d : ByteArray) : spec.RecOk.f n q d = some (decide (recOk n q d)) := by
  unfold spec.RecOk.f
  refine bind_t (spec_l1In_eq n 0 25) ?_
  by_cases c : 0 ≤ n ∧ n ≤ 25
  · refine br_d c (bind_t (spec_l1In_eq q 1 1000000000) ?_)
    by_cases c2 : 1 ≤ q ∧ q ≤ 1000000000
    · refine br_d c2 ?_
      congr 1
      exact decide_eq_decide.2 ⟨fun h => ⟨c.1, c.2, c2.1, c2.2, by omega⟩, fun h => by have := h.2.2.2.2; omega⟩
    · exact br_n c2 (by rw [decide_eq_false (fun h => c2 ⟨h.2.2.1, h.2.2.2.1⟩)])
  · exact br_n c (by rw [decide_eq_false (fun h => c ⟨h.1, h.2.1⟩)])
theorem impl_isSector_eq (n : Int) : impl.isSector.f n = some (decide (0 ≤ n ∧ n ≤ 25)) := by
  unfold impl.isSector.f
  exact bind_t (impl_in_eq n 0 25) rfl
theorem impl_RecOk_eq (n q : Int) (d : ByteArray) : impl.RecOk.f n q d = some (decide (recOk n q d)) := by
  unfold impl.RecOk.f
  refine bind_t (impl_isSector_eq n) ?_
  by_cases c : 0 ≤ n ∧ n ≤ 25
  · refine br_d c (bind_t (impl_in_eq q 1 1000000000) ?_)
    by_cases c2 : 1 ≤ q ∧ q ≤ 1000000000
    · refine br_d c2 ?_
      congr 1
      exact decide_eq_decide.2 ⟨fun h => ⟨c.1, c.2, c2.1, c2.2, by omega⟩, fun h => by have := h.2.2.2.2; omega⟩
    · exact br_n c2 (by rw [decide_eq_false (fun h => c2 ⟨h.2.2.1, h.2.2.2.1⟩)])
  · exact br_n c (by rw [decide_eq_false (fun h => c ⟨h.1, h.2.1⟩)])
theorem spec_RecText_eq (K : Nat) (hK : 10000000000000 ≤ K) (n q : Int) (d : ByteArray) : spec.RecText.f K n q d = some (if recOk n q d then ofBytes (recI n q d) else noVal) := by
  unfold spec.RecText.f
  refine bind_t (spec_RecOk_eq n q d) ?_
  by_cases c : recOk n q d
  · rw [if_pos c]
    have hd : d.size ≤ 400 := c.2.2.2.2
    have h1 := putI_length n
    have h2 := putI_length q
    have h4 := putI_length d.size
    have e : (putI n ++ putI q) ++ puttI d = recB n q d := rfl
    have hl : (recB n q d).length ≤ 415 := by rw [← e, puttI]; simp only [List.length_append, bytesL_len]; omega
    have h5 := putI_length (sumF 7 (recB n q d))
    refine br_d c (bind_t (spec_PutNum_eq K hK n) (bind_t (spec_PutNum_eq K hK q) (ck_t (by rw [List.length_append]; omega) (bind_t (spec_PutText_eq K hK d) ?_))))
    rw [if_pos hd]
    rw [show putI d.size ++ bytesL d = puttI d from rfl, e]
    exact ck_t (by omega) (bind_t (spec_Sum_eq K hK _ (recB_bytes n q d) (by omega)) (bind_t (spec_PutNum_eq K hK _) (ck_t (by rw [List.length_append]; omega) rfl)))
  · rw [if_neg c]
    exact br_n c rfl
theorem getI_small {b : List Int} {a : Int} (hb : Bytes b) (h : (getI b a).2.2 = true) : 0 ≤ (getI b a).2.1 ∧ (getI b a).2.1 ≤ b.length := by
  have := getI_ok hb h
  omega
theorem spec_RecRead_eq (K : Nat) (hK : 10000000000000 ≤ K) (s : ByteArray) (hs : s.size ≤ 1000000000000) : spec.RecRead.f K s = some (recR (bytesL s)) := by
  have hb := bytesL_ok s
  have hl : (bytesL s).length ≤ 1000000000000 := by rw [bytesL_len]; exact hs
  have G : ∀ a : Int, 0 ≤ a → a ≤ (bytesL s).length → spec.GetNum.f K (bytesL s) a = some (getI (bytesL s) a) := fun a h0 h1 => spec_GetNum_eq K hK _ a hb hl (by omega) (by omega)
  unfold spec.RecRead.f recR
  refine bind_t (G 0 (by omega) (by omega)) ?_
  by_cases c1 : (getI (bytesL s) 0).2.2 = true
  case neg => rw [if_neg (fun h => c1 h.1)]; exact br_f (by simpa using c1) rfl
  obtain ⟨b1, b2⟩ := getI_small hb c1
  refine br_t c1 (bind_t (G _ b1 b2) ?_)
  by_cases c2 : (getI (bytesL s) (getI (bytesL s) 0).2.1).2.2 = true
  case neg => rw [if_neg (fun h => c2 h.2.1)]; exact br_f (by simpa using c2) rfl
  obtain ⟨b3, b4⟩ := getI_small hb c2
  refine br_t c2 (bind_t (G _ b3 b4) ?_)
  by_cases c3 : (getI (bytesL s) (getI (bytesL s) (getI (bytesL s) 0).2.1).2.1).2.2 = true
  case neg => rw [if_neg (fun h => c3 h.2.2.1)]; exact br_f (by simpa using c3) rfl
  obtain ⟨b5, b6⟩ := getI_small hb c3
  refine br_t c3 (bind_t (spec_GetText_eq K hK _ _ hb hl (by omega) (by omega)) ?_)
  by_cases c4 : (gettI (bytesL s) (getI (bytesL s) (getI (bytesL s) (getI (bytesL s) 0).2.1).2.1).2.1).2.2 = true
  case neg => rw [if_neg (fun h => c4 h.2.2.2.1)]; exact br_f (by simpa using c4) rfl
  refine br_t c4 (bind_t (spec_RecText_eq K hK _ _ _) ?_)
  generalize (getI (bytesL s) (getI (bytesL s) 0).2.1).1 = n
  generalize (getI (bytesL s) (getI (bytesL s) (getI (bytesL s) 0).2.1).2.1).1 = q
  rw [show (gettI (bytesL s) (getI (bytesL s) (getI (bytesL s) (getI (bytesL s) 0).2.1).2.1).2.1) = (gettI (bytesL s) (getI (bytesL s) (getI (bytesL s) (getI (bytesL s) 0).2.1).2.1).2.1) from rfl]
  generalize (gettI (bytesL s) (getI (bytesL s) (getI (bytesL s) (getI (bytesL s) 0).2.1).2.1).2.1) = x4 at c4 ⊢
  have h0 : (getI (bytesL s) 0).2.2 = true := c1
  by_cases c5 : recOk n q x4.1
  · rw [if_pos c5]
    by_cases c6 : recI n q x4.1 = bytesL s
    · rw [if_pos ⟨c1, c2, c3, c4, c5, c6⟩]
      refine br_t ?_ rfl
      rw [c6, ofBytes_bytesL]; exact strEq_self s
    · rw [if_neg (fun h => c6 h.2.2.2.2.2)]
      refine br_f ?_ rfl
      rw [← Bool.not_eq_true, strEq_iff]
      intro e
      exact c6 (by rw [← e, bytesL_ofBytes (recI_bytes _ _ _)])
  · rw [if_neg c5, if_neg (fun h => c5 h.2.2.2.2.1)]
    refine br_f ?_ rfl
    rw [← Bool.not_eq_true, strEq_iff]
    intro e
    have : (bytesL s).length = 0 := by rw [bytesL_len, ← e]; rfl
    have hg := getI_ok hb c1
    omega
def numR (b : List Int) (at_ : Int) (bad : Bool) : Int × Int × Bool := if bad then (0, at_, true) else if (getI b at_).2.2 then ((getI b at_).1, (getI b at_).2.1, false) else (0, at_, true)
def textR (b : List Int) (at_ : Int) (bad : Bool) : ByteArray × Int × Bool := if bad then (noVal, at_, true) else if (gettI b at_).2.2 then ((gettI b at_).1, (gettI b at_).2.1, false) else (noVal, at_, true)
theorem gettI_small {b : List Int} {a : Int} (hb : Bytes b) (ha : 0 ≤ a) (h : (gettI b a).2.2 = true) : a < (gettI b a).2.1 ∧ (gettI b a).2.1 ≤ b.length := by
  obtain ⟨a, rfl⟩ := Int.eq_ofNat_of_zero_le ha
  obtain ⟨d, r, h1, h2, h3⟩ := gettI_inv hb h
  rw [h3]
  have h4 := congrArg List.length h2
  have h5 := putI_pos (n := d.size) (by omega) (by omega)
  have h6 : (puttI d).length = (putI d.size).length + d.size := by rw [puttI, List.length_append, bytesL_len]
  rw [List.length_drop, List.length_append] at h4
  simp only
  omega
theorem numR_small {b : List Int} {a : Int} (bad : Bool) (hb : Bytes b) (h0 : 0 ≤ a) (h1 : a ≤ b.length) : 0 ≤ (numR b a bad).2.1 ∧ (numR b a bad).2.1 ≤ b.length := by
  unfold numR
  split
  · exact ⟨h0, h1⟩
  · split
    · rename_i h; have := getI_ok hb h; simp only; omega
    · exact ⟨h0, h1⟩
theorem textR_small {b : List Int} {a : Int} (bad : Bool) (hb : Bytes b) (h0 : 0 ≤ a) (h1 : a ≤ b.length) : 0 ≤ (textR b a bad).2.1 ∧ (textR b a bad).2.1 ≤ b.length := by
  unfold textR
  split
  · exact ⟨h0, h1⟩
  · split
    · rename_i h; have := gettI_small hb h0 h; simp only; omega
    · exact ⟨h0, h1⟩
theorem impl_number_eq (K : Nat) (hK : 10000000000000 ≤ K) (b : List Int) (at_ : Int) (bad : Bool) (hb : Bytes b) (hl : b.length ≤ 1000000000000) (h0 : 0 ≤ at_) (h1 : at_ ≤ b.length) : impl.reader.number.f K b at_ bad = some (numR b at_ bad) := by
  unfold impl.reader.number.f numR
  refine bind_t (impl_GetNum_eq K hK b at_ hb hl (by omega) (by omega)) ?_
  cases bad with
  | true => rfl
  | false =>
    cases h : (getI b at_).2.2 <;> simp
theorem impl_text_eq (K : Nat) (hK : 10000000000000 ≤ K) (b : List Int) (at_ : Int) (bad : Bool) (hb : Bytes b) (hl : b.length ≤ 1000000000000) (h0 : 0 ≤ at_) (h1 : at_ ≤ b.length) : impl.reader.text.f K b at_ bad = some (textR b at_ bad) := by
  unfold impl.reader.text.f textR
  refine bind_t (impl_GetText_eq K hK b at_ hb hl (by omega) (by omega)) ?_
  cases bad with
  | true => rfl
  | false =>
    cases h : (gettI b at_).2.2 <;> simp
theorem impl_done_eq (b : List Int) (at_ : Int) (bad : Bool) : impl.reader.done.f b at_ bad = some (!bad && at_ == (b.length : Int)) := by
  unfold impl.reader.done.f
  cases bad <;> rfl
/-- A reader behind a sum. -/
def sumR (b : List Int) : Int × Bool := if (getI b 0).2.2 then ((getI b 0).2.1, (getI b 0).1 != sumF 7 (b.drop (getI b 0).2.1.toNat)) else (0, true)
theorem sumR_small {b : List Int} (hb : Bytes b) : 0 ≤ (sumR b).1 ∧ (sumR b).1 ≤ b.length := by
  unfold sumR
  split
  · rename_i h; have := getI_ok hb h; simp only; omega
  · simp
theorem impl_unsummed_eq (K : Nat) (hK : 10000000000000 ≤ K) (s : ByteArray) (hs : s.size ≤ 1000000000000) : impl.unsummed.f K s = some (sumR (bytesL s)) := by
  have hb := bytesL_ok s
  have hl : (bytesL s).length ≤ 1000000000000 := by rw [bytesL_len]; exact hs
  unfold impl.unsummed.f sumR
  refine bind_t (impl_number_eq K hK _ 0 false hb hl (by omega) (by omega)) ?_
  by_cases c : (getI (bytesL s) 0).2.2 = true
  · have hn : numR (bytesL s) 0 false = ((getI (bytesL s) 0).1, (getI (bytesL s) 0).2.1, false) := by unfold numR; simp [c]
    obtain ⟨g1, g2, g3, g4, g5⟩ := getI_ok hb c
    rw [hn, if_pos c]
    have ht : (((bytesL s).drop (getI (bytesL s) 0).2.1.toNat).take ((bytesL s).length - (getI (bytesL s) 0).2.1.toNat)) = (bytesL s).drop (getI (bytesL s) 0).2.1.toNat := List.take_of_length_le (by simp)
    simp only [ht]
    refine br_f rfl (ck_t (by omega) (ck_t (by omega) (bind_t (impl_Sum_eq K hK _ (hb.drop _) (by rw [List.length_drop]; omega)) (ck_t (by omega) rfl))))
  · have hn : numR (bytesL s) 0 false = (0, 0, true) := by unfold numR; simp [c]
    rw [hn, if_neg c]
    exact br_t rfl rfl
theorem numR_no {b : List Int} {a : Int} (h : ¬ (getI b a).2.2 = true) : numR b a false = (0, a, true) := by
  unfold numR
  rw [if_neg (by decide), if_neg h]
theorem textR_no {b : List Int} {a : Int} (h : ¬ (gettI b a).2.2 = true) : textR b a false = (noVal, a, true) := by
  unfold textR
  rw [if_neg (by decide), if_neg h]
theorem impl_RecRead_eq (K : Nat) (hK : 10000000000000 ≤ K) (s : ByteArray) (hs : s.size ≤ 1000000000000) : impl.RecRead.f K s = some (recR (bytesL s)) := by
  have hb := bytesL_ok s
  have hl : (bytesL s).length ≤ 1000000000000 := by rw [bytesL_len]; exact hs
  unfold impl.RecRead.f
  generalize hB : bytesL s = b at hb hl
  have u1 := sumR_small hb
  have u2 := numR_small (sumR b).2 hb u1.1 u1.2
  have u3 := numR_small (numR b (sumR b).1 (sumR b).2).2.2 hb u2.1 u2.2
  refine bind_t (by rw [impl_unsummed_eq K hK s hs, hB]) (bind_t (impl_number_eq K hK b _ _ hb hl u1.1 u1.2) (bind_t (impl_number_eq K hK b _ _ hb hl u2.1 u2.2) (bind_t (impl_text_eq K hK b _ _ hb hl u3.1 u3.2) (bind_t (impl_done_eq b _ _) ?_))))
  -- what the law says of the bytes
  by_cases hx : ∃ n q d, recOk n q d ∧ b = recI n q d
  · obtain ⟨n, q, d, h1, h2⟩ := hx
    obtain ⟨a1, a2, a3, f0, fa, f1, f2, f3⟩ := recI_gets h1 []
    rw [List.append_nil, ← h2] at f0 f1 f2 f3
    have hsum : sumR b = ((a1 : Int), false) := by
      unfold sumR
      rw [f0]
      simp only [if_true, Int.toNat_natCast]
      rw [fa, h2, recI_drop1]
      simp
    have n2 : numR b a1 false = (n, (a2 : Int), false) := by unfold numR; rw [f1]; simp
    have n3 : numR b a2 false = (q, (a3 : Int), false) := by unfold numR; rw [f2]; simp
    have n4 : textR b a3 false = (d, (b.length : Int), false) := by unfold textR; rw [f3]; simp
    rw [hsum]
    simp only [n2, n3, n4]
    refine br_t (by simp) (bind_t (impl_RecOk_eq n q d) (br_d h1 ?_))
    rw [h2, recR_of h1]
  · have hr : recR b = (0, 0, noVal, false) := by
      rcases recR_cases b with ⟨n, q, d, h1, h2, _⟩ | h
      · exact absurd ⟨n, q, d, h1, h2⟩ hx
      · exact h.1
    rw [hr]
    by_cases c0 : (getI b 0).2.2 = true ∧ (getI b 0).1 = sumF 7 (b.drop (getI b 0).2.1.toNat)
    case neg =>
      have hs2 : (sumR b).2 = true := by
        unfold sumR
        by_cases c : (getI b 0).2.2 = true
        · rw [if_pos c]; simp; exact fun h => c0 ⟨c, h⟩
        · rw [if_neg c]
      have b2 : (numR b (sumR b).1 (sumR b).2).2.2 = true := by unfold numR; rw [hs2]; rfl
      have b3 : (numR b (numR b (sumR b).1 (sumR b).2).2.1 (numR b (sumR b).1 (sumR b).2).2.2).2.2 = true := by rw [b2]; rfl
      have b4 : (textR b (numR b (numR b (sumR b).1 (sumR b).2).2.1 (numR b (sumR b).1 (sumR b).2).2.2).2.1 (numR b (numR b (sumR b).1 (sumR b).2).2.1 (numR b (sumR b).1 (sumR b).2).2.2).2.2).2.2 = true := by rw [b3]; rfl
      exact br_f (by rw [b4]; rfl) rfl
    obtain ⟨sm, r1, s1, s2, s3, s4⟩ := getI_inv (a := 0) hb c0.1
    have hsum : sumR b = (((putI sm).length : Int), false) := by
      unfold sumR
      rw [if_pos c0.1]
      have e := c0.2
      have s4' : getI b 0 = (sm, ((putI sm).length : Int), true) := by simpa using s4
      rw [s4'] at e ⊢
      simp only at e ⊢
      rw [← e]; simp
    have s3' : b.drop (putI sm).length = r1 := by
      have : b = putI sm ++ r1 := by simpa using s3
      rw [this, List.drop_left]
    rw [hsum]
    by_cases c1 : (getI b ((putI sm).length : Int)).2.2 = true
    case neg =>
      have b2 : (numR b ((putI sm).length : Int) false) = (0, ((putI sm).length : Int), true) := numR_no c1
      simp only [b2]
      exact br_f (by simp [numR, textR]) rfl
    obtain ⟨n, r2, n1, n2, n3, n4⟩ := getI_inv hb c1
    have m1 : numR b ((putI sm).length : Int) false = (n, ((putI sm).length : Int) + (putI n).length, false) := by unfold numR; rw [n4]; simp
    simp only [m1]
    rw [← Int.natCast_add]
    by_cases c2 : (getI b (((putI sm).length + (putI n).length : Nat) : Int)).2.2 = true
    case neg =>
      have b2 : (numR b (((putI sm).length + (putI n).length : Nat) : Int) false) = (0, (((putI sm).length + (putI n).length : Nat) : Int), true) := numR_no c2
      simp only [b2]
      exact br_f (by simp [numR, textR]) rfl
    obtain ⟨q, r3, q1, q2, q3, q4⟩ := getI_inv hb c2
    have m2 : numR b (((putI sm).length + (putI n).length : Nat) : Int) false = (q, (((putI sm).length + (putI n).length : Nat) : Int) + (putI q).length, false) := by unfold numR; rw [q4]; simp
    simp only [m2]
    rw [← Int.natCast_add]
    by_cases c3 : (gettI b (((putI sm).length + (putI n).length + (putI q).length : Nat) : Int)).2.2 = true
    case neg =>
      have b2 : (textR b (((putI sm).length + (putI n).length + (putI q).length : Nat) : Int) false) = (noVal, (((putI sm).length + (putI n).length + (putI q).length : Nat) : Int), true) := textR_no c3
      simp only [b2]
      exact br_f (by simp) rfl
    obtain ⟨d, r4, d1, d2, d3⟩ := gettI_inv hb c3
    have m3 : textR b (((putI sm).length + (putI n).length + (putI q).length : Nat) : Int) false = (d, (((putI sm).length + (putI n).length + (putI q).length : Nat) : Int) + (puttI d).length, false) := by unfold textR; rw [d3]; simp
    simp only [m3]
    have hfull : b = putI sm ++ (putI n ++ (putI q ++ (puttI d ++ r4))) := by
      have e0 : b = putI sm ++ r1 := by simpa using s3
      have e1 : r1 = putI n ++ r2 := by rw [← s3', n3]
      have e2 : r2 = putI q ++ r3 := by
        have := q3
        rw [← List.drop_drop, n3, List.drop_left] at this
        exact this
      have e3 : r3 = puttI d ++ r4 := by
        have := d2
        rw [← List.drop_drop, q3, List.drop_left] at this
        exact this
      rw [← e3, ← e2, ← e1]; exact e0
    by_cases c4 : (((putI sm).length + (putI n).length + (putI q).length : Nat) : Int) + (puttI d).length = (b.length : Int)
    case neg => exact br_f (by simp only [Bool.not_false, Bool.true_and]; exact beq_eq_false_iff_ne.2 c4) rfl
    refine br_t (by simp only [Bool.not_false, Bool.true_and]; exact beq_iff_eq.2 c4) (bind_t (impl_RecOk_eq n q d) ?_)
    by_cases c5 : recOk n q d
    case neg => exact br_n c5 rfl
    exfalso
    have hlen := congrArg List.length hfull
    simp only [List.length_append] at hlen
    have hr4 : r4 = [] := List.eq_nil_of_length_eq_zero (by omega)
    have hb2 : b = putI sm ++ recB n q d := by rw [hfull, hr4]; simp [recB]
    refine hx ⟨n, q, d, c5, ?_⟩
    have e := c0.2
    have s4' : getI b 0 = (sm, ((putI sm).length : Int), true) := by simpa using s4
    rw [s4'] at e
    simp only [Int.toNat_natCast] at e
    rw [hb2, List.drop_left] at e
    rw [hb2, e]; rfl
theorem impl_Grow_eq (n : Int) (h0 : 0 ≤ n) (h1 : n ≤ 70368744177664) : ∃ l, slices.Grow_byte_byte.f n = some (l, 0) := by
  unfold slices.Grow_byte_byte.f
  have e : w64 (n - 0) = n := by rw [w64_id (by omega) (by omega)]; omega
  rw [e]
  by_cases c : n > 0
  · exact ⟨_, br_n (by omega) (br_d c (ck_t (by omega) rfl))⟩
  · exact ⟨_, br_n (by omega) (br_n c rfl)⟩
theorem impl_Concat2_eq (a b : List Int) (h : a.length + b.length ≤ 70368744177664) : slices.Concat_byte_byte_1.f a b = some (a ++ b) := by
  unfold slices.Concat_byte_byte_1.f
  have e0 : w64 (0 + (a.length : Int)) = (a.length : Int) := by rw [w64_id (by omega) (by omega)]; omega
  have e1 : w64 ((a.length : Int) + (b.length : Int)) = ((a.length + b.length : Nat) : Int) := by rw [w64_id (by omega) (by omega)]; omega
  simp only [e0, e1]
  obtain ⟨l, hl⟩ := impl_Grow_eq ((a.length + b.length : Nat) : Int) (by omega) (by omega)
  refine ck_t (by decide) (br_n (by omega) (ck_t (by decide) (br_n (by omega) (bind_t hl ?_))))
  have : ((l.drop 0).take 0 : List Int) = [] := List.take_zero ..
  simp only [this, List.nil_append]
  exact ck_t (by omega) (ck_t (by omega) (ck_t (by rw [List.length_append]; omega) rfl))
theorem impl_Concat3_eq (a b c : List Int) (h : a.length + b.length + c.length ≤ 70368744177664) : slices.Concat_byte_byte.f a b c = some ((a ++ b) ++ c) := by
  unfold slices.Concat_byte_byte.f
  have e0 : w64 (0 + (a.length : Int)) = (a.length : Int) := by rw [w64_id (by omega) (by omega)]; omega
  have e1 : w64 ((a.length : Int) + (b.length : Int)) = ((a.length + b.length : Nat) : Int) := by rw [w64_id (by omega) (by omega)]; omega
  have e2 : w64 (((a.length + b.length : Nat) : Int) + (c.length : Int)) = ((a.length + b.length + c.length : Nat) : Int) := by rw [w64_id (by omega) (by omega)]; omega
  simp only [e0, e1, e2]
  obtain ⟨l, hl⟩ := impl_Grow_eq ((a.length + b.length + c.length : Nat) : Int) (by omega) (by omega)
  refine ck_t (by decide) (br_n (by omega) (ck_t (by decide) (br_n (by omega) (ck_t (by decide) (br_n (by omega) (bind_t hl ?_))))))
  have : ((l.drop 0).take 0 : List Int) = [] := List.take_zero ..
  simp only [this, List.nil_append]
  exact ck_t (by omega) (ck_t (by omega) (ck_t (by rw [List.length_append]; omega) (ck_t (by simp only [List.length_append]; omega) rfl)))
theorem impl_summed_eq (K : Nat) (hK : 10000000000000 ≤ K) (l : List Int) (hb : Bytes l) (hl : l.length ≤ 1000000) : impl.summed.f K l = some (ofBytes (summedI l)) := by
  unfold impl.summed.f
  have := putI_length (sumF 7 l)
  exact bind_t (impl_Sum_eq K hK l hb (by omega)) (bind_t (impl_PutNum_eq K hK _) (bind_t (impl_Concat2_eq _ _ (by omega)) rfl))
theorem and255 (x : Int) : 0 ≤ bits2 .i64 (· &&& ·) x 255 ∧ bits2 .i64 (· &&& ·) x 255 < 256 := by
  unfold bits2
  have h : ((BitVec.ofInt 64 x) &&& (BitVec.ofInt 64 255)).toNat ≤ 255 := by
    rw [BitVec.toNat_and]
    exact Nat.le_trans Nat.and_le_right (by decide)
  have e : IntKind.i64.wrap (((BitVec.ofInt 64 x) &&& (BitVec.ofInt 64 255)).toNat : Int) = (((BitVec.ofInt 64 x) &&& (BitVec.ofInt 64 255)).toNat : Int) := wraps_i64 _ (by omega) (by omega)
  show 0 ≤ IntKind.i64.wrap (((BitVec.ofInt 64 x) &&& (BitVec.ofInt 64 255)).toNat : Int) ∧ IntKind.i64.wrap (((BitVec.ofInt 64 x) &&& (BitVec.ofInt 64 255)).toNat : Int) < 256
  rw [e]
  exact ⟨by omega, by omega⟩
theorem l1New_l0 (b : List Int) (hl : b.length ≤ 1000000000000) : ∀ (f i : Nat) (n : Int), b.length < i + f → i ≤ b.length → ∃ s, spec.l1New.l0.f b f n (i : Int) = some s := by
  intro f
  induction f with
  | zero => intro i n h hi; omega
  | succ f ih =>
    intro i n h hi
    rw [spec.l1New.l0.f]
    by_cases c : i < b.length
    · by_cases d : (i : Int) < 4000
      · obtain ⟨s, g⟩ := ih (i + 1) (bits2 .i64 (· &&& ·) (w64 ((w64 ((w64 (n * 131)) + (w64 (b.getD (i : Int).toNat 0)))) + 7)) 1073741823) (by omega) (by omega)
        refine ⟨s, br_d (by omega) (br_d d (ck_t (by omega) ?_))⟩
        rw [wsucc (by omega)]
        exact g
      · exact ⟨n, br_d (by omega) (br_n d rfl)⟩
    · exact ⟨n, br_n (by omega) rfl⟩
theorem l1New_ok (K : Nat) (hK : 10000000000000 ≤ K) (b : List Int) (hl : b.length ≤ 1000000000000) : ∃ s, spec.l1New.f K b = some s := by
  obtain ⟨s, h⟩ := l1New_l0 b hl K 0 (w64 (19109 + (b.length : Int))) (by omega) (by omega)
  exact ⟨s, bind_t h rfl⟩
theorem l1Byte_ok (b : List Int) (hl : b.length ≤ 1000000000000) (i s : Int) (hi : 0 ≤ i) : ∃ v j, spec.l1Byte.f b i s = some (v, j) ∧ 0 ≤ v ∧ v < 256 ∧ 0 ≤ j := by
  unfold spec.l1Byte.f
  by_cases c : i < (b.length : Int)
  · exact ⟨_, _, br_d c (ck_t hi rfl), (and255 _).1, (and255 _).2, by rw [w64_id (by omega) (by omega)]; omega⟩
  · exact ⟨_, _, br_n c rfl, (and255 _).1, (and255 _).2, hi⟩
theorem l1Below_ok (b : List Int) (hl : b.length ≤ 1000000000000) (i s n : Int) (hi : 0 ≤ i) : ∃ v j t, spec.l1Below.f b i s n = some (v, j, t) ∧ 0 ≤ j ∧ 0 ≤ v ∧ (0 < n → v < n) := by
  unfold spec.l1Below.f
  by_cases c : n ≤ 0
  · exact ⟨0, i, s, br_d c rfl, hi, Int.le_refl _, fun h => by omega⟩
  by_cases d : n ≤ 256
  · obtain ⟨v, j, h1, h2, h3, h4⟩ := l1Byte_ok b hl i s hi
    exact ⟨_, _, _, br_n c (br_d d (bind_t h1 (ck_t (by omega) rfl))), h4, Int.tmod_nonneg _ h2, fun h => Int.tmod_lt_of_pos _ h⟩
  · obtain ⟨v1, j1, a1, a2, a3, a4⟩ := l1Byte_ok b hl i s hi
    obtain ⟨v2, j2, b1, b2, b3, b4⟩ := l1Byte_ok b hl j1 (w64 ((w64 (s * 6364136223846793005)) + 1442695040888963407)) a4
    obtain ⟨v3, j3, c1, c2, c3, c4⟩ := l1Byte_ok b hl j2 (w64 ((w64 ((w64 ((w64 (s * 6364136223846793005)) + 1442695040888963407)) * 6364136223846793005)) + 1442695040888963407)) b4
    obtain ⟨v4, j4, d1, d2, d3, d4⟩ := l1Byte_ok b hl j3 (w64 ((w64 ((w64 ((w64 ((w64 ((w64 (s * 6364136223846793005)) + 1442695040888963407)) * 6364136223846793005)) + 1442695040888963407)) * 6364136223846793005)) + 1442695040888963407)) c4
    refine ⟨_, _, _, br_n c (br_n d (bind_t a1 (bind_t b1 (bind_t c1 (bind_t d1 (ck_t (by omega) rfl)))))), d4, Int.tmod_nonneg _ ?_, fun h => Int.tmod_lt_of_pos _ h⟩
    show 0 ≤ w64 (w64 (w64 (w64 (v1 * 16777216) + w64 (v2 * 65536)) + w64 (v3 * 256)) + v4)
    rw [w64_id (x := v1 * 16777216) (by omega) (by omega), w64_id (x := v2 * 65536) (by omega) (by omega), w64_id (x := v3 * 256) (by omega) (by omega), w64_id (x := v1 * 16777216 + v2 * 65536) (by omega) (by omega), w64_id (x := v1 * 16777216 + v2 * 65536 + v3 * 256) (by omega) (by omega), w64_id (by omega) (by omega)]
    omega
theorem l1Once_ok (b : List Int) (hl : b.length ≤ 1000000000000) (i s n : Int) (hi : 0 ≤ i) : ∃ c j t, spec.l1Once.f b i s n = some (c, j, t) ∧ 0 ≤ j := by
  obtain ⟨v, j, t, h1, h2, _⟩ := l1Below_ok b hl i s n hi
  exact ⟨_, j, t, bind_t h1 rfl, h2⟩
theorem l1PickInt_ok (b : List Int) (hl : b.length ≤ 1000000000000) (i s : Int) (L : List Int) (hi : 0 ≤ i) (h0 : 0 < L.length) : ∃ v j t, spec.l1PickInt.f b i s L = some (v, j, t) ∧ 0 ≤ j ∧ v ∈ L := by
  unfold spec.l1PickInt.f
  obtain ⟨v, j, t, h1, h2, h3, h4⟩ := l1Below_ok b hl i s L.length hi
  have h5 := h4 (by omega)
  refine ⟨_, j, t, bind_t h1 (ck_t h3 (ck_t h5 rfl)), h2, ?_⟩
  show L.getD v.toNat 0 ∈ L
  rw [getD_at (by omega)]
  exact List.getElem_mem _
theorem l1Pick_ok (b : List Int) (hl : b.length ≤ 1000000000000) (i s : Int) (L : List ByteArray) (hi : 0 ≤ i) (h0 : 0 < L.length) : ∃ v j t, spec.l1Pick.f b i s L = some (v, j, t) ∧ 0 ≤ j ∧ v ∈ L := by
  unfold spec.l1Pick.f
  obtain ⟨v, j, t, h1, h2, h3, h4⟩ := l1Below_ok b hl i s L.length hi
  have h5 := h4 (by omega)
  refine ⟨_, j, t, bind_t h1 (ck_t h3 (ck_t h5 rfl)), h2, ?_⟩
  show L.getD v.toNat noVal ∈ L
  rw [getD_at (by omega)]
  exact List.getElem_mem _
theorem l1DrawText_l0 (b : List Int) (hl : b.length ≤ 1000000000000) : ∀ (f : Nat) (i s : Int) (d : ByteArray), 0 ≤ i → 401 < d.size + f → d.size ≤ 401 → ∃ v j t, spec.l1DrawText.l0.f b f i s d = some (v, j, t) ∧ 0 ≤ j ∧ v.size ≤ 401 := by
  intro f
  induction f with
  | zero => intro i s d h1 h2 h3; omega
  | succ f ih =>
    intro i s d h1 h2 h3
    rw [spec.l1DrawText.l0.f]
    obtain ⟨v, j, t, g1, g2, g3, g4⟩ := l1Below_ok b hl i s 2 h1
    have g5 := g4 (by decide)
    have e : w64 (400 + v) = 400 + v := w64_id (by omega) (by omega)
    by_cases c : (d.size : Int) < 400 + v
    · have hz : (d ++ (ByteArray.mk #[113])).size = d.size + 1 := by rw [ByteArray.size_append]; rfl
      obtain ⟨v', j', t', k1, k2, k3⟩ := ih j t (d ++ (ByteArray.mk #[113])) g2 (by omega) (by omega)
      have hs : (ByteArray.mk #[113]).size = 1 := rfl
      exact ⟨v', j', t', bind_t g1 (br_d (by show (d.size : Int) < w64 (400 + v); omega) (ck_t (by rw [hs]; omega) k1)), k2, k3⟩
    · exact ⟨d, j, t, bind_t g1 (br_n (by show ¬ (d.size : Int) < w64 (400 + v); omega) rfl), g2, h3⟩
theorem l1DrawText_ok (K : Nat) (hK : 10000000000000 ≤ K) (b : List Int) (hl : b.length ≤ 1000000000000) (i s : Int) (hi : 0 ≤ i) : ∃ v j t, spec.l1DrawText.f K b i s = some (v, j, t) ∧ 0 ≤ j ∧ v.size ≤ 401 := by
  unfold spec.l1DrawText.f
  obtain ⟨c, j, t, h1, h2⟩ := l1Once_ok b hl i s 20 hi
  cases c with
  | true =>
    obtain ⟨v, j', t', k1, k2, k3⟩ := l1DrawText_l0 b hl K j t noVal h2 (by omega) (by decide)
    exact ⟨v, j', t', bind_t h1 (br_t rfl (bind_t k1 rfl)), k2, k3⟩
  | false =>
    obtain ⟨v, j', t', k1, k2, k3⟩ := l1Pick_ok b hl j t [noVal, (ByteArray.mk #[97]), (ByteArray.mk #[104, 101, 108, 108, 111]), (ByteArray.mk #[116, 119, 111, 32, 119, 111, 114, 100, 115]), (ByteArray.mk #[0, 255]), (ByteArray.mk #[100]), (ByteArray.mk #[102, 100, 97, 116, 97])] h2 (by decide)
    refine ⟨v, j', t', bind_t h1 (br_f rfl (bind_t k1 rfl)), k2, ?_⟩
    simp only [List.mem_cons, List.not_mem_nil, or_false] at k3
    rcases k3 with rfl | rfl | rfl | rfl | rfl | rfl | rfl <;> decide
theorem byteFact {b : List Int} (h : ∀ x ∈ b, (Lit.int .u8 x).wf = true) : Bytes b := by
  intro x hx
  have h2 : (decide (IntKind.u8.min ≤ x) && decide (x ≤ IntKind.u8.max)) = true := h x hx
  rw [Bool.and_eq_true, decide_eq_true_eq, decide_eq_true_eq] at h2
  have e1 : IntKind.u8.min = 0 := by decide
  have e2 : IntKind.u8.max = 255 := by decide
  omega
theorem impl_RecText_eq (K : Nat) (hK : 10000000000000 ≤ K) (n q : Int) (d : ByteArray) : impl.RecText.f K n q d = some (if recOk n q d then ofBytes (recI n q d) else noVal) := by
  unfold impl.RecText.f
  refine bind_t (impl_RecOk_eq n q d) ?_
  by_cases c : recOk n q d
  · rw [if_pos c]
    have h1 := putI_length n
    have h2 := putI_length q
    have h3 := putI_length (d.size : Int)
    have h4 : (puttI d).length ≤ 405 := by unfold puttI; rw [List.length_append, bytesL_len]; have := c.2.2.2.2; omega
    have hp := impl_PutText_eq K hK d
    rw [if_pos c.2.2.2.2] at hp
    have hb := recB_bytes n q d
    refine br_d c (bind_t (impl_PutNum_eq K hK n) (bind_t (impl_PutNum_eq K hK q) (bind_t hp (bind_t (impl_Concat3_eq _ _ (puttI d) (by omega)) (bind_t (impl_summed_eq K hK (recB n q d) hb ?_) rfl)))))
    unfold recB; rw [List.length_append, List.length_append]; omega
  · rw [if_neg c]; exact br_n c rfl
theorem rec_inj {n q n' q' : Int} {d d' : ByteArray} {r r' : List Int} (h : recOk n q d) (h' : recOk n' q' d') (e : recI n q d ++ r = recI n' q' d' ++ r') : recI n q d = recI n' q' d' := by
  obtain ⟨a1, a2, a3, g1, _, g2, g3, g4⟩ := recI_gets h r
  obtain ⟨b1, b2, b3, k1, _, k2, k3, k4⟩ := recI_gets h' r'
  rw [e] at g1 g2 g3 g4
  rw [g1] at k1
  have i1 : (a1 : Int) = (b1 : Int) := congrArg (fun z => z.2.1) k1
  rw [← i1, g2] at k2
  have j1 : n = n' := congrArg (fun z => z.1) k2
  have i2 : (a2 : Int) = (b2 : Int) := congrArg (fun z => z.2.1) k2
  rw [← i2, g3] at k3
  have j2 : q = q' := congrArg (fun z => z.1) k3
  have i3 : (a3 : Int) = (b3 : Int) := congrArg (fun z => z.2.1) k3
  rw [← i3, g4] at k4
  have j3 : d = d' := congrArg (fun z => z.1) k4
  rw [j1, j2, j3]
theorem rec_short {n q : Int} {d : ByteArray} (h : recOk n q d) (k : Nat) (hk : k < (recI n q d).length) : (recR ((recI n q d).take k)).2.2.2 = false := by
  rcases recR_cases ((recI n q d).take k) with ⟨n', q', d', h1, h2, _⟩ | ⟨h1, _⟩
  · have e : recI n' q' d' ++ (recI n q d).drop k = recI n q d ++ [] := by rw [← h2, List.take_append_drop, List.append_nil]
    have e2 := rec_inj h1 h e
    have := congrArg List.length h2
    rw [e2, List.length_take] at this
    omega
  · rw [h1]
theorem bytesL_take (s : ByteArray) (k : Nat) : bytesL (s.extract 0 k) = (bytesL s).take k := by
  unfold bytesL
  rw [ByteArray.data_extract, Array.toList_extract, List.extract_eq_take_drop, List.map_take, List.map_drop, List.drop_zero, Nat.sub_zero]
theorem l3Draw_ok (K : Nat) (hK : 10000000000000 ≤ K) (b : List Int) (hl : b.length ≤ 1000000000000) (i s : Int) (hi : 0 ≤ i) : ∃ n q d j t, spec.l3Draw.f K b i s = some (n, q, d, j, t) ∧ 0 ≤ j ∧ d.size ≤ 401 := by
  unfold spec.l3Draw.f
  obtain ⟨v1, j1, t1, a1, a2, _⟩ := l1Below_ok b hl i s 26 hi
  obtain ⟨v2, j2, t2, b1, b2, _⟩ := l1Below_ok b hl j1 t1 90 a2
  obtain ⟨d, j3, t3, c1, c2, c3⟩ := l1DrawText_ok K hK b hl j2 t2 b2
  obtain ⟨v4, j4, t4, d1, d2, _⟩ := l1Below_ok b hl j3 t3 15 c2
  by_cases e0 : v4 = 0
  · obtain ⟨x, j5, t5, f1, f2, _⟩ := l1PickInt_ok b hl j4 t4 [(-1), 26] d2 (by decide)
    exact ⟨_, _, d, j5, t5, bind_t a1 (bind_t b1 (bind_t c1 (bind_t d1 (br_t (by simpa using e0) (bind_t f1 rfl))))), f2, c3⟩
  have n0 : (v4 == 0) = false := by simpa using e0
  by_cases e1 : v4 = 1
  · obtain ⟨x, j5, t5, f1, f2, _⟩ := l1PickInt_ok b hl j4 t4 [0, 1000000000, 1000000001] d2 (by decide)
    exact ⟨_, _, d, j5, t5, bind_t a1 (bind_t b1 (bind_t c1 (bind_t d1 (br_f n0 (br_t (by simpa using e1) (bind_t f1 rfl)))))), f2, c3⟩
  have n1 : (v4 == 1) = false := by simpa using e1
  exact ⟨_, _, d, j4, t4, bind_t a1 (bind_t b1 (bind_t c1 (bind_t d1 (br_f n0 (br_f n1 rfl))))), d2, c3⟩
theorem DrawRec_ok (K : Nat) (hK : 10000000000000 ≤ K) (b : List Int) (hl : b.length ≤ 1000000000000) : ∃ n q d, spec.DrawRecText.f K b = some (n, q, d) ∧ spec.DrawRecOk.f K b = some (n, q, d) ∧ d.size ≤ 401 := by
  unfold spec.DrawRecText.f spec.DrawRecOk.f
  obtain ⟨s, h1⟩ := l1New_ok K hK b hl
  obtain ⟨n, q, d, j, t, h2, _, h3⟩ := l3Draw_ok K hK b hl 0 s (by decide)
  exact ⟨n, q, d, bind_t h1 (bind_t h2 rfl), bind_t h1 (bind_t h2 rfl), h3⟩
theorem recT_size (n q : Int) (d : ByteArray) : (if recOk n q d then ofBytes (recI n q d) else noVal).size ≤ 420 := by
  by_cases c : recOk n q d
  · rw [if_pos c]
    have h1 := recI_len n q d c.2.2.2.2
    have h2 := bytesL_len (ofBytes (recI n q d))
    rw [bytesL_ofBytes (recI_bytes n q d)] at h2
    omega
  · rw [if_neg c]; decide
theorem DrawRecRead_ok (K : Nat) (hK : 10000000000000 ≤ K) (b : List Int) (hl : b.length ≤ 1000000000000) : ∃ s, spec.DrawRecRead.f K b = some s ∧ s.size ≤ 100000 := by
  unfold spec.DrawRecRead.f
  obtain ⟨s, h1⟩ := l1New_ok K hK b hl
  obtain ⟨n, q, d, j, s', h2, h3, _⟩ := l3Draw_ok K hK b hl 0 s (by decide)
  have h8 := spec_RecText_eq K hK n q d
  have hz := recT_size n q d
  generalize (if recOk n q d then ofBytes (recI n q d) else noVal) = T at h8 hz
  have e : w64 ((T.size : Int) + 1) = (T.size : Int) + 1 := w64_id (by omega) (by omega)
  obtain ⟨v, j2, s2, g1, g2, g3, g4⟩ := l1Below_ok b hl j s' (w64 ((T.size : Int) + 1)) h3
  rw [e] at g4
  have g5 := g4 (by omega)
  obtain ⟨y, j3, s3, k1, k2, k3, k4⟩ := l1Below_ok b hl j2 s2 5 g2
  have hx1 : (T.extract 0 v.toNat).size ≤ 9000 := by rw [ByteArray.size_extract]; omega
  have hx2 : (T.extract v.toNat T.size).size ≤ 9000 := by rw [ByteArray.size_extract]; omega
  by_cases c0 : y = 0
  · exact ⟨_, bind_t h1 (bind_t h2 (bind_t h8 (bind_t g1 (bind_t k1 (br_t (by simpa using c0) (ck_t g3 (ck_t (by show v ≤ _; omega) rfl))))))), by show (T.extract 0 v.toNat).size ≤ _; omega⟩
  have n0 : (y == 0) = false := by simpa using c0
  by_cases c1 : y = 1
  · obtain ⟨x, j4, s4, q1, q2, q3⟩ := l1Pick_ok b hl j3 s3 [(ByteArray.mk #[0]), (ByteArray.mk #[128]), (ByteArray.mk #[97])] k2 (by decide)
    have hxs : x.size ≤ 10 := by
      simp only [List.mem_cons, List.not_mem_nil, or_false] at q3
      rcases q3 with rfl | rfl | rfl <;> decide
    have hx3 : (T.extract 0 v.toNat ++ x).size = (T.extract 0 v.toNat).size + x.size := ByteArray.size_append
    exact ⟨(T.extract 0 v.toNat ++ x) ++ T.extract v.toNat T.size, bind_t h1 (bind_t h2 (bind_t h8 (bind_t g1 (bind_t k1 (br_f n0 (br_t (by simpa using c1) (ck_t g3 (ck_t (by show v ≤ _; omega) (bind_t q1 (ck_t (by show (((T.extract 0 v.toNat).size + x.size : Nat) : Int) ≤ _; omega) (ck_t (by show (((T.extract 0 v.toNat ++ x).size + (T.extract v.toNat T.size).size : Nat) : Int) ≤ _; omega) rfl))))))))))), by rw [ByteArray.size_append]; omega⟩
  have n1 : (y == 1) = false := by simpa using c1
  exact ⟨T, bind_t h1 (bind_t h2 (bind_t h8 (bind_t g1 (bind_t k1 (br_f n0 (br_f n1 rfl)))))), by omega⟩
theorem at_ok (b : List Int) (hb : Bytes b) : ∃ v, laws.at_.f b 1 = some v ∧ 0 ≤ v ∧ v < 256 := by
  unfold laws.at_.f
  by_cases c : 1 < (b.length : Int)
  · have h1 : 1 < b.length := by omega
    have h2 := hb.at_ h1
    refine ⟨_, br_d c (ck_t (by decide) rfl), ?_⟩
    show 0 ≤ w64 (b.getD 1 0) ∧ w64 (b.getD 1 0) < 256
    rw [getD_at h1, w64_id (by omega) (by omega)]
    exact h2
  · refine ⟨_, br_n c rfl, ?_⟩
    have e : w64 (w64 (1 * 7) + (b.length : Int)) = 7 + (b.length : Int) := by rw [w64_id (x := 1 * 7) (by omega) (by omega), w64_id (by omega) (by omega)]; omega
    rw [e]
    exact ⟨Int.tmod_nonneg _ (by omega), Int.tmod_lt_of_pos _ (by decide)⟩
theorem FnRecords_pure (b : List Int) (_ : b.length ≤ maxLen) (hwf : ∀ x ∈ b, (Lit.int .u8 x).wf = true) : laws.FnRecords.f 10000000000000 b = some true := by
  unfold laws.FnRecords.f
  refine bind_t (a := ()) rfl ?_
  by_cases c : (b.length : Int) > 1048576
  · exact br_d c rfl
  have hl : b.length ≤ 1000000000000 := by omega
  have hK : 10000000000000 ≤ 10000000000000 := Nat.le_refl _
  obtain ⟨n, q, d, hd1, hd3, hds⟩ := DrawRec_ok 10000000000000 hK b hl
  obtain ⟨raw, hd2, hrs⟩ := DrawRecRead_ok 10000000000000 hK b hl
  obtain ⟨v, hv, hv0, hv1⟩ := at_ok b (byteFact hwf)
  have i1 := impl_RecText_eq 10000000000000 hK n q d
  have i2 := spec_RecText_eq 10000000000000 hK n q d
  have i3 := impl_RecOk_eq n q d
  have i4 := spec_RecOk_eq n q d
  have r1 := impl_RecRead_eq 10000000000000 hK raw (by omega)
  have r2 := spec_RecRead_eq 10000000000000 hK raw (by omega)
  have hend : (recR (bytesL raw)).2.2.2 = true → impl.RecText.f 10000000000000 (recR (bytesL raw)).1 (recR (bytesL raw)).2.1 (recR (bytesL raw)).2.2.1 = some raw := by
    intro hok
    rcases recR_cases (bytesL raw) with ⟨n', q', d', h1, h2, h3⟩ | ⟨h1, _⟩
    · rw [h3]
      show impl.RecText.f 10000000000000 n' q' d' = some raw
      rw [impl_RecText_eq 10000000000000 hK n' q' d', if_pos h1, ← h2, ofBytes_bytesL]
    · rw [h1] at hok; cases hok
  have hno : (recR (bytesL raw)).2.2.2 = false → recR (bytesL raw) = (0, 0, noVal, false) := by
    intro hok
    rcases recR_cases (bytesL raw) with ⟨n', q', d', h1, h2, h3⟩ | ⟨h1, _⟩
    · rw [h3] at hok; cases hok
    · exact h1
  refine br_n c (bind_t hd1 (bind_t i1 (bind_t i2 (br_t (strEq_self _) (bind_t i3 ?_)))))
  by_cases ok : recOk n q d
  · have hby := recI_bytes n q d
    have hbl : bytesL (ofBytes (recI n q d)) = recI n q d := bytesL_ofBytes hby
    have hsz : (ofBytes (recI n q d)).size = (recI n q d).length := by rw [← bytesL_len, hbl]
    have hlen := recI_len n q d ok.2.2.2.2
    have hpos : 0 < (recI n q d).length := by
      have s := sum_ok (recB n q d)
      have := putI_pos s.1 s.2
      unfold recI summedI; rw [List.length_append]; omega
    have e0 : strEq (ofBytes (recI n q d)) noVal = false := by
      rw [← Bool.not_eq_true, strEq_iff]
      intro h
      have h2 : (ofBytes (recI n q d)).size = 0 := by rw [h]; rfl
      omega
    rw [if_pos ok]
    have x1 := impl_RecRead_eq 10000000000000 hK (ofBytes (recI n q d)) (by omega)
    rw [hbl, recR_of ok] at x1
    have em : w64 (v * ((ofBytes (recI n q d)).size : Int)) = v * ((ofBytes (recI n q d)).size : Int) := by
      have h1 : 0 ≤ v * ((ofBytes (recI n q d)).size : Int) := Int.mul_nonneg hv0 (by omega)
      have h2 : v * ((ofBytes (recI n q d)).size : Int) ≤ 256 * ((ofBytes (recI n q d)).size : Int) := Int.mul_le_mul_of_nonneg_right (by omega) (by omega)
      exact w64_id (by omega) (by omega)
    have h1 : 0 ≤ v * ((ofBytes (recI n q d)).size : Int) := Int.mul_nonneg hv0 (by omega)
    have h2 : v * ((ofBytes (recI n q d)).size : Int) ≤ 255 * ((ofBytes (recI n q d)).size : Int) := Int.mul_le_mul_of_nonneg_right (by omega) (by omega)
    have ek : ∃ k : Nat, w64 ((w64 (v * ((ofBytes (recI n q d)).size : Int))).tdiv 256) = (k : Int) ∧ k < (recI n q d).length := by
      rw [em, Int.tdiv_eq_ediv_of_nonneg h1, w64_id (by omega) (by omega)]
      exact ⟨(v * ((ofBytes (recI n q d)).size : Int) / 256).toNat, by omega, by omega⟩
    obtain ⟨k, ek, hk⟩ := ek
    have x2 := impl_RecRead_eq 10000000000000 hK ((ofBytes (recI n q d)).extract 0 k) (by rw [ByteArray.size_extract]; omega)
    rw [bytesL_take, hbl] at x2
    have x3 := rec_short ok k hk
    refine br_t (by rw [e0, decide_eq_true ok]; rfl) (br_f e0 (bind_t x1 (bind_t hv ?_)))
    rw [ek]
    refine ck_t (by omega) (ck_t (by omega) (bind_t (a := recR ((recI n q d).take k)) (by rw [Int.toNat_natCast]; exact x2) (br_t rfl (br_t (by simp [strEq_self]) (br_f x3 ?_)))))
    refine bind_t hd3 (bind_t hd2 (bind_t r1 (bind_t r2 (bind_t i3 (bind_t i4 (br_t (by simp) (br_t (by simp) ?_)))))))
    cases hx : (recR (bytesL raw)).2.2.2 with
    | true => exact br_t rfl (bind_t (hend hx) (by rw [strEq_self]))
    | false => exact br_f rfl (br_t (by rw [hno hx]; simp [strEq_self]) rfl)
  · have e0 : strEq noVal noVal = true := strEq_self _
    rw [if_neg ok]
    refine br_t (by rw [e0, decide_eq_false ok]; rfl) (br_t e0 ?_)
    refine bind_t hd3 (bind_t hd2 (bind_t r1 (bind_t r2 (bind_t i3 (bind_t i4 (br_t (by simp) (br_t (by simp) ?_)))))))
    cases hx : (recR (bytesL raw)).2.2.2 with
    | true => exact br_t rfl (bind_t (hend hx) (by rw [strEq_self]))
    | false => exact br_f rfl (br_t (by rw [hno hx]; simp [strEq_self]) rfl)
end Go.Proofs.Ythneilmhnbboeaa.Pure
