/- The law FnExactLives, in plain words: its function answers true. -/
import Derived.Test.YtenhjfemghpciaaGFnExactLives
import Derived.Test.YtenhjfemghpciaaDenMod
import Derived.KernelRfl
namespace Go.Proofs.Ytenhjfemghpciaa.Pure
open Go Go.RowKit Go.Proofs.Ytenhjfemghpciaa.Den Go.Proofs.Ytenhjfemghpciaa.GFnExactLives
set_option linter.unusedSimpArgs false
set_option linter.unusedVariables false
theorem nat_tmod (n m : Nat) : ((n : Int).tmod (m : Int)) = ((n % m : Nat) : Int) := (Int.ofNat_tmod n m).symm
theorem nat_tdiv (n m : Nat) : ((n : Int).tdiv (m : Int)) = ((n / m : Nat) : Int) := (Int.ofNat_tdiv n m).symm
theorem impl_in_eq (n lo hi : Int) : impl.in_.f n lo hi = some (decide (lo ≤ n ∧ n ≤ hi)) := by
  unfold impl.in_.f
  by_cases c : n ≥ lo
  · refine br_d c ?_
    by_cases d : n ≤ hi
    · rw [decide_eq_true d, decide_eq_true ⟨c, d⟩]
    · rw [decide_eq_false d, decide_eq_false (fun h => d h.2)]
  · refine br_n c ?_
    rw [decide_eq_false (fun h => c h.1)]
theorem spec_l1In_eq (n lo hi : Int) : spec.l1In.f n lo hi = some (decide (lo ≤ n ∧ n ≤ hi)) := by
  unfold spec.l1In.f
  by_cases c : n ≥ lo
  · refine br_d c ?_
    by_cases d : n ≤ hi
    · rw [decide_eq_true d, decide_eq_true ⟨c, d⟩]
    · rw [decide_eq_false d, decide_eq_false (fun h => d h.2)]
  · refine br_n c ?_
    rw [decide_eq_false (fun h => c h.1)]
/-- What a search for a number answers, inside the loop or behind it. -/
def numOut : ((Int × Int × Bool) ⊕ Unit) → Int × Int × Bool := Sum.elim id (fun _ => (0, 0, false))
theorem spec_GetNum_l0 (b : List Int) (hb : Bytes b) (hl : b.length ≤ 1000000000000) (a : Nat) (ha : a < 9223372036854775808) : ∀ (f k q : Nat) (n : Int), f + k = 5 → f < q → 0 ≤ n → n < 128 ^ k →
    ∃ x, spec.GetNum.l0.f b (a : Int) q n (k : Int) = some x ∧ numOut x = getR (a : Int) (getF f k n (b.drop (a + k))) := by
  intro f
  induction f with
  | zero =>
    intro k q n hk hq h0 h1
    obtain ⟨q, rfl⟩ := Nat.exists_eq_add_one_of_ne_zero (by omega : q ≠ 0)
    refine ⟨.inr (), ?_, rfl⟩
    rw [spec.GetNum.l0.f]
    exact br_n (by omega) rfl
  | succ f ih =>
    intro k q n hk hq h0 h1
    obtain ⟨q, rfl⟩ := Nat.exists_eq_add_one_of_ne_zero (by omega : q ≠ 0)
    rw [spec.GetNum.l0.f]
    by_cases h : a + k < b.length
    · have hv := hb.at_ h
      have hp : (0 : Int) < 128 ^ k := Int.pow_pos (by decide)
      have hp4 : (128 : Int) ^ k ≤ 128 ^ 4 := by
        have : (128 : Nat) ^ k ≤ 128 ^ 4 := Nat.pow_le_pow_right (by decide) (by omega)
        exact_mod_cast this
      have hm : b[a + k] % 128 * 128 ^ k ≤ 127 * 128 ^ k := Int.mul_le_mul_of_nonneg_right (by omega) (by omega)
      have hm0 : 0 ≤ b[a + k] % 128 * 128 ^ k := Int.mul_nonneg (by omega) (by omega)
      rw [List.drop_eq_getElem_cons h]
      have e1 : w64 ((a : Int) + k) = ((a + k : Nat) : Int) := by rw [w64_id (by omega) (by omega)]; omega
      have e2 : w64 ((b.length : Int) - k) = (b.length : Int) - k := w64_id (by omega) (by omega)
      have e3 : w64 (7 * (k : Int)) = 7 * (k : Int) := w64_id (by omega) (by omega)
      have e4 : b.getD (a + k) 0 = b[a + k] := getD_at h 0
      have e5 : w64 b[a + k] = b[a + k] := w64_id (by omega) (by omega)
      have e6 : b[a + k].tmod 128 = b[a + k] % 128 := Int.tmod_eq_emod_of_nonneg (by omega)
      have e7 := or_shl k (by omega) h0 h1 (d := b[a + k] % 128) (by omega) (by omega)
      have e8 : w64 (((a + k : Nat) : Int) + 1) = (a : Int) + ((k : Int) + 1) := by rw [w64_id (by omega) (by omega)]; omega
      have e9 : w64 ((k : Int) + 1) = ((k + 1 : Nat) : Int) := wsucc (by omega)
      simp only [e1, e2, e3, Int.toNat_natCast, e4, e5, e6, e7, e8, e9]
      unfold getF
      by_cases c : b[a + k] ≥ 128
      · rw [if_pos c]
        have hlt : n + b[a + k] % 128 * 128 ^ k < 128 ^ (k + 1) := by
          rw [Int.pow_succ]
          omega
        obtain ⟨x, hx, hr⟩ := ih (k + 1) q (n + b[a + k] % 128 * 128 ^ k) (by omega) (by omega) (by omega) hlt
        exact ⟨x, br_d (by omega) (br_n (by omega) (br_n (by omega) (ck_t (by omega) (ck_t (by omega) (ck_t (by omega) (br_n (by omega) hx)))))), hr⟩
      · rw [if_neg c]
        have pre : ∀ {X Y : Option ((Int × Int × Bool) ⊕ Unit)} {r}, X = r → cond (decide ((k : Int) < 5)) (cond (decide ((a : Int) < 0)) (some (.inl (0, 0, false))) (cond (decide ((a : Int) ≥ (b.length : Int) - k)) (some (.inl (0, 0, false))) (ck (0 ≤ ((a + k : Nat) : Int)) (ck (((a + k : Nat) : Int) < (b.length : Int)) (ck (0 ≤ 7 * (k : Int)) (cond (decide (b[a + k] < 128)) X Y)))))) (some (.inr ())) = r := fun hx =>
          br_d (by omega) (br_n (by omega) (br_n (by omega) (ck_t (by omega) (ck_t (by omega) (ck_t (by omega) (br_d (by omega) hx))))))
        by_cases c0 : b[a + k] = 0 ∧ k > 0
        · rw [if_pos c0]
          exact ⟨.inl (0, 0, false), pre (br_d (by omega) (br_t (by rw [c0.1]; rfl) rfl)), rfl⟩
        · rw [if_neg c0]
          by_cases cm : n + b[a + k] % 128 * 128 ^ k > 1000000000
          · rw [if_pos cm]
            by_cases ck0 : (k : Int) > 0
            · exact ⟨.inl (0, 0, false), pre (br_d ck0 (br_f (by rw [beq_eq_false_iff_ne]; intro h; exact c0 ⟨h, by omega⟩) (br_d cm rfl))), rfl⟩
            · exact ⟨.inl (0, 0, false), pre (br_n ck0 (br_d cm rfl)), rfl⟩
          · rw [if_neg cm]
            by_cases ck0 : (k : Int) > 0
            · exact ⟨.inl (_, _, true), pre (br_d ck0 (br_f (by rw [beq_eq_false_iff_ne]; intro h; exact c0 ⟨h, by omega⟩) (br_n cm rfl))), rfl⟩
            · exact ⟨.inl (_, _, true), pre (br_n ck0 (br_n cm rfl)), rfl⟩
    · rw [List.drop_of_length_le (by omega)]
      refine ⟨.inl (0, 0, false), br_d (by omega) (br_n (by omega) (br_d ?_ rfl)), rfl⟩
      rw [w64_id (by omega) (by omega)]
      omega
theorem spec_GetNum_eq (K : Nat) (hK : 10000000000000 ≤ K) (b : List Int) (at_ : Int) (hb : Bytes b) (hl : b.length ≤ 1000000000000) (ha : at_ < 9223372036854775808) (ha0 : -9223372036854775808 ≤ at_) : spec.GetNum.f K b at_ = some (getI b at_) := by
  unfold spec.GetNum.f
  obtain ⟨K, rfl⟩ := Nat.exists_eq_add_one_of_ne_zero (by omega : K ≠ 0)
  by_cases c : at_ < 0
  · refine bind_t (a := .inl (0, 0, false)) ?_ ?_
    · rw [spec.GetNum.l0.f]
      exact br_d (by decide) (br_d c rfl)
    · unfold getI
      rw [if_pos c]
      rfl
  · obtain ⟨a, rfl⟩ := Int.eq_ofNat_of_zero_le (by omega : 0 ≤ at_)
    obtain ⟨x, h1, h2⟩ := spec_GetNum_l0 b hb hl a (by omega) 5 0 (K + 1) 0 rfl (by omega) (by decide) (by decide)
    refine bind_t h1 ?_
    rw [getI_at]
    rw [show a + 0 = a from rfl] at h2
    rw [← h2]
    cases x <;> rfl
theorem impl_GetNum_l0 (b : List Int) (hb : Bytes b) (hl : b.length ≤ 1000000000000) (a : Nat) (ha : a ≤ b.length) : ∀ (f k q : Nat) (n : Int), f + k = 5 → f < q → 0 ≤ n → n < 128 ^ k →
    ∃ x, impl.GetNum.l0.f b (a : Int) q n (k : Int) = some x ∧ numOut x = getR (a : Int) (getF f k n (b.drop (a + k))) := by
  intro f
  induction f with
  | zero =>
    intro k q n hk hq h0 h1
    obtain ⟨q, rfl⟩ := Nat.exists_eq_add_one_of_ne_zero (by omega : q ≠ 0)
    refine ⟨.inr (), ?_, rfl⟩
    rw [impl.GetNum.l0.f]
    exact br_n (by omega) rfl
  | succ f ih =>
    intro k q n hk hq h0 h1
    obtain ⟨q, rfl⟩ := Nat.exists_eq_add_one_of_ne_zero (by omega : q ≠ 0)
    rw [impl.GetNum.l0.f]
    have e1 : w64 ((a : Int) + k) = ((a + k : Nat) : Int) := by rw [w64_id (by omega) (by omega)]; omega
    by_cases h : a + k < b.length
    · have hv := hb.at_ h
      have hp : (0 : Int) < 128 ^ k := Int.pow_pos (by decide)
      have hp4 : (128 : Int) ^ k ≤ 128 ^ 4 := by
        have : (128 : Nat) ^ k ≤ 128 ^ 4 := Nat.pow_le_pow_right (by decide) (by omega)
        exact_mod_cast this
      have hm : b[a + k] % 128 * 128 ^ k ≤ 127 * 128 ^ k := Int.mul_le_mul_of_nonneg_right (by omega) (by omega)
      have hm0 : 0 ≤ b[a + k] % 128 * 128 ^ k := Int.mul_nonneg (by omega) (by omega)
      rw [List.drop_eq_getElem_cons h]
      have e3 : w64 (7 * (k : Int)) = 7 * (k : Int) := w64_id (by omega) (by omega)
      have e4 : b.getD (a + k) 0 = b[a + k] := getD_at h 0
      have e5 : w64 b[a + k] = b[a + k] := w64_id (by omega) (by omega)
      have e6 : bits2 .i64 (· &&& ·) b[a + k] 127 = b[a + k] % 128 := and127 (by omega) (by omega)
      have e7 := or_shl k (by omega) h0 h1 (d := b[a + k] % 128) (by omega) (by omega)
      have e8 : w64 (((a + k : Nat) : Int) + 1) = (a : Int) + ((k : Int) + 1) := by rw [w64_id (by omega) (by omega)]; omega
      have e9 : w64 ((k : Int) + 1) = ((k + 1 : Nat) : Int) := wsucc (by omega)
      simp only [e1, e3, Int.toNat_natCast, e4, e5, e6, e7, e8, e9]
      unfold getF
      by_cases c : b[a + k] ≥ 128
      · rw [if_pos c]
        have hlt : n + b[a + k] % 128 * 128 ^ k < 128 ^ (k + 1) := by
          rw [Int.pow_succ]
          omega
        obtain ⟨x, hx, hr⟩ := ih (k + 1) q (n + b[a + k] % 128 * 128 ^ k) (by omega) (by omega) (by omega) hlt
        exact ⟨x, br_d (by omega) (br_d (by omega) (ck_t (by omega) (ck_t (by omega) (br_d (by omega) hx)))), hr⟩
      · rw [if_neg c]
        by_cases c0 : b[a + k] = 0 ∧ k > 0
        · rw [if_pos c0]
          exact ⟨.inl (0, 0, false), br_d (by omega) (br_d (by omega) (ck_t (by omega) (ck_t (by omega) (br_n (by omega) (br_t (by rw [c0.1]; rfl) (br_d (by omega) rfl)))))), rfl⟩
        · rw [if_neg c0]
          by_cases cz : b[a + k] = 0
          · have ck0 : ¬ ((k : Int) > 0) := fun h => c0 ⟨cz, by omega⟩
            by_cases cm : n + b[a + k] % 128 * 128 ^ k > 1000000000
            · rw [if_pos cm]
              exact ⟨.inl (0, 0, false), br_d (by omega) (br_d (by omega) (ck_t (by omega) (ck_t (by omega) (br_n (by omega) (br_t (by rw [cz]; rfl) (br_n ck0 (br_d cm rfl))))))), rfl⟩
            · rw [if_neg cm]
              exact ⟨.inl (_, _, true), br_d (by omega) (br_d (by omega) (ck_t (by omega) (ck_t (by omega) (br_n (by omega) (br_t (by rw [cz]; rfl) (br_n ck0 (br_n cm rfl))))))), rfl⟩
          · by_cases cm : n + b[a + k] % 128 * 128 ^ k > 1000000000
            · rw [if_pos cm]
              exact ⟨.inl (0, 0, false), br_d (by omega) (br_d (by omega) (ck_t (by omega) (ck_t (by omega) (br_n (by omega) (br_f (beq_eq_false_iff_ne.2 cz) (br_d cm rfl)))))), rfl⟩
            · rw [if_neg cm]
              exact ⟨.inl (_, _, true), br_d (by omega) (br_d (by omega) (ck_t (by omega) (ck_t (by omega) (br_n (by omega) (br_f (beq_eq_false_iff_ne.2 cz) (br_n cm rfl)))))), rfl⟩
    · rw [List.drop_of_length_le (by omega)]
      simp only [e1]
      exact ⟨.inr (), br_d (by omega) (br_n (by omega) rfl), rfl⟩
theorem impl_GetNum_eq (K : Nat) (hK : 10000000000000 ≤ K) (b : List Int) (at_ : Int) (hb : Bytes b) (hl : b.length ≤ 1000000000000) (ha : at_ < 9223372036854775808) (ha0 : -9223372036854775808 ≤ at_) : impl.GetNum.f K b at_ = some (getI b at_) := by
  unfold impl.GetNum.f
  refine bind_t (impl_in_eq at_ 0 (b.length : Int)) ?_
  by_cases c : 0 ≤ at_ ∧ at_ ≤ b.length
  · refine br_d c ?_
    obtain ⟨a, rfl⟩ := Int.eq_ofNat_of_zero_le c.1
    obtain ⟨x, h1, h2⟩ := impl_GetNum_l0 b hb hl a (by omega) 5 0 K 0 rfl (by omega) (by decide) (by decide)
    refine bind_t h1 ?_
    rw [getI_at]
    rw [show a + 0 = a from rfl] at h2
    rw [← h2]
    cases x <;> rfl
  · refine br_n c ?_
    by_cases c0 : at_ < 0
    · unfold getI; rw [if_pos c0]
    · obtain ⟨a, rfl⟩ := Int.eq_ofNat_of_zero_le (by omega : 0 ≤ at_)
      rw [getI_at, List.drop_of_length_le (by omega)]; rfl
theorem spec_PutNum_l0 : ∀ (f q n : Nat) (acc : List Int), n < 128 ^ (f + 1) → f ≤ 4 → f < q → acc.length + f ≤ 1000 →
    ∃ m a', spec.PutNum.l0.f q (n : Int) acc = some (m, a') ∧ a' ++ [IntKind.u8.wrap m] = acc ++ putF f n ∧ a'.length ≤ acc.length + f := by
  intro f
  induction f with
  | zero =>
    intro q n acc hn _ hq ha
    obtain ⟨q, rfl⟩ := Nat.exists_eq_add_one_of_ne_zero (by omega : q ≠ 0)
    have hn : n < 128 := hn
    refine ⟨n, acc, ?_, ?_, by omega⟩
    · rw [spec.PutNum.l0.f]; exact br_n (by omega) rfl
    · rw [wrap_u8 (by omega) (by omega)]; rfl
  | succ f ih =>
    intro q n acc hn hf hq ha
    obtain ⟨q, rfl⟩ := Nat.exists_eq_add_one_of_ne_zero (by omega : q ≠ 0)
    have hp : 128 ^ (f + 1 + 1) ≤ 128 ^ 5 := Nat.pow_le_pow_right (by decide) (by omega)
    rw [spec.PutNum.l0.f]
    by_cases c : n > 127
    · have e1 : (n : Int).tmod 128 = ((n % 128 : Nat) : Int) := nat_tmod n 128
      have e2 : (n : Int).tdiv 128 = ((n / 128 : Nat) : Int) := nat_tdiv n 128
      have e3 : w64 (((n % 128 : Nat) : Int) + 128) = ((n % 128 + 128 : Nat) : Int) := by rw [w64_id (by omega) (by omega)]; omega
      have e4 : w64 ((n / 128 : Nat) : Int) = ((n / 128 : Nat) : Int) := w64_id (by omega) (by omega)
      have e5 : IntKind.u8.wrap ((n % 128 + 128 : Nat) : Int) = ((n % 128 + 128 : Nat) : Int) := wrap_u8 (by omega) (by omega)
      simp only [e1, e2, e3, e4, e5]
      obtain ⟨m, a', h1, h2, h3⟩ := ih q (n / 128) (acc ++ [((n % 128 + 128 : Nat) : Int)]) (Nat.div_lt_of_lt_mul (by rw [Nat.pow_succ, Nat.mul_comm] at hn; exact hn)) (by omega) (by omega) (by simp; omega)
      refine ⟨m, a', br_d (by omega) (ck_t (by simp; omega) h1), ?_, by simp at h3; omega⟩
      rw [h2, putF, if_pos c, List.append_assoc]; rfl
    · refine ⟨n, acc, br_n (by omega) rfl, ?_, by omega⟩
      rw [wrap_u8 (by omega) (by omega), putF, if_neg c]
theorem spec_PutNum_eq (K : Nat) (hK : 10000000000000 ≤ K) (n : Int) : spec.PutNum.f K n = some (putI n) := by
  unfold spec.PutNum.f putI
  refine bind_t (spec_l1In_eq n 0 1000000000) ?_
  by_cases c : 0 ≤ n ∧ n ≤ 1000000000
  · rw [if_pos c]
    obtain ⟨m, rfl⟩ := Int.eq_ofNat_of_zero_le c.1
    obtain ⟨x, a', h1, h2, h3⟩ := spec_PutNum_l0 4 K m [] (by omega) (by omega) (by omega) (by simp)
    refine br_d c (bind_t h1 (ck_t (by simp at h3 ⊢; omega) ?_))
    rw [h2]; rfl
  · rw [if_neg c]
    exact br_n c rfl
theorem spec_PutText_eq (K : Nat) (hK : 10000000000000 ≤ K) (s : ByteArray) : spec.PutText.f K s = some (if s.size ≤ 400 then putI s.size ++ bytesL s else []) := by
  unfold spec.PutText.f
  by_cases c : s.size ≤ 400
  · rw [if_pos c]
    refine br_n (by omega) (bind_t (spec_PutNum_eq K hK _) (ck_t ?_ rfl))
    have := putI_length s.size
    rw [List.length_append, bytesL_len]
    omega
  · rw [if_neg c]
    exact br_d (by omega) rfl
theorem spec_GetText_eq (K : Nat) (hK : 10000000000000 ≤ K) (b : List Int) (at_ : Int) (hb : Bytes b) (hl : b.length ≤ 1000000000000) (ha : at_ < 9223372036854775808) (ha0 : -9223372036854775808 ≤ at_) : spec.GetText.f K b at_ = some (gettI b at_) := by
  unfold spec.GetText.f
  refine bind_t (spec_GetNum_eq K hK b at_ hb hl ha ha0) ?_
  unfold gettI
  by_cases h : (getI b at_).2.2 = true
  · obtain ⟨g1, g2, g3, g4, g5⟩ := getI_ok hb h
    have e1 : w64 ((b.length : Int) - (getI b at_).2.1) = (b.length : Int) - (getI b at_).2.1 := w64_id (by omega) (by omega)
    have e2 : w64 ((getI b at_).2.1 + (getI b at_).1) = (getI b at_).2.1 + (getI b at_).1 := w64_id (by omega) (by omega)
    have e3 : ((getI b at_).2.1 + (getI b at_).1).toNat - (getI b at_).2.1.toNat = (getI b at_).1.toNat := by omega
    simp only [e1, e2, e3]
    refine br_t h ?_
    by_cases c1 : (getI b at_).1 > 400
    · rw [if_neg (by omega)]
      exact br_d c1 rfl
    · refine br_n c1 ?_
      by_cases c2 : (getI b at_).1 > (b.length : Int) - (getI b at_).2.1
      · rw [if_neg (by omega)]
        exact br_d c2 rfl
      · rw [if_pos ⟨h, by omega, by omega⟩]
        exact br_n c2 (ck_t (by omega) (ck_t (by omega) (ck_t (by omega) (ck_t (by omega) rfl))))
  · rw [if_neg (fun hh => h hh.1)]
    exact br_f (by simpa using h) rfl
theorem impl_GetText_eq (K : Nat) (hK : 10000000000000 ≤ K) (b : List Int) (at_ : Int) (hb : Bytes b) (hl : b.length ≤ 1000000000000) (ha : at_ < 9223372036854775808) (ha0 : -9223372036854775808 ≤ at_) : impl.GetText.f K b at_ = some (gettI b at_) := by
  unfold impl.GetText.f
  refine bind_t (impl_GetNum_eq K hK b at_ hb hl ha ha0) ?_
  unfold gettI
  by_cases h : (getI b at_).2.2 = true
  · obtain ⟨g1, g2, g3, g4, g5⟩ := getI_ok hb h
    have e1 : w64 ((b.length : Int) - (getI b at_).2.1) = (b.length : Int) - (getI b at_).2.1 := w64_id (by omega) (by omega)
    have e2 : w64 ((getI b at_).2.1 + (getI b at_).1) = (getI b at_).2.1 + (getI b at_).1 := w64_id (by omega) (by omega)
    have e3 : ((getI b at_).2.1 + (getI b at_).1).toNat - (getI b at_).2.1.toNat = (getI b at_).1.toNat := by omega
    simp only [e1, e2, e3]
    refine br_t h ?_
    by_cases c1 : (getI b at_).1 > 400
    · rw [if_neg (by omega)]
      exact br_d c1 rfl
    · refine br_n c1 ?_
      by_cases c2 : (getI b at_).1 > (b.length : Int) - (getI b at_).2.1
      · rw [if_neg (by omega)]
        exact br_d c2 rfl
      · rw [if_pos ⟨h, by omega, by omega⟩]
        exact br_n c2 (ck_t (by omega) (ck_t (by omega) (ck_t (by omega) (ck_t (by omega) rfl))))
  · rw [if_neg (fun hh => h hh.1)]
    exact br_f (by simpa using h) rfl
/-! sums -/
theorem spec_Sum_l0 (b : List Int) (hb : Bytes b) (hl : b.length ≤ 1000000000000) : ∀ (f i : Nat) (n : Int), b.length < i + f → i ≤ b.length → 0 ≤ n → n < 1000003 → spec.Sum.l0.f b f n (i : Int) = some (sumF n (b.drop i)) := by
  intro f
  induction f with
  | zero => intro i n h hi; omega
  | succ f ih =>
    intro i n h hi h0 h1
    rw [spec.Sum.l0.f]
    by_cases c : i < b.length
    · have hv := hb.at_ c
      have e1 : w64 ((i : Int) + 1) = ((i + 1 : Nat) : Int) := wsucc (by omega)
      have e2 : w64 (31 * n) = 31 * n := w64_id (by omega) (by omega)
      have e3 : w64 b[i] = b[i] := w64_id (by omega) (by omega)
      have e4 : w64 (31 * n + b[i]) = 31 * n + b[i] := w64_id (by omega) (by omega)
      have e5 : (31 * n + b[i]).tmod 1000003 = (31 * n + b[i]) % 1000003 := Int.tmod_eq_emod_of_nonneg (by omega)
      simp only [Int.toNat_natCast, getD_at c, e1, e2, e3, e4, e5]
      rw [List.drop_eq_getElem_cons c, sumF_cons]
      exact br_d (by omega) (ck_t (by omega) (ih (i + 1) _ (by omega) (by omega) (by omega) (by omega)))
    · rw [List.drop_of_length_le (by omega)]
      exact br_n (by omega) rfl
theorem spec_Sum_eq (K : Nat) (hK : 10000000000000 ≤ K) (b : List Int) (hb : Bytes b) (hl : b.length ≤ 1000000000000) : spec.Sum.f K b = some (sumF 7 b) := by
  unfold spec.Sum.f
  exact bind_t (spec_Sum_l0 b hb hl K 0 7 (by omega) (by omega) (by omega) (by omega)) rfl
/-! sums -/
theorem impl_Sum_l0 (b : List Int) (hb : Bytes b) (hl : b.length ≤ 1000000000000) : ∀ (f i : Nat) (n : Int), b.length < i + f → i ≤ b.length → 0 ≤ n → n < 1000003 → impl.Sum.l0.f b f n (i : Int) = some (sumF n (b.drop i)) := by
  intro f
  induction f with
  | zero => intro i n h hi; omega
  | succ f ih =>
    intro i n h hi h0 h1
    rw [impl.Sum.l0.f]
    by_cases c : i < b.length
    · have hv := hb.at_ c
      have e1 : w64 ((i : Int) + 1) = ((i + 1 : Nat) : Int) := wsucc (by omega)
      have e2 : w64 (31 * n) = 31 * n := w64_id (by omega) (by omega)
      have e3 : w64 b[i] = b[i] := w64_id (by omega) (by omega)
      have e4 : w64 (31 * n + b[i]) = 31 * n + b[i] := w64_id (by omega) (by omega)
      have e5 : (31 * n + b[i]).tmod 1000003 = (31 * n + b[i]) % 1000003 := Int.tmod_eq_emod_of_nonneg (by omega)
      simp only [Int.toNat_natCast, getD_at c, e1, e2, e3, e4, e5]
      rw [List.drop_eq_getElem_cons c, sumF_cons]
      exact br_d (by omega) (ck_t (by omega) (ih (i + 1) _ (by omega) (by omega) (by omega) (by omega)))
    · rw [List.drop_of_length_le (by omega)]
      exact br_n (by omega) rfl
theorem impl_Sum_eq (K : Nat) (hK : 10000000000000 ≤ K) (b : List Int) (hb : Bytes b) (hl : b.length ≤ 1000000000000) : impl.Sum.f K b = some (sumF 7 b) := by
  unfold impl.Sum.f
  exact bind_t (impl_Sum_l0 b hb hl K 0 7 (by omega) (by omega) (by omega) (by omega)) rfl
theorem spec_RecOk_eq (n q : Int) (d : ByteArray) : spec.RecOk.f n q d = some (decide (recOk n q d)) := by
  unfold spec.RecOk.f
  refine bind_t (spec_l1In_eq n 0 25) ?_
  by_cases c : 0 ≤ n ∧ n ≤ 25
  · refine br_d c (bind_t (spec_l1In_eq q 1 1000000000) ?_)
    by_cases c2 : 1 ≤ q ∧ q ≤ 1000000000
    · refine br_d c2 ?_
      congr 1
      exact decide_eq_decide.2 ⟨fun h => ⟨c.1, c.2, c2.1, c2.2, by omega⟩, fun h => by have := h.2.2.2.2; omega⟩
    · exact br_n c2 (by rw [decide_eq_false (fun h => c2 ⟨h.2.2.1, h.2.2.2.1⟩)])
  · exact br_n c (by rw [decide_eq_false (fun h => c ⟨h.1, h.2.1⟩)])
theorem impl_isSector_eq (n : Int) : impl.isSector.f n = some (decide (0 ≤ n ∧ n ≤ 25)) := by
  unfold impl.isSector.f
  exact bind_t (impl_in_eq n 0 25) rfl
theorem impl_RecOk_eq (n q : Int) (d : ByteArray) : impl.RecOk.f n q d = some (decide (recOk n q d)) := by
  unfold impl.RecOk.f
  refine bind_t (impl_isSector_eq n) ?_
  by_cases c : 0 ≤ n ∧ n ≤ 25
  · refine br_d c (bind_t (impl_in_eq q 1 1000000000) ?_)
    by_cases c2 : 1 ≤ q ∧ q ≤ 1000000000
    · refine br_d c2 ?_
      congr 1
      exact decide_eq_decide.2 ⟨fun h => ⟨c.1, c.2, c2.1, c2.2, by omega⟩, fun h => by have := h.2.2.2.2; omega⟩
    · exact br_n c2 (by rw [decide_eq_false (fun h => c2 ⟨h.2.2.1, h.2.2.2.1⟩)])
  · exact br_n c (by rw [decide_eq_false (fun h => c ⟨h.1, h.2.1⟩)])
theorem spec_RecText_eq (K : Nat) (hK : 10000000000000 ≤ K) (n q : Int) (d : ByteArray) : spec.RecText.f K n q d = some (if recOk n q d then ofBytes (recI n q d) else noVal) := by
  unfold spec.RecText.f
  refine bind_t (spec_RecOk_eq n q d) ?_
  by_cases c : recOk n q d
  · rw [if_pos c]
    have hd : d.size ≤ 400 := c.2.2.2.2
    have h1 := putI_length n
    have h2 := putI_length q
    have h4 := putI_length d.size
    have e : (putI n ++ putI q) ++ puttI d = recB n q d := rfl
    have hl : (recB n q d).length ≤ 415 := by rw [← e, puttI]; simp only [List.length_append, bytesL_len]; omega
    have h5 := putI_length (sumF 7 (recB n q d))
    refine br_d c (bind_t (spec_PutNum_eq K hK n) (bind_t (spec_PutNum_eq K hK q) (ck_t (by rw [List.length_append]; omega) (bind_t (spec_PutText_eq K hK d) ?_))))
    rw [if_pos hd]
    rw [show putI d.size ++ bytesL d = puttI d from rfl, e]
    exact ck_t (by omega) (bind_t (spec_Sum_eq K hK _ (recB_bytes n q d) (by omega)) (bind_t (spec_PutNum_eq K hK _) (ck_t (by rw [List.length_append]; omega) rfl)))
  · rw [if_neg c]
    exact br_n c rfl
theorem getI_small {b : List Int} {a : Int} (hb : Bytes b) (h : (getI b a).2.2 = true) : 0 ≤ (getI b a).2.1 ∧ (getI b a).2.1 ≤ b.length := by
  have := getI_ok hb h
  omega
theorem spec_RecRead_eq (K : Nat) (hK : 10000000000000 ≤ K) (s : ByteArray) (hs : s.size ≤ 1000000000000) : spec.RecRead.f K s = some (recR (bytesL s)) := by
  have hb := bytesL_ok s
  have hl : (bytesL s).length ≤ 1000000000000 := by rw [bytesL_len]; exact hs
  have G : ∀ a : Int, 0 ≤ a → a ≤ (bytesL s).length → spec.GetNum.f K (bytesL s) a = some (getI (bytesL s) a) := fun a h0 h1 => spec_GetNum_eq K hK _ a hb hl (by omega) (by omega)
  unfold spec.RecRead.f recR
  refine bind_t (G 0 (by omega) (by omega)) ?_
  by_cases c1 : (getI (bytesL s) 0).2.2 = true
  case neg => rw [if_neg (fun h => c1 h.1)]; exact br_f (by simpa using c1) rfl
  obtain ⟨b1, b2⟩ := getI_small hb c1
  refine br_t c1 (bind_t (G _ b1 b2) ?_)
  by_cases c2 : (getI (bytesL s) (getI (bytesL s) 0).2.1).2.2 = true
  case neg => rw [if_neg (fun h => c2 h.2.1)]; exact br_f (by simpa using c2) rfl
  obtain ⟨b3, b4⟩ := getI_small hb c2
  refine br_t c2 (bind_t (G _ b3 b4) ?_)
  by_cases c3 : (getI (bytesL s) (getI (bytesL s) (getI (bytesL s) 0).2.1).2.1).2.2 = true
  case neg => rw [if_neg (fun h => c3 h.2.2.1)]; exact br_f (by simpa using c3) rfl
  obtain ⟨b5, b6⟩ := getI_small hb c3
  refine br_t c3 (bind_t (spec_GetText_eq K hK _ _ hb hl (by omega) (by omega)) ?_)
  by_cases c4 : (gettI (bytesL s) (getI (bytesL s) (getI (bytesL s) (getI (bytesL s) 0).2.1).2.1).2.1).2.2 = true
  case neg => rw [if_neg (fun h => c4 h.2.2.2.1)]; exact br_f (by simpa using c4) rfl
  refine br_t c4 (bind_t (spec_RecText_eq K hK _ _ _) ?_)
  generalize (getI (bytesL s) (getI (bytesL s) 0).2.1).1 = n
  generalize (getI (bytesL s) (getI (bytesL s) (getI (bytesL s) 0).2.1).2.1).1 = q
  rw [show (gettI (bytesL s) (getI (bytesL s) (getI (bytesL s) (getI (bytesL s) 0).2.1).2.1).2.1) = (gettI (bytesL s) (getI (bytesL s) (getI (bytesL s) (getI (bytesL s) 0).2.1).2.1).2.1) from rfl]
  generalize (gettI (bytesL s) (getI (bytesL s) (getI (bytesL s) (getI (bytesL s) 0).2.1).2.1).2.1) = x4 at c4 ⊢
  have h0 : (getI (bytesL s) 0).2.2 = true := c1
  by_cases c5 : recOk n q x4.1
  · rw [if_pos c5]
    by_cases c6 : recI n q x4.1 = bytesL s
    · rw [if_pos ⟨c1, c2, c3, c4, c5, c6⟩]
      refine br_t ?_ rfl
      rw [c6, ofBytes_bytesL]; exact strEq_self s
    · rw [if_neg (fun h => c6 h.2.2.2.2.2)]
      refine br_f ?_ rfl
      rw [← Bool.not_eq_true, strEq_iff]
      intro e
      exact c6 (by rw [← e, bytesL_ofBytes (recI_bytes _ _ _)])
  · rw [if_neg c5, if_neg (fun h => c5 h.2.2.2.2.1)]
    refine br_f ?_ rfl
    rw [← Bool.not_eq_true, strEq_iff]
    intro e
    have : (bytesL s).length = 0 := by rw [bytesL_len, ← e]; rfl
    have hg := getI_ok hb c1
    omega
def numR (b : List Int) (at_ : Int) (bad : Bool) : Int × Int × Bool := if bad then (0, at_, true) else if (getI b at_).2.2 then ((getI b at_).1, (getI b at_).2.1, false) else (0, at_, true)
def textR (b : List Int) (at_ : Int) (bad : Bool) : ByteArray × Int × Bool := if bad then (noVal, at_, true) else if (gettI b at_).2.2 then ((gettI b at_).1, (gettI b at_).2.1, false) else (noVal, at_, true)
theorem gettI_small {b : List Int} {a : Int} (hb : Bytes b) (ha : 0 ≤ a) (h : (gettI b a).2.2 = true) : a < (gettI b a).2.1 ∧ (gettI b a).2.1 ≤ b.length := by
  obtain ⟨a, rfl⟩ := Int.eq_ofNat_of_zero_le ha
  obtain ⟨d, r, h1, h2, h3⟩ := gettI_inv hb h
  rw [h3]
  have h4 := congrArg List.length h2
  have h5 := putI_pos (n := d.size) (by omega) (by omega)
  have h6 : (puttI d).length = (putI d.size).length + d.size := by rw [puttI, List.length_append, bytesL_len]
  rw [List.length_drop, List.length_append] at h4
  simp only
  omega
theorem numR_small {b : List Int} {a : Int} (bad : Bool) (hb : Bytes b) (h0 : 0 ≤ a) (h1 : a ≤ b.length) : 0 ≤ (numR b a bad).2.1 ∧ (numR b a bad).2.1 ≤ b.length := by
  unfold numR
  split
  · exact ⟨h0, h1⟩
  · split
    · rename_i h; have := getI_ok hb h; simp only; omega
    · exact ⟨h0, h1⟩
theorem textR_small {b : List Int} {a : Int} (bad : Bool) (hb : Bytes b) (h0 : 0 ≤ a) (h1 : a ≤ b.length) : 0 ≤ (textR b a bad).2.1 ∧ (textR b a bad).2.1 ≤ b.length := by
  unfold textR
  split
  · exact ⟨h0, h1⟩
  · split
    · rename_i h; have := gettI_small hb h0 h; simp only; omega
    · exact ⟨h0, h1⟩
theorem impl_number_eq (K : Nat) (hK : 10000000000000 ≤ K) (b : List Int) (at_ : Int) (bad : Bool) (hb : Bytes b) (hl : b.length ≤ 1000000000000) (h0 : 0 ≤ at_) (h1 : at_ ≤ b.length) : impl.reader.number.f K b at_ bad = some (numR b at_ bad) := by
  unfold impl.reader.number.f numR
  refine bind_t (impl_GetNum_eq K hK b at_ hb hl (by omega) (by omega)) ?_
  cases bad with
  | true => rfl
  | false =>
    cases h : (getI b at_).2.2 <;> simp
theorem impl_text_eq (K : Nat) (hK : 10000000000000 ≤ K) (b : List Int) (at_ : Int) (bad : Bool) (hb : Bytes b) (hl : b.length ≤ 1000000000000) (h0 : 0 ≤ at_) (h1 : at_ ≤ b.length) : impl.reader.text.f K b at_ bad = some (textR b at_ bad) := by
  unfold impl.reader.text.f textR
  refine bind_t (impl_GetText_eq K hK b at_ hb hl (by omega) (by omega)) ?_
  cases bad with
  | true => rfl
  | false =>
    cases h : (gettI b at_).2.2 <;> simp
theorem impl_done_eq (b : List Int) (at_ : Int) (bad : Bool) : impl.reader.done.f b at_ bad = some (!bad && at_ == (b.length : Int)) := by
  unfold impl.reader.done.f
  cases bad <;> rfl
/-- A reader behind a sum. -/
def sumR (b : List Int) : Int × Bool := if (getI b 0).2.2 then ((getI b 0).2.1, (getI b 0).1 != sumF 7 (b.drop (getI b 0).2.1.toNat)) else (0, true)
theorem sumR_small {b : List Int} (hb : Bytes b) : 0 ≤ (sumR b).1 ∧ (sumR b).1 ≤ b.length := by
  unfold sumR
  split
  · rename_i h; have := getI_ok hb h; simp only; omega
  · simp
theorem impl_unsummed_eq (K : Nat) (hK : 10000000000000 ≤ K) (s : ByteArray) (hs : s.size ≤ 1000000000000) : impl.unsummed.f K s = some (sumR (bytesL s)) := by
  have hb := bytesL_ok s
  have hl : (bytesL s).length ≤ 1000000000000 := by rw [bytesL_len]; exact hs
  unfold impl.unsummed.f sumR
  refine bind_t (impl_number_eq K hK _ 0 false hb hl (by omega) (by omega)) ?_
  by_cases c : (getI (bytesL s) 0).2.2 = true
  · have hn : numR (bytesL s) 0 false = ((getI (bytesL s) 0).1, (getI (bytesL s) 0).2.1, false) := by unfold numR; simp [c]
    obtain ⟨g1, g2, g3, g4, g5⟩ := getI_ok hb c
    rw [hn, if_pos c]
    have ht : (((bytesL s).drop (getI (bytesL s) 0).2.1.toNat).take ((bytesL s).length - (getI (bytesL s) 0).2.1.toNat)) = (bytesL s).drop (getI (bytesL s) 0).2.1.toNat := List.take_of_length_le (by simp)
    simp only [ht]
    refine br_f rfl (ck_t (by omega) (ck_t (by omega) (bind_t (impl_Sum_eq K hK _ (hb.drop _) (by rw [List.length_drop]; omega)) (ck_t (by omega) rfl))))
  · have hn : numR (bytesL s) 0 false = (0, 0, true) := by unfold numR; simp [c]
    rw [hn, if_neg c]
    exact br_t rfl rfl
theorem numR_no {b : List Int} {a : Int} (h : ¬ (getI b a).2.2 = true) : numR b a false = (0, a, true) := by
  unfold numR
  rw [if_neg (by decide), if_neg h]
theorem textR_no {b : List Int} {a : Int} (h : ¬ (gettI b a).2.2 = true) : textR b a false = (noVal, a, true) := by
  unfold textR
  rw [if_neg (by decide), if_neg h]
theorem impl_RecRead_eq (K : Nat) (hK : 10000000000000 ≤ K) (s : ByteArray) (hs : s.size ≤ 1000000000000) : impl.RecRead.f K s = some (recR (bytesL s)) := by
  have hb := bytesL_ok s
  have hl : (bytesL s).length ≤ 1000000000000 := by rw [bytesL_len]; exact hs
  unfold impl.RecRead.f
  generalize hB : bytesL s = b at hb hl
  have u1 := sumR_small hb
  have u2 := numR_small (sumR b).2 hb u1.1 u1.2
  have u3 := numR_small (numR b (sumR b).1 (sumR b).2).2.2 hb u2.1 u2.2
  refine bind_t (by rw [impl_unsummed_eq K hK s hs, hB]) (bind_t (impl_number_eq K hK b _ _ hb hl u1.1 u1.2) (bind_t (impl_number_eq K hK b _ _ hb hl u2.1 u2.2) (bind_t (impl_text_eq K hK b _ _ hb hl u3.1 u3.2) (bind_t (impl_done_eq b _ _) ?_))))
  -- what the law says of the bytes
  by_cases hx : ∃ n q d, recOk n q d ∧ b = recI n q d
  · obtain ⟨n, q, d, h1, h2⟩ := hx
    obtain ⟨a1, a2, a3, f0, fa, f1, f2, f3⟩ := recI_gets h1 []
    rw [List.append_nil, ← h2] at f0 f1 f2 f3
    have hsum : sumR b = ((a1 : Int), false) := by
      unfold sumR
      rw [f0]
      simp only [if_true, Int.toNat_natCast]
      rw [fa, h2, recI_drop1]
      simp
    have n2 : numR b a1 false = (n, (a2 : Int), false) := by unfold numR; rw [f1]; simp
    have n3 : numR b a2 false = (q, (a3 : Int), false) := by unfold numR; rw [f2]; simp
    have n4 : textR b a3 false = (d, (b.length : Int), false) := by unfold textR; rw [f3]; simp
    rw [hsum]
    simp only [n2, n3, n4]
    refine br_t (by simp) (bind_t (impl_RecOk_eq n q d) (br_d h1 ?_))
    rw [h2, recR_of h1]
  · have hr : recR b = (0, 0, noVal, false) := by
      rcases recR_cases b with ⟨n, q, d, h1, h2, _⟩ | h
      · exact absurd ⟨n, q, d, h1, h2⟩ hx
      · exact h.1
    rw [hr]
    by_cases c0 : (getI b 0).2.2 = true ∧ (getI b 0).1 = sumF 7 (b.drop (getI b 0).2.1.toNat)
    case neg =>
      have hs2 : (sumR b).2 = true := by
        unfold sumR
        by_cases c : (getI b 0).2.2 = true
        · rw [if_pos c]; simp; exact fun h => c0 ⟨c, h⟩
        · rw [if_neg c]
      have b2 : (numR b (sumR b).1 (sumR b).2).2.2 = true := by unfold numR; rw [hs2]; rfl
      have b3 : (numR b (numR b (sumR b).1 (sumR b).2).2.1 (numR b (sumR b).1 (sumR b).2).2.2).2.2 = true := by rw [b2]; rfl
      have b4 : (textR b (numR b (numR b (sumR b).1 (sumR b).2).2.1 (numR b (sumR b).1 (sumR b).2).2.2).2.1 (numR b (numR b (sumR b).1 (sumR b).2).2.1 (numR b (sumR b).1 (sumR b).2).2.2).2.2).2.2 = true := by rw [b3]; rfl
      exact br_f (by rw [b4]; rfl) rfl
    obtain ⟨sm, r1, s1, s2, s3, s4⟩ := getI_inv (a := 0) hb c0.1
    have hsum : sumR b = (((putI sm).length : Int), false) := by
      unfold sumR
      rw [if_pos c0.1]
      have e := c0.2
      have s4' : getI b 0 = (sm, ((putI sm).length : Int), true) := by simpa using s4
      rw [s4'] at e ⊢
      simp only at e ⊢
      rw [← e]; simp
    have s3' : b.drop (putI sm).length = r1 := by
      have : b = putI sm ++ r1 := by simpa using s3
      rw [this, List.drop_left]
    rw [hsum]
    by_cases c1 : (getI b ((putI sm).length : Int)).2.2 = true
    case neg =>
      have b2 : (numR b ((putI sm).length : Int) false) = (0, ((putI sm).length : Int), true) := numR_no c1
      simp only [b2]
      exact br_f (by simp [numR, textR]) rfl
    obtain ⟨n, r2, n1, n2, n3, n4⟩ := getI_inv hb c1
    have m1 : numR b ((putI sm).length : Int) false = (n, ((putI sm).length : Int) + (putI n).length, false) := by unfold numR; rw [n4]; simp
    simp only [m1]
    rw [← Int.natCast_add]
    by_cases c2 : (getI b (((putI sm).length + (putI n).length : Nat) : Int)).2.2 = true
    case neg =>
      have b2 : (numR b (((putI sm).length + (putI n).length : Nat) : Int) false) = (0, (((putI sm).length + (putI n).length : Nat) : Int), true) := numR_no c2
      simp only [b2]
      exact br_f (by simp [numR, textR]) rfl
    obtain ⟨q, r3, q1, q2, q3, q4⟩ := getI_inv hb c2
    have m2 : numR b (((putI sm).length + (putI n).length : Nat) : Int) false = (q, (((putI sm).length + (putI n).length : Nat) : Int) + (putI q).length, false) := by unfold numR; rw [q4]; simp
    simp only [m2]
    rw [← Int.natCast_add]
    by_cases c3 : (gettI b (((putI sm).length + (putI n).length + (putI q).length : Nat) : Int)).2.2 = true
    case neg =>
      have b2 : (textR b (((putI sm).length + (putI n).length + (putI q).length : Nat) : Int) false) = (noVal, (((putI sm).length + (putI n).length + (putI q).length : Nat) : Int), true) := textR_no c3
      simp only [b2]
      exact br_f (by simp) rfl
    obtain ⟨d, r4, d1, d2, d3⟩ := gettI_inv hb c3
    have m3 : textR b (((putI sm).length + (putI n).length + (putI q).length : Nat) : Int) false = (d, (((putI sm).length + (putI n).length + (putI q).length : Nat) : Int) + (puttI d).length, false) := by unfold textR; rw [d3]; simp
    simp only [m3]
    have hfull : b = putI sm ++ (putI n ++ (putI q ++ (puttI d ++ r4))) := by
      have e0 : b = putI sm ++ r1 := by simpa using s3
      have e1 : r1 = putI n ++ r2 := by rw [← s3', n3]
      have e2 : r2 = putI q ++ r3 := by
        have := q3
        rw [← List.drop_drop, n3, List.drop_left] at this
        exact this
      have e3 : r3 = puttI d ++ r4 := by
        have := d2
        rw [← List.drop_drop, q3, List.drop_left] at this
        exact this
      rw [← e3, ← e2, ← e1]; exact e0
    by_cases c4 : (((putI sm).length + (putI n).length + (putI q).length : Nat) : Int) + (puttI d).length = (b.length : Int)
    case neg => exact br_f (by simp only [Bool.not_false, Bool.true_and]; exact beq_eq_false_iff_ne.2 c4) rfl
    refine br_t (by simp only [Bool.not_false, Bool.true_and]; exact beq_iff_eq.2 c4) (bind_t (impl_RecOk_eq n q d) ?_)
    by_cases c5 : recOk n q d
    case neg => exact br_n c5 rfl
    exfalso
    have hlen := congrArg List.length hfull
    simp only [List.length_append] at hlen
    have hr4 : r4 = [] := List.eq_nil_of_length_eq_zero (by omega)
    have hb2 : b = putI sm ++ recB n q d := by rw [hfull, hr4]; simp [recB]
    refine hx ⟨n, q, d, c5, ?_⟩
    have e := c0.2
    have s4' : getI b 0 = (sm, ((putI sm).length : Int), true) := by simpa using s4
    rw [s4'] at e
    simp only [Int.toNat_natCast] at e
    rw [hb2, List.drop_left] at e
    rw [hb2, e]; rfl
theorem spec_ChipOk_l0 (a : List ByteArray) (w : List Int) (hl : a.length ≤ 1000000) : ∀ (f i : Nat), a.length < i + f → i ≤ a.length →
    spec.ChipOk.l0.f a w f (i : Int) = some (if allF (fun i => (a.getD i noVal).size ≤ 800) i a.length then .inr () else .inl ()) := by
  intro f
  induction f with
  | zero => intro i h hi; omega
  | succ f ih =>
    intro i h hi
    rw [spec.ChipOk.l0.f]
    by_cases c : i < a.length
    · have e1 : w64 ((i : Int) + 1) = ((i + 1 : Nat) : Int) := wsucc (by omega)
      simp only [Int.toNat_natCast, e1]
      by_cases d : (a.getD i noVal).size ≤ 800
      · rw [if_iff ((allF_step c).trans ⟨fun g => g.2, fun g => ⟨d, g⟩⟩)]
        exact br_d (by omega) (ck_t (by omega) (br_n (by omega) (ih (i + 1) (by omega) (by omega))))
      · rw [if_neg (fun g => d ((allF_step c).1 g).1)]
        exact br_d (by omega) (ck_t (by omega) (br_d (by omega) rfl))
    · rw [if_pos (allF_end (by omega))]
      exact br_n (by omega) rfl
theorem spec_ChipOk_l1 (a : List ByteArray) (w : List Int) (hl : w.length ≤ 1000000) : ∀ (f i : Nat), w.length < i + f → i ≤ w.length →
    spec.ChipOk.l1.f a w f (i : Int) = some (if allF (fun i => 0 ≤ w.getD i 0 ∧ w.getD i 0 ≤ 1000000000) i w.length then .inr () else .inl ()) := by
  intro f
  induction f with
  | zero => intro i h hi; omega
  | succ f ih =>
    intro i h hi
    rw [spec.ChipOk.l1.f]
    by_cases c : i < w.length
    · have e1 : w64 ((i : Int) + 1) = ((i + 1 : Nat) : Int) := wsucc (by omega)
      simp only [Int.toNat_natCast, e1]
      by_cases d : 0 ≤ w.getD i 0 ∧ w.getD i 0 ≤ 1000000000
      · rw [if_iff ((allF_step c).trans ⟨fun g => g.2, fun g => ⟨d, g⟩⟩)]
        exact br_d (by omega) (ck_t (by omega) (bind_t (spec_l1In_eq _ 0 1000000000) (br_d d (ih (i + 1) (by omega) (by omega)))))
      · rw [if_neg (fun g => d ((allF_step c).1 g).1)]
        exact br_d (by omega) (ck_t (by omega) (bind_t (spec_l1In_eq _ 0 1000000000) (br_n d rfl)))
    · rw [if_pos (allF_end (by omega))]
      exact br_n (by omega) rfl
theorem spec_ChipOk_eq (K : Nat) (hK : 10000000000000 ≤ K) (a : List ByteArray) (w : List Int) : spec.ChipOk.f K a w = some (decide (chipOk a w)) := by
  unfold spec.ChipOk.f
  by_cases c1 : a.length = 60
  case neg =>
    rw [decide_eq_false (p := chipOk a w) (fun g => c1 g.1)]
    exact br_t (bne_iff_ne.2 (by omega)) rfl
  refine br_f (by simp [c1]) ?_
  by_cases c2 : w.length = 10
  case neg =>
    rw [decide_eq_false (p := chipOk a w) (fun g => c2 g.2.1)]
    exact br_t (bne_iff_ne.2 (by omega)) rfl
  refine br_f (by simp [c2]) (bind_t (spec_ChipOk_l0 a w (by omega) K 0 (by omega) (by omega)) ?_)
  by_cases c3 : allF (fun i => (a.getD i noVal).size ≤ 800) 0 a.length
  case neg =>
    rw [decide_eq_false (p := chipOk a w) (fun g => c3 g.2.2.1), if_neg c3]; rfl
  rw [if_pos c3]
  refine bind_t (spec_ChipOk_l1 a w (by omega) K 0 (by omega) (by omega)) ?_
  by_cases c4 : allF (fun i => 0 ≤ w.getD i 0 ∧ w.getD i 0 ≤ 1000000000) 0 w.length
  · rw [decide_eq_true (p := chipOk a w) ⟨c1, c2, c3, c4⟩, if_pos c4]; rfl
  · rw [decide_eq_false (p := chipOk a w) (fun g => c4 g.2.2.2), if_neg c4]; rfl
theorem impl_longPage_l0 (a : List ByteArray) (hl : a.length ≤ 1000000) : ∀ (f i : Nat), a.length < i + f → i ≤ a.length →
    ∃ r, slices.IndexFunc_string_string.l0.f a f (i : Int) = some r ∧ ((allF (fun i => (a.getD i noVal).size ≤ 800) i a.length ∧ r = .inr ()) ∨ (¬ allF (fun i => (a.getD i noVal).size ≤ 800) i a.length ∧ ∃ j : Nat, r = .inl (j : Int))) := by
  intro f
  induction f with
  | zero => intro i h hi; omega
  | succ f ih =>
    intro i h hi
    rw [slices.IndexFunc_string_string.l0.f]
    by_cases c : i < a.length
    · have e1 : w64 ((i : Int) + 1) = ((i + 1 : Nat) : Int) := wsucc (by omega)
      simp only [Int.toNat_natCast, e1]
      by_cases d : (a.getD i noVal).size ≤ 800
      · obtain ⟨r, h1, h2⟩ := ih (i + 1) (by omega) (by omega)
        refine ⟨r, br_d (by omega) (ck_t (by omega) (bind_t rfl (br_n (by omega) h1))), ?_⟩
        rcases h2 with ⟨g, e⟩ | ⟨g, e⟩
        · exact .inl ⟨(allF_step c).2 ⟨d, g⟩, e⟩
        · exact .inr ⟨fun q => g ((allF_step c).1 q).2, e⟩
      · exact ⟨_, br_d (by omega) (ck_t (by omega) (bind_t rfl (br_d (by omega) rfl))), .inr ⟨fun g => d ((allF_step c).1 g).1, i, rfl⟩⟩
    · exact ⟨_, br_n (by omega) rfl, .inl ⟨allF_end (by omega), rfl⟩⟩
theorem impl_longPage_eq (K : Nat) (hK : 10000000000000 ≤ K) (a : List ByteArray) (hl : a.length ≤ 1000000) : slices.ContainsFunc_string_string.f K a = some (!decide (allF (fun i => (a.getD i noVal).size ≤ 800) 0 a.length)) := by
  unfold slices.ContainsFunc_string_string.f slices.IndexFunc_string_string.f
  obtain ⟨r, h1, h2⟩ := impl_longPage_l0 a hl K 0 (by omega) (by omega)
  rcases h2 with ⟨g, rfl⟩ | ⟨g, j, rfl⟩
  · refine bind_t (bind_t h1 rfl) ?_
    rw [decide_eq_true g]; rfl
  · refine bind_t (bind_t h1 rfl) ?_
    rw [decide_eq_false g]; rfl
theorem impl_badWear (n : Int) : impl.ChipOk_2.f n = some (!decide (0 ≤ n ∧ n ≤ 1000000000)) := by
  unfold impl.ChipOk_2.f
  exact bind_t (impl_in_eq n 0 1000000000) rfl
theorem impl_badWears_l0 (a : List Int) (hl : a.length ≤ 1000000) : ∀ (f i : Nat), a.length < i + f → i ≤ a.length →
    ∃ r, slices.IndexFunc_int_int.l0.f a f (i : Int) = some r ∧ ((allF (fun i => 0 ≤ a.getD i 0 ∧ a.getD i 0 ≤ 1000000000) i a.length ∧ r = .inr ()) ∨ (¬ allF (fun i => 0 ≤ a.getD i 0 ∧ a.getD i 0 ≤ 1000000000) i a.length ∧ ∃ j : Nat, r = .inl (j : Int))) := by
  intro f
  induction f with
  | zero => intro i h hi; omega
  | succ f ih =>
    intro i h hi
    rw [slices.IndexFunc_int_int.l0.f]
    by_cases c : i < a.length
    · have e1 : w64 ((i : Int) + 1) = ((i + 1 : Nat) : Int) := wsucc (by omega)
      simp only [Int.toNat_natCast, e1]
      by_cases d : 0 ≤ a.getD i 0 ∧ a.getD i 0 ≤ 1000000000
      · obtain ⟨r, h1, h2⟩ := ih (i + 1) (by omega) (by omega)
        refine ⟨r, br_d (by omega) (ck_t (by omega) (bind_t (impl_badWear _) (br_f (by rw [decide_eq_true d]; rfl) h1))), ?_⟩
        rcases h2 with ⟨g, e⟩ | ⟨g, e⟩
        · exact .inl ⟨(allF_step c).2 ⟨d, g⟩, e⟩
        · exact .inr ⟨fun q => g ((allF_step c).1 q).2, e⟩
      · exact ⟨_, br_d (by omega) (ck_t (by omega) (bind_t (impl_badWear _) (br_t (by rw [decide_eq_false d]; rfl) rfl))), .inr ⟨fun g => d ((allF_step c).1 g).1, i, rfl⟩⟩
    · exact ⟨_, br_n (by omega) rfl, .inl ⟨allF_end (by omega), rfl⟩⟩
theorem impl_badWears_eq (K : Nat) (hK : 10000000000000 ≤ K) (a : List Int) (hl : a.length ≤ 1000000) : slices.ContainsFunc_int_int.f K a = some (!decide (allF (fun i => 0 ≤ a.getD i 0 ∧ a.getD i 0 ≤ 1000000000) 0 a.length)) := by
  unfold slices.ContainsFunc_int_int.f slices.IndexFunc_int_int.f
  obtain ⟨r, h1, h2⟩ := impl_badWears_l0 a hl K 0 (by omega) (by omega)
  rcases h2 with ⟨g, rfl⟩ | ⟨g, j, rfl⟩
  · refine bind_t (bind_t h1 rfl) ?_
    rw [decide_eq_true g]; rfl
  · refine bind_t (bind_t h1 rfl) ?_
    rw [decide_eq_false g]; rfl
theorem impl_ChipOk_eq (K : Nat) (hK : 10000000000000 ≤ K) (a : List ByteArray) (w : List Int) : impl.ChipOk.f K a w = some (decide (chipOk a w)) := by
  unfold impl.ChipOk.f
  by_cases c1 : a.length = 60
  case neg =>
    rw [decide_eq_false (p := chipOk a w) (fun g => c1 g.1)]
    exact br_f (beq_eq_false_iff_ne.2 (by omega)) rfl
  refine br_t (by simp [c1]) ?_
  by_cases c2 : w.length = 10
  case neg =>
    rw [decide_eq_false (p := chipOk a w) (fun g => c2 g.2.1)]
    exact br_f (beq_eq_false_iff_ne.2 (by omega)) rfl
  refine br_t (by simp [c2]) (bind_t (impl_longPage_eq K hK a (by omega)) ?_)
  by_cases c3 : allF (fun i => (a.getD i noVal).size ≤ 800) 0 a.length
  case neg =>
    rw [decide_eq_false (p := chipOk a w) (fun g => c3 g.2.2.1), decide_eq_false c3]; rfl
  rw [decide_eq_true c3]
  refine br_f rfl (bind_t (impl_badWears_eq K hK w (by omega)) ?_)
  by_cases c4 : allF (fun i => 0 ≤ w.getD i 0 ∧ w.getD i 0 ≤ 1000000000) 0 w.length
  · rw [decide_eq_true (p := chipOk a w) ⟨c1, c2, c3, c4⟩, decide_eq_true c4]; rfl
  · rw [decide_eq_false (p := chipOk a w) (fun g => c4 g.2.2.2), decide_eq_false c4]; rfl
theorem spec_Mount_l0 (a : List ByteArray) (w : List Int) : ∀ (f i : Nat), 26 < i + f → i ≤ 26 → spec.Mount.l0.f a w f (List.replicate i (-1)) (i : Int) = some (List.replicate 26 (-1)) := by
  intro f
  induction f with
  | zero => intro i h hi; omega
  | succ f ih =>
    intro i h hi
    rw [spec.Mount.l0.f]
    by_cases c : i < 26
    · have e1 : w64 ((i : Int) + 1) = ((i + 1 : Nat) : Int) := wsucc (by omega)
      have e2 : List.replicate i (-1 : Int) ++ [-1] = List.replicate (i + 1) (-1) := (List.replicate_succ' ..).symm
      simp only [e1, e2]
      exact br_d (by omega) (ck_t (by rw [List.length_replicate]; omega) (ih (i + 1) (by omega) (by omega)))
    · have : i = 26 := by omega
      subst this
      exact br_n (by omega) rfl
theorem spec_l1Max_eq (a b : Int) : spec.l1Max.f a b = some (if a > b then a else b) := by
  unfold spec.l1Max.f
  by_cases c : a > b
  · rw [if_pos c]; exact br_d c rfl
  · rw [if_neg c]; exact br_n c rfl
theorem spec_l1Min_eq (a b : Int) : spec.l1Min.f a b = some (if a < b then a else b) := by
  unfold spec.l1Min.f
  by_cases c : a < b
  · rw [if_pos c]; exact br_d c rfl
  · rw [if_neg c]; exact br_n c rfl
theorem spec_Mount_l1 (K : Nat) (hK : 10000000000000 ≤ K) (a : List ByteArray) (w : List Int) (hl : a.length ≤ 1000000) (hs : ∀ x ∈ a, x.size ≤ 1000000) : ∀ (f i : Nat) (st : Mnt), a.length < i + f → i ≤ a.length → MntOk a i st →
    spec.Mount.l1.f K a w f st.map st.seq st.best (i : Int) = some ((mRun a i (a.length - i) st).map, (mRun a i (a.length - i) st).seq) := by
  intro f
  induction f with
  | zero => intro i st h hi; omega
  | succ f ih =>
    intro i st h hi ho
    rw [spec.Mount.l1.f]
    by_cases c : i < a.length
    · have e1 : w64 ((i : Int) + 1) = ((i + 1 : Nat) : Int) := wsucc (by omega)
      have hz : (a.getD i noVal).size ≤ 1000000000000 := by rw [getD_at c]; have := hs _ (List.getElem_mem c); omega
      have hr := spec_RecRead_eq K hK (a.getD i noVal) hz
      rw [show recR (bytesL (a.getD i noVal)) = pg a i from rfl] at hr
      rw [show a.length - i = (a.length - (i + 1)) + 1 by omega, mRun_succ]
      have hn := ih (i + 1) (mStep a st i) (by omega) (by omega) ho.step
      simp only [Int.toNat_natCast, e1]
      by_cases d : (pg a i).2.2.2 = true
      case neg =>
        have : mStep a st i = st := by unfold mStep; rw [if_neg d]
        rw [this] at hn ⊢
        exact br_d (by omega) (ck_t (by omega) (bind_t hr (br_f (by simpa using d) hn)))
      obtain ⟨r1, r2, r3, r4, r5⟩ := pg_ok d
      have e2 : w64 ((pg a i).2.1 + 1) = (pg a i).2.1 + 1 := w64_id (by omega) (by omega)
      have hsq : ∀ {α : Type} {g : Int → Option α} {q : Option α}, g (seqN st.seq (pg a i).2.1) = q → (Option.bind (spec.l1Max.f st.seq ((pg a i).2.1 + 1)) fun x2 => Option.bind (spec.l1Min.f x2 1000000000) fun x3 => g x3) = q := by
        intro α g q hg
        exact bind_t (spec_l1Max_eq _ _) (bind_t (spec_l1Min_eq _ _) hg)
      have hml := ho.mlen
      have hbl := ho.blen
      refine br_d (by omega) (ck_t (by omega) (bind_t hr (br_t d (ck_t r1 (ck_t (by omega) ?_)))))
      simp only [e2]
      by_cases e : (pg a i).2.1 > st.best.getD (pg a i).1.toNat 0
      · have : mStep a st i = ⟨st.map.set (pg a i).1.toNat i, seqN st.seq (pg a i).2.1, st.best.set (pg a i).1.toNat (pg a i).2.1⟩ := by unfold mStep; rw [if_pos d, if_pos e]
        rw [this] at hn ⊢
        exact br_d e (ck_t (by omega) (hsq hn))
      · have : mStep a st i = ⟨st.map, seqN st.seq (pg a i).2.1, st.best⟩ := by unfold mStep; rw [if_pos d, if_neg e]
        rw [this] at hn ⊢
        exact br_n e (hsq hn)
    · rw [show a.length - i = 0 by omega]
      exact br_n (by omega) rfl
theorem spec_l2Copy_eq (a : List ByteArray) (w : List Int) (h : chipOk a w) : spec.l2Copy.f a w = some () := by
  unfold spec.l2Copy.f
  have h1 := h.1
  have h2 := h.2.1
  exact ck_t (by simp only [List.nil_append]; omega) (ck_t (by simp only [List.nil_append]; omega) rfl)
theorem spec_Mount_eq (K : Nat) (hK : 10000000000000 ≤ K) (a : List ByteArray) (w : List Int) : spec.Mount.f K a w = some (if chipOk a w then (a, w, (mnt a).map, (mnt a).seq) else ([], [], [], 0)) := by
  unfold spec.Mount.f
  refine bind_t (spec_ChipOk_eq K hK a w) ?_
  by_cases c : chipOk a w
  · rw [if_pos c]
    have h1 := c.1
    have hm := spec_Mount_l1 K hK a w (by omega) (fun x hx => by have := chip_page c x hx; omega) K 0 mInit (by omega) (by omega) (mInit_ok a)
    exact br_d c (bind_t (spec_l2Copy_eq a w c) (ck_t (by decide) (bind_t (spec_Mount_l0 a w K 0 (by omega) (by omega)) (bind_t hm rfl))))
  · rw [if_neg c]
    exact br_n c rfl
theorem impl_Repeat_eq (K : Nat) (hK : 10000000000000 ≤ K) : slices.Repeat_int_int.f K [(-1)] 26 = some (List.replicate 26 (-1)) := by
  obtain ⟨k, rfl⟩ : ∃ k, K = k + 10 := ⟨K - 10, by omega⟩
  kernel_rfl
theorem impl_cloneChip_eq (a : List ByteArray) (w : List Int) (h : chipOk a w) : impl.cloneChip.f a w = some (a, w) := by
  unfold impl.cloneChip.f slices.Clone_string_string.f slices.Clone_int_int.f
  have h1 := h.1
  have h2 := h.2.1
  exact bind_t (ck_t (by omega) rfl) (bind_t (ck_t (by omega) rfl) rfl)
theorem minmax_seqN (s q : Int) : minI 1000000000 (maxI s (q + 1)) = seqN s q := by
  unfold minI maxI seqN
  by_cases c : s > q + 1
  · have e : (if s < q + 1 then q + 1 else s) = s := if_neg (by omega)
    rw [e, if_pos c]
  · have e : (if s < q + 1 then q + 1 else s) = q + 1 := by
      split
      · rfl
      · omega
    rw [e, if_neg c]
theorem pg_empty {a : List ByteArray} {i : Nat} (h : a.getD i noVal = noVal) : (pg a i).2.2.2 = false := by
  unfold pg
  rw [h]
  decide
theorem impl_mount_l0 (K : Nat) (hK : 10000000000000 ≤ K) (a : List ByteArray) (w : List Int) (hl : a.length ≤ 1000000) (hs : ∀ x ∈ a, x.size ≤ 1000000) (A : List ByteArray) (W : List Int) : ∀ (f i : Nat) (st : Mnt), a.length < i + f → i ≤ a.length → MntOk a i st →
    impl.mount.l0.f K a w f A W st.map st.seq st.best (i : Int) = some (A, W, (mRun a i (a.length - i) st).map, (mRun a i (a.length - i) st).seq) := by
  intro f
  induction f with
  | zero => intro i st h hi; omega
  | succ f ih =>
    intro i st h hi ho
    rw [impl.mount.l0.f]
    by_cases c : i < a.length
    · have e1 : w64 ((i : Int) + 1) = ((i + 1 : Nat) : Int) := wsucc (by omega)
      have hz : (a.getD i noVal).size ≤ 1000000000000 := by rw [getD_at c]; have := hs _ (List.getElem_mem c); omega
      have hr := impl_RecRead_eq K hK (a.getD i noVal) hz
      rw [show recR (bytesL (a.getD i noVal)) = pg a i from rfl] at hr
      rw [show a.length - i = (a.length - (i + 1)) + 1 by omega, mRun_succ]
      have hn := ih (i + 1) (mStep a st i) (by omega) (by omega) ho.step
      simp only [Int.toNat_natCast, e1]
      by_cases z : a.getD i noVal = noVal
      · have : mStep a st i = st := by unfold mStep; rw [pg_empty z, if_neg (by decide)]
        rw [this] at hn ⊢
        exact br_d (by omega) (ck_t (by omega) (br_t (strEq_iff.2 z) hn))
      have nz : strEq (a.getD i noVal) noVal = false := by rw [← Bool.not_eq_true, strEq_iff]; exact z
      by_cases d : (pg a i).2.2.2 = true
      case neg =>
        have : mStep a st i = st := by unfold mStep; rw [if_neg d]
        rw [this] at hn ⊢
        exact br_d (by omega) (ck_t (by omega) (br_f nz (bind_t hr (br_f (by simpa using d) hn))))
      obtain ⟨r1, r2, r3, r4, r5⟩ := pg_ok d
      have e2 : w64 ((pg a i).2.1 + 1) = (pg a i).2.1 + 1 := w64_id (by omega) (by omega)
      have hml := ho.mlen
      have hbl := ho.blen
      refine br_d (by omega) (ck_t (by omega) (br_f nz (bind_t hr (br_t d (ck_t r1 (ck_t (by omega) ?_))))))
      simp only [e2, minmax_seqN]
      by_cases e : (pg a i).2.1 > st.best.getD (pg a i).1.toNat 0
      · have : mStep a st i = ⟨st.map.set (pg a i).1.toNat i, seqN st.seq (pg a i).2.1, st.best.set (pg a i).1.toNat (pg a i).2.1⟩ := by unfold mStep; rw [if_pos d, if_pos e]
        rw [this] at hn ⊢
        exact br_d e (ck_t (by omega) hn)
      · have : mStep a st i = ⟨st.map, seqN st.seq (pg a i).2.1, st.best⟩ := by unfold mStep; rw [if_pos d, if_neg e]
        rw [this] at hn ⊢
        exact br_n e hn
    · rw [show a.length - i = 0 by omega]
      exact br_n (by omega) rfl
theorem impl_mount_eq (K : Nat) (hK : 10000000000000 ≤ K) (a : List ByteArray) (w : List Int) (c : chipOk a w) : impl.mount.f K a w = some (a, w, (mnt a).map, (mnt a).seq) := by
  unfold impl.mount.f
  have h1 := c.1
  have hm := impl_mount_l0 K hK a w (by omega) (fun x hx => by have := chip_page c x hx; omega) a w K 0 mInit (by omega) (by omega) (mInit_ok a)
  exact bind_t (impl_cloneChip_eq a w c) (bind_t (impl_Repeat_eq K hK) (ck_t (by decide) (bind_t hm rfl)))
theorem spec_l4Ints_l0 (m n : List Int) (hl : m.length ≤ 10000000) : ∀ (f i : Nat), m.length < i + f → i ≤ m.length →
    (allF (fun j => j < n.length → m.getD j 0 = n.getD j 0) i m.length ∧ spec.l4Ints.l0.f m n f (i : Int) = some (.inr ())) ∨ (¬ allF (fun j => j < n.length → m.getD j 0 = n.getD j 0) i m.length ∧ spec.l4Ints.l0.f m n f (i : Int) = some (.inl ())) := by
  intro f
  induction f with
  | zero => intro i h hi; omega
  | succ f ih =>
    intro i h hi
    rw [spec.l4Ints.l0.f]
    by_cases c : i < m.length
    · have e1 : w64 ((i : Int) + 1) = ((i + 1 : Nat) : Int) := wsucc (by omega)
      simp only [Int.toNat_natCast, e1]
      by_cases c2 : i < n.length
      · by_cases d : m.getD i 0 = n.getD i 0
        · have hb : (m.getD i 0 != n.getD i 0) = false := by rw [d]; simp
          rcases ih (i + 1) (by omega) (by omega) with ⟨g, h1⟩ | ⟨g, h1⟩
          · exact .inl ⟨(allF_step c).2 ⟨fun _ => d, g⟩, br_d (by omega) (br_d (by omega) (ck_t (by omega) (br_f hb h1)))⟩
          · exact .inr ⟨fun q => g ((allF_step c).1 q).2, br_d (by omega) (br_d (by omega) (ck_t (by omega) (br_f hb h1)))⟩
        · exact .inr ⟨fun q => d (((allF_step c).1 q).1 c2), br_d (by omega) (br_d (by omega) (ck_t (by omega) (br_t (bne_iff_ne.2 d) rfl)))⟩
      · exact .inl ⟨fun j h1 h2 h3 => by omega, br_d (by omega) (br_n (by omega) rfl)⟩
    · exact .inl ⟨allF_end (by omega), br_n (by omega) rfl⟩
theorem list_ext {m n : List Int} (hl : m.length = n.length) (h : ∀ j, j < m.length → m.getD j 0 = n.getD j 0) : m = n := by
  refine List.ext_getElem hl fun j h1 h2 => ?_
  have := h j h1
  rwa [getD_at h1, getD_at h2] at this
theorem spec_l4Ints_eq (K : Nat) (hK : 10000000000000 ≤ K) (m n : List Int) (hl : m.length ≤ 10000000) : spec.l4Ints.f K m n = some (decide (m = n)) := by
  unfold spec.l4Ints.f
  rcases spec_l4Ints_l0 m n hl K 0 (by omega) (by omega) with ⟨g, h⟩ | ⟨g, h⟩
  · refine bind_t h ?_
    show some ((m.length : Int) == (n.length : Int)) = _
    by_cases c : m.length = n.length
    · have := list_ext c (fun j hj => g j (by omega) hj (by omega))
      rw [decide_eq_true this, c]; simp
    · rw [decide_eq_false (fun e => c (by rw [e]))]
      congr 1
      exact beq_eq_false_iff_ne.2 (by omega)
  · refine bind_t h ?_
    rw [decide_eq_false (fun e => g (fun j _ _ _ => by rw [e]))]; rfl
theorem impl_Equal_l0 (m n : List Int) (hl : m.length ≤ 10000000) (hn : m.length = n.length) : ∀ (f i : Nat), m.length < i + f → i ≤ m.length →
    slices.Equal_int_int.l0.f m n f (i : Int) = some (if allF (fun j => m.getD j 0 = n.getD j 0) i m.length then .inr () else .inl ()) := by
  intro f
  induction f with
  | zero => intro i h hi; omega
  | succ f ih =>
    intro i h hi
    rw [slices.Equal_int_int.l0.f]
    by_cases c : i < m.length
    · have e1 : w64 ((i : Int) + 1) = ((i + 1 : Nat) : Int) := wsucc (by omega)
      simp only [Int.toNat_natCast, e1]
      by_cases d : m.getD i 0 = n.getD i 0
      · rw [if_iff ((allF_step c).trans ⟨fun g => g.2, fun g => ⟨d, g⟩⟩)]
        exact br_d (by omega) (ck_t (by omega) (ck_t (by omega) (br_f (by rw [d]; simp) (ih (i + 1) (by omega) (by omega)))))
      · rw [if_neg (fun g => d ((allF_step c).1 g).1)]
        exact br_d (by omega) (ck_t (by omega) (ck_t (by omega) (br_t (bne_iff_ne.2 d) rfl)))
    · rw [if_pos (allF_end (by omega))]
      exact br_n (by omega) rfl
theorem impl_Equal_eq (K : Nat) (hK : 10000000000000 ≤ K) (m n : List Int) (hl : m.length ≤ 10000000) : slices.Equal_int_int.f K m n = some (decide (m = n)) := by
  unfold slices.Equal_int_int.f
  by_cases c : m.length = n.length
  · refine br_f (by simp [c]) (bind_t (impl_Equal_l0 m n hl c K 0 (by omega) (by omega)) ?_)
    by_cases d : allF (fun j => m.getD j 0 = n.getD j 0) 0 m.length
    · rw [if_pos d, decide_eq_true (list_ext c (fun j hj => d j (by omega) hj))]; rfl
    · rw [if_neg d, decide_eq_false (fun e => d (fun j _ _ => by rw [e]))]; rfl
  · rw [decide_eq_false (fun e => c (by rw [e]))]
    exact br_t (bne_iff_ne.2 (by omega)) rfl
theorem spec_FtlOk_eq (K : Nat) (hK : 10000000000000 ≤ K) (a : List ByteArray) (w m : List Int) (s : Int) : spec.FtlOk.f K a w m s = some (decide (ftlOk a w m s)) := by
  unfold spec.FtlOk.f
  refine bind_t (spec_Mount_eq K hK a w) (bind_t (spec_ChipOk_eq K hK a w) ?_)
  by_cases c : chipOk a w
  case neg => rw [decide_eq_false (p := ftlOk a w m s) (fun g => c g.1)]; exact br_n c rfl
  rw [if_pos c]
  have hm := (mnt_ok a).mlen
  refine br_d c (bind_t (spec_l4Ints_eq K hK _ _ (by show (mnt a).map.length ≤ _; omega)) ?_)
  by_cases d : (mnt a).map = m
  case neg => rw [decide_eq_false (p := ftlOk a w m s) (fun g => d g.2.1.symm)]; exact br_n d rfl
  refine br_d d ?_
  by_cases e : (mnt a).seq = s
  · rw [decide_eq_true (p := ftlOk a w m s) ⟨c, d.symm, e.symm⟩]; simp [e]
  · rw [decide_eq_false (p := ftlOk a w m s) (fun g => e g.2.2.symm)]; simp [e]
theorem impl_FtlOk_eq (K : Nat) (hK : 10000000000000 ≤ K) (a : List ByteArray) (w m : List Int) (s : Int) (hl : m.length ≤ 10000000) : impl.FtlOk.f K a w m s = some (decide (ftlOk a w m s)) := by
  unfold impl.FtlOk.f
  refine bind_t (impl_ChipOk_eq K hK a w) ?_
  by_cases c : chipOk a w
  case neg => rw [decide_eq_false (p := ftlOk a w m s) (fun g => c g.1)]; exact br_n c rfl
  refine br_d c (bind_t (impl_mount_eq K hK a w c) (bind_t (impl_Equal_eq K hK m _ hl) ?_))
  by_cases d : m = (mnt a).map
  case neg => rw [decide_eq_false (p := ftlOk a w m s) (fun g => d g.2.1)]; exact br_n d rfl
  refine br_d d ?_
  by_cases e : s = (mnt a).seq
  · rw [decide_eq_true (p := ftlOk a w m s) ⟨c, d, e⟩]; simp [e]
  · rw [decide_eq_false (p := ftlOk a w m s) (fun g => e g.2.2)]; simp [e]
theorem szStringS_l0 (a : List ByteArray) (hl : a.length ≤ 1000000000000000) (hs : ∀ x ∈ a, x.size ≤ maxLen) : ∀ (f i : Nat) (left : Int), a.length < i + f → i ≤ a.length → 0 ≤ left → left ≤ 1000000000000 →
    laws.szStringS.l0.f a f left (i : Int) = some (.inl ()) ∨ ∃ r, laws.szStringS.l0.f a f left (i : Int) = some (.inr r) ∧ 0 ≤ r ∧ r + tot (a.drop i) = left := by
  intro f
  induction f with
  | zero => intro i left h hi; omega
  | succ f ih =>
    intro i left h hi h0 h1
    rw [laws.szStringS.l0.f]
    by_cases c : i < a.length
    · have e1 : w64 ((i : Int) + 1) = ((i + 1 : Nat) : Int) := wsucc (by omega)
      have hx := hs _ (List.getElem_mem c)
      have hm := maxLen_le
      have e2 : w64 (left - (a[i].size : Int)) = left - (a[i].size : Int) := w64_id (by omega) (by omega)
      simp only [Int.toNat_natCast, getD_at c, e1, e2]
      by_cases c2 : left - (a[i].size : Int) < 0
      · exact .inl (br_d (by omega) (ck_t (by omega) (br_d c2 rfl)))
      · rcases ih (i + 1) (left - (a[i].size : Int)) (by omega) (by omega) (by omega) (by omega) with g | ⟨r, g1, g2, g3⟩
        · exact .inl (br_d (by omega) (ck_t (by omega) (br_n c2 g)))
        · refine .inr ⟨r, br_d (by omega) (ck_t (by omega) (br_n c2 g1)), g2, ?_⟩
          rw [List.drop_eq_getElem_cons c, tot_cons]
          omega
    · refine .inr ⟨left, br_n (by omega) rfl, h0, ?_⟩
      rw [List.drop_of_length_le (by omega)]
      simp [tot]
theorem szStringS_eq (K : Nat) (hK : 10000000000000 ≤ K) (a : List ByteArray) (hl : a.length ≤ maxLen) (hs : ∀ x ∈ a, x.size ≤ maxLen) (left : Int) (h0 : 0 ≤ left) (h1 : left ≤ 1000000000000) :
    ∃ r, laws.szStringS.f K a left = some r ∧ (0 ≤ r → r + a.length + tot a = left) := by
  unfold laws.szStringS.f
  have hm := maxLen_le
  have e2 : w64 (left - (a.length : Int)) = left - (a.length : Int) := w64_id (by omega) (by omega)
  rw [e2]
  by_cases c : left - (a.length : Int) < 0
  · exact ⟨-1, br_d c rfl, fun h => by omega⟩
  · rcases szStringS_l0 a (by omega) hs K 0 (left - a.length) (by omega) (by omega) (by omega) (by omega) with g | ⟨r, g1, g2, g3⟩
    · exact ⟨-1, br_n c (bind_t g rfl), fun h => by omega⟩
    · refine ⟨r, br_n c (bind_t g1 rfl), fun _ => ?_⟩
      rw [List.drop_zero] at g3
      omega
theorem szIntS_eq (a : List Int) (hl : a.length ≤ maxLen) (left : Int) (h0 : 0 ≤ left) (h1 : left ≤ 1000000000000) : ∃ r, laws.szIntS.f a left = some r ∧ (0 ≤ r → r + a.length = left) := by
  unfold laws.szIntS.f
  have hm := maxLen_le
  have e2 : w64 (left - (a.length : Int)) = left - (a.length : Int) := w64_id (by omega) (by omega)
  rw [e2]
  by_cases c : left - (a.length : Int) < 0
  · exact ⟨-1, br_d c rfl, fun h => by omega⟩
  · exact ⟨_, br_n c rfl, fun _ => by omega⟩
theorem toStringS_l0 (a : List ByteArray) (hl : a.length ≤ 1000000000000000) : ∀ (f i : Nat) (v : List ByteArray), a.length < i + f → i ≤ a.length → v.length = a.length → v.take i = a.take i → laws.toStringS.l0.f a f v (i : Int) = some a := by
  intro f
  induction f with
  | zero => intro i v h hi; omega
  | succ f ih =>
    intro i v h hi hv ht
    rw [laws.toStringS.l0.f]
    by_cases c : i < a.length
    · have e1 : w64 ((i : Int) + 1) = ((i + 1 : Nat) : Int) := wsucc (by omega)
      simp only [Int.toNat_natCast, getD_at c, e1]
      exact br_d (by omega) (ck_t (by omega) (ck_t (by omega) (ih (i + 1) _ (by omega) (by omega) (by rw [List.length_set]; exact hv) (set_take c hv ht))))
    · rw [take_all (by omega) hv ht]
      exact br_n (by omega) rfl
theorem toStringS_eq (K : Nat) (hK : 10000000000000 ≤ K) (a : List ByteArray) (hl : a.length ≤ 1000000000000) : laws.toStringS.f K a = some a := by
  unfold laws.toStringS.f
  exact ck_t (by omega) (bind_t (toStringS_l0 a (by omega) K 0 _ (by omega) (by omega) (by rw [List.length_replicate]) rfl) rfl)
theorem toIntS_l0 (a : List Int) (hl : a.length ≤ 1000000000000000) : ∀ (f i : Nat) (v : List Int), a.length < i + f → i ≤ a.length → v.length = a.length → v.take i = a.take i → laws.toIntS.l0.f a f v (i : Int) = some a := by
  intro f
  induction f with
  | zero => intro i v h hi; omega
  | succ f ih =>
    intro i v h hi hv ht
    rw [laws.toIntS.l0.f]
    by_cases c : i < a.length
    · have e1 : w64 ((i : Int) + 1) = ((i + 1 : Nat) : Int) := wsucc (by omega)
      simp only [Int.toNat_natCast, getD_at c, e1]
      exact br_d (by omega) (ck_t (by omega) (ck_t (by omega) (ih (i + 1) _ (by omega) (by omega) (by rw [List.length_set]; exact hv) (set_take c hv ht))))
    · rw [take_all (by omega) hv ht]
      exact br_n (by omega) rfl
theorem toIntS_eq (K : Nat) (hK : 10000000000000 ≤ K) (a : List Int) (hl : a.length ≤ 1000000000000) : laws.toIntS.f K a = some a := by
  unfold laws.toIntS.f
  exact ck_t (by omega) (bind_t (toIntS_l0 a (by omega) K 0 _ (by omega) (by omega) (by rw [List.length_replicate]) rfl) rfl)
theorem eqStringS_l0 (a : List ByteArray) (hl : a.length ≤ 1000000000000000) : ∀ (f i : Nat), a.length < i + f → i ≤ a.length → laws.eqStringS.l0.f a a f (i : Int) = some (.inr ()) := by
  intro f
  induction f with
  | zero => intro i h hi; omega
  | succ f ih =>
    intro i h hi
    rw [laws.eqStringS.l0.f]
    by_cases c : i < a.length
    · have e1 : w64 ((i : Int) + 1) = ((i + 1 : Nat) : Int) := wsucc (by omega)
      simp only [e1]
      exact br_d (by omega) (ck_t (by omega) (ck_t (by omega) (br_t (strEq_self _) (ih (i + 1) (by omega) (by omega)))))
    · exact br_n (by omega) rfl
theorem eqStringS_self (K : Nat) (hK : 10000000000000 ≤ K) (a : List ByteArray) (hl : a.length ≤ 1000000000000) : laws.eqStringS.f K a a = some true := by
  unfold laws.eqStringS.f
  exact br_f (by simp) (bind_t (eqStringS_l0 a (by omega) K 0 (by omega) (by omega)) rfl)
theorem eqIntS_l0 (a : List Int) (hl : a.length ≤ 1000000000000000) : ∀ (f i : Nat), a.length < i + f → i ≤ a.length → laws.eqIntS.l0.f a a f (i : Int) = some (.inr ()) := by
  intro f
  induction f with
  | zero => intro i h hi; omega
  | succ f ih =>
    intro i h hi
    rw [laws.eqIntS.l0.f]
    by_cases c : i < a.length
    · have e1 : w64 ((i : Int) + 1) = ((i + 1 : Nat) : Int) := wsucc (by omega)
      simp only [e1]
      exact br_d (by omega) (ck_t (by omega) (ck_t (by omega) (br_f (by simp) (ih (i + 1) (by omega) (by omega)))))
    · exact br_n (by omega) rfl
theorem eqIntS_self (K : Nat) (hK : 10000000000000 ≤ K) (a : List Int) (hl : a.length ≤ 1000000000000) : laws.eqIntS.f K a a = some true := by
  unfold laws.eqIntS.f
  exact br_f (by simp) (bind_t (eqIntS_l0 a (by omega) K 0 (by omega) (by omega)) rfl)
theorem szFtl_eq (K : Nat) (hK : 10000000000000 ≤ K) (a : List ByteArray) (w m : List Int) (s : Int) (ha : a.length ≤ maxLen) (hs : ∀ x ∈ a, x.size ≤ maxLen) (hw : w.length ≤ maxLen) (hm : m.length ≤ maxLen) : ∃ r, laws.szFtl.f K a w m s 1048576 = some r ∧ (0 ≤ r → a.length + tot a + w.length + m.length ≤ 1048576) := by
  unfold laws.szFtl.f laws.szChip.f
  obtain ⟨r, h1, h2⟩ := szStringS_eq K hK a ha hs 1048576 (by decide) (by decide)
  by_cases c : r < 0
  · exact ⟨-1, bind_t (bind_t h1 (br_d c rfl)) (br_d (by decide) rfl), fun h => by omega⟩
  have h3 := h2 (by omega)
  obtain ⟨q, g1, g2⟩ := szIntS_eq w hw r (by omega) (by omega)
  by_cases c2 : q < 0
  · exact ⟨-1, bind_t (bind_t h1 (br_n c (bind_t g1 (br_d c2 rfl)))) (br_d (by decide) rfl), fun h => by omega⟩
  have g3 := g2 (by omega)
  obtain ⟨p, k1, k2⟩ := szIntS_eq m hm q (by omega) (by omega)
  by_cases c3 : p < 0
  · exact ⟨-1, bind_t (bind_t h1 (br_n c (bind_t g1 (br_n c2 rfl)))) (br_n c2 (bind_t k1 (br_d c3 rfl))), fun h => by omega⟩
  · have k3 := k2 (by omega)
    exact ⟨p, bind_t (bind_t h1 (br_n c (bind_t g1 (br_n c2 rfl)))) (br_n c2 (bind_t k1 (br_n c3 rfl))), fun h => by omega⟩
theorem toFtl_eq (K : Nat) (hK : 10000000000000 ≤ K) (a : List ByteArray) (w m : List Int) (s : Int) (ha : a.length ≤ 1000000000000) (hw : w.length ≤ 1000000000000) (hm : m.length ≤ 1000000000000) : laws.toFtl.f K a w m s = some (a, w, m) := by
  unfold laws.toFtl.f laws.toChip.f
  exact bind_t (bind_t (toStringS_eq K hK a ha) (bind_t (toIntS_eq K hK w hw) rfl)) (bind_t (toIntS_eq K hK m hm) rfl)
theorem eqFtl_self (K : Nat) (hK : 10000000000000 ≤ K) (a : List ByteArray) (w m : List Int) (s : Int) (ha : a.length ≤ 1000000000000) (hw : w.length ≤ 1000000000000) (hm : m.length ≤ 1000000000000) : laws.eqFtl.f K a w m s a w m s = some true := by
  unfold laws.eqFtl.f laws.eqChip.f
  exact bind_t (bind_t (eqStringS_self K hK a ha) (br_t rfl (bind_t (eqIntS_self K hK w hw) (br_t rfl rfl)))) (br_t rfl (bind_t (eqIntS_self K hK m hm) (br_t rfl (br_f (by simp) rfl))))
theorem markText_l0 : ∀ (f q : Nat) (n : Int) (x : ByteArray), f < q → 0 ≤ n → n < 10 ^ f → n < 9223372036854775808 → x.size + f ≤ 1000 → ∃ r, laws.markText.l0.f q n x = some r ∧ r.size ≤ x.size + f := by
  intro f
  induction f with
  | zero =>
    intro q n x hq h0 h1 h2 hx
    obtain ⟨q, rfl⟩ := Nat.exists_eq_add_one_of_ne_zero (by omega : q ≠ 0)
    have h1 : n < 1 := h1
    rw [laws.markText.l0.f]
    exact ⟨x, br_n (by omega) rfl, by omega⟩
  | succ f ih =>
    intro q n x hq h0 h1 h2 hx
    obtain ⟨q, rfl⟩ := Nat.exists_eq_add_one_of_ne_zero (by omega : q ≠ 0)
    rw [laws.markText.l0.f]
    by_cases c : n > 0
    · have e1 : n.tdiv 10 = n / 10 := Int.tdiv_eq_ediv_of_nonneg (by omega)
      have e2 : w64 (n / 10) = n / 10 := w64_id (by omega) (by omega)
      have hs : ∀ y : List Int, (ofBytes y ++ x).size = y.length + x.size := fun y => by rw [ByteArray.size_append, ofBytes_size]
      rw [e1, e2]
      generalize IntKind.u8.wrap (w64 (48 + n.tmod 10)) = z
      obtain ⟨r, hr, hz⟩ := ih q (n / 10) (ofBytes [z] ++ x) (by omega) (by omega) (by rw [Int.pow_succ] at h1; omega) (by omega) (by rw [hs]; simp; omega)
      refine ⟨r, br_d c (ck_t ?_ hr), ?_⟩
      · rw [ofBytes_size]; simp; omega
      · rw [hs] at hz; simp at hz; omega
    · exact ⟨x, br_n c rfl, by omega⟩
theorem markText_some (K : Nat) (hK : 10000000000000 ≤ K) (n : Int) (h : n < 9223372036854775808) : ∃ r, laws.markText.f K n = some r ∧ r.size ≤ 30 := by
  unfold laws.markText.f
  by_cases c : n ≤ 0
  · exact ⟨_, br_d c rfl, by decide⟩
  · obtain ⟨r, h1, h2⟩ := markText_l0 19 K n noVal (by omega) (by omega) (by omega) h (by decide)
    have h3 : r.size ≤ 19 := h2
    have h4 : (ByteArray.mk #[109]).size = 1 := rfl
    exact ⟨_, br_n c (bind_t h1 (ck_t (by rw [h4]; omega) rfl)), by rw [ByteArray.size_append, h4]; omega⟩
/-- The mark of a number, as a text. -/
def mtx (K : Nat) (n : Int) : ByteArray := (laws.markText.f K n).getD noVal
theorem markText_eq (K : Nat) (hK : 10000000000000 ≤ K) (n : Int) (h : n < 9223372036854775808) : laws.markText.f K n = some (mtx K n) := by
  obtain ⟨r, h1, _⟩ := markText_some K hK n h
  unfold mtx
  rw [h1]; rfl
/-- What the marks are. -/
def mkStringS (K : Nat) (m : Int) (n : Nat) : List ByteArray := (List.range n).map fun j : Nat => mtx K (m + (j : Nat))
theorem mkStringS_length (K : Nat) (m : Int) (n : Nat) : (mkStringS K m n).length = n := by simp [mkStringS]
theorem mkStringS_at (K : Nat) (m : Int) (n j : Nat) (h : j < (mkStringS K m n).length) : (mkStringS K m n)[j] = mtx K (m + (j : Nat)) := by simp [mkStringS]
theorem markStringS_l0 (K : Nat) (hK : 10000000000000 ≤ K) (m : Int) (N : Nat) (h0 : 0 ≤ m) (h1 : m ≤ 1000000000000) (hN : N ≤ 1000000000000) : ∀ (f i : Nat) (v : List ByteArray), N < i + f → i ≤ N → v.length = N → v.take i = (mkStringS K m N).take i →
    laws.markStringS.l0.f K f v (m + (i : Nat)) (i : Int) = some (m + (N : Nat), mkStringS K m N) := by
  intro f
  induction f with
  | zero => intro i v h hi; omega
  | succ f ih =>
    intro i v h hi hv ht
    rw [laws.markStringS.l0.f]
    by_cases c : i < N
    · have e1 : w64 ((i : Int) + 1) = ((i + 1 : Nat) : Int) := wsucc (by omega)
      have hc : i < (mkStringS K m N).length := by rw [mkStringS_length]; exact c
      have st := set_take hc (by rw [mkStringS_length]; exact hv) ht
      rw [mkStringS_at] at st
      have e2 : w64 (m + (i : Nat) + 1) = m + ((i + 1 : Nat) : Int) := by rw [w64_id (by omega) (by omega)]; omega
      simp only [Int.toNat_natCast, e1, e2]
      exact br_d (by omega) (bind_t (markText_eq K hK _ (by omega)) (ck_t (by omega) (ih (i + 1) _ (by omega) (by omega) (by rw [List.length_set]; exact hv) st)))
    · have : i = N := by omega
      subst this
      rw [take_all (by rw [mkStringS_length]; omega) (by rw [mkStringS_length]; exact hv) ht]
      exact br_n (by rw [mkStringS_length]; omega) rfl
theorem markStringS_eq (K : Nat) (hK : 10000000000000 ≤ K) (a : List ByteArray) (m : Int) (h0 : 0 ≤ m) (h1 : m ≤ 1000000000000) (hl : a.length ≤ 1000000000000) : laws.markStringS.f K a m = some (m + (a.length : Nat), mkStringS K m a.length) := by
  unfold laws.markStringS.f
  have := markStringS_l0 K hK m a.length h0 h1 hl K 0 a (by omega) (by omega) rfl rfl
  simp only [Int.natCast_zero, Int.mul_zero, Int.add_zero] at this
  exact bind_t this rfl
/-- What the marks are. -/
def mkIntS (K : Nat) (m : Int) (n : Nat) : List Int := (List.range n).map fun j : Nat => m + (j : Nat)
theorem mkIntS_length (K : Nat) (m : Int) (n : Nat) : (mkIntS K m n).length = n := by simp [mkIntS]
theorem mkIntS_at (K : Nat) (m : Int) (n j : Nat) (h : j < (mkIntS K m n).length) : (mkIntS K m n)[j] = m + (j : Nat) := by simp [mkIntS]
theorem markIntS_l0 (K : Nat) (hK : 10000000000000 ≤ K) (m : Int) (N : Nat) (h0 : 0 ≤ m) (h1 : m ≤ 1000000000000) (hN : N ≤ 1000000000000) : ∀ (f i : Nat) (v : List Int), N < i + f → i ≤ N → v.length = N → v.take i = (mkIntS K m N).take i →
    laws.markIntS.l0.f f v (m + (i : Nat)) (i : Int) = some (m + (N : Nat), mkIntS K m N) := by
  intro f
  induction f with
  | zero => intro i v h hi; omega
  | succ f ih =>
    intro i v h hi hv ht
    rw [laws.markIntS.l0.f]
    by_cases c : i < N
    · have e1 : w64 ((i : Int) + 1) = ((i + 1 : Nat) : Int) := wsucc (by omega)
      have hc : i < (mkIntS K m N).length := by rw [mkIntS_length]; exact c
      have st := set_take hc (by rw [mkIntS_length]; exact hv) ht
      rw [mkIntS_at] at st
      have e2 : w64 (m + (i : Nat) + 1) = m + ((i + 1 : Nat) : Int) := by rw [w64_id (by omega) (by omega)]; omega
      simp only [Int.toNat_natCast, e1, e2]
      exact br_d (by omega) (ck_t (by omega) (ih (i + 1) _ (by omega) (by omega) (by rw [List.length_set]; exact hv) st))
    · have : i = N := by omega
      subst this
      rw [take_all (by rw [mkIntS_length]; omega) (by rw [mkIntS_length]; exact hv) ht]
      exact br_n (by rw [mkIntS_length]; omega) rfl
theorem markIntS_eq (K : Nat) (hK : 10000000000000 ≤ K) (a : List Int) (m : Int) (h0 : 0 ≤ m) (h1 : m ≤ 1000000000000) (hl : a.length ≤ 1000000000000) : laws.markIntS.f K a m = some (m + (a.length : Nat), mkIntS K m a.length) := by
  unfold laws.markIntS.f
  have := markIntS_l0 K hK m a.length h0 h1 hl K 0 a (by omega) (by omega) rfl rfl
  simp only [Int.natCast_zero, Int.mul_zero, Int.add_zero] at this
  exact bind_t this rfl
theorem heldIntS_l0 (K : Nat) (hK : 10000000000000 ≤ K) (m : Int) (N : Nat) (h0 : 0 ≤ m) (h1 : m ≤ 1000000000000) (hN : N ≤ 1000000000000) : ∀ (f i : Nat), N < i + f → i ≤ N →
    laws.heldIntS.l0.f (mkIntS K m N) f (m + (i : Nat)) (i : Int) = some (.inr (m + (N : Nat))) := by
  intro f
  induction f with
  | zero => intro i h hi; omega
  | succ f ih =>
    intro i h hi
    rw [laws.heldIntS.l0.f]
    have hml := mkIntS_length K m N
    by_cases c : i < N
    · have e1 : w64 ((i : Int) + 1) = ((i + 1 : Nat) : Int) := wsucc (by omega)
      have e5 : (mkIntS K m N).getD i 0 = (mkIntS K m N)[i] := getD_at (by omega) _
      have e2 : w64 (m + (i : Nat) + 1) = m + ((i + 1 : Nat) : Int) := by rw [w64_id (by omega) (by omega)]; omega
      have e3 : True = True := rfl
      simp only [Int.toNat_natCast, e1, e2, e3, e5, mkIntS_at]
      exact br_d (by omega) (ck_t (by omega) (br_f (by simp) (ih (i + 1) (by omega) (by omega))))
    · have : i = N := by omega
      subst this
      exact br_n (by omega) rfl
theorem heldIntS_eq (K : Nat) (hK : 10000000000000 ≤ K) (m : Int) (N : Nat) (h0 : 0 ≤ m) (h1 : m ≤ 1000000000000) (hN : N ≤ 1000000000000) : laws.heldIntS.f K (mkIntS K m N) m = some (m + (N : Nat)) := by
  unfold laws.heldIntS.f
  have := heldIntS_l0 K hK m N h0 h1 hN K 0 (by omega) (by omega)
  simp only [Int.natCast_zero, Int.mul_zero, Int.add_zero] at this
  exact bind_t this rfl
theorem markFtl_eq (K : Nat) (hK : 10000000000000 ≤ K) (a : List ByteArray) (w m : List Int) (s : Int) (ha : a.length ≤ 1000000000) (hw : w.length ≤ 1000000000) (hm : m.length ≤ 1000000000) : laws.markFtl.f K a w m s 1 = some (1 + (a.length : Int) + w.length + m.length, mkStringS K 1 a.length, mkIntS K (1 + (a.length : Int)) w.length, mkIntS K (1 + (a.length : Int) + w.length) m.length) := by
  unfold laws.markFtl.f laws.markChip.f
  exact bind_t (bind_t (markStringS_eq K hK a 1 (by omega) (by omega) (by omega)) (bind_t (markIntS_eq K hK w _ (by omega) (by omega) (by omega)) rfl)) (bind_t (markIntS_eq K hK m _ (by omega) (by omega) (by omega)) rfl)
theorem set_mid {α : Type} (A B : List α) (x y : α) (n : Nat) (h : A.length = n) : (A ++ x :: B).set n y = A ++ y :: B := by
  subst h
  induction A with
  | nil => rfl
  | cons a A ih => simp only [List.cons_append, List.length_cons, List.set_cons_succ, ih]
theorem getD_mid {α : Type} (A B : List α) (x d : α) (n : Nat) (h : A.length = n) : (A ++ x :: B).getD n d = x := by
  subst h
  induction A with
  | nil => rfl
  | cons a A ih => simp
theorem less_eq (x y : Int) : cmp.Less_int.f x y = some (decide (x < y)) := by
  unfold cmp.Less_int.f
  exact bind_t (a := ()) rfl (br_f (by simp) rfl)
theorem ins_l1 (a2 w : Int) : ∀ (n : Nat) (A B : List Int) (x : Int) (f : Nat), A.length = n → n < f → n ≤ 1000000 → A.Pairwise (· ≤ ·) →
    ∃ R, slices.insertionSortOrdered_int.l1.f 0 a2 w f (A ++ x :: B) (n : Int) = some (R ++ B) ∧ R.Perm (A ++ [x]) ∧ R.Pairwise (· ≤ ·) := by
  intro n
  induction n with
  | zero =>
    intro A B x f hA hf _ _
    obtain ⟨k, rfl⟩ := Nat.exists_eq_add_one_of_ne_zero (by omega : f ≠ 0)
    have : A = [] := List.eq_nil_of_length_eq_zero hA
    subst this
    rw [slices.insertionSortOrdered_int.l1.f]
    exact ⟨[x], br_n (by omega) rfl, .refl _, List.pairwise_singleton ..⟩
  | succ n ih =>
    intro A B x f hA hf hn hs
    obtain ⟨k, rfl⟩ := Nat.exists_eq_add_one_of_ne_zero (by omega : f ≠ 0)
    obtain ⟨A, y, rfl⟩ : ∃ A' y, A = A' ++ [y] := ⟨A.dropLast, A.getLast (by intro h; subst h; simp at hA), (List.dropLast_concat_getLast _).symm⟩
    have hA' : A.length = n := by simpa using hA
    rw [slices.insertionSortOrdered_int.l1.f]
    have e1 : w64 (((n + 1 : Nat) : Int) - 1) = (n : Int) := by rw [w64_id (by omega) (by omega)]; omega
    have ev : A ++ [y] ++ x :: B = A ++ y :: x :: B := by simp
    have g1 : (A ++ [y] ++ x :: B).getD (n + 1) 0 = x := getD_mid _ _ _ _ _ (by simpa using hA')
    have g2 : (A ++ [y] ++ x :: B).getD n 0 = y := by rw [ev]; exact getD_mid _ _ _ _ _ hA'
    have hl : (A ++ [y] ++ x :: B).length = n + 2 + B.length := by simp; omega
    simp only [e1, Int.toNat_natCast, g1, g2]
    have hsp := List.pairwise_append.1 hs
    by_cases c : x < y
    · have es : ((A ++ [y] ++ x :: B).set (n + 1) y).set n x = A ++ x :: (y :: B) := by
        rw [set_mid _ _ _ _ _ (by simpa using hA'), show A ++ [y] ++ y :: B = A ++ y :: y :: B by simp, set_mid _ _ _ _ _ hA']
      obtain ⟨R, h1, h2, h3⟩ := ih A (y :: B) x k hA' (by omega) (by omega) hsp.1
      refine ⟨R ++ [y], ?_, ?_, ?_⟩
      · refine br_d (by omega) (ck_t (by omega) (ck_t (by omega) (ck_t (by omega) (ck_t (by omega) (bind_t (less_eq _ _) (br_d c ?_))))))
        rw [es, h1]; simp
      · exact (h2.append_right [y]).trans (by rw [List.append_assoc, List.append_assoc]; exact .append_left _ (.swap ..))
      · refine List.pairwise_append.2 ⟨h3, List.pairwise_singleton .., fun u hu v hv => ?_⟩
        rw [List.mem_singleton] at hv
        subst hv
        rcases List.mem_append.1 (h2.subset hu) with h | h
        · exact hsp.2.2 u h v (by simp)
        · rw [List.mem_singleton] at h; omega
    · refine ⟨A ++ [y] ++ [x], br_d (by omega) (ck_t (by omega) (ck_t (by omega) (ck_t (by omega) (ck_t (by omega) (bind_t (less_eq _ _) (br_n c ?_)))))), .refl _, ?_⟩
      · simp
      · refine List.pairwise_append.2 ⟨hs, List.pairwise_singleton .., fun u hu v hv => ?_⟩
        rw [List.mem_singleton] at hv
        subst hv
        rcases List.mem_append.1 hu with h | h
        · have := hsp.2.2 u h y (by simp); omega
        · rw [List.mem_singleton] at h; omega
theorem ins_l0 (K N : Nat) (hK : 10000000000000 ≤ K) (hN : N ≤ 1000000) : ∀ (f : Nat) (P Q : List Int), N < P.length + f → P.length + Q.length = N → P.Pairwise (· ≤ ·) →
    ∃ R, slices.insertionSortOrdered_int.l0.f K 0 (N : Int) f (P ++ Q) (P.length : Int) = some R ∧ R.Perm (P ++ Q) ∧ R.Pairwise (· ≤ ·) := by
  intro f
  induction f with
  | zero => intro P Q h h2; omega
  | succ f ih =>
    intro P Q h h2 hs
    rw [slices.insertionSortOrdered_int.l0.f]
    cases Q with
    | nil =>
      have h3 : P.length = N := by simpa using h2
      exact ⟨P ++ [], br_n (by omega) rfl, .refl _, by simpa using hs⟩
    | cons x Q =>
      rw [List.length_cons] at h2
      obtain ⟨R, h3, h4, h5⟩ := ins_l1 (N : Int) (P.length : Int) P.length P Q x K rfl (by omega) (by omega) hs
      have hR : R.length = P.length + 1 := by rw [h4.length_eq]; simp
      obtain ⟨T, k1, k2, k3⟩ := ih R Q (by omega) (by omega) h5
      rw [hR] at k1
      refine ⟨T, br_d (by omega) (bind_t h3 ?_), ?_, k3⟩
      · rw [wsucc (by omega)]; exact k1
      · exact k2.trans ((h4.append_right Q).trans (by rw [List.append_assoc]; exact .refl _))
theorem len_all : ((List.range 13).all fun n => (math_bits.Len.f (IntKind.u64.wrap ((n : Nat) : Int))).isSome) = true := by kernel_rfl
theorem sort_eq (K : Nat) (hK : 10000000000000 ≤ K) (l : List Int) (h : l.length ≤ 12) : ∃ R, slices.Sort_int_int.f K l = some R ∧ R.Perm l ∧ R.Pairwise (· ≤ ·) := by
  unfold slices.Sort_int_int.f
  have h1 := List.all_eq_true.1 len_all l.length (List.mem_range.2 (by omega))
  obtain ⟨r, hr⟩ := Option.isSome_iff_exists.1 h1
  have h0 : ∃ R, slices.insertionSortOrdered_int.f K l 0 (l.length : Int) = some R ∧ R.Perm l ∧ R.Pairwise (· ≤ ·) := by
    unfold slices.insertionSortOrdered_int.f
    cases l with
    | nil =>
      obtain ⟨k, rfl⟩ := Nat.exists_eq_add_one_of_ne_zero (by omega : K ≠ 0)
      refine ⟨[], bind_t (a := []) ?_ rfl, .refl _, .nil⟩
      rw [slices.insertionSortOrdered_int.l0.f]
      exact br_n (by decide) rfl
    | cons x l =>
      obtain ⟨R, g1, g2, g3⟩ := ins_l0 K (x :: l).length hK (by omega) K [x] l (by omega) (by simp; omega) (List.pairwise_singleton ..)
      exact ⟨R, bind_t g1 rfl, g2, g3⟩
  obtain ⟨R, g1, g2, g3⟩ := h0
  refine ⟨R, bind_t hr (bind_t ?_ rfl), g2, g3⟩
  unfold slices.pdqsortOrdered_int.f
  obtain ⟨k, hk⟩ := Nat.exists_eq_add_one_of_ne_zero (by omega : K ≠ 0)
  refine bind_t (a := R) ?_ rfl
  have : ∀ k, slices.pdqsortOrdered_int.l0.f K l 0 (l.length : Int) r (k + 1) = some R := by
    intro k
    rw [slices.pdqsortOrdered_int.l0.f]
    exact br_d (by rw [w64_id (by omega) (by omega)]; omega) (bind_t g1 rfl)
  rw [show slices.pdqsortOrdered_int.l0.f K l 0 (l.length : Int) r K = slices.pdqsortOrdered_int.l0.f K l 0 (l.length : Int) r (k + 1) by rw [← hk]]
  exact this k
/-- The pages of a block that hold a live sector, in order. -/
def livL (m : List Int) (b : Int) (i d : Nat) : List Int := (List.range' i d).flatMap fun (j : Nat) => List.replicate (m.count (b * 6 + (j : Int))) (b * 6 + (j : Int))
theorem livL_succ (m : List Int) (b : Int) (i d : Nat) : livL m b i (d + 1) = List.replicate (m.count (b * 6 + (i : Int))) (b * 6 + (i : Int)) ++ livL m b (i + 1) d := by
  unfold livL
  rw [List.range'_succ, List.flatMap_cons]
theorem livL_mem {m : List Int} {b x : Int} : ∀ (d i : Nat), x ∈ livL m b i d → b * 6 + (i : Int) ≤ x ∧ x < b * 6 + (i : Int) + d
  | 0, i, h => by simp [livL] at h
  | d + 1, i, h => by
    rw [livL_succ, List.mem_append] at h
    rcases h with h | h
    · have := (List.mem_replicate.1 h).2; omega
    · have := livL_mem d (i + 1) h; omega
theorem livL_sorted (m : List Int) (b : Int) : ∀ (d i : Nat), (livL m b i d).Pairwise (· ≤ ·)
  | 0, i => .nil
  | d + 1, i => by
    rw [livL_succ]
    refine List.pairwise_append.2 ⟨List.pairwise_replicate.2 (.inr (Int.le_refl _)), livL_sorted m b d (i + 1), fun u hu v hv => ?_⟩
    have h1 := (List.mem_replicate.1 hu).2
    have h2 := livL_mem d (i + 1) hv
    omega
theorem livL_len {m : List Int} {b : Int} (h : ∀ x, 0 ≤ x → m.count x ≤ 1) (hb : 0 ≤ b) : ∀ (d i : Nat), (livL m b i d).length ≤ d
  | 0, i => by simp [livL]
  | d + 1, i => by
    rw [livL_succ, List.length_append, List.length_replicate]
    have := livL_len h hb d (i + 1)
    have := h (b * 6 + (i : Int)) (by omega)
    omega
theorem cnt_filter (q : Int → Bool) (m : List Int) (x : Int) : (m.filter q).count x = if q x = true then m.count x else 0 := by
  by_cases h : q x = true
  · rw [if_pos h, List.count_filter h]
  · rw [if_neg h, List.count_eq_zero]
    intro hm
    exact h (List.mem_filter.1 hm).2
theorem cnt_livL (m : List Int) (b x : Int) : ∀ (d i : Nat), (livL m b i d).count x = if b * 6 + (i : Int) ≤ x ∧ x < b * 6 + (i : Int) + d then m.count x else 0
  | 0, i => by
    rw [if_neg (by omega)]; rfl
  | d + 1, i => by
    rw [livL_succ, List.count_append, cnt_livL m b x d (i + 1), List.count_replicate]
    by_cases c : b * 6 + (i : Int) = x
    · subst c
      rw [if_pos (by simp), if_neg (by omega), if_pos (by omega)]; omega
    · rw [if_neg (by simpa using c)]
      by_cases c2 : b * 6 + ((i + 1 : Nat) : Int) ≤ x ∧ x < b * 6 + ((i + 1 : Nat) : Int) + d
      · rw [if_pos c2, if_pos (by omega)]; omega
      · rw [if_neg c2, if_neg (by omega)]
theorem cnt_le : ∀ (m : List Int) (p : Int) (j : Nat), (∀ k, k < m.length → m.getD k 0 = p → k = j) → m.count p ≤ 1
  | [], p, j, _ => by simp
  | x :: m, p, j, h => by
    rw [List.count_cons]
    by_cases c : x = p
    · have h0 := h 0 (by simp) (by simpa using c)
      have : m.count p = 0 := by
        rw [List.count_eq_zero]
        intro hm
        obtain ⟨k, hk, hk2⟩ := List.mem_iff_getElem.1 hm
        have := h (k + 1) (by simp; omega) (by rw [List.getD_cons_succ, List.getD_eq_getElem?_getD, List.getElem?_eq_getElem hk]; exact hk2)
        omega
      rw [this]; split <;> omega
    · have := cnt_le m p (j - 1) (fun k hk hk2 => by
        have := h (k + 1) (by simp; omega) (by rw [List.getD_cons_succ]; exact hk2)
        omega)
      rw [if_neg (by simpa using c)]; omega
theorem ftl_cnt {a : List ByteArray} {w m : List Int} {s : Int} (h : ftlOk a w m s) (x : Int) (hx : 0 ≤ x) : m.count x ≤ 1 := by
  have ho := mnt_ok a
  refine cnt_le m x (pg a x.toNat).1.toNat (fun k hk hk2 => ?_)
  rw [h.2.1] at hk hk2
  rw [ho.mlen] at hk
  rcases ho.at_ k hk with g | ⟨p, g1, g2, g3, g4, _⟩
  · omega
  · have : x.toNat = p := by omega
    rw [this, g4]; rfl
theorem ftl_mem {a : List ByteArray} {w m : List Int} {s : Int} (h : ftlOk a w m s) : ∀ x ∈ m, -1 ≤ x ∧ x < 60 := by
  have ho := mnt_ok a
  have h60 := h.1.1
  intro x hx
  obtain ⟨k, hk, rfl⟩ := List.mem_iff_getElem.1 hx
  have e : m[k] = m.getD k 0 := by rw [List.getD_eq_getElem?_getD, List.getElem?_eq_getElem hk]; rfl
  rw [e]
  rw [h.2.1] at hk ⊢
  rw [ho.mlen] at hk
  rcases ho.at_ k hk with g | ⟨p, g1, g2, _⟩
  · omega
  · omega
theorem l4Lives_l1 (a : List ByteArray) (w m : List Int) (s b : Int) (i0 : Nat) (hm : m.length ≤ 1000) (hb : 0 ≤ b) (hb2 : b ≤ 9) (hi0 : i0 ≤ 6) : ∀ (f i : Nat) (v : List Int), m.length < i + f → i ≤ m.length → v.length + (m.length - i) ≤ 1000000 →
    spec.l4Lives.l1.f a w m s b (i0 : Int) f v (i : Int) = some (v ++ (m.drop i).filter (· == b * 6 + (i0 : Int))) := by
  intro f
  induction f with
  | zero => intro i v h1 hi; omega
  | succ f ih =>
    intro i v h1 hi hv
    rw [spec.l4Lives.l1.f]
    by_cases c : i < m.length
    · have e1 : w64 ((i : Int) + 1) = ((i + 1 : Nat) : Int) := wsucc (by omega)
      have e2 : w64 (w64 (b * 6) + (i0 : Int)) = b * 6 + (i0 : Int) := by rw [w64_id (x := b * 6) (by omega) (by omega), w64_id (by omega) (by omega)]
      have e3 : m.getD i 0 = m[i] := getD_at c 0
      rw [List.drop_eq_getElem_cons c]
      simp only [e1, e2, e3, Int.toNat_natCast]
      refine br_d (by omega) (ck_t (by omega) ?_)
      by_cases d : (m[i] == b * 6 + (i0 : Int)) = true
      · have e4 : m[i] = b * 6 + (i0 : Int) := by simpa using d
        rw [List.filter_cons_of_pos (p := fun x => x == b * 6 + (i0 : Int)) d, e4]
        refine br_t (by simp) (ck_t (by simp; omega) ?_)
        rw [ih (i + 1) (v ++ [b * 6 + (i0 : Int)]) (by omega) (by omega) (by simp; omega)]
        simp
      · rw [List.filter_cons_of_neg (p := fun x => x == b * 6 + (i0 : Int)) d]
        exact br_f (by simpa using d) (ih (i + 1) v (by omega) (by omega) (by omega))
    · have : i = m.length := by omega
      subst this
      exact br_n (by omega) (by simp)
theorem l4Lives_l0 (K : Nat) (hK : 10000000000000 ≤ K) (a : List ByteArray) (w m : List Int) (s b : Int) (hm : m.length ≤ 1000) (hb : 0 ≤ b) (hb2 : b ≤ 9) (hc : ∀ x, 0 ≤ x → m.count x ≤ 1) : ∀ (f i : Nat) (v : List Int), 6 < i + f → i ≤ 6 → v.length ≤ i →
    spec.l4Lives.l0.f K a w m s b f v (i : Int) = some (v ++ livL m b i (6 - i)) := by
  intro f
  induction f with
  | zero => intro i v h1 hi; omega
  | succ f ih =>
    intro i v h1 hi hv
    rw [spec.l4Lives.l0.f]
    by_cases c : i < 6
    · have e1 : w64 ((i : Int) + 1) = ((i + 1 : Nat) : Int) := wsucc (by omega)
      simp only [e1]
      have h2 := l4Lives_l1 a w m s b i hm hb hb2 (by omega) K 0 v (by omega) (by omega) (by omega)
      rw [List.drop_zero, List.filter_beq] at h2
      have := hc (b * 6 + (i : Int)) (by omega)
      refine br_d (by omega) (bind_t h2 ?_)
      rw [ih (i + 1) _ (by omega) (by omega) (by rw [List.length_append, List.length_replicate]; omega), List.append_assoc, ← livL_succ, show 6 - (i + 1) + 1 = 6 - i by omega]
    · rw [show 6 - i = 0 by omega]
      exact br_n (by omega) (by simp [livL])
theorem l4Lives_eq (K : Nat) (hK : 10000000000000 ≤ K) (a : List ByteArray) (w m : List Int) (s b : Int) (h : ftlOk a w m s) (hb : 0 ≤ b) (hb2 : b ≤ 9) : spec.l4Lives.f K a w m s b = some (livL m b 0 6) := by
  unfold spec.l4Lives.f
  have hm : m.length = 26 := by rw [h.2.1]; exact (mnt_ok a).mlen
  exact bind_t (l4Lives_l0 K hK a w m s b (by omega) hb hb2 (ftl_cnt h) K 0 [] (by omega) (by omega) (by simp)) rfl
/-- What the program's own loop keeps. -/
def livQ (b x : Int) : Bool := decide (0 ≤ x ∧ x / 6 = b)
theorem impl_lives_l0 (a : List ByteArray) (w m : List Int) (b : Int) (hm : m.length ≤ 1000) (hx : ∀ x ∈ m, -1 ≤ x ∧ x < 60) : ∀ (f i : Nat) (v : List Int), m.length < i + f → i ≤ m.length → v.length + (m.length - i) ≤ 1000000 →
    impl.lives.l0.f a w m b f v (i : Int) = some (v ++ (m.drop i).filter (livQ b)) := by
  intro f
  induction f with
  | zero => intro i v h1 hi; omega
  | succ f ih =>
    intro i v h1 hi hv
    rw [impl.lives.l0.f]
    by_cases c : i < m.length
    · have e1 : w64 ((i : Int) + 1) = ((i + 1 : Nat) : Int) := wsucc (by omega)
      have e3 : m.getD i 0 = m[i] := getD_at c 0
      have hmi := hx m[i] (List.getElem_mem c)
      rw [List.drop_eq_getElem_cons c]
      simp only [e1, e3, Int.toNat_natCast]
      refine br_d (by omega) (ck_t (by omega) ?_)
      have hno := ih (i + 1) v (by omega) (by omega) (by omega)
      by_cases d : m[i] ≥ 0
      · refine br_d d ?_
        have e5 : w64 (m[i].tdiv 6) = m[i] / 6 := by rw [Int.tdiv_eq_ediv_of_nonneg d, w64_id (by omega) (by omega)]
        rw [e5]
        by_cases g : m[i] / 6 = b
        · rw [List.filter_cons_of_pos (by simp [livQ]; omega)]
          refine br_t (by simpa using g) (ck_t (by simp; omega) ?_)
          rw [ih (i + 1) (v ++ [m[i]]) (by omega) (by omega) (by simp; omega)]
          simp
        · rw [List.filter_cons_of_neg (by simp [livQ]; omega)]
          exact br_f (by simpa using g) hno
      · rw [List.filter_cons_of_neg (by simp [livQ]; omega)]
        exact br_n d hno
    · have : i = m.length := by omega
      subst this
      exact br_n (by omega) (by simp)
theorem liv_perm (m : List Int) (b : Int) (hb : 0 ≤ b) : (m.filter (livQ b)).Perm (livL m b 0 6) := by
  rw [List.perm_iff_count]
  intro x
  rw [cnt_filter, cnt_livL]
  by_cases c : livQ b x = true
  · have : 0 ≤ x ∧ x / 6 = b := by simpa [livQ] using c
    rw [if_pos c, if_pos (by omega)]
  · have : ¬ (0 ≤ x ∧ x / 6 = b) := by simpa [livQ] using c
    rw [if_neg c, if_neg (by omega)]
theorem liv_out (m : List Int) (b : Int) (hx : ∀ x ∈ m, -1 ≤ x ∧ x < 60) (hb : ¬ (0 ≤ b ∧ b ≤ 9)) : m.filter (livQ b) = [] := by
  rw [List.filter_eq_nil_iff]
  intro x hm
  have := hx x hm
  simp [livQ]; omega
theorem impl_lives_eq (K : Nat) (hK : 10000000000000 ≤ K) (a : List ByteArray) (w m : List Int) (s b : Int) (h : ftlOk a w m s) : impl.lives.f K a w m s b = some (if 0 ≤ b ∧ b ≤ 9 then (livL m b 0 6, (livL m b 0 6).length) else ([], 0)) := by
  unfold impl.lives.f
  have hm : m.length = 26 := by rw [h.2.1]; exact (mnt_ok a).mlen
  have hx := ftl_mem h
  have h1 := impl_lives_l0 a w m b (by omega) hx K 0 [] (by omega) (by omega) (by simp; omega)
  rw [List.drop_zero, List.nil_append] at h1
  refine bind_t h1 ?_
  by_cases c : 0 ≤ b ∧ b ≤ 9
  · rw [if_pos c]
    have hp := liv_perm m b c.1
    have hl := livL_len (ftl_cnt h) c.1 6 0
    obtain ⟨R, g1, g2, g3⟩ := sort_eq K hK (m.filter (livQ b)) (by rw [hp.length_eq]; omega)
    refine bind_t g1 ?_
    rw [hp.length_eq, (g2.trans hp).eq_of_pairwise (fun u v _ _ => Int.le_antisymm) g3 (livL_sorted m b 6 0)]
  · rw [if_neg c, liv_out m b hx c]
    obtain ⟨R, g1, g2, g3⟩ := sort_eq K hK [] (by simp)
    refine bind_t g1 ?_
    rw [List.perm_nil.1 g2]; rfl
theorem Lives_eq (K : Nat) (hK : 10000000000000 ≤ K) (a : List ByteArray) (w m : List Int) (s j : Int) (hm : m.length ≤ 10000000) : ∃ r, spec.Lives.f K a w m s j = some r ∧ impl.Lives.f K a w m s j = some r ∧ r.length ≤ 26 := by
  have f1 := spec_FtlOk_eq K hK a w m s
  have f2 := impl_FtlOk_eq K hK a w m s hm
  have i1 := spec_l1In_eq j 0 9
  unfold spec.Lives.f impl.Lives.f slices.Clip_int_int.f
  by_cases c : ftlOk a w m s
  case neg =>
    by_cases d : 0 ≤ j ∧ j ≤ 9
    · exact ⟨[], bind_t i1 (br_d d (bind_t f1 (br_n c rfl))), bind_t f2 (br_n c rfl), by simp⟩
    · exact ⟨[], bind_t i1 (br_n d rfl), bind_t f2 (br_n c rfl), by simp⟩
  have h1 := impl_lives_eq K hK a w m s j c
  by_cases d : 0 ≤ j ∧ j ≤ 9
  · rw [if_pos d] at h1
    have hl := livL_len (ftl_cnt c) d.1 6 0
    exact ⟨livL m j 0 6, bind_t i1 (br_d d (bind_t f1 (br_d c (bind_t (l4Lives_eq K hK a w m s j c d.1 d.2) rfl)))), bind_t f2 (br_d c (bind_t h1 (ck_t rfl (bind_t rfl rfl)))), by omega⟩
  · rw [if_neg d] at h1
    exact ⟨[], bind_t i1 (br_n d rfl), bind_t f2 (br_d c (bind_t h1 (ck_t rfl (bind_t rfl rfl)))), by simp⟩
theorem FnExactLives_pure (a : List ByteArray) (w m : List Int) (s j : Int) (ha : a.length ≤ maxLen) (hs : ∀ x ∈ a, x.size ≤ maxLen) (hw : w.length ≤ maxLen) (_ : ∀ x ∈ w, (Lit.int .i64 x).wf = true) (hm : m.length ≤ maxLen) (_ : ∀ x ∈ m, (Lit.int .i64 x).wf = true) (_ : (Lit.int .i64 s).wf = true) (_ : (Lit.int .i64 j).wf = true) : laws.FnExactLives.f 10000000000000 a w m s j = some true := by
  unfold laws.FnExactLives.f
  obtain ⟨r, h1, h2⟩ := szFtl_eq 10000000000000 (by decide) a w m s ha hs hw hm
  refine bind_t h1 ?_
  by_cases c : r < 0
  · exact br_d c rfl
  have h3 := h2 (by omega)
  have ht := toFtl_eq 10000000000000 (by decide) a w m s (by omega) (by omega) (by omega)
  have he := eqFtl_self 10000000000000 (by decide) a w m s (by omega) (by omega) (by omega)
  obtain ⟨x, k1, k2, k3⟩ := Lives_eq 10000000000000 (by decide) a w m s j (by omega)
  have hx := eqIntS_self 10000000000000 (by decide) x (by omega)
  have hmf := markFtl_eq 10000000000000 (by decide) a w m s (by omega) (by omega) (by omega)
  have hmx := markIntS_eq 10000000000000 (by decide) x 1 (by decide) (by decide) (by omega)
  have hh := heldIntS_eq 10000000000000 (by decide) 1 x.length (by decide) (by decide) (by omega)
  have hml := mkIntS_length 10000000000000 1 x.length
  have hwn : ((mkIntS 10000000000000 1 x.length).drop 0).take x.length = mkIntS 10000000000000 1 x.length := by rw [List.drop_zero, List.take_of_length_le (by omega)]
  refine br_n c (bind_t ht (bind_t k1 (bind_t ht (bind_t k2 (bind_t hx (br_t rfl (bind_t ht (bind_t he (br_t rfl (bind_t hmf (br_n (by show ¬ (1 + (a.length : Int) + w.length + m.length < 0); omega) (bind_t hx (br_t rfl (bind_t hmx ?_))))))))))))))
  simp only [hwn]
  exact bind_t hh (ck_t (by omega) (br_n (by omega) (br_f (by simp) (bind_t ht (bind_t k2 (bind_t hx (br_t rfl (bind_t hh (br_n (by omega) (br_f (by simp) rfl))))))))))
end Go.Proofs.Ytenhjfemghpciaa.Pure
