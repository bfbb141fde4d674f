/- The law FnExactLogRead, in plain words: its function answers true. -/
import Derived.Test.YthneilmhnbboeaaGFnExactLogRead
import Derived.Test.YthneilmhnbboeaaDenMod
import Derived.KernelRfl
namespace Go.Proofs.Ythneilmhnbboeaa.Pure
open Go Go.RowKit Go.Proofs.Ythneilmhnbboeaa.Den Go.Proofs.Ythneilmhnbboeaa.GFnExactLogRead
set_option linter.unusedSimpArgs false
set_option linter.unusedVariables false
theorem eqPut_self (n : Int) (s : ByteArray) : laws.eqPut.f n s n s = some true := by
  unfold laws.eqPut.f
  simp [strEq_self]
theorem eqPutS_l0 (a : List (Int × ByteArray)) (hl : a.length ≤ 1000000000000000) : ∀ (f i : Nat), a.length < i + f → i ≤ a.length → laws.eqPutS.l0.f a a f (i : Int) = some (.inr ()) := by
  intro f
  induction f with
  | zero => intro i h hi; omega
  | succ f ih =>
    intro i h hi
    rw [laws.eqPutS.l0.f]
    by_cases c : i < a.length
    · have e1 : w64 ((i : Int) + 1) = ((i + 1 : Nat) : Int) := wsucc (by omega)
      simp only [e1]
      exact br_d (by omega) (ck_t (by omega) (ck_t (by omega) (bind_t (eqPut_self _ _) (br_t rfl (ih (i + 1) (by omega) (by omega))))))
    · exact br_n (by omega) rfl
theorem eqPutS_self (K : Nat) (hK : 10000000000000 ≤ K) (a : List (Int × ByteArray)) (hl : a.length ≤ 1000000000000) : laws.eqPutS.f K a a = some true := by
  unfold laws.eqPutS.f
  exact br_f (by simp) (bind_t (eqPutS_l0 a (by omega) K 0 (by omega) (by omega)) rfl)
theorem markText_l0 : ∀ (f q : Nat) (n : Int) (x : ByteArray), f < q → 0 ≤ n → n < 10 ^ f → n < 9223372036854775808 → x.size + f ≤ 1000 → ∃ r, laws.markText.l0.f q n x = some r ∧ r.size ≤ x.size + f := by
  intro f
  induction f with
  | zero =>
    intro q n x hq h0 h1 h2 hx
    obtain ⟨q, rfl⟩ := Nat.exists_eq_add_one_of_ne_zero (by omega : q ≠ 0)
    have h1 : n < 1 := h1
    rw [laws.markText.l0.f]
    exact ⟨x, br_n (by omega) rfl, by omega⟩
  | succ f ih =>
    intro q n x hq h0 h1 h2 hx
    obtain ⟨q, rfl⟩ := Nat.exists_eq_add_one_of_ne_zero (by omega : q ≠ 0)
    rw [laws.markText.l0.f]
    by_cases c : n > 0
    · have e1 : n.tdiv 10 = n / 10 := Int.tdiv_eq_ediv_of_nonneg (by omega)
      have e2 : w64 (n / 10) = n / 10 := w64_id (by omega) (by omega)
      have hs : ∀ y : List Int, (ofBytes y ++ x).size = y.length + x.size := fun y => by rw [ByteArray.size_append, ofBytes_size]
      rw [e1, e2]
      generalize IntKind.u8.wrap (w64 (48 + n.tmod 10)) = z
      obtain ⟨r, hr, hz⟩ := ih q (n / 10) (ofBytes [z] ++ x) (by omega) (by omega) (by rw [Int.pow_succ] at h1; omega) (by omega) (by rw [hs]; simp; omega)
      refine ⟨r, br_d c (ck_t ?_ hr), ?_⟩
      · rw [ofBytes_size]; simp; omega
      · rw [hs] at hz; simp at hz; omega
    · exact ⟨x, br_n c rfl, by omega⟩
theorem markText_some (K : Nat) (hK : 10000000000000 ≤ K) (n : Int) (h : n < 9223372036854775808) : ∃ r, laws.markText.f K n = some r ∧ r.size ≤ 30 := by
  unfold laws.markText.f
  by_cases c : n ≤ 0
  · exact ⟨_, br_d c rfl, by decide⟩
  · obtain ⟨r, h1, h2⟩ := markText_l0 19 K n noVal (by omega) (by omega) (by omega) h (by decide)
    have h3 : r.size ≤ 19 := h2
    have h4 : (ByteArray.mk #[109]).size = 1 := rfl
    exact ⟨_, br_n c (bind_t h1 (ck_t (by rw [h4]; omega) rfl)), by rw [ByteArray.size_append, h4]; omega⟩
/-- The mark of a number, as a text. -/
def mtx (K : Nat) (n : Int) : ByteArray := (laws.markText.f K n).getD noVal
theorem markText_eq (K : Nat) (hK : 10000000000000 ≤ K) (n : Int) (h : n < 9223372036854775808) : laws.markText.f K n = some (mtx K n) := by
  obtain ⟨r, h1, _⟩ := markText_some K hK n h
  unfold mtx
  rw [h1]; rfl
/-- What the marks are. -/
def mkPutS (K : Nat) (m : Int) (n : Nat) : List (Int × ByteArray) := (List.range n).map fun j : Nat => (m + 2 * (j : Nat), mtx K (m + 2 * (j : Nat) + 1))
theorem mkPutS_length (K : Nat) (m : Int) (n : Nat) : (mkPutS K m n).length = n := by simp [mkPutS]
theorem mkPutS_at (K : Nat) (m : Int) (n j : Nat) (h : j < (mkPutS K m n).length) : (mkPutS K m n)[j] = (m + 2 * (j : Nat), mtx K (m + 2 * (j : Nat) + 1)) := by simp [mkPutS]
theorem markPutS_l0 (K : Nat) (hK : 10000000000000 ≤ K) (m : Int) (N : Nat) (h0 : 0 ≤ m) (h1 : m ≤ 1000000000000) (hN : N ≤ 1000000000000) : ∀ (f i : Nat) (v : List (Int × ByteArray)), N < i + f → i ≤ N → v.length = N → v.take i = (mkPutS K m N).take i →
    laws.markPutS.l0.f K f v N (m + 2 * (i : Nat)) (i : Int) = some (m + 2 * (N : Nat), mkPutS K m N) := by
  intro f
  induction f with
  | zero => intro i v h hi; omega
  | succ f ih =>
    intro i v h hi hv ht
    rw [laws.markPutS.l0.f]
    by_cases c : i < N
    · have e1 : w64 ((i : Int) + 1) = ((i + 1 : Nat) : Int) := wsucc (by omega)
      have hc : i < (mkPutS K m N).length := by rw [mkPutS_length]; exact c
      have st := set_take hc (by rw [mkPutS_length]; exact hv) ht
      rw [mkPutS_at] at st
      have e2 : w64 (m + 2 * (i : Nat) + 1) = m + 2 * (i : Nat) + 1 := by rw [w64_id (by omega) (by omega)]
      have e3 : w64 (m + 2 * (i : Nat) + 1 + 1) = m + 2 * ((i + 1 : Nat) : Int) := by rw [w64_id (by omega) (by omega)]; omega
      have e4 : ∀ y : Int × ByteArray, ((v.set i y).getD i (0, noVal)) = y := fun y => by rw [getD_at (by rw [List.length_set]; omega)]; simp
      simp only [Int.toNat_natCast, e1, e2, e3, e4, List.set_set]
      exact br_d (by omega) (ck_t (by omega) (ck_t (by omega) (bind_t (markText_eq K hK _ (by omega)) (ih (i + 1) _ (by omega) (by omega) (by rw [List.length_set]; exact hv) st))))
    · have : i = N := by omega
      subst this
      rw [take_all (by rw [mkPutS_length]; omega) (by rw [mkPutS_length]; exact hv) ht]
      exact br_n (by omega) rfl
theorem markPutS_eq (K : Nat) (hK : 10000000000000 ≤ K) (a : List (Int × ByteArray)) (m : Int) (h0 : 0 ≤ m) (h1 : m ≤ 1000000000000) (hl : a.length ≤ 1000000000000) : laws.markPutS.f K a m = some (m + 2 * (a.length : Nat), mkPutS K m a.length) := by
  unfold laws.markPutS.f
  have := markPutS_l0 K hK m a.length h0 h1 hl K 0 a (by omega) (by omega) rfl rfl
  simp only [Int.natCast_zero, Int.mul_zero, Int.add_zero] at this
  exact bind_t this rfl
theorem heldPutS_l0 (K : Nat) (hK : 10000000000000 ≤ K) (m : Int) (N : Nat) (h0 : 0 ≤ m) (h1 : m ≤ 1000000000000) (hN : N ≤ 1000000000000) : ∀ (f i : Nat), N < i + f → i ≤ N →
    laws.heldPutS.l0.f K (mkPutS K m N) f (m + 2 * (i : Nat)) (i : Int) = some (.inr (m + 2 * (N : Nat))) := by
  intro f
  induction f with
  | zero => intro i h hi; omega
  | succ f ih =>
    intro i h hi
    rw [laws.heldPutS.l0.f]
    have hml := mkPutS_length K m N
    by_cases c : i < N
    · have e1 : w64 ((i : Int) + 1) = ((i + 1 : Nat) : Int) := wsucc (by omega)
      have e5 : (mkPutS K m N).getD i (0, noVal) = (mkPutS K m N)[i] := getD_at (by omega) _
      have e2 : w64 (m + 2 * (i : Nat) + 1) = m + 2 * (i : Nat) + 1 := by rw [w64_id (by omega) (by omega)]
      have e3 : w64 (m + 2 * (i : Nat) + 1 + 1) = m + 2 * ((i + 1 : Nat) : Int) := by rw [w64_id (by omega) (by omega)]; omega
      simp only [Int.toNat_natCast, e1, e2, e3, e5, mkPutS_at]
      exact br_d (by omega) (ck_t (by omega) (br_f (by simp) (bind_t (markText_eq K hK _ (by omega)) (br_t (strEq_self _) (ih (i + 1) (by omega) (by omega))))))
    · have : i = N := by omega
      subst this
      exact br_n (by omega) rfl
theorem heldPutS_eq (K : Nat) (hK : 10000000000000 ≤ K) (m : Int) (N : Nat) (h0 : 0 ≤ m) (h1 : m ≤ 1000000000000) (hN : N ≤ 1000000000000) : laws.heldPutS.f K (mkPutS K m N) m = some (m + 2 * (N : Nat)) := by
  unfold laws.heldPutS.f
  have := heldPutS_l0 K hK m N h0 h1 hN K 0 (by omega) (by omega)
  simp only [Int.natCast_zero, Int.mul_zero, Int.add_zero] at this
  exact bind_t this rfl
theorem nat_tmod (n m : Nat) : ((n : Int).tmod (m : Int)) = ((n % m : Nat) : Int) := (Int.ofNat_tmod n m).symm
theorem nat_tdiv (n m : Nat) : ((n : Int).tdiv (m : Int)) = ((n / m : Nat) : Int) := (Int.ofNat_tdiv n m).symm
theorem impl_in_eq (n lo hi : Int) : impl.in_.f n lo hi = some (decide (lo ≤ n ∧ n ≤ hi)) := by
  unfold impl.in_.f
  by_cases c : n ≥ lo
  · refine br_d c ?_
    by_cases d : n ≤ hi
    · rw [decide_eq_true d, decide_eq_true ⟨c, d⟩]
    · rw [decide_eq_false d, decide_eq_false (fun h => d h.2)]
  · refine br_n c ?_
    rw [decide_eq_false (fun h => c h.1)]
theorem spec_l1In_eq (n lo hi : Int) : spec.l1In.f n lo hi = some (decide (lo ≤ n ∧ n ≤ hi)) := by
  unfold spec.l1In.f
  by_cases c : n ≥ lo
  · refine br_d c ?_
    by_cases d : n ≤ hi
    · rw [decide_eq_true d, decide_eq_true ⟨c, d⟩]
    · rw [decide_eq_false d, decide_eq_false (fun h => d h.2)]
  · refine br_n c ?_
    rw [decide_eq_false (fun h => c h.1)]
/-- What a search for a number answers, inside the loop or behind it. -/
def numOut : ((Int × Int × Bool) ⊕ Unit) → Int × Int × Bool := Sum.elim id (fun _ => (0, 0, false))
theorem spec_GetNum_l0 (b : List Int) (hb : Bytes b) (hl : b.length ≤ 1000000000000) (a : Nat) (ha : a < 9223372036854775808) : ∀ (f k q : Nat) (n : Int), f + k = 5 → f < q → 0 ≤ n → n < 128 ^ k →
    ∃ x, spec.GetNum.l0.f b (a : Int) q n (k : Int) = some x ∧ numOut x = getR (a : Int) (getF f k n (b.drop (a + k))) := by
  intro f
  induction f with
  | zero =>
    intro k q n hk hq h0 h1
    obtain ⟨q, rfl⟩ := Nat.exists_eq_add_one_of_ne_zero (by omega : q ≠ 0)
    refine ⟨.inr (), ?_, rfl⟩
    rw [spec.GetNum.l0.f]
    exact br_n (by omega) rfl
  | succ f ih =>
    intro k q n hk hq h0 h1
    obtain ⟨q, rfl⟩ := Nat.exists_eq_add_one_of_ne_zero (by omega : q ≠ 0)
    rw [spec.GetNum.l0.f]
    by_cases h : a + k < b.length
    · have hv := hb.at_ h
      have hp : (0 : Int) < 128 ^ k := Int.pow_pos (by decide)
      have hp4 : (128 : Int) ^ k ≤ 128 ^ 4 := by
        have : (128 : Nat) ^ k ≤ 128 ^ 4 := Nat.pow_le_pow_right (by decide) (by omega)
        exact_mod_cast this
      have hm : b[a + k] % 128 * 128 ^ k ≤ 127 * 128 ^ k := Int.mul_le_mul_of_nonneg_right (by omega) (by omega)
      have hm0 : 0 ≤ b[a + k] % 128 * 128 ^ k := Int.mul_nonneg (by omega) (by omega)
      rw [List.drop_eq_getElem_cons h]
      have e1 : w64 ((a : Int) + k) = ((a + k : Nat) : Int) := by rw [w64_id (by omega) (by omega)]; omega
      have e2 : w64 ((b.length : Int) - k) = (b.length : Int) - k := w64_id (by omega) (by omega)
      have e3 : w64 (7 * (k : Int)) = 7 * (k : Int) := w64_id (by omega) (by omega)
      have e4 : b.getD (a + k) 0 = b[a + k] := getD_at h 0
      have e5 : w64 b[a + k] = b[a + k] := w64_id (by omega) (by omega)
      have e6 : b[a + k].tmod 128 = b[a + k] % 128 := Int.tmod_eq_emod_of_nonneg (by omega)
      have e7 := or_shl k (by omega) h0 h1 (d := b[a + k] % 128) (by omega) (by omega)
      have e8 : w64 (((a + k : Nat) : Int) + 1) = (a : Int) + ((k : Int) + 1) := by rw [w64_id (by omega) (by omega)]; omega
      have e9 : w64 ((k : Int) + 1) = ((k + 1 : Nat) : Int) := wsucc (by omega)
      simp only [e1, e2, e3, Int.toNat_natCast, e4, e5, e6, e7, e8, e9]
      unfold getF
      by_cases c : b[a + k] ≥ 128
      · rw [if_pos c]
        have hlt : n + b[a + k] % 128 * 128 ^ k < 128 ^ (k + 1) := by
          rw [Int.pow_succ]
          omega
        obtain ⟨x, hx, hr⟩ := ih (k + 1) q (n + b[a + k] % 128 * 128 ^ k) (by omega) (by omega) (by omega) hlt
        exact ⟨x, br_d (by omega) (br_n (by omega) (br_n (by omega) (ck_t (by omega) (ck_t (by omega) (ck_t (by omega) (br_n (by omega) hx)))))), hr⟩
      · rw [if_neg c]
        have pre : ∀ {X Y : Option ((Int × Int × Bool) ⊕ Unit)} {r}, X = r → cond (decide ((k : Int) < 5)) (cond (decide ((a : Int) < 0)) (some (.inl (0, 0, false))) (cond (decide ((a : Int) ≥ (b.length : Int) - k)) (some (.inl (0, 0, false))) (ck (0 ≤ ((a + k : Nat) : Int)) (ck (((a + k : Nat) : Int) < (b.length : Int)) (ck (0 ≤ 7 * (k : Int)) (cond (decide (b[a + k] < 128)) X Y)))))) (some (.inr ())) = r := fun hx =>
          br_d (by omega) (br_n (by omega) (br_n (by omega) (ck_t (by omega) (ck_t (by omega) (ck_t (by omega) (br_d (by omega) hx))))))
        by_cases c0 : b[a + k] = 0 ∧ k > 0
        · rw [if_pos c0]
          exact ⟨.inl (0, 0, false), pre (br_d (by omega) (br_t (by rw [c0.1]; rfl) rfl)), rfl⟩
        · rw [if_neg c0]
          by_cases cm : n + b[a + k] % 128 * 128 ^ k > 1000000000
          · rw [if_pos cm]
            by_cases ck0 : (k : Int) > 0
            · exact ⟨.inl (0, 0, false), pre (br_d ck0 (br_f (by rw [beq_eq_false_iff_ne]; intro h; exact c0 ⟨h, by omega⟩) (br_d cm rfl))), rfl⟩
            · exact ⟨.inl (0, 0, false), pre (br_n ck0 (br_d cm rfl)), rfl⟩
          · rw [if_neg cm]
            by_cases ck0 : (k : Int) > 0
            · exact ⟨.inl (_, _, true), pre (br_d ck0 (br_f (by rw [beq_eq_false_iff_ne]; intro h; exact c0 ⟨h, by omega⟩) (br_n cm rfl))), rfl⟩
            · exact ⟨.inl (_, _, true), pre (br_n ck0 (br_n cm rfl)), rfl⟩
    · rw [List.drop_of_length_le (by omega)]
      refine ⟨.inl (0, 0, false), br_d (by omega) (br_n (by omega) (br_d ?_ rfl)), rfl⟩
      rw [w64_id (by omega) (by omega)]
      omega
theorem spec_GetNum_eq (K : Nat) (hK : 10000000000000 ≤ K) (b : List Int) (at_ : Int) (hb : Bytes b) (hl : b.length ≤ 1000000000000) (ha : at_ < 9223372036854775808) (ha0 : -9223372036854775808 ≤ at_) : spec.GetNum.f K b at_ = some (getI b at_) := by
  unfold spec.GetNum.f
  obtain ⟨K, rfl⟩ := Nat.exists_eq_add_one_of_ne_zero (by omega : K ≠ 0)
  by_cases c : at_ < 0
  · refine bind_t (a := .inl (0, 0, false)) ?_ ?_
    · rw [spec.GetNum.l0.f]
      exact br_d (by decide) (br_d c rfl)
    · unfold getI
      rw [if_pos c]
      rfl
  · obtain ⟨a, rfl⟩ := Int.eq_ofNat_of_zero_le (by omega : 0 ≤ at_)
    obtain ⟨x, h1, h2⟩ := spec_GetNum_l0 b hb hl a (by omega) 5 0 (K + 1) 0 rfl (by omega) (by decide) (by decide)
    refine bind_t h1 ?_
    rw [getI_at]
    rw [show a + 0 = a from rfl] at h2
    rw [← h2]
    cases x <;> rfl
theorem impl_GetNum_l0 (b : List Int) (hb : Bytes b) (hl : b.length ≤ 1000000000000) (a : Nat) (ha : a ≤ b.length) : ∀ (f k q : Nat) (n : Int), f + k = 5 → f < q → 0 ≤ n → n < 128 ^ k →
    ∃ x, impl.GetNum.l0.f b (a : Int) q n (k : Int) = some x ∧ numOut x = getR (a : Int) (getF f k n (b.drop (a + k))) := by
  intro f
  induction f with
  | zero =>
    intro k q n hk hq h0 h1
    obtain ⟨q, rfl⟩ := Nat.exists_eq_add_one_of_ne_zero (by omega : q ≠ 0)
    refine ⟨.inr (), ?_, rfl⟩
    rw [impl.GetNum.l0.f]
    exact br_n (by omega) rfl
  | succ f ih =>
    intro k q n hk hq h0 h1
    obtain ⟨q, rfl⟩ := Nat.exists_eq_add_one_of_ne_zero (by omega : q ≠ 0)
    rw [impl.GetNum.l0.f]
    have e1 : w64 ((a : Int) + k) = ((a + k : Nat) : Int) := by rw [w64_id (by omega) (by omega)]; omega
    by_cases h : a + k < b.length
    · have hv := hb.at_ h
      have hp : (0 : Int) < 128 ^ k := Int.pow_pos (by decide)
      have hp4 : (128 : Int) ^ k ≤ 128 ^ 4 := by
        have : (128 : Nat) ^ k ≤ 128 ^ 4 := Nat.pow_le_pow_right (by decide) (by omega)
        exact_mod_cast this
      have hm : b[a + k] % 128 * 128 ^ k ≤ 127 * 128 ^ k := Int.mul_le_mul_of_nonneg_right (by omega) (by omega)
      have hm0 : 0 ≤ b[a + k] % 128 * 128 ^ k := Int.mul_nonneg (by omega) (by omega)
      rw [List.drop_eq_getElem_cons h]
      have e3 : w64 (7 * (k : Int)) = 7 * (k : Int) := w64_id (by omega) (by omega)
      have e4 : b.getD (a + k) 0 = b[a + k] := getD_at h 0
      have e5 : w64 b[a + k] = b[a + k] := w64_id (by omega) (by omega)
      have e6 : bits2 .i64 (· &&& ·) b[a + k] 127 = b[a + k] % 128 := and127 (by omega) (by omega)
      have e7 := or_shl k (by omega) h0 h1 (d := b[a + k] % 128) (by omega) (by omega)
      have e8 : w64 (((a + k : Nat) : Int) + 1) = (a : Int) + ((k : Int) + 1) := by rw [w64_id (by omega) (by omega)]; omega
      have e9 : w64 ((k : Int) + 1) = ((k + 1 : Nat) : Int) := wsucc (by omega)
      simp only [e1, e3, Int.toNat_natCast, e4, e5, e6, e7, e8, e9]
      unfold getF
      by_cases c : b[a + k] ≥ 128
      · rw [if_pos c]
        have hlt : n + b[a + k] % 128 * 128 ^ k < 128 ^ (k + 1) := by
          rw [Int.pow_succ]
          omega
        obtain ⟨x, hx, hr⟩ := ih (k + 1) q (n + b[a + k] % 128 * 128 ^ k) (by omega) (by omega) (by omega) hlt
        exact ⟨x, br_d (by omega) (br_d (by omega) (ck_t (by omega) (ck_t (by omega) (br_d (by omega) hx)))), hr⟩
      · rw [if_neg c]
        by_cases c0 : b[a + k] = 0 ∧ k > 0
        · rw [if_pos c0]
          exact ⟨.inl (0, 0, false), br_d (by omega) (br_d (by omega) (ck_t (by omega) (ck_t (by omega) (br_n (by omega) (br_t (by rw [c0.1]; rfl) (br_d (by omega) rfl)))))), rfl⟩
        · rw [if_neg c0]
          by_cases cz : b[a + k] = 0
          · have ck0 : ¬ ((k : Int) > 0) := fun h => c0 ⟨cz, by omega⟩
            by_cases cm : n + b[a + k] % 128 * 128 ^ k > 1000000000
            · rw [if_pos cm]
              exact ⟨.inl (0, 0, false), br_d (by omega) (br_d (by omega) (ck_t (by omega) (ck_t (by omega) (br_n (by omega) (br_t (by rw [cz]; rfl) (br_n ck0 (br_d cm rfl))))))), rfl⟩
            · rw [if_neg cm]
              exact ⟨.inl (_, _, true), br_d (by omega) (br_d (by omega) (ck_t (by omega) (ck_t (by omega) (br_n (by omega) (br_t (by rw [cz]; rfl) (br_n ck0 (br_n cm rfl))))))), rfl⟩
          · by_cases cm : n + b[a + k] % 128 * 128 ^ k > 1000000000
            · rw [if_pos cm]
              exact ⟨.inl (0, 0, false), br_d (by omega) (br_d (by omega) (ck_t (by omega) (ck_t (by omega) (br_n (by omega) (br_f (beq_eq_false_iff_ne.2 cz) (br_d cm rfl)))))), rfl⟩
            · rw [if_neg cm]
              exact ⟨.inl (_, _, true), br_d (by omega) (br_d (by omega) (ck_t (by omega) (ck_t (by omega) (br_n (by omega) (br_f (beq_eq_false_iff_ne.2 cz) (br_n cm rfl)))))), rfl⟩
    · rw [List.drop_of_length_le (by omega)]
      simp only [e1]
      exact ⟨.inr (), br_d (by omega) (br_n (by omega) rfl), rfl⟩
theorem impl_GetNum_eq (K : Nat) (hK : 10000000000000 ≤ K) (b : List Int) (at_ : Int) (hb : Bytes b) (hl : b.length ≤ 1000000000000) (ha : at_ < 9223372036854775808) (ha0 : -9223372036854775808 ≤ at_) : impl.GetNum.f K b at_ = some (getI b at_) := by
  unfold impl.GetNum.f
  refine bind_t (impl_in_eq at_ 0 (b.length : Int)) ?_
  by_cases c : 0 ≤ at_ ∧ at_ ≤ b.length
  · refine br_d c ?_
    obtain ⟨a, rfl⟩ := Int.eq_ofNat_of_zero_le c.1
    obtain ⟨x, h1, h2⟩ := impl_GetNum_l0 b hb hl a (by omega) 5 0 K 0 rfl (by omega) (by decide) (by decide)
    refine bind_t h1 ?_
    rw [getI_at]
    rw [show a + 0 = a from rfl] at h2
    rw [← h2]
    cases x <;> rfl
  · refine br_n c ?_
    by_cases c0 : at_ < 0
    · unfold getI; rw [if_pos c0]
    · obtain ⟨a, rfl⟩ := Int.eq_ofNat_of_zero_le (by omega : 0 ≤ at_)
      rw [getI_at, List.drop_of_length_le (by omega)]; rfl
theorem spec_PutNum_l0 : ∀ (f q n : Nat) (acc : List Int), n < 128 ^ (f + 1) → f ≤ 4 → f < q → acc.length + f ≤ 1000 →
    ∃ m a', spec.PutNum.l0.f q (n : Int) acc = some (m, a') ∧ a' ++ [IntKind.u8.wrap m] = acc ++ putF f n ∧ a'.length ≤ acc.length + f := by
  intro f
  induction f with
  | zero =>
    intro q n acc hn _ hq ha
    obtain ⟨q, rfl⟩ := Nat.exists_eq_add_one_of_ne_zero (by omega : q ≠ 0)
    have hn : n < 128 := hn
    refine ⟨n, acc, ?_, ?_, by omega⟩
    · rw [spec.PutNum.l0.f]; exact br_n (by omega) rfl
    · rw [wrap_u8 (by omega) (by omega)]; rfl
  | succ f ih =>
    intro q n acc hn hf hq ha
    obtain ⟨q, rfl⟩ := Nat.exists_eq_add_one_of_ne_zero (by omega : q ≠ 0)
    have hp : 128 ^ (f + 1 + 1) ≤ 128 ^ 5 := Nat.pow_le_pow_right (by decide) (by omega)
    rw [spec.PutNum.l0.f]
    by_cases c : n > 127
    · have e1 : (n : Int).tmod 128 = ((n % 128 : Nat) : Int) := nat_tmod n 128
      have e2 : (n : Int).tdiv 128 = ((n / 128 : Nat) : Int) := nat_tdiv n 128
      have e3 : w64 (((n % 128 : Nat) : Int) + 128) = ((n % 128 + 128 : Nat) : Int) := by rw [w64_id (by omega) (by omega)]; omega
      have e4 : w64 ((n / 128 : Nat) : Int) = ((n / 128 : Nat) : Int) := w64_id (by omega) (by omega)
      have e5 : IntKind.u8.wrap ((n % 128 + 128 : Nat) : Int) = ((n % 128 + 128 : Nat) : Int) := wrap_u8 (by omega) (by omega)
      simp only [e1, e2, e3, e4, e5]
      obtain ⟨m, a', h1, h2, h3⟩ := ih q (n / 128) (acc ++ [((n % 128 + 128 : Nat) : Int)]) (Nat.div_lt_of_lt_mul (by rw [Nat.pow_succ, Nat.mul_comm] at hn; exact hn)) (by omega) (by omega) (by simp; omega)
      refine ⟨m, a', br_d (by omega) (ck_t (by simp; omega) h1), ?_, by simp at h3; omega⟩
      rw [h2, putF, if_pos c, List.append_assoc]; rfl
    · refine ⟨n, acc, br_n (by omega) rfl, ?_, by omega⟩
      rw [wrap_u8 (by omega) (by omega), putF, if_neg c]
theorem spec_PutNum_eq (K : Nat) (hK : 10000000000000 ≤ K) (n : Int) : spec.PutNum.f K n = some (putI n) := by
  unfold spec.PutNum.f putI
  refine bind_t (spec_l1In_eq n 0 1000000000) ?_
  by_cases c : 0 ≤ n ∧ n ≤ 1000000000
  · rw [if_pos c]
    obtain ⟨m, rfl⟩ := Int.eq_ofNat_of_zero_le c.1
    obtain ⟨x, a', h1, h2, h3⟩ := spec_PutNum_l0 4 K m [] (by omega) (by omega) (by omega) (by simp)
    refine br_d c (bind_t h1 (ck_t (by simp at h3 ⊢; omega) ?_))
    rw [h2]; rfl
  · rw [if_neg c]
    exact br_n c rfl
theorem impl_PutNum_l0 : ∀ (f q n : Nat) (acc : List Int), n < 128 ^ (f + 1) → f ≤ 4 → f < q → acc.length + f ≤ 1000 →
    ∃ m a', impl.PutNum.l0.f q (n : Int) acc = some (m, a') ∧ a' ++ [IntKind.u8.wrap m] = acc ++ putF f n ∧ a'.length ≤ acc.length + f := by
  intro f
  induction f with
  | zero =>
    intro q n acc hn _ hq ha
    obtain ⟨q, rfl⟩ := Nat.exists_eq_add_one_of_ne_zero (by omega : q ≠ 0)
    have hn : n < 128 := hn
    refine ⟨n, acc, ?_, ?_, by omega⟩
    · rw [impl.PutNum.l0.f]; exact br_n (by omega) rfl
    · rw [wrap_u8 (by omega) (by omega)]; rfl
  | succ f ih =>
    intro q n acc hn hf hq ha
    obtain ⟨q, rfl⟩ := Nat.exists_eq_add_one_of_ne_zero (by omega : q ≠ 0)
    have hp : 128 ^ (f + 1 + 1) ≤ 128 ^ 5 := Nat.pow_le_pow_right (by decide) (by omega)
    rw [impl.PutNum.l0.f]
    by_cases c : n > 127
    · have e1 : bits2 .i64 (· &&& ·) (n : Int) 127 = ((n % 128 : Nat) : Int) := by rw [and127 (by omega) (by omega)]; omega
      have e2 : (n : Int).fdiv (2 ^ 7) = ((n / 128 : Nat) : Int) := by rw [Int.fdiv_eq_ediv_of_nonneg _ (by decide)]; rfl
      have e3 : bits2 .i64 (· ||| ·) ((n % 128 : Nat) : Int) 128 = ((n % 128 + 128 : Nat) : Int) := by rw [or128 (by omega) (by omega)]; omega
      have e5 : IntKind.u8.wrap ((n % 128 + 128 : Nat) : Int) = ((n % 128 + 128 : Nat) : Int) := wrap_u8 (by omega) (by omega)
      simp only [e1, e2, e3, e5]
      obtain ⟨m, a', h1, h2, h3⟩ := ih q (n / 128) (acc ++ [((n % 128 + 128 : Nat) : Int)]) (Nat.div_lt_of_lt_mul (by rw [Nat.pow_succ, Nat.mul_comm] at hn; exact hn)) (by omega) (by omega) (by simp; omega)
      refine ⟨m, a', br_d (by omega) (ck_t (by simp; omega) h1), ?_, by simp at h3; omega⟩
      rw [h2, putF, if_pos c, List.append_assoc]; rfl
    · refine ⟨n, acc, br_n (by omega) rfl, ?_, by omega⟩
      rw [wrap_u8 (by omega) (by omega), putF, if_neg c]
theorem impl_PutNum_eq (K : Nat) (hK : 10000000000000 ≤ K) (n : Int) : impl.PutNum.f K n = some (putI n) := by
  unfold impl.PutNum.f putI
  refine bind_t (impl_in_eq n 0 1000000000) ?_
  by_cases c : 0 ≤ n ∧ n ≤ 1000000000
  · rw [if_pos c]
    obtain ⟨m, rfl⟩ := Int.eq_ofNat_of_zero_le c.1
    obtain ⟨x, a', h1, h2, h3⟩ := impl_PutNum_l0 4 K m [] (by omega) (by omega) (by omega) (by simp)
    refine br_d c (bind_t h1 (ck_t (by simp at h3 ⊢; omega) ?_))
    rw [h2]; rfl
  · rw [if_neg c]
    exact br_n c rfl
theorem spec_PutText_eq (K : Nat) (hK : 10000000000000 ≤ K) (s : ByteArray) : spec.PutText.f K s = some (if s.size ≤ 400 then putI s.size ++ bytesL s else []) := by
  unfold spec.PutText.f
  by_cases c : s.size ≤ 400
  · rw [if_pos c]
    refine br_n (by omega) (bind_t (spec_PutNum_eq K hK _) (ck_t ?_ rfl))
    have := putI_length s.size
    rw [List.length_append, bytesL_len]
    omega
  · rw [if_neg c]
    exact br_d (by omega) rfl
theorem impl_PutText_eq (K : Nat) (hK : 10000000000000 ≤ K) (s : ByteArray) : impl.PutText.f K s = some (if s.size ≤ 400 then putI s.size ++ bytesL s else []) := by
  unfold impl.PutText.f
  by_cases c : s.size ≤ 400
  · rw [if_pos c]
    refine br_n (by omega) (bind_t (impl_PutNum_eq K hK _) (ck_t ?_ rfl))
    have := putI_length s.size
    rw [List.length_append, bytesL_len]
    omega
  · rw [if_neg c]
    exact br_d (by omega) rfl
theorem spec_GetText_eq (K : Nat) (hK : 10000000000000 ≤ K) (b : List Int) (at_ : Int) (hb : Bytes b) (hl : b.length ≤ 1000000000000) (ha : at_ < 9223372036854775808) (ha0 : -9223372036854775808 ≤ at_) : spec.GetText.f K b at_ = some (gettI b at_) := by
  unfold spec.GetText.f
  refine bind_t (spec_GetNum_eq K hK b at_ hb hl ha ha0) ?_
  unfold gettI
  by_cases h : (getI b at_).2.2 = true
  · obtain ⟨g1, g2, g3, g4, g5⟩ := getI_ok hb h
    have e1 : w64 ((b.length : Int) - (getI b at_).2.1) = (b.length : Int) - (getI b at_).2.1 := w64_id (by omega) (by omega)
    have e2 : w64 ((getI b at_).2.1 + (getI b at_).1) = (getI b at_).2.1 + (getI b at_).1 := w64_id (by omega) (by omega)
    have e3 : ((getI b at_).2.1 + (getI b at_).1).toNat - (getI b at_).2.1.toNat = (getI b at_).1.toNat := by omega
    simp only [e1, e2, e3]
    refine br_t h ?_
    by_cases c1 : (getI b at_).1 > 400
    · rw [if_neg (by omega)]
      exact br_d c1 rfl
    · refine br_n c1 ?_
      by_cases c2 : (getI b at_).1 > (b.length : Int) - (getI b at_).2.1
      · rw [if_neg (by omega)]
        exact br_d c2 rfl
      · rw [if_pos ⟨h, by omega, by omega⟩]
        exact br_n c2 (ck_t (by omega) (ck_t (by omega) (ck_t (by omega) (ck_t (by omega) rfl))))
  · rw [if_neg (fun hh => h hh.1)]
    exact br_f (by simpa using h) rfl
theorem impl_GetText_eq (K : Nat) (hK : 10000000000000 ≤ K) (b : List Int) (at_ : Int) (hb : Bytes b) (hl : b.length ≤ 1000000000000) (ha : at_ < 9223372036854775808) (ha0 : -9223372036854775808 ≤ at_) : impl.GetText.f K b at_ = some (gettI b at_) := by
  unfold impl.GetText.f
  refine bind_t (impl_GetNum_eq K hK b at_ hb hl ha ha0) ?_
  unfold gettI
  by_cases h : (getI b at_).2.2 = true
  · obtain ⟨g1, g2, g3, g4, g5⟩ := getI_ok hb h
    have e1 : w64 ((b.length : Int) - (getI b at_).2.1) = (b.length : Int) - (getI b at_).2.1 := w64_id (by omega) (by omega)
    have e2 : w64 ((getI b at_).2.1 + (getI b at_).1) = (getI b at_).2.1 + (getI b at_).1 := w64_id (by omega) (by omega)
    have e3 : ((getI b at_).2.1 + (getI b at_).1).toNat - (getI b at_).2.1.toNat = (getI b at_).1.toNat := by omega
    simp only [e1, e2, e3]
    refine br_t h ?_
    by_cases c1 : (getI b at_).1 > 400
    · rw [if_neg (by omega)]
      exact br_d c1 rfl
    · refine br_n c1 ?_
      by_cases c2 : (getI b at_).1 > (b.length : Int) - (getI b at_).2.1
      · rw [if_neg (by omega)]
        exact br_d c2 rfl
      · rw [if_pos ⟨h, by omega, by omega⟩]
        exact br_n c2 (ck_t (by omega) (ck_t (by omega) (ck_t (by omega) (ck_t (by omega) rfl))))
  · rw [if_neg (fun hh => h hh.1)]
    exact br_f (by simpa using h) rfl
/-! sums -/
theorem spec_Sum_l0 (b : List Int) (hb : Bytes b) (hl : b.length ≤ 1000000000000) : ∀ (f i : Nat) (n : Int), b.length < i + f → i ≤ b.length → 0 ≤ n → n < 1000003 → spec.Sum.l0.f b f n (i : Int) = some (sumF n (b.drop i)) := by
  intro f
  induction f with
  | zero => intro i n h hi; omega
  | succ f ih =>
    intro i n h hi h0 h1
    rw [spec.Sum.l0.f]
    by_cases c : i < b.length
    · have hv := hb.at_ c
      have e1 : w64 ((i : Int) + 1) = ((i + 1 : Nat) : Int) := wsucc (by omega)
      have e2 : w64 (31 * n) = 31 * n := w64_id (by omega) (by omega)
      have e3 : w64 b[i] = b[i] := w64_id (by omega) (by omega)
      have e4 : w64 (31 * n + b[i]) = 31 * n + b[i] := w64_id (by omega) (by omega)
      have e5 : (31 * n + b[i]).tmod 1000003 = (31 * n + b[i]) % 1000003 := Int.tmod_eq_emod_of_nonneg (by omega)
      simp only [Int.toNat_natCast, getD_at c, e1, e2, e3, e4, e5]
      rw [List.drop_eq_getElem_cons c, sumF_cons]
      exact br_d (by omega) (ck_t (by omega) (ih (i + 1) _ (by omega) (by omega) (by omega) (by omega)))
    · rw [List.drop_of_length_le (by omega)]
      exact br_n (by omega) rfl
theorem spec_Sum_eq (K : Nat) (hK : 10000000000000 ≤ K) (b : List Int) (hb : Bytes b) (hl : b.length ≤ 1000000000000) : spec.Sum.f K b = some (sumF 7 b) := by
  unfold spec.Sum.f
  exact bind_t (spec_Sum_l0 b hb hl K 0 7 (by omega) (by omega) (by omega) (by omega)) rfl
/-! sums -/
theorem impl_Sum_l0 (b : List Int) (hb : Bytes b) (hl : b.length ≤ 1000000000000) : ∀ (f i : Nat) (n : Int), b.length < i + f → i ≤ b.length → 0 ≤ n → n < 1000003 → impl.Sum.l0.f b f n (i : Int) = some (sumF n (b.drop i)) := by
  intro f
  induction f with
  | zero => intro i n h hi; omega
  | succ f ih =>
    intro i n h hi h0 h1
    rw [impl.Sum.l0.f]
    by_cases c : i < b.length
    · have hv := hb.at_ c
      have e1 : w64 ((i : Int) + 1) = ((i + 1 : Nat) : Int) := wsucc (by omega)
      have e2 : w64 (31 * n) = 31 * n := w64_id (by omega) (by omega)
      have e3 : w64 b[i] = b[i] := w64_id (by omega) (by omega)
      have e4 : w64 (31 * n + b[i]) = 31 * n + b[i] := w64_id (by omega) (by omega)
      have e5 : (31 * n + b[i]).tmod 1000003 = (31 * n + b[i]) % 1000003 := Int.tmod_eq_emod_of_nonneg (by omega)
      simp only [Int.toNat_natCast, getD_at c, e1, e2, e3, e4, e5]
      rw [List.drop_eq_getElem_cons c, sumF_cons]
      exact br_d (by omega) (ck_t (by omega) (ih (i + 1) _ (by omega) (by omega) (by omega) (by omega)))
    · rw [List.drop_of_length_le (by omega)]
      exact br_n (by omega) rfl
theorem impl_Sum_eq (K : Nat) (hK : 10000000000000 ≤ K) (b : List Int) (hb : Bytes b) (hl : b.length ≤ 1000000000000) : impl.Sum.f K b = some (sumF 7 b) := by
  unfold impl.Sum.f
  exact bind_t (impl_Sum_l0 b hb hl K 0 7 (by omega) (by omega) (by omega) (by omega)) rfl
def numR (b : List Int) (at_ : Int) (bad : Bool) : Int × Int × Bool := if bad then (0, at_, true) else if (getI b at_).2.2 then ((getI b at_).1, (getI b at_).2.1, false) else (0, at_, true)
def textR (b : List Int) (at_ : Int) (bad : Bool) : ByteArray × Int × Bool := if bad then (noVal, at_, true) else if (gettI b at_).2.2 then ((gettI b at_).1, (gettI b at_).2.1, false) else (noVal, at_, true)
theorem gettI_small {b : List Int} {a : Int} (hb : Bytes b) (ha : 0 ≤ a) (h : (gettI b a).2.2 = true) : a < (gettI b a).2.1 ∧ (gettI b a).2.1 ≤ b.length := by
  obtain ⟨a, rfl⟩ := Int.eq_ofNat_of_zero_le ha
  obtain ⟨d, r, h1, h2, h3⟩ := gettI_inv hb h
  rw [h3]
  have h4 := congrArg List.length h2
  have h5 := putI_pos (n := d.size) (by omega) (by omega)
  have h6 : (puttI d).length = (putI d.size).length + d.size := by rw [puttI, List.length_append, bytesL_len]
  rw [List.length_drop, List.length_append] at h4
  simp only
  omega
theorem numR_small {b : List Int} {a : Int} (bad : Bool) (hb : Bytes b) (h0 : 0 ≤ a) (h1 : a ≤ b.length) : 0 ≤ (numR b a bad).2.1 ∧ (numR b a bad).2.1 ≤ b.length := by
  unfold numR
  split
  · exact ⟨h0, h1⟩
  · split
    · rename_i h; have := getI_ok hb h; simp only; omega
    · exact ⟨h0, h1⟩
theorem textR_small {b : List Int} {a : Int} (bad : Bool) (hb : Bytes b) (h0 : 0 ≤ a) (h1 : a ≤ b.length) : 0 ≤ (textR b a bad).2.1 ∧ (textR b a bad).2.1 ≤ b.length := by
  unfold textR
  split
  · exact ⟨h0, h1⟩
  · split
    · rename_i h; have := gettI_small hb h0 h; simp only; omega
    · exact ⟨h0, h1⟩
theorem impl_number_eq (K : Nat) (hK : 10000000000000 ≤ K) (b : List Int) (at_ : Int) (bad : Bool) (hb : Bytes b) (hl : b.length ≤ 1000000000000) (h0 : 0 ≤ at_) (h1 : at_ ≤ b.length) : impl.reader.number.f K b at_ bad = some (numR b at_ bad) := by
  unfold impl.reader.number.f numR
  refine bind_t (impl_GetNum_eq K hK b at_ hb hl (by omega) (by omega)) ?_
  cases bad with
  | true => rfl
  | false =>
    cases h : (getI b at_).2.2 <;> simp
theorem impl_text_eq (K : Nat) (hK : 10000000000000 ≤ K) (b : List Int) (at_ : Int) (bad : Bool) (hb : Bytes b) (hl : b.length ≤ 1000000000000) (h0 : 0 ≤ at_) (h1 : at_ ≤ b.length) : impl.reader.text.f K b at_ bad = some (textR b at_ bad) := by
  unfold impl.reader.text.f textR
  refine bind_t (impl_GetText_eq K hK b at_ hb hl (by omega) (by omega)) ?_
  cases bad with
  | true => rfl
  | false =>
    cases h : (gettI b at_).2.2 <;> simp
theorem impl_done_eq (b : List Int) (at_ : Int) (bad : Bool) : impl.reader.done.f b at_ bad = some (!bad && at_ == (b.length : Int)) := by
  unfold impl.reader.done.f
  cases bad <;> rfl
/-- A reader behind a sum. -/
def sumR (b : List Int) : Int × Bool := if (getI b 0).2.2 then ((getI b 0).2.1, (getI b 0).1 != sumF 7 (b.drop (getI b 0).2.1.toNat)) else (0, true)
theorem sumR_small {b : List Int} (hb : Bytes b) : 0 ≤ (sumR b).1 ∧ (sumR b).1 ≤ b.length := by
  unfold sumR
  split
  · rename_i h; have := getI_ok hb h; simp only; omega
  · simp
theorem impl_unsummed_eq (K : Nat) (hK : 10000000000000 ≤ K) (s : ByteArray) (hs : s.size ≤ 1000000000000) : impl.unsummed.f K s = some (sumR (bytesL s)) := by
  have hb := bytesL_ok s
  have hl : (bytesL s).length ≤ 1000000000000 := by rw [bytesL_len]; exact hs
  unfold impl.unsummed.f sumR
  refine bind_t (impl_number_eq K hK _ 0 false hb hl (by omega) (by omega)) ?_
  by_cases c : (getI (bytesL s) 0).2.2 = true
  · have hn : numR (bytesL s) 0 false = ((getI (bytesL s) 0).1, (getI (bytesL s) 0).2.1, false) := by unfold numR; simp [c]
    obtain ⟨g1, g2, g3, g4, g5⟩ := getI_ok hb c
    rw [hn, if_pos c]
    have ht : (((bytesL s).drop (getI (bytesL s) 0).2.1.toNat).take ((bytesL s).length - (getI (bytesL s) 0).2.1.toNat)) = (bytesL s).drop (getI (bytesL s) 0).2.1.toNat := List.take_of_length_le (by simp)
    simp only [ht]
    refine br_f rfl (ck_t (by omega) (ck_t (by omega) (bind_t (impl_Sum_eq K hK _ (hb.drop _) (by rw [List.length_drop]; omega)) (ck_t (by omega) rfl))))
  · have hn : numR (bytesL s) 0 false = (0, 0, true) := by unfold numR; simp [c]
    rw [hn, if_neg c]
    exact br_t rfl rfl
theorem numR_no {b : List Int} {a : Int} (h : ¬ (getI b a).2.2 = true) : numR b a false = (0, a, true) := by
  unfold numR
  rw [if_neg (by decide), if_neg h]
theorem textR_no {b : List Int} {a : Int} (h : ¬ (gettI b a).2.2 = true) : textR b a false = (noVal, a, true) := by
  unfold textR
  rw [if_neg (by decide), if_neg h]
theorem spec_l7Batch_l1 (a : List (Int × ByteArray)) (hl : a.length ≤ 1000000000000) (i : Nat) (hi : i < a.length) : ∀ (f k : Nat), i < k + f → k ≤ i →
    spec.l7Batch.l1.f a (i : Int) f (k : Int) = some (if allF (fun k => sec a k ≠ sec a i) k i then .inr () else .inl ()) := by
  intro f
  induction f with
  | zero => intro k h hk; omega
  | succ f ih =>
    intro k h hk
    rw [spec.l7Batch.l1.f]
    by_cases c : k < i
    · have e1 : w64 ((k : Int) + 1) = ((k + 1 : Nat) : Int) := wsucc (by omega)
      simp only [Int.toNat_natCast, e1]
      by_cases d : sec a k = sec a i
      · rw [if_neg (fun g => (show sec a k ≠ sec a i from ((allF_step c).1 g).1) d)]
        exact br_d (by omega) (ck_t (by omega) (ck_t (by omega) (ck_t (by omega) (ck_t (by omega) (br_t (beq_iff_eq.2 d) rfl)))))
      · have e : (if allF (fun k => sec a k ≠ sec a i) k i then (.inr () : Unit ⊕ Unit) else .inl ()) = if allF (fun k => sec a k ≠ sec a i) (k + 1) i then .inr () else .inl () := by
          exact if_iff ((allF_step c).trans ⟨fun g => g.2, fun g => ⟨d, g⟩⟩) _ _
        rw [e]
        exact br_d (by omega) (ck_t (by omega) (ck_t (by omega) (ck_t (by omega) (ck_t (by omega) (br_f (beq_eq_false_iff_ne.2 d) (ih (k + 1) (by omega) (by omega)))))))
    · rw [if_pos (allF_end (by omega))]
      exact br_n (by omega) rfl
theorem spec_l7Batch_l0 (K : Nat) (hK : 10000000000000 ≤ K) (a : List (Int × ByteArray)) (hl : a.length ≤ 1000000000000) : ∀ (f i : Nat), a.length < i + f → i ≤ a.length →
    spec.l7Batch.l0.f K a f (i : Int) = some (if allF (putOk a) i a.length then .inr () else .inl ()) := by
  intro f
  induction f with
  | zero => intro i h hk; omega
  | succ f ih =>
    intro i h hi
    rw [spec.l7Batch.l0.f]
    by_cases c : i < a.length
    · have e1 : w64 ((i : Int) + 1) = ((i + 1 : Nat) : Int) := wsucc (by omega)
      simp only [Int.toNat_natCast, e1]
      by_cases d1 : 0 ≤ (a.getD i (0, noVal)).1 ∧ (a.getD i (0, noVal)).1 ≤ 23
      case neg =>
        rw [if_neg (fun g => d1 ⟨((allF_step c).1 g).1.1, ((allF_step c).1 g).1.2.1⟩)]
        exact br_d (by omega) (ck_t (by omega) (bind_t (spec_l1In_eq _ 0 23) (br_n d1 rfl)))
      by_cases d2 : (a.getD i (0, noVal)).2.size ≤ 400
      case neg =>
        rw [if_neg (fun g => d2 ((allF_step c).1 g).1.2.2.1)]
        exact br_d (by omega) (ck_t (by omega) (bind_t (spec_l1In_eq _ 0 23) (br_d d1 (br_d (by omega) rfl))))
      by_cases d3 : allF (fun k => sec a k ≠ sec a i) 0 i
      case neg =>
        rw [if_neg (fun g => d3 ((allF_step c).1 g).1.2.2.2)]
        have g := spec_l7Batch_l1 a hl i c K 0 (by omega) (by omega)
        rw [if_neg d3] at g
        exact br_d (by omega) (ck_t (by omega) (bind_t (spec_l1In_eq _ 0 23) (br_d d1 (br_n (by omega) (bind_t g rfl)))))
      have g := spec_l7Batch_l1 a hl i c K 0 (by omega) (by omega)
      rw [if_pos d3] at g
      have e : (if allF (putOk a) i a.length then (.inr () : Unit ⊕ Unit) else .inl ()) = if allF (putOk a) (i + 1) a.length then .inr () else .inl () :=
        if_iff ((allF_step c).trans ⟨fun g => g.2, fun g => ⟨⟨d1.1, d1.2, d2, d3⟩, g⟩⟩) _ _
      rw [e]
      exact br_d (by omega) (ck_t (by omega) (bind_t (spec_l1In_eq _ 0 23) (br_d d1 (br_n (by omega) (bind_t g (ih (i + 1) (by omega) (by omega)))))))
    · rw [if_pos (allF_end (by omega))]
      exact br_n (by omega) rfl
theorem spec_l7Batch_eq (K : Nat) (hK : 10000000000000 ≤ K) (a : List (Int × ByteArray)) (hl : a.length ≤ 1000000000000) : spec.l7Batch.f K a = some (decide (batchOk a)) := by
  unfold spec.l7Batch.f
  refine bind_t (spec_l7Batch_l0 K hK a hl K 0 (by omega) (by omega)) ?_
  by_cases d : allF (putOk a) 0 a.length
  · rw [if_pos d]
    simp only [Sum.elim_inr]
    congr 1
    exact decide_eq_decide.2 ⟨fun g => ⟨d, by omega⟩, fun g => by have := g.2; omega⟩
  · rw [if_neg d, decide_eq_false (p := batchOk a) (fun g => d g.1)]
    rfl
theorem impl_indexPut_l0 (a : List (Int × ByteArray)) (hl : a.length ≤ 1000000000000) (x : Int) (s : ByteArray) : ∀ (f k : Nat), a.length < k + f → k ≤ a.length →
    ∃ r, slices.IndexFunc_impl.Put_impl.Put.l0.f a x s f (k : Int) = some r ∧ ((allF (fun k => sec a k ≠ x) k a.length ∧ r = .inr ()) ∨ (¬ allF (fun k => sec a k ≠ x) k a.length ∧ ∃ j : Nat, r = .inl (j : Int))) := by
  intro f
  induction f with
  | zero => intro k h hk; omega
  | succ f ih =>
    intro k h hk
    rw [slices.IndexFunc_impl.Put_impl.Put.l0.f]
    by_cases c : k < a.length
    · have e1 : w64 ((k : Int) + 1) = ((k + 1 : Nat) : Int) := wsucc (by omega)
      simp only [Int.toNat_natCast, e1]
      by_cases d : sec a k = x
      · refine ⟨.inl (k : Int), br_d (by omega) (ck_t (by omega) (bind_t rfl (br_t (beq_iff_eq.2 d) rfl))), .inr ⟨fun g => (show sec a k ≠ x from ((allF_step c).1 g).1) d, k, rfl⟩⟩
      · obtain ⟨r, h1, h2⟩ := ih (k + 1) (by omega) (by omega)
        refine ⟨r, br_d (by omega) (ck_t (by omega) (bind_t rfl (br_f (beq_eq_false_iff_ne.2 d) h1))), ?_⟩
        rcases h2 with ⟨g, e⟩ | ⟨g, e⟩
        · exact .inl ⟨(allF_step c).2 ⟨d, g⟩, e⟩
        · exact .inr ⟨fun q => g ((allF_step c).1 q).2, e⟩
    · exact ⟨.inr (), br_n (by omega) rfl, .inl ⟨allF_end (by omega), rfl⟩⟩
theorem impl_containsPut_eq (K : Nat) (hK : 10000000000000 ≤ K) (a : List (Int × ByteArray)) (hl : a.length ≤ 1000000000000) (x : Int) (s : ByteArray) : slices.ContainsFunc_impl.Put_impl.Put.f K a x s = some (!decide (allF (fun k => sec a k ≠ x) 0 a.length)) := by
  unfold slices.ContainsFunc_impl.Put_impl.Put.f slices.IndexFunc_impl.Put_impl.Put.f
  obtain ⟨r, h1, h2⟩ := impl_indexPut_l0 a hl x s K 0 (by omega) (by omega)
  rcases h2 with ⟨g, rfl⟩ | ⟨g, j, rfl⟩
  · refine bind_t (bind_t h1 rfl) ?_
    rw [decide_eq_true g]; rfl
  · refine bind_t (bind_t h1 rfl) ?_
    rw [decide_eq_false g]
    congr 1
theorem sec_take (a : List (Int × ByteArray)) (i k : Nat) (h : k < i) (hi : i ≤ a.length) : sec ((a.drop 0).take i) k = sec a k := by
  unfold sec
  rw [List.drop_zero, List.getD_eq_getElem?_getD, List.getElem?_take, if_pos h, ← List.getD_eq_getElem?_getD]
theorem impl_isBatch_l0 (K : Nat) (hK : 10000000000000 ≤ K) (a : List (Int × ByteArray)) (hl : a.length ≤ 1000000000000) : ∀ (f i : Nat), a.length < i + f → i ≤ a.length →
    impl.isBatch.l0.f K a f (i : Int) = some (if allF (putOk a) i a.length then .inr () else .inl ()) := by
  intro f
  induction f with
  | zero => intro i h hk; omega
  | succ f ih =>
    intro i h hi
    rw [impl.isBatch.l0.f]
    by_cases c : i < a.length
    · have e1 : w64 ((i : Int) + 1) = ((i + 1 : Nat) : Int) := wsucc (by omega)
      simp only [Int.toNat_natCast, e1]
      have hwl : ((a.drop 0).take i).length = i := by simp; omega
      have cont := impl_containsPut_eq K hK ((a.drop 0).take i) (by omega) (sec a i) (dat a i)
      have hiff : allF (fun k => sec ((a.drop 0).take i) k ≠ sec a i) 0 ((a.drop 0).take i).length ↔ allF (fun k => sec a k ≠ sec a i) 0 i := by
        rw [hwl]
        refine ⟨fun g j h1 h2 => ?_, fun g j h1 h2 => ?_⟩
        · have := g j h1 h2
          show sec a j ≠ sec a i
          rw [← sec_take a i j h2 (by omega)]
          exact this
        · show sec ((a.drop 0).take i) j ≠ sec a i
          rw [sec_take a i j h2 (by omega)]
          exact g j h1 h2
      by_cases d1 : 0 ≤ (a.getD i (0, noVal)).1 ∧ (a.getD i (0, noVal)).1 ≤ 23
      case neg =>
        rw [if_neg (fun g => d1 ⟨((allF_step c).1 g).1.1, ((allF_step c).1 g).1.2.1⟩)]
        exact br_d (by omega) (ck_t (by omega) (bind_t (impl_in_eq _ 0 23) (br_n d1 rfl)))
      by_cases d2 : (a.getD i (0, noVal)).2.size ≤ 400
      case neg =>
        rw [if_neg (fun g => d2 ((allF_step c).1 g).1.2.2.1)]
        exact br_d (by omega) (ck_t (by omega) (bind_t (impl_in_eq _ 0 23) (br_d d1 (br_d (by omega) rfl))))
      by_cases d3 : allF (fun k => sec a k ≠ sec a i) 0 i
      case neg =>
        rw [if_neg (fun g => d3 ((allF_step c).1 g).1.2.2.2)]
        rw [decide_eq_false (p := allF _ 0 _) (fun g => d3 (hiff.1 g))] at cont
        exact br_d (by omega) (ck_t (by omega) (bind_t (impl_in_eq _ 0 23) (br_d d1 (br_n (by omega) (ck_t (by omega) (bind_t cont (ck_t (by omega) rfl)))))))
      rw [decide_eq_true (hiff.2 d3)] at cont
      have e : (if allF (putOk a) i a.length then (.inr () : Unit ⊕ Unit) else .inl ()) = if allF (putOk a) (i + 1) a.length then .inr () else .inl () :=
        if_iff ((allF_step c).trans ⟨fun g => g.2, fun g => ⟨⟨d1.1, d1.2, d2, d3⟩, g⟩⟩) _ _
      rw [e]
      exact br_d (by omega) (ck_t (by omega) (bind_t (impl_in_eq _ 0 23) (br_d d1 (br_n (by omega) (ck_t (by omega) (bind_t cont (ck_t (by omega) (ih (i + 1) (by omega) (by omega)))))))))
    · rw [if_pos (allF_end (by omega))]
      exact br_n (by omega) rfl
theorem impl_isBatch_eq (K : Nat) (hK : 10000000000000 ≤ K) (a : List (Int × ByteArray)) (hl : a.length ≤ 1000000000000) : impl.isBatch.f K a = some (decide (batchOk a)) := by
  unfold impl.isBatch.f
  refine bind_t (impl_isBatch_l0 K hK a hl K 0 (by omega) (by omega)) ?_
  by_cases d : allF (putOk a) 0 a.length
  · rw [if_pos d]
    simp only [Sum.elim_inr]
    congr 1
    exact decide_eq_decide.2 ⟨fun g => ⟨d, by omega⟩, fun g => by have := g.2; omega⟩
  · rw [if_neg d, decide_eq_false (p := batchOk a) (fun g => d g.1)]
    rfl
theorem spec_LogText_l0 (K : Nat) (hK : 10000000000000 ≤ K) (a : List (Int × ByteArray)) (hl : a.length ≤ 3) (ha : ∀ x ∈ a, x.2.size ≤ 400) : ∀ (f i : Nat) (v : List Int), a.length < i + f → i ≤ a.length → v.length ≤ 10 + 410 * i →
    spec.LogText.l0.f K a f v (i : Int) = some (v ++ (a.drop i).flatMap logE) := by
  intro f
  induction f with
  | zero => intro i v h hi; omega
  | succ f ih =>
    intro i v h hi hv
    rw [spec.LogText.l0.f]
    by_cases c : i < a.length
    · have e1 : w64 ((i : Int) + 1) = ((i + 1 : Nat) : Int) := wsucc (by omega)
      have hx := ha _ (List.getElem_mem c)
      have h1 := putI_length a[i].1
      have h2 := putI_length a[i].2.size
      have e2 : (v ++ putI a[i].1) ++ (putI a[i].2.size ++ bytesL a[i].2) = v ++ logE a[i] := by rw [List.append_assoc]; rfl
      have h3 := logE_len hx
      have hp := spec_PutText_eq K hK a[i].2
      rw [if_pos hx] at hp
      simp only [Int.toNat_natCast, getD_at c, e1]
      refine br_d (by omega) (ck_t (by omega) (bind_t (spec_PutNum_eq K hK _) (ck_t (by rw [List.length_append]; omega) (bind_t hp ?_))))
      rw [e2]
      refine ck_t (by rw [List.length_append]; omega) ?_
      rw [ih (i + 1) _ (by omega) (by omega) (by rw [List.length_append]; omega), List.drop_eq_getElem_cons c, List.flatMap_cons, List.append_assoc]
    · rw [List.drop_of_length_le (by omega)]
      exact br_n (by omega) (by simp)
theorem spec_LogText_eq (K : Nat) (hK : 10000000000000 ≤ K) (a : List (Int × ByteArray)) (hl : a.length ≤ 1000000000000) : spec.LogText.f K a = some (logT a) := by
  unfold spec.LogText.f logT
  refine bind_t (spec_l7Batch_eq K hK a hl) ?_
  by_cases c : batchOk a
  case neg =>
    rw [if_neg (fun g => c g.1)]
    exact br_n c rfl
  refine br_d c ?_
  by_cases c0 : a = []
  · rw [if_neg (fun g => g.2.1 c0), c0]
    rfl
  have hlen : a.length ≠ 0 := fun h => c0 (List.eq_nil_of_length_eq_zero h)
  have h3 := c.2
  have hall : ∀ x ∈ a, x.2.size ≤ 400 := fun x hx => (batch_all c x hx).2.2
  have hf := flat_len_le a hall
  have hp := putI_length (a.length : Int)
  have hL : (putI (a.length : Int) ++ a.flatMap logE) = logL a := rfl
  have hLl : (logL a).length ≤ 1300 := by rw [← hL, List.length_append]; omega
  have hp2 := putI_length (sumF 7 (logL a))
  have l0 := spec_LogText_l0 K hK a h3 hall K 0 (putI a.length) (by omega) (by omega) (by omega)
  rw [List.drop_zero, hL] at l0
  have hI : putI (sumF 7 (logL a)) ++ logL a = logI a := rfl
  refine br_f (beq_eq_false_iff_ne.2 (by omega)) (bind_t (spec_PutNum_eq K hK _) (bind_t l0 (bind_t (spec_Sum_eq K hK _ (logL_bytes a) (by omega)) (bind_t (spec_PutNum_eq K hK _) ?_))))
  rw [hI]
  refine ck_t (by rw [← hI, List.length_append]; omega) ?_
  by_cases c4 : (logI a).length ≤ 400
  · rw [if_pos ⟨c, c0, c4⟩]
    exact br_n (by omega) rfl
  · rw [if_neg (fun g => c4 g.2.2)]
    exact br_d (by omega) rfl
theorem impl_Grow_eq (n : Int) (h0 : 0 ≤ n) (h1 : n ≤ 70368744177664) : ∃ l, slices.Grow_byte_byte.f n = some (l, 0) := by
  unfold slices.Grow_byte_byte.f
  have e : w64 (n - 0) = n := by rw [w64_id (by omega) (by omega)]; omega
  rw [e]
  by_cases c : n > 0
  · exact ⟨_, br_n (by omega) (br_d c (ck_t (by omega) rfl))⟩
  · exact ⟨_, br_n (by omega) (br_n c rfl)⟩
theorem impl_Concat2_eq (a b : List Int) (h : a.length + b.length ≤ 70368744177664) : slices.Concat_byte_byte_1.f a b = some (a ++ b) := by
  unfold slices.Concat_byte_byte_1.f
  have e0 : w64 (0 + (a.length : Int)) = (a.length : Int) := by rw [w64_id (by omega) (by omega)]; omega
  have e1 : w64 ((a.length : Int) + (b.length : Int)) = ((a.length + b.length : Nat) : Int) := by rw [w64_id (by omega) (by omega)]; omega
  simp only [e0, e1]
  obtain ⟨l, hl⟩ := impl_Grow_eq ((a.length + b.length : Nat) : Int) (by omega) (by omega)
  refine ck_t (by decide) (br_n (by omega) (ck_t (by decide) (br_n (by omega) (bind_t hl ?_))))
  have : ((l.drop 0).take 0 : List Int) = [] := List.take_zero ..
  simp only [this, List.nil_append]
  exact ck_t (by omega) (ck_t (by omega) (ck_t (by rw [List.length_append]; omega) rfl))
theorem impl_Concat3_eq (a b c : List Int) (h : a.length + b.length + c.length ≤ 70368744177664) : slices.Concat_byte_byte.f a b c = some ((a ++ b) ++ c) := by
  unfold slices.Concat_byte_byte.f
  have e0 : w64 (0 + (a.length : Int)) = (a.length : Int) := by rw [w64_id (by omega) (by omega)]; omega
  have e1 : w64 ((a.length : Int) + (b.length : Int)) = ((a.length + b.length : Nat) : Int) := by rw [w64_id (by omega) (by omega)]; omega
  have e2 : w64 (((a.length + b.length : Nat) : Int) + (c.length : Int)) = ((a.length + b.length + c.length : Nat) : Int) := by rw [w64_id (by omega) (by omega)]; omega
  simp only [e0, e1, e2]
  obtain ⟨l, hl⟩ := impl_Grow_eq ((a.length + b.length + c.length : Nat) : Int) (by omega) (by omega)
  refine ck_t (by decide) (br_n (by omega) (ck_t (by decide) (br_n (by omega) (ck_t (by decide) (br_n (by omega) (bind_t hl ?_))))))
  have : ((l.drop 0).take 0 : List Int) = [] := List.take_zero ..
  simp only [this, List.nil_append]
  exact ck_t (by omega) (ck_t (by omega) (ck_t (by rw [List.length_append]; omega) (ck_t (by simp only [List.length_append]; omega) rfl)))
theorem impl_summed_eq (K : Nat) (hK : 10000000000000 ≤ K) (l : List Int) (hb : Bytes l) (hl : l.length ≤ 1000000) : impl.summed.f K l = some (ofBytes (summedI l)) := by
  unfold impl.summed.f
  have := putI_length (sumF 7 l)
  exact bind_t (impl_Sum_eq K hK l hb (by omega)) (bind_t (impl_PutNum_eq K hK _) (bind_t (impl_Concat2_eq _ _ (by omega)) rfl))
theorem impl_LogText_l0 (K : Nat) (hK : 10000000000000 ≤ K) (a : List (Int × ByteArray)) (hl : a.length ≤ 3) (ha : ∀ x ∈ a, x.2.size ≤ 400) : ∀ (f i : Nat) (v : List Int), a.length < i + f → i ≤ a.length → v.length ≤ 10 + 410 * i →
    impl.LogText.l0.f K a f v (i : Int) = some (v ++ (a.drop i).flatMap logE) := by
  intro f
  induction f with
  | zero => intro i v h hi; omega
  | succ f ih =>
    intro i v h hi hv
    rw [impl.LogText.l0.f]
    by_cases c : i < a.length
    · have e1 : w64 ((i : Int) + 1) = ((i + 1 : Nat) : Int) := wsucc (by omega)
      have hx := ha _ (List.getElem_mem c)
      have h1 := putI_length a[i].1
      have h2 := putI_length a[i].2.size
      have e2 : (v ++ putI a[i].1) ++ (putI a[i].2.size ++ bytesL a[i].2) = v ++ logE a[i] := by rw [List.append_assoc]; rfl
      have h3 := logE_len hx
      have h4 : (putI a[i].2.size ++ bytesL a[i].2).length ≤ 405 := by rw [List.length_append, bytesL_len]; omega
      have hp := impl_PutText_eq K hK a[i].2
      rw [if_pos hx] at hp
      simp only [Int.toNat_natCast, getD_at c, e1]
      refine br_d (by omega) (ck_t (by omega) (bind_t (impl_PutNum_eq K hK _) (bind_t hp (bind_t (impl_Concat3_eq _ _ _ (by omega)) ?_))))
      rw [e2, ih (i + 1) _ (by omega) (by omega) (by rw [List.length_append]; omega), List.drop_eq_getElem_cons c, List.flatMap_cons, List.append_assoc]
    · rw [List.drop_of_length_le (by omega)]
      exact br_n (by omega) (by simp)
theorem impl_LogText_eq (K : Nat) (hK : 10000000000000 ≤ K) (a : List (Int × ByteArray)) (hl : a.length ≤ 1000000000000) : impl.LogText.f K a = some (logT a) := by
  unfold impl.LogText.f logT
  refine bind_t (impl_isBatch_eq K hK a hl) ?_
  by_cases c : batchOk a
  case neg =>
    rw [if_neg (fun g => c g.1)]
    exact br_n c rfl
  refine br_d c ?_
  by_cases c0 : a = []
  · rw [if_neg (fun g => g.2.1 c0), c0]
    rfl
  have hlen : a.length ≠ 0 := fun h => c0 (List.eq_nil_of_length_eq_zero h)
  have h3 := c.2
  have hall : ∀ x ∈ a, x.2.size ≤ 400 := fun x hx => (batch_all c x hx).2.2
  have hf := flat_len_le a hall
  have hp := putI_length (a.length : Int)
  have hL : (putI (a.length : Int) ++ a.flatMap logE) = logL a := rfl
  have hLl : (logL a).length ≤ 1300 := by rw [← hL, List.length_append]; omega
  have l0 := impl_LogText_l0 K hK a h3 hall K 0 (putI a.length) (by omega) (by omega) (by omega)
  rw [List.drop_zero, hL] at l0
  have hI : summedI (logL a) = logI a := rfl
  refine br_f (beq_eq_false_iff_ne.2 (by omega)) (bind_t (impl_PutNum_eq K hK _) (bind_t l0 (bind_t (impl_summed_eq K hK _ (logL_bytes a) (by omega)) ?_)))
  rw [hI]
  have hs := ofBytes_size (logI a)
  by_cases c4 : (logI a).length ≤ 400
  · rw [if_pos ⟨c, c0, c4⟩]
    exact br_n (by omega) rfl
  · rw [if_neg (fun g => c4 g.2.2)]
    exact br_d (by omega) rfl
theorem flat_drop (a : List (Int × ByteArray)) (i : Nat) (h : i < a.length) : (a.drop i).flatMap logE = logE a[i] ++ (a.drop (i + 1)).flatMap logE := by
  rw [List.drop_eq_getElem_cons h, List.flatMap_cons]
/-- What is read of a put's bytes. -/
theorem logE_gets {b : List Int} {p : Nat} {x : Int × ByteArray} {r : List Int} (h : b.drop p = logE x ++ r) (h0 : 0 ≤ x.1) (h1 : x.1 ≤ 23) (h2 : x.2.size ≤ 400) :
    ∃ q : Nat, getI b p = (x.1, (q : Int), true) ∧ gettI b (q : Int) = (x.2, ((p + (logE x).length : Nat) : Int), true) ∧ b.drop (p + (logE x).length) = r ∧ p + (logE x).length ≤ b.length ∧ p < p + (logE x).length := by
  have e0 : b.drop p = putI x.1 ++ (puttI x.2 ++ r) := by rw [h, logE, List.append_assoc]
  have e1 : b.drop (p + (putI x.1).length) = puttI x.2 ++ r := by rw [← List.drop_drop, e0, List.drop_left]
  have f0 := getI_put e0 h0 (by omega)
  have f1 := gettI_put e1 h2
  have hl : (logE x).length = (putI x.1).length + (puttI x.2).length := by rw [logE, List.length_append]
  have hp := putI_pos (n := x.1) h0 (by omega)
  have h3 := congrArg List.length h
  rw [List.length_drop, List.length_append] at h3
  refine ⟨p + (putI x.1).length, f0, ?_, ?_, by omega, by omega⟩
  · rw [f1, hl]
    congr 2
    omega
  · rw [hl, ← Nat.add_assoc, ← List.drop_drop, e1, List.drop_left]
theorem logI_start (a : List (Int × ByteArray)) (h : logOk a) : ∃ p0 p1 : Nat, getI (logI a) 0 = (sumF 7 (logL a), (p0 : Int), true) ∧ (logI a).drop p0 = logL a ∧ getI (logI a) (p0 : Int) = ((a.length : Int), (p1 : Int), true) ∧ (logI a).drop p1 = a.flatMap logE ∧ p1 ≤ (logI a).length := by
  have s := sum_ok (logL a)
  have h3 := h.1.2
  have e0 : (logI a).drop 0 = putI (sumF 7 (logL a)) ++ logL a := rfl
  have e1 : (logI a).drop (putI (sumF 7 (logL a))).length = logL a := by rw [logI, summedI, List.drop_left]
  have e2 : (logI a).drop ((putI (sumF 7 (logL a))).length + (putI a.length).length) = a.flatMap logE := by rw [← List.drop_drop, e1, logL, List.drop_left]
  have f0 := getI_put e0 s.1 s.2
  have f1 := getI_put (b := logI a) (r := a.flatMap logE) e1 (by omega) (by omega)
  refine ⟨_, _, by simpa using f0, e1, f1, e2, ?_⟩
  rw [logI, summedI, logL]
  simp only [List.length_append]
  omega
def LogR (b : List Int) (x : List (Int × ByteArray) × Bool) : Prop := (∃ a, logOk a ∧ b = logI a ∧ x = (a, true)) ∨ ((∀ a, logOk a → b ≠ logI a) ∧ x = ([], false))
theorem logT_eq {a : List (Int × ByteArray)} {s : ByteArray} (hs : s ≠ noVal) : strEq (logT a) s = true ↔ logOk a ∧ bytesL s = logI a := by
  rw [strEq_iff]
  unfold logT
  by_cases c : logOk a
  · rw [if_pos c]
    exact ⟨fun h => ⟨c, by rw [← h, bytesL_ofBytes (logI_bytes a)]⟩, fun h => by rw [← h.2, ofBytes_bytesL]⟩
  · rw [if_neg c]
    exact ⟨fun h => absurd h.symm hs, fun h => absurd h.1 c⟩
theorem logI_ne (a : List (Int × ByteArray)) : logI a ≠ [] := by
  intro h
  have := congrArg List.length h
  have s := sum_ok (logL a)
  have h2 := putI_pos s.1 s.2
  rw [logI, summedI, List.length_append] at this
  simp only [List.length_nil] at this
  omega
theorem noVal_bytes {s : ByteArray} : s = noVal ↔ bytesL s = [] := ⟨fun h => by rw [h]; rfl, fun h => bytesL_inj (by rw [h]; rfl)⟩
theorem spec_LogRead_go (K : Nat) (hK : 10000000000000 ≤ K) (s : ByteArray) (hs : s.size ≤ 1000000000000) (a : List (Int × ByteArray)) (ha : ∀ x ∈ a, 0 ≤ x.1 ∧ x.1 ≤ 23 ∧ x.2.size ≤ 400) (hl : a.length ≤ 3) : ∀ (f i p : Nat), a.length < i + f → i ≤ a.length → p ≤ (bytesL s).length → (bytesL s).drop p = (a.drop i).flatMap logE →
    spec.LogRead.l0.f K s f (a.length : Int) (p : Int) (a.take i) (i : Int) = some (.inr a) := by
  have hb := bytesL_ok s
  have hbl : (bytesL s).length ≤ 1000000000000 := by rw [bytesL_len]; exact hs
  intro f
  induction f with
  | zero => intro i p h hi; omega
  | succ f ih =>
    intro i p h hi hp hd
    rw [spec.LogRead.l0.f]
    by_cases c : i < a.length
    · have e1 : w64 ((i : Int) + 1) = ((i + 1 : Nat) : Int) := wsucc (by omega)
      obtain ⟨x0, x1, x2⟩ := ha _ (List.getElem_mem c)
      rw [flat_drop a i c] at hd
      obtain ⟨q, g1, g2, g3, g4, g5⟩ := logE_gets hd x0 x1 x2
      have hq := (getI_ok hb (by rw [g1])).2.2.2
      rw [g1] at hq
      simp only at hq
      have hn := spec_GetNum_eq K hK (bytesL s) p hb hbl (by omega) (by omega)
      rw [g1] at hn
      have ht := spec_GetText_eq K hK (bytesL s) q hb hbl (by omega) (by omega)
      rw [g2] at ht
      simp only [e1]
      refine br_d (by omega) (bind_t hn (br_t rfl (bind_t ht (br_t rfl (ck_t (by simp; omega) ?_)))))
      have := ih (i + 1) (p + (logE a[i]).length) (by omega) (by omega) g4 g3
      rwa [show a.take i ++ [(a[i].1, a[i].2)] = a.take (i + 1) from (List.take_append_getElem c)]
    · rw [List.take_of_length_le (by omega)]
      exact br_n (by omega) rfl
theorem spec_LogRead_any (K : Nat) (hK : 10000000000000 ≤ K) (s : ByteArray) (hs : s.size ≤ 1000000000000) (n : Nat) (hn : n ≤ 3) : ∀ (f i p : Nat) (v : List (Int × ByteArray)), n < i + f → i ≤ n → p ≤ (bytesL s).length → v.length ≤ i →
    spec.LogRead.l0.f K s f (n : Int) (p : Int) v (i : Int) = some (.inl ()) ∨ ∃ v', spec.LogRead.l0.f K s f (n : Int) (p : Int) v (i : Int) = some (.inr v') ∧ v'.length ≤ 3 := by
  have hb := bytesL_ok s
  have hbl : (bytesL s).length ≤ 1000000000000 := by rw [bytesL_len]; exact hs
  intro f
  induction f with
  | zero => intro i p v h hi; omega
  | succ f ih =>
    intro i p v h hi hp hv
    rw [spec.LogRead.l0.f]
    by_cases c : i < n
    · have e1 : w64 ((i : Int) + 1) = ((i + 1 : Nat) : Int) := wsucc (by omega)
      have hg := spec_GetNum_eq K hK (bytesL s) p hb hbl (by omega) (by omega)
      simp only [e1]
      by_cases c1 : (getI (bytesL s) p).2.2 = true
      case neg => exact .inl (br_d (by omega) (bind_t hg (br_f (by simpa using c1) rfl)))
      obtain ⟨g1, g2, g3, g4, g5⟩ := getI_ok hb c1
      have ht := spec_GetText_eq K hK (bytesL s) (getI (bytesL s) p).2.1 hb hbl (by omega) (by omega)
      by_cases c2 : (gettI (bytesL s) (getI (bytesL s) p).2.1).2.2 = true
      case neg => exact .inl (br_d (by omega) (bind_t hg (br_t c1 (bind_t ht (br_f (by simpa using c2) rfl)))))
      have hq := gettI_small hb (by omega) c2
      obtain ⟨q, hq2⟩ := Int.eq_ofNat_of_zero_le (by omega : 0 ≤ (gettI (bytesL s) (getI (bytesL s) p).2.1).2.1)
      have hk : (v ++ [((getI (bytesL s) p).1, (gettI (bytesL s) (getI (bytesL s) p).2.1).1)]).length ≤ i + 1 := by simp; omega
      rcases ih (i + 1) q (v ++ [((getI (bytesL s) p).1, (gettI (bytesL s) (getI (bytesL s) p).2.1).1)]) (by omega) (by omega) (by omega) hk with g | ⟨v', g, h'⟩
      · rw [← hq2] at g
        exact .inl (br_d (by omega) (bind_t hg (br_t c1 (bind_t ht (br_t c2 (ck_t (by omega) g))))))
      · rw [← hq2] at g
        exact .inr ⟨v', br_d (by omega) (bind_t hg (br_t c1 (bind_t ht (br_t c2 (ck_t (by omega) g))))), h'⟩
    · exact .inr ⟨v, br_n (by omega) rfl, by omega⟩
theorem spec_LogRead_of (K : Nat) (hK : 10000000000000 ≤ K) (s : ByteArray) (hs : s.size ≤ 1000000000000) (a : List (Int × ByteArray)) (ha : logOk a) (he : bytesL s = logI a) : spec.LogRead.f K s = some (a, true) := by
  have hb := bytesL_ok s
  have hbl : (bytesL s).length ≤ 1000000000000 := by rw [bytesL_len]; exact hs
  obtain ⟨p0, p1, f0, d0, f1, d1, hp1⟩ := logI_start a ha
  rw [← he] at f0 d0 f1 d1 hp1
  have h0 := spec_GetNum_eq K hK (bytesL s) 0 hb hbl (by omega) (by omega)
  rw [f0] at h0
  have hp0 := (getI_ok hb (by rw [f0])).2.2.2
  rw [f0] at hp0
  simp only at hp0
  have h1 := spec_GetNum_eq K hK (bytesL s) p0 hb hbl (by omega) (by omega)
  rw [f1] at h1
  have h3 := ha.1.2
  have hl := spec_LogRead_go K hK s hs a (batch_all ha.1) h3 K 0 p1 (by omega) (by omega) hp1 d1
  have hne : s ≠ noVal := fun h => logI_ne a (by rw [← he, noVal_bytes.1 h])
  unfold spec.LogRead.f
  refine bind_t h0 (br_t rfl (bind_t h1 (br_t rfl (br_n (by show ¬ ((a.length : Int) > 3); omega) (bind_t hl ?_)))))
  refine br_f (by rw [← Bool.not_eq_true, strEq_iff]; exact hne) (bind_t (spec_LogText_eq K hK a (by omega)) (br_t ((logT_eq hne).2 ⟨ha, he⟩) rfl))
theorem spec_LogRead_eq (K : Nat) (hK : 10000000000000 ≤ K) (s : ByteArray) (hs : s.size ≤ 1000000000000) : ∃ x, spec.LogRead.f K s = some x ∧ LogR (bytesL s) x := by
  by_cases hx : ∃ a, logOk a ∧ bytesL s = logI a
  · obtain ⟨a, h1, h2⟩ := hx
    exact ⟨_, spec_LogRead_of K hK s hs a h1 h2, .inl ⟨a, h1, h2, rfl⟩⟩
  refine ⟨([], false), ?_, .inr ⟨fun a h1 h2 => hx ⟨a, h1, h2⟩, rfl⟩⟩
  have hb := bytesL_ok s
  have hbl : (bytesL s).length ≤ 1000000000000 := by rw [bytesL_len]; exact hs
  unfold spec.LogRead.f
  refine bind_t (spec_GetNum_eq K hK (bytesL s) 0 hb hbl (by omega) (by omega)) ?_
  by_cases c1 : (getI (bytesL s) 0).2.2 = true
  case neg => exact br_f (by simpa using c1) rfl
  have b1 := getI_ok hb c1
  refine br_t c1 (bind_t (spec_GetNum_eq K hK (bytesL s) _ hb hbl (by omega) (by omega)) ?_)
  by_cases c2 : (getI (bytesL s) (getI (bytesL s) 0).2.1).2.2 = true
  case neg => exact br_f (by simpa using c2) rfl
  have b2 := getI_ok hb c2
  refine br_t c2 ?_
  by_cases c3 : (getI (bytesL s) (getI (bytesL s) 0).2.1).1 > 3
  · exact br_d c3 rfl
  refine br_n c3 ?_
  obtain ⟨n, hn⟩ := Int.eq_ofNat_of_zero_le b2.2.1
  obtain ⟨p, hp⟩ := Int.eq_ofNat_of_zero_le (by omega : 0 ≤ (getI (bytesL s) (getI (bytesL s) 0).2.1).2.1)
  rw [hn, hp]
  rcases spec_LogRead_any K hK s hs n (by omega) K 0 p [] (by omega) (by omega) (by omega) (by simp) with g | ⟨v, g, hv⟩
  · exact bind_t g rfl
  · refine bind_t g ?_
    by_cases c4 : s = noVal
    · exact br_t (strEq_iff.2 c4) rfl
    · refine br_f (by rw [← Bool.not_eq_true, strEq_iff]; exact c4) (bind_t (spec_LogText_eq K hK v (by omega)) (br_f ?_ rfl))
      rw [← Bool.not_eq_true, logT_eq c4]
      exact fun h => hx ⟨v, h⟩
theorem numR_pos {b : List Int} {a : Int} (hb : Bytes b) (h : (numR b a false).2.2 = false) : (getI b a).2.2 = true ∧ a < (numR b a false).2.1 := by
  by_cases c : (getI b a).2.2 = true
  · have := getI_ok hb c
    refine ⟨c, ?_⟩
    unfold numR
    rw [if_neg (by decide), if_pos c]
    exact this.2.2.2.1
  · rw [numR_no c] at h; cases h
theorem impl_LogRead_go (K : Nat) (hK : 10000000000000 ≤ K) (s : ByteArray) (hs : s.size ≤ 1000000000000) (a : List (Int × ByteArray)) (ha : ∀ x ∈ a, 0 ≤ x.1 ∧ x.1 ≤ 23 ∧ x.2.size ≤ 400) (hl : a.length ≤ 3) : ∀ (f i p : Nat), a.length < i + f → i ≤ a.length → p ≤ (bytesL s).length → (bytesL s).drop p = (a.drop i).flatMap logE →
    impl.LogRead.l0.f K s f (p : Int) false (a.take i) ((a.length - i : Nat) : Int) = some (((bytesL s).length : Int), false, a) := by
  have hb := bytesL_ok s
  have hbl : (bytesL s).length ≤ 1000000000000 := by rw [bytesL_len]; exact hs
  intro f
  induction f with
  | zero => intro i p h hi; omega
  | succ f ih =>
    intro i p h hi hp hd
    rw [impl.LogRead.l0.f]
    by_cases c : i < a.length
    · have e1 : w64 (((a.length - i : Nat) : Int) - 1) = ((a.length - (i + 1) : Nat) : Int) := by rw [w64_id (by omega) (by omega)]; omega
      obtain ⟨x0, x1, x2⟩ := ha _ (List.getElem_mem c)
      rw [flat_drop a i c] at hd
      obtain ⟨q, g1, g2, g3, g4, g5⟩ := logE_gets hd x0 x1 x2
      have hq := (getI_ok hb (by rw [g1])).2.2.2
      rw [g1] at hq
      simp only at hq
      have m1 : numR (bytesL s) p false = (a[i].1, (q : Int), false) := by unfold numR; rw [g1]; simp
      have m2 : textR (bytesL s) q false = (a[i].2, ((p + (logE a[i]).length : Nat) : Int), false) := by unfold textR; rw [g2]; simp
      have hn := impl_number_eq K hK (bytesL s) p false hb hbl (by omega) (by omega)
      rw [m1] at hn
      have ht := impl_text_eq K hK (bytesL s) q false hb hbl (by omega) (by omega)
      rw [m2] at ht
      simp only [e1]
      refine br_d (by omega) (br_f rfl (bind_t hn (bind_t ht (ck_t (by simp; omega) ?_))))
      have := ih (i + 1) (p + (logE a[i]).length) (by omega) (by omega) g4 g3
      rwa [show a.take i ++ [(a[i].1, a[i].2)] = a.take (i + 1) from (List.take_append_getElem c)]
    · rw [List.take_of_length_le (by omega)]
      have hda : a.drop i = [] := List.drop_of_length_le (by omega)
      rw [hda] at hd
      have hdl := congrArg List.length hd
      rw [List.length_drop] at hdl
      simp only [List.flatMap_nil, List.length_nil] at hdl
      have : p = (bytesL s).length := by omega
      rw [this]
      exact br_n (by omega) rfl
theorem impl_LogRead_any (K : Nat) (hK : 10000000000000 ≤ K) (s : ByteArray) (hs : s.size ≤ 1000000000) : ∀ (f p : Nat) (bad : Bool) (v : List (Int × ByteArray)) (n : Int), (bytesL s).length + 2 < p + f + (if bad then 1 else 0) → 0 < f → p ≤ (bytesL s).length → v.length ≤ p + (if bad then 1 else 0) → 0 ≤ n → n ≤ 1000000000 →
    ∃ x, impl.LogRead.l0.f K s f (p : Int) bad v n = some x ∧ x.2.2.length ≤ (bytesL s).length + 1 := by
  have hb := bytesL_ok s
  have hbl : (bytesL s).length ≤ 1000000000 := by rw [bytesL_len]; exact hs
  intro f
  induction f with
  | zero => intro p bad v n h hf; omega
  | succ f ih =>
    intro p bad v n h hf hp hv h0 h1
    rw [impl.LogRead.l0.f]
    by_cases c : n > 0
    case neg => exact ⟨_, br_n c rfl, by split at hv <;> simp only <;> omega⟩
    cases bad with
    | true => exact ⟨_, br_d c rfl, by simp at hv; simp only; omega⟩
    | false =>
      simp only [Bool.false_eq_true, if_false, Nat.add_zero] at h hv
      have e1 : w64 (n - 1) = n - 1 := w64_id (by omega) (by omega)
      have u1 := numR_small (a := (p : Int)) false hb (by omega) (by omega)
      have u2 := textR_small (numR (bytesL s) p false).2.2 hb u1.1 u1.2
      have hn := impl_number_eq K hK (bytesL s) p false hb (by omega) (by omega) (by omega)
      have ht := impl_text_eq K hK (bytesL s) _ (numR (bytesL s) p false).2.2 hb (by omega) u1.1 u1.2
      obtain ⟨q, hq⟩ := Int.eq_ofNat_of_zero_le u2.1
      have hpq : (p : Int) ≤ q := by
        rw [← hq]
        by_cases c1 : (getI (bytesL s) (p : Int)).2.2 = true
        · have := getI_ok hb c1
          have hm : numR (bytesL s) p false = ((getI (bytesL s) p).1, (getI (bytesL s) p).2.1, false) := by unfold numR; rw [if_neg (by decide), if_pos c1]
          rw [hm]
          show (p : Int) ≤ (textR (bytesL s) (getI (bytesL s) p).2.1 false).2.1
          by_cases c2 : (gettI (bytesL s) (getI (bytesL s) p).2.1).2.2 = true
          · have := gettI_small hb (by omega) c2
            unfold textR
            rw [if_neg (by decide), if_pos c2]
            simp only
            omega
          · rw [textR_no c2]; simp only; omega
        · rw [numR_no c1]; exact Int.le_refl _
      have hpq2 : (textR (bytesL s) (numR (bytesL s) p false).2.1 (numR (bytesL s) p false).2.2).2.2 = false → (p : Int) + 1 ≤ q := by
        intro hbad
        rw [← hq]
        by_cases c1 : (getI (bytesL s) (p : Int)).2.2 = true
        · have := getI_ok hb c1
          have hm : numR (bytesL s) p false = ((getI (bytesL s) p).1, (getI (bytesL s) p).2.1, false) := by unfold numR; rw [if_neg (by decide), if_pos c1]
          rw [hm] at hbad ⊢
          change (textR (bytesL s) (getI (bytesL s) p).2.1 false).2.2 = false at hbad
          show (p : Int) + 1 ≤ (textR (bytesL s) (getI (bytesL s) p).2.1 false).2.1
          by_cases c2 : (gettI (bytesL s) (getI (bytesL s) p).2.1).2.2 = true
          · have := gettI_small hb (by omega) c2
            unfold textR
            rw [if_neg (by decide), if_pos c2]
            simp only
            omega
          · rw [textR_no c2] at hbad; cases hbad
        · rw [numR_no c1] at hbad; simp [textR] at hbad
      generalize hY : textR (bytesL s) (numR (bytesL s) p false).2.1 (numR (bytesL s) p false).2.2 = Y at *
      obtain ⟨t, y1, y2⟩ := Y
      simp only at hq hpq2 u2
      subst hq
      simp only [e1]
      have hql : q ≤ (bytesL s).length := by omega
      obtain ⟨x, h2, h3⟩ := ih q y2 (v ++ [((numR (bytesL s) p false).1, t)]) (n - 1) (by
          cases y2 with
          | true => simp; omega
          | false => have := hpq2 rfl; simp; omega) (by omega) hql (by
          cases y2 with
          | true => simp; omega
          | false => have := hpq2 rfl; simp; omega) (by omega) (by omega)
      exact ⟨x, br_d c (br_f rfl (bind_t hn (bind_t ht (ck_t (by simp; omega) h2)))), h3⟩
theorem impl_LogRead_of (K : Nat) (hK : 10000000000000 ≤ K) (s : ByteArray) (hs : s.size ≤ 1000000000) (a : List (Int × ByteArray)) (ha : logOk a) (he : bytesL s = logI a) : impl.LogRead.f K s = some (a, true) := by
  have hb := bytesL_ok s
  have hbl : (bytesL s).length ≤ 1000000000 := by rw [bytesL_len]; exact hs
  obtain ⟨p0, p1, f0, d0, f1, d1, hp1⟩ := logI_start a ha
  rw [← he] at f0 d0 f1 d1 hp1
  have hsum : sumR (bytesL s) = ((p0 : Int), false) := by
    unfold sumR
    rw [f0]
    simp only [if_true, Int.toNat_natCast]
    rw [d0]
    simp
  have hp0 := (getI_ok hb (by rw [f0])).2.2.2
  rw [f0] at hp0
  simp only at hp0
  have m1 : numR (bytesL s) p0 false = ((a.length : Int), (p1 : Int), false) := by unfold numR; rw [f1]; simp
  have h3 := ha.1.2
  have hu := impl_unsummed_eq K hK s (by omega)
  rw [hsum] at hu
  have hn := impl_number_eq K hK (bytesL s) p0 false hb (by omega) (by omega) (by omega)
  rw [m1] at hn
  have hl := impl_LogRead_go K hK s (by omega) a (batch_all ha.1) h3 K 0 p1 (by omega) (by omega) hp1 d1
  have hne : s ≠ noVal := fun h => logI_ne a (by rw [← he, noVal_bytes.1 h])
  unfold impl.LogRead.f
  refine bind_t hu (bind_t hn (bind_t hl (bind_t (impl_done_eq _ _ _) ?_)))
  refine br_t (by simp) (br_f (by rw [← Bool.not_eq_true, strEq_iff]; exact hne) (bind_t (impl_LogText_eq K hK a (by omega)) (br_t ((logT_eq hne).2 ⟨ha, he⟩) rfl)))
theorem impl_LogRead_eq (K : Nat) (hK : 10000000000000 ≤ K) (s : ByteArray) (hs : s.size ≤ 1000000000) : ∃ x, impl.LogRead.f K s = some x ∧ LogR (bytesL s) x := by
  by_cases hx : ∃ a, logOk a ∧ bytesL s = logI a
  · obtain ⟨a, h1, h2⟩ := hx
    exact ⟨_, impl_LogRead_of K hK s hs a h1 h2, .inl ⟨a, h1, h2, rfl⟩⟩
  refine ⟨([], false), ?_, .inr ⟨fun a h1 h2 => hx ⟨a, h1, h2⟩, rfl⟩⟩
  have hb := bytesL_ok s
  have hbl : (bytesL s).length ≤ 1000000000 := by rw [bytesL_len]; exact hs
  have u1 := sumR_small hb
  have u2 := numR_small (sumR (bytesL s)).2 hb u1.1 u1.2
  have un : 0 ≤ (numR (bytesL s) (sumR (bytesL s)).1 (sumR (bytesL s)).2).1 ∧ (numR (bytesL s) (sumR (bytesL s)).1 (sumR (bytesL s)).2).1 ≤ 1000000000 := by
    unfold numR
    split
    · simp
    · split
      · rename_i c; have := getI_ok hb c; simp only; omega
      · simp
  obtain ⟨p, hp⟩ := Int.eq_ofNat_of_zero_le u2.1
  unfold impl.LogRead.f
  refine bind_t (impl_unsummed_eq K hK s (by omega)) (bind_t (impl_number_eq K hK (bytesL s) _ _ hb (by omega) u1.1 u1.2) ?_)
  obtain ⟨x, g1, g2⟩ := impl_LogRead_any K hK s hs K p (numR (bytesL s) (sumR (bytesL s)).1 (sumR (bytesL s)).2).2.2 [] _ (by split <;> omega) (by omega) (by omega) (by simp) un.1 un.2
  rw [← hp] at g1
  refine bind_t g1 (bind_t (impl_done_eq _ _ _) ?_)
  by_cases c5 : (!x.2.1 && x.1 == ((bytesL s).length : Int)) = true
  case neg => exact br_f (by simpa using c5) rfl
  refine br_t c5 ?_
  by_cases c4 : s = noVal
  · exact br_t (strEq_iff.2 c4) rfl
  · refine br_f (by rw [← Bool.not_eq_true, strEq_iff]; exact c4) (bind_t (impl_LogText_eq K hK _ (by omega)) (br_f ?_ rfl))
    rw [← Bool.not_eq_true, logT_eq c4]
    exact fun h => hx ⟨_, h⟩
theorem LogR_one (K : Nat) (hK : 10000000000000 ≤ K) (s : ByteArray) (hs : s.size ≤ 1000000000000) {x y : List (Int × ByteArray) × Bool} (h1 : LogR (bytesL s) x) (h2 : LogR (bytesL s) y) : x = y := by
  rcases h1 with ⟨a, a1, a2, rfl⟩ | ⟨a1, rfl⟩
  · rcases h2 with ⟨b, b1, b2, rfl⟩ | ⟨b1, rfl⟩
    · have := (spec_LogRead_of K hK s hs a a1 a2).symm.trans (spec_LogRead_of K hK s hs b b1 b2)
      exact Option.some.inj this
    · exact absurd a2 (b1 a a1)
  · rcases h2 with ⟨b, b1, b2, rfl⟩ | ⟨b1, rfl⟩
    · exact absurd b2 (a1 b b1)
    · rfl
theorem FnExactLogRead_pure (s : ByteArray) (_ : s.size ≤ maxLen) : laws.FnExactLogRead.f 10000000000000 s = some true := by
  unfold laws.FnExactLogRead.f
  by_cases c : (s.size : Int) > 1048576
  · exact br_d c rfl
  · obtain ⟨x, h1, h2⟩ := spec_LogRead_eq 10000000000000 (by decide) s (by omega)
    obtain ⟨y, h3, h4⟩ := impl_LogRead_eq 10000000000000 (by decide) s (by omega)
    obtain rfl := LogR_one 10000000000000 (by decide) s (by omega) h2 h4
    have hl : x.1.length ≤ 1000000 := by
      rcases h2 with ⟨a, a1, a2, rfl⟩ | ⟨a1, rfl⟩
      · have := a1.1.2; simp only; omega
      · simp
    have hm := markPutS_eq 10000000000000 (by decide) x.1 1 (by decide) (by decide) (by omega)
    have hh := heldPutS_eq 10000000000000 (by decide) 1 x.1.length (by decide) (by decide) (by omega)
    have hml := mkPutS_length 10000000000000 1 x.1.length
    have hw : ((mkPutS 10000000000000 1 x.1.length).drop 0).take x.1.length = mkPutS 10000000000000 1 x.1.length := by
      rw [List.drop_zero, List.take_of_length_le (by omega)]
    have he := eqPutS_self 10000000000000 (by decide) x.1 (by omega)
    refine br_n c (bind_t h1 (bind_t h3 (bind_t he (br_t rfl (br_t (by simp) (bind_t hm ?_))))))
    simp only [hw]
    refine bind_t hh (ck_t (by omega) (br_n (by omega) (br_f (by simp) (bind_t h3 (bind_t he (br_t rfl (br_t (by simp) (bind_t hh (br_n (by omega) (br_f (by simp) rfl))))))))))
end Go.Proofs.Ythneilmhnbboeaa.Pure
