/- The law FnEven, in plain words: its function answers true. -/
import Derived.Test.YtmodnnokcmabhaaGreatGFnEven
import Derived.Test.YtmodnnokcmabhaaGreatDenMod
import Derived.KernelRfl
namespace Go.Proofs.YtmodnnokcmabhaaGreat.Pure
open Go Go.RowKit Go.Proofs.YtmodnnokcmabhaaGreat.Den Go.Proofs.YtmodnnokcmabhaaGreat.GFnEven
set_option linter.unusedSimpArgs false
set_option linter.unusedVariables false
theorem nat_tmod (n m : Nat) : ((n : Int).tmod (m : Int)) = ((n % m : Nat) : Int) := (Int.ofNat_tmod n m).symm
theorem nat_tdiv (n m : Nat) : ((n : Int).tdiv (m : Int)) = ((n / m : Nat) : Int) := (Int.ofNat_tdiv n m).symm

theorem spec_l1In_eq (n lo hi : Int) : spec.l1In.f n lo hi = some (decide (lo ≤ n ∧ n ≤ hi)) := by
  unfold spec.l1In.f
  by_cases c : n ≥ lo
  · refine br_d c ?_
    by_cases d : n ≤ hi
    · rw [decide_eq_true d, decide_eq_true ⟨c, d⟩]
    · rw [decide_eq_false d, decide_eq_false (fun h => d h.2)]
  · refine br_n c ?_
    rw [decide_eq_false (fun h => c h.1)]

/-- What a search for a number answers, inside the loop or behind it. -/
def numOut : ((Int × Int × Bool) ⊕ Unit) → Int × Int × Bool := Sum.elim id (fun _ => (0, 0, false))
theorem spec_GetNum_l0 (b : List Int) (hb : Bytes b) (hl : b.length ≤ 1000000000000) (a : Nat) (ha : a < 9223372036854775808) : ∀ (f k q : Nat) (n : Int), f + k = 5 → f < q → 0 ≤ n → n < 128 ^ k →
    ∃ x, spec.GetNum.l0.f b (a : Int) q n (k : Int) = some x ∧ numOut x = getR (a : Int) (getF f k n (b.drop (a + k))) := by
  intro f
  induction f with
  | zero =>
    intro k q n hk hq h0 h1
    obtain ⟨q, rfl⟩ := Nat.exists_eq_add_one_of_ne_zero (by omega : q ≠ 0)
    refine ⟨.inr (), ?_, rfl⟩
    rw [spec.GetNum.l0.f]
    exact br_n (by omega) rfl
  | succ f ih =>
    intro k q n hk hq h0 h1
    obtain ⟨q, rfl⟩ := Nat.exists_eq_add_one_of_ne_zero (by omega : q ≠ 0)
    rw [spec.GetNum.l0.f]
    by_cases h : a + k < b.length
    · have hv := hb.at_ h
      have hp : (0 : Int) < 128 ^ k := Int.pow_pos (by decide)
      have hp4 : (128 : Int) ^ k ≤ 128 ^ 4 := by
        have : (128 : Nat) ^ k ≤ 128 ^ 4 := Nat.pow_le_pow_right (by decide) (by omega)
        exact_mod_cast this
      have hm : b[a + k] % 128 * 128 ^ k ≤ 127 * 128 ^ k := Int.mul_le_mul_of_nonneg_right (by omega) (by omega)
      have hm0 : 0 ≤ b[a + k] % 128 * 128 ^ k := Int.mul_nonneg (by omega) (by omega)
      rw [List.drop_eq_getElem_cons h]
      have e1 : w64 ((a : Int) + k) = ((a + k : Nat) : Int) := by rw [w64_id (by omega) (by omega)]; omega
      have e2 : w64 ((b.length : Int) - k) = (b.length : Int) - k := w64_id (by omega) (by omega)
      have e3 : w64 (7 * (k : Int)) = 7 * (k : Int) := w64_id (by omega) (by omega)
      have e4 : b.getD (a + k) 0 = b[a + k] := getD_at h 0
      have e5 : w64 b[a + k] = b[a + k] := w64_id (by omega) (by omega)
      have e6 : b[a + k].tmod 128 = b[a + k] % 128 := Int.tmod_eq_emod_of_nonneg (by omega)
      have e7 := or_shl k (by omega) h0 h1 (d := b[a + k] % 128) (by omega) (by omega)
      have e8 : w64 (((a + k : Nat) : Int) + 1) = (a : Int) + ((k : Int) + 1) := by rw [w64_id (by omega) (by omega)]; omega
      have e9 : w64 ((k : Int) + 1) = ((k + 1 : Nat) : Int) := wsucc (by omega)
      simp only [e1, e2, e3, Int.toNat_natCast, e4, e5, e6, e7, e8, e9]
      unfold getF
      by_cases c : b[a + k] ≥ 128
      · rw [if_pos c]
        have hlt : n + b[a + k] % 128 * 128 ^ k < 128 ^ (k + 1) := by
          rw [Int.pow_succ]
          omega
        obtain ⟨x, hx, hr⟩ := ih (k + 1) q (n + b[a + k] % 128 * 128 ^ k) (by omega) (by omega) (by omega) hlt
        exact ⟨x, br_d (by omega) (br_n (by omega) (br_n (by omega) (ck_t (by omega) (ck_t (by omega) (ck_t (by omega) (br_n (by omega) hx)))))), hr⟩
      · rw [if_neg c]
        have pre : ∀ {X Y : Option ((Int × Int × Bool) ⊕ Unit)} {r}, X = r → cond (decide ((k : Int) < 5)) (cond (decide ((a : Int) < 0)) (some (.inl (0, 0, false))) (cond (decide ((a : Int) ≥ (b.length : Int) - k)) (some (.inl (0, 0, false))) (ck (0 ≤ ((a + k : Nat) : Int)) (ck (((a + k : Nat) : Int) < (b.length : Int)) (ck (0 ≤ 7 * (k : Int)) (cond (decide (b[a + k] < 128)) X Y)))))) (some (.inr ())) = r := fun hx =>
          br_d (by omega) (br_n (by omega) (br_n (by omega) (ck_t (by omega) (ck_t (by omega) (ck_t (by omega) (br_d (by omega) hx))))))
        by_cases c0 : b[a + k] = 0 ∧ k > 0
        · rw [if_pos c0]
          exact ⟨.inl (0, 0, false), pre (br_d (by omega) (br_t (by rw [c0.1]; rfl) rfl)), rfl⟩
        · rw [if_neg c0]
          by_cases cm : n + b[a + k] % 128 * 128 ^ k > 1000000000
          · rw [if_pos cm]
            by_cases ck0 : (k : Int) > 0
            · exact ⟨.inl (0, 0, false), pre (br_d ck0 (br_f (by rw [beq_eq_false_iff_ne]; intro h; exact c0 ⟨h, by omega⟩) (br_d cm rfl))), rfl⟩
            · exact ⟨.inl (0, 0, false), pre (br_n ck0 (br_d cm rfl)), rfl⟩
          · rw [if_neg cm]
            by_cases ck0 : (k : Int) > 0
            · exact ⟨.inl (_, _, true), pre (br_d ck0 (br_f (by rw [beq_eq_false_iff_ne]; intro h; exact c0 ⟨h, by omega⟩) (br_n cm rfl))), rfl⟩
            · exact ⟨.inl (_, _, true), pre (br_n ck0 (br_n cm rfl)), rfl⟩
    · rw [List.drop_of_length_le (by omega)]
      refine ⟨.inl (0, 0, false), br_d (by omega) (br_n (by omega) (br_d ?_ rfl)), rfl⟩
      rw [w64_id (by omega) (by omega)]
      omega
theorem spec_GetNum_eq (K : Nat) (hK : 10000000000000 ≤ K) (b : List Int) (at_ : Int) (hb : Bytes b) (hl : b.length ≤ 1000000000000) (ha : at_ < 9223372036854775808) (ha0 : -9223372036854775808 ≤ at_) : spec.GetNum.f K b at_ = some (getI b at_) := by
  unfold spec.GetNum.f
  obtain ⟨K, rfl⟩ := Nat.exists_eq_add_one_of_ne_zero (by omega : K ≠ 0)
  by_cases c : at_ < 0
  · refine bind_t (a := .inl (0, 0, false)) ?_ ?_
    · rw [spec.GetNum.l0.f]
      exact br_d (by decide) (br_d c rfl)
    · unfold getI
      rw [if_pos c]
      rfl
  · obtain ⟨a, rfl⟩ := Int.eq_ofNat_of_zero_le (by omega : 0 ≤ at_)
    obtain ⟨x, h1, h2⟩ := spec_GetNum_l0 b hb hl a (by omega) 5 0 (K + 1) 0 rfl (by omega) (by decide) (by decide)
    refine bind_t h1 ?_
    rw [getI_at]
    rw [show a + 0 = a from rfl] at h2
    rw [← h2]
    cases x <;> rfl

theorem spec_PutNum_l0 : ∀ (f q n : Nat) (acc : List Int), n < 128 ^ (f + 1) → f ≤ 4 → f < q → acc.length + f ≤ 1000 →
    ∃ m a', spec.PutNum.l0.f q (n : Int) acc = some (m, a') ∧ a' ++ [IntKind.u8.wrap m] = acc ++ putF f n ∧ a'.length ≤ acc.length + f := by
  intro f
  induction f with
  | zero =>
    intro q n acc hn _ hq ha
    obtain ⟨q, rfl⟩ := Nat.exists_eq_add_one_of_ne_zero (by omega : q ≠ 0)
    have hn : n < 128 := hn
    refine ⟨n, acc, ?_, ?_, by omega⟩
    · rw [spec.PutNum.l0.f]; exact br_n (by omega) rfl
    · rw [wrap_u8 (by omega) (by omega)]; rfl
  | succ f ih =>
    intro q n acc hn hf hq ha
    obtain ⟨q, rfl⟩ := Nat.exists_eq_add_one_of_ne_zero (by omega : q ≠ 0)
    have hp : 128 ^ (f + 1 + 1) ≤ 128 ^ 5 := Nat.pow_le_pow_right (by decide) (by omega)
    rw [spec.PutNum.l0.f]
    by_cases c : n > 127
    · have e1 : (n : Int).tmod 128 = ((n % 128 : Nat) : Int) := nat_tmod n 128
      have e2 : (n : Int).tdiv 128 = ((n / 128 : Nat) : Int) := nat_tdiv n 128
      have e3 : w64 (((n % 128 : Nat) : Int) + 128) = ((n % 128 + 128 : Nat) : Int) := by rw [w64_id (by omega) (by omega)]; omega
      have e4 : w64 ((n / 128 : Nat) : Int) = ((n / 128 : Nat) : Int) := w64_id (by omega) (by omega)
      have e5 : IntKind.u8.wrap ((n % 128 + 128 : Nat) : Int) = ((n % 128 + 128 : Nat) : Int) := wrap_u8 (by omega) (by omega)
      simp only [e1, e2, e3, e4, e5]
      obtain ⟨m, a', h1, h2, h3⟩ := ih q (n / 128) (acc ++ [((n % 128 + 128 : Nat) : Int)]) (Nat.div_lt_of_lt_mul (by rw [Nat.pow_succ, Nat.mul_comm] at hn; exact hn)) (by omega) (by omega) (by simp; omega)
      refine ⟨m, a', br_d (by omega) (ck_t (by simp; omega) h1), ?_, by simp at h3; omega⟩
      rw [h2, putF, if_pos c, List.append_assoc]; rfl
    · refine ⟨n, acc, br_n (by omega) rfl, ?_, by omega⟩
      rw [wrap_u8 (by omega) (by omega), putF, if_neg c]
theorem spec_PutNum_eq (K : Nat) (hK : 10000000000000 ≤ K) (n : Int) : spec.PutNum.f K n = some (putI n) := by
  unfold spec.PutNum.f putI
  refine bind_t (spec_l1In_eq n 0 1000000000) ?_
  by_cases c : 0 ≤ n ∧ n ≤ 1000000000
  · rw [if_pos c]
    obtain ⟨m, rfl⟩ := Int.eq_ofNat_of_zero_le c.1
    obtain ⟨x, a', h1, h2, h3⟩ := spec_PutNum_l0 4 K m [] (by omega) (by omega) (by omega) (by simp)
    refine br_d c (bind_t h1 (ck_t (by simp at h3 ⊢; omega) ?_))
    rw [h2]; rfl
  · rw [if_neg c]
    exact br_n c rfl

theorem spec_PutText_eq (K : Nat) (hK : 10000000000000 ≤ K) (s : ByteArray) : spec.PutText.f K s = some (if s.size ≤ 400 then putI s.size ++ bytesL s else []) := by
  unfold spec.PutText.f
  by_cases c : s.size ≤ 400
  · rw [if_pos c]
    refine br_n (by omega) (bind_t (spec_PutNum_eq K hK _) (ck_t ?_ rfl))
    have := putI_length s.size
    rw [List.length_append, bytesL_len]
    omega
  · rw [if_neg c]
    exact br_d (by omega) rfl

theorem spec_GetText_eq (K : Nat) (hK : 10000000000000 ≤ K) (b : List Int) (at_ : Int) (hb : Bytes b) (hl : b.length ≤ 1000000000000) (ha : at_ < 9223372036854775808) (ha0 : -9223372036854775808 ≤ at_) : spec.GetText.f K b at_ = some (gettI b at_) := by
  unfold spec.GetText.f
  refine bind_t (spec_GetNum_eq K hK b at_ hb hl ha ha0) ?_
  unfold gettI
  by_cases h : (getI b at_).2.2 = true
  · obtain ⟨g1, g2, g3, g4, g5⟩ := getI_ok hb h
    have e1 : w64 ((b.length : Int) - (getI b at_).2.1) = (b.length : Int) - (getI b at_).2.1 := w64_id (by omega) (by omega)
    have e2 : w64 ((getI b at_).2.1 + (getI b at_).1) = (getI b at_).2.1 + (getI b at_).1 := w64_id (by omega) (by omega)
    have e3 : ((getI b at_).2.1 + (getI b at_).1).toNat - (getI b at_).2.1.toNat = (getI b at_).1.toNat := by omega
    simp only [e1, e2, e3]
    refine br_t h ?_
    by_cases c1 : (getI b at_).1 > 400
    · rw [if_neg (by omega)]
      exact br_d c1 rfl
    · refine br_n c1 ?_
      by_cases c2 : (getI b at_).1 > (b.length : Int) - (getI b at_).2.1
      · rw [if_neg (by omega)]
        exact br_d c2 rfl
      · rw [if_pos ⟨h, by omega, by omega⟩]
        exact br_n c2 (ck_t (by omega) (ck_t (by omega) (ck_t (by omega) (ck_t (by omega) rfl))))
  · rw [if_neg (fun hh => h hh.1)]
    exact br_f (by simpa using h) rfl

/-! sums -/
theorem spec_Sum_l0 (b : List Int) (hb : Bytes b) (hl : b.length ≤ 1000000000000) : ∀ (f i : Nat) (n : Int), b.length < i + f → i ≤ b.length → 0 ≤ n → n < 1000003 → spec.Sum.l0.f b f n (i : Int) = some (sumF n (b.drop i)) := by
  intro f
  induction f with
  | zero => intro i n h hi; omega
  | succ f ih =>
    intro i n h hi h0 h1
    rw [spec.Sum.l0.f]
    by_cases c : i < b.length
    · have hv := hb.at_ c
      have e1 : w64 ((i : Int) + 1) = ((i + 1 : Nat) : Int) := wsucc (by omega)
      have e2 : w64 (31 * n) = 31 * n := w64_id (by omega) (by omega)
      have e3 : w64 b[i] = b[i] := w64_id (by omega) (by omega)
      have e4 : w64 (31 * n + b[i]) = 31 * n + b[i] := w64_id (by omega) (by omega)
      have e5 : (31 * n + b[i]).tmod 1000003 = (31 * n + b[i]) % 1000003 := Int.tmod_eq_emod_of_nonneg (by omega)
      simp only [Int.toNat_natCast, getD_at c, e1, e2, e3, e4, e5]
      rw [List.drop_eq_getElem_cons c, sumF_cons]
      exact br_d (by omega) (ck_t (by omega) (ih (i + 1) _ (by omega) (by omega) (by omega) (by omega)))
    · rw [List.drop_of_length_le (by omega)]
      exact br_n (by omega) rfl
theorem spec_Sum_eq (K : Nat) (hK : 10000000000000 ≤ K) (b : List Int) (hb : Bytes b) (hl : b.length ≤ 1000000000000) : spec.Sum.f K b = some (sumF 7 b) := by
  unfold spec.Sum.f
  exact bind_t (spec_Sum_l0 b hb hl K 0 7 (by omega) (by omega) (by omega) (by omega)) rfl

theorem spec_RecOk_eq (n q : Int) (d : ByteArray) : spec.RecOk.f n q d = some (decide (recOk n q d)) := by
  unfold spec.RecOk.f
  refine bind_t (spec_l1In_eq n 0 25) ?_
  by_cases c : 0 ≤ n ∧ n ≤ 25
  · refine br_d c (bind_t (spec_l1In_eq q 1 1000000000) ?_)
    by_cases c2 : 1 ≤ q ∧ q ≤ 1000000000
    · refine br_d c2 ?_
      congr 1
      exact decide_eq_decide.2 ⟨fun h => ⟨c.1, c.2, c2.1, c2.2, by omega⟩, fun h => by have := h.2.2.2.2; omega⟩
    · exact br_n c2 (by rw [decide_eq_false (fun h => c2 ⟨h.2.2.1, h.2.2.2.1⟩)])
  · exact br_n c (by rw [decide_eq_false (fun h => c ⟨h.1, h.2.1⟩)])

theorem spec_RecText_eq (K : Nat) (hK : 10000000000000 ≤ K) (n q : Int) (d : ByteArray) : spec.RecText.f K n q d = some (if recOk n q d then ofBytes (recI n q d) else noVal) := by
  unfold spec.RecText.f
  refine bind_t (spec_RecOk_eq n q d) ?_
  by_cases c : recOk n q d
  · rw [if_pos c]
    have hd : d.size ≤ 400 := c.2.2.2.2
    have h1 := putI_length n
    have h2 := putI_length q
    have h4 := putI_length d.size
    have e : (putI n ++ putI q) ++ puttI d = recB n q d := rfl
    have hl : (recB n q d).length ≤ 415 := by rw [← e, puttI]; simp only [List.length_append, bytesL_len]; omega
    have h5 := putI_length (sumF 7 (recB n q d))
    refine br_d c (bind_t (spec_PutNum_eq K hK n) (bind_t (spec_PutNum_eq K hK q) (ck_t (by rw [List.length_append]; omega) (bind_t (spec_PutText_eq K hK d) ?_))))
    rw [if_pos hd]
    rw [show putI d.size ++ bytesL d = puttI d from rfl, e]
    exact ck_t (by omega) (bind_t (spec_Sum_eq K hK _ (recB_bytes n q d) (by omega)) (bind_t (spec_PutNum_eq K hK _) (ck_t (by rw [List.length_append]; omega) rfl)))
  · rw [if_neg c]
    exact br_n c rfl

theorem getI_small {b : List Int} {a : Int} (hb : Bytes b) (h : (getI b a).2.2 = true) : 0 ≤ (getI b a).2.1 ∧ (getI b a).2.1 ≤ b.length := by
  have := getI_ok hb h
  omega
theorem spec_RecRead_eq (K : Nat) (hK : 10000000000000 ≤ K) (s : ByteArray) (hs : s.size ≤ 1000000000000) : spec.RecRead.f K s = some (recR (bytesL s)) := by
  have hb := bytesL_ok s
  have hl : (bytesL s).length ≤ 1000000000000 := by rw [bytesL_len]; exact hs
  have G : ∀ a : Int, 0 ≤ a → a ≤ (bytesL s).length → spec.GetNum.f K (bytesL s) a = some (getI (bytesL s) a) := fun a h0 h1 => spec_GetNum_eq K hK _ a hb hl (by omega) (by omega)
  unfold spec.RecRead.f recR
  refine bind_t (G 0 (by omega) (by omega)) ?_
  by_cases c1 : (getI (bytesL s) 0).2.2 = true
  case neg => rw [if_neg (fun h => c1 h.1)]; exact br_f (by simpa using c1) rfl
  obtain ⟨b1, b2⟩ := getI_small hb c1
  refine br_t c1 (bind_t (G _ b1 b2) ?_)
  by_cases c2 : (getI (bytesL s) (getI (bytesL s) 0).2.1).2.2 = true
  case neg => rw [if_neg (fun h => c2 h.2.1)]; exact br_f (by simpa using c2) rfl
  obtain ⟨b3, b4⟩ := getI_small hb c2
  refine br_t c2 (bind_t (G _ b3 b4) ?_)
  by_cases c3 : (getI (bytesL s) (getI (bytesL s) (getI (bytesL s) 0).2.1).2.1).2.2 = true
  case neg => rw [if_neg (fun h => c3 h.2.2.1)]; exact br_f (by simpa using c3) rfl
  obtain ⟨b5, b6⟩ := getI_small hb c3
  refine br_t c3 (bind_t (spec_GetText_eq K hK _ _ hb hl (by omega) (by omega)) ?_)
  by_cases c4 : (gettI (bytesL s) (getI (bytesL s) (getI (bytesL s) (getI (bytesL s) 0).2.1).2.1).2.1).2.2 = true
  case neg => rw [if_neg (fun h => c4 h.2.2.2.1)]; exact br_f (by simpa using c4) rfl
  refine br_t c4 (bind_t (spec_RecText_eq K hK _ _ _) ?_)
  generalize (getI (bytesL s) (getI (bytesL s) 0).2.1).1 = n
  generalize (getI (bytesL s) (getI (bytesL s) (getI (bytesL s) 0).2.1).2.1).1 = q
  rw [show (gettI (bytesL s) (getI (bytesL s) (getI (bytesL s) (getI (bytesL s) 0).2.1).2.1).2.1) = (gettI (bytesL s) (getI (bytesL s) (getI (bytesL s) (getI (bytesL s) 0).2.1).2.1).2.1) from rfl]
  generalize (gettI (bytesL s) (getI (bytesL s) (getI (bytesL s) (getI (bytesL s) 0).2.1).2.1).2.1) = x4 at c4 ⊢
  have h0 : (getI (bytesL s) 0).2.2 = true := c1
  by_cases c5 : recOk n q x4.1
  · rw [if_pos c5]
    by_cases c6 : recI n q x4.1 = bytesL s
    · rw [if_pos ⟨c1, c2, c3, c4, c5, c6⟩]
      refine br_t ?_ rfl
      rw [c6, ofBytes_bytesL]; exact strEq_self s
    · rw [if_neg (fun h => c6 h.2.2.2.2.2)]
      refine br_f ?_ rfl
      rw [← Bool.not_eq_true, strEq_iff]
      intro e
      exact c6 (by rw [← e, bytesL_ofBytes (recI_bytes _ _ _)])
  · rw [if_neg c5, if_neg (fun h => c5 h.2.2.2.2.1)]
    refine br_f ?_ rfl
    rw [← Bool.not_eq_true, strEq_iff]
    intro e
    have : (bytesL s).length = 0 := by rw [bytesL_len, ← e]; rfl
    have hg := getI_ok hb c1
    omega

theorem spec_ChipOk_l0 (a : List ByteArray) (w : List Int) (hl : a.length ≤ 1000000) : ∀ (f i : Nat), a.length < i + f → i ≤ a.length →
    spec.ChipOk.l0.f a w f (i : Int) = some (if allF (fun i => (a.getD i noVal).size ≤ 800) i a.length then .inr () else .inl ()) := by
  intro f
  induction f with
  | zero => intro i h hi; omega
  | succ f ih =>
    intro i h hi
    rw [spec.ChipOk.l0.f]
    by_cases c : i < a.length
    · have e1 : w64 ((i : Int) + 1) = ((i + 1 : Nat) : Int) := wsucc (by omega)
      simp only [Int.toNat_natCast, e1]
      by_cases d : (a.getD i noVal).size ≤ 800
      · rw [if_iff ((allF_step c).trans ⟨fun g => g.2, fun g => ⟨d, g⟩⟩)]
        exact br_d (by omega) (ck_t (by omega) (br_n (by omega) (ih (i + 1) (by omega) (by omega))))
      · rw [if_neg (fun g => d ((allF_step c).1 g).1)]
        exact br_d (by omega) (ck_t (by omega) (br_d (by omega) rfl))
    · rw [if_pos (allF_end (by omega))]
      exact br_n (by omega) rfl
theorem spec_ChipOk_l1 (a : List ByteArray) (w : List Int) (hl : w.length ≤ 1000000) : ∀ (f i : Nat), w.length < i + f → i ≤ w.length →
    spec.ChipOk.l1.f a w f (i : Int) = some (if allF (fun i => 0 ≤ w.getD i 0 ∧ w.getD i 0 ≤ 1000000000) i w.length then .inr () else .inl ()) := by
  intro f
  induction f with
  | zero => intro i h hi; omega
  | succ f ih =>
    intro i h hi
    rw [spec.ChipOk.l1.f]
    by_cases c : i < w.length
    · have e1 : w64 ((i : Int) + 1) = ((i + 1 : Nat) : Int) := wsucc (by omega)
      simp only [Int.toNat_natCast, e1]
      by_cases d : 0 ≤ w.getD i 0 ∧ w.getD i 0 ≤ 1000000000
      · rw [if_iff ((allF_step c).trans ⟨fun g => g.2, fun g => ⟨d, g⟩⟩)]
        exact br_d (by omega) (ck_t (by omega) (bind_t (spec_l1In_eq _ 0 1000000000) (br_d d (ih (i + 1) (by omega) (by omega)))))
      · rw [if_neg (fun g => d ((allF_step c).1 g).1)]
        exact br_d (by omega) (ck_t (by omega) (bind_t (spec_l1In_eq _ 0 1000000000) (br_n d rfl)))
    · rw [if_pos (allF_end (by omega))]
      exact br_n (by omega) rfl
theorem spec_ChipOk_eq (K : Nat) (hK : 10000000000000 ≤ K) (a : List ByteArray) (w : List Int) : spec.ChipOk.f K a w = some (decide (chipOk a w)) := by
  unfold spec.ChipOk.f
  by_cases c1 : a.length = 60
  case neg =>
    rw [decide_eq_false (p := chipOk a w) (fun g => c1 g.1)]
    exact br_t (bne_iff_ne.2 (by omega)) rfl
  refine br_f (by simp [c1]) ?_
  by_cases c2 : w.length = 10
  case neg =>
    rw [decide_eq_false (p := chipOk a w) (fun g => c2 g.2.1)]
    exact br_t (bne_iff_ne.2 (by omega)) rfl
  refine br_f (by simp [c2]) (bind_t (spec_ChipOk_l0 a w (by omega) K 0 (by omega) (by omega)) ?_)
  by_cases c3 : allF (fun i => (a.getD i noVal).size ≤ 800) 0 a.length
  case neg =>
    rw [decide_eq_false (p := chipOk a w) (fun g => c3 g.2.2.1), if_neg c3]; rfl
  rw [if_pos c3]
  refine bind_t (spec_ChipOk_l1 a w (by omega) K 0 (by omega) (by omega)) ?_
  by_cases c4 : allF (fun i => 0 ≤ w.getD i 0 ∧ w.getD i 0 ≤ 1000000000) 0 w.length
  · rw [decide_eq_true (p := chipOk a w) ⟨c1, c2, c3, c4⟩, if_pos c4]; rfl
  · rw [decide_eq_false (p := chipOk a w) (fun g => c4 g.2.2.2), if_neg c4]; rfl

theorem spec_Mount_l0 (a : List ByteArray) (w : List Int) : ∀ (f i : Nat), 26 < i + f → i ≤ 26 → spec.Mount.l0.f a w f (List.replicate i (-1)) (i : Int) = some (List.replicate 26 (-1)) := by
  intro f
  induction f with
  | zero => intro i h hi; omega
  | succ f ih =>
    intro i h hi
    rw [spec.Mount.l0.f]
    by_cases c : i < 26
    · have e1 : w64 ((i : Int) + 1) = ((i + 1 : Nat) : Int) := wsucc (by omega)
      have e2 : List.replicate i (-1 : Int) ++ [-1] = List.replicate (i + 1) (-1) := (List.replicate_succ' ..).symm
      simp only [e1, e2]
      exact br_d (by omega) (ck_t (by rw [List.length_replicate]; omega) (ih (i + 1) (by omega) (by omega)))
    · have : i = 26 := by omega
      subst this
      exact br_n (by omega) rfl
theorem spec_l1Max_eq (a b : Int) : spec.l1Max.f a b = some (if a > b then a else b) := by
  unfold spec.l1Max.f
  by_cases c : a > b
  · rw [if_pos c]; exact br_d c rfl
  · rw [if_neg c]; exact br_n c rfl
theorem spec_l1Min_eq (a b : Int) : spec.l1Min.f a b = some (if a < b then a else b) := by
  unfold spec.l1Min.f
  by_cases c : a < b
  · rw [if_pos c]; exact br_d c rfl
  · rw [if_neg c]; exact br_n c rfl
theorem spec_Mount_l1 (K : Nat) (hK : 10000000000000 ≤ K) (a : List ByteArray) (w : List Int) (hl : a.length ≤ 1000000) (hs : ∀ x ∈ a, x.size ≤ 1000000) : ∀ (f i : Nat) (st : Mnt), a.length < i + f → i ≤ a.length → MntOk a i st →
    spec.Mount.l1.f K a w f st.map st.seq st.best (i : Int) = some ((mRun a i (a.length - i) st).map, (mRun a i (a.length - i) st).seq) := by
  intro f
  induction f with
  | zero => intro i st h hi; omega
  | succ f ih =>
    intro i st h hi ho
    rw [spec.Mount.l1.f]
    by_cases c : i < a.length
    · have e1 : w64 ((i : Int) + 1) = ((i + 1 : Nat) : Int) := wsucc (by omega)
      have hz : (a.getD i noVal).size ≤ 1000000000000 := by rw [getD_at c]; have := hs _ (List.getElem_mem c); omega
      have hr := spec_RecRead_eq K hK (a.getD i noVal) hz
      rw [show recR (bytesL (a.getD i noVal)) = pg a i from rfl] at hr
      rw [show a.length - i = (a.length - (i + 1)) + 1 by omega, mRun_succ]
      have hn := ih (i + 1) (mStep a st i) (by omega) (by omega) ho.step
      simp only [Int.toNat_natCast, e1]
      by_cases d : (pg a i).2.2.2 = true
      case neg =>
        have : mStep a st i = st := by unfold mStep; rw [if_neg d]
        rw [this] at hn ⊢
        exact br_d (by omega) (ck_t (by omega) (bind_t hr (br_f (by simpa using d) hn)))
      obtain ⟨r1, r2, r3, r4, r5⟩ := pg_ok d
      have e2 : w64 ((pg a i).2.1 + 1) = (pg a i).2.1 + 1 := w64_id (by omega) (by omega)
      have hsq : ∀ {α : Type} {g : Int → Option α} {q : Option α}, g (seqN st.seq (pg a i).2.1) = q → (Option.bind (spec.l1Max.f st.seq ((pg a i).2.1 + 1)) fun x2 => Option.bind (spec.l1Min.f x2 1000000000) fun x3 => g x3) = q := by
        intro α g q hg
        exact bind_t (spec_l1Max_eq _ _) (bind_t (spec_l1Min_eq _ _) hg)
      have hml := ho.mlen
      have hbl := ho.blen
      refine br_d (by omega) (ck_t (by omega) (bind_t hr (br_t d (ck_t r1 (ck_t (by omega) ?_)))))
      simp only [e2]
      by_cases e : (pg a i).2.1 > st.best.getD (pg a i).1.toNat 0
      · have : mStep a st i = ⟨st.map.set (pg a i).1.toNat i, seqN st.seq (pg a i).2.1, st.best.set (pg a i).1.toNat (pg a i).2.1⟩ := by unfold mStep; rw [if_pos d, if_pos e]
        rw [this] at hn ⊢
        exact br_d e (ck_t (by omega) (hsq hn))
      · have : mStep a st i = ⟨st.map, seqN st.seq (pg a i).2.1, st.best⟩ := by unfold mStep; rw [if_pos d, if_neg e]
        rw [this] at hn ⊢
        exact br_n e (hsq hn)
    · rw [show a.length - i = 0 by omega]
      exact br_n (by omega) rfl
theorem spec_l2Copy_eq (a : List ByteArray) (w : List Int) (h : chipOk a w) : spec.l2Copy.f a w = some () := by
  unfold spec.l2Copy.f
  have h1 := h.1
  have h2 := h.2.1
  exact ck_t (by simp only [List.nil_append]; omega) (ck_t (by simp only [List.nil_append]; omega) rfl)
theorem spec_Mount_eq (K : Nat) (hK : 10000000000000 ≤ K) (a : List ByteArray) (w : List Int) : spec.Mount.f K a w = some (if chipOk a w then (a, w, (mnt a).map, (mnt a).seq) else ([], [], [], 0)) := by
  unfold spec.Mount.f
  refine bind_t (spec_ChipOk_eq K hK a w) ?_
  by_cases c : chipOk a w
  · rw [if_pos c]
    have h1 := c.1
    have hm := spec_Mount_l1 K hK a w (by omega) (fun x hx => by have := chip_page c x hx; omega) K 0 mInit (by omega) (by omega) (mInit_ok a)
    exact br_d c (bind_t (spec_l2Copy_eq a w c) (ck_t (by decide) (bind_t (spec_Mount_l0 a w K 0 (by omega) (by omega)) (bind_t hm rfl))))
  · rw [if_neg c]
    exact br_n c rfl

theorem spec_l4Ints_l0 (m n : List Int) (hl : m.length ≤ 10000000) : ∀ (f i : Nat), m.length < i + f → i ≤ m.length →
    (allF (fun j => j < n.length → m.getD j 0 = n.getD j 0) i m.length ∧ spec.l4Ints.l0.f m n f (i : Int) = some (.inr ())) ∨ (¬ allF (fun j => j < n.length → m.getD j 0 = n.getD j 0) i m.length ∧ spec.l4Ints.l0.f m n f (i : Int) = some (.inl ())) := by
  intro f
  induction f with
  | zero => intro i h hi; omega
  | succ f ih =>
    intro i h hi
    rw [spec.l4Ints.l0.f]
    by_cases c : i < m.length
    · have e1 : w64 ((i : Int) + 1) = ((i + 1 : Nat) : Int) := wsucc (by omega)
      simp only [Int.toNat_natCast, e1]
      by_cases c2 : i < n.length
      · by_cases d : m.getD i 0 = n.getD i 0
        · have hb : (m.getD i 0 != n.getD i 0) = false := by rw [d]; simp
          rcases ih (i + 1) (by omega) (by omega) with ⟨g, h1⟩ | ⟨g, h1⟩
          · exact .inl ⟨(allF_step c).2 ⟨fun _ => d, g⟩, br_d (by omega) (br_d (by omega) (ck_t (by omega) (br_f hb h1)))⟩
          · exact .inr ⟨fun q => g ((allF_step c).1 q).2, br_d (by omega) (br_d (by omega) (ck_t (by omega) (br_f hb h1)))⟩
        · exact .inr ⟨fun q => d (((allF_step c).1 q).1 c2), br_d (by omega) (br_d (by omega) (ck_t (by omega) (br_t (bne_iff_ne.2 d) rfl)))⟩
      · exact .inl ⟨fun j h1 h2 h3 => by omega, br_d (by omega) (br_n (by omega) rfl)⟩
    · exact .inl ⟨allF_end (by omega), br_n (by omega) rfl⟩
theorem list_ext {m n : List Int} (hl : m.length = n.length) (h : ∀ j, j < m.length → m.getD j 0 = n.getD j 0) : m = n := by
  refine List.ext_getElem hl fun j h1 h2 => ?_
  have := h j h1
  rwa [getD_at h1, getD_at h2] at this
theorem spec_l4Ints_eq (K : Nat) (hK : 10000000000000 ≤ K) (m n : List Int) (hl : m.length ≤ 10000000) : spec.l4Ints.f K m n = some (decide (m = n)) := by
  unfold spec.l4Ints.f
  rcases spec_l4Ints_l0 m n hl K 0 (by omega) (by omega) with ⟨g, h⟩ | ⟨g, h⟩
  · refine bind_t h ?_
    show some ((m.length : Int) == (n.length : Int)) = _
    by_cases c : m.length = n.length
    · have := list_ext c (fun j hj => g j (by omega) hj (by omega))
      rw [decide_eq_true this, c]; simp
    · rw [decide_eq_false (fun e => c (by rw [e]))]
      congr 1
      exact beq_eq_false_iff_ne.2 (by omega)
  · refine bind_t h ?_
    rw [decide_eq_false (fun e => g (fun j _ _ _ => by rw [e]))]; rfl
theorem spec_FtlOk_eq (K : Nat) (hK : 10000000000000 ≤ K) (a : List ByteArray) (w m : List Int) (s : Int) : spec.FtlOk.f K a w m s = some (decide (ftlOk a w m s)) := by
  unfold spec.FtlOk.f
  refine bind_t (spec_Mount_eq K hK a w) (bind_t (spec_ChipOk_eq K hK a w) ?_)
  by_cases c : chipOk a w
  case neg => rw [decide_eq_false (p := ftlOk a w m s) (fun g => c g.1)]; exact br_n c rfl
  rw [if_pos c]
  have hm := (mnt_ok a).mlen
  refine br_d c (bind_t (spec_l4Ints_eq K hK _ _ (by show (mnt a).map.length ≤ _; omega)) ?_)
  by_cases d : (mnt a).map = m
  case neg => rw [decide_eq_false (p := ftlOk a w m s) (fun g => d g.2.1.symm)]; exact br_n d rfl
  refine br_d d ?_
  by_cases e : (mnt a).seq = s
  · rw [decide_eq_true (p := ftlOk a w m s) ⟨c, d.symm, e.symm⟩]; simp [e]
  · rw [decide_eq_false (p := ftlOk a w m s) (fun g => e g.2.2.symm)]; simp [e]

/-- A page is clear. -/
def eB (x : ByteArray) : Bool := strEq x noVal
theorem eB_comm (x : ByteArray) : strEq noVal x = eB x := by
  unfold eB
  rw [Bool.eq_iff_iff, strEq_iff, strEq_iff]; exact eq_comm
/-- The pages of a block. -/
def blk (a : List ByteArray) (b : Nat) : List ByteArray := (a.drop (b * 6)).take 6
theorem blk_length {a : List ByteArray} {b : Nat} (h : b * 6 + 6 ≤ a.length) : (blk a b).length = 6 := by
  unfold blk; rw [List.length_take, List.length_drop]; omega
theorem blk_at {a : List ByteArray} {b i : Nat} (h : b * 6 + 6 ≤ a.length) (hi : i < (blk a b).length) : (blk a b)[i] = a.getD (b * 6 + i) noVal := by
  have := blk_length h
  rw [getD_at (by omega)]
  simp only [blk, List.getElem_take, List.getElem_drop]
def clS (s : Nat × Nat) (x : ByteArray) : Nat × Nat := if eB x = true then (s.1 + 1, s.2 + 1) else (s.1, 0)
/-- How many pages of a block are clear, and how many at its end. -/
def clr (l : List ByteArray) : Nat × Nat := l.foldl clS (0, 0)
def bS (s : Nat × Nat) (x : Bool) : Nat × Nat := if x = true then (s.1 + 1, s.2 + 1) else (s.1, 0)
def bF (l : List Bool) : Int := if l.findIdx id < l.length then (if (l.drop (l.findIdx id)).findIdx (!·) < (l.drop (l.findIdx id)).length then -1 else (l.findIdx id : Int)) else -1
theorem b_law : ∀ b0 b1 b2 b3 b4 b5 : Bool, bF [b0, b1, b2, b3, b4, b5] = (if 0 < ([b0, b1, b2, b3, b4, b5].foldl bS (0, 0)).1 ∧ ([b0, b1, b2, b3, b4, b5].foldl bS (0, 0)).2 = ([b0, b1, b2, b3, b4, b5].foldl bS (0, 0)).1 then 6 - (([b0, b1, b2, b3, b4, b5].foldl bS (0, 0)).1 : Int) else -1) ∧ ([b0, b1, b2, b3, b4, b5].foldl bS (0, 0)).1 ≤ 6 := by decide
/-- Where a block's clear end begins, as the program seeks it. -/
def fcl (l : List ByteArray) : Int := if l.findIdx eB < l.length then (if (l.drop (l.findIdx eB)).findIdx (fun x => !eB x) < (l.drop (l.findIdx eB)).length then -1 else (l.findIdx eB : Int)) else -1
theorem fcl_eq {l : List ByteArray} (h : l.length = 6) : fcl l = (if 0 < (clr l).1 ∧ (clr l).2 = (clr l).1 then 6 - ((clr l).1 : Int) else -1) ∧ (clr l).1 ≤ 6 := by
  match l, h with
  | [x0, x1, x2, x3, x4, x5], _ =>
    have e1 : fcl [x0, x1, x2, x3, x4, x5] = bF ([x0, x1, x2, x3, x4, x5].map eB) := by
      unfold fcl bF
      rw [List.findIdx_map, List.drop_eq_drop_iff.2 rfl, List.length_map, ← List.map_drop, List.findIdx_map, List.length_map]
      rfl
    have e2 : clr [x0, x1, x2, x3, x4, x5] = ([x0, x1, x2, x3, x4, x5].map eB).foldl bS (0, 0) := by
      unfold clr
      rw [List.foldl_map]; rfl
    rw [e1, e2]
    exact b_law _ _ _ _ _ _
theorem clr_all : ∀ (l : List ByteArray) (s : Nat × Nat), s.2 ≤ s.1 → (l.foldl clS s).2 ≤ (l.foldl clS s).1 ∧ (l.foldl clS s).1 ≤ s.1 + l.length ∧ ((l.foldl clS s).1 = s.1 + l.length → s.2 = s.1 → (l.foldl clS s).2 = (l.foldl clS s).1)
  | [], s, h => ⟨h, Nat.le_refl _, fun _ g => g⟩
  | x :: l, s, h => by
    rw [List.foldl_cons, List.length_cons]
    by_cases c : eB x = true
    · have e : clS s x = (s.1 + 1, s.2 + 1) := by unfold clS; rw [if_pos c]
      rw [e]
      obtain ⟨h1, h2, h3⟩ := clr_all l (s.1 + 1, s.2 + 1) (Nat.succ_le_succ h)
      refine ⟨h1, by omega, fun g g2 => h3 (by omega) (by omega)⟩
    · have e : clS s x = (s.1, 0) := by unfold clS; rw [if_neg c]
      rw [e]
      obtain ⟨h1, h2, h3⟩ := clr_all l (s.1, 0) (Nat.zero_le _)
      refine ⟨h1, by omega, fun g g2 => by omega⟩

/-- A block is free; a block is begun and has a clear end; where that begins. -/
def frB (a : List ByteArray) (v : Nat) : Bool := (clr (blk a v)).1 == 6
def ptB (a : List ByteArray) (v : Nat) : Bool := decide (0 < (clr (blk a v)).1 ∧ (clr (blk a v)).1 < 6 ∧ (clr (blk a v)).2 = (clr (blk a v)).1)
def ptP (a : List ByteArray) (v : Nat) : Int := (v : Int) * 6 + 6 - ((clr (blk a v)).1 : Int)
def bst (w : List Int) (best x : Int) : Int := if best < 0 then x else if w.getD x.toNat 0 < w.getD best.toNat 0 then x else best
def fin6 (best : Int) : Int := if best < 0 then -1 else best * 6
/-- The page that is written next. -/
def nx (a : List ByteArray) (w : List Int) : List Nat → Int → Int
  | [], best => fin6 best
  | v :: l, best => if ptB a v = true then ptP a v else nx a w l (if frB a v = true then bst w best v else best)
def nxt (a : List ByteArray) (w : List Int) : Int := nx a w (List.range' 0 10) (-1)
theorem fcl_cases {a : List ByteArray} {v : Nat} (h : v * 6 + 6 ≤ a.length) : (frB a v = true ∧ ptB a v = false ∧ fcl (blk a v) = 0 ∧ (clr (blk a v)).1 = 6) ∨
    (frB a v = false ∧ ptB a v = true ∧ (clr (blk a v)).1 < 6 ∧ 0 < (clr (blk a v)).1 ∧ (clr (blk a v)).2 = (clr (blk a v)).1 ∧ fcl (blk a v) = 6 - ((clr (blk a v)).1 : Int)) ∨
    (frB a v = false ∧ ptB a v = false ∧ (clr (blk a v)).1 < 6 ∧ fcl (blk a v) = -1 ∧ ¬ (0 < (clr (blk a v)).1 ∧ (clr (blk a v)).2 = (clr (blk a v)).1)) := by
  have hl := blk_length h
  have hf := fcl_eq hl
  have hc := clr_all (blk a v) (0, 0) (Nat.le_refl _)
  have hc3 := hc.2.2
  rw [hl] at hc3
  have e : (blk a v).foldl clS (0, 0) = clr (blk a v) := rfl
  rw [e] at hc3
  simp only [Nat.zero_add] at hc3
  unfold frB ptB
  by_cases c : (clr (blk a v)).1 = 6
  · refine .inl ⟨by simpa using c, decide_eq_false (by omega), ?_, c⟩
    rw [hf.1, if_pos ⟨by omega, hc3 c trivial⟩]; omega
  · by_cases d : 0 < (clr (blk a v)).1 ∧ (clr (blk a v)).2 = (clr (blk a v)).1
    · refine .inr (.inl ⟨by simpa using c, decide_eq_true ⟨d.1, by omega, d.2⟩, by omega, d.1, d.2, ?_⟩)
      rw [hf.1, if_pos d]
    · refine .inr (.inr ⟨by simpa using c, decide_eq_false (by omega), by omega, ?_, d⟩)
      rw [hf.1, if_neg d]
theorem nx_ok (a : List ByteArray) (w : List Int) (ha : a.length = 60) : ∀ (l : List Nat) (best : Int), (∀ v ∈ l, v < 10) → (best = -1 ∨ ∃ v, v < 10 ∧ best = (v : Nat) ∧ frB a v = true) →
    nx a w l best = -1 ∨ (0 ≤ nx a w l best ∧ nx a w l best < 60 ∧ (nx a w l best % 6 = 0 → frB a (nx a w l best / 6).toNat = true))
  | [], best, _, hb => by
    unfold nx fin6
    rcases hb with rfl | ⟨v, h1, rfl, h2⟩
    · exact .inl rfl
    · rw [if_neg (by omega)]
      exact .inr ⟨by omega, by omega, fun _ => by rw [show ((v : Int) * 6 / 6).toNat = v by omega]; exact h2⟩
  | v :: l, best, hl, hb => by
    have hv := hl v (List.mem_cons_self ..)
    have hz := fcl_cases (a := a) (v := v) (by omega)
    unfold nx
    by_cases c : ptB a v = true
    · rw [if_pos c]
      rcases hz with ⟨z1, z2, z3, z4⟩ | ⟨z1, z2, z3, z4, z5, z6⟩ | ⟨z1, z2, z3, z4, z5⟩
      · rw [c] at z2; exact absurd z2 (by decide)
      · unfold ptP
        exact .inr ⟨by omega, by omega, fun h => by omega⟩
      · rw [c] at z2; exact absurd z2 (by decide)
    · rw [if_neg c]
      refine nx_ok a w ha l _ (fun u hu => hl u (List.mem_cons_of_mem _ hu)) ?_
      by_cases d : frB a v = true
      · rw [if_pos d]
        unfold bst
        by_cases e : best < 0
        · rw [if_pos e]; exact .inr ⟨v, hv, rfl, d⟩
        · rw [if_neg e]
          split
          · exact .inr ⟨v, hv, rfl, d⟩
          · exact hb
      · rw [if_neg d]; exact hb
theorem nxt_ok (a : List ByteArray) (w : List Int) (ha : a.length = 60) : nxt a w = -1 ∨ (0 ≤ nxt a w ∧ nxt a w < 60 ∧ (nxt a w % 6 = 0 → frB a (nxt a w / 6).toNat = true)) := by
  refine nx_ok a w ha _ _ (fun v hv => ?_) (.inl rfl)
  have := List.mem_range'_1.1 hv
  omega
theorem nx_no (a : List ByteArray) (w : List Int) : ∀ (l : List Nat) (best : Int), (∀ v ∈ l, ptB a v = false) → nx a w l best = fin6 (((l.filter (frB a)).map fun (v : Nat) => (v : Int)).foldl (bst w) best)
  | [], best, _ => rfl
  | v :: l, best, h => by
    unfold nx
    rw [h v (List.mem_cons_self ..), if_neg (by decide), nx_no a w l _ (fun u hu => h u (List.mem_cons_of_mem _ hu))]
    by_cases d : frB a v = true
    · rw [if_pos d, List.filter_cons_of_pos d, List.map_cons, List.foldl_cons]
    · rw [if_neg d, List.filter_cons_of_neg d]
theorem bst_lt (w : List Int) : ∀ (L : List Int) (best : Int), (∀ x ∈ L, 0 ≤ x ∧ x < 10) → best < 10 → L.foldl (bst w) best < 10
  | [], best, _, h => h
  | x :: L, best, hx, h => by
    rw [List.foldl_cons]
    refine bst_lt w L _ (fun y hy => hx y (List.mem_cons_of_mem _ hy)) ?_
    have := hx x (List.mem_cons_self ..)
    unfold bst
    split
    · omega
    · split <;> omega

/-- The pages of a block that hold a live sector, in order. -/
def livL (m : List Int) (b : Int) (i d : Nat) : List Int := (List.range' i d).flatMap fun (j : Nat) => List.replicate (m.count (b * 6 + (j : Int))) (b * 6 + (j : Int))
theorem livL_succ (m : List Int) (b : Int) (i d : Nat) : livL m b i (d + 1) = List.replicate (m.count (b * 6 + (i : Int))) (b * 6 + (i : Int)) ++ livL m b (i + 1) d := by
  unfold livL
  rw [List.range'_succ, List.flatMap_cons]
theorem livL_mem {m : List Int} {b x : Int} : ∀ (d i : Nat), x ∈ livL m b i d → b * 6 + (i : Int) ≤ x ∧ x < b * 6 + (i : Int) + d
  | 0, i, h => by simp [livL] at h
  | d + 1, i, h => by
    rw [livL_succ, List.mem_append] at h
    rcases h with h | h
    · have := (List.mem_replicate.1 h).2; omega
    · have := livL_mem d (i + 1) h; omega
theorem livL_sorted (m : List Int) (b : Int) : ∀ (d i : Nat), (livL m b i d).Pairwise (· ≤ ·)
  | 0, i => .nil
  | d + 1, i => by
    rw [livL_succ]
    refine List.pairwise_append.2 ⟨List.pairwise_replicate.2 (.inr (Int.le_refl _)), livL_sorted m b d (i + 1), fun u hu v hv => ?_⟩
    have h1 := (List.mem_replicate.1 hu).2
    have h2 := livL_mem d (i + 1) hv
    omega
theorem livL_len {m : List Int} {b : Int} (h : ∀ x, 0 ≤ x → m.count x ≤ 1) (hb : 0 ≤ b) : ∀ (d i : Nat), (livL m b i d).length ≤ d
  | 0, i => by simp [livL]
  | d + 1, i => by
    rw [livL_succ, List.length_append, List.length_replicate]
    have := livL_len h hb d (i + 1)
    have := h (b * 6 + (i : Int)) (by omega)
    omega
theorem cnt_filter (q : Int → Bool) (m : List Int) (x : Int) : (m.filter q).count x = if q x = true then m.count x else 0 := by
  by_cases h : q x = true
  · rw [if_pos h, List.count_filter h]
  · rw [if_neg h, List.count_eq_zero]
    intro hm
    exact h (List.mem_filter.1 hm).2
theorem cnt_livL (m : List Int) (b x : Int) : ∀ (d i : Nat), (livL m b i d).count x = if b * 6 + (i : Int) ≤ x ∧ x < b * 6 + (i : Int) + d then m.count x else 0
  | 0, i => by
    rw [if_neg (by omega)]; rfl
  | d + 1, i => by
    rw [livL_succ, List.count_append, cnt_livL m b x d (i + 1), List.count_replicate]
    by_cases c : b * 6 + (i : Int) = x
    · subst c
      rw [if_pos (by simp), if_neg (by omega), if_pos (by omega)]; omega
    · rw [if_neg (by simpa using c)]
      by_cases c2 : b * 6 + ((i + 1 : Nat) : Int) ≤ x ∧ x < b * 6 + ((i + 1 : Nat) : Int) + d
      · rw [if_pos c2, if_pos (by omega)]; omega
      · rw [if_neg c2, if_neg (by omega)]
theorem cnt_le : ∀ (m : List Int) (p : Int) (j : Nat), (∀ k, k < m.length → m.getD k 0 = p → k = j) → m.count p ≤ 1
  | [], p, j, _ => by simp
  | x :: m, p, j, h => by
    rw [List.count_cons]
    by_cases c : x = p
    · have h0 := h 0 (by simp) (by simpa using c)
      have : m.count p = 0 := by
        rw [List.count_eq_zero]
        intro hm
        obtain ⟨k, hk, hk2⟩ := List.mem_iff_getElem.1 hm
        have := h (k + 1) (by simp; omega) (by rw [List.getD_cons_succ, List.getD_eq_getElem?_getD, List.getElem?_eq_getElem hk]; exact hk2)
        omega
      rw [this]; split <;> omega
    · have := cnt_le m p (j - 1) (fun k hk hk2 => by
        have := h (k + 1) (by simp; omega) (by rw [List.getD_cons_succ]; exact hk2)
        omega)
      rw [if_neg (by simpa using c)]; omega
theorem ftl_cnt {a : List ByteArray} {w m : List Int} {s : Int} (h : ftlOk a w m s) (x : Int) (hx : 0 ≤ x) : m.count x ≤ 1 := by
  have ho := mnt_ok a
  refine cnt_le m x (pg a x.toNat).1.toNat (fun k hk hk2 => ?_)
  rw [h.2.1] at hk hk2
  rw [ho.mlen] at hk
  rcases ho.at_ k hk with g | ⟨p, g1, g2, g3, g4, _⟩
  · omega
  · have : x.toNat = p := by omega
    rw [this, g4]; rfl
theorem ftl_mem {a : List ByteArray} {w m : List Int} {s : Int} (h : ftlOk a w m s) : ∀ x ∈ m, -1 ≤ x ∧ x < 60 := by
  have ho := mnt_ok a
  have h60 := h.1.1
  intro x hx
  obtain ⟨k, hk, rfl⟩ := List.mem_iff_getElem.1 hx
  have e : m[k] = m.getD k 0 := by rw [List.getD_eq_getElem?_getD, List.getElem?_eq_getElem hk]; rfl
  rw [e]
  rw [h.2.1] at hk ⊢
  rw [ho.mlen] at hk
  rcases ho.at_ k hk with g | ⟨p, g1, g2, _⟩
  · omega
  · omega
/-- What the program's own loop keeps. -/
def livQ (b x : Int) : Bool := decide (0 ≤ x ∧ x / 6 = b)
theorem liv_perm (m : List Int) (b : Int) (hb : 0 ≤ b) : (m.filter (livQ b)).Perm (livL m b 0 6) := by
  rw [List.perm_iff_count]
  intro x
  rw [cnt_filter, cnt_livL]
  by_cases c : livQ b x = true
  · have : 0 ≤ x ∧ x / 6 = b := by simpa [livQ] using c
    rw [if_pos c, if_pos (by omega)]
  · have : ¬ (0 ≤ x ∧ x / 6 = b) := by simpa [livQ] using c
    rw [if_neg c, if_neg (by omega)]
theorem liv_out (m : List Int) (b : Int) (hx : ∀ x ∈ m, -1 ≤ x ∧ x < 60) (hb : ¬ (0 ≤ b ∧ b ≤ 9)) : m.filter (livQ b) = [] := by
  rw [List.filter_eq_nil_iff]
  intro x hm
  have := hx x hm
  simp [livQ]; omega

theorem impl_skip {p i : Int} {X T : Option Int} {r : Option Int} (hp : p < 60) (h : ¬ (0 ≤ p ∧ p / 6 = i)) (e : T = r) : cond (decide (p ≥ 0)) (cond (w64 (p.tdiv 6) == i) X T) T = r := by
  by_cases c : p ≥ 0
  · refine br_d c (br_f ?_ e)
    rw [Int.tdiv_eq_ediv_of_nonneg c, w64_id (by omega) (by omega)]
    simp; omega
  · exact br_n c e
theorem impl_skip1 {p i : Int} {X T : Option Int} {r : Option Int} (hp : p < 60) (h : 0 ≤ p ∧ p / 6 = i) (e : X = r) : cond (decide (p ≥ 0)) (cond (w64 (p.tdiv 6) == i) X T) T = r := by
  refine br_d h.1 (br_t ?_ e)
  rw [Int.tdiv_eq_ediv_of_nonneg h.1, w64_id (by omega) (by omega)]
  simp; omega
/-- What the loop over the blocks holds. -/
def wInv (m : List Int) (best bl : Int) : Prop := (best = -1 ∧ bl = 0) ∨ ∃ v : Nat, v < 10 ∧ best = (v : Int) ∧ bl = ((livL m (v : Int) 0 6).length : Int)
/-- The block that is begun, if any. -/
def opB (p : Int) : Int := if p < 0 then -1 else if p % 6 = 0 then -1 else p / 6
/-! ### the reference's planner, in plain words -/
theorem recI_ne {n q : Int} {d : ByteArray} (h : recOk n q d) : strEq (ofBytes (recI n q d)) noVal = false := by
  rw [← Bool.not_eq_true, strEq_iff]
  intro e
  have h1 := congrArg ByteArray.size e
  rw [ofBytes_size] at h1
  have h2 : 1 ≤ (recI n q d).length := by
    unfold recI summedI
    rw [List.length_append]
    have := putI_pos (sum_ok (recB n q d)).1 (sum_ok (recB n q d)).2
    omega
  have h3 : noVal.size = 0 := rfl
  omega
theorem recI_size {n q : Int} {d : ByteArray} (h : recOk n q d) : (ofBytes (recI n q d)).size ≤ 420 := by
  rw [ofBytes_size]
  exact recI_len n q d h.2.2.2.2
/-- An Ftl at work: pages, wear, map, seq, the acts so far, whether all could be done. -/
structure Wk where
  a : List ByteArray
  w : List Int
  m : List Int
  s : Int
  q : List (Int × Int × ByteArray)
  ok : Bool
/-- What is always right of it. -/
structure WkOk (x : Wk) : Prop where
  chip : chipOk x.a x.w
  mlen : x.m.length = 26
  s0 : 0 ≤ x.s
  s1 : x.s ≤ 1000000000
def bOk (x : Wk) (sec : Int) (d : ByteArray) : Prop := 0 ≤ nxt x.a x.w ∧ recOk sec x.s d ∧ x.s ≠ 1000000000
instance (x : Wk) (sec : Int) (d : ByteArray) : Decidable (bOk x sec d) := by unfold bOk; infer_instance
def bDo (x : Wk) (sec : Int) (d : ByteArray) : Wk := ⟨x.a.set (nxt x.a x.w).toNat (ofBytes (recI sec x.s d)), x.w, x.m.set sec.toNat (nxt x.a x.w), x.s + 1, x.q ++ [(1, nxt x.a x.w, ofBytes (recI sec x.s d))], x.ok⟩
def wBurn (x : Wk) (sec : Int) (d : ByteArray) : Wk := if bOk x sec d then bDo x sec d else { x with ok := false }
theorem chipOk_set {a : List ByteArray} {w : List Int} (h : chipOk a w) (p : Nat) {t : ByteArray} (ht : t.size ≤ 800) : chipOk (a.set p t) w := by
  obtain ⟨h1, h2, h3, h4⟩ := h
  refine ⟨by rw [List.length_set, h1], h2, fun j hj1 hj2 => ?_, h4⟩
  rw [List.length_set] at hj2
  rw [getD_set]
  split
  · exact ht
  · exact h3 j hj1 hj2
theorem nxt_lt {a : List ByteArray} {w : List Int} (ha : a.length = 60) (h : 0 ≤ nxt a w) : nxt a w < 60 := by
  rcases nxt_ok a w ha with h1 | h1
  · omega
  · exact h1.2.1
theorem wBurn_ok {x : Wk} (h : WkOk x) (sec : Int) (d : ByteArray) : WkOk (wBurn x sec d) := by
  unfold wBurn
  split
  · rename_i c
    have h1 := h.s0; have h2 := h.s1
    have h3 := c.2.2
    exact ⟨chipOk_set h.chip _ (by have := recI_size c.2.1; omega), by simp [bDo, h.mlen], by show 0 ≤ x.s + 1; omega, by show x.s + 1 ≤ _; omega⟩
  · exact ⟨h.chip, h.mlen, h.s0, h.s1⟩
theorem wBurn_w (x : Wk) (sec : Int) (d : ByteArray) : (wBurn x sec d).w = x.w := by
  unfold wBurn; split <;> rfl
theorem wBurn_q (x : Wk) (sec : Int) (d : ByteArray) : (wBurn x sec d).q.length ≤ x.q.length + 1 := by
  unfold wBurn; split
  · simp [bDo]
  · show x.q.length ≤ _; omega
/-- The first n pages of a block cleared. -/
def wipe (a : List ByteArray) (b i : Nat) : Nat → List ByteArray
  | 0 => a
  | n + 1 => wipe (a.set (b * 6 + i) noVal) b (i + 1) n
theorem wipe_length (b : Nat) : ∀ (n i : Nat) (a : List ByteArray), (wipe a b i n).length = a.length
  | 0, _, _ => rfl
  | n + 1, i, a => by rw [wipe, wipe_length b n, List.length_set]
theorem wipe_chip {w : List Int} (b : Nat) : ∀ (n i : Nat) (a : List ByteArray), chipOk a w → chipOk (wipe a b i n) w
  | 0, _, _, h => h
  | n + 1, i, a, h => by rw [wipe]; exact wipe_chip b n _ _ (chipOk_set h _ (by show noVal.size ≤ 800; decide))
theorem wipe_at (b : Nat) : ∀ (n i : Nat) (a : List ByteArray) (j : Nat), b * 6 + i + n ≤ a.length → (wipe a b i n).getD j noVal = if b * 6 + i ≤ j ∧ j < b * 6 + i + n then noVal else a.getD j noVal
  | 0, i, a, j, h => by rw [wipe, if_neg (by omega)]
  | n + 1, i, a, j, h => by
    rw [wipe, wipe_at b n (i + 1) _ j (by rw [List.length_set]; omega), getD_set]
    by_cases c : b * 6 + i = j
    · rw [if_neg (by omega), if_pos (by omega), if_pos (by omega)]
    · have hn : ¬ (b * 6 + i = j ∧ b * 6 + i < a.length) := fun e => c e.1
      rw [if_neg hn]
      exact if_iff (by omega) _ _
/-! ### cleaning -/
def cleanL (b : Int) : List Int → Wk → Wk
  | [], x => x
  | p :: l, x => if x.ok = true then (if nxt x.a x.w < 0 ∨ nxt x.a x.w / 6 = b then { x with ok := false } else cleanL b l (wBurn x (pg x.a p.toNat).1 (pg x.a p.toNat).2.2.1)) else x
theorem cleanL_ok (b : Int) : ∀ (l : List Int) (x : Wk), WkOk x → WkOk (cleanL b l x) ∧ (cleanL b l x).w = x.w ∧ (cleanL b l x).q.length ≤ x.q.length + l.length
  | [], x, h => ⟨h, rfl, Nat.le_refl _⟩
  | p :: l, x, h => by
    unfold cleanL
    split
    · split
      · exact ⟨⟨h.chip, h.mlen, h.s0, h.s1⟩, rfl, by show x.q.length ≤ _; omega⟩
      · obtain ⟨h1, h2, h3⟩ := cleanL_ok b l _ (wBurn_ok h (pg x.a p.toNat).1 (pg x.a p.toNat).2.2.1)
        refine ⟨h1, h2.trans (wBurn_w _ _ _), ?_⟩
        have := wBurn_q x (pg x.a p.toNat).1 (pg x.a p.toNat).2.2.1
        simp only [List.length_cons]; omega
    · exact ⟨h, rfl, by omega⟩
def elimC : (List ByteArray × List Int × Int × List (Int × Int × ByteArray)) ⊕ (List ByteArray × List Int × Int × List (Int × Int × ByteArray) × Bool) → List ByteArray × List Int × Int × List (Int × Int × ByteArray) × Bool
  | .inl x => (x.1, x.2.1, x.2.2.1, x.2.2.2, false)
  | .inr x => x
/-- A block cleaned. -/
def wClean (x : Wk) (b : Nat) : Wk :=
  let y := cleanL (b : Int) (livL x.m (b : Int) 0 6) x
  if y.ok = true ∧ x.w.getD b 0 ≠ 1000000000 then
    ⟨wipe y.a b 0 6, x.w.set b (x.w.getD b 0 + 1), (mnt (wipe y.a b 0 6)).map, (mnt (wipe y.a b 0 6)).seq, y.q ++ [(2, (b : Int), noVal)], true⟩
  else { y with ok := false }
theorem chipOk_wear {a : List ByteArray} {w : List Int} (h : chipOk a w) (b : Nat) {n : Int} (h0 : 0 ≤ n) (h1 : n ≤ 1000000000) : chipOk a (w.set b n) := by
  obtain ⟨g1, g2, g3, g4⟩ := h
  refine ⟨g1, by rw [List.length_set, g2], g3, fun j hj1 hj2 => ?_⟩
  rw [List.length_set] at hj2
  rw [getD_set]
  split
  · exact ⟨h0, h1⟩
  · exact g4 j hj1 hj2
theorem livL_range {m : List Int} {b : Nat} (hb : b < 10) : ∀ p ∈ livL m (b : Int) 0 6, 0 ≤ p ∧ p < 60 := by
  intro p hp
  have := livL_mem 6 0 hp
  omega
theorem wClean_ok {x : Wk} (h : WkOk x) {b : Nat} (hb : b < 10) (hl : (livL x.m (b : Int) 0 6).length ≤ 6) : WkOk (wClean x b) ∧ (wClean x b).q.length ≤ x.q.length + 7 ∧ ((wClean x b).ok = true → ftlOk (wClean x b).a (wClean x b).w (wClean x b).m (wClean x b).s) := by
  obtain ⟨h1, h2, h3⟩ := cleanL_ok (b : Int) (livL x.m (b : Int) 0 6) x h
  unfold wClean
  simp only
  split
  · rename_i c
    have hw := chip_wear h.chip hb
    have hc : chipOk (wipe (cleanL (b : Int) (livL x.m (b : Int) 0 6) x).a b 0 6) (x.w.set b (x.w.getD b 0 + 1)) := by
      refine wipe_chip b 6 0 _ (chipOk_wear ?_ b (by omega) (by have := c.2; omega))
      rw [← h2]; exact h1.chip
    have ho := mnt_ok (wipe (cleanL (b : Int) (livL x.m (b : Int) 0 6) x).a b 0 6)
    refine ⟨⟨hc, ho.mlen, ?_, ?_⟩, ?_, fun _ => ⟨hc, rfl, rfl⟩⟩
    · have := ho.s1; show 0 ≤ (mnt _).seq; omega
    · exact ho.s2
    · simp only [List.length_append, List.length_singleton]; omega
  · exact ⟨⟨h1.chip, h1.mlen, h1.s0, h1.s1⟩, by show (cleanL _ _ x).q.length ≤ _; omega, fun e => by cases e⟩

/-! ### room, a plan -/
def freL (a : List ByteArray) : List Nat := (List.range' 0 10).filter (frB a)
def wLen (m : List Int) (i : Nat) : Int := ((livL m (i : Int) 0 6).length : Int)
def wTake (a : List ByteArray) (w m : List Int) (o b : Int) (i : Nat) : Bool := !(frB a i) && (!((i : Int) == o) && (decide (b < 0) || (decide (wLen m i < wLen m b.toNat) || (wLen m i == wLen m b.toNat && decide (w.getD i 0 < w.getD b.toNat 0)))))
/-- The block that costs least, of those behind. -/
def wst (a : List ByteArray) (w m : List Int) (o : Int) : List Nat → Int → Int
  | [], b => b
  | i :: l, b => wst a w m o l (if wTake a w m o b i = true then (i : Int) else b)
def worstI (a : List ByteArray) (w m : List Int) : Int :=
  if 0 ≤ wst a w m (opB (nxt a w)) (List.range' 0 10) (-1) ∧ wLen m (wst a w m (opB (nxt a w)) (List.range' 0 10) (-1)).toNat = 6 then -1 else wst a w m (opB (nxt a w)) (List.range' 0 10) (-1)
theorem livL_six {a : List ByteArray} {w m : List Int} {s : Int} (h : ftlOk a w m s) (b : Nat) : (livL m (b : Int) 0 6).length ≤ 6 := livL_len (fun x hx => ftl_cnt h x hx) (by omega) 6 0
theorem wst_lt (a : List ByteArray) (w m : List Int) (o : Int) : ∀ (l : List Nat) (b : Int), (∀ v ∈ l, v < 10) → b < 10 → wst a w m o l b < 10
  | [], b, _, h => h
  | i :: l, b, hl, h => by
    unfold wst
    refine wst_lt a w m o l _ (fun v hv => hl v (List.mem_cons_of_mem _ hv)) ?_
    have := hl i (List.mem_cons_self ..)
    split <;> omega
theorem worstI_lt (a : List ByteArray) (w m : List Int) : worstI a w m < 10 := by
  unfold worstI
  split
  · decide
  · exact wst_lt a w m _ _ _ (fun v hv => by have := List.mem_range'_1.1 hv; omega) (by decide)
/-- Room is made for one more. -/
def wStop (x : Wk) : Bool := decide (2 < (freL x.a).length ∨ ((freL x.a).length = 2 ∧ 0 ≤ opB (nxt x.a x.w)))
def wRoom : Nat → Wk → Wk
  | 0, x => x
  | k + 1, x => if x.ok = true then (if wStop x = true then x else if worstI x.a x.w x.m < 0 then { x with ok := false } else wRoom k (wClean x (worstI x.a x.w x.m).toNat)) else x
theorem wRoom_ok (K : Nat) (hK : 10000000000000 ≤ K) : ∀ (k : Nat) (x : Wk), WkOk x → (x.ok = true → ftlOk x.a x.w x.m x.s) → WkOk (wRoom k x) ∧ ((wRoom k x).ok = true → ftlOk (wRoom k x).a (wRoom k x).w (wRoom k x).m (wRoom k x).s) ∧ (wRoom k x).q.length ≤ x.q.length + 7 * k
  | 0, x, h, hf => ⟨h, hf, Nat.le_refl _⟩
  | k + 1, x, h, hf => by
    unfold wRoom
    split
    · rename_i hok
      split
      · exact ⟨h, hf, by omega⟩
      · split
        · exact ⟨⟨h.chip, h.mlen, h.s0, h.s1⟩, fun e => (by cases e), by show x.q.length ≤ _; omega⟩
        · rename_i hw
          have hb := worstI_lt x.a x.w x.m
          obtain ⟨c1, c2, c3⟩ := wClean_ok h (b := (worstI x.a x.w x.m).toNat) (by omega) (livL_six (hf hok) _)
          obtain ⟨g1, g2, g3⟩ := wRoom_ok K hK k _ c1 c3
          exact ⟨g1, g2, by omega⟩
    · exact ⟨h, hf, by omega⟩
abbrev RoomT := List ByteArray × List Int × List Int × Int × List (Int × Int × ByteArray) × Bool
abbrev ActT := List (Int × Int × ByteArray)
/-- A put, planned. -/
def wPlan (a : List ByteArray) (w m : List Int) (s sec : Int) (d : ByteArray) : Wk :=
  if (wRoom 10 ⟨a, w, m, s, [], decide (recOk sec s d)⟩).ok = true then wBurn (wRoom 10 ⟨a, w, m, s, [], decide (recOk sec s d)⟩) sec d else wRoom 10 ⟨a, w, m, s, [], decide (recOk sec s d)⟩
def told (a : List ByteArray) (w m : List Int) (s : Int) (y : Wk) : ActT × List ByteArray × List Int × List Int × Int × Bool := if y.ok = true then (y.q, y.a, y.w, (mnt y.a).map, (mnt y.a).seq, true) else ([], a, w, m, s, false)
theorem ftl_wk {a : List ByteArray} {w m : List Int} {s : Int} (h : ftlOk a w m s) (q : ActT) (ok : Bool) : WkOk ⟨a, w, m, s, q, ok⟩ := by
  have ho := mnt_ok a
  refine ⟨h.1, by rw [h.2.1]; exact ho.mlen, ?_, ?_⟩
  · show 0 ≤ s
    rw [h.2.2]; have := ho.s1; omega
  · show s ≤ _
    rw [h.2.2]; exact ho.s2
theorem wPlan_ok (K : Nat) (hK : 10000000000000 ≤ K) {a : List ByteArray} {w m : List Int} {s : Int} (h : ftlOk a w m s) (sec : Int) (d : ByteArray) : WkOk (wPlan a w m s sec d) ∧ (wPlan a w m s sec d).q.length ≤ 71 := by
  obtain ⟨h1, h2, h3⟩ := wRoom_ok K hK 10 ⟨a, w, m, s, [], decide (recOk sec s d)⟩ (ftl_wk h _ _) (fun _ => h)
  unfold wPlan
  generalize wRoom 10 ⟨a, w, m, s, [], decide (recOk sec s d)⟩ = x at h1 h2 h3
  have h3 : x.q.length ≤ 70 := by simpa using h3
  split
  · have := wBurn_q x sec d
    exact ⟨wBurn_ok h1 sec d, by omega⟩
  · exact ⟨h1, by omega⟩
theorem told_ok {a : List ByteArray} {w m : List Int} {s : Int} (h : ftlOk a w m s) {y : Wk} (hy : WkOk y) : ftlOk (told a w m s y).2.1 (told a w m s y).2.2.1 (told a w m s y).2.2.2.1 (told a w m s y).2.2.2.2.1 := by
  unfold told
  split
  · exact ⟨hy.chip, rfl, rfl⟩
  · exact h

/-! ### a record burnt: what a mount then sees -/
theorem pg_set_ne {a : List ByteArray} {p i : Nat} (t : ByteArray) (h : i ≠ p) : pg (a.set p t) i = pg a i := by
  unfold pg
  rw [getD_set, if_neg (fun e => h e.1.symm)]
theorem pg_set_eq {a : List ByteArray} {p : Nat} (hp : p < a.length) {n q : Int} {d : ByteArray} (h : recOk n q d) : pg (a.set p (ofBytes (recI n q d))) p = (n, q, d, true) := by
  unfold pg
  rw [getD_set, if_pos ⟨rfl, hp⟩, bytesL_ofBytes (recI_bytes n q d)]
  exact recR_of h
theorem pg_clear {a : List ByteArray} {p : Nat} (h : a.getD p noVal = noVal) : (pg a p).2.2.2 = false := by
  unfold pg
  rw [h]
  have : bytesL noVal = [] := rfl
  rw [this]
  rcases recR_cases [] with ⟨n, q, d, h1, h2, h3⟩ | h1
  · exfalso
    have e := congrArg List.length h2
    unfold recI summedI at e
    rw [List.length_append] at e
    have := putI_pos (sum_ok (recB n q d)).1 (sum_ok (recB n q d)).2
    simp only [List.length_nil] at e
    omega
  · rw [h1.1]
theorem mRun_add (a : List ByteArray) : ∀ (d i e : Nat) (st : Mnt), mRun a i (d + e) st = mRun a (i + d) e (mRun a i d st)
  | 0, i, e, st => by rw [Nat.zero_add, Nat.add_zero]; rfl
  | d + 1, i, e, st => by
    rw [show d + 1 + e = (d + e) + 1 by omega, mRun_succ, mRun_succ, mRun_add a d (i + 1) e, show i + 1 + d = i + (d + 1) by omega]
theorem mRun_seq (a : List ByteArray) : ∀ (d i : Nat) (st : Mnt), MntOk a i st → st.seq ≤ (mRun a i d st).seq
  | 0, i, st, _ => Int.le_refl _
  | d + 1, i, st, h => by
    rw [mRun_succ]
    refine Int.le_trans ?_ (mRun_seq a d (i + 1) _ h.step)
    unfold mStep
    by_cases c : (pg a i).2.2.2 = true
    · rw [if_pos c]
      obtain ⟨r1, r2, r3, r4, r5⟩ := pg_ok c
      have hs := seqN_range st.seq (pg a i).2.1 h.s1 h.s2 r3 r4
      split
      · exact hs.2.2.1
      · exact hs.2.2.1
    · rw [if_neg c]; exact Int.le_refl _
theorem mRun_lt (a : List ByteArray) : ∀ (d i : Nat) (st : Mnt), MntOk a i st → (st.seq < 1000000000 → ∀ p, p < i → (pg a p).2.2.2 = true → (pg a p).2.1 < st.seq) → ((mRun a i d st).seq < 1000000000 → ∀ p, p < i + d → (pg a p).2.2.2 = true → (pg a p).2.1 < (mRun a i d st).seq)
  | 0, i, st, _, h => h
  | d + 1, i, st, ho, h => by
    rw [mRun_succ, show i + (d + 1) = i + 1 + d by omega]
    refine mRun_lt a d (i + 1) _ ho.step ?_
    intro hlt p hp hq
    have hst : (pg a i).2.2.2 = true → (mStep a st i).seq = seqN st.seq (pg a i).2.1 := by
      intro c
      unfold mStep
      rw [if_pos c]
      split <;> rfl
    by_cases c : (pg a i).2.2.2 = true
    · rw [hst c] at hlt ⊢
      have hs : st.seq ≤ seqN st.seq (pg a i).2.1 ∧ (pg a i).2.1 < seqN st.seq (pg a i).2.1 := by
        unfold seqN at hlt ⊢
        split at hlt <;> split at hlt <;> constructor <;> omega
      rcases Nat.lt_succ_iff_lt_or_eq.1 hp with g | rfl
      · have := h (by omega) p g hq; omega
      · exact hs.2
    · have e : mStep a st i = st := by unfold mStep; rw [if_neg c]
      rw [e] at hlt ⊢
      rcases Nat.lt_succ_iff_lt_or_eq.1 hp with g | rfl
      · exact h hlt p g hq
      · exact absurd hq c
theorem mnt_lt {a : List ByteArray} (h : (mnt a).seq < 1000000000) {p : Nat} (hp : p < a.length) (hq : (pg a p).2.2.2 = true) : (pg a p).2.1 < (mnt a).seq :=
  mRun_lt a a.length 0 mInit (mInit_ok a) (fun _ p hp => by omega) h p (by omega) hq
theorem mRun_le (a : List ByteArray) (S : Int) (hS : 1 ≤ S) : ∀ (d i : Nat) (st : Mnt), st.seq ≤ S → (∀ p, i ≤ p → p < i + d → (pg a p).2.2.2 = true → (pg a p).2.1 < S) → (mRun a i d st).seq ≤ S
  | 0, i, st, h, _ => h
  | d + 1, i, st, h, hp => by
    rw [mRun_succ]
    refine mRun_le a S hS d (i + 1) _ ?_ (fun p h1 h2 => hp p (by omega) (by omega))
    unfold mStep
    by_cases c : (pg a i).2.2.2 = true
    · rw [if_pos c]
      have := hp i (by omega) (by omega) c
      have hs : seqN st.seq (pg a i).2.1 ≤ S := by
        unfold seqN
        split <;> split <;> omega
      split
      · exact hs
      · exact hs
    · rw [if_neg c]; exact h
theorem mnt_le {a : List ByteArray} {S : Int} (hS : 1 ≤ S) (h : ∀ p, p < a.length → (pg a p).2.2.2 = true → (pg a p).2.1 < S) : (mnt a).seq ≤ S :=
  mRun_le a S hS a.length 0 mInit (by show (1 : Int) ≤ S; exact hS) (fun p _ h2 => h p (by omega))
theorem mb_head (a : List ByteArray) (p : Nat) (t : ByteArray) : ∀ (d i : Nat) (st : Mnt), i + d ≤ p → mRun (a.set p t) i d st = mRun a i d st
  | 0, i, st, _ => rfl
  | d + 1, i, st, h => by
    rw [mRun_succ, mRun_succ, mb_head a p t d (i + 1) _ (by omega)]
    congr 1
    unfold mStep
    rw [pg_set_ne t (by omega)]
theorem mb_tail (a : List ByteArray) (p : Nat) (t : ByteArray) (n q : Int) (hq : q < 1000000000) (h : ∀ k, k < a.length → (pg a k).2.2.2 = true → (pg a k).2.1 < q) : ∀ (d i : Nat) (st : Mnt), p < i → i + d = a.length → MntOk a i st →
    mRun (a.set p t) i d ⟨st.map.set n.toNat (p : Int), q + 1, st.best.set n.toNat q⟩ = ⟨(mRun a i d st).map.set n.toNat (p : Int), q + 1, (mRun a i d st).best.set n.toNat q⟩
  | 0, i, st, _, _, _ => rfl
  | d + 1, i, st, h1, h2, ho => by
    rw [mRun_succ, mRun_succ, ← mb_tail a p t n q hq h d (i + 1) _ (by omega) (by omega) ho.step]
    congr 1
    unfold mStep
    rw [pg_set_ne t (by omega)]
    by_cases c : (pg a i).2.2.2 = true
    case neg => rw [if_neg c, if_neg c]
    rw [if_pos c, if_pos c]
    have hlt := h i (by omega) c
    have es : seqN (q + 1) (pg a i).2.1 = q + 1 := by
      have g : q + 1 > (pg a i).2.1 + 1 := by omega
      unfold seqN
      simp only [if_pos g]
      split <;> omega
    obtain ⟨r1, r2, r3, r4, r5⟩ := pg_ok c
    by_cases e : n.toNat = (pg a i).1.toNat
    · have hb : (st.best.set n.toNat q).getD (pg a i).1.toNat 0 = q := by
        rw [getD_set, if_pos ⟨e, by rw [e, ho.blen]; omega⟩]
      simp only [hb]
      rw [if_neg (by omega), es]
      split
      · simp only [e, List.set_set]
      · rfl
    · have hb : (st.best.set n.toNat q).getD (pg a i).1.toNat 0 = st.best.getD (pg a i).1.toNat 0 := by
        rw [getD_set, if_neg (fun g => e g.1)]
      simp only [hb, es]
      split
      · simp only [List.set_comm _ _ e]
      · rfl
theorem mnt_burn {a : List ByteArray} {p : Nat} (hp : p < a.length) (hc : a.getD p noVal = noVal) {n : Int} {d : ByteArray} (h : recOk n (mnt a).seq d) (h9 : (mnt a).seq ≠ 1000000000) :
    (mnt (a.set p (ofBytes (recI n (mnt a).seq d)))).map = (mnt a).map.set n.toNat (p : Int) ∧ (mnt (a.set p (ofBytes (recI n (mnt a).seq d)))).seq = (mnt a).seq + 1 := by
  have hs2 := (mnt_ok a).s2
  have hlt : (mnt a).seq < 1000000000 := by omega
  have hall : ∀ k, k < a.length → (pg a k).2.2.2 = true → (pg a k).2.1 < (mnt a).seq := fun k hk hq => mnt_lt hlt hk hq
  generalize hQ : (mnt a).seq = q at h h9 hs2 hlt hall ⊢
  obtain ⟨r1, r2, r3, r4, r5⟩ := h
  have hpg := pg_set_eq hp (show recOk n q d from ⟨r1, r2, r3, r4, r5⟩)
  generalize ofBytes (recI n q d) = t at hpg ⊢
  have split1 : ∀ b : List ByteArray, b.length = a.length → mnt b = mRun b (p + 1) (a.length - (p + 1)) (mStep b (mRun b 0 p mInit) p) := by
    intro b hb
    unfold mnt
    rw [hb, show a.length = p + ((a.length - (p + 1)) + 1) by omega, mRun_add, Nat.zero_add, mRun_succ]
    congr 1
    omega
  have hok : MntOk a p (mRun a 0 p mInit) := by
    have := MntOk.run p 0 (mInit_ok a)
    rwa [Nat.zero_add] at this
  have hle : (mRun a 0 p mInit).seq ≤ q := by
    rw [← hQ]
    have := mRun_seq a (a.length - p) p _ hok
    have e := mRun_add a p 0 (a.length - p) mInit
    rw [Nat.zero_add] at e
    rw [← e, show p + (a.length - p) = a.length by omega] at this
    exact this
  have e1 : mStep a (mRun a 0 p mInit) p = mRun a 0 p mInit := by
    unfold mStep
    rw [if_neg (by rw [pg_clear hc]; decide)]
  have e2 : mStep (a.set p t) (mRun (a.set p t) 0 p mInit) p = ⟨(mRun a 0 p mInit).map.set n.toNat (p : Int), q + 1, (mRun a 0 p mInit).best.set n.toNat q⟩ := by
    rw [mb_head a p t p 0 mInit (by omega)]
    unfold mStep
    rw [hpg, if_pos rfl]
    have hb : (mRun a 0 p mInit).best.getD n.toNat 0 < q := by
      rcases hok.at_ n.toNat (by omega) with g | ⟨k, g1, g2, g3, g4, g5⟩
      · rw [g.2]; omega
      · rw [g5]; exact hall k (by omega) g3
    have es : seqN (mRun a 0 p mInit).seq q = q + 1 := by
      have g : ¬ (mRun a 0 p mInit).seq > q + 1 := by omega
      unfold seqN
      simp only [if_neg g]
      split <;> omega
    simp only [es]
    rw [if_pos (by omega)]
  have e3 : mnt a = mRun a (p + 1) (a.length - (p + 1)) (mRun a 0 p mInit) := by rw [split1 a rfl, e1]
  have e4 := mb_tail a p t n q hlt hall (a.length - (p + 1)) (p + 1) (mRun a 0 p mInit) (by omega) (by omega) (by rw [← e1]; exact hok.step)
  rw [split1 (a.set p t) (by rw [List.length_set]), e2, e4, ← e3]
  exact ⟨rfl, rfl⟩

/-! ### the six pages of a block -/
theorem clS_bS (l : List ByteArray) : ∀ s : Nat × Nat, l.foldl clS s = (l.map eB).foldl bS s := by
  induction l with
  | nil => intro s; rfl
  | cons x l ih => intro s; rw [List.foldl_cons, List.map_cons, List.foldl_cons, ih]; rfl
theorem clr_bits (l : List ByteArray) : clr l = (l.map eB).foldl bS (0, 0) := clS_bS l (0, 0)
theorem len6 {α : Type} {l : List α} (h : l.length = 6) : ∃ a b c d e f, l = [a, b, c, d, e, f] := by
  match l, h with
  | [a, b, c, d, e, f], _ => exact ⟨a, b, c, d, e, f, rfl⟩
theorem bits_burn : ∀ b0 b1 b2 b3 b4 b5 : Bool, 0 < ([b0, b1, b2, b3, b4, b5].foldl bS (0, 0)).1 ∧ ([b0, b1, b2, b3, b4, b5].foldl bS (0, 0)).2 = ([b0, b1, b2, b3, b4, b5].foldl bS (0, 0)).1 →
    [b0, b1, b2, b3, b4, b5].getD (6 - ([b0, b1, b2, b3, b4, b5].foldl bS (0, 0)).1) false = true ∧
    ([b0, b1, b2, b3, b4, b5].set (6 - ([b0, b1, b2, b3, b4, b5].foldl bS (0, 0)).1) false).foldl bS (0, 0) = (([b0, b1, b2, b3, b4, b5].foldl bS (0, 0)).1 - 1, ([b0, b1, b2, b3, b4, b5].foldl bS (0, 0)).1 - 1) ∧ ([b0, b1, b2, b3, b4, b5].foldl bS (0, 0)).1 ≤ 6 := by decide
theorem bits_none : ∀ b0 b1 b2 b3 b4 b5 : Bool, ([b0, b1, b2, b3, b4, b5].foldl bS (0, 0)).1 = 0 → b5 = false := by decide
theorem bits_open : ∀ b0 b1 b2 b3 b4 b5 : Bool, 0 < ([b0, b1, b2, b3, b4, b5].foldl bS (0, 0)).1 ∧ ([b0, b1, b2, b3, b4, b5].foldl bS (0, 0)).2 = ([b0, b1, b2, b3, b4, b5].foldl bS (0, 0)).1 → b5 = true := by decide
theorem bits_all : ∀ b0 b1 b2 b3 b4 b5 : Bool, ([b0, b1, b2, b3, b4, b5].foldl bS (0, 0)).1 = 6 → b0 = true ∧ b1 = true ∧ b2 = true ∧ b3 = true ∧ b4 = true ∧ b5 = true := by decide
theorem blk_set_eq {a : List ByteArray} {b j : Nat} (t : ByteArray) : blk (a.set (b * 6 + j) t) b = (blk a b).set j t := by
  unfold blk
  rw [List.drop_set, if_neg (by omega), show b * 6 + j - b * 6 = j by omega, List.take_set]
theorem blk_set_ne {a : List ByteArray} {b u j : Nat} (t : ByteArray) (hj : j < 6) (h : u ≠ b) : blk (a.set (b * 6 + j) t) u = blk a u := by
  unfold blk
  rw [List.drop_set]
  split
  · rfl
  · rw [List.take_set_of_le (by omega)]
/-- A page of a begun or free block: the first that is clear. -/
theorem clr_burn {a : List ByteArray} {b : Nat} (ha : b * 6 + 6 ≤ a.length) {t : ByteArray} (ht : eB t = false) (h : 0 < (clr (blk a b)).1 ∧ (clr (blk a b)).2 = (clr (blk a b)).1) :
    (clr (blk a b)).1 ≤ 6 ∧ a.getD (b * 6 + (6 - (clr (blk a b)).1)) noVal = noVal ∧ clr (blk (a.set (b * 6 + (6 - (clr (blk a b)).1)) t) b) = ((clr (blk a b)).1 - 1, (clr (blk a b)).1 - 1) := by
  rw [blk_set_eq]
  have hl := blk_length ha
  have hat : ∀ i, i < 6 → (blk a b).getD i noVal = a.getD (b * 6 + i) noVal := fun i hi => by
    rw [getD_at (by omega)]; exact blk_at ha (by omega)
  obtain ⟨x0, x1, x2, x3, x4, x5, e⟩ := len6 hl
  generalize blk a b = l at h hl hat e ⊢
  rw [clr_bits] at h ⊢
  have hm : (l.set (6 - ((l.map eB).foldl bS (0, 0)).1) t).map eB = (l.map eB).set (6 - ((l.map eB).foldl bS (0, 0)).1) false := by
    rw [List.map_set, ht]
  rw [clr_bits (l.set _ t), hm]
  have e6 : l.map eB = [eB x0, eB x1, eB x2, eB x3, eB x4, eB x5] := by rw [e]; rfl
  have key := bits_burn (eB x0) (eB x1) (eB x2) (eB x3) (eB x4) (eB x5)
  rw [← e6] at key
  obtain ⟨k1, k2, k3⟩ := key h
  refine ⟨k3, ?_, k2⟩
  generalize ((l.map eB).foldl bS (0, 0)).1 = c at k1 h k3 ⊢
  rw [← hat _ (by omega)]
  rw [List.getD_eq_getElem?_getD, List.getElem?_map, List.getElem?_eq_getElem (by omega)] at k1
  rw [getD_at (by omega)]
  exact strEq_iff.1 k1
theorem clr_noval : clr [noVal, noVal, noVal, noVal, noVal, noVal] = (6, 6) := by
  have : eB noVal = true := strEq_self _
  unfold clr clS
  simp [this]

theorem bits_six : ∀ b0 b1 b2 b3 b4 b5 : Bool, ([b0, b1, b2, b3, b4, b5].foldl bS (0, 0)).1 = 6 → ([b0, b1, b2, b3, b4, b5].foldl bS (0, 0)).2 = 6 := by decide
theorem clr_six {a : List ByteArray} {v : Nat} (h : v * 6 + 6 ≤ a.length) (c : (clr (blk a v)).1 = 6) : (clr (blk a v)).2 = 6 := by
  obtain ⟨x0, x1, x2, x3, x4, x5, e⟩ := len6 (blk_length h)
  rw [clr_bits] at c ⊢
  rw [e] at c ⊢
  exact bits_six _ _ _ _ _ _ c
/-- A block that the next page may lie in. -/
theorem has_clear {a : List ByteArray} {v : Nat} (h : v * 6 + 6 ≤ a.length) (c : ptB a v = true ∨ frB a v = true) : 0 < (clr (blk a v)).1 ∧ (clr (blk a v)).2 = (clr (blk a v)).1 := by
  rcases c with c | c
  · have := of_decide_eq_true c
    exact ⟨this.1, this.2.2⟩
  · have e : (clr (blk a v)).1 = 6 := by simpa [frB] using c
    have := clr_six h e
    omega
theorem nx_char (a : List ByteArray) (w : List Int) : ∀ (l : List Nat) (best : Int), (∀ v ∈ l, v < 10) → (best = -1 ∨ ∃ v : Nat, v < 10 ∧ best = (v : Int) ∧ frB a v = true) →
    (∃ v ∈ l, ptB a v = true ∧ nx a w l best = ptP a v) ∨ ((∀ u ∈ l, ptB a u = false) ∧ ((best = -1 ∧ (∀ u ∈ l, frB a u = false) ∧ nx a w l best = -1) ∨ ∃ v : Nat, v < 10 ∧ frB a v = true ∧ nx a w l best = (v : Int) * 6 ∧ (∀ u ∈ l, frB a u = true → w.getD v 0 ≤ w.getD u 0) ∧ ∀ u : Nat, best = (u : Int) → w.getD v 0 ≤ w.getD u 0)) := by
  intro l
  induction l with
  | nil =>
    intro best _ hb
    refine .inr ⟨fun u hu => (by cases hu), ?_⟩
    rcases hb with rfl | ⟨v, h1, rfl, h2⟩
    · exact .inl ⟨rfl, fun u hu => (by cases hu), rfl⟩
    · refine .inr ⟨v, h1, h2, ?_, fun u hu => (by cases hu), fun u hu => ?_⟩
      · unfold nx fin6; rw [if_neg (by omega)]
      · have : u = v := by omega
        rw [this]; exact Int.le_refl _
  | cons i l ih =>
    intro best hl hb
    have hi := hl i (List.mem_cons_self ..)
    have hl' : ∀ v ∈ l, v < 10 := fun v hv => hl v (List.mem_cons_of_mem _ hv)
    unfold nx
    by_cases c : ptB a i = true
    · rw [if_pos c]; exact .inl ⟨i, List.mem_cons_self .., c, rfl⟩
    rw [if_neg c]
    have c' : ptB a i = false := by simpa using c
    by_cases d : frB a i = true
    · rw [if_pos d]
      have hb' : bst w best i = -1 ∨ ∃ v : Nat, v < 10 ∧ bst w best i = (v : Int) ∧ frB a v = true := by
        unfold bst
        split
        · exact .inr ⟨i, hi, rfl, d⟩
        · split
          · exact .inr ⟨i, hi, rfl, d⟩
          · exact hb
      rcases ih (bst w best i) hl' hb' with ⟨v, h1, h2, h3⟩ | ⟨h1, h2⟩
      · exact .inl ⟨v, List.mem_cons_of_mem _ h1, h2, h3⟩
      · refine .inr ⟨fun u hu => ?_, ?_⟩
        · rcases List.mem_cons.1 hu with rfl | hu
          · exact c'
          · exact h1 u hu
        · rcases h2 with ⟨g1, g2, g3⟩ | ⟨v, g1, g2, g3, g4, g5⟩
          · exfalso
            unfold bst at g1
            rcases hb with rfl | ⟨v, k1, rfl, k2⟩
            · rw [if_pos (by decide)] at g1; omega
            · rw [if_neg (by omega)] at g1
              split at g1 <;> omega
          · refine .inr ⟨v, g1, g2, g3, fun u hu hf => ?_, fun u hu => ?_⟩
            · rcases List.mem_cons.1 hu with rfl | hu
              · unfold bst at g5
                rcases hb with rfl | ⟨z, k1, rfl, k2⟩
                · exact g5 u (by rw [if_pos (by decide)])
                · rw [if_neg (by omega)] at g5
                  by_cases q : w.getD (u : Int).toNat 0 < w.getD (z : Int).toNat 0
                  · exact g5 u (by rw [if_pos q])
                  · have := g5 z (by rw [if_neg q])
                    simp only [Int.toNat_natCast] at q
                    omega
              · exact g4 u hu hf
            · subst hu
              unfold bst at g5
              rw [if_neg (by omega)] at g5
              by_cases q : w.getD (i : Int).toNat 0 < w.getD (u : Int).toNat 0
              · have := g5 i (by rw [if_pos q])
                simp only [Int.toNat_natCast] at q
                omega
              · exact g5 u (by rw [if_neg q])
    · rw [if_neg d]
      have d' : frB a i = false := by simpa using d
      rcases ih best hl' hb with ⟨v, h1, h2, h3⟩ | ⟨h1, h2⟩
      · exact .inl ⟨v, List.mem_cons_of_mem _ h1, h2, h3⟩
      · refine .inr ⟨fun u hu => ?_, ?_⟩
        · rcases List.mem_cons.1 hu with rfl | hu
          · exact c'
          · exact h1 u hu
        · rcases h2 with ⟨g1, g2, g3⟩ | ⟨v, g1, g2, g3, g4, g5⟩
          · refine .inl ⟨g1, fun u hu => ?_, g3⟩
            rcases List.mem_cons.1 hu with rfl | hu
            · exact d'
            · exact g2 u hu
          · refine .inr ⟨v, g1, g2, g3, fun u hu hf => ?_, g5⟩
            rcases List.mem_cons.1 hu with rfl | hu
            · rw [hf] at d'; cases d'
            · exact g4 u hu hf
theorem range10 {u : Nat} (h : u < 10) : u ∈ List.range' 0 10 := List.mem_range'_1.2 ⟨by omega, by omega⟩
theorem nxt_char (a : List ByteArray) (w : List Int) : (nxt a w = -1 ∧ ∀ v, v < 10 → ptB a v = false ∧ frB a v = false) ∨
    ∃ v : Nat, v < 10 ∧ nxt a w = ptP a v ∧ (ptB a v = true ∨ (frB a v = true ∧ (∀ u, u < 10 → ptB a u = false) ∧ ∀ u, u < 10 → frB a u = true → w.getD v 0 ≤ w.getD u 0)) := by
  rcases nx_char a w (List.range' 0 10) (-1) (fun v hv => by have := List.mem_range'_1.1 hv; omega) (.inl rfl) with ⟨v, h1, h2, h3⟩ | ⟨h1, h2⟩
  · have := List.mem_range'_1.1 h1
    exact .inr ⟨v, by omega, h3, .inl h2⟩
  · rcases h2 with ⟨_, g2, g3⟩ | ⟨v, g1, g2, g3, g4, _⟩
    · exact .inl ⟨g3, fun u hu => ⟨h1 u (range10 hu), g2 u (range10 hu)⟩⟩
    · refine .inr ⟨v, g1, ?_, .inr ⟨g2, fun u hu => h1 u (range10 hu), fun u hu hf => g4 u (range10 hu) hf⟩⟩
      have e : (clr (blk a v)).1 = 6 := by simpa [frB] using g2
      have : nxt a w = (v : Int) * 6 := g3
      rw [this]; unfold ptP; omega
/-- At most one block is begun. -/
def One (a : List ByteArray) : Prop := ∀ u v : Nat, u < 10 → v < 10 → ptB a u = true → ptB a v = true → u = v
/-- A block that is neither free nor begun. -/
def Clo (a : List ByteArray) (b : Nat) : Prop := frB a b = false ∧ ptB a b = false
/-- What a burn at the next page does to the blocks. -/
theorem nxt_burn {a : List ByteArray} {w : List Int} (ha : a.length = 60) (h : 0 ≤ nxt a w) {t : ByteArray} (ht : eB t = false) : ∃ v : Nat, v < 10 ∧ nxt a w / 6 = (v : Int) ∧ (nxt a w).toNat < 60 ∧ a.getD (nxt a w).toNat noVal = noVal ∧
    (ptB a v = true ∨ (frB a v = true ∧ (∀ u, u < 10 → ptB a u = false) ∧ ∀ u, u < 10 → frB a u = true → w.getD v 0 ≤ w.getD u 0)) ∧
    0 < (clr (blk a v)).1 ∧ (clr (blk a v)).1 ≤ 6 ∧ (clr (blk a v)).2 = (clr (blk a v)).1 ∧ (nxt a w).toNat = v * 6 + (6 - (clr (blk a v)).1) ∧
    clr (blk (a.set (nxt a w).toNat t) v) = ((clr (blk a v)).1 - 1, (clr (blk a v)).1 - 1) ∧ ∀ u, u ≠ v → blk (a.set (nxt a w).toNat t) u = blk a u := by
  rcases nxt_char a w with ⟨h1, _⟩ | ⟨v, h1, h2, h3⟩
  · omega
  have hc := has_clear (a := a) (v := v) (by omega) (h3.imp (fun e => e) (fun e => e.1))
  obtain ⟨g1, g2, g3⟩ := clr_burn (b := v) (by omega) ht hc
  have hp : (nxt a w).toNat = v * 6 + (6 - (clr (blk a v)).1) := by rw [h2]; unfold ptP; omega
  refine ⟨v, h1, by rw [h2]; unfold ptP; omega, by omega, by rw [hp]; exact g2, h3, hc.1, g1, hc.2, hp, by rw [hp]; exact g3, fun u hu => ?_⟩
  rw [hp]
  exact blk_set_ne t (by omega) hu
theorem eB_rec {n q : Int} {d : ByteArray} (h : recOk n q d) : eB (ofBytes (recI n q d)) = false := recI_ne h
theorem ptB_of {a a' : List ByteArray} {u : Nat} (h : blk a' u = blk a u) : ptB a' u = ptB a u := by unfold ptB; rw [h]
theorem frB_of {a a' : List ByteArray} {u : Nat} (h : blk a' u = blk a u) : frB a' u = frB a u := by unfold frB; rw [h]
theorem One_burn {a : List ByteArray} {w : List Int} (ha : a.length = 60) (h : 0 ≤ nxt a w) {t : ByteArray} (ht : eB t = false) (ho : One a) : One (a.set (nxt a w).toNat t) ∧ ∀ b, b < 10 → Clo a b → Clo (a.set (nxt a w).toNat t) b := by
  obtain ⟨v, h1, h2, h3, h4, h5, h6, h7, h8, h9, h10, h11⟩ := nxt_burn ha h ht
  have hoff : ∀ u, u < 10 → u ≠ v → ptB (a.set (nxt a w).toNat t) u = false := by
    intro u hu hne
    rw [ptB_of (h11 u hne)]
    rcases h5 with h5 | h5
    · rw [← Bool.not_eq_true]
      exact fun e => hne (ho u v hu h1 e h5)
    · exact h5.2.1 u hu
  refine ⟨fun x y hx hy ex ey => ?_, fun b hb hc => ?_⟩
  · by_cases cx : x = v
    · by_cases cy : y = v
      · omega
      · rw [hoff y hy cy] at ey; cases ey
    · rw [hoff x hx cx] at ex; cases ex
  · have hne : b ≠ v := by
      rintro rfl
      rcases h5 with h5 | h5
      · rw [hc.2] at h5; cases h5
      · rw [hc.1] at h5; cases h5.1
    exact ⟨by rw [frB_of (h11 b hne)]; exact hc.1, by rw [ptB_of (h11 b hne)]; exact hc.2⟩
theorem blk_wipe_ne (b : Nat) : ∀ (n i : Nat) (a : List ByteArray) (u : Nat), i + n ≤ 6 → u ≠ b → blk (wipe a b i n) u = blk a u
  | 0, _, _, _, _, _ => rfl
  | n + 1, i, a, u, h, hu => by rw [wipe, blk_wipe_ne b n (i + 1) _ u (by omega) hu, blk_set_ne _ (by omega) hu]
theorem blk_wipe_6 {a : List ByteArray} (ha : a.length = 60) {b : Nat} (hb : b < 10) : clr (blk (wipe a b 0 6) b) = (6, 6) := by
  have hl : (blk (wipe a b 0 6) b).length = 6 := blk_length (by rw [wipe_length]; omega)
  have : blk (wipe a b 0 6) b = List.replicate 6 noVal := by
    refine List.eq_replicate_iff.2 ⟨hl, fun x hx => ?_⟩
    obtain ⟨i, hi, rfl⟩ := List.getElem_of_mem hx
    rw [blk_at (by rw [wipe_length]; omega) hi, wipe_at b 6 0 a _ (by omega), if_pos (by omega)]
  rw [this]; exact clr_noval
theorem wipe_fr {a : List ByteArray} (ha : a.length = 60) {b : Nat} (hb : b < 10) : frB (wipe a b 0 6) b = true ∧ ptB (wipe a b 0 6) b = false := by
  have := blk_wipe_6 ha hb
  constructor
  · unfold frB; rw [this]; rfl
  · unfold ptB; rw [this]; rfl
theorem One_wipe {a : List ByteArray} (ha : a.length = 60) {b : Nat} (hb : b < 10) (ho : One a) : One (wipe a b 0 6) := by
  intro u v hu hv e1 e2
  have h1 : u ≠ b := by rintro rfl; rw [(wipe_fr ha hb).2] at e1; cases e1
  have h2 : v ≠ b := by rintro rfl; rw [(wipe_fr ha hb).2] at e2; cases e2
  rw [ptB_of (blk_wipe_ne b 6 0 a u (by omega) h1)] at e1
  rw [ptB_of (blk_wipe_ne b 6 0 a v (by omega) h2)] at e2
  exact ho u v hu hv e1 e2
/-- A burn keeps the map true. -/
theorem bDo_ftl {x : Wk} (h : ftlOk x.a x.w x.m x.s) {sec : Int} {d : ByteArray} (c : bOk x sec d) : ftlOk (bDo x sec d).a (bDo x sec d).w (bDo x sec d).m (bDo x sec d).s := by
  obtain ⟨h1, h2, h3⟩ := h
  obtain ⟨c1, c2, c3⟩ := c
  obtain ⟨v, g1, g2, g3, g4, _⟩ := nxt_burn (w := x.w) h1.1 c1 (eB_rec c2)
  have hb := mnt_burn (p := (nxt x.a x.w).toNat) (by rw [h1.1]; exact g3) g4 (n := sec) (d := d) (by rw [← h3]; exact c2) (by rw [← h3]; exact c3)
  rw [← h3] at hb
  refine ⟨chipOk_set h1 _ (by have := recI_size c2; omega), ?_, hb.2.symm⟩
  show x.m.set sec.toNat (nxt x.a x.w) = _
  rw [show (bDo x sec d).a = x.a.set (nxt x.a x.w).toNat (ofBytes (recI sec x.s d)) from rfl, hb.1, ← h2, show ((nxt x.a x.w).toNat : Int) = nxt x.a x.w by omega]
/-- What stands of an Ftl at work that has not failed. -/
def Jn (x : Wk) : Prop := ftlOk x.a x.w x.m x.s ∧ One x.a
theorem Jn_burn {x : Wk} (h : Jn x) {sec : Int} {d : ByteArray} (c : bOk x sec d) : Jn (bDo x sec d) ∧ ∀ b, b < 10 → Clo x.a b → Clo (bDo x sec d).a b := by
  have := One_burn (w := x.w) h.1.1.1 c.1 (eB_rec c.2.1) h.2
  exact ⟨⟨bDo_ftl h.1 c, this.1⟩, this.2⟩
theorem wst_char (a : List ByteArray) (w m : List Int) (o : Int) : ∀ (l : List Nat) (b : Int), (b = -1 ∨ ∃ v : Nat, b = (v : Int) ∧ v < 10 ∧ frB a v = false ∧ (v : Int) ≠ o) → (∀ v ∈ l, v < 10) →
    (wst a w m o l b = -1 ∧ b = -1 ∧ ∀ u ∈ l, frB a u = true ∨ (u : Int) = o) ∨ ∃ v : Nat, wst a w m o l b = (v : Int) ∧ v < 10 ∧ frB a v = false ∧ (v : Int) ≠ o ∧ (∀ u ∈ l, frB a u = false → (u : Int) ≠ o → wLen m v ≤ wLen m u) ∧ ∀ u : Nat, b = (u : Int) → wLen m v ≤ wLen m u := by
  intro l
  induction l with
  | nil =>
    intro b hb _
    rcases hb with rfl | ⟨v, rfl, h1, h2, h3⟩
    · exact .inl ⟨rfl, rfl, fun u hu => (by cases hu)⟩
    · refine .inr ⟨v, rfl, h1, h2, h3, fun u hu => (by cases hu), fun u hu => ?_⟩
      have : u = v := by omega
      rw [this]; exact Int.le_refl _
  | cons i l ih =>
    intro b hb hl
    have hi := hl i (List.mem_cons_self ..)
    have hl' : ∀ v ∈ l, v < 10 := fun v hv => hl v (List.mem_cons_of_mem _ hv)
    unfold wst
    by_cases c : wTake a w m o b i = true
    · rw [if_pos c]
      have c0 := c
      unfold wTake at c0
      simp only [Bool.and_eq_true, Bool.not_eq_true', Bool.or_eq_true, decide_eq_true_eq, beq_eq_false_iff_ne] at c0
      obtain ⟨c1, c2, c3⟩ := c0
      rcases ih (i : Int) (.inr ⟨i, rfl, hi, c1, c2⟩) hl' with ⟨_, h2, _⟩ | ⟨v, h1, h2, h3, h4, h5, h6⟩
      · omega
      · refine .inr ⟨v, h1, h2, h3, h4, fun u hu hf hno => ?_, fun u hu => ?_⟩
        · rcases List.mem_cons.1 hu with rfl | hu
          · exact h6 u rfl
          · exact h5 u hu hf hno
        · subst hu
          have := h6 i rfl
          rcases c3 with c3 | c3 | c3
          · omega
          · simp only [Int.toNat_natCast] at c3; omega
          · simp only [Int.toNat_natCast, beq_iff_eq] at c3; omega
    · rw [if_neg c]
      have key : frB a i = false → (i : Int) ≠ o → ∃ u : Nat, b = (u : Int) ∧ wLen m u ≤ wLen m i := by
        intro k1 k2
        unfold wTake at c
        simp only [Bool.and_eq_true, Bool.not_eq_true', Bool.or_eq_true, decide_eq_true_eq, beq_eq_false_iff_ne] at c
        rcases hb with rfl | ⟨v, rfl, _⟩
        · exact absurd ⟨k1, k2, .inl (by decide)⟩ c
        · refine ⟨v, rfl, ?_⟩
          simp only [Int.toNat_natCast] at c
          have : ¬ wLen m i < wLen m v := fun e => c ⟨k1, k2, .inr (.inl e)⟩
          omega
      rcases ih b hb hl' with ⟨h1, h2, h3⟩ | ⟨v, h1, h2, h3, h4, h5, h6⟩
      · refine .inl ⟨h1, h2, fun u hu => ?_⟩
        rcases List.mem_cons.1 hu with rfl | hu
        · by_cases k1 : frB a u = true
          · exact .inl k1
          · by_cases k2 : (u : Int) = o
            · exact .inr k2
            · obtain ⟨z, hz, _⟩ := key (by simpa using k1) k2
              omega
        · exact h3 u hu
      · refine .inr ⟨v, h1, h2, h3, h4, fun u hu hf hno => ?_, h6⟩
        rcases List.mem_cons.1 hu with rfl | hu
        · obtain ⟨z, hz, hz2⟩ := key hf hno
          have := h6 z hz
          omega
        · exact h5 u hu hf hno
/-- The worst block is neither free nor begun. -/
theorem worstI_clo {a : List ByteArray} {w m : List Int} (ha : a.length = 60) (ho : One a) (h : ¬ worstI a w m < 0) : ∃ b : Nat, worstI a w m = (b : Int) ∧ b < 10 ∧ Clo a b ∧ ∀ u, u < 10 → frB a u = false → (u : Int) ≠ opB (nxt a w) → wLen m b ≤ wLen m u := by
  unfold worstI at h ⊢
  split at h
  · exact absurd (by decide) h
  · rename_i c
    rw [if_neg c]
    rcases wst_char a w m (opB (nxt a w)) (List.range' 0 10) (-1) (.inl rfl) (fun v hv => by have := List.mem_range'_1.1 hv; omega) with ⟨h1, _⟩ | ⟨v, h1, h2, h3, h4, h5, _⟩
    · omega
    · refine ⟨v, h1, h2, ⟨h3, ?_⟩, fun u hu hf hno => h5 u (range10 hu) hf hno⟩
      rw [← Bool.not_eq_true]
      intro hp
      rcases nxt_char a w with ⟨_, k2⟩ | ⟨u, k1, k2, k3⟩
      · rw [(k2 v h2).1] at hp; cases hp
      · have hu : ptB a u = true := by
          rcases k3 with k3 | k3
          · exact k3
          · rw [k3.2.1 v h2] at hp; cases hp
        have e := ho u v k1 h2 hu hp
        subst e
        have hz := of_decide_eq_true hp
        refine h4 ?_
        unfold opB
        rw [k2]
        unfold ptP
        rw [if_neg (by omega), if_neg (by omega)]
        omega

theorem impl_in_eq (n lo hi : Int) : impl.in_.f n lo hi = some (decide (lo ≤ n ∧ n ≤ hi)) := by
  unfold impl.in_.f
  by_cases c : n ≥ lo
  · refine br_d c ?_
    by_cases d : n ≤ hi
    · rw [decide_eq_true d, decide_eq_true ⟨c, d⟩]
    · rw [decide_eq_false d, decide_eq_false (fun h => d h.2)]
  · refine br_n c ?_
    rw [decide_eq_false (fun h => c h.1)]

theorem impl_longPage_l0 (a : List ByteArray) (hl : a.length ≤ 1000000) : ∀ (f i : Nat), a.length < i + f → i ≤ a.length →
    ∃ r, slices.IndexFunc_string_string.l0.f a f (i : Int) = some r ∧ ((allF (fun i => (a.getD i noVal).size ≤ 800) i a.length ∧ r = .inr ()) ∨ (¬ allF (fun i => (a.getD i noVal).size ≤ 800) i a.length ∧ ∃ j : Nat, r = .inl (j : Int))) := by
  intro f
  induction f with
  | zero => intro i h hi; omega
  | succ f ih =>
    intro i h hi
    rw [slices.IndexFunc_string_string.l0.f]
    by_cases c : i < a.length
    · have e1 : w64 ((i : Int) + 1) = ((i + 1 : Nat) : Int) := wsucc (by omega)
      simp only [Int.toNat_natCast, e1]
      by_cases d : (a.getD i noVal).size ≤ 800
      · obtain ⟨r, h1, h2⟩ := ih (i + 1) (by omega) (by omega)
        refine ⟨r, br_d (by omega) (ck_t (by omega) (bind_t rfl (br_n (by omega) h1))), ?_⟩
        rcases h2 with ⟨g, e⟩ | ⟨g, e⟩
        · exact .inl ⟨(allF_step c).2 ⟨d, g⟩, e⟩
        · exact .inr ⟨fun q => g ((allF_step c).1 q).2, e⟩
      · exact ⟨_, br_d (by omega) (ck_t (by omega) (bind_t rfl (br_d (by omega) rfl))), .inr ⟨fun g => d ((allF_step c).1 g).1, i, rfl⟩⟩
    · exact ⟨_, br_n (by omega) rfl, .inl ⟨allF_end (by omega), rfl⟩⟩
theorem impl_longPage_eq (K : Nat) (hK : 10000000000000 ≤ K) (a : List ByteArray) (hl : a.length ≤ 1000000) : slices.ContainsFunc_string_string.f K a = some (!decide (allF (fun i => (a.getD i noVal).size ≤ 800) 0 a.length)) := by
  unfold slices.ContainsFunc_string_string.f slices.IndexFunc_string_string.f
  obtain ⟨r, h1, h2⟩ := impl_longPage_l0 a hl K 0 (by omega) (by omega)
  rcases h2 with ⟨g, rfl⟩ | ⟨g, j, rfl⟩
  · refine bind_t (bind_t h1 rfl) ?_
    rw [decide_eq_true g]; rfl
  · refine bind_t (bind_t h1 rfl) ?_
    rw [decide_eq_false g]; rfl
theorem impl_badWear (n : Int) : impl.ChipOk_2.f n = some (!decide (0 ≤ n ∧ n ≤ 1000000000)) := by
  unfold impl.ChipOk_2.f
  exact bind_t (impl_in_eq n 0 1000000000) rfl
theorem impl_badWears_l0 (a : List Int) (hl : a.length ≤ 1000000) : ∀ (f i : Nat), a.length < i + f → i ≤ a.length →
    ∃ r, slices.IndexFunc_int_int.l0.f a f (i : Int) = some r ∧ ((allF (fun i => 0 ≤ a.getD i 0 ∧ a.getD i 0 ≤ 1000000000) i a.length ∧ r = .inr ()) ∨ (¬ allF (fun i => 0 ≤ a.getD i 0 ∧ a.getD i 0 ≤ 1000000000) i a.length ∧ ∃ j : Nat, r = .inl (j : Int))) := by
  intro f
  induction f with
  | zero => intro i h hi; omega
  | succ f ih =>
    intro i h hi
    rw [slices.IndexFunc_int_int.l0.f]
    by_cases c : i < a.length
    · have e1 : w64 ((i : Int) + 1) = ((i + 1 : Nat) : Int) := wsucc (by omega)
      simp only [Int.toNat_natCast, e1]
      by_cases d : 0 ≤ a.getD i 0 ∧ a.getD i 0 ≤ 1000000000
      · obtain ⟨r, h1, h2⟩ := ih (i + 1) (by omega) (by omega)
        refine ⟨r, br_d (by omega) (ck_t (by omega) (bind_t (impl_badWear _) (br_f (by rw [decide_eq_true d]; rfl) h1))), ?_⟩
        rcases h2 with ⟨g, e⟩ | ⟨g, e⟩
        · exact .inl ⟨(allF_step c).2 ⟨d, g⟩, e⟩
        · exact .inr ⟨fun q => g ((allF_step c).1 q).2, e⟩
      · exact ⟨_, br_d (by omega) (ck_t (by omega) (bind_t (impl_badWear _) (br_t (by rw [decide_eq_false d]; rfl) rfl))), .inr ⟨fun g => d ((allF_step c).1 g).1, i, rfl⟩⟩
    · exact ⟨_, br_n (by omega) rfl, .inl ⟨allF_end (by omega), rfl⟩⟩
theorem impl_badWears_eq (K : Nat) (hK : 10000000000000 ≤ K) (a : List Int) (hl : a.length ≤ 1000000) : slices.ContainsFunc_int_int.f K a = some (!decide (allF (fun i => 0 ≤ a.getD i 0 ∧ a.getD i 0 ≤ 1000000000) 0 a.length)) := by
  unfold slices.ContainsFunc_int_int.f slices.IndexFunc_int_int.f
  obtain ⟨r, h1, h2⟩ := impl_badWears_l0 a hl K 0 (by omega) (by omega)
  rcases h2 with ⟨g, rfl⟩ | ⟨g, j, rfl⟩
  · refine bind_t (bind_t h1 rfl) ?_
    rw [decide_eq_true g]; rfl
  · refine bind_t (bind_t h1 rfl) ?_
    rw [decide_eq_false g]; rfl
theorem impl_ChipOk_eq (K : Nat) (hK : 10000000000000 ≤ K) (a : List ByteArray) (w : List Int) : impl.ChipOk.f K a w = some (decide (chipOk a w)) := by
  unfold impl.ChipOk.f
  by_cases c1 : a.length = 60
  case neg =>
    rw [decide_eq_false (p := chipOk a w) (fun g => c1 g.1)]
    exact br_f (beq_eq_false_iff_ne.2 (by omega)) rfl
  refine br_t (by simp [c1]) ?_
  by_cases c2 : w.length = 10
  case neg =>
    rw [decide_eq_false (p := chipOk a w) (fun g => c2 g.2.1)]
    exact br_f (beq_eq_false_iff_ne.2 (by omega)) rfl
  refine br_t (by simp [c2]) (bind_t (impl_longPage_eq K hK a (by omega)) ?_)
  by_cases c3 : allF (fun i => (a.getD i noVal).size ≤ 800) 0 a.length
  case neg =>
    rw [decide_eq_false (p := chipOk a w) (fun g => c3 g.2.2.1), decide_eq_false c3]; rfl
  rw [decide_eq_true c3]
  refine br_f rfl (bind_t (impl_badWears_eq K hK w (by omega)) ?_)
  by_cases c4 : allF (fun i => 0 ≤ w.getD i 0 ∧ w.getD i 0 ≤ 1000000000) 0 w.length
  · rw [decide_eq_true (p := chipOk a w) ⟨c1, c2, c3, c4⟩, decide_eq_true c4]; rfl
  · rw [decide_eq_false (p := chipOk a w) (fun g => c4 g.2.2.2), decide_eq_false c4]; rfl

theorem impl_cloneChip_eq (a : List ByteArray) (w : List Int) (h : chipOk a w) : impl.cloneChip.f a w = some (a, w) := by
  unfold impl.cloneChip.f slices.Clone_string_string.f slices.Clone_int_int.f
  have h1 := h.1
  have h2 := h.2.1
  exact bind_t (ck_t (by omega) rfl) (bind_t (ck_t (by omega) rfl) rfl)

theorem impl_GetNum_l0 (b : List Int) (hb : Bytes b) (hl : b.length ≤ 1000000000000) (a : Nat) (ha : a ≤ b.length) : ∀ (f k q : Nat) (n : Int), f + k = 5 → f < q → 0 ≤ n → n < 128 ^ k →
    ∃ x, impl.GetNum.l0.f b (a : Int) q n (k : Int) = some x ∧ numOut x = getR (a : Int) (getF f k n (b.drop (a + k))) := by
  intro f
  induction f with
  | zero =>
    intro k q n hk hq h0 h1
    obtain ⟨q, rfl⟩ := Nat.exists_eq_add_one_of_ne_zero (by omega : q ≠ 0)
    refine ⟨.inr (), ?_, rfl⟩
    rw [impl.GetNum.l0.f]
    exact br_n (by omega) rfl
  | succ f ih =>
    intro k q n hk hq h0 h1
    obtain ⟨q, rfl⟩ := Nat.exists_eq_add_one_of_ne_zero (by omega : q ≠ 0)
    rw [impl.GetNum.l0.f]
    have e1 : w64 ((a : Int) + k) = ((a + k : Nat) : Int) := by rw [w64_id (by omega) (by omega)]; omega
    by_cases h : a + k < b.length
    · have hv := hb.at_ h
      have hp : (0 : Int) < 128 ^ k := Int.pow_pos (by decide)
      have hp4 : (128 : Int) ^ k ≤ 128 ^ 4 := by
        have : (128 : Nat) ^ k ≤ 128 ^ 4 := Nat.pow_le_pow_right (by decide) (by omega)
        exact_mod_cast this
      have hm : b[a + k] % 128 * 128 ^ k ≤ 127 * 128 ^ k := Int.mul_le_mul_of_nonneg_right (by omega) (by omega)
      have hm0 : 0 ≤ b[a + k] % 128 * 128 ^ k := Int.mul_nonneg (by omega) (by omega)
      rw [List.drop_eq_getElem_cons h]
      have e3 : w64 (7 * (k : Int)) = 7 * (k : Int) := w64_id (by omega) (by omega)
      have e4 : b.getD (a + k) 0 = b[a + k] := getD_at h 0
      have e5 : w64 b[a + k] = b[a + k] := w64_id (by omega) (by omega)
      have e6 : bits2 .i64 (· &&& ·) b[a + k] 127 = b[a + k] % 128 := and127 (by omega) (by omega)
      have e7 := or_shl k (by omega) h0 h1 (d := b[a + k] % 128) (by omega) (by omega)
      have e8 : w64 (((a + k : Nat) : Int) + 1) = (a : Int) + ((k : Int) + 1) := by rw [w64_id (by omega) (by omega)]; omega
      have e9 : w64 ((k : Int) + 1) = ((k + 1 : Nat) : Int) := wsucc (by omega)
      simp only [e1, e3, Int.toNat_natCast, e4, e5, e6, e7, e8, e9]
      unfold getF
      by_cases c : b[a + k] ≥ 128
      · rw [if_pos c]
        have hlt : n + b[a + k] % 128 * 128 ^ k < 128 ^ (k + 1) := by
          rw [Int.pow_succ]
          omega
        obtain ⟨x, hx, hr⟩ := ih (k + 1) q (n + b[a + k] % 128 * 128 ^ k) (by omega) (by omega) (by omega) hlt
        exact ⟨x, br_d (by omega) (br_d (by omega) (ck_t (by omega) (ck_t (by omega) (br_d (by omega) hx)))), hr⟩
      · rw [if_neg c]
        by_cases c0 : b[a + k] = 0 ∧ k > 0
        · rw [if_pos c0]
          exact ⟨.inl (0, 0, false), br_d (by omega) (br_d (by omega) (ck_t (by omega) (ck_t (by omega) (br_n (by omega) (br_t (by rw [c0.1]; rfl) (br_d (by omega) rfl)))))), rfl⟩
        · rw [if_neg c0]
          by_cases cz : b[a + k] = 0
          · have ck0 : ¬ ((k : Int) > 0) := fun h => c0 ⟨cz, by omega⟩
            by_cases cm : n + b[a + k] % 128 * 128 ^ k > 1000000000
            · rw [if_pos cm]
              exact ⟨.inl (0, 0, false), br_d (by omega) (br_d (by omega) (ck_t (by omega) (ck_t (by omega) (br_n (by omega) (br_t (by rw [cz]; rfl) (br_n ck0 (br_d cm rfl))))))), rfl⟩
            · rw [if_neg cm]
              exact ⟨.inl (_, _, true), br_d (by omega) (br_d (by omega) (ck_t (by omega) (ck_t (by omega) (br_n (by omega) (br_t (by rw [cz]; rfl) (br_n ck0 (br_n cm rfl))))))), rfl⟩
          · by_cases cm : n + b[a + k] % 128 * 128 ^ k > 1000000000
            · rw [if_pos cm]
              exact ⟨.inl (0, 0, false), br_d (by omega) (br_d (by omega) (ck_t (by omega) (ck_t (by omega) (br_n (by omega) (br_f (beq_eq_false_iff_ne.2 cz) (br_d cm rfl)))))), rfl⟩
            · rw [if_neg cm]
              exact ⟨.inl (_, _, true), br_d (by omega) (br_d (by omega) (ck_t (by omega) (ck_t (by omega) (br_n (by omega) (br_f (beq_eq_false_iff_ne.2 cz) (br_n cm rfl)))))), rfl⟩
    · rw [List.drop_of_length_le (by omega)]
      simp only [e1]
      exact ⟨.inr (), br_d (by omega) (br_n (by omega) rfl), rfl⟩
theorem impl_GetNum_eq (K : Nat) (hK : 10000000000000 ≤ K) (b : List Int) (at_ : Int) (hb : Bytes b) (hl : b.length ≤ 1000000000000) (ha : at_ < 9223372036854775808) (ha0 : -9223372036854775808 ≤ at_) : impl.GetNum.f K b at_ = some (getI b at_) := by
  unfold impl.GetNum.f
  refine bind_t (impl_in_eq at_ 0 (b.length : Int)) ?_
  by_cases c : 0 ≤ at_ ∧ at_ ≤ b.length
  · refine br_d c ?_
    obtain ⟨a, rfl⟩ := Int.eq_ofNat_of_zero_le c.1
    obtain ⟨x, h1, h2⟩ := impl_GetNum_l0 b hb hl a (by omega) 5 0 K 0 rfl (by omega) (by decide) (by decide)
    refine bind_t h1 ?_
    rw [getI_at]
    rw [show a + 0 = a from rfl] at h2
    rw [← h2]
    cases x <;> rfl
  · refine br_n c ?_
    by_cases c0 : at_ < 0
    · unfold getI; rw [if_pos c0]
    · obtain ⟨a, rfl⟩ := Int.eq_ofNat_of_zero_le (by omega : 0 ≤ at_)
      rw [getI_at, List.drop_of_length_le (by omega)]; rfl

theorem impl_GetText_eq (K : Nat) (hK : 10000000000000 ≤ K) (b : List Int) (at_ : Int) (hb : Bytes b) (hl : b.length ≤ 1000000000000) (ha : at_ < 9223372036854775808) (ha0 : -9223372036854775808 ≤ at_) : impl.GetText.f K b at_ = some (gettI b at_) := by
  unfold impl.GetText.f
  refine bind_t (impl_GetNum_eq K hK b at_ hb hl ha ha0) ?_
  unfold gettI
  by_cases h : (getI b at_).2.2 = true
  · obtain ⟨g1, g2, g3, g4, g5⟩ := getI_ok hb h
    have e1 : w64 ((b.length : Int) - (getI b at_).2.1) = (b.length : Int) - (getI b at_).2.1 := w64_id (by omega) (by omega)
    have e2 : w64 ((getI b at_).2.1 + (getI b at_).1) = (getI b at_).2.1 + (getI b at_).1 := w64_id (by omega) (by omega)
    have e3 : ((getI b at_).2.1 + (getI b at_).1).toNat - (getI b at_).2.1.toNat = (getI b at_).1.toNat := by omega
    simp only [e1, e2, e3]
    refine br_t h ?_
    by_cases c1 : (getI b at_).1 > 400
    · rw [if_neg (by omega)]
      exact br_d c1 rfl
    · refine br_n c1 ?_
      by_cases c2 : (getI b at_).1 > (b.length : Int) - (getI b at_).2.1
      · rw [if_neg (by omega)]
        exact br_d c2 rfl
      · rw [if_pos ⟨h, by omega, by omega⟩]
        exact br_n c2 (ck_t (by omega) (ck_t (by omega) (ck_t (by omega) (ck_t (by omega) rfl))))
  · rw [if_neg (fun hh => h hh.1)]
    exact br_f (by simpa using h) rfl

/-! sums -/
theorem impl_Sum_l0 (b : List Int) (hb : Bytes b) (hl : b.length ≤ 1000000000000) : ∀ (f i : Nat) (n : Int), b.length < i + f → i ≤ b.length → 0 ≤ n → n < 1000003 → impl.Sum.l0.f b f n (i : Int) = some (sumF n (b.drop i)) := by
  intro f
  induction f with
  | zero => intro i n h hi; omega
  | succ f ih =>
    intro i n h hi h0 h1
    rw [impl.Sum.l0.f]
    by_cases c : i < b.length
    · have hv := hb.at_ c
      have e1 : w64 ((i : Int) + 1) = ((i + 1 : Nat) : Int) := wsucc (by omega)
      have e2 : w64 (31 * n) = 31 * n := w64_id (by omega) (by omega)
      have e3 : w64 b[i] = b[i] := w64_id (by omega) (by omega)
      have e4 : w64 (31 * n + b[i]) = 31 * n + b[i] := w64_id (by omega) (by omega)
      have e5 : (31 * n + b[i]).tmod 1000003 = (31 * n + b[i]) % 1000003 := Int.tmod_eq_emod_of_nonneg (by omega)
      simp only [Int.toNat_natCast, getD_at c, e1, e2, e3, e4, e5]
      rw [List.drop_eq_getElem_cons c, sumF_cons]
      exact br_d (by omega) (ck_t (by omega) (ih (i + 1) _ (by omega) (by omega) (by omega) (by omega)))
    · rw [List.drop_of_length_le (by omega)]
      exact br_n (by omega) rfl
theorem impl_Sum_eq (K : Nat) (hK : 10000000000000 ≤ K) (b : List Int) (hb : Bytes b) (hl : b.length ≤ 1000000000000) : impl.Sum.f K b = some (sumF 7 b) := by
  unfold impl.Sum.f
  exact bind_t (impl_Sum_l0 b hb hl K 0 7 (by omega) (by omega) (by omega) (by omega)) rfl

theorem impl_isSector_eq (n : Int) : impl.isSector.f n = some (decide (0 ≤ n ∧ n ≤ 25)) := by
  unfold impl.isSector.f
  exact bind_t (impl_in_eq n 0 25) rfl
theorem impl_RecOk_eq (n q : Int) (d : ByteArray) : impl.RecOk.f n q d = some (decide (recOk n q d)) := by
  unfold impl.RecOk.f
  refine bind_t (impl_isSector_eq n) ?_
  by_cases c : 0 ≤ n ∧ n ≤ 25
  · refine br_d c (bind_t (impl_in_eq q 1 1000000000) ?_)
    by_cases c2 : 1 ≤ q ∧ q ≤ 1000000000
    · refine br_d c2 ?_
      congr 1
      exact decide_eq_decide.2 ⟨fun h => ⟨c.1, c.2, c2.1, c2.2, by omega⟩, fun h => by have := h.2.2.2.2; omega⟩
    · exact br_n c2 (by rw [decide_eq_false (fun h => c2 ⟨h.2.2.1, h.2.2.2.1⟩)])
  · exact br_n c (by rw [decide_eq_false (fun h => c ⟨h.1, h.2.1⟩)])

def numR (b : List Int) (at_ : Int) (bad : Bool) : Int × Int × Bool := if bad then (0, at_, true) else if (getI b at_).2.2 then ((getI b at_).1, (getI b at_).2.1, false) else (0, at_, true)
def textR (b : List Int) (at_ : Int) (bad : Bool) : ByteArray × Int × Bool := if bad then (noVal, at_, true) else if (gettI b at_).2.2 then ((gettI b at_).1, (gettI b at_).2.1, false) else (noVal, at_, true)
theorem gettI_small {b : List Int} {a : Int} (hb : Bytes b) (ha : 0 ≤ a) (h : (gettI b a).2.2 = true) : a < (gettI b a).2.1 ∧ (gettI b a).2.1 ≤ b.length := by
  obtain ⟨a, rfl⟩ := Int.eq_ofNat_of_zero_le ha
  obtain ⟨d, r, h1, h2, h3⟩ := gettI_inv hb h
  rw [h3]
  have h4 := congrArg List.length h2
  have h5 := putI_pos (n := d.size) (by omega) (by omega)
  have h6 : (puttI d).length = (putI d.size).length + d.size := by rw [puttI, List.length_append, bytesL_len]
  rw [List.length_drop, List.length_append] at h4
  simp only
  omega
theorem numR_small {b : List Int} {a : Int} (bad : Bool) (hb : Bytes b) (h0 : 0 ≤ a) (h1 : a ≤ b.length) : 0 ≤ (numR b a bad).2.1 ∧ (numR b a bad).2.1 ≤ b.length := by
  unfold numR
  split
  · exact ⟨h0, h1⟩
  · split
    · rename_i h; have := getI_ok hb h; simp only; omega
    · exact ⟨h0, h1⟩
theorem textR_small {b : List Int} {a : Int} (bad : Bool) (hb : Bytes b) (h0 : 0 ≤ a) (h1 : a ≤ b.length) : 0 ≤ (textR b a bad).2.1 ∧ (textR b a bad).2.1 ≤ b.length := by
  unfold textR
  split
  · exact ⟨h0, h1⟩
  · split
    · rename_i h; have := gettI_small hb h0 h; simp only; omega
    · exact ⟨h0, h1⟩
theorem impl_number_eq (K : Nat) (hK : 10000000000000 ≤ K) (b : List Int) (at_ : Int) (bad : Bool) (hb : Bytes b) (hl : b.length ≤ 1000000000000) (h0 : 0 ≤ at_) (h1 : at_ ≤ b.length) : impl.reader.number.f K b at_ bad = some (numR b at_ bad) := by
  unfold impl.reader.number.f numR
  refine bind_t (impl_GetNum_eq K hK b at_ hb hl (by omega) (by omega)) ?_
  cases bad with
  | true => rfl
  | false =>
    cases h : (getI b at_).2.2 <;> simp
theorem impl_text_eq (K : Nat) (hK : 10000000000000 ≤ K) (b : List Int) (at_ : Int) (bad : Bool) (hb : Bytes b) (hl : b.length ≤ 1000000000000) (h0 : 0 ≤ at_) (h1 : at_ ≤ b.length) : impl.reader.text.f K b at_ bad = some (textR b at_ bad) := by
  unfold impl.reader.text.f textR
  refine bind_t (impl_GetText_eq K hK b at_ hb hl (by omega) (by omega)) ?_
  cases bad with
  | true => rfl
  | false =>
    cases h : (gettI b at_).2.2 <;> simp
theorem impl_done_eq (b : List Int) (at_ : Int) (bad : Bool) : impl.reader.done.f b at_ bad = some (!bad && at_ == (b.length : Int)) := by
  unfold impl.reader.done.f
  cases bad <;> rfl
/-- A reader behind a sum. -/
def sumR (b : List Int) : Int × Bool := if (getI b 0).2.2 then ((getI b 0).2.1, (getI b 0).1 != sumF 7 (b.drop (getI b 0).2.1.toNat)) else (0, true)
theorem sumR_small {b : List Int} (hb : Bytes b) : 0 ≤ (sumR b).1 ∧ (sumR b).1 ≤ b.length := by
  unfold sumR
  split
  · rename_i h; have := getI_ok hb h; simp only; omega
  · simp
theorem impl_unsummed_eq (K : Nat) (hK : 10000000000000 ≤ K) (s : ByteArray) (hs : s.size ≤ 1000000000000) : impl.unsummed.f K s = some (sumR (bytesL s)) := by
  have hb := bytesL_ok s
  have hl : (bytesL s).length ≤ 1000000000000 := by rw [bytesL_len]; exact hs
  unfold impl.unsummed.f sumR
  refine bind_t (impl_number_eq K hK _ 0 false hb hl (by omega) (by omega)) ?_
  by_cases c : (getI (bytesL s) 0).2.2 = true
  · have hn : numR (bytesL s) 0 false = ((getI (bytesL s) 0).1, (getI (bytesL s) 0).2.1, false) := by unfold numR; simp [c]
    obtain ⟨g1, g2, g3, g4, g5⟩ := getI_ok hb c
    rw [hn, if_pos c]
    have ht : (((bytesL s).drop (getI (bytesL s) 0).2.1.toNat).take ((bytesL s).length - (getI (bytesL s) 0).2.1.toNat)) = (bytesL s).drop (getI (bytesL s) 0).2.1.toNat := List.take_of_length_le (by simp)
    simp only [ht]
    refine br_f rfl (ck_t (by omega) (ck_t (by omega) (bind_t (impl_Sum_eq K hK _ (hb.drop _) (by rw [List.length_drop]; omega)) (ck_t (by omega) rfl))))
  · have hn : numR (bytesL s) 0 false = (0, 0, true) := by unfold numR; simp [c]
    rw [hn, if_neg c]
    exact br_t rfl rfl
theorem numR_no {b : List Int} {a : Int} (h : ¬ (getI b a).2.2 = true) : numR b a false = (0, a, true) := by
  unfold numR
  rw [if_neg (by decide), if_neg h]
theorem textR_no {b : List Int} {a : Int} (h : ¬ (gettI b a).2.2 = true) : textR b a false = (noVal, a, true) := by
  unfold textR
  rw [if_neg (by decide), if_neg h]

theorem impl_RecRead_eq (K : Nat) (hK : 10000000000000 ≤ K) (s : ByteArray) (hs : s.size ≤ 1000000000000) : impl.RecRead.f K s = some (recR (bytesL s)) := by
  have hb := bytesL_ok s
  have hl : (bytesL s).length ≤ 1000000000000 := by rw [bytesL_len]; exact hs
  unfold impl.RecRead.f
  generalize hB : bytesL s = b at hb hl
  have u1 := sumR_small hb
  have u2 := numR_small (sumR b).2 hb u1.1 u1.2
  have u3 := numR_small (numR b (sumR b).1 (sumR b).2).2.2 hb u2.1 u2.2
  refine bind_t (by rw [impl_unsummed_eq K hK s hs, hB]) (bind_t (impl_number_eq K hK b _ _ hb hl u1.1 u1.2) (bind_t (impl_number_eq K hK b _ _ hb hl u2.1 u2.2) (bind_t (impl_text_eq K hK b _ _ hb hl u3.1 u3.2) (bind_t (impl_done_eq b _ _) ?_))))
  -- what the law says of the bytes
  by_cases hx : ∃ n q d, recOk n q d ∧ b = recI n q d
  · obtain ⟨n, q, d, h1, h2⟩ := hx
    obtain ⟨a1, a2, a3, f0, fa, f1, f2, f3⟩ := recI_gets h1 []
    rw [List.append_nil, ← h2] at f0 f1 f2 f3
    have hsum : sumR b = ((a1 : Int), false) := by
      unfold sumR
      rw [f0]
      simp only [if_true, Int.toNat_natCast]
      rw [fa, h2, recI_drop1]
      simp
    have n2 : numR b a1 false = (n, (a2 : Int), false) := by unfold numR; rw [f1]; simp
    have n3 : numR b a2 false = (q, (a3 : Int), false) := by unfold numR; rw [f2]; simp
    have n4 : textR b a3 false = (d, (b.length : Int), false) := by unfold textR; rw [f3]; simp
    rw [hsum]
    simp only [n2, n3, n4]
    refine br_t (by simp) (bind_t (impl_RecOk_eq n q d) (br_d h1 ?_))
    rw [h2, recR_of h1]
  · have hr : recR b = (0, 0, noVal, false) := by
      rcases recR_cases b with ⟨n, q, d, h1, h2, _⟩ | h
      · exact absurd ⟨n, q, d, h1, h2⟩ hx
      · exact h.1
    rw [hr]
    by_cases c0 : (getI b 0).2.2 = true ∧ (getI b 0).1 = sumF 7 (b.drop (getI b 0).2.1.toNat)
    case neg =>
      have hs2 : (sumR b).2 = true := by
        unfold sumR
        by_cases c : (getI b 0).2.2 = true
        · rw [if_pos c]; simp; exact fun h => c0 ⟨c, h⟩
        · rw [if_neg c]
      have b2 : (numR b (sumR b).1 (sumR b).2).2.2 = true := by unfold numR; rw [hs2]; rfl
      have b3 : (numR b (numR b (sumR b).1 (sumR b).2).2.1 (numR b (sumR b).1 (sumR b).2).2.2).2.2 = true := by rw [b2]; rfl
      have b4 : (textR b (numR b (numR b (sumR b).1 (sumR b).2).2.1 (numR b (sumR b).1 (sumR b).2).2.2).2.1 (numR b (numR b (sumR b).1 (sumR b).2).2.1 (numR b (sumR b).1 (sumR b).2).2.2).2.2).2.2 = true := by rw [b3]; rfl
      exact br_f (by rw [b4]; rfl) rfl
    obtain ⟨sm, r1, s1, s2, s3, s4⟩ := getI_inv (a := 0) hb c0.1
    have hsum : sumR b = (((putI sm).length : Int), false) := by
      unfold sumR
      rw [if_pos c0.1]
      have e := c0.2
      have s4' : getI b 0 = (sm, ((putI sm).length : Int), true) := by simpa using s4
      rw [s4'] at e ⊢
      simp only at e ⊢
      rw [← e]; simp
    have s3' : b.drop (putI sm).length = r1 := by
      have : b = putI sm ++ r1 := by simpa using s3
      rw [this, List.drop_left]
    rw [hsum]
    by_cases c1 : (getI b ((putI sm).length : Int)).2.2 = true
    case neg =>
      have b2 : (numR b ((putI sm).length : Int) false) = (0, ((putI sm).length : Int), true) := numR_no c1
      simp only [b2]
      exact br_f (by simp [numR, textR]) rfl
    obtain ⟨n, r2, n1, n2, n3, n4⟩ := getI_inv hb c1
    have m1 : numR b ((putI sm).length : Int) false = (n, ((putI sm).length : Int) + (putI n).length, false) := by unfold numR; rw [n4]; simp
    simp only [m1]
    rw [← Int.natCast_add]
    by_cases c2 : (getI b (((putI sm).length + (putI n).length : Nat) : Int)).2.2 = true
    case neg =>
      have b2 : (numR b (((putI sm).length + (putI n).length : Nat) : Int) false) = (0, (((putI sm).length + (putI n).length : Nat) : Int), true) := numR_no c2
      simp only [b2]
      exact br_f (by simp [numR, textR]) rfl
    obtain ⟨q, r3, q1, q2, q3, q4⟩ := getI_inv hb c2
    have m2 : numR b (((putI sm).length + (putI n).length : Nat) : Int) false = (q, (((putI sm).length + (putI n).length : Nat) : Int) + (putI q).length, false) := by unfold numR; rw [q4]; simp
    simp only [m2]
    rw [← Int.natCast_add]
    by_cases c3 : (gettI b (((putI sm).length + (putI n).length + (putI q).length : Nat) : Int)).2.2 = true
    case neg =>
      have b2 : (textR b (((putI sm).length + (putI n).length + (putI q).length : Nat) : Int) false) = (noVal, (((putI sm).length + (putI n).length + (putI q).length : Nat) : Int), true) := textR_no c3
      simp only [b2]
      exact br_f (by simp) rfl
    obtain ⟨d, r4, d1, d2, d3⟩ := gettI_inv hb c3
    have m3 : textR b (((putI sm).length + (putI n).length + (putI q).length : Nat) : Int) false = (d, (((putI sm).length + (putI n).length + (putI q).length : Nat) : Int) + (puttI d).length, false) := by unfold textR; rw [d3]; simp
    simp only [m3]
    have hfull : b = putI sm ++ (putI n ++ (putI q ++ (puttI d ++ r4))) := by
      have e0 : b = putI sm ++ r1 := by simpa using s3
      have e1 : r1 = putI n ++ r2 := by rw [← s3', n3]
      have e2 : r2 = putI q ++ r3 := by
        have := q3
        rw [← List.drop_drop, n3, List.drop_left] at this
        exact this
      have e3 : r3 = puttI d ++ r4 := by
        have := d2
        rw [← List.drop_drop, q3, List.drop_left] at this
        exact this
      rw [← e3, ← e2, ← e1]; exact e0
    by_cases c4 : (((putI sm).length + (putI n).length + (putI q).length : Nat) : Int) + (puttI d).length = (b.length : Int)
    case neg => exact br_f (by simp only [Bool.not_false, Bool.true_and]; exact beq_eq_false_iff_ne.2 c4) rfl
    refine br_t (by simp only [Bool.not_false, Bool.true_and]; exact beq_iff_eq.2 c4) (bind_t (impl_RecOk_eq n q d) ?_)
    by_cases c5 : recOk n q d
    case neg => exact br_n c5 rfl
    exfalso
    have hlen := congrArg List.length hfull
    simp only [List.length_append] at hlen
    have hr4 : r4 = [] := List.eq_nil_of_length_eq_zero (by omega)
    have hb2 : b = putI sm ++ recB n q d := by rw [hfull, hr4]; simp [recB]
    refine hx ⟨n, q, d, c5, ?_⟩
    have e := c0.2
    have s4' : getI b 0 = (sm, ((putI sm).length : Int), true) := by simpa using s4
    rw [s4'] at e
    simp only [Int.toNat_natCast] at e
    rw [hb2, List.drop_left] at e
    rw [hb2, e]; rfl

theorem impl_PutNum_l0 : ∀ (f q n : Nat) (acc : List Int), n < 128 ^ (f + 1) → f ≤ 4 → f < q → acc.length + f ≤ 1000 →
    ∃ m a', impl.PutNum.l0.f q (n : Int) acc = some (m, a') ∧ a' ++ [IntKind.u8.wrap m] = acc ++ putF f n ∧ a'.length ≤ acc.length + f := by
  intro f
  induction f with
  | zero =>
    intro q n acc hn _ hq ha
    obtain ⟨q, rfl⟩ := Nat.exists_eq_add_one_of_ne_zero (by omega : q ≠ 0)
    have hn : n < 128 := hn
    refine ⟨n, acc, ?_, ?_, by omega⟩
    · rw [impl.PutNum.l0.f]; exact br_n (by omega) rfl
    · rw [wrap_u8 (by omega) (by omega)]; rfl
  | succ f ih =>
    intro q n acc hn hf hq ha
    obtain ⟨q, rfl⟩ := Nat.exists_eq_add_one_of_ne_zero (by omega : q ≠ 0)
    have hp : 128 ^ (f + 1 + 1) ≤ 128 ^ 5 := Nat.pow_le_pow_right (by decide) (by omega)
    rw [impl.PutNum.l0.f]
    by_cases c : n > 127
    · have e1 : bits2 .i64 (· &&& ·) (n : Int) 127 = ((n % 128 : Nat) : Int) := by rw [and127 (by omega) (by omega)]; omega
      have e2 : (n : Int).fdiv (2 ^ 7) = ((n / 128 : Nat) : Int) := by rw [Int.fdiv_eq_ediv_of_nonneg _ (by decide)]; rfl
      have e3 : bits2 .i64 (· ||| ·) ((n % 128 : Nat) : Int) 128 = ((n % 128 + 128 : Nat) : Int) := by rw [or128 (by omega) (by omega)]; omega
      have e5 : IntKind.u8.wrap ((n % 128 + 128 : Nat) : Int) = ((n % 128 + 128 : Nat) : Int) := wrap_u8 (by omega) (by omega)
      simp only [e1, e2, e3, e5]
      obtain ⟨m, a', h1, h2, h3⟩ := ih q (n / 128) (acc ++ [((n % 128 + 128 : Nat) : Int)]) (Nat.div_lt_of_lt_mul (by rw [Nat.pow_succ, Nat.mul_comm] at hn; exact hn)) (by omega) (by omega) (by simp; omega)
      refine ⟨m, a', br_d (by omega) (ck_t (by simp; omega) h1), ?_, by simp at h3; omega⟩
      rw [h2, putF, if_pos c, List.append_assoc]; rfl
    · refine ⟨n, acc, br_n (by omega) rfl, ?_, by omega⟩
      rw [wrap_u8 (by omega) (by omega), putF, if_neg c]
theorem impl_PutNum_eq (K : Nat) (hK : 10000000000000 ≤ K) (n : Int) : impl.PutNum.f K n = some (putI n) := by
  unfold impl.PutNum.f putI
  refine bind_t (impl_in_eq n 0 1000000000) ?_
  by_cases c : 0 ≤ n ∧ n ≤ 1000000000
  · rw [if_pos c]
    obtain ⟨m, rfl⟩ := Int.eq_ofNat_of_zero_le c.1
    obtain ⟨x, a', h1, h2, h3⟩ := impl_PutNum_l0 4 K m [] (by omega) (by omega) (by omega) (by simp)
    refine br_d c (bind_t h1 (ck_t (by simp at h3 ⊢; omega) ?_))
    rw [h2]; rfl
  · rw [if_neg c]
    exact br_n c rfl

theorem impl_PutText_eq (K : Nat) (hK : 10000000000000 ≤ K) (s : ByteArray) : impl.PutText.f K s = some (if s.size ≤ 400 then putI s.size ++ bytesL s else []) := by
  unfold impl.PutText.f
  by_cases c : s.size ≤ 400
  · rw [if_pos c]
    refine br_n (by omega) (bind_t (impl_PutNum_eq K hK _) (ck_t ?_ rfl))
    have := putI_length s.size
    rw [List.length_append, bytesL_len]
    omega
  · rw [if_neg c]
    exact br_d (by omega) rfl

theorem impl_Grow_eq (n : Int) (h0 : 0 ≤ n) (h1 : n ≤ 70368744177664) : ∃ l, slices.Grow_byte_byte.f n = some (l, 0) := by
  unfold slices.Grow_byte_byte.f
  have e : w64 (n - 0) = n := by rw [w64_id (by omega) (by omega)]; omega
  rw [e]
  by_cases c : n > 0
  · exact ⟨_, br_n (by omega) (br_d c (ck_t (by omega) rfl))⟩
  · exact ⟨_, br_n (by omega) (br_n c rfl)⟩

theorem impl_Concat2_eq (a b : List Int) (h : a.length + b.length ≤ 70368744177664) : slices.Concat_byte_byte_1.f a b = some (a ++ b) := by
  unfold slices.Concat_byte_byte_1.f
  have e0 : w64 (0 + (a.length : Int)) = (a.length : Int) := by rw [w64_id (by omega) (by omega)]; omega
  have e1 : w64 ((a.length : Int) + (b.length : Int)) = ((a.length + b.length : Nat) : Int) := by rw [w64_id (by omega) (by omega)]; omega
  simp only [e0, e1]
  obtain ⟨l, hl⟩ := impl_Grow_eq ((a.length + b.length : Nat) : Int) (by omega) (by omega)
  refine ck_t (by decide) (br_n (by omega) (ck_t (by decide) (br_n (by omega) (bind_t hl ?_))))
  have : ((l.drop 0).take 0 : List Int) = [] := List.take_zero ..
  simp only [this, List.nil_append]
  exact ck_t (by omega) (ck_t (by omega) (ck_t (by rw [List.length_append]; omega) rfl))

theorem impl_Concat3_eq (a b c : List Int) (h : a.length + b.length + c.length ≤ 70368744177664) : slices.Concat_byte_byte.f a b c = some ((a ++ b) ++ c) := by
  unfold slices.Concat_byte_byte.f
  have e0 : w64 (0 + (a.length : Int)) = (a.length : Int) := by rw [w64_id (by omega) (by omega)]; omega
  have e1 : w64 ((a.length : Int) + (b.length : Int)) = ((a.length + b.length : Nat) : Int) := by rw [w64_id (by omega) (by omega)]; omega
  have e2 : w64 (((a.length + b.length : Nat) : Int) + (c.length : Int)) = ((a.length + b.length + c.length : Nat) : Int) := by rw [w64_id (by omega) (by omega)]; omega
  simp only [e0, e1, e2]
  obtain ⟨l, hl⟩ := impl_Grow_eq ((a.length + b.length + c.length : Nat) : Int) (by omega) (by omega)
  refine ck_t (by decide) (br_n (by omega) (ck_t (by decide) (br_n (by omega) (ck_t (by decide) (br_n (by omega) (bind_t hl ?_))))))
  have : ((l.drop 0).take 0 : List Int) = [] := List.take_zero ..
  simp only [this, List.nil_append]
  exact ck_t (by omega) (ck_t (by omega) (ck_t (by rw [List.length_append]; omega) (ck_t (by simp only [List.length_append]; omega) rfl)))

theorem impl_summed_eq (K : Nat) (hK : 10000000000000 ≤ K) (l : List Int) (hb : Bytes l) (hl : l.length ≤ 1000000) : impl.summed.f K l = some (ofBytes (summedI l)) := by
  unfold impl.summed.f
  have := putI_length (sumF 7 l)
  exact bind_t (impl_Sum_eq K hK l hb (by omega)) (bind_t (impl_PutNum_eq K hK _) (bind_t (impl_Concat2_eq _ _ (by omega)) rfl))

theorem impl_RecText_eq (K : Nat) (hK : 10000000000000 ≤ K) (n q : Int) (d : ByteArray) : impl.RecText.f K n q d = some (if recOk n q d then ofBytes (recI n q d) else noVal) := by
  unfold impl.RecText.f
  refine bind_t (impl_RecOk_eq n q d) ?_
  by_cases c : recOk n q d
  · rw [if_pos c]
    have h1 := putI_length n
    have h2 := putI_length q
    have h3 := putI_length (d.size : Int)
    have h4 : (puttI d).length ≤ 405 := by unfold puttI; rw [List.length_append, bytesL_len]; have := c.2.2.2.2; omega
    have hp := impl_PutText_eq K hK d
    rw [if_pos c.2.2.2.2] at hp
    have hb := recB_bytes n q d
    refine br_d c (bind_t (impl_PutNum_eq K hK n) (bind_t (impl_PutNum_eq K hK q) (bind_t hp (bind_t (impl_Concat3_eq _ _ (puttI d) (by omega)) (bind_t (impl_summed_eq K hK (recB n q d) hb ?_) rfl)))))
    unfold recB; rw [List.length_append, List.length_append]; omega
  · rw [if_neg c]; exact br_n c rfl

theorem impl_Repeat_eq (K : Nat) (hK : 10000000000000 ≤ K) : slices.Repeat_int_int.f K [(-1)] 26 = some (List.replicate 26 (-1)) := by
  obtain ⟨k, rfl⟩ : ∃ k, K = k + 10 := ⟨K - 10, by omega⟩
  kernel_rfl
theorem minmax_seqN (s q : Int) : minI 1000000000 (maxI s (q + 1)) = seqN s q := by
  unfold minI maxI seqN
  by_cases c : s > q + 1
  · have e : (if s < q + 1 then q + 1 else s) = s := if_neg (by omega)
    rw [e, if_pos c]
  · have e : (if s < q + 1 then q + 1 else s) = q + 1 := by
      split
      · rfl
      · omega
    rw [e, if_neg c]
theorem pg_empty {a : List ByteArray} {i : Nat} (h : a.getD i noVal = noVal) : (pg a i).2.2.2 = false := by
  unfold pg
  rw [h]
  decide
theorem impl_mount_l0 (K : Nat) (hK : 10000000000000 ≤ K) (a : List ByteArray) (w : List Int) (hl : a.length ≤ 1000000) (hs : ∀ x ∈ a, x.size ≤ 1000000) (A : List ByteArray) (W : List Int) : ∀ (f i : Nat) (st : Mnt), a.length < i + f → i ≤ a.length → MntOk a i st →
    impl.mount.l0.f K a w f A W st.map st.seq st.best (i : Int) = some (A, W, (mRun a i (a.length - i) st).map, (mRun a i (a.length - i) st).seq) := by
  intro f
  induction f with
  | zero => intro i st h hi; omega
  | succ f ih =>
    intro i st h hi ho
    rw [impl.mount.l0.f]
    by_cases c : i < a.length
    · have e1 : w64 ((i : Int) + 1) = ((i + 1 : Nat) : Int) := wsucc (by omega)
      have hz : (a.getD i noVal).size ≤ 1000000000000 := by rw [getD_at c]; have := hs _ (List.getElem_mem c); omega
      have hr := impl_RecRead_eq K hK (a.getD i noVal) hz
      rw [show recR (bytesL (a.getD i noVal)) = pg a i from rfl] at hr
      rw [show a.length - i = (a.length - (i + 1)) + 1 by omega, mRun_succ]
      have hn := ih (i + 1) (mStep a st i) (by omega) (by omega) ho.step
      simp only [Int.toNat_natCast, e1]
      by_cases z : a.getD i noVal = noVal
      · have : mStep a st i = st := by unfold mStep; rw [pg_empty z, if_neg (by decide)]
        rw [this] at hn ⊢
        exact br_d (by omega) (ck_t (by omega) (br_t (strEq_iff.2 z) hn))
      have nz : strEq (a.getD i noVal) noVal = false := by rw [← Bool.not_eq_true, strEq_iff]; exact z
      by_cases d : (pg a i).2.2.2 = true
      case neg =>
        have : mStep a st i = st := by unfold mStep; rw [if_neg d]
        rw [this] at hn ⊢
        exact br_d (by omega) (ck_t (by omega) (br_f nz (bind_t hr (br_f (by simpa using d) hn))))
      obtain ⟨r1, r2, r3, r4, r5⟩ := pg_ok d
      have e2 : w64 ((pg a i).2.1 + 1) = (pg a i).2.1 + 1 := w64_id (by omega) (by omega)
      have hml := ho.mlen
      have hbl := ho.blen
      refine br_d (by omega) (ck_t (by omega) (br_f nz (bind_t hr (br_t d (ck_t r1 (ck_t (by omega) ?_))))))
      simp only [e2, minmax_seqN]
      by_cases e : (pg a i).2.1 > st.best.getD (pg a i).1.toNat 0
      · have : mStep a st i = ⟨st.map.set (pg a i).1.toNat i, seqN st.seq (pg a i).2.1, st.best.set (pg a i).1.toNat (pg a i).2.1⟩ := by unfold mStep; rw [if_pos d, if_pos e]
        rw [this] at hn ⊢
        exact br_d e (ck_t (by omega) hn)
      · have : mStep a st i = ⟨st.map, seqN st.seq (pg a i).2.1, st.best⟩ := by unfold mStep; rw [if_pos d, if_neg e]
        rw [this] at hn ⊢
        exact br_n e hn
    · rw [show a.length - i = 0 by omega]
      exact br_n (by omega) rfl
theorem impl_mount_eq (K : Nat) (hK : 10000000000000 ≤ K) (a : List ByteArray) (w : List Int) (c : chipOk a w) : impl.mount.f K a w = some (a, w, (mnt a).map, (mnt a).seq) := by
  unfold impl.mount.f
  have h1 := c.1
  have hm := impl_mount_l0 K hK a w (by omega) (fun x hx => by have := chip_page c x hx; omega) a w K 0 mInit (by omega) (by omega) (mInit_ok a)
  exact bind_t (impl_cloneChip_eq a w c) (bind_t (impl_Repeat_eq K hK) (ck_t (by decide) (bind_t hm rfl)))

theorem impl_Equal_l0 (m n : List Int) (hl : m.length ≤ 10000000) (hn : m.length = n.length) : ∀ (f i : Nat), m.length < i + f → i ≤ m.length →
    slices.Equal_int_int.l0.f m n f (i : Int) = some (if allF (fun j => m.getD j 0 = n.getD j 0) i m.length then .inr () else .inl ()) := by
  intro f
  induction f with
  | zero => intro i h hi; omega
  | succ f ih =>
    intro i h hi
    rw [slices.Equal_int_int.l0.f]
    by_cases c : i < m.length
    · have e1 : w64 ((i : Int) + 1) = ((i + 1 : Nat) : Int) := wsucc (by omega)
      simp only [Int.toNat_natCast, e1]
      by_cases d : m.getD i 0 = n.getD i 0
      · rw [if_iff ((allF_step c).trans ⟨fun g => g.2, fun g => ⟨d, g⟩⟩)]
        exact br_d (by omega) (ck_t (by omega) (ck_t (by omega) (br_f (by rw [d]; simp) (ih (i + 1) (by omega) (by omega)))))
      · rw [if_neg (fun g => d ((allF_step c).1 g).1)]
        exact br_d (by omega) (ck_t (by omega) (ck_t (by omega) (br_t (bne_iff_ne.2 d) rfl)))
    · rw [if_pos (allF_end (by omega))]
      exact br_n (by omega) rfl
theorem impl_Equal_eq (K : Nat) (hK : 10000000000000 ≤ K) (m n : List Int) (hl : m.length ≤ 10000000) : slices.Equal_int_int.f K m n = some (decide (m = n)) := by
  unfold slices.Equal_int_int.f
  by_cases c : m.length = n.length
  · refine br_f (by simp [c]) (bind_t (impl_Equal_l0 m n hl c K 0 (by omega) (by omega)) ?_)
    by_cases d : allF (fun j => m.getD j 0 = n.getD j 0) 0 m.length
    · rw [if_pos d, decide_eq_true (list_ext c (fun j hj => d j (by omega) hj))]; rfl
    · rw [if_neg d, decide_eq_false (fun e => d (fun j _ _ => by rw [e]))]; rfl
  · rw [decide_eq_false (fun e => c (by rw [e]))]
    exact br_t (bne_iff_ne.2 (by omega)) rfl
theorem impl_FtlOk_eq (K : Nat) (hK : 10000000000000 ≤ K) (a : List ByteArray) (w m : List Int) (s : Int) (hl : m.length ≤ 10000000) : impl.FtlOk.f K a w m s = some (decide (ftlOk a w m s)) := by
  unfold impl.FtlOk.f
  refine bind_t (impl_ChipOk_eq K hK a w) ?_
  by_cases c : chipOk a w
  case neg => rw [decide_eq_false (p := ftlOk a w m s) (fun g => c g.1)]; exact br_n c rfl
  refine br_d c (bind_t (impl_mount_eq K hK a w c) (bind_t (impl_Equal_eq K hK m _ hl) ?_))
  by_cases d : m = (mnt a).map
  case neg => rw [decide_eq_false (p := ftlOk a w m s) (fun g => d g.2.1)]; exact br_n d rfl
  refine br_d d ?_
  by_cases e : s = (mnt a).seq
  · rw [decide_eq_true (p := ftlOk a w m s) ⟨c, d, e⟩]; simp [e]
  · rw [decide_eq_false (p := ftlOk a w m s) (fun g => e g.2.2)]; simp [e]

theorem Index_l0 (l : List ByteArray) (hl : l.length ≤ 1000000) : ∀ (f i : Nat), l.length < i + f → i ≤ l.length →
    slices.Index_string_string.l0.f l noVal f (i : Int) = some (if (l.drop i).findIdx eB < (l.drop i).length then .inl (((i + (l.drop i).findIdx eB : Nat)) : Int) else .inr ()) := by
  intro f
  induction f with
  | zero => intro i h hi; omega
  | succ f ih =>
    intro i h hi
    rw [slices.Index_string_string.l0.f]
    by_cases c : i < l.length
    · have e1 : w64 ((i : Int) + 1) = ((i + 1 : Nat) : Int) := wsucc (by omega)
      rw [List.drop_eq_getElem_cons c, List.findIdx_cons, List.length_cons]
      simp only [e1, Int.toNat_natCast, getD_at c, eB_comm]
      refine br_d (by omega) (ck_t (by omega) ?_)
      by_cases d : eB l[i] = true
      · rw [d, if_pos (by simp)]
        exact br_t rfl (by simp)
      · rw [Bool.not_eq_true] at d
        rw [d, ih (i + 1) (by omega) (by omega)]
        refine br_f rfl ?_
        by_cases g : (l.drop (i + 1)).findIdx eB < (l.drop (i + 1)).length
        · rw [if_pos g, if_pos (by simpa using g)]
          simp only [cond_false]
          rw [show i + 1 + (l.drop (i + 1)).findIdx eB = i + ((l.drop (i + 1)).findIdx eB + 1) by omega]
        · rw [if_neg g, if_neg (by simpa using g)]
    · rw [List.drop_eq_nil_of_le (by omega)]
      exact br_n (by omega) rfl
theorem Index_eq (K : Nat) (hK : 10000000000000 ≤ K) (l : List ByteArray) (hl : l.length ≤ 1000000) : slices.Index_string_string.f K l noVal = some (if l.findIdx eB < l.length then (l.findIdx eB : Int) else -1) := by
  unfold slices.Index_string_string.f
  refine bind_t (Index_l0 l hl K 0 (by omega) (by omega)) ?_
  rw [List.drop_zero]
  by_cases g : l.findIdx eB < l.length
  · rw [if_pos g, if_pos g, Nat.zero_add]; rfl
  · rw [if_neg g, if_neg g]; rfl
theorem IndexF_l0 (l : List ByteArray) (hl : l.length ≤ 1000000) : ∀ (f i : Nat), l.length < i + f → i ≤ l.length →
    slices.IndexFunc_string_string_1.l0.f l f (i : Int) = some (if (l.drop i).findIdx (fun x => !eB x) < (l.drop i).length then .inl (((i + (l.drop i).findIdx (fun x => !eB x) : Nat)) : Int) else .inr ()) := by
  intro f
  induction f with
  | zero => intro i h hi; omega
  | succ f ih =>
    intro i h hi
    rw [slices.IndexFunc_string_string_1.l0.f]
    by_cases c : i < l.length
    · have e1 : w64 ((i : Int) + 1) = ((i + 1 : Nat) : Int) := wsucc (by omega)
      have e2 : strEq l[i] noVal = eB l[i] := rfl
      rw [List.drop_eq_getElem_cons c, List.findIdx_cons, List.length_cons]
      simp only [e1, Int.toNat_natCast, getD_at c, e2]
      refine br_d (by omega) (ck_t (by omega) (bind_t (a := ()) rfl ?_))
      by_cases d : eB l[i] = true
      · rw [d, ih (i + 1) (by omega) (by omega)]
        refine br_t rfl ?_
        by_cases g : (l.drop (i + 1)).findIdx (fun x => !eB x) < (l.drop (i + 1)).length
        · rw [if_pos g, if_pos (by simpa using g)]
          simp only [Bool.not_true, cond_false]
          rw [show i + 1 + (l.drop (i + 1)).findIdx (fun x => !eB x) = i + ((l.drop (i + 1)).findIdx (fun x => !eB x) + 1) by omega]
        · rw [if_neg g, if_neg (by simpa using g)]
      · rw [Bool.not_eq_true] at d
        rw [d, if_pos (by simp)]
        exact br_f rfl (by simp)
    · rw [List.drop_eq_nil_of_le (by omega)]
      exact br_n (by omega) rfl
theorem ContainsF_eq (K : Nat) (hK : 10000000000000 ≤ K) (l : List ByteArray) (hl : l.length ≤ 1000000) : slices.ContainsFunc_string_string_1.f K l = some (decide (l.findIdx (fun x => !eB x) < l.length)) := by
  unfold slices.ContainsFunc_string_string_1.f slices.IndexFunc_string_string_1.f
  have h := IndexF_l0 l hl K 0 (by omega) (by omega)
  rw [List.drop_zero] at h
  by_cases g : l.findIdx (fun x => !eB x) < l.length
  · rw [if_pos g, Nat.zero_add] at h
    rw [decide_eq_true g]
    exact bind_t (bind_t h rfl) (by simp)
  · rw [if_neg g] at h
    rw [decide_eq_false g]
    exact bind_t (bind_t h rfl) rfl
theorem impl_firstClear_eq (K : Nat) (hK : 10000000000000 ≤ K) (a : List ByteArray) (w : List Int) (b : Nat) (h : b * 6 + 6 ≤ a.length) (hl : a.length ≤ 1000000) : impl.firstClear.f K a w (b : Int) = some (fcl (blk a b)) := by
  unfold impl.firstClear.f
  have hb := blk_length h
  have e1 : w64 ((b : Int) * 6) = ((b * 6 : Nat) : Int) := by rw [w64_id (by omega) (by omega)]; omega
  have e2 : w64 (w64 ((b : Int) + 1) * 6) = ((b * 6 + 6 : Nat) : Int) := by rw [wsucc (by omega), w64_id (by omega) (by omega)]; omega
  have e3 : b * 6 + 6 - b * 6 = 6 := by omega
  simp only [e1, e2, Int.toNat_natCast, e3, addO_eq]
  have hi := Index_eq K hK (blk a b) (by omega)
  refine ck_t (by omega) (ck_t (by omega) (ck_t (by omega) (bind_t hi (ck_t (by omega) ?_))))
  unfold fcl
  by_cases g : (blk a b).findIdx eB < (blk a b).length
  · rw [if_pos g, if_pos g]
    refine br_n (by omega) (ck_t (by omega) ?_)
    rw [Int.toNat_natCast]
    have ew : (a.drop (b * 6 + (blk a b).findIdx eB)).take (6 - (blk a b).findIdx eB) = (blk a b).drop ((blk a b).findIdx eB) := by
      conv => rhs; arg 2; unfold blk
      rw [List.drop_take, List.drop_drop]
    rw [ew]
    refine bind_t (ContainsF_eq K hK _ (by rw [List.length_drop]; omega)) (ck_t (by omega) ?_)
    by_cases q : ((blk a b).drop ((blk a b).findIdx eB)).findIdx (fun x => !eB x) < ((blk a b).drop ((blk a b).findIdx eB)).length
    · rw [if_pos q]; exact br_d q rfl
    · rw [if_neg q]; exact br_n q rfl
  · rw [if_neg g, if_neg g]
    exact br_d (by decide) rfl

theorem impl_nextPage_l0 (K : Nat) (hK : 10000000000000 ≤ K) (a : List ByteArray) (w : List Int) (ha : a.length = 60) : ∀ (f i : Nat), 10 < i + f → i ≤ 10 →
    (∃ p, impl.nextPage.l0.f K a w (-1) f (i : Int) = some (.inl p) ∧ ∀ best, nx a w (List.range' i (10 - i)) best = p) ∨ (impl.nextPage.l0.f K a w (-1) f (i : Int) = some (.inr ()) ∧ ∀ v ∈ List.range' i (10 - i), ptB a v = false) := by
  intro f
  induction f with
  | zero => intro i h1 hi; omega
  | succ f ih =>
    intro i h1 hi
    rw [impl.nextPage.l0.f]
    by_cases c : i < 10
    · have e1 : w64 ((i : Int) + 1) = ((i + 1 : Nat) : Int) := wsucc (by omega)
      have hz := fcl_cases (a := a) (v := i) (by omega)
      have hf := impl_firstClear_eq K hK a w i (by omega) (by omega)
      have e0 : ((i : Int) != -1) = true := by simp
      rw [show 10 - i = (10 - (i + 1)) + 1 by omega, List.range'_succ]
      simp only [nx, e1]
      have hno : ptB a i = false → ¬ fcl (blk a i) > 0 → (∃ p, cond (decide ((i : Int) < 10)) (Option.bind (impl.firstClear.f K a w (i : Int)) fun x1 => cond (decide (x1 > 0)) (cond ((i : Int) != -1) (some (.inl (w64 ((w64 ((i : Int) * 6)) + x1)))) (impl.nextPage.l0.f K a w (-1) f ((i + 1 : Nat) : Int))) (impl.nextPage.l0.f K a w (-1) f ((i + 1 : Nat) : Int))) (some (.inr ())) = some (.inl p) ∧ ∀ best, (if ptB a i = true then ptP a i else nx a w (List.range' (i + 1) (10 - (i + 1))) (if frB a i = true then bst w best i else best)) = p) ∨ (cond (decide ((i : Int) < 10)) (Option.bind (impl.firstClear.f K a w (i : Int)) fun x1 => cond (decide (x1 > 0)) (cond ((i : Int) != -1) (some (.inl (w64 ((w64 ((i : Int) * 6)) + x1)))) (impl.nextPage.l0.f K a w (-1) f ((i + 1 : Nat) : Int))) (impl.nextPage.l0.f K a w (-1) f ((i + 1 : Nat) : Int))) (some (.inr ())) = some (.inr ()) ∧ ∀ v ∈ i :: List.range' (i + 1) (10 - (i + 1)), ptB a v = false) := by
        intro z2 z3
        rcases ih (i + 1) (by omega) (by omega) with ⟨p, g1, g2⟩ | ⟨g1, g2⟩
        · exact .inl ⟨p, br_d (by omega) (bind_t hf (br_n z3 g1)), fun best => by rw [z2, if_neg (by decide)]; exact g2 _⟩
        · refine .inr ⟨br_d (by omega) (bind_t hf (br_n z3 g1)), fun v hv => ?_⟩
          rcases List.mem_cons.1 hv with rfl | hv
          · exact z2
          · exact g2 v hv
      rcases hz with ⟨z1, z2, z3, z4⟩ | ⟨z1, z2, z3, z4, z5, z6⟩ | ⟨z1, z2, z3, z4, z5⟩
      · exact hno z2 (by omega)
      · refine .inl ⟨ptP a i, br_d (by omega) (bind_t hf (br_d (by omega) (br_t e0 ?_))), fun best => by rw [if_pos z2]⟩
        unfold ptP
        rw [w64_id (x := (i : Int) * 6) (by omega) (by omega), w64_id (by omega) (by omega), z6]
        congr 2; omega
      · exact hno z2 (by omega)
    · rw [show 10 - i = 0 by omega]
      exact .inr ⟨br_n (by omega) rfl, fun v hv => by simp at hv⟩
theorem impl_isFree_eq (K : Nat) (hK : 10000000000000 ≤ K) (a : List ByteArray) (w : List Int) (ha : a.length = 60) (i : Nat) (hi : i < 10) : impl.isFree.f K a w (i : Int) = some (frB a i) := by
  unfold impl.isFree.f
  refine bind_t (impl_firstClear_eq K hK a w i (by omega) (by omega)) ?_
  rcases fcl_cases (a := a) (v := i) (by omega) with ⟨z1, z2, z3, z4⟩ | ⟨z1, z2, z3, z4, z5, z6⟩ | ⟨z1, z2, z3, z4, z5⟩
  · rw [z1, z3]; rfl
  · rw [z1]
    have : (fcl (blk a i) == 0) = false := by simp; omega
    rw [this]
  · rw [z1, z4]; rfl
theorem impl_freeBlocks_l0 (K : Nat) (hK : 10000000000000 ≤ K) (a : List ByteArray) (w : List Int) (ha : a.length = 60) : ∀ (f i : Nat) (v : List Int), 10 < i + f → i ≤ 10 → v.length ≤ i →
    impl.freeBlocks.l0.f K a w f v (i : Int) = some (v ++ ((List.range' i (10 - i)).filter (frB a)).map fun (v : Nat) => (v : Int)) := by
  intro f
  induction f with
  | zero => intro i v h1 hi; omega
  | succ f ih =>
    intro i v h1 hi hv
    rw [impl.freeBlocks.l0.f]
    by_cases c : i < 10
    · have e1 : w64 ((i : Int) + 1) = ((i + 1 : Nat) : Int) := wsucc (by omega)
      rw [show 10 - i = (10 - (i + 1)) + 1 by omega, List.range'_succ]
      simp only [e1]
      refine br_d (by omega) (bind_t (impl_isFree_eq K hK a w ha i c) ?_)
      by_cases d : frB a i = true
      · rw [List.filter_cons_of_pos d]
        refine br_t d (ck_t (by simp; omega) ?_)
        rw [ih (i + 1) (v ++ [(i : Int)]) (by omega) (by omega) (by simp; omega)]
        simp
      · rw [List.filter_cons_of_neg d]
        exact br_f (by simpa using d) (ih (i + 1) v (by omega) (by omega) (by omega))
    · rw [show 10 - i = 0 by omega]
      exact br_n (by omega) (by simp)
theorem impl_nextPage_l1 (a : List ByteArray) (w : List Int) (hw : w.length = 10) (L : List Int) (hL : L.length ≤ 10) (hx : ∀ x ∈ L, 0 ≤ x ∧ x < 10) : ∀ (f i : Nat) (best : Int), L.length < i + f → i ≤ L.length → best < 10 →
    impl.nextPage.l1.f a w (-1) f best L (L.length : Int) (i : Int) = some ((L.drop i).foldl (bst w) best) := by
  intro f
  induction f with
  | zero => intro i best h1 hi; omega
  | succ f ih =>
    intro i best h1 hi hb
    rw [impl.nextPage.l1.f]
    by_cases c : i < L.length
    · have e1 : w64 ((i : Int) + 1) = ((i + 1 : Nat) : Int) := wsucc (by omega)
      have hm := hx L[i] (List.getElem_mem c)
      rw [List.drop_eq_getElem_cons c, List.foldl_cons]
      simp only [e1, Int.toNat_natCast, getD_at c]
      have e0 : (L[i] != -1) = true := by simp; omega
      refine br_d (by omega) (ck_t (by omega) (ck_t (by omega) (br_t e0 ?_)))
      unfold bst
      by_cases d : best < 0
      · rw [if_pos d]
        exact br_d d (ih (i + 1) _ (by omega) (by omega) (by omega))
      · rw [if_neg d]
        refine br_n d (ck_t (by omega) (ck_t (by omega) (ck_t (by omega) ?_)))
        by_cases q : w.getD L[i].toNat 0 < w.getD best.toNat 0
        · rw [if_pos q]
          exact br_d q (ih (i + 1) _ (by omega) (by omega) (by omega))
        · rw [if_neg q]
          exact br_n q (ih (i + 1) _ (by omega) (by omega) (by omega))
    · rw [List.drop_eq_nil_of_le (by omega)]
      exact br_n (by omega) rfl
theorem impl_nextPage_eq (K : Nat) (hK : 10000000000000 ≤ K) (a : List ByteArray) (w : List Int) (ha : a.length = 60) (hw : w.length = 10) : impl.nextPage.f K a w (-1) = some (nxt a w) := by
  unfold impl.nextPage.f nxt
  rcases impl_nextPage_l0 K hK a w ha K 0 (by omega) (by omega) with ⟨p, g1, g2⟩ | ⟨g1, g2⟩
  · refine bind_t g1 ?_
    rw [g2]; rfl
  · refine bind_t g1 ?_
    rw [nx_no a w _ _ g2]
    have hf := impl_freeBlocks_l0 K hK a w ha K 0 [] (by omega) (by omega) (by simp)
    rw [List.nil_append] at hf
    have hLl : (((List.range' 0 10).filter (frB a)).map fun (v : Nat) => (v : Int)).length ≤ 10 := by
      rw [List.length_map]
      exact Nat.le_trans (List.length_filter_le _ _) (by simp)
    have hLx : ∀ x ∈ (((List.range' 0 10).filter (frB a)).map fun (v : Nat) => (v : Int)), 0 ≤ x ∧ x < 10 := by
      intro x hx
      obtain ⟨v, hv, rfl⟩ := List.mem_map.1 hx
      have := List.mem_range'_1.1 (List.mem_filter.1 hv).1
      omega
    have hff : impl.freeBlocks.f K a w = some (((List.range' 0 10).filter (frB a)).map fun (v : Nat) => (v : Int)) := by
      unfold impl.freeBlocks.f
      exact bind_t hf rfl
    generalize (((List.range' 0 10).filter (frB a)).map fun (v : Nat) => (v : Int)) = L at hff hLl hLx ⊢
    have hl1 := impl_nextPage_l1 a w hw L hLl hLx K 0 (-1) (by omega) (by omega) (by omega)
    rw [List.drop_zero] at hl1
    have hlt := bst_lt w L (-1) hLx (by omega)
    refine bind_t hff (bind_t hl1 ?_)
    unfold fin6
    generalize L.foldl (bst w) (-1) = r at hlt ⊢
    by_cases q : r < 0
    · rw [if_pos q]; exact br_d q rfl
    · rw [if_neg q]
      refine br_n q ?_
      rw [w64_id (by omega) (by omega)]

theorem impl_nextPage_b0 (K : Nat) (hK : 10000000000000 ≤ K) (a : List ByteArray) (w : List Int) (ha : a.length = 60) (b : Int) (hb : ∀ v : Nat, v < 10 → ptB a v = true → (v : Int) ≠ b) : ∀ (f i : Nat), 10 < i + f → i ≤ 10 →
    (∃ p, impl.nextPage.l0.f K a w b f (i : Int) = some (.inl p) ∧ ∀ best, nx a w (List.range' i (10 - i)) best = p) ∨ (impl.nextPage.l0.f K a w b f (i : Int) = some (.inr ()) ∧ ∀ v ∈ List.range' i (10 - i), ptB a v = false) := by
  intro f
  induction f with
  | zero => intro i h1 hi; omega
  | succ f ih =>
    intro i h1 hi
    rw [impl.nextPage.l0.f]
    by_cases c : i < 10
    · have e1 : w64 ((i : Int) + 1) = ((i + 1 : Nat) : Int) := wsucc (by omega)
      have hz := fcl_cases (a := a) (v := i) (by omega)
      have hf := impl_firstClear_eq K hK a w i (by omega) (by omega)
      rw [show 10 - i = (10 - (i + 1)) + 1 by omega, List.range'_succ]
      simp only [nx, e1]
      have hno : ptB a i = false → ¬ fcl (blk a i) > 0 → (∃ p, cond (decide ((i : Int) < 10)) (Option.bind (impl.firstClear.f K a w (i : Int)) fun x1 => cond (decide (x1 > 0)) (cond ((i : Int) != b) (some (.inl (w64 ((w64 ((i : Int) * 6)) + x1)))) (impl.nextPage.l0.f K a w b f ((i + 1 : Nat) : Int))) (impl.nextPage.l0.f K a w b f ((i + 1 : Nat) : Int))) (some (.inr ())) = some (.inl p) ∧ ∀ best, (if ptB a i = true then ptP a i else nx a w (List.range' (i + 1) (10 - (i + 1))) (if frB a i = true then bst w best i else best)) = p) ∨ (cond (decide ((i : Int) < 10)) (Option.bind (impl.firstClear.f K a w (i : Int)) fun x1 => cond (decide (x1 > 0)) (cond ((i : Int) != b) (some (.inl (w64 ((w64 ((i : Int) * 6)) + x1)))) (impl.nextPage.l0.f K a w b f ((i + 1 : Nat) : Int))) (impl.nextPage.l0.f K a w b f ((i + 1 : Nat) : Int))) (some (.inr ())) = some (.inr ()) ∧ ∀ v ∈ i :: List.range' (i + 1) (10 - (i + 1)), ptB a v = false) := by
        intro z2 z3
        rcases ih (i + 1) (by omega) (by omega) with ⟨p, g1, g2⟩ | ⟨g1, g2⟩
        · exact .inl ⟨p, br_d (by omega) (bind_t hf (br_n z3 g1)), fun best => by rw [z2, if_neg (by decide)]; exact g2 _⟩
        · refine .inr ⟨br_d (by omega) (bind_t hf (br_n z3 g1)), fun v hv => ?_⟩
          rcases List.mem_cons.1 hv with rfl | hv
          · exact z2
          · exact g2 v hv
      rcases hz with ⟨z1, z2, z3, z4⟩ | ⟨z1, z2, z3, z4, z5, z6⟩ | ⟨z1, z2, z3, z4, z5⟩
      · exact hno z2 (by omega)
      · refine .inl ⟨ptP a i, br_d (by omega) (bind_t hf (br_d (by omega) (br_t (by simpa using hb i c z2) ?_))), fun best => by rw [if_pos z2]⟩
        unfold ptP
        rw [w64_id (x := (i : Int) * 6) (by omega) (by omega), w64_id (by omega) (by omega), z6]
        congr 2; omega
      · exact hno z2 (by omega)
    · rw [show 10 - i = 0 by omega]
      exact .inr ⟨br_n (by omega) rfl, fun v hv => by simp at hv⟩
theorem impl_nextPage_b1 (a : List ByteArray) (w : List Int) (hw : w.length = 10) (L : List Int) (b : Int) (hLne : ∀ x ∈ L, x ≠ b) (hL : L.length ≤ 10) (hx : ∀ x ∈ L, 0 ≤ x ∧ x < 10) : ∀ (f i : Nat) (best : Int), L.length < i + f → i ≤ L.length → best < 10 →
    impl.nextPage.l1.f a w b f best L (L.length : Int) (i : Int) = some ((L.drop i).foldl (bst w) best) := by
  intro f
  induction f with
  | zero => intro i best h1 hi; omega
  | succ f ih =>
    intro i best h1 hi hb
    rw [impl.nextPage.l1.f]
    by_cases c : i < L.length
    · have e1 : w64 ((i : Int) + 1) = ((i + 1 : Nat) : Int) := wsucc (by omega)
      have hm := hx L[i] (List.getElem_mem c)
      rw [List.drop_eq_getElem_cons c, List.foldl_cons]
      simp only [e1, Int.toNat_natCast, getD_at c]
      have e0 : (L[i] != b) = true := by simpa using hLne L[i] (List.getElem_mem c)
      refine br_d (by omega) (ck_t (by omega) (ck_t (by omega) (br_t e0 ?_)))
      unfold bst
      by_cases d : best < 0
      · rw [if_pos d]
        exact br_d d (ih (i + 1) _ (by omega) (by omega) (by omega))
      · rw [if_neg d]
        refine br_n d (ck_t (by omega) (ck_t (by omega) (ck_t (by omega) ?_)))
        by_cases q : w.getD L[i].toNat 0 < w.getD best.toNat 0
        · rw [if_pos q]
          exact br_d q (ih (i + 1) _ (by omega) (by omega) (by omega))
        · rw [if_neg q]
          exact br_n q (ih (i + 1) _ (by omega) (by omega) (by omega))
    · rw [List.drop_eq_nil_of_le (by omega)]
      exact br_n (by omega) rfl
theorem impl_nextPage_b (K : Nat) (hK : 10000000000000 ≤ K) (a : List ByteArray) (w : List Int) (ha : a.length = 60) (hw : w.length = 10) (b : Int) (hp : ∀ v : Nat, v < 10 → ptB a v = true → (v : Int) ≠ b) (hf : ∀ v : Nat, v < 10 → frB a v = true → (v : Int) ≠ b) : impl.nextPage.f K a w b = some (nxt a w) := by
  unfold impl.nextPage.f nxt
  rcases impl_nextPage_b0 K hK a w ha b hp K 0 (by omega) (by omega) with ⟨p, g1, g2⟩ | ⟨g1, g2⟩
  · refine bind_t g1 ?_
    rw [g2]; rfl
  · refine bind_t g1 ?_
    rw [nx_no a w _ _ g2]
    have hf0 := impl_freeBlocks_l0 K hK a w ha K 0 [] (by omega) (by omega) (by simp)
    rw [List.nil_append] at hf0
    have hLl : (((List.range' 0 10).filter (frB a)).map fun (v : Nat) => (v : Int)).length ≤ 10 := by
      rw [List.length_map]
      exact Nat.le_trans (List.length_filter_le _ _) (by simp)
    have hLx : ∀ x ∈ (((List.range' 0 10).filter (frB a)).map fun (v : Nat) => (v : Int)), 0 ≤ x ∧ x < 10 := by
      intro x hx
      obtain ⟨v, hv, rfl⟩ := List.mem_map.1 hx
      have := List.mem_range'_1.1 (List.mem_filter.1 hv).1
      omega
    have hff : impl.freeBlocks.f K a w = some (((List.range' 0 10).filter (frB a)).map fun (v : Nat) => (v : Int)) := by
      unfold impl.freeBlocks.f
      exact bind_t hf0 rfl
    have hLb : ∀ x ∈ (((List.range' 0 10).filter (frB a)).map fun (v : Nat) => (v : Int)), x ≠ b := by
      intro x hx
      obtain ⟨v, hv, rfl⟩ := List.mem_map.1 hx
      have h1 := List.mem_range'_1.1 (List.mem_filter.1 hv).1
      exact hf v (by omega) (List.mem_filter.1 hv).2
    generalize (((List.range' 0 10).filter (frB a)).map fun (v : Nat) => (v : Int)) = L at hff hLl hLx hLb ⊢
    have hl1 := impl_nextPage_b1 a w hw L b hLb hLl hLx K 0 (-1) (by omega) (by omega) (by omega)
    rw [List.drop_zero] at hl1
    have hlt := bst_lt w L (-1) hLx (by omega)
    refine bind_t hff (bind_t hl1 ?_)
    unfold fin6
    generalize L.foldl (bst w) (-1) = r at hlt ⊢
    by_cases q : r < 0
    · rw [if_pos q]; exact br_d q rfl
    · rw [if_neg q]
      refine br_n q ?_
      rw [w64_id (by omega) (by omega)]

theorem set_mid {α : Type} (A B : List α) (x y : α) (n : Nat) (h : A.length = n) : (A ++ x :: B).set n y = A ++ y :: B := by
  subst h
  induction A with
  | nil => rfl
  | cons a A ih => simp only [List.cons_append, List.length_cons, List.set_cons_succ, ih]
theorem getD_mid {α : Type} (A B : List α) (x d : α) (n : Nat) (h : A.length = n) : (A ++ x :: B).getD n d = x := by
  subst h
  induction A with
  | nil => rfl
  | cons a A ih => simp
theorem less_eq (x y : Int) : cmp.Less_int.f x y = some (decide (x < y)) := by
  unfold cmp.Less_int.f
  exact bind_t (a := ()) rfl (br_f (by simp) rfl)
theorem ins_l1 (a2 w : Int) : ∀ (n : Nat) (A B : List Int) (x : Int) (f : Nat), A.length = n → n < f → n ≤ 1000000 → A.Pairwise (· ≤ ·) →
    ∃ R, slices.insertionSortOrdered_int.l1.f 0 a2 w f (A ++ x :: B) (n : Int) = some (R ++ B) ∧ R.Perm (A ++ [x]) ∧ R.Pairwise (· ≤ ·) := by
  intro n
  induction n with
  | zero =>
    intro A B x f hA hf _ _
    obtain ⟨k, rfl⟩ := Nat.exists_eq_add_one_of_ne_zero (by omega : f ≠ 0)
    have : A = [] := List.eq_nil_of_length_eq_zero hA
    subst this
    rw [slices.insertionSortOrdered_int.l1.f]
    exact ⟨[x], br_n (by omega) rfl, .refl _, List.pairwise_singleton ..⟩
  | succ n ih =>
    intro A B x f hA hf hn hs
    obtain ⟨k, rfl⟩ := Nat.exists_eq_add_one_of_ne_zero (by omega : f ≠ 0)
    obtain ⟨A, y, rfl⟩ : ∃ A' y, A = A' ++ [y] := ⟨A.dropLast, A.getLast (by intro h; subst h; simp at hA), (List.dropLast_concat_getLast _).symm⟩
    have hA' : A.length = n := by simpa using hA
    rw [slices.insertionSortOrdered_int.l1.f]
    have e1 : w64 (((n + 1 : Nat) : Int) - 1) = (n : Int) := by rw [w64_id (by omega) (by omega)]; omega
    have ev : A ++ [y] ++ x :: B = A ++ y :: x :: B := by simp
    have g1 : (A ++ [y] ++ x :: B).getD (n + 1) 0 = x := getD_mid _ _ _ _ _ (by simpa using hA')
    have g2 : (A ++ [y] ++ x :: B).getD n 0 = y := by rw [ev]; exact getD_mid _ _ _ _ _ hA'
    have hl : (A ++ [y] ++ x :: B).length = n + 2 + B.length := by simp; omega
    simp only [e1, Int.toNat_natCast, g1, g2]
    have hsp := List.pairwise_append.1 hs
    by_cases c : x < y
    · have es : ((A ++ [y] ++ x :: B).set (n + 1) y).set n x = A ++ x :: (y :: B) := by
        rw [set_mid _ _ _ _ _ (by simpa using hA'), show A ++ [y] ++ y :: B = A ++ y :: y :: B by simp, set_mid _ _ _ _ _ hA']
      obtain ⟨R, h1, h2, h3⟩ := ih A (y :: B) x k hA' (by omega) (by omega) hsp.1
      refine ⟨R ++ [y], ?_, ?_, ?_⟩
      · refine br_d (by omega) (ck_t (by omega) (ck_t (by omega) (ck_t (by omega) (ck_t (by omega) (bind_t (less_eq _ _) (br_d c ?_))))))
        rw [es, h1]; simp
      · exact (h2.append_right [y]).trans (by rw [List.append_assoc, List.append_assoc]; exact .append_left _ (.swap ..))
      · refine List.pairwise_append.2 ⟨h3, List.pairwise_singleton .., fun u hu v hv => ?_⟩
        rw [List.mem_singleton] at hv
        subst hv
        rcases List.mem_append.1 (h2.subset hu) with h | h
        · exact hsp.2.2 u h v (by simp)
        · rw [List.mem_singleton] at h; omega
    · refine ⟨A ++ [y] ++ [x], br_d (by omega) (ck_t (by omega) (ck_t (by omega) (ck_t (by omega) (ck_t (by omega) (bind_t (less_eq _ _) (br_n c ?_)))))), .refl _, ?_⟩
      · simp
      · refine List.pairwise_append.2 ⟨hs, List.pairwise_singleton .., fun u hu v hv => ?_⟩
        rw [List.mem_singleton] at hv
        subst hv
        rcases List.mem_append.1 hu with h | h
        · have := hsp.2.2 u h y (by simp); omega
        · rw [List.mem_singleton] at h; omega
theorem ins_l0 (K N : Nat) (hK : 10000000000000 ≤ K) (hN : N ≤ 1000000) : ∀ (f : Nat) (P Q : List Int), N < P.length + f → P.length + Q.length = N → P.Pairwise (· ≤ ·) →
    ∃ R, slices.insertionSortOrdered_int.l0.f K 0 (N : Int) f (P ++ Q) (P.length : Int) = some R ∧ R.Perm (P ++ Q) ∧ R.Pairwise (· ≤ ·) := by
  intro f
  induction f with
  | zero => intro P Q h h2; omega
  | succ f ih =>
    intro P Q h h2 hs
    rw [slices.insertionSortOrdered_int.l0.f]
    cases Q with
    | nil =>
      have h3 : P.length = N := by simpa using h2
      exact ⟨P ++ [], br_n (by omega) rfl, .refl _, by simpa using hs⟩
    | cons x Q =>
      rw [List.length_cons] at h2
      obtain ⟨R, h3, h4, h5⟩ := ins_l1 (N : Int) (P.length : Int) P.length P Q x K rfl (by omega) (by omega) hs
      have hR : R.length = P.length + 1 := by rw [h4.length_eq]; simp
      obtain ⟨T, k1, k2, k3⟩ := ih R Q (by omega) (by omega) h5
      rw [hR] at k1
      refine ⟨T, br_d (by omega) (bind_t h3 ?_), ?_, k3⟩
      · rw [wsucc (by omega)]; exact k1
      · exact k2.trans ((h4.append_right Q).trans (by rw [List.append_assoc]; exact .refl _))
theorem len_all : ((List.range 13).all fun n => (math_bits.Len.f (IntKind.u64.wrap ((n : Nat) : Int))).isSome) = true := by kernel_rfl
theorem sort_eq (K : Nat) (hK : 10000000000000 ≤ K) (l : List Int) (h : l.length ≤ 12) : ∃ R, slices.Sort_int_int.f K l = some R ∧ R.Perm l ∧ R.Pairwise (· ≤ ·) := by
  unfold slices.Sort_int_int.f
  have h1 := List.all_eq_true.1 len_all l.length (List.mem_range.2 (by omega))
  obtain ⟨r, hr⟩ := Option.isSome_iff_exists.1 h1
  have h0 : ∃ R, slices.insertionSortOrdered_int.f K l 0 (l.length : Int) = some R ∧ R.Perm l ∧ R.Pairwise (· ≤ ·) := by
    unfold slices.insertionSortOrdered_int.f
    cases l with
    | nil =>
      obtain ⟨k, rfl⟩ := Nat.exists_eq_add_one_of_ne_zero (by omega : K ≠ 0)
      refine ⟨[], bind_t (a := []) ?_ rfl, .refl _, .nil⟩
      rw [slices.insertionSortOrdered_int.l0.f]
      exact br_n (by decide) rfl
    | cons x l =>
      obtain ⟨R, g1, g2, g3⟩ := ins_l0 K (x :: l).length hK (by omega) K [x] l (by omega) (by simp; omega) (List.pairwise_singleton ..)
      exact ⟨R, bind_t g1 rfl, g2, g3⟩
  obtain ⟨R, g1, g2, g3⟩ := h0
  refine ⟨R, bind_t hr (bind_t ?_ rfl), g2, g3⟩
  unfold slices.pdqsortOrdered_int.f
  obtain ⟨k, hk⟩ := Nat.exists_eq_add_one_of_ne_zero (by omega : K ≠ 0)
  refine bind_t (a := R) ?_ rfl
  have : ∀ k, slices.pdqsortOrdered_int.l0.f K l 0 (l.length : Int) r (k + 1) = some R := by
    intro k
    rw [slices.pdqsortOrdered_int.l0.f]
    exact br_d (by rw [w64_id (by omega) (by omega)]; omega) (bind_t g1 rfl)
  rw [show slices.pdqsortOrdered_int.l0.f K l 0 (l.length : Int) r K = slices.pdqsortOrdered_int.l0.f K l 0 (l.length : Int) r (k + 1) by rw [← hk]]
  exact this k

theorem impl_lives_l0 (a : List ByteArray) (w m : List Int) (b : Int) (hm : m.length ≤ 1000) (hx : ∀ x ∈ m, -1 ≤ x ∧ x < 60) : ∀ (f i : Nat) (v : List Int), m.length < i + f → i ≤ m.length → v.length + (m.length - i) ≤ 1000000 →
    impl.lives.l0.f a w m b f v (i : Int) = some (v ++ (m.drop i).filter (livQ b)) := by
  intro f
  induction f with
  | zero => intro i v h1 hi; omega
  | succ f ih =>
    intro i v h1 hi hv
    rw [impl.lives.l0.f]
    by_cases c : i < m.length
    · have e1 : w64 ((i : Int) + 1) = ((i + 1 : Nat) : Int) := wsucc (by omega)
      have e3 : m.getD i 0 = m[i] := getD_at c 0
      have hmi := hx m[i] (List.getElem_mem c)
      rw [List.drop_eq_getElem_cons c]
      simp only [e1, e3, Int.toNat_natCast]
      refine br_d (by omega) (ck_t (by omega) ?_)
      have hno := ih (i + 1) v (by omega) (by omega) (by omega)
      by_cases d : m[i] ≥ 0
      · refine br_d d ?_
        have e5 : w64 (m[i].tdiv 6) = m[i] / 6 := by rw [Int.tdiv_eq_ediv_of_nonneg d, w64_id (by omega) (by omega)]
        rw [e5]
        by_cases g : m[i] / 6 = b
        · rw [List.filter_cons_of_pos (by simp [livQ]; omega)]
          refine br_t (by simpa using g) (ck_t (by simp; omega) ?_)
          rw [ih (i + 1) (v ++ [m[i]]) (by omega) (by omega) (by simp; omega)]
          simp
        · rw [List.filter_cons_of_neg (by simp [livQ]; omega)]
          exact br_f (by simpa using g) hno
      · rw [List.filter_cons_of_neg (by simp [livQ]; omega)]
        exact br_n d hno
    · have : i = m.length := by omega
      subst this
      exact br_n (by omega) (by simp)
theorem impl_lives_eq (K : Nat) (hK : 10000000000000 ≤ K) (a : List ByteArray) (w m : List Int) (s b : Int) (h : ftlOk a w m s) : impl.lives.f K a w m s b = some (if 0 ≤ b ∧ b ≤ 9 then (livL m b 0 6, (livL m b 0 6).length) else ([], 0)) := by
  unfold impl.lives.f
  have hm : m.length = 26 := by rw [h.2.1]; exact (mnt_ok a).mlen
  have hx := ftl_mem h
  have h1 := impl_lives_l0 a w m b (by omega) hx K 0 [] (by omega) (by omega) (by simp; omega)
  rw [List.drop_zero, List.nil_append] at h1
  refine bind_t h1 ?_
  by_cases c : 0 ≤ b ∧ b ≤ 9
  · rw [if_pos c]
    have hp := liv_perm m b c.1
    have hl := livL_len (ftl_cnt h) c.1 6 0
    obtain ⟨R, g1, g2, g3⟩ := sort_eq K hK (m.filter (livQ b)) (by rw [hp.length_eq]; omega)
    refine bind_t g1 ?_
    rw [hp.length_eq, (g2.trans hp).eq_of_pairwise (fun u v _ _ => Int.le_antisymm) g3 (livL_sorted m b 6 0)]
  · rw [if_neg c, liv_out m b hx c]
    obtain ⟨R, g1, g2, g3⟩ := sort_eq K hK [] (by simp)
    refine bind_t g1 ?_
    rw [List.perm_nil.1 g2]; rfl

/-! ### acts on a chip -/
def bPg (a : List ByteArray) (p : Int) (t : ByteArray) : Prop := 0 ≤ p ∧ p ≤ 59 ∧ strEq (a.getD p.toNat noVal) noVal = true ∧ strEq t noVal = false ∧ t.size ≤ 800
instance (a : List ByteArray) (p : Int) (t : ByteArray) : Decidable (bPg a p t) := by unfold bPg; infer_instance
abbrev ChipT := List ByteArray × List Int × Bool
def burnR (a : List ByteArray) (w : List Int) (p : Int) (t : ByteArray) : ChipT := if bPg a p t then (a.set p.toNat t, w, true) else (a, w, false)
theorem burnR_chip {a : List ByteArray} {w : List Int} (h : chipOk a w) (p : Int) (t : ByteArray) : chipOk (burnR a w p t).1 (burnR a w p t).2.1 := by
  unfold burnR
  split
  · rename_i c; exact chipOk_set h _ c.2.2.2.2
  · exact h
def cPg (w : List Int) (b : Int) : Prop := 0 ≤ b ∧ b ≤ 9 ∧ w.getD b.toNat 0 ≠ 1000000000
instance (w : List Int) (b : Int) : Decidable (cPg w b) := by unfold cPg; infer_instance
def clearR (a : List ByteArray) (w : List Int) (b n : Int) : ChipT := if cPg w b then (wipe a b.toNat 0 (min n.toNat 6), w.set b.toNat (w.getD b.toNat 0 + 1), true) else (a, w, false)
theorem clearR_chip {a : List ByteArray} {w : List Int} (h : chipOk a w) (b n : Int) : chipOk (clearR a w b n).1 (clearR a w b n).2.1 := by
  unfold clearR
  split
  · rename_i c
    have h0 := c.1; have h1 := c.2.1; have h2 := c.2.2
    have hw := chip_wear h (i := b.toNat) (by omega)
    exact wipe_chip _ _ _ _ (chipOk_wear h _ (by omega) (by omega))
  · exact h
def halfR (a : List ByteArray) (w : List Int) (b n : Int) : List ByteArray × List Int := ((clearR a w b n).1, (clearR a w b n).2.1)
/-- So much of a text. -/
def cutT (t : ByteArray) (n : Int) : ByteArray := t.extract 0 (if (if n < (t.size : Int) then n else (t.size : Int)) > 0 then (if n < (t.size : Int) then n else (t.size : Int)) else 0).toNat
def tornR (a : List ByteArray) (w : List Int) (p : Int) (t : ByteArray) (n : Int) : List ByteArray × List Int := ((burnR a w p (cutT t n)).1, (burnR a w p (cutT t n)).2.1)
def applyR (a : List ByteArray) (w : List Int) (x : Int × Int × ByteArray) : ChipT := if x.1 = 1 then burnR a w x.2.1 x.2.2 else if x.1 = 2 then clearR a w x.2.1 6 else (a, w, false)
theorem applyR_chip {a : List ByteArray} {w : List Int} (h : chipOk a w) (x : Int × Int × ByteArray) : chipOk (applyR a w x).1 (applyR a w x).2.1 := by
  unfold applyR
  split
  · exact burnR_chip h _ _
  · split
    · exact clearR_chip h _ _
    · exact h
def appAll : ActT → List ByteArray → List Int → ChipT
  | [], a, w => (a, w, true)
  | x :: l, a, w => if (applyR a w x).2.2 = true then appAll l (applyR a w x).1 (applyR a w x).2.1 else (a, w, false)
theorem appAll_chip : ∀ (l : ActT) {a : List ByteArray} {w : List Int}, chipOk a w → chipOk (appAll l a w).1 (appAll l a w).2.1
  | [], a, w, h => h
  | x :: l, a, w, h => by
    unfold appAll
    split
    · exact appAll_chip l (applyR_chip h x)
    · exact h
def kOf (k : Int) (n : Nat) : Int := if (if k < (n : Int) then k else (n : Int)) > 0 then (if k < (n : Int) then k else (n : Int)) else 0
theorem kOf_range (k : Int) (n : Nat) : 0 ≤ kOf k n ∧ kOf k n ≤ (n : Int) := by
  unfold kOf
  split
  · split <;> omega
  · omega
/-- What is there where the power fails: k acts are done, of the next one a part. -/
def cutR (a : List ByteArray) (w : List Int) (L : ActT) (k n : Int) : List ByteArray × List Int :=
  if (appAll (L.take (kOf k L.length).toNat) a w).2.2 = true ∧ kOf k L.length ≠ (L.length : Int) then
    (if (L.getD (kOf k L.length).toNat (0, 0, noVal)).1 = 1 then tornR (appAll (L.take (kOf k L.length).toNat) a w).1 (appAll (L.take (kOf k L.length).toNat) a w).2.1 (L.getD (kOf k L.length).toNat (0, 0, noVal)).2.1 (L.getD (kOf k L.length).toNat (0, 0, noVal)).2.2 n
     else if (L.getD (kOf k L.length).toNat (0, 0, noVal)).1 = 2 then halfR (appAll (L.take (kOf k L.length).toNat) a w).1 (appAll (L.take (kOf k L.length).toNat) a w).2.1 (L.getD (kOf k L.length).toNat (0, 0, noVal)).2.1 n
     else ((appAll (L.take (kOf k L.length).toNat) a w).1, (appAll (L.take (kOf k L.length).toNat) a w).2.1))
  else ((appAll (L.take (kOf k L.length).toNat) a w).1, (appAll (L.take (kOf k L.length).toNat) a w).2.1)
theorem cutR_chip {a : List ByteArray} {w : List Int} (h : chipOk a w) (L : ActT) (k n : Int) : chipOk (cutR a w L k n).1 (cutR a w L k n).2 := by
  have h1 := appAll_chip (L.take (kOf k L.length).toNat) h
  unfold cutR
  split
  · split
    · exact burnR_chip h1 _ _
    · split
      · exact clearR_chip h1 _ _
      · exact h1
  · exact h1
/-! ### chips that are drawn -/
/-- What a row of puts makes of a new chip, the power lost at times. -/
inductive Rch : List ByteArray → List Int → List Int → Int → Prop where
  | new : Rch (List.replicate 60 noVal) (List.replicate 10 0) (mnt (List.replicate 60 noVal)).map (mnt (List.replicate 60 noVal)).seq
  | put {a w m s} (sec : Int) (d : ByteArray) : Rch a w m s → 0 ≤ sec → sec ≤ 25 → d.size ≤ 5 → (wPlan a w m s sec d).ok = true → Rch (wPlan a w m s sec d).a (wPlan a w m s sec d).w (mnt (wPlan a w m s sec d).a).map (mnt (wPlan a w m s sec d).a).seq
  | cut {a w m s} (sec : Int) (d : ByteArray) (k n : Int) : Rch a w m s → 0 ≤ sec → sec ≤ 25 → d.size ≤ 5 → (wPlan a w m s sec d).ok = true → Rch (cutR a w (wPlan a w m s sec d).q k n).1 (cutR a w (wPlan a w m s sec d).q k n).2 (mnt (cutR a w (wPlan a w m s sec d).q k n).1).map (mnt (cutR a w (wPlan a w m s sec d).q k n).1).seq
theorem new_chip : chipOk (List.replicate 60 noVal) (List.replicate 10 0) := by
  refine ⟨by simp, by simp, fun j _ hj => ?_, fun j _ hj => ?_⟩
  · rw [List.length_replicate] at hj
    rw [List.getD_eq_getElem?_getD, List.getElem?_replicate, if_pos hj]; decide
  · rw [List.length_replicate] at hj
    rw [List.getD_eq_getElem?_getD, List.getElem?_replicate, if_pos hj]; decide
theorem Rch.ftl {a : List ByteArray} {w m : List Int} {s : Int} (h : Rch a w m s) : ftlOk a w m s := by
  induction h with
  | new => exact ⟨new_chip, rfl, rfl⟩
  | put sec d _ _ _ _ _ ih => exact ⟨(wPlan_ok 10000000000000 (Nat.le_refl _) ih sec d).1.chip, rfl, rfl⟩
  | cut sec d k n _ _ _ _ _ ih => exact ⟨cutR_chip ih.1 _ _ _, rfl, rfl⟩
abbrev DrT := List ByteArray × List Int × List Int × Int × Int × Int
theorem small4 {d : ByteArray} (h : d ∈ [noVal, (ByteArray.mk #[97]), (ByteArray.mk #[98, 98]), (ByteArray.mk #[104, 101, 108, 108, 111])]) : d.size ≤ 5 := by
  simp only [List.mem_cons, List.not_mem_nil, or_false] at h
  rcases h with rfl | rfl | rfl | rfl <;> decide
theorem spec_ChipNew_eq : spec.ChipNew.f = some () := by
  unfold spec.ChipNew.f
  kernel_rfl
/-! ### the program's acts -/
theorem size_pos_of {t : ByteArray} (h : strEq t noVal = false) : 1 ≤ t.size := by
  rcases Nat.eq_zero_or_pos t.size with h0 | h0
  · rw [size_zero.1 h0, strEq_self] at h; cases h
  · exact h0
theorem impl_burn_eq {a : List ByteArray} {w : List Int} (h : chipOk a w) (p : Int) (t : ByteArray) : impl.burn.f a w p t = some (burnR a w p t) := by
  unfold impl.burn.f burnR
  have h60 := h.1
  have e1 : w64 ((a.length : Int) - 1) = 59 := by rw [w64_id (by omega) (by omega)]; omega
  rw [e1]
  refine bind_t (impl_cloneChip_eq a w h) (bind_t (impl_in_eq p 0 59) ?_)
  by_cases c : 0 ≤ p ∧ p ≤ 59
  case neg =>
    have hn : ¬ bPg a p t := fun e => c ⟨e.1, e.2.1⟩
    rw [if_neg hn]
    exact br_n c rfl
  refine br_d c (ck_t c.1 (ck_t (by omega) ?_))
  cases d : strEq (a.getD p.toNat noVal) noVal with
  | false =>
    have hn : ¬ bPg a p t := fun e => by rw [e.2.2.1] at d; cases d
    rw [if_neg hn]; exact br_f rfl rfl
  | true =>
  refine br_t rfl (bind_t (impl_in_eq (t.size : Int) 1 800) ?_)
  by_cases g : 1 ≤ (t.size : Int) ∧ (t.size : Int) ≤ 800
  · have e : strEq t noVal = false := by
      rw [← Bool.not_eq_true, strEq_iff]
      intro e
      have : noVal.size = 0 := rfl
      rw [e] at g; omega
    have hy : bPg a p t := ⟨c.1, c.2, d, e, by omega⟩
    rw [if_pos hy]; exact br_d g (ck_t (by show p < (a.length : Int); omega) rfl)
  · have hn : ¬ bPg a p t := fun k => by have := k.2.2.2.2; have := size_pos_of k.2.2.2.1; omega
    rw [if_neg hn]; exact br_n g rfl
theorem impl_clearFirst_l0 (A : List ByteArray) (W : List Int) (b : Nat) (hb : b < 10) (n : Int) (w : List Int) : ∀ (f i : Nat) (a : List ByteArray), a.length = 60 → 6 < i + f → i ≤ 6 → impl.clearFirst.l0.f A W (b : Int) n f a w (i : Int) = some (wipe a b i ((min n.toNat 6) - i), w) := by
  intro f
  induction f with
  | zero => intro i a ha h hi; omega
  | succ f ih =>
    intro i a ha h hi
    rw [impl.clearFirst.l0.f]
    have e1 : w64 ((i : Int) + 1) = ((i + 1 : Nat) : Int) := wsucc (by omega)
    have e2 : w64 (w64 ((b : Int) * 6) + (i : Int)) = ((b * 6 + i : Nat) : Int) := by
      rw [w64_id (x := (b : Int) * 6) (by omega) (by omega), w64_id (by omega) (by omega)]; omega
    have e3 : maxI 0 (minI n 6) = ((min n.toNat 6 : Nat) : Int) := by
      unfold maxI minI
      split <;> split <;> omega
    by_cases c : (i : Int) < maxI 0 (minI n 6)
    · refine br_d c ?_
      rw [e3] at c
      rw [e1, e2, Int.toNat_natCast]
      refine ck_t (by omega) (ck_t (by omega) ?_)
      rw [ih (i + 1) _ (by rw [List.length_set]; exact ha) (by omega) (by omega)]
      have : min n.toNat 6 - i = (min n.toNat 6 - (i + 1)) + 1 := by omega
      rw [this]; rfl
    · refine br_n c ?_
      rw [e3] at c
      rw [show min n.toNat 6 - i = 0 by omega]; rfl
theorem impl_clearFirst_eq (K : Nat) (hK : 10000000000000 ≤ K) {a : List ByteArray} {w : List Int} (h : chipOk a w) (b n : Int) : impl.clearFirst.f K a w b n = some (clearR a w b n) := by
  unfold impl.clearFirst.f clearR
  have h60 := h.1; have h10 := h.2.1
  refine bind_t (impl_cloneChip_eq a w h) (bind_t (impl_in_eq b 0 9) ?_)
  by_cases c : 0 ≤ b ∧ b ≤ 9
  case neg =>
    have hn : ¬ cPg w b := fun e => c ⟨e.1, e.2.1⟩
    rw [if_neg hn]
    exact br_n c rfl
  refine br_d c (ck_t c.1 (ck_t (by omega) ?_))
  have hw := chip_wear h (i := b.toNat) (by omega)
  by_cases d : w.getD b.toNat 0 = 1000000000
  · have hn : ¬ cPg w b := fun e => e.2.2 d
    rw [if_neg hn]
    exact br_d (by omega) rfl
  · have hy : cPg w b := ⟨c.1, c.2, d⟩
    rw [if_pos hy]
    obtain ⟨k, rfl⟩ := Int.eq_ofNat_of_zero_le c.1
    have hw := chip_wear h (i := k) (by omega)
    have e1 : w64 (w.getD k 0 + 1) = w.getD k 0 + 1 := w64_id (by omega) (by omega)
    refine br_n (by omega) (bind_t (impl_clearFirst_l0 a w k (by omega) n w K 0 a h60 (by omega) (by omega)) (ck_t (by show (k : Int) < (w.length : Int); omega) ?_))
    show some (_, w.set k (w64 (w.getD k 0 + 1)), true) = _
    rw [e1]; rfl

/-! ### the program's planner -/
theorem impl_worst_l0 (K : Nat) (hK : 10000000000000 ≤ K) (a : List ByteArray) (w m : List Int) (s : Int) (h : ftlOk a w m s) (p : Int) (hp : p = -1 ∨ (0 ≤ p ∧ p < 60 ∧ (p % 6 = 0 → frB a (p / 6).toNat = true))) : ∀ (g i : Nat) (best : Int), 10 < i + g → i ≤ 10 → (best = -1 ∨ ∃ v : Nat, v < 10 ∧ best = (v : Int)) →
    impl.worst.l0.f K a w m s g best p (i : Int) = some (wst a w m (opB p) (List.range' i (10 - i)) best) := by
  have ha := h.1.1
  have hw := h.1.2.1
  intro g
  induction g with
  | zero => intro i best hg hi; omega
  | succ g ih =>
    intro i best hg hi hb
    rw [impl.worst.l0.f]
    by_cases c : i < 10
    case neg =>
      rw [show 10 - i = 0 by omega]
      exact br_n (by omega) rfl
    have e1 : w64 ((i : Int) + 1) = ((i + 1 : Nat) : Int) := wsucc (by omega)
    have hfr := impl_isFree_eq K hK a w ha i c
    have hlw : ∀ v : Nat, v < 10 → impl.lives.f K a w m s (v : Int) = some (livL m (v : Int) 0 6, (livL m (v : Int) 0 6).length) := by
      intro v hv
      rw [impl_lives_eq K hK a w m s (v : Int) h, if_pos (by omega)]
    simp only [e1, Int.toNat_natCast]
    rw [show 10 - i = (10 - (i + 1)) + 1 by omega, List.range'_succ]
    have no : ∀ b : Int, wTake a w m (opB p) b i = false → wst a w m (opB p) (i :: List.range' (i + 1) (10 - (i + 1))) b = wst a w m (opB p) (List.range' (i + 1) (10 - (i + 1))) b := fun b hb => by rw [wst, hb, if_neg (by decide)]
    have ye : ∀ b : Int, wTake a w m (opB p) b i = true → wst a w m (opB p) (i :: List.range' (i + 1) (10 - (i + 1))) b = wst a w m (opB p) (List.range' (i + 1) (10 - (i + 1))) (i : Int) := fun b hb => by rw [wst, hb, if_pos rfl]
    have hstay := ih (i + 1) best (by omega) (by omega) hb
    have hnew := ih (i + 1) (i : Int) (by omega) (by omega) (.inr ⟨i, c, rfl⟩)
    by_cases d : frB a i = true
    · rw [no best (by unfold wTake; rw [d]; rfl)]
      exact br_d (by omega) (bind_t hfr (br_t d hstay))
    have df : frB a i = false := by simpa using d
    have hp60 : p < 60 := by omega
    by_cases q : 0 ≤ p ∧ p / 6 = (i : Int)
    · have ho : ((i : Int) == opB p) = true := by
        unfold opB
        rw [if_neg (by omega)]
        by_cases z : p % 6 = 0
        · rcases hp with hp | hp
          · omega
          · have := hp.2.2 z
            rw [q.2, Int.toNat_natCast] at this
            exact absurd this d
        · rw [if_neg z, q.2]; simp
      rw [no best (by unfold wTake; rw [ho]; simp)]
      exact br_d (by omega) (bind_t hfr (br_f df (impl_skip1 hp60 q hstay)))
    have ho : ((i : Int) == opB p) = false := by
      rw [beq_eq_false_iff_ne]
      unfold opB
      split
      · omega
      · split
        · omega
        · omega
    by_cases b0 : best < 0
    · rw [ye best (by unfold wTake; rw [ho, df]; simp [b0])]
      exact br_d (by omega) (bind_t hfr (br_f df (impl_skip hp60 q (bind_t (hlw i c) (br_d b0 hnew)))))
    obtain ⟨v, hv, rfl⟩ : ∃ v : Nat, v < 10 ∧ best = (v : Int) := by
      rcases hb with hb | hb
      · omega
      · exact hb
    have ht : wTake a w m (opB p) (v : Int) i = (decide (wLen m i < wLen m v) || (wLen m i == wLen m v && decide (w.getD i 0 < w.getD v 0))) := by
      unfold wTake
      rw [ho, df]
      simp only [Int.toNat_natCast, Bool.not_false, Bool.true_and]
      rw [decide_eq_false b0, Bool.false_or]
    by_cases b1 : ((livL m (i : Int) 0 6).length : Int) < ((livL m (v : Int) 0 6).length : Int)
    · rw [ye _ (by rw [ht]; unfold wLen; rw [decide_eq_true b1]; rfl)]
      exact br_d (by omega) (bind_t hfr (br_f df (impl_skip hp60 q (bind_t (hlw i c) (br_n b0 (bind_t (hlw v hv) (br_d b1 hnew)))))))
    by_cases b2 : ((livL m (i : Int) 0 6).length : Int) = ((livL m (v : Int) 0 6).length : Int)
    · have b2' : (((livL m (i : Int) 0 6).length : Int) == ((livL m (v : Int) 0 6).length : Int)) = true := by simpa using b2
      by_cases b3 : w.getD i 0 < w.getD v 0
      · rw [ye _ (by rw [ht]; unfold wLen; rw [b2', decide_eq_true b3]; simp)]
        exact br_d (by omega) (bind_t hfr (br_f df (impl_skip hp60 q (bind_t (hlw i c) (br_n b0 (bind_t (hlw v hv) (br_n b1 (bind_t (hlw v hv) (br_t b2' (ck_t (by omega) (ck_t (by omega) (ck_t (by omega) (br_d b3 hnew)))))))))))))
      · rw [no _ (by rw [ht]; unfold wLen; rw [decide_eq_false b1, decide_eq_false b3]; simp)]
        exact br_d (by omega) (bind_t hfr (br_f df (impl_skip hp60 q (bind_t (hlw i c) (br_n b0 (bind_t (hlw v hv) (br_n b1 (bind_t (hlw v hv) (br_t b2' (ck_t (by omega) (ck_t (by omega) (ck_t (by omega) (br_n b3 hstay)))))))))))))
    · have b2' : (((livL m (i : Int) 0 6).length : Int) == ((livL m (v : Int) 0 6).length : Int)) = false := by simpa using b2
      rw [no _ (by rw [ht]; unfold wLen; rw [b2', decide_eq_false b1]; rfl)]
      exact br_d (by omega) (bind_t hfr (br_f df (impl_skip hp60 q (bind_t (hlw i c) (br_n b0 (bind_t (hlw v hv) (br_n b1 (bind_t (hlw v hv) (br_f b2' hstay)))))))))
theorem impl_worst_eq (K : Nat) (hK : 10000000000000 ≤ K) {a : List ByteArray} {w m : List Int} {s : Int} (h : ftlOk a w m s) : impl.worst.f K a w m s = some (worstI a w m) := by
  unfold impl.worst.f worstI
  have ha := h.1.1
  have hw := h.1.2.1
  have hl := impl_worst_l0 K hK a w m s h (nxt a w) (nxt_ok a w ha) K 0 (-1) (by omega) (by omega) (.inl rfl)
  refine bind_t (impl_nextPage_eq K hK a w ha hw) (bind_t hl ?_)
  rw [Nat.sub_zero]
  rcases wst_char a w m (opB (nxt a w)) (List.range' 0 10) (-1) (.inl rfl) (fun v hv => by have := List.mem_range'_1.1 hv; omega) with ⟨h1, _⟩ | ⟨v, h1, h2, _⟩
  · rw [h1, if_neg (by omega)]
    exact br_d (by decide) rfl
  · rw [h1]
    refine br_n (by omega) (bind_t (by rw [impl_lives_eq K hK a w m s (v : Int) h, if_pos (by omega)]) ?_)
    by_cases c : wLen m v = 6
    · rw [if_pos ⟨by omega, by simpa using c⟩]
      exact br_t (by simpa [wLen] using c) rfl
    · rw [if_neg (fun e => c (by simpa using e.2))]
      exact br_f (by rw [beq_eq_false_iff_ne]; exact c) rfl
theorem ContainsI_l0 (l : List Int) (x : Int) (hl : l.length ≤ 1000000) : ∀ (f i : Nat), l.length < i + f → i ≤ l.length →
    (x ∈ l.drop i → ∃ j : Nat, slices.Index_int_int.l0.f l x f (i : Int) = some (.inl (j : Int))) ∧ (¬ x ∈ l.drop i → slices.Index_int_int.l0.f l x f (i : Int) = some (.inr ())) := by
  intro f
  induction f with
  | zero => intro i h hi; omega
  | succ f ih =>
    intro i h hi
    rw [slices.Index_int_int.l0.f]
    by_cases c : i < l.length
    case neg =>
      rw [List.drop_of_length_le (by omega)]
      exact ⟨fun e => (by cases e), fun _ => br_n (by omega) rfl⟩
    have e1 : w64 ((i : Int) + 1) = ((i + 1 : Nat) : Int) := wsucc (by omega)
    obtain ⟨g1, g2⟩ := ih (i + 1) (by omega) (by omega)
    rw [List.drop_eq_getElem_cons c]
    simp only [e1, Int.toNat_natCast, getD_at c]
    by_cases d : x = l[i]
    · exact ⟨fun _ => ⟨i, br_d (by omega) (ck_t (by omega) (br_t (by simpa using d) rfl))⟩, fun e => absurd (List.mem_cons.2 (.inl d)) e⟩
    · refine ⟨fun e => ?_, fun e => ?_⟩
      · rcases List.mem_cons.1 e with e | e
        · exact absurd e d
        · obtain ⟨j, hj⟩ := g1 e
          exact ⟨j, br_d (by omega) (ck_t (by omega) (br_f (by simpa using d) hj))⟩
      · exact br_d (by omega) (ck_t (by omega) (br_f (by simpa using d) (g2 (fun k => e (List.mem_cons_of_mem _ k)))))
theorem ContainsI_eq (K : Nat) (hK : 10000000000000 ≤ K) (l : List Int) (x : Int) (hl : l.length ≤ 1000000) : slices.Contains_int_int.f K l x = some (decide (x ∈ l)) := by
  unfold slices.Contains_int_int.f slices.Index_int_int.f
  obtain ⟨g1, g2⟩ := ContainsI_l0 l x hl K 0 (by omega) (by omega)
  rw [List.drop_zero] at g1 g2
  by_cases c : x ∈ l
  · obtain ⟨j, hj⟩ := g1 c
    rw [decide_eq_true c]
    exact bind_t (bind_t hj rfl) (by show some (decide ((j : Int) ≥ 0)) = _; rw [decide_eq_true (by omega)])
  · rw [decide_eq_false c]
    exact bind_t (bind_t (g2 c) rfl) rfl
theorem mem_freL {a : List ByteArray} {v : Nat} : v ∈ freL a ↔ v < 10 ∧ frB a v = true := by
  unfold freL
  rw [List.mem_filter]
  constructor
  · rintro ⟨h1, h2⟩
    have := List.mem_range'_1.1 h1
    exact ⟨by omega, h2⟩
  · rintro ⟨h1, h2⟩
    exact ⟨range10 h1, h2⟩
theorem impl_crowded_eq (K : Nat) (hK : 10000000000000 ≤ K) (x : Wk) (h : chipOk x.a x.w) : impl.crowded.f K x.a x.w = some (!(wStop x)) := by
  unfold impl.crowded.f wStop
  have ha := h.1
  have hw := h.2.1
  have hf := impl_freeBlocks_l0 K hK x.a x.w ha K 0 [] (by omega) (by omega) (by simp)
  rw [List.nil_append] at hf
  have hff : impl.freeBlocks.f K x.a x.w = some ((freL x.a).map fun (v : Nat) => (v : Int)) := by
    unfold impl.freeBlocks.f
    exact bind_t hf rfl
  have hmem : ∀ v, v ∈ freL x.a ↔ v < 10 ∧ frB x.a v = true := fun v => mem_freL
  refine bind_t hff ?_
  generalize hL : freL x.a = L at hmem
  by_cases c : L.length = 2
  case neg =>
    have e : (!decide (2 < L.length ∨ L.length = 2 ∧ 0 ≤ opB (nxt x.a x.w))) = decide ((((L.map fun (v : Nat) => (v : Int)).length : Nat) : Int) < 2) := by
      rw [List.length_map, ← decide_not]
      exact decide_eq_decide.2 (by omega)
    rw [e]
    exact br_t (by rw [List.length_map]; simpa using (by omega : ¬ (L.length : Int) = 2)) rfl
  obtain ⟨u, v, rfl⟩ : ∃ u v, L = [u, v] := by
    match L, c with
    | [u, v], _ => exact ⟨u, v, rfl⟩
  have hu := (hmem u).1 (by simp)
  have hv := (hmem v).1 (by simp)
  refine br_f (by simp) (ck_t (by simp) (ck_t (by simp) (ck_t (by simp) (ck_t (by simp) (bind_t (impl_nextPage_eq K hK x.a x.w ha hw) ?_)))))
  have e1 : w64 ((([u, v].map fun (v : Nat) => (v : Int)).getD 0 0) * 6) = (u : Int) * 6 := w64_id (by simp; omega) (by simp; omega)
  have e2 : w64 ((([u, v].map fun (v : Nat) => (v : Int)).getD 1 0) * 6) = (v : Int) * 6 := w64_id (by simp; omega) (by simp; omega)
  rw [e1, e2]
  refine bind_t (ContainsI_eq K hK _ _ (by simp)) ?_
  rw [← decide_not]
  refine congrArg some (decide_eq_decide.2 ?_)
  simp only [List.mem_cons, List.not_mem_nil, or_false, List.length_cons, List.length_nil, Nat.zero_add, Nat.reduceAdd, Nat.lt_irrefl, false_or, true_and]
  unfold opB
  constructor
  · intro hc
    rw [if_neg (by omega), if_pos (by omega)]; omega
  · intro hc
    rcases nxt_char x.a x.w with ⟨_, k2⟩ | ⟨z, k1, k2, k3⟩
    · have := (k2 u hu.1).2
      rw [hu.2] at this; cases this
    · by_cases hz : ptB x.a z = true
      · have q := of_decide_eq_true hz
        exfalso
        apply hc
        rw [k2]
        unfold ptP
        rw [if_neg (by omega), if_neg (by omega)]
        omega
      · have k4 := (k3.resolve_left hz).1
        have k5 := (hmem z).2 ⟨k1, k4⟩
        have q : (clr (blk x.a z)).1 = 6 := by simpa [frB] using k4
        rw [k2]
        unfold ptP
        simp only [List.mem_cons, List.not_mem_nil, or_false] at k5
        rcases k5 with rfl | rfl
        · left; omega
        · right; omega
theorem impl_Apply1 (K : Nat) (hK : 10000000000000 ≤ K) {a : List ByteArray} {w : List Int} (h : chipOk a w) (p : Int) (t : ByteArray) : impl.Apply.f K a w 1 p t = some (burnR a w p t) := by
  unfold impl.Apply.f
  exact bind_t (impl_ChipOk_eq K hK a w) (br_d h (br_t rfl (bind_t (impl_burn_eq h p t) rfl)))
theorem impl_Apply2 (K : Nat) (hK : 10000000000000 ≤ K) {a : List ByteArray} {w : List Int} (h : chipOk a w) (b : Int) : impl.Apply.f K a w 2 b noVal = some (clearR a w b 6) := by
  unfold impl.Apply.f
  exact bind_t (impl_ChipOk_eq K hK a w) (br_d h (br_f rfl (br_t rfl (br_t (strEq_self _) (bind_t (impl_clearFirst_eq K hK h b 6) rfl)))))
abbrev W6T := List ByteArray × List Int × List Int × Int × List (Int × Int × ByteArray) × Bool
/-- An Ftl at work, as the program holds it. -/
def W6 (x : Wk) : W6T := (x.a, x.w, x.m, x.s, x.q, !x.ok)
theorem impl_pburn (K : Nat) (hK : 10000000000000 ≤ K) (x : Wk) (hc : chipOk x.a x.w) (hj : x.ok = true → Jn x) (hq : x.q.length ≤ 1000000) (sec : Int) (d : ByteArray) (b : Int) (hp : ∀ v : Nat, v < 10 → ptB x.a v = true → (v : Int) ≠ b) (hf : ∀ v : Nat, v < 10 → frB x.a v = true → (v : Int) ≠ b) :
    impl.planner.burn.f K x.a x.w x.m x.s x.q (!x.ok) sec d b = some (W6 (if x.ok = true then wBurn x sec d else x)) := by
  unfold impl.planner.burn.f
  refine bind_t (impl_nextPage_b K hK x.a x.w hc.1 hc.2.1 b hp hf) ?_
  cases hok : x.ok with
  | false =>
    rw [if_neg (by decide)]
    refine br_t rfl ?_
    unfold W6; rw [hok]; rfl
  | true =>
  rw [if_pos rfl]
  have hJ := hj hok
  have hfail : ∀ {z : Wk}, z = { x with ok := false } → (some (x.a, x.w, x.m, x.s, x.q, true) : Option W6T) = some (W6 z) := by rintro z rfl; rfl
  unfold wBurn
  refine br_f rfl (bind_t (impl_RecOk_eq sec x.s d) ?_)
  by_cases c2 : recOk sec x.s d
  case neg => exact br_n c2 (hfail (if_neg (fun c => c2 c.2.1)))
  refine br_d c2 ?_
  by_cases c3 : x.s = 1000000000
  · exact br_t (by simpa using c3) (hfail (if_neg (fun c => c.2.2 c3)))
  refine br_f (by rw [beq_eq_false_iff_ne]; exact c3) ?_
  by_cases c1 : nxt x.a x.w < 0
  · exact br_d c1 (hfail (if_neg (fun c => by have := c.1; omega)))
  have hb : bOk x sec d := ⟨by omega, c2, c3⟩
  rw [if_pos hb]
  obtain ⟨v, g1, g2, g3, g4, _⟩ := nxt_burn (w := x.w) hc.1 hb.1 (eB_rec c2)
  have ht := impl_RecText_eq K hK sec x.s d
  rw [if_pos c2] at ht
  have ha := impl_Apply1 K hK hc (nxt x.a x.w) (ofBytes (recI sec x.s d))
  have hbp : bPg x.a (nxt x.a x.w) (ofBytes (recI sec x.s d)) := ⟨hb.1, by omega, by rw [g4]; exact strEq_self _, recI_ne c2, by have := recI_size c2; omega⟩
  unfold burnR at ha
  rw [if_pos hbp] at ha
  obtain ⟨j1, j2⟩ := Jn_burn hJ hb
  have hm := impl_mount_eq K hK (bDo x sec d).a (bDo x sec d).w j1.1.1
  rw [← j1.1.2.1, ← j1.1.2.2] at hm
  refine br_n c1 (bind_t ht (bind_t (a := W6 (bDo x sec d)) ?_ rfl))
  unfold impl.planner.act.f
  refine bind_t ha (br_f rfl (br_t rfl (ck_t ?_ (bind_t hm ?_))))
  · rw [List.length_append, List.length_singleton]; omega
  · unfold W6 bDo; rw [hok]
theorem cleanL_no (b : Int) (l : List Int) (x : Wk) (h : x.ok = false) : cleanL b l x = x := by
  cases l with
  | nil => rfl
  | cons p l => unfold cleanL; rw [if_neg (by rw [h]; decide)]
theorem Clo_ne {a : List ByteArray} {b : Nat} (h : Clo a b) : (∀ v : Nat, v < 10 → ptB a v = true → (v : Int) ≠ (b : Int)) ∧ ∀ v : Nat, v < 10 → frB a v = true → (v : Int) ≠ (b : Int) := by
  refine ⟨fun v _ hp e => ?_, fun v _ hp e => ?_⟩
  · have : v = b := by omega
    subst this; rw [h.2] at hp; cases hp
  · have : v = b := by omega
    subst this; rw [h.1] at hp; cases hp
theorem wBurn_Jn {x : Wk} (h : x.ok = true → Jn x) (hok : x.ok = true) (sec : Int) (d : ByteArray) : ((wBurn x sec d).ok = true → Jn (wBurn x sec d)) ∧ ∀ b, b < 10 → Clo x.a b → Clo (wBurn x sec d).a b := by
  unfold wBurn
  split
  · rename_i c
    exact ⟨fun _ => (Jn_burn (h hok) c).1, (Jn_burn (h hok) c).2⟩
  · exact ⟨fun e => (by cases e), fun b _ hc => hc⟩
theorem nxt_not {a : List ByteArray} {w : List Int} {b : Nat} (h : Clo a b) (h0 : 0 ≤ nxt a w) : ¬ nxt a w / 6 = (b : Int) := by
  intro e
  rcases nxt_char a w with ⟨h1, _⟩ | ⟨v, h1, h2, h3⟩
  · omega
  have hc : 0 < (clr (blk a v)).1 ∧ (clr (blk a v)).1 ≤ 6 := by
    rcases h3 with h3 | h3
    · have := of_decide_eq_true h3; omega
    · have : (clr (blk a v)).1 = 6 := by simpa [frB] using h3.1
      omega
  have : v = b := by rw [h2] at e; unfold ptP at e; omega
  subst this
  rcases h3 with h3 | h3
  · rw [h.2] at h3; cases h3
  · rw [h.1] at h3; cases h3.1
theorem impl_clean_l0 (K : Nat) (hK : 10000000000000 ≤ K) (b : Nat) (hb : b < 10) (L : List Int) (hL : L.length ≤ 100) (hx : ∀ p ∈ L, 0 ≤ p ∧ p < 60) : ∀ (f i : Nat) (x : Wk), L.length < i + f → i ≤ L.length → WkOk x → (x.ok = true → Jn x) → Clo x.a b → x.q.length + (L.length - i) ≤ 1000000 →
    impl.planner.clean.l0.f K (b : Int) f x.a x.w x.m x.s x.q (!x.ok) L L.length (L.length : Int) (i : Int) = some (W6 (cleanL (b : Int) (L.drop i) x)) ∧ ((cleanL (b : Int) (L.drop i) x).ok = true → Jn (cleanL (b : Int) (L.drop i) x)) := by
  intro f
  induction f with
  | zero => intro i x h hi; omega
  | succ f ih =>
    intro i x h hi hk hj hcl hq
    rw [impl.planner.clean.l0.f]
    by_cases c : i < L.length
    case neg =>
      rw [List.drop_of_length_le (by omega)]
      exact ⟨br_n (by omega) rfl, hj⟩
    have e1 : w64 ((i : Int) + 1) = ((i + 1 : Nat) : Int) := wsucc (by omega)
    obtain ⟨p0, p1⟩ := hx _ (List.getElem_mem c)
    rw [List.drop_eq_getElem_cons c]
    rw [← getD_at c 0] at p0 p1 ⊢
    have hread : impl.RecRead.f K (x.a.getD (L.getD i 0).toNat noVal) = some (pg x.a (L.getD i 0).toNat) := impl_RecRead_eq K hK _ (by
      have := chip_page hk.chip (x.a.getD (L.getD i 0).toNat noVal) (by rw [getD_at (by have := hk.chip.1; omega)]; exact List.getElem_mem _)
      omega)
    have h60 := hk.chip.1
    obtain ⟨n1, n2⟩ := Clo_ne hcl
    have hbn := impl_pburn K hK x hk.chip hj (by omega) (pg x.a (L.getD i 0).toNat).1 (pg x.a (L.getD i 0).toNat).2.2.1 (b : Int) n1 n2
    rw [e1]
    cases hok : x.ok with
    | false =>
      rw [hok, if_neg (by decide)] at hbn
      have := ih (i + 1) x (by omega) (by omega) hk hj hcl (by omega)
      rw [cleanL_no _ _ x hok] at this ⊢
      rw [hok] at this
      refine ⟨br_d (by omega) (ck_t (by omega) (ck_t (by omega) (ck_t (by show i < L.length; omega) (ck_t p0 (ck_t (by show L.getD i 0 < (x.a.length : Int); omega) (bind_t hread (bind_t hbn ?_))))))), hj⟩
      unfold W6
      rw [hok]
      have t1 := this.1
      unfold W6 at t1
      rw [hok] at t1
      exact t1
    | true =>
      rw [hok, if_pos rfl] at hbn
      obtain ⟨k1, k2⟩ := wBurn_Jn hj hok (pg x.a (L.getD i 0).toNat).1 (pg x.a (L.getD i 0).toNat).2.2.1
      have hbq := wBurn_q x (pg x.a (L.getD i 0).toNat).1 (pg x.a (L.getD i 0).toNat).2.2.1
      have := ih (i + 1) (wBurn x (pg x.a (L.getD i 0).toNat).1 (pg x.a (L.getD i 0).toNat).2.2.1) (by omega) (by omega) (wBurn_ok hk _ _) k1 (k2 b hb hcl) (by omega)
      have hcl2 : cleanL (b : Int) (L.getD i 0 :: L.drop (i + 1)) x = cleanL (b : Int) (L.drop (i + 1)) (wBurn x (pg x.a (L.getD i 0).toNat).1 (pg x.a (L.getD i 0).toNat).2.2.1) := by
        rw [cleanL, if_pos hok]
        by_cases q : nxt x.a x.w < 0
        · rw [if_pos (.inl q)]
          have : wBurn x (pg x.a (L.getD i 0).toNat).1 (pg x.a (L.getD i 0).toNat).2.2.1 = { x with ok := false } := if_neg (fun e => by have := e.1; omega)
          rw [this, cleanL_no _ _ _ rfl]
        · rw [if_neg (fun e => e.elim q (nxt_not hcl (by omega)))]
      rw [hcl2]
      exact ⟨br_d (by omega) (ck_t (by omega) (ck_t (by omega) (ck_t (by show i < L.length; omega) (ck_t p0 (ck_t (by show L.getD i 0 < (x.a.length : Int); omega) (bind_t hread (bind_t hbn this.1))))))), this.2⟩
theorem impl_clean_eq (K : Nat) (hK : 10000000000000 ≤ K) (x : Wk) (hk : WkOk x) (hok : x.ok = true) (hj : Jn x) (b : Nat) (hb : b < 10) (hcl : Clo x.a b) (hq : x.q.length ≤ 900000) :
    ∃ z : Wk, impl.planner.clean.f K x.a x.w x.m x.s x.q (!x.ok) (b : Int) = some (W6 z) ∧ chipOk z.a z.w ∧ z.ok = (wClean x b).ok ∧ (z.ok = true → z = wClean x b ∧ Jn z) := by
  unfold impl.planner.clean.f
  have h10 := hk.chip.2.1
  have hw := chip_wear hk.chip hb
  have hfr := impl_isFree_eq K hK x.a x.w hk.chip.1 b hb
  rw [hcl.1] at hfr
  have hpre : ∀ {o : Option W6T} {z : W6T}, cond (decide ((x.w.getD (b : Int).toNat 0) ≥ 1000000000)) (some (x.a, x.w, x.m, x.s, x.q, true)) o = some z → ∀ (F : Option W6T), cond (!x.ok) F (Option.bind (impl.in_.f (b : Int) 0 9) fun x1 => cond (x1) (Option.bind (impl.isFree.f K x.a x.w (b : Int)) fun x2 => cond (x2) (some (x.a, x.w, x.m, x.s, x.q, true)) (ck (0 ≤ (b : Int)) (ck ((b : Int) < (x.w.length : Int)) (cond (decide ((x.w.getD (b : Int).toNat 0) ≥ 1000000000)) (some (x.a, x.w, x.m, x.s, x.q, true)) o)))) (some (x.a, x.w, x.m, x.s, x.q, true))) = some z := by
    intro o z e F
    exact br_f (by rw [hok]; rfl) (bind_t (impl_in_eq (b : Int) 0 9) (br_d (by omega) (bind_t hfr (br_f rfl (ck_t (by omega) (ck_t (by omega) e))))))
  by_cases c : x.w.getD b 0 = 1000000000
  · refine ⟨{ x with ok := false }, hpre (br_d (by rw [Int.toNat_natCast]; omega) rfl) _, hk.chip, ?_, fun e => (by cases e)⟩
    unfold wClean
    simp only
    rw [if_neg (fun e => e.2 c)]
  have hlv := livL_six hj.1 b
  have hli : impl.lives.f K x.a x.w x.m x.s (b : Int) = some (livL x.m (b : Int) 0 6, (livL x.m (b : Int) 0 6).length) := by
    rw [impl_lives_eq K hK x.a x.w x.m x.s (b : Int) hj.1, if_pos (by omega)]
  obtain ⟨l1, l2⟩ := impl_clean_l0 K hK b hb (livL x.m (b : Int) 0 6) (by omega) (livL_range hb) K 0 x (by omega) (by omega) hk (fun _ => hj) hcl (by omega)
  rw [List.drop_zero] at l1 l2
  obtain ⟨y1, y2, y3⟩ := cleanL_ok (b : Int) (livL x.m (b : Int) 0 6) x hk
  have hwc := wClean_ok hk hb hlv
  have hone := fun e => One_wipe (l2 e).1.1.1 hb (l2 e).2
  unfold wClean at hwc ⊢
  simp only at hwc ⊢
  generalize cleanL (b : Int) (livL x.m (b : Int) 0 6) x = y at l1 l2 y1 y2 y3 hwc hone ⊢
  have ha := impl_Apply2 K hK y1.chip (b : Int)
  have hcp : cPg y.w (b : Int) := ⟨by omega, by omega, by rw [y2, Int.toNat_natCast]; exact c⟩
  unfold clearR at ha
  rw [if_pos hcp, Int.toNat_natCast] at ha
  cases hy : y.ok with
  | false =>
    refine ⟨y, hpre (br_n (by rw [Int.toNat_natCast]; omega) (bind_t hli (bind_t l1 (bind_t (a := W6 y) ?_ rfl)))) _, y1.chip, ?_, fun e => by rw [hy] at e; cases e⟩
    · unfold impl.planner.act.f
      refine bind_t ha (br_t (by unfold W6; rw [hy]; rfl) ?_)
      unfold W6; rw [hy]; rfl
    · rw [if_neg (fun e => by cases e.1)]; exact hy
  | true =>
    rw [hy, if_pos ⟨rfl, c⟩] at hwc
    rw [if_pos ⟨rfl, c⟩]
    have hf := hwc.2.2 rfl
    have hm := impl_mount_eq K hK _ _ hf.1
    refine ⟨_, hpre (br_n (by rw [Int.toNat_natCast]; omega) (bind_t hli (bind_t l1 (bind_t (a := W6 ⟨wipe y.a b 0 6, x.w.set b (x.w.getD b 0 + 1), (mnt (wipe y.a b 0 6)).map, (mnt (wipe y.a b 0 6)).seq, y.q ++ [(2, (b : Int), noVal)], true⟩) ?_ rfl)))) _, hf.1, rfl, fun _ => ⟨rfl, hf, hone hy⟩⟩
    unfold impl.planner.act.f
    refine bind_t ha (br_f (by unfold W6; rw [hy]; rfl) (br_t rfl (ck_t ?_ ?_)))
    · show ((y.q ++ [(2, (b : Int), noVal)]).length * 32 ≤ 70368744177664)
      rw [List.length_append, List.length_singleton]; omega
    · rw [show y.w = x.w from y2]
      refine bind_t hm ?_
      unfold W6; rw [hy]
theorem wRoom_no (k : Nat) (x : Wk) (h : x.ok = false) : wRoom k x = x := by
  cases k with
  | zero => rfl
  | succ k => unfold wRoom; rw [if_neg (by rw [h]; decide)]
theorem impl_room_l0 (K : Nat) (hK : 10000000000000 ≤ K) (sec : Int) (d : ByteArray) : ∀ (f i : Nat) (x : Wk), 10 < i + f → i ≤ 10 → chipOk x.a x.w → (x.ok = true → Jn x ∧ WkOk x ∧ x.q.length + 7 * (10 - i) ≤ 900000) →
    ∃ z : Wk, impl.planner.plan.l0.f K sec d f x.a x.w x.m x.s x.q (!x.ok) (i : Int) = some (W6 z) ∧ chipOk z.a z.w ∧ z.ok = (wRoom (10 - i) x).ok ∧ (z.ok = true → z = wRoom (10 - i) x ∧ Jn z) := by
  intro f
  induction f with
  | zero => intro i x h hi; omega
  | succ f ih =>
    intro i x h hi hc hx
    rw [impl.planner.plan.l0.f]
    by_cases c : i < 10
    case neg =>
      rw [show 10 - i = 0 by omega]
      exact ⟨x, br_n (by omega) rfl, hc, rfl, fun e => ⟨rfl, (hx e).1⟩⟩
    have e1 : w64 ((i : Int) + 1) = ((i + 1 : Nat) : Int) := wsucc (by omega)
    rw [e1]
    cases hok : x.ok with
    | false =>
      rw [wRoom_no _ x hok]
      exact ⟨x, br_d (by omega) (br_t rfl (by unfold W6; rw [hok])), hc, rfl, fun e => by rw [hok] at e; cases e⟩
    | true =>
    obtain ⟨hj, hk, hq⟩ := hx hok
    have hcr := impl_crowded_eq K hK x hc
    rw [show 10 - i = (10 - (i + 1)) + 1 by omega, wRoom, if_pos hok]
    cases hs : wStop x with
    | true =>
      rw [hs] at hcr
      rw [if_pos rfl]
      exact ⟨x, br_d (by omega) (br_f rfl (bind_t hcr (br_f rfl (by unfold W6; rw [hok])))), hc, rfl, fun _ => ⟨rfl, hj⟩⟩
    | false =>
    rw [hs] at hcr
    rw [if_neg (by decide)]
    have hwo := impl_worst_eq K hK hj.1
    by_cases wn : worstI x.a x.w x.m < 0
    · rw [if_pos wn]
      have hcn : impl.planner.clean.f K x.a x.w x.m x.s x.q false (worstI x.a x.w x.m) = some (W6 { x with ok := false }) := by
        unfold impl.planner.clean.f
        exact br_f rfl (bind_t (impl_in_eq _ 0 9) (br_n (by omega) rfl))
      obtain ⟨z, z1, z2, z3, z4⟩ := ih (i + 1) { x with ok := false } (by omega) (by omega) hc (fun e => (by cases e))
      rw [wRoom_no _ _ rfl] at z3 z4
      exact ⟨z, br_d (by omega) (br_f rfl (bind_t hcr (br_t rfl (bind_t hwo (bind_t hcn z1))))), z2, z3, z4⟩
    · rw [if_neg wn]
      obtain ⟨b, b1, b2, b3, _⟩ := worstI_clo (w := x.w) (m := x.m) hc.1 hj.2 wn
      rw [b1] at hwo ⊢
      rw [Int.toNat_natCast]
      obtain ⟨y, y1, y2, y3, y4⟩ := impl_clean_eq K hK x hk hok hj b b2 b3 (by omega)
      rw [hok] at y1
      have hwc := wClean_ok hk b2 (livL_six hj.1 b)
      obtain ⟨z, z1, z2, z3, z4⟩ := ih (i + 1) y (by omega) (by omega) y2 (fun e => by
        obtain ⟨g1, g2⟩ := y4 e
        rw [g1]
        exact ⟨by rw [← g1]; exact g2, hwc.1, by have := hwc.2.1; omega⟩)
      have key : y.ok = true ∨ y.ok = false := by cases y.ok <;> simp
      rcases key with ky | ky
      · rw [(y4 ky).1] at z3 z4
        exact ⟨z, br_d (by omega) (br_f rfl (bind_t hcr (br_t rfl (bind_t hwo (bind_t y1 z1))))), z2, z3, z4⟩
      · rw [wRoom_no _ y ky] at z3 z4
        rw [ky] at y3
        rw [wRoom_no _ _ y3.symm]
        refine ⟨z, br_d (by omega) (br_f rfl (bind_t hcr (br_t rfl (bind_t hwo (bind_t y1 z1))))), z2, by rw [z3, ky, ← y3], fun e => ?_⟩
        rw [z3, ky] at e; cases e
/-- A put, planned on an Ftl at work. -/
def wPl (x : Wk) (sec : Int) (d : ByteArray) : Wk := if (wRoom 10 x).ok = true then wBurn (wRoom 10 x) sec d else wRoom 10 x
theorem impl_pplan_eq (K : Nat) (hK : 10000000000000 ≤ K) (sec : Int) (d : ByteArray) (x : Wk) (hc : chipOk x.a x.w) (hx : x.ok = true → Jn x ∧ WkOk x ∧ x.q.length ≤ 800000) :
    ∃ z : Wk, impl.planner.plan.f K x.a x.w x.m x.s x.q (!x.ok) sec d = some (W6 z) ∧ chipOk z.a z.w ∧ z.ok = (wPl x sec d).ok ∧ (z.ok = true → z = wPl x sec d ∧ Jn z ∧ WkOk z ∧ z.q.length ≤ x.q.length + 71) := by
  unfold impl.planner.plan.f wPl
  obtain ⟨y, y1, y2, y3, y4⟩ := impl_room_l0 K hK sec d K 0 x (by omega) (by omega) hc (fun e => ⟨(hx e).1, (hx e).2.1, by have := (hx e).2.2; omega⟩)
  rw [Nat.sub_zero] at y3 y4
  have hroom := fun e => wRoom_ok K hK 10 x (hx e).2.1 (fun _ => (hx e).1.1)
  have hno : x.ok = false → y.ok = false := fun e => by rw [y3, wRoom_no _ x e, e]
  have hxk : y.ok = true → x.ok = true := fun e => by
    cases g : x.ok with
    | true => rfl
    | false => rw [hno g] at e; cases e
  cases hy : y.ok with
  | false =>
    have hb : impl.planner.burn.f K y.a y.w y.m y.s y.q (!y.ok) sec d (-1) = some (W6 y) := by
      unfold impl.planner.burn.f
      refine bind_t (impl_nextPage_eq K hK y.a y.w y2.1 y2.2.1) (br_t (by rw [hy]; rfl) ?_)
      unfold W6; rw [hy]; rfl
    rw [hy] at y3
    rw [← y3, if_neg (by decide)]
    exact ⟨y, bind_t y1 (bind_t hb rfl), y2, by rw [hy, y3], fun e => by rw [hy] at e; cases e⟩
  | true =>
    obtain ⟨g1, g2⟩ := y4 hy
    obtain ⟨r1, r2, r3⟩ := hroom (hxk hy)
    have hq := (hx (hxk hy)).2.2
    rw [← g1] at r1 r2 r3 ⊢
    rw [if_pos hy]
    have hb := impl_pburn K hK y y2 (fun _ => g2) (by omega) sec d (-1) (fun v _ _ => by omega) (fun v _ _ => by omega)
    rw [if_pos hy] at hb
    have hbq := wBurn_q y sec d
    exact ⟨wBurn y sec d, bind_t y1 (bind_t hb rfl), (wBurn_ok r1 sec d).chip, rfl, fun e => ⟨rfl, (wBurn_Jn (fun _ => g2) hy sec d).1 e, wBurn_ok r1 sec d, by omega⟩⟩

/-! ### even wear -/
def cl (a : List ByteArray) (v : Nat) : Nat := (clr (blk a v)).1
def su : Nat → (Nat → Int) → Int
  | 0, _ => 0
  | n + 1, f => su n f + f n
theorem su_congr (f g : Nat → Int) : ∀ n, (∀ v, v < n → f v = g v) → su n f = su n g
  | 0, _ => rfl
  | n + 1, h => by rw [su, su, su_congr f g n (fun v hv => h v (by omega)), h n (by omega)]
theorem su_le (f g : Nat → Int) : ∀ n, (∀ v, v < n → f v ≤ g v) → su n f ≤ su n g
  | 0, _ => Int.le_refl _
  | n + 1, h => by
    have h1 := su_le f g n (fun v hv => h v (by omega))
    have h2 := h n (by omega)
    rw [su, su]; omega
theorem su_upd (f g : Nat → Int) (b : Nat) : ∀ n, b < n → (∀ v, v < n → v ≠ b → f v = g v) → su n f + g b = su n g + f b
  | 0, h, _ => by omega
  | n + 1, h, hv => by
    rw [su, su]
    by_cases c : b = n
    · subst c
      rw [su_congr f g b (fun v h1 => hv v (by omega) (by omega))]; omega
    · have h1 := su_upd f g b n (by omega) (fun v h1 h2 => hv v (by omega) h2)
      have h2 := hv n (by omega) (by omega)
      omega
theorem su_mul (k : Int) (f : Nat → Int) : ∀ n, su n (fun v => k * f v) = k * su n f
  | 0 => by simp [su]
  | n + 1 => by rw [su, su, su_mul k f n, Int.mul_add]
theorem su_one (k : Int) (n : Nat) : su n (fun _ => k) = n * k := by
  induction n with
  | zero => simp [su]
  | succ n ih => rw [su, ih]; rw [show ((n + 1 : Nat) : Int) = (n : Int) + 1 by omega, Int.add_mul, Int.one_mul]
theorem su_sub (f g : Nat → Int) : ∀ n, su n (fun v => f v - g v) = su n f - su n g
  | 0 => rfl
  | n + 1 => by rw [su, su, su, su_sub f g n]; omega
theorem su_filter (P : Nat → Bool) : ∀ n, (((List.range' 0 n).filter P).length : Int) = su n (fun v => if P v = true then 1 else 0)
  | 0 => rfl
  | n + 1 => by
    rw [List.range'_1_concat, List.filter_append, List.length_append, su, ← su_filter P n, Nat.zero_add, List.filter_cons, List.filter_nil]
    by_cases c : P n = true
    · rw [if_pos c, if_pos c]; simp
    · rw [if_neg c, if_neg c]; simp
theorem freL_su (a : List ByteArray) : ((freL a).length : Int) = su 10 (fun v => if frB a v = true then 1 else 0) := su_filter (frB a) 10
theorem nodup_sub : ∀ (L l : List Nat), l.Nodup → (∀ x ∈ l, x ∈ L) → l.length ≤ L.length
  | [], l, _, h => by
    cases l with
    | nil => exact Nat.le_refl _
    | cons x l => have := h x (List.mem_cons_self ..); cases this
  | y :: L, l, hn, h => by
    have h1 := nodup_sub L (l.erase y) (hn.erase y) (fun x hx => by
      have h2 := (hn.mem_erase_iff).1 hx
      rcases List.mem_cons.1 (h x h2.2) with e | e
      · exact absurd e h2.1
      · exact e)
    have h3 := List.length_erase (a := y) (l := l)
    rw [List.length_cons]
    rw [h3] at h1
    split at h1 <;> omega
theorem livL_in {m : List Int} {b x : Int} {i d : Nat} (h : x ∈ livL m b i d) : x ∈ m := by
  have h1 := List.count_pos_iff.2 h
  rw [cnt_livL] at h1
  split at h1
  · exact List.count_pos_iff.1 h1
  · omega
/-- After i puts of sectors below five. -/
structure Ev (i : Nat) (a : List ByteArray) (w m : List Int) (s : Int) : Prop where
  ftl : ftlOk a w m s
  one : One a
  shp : ∀ v, v < 10 → 0 < cl a v → (clr (blk a v)).2 = cl a v
  rcd : ∀ p, p < 60 → a.getD p noVal = noVal ∨ ((pg a p).2.2.2 = true ∧ (pg a p).1 ≤ 4)
  sq : s ≤ (i : Int) + 1
  cnt : su 10 (fun v => 6 - (cl a v : Int)) + 6 * su 10 (fun v => w.getD v 0) = (i : Int)
  few : su 10 (fun v => w.getD v 0) = 0 ∨ 6 * su 10 (fun v => w.getD v 0) + 42 ≤ (i : Int)
  fre : 2 ≤ (freL a).length
  wr : ∀ v, v < 10 → w.getD v 0 ≤ 4 ∧ (frB a v = false → w.getD v 0 ≤ 3)
theorem frB_cl {a : List ByteArray} {v : Nat} : frB a v = true ↔ cl a v = 6 := by unfold frB cl; simp
theorem frB_cl' {a : List ByteArray} {v : Nat} : frB a v = false ↔ cl a v ≠ 6 := by unfold frB cl; simp
theorem ptB_cl {i : Nat} {a : List ByteArray} {w m : List Int} {s : Int} (h : Ev i a w m s) {v : Nat} (hv : v < 10) : ptB a v = true ↔ 0 < cl a v ∧ cl a v < 6 := by
  unfold ptB
  rw [decide_eq_true_eq]
  constructor
  · rintro ⟨h1, h2, h3⟩; exact ⟨h1, h2⟩
  · rintro ⟨h1, h2⟩; exact ⟨h1, h2, h.shp v hv h1⟩
theorem cl_le {a : List ByteArray} (ha : a.length = 60) {v : Nat} (hv : v < 10) : cl a v ≤ 6 := (fcl_eq (blk_length (by omega))).2
/-- No block is begun and two are free: a block holds no live sector. -/
theorem few_lives {i : Nat} {a : List ByteArray} {w m : List Int} {s : Int} (h : Ev i a w m s) (hf : (freL a).length = 2) : ∃ u, u < 10 ∧ frB a u = false ∧ wLen m u = 0 := by
  refine Classical.byContradiction fun hno => ?_
  have hall : ∀ u, u < 10 → frB a u = false → ∃ k, k < 5 ∧ u = (m.getD k 0 / 6).toNat := by
    intro u hu hfr
    have hl : wLen m u ≠ 0 := fun e => hno ⟨u, hu, hfr, e⟩
    have hl2 : 0 < (livL m (u : Int) 0 6).length := by unfold wLen at hl; omega
    obtain ⟨x, hx⟩ := List.exists_mem_of_length_pos hl2
    have hr := livL_mem 6 0 hx
    obtain ⟨k, hk, he⟩ := List.getElem_of_mem (livL_in hx)
    obtain ⟨f1, f2, f3⟩ := h.ftl
    have ho := mnt_ok a
    have hk26 : k < 26 := by rw [← ho.mlen, ← f2]; exact hk
    have hat := ho.at_ k hk26
    rw [← f2] at hat
    have hg : m.getD k 0 = x := by rw [getD_at hk]; exact he
    rcases hat with ⟨g, _⟩ | ⟨p, g1, g2, g3, g4, _⟩
    · omega
    · rcases h.rcd p (by have := f1.1; omega) with r | r
      · rw [pg_clear r] at g3; cases g3
      · exact ⟨k, by omega, by rw [hg]; omega⟩
  have hnf : ((List.range' 0 10).filter fun v => !frB a v).length ≤ 5 := by
    have := nodup_sub [(m.getD 0 0 / 6).toNat, (m.getD 1 0 / 6).toNat, (m.getD 2 0 / 6).toNat, (m.getD 3 0 / 6).toNat, (m.getD 4 0 / 6).toNat] ((List.range' 0 10).filter fun v => !frB a v) ((List.nodup_range' ..).filter _) (fun u hu => by
      obtain ⟨h1, h2⟩ := List.mem_filter.1 hu
      have h3 := List.mem_range'_1.1 h1
      obtain ⟨k, hk, rfl⟩ := hall u (by omega) (by simpa using h2)
      rcases k with _ | _ | _ | _ | _ | k
      · simp
      · simp
      · simp
      · simp
      · simp
      · omega)
    simpa using this
  have h2 := su_filter (fun v => !frB a v) 10
  have h3 := freL_su a
  have h4 := su_sub (fun _ => 1) (fun v => if frB a v = true then (1 : Int) else 0) 10
  have h5 := su_congr (fun v => if (!frB a v) = true then (1 : Int) else 0) (fun v => 1 - (if frB a v = true then (1 : Int) else 0)) 10 (fun v _ => by cases frB a v <;> rfl)
  have h6 := su_one 1 10
  omega
theorem no_begun {i : Nat} {x : Wk} (h : Ev i x.a x.w x.m x.s) (ho : opB (nxt x.a x.w) < 0) : ∀ v, v < 10 → ptB x.a v = false := by
  intro v hv
  rw [← Bool.not_eq_true]
  intro hp
  rcases nxt_char x.a x.w with ⟨_, k2⟩ | ⟨u, k1, k2, k3⟩
  · rw [(k2 v hv).1] at hp; cases hp
  · have hu : ptB x.a u = true := by
      rcases k3 with k3 | k3
      · exact k3
      · rw [k3.2.1 v hv] at hp; cases hp
    have hz := of_decide_eq_true hu
    rw [k2] at ho
    unfold opB ptP at ho
    rw [if_neg (by omega), if_neg (by omega)] at ho
    omega
/-- A clean, when room lacks. -/
theorem Ev_clean {i : Nat} (hi : i ≤ 98) {x : Wk} (h : Ev i x.a x.w x.m x.s) (hok : x.ok = true) (hk : WkOk x) (hs : wStop x = false) :
    ∃ b : Nat, worstI x.a x.w x.m = (b : Int) ∧ Ev i (wClean x b).a (wClean x b).w (wClean x b).m (wClean x b).s ∧ (wClean x b).ok = true ∧ wStop (wClean x b) = true ∧ WkOk (wClean x b) := by
  have hs := of_decide_eq_false hs
  have hfre := h.fre
  have hf2 : (freL x.a).length = 2 := by omega
  have hopn : opB (nxt x.a x.w) < 0 := by omega
  have hnb := no_begun h hopn
  have ha := h.ftl.1.1
  obtain ⟨u, u1, u2, u3⟩ := few_lives h hf2
  have hworst : ¬ worstI x.a x.w x.m < 0 := by
    unfold worstI
    rcases wst_char x.a x.w x.m (opB (nxt x.a x.w)) (List.range' 0 10) (-1) (.inl rfl) (fun v hv => by have := List.mem_range'_1.1 hv; omega) with ⟨h1, _, h3⟩ | ⟨v, h1, h2, h3, h4, h5, _⟩
    · rcases h3 u (range10 u1) with g | g
      · rw [u2] at g; cases g
      · omega
    · have := h5 u (range10 u1) u2 (by omega)
      rw [h1, if_neg (fun e => by have := e.2; rw [Int.toNat_natCast] at this; omega)]
      omega
  obtain ⟨b, b1, b2, b3, b4⟩ := worstI_clo (w := x.w) (m := x.m) ha h.one hworst
  have hl0 : wLen x.m b = 0 := by
    have := b4 u u1 u2 (by omega)
    have : 0 ≤ wLen x.m b := by unfold wLen; omega
    omega
  have hnil : livL x.m (b : Int) 0 6 = [] := by
    unfold wLen at hl0
    exact List.eq_nil_of_length_eq_zero (by omega)
  have hcb : cl x.a b = 0 := by
    have h1 := b3.1; have h2 := b3.2
    rw [frB_cl'] at h1
    rcases Nat.eq_zero_or_pos (cl x.a b) with e | e
    · exact e
    · have := cl_le ha b2
      have : ptB x.a b = true := (ptB_cl h b2).2 ⟨e, by omega⟩
      rw [h2] at this; cases this
  have hwb := (h.wr b b2).2 b3.1
  have hwc := wClean_ok hk b2 (livL_six h.ftl b)
  have e : wClean x b = ⟨wipe x.a b 0 6, x.w.set b (x.w.getD b 0 + 1), (mnt (wipe x.a b 0 6)).map, (mnt (wipe x.a b 0 6)).seq, x.q ++ [(2, (b : Int), noVal)], true⟩ := by
    unfold wClean
    simp only
    rw [hnil]
    exact if_pos ⟨hok, by show ¬ x.w.getD b 0 = 1000000000; omega⟩
  rw [e] at hwc
  obtain ⟨w1, w2, w3⟩ := hwc
  have hftl := w3 rfl
  have h10 := h.ftl.1.2.1
  have hclb : cl (wipe x.a b 0 6) b = 6 := by unfold cl; rw [blk_wipe_6 ha b2]
  have hcln : ∀ v, v ≠ b → clr (blk (wipe x.a b 0 6) v) = clr (blk x.a v) := fun v hv => by rw [blk_wipe_ne b 6 0 x.a v (by omega) hv]
  have hwset : ∀ v, (x.w.set b (x.w.getD b 0 + 1)).getD v 0 = if b = v then x.w.getD b 0 + 1 else x.w.getD v 0 := fun v => by
    rw [getD_set]
    exact if_iff ⟨fun e => e.1, fun e => ⟨e, by omega⟩⟩ _ _
  have hpg : ∀ p, p < 60 → (wipe x.a b 0 6).getD p noVal = noVal ∨ ((wipe x.a b 0 6).getD p noVal = x.a.getD p noVal ∧ pg (wipe x.a b 0 6) p = pg x.a p) := fun p hp => by
    rw [wipe_at b 6 0 x.a p (by omega)]
    split
    · exact .inl rfl
    · rename_i c
      refine .inr ⟨rfl, ?_⟩
      unfold pg
      rw [wipe_at b 6 0 x.a p (by omega), if_neg c]
  have hfr' : ((freL (wipe x.a b 0 6)).length : Int) = (freL x.a).length + 1 := by
    rw [freL_su, freL_su]
    have := su_upd (fun v => if frB (wipe x.a b 0 6) v = true then (1 : Int) else 0) (fun v => if frB x.a v = true then (1 : Int) else 0) b 10 b2 (fun v _ hne => by rw [frB_of (blk_wipe_ne b 6 0 x.a v (by omega) hne)])
    simp only [(wipe_fr ha b2).1, b3.1, if_true, Bool.false_eq_true, if_false] at this
    omega
  have hc1 := su_upd (fun v => 6 - (cl (wipe x.a b 0 6) v : Int)) (fun v => 6 - (cl x.a v : Int)) b 10 b2 (fun v _ hne => by unfold cl; rw [hcln v hne])
  have hc2 := su_upd (fun v => (x.w.set b (x.w.getD b 0 + 1)).getD v 0) (fun v => x.w.getD v 0) b 10 b2 (fun v _ hne => by rw [hwset, if_neg (fun e => hne e.symm)])
  simp only [hclb, hcb, hwset, if_true] at hc1 hc2
  have hset : su 10 (fun v => (x.w.set b (x.w.getD b 0 + 1)).getD v 0) = su 10 (fun v => if b = v then x.w.getD b 0 + 1 else x.w.getD v 0) := su_congr _ _ 10 (fun v _ => hwset v)
  have hcnt := h.cnt
  have h48 : su 10 (fun v => 6 - (cl x.a v : Int)) = 48 := by
    have g1 := su_congr (fun v => 6 - (cl x.a v : Int)) (fun v => 6 - 6 * (if frB x.a v = true then (1 : Int) else 0)) 10 (fun v hv => by
      have k1 := hnb v hv
      have k2 := cl_le ha hv
      have k3 : ¬ (0 < cl x.a v ∧ cl x.a v < 6) := fun e => by rw [(ptB_cl h hv).2 e] at k1; cases k1
      by_cases k4 : frB x.a v = true
      · rw [if_pos k4]; have := frB_cl.1 k4; omega
      · rw [if_neg k4]
        have k5 : ¬ cl x.a v = 6 := fun e => k4 (frB_cl.2 e)
        omega)
    have g2 := su_sub (fun _ => 6) (fun v => 6 * (if frB x.a v = true then (1 : Int) else 0)) 10
    have g3 := su_mul 6 (fun v => if frB x.a v = true then (1 : Int) else 0) 10
    have g4 := su_one 6 10
    have g5 := freL_su x.a
    omega
  have hseq : (mnt x.a).seq ≤ (i : Int) + 1 := by rw [← h.ftl.2.2]; exact h.sq
  refine ⟨b, b1, ?_⟩
  rw [e]
  refine ⟨?_, rfl, ?_, w1⟩
  · refine ⟨hftl, One_wipe ha b2 h.one, fun v hv hp => ?_, fun p hp => ?_, ?_, ?_, ?_, ?_, fun v hv => ?_⟩
    · by_cases c : v = b
      · subst c; unfold cl; rw [blk_wipe_6 ha b2]
      · unfold cl at hp ⊢
        rw [hcln v c] at hp ⊢
        exact h.shp v hv hp
    · rcases hpg p hp with g | ⟨g1, g2⟩
      · exact .inl g
      · show (wipe x.a b 0 6).getD p noVal = noVal ∨ _
        rw [g1, g2]; exact h.rcd p hp
    · refine Int.le_trans (mnt_le (S := (mnt x.a).seq) (mnt_ok x.a).s1 fun p hp hq => ?_) hseq
      rw [wipe_length] at hp
      rcases hpg p (by omega) with g | ⟨g1, g2⟩
      · rw [pg_clear g] at hq; cases hq
      · rw [g2] at hq ⊢
        exact mnt_lt (by omega) hp hq
    · show su 10 (fun v => 6 - (cl (wipe x.a b 0 6) v : Int)) + 6 * su 10 (fun v => (x.w.set b (x.w.getD b 0 + 1)).getD v 0) = _
      omega
    · refine .inr ?_
      show 6 * su 10 (fun v => (x.w.set b (x.w.getD b 0 + 1)).getD v 0) + 42 ≤ _
      omega
    · show 2 ≤ (freL (wipe x.a b 0 6)).length
      omega
    · show (x.w.set b (x.w.getD b 0 + 1)).getD v 0 ≤ 4 ∧ (frB (wipe x.a b 0 6) v = false → (x.w.set b (x.w.getD b 0 + 1)).getD v 0 ≤ 3)
      rw [hwset]
      by_cases c : b = v
      · rw [if_pos c]
        refine ⟨by omega, fun e => ?_⟩
        rw [← c, (wipe_fr ha b2).1] at e; cases e
      · rw [if_neg c, frB_of (blk_wipe_ne b 6 0 x.a v (by omega) (fun e => c e.symm))]
        exact h.wr v hv
  · unfold wStop
    refine decide_eq_true (.inl ?_)
    show 2 < (freL (wipe x.a b 0 6)).length
    omega
/-- A burn, when there is room. -/
theorem Ev_burn {i : Nat} (hi : i ≤ 98) {x : Wk} (h : Ev i x.a x.w x.m x.s) (hok : x.ok = true) (hs : wStop x = true) {sec : Int} {d : ByteArray} (h0 : 0 ≤ sec) (h4 : sec ≤ 4) (hd : d.size ≤ 400) :
    bOk x sec d ∧ Ev (i + 1) (bDo x sec d).a (bDo x sec d).w (bDo x sec d).m (bDo x sec d).s ∧ secT (bDo x sec d).a (bDo x sec d).m sec.toNat = d := by
  have hs := of_decide_eq_true hs
  have ha := h.ftl.1.1
  have hfre := h.fre
  have hsq := h.sq
  have hs1 : 1 ≤ x.s := by rw [h.ftl.2.2]; exact (mnt_ok x.a).s1
  have hn : 0 ≤ nxt x.a x.w := by
    rcases nxt_char x.a x.w with ⟨h1, h2⟩ | ⟨v, h1, h2, h3⟩
    · exfalso
      obtain ⟨u, hu⟩ := List.exists_mem_of_length_pos (by omega : 0 < (freL x.a).length)
      have := mem_freL.1 hu
      rw [(h2 u this.1).2] at this
      cases this.2
    · have := cl_le ha h1
      unfold cl at this
      rw [h2]; unfold ptP; omega
  have hb : bOk x sec d := ⟨hn, ⟨h0, by omega, hs1, by omega, hd⟩, by omega⟩
  obtain ⟨v, g1, g2, g3, g4, g5, g6, g7, g8, g9, g10, g11⟩ := nxt_burn (w := x.w) ha hn (eB_rec hb.2.1)
  have hblk : ∀ u, u ≠ v → blk (bDo x sec d).a u = blk x.a u := g11
  have hpgs := pg_set_eq (a := x.a) (p := (nxt x.a x.w).toNat) (by omega) hb.2.1
  have hcl' : cl (bDo x sec d).a v = cl x.a v - 1 := by unfold cl; exact congrArg Prod.fst g10
  have hcv : 0 < cl x.a v := g6
  have hcv6 : cl x.a v ≤ 6 := g7
  have hcl2 : ∀ u, u ≠ v → cl (bDo x sec d).a u = cl x.a u := fun u hu => by unfold cl; exact congrArg (fun l => (clr l).1) (g11 u hu)
  have hc1 := su_upd (fun u => 6 - (cl (bDo x sec d).a u : Int)) (fun u => 6 - (cl x.a u : Int)) v 10 g1 (fun u _ hne => by rw [hcl2 u hne])
  simp only [hcl'] at hc1
  have hfr := su_upd (fun u => if frB (bDo x sec d).a u = true then (1 : Int) else 0) (fun u => if frB x.a u = true then (1 : Int) else 0) v 10 g1 (fun u _ hne => by rw [frB_of (hblk u hne)])
  have hfv : frB (bDo x sec d).a v = false := frB_cl'.2 (by omega)
  simp only [hfv, Bool.false_eq_true, if_false] at hfr
  have q1 := freL_su (bDo x sec d).a
  have q2 := freL_su x.a
  have hcnt := h.cnt
  have hfew := h.few
  have hno : frB x.a v = true → 2 < (freL x.a).length ∧ ptB x.a v = false := by
    intro e
    have hp : ptB x.a v = false := by
      rw [← Bool.not_eq_true]
      intro k
      have := of_decide_eq_true k
      have := frB_cl.1 e
      unfold cl at this
      omega
    refine ⟨?_, hp⟩
    have hz : opB (nxt x.a x.w) < 0 := by
      have : cl x.a v = 6 := frB_cl.1 e
      have h9 : (nxt x.a x.w).toNat = v * 6 + (6 - cl x.a v) := g9
      unfold opB
      rw [if_neg (by omega), if_pos (by omega)]; omega
    omega
  refine ⟨hb, ⟨bDo_ftl h.ftl hb, (One_burn ha hn (eB_rec hb.2.1) h.one).1, fun u hu hp => ?_, fun p hp => ?_, ?_, ?_, ?_, ?_, fun u hu => ?_⟩, ?_⟩
  · by_cases c : u = v
    · subst c
      have : clr (blk (bDo x sec d).a u) = (cl x.a u - 1, cl x.a u - 1) := g10
      unfold cl
      rw [this]
    · have e : blk (bDo x sec d).a u = blk x.a u := g11 u c
      unfold cl at hp ⊢
      rw [e] at hp ⊢
      exact h.shp u hu hp
  · by_cases c : p = (nxt x.a x.w).toNat
    · subst c
      refine .inr ?_
      show (pg (x.a.set _ _) _).2.2.2 = true ∧ (pg (x.a.set _ _) _).1 ≤ 4
      rw [hpgs]
      exact ⟨rfl, h4⟩
    · have e1 : pg (bDo x sec d).a p = pg x.a p := pg_set_ne _ c
      have e2 : (bDo x sec d).a.getD p noVal = x.a.getD p noVal := by
        show (x.a.set _ _).getD p noVal = _
        rw [getD_set, if_neg (fun e => c e.1.symm)]
      rw [e1, e2]; exact h.rcd p hp
  · show x.s + 1 ≤ _
    omega
  · show su 10 (fun u => 6 - (cl (bDo x sec d).a u : Int)) + 6 * su 10 (fun u => x.w.getD u 0) = _
    omega
  · show su 10 (fun u => x.w.getD u 0) = 0 ∨ 6 * su 10 (fun u => x.w.getD u 0) + 42 ≤ _
    omega
  · cases e : frB x.a v with
    | true =>
      have := (hno e).1
      rw [e, if_pos rfl] at hfr
      omega
    | false =>
      rw [e, if_neg (by decide)] at hfr
      omega
  · show x.w.getD u 0 ≤ 4 ∧ (frB (bDo x sec d).a u = false → x.w.getD u 0 ≤ 3)
    refine ⟨(h.wr u hu).1, fun e => ?_⟩
    by_cases c : u = v
    · subst c
      rcases g5 with g5 | g5
      · have := of_decide_eq_true g5
        exact (h.wr u hu).2 (frB_cl'.2 (by unfold cl; omega))
      · refine Classical.byContradiction fun hgt => ?_
        have hle := su_le (fun v => 4 * (if frB x.a v = true then (1 : Int) else 0)) (fun v => x.w.getD v 0) 10 (fun z hz => by
          have hz0 := (chip_wear h.ftl.1 hz).1
          by_cases k : frB x.a z = true
          · have := g5.2.2 z hz k
            rw [if_pos k]; omega
          · rw [if_neg k]; omega)
        have g3 := su_mul 4 (fun v => if frB x.a v = true then (1 : Int) else 0) 10
        have := (hno g5.1).1
        omega
    · rw [frB_of (hblk u c)] at e
      exact (h.wr u hu).2 e
  · unfold secT
    have hm := (mnt_ok x.a).mlen
    rw [← h.ftl.2.1] at hm
    have : (bDo x sec d).m.getD sec.toNat 0 = nxt x.a x.w := by
      show (x.m.set sec.toNat (nxt x.a x.w)).getD sec.toNat 0 = _
      rw [getD_set, if_pos ⟨rfl, by omega⟩]
    rw [this, if_neg (by omega)]
    show (pg (x.a.set _ _) _).2.2.1 = d
    rw [hpgs]
theorem Ev_room {i : Nat} (hi : i ≤ 98) {x : Wk} (h : Ev i x.a x.w x.m x.s) (hok : x.ok = true) (hk : WkOk x) : ∃ y, wRoom 10 x = y ∧ Ev i y.a y.w y.m y.s ∧ y.ok = true ∧ wStop y = true := by
  refine ⟨_, rfl, ?_⟩
  rw [wRoom, if_pos hok]
  cases hs : wStop x with
  | true => rw [if_pos rfl]; exact ⟨h, hok, hs⟩
  | false =>
    obtain ⟨b, b1, b2, b3, b4, b5⟩ := Ev_clean hi h hok hk hs
    rw [if_neg (by decide), b1, if_neg (by omega), Int.toNat_natCast, wRoom, if_pos b3, if_pos b4]
    exact ⟨b2, b3, b4⟩
theorem Ev_plan {i : Nat} (hi : i ≤ 98) {a : List ByteArray} {w m : List Int} {s : Int} (h : Ev i a w m s) {sec : Int} {d : ByteArray} (h0 : 0 ≤ sec) (h4 : sec ≤ 4) (hd : d.size ≤ 400) :
    ∃ y, wPl ⟨a, w, m, s, [], true⟩ sec d = y ∧ y.ok = true ∧ Ev (i + 1) y.a y.w y.m y.s ∧ secT y.a y.m sec.toNat = d := by
  obtain ⟨y, e, y1, y2, y3⟩ := Ev_room hi (x := ⟨a, w, m, s, [], true⟩) h rfl (ftl_wk h.ftl _ _)
  obtain ⟨b1, b2, b3⟩ := Ev_burn hi y1 y2 y3 h0 h4 hd
  have eb : wPl ⟨a, w, m, s, [], true⟩ sec d = bDo y sec d := by
    unfold wPl
    rw [e, if_pos y2]
    exact if_pos b1
  exact ⟨_, eb, y2, b2, b3⟩

theorem impl_sector_eq (K : Nat) (hK : 10000000000000 ≤ K) (a : List ByteArray) (w m : List Int) (s : Int) (h : ftlOk a w m s) (j : Nat) (hj : j < 26) : impl.sector.f K a w m s (j : Int) = some (secT a m j) := by
  unfold impl.sector.f secT
  have ho := mnt_ok a
  have hml : m.length = 26 := by rw [h.2.1]; exact ho.mlen
  rw [Int.toNat_natCast]
  refine bind_t (impl_isSector_eq _) (br_d (by omega) (ck_t (by omega) (ck_t (by omega) ?_)))
  by_cases c : m.getD j 0 < 0
  · rw [if_pos c]; exact br_d c rfl
  · rw [if_neg c]
    have hp : m.getD j 0 < (a.length : Int) := by
      rcases ho.at_ j hj with g | ⟨p, g1, g2, _⟩
      · rw [← h.2.1] at g; omega
      · rw [← h.2.1] at g2; omega
    have hpn : (m.getD j 0).toNat < a.length := by omega
    have hz : (a.getD (m.getD j 0).toNat noVal).size ≤ 1000000000000 := by rw [getD_at hpn]; have := chip_page h.1 _ (List.getElem_mem hpn); omega
    exact br_n c (ck_t hp (bind_t (impl_RecRead_eq K hK _ hz) rfl))
theorem impl_sector_no (K : Nat) (a : List ByteArray) (w m : List Int) (s : Int) (j : Int) (hj : ¬ (0 ≤ j ∧ j ≤ 25)) : impl.sector.f K a w m s j = some noVal := by
  unfold impl.sector.f
  exact bind_t (impl_isSector_eq _) (br_n hj rfl)

theorem sameInts_l0 (a : List Int) (ha : a.length ≤ 1000000) : ∀ (f i : Nat), a.length < i + f → i ≤ a.length → laws.sameInts.l0.f a a f (i : Int) = some (.inr ()) := by
  intro f
  induction f with
  | zero => intro i h hi; omega
  | succ f ih =>
    intro i h hi
    rw [laws.sameInts.l0.f]
    by_cases c : i < a.length
    · have e1 : w64 ((i : Int) + 1) = ((i + 1 : Nat) : Int) := wsucc (by omega)
      exact br_d (by omega) (ck_t (by omega) (ck_t (by omega) (br_f (by simp) (by rw [e1]; exact ih (i + 1) (by omega) (by omega)))))
    · exact br_n (by omega) rfl
theorem sameInts_self (K : Nat) (hK : 10000000000000 ≤ K) (a : List Int) (ha : a.length ≤ 1000000) : laws.sameInts.f K a a = some true := by
  unfold laws.sameInts.f
  exact br_f (by simp) (bind_t (sameInts_l0 a ha K 0 (by omega) (by omega)) rfl)

theorem laws_big_eq (b : List Int) : laws.big.f b = some () := by
  unfold laws.big.f; rfl

theorem Wears_loops (K : Nat) (hK : 10000000000000 ≤ K) (a : List ByteArray) (w m : List Int) (s : Int) (hw : w.length = 10) (h4 : ∀ v, v < 10 → 0 ≤ w.getD v 0 ∧ w.getD v 0 ≤ 4) : ∀ (f g i : Nat) (lo hi : Int), 10 < i + f → 10 < i + g → i ≤ 10 → 0 ≤ lo → lo ≤ 4 → 0 ≤ hi → hi ≤ 4 →
    ∃ r : Int × Int, spec.Wears.l0.f a w m s f lo hi (i : Int) = some r ∧ impl.Wears.l0.f a w m g lo hi (i : Int) = some r ∧ 0 ≤ r.1 ∧ r.1 ≤ 4 ∧ 0 ≤ r.2 ∧ r.2 ≤ 4 := by
  intro f
  induction f with
  | zero => intro g i lo hi h hg hi2; omega
  | succ f ih =>
    intro g i lo hi h hg hi2 b1 b2 b3 b4
    obtain ⟨g, rfl⟩ := Nat.exists_eq_add_one_of_ne_zero (by omega : g ≠ 0)
    rw [spec.Wears.l0.f, impl.Wears.l0.f]
    by_cases c : i < 10
    · have e1 : w64 ((i : Int) + 1) = ((i + 1 : Nat) : Int) := wsucc (by omega)
      simp only [Int.toNat_natCast, e1]
      have e2 : minI lo (w.getD i 0) = if lo < w.getD i 0 then lo else w.getD i 0 := by
        unfold minI
        by_cases q : w.getD i 0 < lo
        · rw [if_pos q, if_neg (by omega)]
        · rw [if_neg q]
          by_cases q2 : lo < w.getD i 0
          · rw [if_pos q2]
          · rw [if_neg q2]; omega
      have e3 : maxI hi (w.getD i 0) = if hi > w.getD i 0 then hi else w.getD i 0 := by
        unfold maxI
        by_cases q : hi < w.getD i 0
        · rw [if_pos q, if_neg (by omega)]
        · rw [if_neg q]
          by_cases q2 : hi > w.getD i 0
          · rw [if_pos q2]
          · rw [if_neg q2]; omega
      have hwi := h4 i c
      have e4 : 0 ≤ minI lo (w.getD i 0) ∧ minI lo (w.getD i 0) ≤ 4 := by rw [e2]; split <;> omega
      have e5 : 0 ≤ maxI hi (w.getD i 0) ∧ maxI hi (w.getD i 0) ≤ 4 := by rw [e3]; split <;> omega
      obtain ⟨r, h1, h2, h3⟩ := ih g (i + 1) (minI lo (w.getD i 0)) (maxI hi (w.getD i 0)) (by omega) (by omega) (by omega) e4.1 e4.2 e5.1 e5.2
      refine ⟨r, br_d (by omega) (ck_t (by omega) (ck_t (by omega) (bind_t (spec_l1Min_eq _ _) (bind_t (spec_l1Max_eq _ _) ?_)))), br_d (by omega) (ck_t (by omega) h2), h3⟩
      rw [← e2, ← e3]; exact h1
    · exact ⟨(lo, hi), br_n (by omega) rfl, br_n (by omega) rfl, b1, b2, b3, b4⟩
theorem Wears_ev (K : Nat) (hK : 10000000000000 ≤ K) (a : List ByteArray) (w m : List Int) (s : Int) (c : ftlOk a w m s) (h4 : ∀ v, v < 10 → 0 ≤ w.getD v 0 ∧ w.getD v 0 ≤ 4) : ∃ r : Int × Int, spec.Wears.f K a w m s = some r ∧ impl.Wears.f K a w m s = some r ∧ 0 ≤ r.1 ∧ r.1 ≤ 4 ∧ 0 ≤ r.2 ∧ r.2 ≤ 4 := by
  unfold spec.Wears.f impl.Wears.f
  have hm : m.length = 26 := by rw [c.2.1]; exact (mnt_ok a).mlen
  have f1 := spec_FtlOk_eq K hK a w m s
  have f2 := impl_FtlOk_eq K hK a w m s (by omega)
  have h10 := c.1.2.1
  have hK' : K ≠ 0 := by omega
  have h0 := h4 0 (by omega)
  obtain ⟨r, h1, h2, hr⟩ := Wears_loops K hK a w m s h10 h4 K (K - 1) 1 (w.getD 0 0) (w.getD 0 0) (by omega) (by omega) (by omega) h0.1 h0.2 h0.1 h0.2
  have h3 : impl.Wears.l0.f a w m K (w.getD 0 0) (w.getD 0 0) 0 = some r := by
    obtain ⟨k, rfl⟩ := Nat.exists_eq_add_one_of_ne_zero hK'
    rw [impl.Wears.l0.f]
    have e : minI (w.getD 0 0) (w.getD 0 0) = w.getD 0 0 ∧ maxI (w.getD 0 0) (w.getD 0 0) = w.getD 0 0 := by
      unfold minI maxI; simp
    have z : (0 : Int).toNat = 0 := rfl
    rw [z, e.1, e.2]
    refine br_d (by omega) (ck_t (by omega) ?_)
    have e2 : w64 ((0 : Int) + 1) = ((1 : Nat) : Int) := by rw [w64_id (by omega) (by omega)]; rfl
    rw [e2]
    simpa using h2
  exact ⟨_, bind_t f1 (br_d c (ck_t (by omega) (ck_t (by omega) (bind_t h1 rfl)))), bind_t f2 (br_d c (ck_t (by omega) (ck_t (by omega) (bind_t h3 rfl)))), hr⟩

theorem byteFact {b : List Int} (h : ∀ x ∈ b, (Lit.int .u8 x).wf = true) : Bytes b := by
  intro x hx
  have h2 : (decide (IntKind.u8.min ≤ x) && decide (x ≤ IntKind.u8.max)) = true := h x hx
  rw [Bool.and_eq_true, decide_eq_true_eq, decide_eq_true_eq] at h2
  have e1 : IntKind.u8.min = 0 := by decide
  have e2 : IntKind.u8.max = 255 := by decide
  omega
theorem at_any (b : List Int) (hb : Bytes b) (hl : b.length ≤ 1000000000000) (i : Nat) (hi : i ≤ 1000) : ∃ v, laws.at_.f b (i : Int) = some v ∧ 0 ≤ v ∧ v < 256 := by
  unfold laws.at_.f
  by_cases c : i < b.length
  · have := hb (b.getD i 0) (by rw [getD_at c]; exact List.getElem_mem c)
    refine ⟨_, br_d (by omega) (ck_t (by omega) rfl), ?_⟩
    rw [Int.toNat_natCast, w64_id (by omega) (by omega)]
    omega
  · refine ⟨_, br_n (by omega) rfl, ?_⟩
    rw [w64_id (x := (i : Int) * 7) (by omega) (by omega), w64_id (by omega) (by omega)]
    exact ⟨Int.tmod_nonneg _ (by omega), Int.tmod_lt_of_pos _ (by decide)⟩
theorem impl_Plan_ok (K : Nat) (hK : 10000000000000 ≤ K) {a : List ByteArray} {w m : List Int} {s : Int} (h : ftlOk a w m s) (ho : One a) (sec : Int) (d : ByteArray) {y : Wk} (hy : wPl ⟨a, w, m, s, [], true⟩ sec d = y) (hok : y.ok = true) :
    impl.Plan.f K a w m s sec d = some (y.q, y.a, y.w, y.m, y.s, true) := by
  unfold impl.Plan.f
  have hm : m.length = 26 := by rw [h.2.1]; exact (mnt_ok a).mlen
  obtain ⟨z, z1, z2, z3, z4⟩ := impl_pplan_eq K hK sec d ⟨a, w, m, s, [], true⟩ h.1 (fun _ => ⟨⟨h, ho⟩, ftl_wk h _ _, by show 0 ≤ 800000; omega⟩)
  rw [hy, hok] at z3
  have e := (z4 z3).1
  rw [hy] at e
  subst e
  have hcl : impl.cloneFtl.f a w m s = some (a, w, m) := by
    unfold impl.cloneFtl.f slices.Clone_int_int.f
    exact bind_t (impl_cloneChip_eq a w h.1) (bind_t (ck_t (by omega) rfl) rfl)
  have hf := impl_FtlOk_eq K hK a w m s (by omega)
  refine bind_t hf (br_d h (bind_t hcl (bind_t z1 (bind_t (a := (z.q, z.a, z.w, z.m, z.s, true)) ?_ rfl))))
  unfold impl.planner.told.f
  exact br_f (by show (!z.ok) = false; rw [hok]; rfl) rfl
theorem impl_Sector_ok (K : Nat) (hK : 10000000000000 ≤ K) {a : List ByteArray} {w m : List Int} {s : Int} (h : ftlOk a w m s) (j : Nat) (hj : j < 26) : impl.Sector.f K a w m s (j : Int) = some (secT a m j) := by
  unfold impl.Sector.f
  have hm : m.length = 26 := by rw [h.2.1]; exact (mnt_ok a).mlen
  exact bind_t (impl_FtlOk_eq K hK a w m s (by omega)) (br_d h (bind_t (impl_sector_eq K hK a w m s h j hj) rfl))
theorem even_l0 (K : Nat) (hK : 10000000000000 ≤ K) (b : List Int) (hb : Bytes b) (hl : b.length ≤ 1000000000000) (n : Nat) (hn : n ≤ 99) : ∀ (f i : Nat) (a : List ByteArray) (w m : List Int) (s : Int), n < i + f → i ≤ n → Ev i a w m s →
    ∃ a' w' m' s', laws.FnEven.l0.f K b f a w m s (n : Int) (i : Int) = some (.inr (a', w', m', s')) ∧ Ev n a' w' m' s' := by
  intro f
  induction f with
  | zero => intro i a w m s h hi; omega
  | succ f ih =>
    intro i a w m s hf hi he
    rw [laws.FnEven.l0.f]
    by_cases c : i < n
    case neg =>
      have : i = n := by omega
      subst this
      exact ⟨a, w, m, s, br_n (by omega) rfl, he⟩
    have e1 : w64 ((i : Int) + 1) = ((i + 1 : Nat) : Int) := wsucc (by omega)
    obtain ⟨v1, a1, a2, a3⟩ := at_any b hb hl i (by omega)
    obtain ⟨v2, b1, b2, b3⟩ := at_any b hb hl (i + 1) (by omega)
    have s0 : 0 ≤ v1.tmod 5 := Int.tmod_nonneg _ a2
    have s4 : v1.tmod 5 ≤ 4 := by have := Int.tmod_lt_of_pos v1 (by decide : (0 : Int) < 5); omega
    have hd : (ofBytes [IntKind.u8.wrap v2]).size ≤ 400 := by rw [ofBytes_size]; simp
    obtain ⟨y, y1, y2, y3, y4⟩ := Ev_plan (by omega) he s0 s4 hd
    obtain ⟨j, hj⟩ := Int.eq_ofNat_of_zero_le s0
    have hp := impl_Plan_ok K hK he.ftl he.one (v1.tmod 5) (ofBytes [IntKind.u8.wrap v2]) y1 y2
    have hs := impl_Sector_ok K hK y3.ftl j (by omega)
    have e5 : (v1.tmod 5).toNat = j := by rw [hj]; exact Int.toNat_natCast j
    rw [e5] at y4
    rw [y4, ← hj] at hs
    obtain ⟨a', w', m', s', r1, r2⟩ := ih (i + 1) y.a y.w y.m y.s (by omega) (by omega) y3
    rw [e1]
    exact ⟨a', w', m', s', br_d (by omega) (bind_t a1 (bind_t b1 (bind_t hp (br_t rfl (bind_t hs (bind_t b1 (br_t (strEq_self _) r1))))))), r2⟩
theorem impl_ChipNew_eq : impl.ChipNew.f = some () := by
  unfold impl.ChipNew.f
  kernel_rfl
theorem new_get (p : Nat) : (List.replicate 60 noVal).getD p noVal = noVal := by
  rw [List.getD_eq_getElem?_getD, List.getElem?_replicate]
  split <;> rfl
theorem new_wget (p : Nat) : (List.replicate 10 (0 : Int)).getD p 0 = 0 := by
  rw [List.getD_eq_getElem?_getD, List.getElem?_replicate]
  split <;> rfl
theorem new_blk {v : Nat} (hv : v < 10) : clr (blk (List.replicate 60 noVal) v) = (6, 6) := by
  have : blk (List.replicate 60 noVal) v = List.replicate 6 noVal := by
    unfold blk
    rw [List.drop_replicate, List.take_replicate]
    congr 1
    omega
  rw [this]; exact clr_noval
theorem Ev_new : Ev 0 (List.replicate 60 noVal) (List.replicate 10 0) (mnt (List.replicate 60 noVal)).map (mnt (List.replicate 60 noVal)).seq := by
  have hcl : ∀ v, v < 10 → cl (List.replicate 60 noVal) v = 6 := fun v hv => by unfold cl; rw [new_blk hv]
  refine ⟨⟨new_chip, rfl, rfl⟩, fun u v hu hv e1 _ => ?_, fun v hv _ => ?_, fun p _ => .inl (new_get p), ?_, ?_, .inl ?_, ?_, fun v _ => ?_⟩
  · have := of_decide_eq_true e1
    rw [new_blk hu] at this
    omega
  · unfold cl; rw [new_blk hv]
  · refine mnt_le (by decide) (fun p _ hq => ?_)
    rw [pg_clear (new_get p)] at hq; cases hq
  · have g1 := su_congr (fun v => 6 - (cl (List.replicate 60 noVal) v : Int)) (fun _ => 0) 10 (fun v hv => by rw [hcl v hv]; rfl)
    have g2 := su_congr (fun v => (List.replicate 10 (0 : Int)).getD v 0) (fun _ => 0) 10 (fun v _ => new_wget v)
    have g3 := su_one 0 10
    omega
  · have g2 := su_congr (fun v => (List.replicate 10 (0 : Int)).getD v 0) (fun _ => 0) 10 (fun v _ => new_wget v)
    have g3 := su_one 0 10
    omega
  · have g1 := freL_su (List.replicate 60 noVal)
    have g2 := su_congr (fun v => if frB (List.replicate 60 noVal) v = true then (1 : Int) else 0) (fun _ => 1) 10 (fun v hv => if_pos (frB_cl.2 (hcl v hv)))
    have g3 := su_one 1 10
    omega
  · rw [new_wget]; exact ⟨by decide, fun _ => by decide⟩
theorem FnEven_pure (b : List Int) (hl : b.length ≤ maxLen) (hwf : ∀ x ∈ b, (Lit.int .u8 x).wf = true) : laws.FnEven.f 10000000000000 b = some true := by
  unfold laws.FnEven.f
  refine bind_t (laws_big_eq b) ?_
  by_cases cx : (b.length : Int) > 1048576
  · exact br_d cx rfl
  refine br_n cx ?_
  have hK : 10000000000000 ≤ 10000000000000 := Nat.le_refl _
  have hb := byteFact hwf
  have hm0 := impl_mount_eq 10000000000000 hK _ _ new_chip
  have hm1 : impl.Mount.f 10000000000000 (List.replicate 60 noVal) (List.replicate 10 (0 : Int)) = some (List.replicate 60 noVal, List.replicate 10 0, (mnt (List.replicate 60 noVal)).map, (mnt (List.replicate 60 noVal)).seq) := by
    unfold impl.Mount.f
    exact bind_t (impl_ChipOk_eq _ hK _ _) (br_d new_chip (bind_t hm0 rfl))
  have hm2 := spec_Mount_eq 10000000000000 hK (List.replicate 60 noVal) (List.replicate 10 0)
  rw [if_pos new_chip] at hm2
  have hsame := sameInts_self 10000000000000 hK (mnt (List.replicate 60 noVal)).map (by rw [(mnt_ok _).mlen]; omega)
  obtain ⟨v0, a1, a2, a3⟩ := at_any b hb (by omega) 0 (by omega)
  have t0 : 0 ≤ v0.tmod 60 := Int.tmod_nonneg _ a2
  have t1 : v0.tmod 60 < 60 := Int.tmod_lt_of_pos v0 (by decide : (0 : Int) < 60)
  obtain ⟨n, hn⟩ := Int.eq_ofNat_of_zero_le (by omega : 0 ≤ 40 + v0.tmod 60)
  have en : w64 (40 + v0.tmod 60) = (n : Int) := by rw [w64_id (by omega) (by omega)]; exact hn
  obtain ⟨a', w', m', s', r1, r2⟩ := even_l0 10000000000000 hK b hb (by omega) n (by omega) 10000000000000 0 _ _ _ _ (by omega) (by omega) Ev_new
  obtain ⟨r, k1, k2, k3, k4, k5, k6⟩ := Wears_ev 10000000000000 hK a' w' m' s' r2.ftl (fun v hv => ⟨(chip_wear r2.ftl.1 hv).1, (r2.wr v hv).1⟩)
  have hm : m'.length = 26 := by rw [r2.ftl.2.1]; exact (mnt_ok a').mlen
  have hf := impl_FtlOk_eq 10000000000000 hK a' w' m' s' (by omega)
  rw [decide_eq_true r2.ftl] at hf
  refine bind_t impl_ChipNew_eq (bind_t hm1 (bind_t spec_ChipNew_eq (bind_t hm2 (bind_t hsame (br_t rfl (bind_t a1 ?_))))))
  rw [en]
  refine bind_t r1 ?_
  have ew : w64 (r.2 - r.1) = r.2 - r.1 := w64_id (by omega) (by omega)
  refine bind_t k2 (bind_t k1 (br_t (by simp) (br_t (by simp) (br_d (by rw [ew]; omega) (bind_t hf rfl)))))

end Go.Proofs.YtmodnnokcmabhaaGreat.Pure
