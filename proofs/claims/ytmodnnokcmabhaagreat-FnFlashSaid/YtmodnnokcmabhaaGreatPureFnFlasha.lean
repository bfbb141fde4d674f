/- The law FnFlash, in plain words: its function answers true. -/
import Derived.Test.YtmodnnokcmabhaaGreatGFnFlash
import Derived.Test.YtmodnnokcmabhaaGreatDenMod
import Derived.KernelRfl
namespace Go.Proofs.YtmodnnokcmabhaaGreat.Pure
open Go Go.RowKit Go.Proofs.YtmodnnokcmabhaaGreat.Den Go.Proofs.YtmodnnokcmabhaaGreat.GFnFlash
set_option linter.unusedSimpArgs false
set_option linter.unusedVariables false
theorem nat_tmod (n m : Nat) : ((n : Int).tmod (m : Int)) = ((n % m : Nat) : Int) := (Int.ofNat_tmod n m).symm
theorem nat_tdiv (n m : Nat) : ((n : Int).tdiv (m : Int)) = ((n / m : Nat) : Int) := (Int.ofNat_tdiv n m).symm

theorem spec_l1In_eq (n lo hi : Int) : spec.l1In.f n lo hi = some (decide (lo ≤ n ∧ n ≤ hi)) := by
  unfold spec.l1In.f
  by_cases c : n ≥ lo
  · refine br_d c ?_
    by_cases d : n ≤ hi
    · rw [decide_eq_true d, decide_eq_true ⟨c, d⟩]
    · rw [decide_eq_false d, decide_eq_false (fun h => d h.2)]
  · refine br_n c ?_
    rw [decide_eq_false (fun h => c h.1)]

/-- What a search for a number answers, inside the loop or behind it. -/
def numOut : ((Int × Int × Bool) ⊕ Unit) → Int × Int × Bool := Sum.elim id (fun _ => (0, 0, false))
theorem spec_GetNum_l0 (b : List Int) (hb : Bytes b) (hl : b.length ≤ 1000000000000) (a : Nat) (ha : a < 9223372036854775808) : ∀ (f k q : Nat) (n : Int), f + k = 5 → f < q → 0 ≤ n → n < 128 ^ k →
    ∃ x, spec.GetNum.l0.f b (a : Int) q n (k : Int) = some x ∧ numOut x = getR (a : Int) (getF f k n (b.drop (a + k))) := by
  intro f
  induction f with
  | zero =>
    intro k q n hk hq h0 h1
    obtain ⟨q, rfl⟩ := Nat.exists_eq_add_one_of_ne_zero (by omega : q ≠ 0)
    refine ⟨.inr (), ?_, rfl⟩
    rw [spec.GetNum.l0.f]
    exact br_n (by omega) rfl
  | succ f ih =>
    intro k q n hk hq h0 h1
    obtain ⟨q, rfl⟩ := Nat.exists_eq_add_one_of_ne_zero (by omega : q ≠ 0)
    rw [spec.GetNum.l0.f]
    by_cases h : a + k < b.length
    · have hv := hb.at_ h
      have hp : (0 : Int) < 128 ^ k := Int.pow_pos (by decide)
      have hp4 : (128 : Int) ^ k ≤ 128 ^ 4 := by
        have : (128 : Nat) ^ k ≤ 128 ^ 4 := Nat.pow_le_pow_right (by decide) (by omega)
        exact_mod_cast this
      have hm : b[a + k] % 128 * 128 ^ k ≤ 127 * 128 ^ k := Int.mul_le_mul_of_nonneg_right (by omega) (by omega)
      have hm0 : 0 ≤ b[a + k] % 128 * 128 ^ k := Int.mul_nonneg (by omega) (by omega)
      rw [List.drop_eq_getElem_cons h]
      have e1 : w64 ((a : Int) + k) = ((a + k : Nat) : Int) := by rw [w64_id (by omega) (by omega)]; omega
      have e2 : w64 ((b.length : Int) - k) = (b.length : Int) - k := w64_id (by omega) (by omega)
      have e3 : w64 (7 * (k : Int)) = 7 * (k : Int) := w64_id (by omega) (by omega)
      have e4 : b.getD (a + k) 0 = b[a + k] := getD_at h 0
      have e5 : w64 b[a + k] = b[a + k] := w64_id (by omega) (by omega)
      have e6 : b[a + k].tmod 128 = b[a + k] % 128 := Int.tmod_eq_emod_of_nonneg (by omega)
      have e7 := or_shl k (by omega) h0 h1 (d := b[a + k] % 128) (by omega) (by omega)
      have e8 : w64 (((a + k : Nat) : Int) + 1) = (a : Int) + ((k : Int) + 1) := by rw [w64_id (by omega) (by omega)]; omega
      have e9 : w64 ((k : Int) + 1) = ((k + 1 : Nat) : Int) := wsucc (by omega)
      simp only [e1, e2, e3, Int.toNat_natCast, e4, e5, e6, e7, e8, e9]
      unfold getF
      by_cases c : b[a + k] ≥ 128
      · rw [if_pos c]
        have hlt : n + b[a + k] % 128 * 128 ^ k < 128 ^ (k + 1) := by
          rw [Int.pow_succ]
          omega
        obtain ⟨x, hx, hr⟩ := ih (k + 1) q (n + b[a + k] % 128 * 128 ^ k) (by omega) (by omega) (by omega) hlt
        exact ⟨x, br_d (by omega) (br_n (by omega) (br_n (by omega) (ck_t (by omega) (ck_t (by omega) (ck_t (by omega) (br_n (by omega) hx)))))), hr⟩
      · rw [if_neg c]
        have pre : ∀ {X Y : Option ((Int × Int × Bool) ⊕ Unit)} {r}, X = r → cond (decide ((k : Int) < 5)) (cond (decide ((a : Int) < 0)) (some (.inl (0, 0, false))) (cond (decide ((a : Int) ≥ (b.length : Int) - k)) (some (.inl (0, 0, false))) (ck (0 ≤ ((a + k : Nat) : Int)) (ck (((a + k : Nat) : Int) < (b.length : Int)) (ck (0 ≤ 7 * (k : Int)) (cond (decide (b[a + k] < 128)) X Y)))))) (some (.inr ())) = r := fun hx =>
          br_d (by omega) (br_n (by omega) (br_n (by omega) (ck_t (by omega) (ck_t (by omega) (ck_t (by omega) (br_d (by omega) hx))))))
        by_cases c0 : b[a + k] = 0 ∧ k > 0
        · rw [if_pos c0]
          exact ⟨.inl (0, 0, false), pre (br_d (by omega) (br_t (by rw [c0.1]; rfl) rfl)), rfl⟩
        · rw [if_neg c0]
          by_cases cm : n + b[a + k] % 128 * 128 ^ k > 1000000000
          · rw [if_pos cm]
            by_cases ck0 : (k : Int) > 0
            · exact ⟨.inl (0, 0, false), pre (br_d ck0 (br_f (by rw [beq_eq_false_iff_ne]; intro h; exact c0 ⟨h, by omega⟩) (br_d cm rfl))), rfl⟩
            · exact ⟨.inl (0, 0, false), pre (br_n ck0 (br_d cm rfl)), rfl⟩
          · rw [if_neg cm]
            by_cases ck0 : (k : Int) > 0
            · exact ⟨.inl (_, _, true), pre (br_d ck0 (br_f (by rw [beq_eq_false_iff_ne]; intro h; exact c0 ⟨h, by omega⟩) (br_n cm rfl))), rfl⟩
            · exact ⟨.inl (_, _, true), pre (br_n ck0 (br_n cm rfl)), rfl⟩
    · rw [List.drop_of_length_le (by omega)]
      refine ⟨.inl (0, 0, false), br_d (by omega) (br_n (by omega) (br_d ?_ rfl)), rfl⟩
      rw [w64_id (by omega) (by omega)]
      omega
theorem spec_GetNum_eq (K : Nat) (hK : 10000000000000 ≤ K) (b : List Int) (at_ : Int) (hb : Bytes b) (hl : b.length ≤ 1000000000000) (ha : at_ < 9223372036854775808) (ha0 : -9223372036854775808 ≤ at_) : spec.GetNum.f K b at_ = some (getI b at_) := by
  unfold spec.GetNum.f
  obtain ⟨K, rfl⟩ := Nat.exists_eq_add_one_of_ne_zero (by omega : K ≠ 0)
  by_cases c : at_ < 0
  · refine bind_t (a := .inl (0, 0, false)) ?_ ?_
    · rw [spec.GetNum.l0.f]
      exact br_d (by decide) (br_d c rfl)
    · unfold getI
      rw [if_pos c]
      rfl
  · obtain ⟨a, rfl⟩ := Int.eq_ofNat_of_zero_le (by omega : 0 ≤ at_)
    obtain ⟨x, h1, h2⟩ := spec_GetNum_l0 b hb hl a (by omega) 5 0 (K + 1) 0 rfl (by omega) (by decide) (by decide)
    refine bind_t h1 ?_
    rw [getI_at]
    rw [show a + 0 = a from rfl] at h2
    rw [← h2]
    cases x <;> rfl

theorem spec_PutNum_l0 : ∀ (f q n : Nat) (acc : List Int), n < 128 ^ (f + 1) → f ≤ 4 → f < q → acc.length + f ≤ 1000 →
    ∃ m a', spec.PutNum.l0.f q (n : Int) acc = some (m, a') ∧ a' ++ [IntKind.u8.wrap m] = acc ++ putF f n ∧ a'.length ≤ acc.length + f := by
  intro f
  induction f with
  | zero =>
    intro q n acc hn _ hq ha
    obtain ⟨q, rfl⟩ := Nat.exists_eq_add_one_of_ne_zero (by omega : q ≠ 0)
    have hn : n < 128 := hn
    refine ⟨n, acc, ?_, ?_, by omega⟩
    · rw [spec.PutNum.l0.f]; exact br_n (by omega) rfl
    · rw [wrap_u8 (by omega) (by omega)]; rfl
  | succ f ih =>
    intro q n acc hn hf hq ha
    obtain ⟨q, rfl⟩ := Nat.exists_eq_add_one_of_ne_zero (by omega : q ≠ 0)
    have hp : 128 ^ (f + 1 + 1) ≤ 128 ^ 5 := Nat.pow_le_pow_right (by decide) (by omega)
    rw [spec.PutNum.l0.f]
    by_cases c : n > 127
    · have e1 : (n : Int).tmod 128 = ((n % 128 : Nat) : Int) := nat_tmod n 128
      have e2 : (n : Int).tdiv 128 = ((n / 128 : Nat) : Int) := nat_tdiv n 128
      have e3 : w64 (((n % 128 : Nat) : Int) + 128) = ((n % 128 + 128 : Nat) : Int) := by rw [w64_id (by omega) (by omega)]; omega
      have e4 : w64 ((n / 128 : Nat) : Int) = ((n / 128 : Nat) : Int) := w64_id (by omega) (by omega)
      have e5 : IntKind.u8.wrap ((n % 128 + 128 : Nat) : Int) = ((n % 128 + 128 : Nat) : Int) := wrap_u8 (by omega) (by omega)
      simp only [e1, e2, e3, e4, e5]
      obtain ⟨m, a', h1, h2, h3⟩ := ih q (n / 128) (acc ++ [((n % 128 + 128 : Nat) : Int)]) (Nat.div_lt_of_lt_mul (by rw [Nat.pow_succ, Nat.mul_comm] at hn; exact hn)) (by omega) (by omega) (by simp; omega)
      refine ⟨m, a', br_d (by omega) (ck_t (by simp; omega) h1), ?_, by simp at h3; omega⟩
      rw [h2, putF, if_pos c, List.append_assoc]; rfl
    · refine ⟨n, acc, br_n (by omega) rfl, ?_, by omega⟩
      rw [wrap_u8 (by omega) (by omega), putF, if_neg c]
theorem spec_PutNum_eq (K : Nat) (hK : 10000000000000 ≤ K) (n : Int) : spec.PutNum.f K n = some (putI n) := by
  unfold spec.PutNum.f putI
  refine bind_t (spec_l1In_eq n 0 1000000000) ?_
  by_cases c : 0 ≤ n ∧ n ≤ 1000000000
  · rw [if_pos c]
    obtain ⟨m, rfl⟩ := Int.eq_ofNat_of_zero_le c.1
    obtain ⟨x, a', h1, h2, h3⟩ := spec_PutNum_l0 4 K m [] (by omega) (by omega) (by omega) (by simp)
    refine br_d c (bind_t h1 (ck_t (by simp at h3 ⊢; omega) ?_))
    rw [h2]; rfl
  · rw [if_neg c]
    exact br_n c rfl

theorem spec_PutText_eq (K : Nat) (hK : 10000000000000 ≤ K) (s : ByteArray) : spec.PutText.f K s = some (if s.size ≤ 400 then putI s.size ++ bytesL s else []) := by
  unfold spec.PutText.f
  by_cases c : s.size ≤ 400
  · rw [if_pos c]
    refine br_n (by omega) (bind_t (spec_PutNum_eq K hK _) (ck_t ?_ rfl))
    have := putI_length s.size
    rw [List.length_append, bytesL_len]
    omega
  · rw [if_neg c]
    exact br_d (by omega) rfl

theorem spec_GetText_eq (K : Nat) (hK : 10000000000000 ≤ K) (b : List Int) (at_ : Int) (hb : Bytes b) (hl : b.length ≤ 1000000000000) (ha : at_ < 9223372036854775808) (ha0 : -9223372036854775808 ≤ at_) : spec.GetText.f K b at_ = some (gettI b at_) := by
  unfold spec.GetText.f
  refine bind_t (spec_GetNum_eq K hK b at_ hb hl ha ha0) ?_
  unfold gettI
  by_cases h : (getI b at_).2.2 = true
  · obtain ⟨g1, g2, g3, g4, g5⟩ := getI_ok hb h
    have e1 : w64 ((b.length : Int) - (getI b at_).2.1) = (b.length : Int) - (getI b at_).2.1 := w64_id (by omega) (by omega)
    have e2 : w64 ((getI b at_).2.1 + (getI b at_).1) = (getI b at_).2.1 + (getI b at_).1 := w64_id (by omega) (by omega)
    have e3 : ((getI b at_).2.1 + (getI b at_).1).toNat - (getI b at_).2.1.toNat = (getI b at_).1.toNat := by omega
    simp only [e1, e2, e3]
    refine br_t h ?_
    by_cases c1 : (getI b at_).1 > 400
    · rw [if_neg (by omega)]
      exact br_d c1 rfl
    · refine br_n c1 ?_
      by_cases c2 : (getI b at_).1 > (b.length : Int) - (getI b at_).2.1
      · rw [if_neg (by omega)]
        exact br_d c2 rfl
      · rw [if_pos ⟨h, by omega, by omega⟩]
        exact br_n c2 (ck_t (by omega) (ck_t (by omega) (ck_t (by omega) (ck_t (by omega) rfl))))
  · rw [if_neg (fun hh => h hh.1)]
    exact br_f (by simpa using h) rfl

/-! sums -/
theorem spec_Sum_l0 (b : List Int) (hb : Bytes b) (hl : b.length ≤ 1000000000000) : ∀ (f i : Nat) (n : Int), b.length < i + f → i ≤ b.length → 0 ≤ n → n < 1000003 → spec.Sum.l0.f b f n (i : Int) = some (sumF n (b.drop i)) := by
  intro f
  induction f with
  | zero => intro i n h hi; omega
  | succ f ih =>
    intro i n h hi h0 h1
    rw [spec.Sum.l0.f]
    by_cases c : i < b.length
    · have hv := hb.at_ c
      have e1 : w64 ((i : Int) + 1) = ((i + 1 : Nat) : Int) := wsucc (by omega)
      have e2 : w64 (31 * n) = 31 * n := w64_id (by omega) (by omega)
      have e3 : w64 b[i] = b[i] := w64_id (by omega) (by omega)
      have e4 : w64 (31 * n + b[i]) = 31 * n + b[i] := w64_id (by omega) (by omega)
      have e5 : (31 * n + b[i]).tmod 1000003 = (31 * n + b[i]) % 1000003 := Int.tmod_eq_emod_of_nonneg (by omega)
      simp only [Int.toNat_natCast, getD_at c, e1, e2, e3, e4, e5]
      rw [List.drop_eq_getElem_cons c, sumF_cons]
      exact br_d (by omega) (ck_t (by omega) (ih (i + 1) _ (by omega) (by omega) (by omega) (by omega)))
    · rw [List.drop_of_length_le (by omega)]
      exact br_n (by omega) rfl
theorem spec_Sum_eq (K : Nat) (hK : 10000000000000 ≤ K) (b : List Int) (hb : Bytes b) (hl : b.length ≤ 1000000000000) : spec.Sum.f K b = some (sumF 7 b) := by
  unfold spec.Sum.f
  exact bind_t (spec_Sum_l0 b hb hl K 0 7 (by omega) (by omega) (by omega) (by omega)) rfl

theorem spec_RecOk_eq (n q : Int) (d : ByteArray) : spec.RecOk.f n q d = some (decide (recOk n q d)) := by
  unfold spec.RecOk.f
  refine bind_t (spec_l1In_eq n 0 25) ?_
  by_cases c : 0 ≤ n ∧ n ≤ 25
  · refine br_d c (bind_t (spec_l1In_eq q 1 1000000000) ?_)
    by_cases c2 : 1 ≤ q ∧ q ≤ 1000000000
    · refine br_d c2 ?_
      congr 1
      exact decide_eq_decide.2 ⟨fun h => ⟨c.1, c.2, c2.1, c2.2, by omega⟩, fun h => by have := h.2.2.2.2; omega⟩
    · exact br_n c2 (by rw [decide_eq_false (fun h => c2 ⟨h.2.2.1, h.2.2.2.1⟩)])
  · exact br_n c (by rw [decide_eq_false (fun h => c ⟨h.1, h.2.1⟩)])

theorem spec_RecText_eq (K : Nat) (hK : 10000000000000 ≤ K) (n q : Int) (d : ByteArray) : spec.RecText.f K n q d = some (if recOk n q d then ofBytes (recI n q d) else noVal) := by
  unfold spec.RecText.f
  refine bind_t (spec_RecOk_eq n q d) ?_
  by_cases c : recOk n q d
  · rw [if_pos c]
    have hd : d.size ≤ 400 := c.2.2.2.2
    have h1 := putI_length n
    have h2 := putI_length q
    have h4 := putI_length d.size
    have e : (putI n ++ putI q) ++ puttI d = recB n q d := rfl
    have hl : (recB n q d).length ≤ 415 := by rw [← e, puttI]; simp only [List.length_append, bytesL_len]; omega
    have h5 := putI_length (sumF 7 (recB n q d))
    refine br_d c (bind_t (spec_PutNum_eq K hK n) (bind_t (spec_PutNum_eq K hK q) (ck_t (by rw [List.length_append]; omega) (bind_t (spec_PutText_eq K hK d) ?_))))
    rw [if_pos hd]
    rw [show putI d.size ++ bytesL d = puttI d from rfl, e]
    exact ck_t (by omega) (bind_t (spec_Sum_eq K hK _ (recB_bytes n q d) (by omega)) (bind_t (spec_PutNum_eq K hK _) (ck_t (by rw [List.length_append]; omega) rfl)))
  · rw [if_neg c]
    exact br_n c rfl

theorem getI_small {b : List Int} {a : Int} (hb : Bytes b) (h : (getI b a).2.2 = true) : 0 ≤ (getI b a).2.1 ∧ (getI b a).2.1 ≤ b.length := by
  have := getI_ok hb h
  omega
theorem spec_RecRead_eq (K : Nat) (hK : 10000000000000 ≤ K) (s : ByteArray) (hs : s.size ≤ 1000000000000) : spec.RecRead.f K s = some (recR (bytesL s)) := by
  have hb := bytesL_ok s
  have hl : (bytesL s).length ≤ 1000000000000 := by rw [bytesL_len]; exact hs
  have G : ∀ a : Int, 0 ≤ a → a ≤ (bytesL s).length → spec.GetNum.f K (bytesL s) a = some (getI (bytesL s) a) := fun a h0 h1 => spec_GetNum_eq K hK _ a hb hl (by omega) (by omega)
  unfold spec.RecRead.f recR
  refine bind_t (G 0 (by omega) (by omega)) ?_
  by_cases c1 : (getI (bytesL s) 0).2.2 = true
  case neg => rw [if_neg (fun h => c1 h.1)]; exact br_f (by simpa using c1) rfl
  obtain ⟨b1, b2⟩ := getI_small hb c1
  refine br_t c1 (bind_t (G _ b1 b2) ?_)
  by_cases c2 : (getI (bytesL s) (getI (bytesL s) 0).2.1).2.2 = true
  case neg => rw [if_neg (fun h => c2 h.2.1)]; exact br_f (by simpa using c2) rfl
  obtain ⟨b3, b4⟩ := getI_small hb c2
  refine br_t c2 (bind_t (G _ b3 b4) ?_)
  by_cases c3 : (getI (bytesL s) (getI (bytesL s) (getI (bytesL s) 0).2.1).2.1).2.2 = true
  case neg => rw [if_neg (fun h => c3 h.2.2.1)]; exact br_f (by simpa using c3) rfl
  obtain ⟨b5, b6⟩ := getI_small hb c3
  refine br_t c3 (bind_t (spec_GetText_eq K hK _ _ hb hl (by omega) (by omega)) ?_)
  by_cases c4 : (gettI (bytesL s) (getI (bytesL s) (getI (bytesL s) (getI (bytesL s) 0).2.1).2.1).2.1).2.2 = true
  case neg => rw [if_neg (fun h => c4 h.2.2.2.1)]; exact br_f (by simpa using c4) rfl
  refine br_t c4 (bind_t (spec_RecText_eq K hK _ _ _) ?_)
  generalize (getI (bytesL s) (getI (bytesL s) 0).2.1).1 = n
  generalize (getI (bytesL s) (getI (bytesL s) (getI (bytesL s) 0).2.1).2.1).1 = q
  rw [show (gettI (bytesL s) (getI (bytesL s) (getI (bytesL s) (getI (bytesL s) 0).2.1).2.1).2.1) = (gettI (bytesL s) (getI (bytesL s) (getI (bytesL s) (getI (bytesL s) 0).2.1).2.1).2.1) from rfl]
  generalize (gettI (bytesL s) (getI (bytesL s) (getI (bytesL s) (getI (bytesL s) 0).2.1).2.1).2.1) = x4 at c4 ⊢
  have h0 : (getI (bytesL s) 0).2.2 = true := c1
  by_cases c5 : recOk n q x4.1
  · rw [if_pos c5]
    by_cases c6 : recI n q x4.1 = bytesL s
    · rw [if_pos ⟨c1, c2, c3, c4, c5, c6⟩]
      refine br_t ?_ rfl
      rw [c6, ofBytes_bytesL]; exact strEq_self s
    · rw [if_neg (fun h => c6 h.2.2.2.2.2)]
      refine br_f ?_ rfl
      rw [← Bool.not_eq_true, strEq_iff]
      intro e
      exact c6 (by rw [← e, bytesL_ofBytes (recI_bytes _ _ _)])
  · rw [if_neg c5, if_neg (fun h => c5 h.2.2.2.2.1)]
    refine br_f ?_ rfl
    rw [← Bool.not_eq_true, strEq_iff]
    intro e
    have : (bytesL s).length = 0 := by rw [bytesL_len, ← e]; rfl
    have hg := getI_ok hb c1
    omega

theorem spec_ChipOk_l0 (a : List ByteArray) (w : List Int) (hl : a.length ≤ 1000000) : ∀ (f i : Nat), a.length < i + f → i ≤ a.length →
    spec.ChipOk.l0.f a w f (i : Int) = some (if allF (fun i => (a.getD i noVal).size ≤ 800) i a.length then .inr () else .inl ()) := by
  intro f
  induction f with
  | zero => intro i h hi; omega
  | succ f ih =>
    intro i h hi
    rw [spec.ChipOk.l0.f]
    by_cases c : i < a.length
    · have e1 : w64 ((i : Int) + 1) = ((i + 1 : Nat) : Int) := wsucc (by omega)
      simp only [Int.toNat_natCast, e1]
      by_cases d : (a.getD i noVal).size ≤ 800
      · rw [if_iff ((allF_step c).trans ⟨fun g => g.2, fun g => ⟨d, g⟩⟩)]
        exact br_d (by omega) (ck_t (by omega) (br_n (by omega) (ih (i + 1) (by omega) (by omega))))
      · rw [if_neg (fun g => d ((allF_step c).1 g).1)]
        exact br_d (by omega) (ck_t (by omega) (br_d (by omega) rfl))
    · rw [if_pos (allF_end (by omega))]
      exact br_n (by omega) rfl
theorem spec_ChipOk_l1 (a : List ByteArray) (w : List Int) (hl : w.length ≤ 1000000) : ∀ (f i : Nat), w.length < i + f → i ≤ w.length →
    spec.ChipOk.l1.f a w f (i : Int) = some (if allF (fun i => 0 ≤ w.getD i 0 ∧ w.getD i 0 ≤ 1000000000) i w.length then .inr () else .inl ()) := by
  intro f
  induction f with
  | zero => intro i h hi; omega
  | succ f ih =>
    intro i h hi
    rw [spec.ChipOk.l1.f]
    by_cases c : i < w.length
    · have e1 : w64 ((i : Int) + 1) = ((i + 1 : Nat) : Int) := wsucc (by omega)
      simp only [Int.toNat_natCast, e1]
      by_cases d : 0 ≤ w.getD i 0 ∧ w.getD i 0 ≤ 1000000000
      · rw [if_iff ((allF_step c).trans ⟨fun g => g.2, fun g => ⟨d, g⟩⟩)]
        exact br_d (by omega) (ck_t (by omega) (bind_t (spec_l1In_eq _ 0 1000000000) (br_d d (ih (i + 1) (by omega) (by omega)))))
      · rw [if_neg (fun g => d ((allF_step c).1 g).1)]
        exact br_d (by omega) (ck_t (by omega) (bind_t (spec_l1In_eq _ 0 1000000000) (br_n d rfl)))
    · rw [if_pos (allF_end (by omega))]
      exact br_n (by omega) rfl
theorem spec_ChipOk_eq (K : Nat) (hK : 10000000000000 ≤ K) (a : List ByteArray) (w : List Int) : spec.ChipOk.f K a w = some (decide (chipOk a w)) := by
  unfold spec.ChipOk.f
  by_cases c1 : a.length = 60
  case neg =>
    rw [decide_eq_false (p := chipOk a w) (fun g => c1 g.1)]
    exact br_t (bne_iff_ne.2 (by omega)) rfl
  refine br_f (by simp [c1]) ?_
  by_cases c2 : w.length = 10
  case neg =>
    rw [decide_eq_false (p := chipOk a w) (fun g => c2 g.2.1)]
    exact br_t (bne_iff_ne.2 (by omega)) rfl
  refine br_f (by simp [c2]) (bind_t (spec_ChipOk_l0 a w (by omega) K 0 (by omega) (by omega)) ?_)
  by_cases c3 : allF (fun i => (a.getD i noVal).size ≤ 800) 0 a.length
  case neg =>
    rw [decide_eq_false (p := chipOk a w) (fun g => c3 g.2.2.1), if_neg c3]; rfl
  rw [if_pos c3]
  refine bind_t (spec_ChipOk_l1 a w (by omega) K 0 (by omega) (by omega)) ?_
  by_cases c4 : allF (fun i => 0 ≤ w.getD i 0 ∧ w.getD i 0 ≤ 1000000000) 0 w.length
  · rw [decide_eq_true (p := chipOk a w) ⟨c1, c2, c3, c4⟩, if_pos c4]; rfl
  · rw [decide_eq_false (p := chipOk a w) (fun g => c4 g.2.2.2), if_neg c4]; rfl

theorem spec_Mount_l0 (a : List ByteArray) (w : List Int) : ∀ (f i : Nat), 26 < i + f → i ≤ 26 → spec.Mount.l0.f a w f (List.replicate i (-1)) (i : Int) = some (List.replicate 26 (-1)) := by
  intro f
  induction f with
  | zero => intro i h hi; omega
  | succ f ih =>
    intro i h hi
    rw [spec.Mount.l0.f]
    by_cases c : i < 26
    · have e1 : w64 ((i : Int) + 1) = ((i + 1 : Nat) : Int) := wsucc (by omega)
      have e2 : List.replicate i (-1 : Int) ++ [-1] = List.replicate (i + 1) (-1) := (List.replicate_succ' ..).symm
      simp only [e1, e2]
      exact br_d (by omega) (ck_t (by rw [List.length_replicate]; omega) (ih (i + 1) (by omega) (by omega)))
    · have : i = 26 := by omega
      subst this
      exact br_n (by omega) rfl
theorem spec_l1Max_eq (a b : Int) : spec.l1Max.f a b = some (if a > b then a else b) := by
  unfold spec.l1Max.f
  by_cases c : a > b
  · rw [if_pos c]; exact br_d c rfl
  · rw [if_neg c]; exact br_n c rfl
theorem spec_l1Min_eq (a b : Int) : spec.l1Min.f a b = some (if a < b then a else b) := by
  unfold spec.l1Min.f
  by_cases c : a < b
  · rw [if_pos c]; exact br_d c rfl
  · rw [if_neg c]; exact br_n c rfl
theorem spec_Mount_l1 (K : Nat) (hK : 10000000000000 ≤ K) (a : List ByteArray) (w : List Int) (hl : a.length ≤ 1000000) (hs : ∀ x ∈ a, x.size ≤ 1000000) : ∀ (f i : Nat) (st : Mnt), a.length < i + f → i ≤ a.length → MntOk a i st →
    spec.Mount.l1.f K a w f st.map st.seq st.best (i : Int) = some ((mRun a i (a.length - i) st).map, (mRun a i (a.length - i) st).seq) := by
  intro f
  induction f with
  | zero => intro i st h hi; omega
  | succ f ih =>
    intro i st h hi ho
    rw [spec.Mount.l1.f]
    by_cases c : i < a.length
    · have e1 : w64 ((i : Int) + 1) = ((i + 1 : Nat) : Int) := wsucc (by omega)
      have hz : (a.getD i noVal).size ≤ 1000000000000 := by rw [getD_at c]; have := hs _ (List.getElem_mem c); omega
      have hr := spec_RecRead_eq K hK (a.getD i noVal) hz
      rw [show recR (bytesL (a.getD i noVal)) = pg a i from rfl] at hr
      rw [show a.length - i = (a.length - (i + 1)) + 1 by omega, mRun_succ]
      have hn := ih (i + 1) (mStep a st i) (by omega) (by omega) ho.step
      simp only [Int.toNat_natCast, e1]
      by_cases d : (pg a i).2.2.2 = true
      case neg =>
        have : mStep a st i = st := by unfold mStep; rw [if_neg d]
        rw [this] at hn ⊢
        exact br_d (by omega) (ck_t (by omega) (bind_t hr (br_f (by simpa using d) hn)))
      obtain ⟨r1, r2, r3, r4, r5⟩ := pg_ok d
      have e2 : w64 ((pg a i).2.1 + 1) = (pg a i).2.1 + 1 := w64_id (by omega) (by omega)
      have hsq : ∀ {α : Type} {g : Int → Option α} {q : Option α}, g (seqN st.seq (pg a i).2.1) = q → (Option.bind (spec.l1Max.f st.seq ((pg a i).2.1 + 1)) fun x2 => Option.bind (spec.l1Min.f x2 1000000000) fun x3 => g x3) = q := by
        intro α g q hg
        exact bind_t (spec_l1Max_eq _ _) (bind_t (spec_l1Min_eq _ _) hg)
      have hml := ho.mlen
      have hbl := ho.blen
      refine br_d (by omega) (ck_t (by omega) (bind_t hr (br_t d (ck_t r1 (ck_t (by omega) ?_)))))
      simp only [e2]
      by_cases e : (pg a i).2.1 > st.best.getD (pg a i).1.toNat 0
      · have : mStep a st i = ⟨st.map.set (pg a i).1.toNat i, seqN st.seq (pg a i).2.1, st.best.set (pg a i).1.toNat (pg a i).2.1⟩ := by unfold mStep; rw [if_pos d, if_pos e]
        rw [this] at hn ⊢
        exact br_d e (ck_t (by omega) (hsq hn))
      · have : mStep a st i = ⟨st.map, seqN st.seq (pg a i).2.1, st.best⟩ := by unfold mStep; rw [if_pos d, if_neg e]
        rw [this] at hn ⊢
        exact br_n e (hsq hn)
    · rw [show a.length - i = 0 by omega]
      exact br_n (by omega) rfl
theorem spec_l2Copy_eq (a : List ByteArray) (w : List Int) (h : chipOk a w) : spec.l2Copy.f a w = some () := by
  unfold spec.l2Copy.f
  have h1 := h.1
  have h2 := h.2.1
  exact ck_t (by simp only [List.nil_append]; omega) (ck_t (by simp only [List.nil_append]; omega) rfl)
theorem spec_Mount_eq (K : Nat) (hK : 10000000000000 ≤ K) (a : List ByteArray) (w : List Int) : spec.Mount.f K a w = some (if chipOk a w then (a, w, (mnt a).map, (mnt a).seq) else ([], [], [], 0)) := by
  unfold spec.Mount.f
  refine bind_t (spec_ChipOk_eq K hK a w) ?_
  by_cases c : chipOk a w
  · rw [if_pos c]
    have h1 := c.1
    have hm := spec_Mount_l1 K hK a w (by omega) (fun x hx => by have := chip_page c x hx; omega) K 0 mInit (by omega) (by omega) (mInit_ok a)
    exact br_d c (bind_t (spec_l2Copy_eq a w c) (ck_t (by decide) (bind_t (spec_Mount_l0 a w K 0 (by omega) (by omega)) (bind_t hm rfl))))
  · rw [if_neg c]
    exact br_n c rfl

theorem spec_l4Ints_l0 (m n : List Int) (hl : m.length ≤ 10000000) : ∀ (f i : Nat), m.length < i + f → i ≤ m.length →
    (allF (fun j => j < n.length → m.getD j 0 = n.getD j 0) i m.length ∧ spec.l4Ints.l0.f m n f (i : Int) = some (.inr ())) ∨ (¬ allF (fun j => j < n.length → m.getD j 0 = n.getD j 0) i m.length ∧ spec.l4Ints.l0.f m n f (i : Int) = some (.inl ())) := by
  intro f
  induction f with
  | zero => intro i h hi; omega
  | succ f ih =>
    intro i h hi
    rw [spec.l4Ints.l0.f]
    by_cases c : i < m.length
    · have e1 : w64 ((i : Int) + 1) = ((i + 1 : Nat) : Int) := wsucc (by omega)
      simp only [Int.toNat_natCast, e1]
      by_cases c2 : i < n.length
      · by_cases d : m.getD i 0 = n.getD i 0
        · have hb : (m.getD i 0 != n.getD i 0) = false := by rw [d]; simp
          rcases ih (i + 1) (by omega) (by omega) with ⟨g, h1⟩ | ⟨g, h1⟩
          · exact .inl ⟨(allF_step c).2 ⟨fun _ => d, g⟩, br_d (by omega) (br_d (by omega) (ck_t (by omega) (br_f hb h1)))⟩
          · exact .inr ⟨fun q => g ((allF_step c).1 q).2, br_d (by omega) (br_d (by omega) (ck_t (by omega) (br_f hb h1)))⟩
        · exact .inr ⟨fun q => d (((allF_step c).1 q).1 c2), br_d (by omega) (br_d (by omega) (ck_t (by omega) (br_t (bne_iff_ne.2 d) rfl)))⟩
      · exact .inl ⟨fun j h1 h2 h3 => by omega, br_d (by omega) (br_n (by omega) rfl)⟩
    · exact .inl ⟨allF_end (by omega), br_n (by omega) rfl⟩
theorem list_ext {m n : List Int} (hl : m.length = n.length) (h : ∀ j, j < m.length → m.getD j 0 = n.getD j 0) : m = n := by
  refine List.ext_getElem hl fun j h1 h2 => ?_
  have := h j h1
  rwa [getD_at h1, getD_at h2] at this
theorem spec_l4Ints_eq (K : Nat) (hK : 10000000000000 ≤ K) (m n : List Int) (hl : m.length ≤ 10000000) : spec.l4Ints.f K m n = some (decide (m = n)) := by
  unfold spec.l4Ints.f
  rcases spec_l4Ints_l0 m n hl K 0 (by omega) (by omega) with ⟨g, h⟩ | ⟨g, h⟩
  · refine bind_t h ?_
    show some ((m.length : Int) == (n.length : Int)) = _
    by_cases c : m.length = n.length
    · have := list_ext c (fun j hj => g j (by omega) hj (by omega))
      rw [decide_eq_true this, c]; simp
    · rw [decide_eq_false (fun e => c (by rw [e]))]
      congr 1
      exact beq_eq_false_iff_ne.2 (by omega)
  · refine bind_t h ?_
    rw [decide_eq_false (fun e => g (fun j _ _ _ => by rw [e]))]; rfl
theorem spec_FtlOk_eq (K : Nat) (hK : 10000000000000 ≤ K) (a : List ByteArray) (w m : List Int) (s : Int) : spec.FtlOk.f K a w m s = some (decide (ftlOk a w m s)) := by
  unfold spec.FtlOk.f
  refine bind_t (spec_Mount_eq K hK a w) (bind_t (spec_ChipOk_eq K hK a w) ?_)
  by_cases c : chipOk a w
  case neg => rw [decide_eq_false (p := ftlOk a w m s) (fun g => c g.1)]; exact br_n c rfl
  rw [if_pos c]
  have hm := (mnt_ok a).mlen
  refine br_d c (bind_t (spec_l4Ints_eq K hK _ _ (by show (mnt a).map.length ≤ _; omega)) ?_)
  by_cases d : (mnt a).map = m
  case neg => rw [decide_eq_false (p := ftlOk a w m s) (fun g => d g.2.1.symm)]; exact br_n d rfl
  refine br_d d ?_
  by_cases e : (mnt a).seq = s
  · rw [decide_eq_true (p := ftlOk a w m s) ⟨c, d.symm, e.symm⟩]; simp [e]
  · rw [decide_eq_false (p := ftlOk a w m s) (fun g => e g.2.2.symm)]; simp [e]

/-- A page is clear. -/
def eB (x : ByteArray) : Bool := strEq x noVal
theorem eB_comm (x : ByteArray) : strEq noVal x = eB x := by
  unfold eB
  rw [Bool.eq_iff_iff, strEq_iff, strEq_iff]; exact eq_comm
/-- The pages of a block. -/
def blk (a : List ByteArray) (b : Nat) : List ByteArray := (a.drop (b * 6)).take 6
theorem blk_length {a : List ByteArray} {b : Nat} (h : b * 6 + 6 ≤ a.length) : (blk a b).length = 6 := by
  unfold blk; rw [List.length_take, List.length_drop]; omega
theorem blk_at {a : List ByteArray} {b i : Nat} (h : b * 6 + 6 ≤ a.length) (hi : i < (blk a b).length) : (blk a b)[i] = a.getD (b * 6 + i) noVal := by
  have := blk_length h
  rw [getD_at (by omega)]
  simp only [blk, List.getElem_take, List.getElem_drop]
def clS (s : Nat × Nat) (x : ByteArray) : Nat × Nat := if eB x = true then (s.1 + 1, s.2 + 1) else (s.1, 0)
/-- How many pages of a block are clear, and how many at its end. -/
def clr (l : List ByteArray) : Nat × Nat := l.foldl clS (0, 0)
def bS (s : Nat × Nat) (x : Bool) : Nat × Nat := if x = true then (s.1 + 1, s.2 + 1) else (s.1, 0)
def bF (l : List Bool) : Int := if l.findIdx id < l.length then (if (l.drop (l.findIdx id)).findIdx (!·) < (l.drop (l.findIdx id)).length then -1 else (l.findIdx id : Int)) else -1
theorem b_law : ∀ b0 b1 b2 b3 b4 b5 : Bool, bF [b0, b1, b2, b3, b4, b5] = (if 0 < ([b0, b1, b2, b3, b4, b5].foldl bS (0, 0)).1 ∧ ([b0, b1, b2, b3, b4, b5].foldl bS (0, 0)).2 = ([b0, b1, b2, b3, b4, b5].foldl bS (0, 0)).1 then 6 - (([b0, b1, b2, b3, b4, b5].foldl bS (0, 0)).1 : Int) else -1) ∧ ([b0, b1, b2, b3, b4, b5].foldl bS (0, 0)).1 ≤ 6 := by decide
/-- Where a block's clear end begins, as the program seeks it. -/
def fcl (l : List ByteArray) : Int := if l.findIdx eB < l.length then (if (l.drop (l.findIdx eB)).findIdx (fun x => !eB x) < (l.drop (l.findIdx eB)).length then -1 else (l.findIdx eB : Int)) else -1
theorem fcl_eq {l : List ByteArray} (h : l.length = 6) : fcl l = (if 0 < (clr l).1 ∧ (clr l).2 = (clr l).1 then 6 - ((clr l).1 : Int) else -1) ∧ (clr l).1 ≤ 6 := by
  match l, h with
  | [x0, x1, x2, x3, x4, x5], _ =>
    have e1 : fcl [x0, x1, x2, x3, x4, x5] = bF ([x0, x1, x2, x3, x4, x5].map eB) := by
      unfold fcl bF
      rw [List.findIdx_map, List.drop_eq_drop_iff.2 rfl, List.length_map, ← List.map_drop, List.findIdx_map, List.length_map]
      rfl
    have e2 : clr [x0, x1, x2, x3, x4, x5] = ([x0, x1, x2, x3, x4, x5].map eB).foldl bS (0, 0) := by
      unfold clr
      rw [List.foldl_map]; rfl
    rw [e1, e2]
    exact b_law _ _ _ _ _ _
theorem spec_l4Clear_l0 (a : List ByteArray) (w : List Int) (b : Nat) (h : b * 6 + 6 ≤ a.length) (hl : a.length ≤ 1000000) : ∀ (f i n t : Nat), 6 < i + f → i ≤ 6 → n ≤ i → t ≤ i →
    spec.l4Clear.l0.f a w (b : Int) f (n : Int) (t : Int) (i : Int) = some (((((blk a b).drop i).foldl clS (n, t)).1 : Int), ((((blk a b).drop i).foldl clS (n, t)).2 : Int)) := by
  intro f
  induction f with
  | zero => intro i n t h1 hi; omega
  | succ f ih =>
    intro i n t h1 hi hn ht
    have hb := blk_length h
    rw [spec.l4Clear.l0.f]
    by_cases c : i < 6
    · have e1 : w64 ((i : Int) + 1) = ((i + 1 : Nat) : Int) := wsucc (by omega)
      have e2 : w64 (w64 ((b : Int) * 6) + (i : Int)) = ((b * 6 + i : Nat) : Int) := by rw [w64_id (x := (b : Int) * 6) (by omega) (by omega), w64_id (by omega) (by omega)]; omega
      have e3 : w64 ((n : Int) + 1) = ((n + 1 : Nat) : Int) := wsucc (by omega)
      have e4 : w64 ((t : Int) + 1) = ((t + 1 : Nat) : Int) := wsucc (by omega)
      rw [List.drop_eq_getElem_cons (by omega : i < (blk a b).length), List.foldl_cons, blk_at h]
      simp only [e1, e2, e3, e4, Int.toNat_natCast]
      refine br_d (by omega) (ck_t (by omega) (ck_t (by omega) ?_))
      by_cases d : eB (a.getD (b * 6 + i) noVal) = true
      · rw [show clS (n, t) (a.getD (b * 6 + i) noVal) = (n + 1, t + 1) by unfold clS; rw [if_pos d]]
        exact br_t d (ih (i + 1) (n + 1) (t + 1) (by omega) (by omega) (by omega) (by omega))
      · rw [show clS (n, t) (a.getD (b * 6 + i) noVal) = (n, 0) by unfold clS; rw [if_neg d]]
        exact br_f (by simpa [eB] using d) (ih (i + 1) n 0 (by omega) (by omega) (by omega) (by omega))
    · rw [List.drop_eq_nil_of_le (by omega)]
      exact br_n (by omega) rfl
theorem spec_l4Clear_eq (K : Nat) (hK : 10000000000000 ≤ K) (a : List ByteArray) (w : List Int) (b : Nat) (h : b * 6 + 6 ≤ a.length) (hl : a.length ≤ 1000000) : spec.l4Clear.f K a w (b : Int) = some (((clr (blk a b)).1 : Int), ((clr (blk a b)).2 : Int)) := by
  unfold spec.l4Clear.f
  exact bind_t (spec_l4Clear_l0 a w b h hl K 0 0 0 (by omega) (by omega) (by omega) (by omega)) rfl
theorem clr_all : ∀ (l : List ByteArray) (s : Nat × Nat), s.2 ≤ s.1 → (l.foldl clS s).2 ≤ (l.foldl clS s).1 ∧ (l.foldl clS s).1 ≤ s.1 + l.length ∧ ((l.foldl clS s).1 = s.1 + l.length → s.2 = s.1 → (l.foldl clS s).2 = (l.foldl clS s).1)
  | [], s, h => ⟨h, Nat.le_refl _, fun _ g => g⟩
  | x :: l, s, h => by
    rw [List.foldl_cons, List.length_cons]
    by_cases c : eB x = true
    · have e : clS s x = (s.1 + 1, s.2 + 1) := by unfold clS; rw [if_pos c]
      rw [e]
      obtain ⟨h1, h2, h3⟩ := clr_all l (s.1 + 1, s.2 + 1) (Nat.succ_le_succ h)
      refine ⟨h1, by omega, fun g g2 => h3 (by omega) (by omega)⟩
    · have e : clS s x = (s.1, 0) := by unfold clS; rw [if_neg c]
      rw [e]
      obtain ⟨h1, h2, h3⟩ := clr_all l (s.1, 0) (Nat.zero_le _)
      refine ⟨h1, by omega, fun g g2 => by omega⟩

/-- A block is free; a block is begun and has a clear end; where that begins. -/
def frB (a : List ByteArray) (v : Nat) : Bool := (clr (blk a v)).1 == 6
def ptB (a : List ByteArray) (v : Nat) : Bool := decide (0 < (clr (blk a v)).1 ∧ (clr (blk a v)).1 < 6 ∧ (clr (blk a v)).2 = (clr (blk a v)).1)
def ptP (a : List ByteArray) (v : Nat) : Int := (v : Int) * 6 + 6 - ((clr (blk a v)).1 : Int)
def bst (w : List Int) (best x : Int) : Int := if best < 0 then x else if w.getD x.toNat 0 < w.getD best.toNat 0 then x else best
def fin6 (best : Int) : Int := if best < 0 then -1 else best * 6
/-- The page that is written next. -/
def nx (a : List ByteArray) (w : List Int) : List Nat → Int → Int
  | [], best => fin6 best
  | v :: l, best => if ptB a v = true then ptP a v else nx a w l (if frB a v = true then bst w best v else best)
def nxt (a : List ByteArray) (w : List Int) : Int := nx a w (List.range' 0 10) (-1)
theorem fcl_cases {a : List ByteArray} {v : Nat} (h : v * 6 + 6 ≤ a.length) : (frB a v = true ∧ ptB a v = false ∧ fcl (blk a v) = 0 ∧ (clr (blk a v)).1 = 6) ∨
    (frB a v = false ∧ ptB a v = true ∧ (clr (blk a v)).1 < 6 ∧ 0 < (clr (blk a v)).1 ∧ (clr (blk a v)).2 = (clr (blk a v)).1 ∧ fcl (blk a v) = 6 - ((clr (blk a v)).1 : Int)) ∨
    (frB a v = false ∧ ptB a v = false ∧ (clr (blk a v)).1 < 6 ∧ fcl (blk a v) = -1 ∧ ¬ (0 < (clr (blk a v)).1 ∧ (clr (blk a v)).2 = (clr (blk a v)).1)) := by
  have hl := blk_length h
  have hf := fcl_eq hl
  have hc := clr_all (blk a v) (0, 0) (Nat.le_refl _)
  have hc3 := hc.2.2
  rw [hl] at hc3
  have e : (blk a v).foldl clS (0, 0) = clr (blk a v) := rfl
  rw [e] at hc3
  simp only [Nat.zero_add] at hc3
  unfold frB ptB
  by_cases c : (clr (blk a v)).1 = 6
  · refine .inl ⟨by simpa using c, decide_eq_false (by omega), ?_, c⟩
    rw [hf.1, if_pos ⟨by omega, hc3 c trivial⟩]; omega
  · by_cases d : 0 < (clr (blk a v)).1 ∧ (clr (blk a v)).2 = (clr (blk a v)).1
    · refine .inr (.inl ⟨by simpa using c, decide_eq_true ⟨d.1, by omega, d.2⟩, by omega, d.1, d.2, ?_⟩)
      rw [hf.1, if_pos d]
    · refine .inr (.inr ⟨by simpa using c, decide_eq_false (by omega), by omega, ?_, d⟩)
      rw [hf.1, if_neg d]
theorem spec_l4Next_l0 (K : Nat) (hK : 10000000000000 ≤ K) (a : List ByteArray) (w : List Int) (ha : a.length = 60) (hw : w.length = 10) : ∀ (f i : Nat) (best : Int), 10 < i + f → i ≤ 10 → (best = -1 ∨ (0 ≤ best ∧ best < 10)) →
    ∃ x, spec.l4Next.l0.f K a w f best (i : Int) = some x ∧ Sum.elim (fun y => y) fin6 x = nx a w (List.range' i (10 - i)) best ∧ ∀ b, x = .inr b → -1 ≤ b ∧ b < 10 := by
  intro f
  induction f with
  | zero => intro i best h1 hi; omega
  | succ f ih =>
    intro i best h1 hi hb
    rw [spec.l4Next.l0.f]
    by_cases c : i < 10
    · have e1 : w64 ((i : Int) + 1) = ((i + 1 : Nat) : Int) := wsucc (by omega)
      have hcl := spec_l4Clear_eq K hK a w i (by omega) (by omega)
      have hz := fcl_cases (a := a) (v := i) (by omega)
      rw [show 10 - i = (10 - (i + 1)) + 1 by omega, List.range'_succ]
      simp only [nx, e1]
      generalize hk : clr (blk a i) = k at hcl hz ⊢
      rcases hz with ⟨z1, z2, z3, z4⟩ | ⟨z1, z2, z3, z4, z5, z6⟩ | ⟨z1, z2, z3, z4, z5⟩
      · rw [z1, z2, if_neg (by decide), if_pos rfl]
        by_cases b0 : best < 0
        · obtain ⟨x, g1, g2, g3⟩ := ih (i + 1) (i : Int) (by omega) (by omega) (by omega)
          refine ⟨x, br_d (by omega) (bind_t hcl (br_d (by show (0 : Int) < (k.1 : Int); omega) (br_n (by show ¬ (k.1 : Int) < 6; omega) (br_t (by show ((k.1 : Int) == 6) = true; simp [z4]) (br_d b0 g1))))), ?_, g3⟩
          rw [g2, bst, if_pos b0]
        · by_cases b1 : w.getD i 0 < w.getD best.toNat 0
          · obtain ⟨x, g1, g2, g3⟩ := ih (i + 1) (i : Int) (by omega) (by omega) (by omega)
            refine ⟨x, br_d (by omega) (bind_t hcl (br_d (by show (0 : Int) < (k.1 : Int); omega) (br_n (by show ¬ (k.1 : Int) < 6; omega) (br_t (by show ((k.1 : Int) == 6) = true; simp [z4]) (br_n b0 (ck_t (by omega) (ck_t (by omega) (ck_t (by omega) (br_d b1 g1))))))))), ?_, g3⟩
            rw [g2, bst, if_neg b0, Int.toNat_natCast, if_pos b1]
          · obtain ⟨x, g1, g2, g3⟩ := ih (i + 1) best (by omega) (by omega) (by omega)
            refine ⟨x, br_d (by omega) (bind_t hcl (br_d (by show (0 : Int) < (k.1 : Int); omega) (br_n (by show ¬ (k.1 : Int) < 6; omega) (br_t (by show ((k.1 : Int) == 6) = true; simp [z4]) (br_n b0 (ck_t (by omega) (ck_t (by omega) (ck_t (by omega) (br_n b1 g1))))))))), ?_, g3⟩
            rw [g2, bst, if_neg b0, Int.toNat_natCast, if_neg b1]
      · rw [z2, if_pos rfl]
        refine ⟨_, br_d (by omega) (bind_t hcl (br_d (by show (0 : Int) < (k.1 : Int); omega) (br_d (by show (k.1 : Int) < 6; omega) (br_t (by show ((k.2 : Int) == (k.1 : Int)) = true; simp [z5]) rfl)))), ?_, fun b hb => by cases hb⟩
        show w64 (w64 (w64 ((i : Int) * 6) + 6) - (k.1 : Int)) = _
        unfold ptP
        rw [w64_id (x := (i : Int) * 6) (by omega) (by omega), w64_id (x := (i : Int) * 6 + 6) (by omega) (by omega), w64_id (by omega) (by omega), hk]
      · rw [z1, z2, if_neg (by decide), if_neg (by decide)]
        obtain ⟨x, g1, g2, g3⟩ := ih (i + 1) best (by omega) (by omega) hb
        refine ⟨x, br_d (by omega) (bind_t hcl ?_), g2, g3⟩
        have hn6 : ((k.1 : Int) == 6) = false := by simp; omega
        by_cases q : (0 : Int) < (k.1 : Int)
        · exact br_d q (br_d (by show (k.1 : Int) < 6; omega) (br_f (by show ((k.2 : Int) == (k.1 : Int)) = false; simp; omega) (br_f hn6 g1)))
        · exact br_n q (br_f hn6 g1)
    · rw [show 10 - i = 0 by omega]
      exact ⟨_, br_n (by omega) rfl, rfl, fun b hb => by cases hb; omega⟩
theorem spec_l4Next_eq (K : Nat) (hK : 10000000000000 ≤ K) (a : List ByteArray) (w : List Int) (ha : a.length = 60) (hw : w.length = 10) : spec.l4Next.f K a w = some (nxt a w) := by
  unfold spec.l4Next.f
  obtain ⟨x, g1, g2, g3⟩ := spec_l4Next_l0 K hK a w ha hw K 0 (-1) (by omega) (by omega) (.inl rfl)
  refine bind_t g1 ?_
  unfold nxt
  rw [← show Sum.elim (fun y => y) fin6 x = nx a w (List.range' 0 10) (-1) from g2]
  cases x with
  | inl p => rfl
  | inr b =>
    have := g3 b rfl
    show cond _ _ _ = some (fin6 b)
    unfold fin6
    by_cases c : b < 0
    · rw [if_pos c]; exact br_d c rfl
    · rw [if_neg c]
      refine br_n c ?_
      rw [w64_id (by omega) (by omega)]
theorem nx_ok (a : List ByteArray) (w : List Int) (ha : a.length = 60) : ∀ (l : List Nat) (best : Int), (∀ v ∈ l, v < 10) → (best = -1 ∨ ∃ v, v < 10 ∧ best = (v : Nat) ∧ frB a v = true) →
    nx a w l best = -1 ∨ (0 ≤ nx a w l best ∧ nx a w l best < 60 ∧ (nx a w l best % 6 = 0 → frB a (nx a w l best / 6).toNat = true))
  | [], best, _, hb => by
    unfold nx fin6
    rcases hb with rfl | ⟨v, h1, rfl, h2⟩
    · exact .inl rfl
    · rw [if_neg (by omega)]
      exact .inr ⟨by omega, by omega, fun _ => by rw [show ((v : Int) * 6 / 6).toNat = v by omega]; exact h2⟩
  | v :: l, best, hl, hb => by
    have hv := hl v (List.mem_cons_self ..)
    have hz := fcl_cases (a := a) (v := v) (by omega)
    unfold nx
    by_cases c : ptB a v = true
    · rw [if_pos c]
      rcases hz with ⟨z1, z2, z3, z4⟩ | ⟨z1, z2, z3, z4, z5, z6⟩ | ⟨z1, z2, z3, z4, z5⟩
      · rw [c] at z2; exact absurd z2 (by decide)
      · unfold ptP
        exact .inr ⟨by omega, by omega, fun h => by omega⟩
      · rw [c] at z2; exact absurd z2 (by decide)
    · rw [if_neg c]
      refine nx_ok a w ha l _ (fun u hu => hl u (List.mem_cons_of_mem _ hu)) ?_
      by_cases d : frB a v = true
      · rw [if_pos d]
        unfold bst
        by_cases e : best < 0
        · rw [if_pos e]; exact .inr ⟨v, hv, rfl, d⟩
        · rw [if_neg e]
          split
          · exact .inr ⟨v, hv, rfl, d⟩
          · exact hb
      · rw [if_neg d]; exact hb
theorem nxt_ok (a : List ByteArray) (w : List Int) (ha : a.length = 60) : nxt a w = -1 ∨ (0 ≤ nxt a w ∧ nxt a w < 60 ∧ (nxt a w % 6 = 0 → frB a (nxt a w / 6).toNat = true)) := by
  refine nx_ok a w ha _ _ (fun v hv => ?_) (.inl rfl)
  have := List.mem_range'_1.1 hv
  omega
theorem nx_no (a : List ByteArray) (w : List Int) : ∀ (l : List Nat) (best : Int), (∀ v ∈ l, ptB a v = false) → nx a w l best = fin6 (((l.filter (frB a)).map fun (v : Nat) => (v : Int)).foldl (bst w) best)
  | [], best, _ => rfl
  | v :: l, best, h => by
    unfold nx
    rw [h v (List.mem_cons_self ..), if_neg (by decide), nx_no a w l _ (fun u hu => h u (List.mem_cons_of_mem _ hu))]
    by_cases d : frB a v = true
    · rw [if_pos d, List.filter_cons_of_pos d, List.map_cons, List.foldl_cons]
    · rw [if_neg d, List.filter_cons_of_neg d]
theorem bst_lt (w : List Int) : ∀ (L : List Int) (best : Int), (∀ x ∈ L, 0 ≤ x ∧ x < 10) → best < 10 → L.foldl (bst w) best < 10
  | [], best, _, h => h
  | x :: L, best, hx, h => by
    rw [List.foldl_cons]
    refine bst_lt w L _ (fun y hy => hx y (List.mem_cons_of_mem _ hy)) ?_
    have := hx x (List.mem_cons_self ..)
    unfold bst
    split
    · omega
    · split <;> omega

/-- The pages of a block that hold a live sector, in order. -/
def livL (m : List Int) (b : Int) (i d : Nat) : List Int := (List.range' i d).flatMap fun (j : Nat) => List.replicate (m.count (b * 6 + (j : Int))) (b * 6 + (j : Int))
theorem livL_succ (m : List Int) (b : Int) (i d : Nat) : livL m b i (d + 1) = List.replicate (m.count (b * 6 + (i : Int))) (b * 6 + (i : Int)) ++ livL m b (i + 1) d := by
  unfold livL
  rw [List.range'_succ, List.flatMap_cons]
theorem livL_mem {m : List Int} {b x : Int} : ∀ (d i : Nat), x ∈ livL m b i d → b * 6 + (i : Int) ≤ x ∧ x < b * 6 + (i : Int) + d
  | 0, i, h => by simp [livL] at h
  | d + 1, i, h => by
    rw [livL_succ, List.mem_append] at h
    rcases h with h | h
    · have := (List.mem_replicate.1 h).2; omega
    · have := livL_mem d (i + 1) h; omega
theorem livL_sorted (m : List Int) (b : Int) : ∀ (d i : Nat), (livL m b i d).Pairwise (· ≤ ·)
  | 0, i => .nil
  | d + 1, i => by
    rw [livL_succ]
    refine List.pairwise_append.2 ⟨List.pairwise_replicate.2 (.inr (Int.le_refl _)), livL_sorted m b d (i + 1), fun u hu v hv => ?_⟩
    have h1 := (List.mem_replicate.1 hu).2
    have h2 := livL_mem d (i + 1) hv
    omega
theorem livL_len {m : List Int} {b : Int} (h : ∀ x, 0 ≤ x → m.count x ≤ 1) (hb : 0 ≤ b) : ∀ (d i : Nat), (livL m b i d).length ≤ d
  | 0, i => by simp [livL]
  | d + 1, i => by
    rw [livL_succ, List.length_append, List.length_replicate]
    have := livL_len h hb d (i + 1)
    have := h (b * 6 + (i : Int)) (by omega)
    omega
theorem cnt_filter (q : Int → Bool) (m : List Int) (x : Int) : (m.filter q).count x = if q x = true then m.count x else 0 := by
  by_cases h : q x = true
  · rw [if_pos h, List.count_filter h]
  · rw [if_neg h, List.count_eq_zero]
    intro hm
    exact h (List.mem_filter.1 hm).2
theorem cnt_livL (m : List Int) (b x : Int) : ∀ (d i : Nat), (livL m b i d).count x = if b * 6 + (i : Int) ≤ x ∧ x < b * 6 + (i : Int) + d then m.count x else 0
  | 0, i => by
    rw [if_neg (by omega)]; rfl
  | d + 1, i => by
    rw [livL_succ, List.count_append, cnt_livL m b x d (i + 1), List.count_replicate]
    by_cases c : b * 6 + (i : Int) = x
    · subst c
      rw [if_pos (by simp), if_neg (by omega), if_pos (by omega)]; omega
    · rw [if_neg (by simpa using c)]
      by_cases c2 : b * 6 + ((i + 1 : Nat) : Int) ≤ x ∧ x < b * 6 + ((i + 1 : Nat) : Int) + d
      · rw [if_pos c2, if_pos (by omega)]; omega
      · rw [if_neg c2, if_neg (by omega)]
theorem cnt_le : ∀ (m : List Int) (p : Int) (j : Nat), (∀ k, k < m.length → m.getD k 0 = p → k = j) → m.count p ≤ 1
  | [], p, j, _ => by simp
  | x :: m, p, j, h => by
    rw [List.count_cons]
    by_cases c : x = p
    · have h0 := h 0 (by simp) (by simpa using c)
      have : m.count p = 0 := by
        rw [List.count_eq_zero]
        intro hm
        obtain ⟨k, hk, hk2⟩ := List.mem_iff_getElem.1 hm
        have := h (k + 1) (by simp; omega) (by rw [List.getD_cons_succ, List.getD_eq_getElem?_getD, List.getElem?_eq_getElem hk]; exact hk2)
        omega
      rw [this]; split <;> omega
    · have := cnt_le m p (j - 1) (fun k hk hk2 => by
        have := h (k + 1) (by simp; omega) (by rw [List.getD_cons_succ]; exact hk2)
        omega)
      rw [if_neg (by simpa using c)]; omega
theorem ftl_cnt {a : List ByteArray} {w m : List Int} {s : Int} (h : ftlOk a w m s) (x : Int) (hx : 0 ≤ x) : m.count x ≤ 1 := by
  have ho := mnt_ok a
  refine cnt_le m x (pg a x.toNat).1.toNat (fun k hk hk2 => ?_)
  rw [h.2.1] at hk hk2
  rw [ho.mlen] at hk
  rcases ho.at_ k hk with g | ⟨p, g1, g2, g3, g4, _⟩
  · omega
  · have : x.toNat = p := by omega
    rw [this, g4]; rfl
theorem ftl_mem {a : List ByteArray} {w m : List Int} {s : Int} (h : ftlOk a w m s) : ∀ x ∈ m, -1 ≤ x ∧ x < 60 := by
  have ho := mnt_ok a
  have h60 := h.1.1
  intro x hx
  obtain ⟨k, hk, rfl⟩ := List.mem_iff_getElem.1 hx
  have e : m[k] = m.getD k 0 := by rw [List.getD_eq_getElem?_getD, List.getElem?_eq_getElem hk]; rfl
  rw [e]
  rw [h.2.1] at hk ⊢
  rw [ho.mlen] at hk
  rcases ho.at_ k hk with g | ⟨p, g1, g2, _⟩
  · omega
  · omega
theorem l4Lives_l1 (a : List ByteArray) (w m : List Int) (s b : Int) (i0 : Nat) (hm : m.length ≤ 1000) (hb : 0 ≤ b) (hb2 : b ≤ 9) (hi0 : i0 ≤ 6) : ∀ (f i : Nat) (v : List Int), m.length < i + f → i ≤ m.length → v.length + (m.length - i) ≤ 1000000 →
    spec.l4Lives.l1.f a w m s b (i0 : Int) f v (i : Int) = some (v ++ (m.drop i).filter (· == b * 6 + (i0 : Int))) := by
  intro f
  induction f with
  | zero => intro i v h1 hi; omega
  | succ f ih =>
    intro i v h1 hi hv
    rw [spec.l4Lives.l1.f]
    by_cases c : i < m.length
    · have e1 : w64 ((i : Int) + 1) = ((i + 1 : Nat) : Int) := wsucc (by omega)
      have e2 : w64 (w64 (b * 6) + (i0 : Int)) = b * 6 + (i0 : Int) := by rw [w64_id (x := b * 6) (by omega) (by omega), w64_id (by omega) (by omega)]
      have e3 : m.getD i 0 = m[i] := getD_at c 0
      rw [List.drop_eq_getElem_cons c]
      simp only [e1, e2, e3, Int.toNat_natCast]
      refine br_d (by omega) (ck_t (by omega) ?_)
      by_cases d : (m[i] == b * 6 + (i0 : Int)) = true
      · have e4 : m[i] = b * 6 + (i0 : Int) := by simpa using d
        rw [List.filter_cons_of_pos (p := fun x => x == b * 6 + (i0 : Int)) d, e4]
        refine br_t (by simp) (ck_t (by simp; omega) ?_)
        rw [ih (i + 1) (v ++ [b * 6 + (i0 : Int)]) (by omega) (by omega) (by simp; omega)]
        simp
      · rw [List.filter_cons_of_neg (p := fun x => x == b * 6 + (i0 : Int)) d]
        exact br_f (by simpa using d) (ih (i + 1) v (by omega) (by omega) (by omega))
    · have : i = m.length := by omega
      subst this
      exact br_n (by omega) (by simp)
theorem l4Lives_l0 (K : Nat) (hK : 10000000000000 ≤ K) (a : List ByteArray) (w m : List Int) (s b : Int) (hm : m.length ≤ 1000) (hb : 0 ≤ b) (hb2 : b ≤ 9) (hc : ∀ x, 0 ≤ x → m.count x ≤ 1) : ∀ (f i : Nat) (v : List Int), 6 < i + f → i ≤ 6 → v.length ≤ i →
    spec.l4Lives.l0.f K a w m s b f v (i : Int) = some (v ++ livL m b i (6 - i)) := by
  intro f
  induction f with
  | zero => intro i v h1 hi; omega
  | succ f ih =>
    intro i v h1 hi hv
    rw [spec.l4Lives.l0.f]
    by_cases c : i < 6
    · have e1 : w64 ((i : Int) + 1) = ((i + 1 : Nat) : Int) := wsucc (by omega)
      simp only [e1]
      have h2 := l4Lives_l1 a w m s b i hm hb hb2 (by omega) K 0 v (by omega) (by omega) (by omega)
      rw [List.drop_zero, List.filter_beq] at h2
      have := hc (b * 6 + (i : Int)) (by omega)
      refine br_d (by omega) (bind_t h2 ?_)
      rw [ih (i + 1) _ (by omega) (by omega) (by rw [List.length_append, List.length_replicate]; omega), List.append_assoc, ← livL_succ, show 6 - (i + 1) + 1 = 6 - i by omega]
    · rw [show 6 - i = 0 by omega]
      exact br_n (by omega) (by simp [livL])
theorem l4Lives_eq (K : Nat) (hK : 10000000000000 ≤ K) (a : List ByteArray) (w m : List Int) (s b : Int) (h : ftlOk a w m s) (hb : 0 ≤ b) (hb2 : b ≤ 9) : spec.l4Lives.f K a w m s b = some (livL m b 0 6) := by
  unfold spec.l4Lives.f
  have hm : m.length = 26 := by rw [h.2.1]; exact (mnt_ok a).mlen
  exact bind_t (l4Lives_l0 K hK a w m s b (by omega) hb hb2 (ftl_cnt h) K 0 [] (by omega) (by omega) (by simp)) rfl
/-- What the program's own loop keeps. -/
def livQ (b x : Int) : Bool := decide (0 ≤ x ∧ x / 6 = b)
theorem liv_perm (m : List Int) (b : Int) (hb : 0 ≤ b) : (m.filter (livQ b)).Perm (livL m b 0 6) := by
  rw [List.perm_iff_count]
  intro x
  rw [cnt_filter, cnt_livL]
  by_cases c : livQ b x = true
  · have : 0 ≤ x ∧ x / 6 = b := by simpa [livQ] using c
    rw [if_pos c, if_pos (by omega)]
  · have : ¬ (0 ≤ x ∧ x / 6 = b) := by simpa [livQ] using c
    rw [if_neg c, if_neg (by omega)]
theorem liv_out (m : List Int) (b : Int) (hx : ∀ x ∈ m, -1 ≤ x ∧ x < 60) (hb : ¬ (0 ≤ b ∧ b ≤ 9)) : m.filter (livQ b) = [] := by
  rw [List.filter_eq_nil_iff]
  intro x hm
  have := hx x hm
  simp [livQ]; omega

theorem impl_skip {p i : Int} {X T : Option Int} {r : Option Int} (hp : p < 60) (h : ¬ (0 ≤ p ∧ p / 6 = i)) (e : T = r) : cond (decide (p ≥ 0)) (cond (w64 (p.tdiv 6) == i) X T) T = r := by
  by_cases c : p ≥ 0
  · refine br_d c (br_f ?_ e)
    rw [Int.tdiv_eq_ediv_of_nonneg c, w64_id (by omega) (by omega)]
    simp; omega
  · exact br_n c e
theorem impl_skip1 {p i : Int} {X T : Option Int} {r : Option Int} (hp : p < 60) (h : 0 ≤ p ∧ p / 6 = i) (e : X = r) : cond (decide (p ≥ 0)) (cond (w64 (p.tdiv 6) == i) X T) T = r := by
  refine br_d h.1 (br_t ?_ e)
  rw [Int.tdiv_eq_ediv_of_nonneg h.1, w64_id (by omega) (by omega)]
  simp; omega
/-- What the loop over the blocks holds. -/
def wInv (m : List Int) (best bl : Int) : Prop := (best = -1 ∧ bl = 0) ∨ ∃ v : Nat, v < 10 ∧ best = (v : Int) ∧ bl = ((livL m (v : Int) 0 6).length : Int)
/-- The block that is begun, if any. -/
def opB (p : Int) : Int := if p < 0 then -1 else if p % 6 = 0 then -1 else p / 6
theorem spec_l5Open_eq (K : Nat) (hK : 10000000000000 ≤ K) (a : List ByteArray) (w : List Int) (ha : a.length = 60) (hw : w.length = 10) : spec.l5Open.f K a w = some (opB (nxt a w)) := by
  unfold spec.l5Open.f opB
  refine bind_t (spec_l4Next_eq K hK a w ha hw) ?_
  have ho := nxt_ok a w ha
  by_cases c : nxt a w < 0
  · rw [if_pos c]; exact br_d c rfl
  · rw [if_neg c]
    refine br_n c ?_
    rw [Int.tmod_eq_emod_of_nonneg (by omega), Int.tdiv_eq_ediv_of_nonneg (by omega), w64_id (by omega) (by omega)]
    by_cases d : nxt a w % 6 = 0
    · rw [if_pos d]; exact br_t (by simpa using d) rfl
    · rw [if_neg d]; exact br_f (by simpa using d) rfl

/-! ### the reference's planner, in plain words -/
theorem recI_ne {n q : Int} {d : ByteArray} (h : recOk n q d) : strEq (ofBytes (recI n q d)) noVal = false := by
  rw [← Bool.not_eq_true, strEq_iff]
  intro e
  have h1 := congrArg ByteArray.size e
  rw [ofBytes_size] at h1
  have h2 : 1 ≤ (recI n q d).length := by
    unfold recI summedI
    rw [List.length_append]
    have := putI_pos (sum_ok (recB n q d)).1 (sum_ok (recB n q d)).2
    omega
  have h3 : noVal.size = 0 := rfl
  omega
theorem recI_size {n q : Int} {d : ByteArray} (h : recOk n q d) : (ofBytes (recI n q d)).size ≤ 420 := by
  rw [ofBytes_size]
  exact recI_len n q d h.2.2.2.2
/-- An Ftl at work: pages, wear, map, seq, the acts so far, whether all could be done. -/
structure Wk where
  a : List ByteArray
  w : List Int
  m : List Int
  s : Int
  q : List (Int × Int × ByteArray)
  ok : Bool
/-- What is always right of it. -/
structure WkOk (x : Wk) : Prop where
  chip : chipOk x.a x.w
  mlen : x.m.length = 26
  s0 : 0 ≤ x.s
  s1 : x.s ≤ 1000000000
def bOk (x : Wk) (sec : Int) (d : ByteArray) : Prop := 0 ≤ nxt x.a x.w ∧ recOk sec x.s d ∧ x.s ≠ 1000000000
instance (x : Wk) (sec : Int) (d : ByteArray) : Decidable (bOk x sec d) := by unfold bOk; infer_instance
def bDo (x : Wk) (sec : Int) (d : ByteArray) : Wk := ⟨x.a.set (nxt x.a x.w).toNat (ofBytes (recI sec x.s d)), x.w, x.m.set sec.toNat (nxt x.a x.w), x.s + 1, x.q ++ [(1, nxt x.a x.w, ofBytes (recI sec x.s d))], x.ok⟩
def wBurn (x : Wk) (sec : Int) (d : ByteArray) : Wk := if bOk x sec d then bDo x sec d else { x with ok := false }
theorem chipOk_set {a : List ByteArray} {w : List Int} (h : chipOk a w) (p : Nat) {t : ByteArray} (ht : t.size ≤ 800) : chipOk (a.set p t) w := by
  obtain ⟨h1, h2, h3, h4⟩ := h
  refine ⟨by rw [List.length_set, h1], h2, fun j hj1 hj2 => ?_, h4⟩
  rw [List.length_set] at hj2
  rw [getD_set]
  split
  · exact ht
  · exact h3 j hj1 hj2
theorem nxt_lt {a : List ByteArray} {w : List Int} (ha : a.length = 60) (h : 0 ≤ nxt a w) : nxt a w < 60 := by
  rcases nxt_ok a w ha with h1 | h1
  · omega
  · exact h1.2.1
theorem wBurn_ok {x : Wk} (h : WkOk x) (sec : Int) (d : ByteArray) : WkOk (wBurn x sec d) := by
  unfold wBurn
  split
  · rename_i c
    have h1 := h.s0; have h2 := h.s1
    have h3 := c.2.2
    exact ⟨chipOk_set h.chip _ (by have := recI_size c.2.1; omega), by simp [bDo, h.mlen], by show 0 ≤ x.s + 1; omega, by show x.s + 1 ≤ _; omega⟩
  · exact ⟨h.chip, h.mlen, h.s0, h.s1⟩
theorem wBurn_w (x : Wk) (sec : Int) (d : ByteArray) : (wBurn x sec d).w = x.w := by
  unfold wBurn; split <;> rfl
theorem wBurn_q (x : Wk) (sec : Int) (d : ByteArray) : (wBurn x sec d).q.length ≤ x.q.length + 1 := by
  unfold wBurn; split
  · simp [bDo]
  · show x.q.length ≤ _; omega
theorem spec_l5Burn_eq (K : Nat) (hK : 10000000000000 ≤ K) (x : Wk) (h : WkOk x) (hq : x.q.length ≤ 1000000) (sec : Int) (d : ByteArray) :
    spec.l5Burn.f K x.a x.w x.m x.s x.q x.ok sec d = some ((wBurn x sec d).a, (wBurn x sec d).m, (wBurn x sec d).s, (wBurn x sec d).q, (wBurn x sec d).ok) := by
  unfold spec.l5Burn.f
  refine bind_t (spec_l4Next_eq K hK x.a x.w h.chip.1 h.chip.2.1) (bind_t (spec_RecText_eq K hK sec x.s d) ?_)
  have hs0 := h.s0; have hs1 := h.s1
  unfold wBurn
  by_cases c1 : nxt x.a x.w < 0
  · have hn : ¬ bOk x sec d := fun c => absurd c.1 (by omega)
    rw [if_neg hn]
    exact br_d c1 rfl
  by_cases c2 : recOk sec x.s d
  case neg =>
    have hn : ¬ bOk x sec d := fun c => c2 c.2.1
    rw [if_neg hn, if_neg c2]
    exact br_n c1 (br_t (strEq_self _) rfl)
  rw [if_pos c2]
  by_cases c3 : x.s = 1000000000
  · have hn : ¬ bOk x sec d := fun c => c.2.2 c3
    rw [if_neg hn]
    exact br_n c1 (br_f (recI_ne c2) (br_t (by simpa using c3) rfl))
  · rw [if_pos (show bOk x sec d from ⟨by omega, c2, c3⟩)]
    have h60 := nxt_lt h.chip.1 (by omega : 0 ≤ nxt x.a x.w)
    have e : w64 (x.s + 1) = x.s + 1 := w64_id (by omega) (by omega)
    have h1 := h.chip.1; have h2 := h.mlen
    have c4 := c2.1; have c5 := c2.2.1
    refine br_n c1 (br_f (recI_ne c2) (br_f (by simpa using c3) (ck_t ?_ (ck_t (by omega) (ck_t c4 (ck_t (by omega) ?_))))))
    · rw [List.length_append, List.length_singleton]; omega
    · rw [e]; rfl
/-- The first n pages of a block cleared. -/
def wipe (a : List ByteArray) (b i : Nat) : Nat → List ByteArray
  | 0 => a
  | n + 1 => wipe (a.set (b * 6 + i) noVal) b (i + 1) n
theorem wipe_length (b : Nat) : ∀ (n i : Nat) (a : List ByteArray), (wipe a b i n).length = a.length
  | 0, _, _ => rfl
  | n + 1, i, a => by rw [wipe, wipe_length b n, List.length_set]
theorem wipe_chip {w : List Int} (b : Nat) : ∀ (n i : Nat) (a : List ByteArray), chipOk a w → chipOk (wipe a b i n) w
  | 0, _, _, h => h
  | n + 1, i, a, h => by rw [wipe]; exact wipe_chip b n _ _ (chipOk_set h _ (by show noVal.size ≤ 800; decide))
theorem wipe_at (b : Nat) : ∀ (n i : Nat) (a : List ByteArray) (j : Nat), b * 6 + i + n ≤ a.length → (wipe a b i n).getD j noVal = if b * 6 + i ≤ j ∧ j < b * 6 + i + n then noVal else a.getD j noVal
  | 0, i, a, j, h => by rw [wipe, if_neg (by omega)]
  | n + 1, i, a, j, h => by
    rw [wipe, wipe_at b n (i + 1) _ j (by rw [List.length_set]; omega), getD_set]
    by_cases c : b * 6 + i = j
    · rw [if_neg (by omega), if_pos (by omega), if_pos (by omega)]
    · have hn : ¬ (b * 6 + i = j ∧ b * 6 + i < a.length) := fun e => c e.1
      rw [if_neg hn]
      exact if_iff (by omega) _ _
theorem spec_l2Wipe_l0 (w : List Int) (b : Nat) (hb : b < 10) (n : Int) : ∀ (f i : Nat) (a : List ByteArray), a.length = 60 → 6 < i + f → i ≤ 6 → spec.l2Wipe.l0.f w (b : Int) n f a (i : Int) = some (wipe a b i ((min n.toNat 6) - i)) := by
  intro f
  induction f with
  | zero => intro i a ha h hi; omega
  | succ f ih =>
    intro i a ha h hi
    rw [spec.l2Wipe.l0.f]
    have e1 : w64 ((i : Int) + 1) = ((i + 1 : Nat) : Int) := wsucc (by omega)
    have e2 : w64 (w64 ((b : Int) * 6) + (i : Int)) = ((b * 6 + i : Nat) : Int) := by
      rw [w64_id (x := (b : Int) * 6) (by omega) (by omega), w64_id (by omega) (by omega)]; omega
    by_cases c : (i : Int) < n
    · by_cases d : i < 6
      · refine br_d c (br_d (by omega) ?_)
        rw [e1, e2, Int.toNat_natCast]
        refine ck_t (by omega) (ck_t (by omega) ?_)
        rw [ih (i + 1) _ (by rw [List.length_set]; exact ha) (by omega) (by omega)]
        have : min n.toNat 6 - i = (min n.toNat 6 - (i + 1)) + 1 := by omega
        rw [this]; rfl
      · refine br_d c (br_n (by omega) ?_)
        rw [show min n.toNat 6 - i = 0 by omega]; rfl
    · refine br_n c ?_
      rw [show min n.toNat 6 - i = 0 by omega]; rfl
theorem spec_l2Wipe_eq (K : Nat) (hK : 10000000000000 ≤ K) (a : List ByteArray) (w : List Int) (ha : a.length = 60) (hw : w.length = 10) (b : Nat) (hb : b < 10) (n : Int) : spec.l2Wipe.f K a w (b : Int) n = some (wipe a b 0 (min n.toNat 6)) := by
  unfold spec.l2Wipe.f
  exact bind_t (spec_l2Wipe_l0 w b hb n K 0 a ha (by omega) (by omega)) (ck_t (by omega) (ck_t (by omega) rfl))
/-! ### cleaning -/
def cleanL (b : Int) : List Int → Wk → Wk
  | [], x => x
  | p :: l, x => if x.ok = true then (if nxt x.a x.w < 0 ∨ nxt x.a x.w / 6 = b then { x with ok := false } else cleanL b l (wBurn x (pg x.a p.toNat).1 (pg x.a p.toNat).2.2.1)) else x
theorem cleanL_ok (b : Int) : ∀ (l : List Int) (x : Wk), WkOk x → WkOk (cleanL b l x) ∧ (cleanL b l x).w = x.w ∧ (cleanL b l x).q.length ≤ x.q.length + l.length
  | [], x, h => ⟨h, rfl, Nat.le_refl _⟩
  | p :: l, x, h => by
    unfold cleanL
    split
    · split
      · exact ⟨⟨h.chip, h.mlen, h.s0, h.s1⟩, rfl, by show x.q.length ≤ _; omega⟩
      · obtain ⟨h1, h2, h3⟩ := cleanL_ok b l _ (wBurn_ok h (pg x.a p.toNat).1 (pg x.a p.toNat).2.2.1)
        refine ⟨h1, h2.trans (wBurn_w _ _ _), ?_⟩
        have := wBurn_q x (pg x.a p.toNat).1 (pg x.a p.toNat).2.2.1
        simp only [List.length_cons]; omega
    · exact ⟨h, rfl, by omega⟩
def elimC : (List ByteArray × List Int × Int × List (Int × Int × ByteArray)) ⊕ (List ByteArray × List Int × Int × List (Int × Int × ByteArray) × Bool) → List ByteArray × List Int × Int × List (Int × Int × ByteArray) × Bool
  | .inl x => (x.1, x.2.1, x.2.2.1, x.2.2.2, false)
  | .inr x => x
theorem spec_l5Clean_l0 (K : Nat) (hK : 10000000000000 ≤ K) (b : Int) (hb0 : 0 ≤ b) (hb1 : b ≤ 9) (L : List Int) (hL : L.length ≤ 100) (hx : ∀ p ∈ L, 0 ≤ p ∧ p < 60) : ∀ (f i : Nat) (x : Wk), L.length < i + f → i ≤ L.length → WkOk x → x.q.length + (L.length - i) ≤ 1000000 →
    ∃ y, spec.l5Clean.l0.f K x.w b f x.a x.m x.s x.q x.ok L (i : Int) = some y ∧ elimC y = ((cleanL b (L.drop i) x).a, (cleanL b (L.drop i) x).m, (cleanL b (L.drop i) x).s, (cleanL b (L.drop i) x).q, (cleanL b (L.drop i) x).ok) ∧ ((∃ z, y = .inl z) → (cleanL b (L.drop i) x).ok = false) := by
  intro f
  induction f with
  | zero => intro i x h hi; omega
  | succ f ih =>
    intro i x h hi hk hq
    rw [spec.l5Clean.l0.f]
    have e1 : w64 ((i : Int) + 1) = ((i + 1 : Nat) : Int) := wsucc (by omega)
    by_cases c : i < L.length
    case neg =>
      rw [List.drop_of_length_le (by omega)]
      exact ⟨_, br_n (by omega) rfl, rfl, fun ⟨z, hz⟩ => by cases hz⟩
    rw [List.drop_eq_getElem_cons c]
    obtain ⟨p0, p1⟩ := hx _ (List.getElem_mem c)
    rw [← getD_at c 0] at p0 p1 ⊢
    unfold cleanL
    cases hok : x.ok with
    | false =>
      refine ⟨_, br_d (by omega) (br_f rfl rfl), ?_, fun ⟨z, hz⟩ => by cases hz⟩
      rw [if_neg (by simp)]
      simp only [elimC, hok]
    | true =>
      rw [if_pos rfl]
      have h60 := hk.chip.1
      have hread := spec_RecRead_eq K hK (x.a.getD (L.getD i 0).toNat noVal) (by
        have := chip_page hk.chip (x.a.getD (L.getD i 0).toNat noVal) (by rw [getD_at (by omega)]; exact List.getElem_mem _)
        omega)
      have hnext := spec_l4Next_eq K hK x.a x.w h60 hk.chip.2.1
      by_cases n0 : nxt x.a x.w < 0
      · rw [if_pos (.inl n0)]
        exact ⟨_, br_d (by omega) (br_t rfl (ck_t (by omega) (ck_t p0 (ck_t (by show L.getD i 0 < ((x.a.length : Nat) : Int); omega) (bind_t hread (bind_t hnext (br_d n0 rfl))))))), rfl, fun _ => rfl⟩
      have n1 := nxt_lt h60 (by omega : 0 ≤ nxt x.a x.w)
      have ediv : w64 ((nxt x.a x.w).tdiv 6) = nxt x.a x.w / 6 := by
        rw [Int.tdiv_eq_ediv_of_nonneg (by omega), w64_id (by omega) (by omega)]
      by_cases n2 : nxt x.a x.w / 6 = b
      · rw [if_pos (.inr n2)]
        exact ⟨_, br_d (by omega) (br_t rfl (ck_t (by omega) (ck_t p0 (ck_t (by show L.getD i 0 < ((x.a.length : Nat) : Int); omega) (bind_t hread (bind_t hnext (br_n n0 (br_t (by rw [ediv]; simpa using n2) rfl)))))))), rfl, fun _ => rfl⟩
      · rw [if_neg (fun e => e.elim n0 n2)]
        have hbq := wBurn_q x (pg x.a (L.getD i 0).toNat).1 (pg x.a (L.getD i 0).toNat).2.2.1
        obtain ⟨y, h1, h2, h3⟩ := ih (i + 1) (wBurn x (pg x.a (L.getD i 0).toNat).1 (pg x.a (L.getD i 0).toNat).2.2.1) (by omega) (by omega) (wBurn_ok hk _ _) (by omega)
        rw [wBurn_w] at h1
        have hb := spec_l5Burn_eq K hK x hk (by omega) (pg x.a (L.getD i 0).toNat).1 (pg x.a (L.getD i 0).toNat).2.2.1
        rw [hok] at hb
        refine ⟨y, br_d (by omega) (br_t rfl (ck_t (by omega) (ck_t p0 (ck_t (by show L.getD i 0 < ((x.a.length : Nat) : Int); omega) (bind_t hread (bind_t hnext (br_n n0 (br_f (by rw [ediv]; simpa using n2) (bind_t hb ?_))))))))), h2, h3⟩
        rw [e1]; exact h1
/-- A block cleaned. -/
def wClean (x : Wk) (b : Nat) : Wk :=
  let y := cleanL (b : Int) (livL x.m (b : Int) 0 6) x
  if y.ok = true ∧ x.w.getD b 0 ≠ 1000000000 then
    ⟨wipe y.a b 0 6, x.w.set b (x.w.getD b 0 + 1), (mnt (wipe y.a b 0 6)).map, (mnt (wipe y.a b 0 6)).seq, y.q ++ [(2, (b : Int), noVal)], true⟩
  else { y with ok := false }
theorem chipOk_wear {a : List ByteArray} {w : List Int} (h : chipOk a w) (b : Nat) {n : Int} (h0 : 0 ≤ n) (h1 : n ≤ 1000000000) : chipOk a (w.set b n) := by
  obtain ⟨g1, g2, g3, g4⟩ := h
  refine ⟨g1, by rw [List.length_set, g2], g3, fun j hj1 hj2 => ?_⟩
  rw [List.length_set] at hj2
  rw [getD_set]
  split
  · exact ⟨h0, h1⟩
  · exact g4 j hj1 hj2
theorem livL_range {m : List Int} {b : Nat} (hb : b < 10) : ∀ p ∈ livL m (b : Int) 0 6, 0 ≤ p ∧ p < 60 := by
  intro p hp
  have := livL_mem 6 0 hp
  omega
theorem wClean_ok {x : Wk} (h : WkOk x) {b : Nat} (hb : b < 10) (hl : (livL x.m (b : Int) 0 6).length ≤ 6) : WkOk (wClean x b) ∧ (wClean x b).q.length ≤ x.q.length + 7 ∧ ((wClean x b).ok = true → ftlOk (wClean x b).a (wClean x b).w (wClean x b).m (wClean x b).s) := by
  obtain ⟨h1, h2, h3⟩ := cleanL_ok (b : Int) (livL x.m (b : Int) 0 6) x h
  unfold wClean
  simp only
  split
  · rename_i c
    have hw := chip_wear h.chip hb
    have hc : chipOk (wipe (cleanL (b : Int) (livL x.m (b : Int) 0 6) x).a b 0 6) (x.w.set b (x.w.getD b 0 + 1)) := by
      refine wipe_chip b 6 0 _ (chipOk_wear ?_ b (by omega) (by have := c.2; omega))
      rw [← h2]; exact h1.chip
    have ho := mnt_ok (wipe (cleanL (b : Int) (livL x.m (b : Int) 0 6) x).a b 0 6)
    refine ⟨⟨hc, ho.mlen, ?_, ?_⟩, ?_, fun _ => ⟨hc, rfl, rfl⟩⟩
    · have := ho.s1; show 0 ≤ (mnt _).seq; omega
    · exact ho.s2
    · simp only [List.length_append, List.length_singleton]; omega
  · exact ⟨⟨h1.chip, h1.mlen, h1.s0, h1.s1⟩, by show (cleanL _ _ x).q.length ≤ _; omega, fun e => by cases e⟩

/-! ### room, a plan -/
def freL (a : List ByteArray) : List Nat := (List.range' 0 10).filter (frB a)
theorem spec_FreeBlocks_l0 (K : Nat) (hK : 10000000000000 ≤ K) (a : List ByteArray) (w : List Int) (h : chipOk a w) : ∀ (f i : Nat) (v : List Int), 10 < i + f → i ≤ 10 → v.length ≤ i →
    spec.FreeBlocks.l0.f K a w f v (i : Int) = some (v ++ ((List.range' i (10 - i)).filter (frB a)).map fun (v : Nat) => (v : Int)) := by
  intro f
  induction f with
  | zero => intro i v h hi; omega
  | succ f ih =>
    intro i v hf hi hv
    rw [spec.FreeBlocks.l0.f]
    have e1 : w64 ((i : Int) + 1) = ((i + 1 : Nat) : Int) := wsucc (by omega)
    by_cases c : i < 10
    case neg =>
      rw [show 10 - i = 0 by omega]
      exact br_n (by omega) (by simp)
    have ha := h.1
    rw [show 10 - i = (10 - (i + 1)) + 1 by omega, List.range'_succ, List.filter_cons, e1]
    refine br_d (by omega) (bind_t (spec_ChipOk_eq K hK a w) (br_d h (bind_t (spec_l4Clear_eq K hK a w i (by omega) (by omega)) ?_)))
    cases d : frB a i with
    | true =>
      have d6 : (((clr (blk a i)).1 : Int) == 6) = true := by
        have : (clr (blk a i)).1 = 6 := by simpa [frB] using d
        simp [this]
      refine br_t d6 (ck_t (by rw [List.length_append, List.length_singleton]; omega) ?_)
      rw [ih (i + 1) (v ++ [(i : Int)]) (by omega) (by omega) (by rw [List.length_append, List.length_singleton]; omega)]
      simp
    | false =>
      have d6 : (((clr (blk a i)).1 : Int) == 6) = false := by
        have : ¬ (clr (blk a i)).1 = 6 := by simpa [frB] using d
        simp; omega
      refine br_f d6 ?_
      rw [ih (i + 1) v (by omega) (by omega) (by omega)]
      simp
theorem spec_FreeBlocks_eq (K : Nat) (hK : 10000000000000 ≤ K) (a : List ByteArray) (w : List Int) (h : chipOk a w) : spec.FreeBlocks.f K a w = some ((freL a).map fun (v : Nat) => (v : Int)) := by
  unfold spec.FreeBlocks.f
  exact bind_t (spec_FreeBlocks_l0 K hK a w h K 0 [] (by omega) (by omega) (Nat.le_refl _)) (by simp [freL])
def wLen (m : List Int) (i : Nat) : Int := ((livL m (i : Int) 0 6).length : Int)
def wTake (a : List ByteArray) (w m : List Int) (o b : Int) (i : Nat) : Bool := !(frB a i) && (!((i : Int) == o) && (decide (b < 0) || (decide (wLen m i < wLen m b.toNat) || (wLen m i == wLen m b.toNat && decide (w.getD i 0 < w.getD b.toNat 0)))))
/-- The block that costs least, of those behind. -/
def wst (a : List ByteArray) (w m : List Int) (o : Int) : List Nat → Int → Int
  | [], b => b
  | i :: l, b => wst a w m o l (if wTake a w m o b i = true then (i : Int) else b)
def worstI (a : List ByteArray) (w m : List Int) : Int :=
  if 0 ≤ wst a w m (opB (nxt a w)) (List.range' 0 10) (-1) ∧ wLen m (wst a w m (opB (nxt a w)) (List.range' 0 10) (-1)).toNat = 6 then -1 else wst a w m (opB (nxt a w)) (List.range' 0 10) (-1)
theorem spec_Worst_l0 (K : Nat) (hK : 10000000000000 ≤ K) (a : List ByteArray) (w m : List Int) (s : Int) (h : ftlOk a w m s) (o : Int) : ∀ (f i : Nat) (best bl : Int), 10 < i + f → i ≤ 10 → wInv m best bl →
    ∃ rl, spec.Worst.l0.f K a w m s f best bl o (i : Int) = some (wst a w m o (List.range' i (10 - i)) best, rl) ∧ wInv m (wst a w m o (List.range' i (10 - i)) best) rl := by
  have ha := h.1.1
  have hw := h.1.2.1
  intro f
  induction f with
  | zero => intro i best bl h1 hi; omega
  | succ f ih =>
    intro i best bl h1 hi hb
    rw [spec.Worst.l0.f]
    by_cases c : i < 10
    case neg =>
      rw [show 10 - i = 0 by omega]
      exact ⟨bl, br_n (by omega) rfl, hb⟩
    have e1 : w64 ((i : Int) + 1) = ((i + 1 : Nat) : Int) := wsucc (by omega)
    have hcl := spec_l4Clear_eq K hK a w i (by omega) (by omega)
    have hlv := l4Lives_eq K hK a w m s (i : Int) h (by omega) (by omega)
    rw [show 10 - i = (10 - (i + 1)) + 1 by omega, List.range'_succ, wst, e1]
    have hold : wTake a w m o best i = false → ∃ rl, spec.Worst.l0.f K a w m s f best bl o ((i + 1 : Nat) : Int) = some (wst a w m o (List.range' (i + 1) (10 - (i + 1))) (if wTake a w m o best i = true then (i : Int) else best), rl) ∧ wInv m (wst a w m o (List.range' (i + 1) (10 - (i + 1))) (if wTake a w m o best i = true then (i : Int) else best)) rl := fun e => by
      rw [e, if_neg (by simp)]
      exact ih (i + 1) best bl (by omega) (by omega) hb
    have hnew : wTake a w m o best i = true → ∃ rl, spec.Worst.l0.f K a w m s f (i : Int) (wLen m i) o ((i + 1 : Nat) : Int) = some (wst a w m o (List.range' (i + 1) (10 - (i + 1))) (if wTake a w m o best i = true then (i : Int) else best), rl) ∧ wInv m (wst a w m o (List.range' (i + 1) (10 - (i + 1))) (if wTake a w m o best i = true then (i : Int) else best)) rl := fun e => by
      rw [e, if_pos rfl]
      exact ih (i + 1) (i : Int) (wLen m i) (by omega) (by omega) (.inr ⟨i, c, rfl, rfl⟩)
    cases d : frB a i with
    | true =>
      have d6 : (((clr (blk a i)).1 : Int) == 6) = true := by
        have : (clr (blk a i)).1 = 6 := by simpa [frB] using d
        simp [this]
      obtain ⟨rl, g1, g2⟩ := hold (by simp [wTake, d])
      exact ⟨rl, br_d (by omega) (bind_t hcl (bind_t hlv (br_t d6 g1))), g2⟩
    | false =>
    have d6 : (((clr (blk a i)).1 : Int) == 6) = false := by
      have : ¬ (clr (blk a i)).1 = 6 := by simpa [frB] using d
      simp; omega
    cases q : ((i : Int) == o) with
    | true =>
      obtain ⟨rl, g1, g2⟩ := hold (by simp [wTake, d, q])
      exact ⟨rl, br_d (by omega) (bind_t hcl (bind_t hlv (br_f d6 (br_t rfl g1)))), g2⟩
    | false =>
    have hstart : ∀ {X : Option (Int × Int)} {r : Int × Int}, X = some r → ∀ {A B : Option (Int × Int)}, cond (((clr (blk a i)).1 : Int) == 6) A (cond false B X) = some r := fun e _ _ => br_f d6 (br_f rfl e)
    by_cases b0 : best < 0
    · obtain ⟨rl, g1, g2⟩ := hnew (by simp [wTake, d, q, b0])
      exact ⟨rl, br_d (by omega) (bind_t hcl (bind_t hlv (hstart (br_d b0 g1)))), g2⟩
    obtain ⟨v, hv, rfl, rfl⟩ : ∃ v : Nat, v < 10 ∧ best = (v : Int) ∧ bl = ((livL m (v : Int) 0 6).length : Int) := by
      rcases hb with hb | hb
      · omega
      · exact hb
    by_cases b1 : wLen m i < wLen m v
    · obtain ⟨rl, g1, g2⟩ := hnew (by simp [wTake, d, q, b1])
      exact ⟨rl, br_d (by omega) (bind_t hcl (bind_t hlv (hstart (br_n b0 (br_d b1 g1))))), g2⟩
    by_cases b2 : wLen m i = wLen m v
    · have b2' : (((livL m (i : Int) 0 6).length : Int) == ((livL m (v : Int) 0 6).length : Int)) = true := by simpa [wLen] using b2
      have n1 : ¬ ((livL m (i : Int) 0 6).length : Int) < ((livL m (v : Int) 0 6).length : Int) := b1
      by_cases b3 : w.getD i 0 < w.getD v 0
      · obtain ⟨rl, g1, g2⟩ := hnew (by simp [wTake, d, q, b2]; right; simpa using b3)
        exact ⟨rl, br_d (by omega) (bind_t hcl (bind_t hlv (hstart (br_n b0 (br_n n1 (br_t b2' (ck_t (by omega) (ck_t (by omega) (ck_t (by omega) (br_d b3 g1)))))))))), g2⟩
      · obtain ⟨rl, g1, g2⟩ := hold (by simp [wTake, d, q, b2]; simpa using b3)
        exact ⟨rl, br_d (by omega) (bind_t hcl (bind_t hlv (hstart (br_n b0 (br_n n1 (br_t b2' (ck_t (by omega) (ck_t (by omega) (ck_t (by omega) (br_n b3 g1)))))))))), g2⟩
    · have b2' : (((livL m (i : Int) 0 6).length : Int) == ((livL m (v : Int) 0 6).length : Int)) = false := by rw [beq_eq_false_iff_ne]; exact b2
      have n1 : ¬ ((livL m (i : Int) 0 6).length : Int) < ((livL m (v : Int) 0 6).length : Int) := b1
      obtain ⟨rl, g1, g2⟩ := hold (by simp [wTake, d, q, b2]; omega)
      exact ⟨rl, br_d (by omega) (bind_t hcl (bind_t hlv (hstart (br_n b0 (br_n n1 (br_f b2' g1)))))), g2⟩
theorem spec_Worst_eq (K : Nat) (hK : 10000000000000 ≤ K) (a : List ByteArray) (w m : List Int) (s : Int) (c : ftlOk a w m s) : spec.Worst.f K a w m s = some (worstI a w m) ∧ worstI a w m < 10 := by
  unfold spec.Worst.f
  have ha := c.1.1
  have hw := c.1.2.1
  obtain ⟨rl, h1, h3⟩ := spec_Worst_l0 K hK a w m s c (opB (nxt a w)) K 0 (-1) 0 (by omega) (by omega) (.inl ⟨rfl, rfl⟩)
  have g1 := spec_l5Open_eq K hK a w ha hw
  simp only [Nat.sub_zero] at h1 h3
  unfold worstI
  generalize wst a w m (opB (nxt a w)) (List.range' 0 10) (-1) = r at h1 h3
  rcases h3 with ⟨rfl, rfl⟩ | ⟨v, hv, rfl, rfl⟩
  · rw [if_neg (fun e => by have := e.1; omega)]
    exact ⟨bind_t (spec_FtlOk_eq K hK a w m s) (br_d c (bind_t g1 (bind_t h1 (br_f rfl rfl)))), by decide⟩
  · by_cases d : ((livL m (v : Int) 0 6).length : Int) = 6
    · rw [if_pos ⟨by omega, d⟩]
      exact ⟨bind_t (spec_FtlOk_eq K hK a w m s) (br_d c (bind_t g1 (bind_t h1 (br_t (by simpa using d) rfl)))), by decide⟩
    · rw [if_neg (fun e => d e.2)]
      exact ⟨bind_t (spec_FtlOk_eq K hK a w m s) (br_d c (bind_t g1 (bind_t h1 (br_f (by rw [beq_eq_false_iff_ne]; exact d) rfl)))), by omega⟩
theorem livL_six {a : List ByteArray} {w m : List Int} {s : Int} (h : ftlOk a w m s) (b : Nat) : (livL m (b : Int) 0 6).length ≤ 6 := livL_len (fun x hx => ftl_cnt h x hx) (by omega) 6 0
theorem spec_l5Clean_eq (K : Nat) (hK : 10000000000000 ≤ K) (x : Wk) (hx : WkOk x) (h : ftlOk x.a x.w x.m x.s) (hq : x.q.length ≤ 900000) (b : Nat) (hb : b < 10) :
    spec.l5Clean.f K x.a x.w x.m x.s x.q x.ok (b : Int) = some ((wClean x b).a, (wClean x b).w, (wClean x b).m, (wClean x b).s, (wClean x b).q, (wClean x b).ok) := by
  unfold spec.l5Clean.f
  have h6 := livL_six h b
  refine bind_t (l4Lives_eq K hK x.a x.w x.m x.s (b : Int) h (by omega) (by omega)) ?_
  obtain ⟨y, g1, g2, g3⟩ := spec_l5Clean_l0 K hK (b : Int) (by omega) (by omega) (livL x.m (b : Int) 0 6) (by omega) (livL_range hb) K 0 x (by omega) (by omega) hx (by omega)
  obtain ⟨k1, k2, k3⟩ := cleanL_ok (b : Int) (livL x.m (b : Int) 0 6) x hx
  rw [List.drop_zero] at g2 g3
  refine bind_t g1 ?_
  unfold wClean
  simp only
  generalize cleanL (b : Int) (livL x.m (b : Int) 0 6) x = z at g2 g3 k1 k2 k3
  have hz : z.w = x.w := k2
  have no : z.ok = false → ¬ (z.ok = true ∧ x.w.getD b 0 ≠ 1000000000) := fun e c => by rw [e] at c; exact absurd c.1 (by decide)
  cases y with
  | inl y =>
    rw [if_neg (no (g3 ⟨_, rfl⟩))]
    simp only [elimC, Prod.mk.injEq] at g2
    obtain ⟨e1, e2, e3, e4, _⟩ := g2
    show some (y.1, x.w, y.2.1, y.2.2.1, y.2.2.2, false) = _
    rw [e1, e2, e3, e4, hz]
  | inr y =>
    simp only [elimC] at g2
    subst g2
    show cond z.ok _ _ = _
    cases hok : z.ok with
    | false =>
      rw [if_neg (by simp)]
      show some (z.a, x.w, z.m, z.s, z.q, false) = _
      rw [hz]
    | true =>
      have hl := hx.chip.2.1
      refine ck_t (by omega) (ck_t (by omega) ?_)
      by_cases c : x.w.getD b 0 = 1000000000
      · rw [if_neg (fun e => e.2 c)]
        refine br_t (by simpa using c) ?_
        rw [hz]
      · rw [if_pos ⟨rfl, c⟩]
        have hw := chip_wear hx.chip hb
        have e1 : w64 (x.w.getD b 0 + 1) = x.w.getD b 0 + 1 := w64_id (by omega) (by omega)
        have hc : chipOk (wipe z.a b 0 6) (x.w.set b (x.w.getD b 0 + 1)) := wipe_chip b 6 0 _ (chipOk_wear (by rw [← hz]; exact k1.chip) b (by omega) (by omega))
        refine br_f (by rw [beq_eq_false_iff_ne]; exact c) (ck_t (by rw [List.length_append, List.length_singleton]; show (z.q.length + 1) * 32 ≤ _; omega) (bind_t (spec_l2Wipe_eq K hK z.a x.w k1.chip.1 hl b hb 6) ?_))
        show (Option.bind (spec.Mount.f K (wipe z.a b 0 6) (x.w.set b (w64 (x.w.getD b 0 + 1)))) _) = _
        rw [e1]
        refine bind_t (spec_Mount_eq K hK _ _) ?_
        rw [if_pos hc]
theorem wst_lt (a : List ByteArray) (w m : List Int) (o : Int) : ∀ (l : List Nat) (b : Int), (∀ v ∈ l, v < 10) → b < 10 → wst a w m o l b < 10
  | [], b, _, h => h
  | i :: l, b, hl, h => by
    unfold wst
    refine wst_lt a w m o l _ (fun v hv => hl v (List.mem_cons_of_mem _ hv)) ?_
    have := hl i (List.mem_cons_self ..)
    split <;> omega
theorem worstI_lt (a : List ByteArray) (w m : List Int) : worstI a w m < 10 := by
  unfold worstI
  split
  · decide
  · exact wst_lt a w m _ _ _ (fun v hv => by have := List.mem_range'_1.1 hv; omega) (by decide)
/-- Room is made for one more. -/
def wStop (x : Wk) : Bool := decide (2 < (freL x.a).length ∨ ((freL x.a).length = 2 ∧ 0 ≤ opB (nxt x.a x.w)))
def wRoom : Nat → Wk → Wk
  | 0, x => x
  | k + 1, x => if x.ok = true then (if wStop x = true then x else if worstI x.a x.w x.m < 0 then { x with ok := false } else wRoom k (wClean x (worstI x.a x.w x.m).toNat)) else x
theorem wRoom_ok (K : Nat) (hK : 10000000000000 ≤ K) : ∀ (k : Nat) (x : Wk), WkOk x → (x.ok = true → ftlOk x.a x.w x.m x.s) → WkOk (wRoom k x) ∧ ((wRoom k x).ok = true → ftlOk (wRoom k x).a (wRoom k x).w (wRoom k x).m (wRoom k x).s) ∧ (wRoom k x).q.length ≤ x.q.length + 7 * k
  | 0, x, h, hf => ⟨h, hf, Nat.le_refl _⟩
  | k + 1, x, h, hf => by
    unfold wRoom
    split
    · rename_i hok
      split
      · exact ⟨h, hf, by omega⟩
      · split
        · exact ⟨⟨h.chip, h.mlen, h.s0, h.s1⟩, fun e => (by cases e), by show x.q.length ≤ _; omega⟩
        · rename_i hw
          have hb := worstI_lt x.a x.w x.m
          obtain ⟨c1, c2, c3⟩ := wClean_ok h (b := (worstI x.a x.w x.m).toNat) (by omega) (livL_six (hf hok) _)
          obtain ⟨g1, g2, g3⟩ := wRoom_ok K hK k _ c1 c3
          exact ⟨g1, g2, by omega⟩
    · exact ⟨h, hf, by omega⟩
abbrev RoomT := List ByteArray × List Int × List Int × Int × List (Int × Int × ByteArray) × Bool
theorem spec_l5Room_l0 (K : Nat) (hK : 10000000000000 ≤ K) : ∀ (f i : Nat) (x : Wk), 10 < i + f → i ≤ 10 → WkOk x → (x.ok = true → ftlOk x.a x.w x.m x.s) → x.q.length + 7 * (10 - i) ≤ 900000 →
    ∃ y, spec.l5Room.l0.f K f x.a x.w x.m x.s x.q x.ok (i : Int) = some y ∧ Sum.elim (fun z : RoomT => z) (fun z : RoomT => z) y = ((wRoom (10 - i) x).a, (wRoom (10 - i) x).w, (wRoom (10 - i) x).m, (wRoom (10 - i) x).s, (wRoom (10 - i) x).q, (wRoom (10 - i) x).ok) := by
  intro f
  induction f with
  | zero => intro i x h hi; omega
  | succ f ih =>
    intro i x h hi hx hf hq
    rw [spec.l5Room.l0.f]
    have e1 : w64 ((i : Int) + 1) = ((i + 1 : Nat) : Int) := wsucc (by omega)
    by_cases c : i < 10
    case neg =>
      rw [show 10 - i = 0 by omega]
      exact ⟨_, br_n (by omega) rfl, rfl⟩
    rw [show 10 - i = (10 - (i + 1)) + 1 by omega, wRoom]
    cases hok : x.ok with
    | false =>
      refine ⟨_, br_d (by omega) (br_f rfl rfl), ?_⟩
      rw [if_neg (by simp)]
      simp only [Sum.elim_inr, hok]
    | true =>
    rw [if_pos rfl]
    have hftl := hf hok
    have hfree := spec_FreeBlocks_eq K hK x.a x.w hx.chip
    have hopen := spec_l5Open_eq K hK x.a x.w hx.chip.1 hx.chip.2.1
    obtain ⟨hw1, hw2⟩ := spec_Worst_eq K hK x.a x.w x.m x.s hftl
    have hlen : (((freL x.a).map fun (v : Nat) => (v : Int)).length : Int) = ((freL x.a).length : Int) := by rw [List.length_map]
    cases hs : wStop x with
    | true =>
      rw [if_pos rfl]
      have hs' := of_decide_eq_true hs
      refine ⟨.inl (x.a, x.w, x.m, x.s, x.q, true), br_d (by omega) (br_t rfl (bind_t hfree ?_)), by simp [hok]⟩
      by_cases d : 2 < (freL x.a).length
      · exact br_d (by rw [hlen]; omega) rfl
      · have d2 : (freL x.a).length = 2 ∧ 0 ≤ opB (nxt x.a x.w) := hs'.resolve_left d
        exact br_n (by rw [hlen]; omega) (br_t (by rw [hlen, d2.1]; rfl) (bind_t hopen (br_d (by omega) rfl)))
    | false =>
      rw [if_neg (by simp)]
      have hs' := of_decide_eq_false hs
      have go : ∀ (y : RoomT ⊕ RoomT), Option.bind (spec.Worst.f K x.a x.w x.m x.s) (fun x3 => cond (decide (x3 < 0)) (some (.inl (x.a, x.w, x.m, x.s, x.q, false))) (Option.bind (spec.l5Clean.f K x.a x.w x.m x.s x.q true x3) fun x4 => spec.l5Room.l0.f K f x4.1 x4.2.1 x4.2.2.1 x4.2.2.2.1 x4.2.2.2.2.1 x4.2.2.2.2.2 (w64 ((i : Int) + 1)))) = some y →
          spec.l5Room.l0.f K (f + 1) x.a x.w x.m x.s x.q true (i : Int) = some y := by
        intro y hy
        rw [spec.l5Room.l0.f]
        refine br_d (by omega) (br_t rfl (bind_t hfree (br_n (by rw [hlen]; omega) ?_)))
        by_cases d2 : (freL x.a).length = 2
        · have : ¬ 0 ≤ opB (nxt x.a x.w) := fun e => hs' (.inr ⟨d2, e⟩)
          exact br_t (by rw [hlen, d2]; rfl) (bind_t hopen (br_n (by omega) hy))
        · exact br_f (by rw [hlen, beq_eq_false_iff_ne]; omega) hy
      by_cases b0 : worstI x.a x.w x.m < 0
      · rw [if_pos b0]
        have := go _ (bind_t hw1 (br_d b0 rfl))
        rw [spec.l5Room.l0.f] at this
        exact ⟨_, this, rfl⟩
      · rw [if_neg b0]
        obtain ⟨b, hb⟩ := Int.eq_ofNat_of_zero_le (by omega : 0 ≤ worstI x.a x.w x.m)
        have hb10 : b < 10 := by omega
        rw [hb] at hw1 ⊢
        rw [Int.toNat_natCast]
        have hcl := spec_l5Clean_eq K hK x hx hftl (by omega) b hb10
        rw [hok] at hcl
        obtain ⟨c1, c2, c3⟩ := wClean_ok hx hb10 (livL_six hftl b)
        obtain ⟨y, g1, g2⟩ := ih (i + 1) (wClean x b) (by omega) (by omega) c1 c3 (by omega)
        have := go y (bind_t hw1 (br_n (by omega) (bind_t hcl (by rw [e1]; exact g1))))
        rw [spec.l5Room.l0.f] at this
        exact ⟨y, this, g2⟩
theorem spec_l5Room_eq (K : Nat) (hK : 10000000000000 ≤ K) (x : Wk) (hx : WkOk x) (hf : x.ok = true → ftlOk x.a x.w x.m x.s) (hq : x.q.length ≤ 1000) :
    spec.l5Room.f K x.a x.w x.m x.s x.q x.ok = some ((wRoom 10 x).a, (wRoom 10 x).w, (wRoom 10 x).m, (wRoom 10 x).s, (wRoom 10 x).q, (wRoom 10 x).ok) := by
  unfold spec.l5Room.f
  obtain ⟨y, g1, g2⟩ := spec_l5Room_l0 K hK K 0 x (by omega) (by omega) hx hf (by omega)
  refine bind_t g1 ?_
  cases y with
  | inl y => simp only [Sum.elim_inl, Nat.sub_zero] at g2; rw [g2]; rfl
  | inr y => simp only [Sum.elim_inr, Nat.sub_zero] at g2; rw [g2]; rfl
abbrev ActT := List (Int × Int × ByteArray)
/-- A put, planned. -/
def wPlan (a : List ByteArray) (w m : List Int) (s sec : Int) (d : ByteArray) : Wk :=
  if (wRoom 10 ⟨a, w, m, s, [], decide (recOk sec s d)⟩).ok = true then wBurn (wRoom 10 ⟨a, w, m, s, [], decide (recOk sec s d)⟩) sec d else wRoom 10 ⟨a, w, m, s, [], decide (recOk sec s d)⟩
def told (a : List ByteArray) (w m : List Int) (s : Int) (y : Wk) : ActT × List ByteArray × List Int × List Int × Int × Bool := if y.ok = true then (y.q, y.a, y.w, (mnt y.a).map, (mnt y.a).seq, true) else ([], a, w, m, s, false)
theorem spec_l4Copy_eq (a : List ByteArray) (w m : List Int) (s : Int) (h : chipOk a w) (hm : m.length = 26) : spec.l4Copy.f a w m s = some () := by
  unfold spec.l4Copy.f
  exact bind_t (spec_l2Copy_eq a w h) (ck_t (by rw [List.nil_append]; omega) rfl)
theorem ftl_wk {a : List ByteArray} {w m : List Int} {s : Int} (h : ftlOk a w m s) (q : ActT) (ok : Bool) : WkOk ⟨a, w, m, s, q, ok⟩ := by
  have ho := mnt_ok a
  refine ⟨h.1, by rw [h.2.1]; exact ho.mlen, ?_, ?_⟩
  · show 0 ≤ s
    rw [h.2.2]; have := ho.s1; omega
  · show s ≤ _
    rw [h.2.2]; exact ho.s2
theorem wPlan_ok (K : Nat) (hK : 10000000000000 ≤ K) {a : List ByteArray} {w m : List Int} {s : Int} (h : ftlOk a w m s) (sec : Int) (d : ByteArray) : WkOk (wPlan a w m s sec d) ∧ (wPlan a w m s sec d).q.length ≤ 71 := by
  obtain ⟨h1, h2, h3⟩ := wRoom_ok K hK 10 ⟨a, w, m, s, [], decide (recOk sec s d)⟩ (ftl_wk h _ _) (fun _ => h)
  unfold wPlan
  generalize wRoom 10 ⟨a, w, m, s, [], decide (recOk sec s d)⟩ = x at h1 h2 h3
  have h3 : x.q.length ≤ 70 := by simpa using h3
  split
  · have := wBurn_q x sec d
    exact ⟨wBurn_ok h1 sec d, by omega⟩
  · exact ⟨h1, by omega⟩
theorem spec_l5Done_eq (K : Nat) (hK : 10000000000000 ≤ K) {a : List ByteArray} {w m : List Int} {s : Int} (h : ftlOk a w m s) (y : Wk) (hy : WkOk y) : spec.l5Done.f K a w m s y.a y.w y.m y.s y.q y.ok = some (told a w m s y) := by
  unfold spec.l5Done.f told
  have hm : m.length = 26 := by rw [h.2.1]; exact (mnt_ok a).mlen
  cases y.ok with
  | true =>
    refine br_t rfl (bind_t (spec_Mount_eq K hK y.a y.w) ?_)
    rw [if_pos hy.chip]; rfl
  | false => exact br_f rfl (bind_t (spec_l4Copy_eq a w m s h.1 hm) rfl)
theorem spec_Plan_eq (K : Nat) (hK : 10000000000000 ≤ K) {a : List ByteArray} {w m : List Int} {s : Int} (h : ftlOk a w m s) (sec : Int) (d : ByteArray) : spec.Plan.f K a w m s sec d = some (told a w m s (wPlan a w m s sec d)) := by
  unfold spec.Plan.f
  have hm : m.length = 26 := by rw [h.2.1]; exact (mnt_ok a).mlen
  have hr := spec_l5Room_eq K hK ⟨a, w, m, s, [], decide (recOk sec s d)⟩ (ftl_wk h _ _) (fun _ => h) (by show 0 ≤ 1000; omega)
  obtain ⟨h1, h2, h3⟩ := wRoom_ok K hK 10 ⟨a, w, m, s, [], decide (recOk sec s d)⟩ (ftl_wk h _ _) (fun _ => h)
  refine bind_t (spec_FtlOk_eq K hK a w m s) (br_d h (bind_t (spec_l4Copy_eq a w m s h.1 hm) (bind_t (spec_RecOk_eq sec s d) (bind_t hr ?_))))
  unfold wPlan
  generalize wRoom 10 ⟨a, w, m, s, [], decide (recOk sec s d)⟩ = x at h1 h2 h3
  have h3 : x.q.length ≤ 70 := by simpa using h3
  show cond x.ok _ _ = _
  cases hok : x.ok with
  | true =>
    rw [if_pos rfl]
    have hb := spec_l5Burn_eq K hK x h1 (by omega) sec d
    have hd := spec_l5Done_eq K hK h (wBurn x sec d) (wBurn_ok h1 sec d)
    rw [wBurn_w] at hd
    rw [hok] at hb
    exact bind_t hb (bind_t hd rfl)
  | false =>
    rw [if_neg (by simp)]
    have hd := spec_l5Done_eq K hK h x h1
    rw [hok] at hd
    exact bind_t hd rfl
/-! ### a record burnt: what a mount then sees -/
theorem pg_set_ne {a : List ByteArray} {p i : Nat} (t : ByteArray) (h : i ≠ p) : pg (a.set p t) i = pg a i := by
  unfold pg
  rw [getD_set, if_neg (fun e => h e.1.symm)]
theorem pg_set_eq {a : List ByteArray} {p : Nat} (hp : p < a.length) {n q : Int} {d : ByteArray} (h : recOk n q d) : pg (a.set p (ofBytes (recI n q d))) p = (n, q, d, true) := by
  unfold pg
  rw [getD_set, if_pos ⟨rfl, hp⟩, bytesL_ofBytes (recI_bytes n q d)]
  exact recR_of h
theorem pg_clear {a : List ByteArray} {p : Nat} (h : a.getD p noVal = noVal) : (pg a p).2.2.2 = false := by
  unfold pg
  rw [h]
  have : bytesL noVal = [] := rfl
  rw [this]
  rcases recR_cases [] with ⟨n, q, d, h1, h2, h3⟩ | h1
  · exfalso
    have e := congrArg List.length h2
    unfold recI summedI at e
    rw [List.length_append] at e
    have := putI_pos (sum_ok (recB n q d)).1 (sum_ok (recB n q d)).2
    simp only [List.length_nil] at e
    omega
  · rw [h1.1]
theorem mRun_add (a : List ByteArray) : ∀ (d i e : Nat) (st : Mnt), mRun a i (d + e) st = mRun a (i + d) e (mRun a i d st)
  | 0, i, e, st => by rw [Nat.zero_add, Nat.add_zero]; rfl
  | d + 1, i, e, st => by
    rw [show d + 1 + e = (d + e) + 1 by omega, mRun_succ, mRun_succ, mRun_add a d (i + 1) e, show i + 1 + d = i + (d + 1) by omega]
theorem mRun_seq (a : List ByteArray) : ∀ (d i : Nat) (st : Mnt), MntOk a i st → st.seq ≤ (mRun a i d st).seq
  | 0, i, st, _ => Int.le_refl _
  | d + 1, i, st, h => by
    rw [mRun_succ]
    refine Int.le_trans ?_ (mRun_seq a d (i + 1) _ h.step)
    unfold mStep
    by_cases c : (pg a i).2.2.2 = true
    · rw [if_pos c]
      obtain ⟨r1, r2, r3, r4, r5⟩ := pg_ok c
      have hs := seqN_range st.seq (pg a i).2.1 h.s1 h.s2 r3 r4
      split
      · exact hs.2.2.1
      · exact hs.2.2.1
    · rw [if_neg c]; exact Int.le_refl _
theorem mRun_lt (a : List ByteArray) : ∀ (d i : Nat) (st : Mnt), MntOk a i st → (st.seq < 1000000000 → ∀ p, p < i → (pg a p).2.2.2 = true → (pg a p).2.1 < st.seq) → ((mRun a i d st).seq < 1000000000 → ∀ p, p < i + d → (pg a p).2.2.2 = true → (pg a p).2.1 < (mRun a i d st).seq)
  | 0, i, st, _, h => h
  | d + 1, i, st, ho, h => by
    rw [mRun_succ, show i + (d + 1) = i + 1 + d by omega]
    refine mRun_lt a d (i + 1) _ ho.step ?_
    intro hlt p hp hq
    have hst : (pg a i).2.2.2 = true → (mStep a st i).seq = seqN st.seq (pg a i).2.1 := by
      intro c
      unfold mStep
      rw [if_pos c]
      split <;> rfl
    by_cases c : (pg a i).2.2.2 = true
    · rw [hst c] at hlt ⊢
      have hs : st.seq ≤ seqN st.seq (pg a i).2.1 ∧ (pg a i).2.1 < seqN st.seq (pg a i).2.1 := by
        unfold seqN at hlt ⊢
        split at hlt <;> split at hlt <;> constructor <;> omega
      rcases Nat.lt_succ_iff_lt_or_eq.1 hp with g | rfl
      · have := h (by omega) p g hq; omega
      · exact hs.2
    · have e : mStep a st i = st := by unfold mStep; rw [if_neg c]
      rw [e] at hlt ⊢
      rcases Nat.lt_succ_iff_lt_or_eq.1 hp with g | rfl
      · exact h hlt p g hq
      · exact absurd hq c
theorem mnt_lt {a : List ByteArray} (h : (mnt a).seq < 1000000000) {p : Nat} (hp : p < a.length) (hq : (pg a p).2.2.2 = true) : (pg a p).2.1 < (mnt a).seq :=
  mRun_lt a a.length 0 mInit (mInit_ok a) (fun _ p hp => by omega) h p (by omega) hq
theorem mb_head (a : List ByteArray) (p : Nat) (t : ByteArray) : ∀ (d i : Nat) (st : Mnt), i + d ≤ p → mRun (a.set p t) i d st = mRun a i d st
  | 0, i, st, _ => rfl
  | d + 1, i, st, h => by
    rw [mRun_succ, mRun_succ, mb_head a p t d (i + 1) _ (by omega)]
    congr 1
    unfold mStep
    rw [pg_set_ne t (by omega)]
theorem mb_tail (a : List ByteArray) (p : Nat) (t : ByteArray) (n q : Int) (hq : q < 1000000000) (h : ∀ k, k < a.length → (pg a k).2.2.2 = true → (pg a k).2.1 < q) : ∀ (d i : Nat) (st : Mnt), p < i → i + d = a.length → MntOk a i st →
    mRun (a.set p t) i d ⟨st.map.set n.toNat (p : Int), q + 1, st.best.set n.toNat q⟩ = ⟨(mRun a i d st).map.set n.toNat (p : Int), q + 1, (mRun a i d st).best.set n.toNat q⟩
  | 0, i, st, _, _, _ => rfl
  | d + 1, i, st, h1, h2, ho => by
    rw [mRun_succ, mRun_succ, ← mb_tail a p t n q hq h d (i + 1) _ (by omega) (by omega) ho.step]
    congr 1
    unfold mStep
    rw [pg_set_ne t (by omega)]
    by_cases c : (pg a i).2.2.2 = true
    case neg => rw [if_neg c, if_neg c]
    rw [if_pos c, if_pos c]
    have hlt := h i (by omega) c
    have es : seqN (q + 1) (pg a i).2.1 = q + 1 := by
      have g : q + 1 > (pg a i).2.1 + 1 := by omega
      unfold seqN
      simp only [if_pos g]
      split <;> omega
    obtain ⟨r1, r2, r3, r4, r5⟩ := pg_ok c
    by_cases e : n.toNat = (pg a i).1.toNat
    · have hb : (st.best.set n.toNat q).getD (pg a i).1.toNat 0 = q := by
        rw [getD_set, if_pos ⟨e, by rw [e, ho.blen]; omega⟩]
      simp only [hb]
      rw [if_neg (by omega), es]
      split
      · simp only [e, List.set_set]
      · rfl
    · have hb : (st.best.set n.toNat q).getD (pg a i).1.toNat 0 = st.best.getD (pg a i).1.toNat 0 := by
        rw [getD_set, if_neg (fun g => e g.1)]
      simp only [hb, es]
      split
      · simp only [List.set_comm _ _ e]
      · rfl
theorem mnt_burn {a : List ByteArray} {p : Nat} (hp : p < a.length) (hc : a.getD p noVal = noVal) {n : Int} {d : ByteArray} (h : recOk n (mnt a).seq d) (h9 : (mnt a).seq ≠ 1000000000) :
    (mnt (a.set p (ofBytes (recI n (mnt a).seq d)))).map = (mnt a).map.set n.toNat (p : Int) ∧ (mnt (a.set p (ofBytes (recI n (mnt a).seq d)))).seq = (mnt a).seq + 1 := by
  have hs2 := (mnt_ok a).s2
  have hlt : (mnt a).seq < 1000000000 := by omega
  have hall : ∀ k, k < a.length → (pg a k).2.2.2 = true → (pg a k).2.1 < (mnt a).seq := fun k hk hq => mnt_lt hlt hk hq
  generalize hQ : (mnt a).seq = q at h h9 hs2 hlt hall ⊢
  obtain ⟨r1, r2, r3, r4, r5⟩ := h
  have hpg := pg_set_eq hp (show recOk n q d from ⟨r1, r2, r3, r4, r5⟩)
  generalize ofBytes (recI n q d) = t at hpg ⊢
  have split1 : ∀ b : List ByteArray, b.length = a.length → mnt b = mRun b (p + 1) (a.length - (p + 1)) (mStep b (mRun b 0 p mInit) p) := by
    intro b hb
    unfold mnt
    rw [hb, show a.length = p + ((a.length - (p + 1)) + 1) by omega, mRun_add, Nat.zero_add, mRun_succ]
    congr 1
    omega
  have hok : MntOk a p (mRun a 0 p mInit) := by
    have := MntOk.run p 0 (mInit_ok a)
    rwa [Nat.zero_add] at this
  have hle : (mRun a 0 p mInit).seq ≤ q := by
    rw [← hQ]
    have := mRun_seq a (a.length - p) p _ hok
    have e := mRun_add a p 0 (a.length - p) mInit
    rw [Nat.zero_add] at e
    rw [← e, show p + (a.length - p) = a.length by omega] at this
    exact this
  have e1 : mStep a (mRun a 0 p mInit) p = mRun a 0 p mInit := by
    unfold mStep
    rw [if_neg (by rw [pg_clear hc]; decide)]
  have e2 : mStep (a.set p t) (mRun (a.set p t) 0 p mInit) p = ⟨(mRun a 0 p mInit).map.set n.toNat (p : Int), q + 1, (mRun a 0 p mInit).best.set n.toNat q⟩ := by
    rw [mb_head a p t p 0 mInit (by omega)]
    unfold mStep
    rw [hpg, if_pos rfl]
    have hb : (mRun a 0 p mInit).best.getD n.toNat 0 < q := by
      rcases hok.at_ n.toNat (by omega) with g | ⟨k, g1, g2, g3, g4, g5⟩
      · rw [g.2]; omega
      · rw [g5]; exact hall k (by omega) g3
    have es : seqN (mRun a 0 p mInit).seq q = q + 1 := by
      have g : ¬ (mRun a 0 p mInit).seq > q + 1 := by omega
      unfold seqN
      simp only [if_neg g]
      split <;> omega
    simp only [es]
    rw [if_pos (by omega)]
  have e3 : mnt a = mRun a (p + 1) (a.length - (p + 1)) (mRun a 0 p mInit) := by rw [split1 a rfl, e1]
  have e4 := mb_tail a p t n q hlt hall (a.length - (p + 1)) (p + 1) (mRun a 0 p mInit) (by omega) (by omega) (by rw [← e1]; exact hok.step)
  rw [split1 (a.set p t) (by rw [List.length_set]), e2, e4, ← e3]
  exact ⟨rfl, rfl⟩

/-! ### the six pages of a block -/
theorem clS_bS (l : List ByteArray) : ∀ s : Nat × Nat, l.foldl clS s = (l.map eB).foldl bS s := by
  induction l with
  | nil => intro s; rfl
  | cons x l ih => intro s; rw [List.foldl_cons, List.map_cons, List.foldl_cons, ih]; rfl
theorem clr_bits (l : List ByteArray) : clr l = (l.map eB).foldl bS (0, 0) := clS_bS l (0, 0)
theorem len6 {α : Type} {l : List α} (h : l.length = 6) : ∃ a b c d e f, l = [a, b, c, d, e, f] := by
  match l, h with
  | [a, b, c, d, e, f], _ => exact ⟨a, b, c, d, e, f, rfl⟩
theorem bits_burn : ∀ b0 b1 b2 b3 b4 b5 : Bool, 0 < ([b0, b1, b2, b3, b4, b5].foldl bS (0, 0)).1 ∧ ([b0, b1, b2, b3, b4, b5].foldl bS (0, 0)).2 = ([b0, b1, b2, b3, b4, b5].foldl bS (0, 0)).1 →
    [b0, b1, b2, b3, b4, b5].getD (6 - ([b0, b1, b2, b3, b4, b5].foldl bS (0, 0)).1) false = true ∧
    ([b0, b1, b2, b3, b4, b5].set (6 - ([b0, b1, b2, b3, b4, b5].foldl bS (0, 0)).1) false).foldl bS (0, 0) = (([b0, b1, b2, b3, b4, b5].foldl bS (0, 0)).1 - 1, ([b0, b1, b2, b3, b4, b5].foldl bS (0, 0)).1 - 1) ∧ ([b0, b1, b2, b3, b4, b5].foldl bS (0, 0)).1 ≤ 6 := by decide
theorem bits_none : ∀ b0 b1 b2 b3 b4 b5 : Bool, ([b0, b1, b2, b3, b4, b5].foldl bS (0, 0)).1 = 0 → b5 = false := by decide
theorem bits_open : ∀ b0 b1 b2 b3 b4 b5 : Bool, 0 < ([b0, b1, b2, b3, b4, b5].foldl bS (0, 0)).1 ∧ ([b0, b1, b2, b3, b4, b5].foldl bS (0, 0)).2 = ([b0, b1, b2, b3, b4, b5].foldl bS (0, 0)).1 → b5 = true := by decide
theorem bits_all : ∀ b0 b1 b2 b3 b4 b5 : Bool, ([b0, b1, b2, b3, b4, b5].foldl bS (0, 0)).1 = 6 → b0 = true ∧ b1 = true ∧ b2 = true ∧ b3 = true ∧ b4 = true ∧ b5 = true := by decide
theorem blk_set_eq {a : List ByteArray} {b j : Nat} (t : ByteArray) : blk (a.set (b * 6 + j) t) b = (blk a b).set j t := by
  unfold blk
  rw [List.drop_set, if_neg (by omega), show b * 6 + j - b * 6 = j by omega, List.take_set]
theorem blk_set_ne {a : List ByteArray} {b u j : Nat} (t : ByteArray) (hj : j < 6) (h : u ≠ b) : blk (a.set (b * 6 + j) t) u = blk a u := by
  unfold blk
  rw [List.drop_set]
  split
  · rfl
  · rw [List.take_set_of_le (by omega)]
/-- A page of a begun or free block: the first that is clear. -/
theorem clr_burn {a : List ByteArray} {b : Nat} (ha : b * 6 + 6 ≤ a.length) {t : ByteArray} (ht : eB t = false) (h : 0 < (clr (blk a b)).1 ∧ (clr (blk a b)).2 = (clr (blk a b)).1) :
    (clr (blk a b)).1 ≤ 6 ∧ a.getD (b * 6 + (6 - (clr (blk a b)).1)) noVal = noVal ∧ clr (blk (a.set (b * 6 + (6 - (clr (blk a b)).1)) t) b) = ((clr (blk a b)).1 - 1, (clr (blk a b)).1 - 1) := by
  rw [blk_set_eq]
  have hl := blk_length ha
  have hat : ∀ i, i < 6 → (blk a b).getD i noVal = a.getD (b * 6 + i) noVal := fun i hi => by
    rw [getD_at (by omega)]; exact blk_at ha (by omega)
  obtain ⟨x0, x1, x2, x3, x4, x5, e⟩ := len6 hl
  generalize blk a b = l at h hl hat e ⊢
  rw [clr_bits] at h ⊢
  have hm : (l.set (6 - ((l.map eB).foldl bS (0, 0)).1) t).map eB = (l.map eB).set (6 - ((l.map eB).foldl bS (0, 0)).1) false := by
    rw [List.map_set, ht]
  rw [clr_bits (l.set _ t), hm]
  have e6 : l.map eB = [eB x0, eB x1, eB x2, eB x3, eB x4, eB x5] := by rw [e]; rfl
  have key := bits_burn (eB x0) (eB x1) (eB x2) (eB x3) (eB x4) (eB x5)
  rw [← e6] at key
  obtain ⟨k1, k2, k3⟩ := key h
  refine ⟨k3, ?_, k2⟩
  generalize ((l.map eB).foldl bS (0, 0)).1 = c at k1 h k3 ⊢
  rw [← hat _ (by omega)]
  rw [List.getD_eq_getElem?_getD, List.getElem?_map, List.getElem?_eq_getElem (by omega)] at k1
  rw [getD_at (by omega)]
  exact strEq_iff.1 k1
theorem clr_noval : clr [noVal, noVal, noVal, noVal, noVal, noVal] = (6, 6) := by
  have : eB noVal = true := strEq_self _
  unfold clr clS
  simp [this]

theorem bits_six : ∀ b0 b1 b2 b3 b4 b5 : Bool, ([b0, b1, b2, b3, b4, b5].foldl bS (0, 0)).1 = 6 → ([b0, b1, b2, b3, b4, b5].foldl bS (0, 0)).2 = 6 := by decide
theorem clr_six {a : List ByteArray} {v : Nat} (h : v * 6 + 6 ≤ a.length) (c : (clr (blk a v)).1 = 6) : (clr (blk a v)).2 = 6 := by
  obtain ⟨x0, x1, x2, x3, x4, x5, e⟩ := len6 (blk_length h)
  rw [clr_bits] at c ⊢
  rw [e] at c ⊢
  exact bits_six _ _ _ _ _ _ c
/-- A block that the next page may lie in. -/
theorem has_clear {a : List ByteArray} {v : Nat} (h : v * 6 + 6 ≤ a.length) (c : ptB a v = true ∨ frB a v = true) : 0 < (clr (blk a v)).1 ∧ (clr (blk a v)).2 = (clr (blk a v)).1 := by
  rcases c with c | c
  · have := of_decide_eq_true c
    exact ⟨this.1, this.2.2⟩
  · have e : (clr (blk a v)).1 = 6 := by simpa [frB] using c
    have := clr_six h e
    omega
theorem nx_char (a : List ByteArray) (w : List Int) : ∀ (l : List Nat) (best : Int), (∀ v ∈ l, v < 10) → (best = -1 ∨ ∃ v : Nat, v < 10 ∧ best = (v : Int) ∧ frB a v = true) →
    (∃ v ∈ l, ptB a v = true ∧ nx a w l best = ptP a v) ∨ ((∀ u ∈ l, ptB a u = false) ∧ ((best = -1 ∧ (∀ u ∈ l, frB a u = false) ∧ nx a w l best = -1) ∨ ∃ v : Nat, v < 10 ∧ frB a v = true ∧ nx a w l best = (v : Int) * 6 ∧ (∀ u ∈ l, frB a u = true → w.getD v 0 ≤ w.getD u 0) ∧ ∀ u : Nat, best = (u : Int) → w.getD v 0 ≤ w.getD u 0)) := by
  intro l
  induction l with
  | nil =>
    intro best _ hb
    refine .inr ⟨fun u hu => (by cases hu), ?_⟩
    rcases hb with rfl | ⟨v, h1, rfl, h2⟩
    · exact .inl ⟨rfl, fun u hu => (by cases hu), rfl⟩
    · refine .inr ⟨v, h1, h2, ?_, fun u hu => (by cases hu), fun u hu => ?_⟩
      · unfold nx fin6; rw [if_neg (by omega)]
      · have : u = v := by omega
        rw [this]; exact Int.le_refl _
  | cons i l ih =>
    intro best hl hb
    have hi := hl i (List.mem_cons_self ..)
    have hl' : ∀ v ∈ l, v < 10 := fun v hv => hl v (List.mem_cons_of_mem _ hv)
    unfold nx
    by_cases c : ptB a i = true
    · rw [if_pos c]; exact .inl ⟨i, List.mem_cons_self .., c, rfl⟩
    rw [if_neg c]
    have c' : ptB a i = false := by simpa using c
    by_cases d : frB a i = true
    · rw [if_pos d]
      have hb' : bst w best i = -1 ∨ ∃ v : Nat, v < 10 ∧ bst w best i = (v : Int) ∧ frB a v = true := by
        unfold bst
        split
        · exact .inr ⟨i, hi, rfl, d⟩
        · split
          · exact .inr ⟨i, hi, rfl, d⟩
          · exact hb
      rcases ih (bst w best i) hl' hb' with ⟨v, h1, h2, h3⟩ | ⟨h1, h2⟩
      · exact .inl ⟨v, List.mem_cons_of_mem _ h1, h2, h3⟩
      · refine .inr ⟨fun u hu => ?_, ?_⟩
        · rcases List.mem_cons.1 hu with rfl | hu
          · exact c'
          · exact h1 u hu
        · rcases h2 with ⟨g1, g2, g3⟩ | ⟨v, g1, g2, g3, g4, g5⟩
          · exfalso
            unfold bst at g1
            rcases hb with rfl | ⟨v, k1, rfl, k2⟩
            · rw [if_pos (by decide)] at g1; omega
            · rw [if_neg (by omega)] at g1
              split at g1 <;> omega
          · refine .inr ⟨v, g1, g2, g3, fun u hu hf => ?_, fun u hu => ?_⟩
            · rcases List.mem_cons.1 hu with rfl | hu
              · unfold bst at g5
                rcases hb with rfl | ⟨z, k1, rfl, k2⟩
                · exact g5 u (by rw [if_pos (by decide)])
                · rw [if_neg (by omega)] at g5
                  by_cases q : w.getD (u : Int).toNat 0 < w.getD (z : Int).toNat 0
                  · exact g5 u (by rw [if_pos q])
                  · have := g5 z (by rw [if_neg q])
                    simp only [Int.toNat_natCast] at q
                    omega
              · exact g4 u hu hf
            · subst hu
              unfold bst at g5
              rw [if_neg (by omega)] at g5
              by_cases q : w.getD (i : Int).toNat 0 < w.getD (u : Int).toNat 0
              · have := g5 i (by rw [if_pos q])
                simp only [Int.toNat_natCast] at q
                omega
              · exact g5 u (by rw [if_neg q])
    · rw [if_neg d]
      have d' : frB a i = false := by simpa using d
      rcases ih best hl' hb with ⟨v, h1, h2, h3⟩ | ⟨h1, h2⟩
      · exact .inl ⟨v, List.mem_cons_of_mem _ h1, h2, h3⟩
      · refine .inr ⟨fun u hu => ?_, ?_⟩
        · rcases List.mem_cons.1 hu with rfl | hu
          · exact c'
          · exact h1 u hu
        · rcases h2 with ⟨g1, g2, g3⟩ | ⟨v, g1, g2, g3, g4, g5⟩
          · refine .inl ⟨g1, fun u hu => ?_, g3⟩
            rcases List.mem_cons.1 hu with rfl | hu
            · exact d'
            · exact g2 u hu
          · refine .inr ⟨v, g1, g2, g3, fun u hu hf => ?_, g5⟩
            rcases List.mem_cons.1 hu with rfl | hu
            · rw [hf] at d'; cases d'
            · exact g4 u hu hf
theorem range10 {u : Nat} (h : u < 10) : u ∈ List.range' 0 10 := List.mem_range'_1.2 ⟨by omega, by omega⟩
theorem nxt_char (a : List ByteArray) (w : List Int) : (nxt a w = -1 ∧ ∀ v, v < 10 → ptB a v = false ∧ frB a v = false) ∨
    ∃ v : Nat, v < 10 ∧ nxt a w = ptP a v ∧ (ptB a v = true ∨ (frB a v = true ∧ (∀ u, u < 10 → ptB a u = false) ∧ ∀ u, u < 10 → frB a u = true → w.getD v 0 ≤ w.getD u 0)) := by
  rcases nx_char a w (List.range' 0 10) (-1) (fun v hv => by have := List.mem_range'_1.1 hv; omega) (.inl rfl) with ⟨v, h1, h2, h3⟩ | ⟨h1, h2⟩
  · have := List.mem_range'_1.1 h1
    exact .inr ⟨v, by omega, h3, .inl h2⟩
  · rcases h2 with ⟨_, g2, g3⟩ | ⟨v, g1, g2, g3, g4, _⟩
    · exact .inl ⟨g3, fun u hu => ⟨h1 u (range10 hu), g2 u (range10 hu)⟩⟩
    · refine .inr ⟨v, g1, ?_, .inr ⟨g2, fun u hu => h1 u (range10 hu), fun u hu hf => g4 u (range10 hu) hf⟩⟩
      have e : (clr (blk a v)).1 = 6 := by simpa [frB] using g2
      have : nxt a w = (v : Int) * 6 := g3
      rw [this]; unfold ptP; omega
/-- At most one block is begun. -/
def One (a : List ByteArray) : Prop := ∀ u v : Nat, u < 10 → v < 10 → ptB a u = true → ptB a v = true → u = v
/-- A block that is neither free nor begun. -/
def Clo (a : List ByteArray) (b : Nat) : Prop := frB a b = false ∧ ptB a b = false
/-- What a burn at the next page does to the blocks. -/
theorem nxt_burn {a : List ByteArray} {w : List Int} (ha : a.length = 60) (h : 0 ≤ nxt a w) {t : ByteArray} (ht : eB t = false) : ∃ v : Nat, v < 10 ∧ nxt a w / 6 = (v : Int) ∧ (nxt a w).toNat < 60 ∧ a.getD (nxt a w).toNat noVal = noVal ∧
    (ptB a v = true ∨ (frB a v = true ∧ (∀ u, u < 10 → ptB a u = false) ∧ ∀ u, u < 10 → frB a u = true → w.getD v 0 ≤ w.getD u 0)) ∧
    0 < (clr (blk a v)).1 ∧ (clr (blk a v)).1 ≤ 6 ∧ (clr (blk a v)).2 = (clr (blk a v)).1 ∧ (nxt a w).toNat = v * 6 + (6 - (clr (blk a v)).1) ∧
    clr (blk (a.set (nxt a w).toNat t) v) = ((clr (blk a v)).1 - 1, (clr (blk a v)).1 - 1) ∧ ∀ u, u ≠ v → blk (a.set (nxt a w).toNat t) u = blk a u := by
  rcases nxt_char a w with ⟨h1, _⟩ | ⟨v, h1, h2, h3⟩
  · omega
  have hc := has_clear (a := a) (v := v) (by omega) (h3.imp (fun e => e) (fun e => e.1))
  obtain ⟨g1, g2, g3⟩ := clr_burn (b := v) (by omega) ht hc
  have hp : (nxt a w).toNat = v * 6 + (6 - (clr (blk a v)).1) := by rw [h2]; unfold ptP; omega
  refine ⟨v, h1, by rw [h2]; unfold ptP; omega, by omega, by rw [hp]; exact g2, h3, hc.1, g1, hc.2, hp, by rw [hp]; exact g3, fun u hu => ?_⟩
  rw [hp]
  exact blk_set_ne t (by omega) hu
theorem eB_rec {n q : Int} {d : ByteArray} (h : recOk n q d) : eB (ofBytes (recI n q d)) = false := recI_ne h
theorem ptB_of {a a' : List ByteArray} {u : Nat} (h : blk a' u = blk a u) : ptB a' u = ptB a u := by unfold ptB; rw [h]
theorem frB_of {a a' : List ByteArray} {u : Nat} (h : blk a' u = blk a u) : frB a' u = frB a u := by unfold frB; rw [h]
theorem One_burn {a : List ByteArray} {w : List Int} (ha : a.length = 60) (h : 0 ≤ nxt a w) {t : ByteArray} (ht : eB t = false) (ho : One a) : One (a.set (nxt a w).toNat t) ∧ ∀ b, b < 10 → Clo a b → Clo (a.set (nxt a w).toNat t) b := by
  obtain ⟨v, h1, h2, h3, h4, h5, h6, h7, h8, h9, h10, h11⟩ := nxt_burn ha h ht
  have hoff : ∀ u, u < 10 → u ≠ v → ptB (a.set (nxt a w).toNat t) u = false := by
    intro u hu hne
    rw [ptB_of (h11 u hne)]
    rcases h5 with h5 | h5
    · rw [← Bool.not_eq_true]
      exact fun e => hne (ho u v hu h1 e h5)
    · exact h5.2.1 u hu
  refine ⟨fun x y hx hy ex ey => ?_, fun b hb hc => ?_⟩
  · by_cases cx : x = v
    · by_cases cy : y = v
      · omega
      · rw [hoff y hy cy] at ey; cases ey
    · rw [hoff x hx cx] at ex; cases ex
  · have hne : b ≠ v := by
      rintro rfl
      rcases h5 with h5 | h5
      · rw [hc.2] at h5; cases h5
      · rw [hc.1] at h5; cases h5.1
    exact ⟨by rw [frB_of (h11 b hne)]; exact hc.1, by rw [ptB_of (h11 b hne)]; exact hc.2⟩
theorem blk_wipe_ne (b : Nat) : ∀ (n i : Nat) (a : List ByteArray) (u : Nat), i + n ≤ 6 → u ≠ b → blk (wipe a b i n) u = blk a u
  | 0, _, _, _, _, _ => rfl
  | n + 1, i, a, u, h, hu => by rw [wipe, blk_wipe_ne b n (i + 1) _ u (by omega) hu, blk_set_ne _ (by omega) hu]
theorem blk_wipe_6 {a : List ByteArray} (ha : a.length = 60) {b : Nat} (hb : b < 10) : clr (blk (wipe a b 0 6) b) = (6, 6) := by
  have hl : (blk (wipe a b 0 6) b).length = 6 := blk_length (by rw [wipe_length]; omega)
  have : blk (wipe a b 0 6) b = List.replicate 6 noVal := by
    refine List.eq_replicate_iff.2 ⟨hl, fun x hx => ?_⟩
    obtain ⟨i, hi, rfl⟩ := List.getElem_of_mem hx
    rw [blk_at (by rw [wipe_length]; omega) hi, wipe_at b 6 0 a _ (by omega), if_pos (by omega)]
  rw [this]; exact clr_noval
theorem wipe_fr {a : List ByteArray} (ha : a.length = 60) {b : Nat} (hb : b < 10) : frB (wipe a b 0 6) b = true ∧ ptB (wipe a b 0 6) b = false := by
  have := blk_wipe_6 ha hb
  constructor
  · unfold frB; rw [this]; rfl
  · unfold ptB; rw [this]; rfl
theorem One_wipe {a : List ByteArray} (ha : a.length = 60) {b : Nat} (hb : b < 10) (ho : One a) : One (wipe a b 0 6) := by
  intro u v hu hv e1 e2
  have h1 : u ≠ b := by rintro rfl; rw [(wipe_fr ha hb).2] at e1; cases e1
  have h2 : v ≠ b := by rintro rfl; rw [(wipe_fr ha hb).2] at e2; cases e2
  rw [ptB_of (blk_wipe_ne b 6 0 a u (by omega) h1)] at e1
  rw [ptB_of (blk_wipe_ne b 6 0 a v (by omega) h2)] at e2
  exact ho u v hu hv e1 e2
/-- A burn keeps the map true. -/
theorem bDo_ftl {x : Wk} (h : ftlOk x.a x.w x.m x.s) {sec : Int} {d : ByteArray} (c : bOk x sec d) : ftlOk (bDo x sec d).a (bDo x sec d).w (bDo x sec d).m (bDo x sec d).s := by
  obtain ⟨h1, h2, h3⟩ := h
  obtain ⟨c1, c2, c3⟩ := c
  obtain ⟨v, g1, g2, g3, g4, _⟩ := nxt_burn (w := x.w) h1.1 c1 (eB_rec c2)
  have hb := mnt_burn (p := (nxt x.a x.w).toNat) (by rw [h1.1]; exact g3) g4 (n := sec) (d := d) (by rw [← h3]; exact c2) (by rw [← h3]; exact c3)
  rw [← h3] at hb
  refine ⟨chipOk_set h1 _ (by have := recI_size c2; omega), ?_, hb.2.symm⟩
  show x.m.set sec.toNat (nxt x.a x.w) = _
  rw [show (bDo x sec d).a = x.a.set (nxt x.a x.w).toNat (ofBytes (recI sec x.s d)) from rfl, hb.1, ← h2, show ((nxt x.a x.w).toNat : Int) = nxt x.a x.w by omega]
/-- What stands of an Ftl at work that has not failed. -/
def Jn (x : Wk) : Prop := ftlOk x.a x.w x.m x.s ∧ One x.a
theorem Jn_burn {x : Wk} (h : Jn x) {sec : Int} {d : ByteArray} (c : bOk x sec d) : Jn (bDo x sec d) ∧ ∀ b, b < 10 → Clo x.a b → Clo (bDo x sec d).a b := by
  have := One_burn (w := x.w) h.1.1.1 c.1 (eB_rec c.2.1) h.2
  exact ⟨⟨bDo_ftl h.1 c, this.1⟩, this.2⟩
theorem wst_char (a : List ByteArray) (w m : List Int) (o : Int) : ∀ (l : List Nat) (b : Int), (b = -1 ∨ ∃ v : Nat, b = (v : Int) ∧ v < 10 ∧ frB a v = false ∧ (v : Int) ≠ o) → (∀ v ∈ l, v < 10) →
    (wst a w m o l b = -1 ∧ b = -1 ∧ ∀ u ∈ l, frB a u = true ∨ (u : Int) = o) ∨ ∃ v : Nat, wst a w m o l b = (v : Int) ∧ v < 10 ∧ frB a v = false ∧ (v : Int) ≠ o ∧ (∀ u ∈ l, frB a u = false → (u : Int) ≠ o → wLen m v ≤ wLen m u) ∧ ∀ u : Nat, b = (u : Int) → wLen m v ≤ wLen m u := by
  intro l
  induction l with
  | nil =>
    intro b hb _
    rcases hb with rfl | ⟨v, rfl, h1, h2, h3⟩
    · exact .inl ⟨rfl, rfl, fun u hu => (by cases hu)⟩
    · refine .inr ⟨v, rfl, h1, h2, h3, fun u hu => (by cases hu), fun u hu => ?_⟩
      have : u = v := by omega
      rw [this]; exact Int.le_refl _
  | cons i l ih =>
    intro b hb hl
    have hi := hl i (List.mem_cons_self ..)
    have hl' : ∀ v ∈ l, v < 10 := fun v hv => hl v (List.mem_cons_of_mem _ hv)
    unfold wst
    by_cases c : wTake a w m o b i = true
    · rw [if_pos c]
      have c0 := c
      unfold wTake at c0
      simp only [Bool.and_eq_true, Bool.not_eq_true', Bool.or_eq_true, decide_eq_true_eq, beq_eq_false_iff_ne] at c0
      obtain ⟨c1, c2, c3⟩ := c0
      rcases ih (i : Int) (.inr ⟨i, rfl, hi, c1, c2⟩) hl' with ⟨_, h2, _⟩ | ⟨v, h1, h2, h3, h4, h5, h6⟩
      · omega
      · refine .inr ⟨v, h1, h2, h3, h4, fun u hu hf hno => ?_, fun u hu => ?_⟩
        · rcases List.mem_cons.1 hu with rfl | hu
          · exact h6 u rfl
          · exact h5 u hu hf hno
        · subst hu
          have := h6 i rfl
          rcases c3 with c3 | c3 | c3
          · omega
          · simp only [Int.toNat_natCast] at c3; omega
          · simp only [Int.toNat_natCast, beq_iff_eq] at c3; omega
    · rw [if_neg c]
      have key : frB a i = false → (i : Int) ≠ o → ∃ u : Nat, b = (u : Int) ∧ wLen m u ≤ wLen m i := by
        intro k1 k2
        unfold wTake at c
        simp only [Bool.and_eq_true, Bool.not_eq_true', Bool.or_eq_true, decide_eq_true_eq, beq_eq_false_iff_ne] at c
        rcases hb with rfl | ⟨v, rfl, _⟩
        · exact absurd ⟨k1, k2, .inl (by decide)⟩ c
        · refine ⟨v, rfl, ?_⟩
          simp only [Int.toNat_natCast] at c
          have : ¬ wLen m i < wLen m v := fun e => c ⟨k1, k2, .inr (.inl e)⟩
          omega
      rcases ih b hb hl' with ⟨h1, h2, h3⟩ | ⟨v, h1, h2, h3, h4, h5, h6⟩
      · refine .inl ⟨h1, h2, fun u hu => ?_⟩
        rcases List.mem_cons.1 hu with rfl | hu
        · by_cases k1 : frB a u = true
          · exact .inl k1
          · by_cases k2 : (u : Int) = o
            · exact .inr k2
            · obtain ⟨z, hz, _⟩ := key (by simpa using k1) k2
              omega
        · exact h3 u hu
      · refine .inr ⟨v, h1, h2, h3, h4, fun u hu hf hno => ?_, h6⟩
        rcases List.mem_cons.1 hu with rfl | hu
        · obtain ⟨z, hz, hz2⟩ := key hf hno
          have := h6 z hz
          omega
        · exact h5 u hu hf hno
/-- The worst block is neither free nor begun. -/
theorem worstI_clo {a : List ByteArray} {w m : List Int} (ha : a.length = 60) (ho : One a) (h : ¬ worstI a w m < 0) : ∃ b : Nat, worstI a w m = (b : Int) ∧ b < 10 ∧ Clo a b ∧ ∀ u, u < 10 → frB a u = false → (u : Int) ≠ opB (nxt a w) → wLen m b ≤ wLen m u := by
  unfold worstI at h ⊢
  split at h
  · exact absurd (by decide) h
  · rename_i c
    rw [if_neg c]
    rcases wst_char a w m (opB (nxt a w)) (List.range' 0 10) (-1) (.inl rfl) (fun v hv => by have := List.mem_range'_1.1 hv; omega) with ⟨h1, _⟩ | ⟨v, h1, h2, h3, h4, h5, _⟩
    · omega
    · refine ⟨v, h1, h2, ⟨h3, ?_⟩, fun u hu hf hno => h5 u (range10 hu) hf hno⟩
      rw [← Bool.not_eq_true]
      intro hp
      rcases nxt_char a w with ⟨_, k2⟩ | ⟨u, k1, k2, k3⟩
      · rw [(k2 v h2).1] at hp; cases hp
      · have hu : ptB a u = true := by
          rcases k3 with k3 | k3
          · exact k3
          · rw [k3.2.1 v h2] at hp; cases hp
        have e := ho u v k1 h2 hu hp
        subst e
        have hz := of_decide_eq_true hp
        refine h4 ?_
        unfold opB
        rw [k2]
        unfold ptP
        rw [if_neg (by omega), if_neg (by omega)]
        omega

theorem and255 (x : Int) : 0 ≤ bits2 .i64 (· &&& ·) x 255 ∧ bits2 .i64 (· &&& ·) x 255 < 256 := by
  unfold bits2
  have h : ((BitVec.ofInt 64 x) &&& (BitVec.ofInt 64 255)).toNat ≤ 255 := by
    rw [BitVec.toNat_and]
    exact Nat.le_trans Nat.and_le_right (by decide)
  have e : IntKind.i64.wrap (((BitVec.ofInt 64 x) &&& (BitVec.ofInt 64 255)).toNat : Int) = (((BitVec.ofInt 64 x) &&& (BitVec.ofInt 64 255)).toNat : Int) := wraps_i64 _ (by omega) (by omega)
  show 0 ≤ IntKind.i64.wrap (((BitVec.ofInt 64 x) &&& (BitVec.ofInt 64 255)).toNat : Int) ∧ IntKind.i64.wrap (((BitVec.ofInt 64 x) &&& (BitVec.ofInt 64 255)).toNat : Int) < 256
  rw [e]
  exact ⟨by omega, by omega⟩
theorem l1New_l0 (b : List Int) (hl : b.length ≤ 1000000000000) : ∀ (f i : Nat) (n : Int), b.length < i + f → i ≤ b.length → ∃ s, spec.l1New.l0.f b f n (i : Int) = some s := by
  intro f
  induction f with
  | zero => intro i n h hi; omega
  | succ f ih =>
    intro i n h hi
    rw [spec.l1New.l0.f]
    by_cases c : i < b.length
    · by_cases d : (i : Int) < 4000
      · obtain ⟨s, g⟩ := ih (i + 1) (bits2 .i64 (· &&& ·) (w64 ((w64 ((w64 (n * 131)) + (w64 (b.getD (i : Int).toNat 0)))) + 7)) 1073741823) (by omega) (by omega)
        refine ⟨s, br_d (by omega) (br_d d (ck_t (by omega) ?_))⟩
        rw [wsucc (by omega)]
        exact g
      · exact ⟨n, br_d (by omega) (br_n d rfl)⟩
    · exact ⟨n, br_n (by omega) rfl⟩
theorem l1New_ok (K : Nat) (hK : 10000000000000 ≤ K) (b : List Int) (hl : b.length ≤ 1000000000000) : ∃ s, spec.l1New.f K b = some s := by
  obtain ⟨s, h⟩ := l1New_l0 b hl K 0 (w64 (19109 + (b.length : Int))) (by omega) (by omega)
  exact ⟨s, bind_t h rfl⟩
theorem l1Byte_ok (b : List Int) (hl : b.length ≤ 1000000000000) (i s : Int) (hi : 0 ≤ i) : ∃ v j, spec.l1Byte.f b i s = some (v, j) ∧ 0 ≤ v ∧ v < 256 ∧ 0 ≤ j := by
  unfold spec.l1Byte.f
  by_cases c : i < (b.length : Int)
  · exact ⟨_, _, br_d c (ck_t hi rfl), (and255 _).1, (and255 _).2, by rw [w64_id (by omega) (by omega)]; omega⟩
  · exact ⟨_, _, br_n c rfl, (and255 _).1, (and255 _).2, hi⟩
theorem l1Below_ok (b : List Int) (hl : b.length ≤ 1000000000000) (i s n : Int) (hi : 0 ≤ i) : ∃ v j t, spec.l1Below.f b i s n = some (v, j, t) ∧ 0 ≤ j ∧ 0 ≤ v ∧ (0 < n → v < n) := by
  unfold spec.l1Below.f
  by_cases c : n ≤ 0
  · exact ⟨0, i, s, br_d c rfl, hi, Int.le_refl _, fun h => by omega⟩
  by_cases d : n ≤ 256
  · obtain ⟨v, j, h1, h2, h3, h4⟩ := l1Byte_ok b hl i s hi
    exact ⟨_, _, _, br_n c (br_d d (bind_t h1 (ck_t (by omega) rfl))), h4, Int.tmod_nonneg _ h2, fun h => Int.tmod_lt_of_pos _ h⟩
  · obtain ⟨v1, j1, a1, a2, a3, a4⟩ := l1Byte_ok b hl i s hi
    obtain ⟨v2, j2, b1, b2, b3, b4⟩ := l1Byte_ok b hl j1 (w64 ((w64 (s * 6364136223846793005)) + 1442695040888963407)) a4
    obtain ⟨v3, j3, c1, c2, c3, c4⟩ := l1Byte_ok b hl j2 (w64 ((w64 ((w64 ((w64 (s * 6364136223846793005)) + 1442695040888963407)) * 6364136223846793005)) + 1442695040888963407)) b4
    obtain ⟨v4, j4, d1, d2, d3, d4⟩ := l1Byte_ok b hl j3 (w64 ((w64 ((w64 ((w64 ((w64 ((w64 (s * 6364136223846793005)) + 1442695040888963407)) * 6364136223846793005)) + 1442695040888963407)) * 6364136223846793005)) + 1442695040888963407)) c4
    refine ⟨_, _, _, br_n c (br_n d (bind_t a1 (bind_t b1 (bind_t c1 (bind_t d1 (ck_t (by omega) rfl)))))), d4, Int.tmod_nonneg _ ?_, fun h => Int.tmod_lt_of_pos _ h⟩
    show 0 ≤ w64 (w64 (w64 (w64 (v1 * 16777216) + w64 (v2 * 65536)) + w64 (v3 * 256)) + v4)
    rw [w64_id (x := v1 * 16777216) (by omega) (by omega), w64_id (x := v2 * 65536) (by omega) (by omega), w64_id (x := v3 * 256) (by omega) (by omega), w64_id (x := v1 * 16777216 + v2 * 65536) (by omega) (by omega), w64_id (x := v1 * 16777216 + v2 * 65536 + v3 * 256) (by omega) (by omega), w64_id (by omega) (by omega)]
    omega
theorem l1Once_ok (b : List Int) (hl : b.length ≤ 1000000000000) (i s n : Int) (hi : 0 ≤ i) : ∃ c j t, spec.l1Once.f b i s n = some (c, j, t) ∧ 0 ≤ j := by
  obtain ⟨v, j, t, h1, h2, _⟩ := l1Below_ok b hl i s n hi
  exact ⟨_, j, t, bind_t h1 rfl, h2⟩
theorem l1Pick_ok (b : List Int) (hl : b.length ≤ 1000000000000) (i s : Int) (L : List ByteArray) (hi : 0 ≤ i) (h0 : 0 < L.length) : ∃ v j t, spec.l1Pick.f b i s L = some (v, j, t) ∧ 0 ≤ j ∧ v ∈ L := by
  unfold spec.l1Pick.f
  obtain ⟨v, j, t, h1, h2, h3, h4⟩ := l1Below_ok b hl i s L.length hi
  have h5 := h4 (by omega)
  refine ⟨_, j, t, bind_t h1 (ck_t h3 (ck_t h5 rfl)), h2, ?_⟩
  show L.getD v.toNat noVal ∈ L
  rw [getD_at (by omega)]
  exact List.getElem_mem _

/-! ### acts on a chip -/
def bPg (a : List ByteArray) (p : Int) (t : ByteArray) : Prop := 0 ≤ p ∧ p ≤ 59 ∧ strEq (a.getD p.toNat noVal) noVal = true ∧ strEq t noVal = false ∧ t.size ≤ 800
instance (a : List ByteArray) (p : Int) (t : ByteArray) : Decidable (bPg a p t) := by unfold bPg; infer_instance
abbrev ChipT := List ByteArray × List Int × Bool
def burnR (a : List ByteArray) (w : List Int) (p : Int) (t : ByteArray) : ChipT := if bPg a p t then (a.set p.toNat t, w, true) else (a, w, false)
theorem burnR_chip {a : List ByteArray} {w : List Int} (h : chipOk a w) (p : Int) (t : ByteArray) : chipOk (burnR a w p t).1 (burnR a w p t).2.1 := by
  unfold burnR
  split
  · rename_i c; exact chipOk_set h _ c.2.2.2.2
  · exact h
theorem spec_Burn_eq (K : Nat) (hK : 10000000000000 ≤ K) {a : List ByteArray} {w : List Int} (h : chipOk a w) (p : Int) (t : ByteArray) : spec.Burn.f K a w p t = some (burnR a w p t) := by
  unfold spec.Burn.f burnR
  have h60 := h.1
  have e1 : w64 ((a.length : Int) - 1) = 59 := by rw [w64_id (by omega) (by omega)]; omega
  rw [e1]
  refine bind_t (spec_ChipOk_eq K hK a w) (br_d h (bind_t (spec_l2Copy_eq a w h) (bind_t (spec_l1In_eq p 0 59) ?_)))
  by_cases c : 0 ≤ p ∧ p ≤ 59
  case neg =>
    have hn : ¬ bPg a p t := fun e => c ⟨e.1, e.2.1⟩
    rw [if_neg hn]
    exact br_n c rfl
  refine br_d c (ck_t c.1 (ck_t (by omega) ?_))
  cases d : strEq (a.getD p.toNat noVal) noVal with
  | false =>
    have hn : ¬ bPg a p t := fun e => by rw [e.2.2.1] at d; cases d
    rw [if_neg hn]; exact br_f rfl rfl
  | true =>
  cases e : strEq t noVal with
  | true =>
    have hn : ¬ bPg a p t := fun g => by rw [g.2.2.2.1] at e; cases e
    rw [if_neg hn]; exact br_t rfl (br_t rfl rfl)
  | false =>
  by_cases g : (t.size : Int) > 800
  · have hn : ¬ bPg a p t := fun k => by have := k.2.2.2.2; omega
    rw [if_neg hn]; exact br_t rfl (br_f rfl (br_d g rfl))
  · have hy : bPg a p t := ⟨c.1, c.2, d, e, by omega⟩
    rw [if_pos hy]; exact br_t rfl (br_f rfl (br_n g (ck_t (by rw [List.nil_append]; omega) rfl)))
def cPg (w : List Int) (b : Int) : Prop := 0 ≤ b ∧ b ≤ 9 ∧ w.getD b.toNat 0 ≠ 1000000000
instance (w : List Int) (b : Int) : Decidable (cPg w b) := by unfold cPg; infer_instance
def clearR (a : List ByteArray) (w : List Int) (b n : Int) : ChipT := if cPg w b then (wipe a b.toNat 0 (min n.toNat 6), w.set b.toNat (w.getD b.toNat 0 + 1), true) else (a, w, false)
theorem clearR_chip {a : List ByteArray} {w : List Int} (h : chipOk a w) (b n : Int) : chipOk (clearR a w b n).1 (clearR a w b n).2.1 := by
  unfold clearR
  split
  · rename_i c
    have h0 := c.1; have h1 := c.2.1; have h2 := c.2.2
    have hw := chip_wear h (i := b.toNat) (by omega)
    exact wipe_chip _ _ _ _ (chipOk_wear h _ (by omega) (by omega))
  · exact h
theorem spec_Clear_eq (K : Nat) (hK : 10000000000000 ≤ K) {a : List ByteArray} {w : List Int} (h : chipOk a w) (b : Int) : spec.Clear.f K a w b = some (clearR a w b 6) := by
  unfold spec.Clear.f clearR
  have h60 := h.1; have h10 := h.2.1
  refine bind_t (spec_ChipOk_eq K hK a w) (br_d h (bind_t (spec_l1In_eq b 0 9) ?_))
  by_cases c : 0 ≤ b ∧ b ≤ 9
  case neg =>
    have hn : ¬ cPg w b := fun e => c ⟨e.1, e.2.1⟩
    rw [if_neg hn]
    exact br_n c (bind_t (spec_l2Copy_eq a w h) rfl)
  refine br_d c (ck_t c.1 (ck_t (by omega) ?_))
  by_cases d : w.getD b.toNat 0 = 1000000000
  · have hn : ¬ cPg w b := fun e => e.2.2 d
    rw [if_neg hn]
    exact br_t (by simpa using d) (bind_t (spec_l2Copy_eq a w h) rfl)
  · have hy : cPg w b := ⟨c.1, c.2, d⟩
    rw [if_pos hy]
    obtain ⟨n, rfl⟩ := Int.eq_ofNat_of_zero_le c.1
    have hw := chip_wear h (i := n) (by omega)
    have e1 : w64 (([] ++ w).getD n 0 + 1) = w.getD n 0 + 1 := by rw [List.nil_append]; exact w64_id (by omega) (by omega)
    refine br_f (by rw [beq_eq_false_iff_ne]; exact d) (bind_t (spec_l2Copy_eq a w h) (bind_t (spec_l2Wipe_eq K hK ([] ++ a) ([] ++ w) h60 h10 n (by omega) 6) ?_))
    show some (_, ([] ++ w).set n (w64 (([] ++ w).getD n 0 + 1)), true) = _
    rw [e1]; rfl
def halfR (a : List ByteArray) (w : List Int) (b n : Int) : List ByteArray × List Int := ((clearR a w b n).1, (clearR a w b n).2.1)
theorem spec_Half_eq (K : Nat) (hK : 10000000000000 ≤ K) {a : List ByteArray} {w : List Int} (h : chipOk a w) (b n : Int) : spec.Half.f K a w b n = some (halfR a w b n) := by
  unfold spec.Half.f
  refine bind_t (spec_Clear_eq K hK h b) ?_
  unfold halfR clearR
  have h60 := h.1; have h10 := h.2.1
  by_cases c : cPg w b
  · rw [if_pos c, if_pos c]
    have c0 := c.1; have c1 := c.2.1
    obtain ⟨k, rfl⟩ := Int.eq_ofNat_of_zero_le c.1
    have hw := chip_wear h (i := k) (by omega)
    have e1 : w64 (([] ++ w).getD k 0 + 1) = w.getD k 0 + 1 := by rw [List.nil_append]; exact w64_id (by omega) (by omega)
    refine br_t rfl (bind_t (spec_l2Copy_eq a w h) (bind_t (spec_l2Wipe_eq K hK ([] ++ a) ([] ++ w) h60 h10 k (by omega) n) ?_))
    show some (_, ([] ++ w).set k (w64 (([] ++ w).getD k 0 + 1))) = _
    rw [e1]; rfl
  · rw [if_neg c, if_neg c]
    exact br_f rfl rfl
/-- So much of a text. -/
def cutT (t : ByteArray) (n : Int) : ByteArray := t.extract 0 (if (if n < (t.size : Int) then n else (t.size : Int)) > 0 then (if n < (t.size : Int) then n else (t.size : Int)) else 0).toNat
def tornR (a : List ByteArray) (w : List Int) (p : Int) (t : ByteArray) (n : Int) : List ByteArray × List Int := ((burnR a w p (cutT t n)).1, (burnR a w p (cutT t n)).2.1)
theorem spec_Torn_eq (K : Nat) (hK : 10000000000000 ≤ K) {a : List ByteArray} {w : List Int} (h : chipOk a w) (p : Int) (t : ByteArray) (n : Int) : spec.Torn.f K a w p t n = some (tornR a w p t n) := by
  unfold spec.Torn.f
  refine bind_t (spec_l1Min_eq n (t.size : Int)) (bind_t (spec_l1Max_eq _ 0) (ck_t ?_ (ck_t ?_ (bind_t (spec_Burn_eq K hK h p _) rfl))))
  · split <;> omega
  · split
    · split <;> omega
    · omega
def applyR (a : List ByteArray) (w : List Int) (x : Int × Int × ByteArray) : ChipT := if x.1 = 1 then burnR a w x.2.1 x.2.2 else if x.1 = 2 then clearR a w x.2.1 6 else (a, w, false)
theorem applyR_chip {a : List ByteArray} {w : List Int} (h : chipOk a w) (x : Int × Int × ByteArray) : chipOk (applyR a w x).1 (applyR a w x).2.1 := by
  unfold applyR
  split
  · exact burnR_chip h _ _
  · split
    · exact clearR_chip h _ _
    · exact h
theorem spec_Apply_eq (K : Nat) (hK : 10000000000000 ≤ K) {a : List ByteArray} {w : List Int} (h : chipOk a w) (x : Int × Int × ByteArray) : spec.Apply.f K a w x.1 x.2.1 x.2.2 = some (applyR a w x) := by
  unfold spec.Apply.f applyR
  refine bind_t (spec_ChipOk_eq K hK a w) (br_d h ?_)
  by_cases c : x.1 = 1
  · rw [if_pos c]
    exact br_t (by simpa using c) (bind_t (spec_Burn_eq K hK h _ _) rfl)
  rw [if_neg c]
  by_cases d : x.1 = 2
  · rw [if_pos d]
    exact br_f (by rw [beq_eq_false_iff_ne]; exact c) (br_t (by simpa using d) (bind_t (spec_Clear_eq K hK h _) rfl))
  · rw [if_neg d]
    exact br_f (by rw [beq_eq_false_iff_ne]; exact c) (br_f (by rw [beq_eq_false_iff_ne]; exact d) (bind_t (spec_l2Copy_eq a w h) rfl))
def appAll : ActT → List ByteArray → List Int → ChipT
  | [], a, w => (a, w, true)
  | x :: l, a, w => if (applyR a w x).2.2 = true then appAll l (applyR a w x).1 (applyR a w x).2.1 else (a, w, false)
theorem appAll_chip : ∀ (l : ActT) {a : List ByteArray} {w : List Int}, chipOk a w → chipOk (appAll l a w).1 (appAll l a w).2.1
  | [], a, w, h => h
  | x :: l, a, w, h => by
    unfold appAll
    split
    · exact appAll_chip l (applyR_chip h x)
    · exact h
theorem spec_ApplyAll_l0 (K : Nat) (hK : 10000000000000 ≤ K) (A : List ByteArray) (W : List Int) (L : ActT) (hL : L.length ≤ 1000000) : ∀ (f i : Nat) (a : List ByteArray) (w : List Int), L.length < i + f → i ≤ L.length → chipOk a w →
    ∃ y, spec.ApplyAll.l0.f K A W L f a w (i : Int) = some y ∧ Sum.elim (fun z : List ByteArray × List Int => (z.1, z.2, false)) (fun z : List ByteArray × List Int => (z.1, z.2, true)) y = appAll (L.drop i) a w := by
  intro f
  induction f with
  | zero => intro i a w h hi; omega
  | succ f ih =>
    intro i a w h hi hc
    rw [spec.ApplyAll.l0.f]
    have e1 : w64 ((i : Int) + 1) = ((i + 1 : Nat) : Int) := wsucc (by omega)
    by_cases c : i < L.length
    case neg =>
      rw [List.drop_of_length_le (by omega)]
      exact ⟨_, br_n (by omega) rfl, rfl⟩
    rw [List.drop_eq_getElem_cons c, ← getD_at c (0, 0, noVal), appAll]
    have ha := spec_Apply_eq K hK hc (L.getD i (0, 0, noVal))
    cases hr : (applyR a w (L.getD i (0, 0, noVal))).2.2 with
    | true =>
      rw [if_pos rfl]
      obtain ⟨y, g1, g2⟩ := ih (i + 1) _ _ (by omega) (by omega) (applyR_chip hc (L.getD i (0, 0, noVal)))
      exact ⟨y, br_d (by omega) (ck_t (by omega) (bind_t ha (br_t hr (by rw [e1]; exact g1)))), g2⟩
    | false =>
      rw [if_neg (by simp)]
      exact ⟨_, br_d (by omega) (ck_t (by omega) (bind_t ha (br_f hr rfl))), rfl⟩
theorem spec_ApplyAll_eq (K : Nat) (hK : 10000000000000 ≤ K) {a : List ByteArray} {w : List Int} (h : chipOk a w) (L : ActT) (hL : L.length ≤ 1000000) : spec.ApplyAll.f K a w L = some (appAll L a w) := by
  unfold spec.ApplyAll.f
  obtain ⟨y, g1, g2⟩ := spec_ApplyAll_l0 K hK a w L hL K 0 a w (by omega) (by omega) h
  rw [List.drop_zero] at g2
  refine bind_t (spec_ChipOk_eq K hK a w) (br_d h (bind_t (spec_l2Copy_eq a w h) (bind_t g1 ?_)))
  rw [← g2]
  cases y <;> rfl
def kOf (k : Int) (n : Nat) : Int := if (if k < (n : Int) then k else (n : Int)) > 0 then (if k < (n : Int) then k else (n : Int)) else 0
theorem kOf_range (k : Int) (n : Nat) : 0 ≤ kOf k n ∧ kOf k n ≤ (n : Int) := by
  unfold kOf
  split
  · split <;> omega
  · omega
/-- What is there where the power fails: k acts are done, of the next one a part. -/
def cutR (a : List ByteArray) (w : List Int) (L : ActT) (k n : Int) : List ByteArray × List Int :=
  if (appAll (L.take (kOf k L.length).toNat) a w).2.2 = true ∧ kOf k L.length ≠ (L.length : Int) then
    (if (L.getD (kOf k L.length).toNat (0, 0, noVal)).1 = 1 then tornR (appAll (L.take (kOf k L.length).toNat) a w).1 (appAll (L.take (kOf k L.length).toNat) a w).2.1 (L.getD (kOf k L.length).toNat (0, 0, noVal)).2.1 (L.getD (kOf k L.length).toNat (0, 0, noVal)).2.2 n
     else if (L.getD (kOf k L.length).toNat (0, 0, noVal)).1 = 2 then halfR (appAll (L.take (kOf k L.length).toNat) a w).1 (appAll (L.take (kOf k L.length).toNat) a w).2.1 (L.getD (kOf k L.length).toNat (0, 0, noVal)).2.1 n
     else ((appAll (L.take (kOf k L.length).toNat) a w).1, (appAll (L.take (kOf k L.length).toNat) a w).2.1))
  else ((appAll (L.take (kOf k L.length).toNat) a w).1, (appAll (L.take (kOf k L.length).toNat) a w).2.1)
theorem cutR_chip {a : List ByteArray} {w : List Int} (h : chipOk a w) (L : ActT) (k n : Int) : chipOk (cutR a w L k n).1 (cutR a w L k n).2 := by
  have h1 := appAll_chip (L.take (kOf k L.length).toNat) h
  unfold cutR
  split
  · split
    · exact burnR_chip h1 _ _
    · split
      · exact clearR_chip h1 _ _
      · exact h1
  · exact h1
theorem spec_Cut_eq (K : Nat) (hK : 10000000000000 ≤ K) {a : List ByteArray} {w : List Int} (h : chipOk a w) (L : ActT) (hL : L.length ≤ 1000000) (k n : Int) : spec.Cut.f K a w L k n = some (cutR a w L k n) := by
  unfold spec.Cut.f cutR
  obtain ⟨k0, k1⟩ := kOf_range k L.length
  refine bind_t (spec_l1Min_eq k (L.length : Int)) (bind_t (a := kOf k L.length) (spec_l1Max_eq _ 0) ?_)
  generalize kOf k L.length = c0 at k0 k1 ⊢
  have hc := appAll_chip (L.take c0.toNat) h
  have e : (L.drop 0).take c0.toNat = L.take c0.toNat := by rw [List.drop_zero]
  have ha : spec.ApplyAll.f K a w ((L.drop 0).take c0.toNat) = some (appAll (L.take c0.toNat) a w) := by
    rw [e]; exact spec_ApplyAll_eq K hK h _ (by simp; omega)
  generalize appAll (L.take c0.toNat) a w = r at hc ha ⊢
  refine ck_t k0 (ck_t k1 (bind_t ha (ck_t (by omega) ?_)))
  cases hr : r.2.2 with
  | false =>
    rw [if_neg (fun e => by have := e.1; cases this)]
    exact br_f rfl rfl
  | true =>
  by_cases c : c0 = (L.length : Int)
  · rw [if_neg (fun e => e.2 c)]
    exact br_t rfl (br_t (by simpa using c) rfl)
  rw [if_pos ⟨rfl, c⟩]
  refine br_t rfl (br_f (by rw [beq_eq_false_iff_ne]; exact c) (ck_t (by omega) ?_))
  generalize L.getD c0.toNat (0, 0, noVal) = x
  by_cases d : x.1 = 1
  · rw [if_pos d]
    exact br_t (by simpa using d) (bind_t (spec_Torn_eq K hK hc _ _ _) rfl)
  rw [if_neg d]
  by_cases g : x.1 = 2
  · rw [if_pos g]
    exact br_f (by rw [beq_eq_false_iff_ne]; exact d) (br_t (by simpa using g) (bind_t (spec_Half_eq K hK hc _ _) rfl))
  · rw [if_neg g]
    exact br_f (by rw [beq_eq_false_iff_ne]; exact d) (br_f (by rw [beq_eq_false_iff_ne]; exact g) rfl)
/-! ### chips that are drawn -/
/-- What a row of puts makes of a new chip, the power lost at times. -/
inductive Rch : List ByteArray → List Int → List Int → Int → Prop where
  | new : Rch (List.replicate 60 noVal) (List.replicate 10 0) (mnt (List.replicate 60 noVal)).map (mnt (List.replicate 60 noVal)).seq
  | put {a w m s} (sec : Int) (d : ByteArray) : Rch a w m s → 0 ≤ sec → sec ≤ 25 → d.size ≤ 5 → (wPlan a w m s sec d).ok = true → Rch (wPlan a w m s sec d).a (wPlan a w m s sec d).w (mnt (wPlan a w m s sec d).a).map (mnt (wPlan a w m s sec d).a).seq
  | cut {a w m s} (sec : Int) (d : ByteArray) (k n : Int) : Rch a w m s → 0 ≤ sec → sec ≤ 25 → d.size ≤ 5 → (wPlan a w m s sec d).ok = true → Rch (cutR a w (wPlan a w m s sec d).q k n).1 (cutR a w (wPlan a w m s sec d).q k n).2 (mnt (cutR a w (wPlan a w m s sec d).q k n).1).map (mnt (cutR a w (wPlan a w m s sec d).q k n).1).seq
theorem new_chip : chipOk (List.replicate 60 noVal) (List.replicate 10 0) := by
  refine ⟨by simp, by simp, fun j _ hj => ?_, fun j _ hj => ?_⟩
  · rw [List.length_replicate] at hj
    rw [List.getD_eq_getElem?_getD, List.getElem?_replicate, if_pos hj]; decide
  · rw [List.length_replicate] at hj
    rw [List.getD_eq_getElem?_getD, List.getElem?_replicate, if_pos hj]; decide
theorem Rch.ftl {a : List ByteArray} {w m : List Int} {s : Int} (h : Rch a w m s) : ftlOk a w m s := by
  induction h with
  | new => exact ⟨new_chip, rfl, rfl⟩
  | put sec d _ _ _ _ _ ih => exact ⟨(wPlan_ok 10000000000000 (Nat.le_refl _) ih sec d).1.chip, rfl, rfl⟩
  | cut sec d k n _ _ _ _ _ ih => exact ⟨cutR_chip ih.1 _ _ _, rfl, rfl⟩
abbrev DrT := List ByteArray × List Int × List Int × Int × Int × Int
theorem small4 {d : ByteArray} (h : d ∈ [noVal, (ByteArray.mk #[97]), (ByteArray.mk #[98, 98]), (ByteArray.mk #[104, 101, 108, 108, 111])]) : d.size ≤ 5 := by
  simp only [List.mem_cons, List.not_mem_nil, or_false] at h
  rcases h with rfl | rfl | rfl | rfl <;> decide
theorem l5DrawRight_l0 (K : Nat) (hK : 10000000000000 ≤ K) (b : List Int) (hl : b.length ≤ 1000000000000) (n : Int) (hn : n ≤ 70) : ∀ (f j : Nat) (i s : Int) (a : List ByteArray) (w m : List Int) (q : Int), 70 < j + f → (j : Int) ≤ 70 → 0 ≤ i → Rch a w m q →
    ∃ y, spec.l5DrawRight.l0.f K b f i s a w m q n (j : Int) = some y ∧ ∃ z : DrT, Sum.elim (fun z : DrT => z) (fun z : DrT => z) y = z ∧ Rch z.1 z.2.1 z.2.2.1 z.2.2.2.1 ∧ 0 ≤ z.2.2.2.2.1 := by
  intro f
  induction f with
  | zero => intro j i s a w m q h hi; omega
  | succ f ih =>
    intro j i s a w m q hf hj hi hr
    rw [spec.l5DrawRight.l0.f]
    have e1 : w64 ((j : Int) + 1) = ((j + 1 : Nat) : Int) := wsucc (by omega)
    by_cases c : (j : Int) < n
    case neg => exact ⟨_, br_n c rfl, _, rfl, hr, hi⟩
    obtain ⟨v1, j1, t1, a1, a2, a3, a4⟩ := l1Below_ok b hl i s 26 hi
    have a4 := a4 (by decide)
    obtain ⟨c2, j2, t2, b1, b2⟩ := l1Once_ok b hl j1 t1 2 a2
    obtain ⟨d, j3, t3, g1, g2, g3⟩ := l1Pick_ok b hl j2 t2 [noVal, (ByteArray.mk #[97]), (ByteArray.mk #[98, 98]), (ByteArray.mk #[104, 101, 108, 108, 111])] b2 (by decide)
    have hd := small4 g3
    have key : ∀ sec : Int, 0 ≤ sec → sec ≤ 25 → ∃ y, (Option.bind (spec.Plan.f K a w m q sec d) fun x4 => cond (x4.2.2.2.2.2) (Option.bind (spec.l1Once.f b j3 t3 12) fun x5 => cond (x5.1) (Option.bind (spec.l1Below.f b x5.2.1 x5.2.2 (w64 ((x4.1.length : Int) + 1))) fun x6 => Option.bind (spec.l1Below.f b x6.2.1 x6.2.2 9) fun x7 => Option.bind (spec.Cut.f K a w x4.1 x6.1 x7.1) fun x8 => Option.bind (spec.Mount.f K x8.1 x8.2) fun x9 => spec.l5DrawRight.l0.f K b f x7.2.1 x7.2.2 x9.1 x9.2.1 x9.2.2.1 x9.2.2.2 n (w64 ((j : Int) + 1))) (spec.l5DrawRight.l0.f K b f x5.2.1 x5.2.2 x4.2.1 x4.2.2.1 x4.2.2.2.1 x4.2.2.2.2.1 n (w64 ((j : Int) + 1)))) (some (.inl (a, w, m, q, j3, t3)))) = some y ∧
        ∃ z : DrT, Sum.elim (fun z : DrT => z) (fun z : DrT => z) y = z ∧ Rch z.1 z.2.1 z.2.2.1 z.2.2.2.1 ∧ 0 ≤ z.2.2.2.2.1 := by
      intro sec h0 h1
      obtain ⟨p1, p2⟩ := wPlan_ok K hK hr.ftl sec d
      have hp := spec_Plan_eq K hK hr.ftl sec d
      have hput := fun e => Rch.put sec d hr h0 h1 hd e
      have hcut := fun k n e => Rch.cut sec d k n hr h0 h1 hd e
      generalize wPlan a w m q sec d = x at p1 p2 hp hput hcut
      unfold told at hp
      cases hok : x.ok with
      | false =>
        rw [hok, if_neg (by simp)] at hp
        exact ⟨_, bind_t hp (br_f rfl rfl), _, rfl, hr, g2⟩
      | true =>
        rw [hok, if_pos rfl] at hp
        obtain ⟨c5, j5, t5, k1, k2⟩ := l1Once_ok b hl j3 t3 12 g2
        cases c5 with
        | false =>
          obtain ⟨y, y1, y2⟩ := ih (j + 1) j5 t5 _ _ _ _ (by omega) (by omega) k2 (hput hok)
          exact ⟨y, bind_t hp (br_t rfl (bind_t k1 (br_f rfl (by rw [e1]; exact y1)))), y2⟩
        | true =>
          obtain ⟨v6, j6, t6, l1, l2, _⟩ := l1Below_ok b hl j5 t5 (w64 ((x.q.length : Int) + 1)) k2
          obtain ⟨v7, j7, t7, m1, m2, _⟩ := l1Below_ok b hl j6 t6 9 l2
          have hc := spec_Cut_eq K hK hr.ftl.1 x.q (by omega) v6 v7
          have hm := spec_Mount_eq K hK (cutR a w x.q v6 v7).1 (cutR a w x.q v6 v7).2
          rw [if_pos (cutR_chip hr.ftl.1 x.q v6 v7)] at hm
          obtain ⟨y, y1, y2⟩ := ih (j + 1) j7 t7 _ _ _ _ (by omega) (by omega) m2 (hcut v6 v7 hok)
          exact ⟨y, bind_t hp (br_t rfl (bind_t k1 (br_t rfl (bind_t l1 (bind_t m1 (bind_t hc (bind_t hm (by rw [e1]; exact y1)))))))), y2⟩
    cases c2 with
    | true =>
      obtain ⟨y, y1, y2⟩ := key (v1.tmod 4) (Int.tmod_nonneg _ a3) (by have := Int.tmod_lt_of_pos v1 (by decide : (0 : Int) < 4); omega)
      exact ⟨y, br_d c (bind_t a1 (bind_t b1 (br_t rfl (bind_t g1 y1)))), y2⟩
    | false =>
      obtain ⟨y, y1, y2⟩ := key v1 a3 (by omega)
      exact ⟨y, br_d c (bind_t a1 (bind_t b1 (br_f rfl (bind_t g1 y1)))), y2⟩
theorem spec_ChipNew_eq : spec.ChipNew.f = some () := by
  unfold spec.ChipNew.f
  kernel_rfl
theorem l5DrawRight_ok (K : Nat) (hK : 10000000000000 ≤ K) (b : List Int) (hl : b.length ≤ 1000000000000) (i s : Int) (hi : 0 ≤ i) : ∃ a w m q j t, spec.l5DrawRight.f K b i s = some (a, w, m, q, j, t) ∧ Rch a w m q ∧ 0 ≤ j := by
  unfold spec.l5DrawRight.f
  obtain ⟨v, j, t, h1, h2, h3, h4⟩ := l1Below_ok b hl i s 70 hi
  have h4 := h4 (by decide)
  have hm := spec_Mount_eq K hK (List.replicate 60 noVal) (List.replicate 10 0)
  rw [if_pos new_chip] at hm
  obtain ⟨y, y1, z, y2, y3, y4⟩ := l5DrawRight_l0 K hK b hl v (by omega) K 0 j t _ _ _ _ (by omega) (by omega) h2 Rch.new
  refine ⟨z.1, z.2.1, z.2.2.1, z.2.2.2.1, z.2.2.2.2.1, z.2.2.2.2.2, bind_t spec_ChipNew_eq (bind_t hm (bind_t h1 (bind_t y1 ?_))), y3, y4⟩
  subst y2
  cases y <;> rfl

theorem impl_in_eq (n lo hi : Int) : impl.in_.f n lo hi = some (decide (lo ≤ n ∧ n ≤ hi)) := by
  unfold impl.in_.f
  by_cases c : n ≥ lo
  · refine br_d c ?_
    by_cases d : n ≤ hi
    · rw [decide_eq_true d, decide_eq_true ⟨c, d⟩]
    · rw [decide_eq_false d, decide_eq_false (fun h => d h.2)]
  · refine br_n c ?_
    rw [decide_eq_false (fun h => c h.1)]

theorem impl_longPage_l0 (a : List ByteArray) (hl : a.length ≤ 1000000) : ∀ (f i : Nat), a.length < i + f → i ≤ a.length →
    ∃ r, slices.IndexFunc_string_string.l0.f a f (i : Int) = some r ∧ ((allF (fun i => (a.getD i noVal).size ≤ 800) i a.length ∧ r = .inr ()) ∨ (¬ allF (fun i => (a.getD i noVal).size ≤ 800) i a.length ∧ ∃ j : Nat, r = .inl (j : Int))) := by
  intro f
  induction f with
  | zero => intro i h hi; omega
  | succ f ih =>
    intro i h hi
    rw [slices.IndexFunc_string_string.l0.f]
    by_cases c : i < a.length
    · have e1 : w64 ((i : Int) + 1) = ((i + 1 : Nat) : Int) := wsucc (by omega)
      simp only [Int.toNat_natCast, e1]
      by_cases d : (a.getD i noVal).size ≤ 800
      · obtain ⟨r, h1, h2⟩ := ih (i + 1) (by omega) (by omega)
        refine ⟨r, br_d (by omega) (ck_t (by omega) (bind_t rfl (br_n (by omega) h1))), ?_⟩
        rcases h2 with ⟨g, e⟩ | ⟨g, e⟩
        · exact .inl ⟨(allF_step c).2 ⟨d, g⟩, e⟩
        · exact .inr ⟨fun q => g ((allF_step c).1 q).2, e⟩
      · exact ⟨_, br_d (by omega) (ck_t (by omega) (bind_t rfl (br_d (by omega) rfl))), .inr ⟨fun g => d ((allF_step c).1 g).1, i, rfl⟩⟩
    · exact ⟨_, br_n (by omega) rfl, .inl ⟨allF_end (by omega), rfl⟩⟩
theorem impl_longPage_eq (K : Nat) (hK : 10000000000000 ≤ K) (a : List ByteArray) (hl : a.length ≤ 1000000) : slices.ContainsFunc_string_string.f K a = some (!decide (allF (fun i => (a.getD i noVal).size ≤ 800) 0 a.length)) := by
  unfold slices.ContainsFunc_string_string.f slices.IndexFunc_string_string.f
  obtain ⟨r, h1, h2⟩ := impl_longPage_l0 a hl K 0 (by omega) (by omega)
  rcases h2 with ⟨g, rfl⟩ | ⟨g, j, rfl⟩
  · refine bind_t (bind_t h1 rfl) ?_
    rw [decide_eq_true g]; rfl
  · refine bind_t (bind_t h1 rfl) ?_
    rw [decide_eq_false g]; rfl
theorem impl_badWear (n : Int) : impl.ChipOk_2.f n = some (!decide (0 ≤ n ∧ n ≤ 1000000000)) := by
  unfold impl.ChipOk_2.f
  exact bind_t (impl_in_eq n 0 1000000000) rfl
theorem impl_badWears_l0 (a : List Int) (hl : a.length ≤ 1000000) : ∀ (f i : Nat), a.length < i + f → i ≤ a.length →
    ∃ r, slices.IndexFunc_int_int.l0.f a f (i : Int) = some r ∧ ((allF (fun i => 0 ≤ a.getD i 0 ∧ a.getD i 0 ≤ 1000000000) i a.length ∧ r = .inr ()) ∨ (¬ allF (fun i => 0 ≤ a.getD i 0 ∧ a.getD i 0 ≤ 1000000000) i a.length ∧ ∃ j : Nat, r = .inl (j : Int))) := by
  intro f
  induction f with
  | zero => intro i h hi; omega
  | succ f ih =>
    intro i h hi
    rw [slices.IndexFunc_int_int.l0.f]
    by_cases c : i < a.length
    · have e1 : w64 ((i : Int) + 1) = ((i + 1 : Nat) : Int) := wsucc (by omega)
      simp only [Int.toNat_natCast, e1]
      by_cases d : 0 ≤ a.getD i 0 ∧ a.getD i 0 ≤ 1000000000
      · obtain ⟨r, h1, h2⟩ := ih (i + 1) (by omega) (by omega)
        refine ⟨r, br_d (by omega) (ck_t (by omega) (bind_t (impl_badWear _) (br_f (by rw [decide_eq_true d]; rfl) h1))), ?_⟩
        rcases h2 with ⟨g, e⟩ | ⟨g, e⟩
        · exact .inl ⟨(allF_step c).2 ⟨d, g⟩, e⟩
        · exact .inr ⟨fun q => g ((allF_step c).1 q).2, e⟩
      · exact ⟨_, br_d (by omega) (ck_t (by omega) (bind_t (impl_badWear _) (br_t (by rw [decide_eq_false d]; rfl) rfl))), .inr ⟨fun g => d ((allF_step c).1 g).1, i, rfl⟩⟩
    · exact ⟨_, br_n (by omega) rfl, .inl ⟨allF_end (by omega), rfl⟩⟩
theorem impl_badWears_eq (K : Nat) (hK : 10000000000000 ≤ K) (a : List Int) (hl : a.length ≤ 1000000) : slices.ContainsFunc_int_int.f K a = some (!decide (allF (fun i => 0 ≤ a.getD i 0 ∧ a.getD i 0 ≤ 1000000000) 0 a.length)) := by
  unfold slices.ContainsFunc_int_int.f slices.IndexFunc_int_int.f
  obtain ⟨r, h1, h2⟩ := impl_badWears_l0 a hl K 0 (by omega) (by omega)
  rcases h2 with ⟨g, rfl⟩ | ⟨g, j, rfl⟩
  · refine bind_t (bind_t h1 rfl) ?_
    rw [decide_eq_true g]; rfl
  · refine bind_t (bind_t h1 rfl) ?_
    rw [decide_eq_false g]; rfl
theorem impl_ChipOk_eq (K : Nat) (hK : 10000000000000 ≤ K) (a : List ByteArray) (w : List Int) : impl.ChipOk.f K a w = some (decide (chipOk a w)) := by
  unfold impl.ChipOk.f
  by_cases c1 : a.length = 60
  case neg =>
    rw [decide_eq_false (p := chipOk a w) (fun g => c1 g.1)]
    exact br_f (beq_eq_false_iff_ne.2 (by omega)) rfl
  refine br_t (by simp [c1]) ?_
  by_cases c2 : w.length = 10
  case neg =>
    rw [decide_eq_false (p := chipOk a w) (fun g => c2 g.2.1)]
    exact br_f (beq_eq_false_iff_ne.2 (by omega)) rfl
  refine br_t (by simp [c2]) (bind_t (impl_longPage_eq K hK a (by omega)) ?_)
  by_cases c3 : allF (fun i => (a.getD i noVal).size ≤ 800) 0 a.length
  case neg =>
    rw [decide_eq_false (p := chipOk a w) (fun g => c3 g.2.2.1), decide_eq_false c3]; rfl
  rw [decide_eq_true c3]
  refine br_f rfl (bind_t (impl_badWears_eq K hK w (by omega)) ?_)
  by_cases c4 : allF (fun i => 0 ≤ w.getD i 0 ∧ w.getD i 0 ≤ 1000000000) 0 w.length
  · rw [decide_eq_true (p := chipOk a w) ⟨c1, c2, c3, c4⟩, decide_eq_true c4]; rfl
  · rw [decide_eq_false (p := chipOk a w) (fun g => c4 g.2.2.2), decide_eq_false c4]; rfl

theorem impl_cloneChip_eq (a : List ByteArray) (w : List Int) (h : chipOk a w) : impl.cloneChip.f a w = some (a, w) := by
  unfold impl.cloneChip.f slices.Clone_string_string.f slices.Clone_int_int.f
  have h1 := h.1
  have h2 := h.2.1
  exact bind_t (ck_t (by omega) rfl) (bind_t (ck_t (by omega) rfl) rfl)

theorem impl_GetNum_l0 (b : List Int) (hb : Bytes b) (hl : b.length ≤ 1000000000000) (a : Nat) (ha : a ≤ b.length) : ∀ (f k q : Nat) (n : Int), f + k = 5 → f < q → 0 ≤ n → n < 128 ^ k →
    ∃ x, impl.GetNum.l0.f b (a : Int) q n (k : Int) = some x ∧ numOut x = getR (a : Int) (getF f k n (b.drop (a + k))) := by
  intro f
  induction f with
  | zero =>
    intro k q n hk hq h0 h1
    obtain ⟨q, rfl⟩ := Nat.exists_eq_add_one_of_ne_zero (by omega : q ≠ 0)
    refine ⟨.inr (), ?_, rfl⟩
    rw [impl.GetNum.l0.f]
    exact br_n (by omega) rfl
  | succ f ih =>
    intro k q n hk hq h0 h1
    obtain ⟨q, rfl⟩ := Nat.exists_eq_add_one_of_ne_zero (by omega : q ≠ 0)
    rw [impl.GetNum.l0.f]
    have e1 : w64 ((a : Int) + k) = ((a + k : Nat) : Int) := by rw [w64_id (by omega) (by omega)]; omega
    by_cases h : a + k < b.length
    · have hv := hb.at_ h
      have hp : (0 : Int) < 128 ^ k := Int.pow_pos (by decide)
      have hp4 : (128 : Int) ^ k ≤ 128 ^ 4 := by
        have : (128 : Nat) ^ k ≤ 128 ^ 4 := Nat.pow_le_pow_right (by decide) (by omega)
        exact_mod_cast this
      have hm : b[a + k] % 128 * 128 ^ k ≤ 127 * 128 ^ k := Int.mul_le_mul_of_nonneg_right (by omega) (by omega)
      have hm0 : 0 ≤ b[a + k] % 128 * 128 ^ k := Int.mul_nonneg (by omega) (by omega)
      rw [List.drop_eq_getElem_cons h]
      have e3 : w64 (7 * (k : Int)) = 7 * (k : Int) := w64_id (by omega) (by omega)
      have e4 : b.getD (a + k) 0 = b[a + k] := getD_at h 0
      have e5 : w64 b[a + k] = b[a + k] := w64_id (by omega) (by omega)
      have e6 : bits2 .i64 (· &&& ·) b[a + k] 127 = b[a + k] % 128 := and127 (by omega) (by omega)
      have e7 := or_shl k (by omega) h0 h1 (d := b[a + k] % 128) (by omega) (by omega)
      have e8 : w64 (((a + k : Nat) : Int) + 1) = (a : Int) + ((k : Int) + 1) := by rw [w64_id (by omega) (by omega)]; omega
      have e9 : w64 ((k : Int) + 1) = ((k + 1 : Nat) : Int) := wsucc (by omega)
      simp only [e1, e3, Int.toNat_natCast, e4, e5, e6, e7, e8, e9]
      unfold getF
      by_cases c : b[a + k] ≥ 128
      · rw [if_pos c]
        have hlt : n + b[a + k] % 128 * 128 ^ k < 128 ^ (k + 1) := by
          rw [Int.pow_succ]
          omega
        obtain ⟨x, hx, hr⟩ := ih (k + 1) q (n + b[a + k] % 128 * 128 ^ k) (by omega) (by omega) (by omega) hlt
        exact ⟨x, br_d (by omega) (br_d (by omega) (ck_t (by omega) (ck_t (by omega) (br_d (by omega) hx)))), hr⟩
      · rw [if_neg c]
        by_cases c0 : b[a + k] = 0 ∧ k > 0
        · rw [if_pos c0]
          exact ⟨.inl (0, 0, false), br_d (by omega) (br_d (by omega) (ck_t (by omega) (ck_t (by omega) (br_n (by omega) (br_t (by rw [c0.1]; rfl) (br_d (by omega) rfl)))))), rfl⟩
        · rw [if_neg c0]
          by_cases cz : b[a + k] = 0
          · have ck0 : ¬ ((k : Int) > 0) := fun h => c0 ⟨cz, by omega⟩
            by_cases cm : n + b[a + k] % 128 * 128 ^ k > 1000000000
            · rw [if_pos cm]
              exact ⟨.inl (0, 0, false), br_d (by omega) (br_d (by omega) (ck_t (by omega) (ck_t (by omega) (br_n (by omega) (br_t (by rw [cz]; rfl) (br_n ck0 (br_d cm rfl))))))), rfl⟩
            · rw [if_neg cm]
              exact ⟨.inl (_, _, true), br_d (by omega) (br_d (by omega) (ck_t (by omega) (ck_t (by omega) (br_n (by omega) (br_t (by rw [cz]; rfl) (br_n ck0 (br_n cm rfl))))))), rfl⟩
          · by_cases cm : n + b[a + k] % 128 * 128 ^ k > 1000000000
            · rw [if_pos cm]
              exact ⟨.inl (0, 0, false), br_d (by omega) (br_d (by omega) (ck_t (by omega) (ck_t (by omega) (br_n (by omega) (br_f (beq_eq_false_iff_ne.2 cz) (br_d cm rfl)))))), rfl⟩
            · rw [if_neg cm]
              exact ⟨.inl (_, _, true), br_d (by omega) (br_d (by omega) (ck_t (by omega) (ck_t (by omega) (br_n (by omega) (br_f (beq_eq_false_iff_ne.2 cz) (br_n cm rfl)))))), rfl⟩
    · rw [List.drop_of_length_le (by omega)]
      simp only [e1]
      exact ⟨.inr (), br_d (by omega) (br_n (by omega) rfl), rfl⟩
theorem impl_GetNum_eq (K : Nat) (hK : 10000000000000 ≤ K) (b : List Int) (at_ : Int) (hb : Bytes b) (hl : b.length ≤ 1000000000000) (ha : at_ < 9223372036854775808) (ha0 : -9223372036854775808 ≤ at_) : impl.GetNum.f K b at_ = some (getI b at_) := by
  unfold impl.GetNum.f
  refine bind_t (impl_in_eq at_ 0 (b.length : Int)) ?_
  by_cases c : 0 ≤ at_ ∧ at_ ≤ b.length
  · refine br_d c ?_
    obtain ⟨a, rfl⟩ := Int.eq_ofNat_of_zero_le c.1
    obtain ⟨x, h1, h2⟩ := impl_GetNum_l0 b hb hl a (by omega) 5 0 K 0 rfl (by omega) (by decide) (by decide)
    refine bind_t h1 ?_
    rw [getI_at]
    rw [show a + 0 = a from rfl] at h2
    rw [← h2]
    cases x <;> rfl
  · refine br_n c ?_
    by_cases c0 : at_ < 0
    · unfold getI; rw [if_pos c0]
    · obtain ⟨a, rfl⟩ := Int.eq_ofNat_of_zero_le (by omega : 0 ≤ at_)
      rw [getI_at, List.drop_of_length_le (by omega)]; rfl

theorem impl_GetText_eq (K : Nat) (hK : 10000000000000 ≤ K) (b : List Int) (at_ : Int) (hb : Bytes b) (hl : b.length ≤ 1000000000000) (ha : at_ < 9223372036854775808) (ha0 : -9223372036854775808 ≤ at_) : impl.GetText.f K b at_ = some (gettI b at_) := by
  unfold impl.GetText.f
  refine bind_t (impl_GetNum_eq K hK b at_ hb hl ha ha0) ?_
  unfold gettI
  by_cases h : (getI b at_).2.2 = true
  · obtain ⟨g1, g2, g3, g4, g5⟩ := getI_ok hb h
    have e1 : w64 ((b.length : Int) - (getI b at_).2.1) = (b.length : Int) - (getI b at_).2.1 := w64_id (by omega) (by omega)
    have e2 : w64 ((getI b at_).2.1 + (getI b at_).1) = (getI b at_).2.1 + (getI b at_).1 := w64_id (by omega) (by omega)
    have e3 : ((getI b at_).2.1 + (getI b at_).1).toNat - (getI b at_).2.1.toNat = (getI b at_).1.toNat := by omega
    simp only [e1, e2, e3]
    refine br_t h ?_
    by_cases c1 : (getI b at_).1 > 400
    · rw [if_neg (by omega)]
      exact br_d c1 rfl
    · refine br_n c1 ?_
      by_cases c2 : (getI b at_).1 > (b.length : Int) - (getI b at_).2.1
      · rw [if_neg (by omega)]
        exact br_d c2 rfl
      · rw [if_pos ⟨h, by omega, by omega⟩]
        exact br_n c2 (ck_t (by omega) (ck_t (by omega) (ck_t (by omega) (ck_t (by omega) rfl))))
  · rw [if_neg (fun hh => h hh.1)]
    exact br_f (by simpa using h) rfl

/-! sums -/
theorem impl_Sum_l0 (b : List Int) (hb : Bytes b) (hl : b.length ≤ 1000000000000) : ∀ (f i : Nat) (n : Int), b.length < i + f → i ≤ b.length → 0 ≤ n → n < 1000003 → impl.Sum.l0.f b f n (i : Int) = some (sumF n (b.drop i)) := by
  intro f
  induction f with
  | zero => intro i n h hi; omega
  | succ f ih =>
    intro i n h hi h0 h1
    rw [impl.Sum.l0.f]
    by_cases c : i < b.length
    · have hv := hb.at_ c
      have e1 : w64 ((i : Int) + 1) = ((i + 1 : Nat) : Int) := wsucc (by omega)
      have e2 : w64 (31 * n) = 31 * n := w64_id (by omega) (by omega)
      have e3 : w64 b[i] = b[i] := w64_id (by omega) (by omega)
      have e4 : w64 (31 * n + b[i]) = 31 * n + b[i] := w64_id (by omega) (by omega)
      have e5 : (31 * n + b[i]).tmod 1000003 = (31 * n + b[i]) % 1000003 := Int.tmod_eq_emod_of_nonneg (by omega)
      simp only [Int.toNat_natCast, getD_at c, e1, e2, e3, e4, e5]
      rw [List.drop_eq_getElem_cons c, sumF_cons]
      exact br_d (by omega) (ck_t (by omega) (ih (i + 1) _ (by omega) (by omega) (by omega) (by omega)))
    · rw [List.drop_of_length_le (by omega)]
      exact br_n (by omega) rfl
theorem impl_Sum_eq (K : Nat) (hK : 10000000000000 ≤ K) (b : List Int) (hb : Bytes b) (hl : b.length ≤ 1000000000000) : impl.Sum.f K b = some (sumF 7 b) := by
  unfold impl.Sum.f
  exact bind_t (impl_Sum_l0 b hb hl K 0 7 (by omega) (by omega) (by omega) (by omega)) rfl

theorem impl_isSector_eq (n : Int) : impl.isSector.f n = some (decide (0 ≤ n ∧ n ≤ 25)) := by
  unfold impl.isSector.f
  exact bind_t (impl_in_eq n 0 25) rfl
theorem impl_RecOk_eq (n q : Int) (d : ByteArray) : impl.RecOk.f n q d = some (decide (recOk n q d)) := by
  unfold impl.RecOk.f
  refine bind_t (impl_isSector_eq n) ?_
  by_cases c : 0 ≤ n ∧ n ≤ 25
  · refine br_d c (bind_t (impl_in_eq q 1 1000000000) ?_)
    by_cases c2 : 1 ≤ q ∧ q ≤ 1000000000
    · refine br_d c2 ?_
      congr 1
      exact decide_eq_decide.2 ⟨fun h => ⟨c.1, c.2, c2.1, c2.2, by omega⟩, fun h => by have := h.2.2.2.2; omega⟩
    · exact br_n c2 (by rw [decide_eq_false (fun h => c2 ⟨h.2.2.1, h.2.2.2.1⟩)])
  · exact br_n c (by rw [decide_eq_false (fun h => c ⟨h.1, h.2.1⟩)])

def numR (b : List Int) (at_ : Int) (bad : Bool) : Int × Int × Bool := if bad then (0, at_, true) else if (getI b at_).2.2 then ((getI b at_).1, (getI b at_).2.1, false) else (0, at_, true)
def textR (b : List Int) (at_ : Int) (bad : Bool) : ByteArray × Int × Bool := if bad then (noVal, at_, true) else if (gettI b at_).2.2 then ((gettI b at_).1, (gettI b at_).2.1, false) else (noVal, at_, true)
theorem numR_small {b : List Int} {a : Int} (bad : Bool) (hb : Bytes b) (h0 : 0 ≤ a) (h1 : a ≤ b.length) : 0 ≤ (numR b a bad).2.1 ∧ (numR b a bad).2.1 ≤ b.length := by
  unfold numR
  split
  · exact ⟨h0, h1⟩
  · split
    · rename_i h; have := getI_ok hb h; simp only; omega
    · exact ⟨h0, h1⟩
theorem impl_number_eq (K : Nat) (hK : 10000000000000 ≤ K) (b : List Int) (at_ : Int) (bad : Bool) (hb : Bytes b) (hl : b.length ≤ 1000000000000) (h0 : 0 ≤ at_) (h1 : at_ ≤ b.length) : impl.reader.number.f K b at_ bad = some (numR b at_ bad) := by
  unfold impl.reader.number.f numR
  refine bind_t (impl_GetNum_eq K hK b at_ hb hl (by omega) (by omega)) ?_
  cases bad with
  | true => rfl
  | false =>
    cases h : (getI b at_).2.2 <;> simp
theorem impl_text_eq (K : Nat) (hK : 10000000000000 ≤ K) (b : List Int) (at_ : Int) (bad : Bool) (hb : Bytes b) (hl : b.length ≤ 1000000000000) (h0 : 0 ≤ at_) (h1 : at_ ≤ b.length) : impl.reader.text.f K b at_ bad = some (textR b at_ bad) := by
  unfold impl.reader.text.f textR
  refine bind_t (impl_GetText_eq K hK b at_ hb hl (by omega) (by omega)) ?_
  cases bad with
  | true => rfl
  | false =>
    cases h : (gettI b at_).2.2 <;> simp
theorem impl_done_eq (b : List Int) (at_ : Int) (bad : Bool) : impl.reader.done.f b at_ bad = some (!bad && at_ == (b.length : Int)) := by
  unfold impl.reader.done.f
  cases bad <;> rfl
/-- A reader behind a sum. -/
def sumR (b : List Int) : Int × Bool := if (getI b 0).2.2 then ((getI b 0).2.1, (getI b 0).1 != sumF 7 (b.drop (getI b 0).2.1.toNat)) else (0, true)
theorem sumR_small {b : List Int} (hb : Bytes b) : 0 ≤ (sumR b).1 ∧ (sumR b).1 ≤ b.length := by
  unfold sumR
  split
  · rename_i h; have := getI_ok hb h; simp only; omega
  · simp
theorem impl_unsummed_eq (K : Nat) (hK : 10000000000000 ≤ K) (s : ByteArray) (hs : s.size ≤ 1000000000000) : impl.unsummed.f K s = some (sumR (bytesL s)) := by
  have hb := bytesL_ok s
  have hl : (bytesL s).length ≤ 1000000000000 := by rw [bytesL_len]; exact hs
  unfold impl.unsummed.f sumR
  refine bind_t (impl_number_eq K hK _ 0 false hb hl (by omega) (by omega)) ?_
  by_cases c : (getI (bytesL s) 0).2.2 = true
  · have hn : numR (bytesL s) 0 false = ((getI (bytesL s) 0).1, (getI (bytesL s) 0).2.1, false) := by unfold numR; simp [c]
    obtain ⟨g1, g2, g3, g4, g5⟩ := getI_ok hb c
    rw [hn, if_pos c]
    have ht : (((bytesL s).drop (getI (bytesL s) 0).2.1.toNat).take ((bytesL s).length - (getI (bytesL s) 0).2.1.toNat)) = (bytesL s).drop (getI (bytesL s) 0).2.1.toNat := List.take_of_length_le (by simp)
    simp only [ht]
    refine br_f rfl (ck_t (by omega) (ck_t (by omega) (bind_t (impl_Sum_eq K hK _ (hb.drop _) (by rw [List.length_drop]; omega)) (ck_t (by omega) rfl))))
  · have hn : numR (bytesL s) 0 false = (0, 0, true) := by unfold numR; simp [c]
    rw [hn, if_neg c]
    exact br_t rfl rfl
theorem numR_no {b : List Int} {a : Int} (h : ¬ (getI b a).2.2 = true) : numR b a false = (0, a, true) := by
  unfold numR
  rw [if_neg (by decide), if_neg h]
theorem textR_no {b : List Int} {a : Int} (h : ¬ (gettI b a).2.2 = true) : textR b a false = (noVal, a, true) := by
  unfold textR
  rw [if_neg (by decide), if_neg h]

theorem impl_RecRead_eq (K : Nat) (hK : 10000000000000 ≤ K) (s : ByteArray) (hs : s.size ≤ 1000000000000) : impl.RecRead.f K s = some (recR (bytesL s)) := by
  have hb := bytesL_ok s
  have hl : (bytesL s).length ≤ 1000000000000 := by rw [bytesL_len]; exact hs
  unfold impl.RecRead.f
  generalize hB : bytesL s = b at hb hl
  have u1 := sumR_small hb
  have u2 := numR_small (sumR b).2 hb u1.1 u1.2
  have u3 := numR_small (numR b (sumR b).1 (sumR b).2).2.2 hb u2.1 u2.2
  refine bind_t (by rw [impl_unsummed_eq K hK s hs, hB]) (bind_t (impl_number_eq K hK b _ _ hb hl u1.1 u1.2) (bind_t (impl_number_eq K hK b _ _ hb hl u2.1 u2.2) (bind_t (impl_text_eq K hK b _ _ hb hl u3.1 u3.2) (bind_t (impl_done_eq b _ _) ?_))))
  -- what the law says of the bytes
  by_cases hx : ∃ n q d, recOk n q d ∧ b = recI n q d
  · obtain ⟨n, q, d, h1, h2⟩ := hx
    obtain ⟨a1, a2, a3, f0, fa, f1, f2, f3⟩ := recI_gets h1 []
    rw [List.append_nil, ← h2] at f0 f1 f2 f3
    have hsum : sumR b = ((a1 : Int), false) := by
      unfold sumR
      rw [f0]
      simp only [if_true, Int.toNat_natCast]
      rw [fa, h2, recI_drop1]
      simp
    have n2 : numR b a1 false = (n, (a2 : Int), false) := by unfold numR; rw [f1]; simp
    have n3 : numR b a2 false = (q, (a3 : Int), false) := by unfold numR; rw [f2]; simp
    have n4 : textR b a3 false = (d, (b.length : Int), false) := by unfold textR; rw [f3]; simp
    rw [hsum]
    simp only [n2, n3, n4]
    refine br_t (by simp) (bind_t (impl_RecOk_eq n q d) (br_d h1 ?_))
    rw [h2, recR_of h1]
  · have hr : recR b = (0, 0, noVal, false) := by
      rcases recR_cases b with ⟨n, q, d, h1, h2, _⟩ | h
      · exact absurd ⟨n, q, d, h1, h2⟩ hx
      · exact h.1
    rw [hr]
    by_cases c0 : (getI b 0).2.2 = true ∧ (getI b 0).1 = sumF 7 (b.drop (getI b 0).2.1.toNat)
    case neg =>
      have hs2 : (sumR b).2 = true := by
        unfold sumR
        by_cases c : (getI b 0).2.2 = true
        · rw [if_pos c]; simp; exact fun h => c0 ⟨c, h⟩
        · rw [if_neg c]
      have b2 : (numR b (sumR b).1 (sumR b).2).2.2 = true := by unfold numR; rw [hs2]; rfl
      have b3 : (numR b (numR b (sumR b).1 (sumR b).2).2.1 (numR b (sumR b).1 (sumR b).2).2.2).2.2 = true := by rw [b2]; rfl
      have b4 : (textR b (numR b (numR b (sumR b).1 (sumR b).2).2.1 (numR b (sumR b).1 (sumR b).2).2.2).2.1 (numR b (numR b (sumR b).1 (sumR b).2).2.1 (numR b (sumR b).1 (sumR b).2).2.2).2.2).2.2 = true := by rw [b3]; rfl
      exact br_f (by rw [b4]; rfl) rfl
    obtain ⟨sm, r1, s1, s2, s3, s4⟩ := getI_inv (a := 0) hb c0.1
    have hsum : sumR b = (((putI sm).length : Int), false) := by
      unfold sumR
      rw [if_pos c0.1]
      have e := c0.2
      have s4' : getI b 0 = (sm, ((putI sm).length : Int), true) := by simpa using s4
      rw [s4'] at e ⊢
      simp only at e ⊢
      rw [← e]; simp
    have s3' : b.drop (putI sm).length = r1 := by
      have : b = putI sm ++ r1 := by simpa using s3
      rw [this, List.drop_left]
    rw [hsum]
    by_cases c1 : (getI b ((putI sm).length : Int)).2.2 = true
    case neg =>
      have b2 : (numR b ((putI sm).length : Int) false) = (0, ((putI sm).length : Int), true) := numR_no c1
      simp only [b2]
      exact br_f (by simp [numR, textR]) rfl
    obtain ⟨n, r2, n1, n2, n3, n4⟩ := getI_inv hb c1
    have m1 : numR b ((putI sm).length : Int) false = (n, ((putI sm).length : Int) + (putI n).length, false) := by unfold numR; rw [n4]; simp
    simp only [m1]
    rw [← Int.natCast_add]
    by_cases c2 : (getI b (((putI sm).length + (putI n).length : Nat) : Int)).2.2 = true
    case neg =>
      have b2 : (numR b (((putI sm).length + (putI n).length : Nat) : Int) false) = (0, (((putI sm).length + (putI n).length : Nat) : Int), true) := numR_no c2
      simp only [b2]
      exact br_f (by simp [numR, textR]) rfl
    obtain ⟨q, r3, q1, q2, q3, q4⟩ := getI_inv hb c2
    have m2 : numR b (((putI sm).length + (putI n).length : Nat) : Int) false = (q, (((putI sm).length + (putI n).length : Nat) : Int) + (putI q).length, false) := by unfold numR; rw [q4]; simp
    simp only [m2]
    rw [← Int.natCast_add]
    by_cases c3 : (gettI b (((putI sm).length + (putI n).length + (putI q).length : Nat) : Int)).2.2 = true
    case neg =>
      have b2 : (textR b (((putI sm).length + (putI n).length + (putI q).length : Nat) : Int) false) = (noVal, (((putI sm).length + (putI n).length + (putI q).length : Nat) : Int), true) := textR_no c3
      simp only [b2]
      exact br_f (by simp) rfl
    obtain ⟨d, r4, d1, d2, d3⟩ := gettI_inv hb c3
    have m3 : textR b (((putI sm).length + (putI n).length + (putI q).length : Nat) : Int) false = (d, (((putI sm).length + (putI n).length + (putI q).length : Nat) : Int) + (puttI d).length, false) := by unfold textR; rw [d3]; simp
    simp only [m3]
    have hfull : b = putI sm ++ (putI n ++ (putI q ++ (puttI d ++ r4))) := by
      have e0 : b = putI sm ++ r1 := by simpa using s3
      have e1 : r1 = putI n ++ r2 := by rw [← s3', n3]
      have e2 : r2 = putI q ++ r3 := by
        have := q3
        rw [← List.drop_drop, n3, List.drop_left] at this
        exact this
      have e3 : r3 = puttI d ++ r4 := by
        have := d2
        rw [← List.drop_drop, q3, List.drop_left] at this
        exact this
      rw [← e3, ← e2, ← e1]; exact e0
    by_cases c4 : (((putI sm).length + (putI n).length + (putI q).length : Nat) : Int) + (puttI d).length = (b.length : Int)
    case neg => exact br_f (by simp only [Bool.not_false, Bool.true_and]; exact beq_eq_false_iff_ne.2 c4) rfl
    refine br_t (by simp only [Bool.not_false, Bool.true_and]; exact beq_iff_eq.2 c4) (bind_t (impl_RecOk_eq n q d) ?_)
    by_cases c5 : recOk n q d
    case neg => exact br_n c5 rfl
    exfalso
    have hlen := congrArg List.length hfull
    simp only [List.length_append] at hlen
    have hr4 : r4 = [] := List.eq_nil_of_length_eq_zero (by omega)
    have hb2 : b = putI sm ++ recB n q d := by rw [hfull, hr4]; simp [recB]
    refine hx ⟨n, q, d, c5, ?_⟩
    have e := c0.2
    have s4' : getI b 0 = (sm, ((putI sm).length : Int), true) := by simpa using s4
    rw [s4'] at e
    simp only [Int.toNat_natCast] at e
    rw [hb2, List.drop_left] at e
    rw [hb2, e]; rfl

theorem impl_PutNum_l0 : ∀ (f q n : Nat) (acc : List Int), n < 128 ^ (f + 1) → f ≤ 4 → f < q → acc.length + f ≤ 1000 →
    ∃ m a', impl.PutNum.l0.f q (n : Int) acc = some (m, a') ∧ a' ++ [IntKind.u8.wrap m] = acc ++ putF f n ∧ a'.length ≤ acc.length + f := by
  intro f
  induction f with
  | zero =>
    intro q n acc hn _ hq ha
    obtain ⟨q, rfl⟩ := Nat.exists_eq_add_one_of_ne_zero (by omega : q ≠ 0)
    have hn : n < 128 := hn
    refine ⟨n, acc, ?_, ?_, by omega⟩
    · rw [impl.PutNum.l0.f]; exact br_n (by omega) rfl
    · rw [wrap_u8 (by omega) (by omega)]; rfl
  | succ f ih =>
    intro q n acc hn hf hq ha
    obtain ⟨q, rfl⟩ := Nat.exists_eq_add_one_of_ne_zero (by omega : q ≠ 0)
    have hp : 128 ^ (f + 1 + 1) ≤ 128 ^ 5 := Nat.pow_le_pow_right (by decide) (by omega)
    rw [impl.PutNum.l0.f]
    by_cases c : n > 127
    · have e1 : bits2 .i64 (· &&& ·) (n : Int) 127 = ((n % 128 : Nat) : Int) := by rw [and127 (by omega) (by omega)]; omega
      have e2 : (n : Int).fdiv (2 ^ 7) = ((n / 128 : Nat) : Int) := by rw [Int.fdiv_eq_ediv_of_nonneg _ (by decide)]; rfl
      have e3 : bits2 .i64 (· ||| ·) ((n % 128 : Nat) : Int) 128 = ((n % 128 + 128 : Nat) : Int) := by rw [or128 (by omega) (by omega)]; omega
      have e5 : IntKind.u8.wrap ((n % 128 + 128 : Nat) : Int) = ((n % 128 + 128 : Nat) : Int) := wrap_u8 (by omega) (by omega)
      simp only [e1, e2, e3, e5]
      obtain ⟨m, a', h1, h2, h3⟩ := ih q (n / 128) (acc ++ [((n % 128 + 128 : Nat) : Int)]) (Nat.div_lt_of_lt_mul (by rw [Nat.pow_succ, Nat.mul_comm] at hn; exact hn)) (by omega) (by omega) (by simp; omega)
      refine ⟨m, a', br_d (by omega) (ck_t (by simp; omega) h1), ?_, by simp at h3; omega⟩
      rw [h2, putF, if_pos c, List.append_assoc]; rfl
    · refine ⟨n, acc, br_n (by omega) rfl, ?_, by omega⟩
      rw [wrap_u8 (by omega) (by omega), putF, if_neg c]
theorem impl_PutNum_eq (K : Nat) (hK : 10000000000000 ≤ K) (n : Int) : impl.PutNum.f K n = some (putI n) := by
  unfold impl.PutNum.f putI
  refine bind_t (impl_in_eq n 0 1000000000) ?_
  by_cases c : 0 ≤ n ∧ n ≤ 1000000000
  · rw [if_pos c]
    obtain ⟨m, rfl⟩ := Int.eq_ofNat_of_zero_le c.1
    obtain ⟨x, a', h1, h2, h3⟩ := impl_PutNum_l0 4 K m [] (by omega) (by omega) (by omega) (by simp)
    refine br_d c (bind_t h1 (ck_t (by simp at h3 ⊢; omega) ?_))
    rw [h2]; rfl
  · rw [if_neg c]
    exact br_n c rfl

theorem impl_PutText_eq (K : Nat) (hK : 10000000000000 ≤ K) (s : ByteArray) : impl.PutText.f K s = some (if s.size ≤ 400 then putI s.size ++ bytesL s else []) := by
  unfold impl.PutText.f
  by_cases c : s.size ≤ 400
  · rw [if_pos c]
    refine br_n (by omega) (bind_t (impl_PutNum_eq K hK _) (ck_t ?_ rfl))
    have := putI_length s.size
    rw [List.length_append, bytesL_len]
    omega
  · rw [if_neg c]
    exact br_d (by omega) rfl

theorem impl_Grow_eq (n : Int) (h0 : 0 ≤ n) (h1 : n ≤ 70368744177664) : ∃ l, slices.Grow_byte_byte.f n = some (l, 0) := by
  unfold slices.Grow_byte_byte.f
  have e : w64 (n - 0) = n := by rw [w64_id (by omega) (by omega)]; omega
  rw [e]
  by_cases c : n > 0
  · exact ⟨_, br_n (by omega) (br_d c (ck_t (by omega) rfl))⟩
  · exact ⟨_, br_n (by omega) (br_n c rfl)⟩

theorem impl_Concat2_eq (a b : List Int) (h : a.length + b.length ≤ 70368744177664) : slices.Concat_byte_byte_1.f a b = some (a ++ b) := by
  unfold slices.Concat_byte_byte_1.f
  have e0 : w64 (0 + (a.length : Int)) = (a.length : Int) := by rw [w64_id (by omega) (by omega)]; omega
  have e1 : w64 ((a.length : Int) + (b.length : Int)) = ((a.length + b.length : Nat) : Int) := by rw [w64_id (by omega) (by omega)]; omega
  simp only [e0, e1]
  obtain ⟨l, hl⟩ := impl_Grow_eq ((a.length + b.length : Nat) : Int) (by omega) (by omega)
  refine ck_t (by decide) (br_n (by omega) (ck_t (by decide) (br_n (by omega) (bind_t hl ?_))))
  have : ((l.drop 0).take 0 : List Int) = [] := List.take_zero ..
  simp only [this, List.nil_append]
  exact ck_t (by omega) (ck_t (by omega) (ck_t (by rw [List.length_append]; omega) rfl))

end Go.Proofs.YtmodnnokcmabhaaGreat.Pure
