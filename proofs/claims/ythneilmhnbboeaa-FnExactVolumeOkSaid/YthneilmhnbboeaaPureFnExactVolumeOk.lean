/- The law FnExactVolumeOk, in plain words: its function answers true. -/
import Derived.Test.YthneilmhnbboeaaGFnExactVolumeOk
import Derived.Test.YthneilmhnbboeaaDenMod
import Derived.KernelRfl
namespace Go.Proofs.Ythneilmhnbboeaa.Pure
open Go Go.RowKit Go.Proofs.Ythneilmhnbboeaa.Den Go.Proofs.Ythneilmhnbboeaa.GFnExactVolumeOk
set_option linter.unusedSimpArgs false
set_option linter.unusedVariables false
theorem nat_tmod (n m : Nat) : ((n : Int).tmod (m : Int)) = ((n % m : Nat) : Int) := (Int.ofNat_tmod n m).symm
theorem nat_tdiv (n m : Nat) : ((n : Int).tdiv (m : Int)) = ((n / m : Nat) : Int) := (Int.ofNat_tdiv n m).symm
theorem impl_in_eq (n lo hi : Int) : impl.in_.f n lo hi = some (decide (lo ≤ n ∧ n ≤ hi)) := by
  unfold impl.in_.f
  by_cases c : n ≥ lo
  · refine br_d c ?_
    by_cases d : n ≤ hi
    · rw [decide_eq_true d, decide_eq_true ⟨c, d⟩]
    · rw [decide_eq_false d, decide_eq_false (fun h => d h.2)]
  · refine br_n c ?_
    rw [decide_eq_false (fun h => c h.1)]
theorem spec_l1In_eq (n lo hi : Int) : spec.l1In.f n lo hi = some (decide (lo ≤ n ∧ n ≤ hi)) := by
  unfold spec.l1In.f
  by_cases c : n ≥ lo
  · refine br_d c ?_
    by_cases d : n ≤ hi
    · rw [decide_eq_true d, decide_eq_true ⟨c, d⟩]
    · rw [decide_eq_false d, decide_eq_false (fun h => d h.2)]
  · refine br_n c ?_
    rw [decide_eq_false (fun h => c h.1)]
theorem spec_NameOk_l0 (s : ByteArray) (hl : s.size ≤ 1000000000000) : ∀ (f i : Nat), s.size < i + f → i ≤ s.size →
    spec.NameOk.l0.f s f (i : Int) = some (if allF (fun j => 97 ≤ byteAt s (j : Int) ∧ byteAt s (j : Int) ≤ 122) i s.size then .inr () else .inl ()) := by
  intro f
  induction f with
  | zero => intro i h hi; omega
  | succ f ih =>
    intro i h hi
    rw [spec.NameOk.l0.f]
    by_cases c : i < s.size
    · have e1 : w64 ((i : Int) + 1) = ((i + 1 : Nat) : Int) := wsucc (by omega)
      simp only [e1]
      by_cases d1 : byteAt s (i : Int) < 97
      · rw [if_neg (fun g => by have : 97 ≤ byteAt s (i : Int) ∧ byteAt s (i : Int) ≤ 122 := ((allF_step c).1 g).1; omega)]
        exact br_d (by omega) (ck_t (by omega) (br_d d1 rfl))
      · by_cases d2 : byteAt s (i : Int) > 122
        · rw [if_neg (fun g => by have : 97 ≤ byteAt s (i : Int) ∧ byteAt s (i : Int) ≤ 122 := ((allF_step c).1 g).1; omega)]
          exact br_d (by omega) (ck_t (by omega) (br_n d1 (br_d d2 rfl)))
        · rw [if_iff ((allF_step c).trans ⟨fun g => g.2, fun g => ⟨⟨by omega, by omega⟩, g⟩⟩)]
          exact br_d (by omega) (ck_t (by omega) (br_n d1 (br_n d2 (ih (i + 1) (by omega) (by omega)))))
    · rw [if_pos (allF_end (by omega))]
      exact br_n (by omega) rfl
theorem spec_NameOk_eq (K : Nat) (hK : 10000000000000 ≤ K) (s : ByteArray) (hl : s.size ≤ 1000000000000) : spec.NameOk.f K s = some (decide (nameOk s)) := by
  unfold spec.NameOk.f
  refine bind_t (spec_NameOk_l0 s hl K 0 (by omega) (by omega)) ?_
  by_cases d : allF (fun j => 97 ≤ byteAt s (j : Int) ∧ byteAt s (j : Int) ≤ 122) 0 s.size
  · rw [if_pos d]
    refine bind_t (spec_l1In_eq _ 1 6) ?_
    congr 1
    exact decide_eq_decide.2 ⟨fun g => ⟨d, by omega, by omega⟩, fun g => by have := g.2; omega⟩
  · rw [if_neg d, decide_eq_false (p := nameOk s) (fun g => d g.1)]
    rfl
theorem impl_NameOk_l0 (s : ByteArray) (hl : s.size ≤ 1000000000000) : ∀ (f i : Nat), s.size < i + f → i ≤ s.size →
    impl.NameOk.l0.f s f (i : Int) = some (if allF (fun j => 97 ≤ byteAt s (j : Int) ∧ byteAt s (j : Int) ≤ 122) i s.size then .inr () else .inl ()) := by
  intro f
  induction f with
  | zero => intro i h hi; omega
  | succ f ih =>
    intro i h hi
    rw [impl.NameOk.l0.f]
    by_cases c : i < s.size
    · have e1 : w64 ((i : Int) + 1) = ((i + 1 : Nat) : Int) := wsucc (by omega)
      simp only [e1]
      by_cases d1 : byteAt s (i : Int) < 97
      · rw [if_neg (fun g => by have : 97 ≤ byteAt s (i : Int) ∧ byteAt s (i : Int) ≤ 122 := ((allF_step c).1 g).1; omega)]
        exact br_d (by omega) (ck_t (by omega) (br_d d1 rfl))
      · by_cases d2 : byteAt s (i : Int) > 122
        · rw [if_neg (fun g => by have : 97 ≤ byteAt s (i : Int) ∧ byteAt s (i : Int) ≤ 122 := ((allF_step c).1 g).1; omega)]
          exact br_d (by omega) (ck_t (by omega) (br_n d1 (br_d d2 rfl)))
        · rw [if_iff ((allF_step c).trans ⟨fun g => g.2, fun g => ⟨⟨by omega, by omega⟩, g⟩⟩)]
          exact br_d (by omega) (ck_t (by omega) (br_n d1 (br_n d2 (ih (i + 1) (by omega) (by omega)))))
    · rw [if_pos (allF_end (by omega))]
      exact br_n (by omega) rfl
theorem impl_NameOk_eq (K : Nat) (hK : 10000000000000 ≤ K) (s : ByteArray) (hl : s.size ≤ 1000000000000) : impl.NameOk.f K s = some (decide (nameOk s)) := by
  unfold impl.NameOk.f
  refine bind_t (impl_NameOk_l0 s hl K 0 (by omega) (by omega)) ?_
  by_cases d : allF (fun j => 97 ≤ byteAt s (j : Int) ∧ byteAt s (j : Int) ≤ 122) 0 s.size
  · rw [if_pos d]
    refine bind_t (impl_in_eq _ 1 6) ?_
    congr 1
    exact decide_eq_decide.2 ⟨fun g => ⟨d, by omega, by omega⟩, fun g => by have := g.2; omega⟩
  · rw [if_neg d, decide_eq_false (p := nameOk s) (fun g => d g.1)]
    rfl
theorem spec_NodeOk_in1 (b : Bool) (n : List ByteArray) (m : List Int) (t : ByteArray) (hl : m.length ≤ 1000000000000) (i : Nat) (hi : i < m.length) (x y : Bool) : ∀ (f k : Nat), i < k + f → k ≤ i →
    spec.NodeOk.l1.f b n m t (i : Int) f (k : Int) x y = some (if allF (fun k => kid m k ≠ kid m i) k i then .inr (x, y) else .inl ()) := by
  intro f
  induction f with
  | zero => intro k h hk; omega
  | succ f ih =>
    intro k h hk
    rw [spec.NodeOk.l1.f]
    by_cases c : k < i
    · have e1 : w64 ((k : Int) + 1) = ((k + 1 : Nat) : Int) := wsucc (by omega)
      simp only [Int.toNat_natCast, e1]
      by_cases d : kid m k = kid m i
      · rw [if_neg (fun g => (show kid m k ≠ kid m i from ((allF_step c).1 g).1) d)]
        exact br_d (by omega) (ck_t (by omega) (ck_t (by omega) (ck_t (by omega) (ck_t (by omega) (br_t (beq_iff_eq.2 d) rfl)))))
      · rw [if_iff ((allF_step c).trans ⟨fun g => g.2, fun g => ⟨d, g⟩⟩)]
        exact br_d (by omega) (ck_t (by omega) (ck_t (by omega) (ck_t (by omega) (ck_t (by omega) (br_f (beq_eq_false_iff_ne.2 d) (ih (k + 1) (by omega) (by omega)))))))
    · rw [if_pos (allF_end (by omega))]
      exact br_n (by omega) rfl
theorem spec_NodeOk_in2 (b : Bool) (n : List ByteArray) (m : List Int) (t : ByteArray) (hl : m.length ≤ 1000000000000) (i : Nat) (hi : i < m.length) (x y : Bool) : ∀ (f k : Nat), i < k + f → k ≤ i →
    spec.NodeOk.l1_1.f b n m t (i : Int) f (k : Int) x y = some (if allF (fun k => kid m k ≠ kid m i) k i then .inr (x, y) else .inl ()) := by
  intro f
  induction f with
  | zero => intro k h hk; omega
  | succ f ih =>
    intro k h hk
    rw [spec.NodeOk.l1_1.f]
    by_cases c : k < i
    · have e1 : w64 ((k : Int) + 1) = ((k + 1 : Nat) : Int) := wsucc (by omega)
      simp only [Int.toNat_natCast, e1]
      by_cases d : kid m k = kid m i
      · rw [if_neg (fun g => (show kid m k ≠ kid m i from ((allF_step c).1 g).1) d)]
        exact br_d (by omega) (ck_t (by omega) (ck_t (by omega) (ck_t (by omega) (ck_t (by omega) (br_t (beq_iff_eq.2 d) rfl)))))
      · rw [if_iff ((allF_step c).trans ⟨fun g => g.2, fun g => ⟨d, g⟩⟩)]
        exact br_d (by omega) (ck_t (by omega) (ck_t (by omega) (ck_t (by omega) (ck_t (by omega) (br_f (beq_eq_false_iff_ne.2 d) (ih (k + 1) (by omega) (by omega)))))))
    · rw [if_pos (allF_end (by omega))]
      exact br_n (by omega) rfl
theorem spec_NodeOk_l0 (K : Nat) (hK : 10000000000000 ≤ K) (b : Bool) (n : List ByteArray) (m : List Int) (t : ByteArray) (hn : n.length ≤ 1000000000000) (hs : ∀ x ∈ n, x.size ≤ 1000000000000) (hm : n.length = m.length) : ∀ (f i : Nat), n.length < i + f → i ≤ n.length →
    spec.NodeOk.l0.f K b n m t f (i : Int) = some (if allF (kidAt n m) i n.length then .inr () else .inl ()) := by
  intro f
  induction f with
  | zero => intro i h hi; omega
  | succ f ih =>
    intro i h hi
    rw [spec.NodeOk.l0.f]
    by_cases c : i < n.length
    · have e1 : w64 ((i : Int) + 1) = ((i + 1 : Nat) : Int) := wsucc (by omega)
      have hx : (n.getD i noVal).size ≤ 1000000000000 := by rw [getD_at c]; exact hs _ (List.getElem_mem c)
      have hN := spec_NameOk_eq K hK (n.getD i noVal) hx
      have hI := spec_l1In_eq (m.getD i 0) 1 11
      simp only [Int.toNat_natCast, e1]
      by_cases d1 : nameOk (nam n i)
      case neg =>
        rw [if_neg (fun g => d1 ((allF_step c).1 g).1.1)]
        exact br_d (by omega) (ck_t (by omega) (bind_t hN (br_n d1 rfl)))
      by_cases d2 : 1 ≤ kid m i ∧ kid m i ≤ 11
      case neg =>
        rw [if_neg (fun g => d2 ((allF_step c).1 g).1.2.1)]
        exact br_d (by omega) (ck_t (by omega) (bind_t hN (br_d d1 (ck_t (by omega) (bind_t hI (br_n d2 rfl))))))
      by_cases d3 : 0 < i → strLt (nam n (i - 1)) (nam n i) = true
      case neg =>
        rw [if_neg (fun g => d3 ((allF_step c).1 g).1.2.2.1)]
        have d0 : 0 < i := Decidable.byContradiction fun h => d3 (fun h' => absurd h' h)
        have d4 : ¬ strLt (nam n (i - 1)) (nam n i) = true := fun h => d3 (fun _ => h)
        have e2 : w64 ((i : Int) - 1) = ((i - 1 : Nat) : Int) := by rw [w64_id (by omega) (by omega)]; omega
        simp only [e2, Int.toNat_natCast]
        exact br_d (by omega) (ck_t (by omega) (bind_t hN (br_d d1 (ck_t (by omega) (bind_t hI (br_d d2 (br_d (by omega) (ck_t (by omega) (ck_t (by omega) (br_f (Bool.eq_false_iff.2 d4 : strLt (nam n (i - 1)) (nam n i) = false) rfl))))))))))
      by_cases d5 : allF (fun k => kid m k ≠ kid m i) 0 i
      case neg =>
        rw [if_neg (fun g => d5 ((allF_step c).1 g).1.2.2.2)]
        by_cases d0 : 0 < i
        · have e2 : w64 ((i : Int) - 1) = ((i - 1 : Nat) : Int) := by rw [w64_id (by omega) (by omega)]; omega
          have gi := spec_NodeOk_in1 b n m t (by omega) i (by omega) (decide (1 ≤ m.getD i 0 ∧ m.getD i 0 ≤ 11)) (!decide (1 ≤ m.getD i 0 ∧ m.getD i 0 ≤ 11)) K 0 (by omega) (by omega)
          rw [if_neg d5] at gi
          simp only [e2, Int.toNat_natCast]
          exact br_d (by omega) (ck_t (by omega) (bind_t hN (br_d d1 (ck_t (by omega) (bind_t hI (br_d d2 (br_d (by omega) (ck_t (by omega) (ck_t (by omega) (br_t (d3 d0) (bind_t gi rfl)))))))))))
        · have gi := spec_NodeOk_in2 b n m t (by omega) i (by omega) (decide (1 ≤ m.getD i 0 ∧ m.getD i 0 ≤ 11)) (!decide (1 ≤ m.getD i 0 ∧ m.getD i 0 ≤ 11)) K 0 (by omega) (by omega)
          rw [if_neg d5] at gi
          exact br_d (by omega) (ck_t (by omega) (bind_t hN (br_d d1 (ck_t (by omega) (bind_t hI (br_d d2 (br_n (by omega) (bind_t gi rfl))))))))
      rw [if_iff ((allF_step c).trans ⟨fun g => g.2, fun g => ⟨⟨d1, d2, d3, d5⟩, g⟩⟩)]
      have hr := ih (i + 1) (by omega) (by omega)
      by_cases d0 : 0 < i
      · have e2 : w64 ((i : Int) - 1) = ((i - 1 : Nat) : Int) := by rw [w64_id (by omega) (by omega)]; omega
        have gi := spec_NodeOk_in1 b n m t (by omega) i (by omega) (decide (1 ≤ m.getD i 0 ∧ m.getD i 0 ≤ 11)) (!decide (1 ≤ m.getD i 0 ∧ m.getD i 0 ≤ 11)) K 0 (by omega) (by omega)
        rw [if_pos d5] at gi
        simp only [e2, Int.toNat_natCast]
        exact br_d (by omega) (ck_t (by omega) (bind_t hN (br_d d1 (ck_t (by omega) (bind_t hI (br_d d2 (br_d (by omega) (ck_t (by omega) (ck_t (by omega) (br_t (d3 d0) (bind_t gi hr)))))))))))
      · have gi := spec_NodeOk_in2 b n m t (by omega) i (by omega) (decide (1 ≤ m.getD i 0 ∧ m.getD i 0 ≤ 11)) (!decide (1 ≤ m.getD i 0 ∧ m.getD i 0 ≤ 11)) K 0 (by omega) (by omega)
        rw [if_pos d5] at gi
        exact br_d (by omega) (ck_t (by omega) (bind_t hN (br_d d1 (ck_t (by omega) (bind_t hI (br_d d2 (br_n (by omega) (bind_t gi hr))))))))
    · rw [if_pos (allF_end (by omega))]
      exact br_n (by omega) rfl
theorem spec_NodeOk_eq (K : Nat) (hK : 10000000000000 ≤ K) (b : Bool) (n : List ByteArray) (m : List Int) (t : ByteArray) (hn : n.length ≤ 1000000000000) (hs : ∀ x ∈ n, x.size ≤ 1000000000000) (hm : m.length ≤ 1000000000000) (ht : t.size ≤ 1000000000000) : spec.NodeOk.f K b n m t = some (decide (nodeOk b n m t)) := by
  unfold spec.NodeOk.f
  cases b with
  | true =>
    refine br_t rfl ?_
    by_cases c : n.length = m.length
    case neg =>
      rw [decide_eq_false (p := nodeOk true n m t) (fun g => by rcases g with g | g; exact c g.2.1; cases g.1)]
      exact br_t (bne_iff_ne.2 (by omega)) rfl
    refine br_f (by simp [c]) ?_
    by_cases c2 : t.size = 0
    case neg =>
      rw [decide_eq_false (p := nodeOk true n m t) (fun g => by rcases g with g | g; exact c2 g.2.2.1; cases g.1)]
      exact br_f (by rw [← Bool.not_eq_true, strEq_iff]; exact fun h => c2 (size_zero.2 h)) rfl
    refine br_t (strEq_iff.2 (size_zero.1 c2)) (bind_t (spec_NodeOk_l0 K hK true n m t hn hs c K 0 (by omega) (by omega)) ?_)
    by_cases d : allF (kidAt n m) 0 n.length
    · rw [if_pos d, decide_eq_true (p := nodeOk true n m t) (.inl ⟨rfl, c, c2, d⟩)]; rfl
    · rw [if_neg d, decide_eq_false (p := nodeOk true n m t) (fun g => by rcases g with g | g; exact d g.2.2.2; cases g.1)]; rfl
  | false =>
    refine br_f rfl ?_
    have e : w64 ((n.length : Int) + (m.length : Int)) = (n.length : Int) + (m.length : Int) := w64_id (by omega) (by omega)
    rw [e]
    by_cases c : n.length = 0 ∧ m.length = 0
    · refine br_t (beq_iff_eq.2 (by omega)) ?_
      congr 1
      exact decide_eq_decide.2 ⟨fun g => .inr ⟨rfl, c.1, c.2, by omega⟩, fun g => by rcases g with g | g; cases g.1; have := g.2.2.2; omega⟩
    · rw [decide_eq_false (p := nodeOk false n m t) (fun g => by rcases g with g | g; cases g.1; exact c ⟨g.2.1, g.2.2.1⟩)]
      exact br_f (beq_eq_false_iff_ne.2 (by omega)) rfl
theorem impl_isKid_eq (x : Int) : impl.isKid.f x = some (decide (1 ≤ x ∧ x ≤ 11)) := by
  unfold impl.isKid.f
  exact bind_t (impl_in_eq x 1 11) rfl
theorem impl_Index_l0 (m : List Int) (x : Int) (hl : m.length ≤ 1000000000000) : ∀ (f k : Nat), m.length < k + f → k ≤ m.length →
    ∃ r, slices.Index_int_int.l0.f m x f (k : Int) = some r ∧ ((allF (fun j => kid m j ≠ x) k m.length ∧ r = .inr ()) ∨ ∃ j : Nat, k ≤ j ∧ j < m.length ∧ allF (fun j => kid m j ≠ x) k j ∧ kid m j = x ∧ r = .inl (j : Int)) := by
  intro f
  induction f with
  | zero => intro k h hk; omega
  | succ f ih =>
    intro k h hk
    rw [slices.Index_int_int.l0.f]
    by_cases c : k < m.length
    · have e1 : w64 ((k : Int) + 1) = ((k + 1 : Nat) : Int) := wsucc (by omega)
      simp only [Int.toNat_natCast, e1]
      by_cases d : kid m k = x
      · exact ⟨_, br_d (by omega) (ck_t (by omega) (br_t (beq_iff_eq.2 d.symm) rfl)), .inr ⟨k, by omega, c, allF_end (by omega), d, rfl⟩⟩
      · obtain ⟨r, h1, h2⟩ := ih (k + 1) (by omega) (by omega)
        refine ⟨r, br_d (by omega) (ck_t (by omega) (br_f (beq_eq_false_iff_ne.2 (fun e => d e.symm)) h1)), ?_⟩
        rcases h2 with ⟨g, e⟩ | ⟨j, g1, g2, g3, g4, e⟩
        · exact .inl ⟨(allF_step c).2 ⟨d, g⟩, e⟩
        · exact .inr ⟨j, by omega, g2, (allF_step (by omega)).2 ⟨d, g3⟩, g4, e⟩
    · exact ⟨_, br_n (by omega) rfl, .inl ⟨allF_end (by omega), rfl⟩⟩
theorem impl_Index_first (K : Nat) (hK : 10000000000000 ≤ K) (m : List Int) (hl : m.length ≤ 1000000000000) (i : Nat) (hi : i < m.length) : ∃ r : Int, slices.Index_int_int.f K m (kid m i) = some r ∧ (r = (i : Int) ↔ allF (fun k => kid m k ≠ kid m i) 0 i) := by
  unfold slices.Index_int_int.f
  obtain ⟨r, h1, h2⟩ := impl_Index_l0 m (kid m i) hl K 0 (by omega) (by omega)
  rcases h2 with ⟨g, rfl⟩ | ⟨j, g1, g2, g3, g4, rfl⟩
  · exact absurd rfl (g i (by omega) hi)
  · refine ⟨(j : Int), bind_t h1 rfl, fun h => ?_, fun h => ?_⟩
    · have : j = i := by omega
      rw [← this]
      rw [this] at g3 ⊢
      exact g3
    · have h3 : ¬ j < i := fun q => h j (by omega) q g4
      have h4 : ¬ i < j := fun q => g3 i (by omega) q rfl
      omega
theorem impl_NodeOk_l0 (K : Nat) (hK : 10000000000000 ≤ K) (b : Bool) (n : List ByteArray) (m : List Int) (t : ByteArray) (hn : n.length ≤ 1000000000000) (hs : ∀ x ∈ n, x.size ≤ 1000000000000) (hm : n.length = m.length) : ∀ (f i : Nat), n.length < i + f → i ≤ n.length →
    impl.NodeOk.l0.f K b n m t f (i : Int) = some (if allF (kidAt n m) i n.length then .inr () else .inl ()) := by
  intro f
  induction f with
  | zero => intro i h hi; omega
  | succ f ih =>
    intro i h hi
    rw [impl.NodeOk.l0.f]
    by_cases c : i < n.length
    · have e1 : w64 ((i : Int) + 1) = ((i + 1 : Nat) : Int) := wsucc (by omega)
      have hx : (n.getD i noVal).size ≤ 1000000000000 := by rw [getD_at c]; exact hs _ (List.getElem_mem c)
      have hN := impl_NameOk_eq K hK (n.getD i noVal) hx
      have hI := impl_isKid_eq (m.getD i 0)
      obtain ⟨r, hF, hf⟩ := impl_Index_first K hK m (by omega) i (by omega)
      have hF : slices.Index_int_int.f K m (m.getD i 0) = some r := hF
      simp only [Int.toNat_natCast, e1]
      by_cases d1 : nameOk (nam n i)
      case neg =>
        rw [if_neg (fun g => d1 ((allF_step c).1 g).1.1)]
        exact br_d (by omega) (ck_t (by omega) (bind_t hN (br_n d1 rfl)))
      by_cases d3 : 0 < i → strLt (nam n (i - 1)) (nam n i) = true
      case neg =>
        rw [if_neg (fun g => d3 ((allF_step c).1 g).1.2.2.1)]
        have d0 : 0 < i := Decidable.byContradiction fun h => d3 (fun h' => absurd h' h)
        have d4 : ¬ strLt (nam n (i - 1)) (nam n i) = true := fun h => d3 (fun _ => h)
        have e2 : w64 ((i : Int) - 1) = ((i - 1 : Nat) : Int) := by rw [w64_id (by omega) (by omega)]; omega
        simp only [e2, Int.toNat_natCast]
        exact br_d (by omega) (ck_t (by omega) (bind_t hN (br_d d1 (br_d (by omega) (ck_t (by omega) (ck_t (by omega) (br_f (Bool.eq_false_iff.2 d4 : strLt (nam n (i - 1)) (nam n i) = false) rfl)))))))
      have fin : ∀ {q : Option (Unit ⊕ Unit)}, (ck ((i : Int) < (m.length : Int)) (Option.bind (impl.isKid.f (m.getD i 0)) fun x2 => cond x2 (Option.bind (slices.Index_int_int.f K m (m.getD i 0)) fun x3 => cond (x3 != (i : Int)) (some (.inl ())) (impl.NodeOk.l0.f K b n m t f ((i + 1 : Nat) : Int))) (some (.inl ()))) = q) → cond (decide ((i : Int) < (n.length : Int))) (ck (0 ≤ (i : Int)) (Option.bind (impl.NameOk.f K (n.getD i noVal)) fun x1 => cond (x1) (cond (decide ((i : Int) > 0)) (ck (0 ≤ (w64 ((i : Int) - 1))) (ck ((w64 ((i : Int) - 1)) < (n.length : Int)) (cond (strLt (n.getD ((w64 ((i : Int) - 1)).toNat) noVal) (n.getD i noVal)) (ck ((i : Int) < (m.length : Int)) (Option.bind (impl.isKid.f (m.getD i 0)) fun x2 => cond x2 (Option.bind (slices.Index_int_int.f K m (m.getD i 0)) fun x3 => cond (x3 != (i : Int)) (some (.inl ())) (impl.NodeOk.l0.f K b n m t f ((i + 1 : Nat) : Int))) (some (.inl ())))) (some (.inl ()))))) (ck ((i : Int) < (m.length : Int)) (Option.bind (impl.isKid.f (m.getD i 0)) fun x2 => cond x2 (Option.bind (slices.Index_int_int.f K m (m.getD i 0)) fun x3 => cond (x3 != (i : Int)) (some (.inl ())) (impl.NodeOk.l0.f K b n m t f ((i + 1 : Nat) : Int))) (some (.inl ()))))) (some (.inl ())))) (some (.inr ())) = q := by
        intro q hq
        by_cases d0 : 0 < i
        · have e2 : w64 ((i : Int) - 1) = ((i - 1 : Nat) : Int) := by rw [w64_id (by omega) (by omega)]; omega
          simp only [e2, Int.toNat_natCast]
          exact br_d (by omega) (ck_t (by omega) (bind_t hN (br_d d1 (br_d (by omega) (ck_t (by omega) (ck_t (by omega) (br_t (d3 d0) hq)))))))
        · exact br_d (by omega) (ck_t (by omega) (bind_t hN (br_d d1 (br_n (by omega) hq))))
      refine fin ?_
      by_cases d2 : 1 ≤ kid m i ∧ kid m i ≤ 11
      case neg =>
        rw [if_neg (fun g => d2 ((allF_step c).1 g).1.2.1)]
        exact ck_t (by omega) (bind_t hI (br_n d2 rfl))
      by_cases d5 : allF (fun k => kid m k ≠ kid m i) 0 i
      case neg =>
        rw [if_neg (fun g => d5 ((allF_step c).1 g).1.2.2.2)]
        exact ck_t (by omega) (bind_t hI (br_d d2 (bind_t hF (br_t (bne_iff_ne.2 (fun h => d5 (hf.1 h))) rfl))))
      rw [if_iff ((allF_step c).trans ⟨fun g => g.2, fun g => ⟨⟨d1, d2, d3, d5⟩, g⟩⟩)]
      exact ck_t (by omega) (bind_t hI (br_d d2 (bind_t hF (br_f (by rw [hf.2 d5]; simp) (ih (i + 1) (by omega) (by omega))))))
    · rw [if_pos (allF_end (by omega))]
      exact br_n (by omega) rfl
theorem impl_NodeOk_eq (K : Nat) (hK : 10000000000000 ≤ K) (b : Bool) (n : List ByteArray) (m : List Int) (t : ByteArray) (hn : n.length ≤ 1000000000000) (hs : ∀ x ∈ n, x.size ≤ 1000000000000) (hm : m.length ≤ 1000000000000) (ht : t.size ≤ 1000000000000) : impl.NodeOk.f K b n m t = some (decide (nodeOk b n m t)) := by
  unfold impl.NodeOk.f
  cases b with
  | true =>
    refine br_t rfl ?_
    by_cases c : n.length = m.length
    case neg =>
      rw [decide_eq_false (p := nodeOk true n m t) (fun g => by rcases g with g | g; exact c g.2.1; cases g.1)]
      exact br_t (bne_iff_ne.2 (by omega)) rfl
    refine br_f (by simp [c]) ?_
    by_cases c2 : t.size = 0
    case neg =>
      rw [decide_eq_false (p := nodeOk true n m t) (fun g => by rcases g with g | g; exact c2 g.2.2.1; cases g.1)]
      exact br_f (by rw [← Bool.not_eq_true, strEq_iff]; exact fun h => c2 (size_zero.2 h)) rfl
    refine br_t (strEq_iff.2 (size_zero.1 c2)) (bind_t (impl_NodeOk_l0 K hK true n m t hn hs c K 0 (by omega) (by omega)) ?_)
    by_cases d : allF (kidAt n m) 0 n.length
    · rw [if_pos d, decide_eq_true (p := nodeOk true n m t) (.inl ⟨rfl, c, c2, d⟩)]; rfl
    · rw [if_neg d, decide_eq_false (p := nodeOk true n m t) (fun g => by rcases g with g | g; exact d g.2.2.2; cases g.1)]; rfl
  | false =>
    refine br_f rfl ?_
    by_cases c : n.length = 0 ∧ m.length = 0
    · refine br_t (beq_iff_eq.2 (by omega)) (br_t (beq_iff_eq.2 (by omega)) ?_)
      congr 1
      exact decide_eq_decide.2 ⟨fun g => .inr ⟨rfl, c.1, c.2, by omega⟩, fun g => by rcases g with g | g; cases g.1; have := g.2.2.2; omega⟩
    · rw [decide_eq_false (p := nodeOk false n m t) (fun g => by rcases g with g | g; cases g.1; exact c ⟨g.2.1, g.2.2.1⟩)]
      by_cases c1 : n.length = 0
      · exact br_t (beq_iff_eq.2 (by omega)) (br_f (beq_eq_false_iff_ne.2 (by omega)) rfl)
      · exact br_f (beq_eq_false_iff_ne.2 (by omega)) rfl
theorem spec_NodeText_l0 (b : Bool) (n : List ByteArray) (m : List Int) (t : ByteArray) (hn : n.length ≤ 1000000000) (hm : n.length = m.length) (ha : allF (kidAt n m) 0 n.length) : ∀ (f i : Nat) (x : List Int), n.length < i + f → i ≤ n.length → x.length ≤ 1 + 8 * i →
    spec.NodeText.l0.f b n m t f (ofBytes x) (i : Int) = some (ofBytes (x ++ nodeL n m i (n.length - i))) := by
  intro f
  induction f with
  | zero => intro i x h hi; omega
  | succ f ih =>
    intro i x h hi hx
    rw [spec.NodeText.l0.f]
    by_cases c : i < n.length
    · have e1 : w64 ((i : Int) + 1) = ((i + 1 : Nat) : Int) := wsucc (by omega)
      have hk := ha i (by omega) c
      have hsz : (n.getD i noVal).size ≤ 6 := hk.1.2.2
      have e3 : ((ofBytes x ++ n.getD i noVal) ++ (ByteArray.mk #[61])) ++ (ofBytes [IntKind.u8.wrap (w64 (48 + (m.getD i 0)))]) = ofBytes (x ++ nodeE n m i) := by
        rw [show nodeE n m i = bytesL (n.getD i noVal) ++ ([61] ++ [IntKind.u8.wrap (w64 (48 + (m.getD i 0)))]) from rfl, ofBytes_append, ofBytes_append, ofBytes_append, ofBytes_bytesL, ByteArray.append_assoc, ByteArray.append_assoc]
        rfl
      have z : (ByteArray.mk #[61]).size = 1 := rfl
      simp only [Int.toNat_natCast, e1, e3]
      have hr := ih (i + 1) (x ++ nodeE n m i) (by omega) (by omega) (by have := nodeE_len (m := m) hk.1; rw [List.length_append]; omega)
      rw [show n.length - i = (n.length - (i + 1)) + 1 by omega, nodeL_succ, ← List.append_assoc]
      refine br_d (by omega) (ck_t (by omega) (ck_t ?_ (ck_t ?_ (ck_t (by omega) (ck_t ?_ hr)))))
      · rw [ofBytes_size]; omega
      · rw [ByteArray.size_append, ofBytes_size]; omega
      · rw [ByteArray.size_append, ByteArray.size_append, ofBytes_size, ofBytes_size, z]; simp only [List.length_cons, List.length_nil]; omega
    · rw [show n.length - i = 0 by omega, show nodeL n m i 0 = [] from rfl, List.append_nil]
      exact br_n (by omega) rfl
theorem impl_NodeText_l0 (b : Bool) (n : List ByteArray) (m : List Int) (t : ByteArray) (hn : n.length ≤ 1000000000) (hm : n.length = m.length) (ha : allF (kidAt n m) 0 n.length) : ∀ (f i : Nat) (x : List Int), n.length < i + f → i ≤ n.length → x.length ≤ 1 + 8 * i →
    impl.NodeText.l0.f b n m t f x (i : Int) = some (x ++ nodeL n m i (n.length - i)) := by
  intro f
  induction f with
  | zero => intro i x h hi; omega
  | succ f ih =>
    intro i x h hi hx
    rw [impl.NodeText.l0.f]
    by_cases c : i < n.length
    · have e1 : w64 ((i : Int) + 1) = ((i + 1 : Nat) : Int) := wsucc (by omega)
      have hk := ha i (by omega) c
      have hsz : (n.getD i noVal).size ≤ 6 := hk.1.2.2
      have e3 : (x ++ bytesL (n.getD i noVal)) ++ [61, IntKind.u8.wrap (w64 (48 + (m.getD i 0)))] = x ++ nodeE n m i := by
        rw [List.append_assoc]; rfl
      have hl := nodeE_len (m := m) hk.1
      simp only [Int.toNat_natCast, e1, e3]
      have hr := ih (i + 1) (x ++ nodeE n m i) (by omega) (by omega) (by rw [List.length_append]; omega)
      rw [show n.length - i = (n.length - (i + 1)) + 1 by omega, nodeL_succ, ← List.append_assoc]
      refine br_d (by omega) (ck_t (by omega) (ck_t ?_ (ck_t (by omega) (ck_t ?_ hr))))
      · rw [List.length_append, bytesL_len]; omega
      · rw [List.length_append]; omega
    · rw [show n.length - i = 0 by omega, show nodeL n m i 0 = [] from rfl, List.append_nil]
      exact br_n (by omega) rfl
theorem nodeOk_dir {n : List ByteArray} {m : List Int} {t : ByteArray} (h : nodeOk true n m t) : n.length = m.length ∧ allF (kidAt n m) 0 n.length := by
  rcases h with h | h
  · exact ⟨h.2.1, h.2.2.2⟩
  · cases h.1
theorem spec_NodeText_eq (K : Nat) (hK : 10000000000000 ≤ K) (b : Bool) (n : List ByteArray) (m : List Int) (t : ByteArray) (hn : n.length ≤ 1000000000) (hs : ∀ x ∈ n, x.size ≤ 1000000000000) (hm : m.length ≤ 1000000000000) (ht : t.size ≤ 1000000000000) : spec.NodeText.f K b n m t = some (nodeT b n m t) := by
  unfold spec.NodeText.f nodeT
  refine bind_t (spec_NodeOk_eq K hK b n m t (by omega) hs hm ht) ?_
  by_cases c : nodeOk b n m t
  case neg => rw [if_neg c]; exact br_n c rfl
  rw [if_pos c]
  refine br_d c ?_
  cases b with
  | true =>
    obtain ⟨h1, h2⟩ := nodeOk_dir c
    exact br_t rfl (bind_t (spec_NodeText_l0 true n m t hn h1 h2 K 0 [100] (by omega) (by omega) (by simp)) rfl)
  | false => exact br_f rfl (ck_t (by rw [show (ByteArray.mk #[102]).size = 1 from rfl]; omega) rfl)
theorem impl_NodeText_eq (K : Nat) (hK : 10000000000000 ≤ K) (b : Bool) (n : List ByteArray) (m : List Int) (t : ByteArray) (hn : n.length ≤ 1000000000) (hs : ∀ x ∈ n, x.size ≤ 1000000000000) (hm : m.length ≤ 1000000000000) (ht : t.size ≤ 1000000000000) : impl.NodeText.f K b n m t = some (nodeT b n m t) := by
  unfold impl.NodeText.f nodeT
  refine bind_t (impl_NodeOk_eq K hK b n m t (by omega) hs hm ht) ?_
  by_cases c : nodeOk b n m t
  case neg => rw [if_neg c]; exact br_n c rfl
  rw [if_pos c]
  refine br_d c ?_
  cases b with
  | true =>
    obtain ⟨h1, h2⟩ := nodeOk_dir c
    exact br_t rfl (bind_t (impl_NodeText_l0 true n m t hn h1 h2 K 0 [100] (by omega) (by omega) (by simp)) rfl)
  | false => exact br_f rfl (ck_t (by rw [show (ByteArray.mk #[102]).size = 1 from rfl]; omega) rfl)
theorem NodeRead_l0 (s : ByteArray) (hs : s.size ≤ 1000000000000) : ∀ (f g i fr : Nat) (v : List ByteArray) (m : List Int), s.size < i + f → s.size + 1 < i + g → i ≤ s.size → fr ≤ i → v.length ≤ i → m.length ≤ i → (∀ x ∈ v, x.size ≤ s.size) →
    ∃ r, spec.NodeRead.l0.f s f v m (fr : Int) (i : Int) = some r ∧ impl.NodeRead.l0.f s g v m (fr : Int) (i : Int) = some r ∧ r.1.length ≤ s.size ∧ r.2.length ≤ s.size ∧ ∀ x ∈ r.1, x.size ≤ s.size := by
  intro f
  induction f with
  | zero => intro g i fr v m h hg hi; omega
  | succ f ih =>
    intro g i fr v m h hg hi hfr hv hm hx
    obtain ⟨g, rfl⟩ := Nat.exists_eq_add_one_of_ne_zero (by omega : g ≠ 0)
    rw [spec.NodeRead.l0.f, impl.NodeRead.l0.f]
    have e1 : w64 ((i : Int) + 1) = ((i + 1 : Nat) : Int) := wsucc (by omega)
    have e2 : w64 ((i : Int) + 2) = ((i + 2 : Nat) : Int) := by rw [w64_id (by omega) (by omega)]; omega
    have e3 : w64 (((i + 1 : Nat) : Int) + 1) = ((i + 2 : Nat) : Int) := by rw [w64_id (by omega) (by omega)]; omega
    by_cases c : i + 1 < s.size
    · simp only [e1, e2, e3, Int.toNat_natCast]
      by_cases d : byteAt s (i : Int) = 61
      · have hxs : ∀ x ∈ v ++ [s.extract fr i], x.size ≤ s.size := by
          intro x hx'
          rcases List.mem_append.1 hx' with h' | h'
          · exact hx x h'
          · rw [List.mem_singleton.1 h', ByteArray.size_extract]; omega
        obtain ⟨r, r1, r2, r3⟩ := ih g (i + 2) (i + 2) (v ++ [s.extract fr i]) (m ++ [w64 ((w64 (byteAt s ((i + 1 : Nat) : Int))) - 48)]) (by omega) (by omega) (by omega) (by omega) (by simp; omega) (by simp; omega) hxs
        refine ⟨r, br_d (by omega) (ck_t (by omega) (ck_t (by omega) (br_t (beq_iff_eq.2 d) (ck_t (by omega) (ck_t (by omega) (ck_t (by omega) (ck_t (by simp; omega) (ck_t (by omega) (ck_t (by simp; omega) r1))))))))), br_d (by omega) (ck_t (by omega) (br_t (beq_iff_eq.2 d) (br_d (by omega) (ck_t (by omega) (ck_t (by omega) (ck_t (by omega) (ck_t (by simp; omega) (ck_t (by omega) (ck_t (by simp; omega) r2))))))))), r3⟩
      · obtain ⟨r, r1, r2, r3⟩ := ih g (i + 1) fr v m (by omega) (by omega) (by omega) (by omega) (by omega) (by omega) hx
        exact ⟨r, br_d (by omega) (ck_t (by omega) (ck_t (by omega) (br_f (beq_eq_false_iff_ne.2 d) r1))), br_d (by omega) (ck_t (by omega) (br_f (beq_eq_false_iff_ne.2 d) r2)), r3⟩
    · refine ⟨(v, m), br_n (by omega) rfl, ?_, by simp only; omega, by simp only; omega, hx⟩
      by_cases c2 : i < s.size
      · have nxt : impl.NodeRead.l0.f s g v m (fr : Int) ((i + 1 : Nat) : Int) = some (v, m) := by
          obtain ⟨g, rfl⟩ := Nat.exists_eq_add_one_of_ne_zero (by omega : g ≠ 0)
          rw [impl.NodeRead.l0.f]
          exact br_n (by omega) rfl
        simp only [e1]
        by_cases d : byteAt s (i : Int) = 61
        · exact br_d (by omega) (ck_t (by omega) (br_t (beq_iff_eq.2 d) (br_n (by omega) nxt)))
        · exact br_d (by omega) (ck_t (by omega) (br_f (beq_eq_false_iff_ne.2 d) nxt))
      · exact br_n (by omega) rfl
theorem nodeT_head (n : List ByteArray) (m : List Int) (t : ByteArray) (h : nodeT true n m t ≠ noVal) : byteAt (nodeT true n m t) 0 = 100 := by
  unfold nodeT at h ⊢
  by_cases c : nodeOk true n m t
  · rw [if_pos c]; rfl
  · rw [if_neg c] at h; exact absurd rfl h
theorem NodeRead_eq (K : Nat) (hK : 10000000000000 ≤ K) (s : ByteArray) (hs : s.size ≤ 1000000000) : ∃ x, spec.NodeRead.f K s = some x ∧ impl.NodeRead.f K s = some x ∧ x.2.1.length ≤ s.size ∧ x.2.2.1.length ≤ s.size := by
  unfold spec.NodeRead.f impl.NodeRead.f
  by_cases c0 : s = noVal
  · exact ⟨_, br_t (strEq_iff.2 c0) rfl, br_t (strEq_iff.2 c0) rfl, by simp, by simp⟩
  have n0 : strEq s noVal = false := by rw [← Bool.not_eq_true, strEq_iff]; exact c0
  have hp : s.size ≠ 0 := fun h => c0 (size_zero.1 h)
  by_cases c1 : byteAt s 0 = 102
  · have hz : (s.extract 1 s.size).size ≤ 1000000000000 := by rw [ByteArray.size_extract]; omega
    have h1 := spec_NodeText_eq K hK false [] [] (s.extract 1 s.size) (by simp) (by simp) (by simp) hz
    have h2 := impl_NodeText_eq K hK false [] [] (s.extract 1 s.size) (by simp) (by simp) (by simp) hz
    cases h : strEq (nodeT false [] [] (s.extract 1 s.size)) s with
    | true => exact ⟨_, br_f n0 (ck_t (by omega) (br_t (beq_iff_eq.2 c1) (ck_t (by omega) (bind_t h1 (br_t h rfl))))), br_f n0 (ck_t (by omega) (br_t (beq_iff_eq.2 c1) (ck_t (by omega) (bind_t h2 (br_t h rfl))))), by simp, by simp⟩
    | false => exact ⟨_, br_f n0 (ck_t (by omega) (br_t (beq_iff_eq.2 c1) (ck_t (by omega) (bind_t h1 (br_f h rfl))))), br_f n0 (ck_t (by omega) (br_t (beq_iff_eq.2 c1) (ck_t (by omega) (bind_t h2 (br_f h rfl))))), by simp, by simp⟩
  have n1 : (byteAt s 0 == 102) = false := beq_eq_false_iff_ne.2 c1
  obtain ⟨r, r1, r2, r3, r4, r5⟩ := NodeRead_l0 s (by omega) K K 1 1 [] [] (by omega) (by omega) (by omega) (by omega) (by simp) (by simp) (by simp)
  have r1 : spec.NodeRead.l0.f s K [] [] 1 1 = some r := r1
  have r2 : impl.NodeRead.l0.f s K [] [] 1 1 = some r := r2
  have h1 := spec_NodeText_eq K hK true r.1 r.2 noVal (by omega) (fun x hx => by have := r5 x hx; omega) (by omega) (by decide)
  have h2 := impl_NodeText_eq K hK true r.1 r.2 noVal (by omega) (fun x hx => by have := r5 x hx; omega) (by omega) (by decide)
  by_cases c2 : byteAt s 0 = 100
  · cases h : strEq (nodeT true r.1 r.2 noVal) s with
    | true => exact ⟨_, br_f n0 (ck_t (by omega) (br_f n1 (bind_t r1 (bind_t h1 (br_t h rfl))))), br_f n0 (ck_t (by omega) (br_f n1 (br_t (beq_iff_eq.2 c2) (bind_t r2 (bind_t h2 (br_t h rfl)))))), r3, r4⟩
    | false => exact ⟨_, br_f n0 (ck_t (by omega) (br_f n1 (bind_t r1 (bind_t h1 (br_f h rfl))))), br_f n0 (ck_t (by omega) (br_f n1 (br_t (beq_iff_eq.2 c2) (bind_t r2 (bind_t h2 (br_f h rfl)))))), by simp, by simp⟩
  · have n2 : (byteAt s 0 == 100) = false := beq_eq_false_iff_ne.2 c2
    have h3 := impl_NodeText_eq K hK false [] [] noVal (by simp) (by simp) (by simp) (by decide)
    have f1 : strEq (nodeT true r.1 r.2 noVal) s = false := by
      rw [← Bool.not_eq_true, strEq_iff]
      intro e
      refine c2 ?_
      rw [← e]
      exact nodeT_head _ _ _ (by rw [e]; exact c0)
    have f2 : strEq (nodeT false [] [] noVal) s = false := by
      rw [← Bool.not_eq_true, strEq_iff]
      intro e
      refine c1 ?_
      rw [← e]
      unfold nodeT
      rw [if_pos (.inr ⟨rfl, rfl, rfl, by decide⟩)]
      rfl
    exact ⟨_, br_f n0 (ck_t (by omega) (br_f n1 (bind_t r1 (bind_t h1 (br_f f1 rfl))))), br_f n0 (ck_t (by omega) (br_f n1 (br_f n2 (bind_t h3 (br_f f2 rfl))))), by simp, by simp⟩
theorem kids_of {n : List ByteArray} {m : List Int} {t : ByteArray} (h : nodeT true n m t ≠ noVal) : ∀ y ∈ m, 1 ≤ y ∧ y ≤ 11 := by
  by_cases c : nodeOk true n m t
  · obtain ⟨h1, h2⟩ := nodeOk_dir c
    intro y hy
    obtain ⟨j, hj, rfl⟩ := List.mem_iff_getElem.1 hy
    have := (h2 j (by omega) (by omega)).2.1
    unfold kid at this
    rw [getD_at hj] at this
    exact this
  · unfold nodeT at h
    rw [if_neg c] at h
    exact absurd rfl h
theorem NodeRead_eq3 (K : Nat) (hK : 10000000000000 ≤ K) (s : ByteArray) (hs : s.size ≤ 1000000000) : ∃ x, spec.NodeRead.f K s = some x ∧ impl.NodeRead.f K s = some x ∧ x.2.1.length ≤ s.size ∧ x.2.2.1.length ≤ s.size ∧ (x.2.2.2.2 = true → impl.NodeText.f K x.1 x.2.1 x.2.2.1 x.2.2.2.1 = some s) ∧ (x.2.2.2.2 = false → x.1 = false ∧ x.2.2.2.1 = noVal) ∧ (x.2.2.2.2 = true → ∀ y ∈ x.2.2.1, 1 ≤ y ∧ y ≤ 11) := by
  unfold spec.NodeRead.f impl.NodeRead.f
  by_cases c0 : s = noVal
  · exact ⟨_, br_t (strEq_iff.2 c0) rfl, br_t (strEq_iff.2 c0) rfl, by simp, by simp, (by intro g; cases g), fun _ => ⟨rfl, rfl⟩, (by intro g; cases g)⟩
  have n0 : strEq s noVal = false := by rw [← Bool.not_eq_true, strEq_iff]; exact c0
  have hp : s.size ≠ 0 := fun h => c0 (size_zero.1 h)
  by_cases c1 : byteAt s 0 = 102
  · have hz : (s.extract 1 s.size).size ≤ 1000000000000 := by rw [ByteArray.size_extract]; omega
    have h1 := spec_NodeText_eq K hK false [] [] (s.extract 1 s.size) (by simp) (by simp) (by simp) hz
    have h2 := impl_NodeText_eq K hK false [] [] (s.extract 1 s.size) (by simp) (by simp) (by simp) hz
    cases h : strEq (nodeT false [] [] (s.extract 1 s.size)) s with
    | true => exact ⟨_, br_f n0 (ck_t (by omega) (br_t (beq_iff_eq.2 c1) (ck_t (by omega) (bind_t h1 (br_t h rfl))))), br_f n0 (ck_t (by omega) (br_t (beq_iff_eq.2 c1) (ck_t (by omega) (bind_t h2 (br_t h rfl))))), by simp, by simp, fun _ => by rw [h2, strEq_iff.1 h], (by intro g; cases g), fun _ y hy => by simp at hy⟩
    | false => exact ⟨_, br_f n0 (ck_t (by omega) (br_t (beq_iff_eq.2 c1) (ck_t (by omega) (bind_t h1 (br_f h rfl))))), br_f n0 (ck_t (by omega) (br_t (beq_iff_eq.2 c1) (ck_t (by omega) (bind_t h2 (br_f h rfl))))), by simp, by simp, (by intro g; cases g), fun _ => ⟨rfl, rfl⟩, (by intro g; cases g)⟩
  have n1 : (byteAt s 0 == 102) = false := beq_eq_false_iff_ne.2 c1
  obtain ⟨r, r1, r2, r3, r4, r5⟩ := NodeRead_l0 s (by omega) K K 1 1 [] [] (by omega) (by omega) (by omega) (by omega) (by simp) (by simp) (by simp)
  have r1 : spec.NodeRead.l0.f s K [] [] 1 1 = some r := r1
  have r2 : impl.NodeRead.l0.f s K [] [] 1 1 = some r := r2
  have h1 := spec_NodeText_eq K hK true r.1 r.2 noVal (by omega) (fun x hx => by have := r5 x hx; omega) (by omega) (by decide)
  have h2 := impl_NodeText_eq K hK true r.1 r.2 noVal (by omega) (fun x hx => by have := r5 x hx; omega) (by omega) (by decide)
  by_cases c2 : byteAt s 0 = 100
  · cases h : strEq (nodeT true r.1 r.2 noVal) s with
    | true => exact ⟨_, br_f n0 (ck_t (by omega) (br_f n1 (bind_t r1 (bind_t h1 (br_t h rfl))))), br_f n0 (ck_t (by omega) (br_f n1 (br_t (beq_iff_eq.2 c2) (bind_t r2 (bind_t h2 (br_t h rfl)))))), r3, r4, fun _ => by rw [h2, strEq_iff.1 h], (by intro g; cases g), fun _ => kids_of (by rw [strEq_iff.1 h]; exact c0)⟩
    | false => exact ⟨_, br_f n0 (ck_t (by omega) (br_f n1 (bind_t r1 (bind_t h1 (br_f h rfl))))), br_f n0 (ck_t (by omega) (br_f n1 (br_t (beq_iff_eq.2 c2) (bind_t r2 (bind_t h2 (br_f h rfl)))))), by simp, by simp, (by intro g; cases g), fun _ => ⟨rfl, rfl⟩, (by intro g; cases g)⟩
  · have n2 : (byteAt s 0 == 100) = false := beq_eq_false_iff_ne.2 c2
    have h3 := impl_NodeText_eq K hK false [] [] noVal (by simp) (by simp) (by simp) (by decide)
    have f1 : strEq (nodeT true r.1 r.2 noVal) s = false := by
      rw [← Bool.not_eq_true, strEq_iff]
      intro e
      refine c2 ?_
      rw [← e]
      exact nodeT_head _ _ _ (by rw [e]; exact c0)
    have f2 : strEq (nodeT false [] [] noVal) s = false := by
      rw [← Bool.not_eq_true, strEq_iff]
      intro e
      refine c1 ?_
      rw [← e]
      unfold nodeT
      rw [if_pos (.inr ⟨rfl, rfl, rfl, by decide⟩)]
      rfl
    exact ⟨_, br_f n0 (ck_t (by omega) (br_f n1 (bind_t r1 (bind_t h1 (br_f f1 rfl))))), br_f n0 (ck_t (by omega) (br_f n1 (br_f n2 (bind_t h3 (br_f f2 rfl))))), by simp, by simp, (by intro g; cases g), fun _ => ⟨rfl, rfl⟩, (by intro g; cases g)⟩
def GoR (p q : Option (Bool × List Bool)) : Prop := (∃ m1 m2, p = some (false, m1) ∧ q = some (false, m2)) ∨ ∃ m, p = some (true, m) ∧ q = some (true, m) ∧ m.length = 12
structure Nds (a : List ByteArray) : Prop where
  len : a.length = 12
  szs : ∀ x ∈ a, x.size ≤ 1048576
theorem node_at {a : List ByteArray} (h : Nds a) (K : Nat) (hK : 10000000000000 ≤ K) (k : Nat) (hk : k < 12) : ∃ x, spec.NodeRead.f K (a.getD k noVal) = some x ∧ impl.NodeRead.f K (a.getD k noVal) = some x ∧ x.2.2.1.length ≤ 1048576 ∧ (x.2.2.2.2 = true → ∀ y ∈ x.2.2.1, 1 ≤ y ∧ y ≤ 11) := by
  have hl := h.len
  have hs : (a.getD k noVal).size ≤ 1048576 := by rw [getD_at (by omega)]; exact h.szs _ (List.getElem_mem _)
  obtain ⟨x, h1, h2, _, h4, _, _, h7⟩ := NodeRead_eq3 K hK (a.getD k noVal) (by omega)
  exact ⟨x, h1, h2, by omega, h7⟩
theorem go_0 {a : List ByteArray} (h : Nds a) (K : Nat) (hK : 10000000000000 ≤ K) (met : List Bool) (hm : met.length = 12) (A2 : Nat) (hA : A2 = 12) (k : Int) (h1 : 1 ≤ k) (h2 : k ≤ 11) : spec.l9Go.f a met k = some () ∧ impl.goer.from_.f K a met A2 k = some () := by
  unfold spec.l9Go.f impl.goer.from_.f
  have hl := h.len
  obtain ⟨x, n1, n2, _⟩ := node_at h K hK k.toNat (by omega)
  refine ⟨ck_t (by omega) (ck_t (by omega) ?_), ck_t (by omega) (ck_t (by omega) (bind_t n2 ?_))⟩
  · cases met.getD k.toNat false <;> rfl
  · cases x.2.2.2.2
    · rfl
    · refine br_t rfl (ck_t (by omega) (ck_t (by omega) ?_))
      cases met.getD k.toNat false <;> rfl
theorem GO_1 {a : List ByteArray} (h : Nds a) (K : Nat) (hK : 10000000000000 ≤ K) (met : List Bool) (hm : met.length = 12) (A2 : Nat) (hA : A2 = 12) (k : Int) (h1 : 1 ≤ k) (h2 : k ≤ 11) : GoR (spec.l9Go_1.f K a met k) (impl.goer.from__1.f K a met A2 k) := by
  unfold spec.l9Go_1.f impl.goer.from__1.f
  have hl := h.len
  have hms : (met.set k.toNat true).length = 12 := by rw [List.length_set]; exact hm
  obtain ⟨x, n1, n2, n3, n4⟩ := node_at h K hK k.toNat (by omega)
  have k0 : (k == 0) = false := by rw [beq_eq_false_iff_ne]; omega
  obtain ⟨K', rfl⟩ := Nat.exists_eq_add_one_of_ne_zero (by omega : K ≠ 0)
  cases hx : x.2.2.2.2 with
  | false =>
    refine .inl ?_
    cases hg : met.getD k.toNat false with
    | true => exact ⟨_, _, ck_t (by omega) (ck_t (by omega) (br_t rfl rfl)), ck_t (by omega) (ck_t (by omega) (bind_t n2 (br_f hx rfl)))⟩
    | false => exact ⟨_, _, ck_t (by omega) (ck_t (by omega) (br_f rfl (ck_t (by omega) (bind_t n1 (br_f hx rfl))))), ck_t (by omega) (ck_t (by omega) (bind_t n2 (br_f hx rfl)))⟩
  | true =>
    cases hg : met.getD k.toNat false with
    | true => exact .inl ⟨_, _, ck_t (by omega) (ck_t (by omega) (br_t rfl rfl)), ck_t (by omega) (ck_t (by omega) (bind_t n2 (br_t hx (ck_t (by omega) (ck_t (by omega) (br_t rfl rfl))))))⟩
    | false =>
      by_cases c : 0 < x.2.2.1.length
      · have hy := n4 hx (x.2.2.1.getD 0 0) (by rw [getD_at c]; exact List.getElem_mem _)
        have g0 := go_0 h (K' + 1) hK (met.set k.toNat true) hms A2 hA _ hy.1 hy.2
        have e1 : spec.l9Go_1.l0.f a met k (K' + 1) x.1 x.2.1 x.2.2.1 x.2.2.2.1 = some (.inl ()) := by
          rw [spec.l9Go_1.l0.f]
          exact br_d (by omega) (ck_t c (bind_t g0.1 rfl))
        have e2 : impl.goer.from__1.l0.f (K' + 1) a met A2 k (K' + 1) x.2.2.1 (x.2.2.1.length : Int) = some (.inl ()) := by
          rw [impl.goer.from__1.l0.f]
          exact br_d (by omega) (ck_t (by omega) (ck_t c (bind_t g0.2 rfl)))
        exact .inl ⟨_, _, ck_t (by omega) (ck_t (by omega) (br_f rfl (ck_t (by omega) (bind_t n1 (br_t hx (bind_t e1 rfl)))))), ck_t (by omega) (ck_t (by omega) (bind_t n2 (br_t hx (ck_t (by omega) (ck_t (by omega) (br_f rfl (br_f k0 (bind_t e2 rfl))))))))⟩
      · have e1 : spec.l9Go_1.l0.f a met k (K' + 1) x.1 x.2.1 x.2.2.1 x.2.2.2.1 = some (.inr ()) := by
          rw [spec.l9Go_1.l0.f]
          exact br_n (by omega) rfl
        have e2 : impl.goer.from__1.l0.f (K' + 1) a met A2 k (K' + 1) x.2.2.1 (x.2.2.1.length : Int) = some (.inr ()) := by
          rw [impl.goer.from__1.l0.f]
          exact br_n (by omega) rfl
        exact .inr ⟨_, ck_t (by omega) (ck_t (by omega) (br_f rfl (ck_t (by omega) (bind_t n1 (br_t hx (bind_t e1 rfl)))))), ck_t (by omega) (ck_t (by omega) (bind_t n2 (br_t hx (ck_t (by omega) (ck_t (by omega) (br_f rfl (br_f k0 (bind_t e2 rfl)))))))), hms⟩
theorem go_l2 {a : List ByteArray} (h : Nds a) (K : Nat) (hK : 10000000000000 ≤ K) (A2 N : Nat) (hA : A2 = 12) (hN : N = 12) (kids : List Int) (hk : ∀ y ∈ kids, 1 ≤ y ∧ y ≤ 11) (hl : kids.length ≤ 1048576) (b : Bool) (nm : List ByteArray) (t : ByteArray) : ∀ (f g i : Nat) (met : List Bool), kids.length < i + f → kids.length < i + g → i ≤ kids.length → met.length = 12 →
    (∃ m1 m2, spec.l9Go_2.l0.f K a f met N b nm kids t (i : Int) = some (.inl m1) ∧ impl.goer.from__2.l0.f K a A2 g met kids (kids.length : Int) (i : Int) = some (.inl m2)) ∨ ∃ m, spec.l9Go_2.l0.f K a f met N b nm kids t (i : Int) = some (.inr m) ∧ impl.goer.from__2.l0.f K a A2 g met kids (kids.length : Int) (i : Int) = some (.inr m) ∧ m.length = 12 := by
  intro f
  induction f with
  | zero => intro g i met h1 h2 hi; omega
  | succ f ih =>
    intro g i met h1 h2 hi hm
    obtain ⟨g, rfl⟩ := Nat.exists_eq_add_one_of_ne_zero (by omega : g ≠ 0)
    rw [spec.l9Go_2.l0.f, impl.goer.from__2.l0.f]
    by_cases c : i < kids.length
    · have e3 : kids.getD i 0 = kids[i] := getD_at c 0
      have hy := hk kids[i] (List.getElem_mem c)
      have e1 : w64 ((i : Int) + 1) = ((i + 1 : Nat) : Int) := wsucc (by omega)
      simp only [e1, e3, Int.toNat_natCast]
      rcases GO_1 h K hK met hm A2 hA kids[i] hy.1 hy.2 with ⟨m1, m2, g1, g2⟩ | ⟨m, g1, g2, g3⟩
      · exact .inl ⟨m1, m2, br_d (by omega) (ck_t (by omega) (ck_t (by omega) (bind_t g1 (br_f rfl rfl)))), br_d (by omega) (ck_t (by omega) (ck_t (by omega) (bind_t g2 (br_f rfl rfl))))⟩
      · rcases ih g (i + 1) m (by omega) (by omega) (by omega) g3 with ⟨m1, m2, q1, q2⟩ | ⟨m', q1, q2, q3⟩
        · exact .inl ⟨m1, m2, br_d (by omega) (ck_t (by omega) (ck_t (by omega) (bind_t g1 (br_t rfl q1)))), br_d (by omega) (ck_t (by omega) (ck_t (by omega) (bind_t g2 (br_t rfl q2))))⟩
        · exact .inr ⟨m', br_d (by omega) (ck_t (by omega) (ck_t (by omega) (bind_t g1 (br_t rfl q1)))), br_d (by omega) (ck_t (by omega) (ck_t (by omega) (bind_t g2 (br_t rfl q2)))), q3⟩
    · exact .inr ⟨met, br_n (by omega) rfl, br_n (by omega) rfl, hm⟩
theorem GO_2 {a : List ByteArray} (h : Nds a) (K : Nat) (hK : 10000000000000 ≤ K) (met : List Bool) (hm : met.length = 12) (A2 : Nat) (hA : A2 = 12) (k : Int) (h1 : 1 ≤ k) (h2 : k ≤ 11) : GoR (spec.l9Go_2.f K a met k) (impl.goer.from__2.f K a met A2 k) := by
  unfold spec.l9Go_2.f impl.goer.from__2.f
  have hl := h.len
  have hms : (met.set k.toNat true).length = 12 := by rw [List.length_set]; exact hm
  obtain ⟨x, n1, n2, n3, n4⟩ := node_at h K hK k.toNat (by omega)
  have k0 : (k == 0) = false := by rw [beq_eq_false_iff_ne]; omega
  cases hx : x.2.2.2.2 with
  | false =>
    refine .inl ?_
    cases hg : met.getD k.toNat false with
    | true => exact ⟨_, _, ck_t (by omega) (ck_t (by omega) (br_t rfl rfl)), ck_t (by omega) (ck_t (by omega) (bind_t n2 (br_f hx rfl)))⟩
    | false => exact ⟨_, _, ck_t (by omega) (ck_t (by omega) (br_f rfl (ck_t (by omega) (bind_t n1 (br_f hx rfl))))), ck_t (by omega) (ck_t (by omega) (bind_t n2 (br_f hx rfl)))⟩
  | true =>
    cases hg : met.getD k.toNat false with
    | true => exact .inl ⟨_, _, ck_t (by omega) (ck_t (by omega) (br_t rfl rfl)), ck_t (by omega) (ck_t (by omega) (bind_t n2 (br_t hx (ck_t (by omega) (ck_t (by omega) (br_t rfl rfl))))))⟩
    | false =>
      rcases go_l2 h K hK A2 (met.set k.toNat true).length hA hms x.2.2.1 (n4 hx) n3 x.1 x.2.1 x.2.2.2.1 K K 0 (met.set k.toNat true) (by omega) (by omega) (by omega) hms with ⟨m1, m2, q1, q2⟩ | ⟨m, q1, q2, q3⟩
      · exact .inl ⟨_, _, ck_t (by omega) (ck_t (by omega) (br_f rfl (ck_t (by omega) (bind_t n1 (br_t hx (bind_t q1 rfl)))))), ck_t (by omega) (ck_t (by omega) (bind_t n2 (br_t hx (ck_t (by omega) (ck_t (by omega) (br_f rfl (br_f k0 (bind_t q2 rfl))))))))⟩
      · exact .inr ⟨_, ck_t (by omega) (ck_t (by omega) (br_f rfl (ck_t (by omega) (bind_t n1 (br_t hx (bind_t q1 rfl)))))), ck_t (by omega) (ck_t (by omega) (bind_t n2 (br_t hx (ck_t (by omega) (ck_t (by omega) (br_f rfl (br_f k0 (bind_t q2 rfl)))))))), q3⟩
theorem go_l3 {a : List ByteArray} (h : Nds a) (K : Nat) (hK : 10000000000000 ≤ K) (A2 N : Nat) (hA : A2 = 12) (hN : N = 12) (kids : List Int) (hk : ∀ y ∈ kids, 1 ≤ y ∧ y ≤ 11) (hl : kids.length ≤ 1048576) (b : Bool) (nm : List ByteArray) (t : ByteArray) : ∀ (f g i : Nat) (met : List Bool), kids.length < i + f → kids.length < i + g → i ≤ kids.length → met.length = 12 →
    (∃ m1 m2, spec.l9Go_3.l0.f K a f met N b nm kids t (i : Int) = some (.inl m1) ∧ impl.goer.from__3.l0.f K a A2 g met kids (kids.length : Int) (i : Int) = some (.inl m2)) ∨ ∃ m, spec.l9Go_3.l0.f K a f met N b nm kids t (i : Int) = some (.inr m) ∧ impl.goer.from__3.l0.f K a A2 g met kids (kids.length : Int) (i : Int) = some (.inr m) ∧ m.length = 12 := by
  intro f
  induction f with
  | zero => intro g i met h1 h2 hi; omega
  | succ f ih =>
    intro g i met h1 h2 hi hm
    obtain ⟨g, rfl⟩ := Nat.exists_eq_add_one_of_ne_zero (by omega : g ≠ 0)
    rw [spec.l9Go_3.l0.f, impl.goer.from__3.l0.f]
    by_cases c : i < kids.length
    · have e3 : kids.getD i 0 = kids[i] := getD_at c 0
      have hy := hk kids[i] (List.getElem_mem c)
      have e1 : w64 ((i : Int) + 1) = ((i + 1 : Nat) : Int) := wsucc (by omega)
      simp only [e1, e3, Int.toNat_natCast]
      rcases GO_2 h K hK met hm A2 hA kids[i] hy.1 hy.2 with ⟨m1, m2, g1, g2⟩ | ⟨m, g1, g2, g3⟩
      · exact .inl ⟨m1, m2, br_d (by omega) (ck_t (by omega) (ck_t (by omega) (bind_t g1 (br_f rfl rfl)))), br_d (by omega) (ck_t (by omega) (ck_t (by omega) (bind_t g2 (br_f rfl rfl))))⟩
      · rcases ih g (i + 1) m (by omega) (by omega) (by omega) g3 with ⟨m1, m2, q1, q2⟩ | ⟨m', q1, q2, q3⟩
        · exact .inl ⟨m1, m2, br_d (by omega) (ck_t (by omega) (ck_t (by omega) (bind_t g1 (br_t rfl q1)))), br_d (by omega) (ck_t (by omega) (ck_t (by omega) (bind_t g2 (br_t rfl q2))))⟩
        · exact .inr ⟨m', br_d (by omega) (ck_t (by omega) (ck_t (by omega) (bind_t g1 (br_t rfl q1)))), br_d (by omega) (ck_t (by omega) (ck_t (by omega) (bind_t g2 (br_t rfl q2)))), q3⟩
    · exact .inr ⟨met, br_n (by omega) rfl, br_n (by omega) rfl, hm⟩
theorem GO_3 {a : List ByteArray} (h : Nds a) (K : Nat) (hK : 10000000000000 ≤ K) (met : List Bool) (hm : met.length = 12) (A2 : Nat) (hA : A2 = 12) (k : Int) (h1 : 1 ≤ k) (h2 : k ≤ 11) : GoR (spec.l9Go_3.f K a met k) (impl.goer.from__3.f K a met A2 k) := by
  unfold spec.l9Go_3.f impl.goer.from__3.f
  have hl := h.len
  have hms : (met.set k.toNat true).length = 12 := by rw [List.length_set]; exact hm
  obtain ⟨x, n1, n2, n3, n4⟩ := node_at h K hK k.toNat (by omega)
  have k0 : (k == 0) = false := by rw [beq_eq_false_iff_ne]; omega
  cases hx : x.2.2.2.2 with
  | false =>
    refine .inl ?_
    cases hg : met.getD k.toNat false with
    | true => exact ⟨_, _, ck_t (by omega) (ck_t (by omega) (br_t rfl rfl)), ck_t (by omega) (ck_t (by omega) (bind_t n2 (br_f hx rfl)))⟩
    | false => exact ⟨_, _, ck_t (by omega) (ck_t (by omega) (br_f rfl (ck_t (by omega) (bind_t n1 (br_f hx rfl))))), ck_t (by omega) (ck_t (by omega) (bind_t n2 (br_f hx rfl)))⟩
  | true =>
    cases hg : met.getD k.toNat false with
    | true => exact .inl ⟨_, _, ck_t (by omega) (ck_t (by omega) (br_t rfl rfl)), ck_t (by omega) (ck_t (by omega) (bind_t n2 (br_t hx (ck_t (by omega) (ck_t (by omega) (br_t rfl rfl))))))⟩
    | false =>
      rcases go_l3 h K hK A2 (met.set k.toNat true).length hA hms x.2.2.1 (n4 hx) n3 x.1 x.2.1 x.2.2.2.1 K K 0 (met.set k.toNat true) (by omega) (by omega) (by omega) hms with ⟨m1, m2, q1, q2⟩ | ⟨m, q1, q2, q3⟩
      · exact .inl ⟨_, _, ck_t (by omega) (ck_t (by omega) (br_f rfl (ck_t (by omega) (bind_t n1 (br_t hx (bind_t q1 rfl)))))), ck_t (by omega) (ck_t (by omega) (bind_t n2 (br_t hx (ck_t (by omega) (ck_t (by omega) (br_f rfl (br_f k0 (bind_t q2 rfl))))))))⟩
      · exact .inr ⟨_, ck_t (by omega) (ck_t (by omega) (br_f rfl (ck_t (by omega) (bind_t n1 (br_t hx (bind_t q1 rfl)))))), ck_t (by omega) (ck_t (by omega) (bind_t n2 (br_t hx (ck_t (by omega) (ck_t (by omega) (br_f rfl (br_f k0 (bind_t q2 rfl)))))))), q3⟩
theorem go_l4 {a : List ByteArray} (h : Nds a) (K : Nat) (hK : 10000000000000 ≤ K) (A2 N : Nat) (hA : A2 = 12) (hN : N = 12) (kids : List Int) (hk : ∀ y ∈ kids, 1 ≤ y ∧ y ≤ 11) (hl : kids.length ≤ 1048576) (b : Bool) (nm : List ByteArray) (t : ByteArray) : ∀ (f g i : Nat) (met : List Bool), kids.length < i + f → kids.length < i + g → i ≤ kids.length → met.length = 12 →
    (∃ m1 m2, spec.l9Go_4.l0.f K a f met N b nm kids t (i : Int) = some (.inl m1) ∧ impl.goer.from__4.l0.f K a A2 g met kids (kids.length : Int) (i : Int) = some (.inl m2)) ∨ ∃ m, spec.l9Go_4.l0.f K a f met N b nm kids t (i : Int) = some (.inr m) ∧ impl.goer.from__4.l0.f K a A2 g met kids (kids.length : Int) (i : Int) = some (.inr m) ∧ m.length = 12 := by
  intro f
  induction f with
  | zero => intro g i met h1 h2 hi; omega
  | succ f ih =>
    intro g i met h1 h2 hi hm
    obtain ⟨g, rfl⟩ := Nat.exists_eq_add_one_of_ne_zero (by omega : g ≠ 0)
    rw [spec.l9Go_4.l0.f, impl.goer.from__4.l0.f]
    by_cases c : i < kids.length
    · have e3 : kids.getD i 0 = kids[i] := getD_at c 0
      have hy := hk kids[i] (List.getElem_mem c)
      have e1 : w64 ((i : Int) + 1) = ((i + 1 : Nat) : Int) := wsucc (by omega)
      simp only [e1, e3, Int.toNat_natCast]
      rcases GO_3 h K hK met hm A2 hA kids[i] hy.1 hy.2 with ⟨m1, m2, g1, g2⟩ | ⟨m, g1, g2, g3⟩
      · exact .inl ⟨m1, m2, br_d (by omega) (ck_t (by omega) (ck_t (by omega) (bind_t g1 (br_f rfl rfl)))), br_d (by omega) (ck_t (by omega) (ck_t (by omega) (bind_t g2 (br_f rfl rfl))))⟩
      · rcases ih g (i + 1) m (by omega) (by omega) (by omega) g3 with ⟨m1, m2, q1, q2⟩ | ⟨m', q1, q2, q3⟩
        · exact .inl ⟨m1, m2, br_d (by omega) (ck_t (by omega) (ck_t (by omega) (bind_t g1 (br_t rfl q1)))), br_d (by omega) (ck_t (by omega) (ck_t (by omega) (bind_t g2 (br_t rfl q2))))⟩
        · exact .inr ⟨m', br_d (by omega) (ck_t (by omega) (ck_t (by omega) (bind_t g1 (br_t rfl q1)))), br_d (by omega) (ck_t (by omega) (ck_t (by omega) (bind_t g2 (br_t rfl q2)))), q3⟩
    · exact .inr ⟨met, br_n (by omega) rfl, br_n (by omega) rfl, hm⟩
theorem GO_4 {a : List ByteArray} (h : Nds a) (K : Nat) (hK : 10000000000000 ≤ K) (met : List Bool) (hm : met.length = 12) (A2 : Nat) (hA : A2 = 12) (k : Int) (h1 : 1 ≤ k) (h2 : k ≤ 11) : GoR (spec.l9Go_4.f K a met k) (impl.goer.from__4.f K a met A2 k) := by
  unfold spec.l9Go_4.f impl.goer.from__4.f
  have hl := h.len
  have hms : (met.set k.toNat true).length = 12 := by rw [List.length_set]; exact hm
  obtain ⟨x, n1, n2, n3, n4⟩ := node_at h K hK k.toNat (by omega)
  have k0 : (k == 0) = false := by rw [beq_eq_false_iff_ne]; omega
  cases hx : x.2.2.2.2 with
  | false =>
    refine .inl ?_
    cases hg : met.getD k.toNat false with
    | true => exact ⟨_, _, ck_t (by omega) (ck_t (by omega) (br_t rfl rfl)), ck_t (by omega) (ck_t (by omega) (bind_t n2 (br_f hx rfl)))⟩
    | false => exact ⟨_, _, ck_t (by omega) (ck_t (by omega) (br_f rfl (ck_t (by omega) (bind_t n1 (br_f hx rfl))))), ck_t (by omega) (ck_t (by omega) (bind_t n2 (br_f hx rfl)))⟩
  | true =>
    cases hg : met.getD k.toNat false with
    | true => exact .inl ⟨_, _, ck_t (by omega) (ck_t (by omega) (br_t rfl rfl)), ck_t (by omega) (ck_t (by omega) (bind_t n2 (br_t hx (ck_t (by omega) (ck_t (by omega) (br_t rfl rfl))))))⟩
    | false =>
      rcases go_l4 h K hK A2 (met.set k.toNat true).length hA hms x.2.2.1 (n4 hx) n3 x.1 x.2.1 x.2.2.2.1 K K 0 (met.set k.toNat true) (by omega) (by omega) (by omega) hms with ⟨m1, m2, q1, q2⟩ | ⟨m, q1, q2, q3⟩
      · exact .inl ⟨_, _, ck_t (by omega) (ck_t (by omega) (br_f rfl (ck_t (by omega) (bind_t n1 (br_t hx (bind_t q1 rfl)))))), ck_t (by omega) (ck_t (by omega) (bind_t n2 (br_t hx (ck_t (by omega) (ck_t (by omega) (br_f rfl (br_f k0 (bind_t q2 rfl))))))))⟩
      · exact .inr ⟨_, ck_t (by omega) (ck_t (by omega) (br_f rfl (ck_t (by omega) (bind_t n1 (br_t hx (bind_t q1 rfl)))))), ck_t (by omega) (ck_t (by omega) (bind_t n2 (br_t hx (ck_t (by omega) (ck_t (by omega) (br_f rfl (br_f k0 (bind_t q2 rfl)))))))), q3⟩
theorem go_l5 {a : List ByteArray} (h : Nds a) (K : Nat) (hK : 10000000000000 ≤ K) (A2 N : Nat) (hA : A2 = 12) (hN : N = 12) (kids : List Int) (hk : ∀ y ∈ kids, 1 ≤ y ∧ y ≤ 11) (hl : kids.length ≤ 1048576) (b : Bool) (nm : List ByteArray) (t : ByteArray) : ∀ (f g i : Nat) (met : List Bool), kids.length < i + f → kids.length < i + g → i ≤ kids.length → met.length = 12 →
    (∃ m1 m2, spec.l9Go_5.l0.f K a f met N b nm kids t (i : Int) = some (.inl m1) ∧ impl.goer.from__5.l0.f K a g met A2 kids (kids.length : Int) (i : Int) = some (.inl (m2, A2))) ∨ ∃ m, spec.l9Go_5.l0.f K a f met N b nm kids t (i : Int) = some (.inr m) ∧ impl.goer.from__5.l0.f K a g met A2 kids (kids.length : Int) (i : Int) = some (.inr (m, A2)) ∧ m.length = 12 := by
  intro f
  induction f with
  | zero => intro g i met h1 h2 hi; omega
  | succ f ih =>
    intro g i met h1 h2 hi hm
    obtain ⟨g, rfl⟩ := Nat.exists_eq_add_one_of_ne_zero (by omega : g ≠ 0)
    rw [spec.l9Go_5.l0.f, impl.goer.from__5.l0.f]
    by_cases c : i < kids.length
    · have e3 : kids.getD i 0 = kids[i] := getD_at c 0
      have hy := hk kids[i] (List.getElem_mem c)
      have e1 : w64 ((i : Int) + 1) = ((i + 1 : Nat) : Int) := wsucc (by omega)
      simp only [e1, e3, Int.toNat_natCast]
      rcases GO_4 h K hK met hm A2 hA kids[i] hy.1 hy.2 with ⟨m1, m2, g1, g2⟩ | ⟨m, g1, g2, g3⟩
      · exact .inl ⟨m1, m2, br_d (by omega) (ck_t (by omega) (ck_t (by omega) (bind_t g1 (br_f rfl rfl)))), br_d (by omega) (ck_t (by omega) (ck_t (by omega) (bind_t g2 (br_f rfl rfl))))⟩
      · rcases ih g (i + 1) m (by omega) (by omega) (by omega) g3 with ⟨m1, m2, q1, q2⟩ | ⟨m', q1, q2, q3⟩
        · exact .inl ⟨m1, m2, br_d (by omega) (ck_t (by omega) (ck_t (by omega) (bind_t g1 (br_t rfl q1)))), br_d (by omega) (ck_t (by omega) (ck_t (by omega) (bind_t g2 (br_t rfl q2))))⟩
        · exact .inr ⟨m', br_d (by omega) (ck_t (by omega) (ck_t (by omega) (bind_t g1 (br_t rfl q1)))), br_d (by omega) (ck_t (by omega) (ck_t (by omega) (bind_t g2 (br_t rfl q2)))), q3⟩
    · exact .inr ⟨met, br_n (by omega) rfl, br_n (by omega) rfl, hm⟩
theorem szStringS_l0 (a : List ByteArray) (hl : a.length ≤ 1000000000000000) (hs : ∀ x ∈ a, x.size ≤ maxLen) : ∀ (f i : Nat) (left : Int), a.length < i + f → i ≤ a.length → 0 ≤ left → left ≤ 1000000000000 →
    laws.szStringS.l0.f a f left (i : Int) = some (.inl ()) ∨ ∃ r, laws.szStringS.l0.f a f left (i : Int) = some (.inr r) ∧ 0 ≤ r ∧ r + tot (a.drop i) = left := by
  intro f
  induction f with
  | zero => intro i left h hi; omega
  | succ f ih =>
    intro i left h hi h0 h1
    rw [laws.szStringS.l0.f]
    by_cases c : i < a.length
    · have e1 : w64 ((i : Int) + 1) = ((i + 1 : Nat) : Int) := wsucc (by omega)
      have hx := hs _ (List.getElem_mem c)
      have hm := maxLen_le
      have e2 : w64 (left - (a[i].size : Int)) = left - (a[i].size : Int) := w64_id (by omega) (by omega)
      simp only [Int.toNat_natCast, getD_at c, e1, e2]
      by_cases c2 : left - (a[i].size : Int) < 0
      · exact .inl (br_d (by omega) (ck_t (by omega) (br_d c2 rfl)))
      · rcases ih (i + 1) (left - (a[i].size : Int)) (by omega) (by omega) (by omega) (by omega) with g | ⟨r, g1, g2, g3⟩
        · exact .inl (br_d (by omega) (ck_t (by omega) (br_n c2 g)))
        · refine .inr ⟨r, br_d (by omega) (ck_t (by omega) (br_n c2 g1)), g2, ?_⟩
          rw [List.drop_eq_getElem_cons c, tot_cons]
          omega
    · refine .inr ⟨left, br_n (by omega) rfl, h0, ?_⟩
      rw [List.drop_of_length_le (by omega)]
      simp [tot]
theorem szStringS_eq (K : Nat) (hK : 10000000000000 ≤ K) (a : List ByteArray) (hl : a.length ≤ maxLen) (hs : ∀ x ∈ a, x.size ≤ maxLen) (left : Int) (h0 : 0 ≤ left) (h1 : left ≤ 1000000000000) :
    ∃ r, laws.szStringS.f K a left = some r ∧ (0 ≤ r → r + a.length + tot a = left) := by
  unfold laws.szStringS.f
  have hm := maxLen_le
  have e2 : w64 (left - (a.length : Int)) = left - (a.length : Int) := w64_id (by omega) (by omega)
  rw [e2]
  by_cases c : left - (a.length : Int) < 0
  · exact ⟨-1, br_d c rfl, fun h => by omega⟩
  · rcases szStringS_l0 a (by omega) hs K 0 (left - a.length) (by omega) (by omega) (by omega) (by omega) with g | ⟨r, g1, g2, g3⟩
    · exact ⟨-1, br_n c (bind_t g rfl), fun h => by omega⟩
    · refine ⟨r, br_n c (bind_t g1 rfl), fun _ => ?_⟩
      rw [List.drop_zero] at g3
      omega
theorem toStringS_l0 (a : List ByteArray) (hl : a.length ≤ 1000000000000000) : ∀ (f i : Nat) (v : List ByteArray), a.length < i + f → i ≤ a.length → v.length = a.length → v.take i = a.take i → laws.toStringS.l0.f a f v (i : Int) = some a := by
  intro f
  induction f with
  | zero => intro i v h hi; omega
  | succ f ih =>
    intro i v h hi hv ht
    rw [laws.toStringS.l0.f]
    by_cases c : i < a.length
    · have e1 : w64 ((i : Int) + 1) = ((i + 1 : Nat) : Int) := wsucc (by omega)
      simp only [Int.toNat_natCast, getD_at c, e1]
      exact br_d (by omega) (ck_t (by omega) (ck_t (by omega) (ih (i + 1) _ (by omega) (by omega) (by rw [List.length_set]; exact hv) (set_take c hv ht))))
    · rw [take_all (by omega) hv ht]
      exact br_n (by omega) rfl
theorem toStringS_eq (K : Nat) (hK : 10000000000000 ≤ K) (a : List ByteArray) (hl : a.length ≤ 1000000000000) : laws.toStringS.f K a = some a := by
  unfold laws.toStringS.f
  exact ck_t (by omega) (bind_t (toStringS_l0 a (by omega) K 0 _ (by omega) (by omega) (by rw [List.length_replicate]) rfl) rfl)
theorem eqStringS_l0 (a : List ByteArray) (hl : a.length ≤ 1000000000000000) : ∀ (f i : Nat), a.length < i + f → i ≤ a.length → laws.eqStringS.l0.f a a f (i : Int) = some (.inr ()) := by
  intro f
  induction f with
  | zero => intro i h hi; omega
  | succ f ih =>
    intro i h hi
    rw [laws.eqStringS.l0.f]
    by_cases c : i < a.length
    · have e1 : w64 ((i : Int) + 1) = ((i + 1 : Nat) : Int) := wsucc (by omega)
      simp only [e1]
      exact br_d (by omega) (ck_t (by omega) (ck_t (by omega) (br_t (strEq_self _) (ih (i + 1) (by omega) (by omega)))))
    · exact br_n (by omega) rfl
theorem eqStringS_self (K : Nat) (hK : 10000000000000 ≤ K) (a : List ByteArray) (hl : a.length ≤ 1000000000000) : laws.eqStringS.f K a a = some true := by
  unfold laws.eqStringS.f
  exact br_f (by simp) (bind_t (eqStringS_l0 a (by omega) K 0 (by omega) (by omega)) rfl)
theorem vol_l0 (a : List ByteArray) (hl : a.length = 12) (met : List Bool) (hm : met.length = 12) : ∀ (f g i : Nat), 12 < i + f → 12 < i + g → i ≤ 12 → ∃ r, spec.VolumeOk.l0.f a f met (i : Int) = some r ∧ impl.VolumeOk.l0.f a g met (i : Int) = some r := by
  intro f
  induction f with
  | zero => intro g i h1 h2 hi; omega
  | succ f ih =>
    intro g i h1 h2 hi
    obtain ⟨g, rfl⟩ := Nat.exists_eq_add_one_of_ne_zero (by omega : g ≠ 0)
    have hr : (List.replicate 12 false).length = 12 := rfl
    rw [spec.VolumeOk.l0.f, impl.VolumeOk.l0.f]
    by_cases c : i < 12
    · have e1 : w64 ((i : Int) + 1) = ((i + 1 : Nat) : Int) := wsucc (by omega)
      simp only [e1, Int.toNat_natCast]
      obtain ⟨r, g1, g2⟩ := ih g (i + 1) (by omega) (by omega) (by omega)
      cases hg : met.getD i false with
      | true =>
        refine ⟨r, br_d (by omega) (ck_t (by omega) (ck_t (by omega) (ck_t (by omega) (br_t rfl g1)))), br_d (by omega) (ck_t (by omega) ?_)⟩
        cases he : strEq (a.getD i noVal) noVal with
        | true => exact br_t rfl g2
        | false => exact br_f rfl (ck_t (by omega) (ck_t (by omega) (br_t rfl g2)))
      | false =>
        cases he : strEq (a.getD i noVal) noVal with
        | true => exact ⟨r, br_d (by omega) (ck_t (by omega) (ck_t (by omega) (ck_t (by omega) (br_f rfl (ck_t (by omega) (br_t rfl g1)))))), br_d (by omega) (ck_t (by omega) (br_t rfl g2))⟩
        | false => exact ⟨.inl (), br_d (by omega) (ck_t (by omega) (ck_t (by omega) (ck_t (by omega) (br_f rfl (ck_t (by omega) (br_f rfl rfl)))))), br_d (by omega) (ck_t (by omega) (br_f rfl (ck_t (by omega) (ck_t (by omega) (br_f rfl rfl)))))⟩
    · exact ⟨.inr (), br_n (by omega) rfl, br_n (by omega) rfl⟩
theorem VolumeOk_eq (K : Nat) (hK : 10000000000000 ≤ K) (a : List ByteArray) (hs : ∀ x ∈ a, x.size ≤ 1048576) : ∃ r, spec.VolumeOk.f K a = some r ∧ impl.VolumeOk.f K a = some r := by
  unfold spec.VolumeOk.f impl.VolumeOk.f
  by_cases c : a.length = 12
  case neg =>
    have c' : ((a.length : Int) != 12) = true := by simp; omega
    exact ⟨false, br_t c' rfl, br_t c' rfl⟩
  have c' : ((a.length : Int) != 12) = false := by simp; omega
  have h : Nds a := ⟨c, hs⟩
  obtain ⟨x, n1, n2, n3, n4⟩ := node_at h K hK 0 (by omega)
  have hr : (List.replicate 12 false).length = 12 := rfl
  have hms : ((List.replicate 12 false).set 0 true).length = 12 := rfl
  cases hx : x.2.2.2.2 with
  | false =>
    have e2 : impl.goer.from__5.f K a = some (false, List.replicate 12 false, (List.replicate 12 false).length) := by
      unfold impl.goer.from__5.f
      exact ck_t (by omega) (ck_t (by omega) (bind_t n2 (br_f hx rfl)))
    exact ⟨false, br_f c' (ck_t (by omega) (ck_t (by omega) (bind_t n1 (ck_t (by decide) (br_f hx rfl))))), br_f c' (ck_t (by decide) (bind_t e2 (br_f rfl rfl)))⟩
  | true =>
    cases hd : x.1 with
    | false =>
      have e2 : impl.goer.from__5.f K a = some (false, List.replicate 12 false, (List.replicate 12 false).length) := by
        unfold impl.goer.from__5.f
        exact ck_t (by omega) (ck_t (by omega) (bind_t n2 (br_t hx (ck_t (by omega) (ck_t (by omega) (br_f rfl (br_f hd rfl)))))))
      exact ⟨false, br_f c' (ck_t (by omega) (ck_t (by omega) (bind_t n1 (ck_t (by decide) (br_t hx (br_f hd rfl)))))), br_f c' (ck_t (by decide) (bind_t e2 (br_f rfl rfl)))⟩
    | true =>
      rcases go_l5 h K hK ((List.replicate 12 false).set 0 true).length ((List.replicate 12 false).set 0 true).length hms hms x.2.2.1 (n4 hx) n3 x.1 x.2.1 x.2.2.2.1 K K 0 ((List.replicate 12 false).set 0 true) (by omega) (by omega) (by omega) hms with ⟨m1, m2, q1, q2⟩ | ⟨m, q1, q2, q3⟩
      · have e1 : spec.l9Go_5.f K a = some (false, m1) := by
          unfold spec.l9Go_5.f
          exact ck_t (by omega) (ck_t (by omega) (br_f rfl (ck_t (by omega) (ck_t (by omega) (bind_t n1 (br_t hx (bind_t q1 rfl)))))))
        have e2 : impl.goer.from__5.f K a = some (false, m2, ((List.replicate 12 false).set 0 true).length) := by
          unfold impl.goer.from__5.f
          exact ck_t (by omega) (ck_t (by omega) (bind_t n2 (br_t hx (ck_t (by omega) (ck_t (by omega) (br_f rfl (br_t hd (bind_t q2 rfl))))))))
        exact ⟨false, br_f c' (ck_t (by omega) (ck_t (by omega) (bind_t n1 (ck_t (by decide) (br_t hx (br_t hd (bind_t e1 (br_f rfl rfl)))))))), br_f c' (ck_t (by decide) (bind_t e2 (br_f rfl rfl)))⟩
      · have e1 : spec.l9Go_5.f K a = some (true, m) := by
          unfold spec.l9Go_5.f
          exact ck_t (by omega) (ck_t (by omega) (br_f rfl (ck_t (by omega) (ck_t (by omega) (bind_t n1 (br_t hx (bind_t q1 rfl)))))))
        have e2 : impl.goer.from__5.f K a = some (true, m, ((List.replicate 12 false).set 0 true).length) := by
          unfold impl.goer.from__5.f
          exact ck_t (by omega) (ck_t (by omega) (bind_t n2 (br_t hx (ck_t (by omega) (ck_t (by omega) (br_f rfl (br_t hd (bind_t q2 rfl))))))))
        obtain ⟨r, v1, v2⟩ := vol_l0 a c m q3 K K 0 (by omega) (by omega) (by omega)
        cases r with
        | inl u => exact ⟨false, br_f c' (ck_t (by omega) (ck_t (by omega) (bind_t n1 (ck_t (by decide) (br_t hx (br_t hd (bind_t e1 (br_t rfl (bind_t v1 rfl))))))))), br_f c' (ck_t (by decide) (bind_t e2 (br_t rfl (bind_t v2 rfl))))⟩
        | inr u => exact ⟨true, br_f c' (ck_t (by omega) (ck_t (by omega) (bind_t n1 (ck_t (by decide) (br_t hx (br_t hd (bind_t e1 (br_t rfl (bind_t v1 rfl))))))))), br_f c' (ck_t (by decide) (bind_t e2 (br_t rfl (bind_t v2 rfl))))⟩
theorem FnExactVolumeOk_pure (a : List ByteArray) (ha : a.length ≤ maxLen) (hs : ∀ x ∈ a, x.size ≤ maxLen) : laws.FnExactVolumeOk.f 10000000000000 a = some true := by
  unfold laws.FnExactVolumeOk.f
  obtain ⟨r, h1, h2⟩ := szStringS_eq 10000000000000 (by decide) a ha hs 1048576 (by decide) (by decide)
  refine bind_t h1 ?_
  by_cases c : r < 0
  · exact br_d c rfl
  have h3 := h2 (by omega)
  have hz : ∀ x ∈ a, x.size ≤ 1048576 := fun x hx => by have := tot_mem hx; omega
  have ht := toStringS_eq 10000000000000 (by decide) a (by omega)
  have he := eqStringS_self 10000000000000 (by decide) a (by omega)
  obtain ⟨x, k1, k2⟩ := VolumeOk_eq 10000000000000 (by decide) a hz
  exact br_n c (bind_t ht (bind_t k1 (bind_t ht (bind_t k2 (br_t (by simp) (bind_t ht (bind_t he (br_t rfl rfl))))))))
end Go.Proofs.Ythneilmhnbboeaa.Pure
