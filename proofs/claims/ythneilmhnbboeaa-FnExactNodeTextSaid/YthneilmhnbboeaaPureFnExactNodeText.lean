/- The law FnExactNodeText, in plain words: its function answers true. -/
import Derived.Test.YthneilmhnbboeaaGFnExactNodeText
import Derived.Test.YthneilmhnbboeaaDenMod
import Derived.KernelRfl
namespace Go.Proofs.Ythneilmhnbboeaa.Pure
open Go Go.RowKit Go.Proofs.Ythneilmhnbboeaa.Den Go.Proofs.Ythneilmhnbboeaa.GFnExactNodeText
set_option linter.unusedSimpArgs false
set_option linter.unusedVariables false
theorem nat_tmod (n m : Nat) : ((n : Int).tmod (m : Int)) = ((n % m : Nat) : Int) := (Int.ofNat_tmod n m).symm
theorem nat_tdiv (n m : Nat) : ((n : Int).tdiv (m : Int)) = ((n / m : Nat) : Int) := (Int.ofNat_tdiv n m).symm
theorem impl_in_eq (n lo hi : Int) : impl.in_.f n lo hi = some (decide (lo ≤ n ∧ n ≤ hi)) := by
  unfold impl.in_.f
  by_cases c : n ≥ lo
  · refine br_d c ?_
    by_cases d : n ≤ hi
    · rw [decide_eq_true d, decide_eq_true ⟨c, d⟩]
    · rw [decide_eq_false d, decide_eq_false (fun h => d h.2)]
  · refine br_n c ?_
    rw [decide_eq_false (fun h => c h.1)]
theorem spec_l1In_eq (n lo hi : Int) : spec.l1In.f n lo hi = some (decide (lo ≤ n ∧ n ≤ hi)) := by
  unfold spec.l1In.f
  by_cases c : n ≥ lo
  · refine br_d c ?_
    by_cases d : n ≤ hi
    · rw [decide_eq_true d, decide_eq_true ⟨c, d⟩]
    · rw [decide_eq_false d, decide_eq_false (fun h => d h.2)]
  · refine br_n c ?_
    rw [decide_eq_false (fun h => c h.1)]
theorem spec_NameOk_l0 (s : ByteArray) (hl : s.size ≤ 1000000000000) : ∀ (f i : Nat), s.size < i + f → i ≤ s.size →
    spec.NameOk.l0.f s f (i : Int) = some (if allF (fun j => 97 ≤ byteAt s (j : Int) ∧ byteAt s (j : Int) ≤ 122) i s.size then .inr () else .inl ()) := by
  intro f
  induction f with
  | zero => intro i h hi; omega
  | succ f ih =>
    intro i h hi
    rw [spec.NameOk.l0.f]
    by_cases c : i < s.size
    · have e1 : w64 ((i : Int) + 1) = ((i + 1 : Nat) : Int) := wsucc (by omega)
      simp only [e1]
      by_cases d1 : byteAt s (i : Int) < 97
      · rw [if_neg (fun g => by have : 97 ≤ byteAt s (i : Int) ∧ byteAt s (i : Int) ≤ 122 := ((allF_step c).1 g).1; omega)]
        exact br_d (by omega) (ck_t (by omega) (br_d d1 rfl))
      · by_cases d2 : byteAt s (i : Int) > 122
        · rw [if_neg (fun g => by have : 97 ≤ byteAt s (i : Int) ∧ byteAt s (i : Int) ≤ 122 := ((allF_step c).1 g).1; omega)]
          exact br_d (by omega) (ck_t (by omega) (br_n d1 (br_d d2 rfl)))
        · rw [if_iff ((allF_step c).trans ⟨fun g => g.2, fun g => ⟨⟨by omega, by omega⟩, g⟩⟩)]
          exact br_d (by omega) (ck_t (by omega) (br_n d1 (br_n d2 (ih (i + 1) (by omega) (by omega)))))
    · rw [if_pos (allF_end (by omega))]
      exact br_n (by omega) rfl
theorem spec_NameOk_eq (K : Nat) (hK : 10000000000000 ≤ K) (s : ByteArray) (hl : s.size ≤ 1000000000000) : spec.NameOk.f K s = some (decide (nameOk s)) := by
  unfold spec.NameOk.f
  refine bind_t (spec_NameOk_l0 s hl K 0 (by omega) (by omega)) ?_
  by_cases d : allF (fun j => 97 ≤ byteAt s (j : Int) ∧ byteAt s (j : Int) ≤ 122) 0 s.size
  · rw [if_pos d]
    refine bind_t (spec_l1In_eq _ 1 6) ?_
    congr 1
    exact decide_eq_decide.2 ⟨fun g => ⟨d, by omega, by omega⟩, fun g => by have := g.2; omega⟩
  · rw [if_neg d, decide_eq_false (p := nameOk s) (fun g => d g.1)]
    rfl
theorem impl_NameOk_l0 (s : ByteArray) (hl : s.size ≤ 1000000000000) : ∀ (f i : Nat), s.size < i + f → i ≤ s.size →
    impl.NameOk.l0.f s f (i : Int) = some (if allF (fun j => 97 ≤ byteAt s (j : Int) ∧ byteAt s (j : Int) ≤ 122) i s.size then .inr () else .inl ()) := by
  intro f
  induction f with
  | zero => intro i h hi; omega
  | succ f ih =>
    intro i h hi
    rw [impl.NameOk.l0.f]
    by_cases c : i < s.size
    · have e1 : w64 ((i : Int) + 1) = ((i + 1 : Nat) : Int) := wsucc (by omega)
      simp only [e1]
      by_cases d1 : byteAt s (i : Int) < 97
      · rw [if_neg (fun g => by have : 97 ≤ byteAt s (i : Int) ∧ byteAt s (i : Int) ≤ 122 := ((allF_step c).1 g).1; omega)]
        exact br_d (by omega) (ck_t (by omega) (br_d d1 rfl))
      · by_cases d2 : byteAt s (i : Int) > 122
        · rw [if_neg (fun g => by have : 97 ≤ byteAt s (i : Int) ∧ byteAt s (i : Int) ≤ 122 := ((allF_step c).1 g).1; omega)]
          exact br_d (by omega) (ck_t (by omega) (br_n d1 (br_d d2 rfl)))
        · rw [if_iff ((allF_step c).trans ⟨fun g => g.2, fun g => ⟨⟨by omega, by omega⟩, g⟩⟩)]
          exact br_d (by omega) (ck_t (by omega) (br_n d1 (br_n d2 (ih (i + 1) (by omega) (by omega)))))
    · rw [if_pos (allF_end (by omega))]
      exact br_n (by omega) rfl
theorem impl_NameOk_eq (K : Nat) (hK : 10000000000000 ≤ K) (s : ByteArray) (hl : s.size ≤ 1000000000000) : impl.NameOk.f K s = some (decide (nameOk s)) := by
  unfold impl.NameOk.f
  refine bind_t (impl_NameOk_l0 s hl K 0 (by omega) (by omega)) ?_
  by_cases d : allF (fun j => 97 ≤ byteAt s (j : Int) ∧ byteAt s (j : Int) ≤ 122) 0 s.size
  · rw [if_pos d]
    refine bind_t (impl_in_eq _ 1 6) ?_
    congr 1
    exact decide_eq_decide.2 ⟨fun g => ⟨d, by omega, by omega⟩, fun g => by have := g.2; omega⟩
  · rw [if_neg d, decide_eq_false (p := nameOk s) (fun g => d g.1)]
    rfl
theorem spec_NodeOk_in1 (b : Bool) (n : List ByteArray) (m : List Int) (t : ByteArray) (hl : m.length ≤ 1000000000000) (i : Nat) (hi : i < m.length) (x y : Bool) : ∀ (f k : Nat), i < k + f → k ≤ i →
    spec.NodeOk.l1.f b n m t (i : Int) f (k : Int) x y = some (if allF (fun k => kid m k ≠ kid m i) k i then .inr (x, y) else .inl ()) := by
  intro f
  induction f with
  | zero => intro k h hk; omega
  | succ f ih =>
    intro k h hk
    rw [spec.NodeOk.l1.f]
    by_cases c : k < i
    · have e1 : w64 ((k : Int) + 1) = ((k + 1 : Nat) : Int) := wsucc (by omega)
      simp only [Int.toNat_natCast, e1]
      by_cases d : kid m k = kid m i
      · rw [if_neg (fun g => (show kid m k ≠ kid m i from ((allF_step c).1 g).1) d)]
        exact br_d (by omega) (ck_t (by omega) (ck_t (by omega) (ck_t (by omega) (ck_t (by omega) (br_t (beq_iff_eq.2 d) rfl)))))
      · rw [if_iff ((allF_step c).trans ⟨fun g => g.2, fun g => ⟨d, g⟩⟩)]
        exact br_d (by omega) (ck_t (by omega) (ck_t (by omega) (ck_t (by omega) (ck_t (by omega) (br_f (beq_eq_false_iff_ne.2 d) (ih (k + 1) (by omega) (by omega)))))))
    · rw [if_pos (allF_end (by omega))]
      exact br_n (by omega) rfl
theorem spec_NodeOk_in2 (b : Bool) (n : List ByteArray) (m : List Int) (t : ByteArray) (hl : m.length ≤ 1000000000000) (i : Nat) (hi : i < m.length) (x y : Bool) : ∀ (f k : Nat), i < k + f → k ≤ i →
    spec.NodeOk.l1_1.f b n m t (i : Int) f (k : Int) x y = some (if allF (fun k => kid m k ≠ kid m i) k i then .inr (x, y) else .inl ()) := by
  intro f
  induction f with
  | zero => intro k h hk; omega
  | succ f ih =>
    intro k h hk
    rw [spec.NodeOk.l1_1.f]
    by_cases c : k < i
    · have e1 : w64 ((k : Int) + 1) = ((k + 1 : Nat) : Int) := wsucc (by omega)
      simp only [Int.toNat_natCast, e1]
      by_cases d : kid m k = kid m i
      · rw [if_neg (fun g => (show kid m k ≠ kid m i from ((allF_step c).1 g).1) d)]
        exact br_d (by omega) (ck_t (by omega) (ck_t (by omega) (ck_t (by omega) (ck_t (by omega) (br_t (beq_iff_eq.2 d) rfl)))))
      · rw [if_iff ((allF_step c).trans ⟨fun g => g.2, fun g => ⟨d, g⟩⟩)]
        exact br_d (by omega) (ck_t (by omega) (ck_t (by omega) (ck_t (by omega) (ck_t (by omega) (br_f (beq_eq_false_iff_ne.2 d) (ih (k + 1) (by omega) (by omega)))))))
    · rw [if_pos (allF_end (by omega))]
      exact br_n (by omega) rfl
theorem spec_NodeOk_l0 (K : Nat) (hK : 10000000000000 ≤ K) (b : Bool) (n : List ByteArray) (m : List Int) (t : ByteArray) (hn : n.length ≤ 1000000000000) (hs : ∀ x ∈ n, x.size ≤ 1000000000000) (hm : n.length = m.length) : ∀ (f i : Nat), n.length < i + f → i ≤ n.length →
    spec.NodeOk.l0.f K b n m t f (i : Int) = some (if allF (kidAt n m) i n.length then .inr () else .inl ()) := by
  intro f
  induction f with
  | zero => intro i h hi; omega
  | succ f ih =>
    intro i h hi
    rw [spec.NodeOk.l0.f]
    by_cases c : i < n.length
    · have e1 : w64 ((i : Int) + 1) = ((i + 1 : Nat) : Int) := wsucc (by omega)
      have hx : (n.getD i noVal).size ≤ 1000000000000 := by rw [getD_at c]; exact hs _ (List.getElem_mem c)
      have hN := spec_NameOk_eq K hK (n.getD i noVal) hx
      have hI := spec_l1In_eq (m.getD i 0) 1 11
      simp only [Int.toNat_natCast, e1]
      by_cases d1 : nameOk (nam n i)
      case neg =>
        rw [if_neg (fun g => d1 ((allF_step c).1 g).1.1)]
        exact br_d (by omega) (ck_t (by omega) (bind_t hN (br_n d1 rfl)))
      by_cases d2 : 1 ≤ kid m i ∧ kid m i ≤ 11
      case neg =>
        rw [if_neg (fun g => d2 ((allF_step c).1 g).1.2.1)]
        exact br_d (by omega) (ck_t (by omega) (bind_t hN (br_d d1 (ck_t (by omega) (bind_t hI (br_n d2 rfl))))))
      by_cases d3 : 0 < i → strLt (nam n (i - 1)) (nam n i) = true
      case neg =>
        rw [if_neg (fun g => d3 ((allF_step c).1 g).1.2.2.1)]
        have d0 : 0 < i := Decidable.byContradiction fun h => d3 (fun h' => absurd h' h)
        have d4 : ¬ strLt (nam n (i - 1)) (nam n i) = true := fun h => d3 (fun _ => h)
        have e2 : w64 ((i : Int) - 1) = ((i - 1 : Nat) : Int) := by rw [w64_id (by omega) (by omega)]; omega
        simp only [e2, Int.toNat_natCast]
        exact br_d (by omega) (ck_t (by omega) (bind_t hN (br_d d1 (ck_t (by omega) (bind_t hI (br_d d2 (br_d (by omega) (ck_t (by omega) (ck_t (by omega) (br_f (Bool.eq_false_iff.2 d4 : strLt (nam n (i - 1)) (nam n i) = false) rfl))))))))))
      by_cases d5 : allF (fun k => kid m k ≠ kid m i) 0 i
      case neg =>
        rw [if_neg (fun g => d5 ((allF_step c).1 g).1.2.2.2)]
        by_cases d0 : 0 < i
        · have e2 : w64 ((i : Int) - 1) = ((i - 1 : Nat) : Int) := by rw [w64_id (by omega) (by omega)]; omega
          have gi := spec_NodeOk_in1 b n m t (by omega) i (by omega) (decide (1 ≤ m.getD i 0 ∧ m.getD i 0 ≤ 11)) (!decide (1 ≤ m.getD i 0 ∧ m.getD i 0 ≤ 11)) K 0 (by omega) (by omega)
          rw [if_neg d5] at gi
          simp only [e2, Int.toNat_natCast]
          exact br_d (by omega) (ck_t (by omega) (bind_t hN (br_d d1 (ck_t (by omega) (bind_t hI (br_d d2 (br_d (by omega) (ck_t (by omega) (ck_t (by omega) (br_t (d3 d0) (bind_t gi rfl)))))))))))
        · have gi := spec_NodeOk_in2 b n m t (by omega) i (by omega) (decide (1 ≤ m.getD i 0 ∧ m.getD i 0 ≤ 11)) (!decide (1 ≤ m.getD i 0 ∧ m.getD i 0 ≤ 11)) K 0 (by omega) (by omega)
          rw [if_neg d5] at gi
          exact br_d (by omega) (ck_t (by omega) (bind_t hN (br_d d1 (ck_t (by omega) (bind_t hI (br_d d2 (br_n (by omega) (bind_t gi rfl))))))))
      rw [if_iff ((allF_step c).trans ⟨fun g => g.2, fun g => ⟨⟨d1, d2, d3, d5⟩, g⟩⟩)]
      have hr := ih (i + 1) (by omega) (by omega)
      by_cases d0 : 0 < i
      · have e2 : w64 ((i : Int) - 1) = ((i - 1 : Nat) : Int) := by rw [w64_id (by omega) (by omega)]; omega
        have gi := spec_NodeOk_in1 b n m t (by omega) i (by omega) (decide (1 ≤ m.getD i 0 ∧ m.getD i 0 ≤ 11)) (!decide (1 ≤ m.getD i 0 ∧ m.getD i 0 ≤ 11)) K 0 (by omega) (by omega)
        rw [if_pos d5] at gi
        simp only [e2, Int.toNat_natCast]
        exact br_d (by omega) (ck_t (by omega) (bind_t hN (br_d d1 (ck_t (by omega) (bind_t hI (br_d d2 (br_d (by omega) (ck_t (by omega) (ck_t (by omega) (br_t (d3 d0) (bind_t gi hr)))))))))))
      · have gi := spec_NodeOk_in2 b n m t (by omega) i (by omega) (decide (1 ≤ m.getD i 0 ∧ m.getD i 0 ≤ 11)) (!decide (1 ≤ m.getD i 0 ∧ m.getD i 0 ≤ 11)) K 0 (by omega) (by omega)
        rw [if_pos d5] at gi
        exact br_d (by omega) (ck_t (by omega) (bind_t hN (br_d d1 (ck_t (by omega) (bind_t hI (br_d d2 (br_n (by omega) (bind_t gi hr))))))))
    · rw [if_pos (allF_end (by omega))]
      exact br_n (by omega) rfl
theorem spec_NodeOk_eq (K : Nat) (hK : 10000000000000 ≤ K) (b : Bool) (n : List ByteArray) (m : List Int) (t : ByteArray) (hn : n.length ≤ 1000000000000) (hs : ∀ x ∈ n, x.size ≤ 1000000000000) (hm : m.length ≤ 1000000000000) (ht : t.size ≤ 1000000000000) : spec.NodeOk.f K b n m t = some (decide (nodeOk b n m t)) := by
  unfold spec.NodeOk.f
  cases b with
  | true =>
    refine br_t rfl ?_
    by_cases c : n.length = m.length
    case neg =>
      rw [decide_eq_false (p := nodeOk true n m t) (fun g => by rcases g with g | g; exact c g.2.1; cases g.1)]
      exact br_t (bne_iff_ne.2 (by omega)) rfl
    refine br_f (by simp [c]) ?_
    by_cases c2 : t.size = 0
    case neg =>
      rw [decide_eq_false (p := nodeOk true n m t) (fun g => by rcases g with g | g; exact c2 g.2.2.1; cases g.1)]
      exact br_f (by rw [← Bool.not_eq_true, strEq_iff]; exact fun h => c2 (size_zero.2 h)) rfl
    refine br_t (strEq_iff.2 (size_zero.1 c2)) (bind_t (spec_NodeOk_l0 K hK true n m t hn hs c K 0 (by omega) (by omega)) ?_)
    by_cases d : allF (kidAt n m) 0 n.length
    · rw [if_pos d, decide_eq_true (p := nodeOk true n m t) (.inl ⟨rfl, c, c2, d⟩)]; rfl
    · rw [if_neg d, decide_eq_false (p := nodeOk true n m t) (fun g => by rcases g with g | g; exact d g.2.2.2; cases g.1)]; rfl
  | false =>
    refine br_f rfl ?_
    have e : w64 ((n.length : Int) + (m.length : Int)) = (n.length : Int) + (m.length : Int) := w64_id (by omega) (by omega)
    rw [e]
    by_cases c : n.length = 0 ∧ m.length = 0
    · refine br_t (beq_iff_eq.2 (by omega)) ?_
      congr 1
      exact decide_eq_decide.2 ⟨fun g => .inr ⟨rfl, c.1, c.2, by omega⟩, fun g => by rcases g with g | g; cases g.1; have := g.2.2.2; omega⟩
    · rw [decide_eq_false (p := nodeOk false n m t) (fun g => by rcases g with g | g; cases g.1; exact c ⟨g.2.1, g.2.2.1⟩)]
      exact br_f (beq_eq_false_iff_ne.2 (by omega)) rfl
theorem impl_isKid_eq (x : Int) : impl.isKid.f x = some (decide (1 ≤ x ∧ x ≤ 11)) := by
  unfold impl.isKid.f
  exact bind_t (impl_in_eq x 1 11) rfl
theorem impl_Index_l0 (m : List Int) (x : Int) (hl : m.length ≤ 1000000000000) : ∀ (f k : Nat), m.length < k + f → k ≤ m.length →
    ∃ r, slices.Index_int_int.l0.f m x f (k : Int) = some r ∧ ((allF (fun j => kid m j ≠ x) k m.length ∧ r = .inr ()) ∨ ∃ j : Nat, k ≤ j ∧ j < m.length ∧ allF (fun j => kid m j ≠ x) k j ∧ kid m j = x ∧ r = .inl (j : Int)) := by
  intro f
  induction f with
  | zero => intro k h hk; omega
  | succ f ih =>
    intro k h hk
    rw [slices.Index_int_int.l0.f]
    by_cases c : k < m.length
    · have e1 : w64 ((k : Int) + 1) = ((k + 1 : Nat) : Int) := wsucc (by omega)
      simp only [Int.toNat_natCast, e1]
      by_cases d : kid m k = x
      · exact ⟨_, br_d (by omega) (ck_t (by omega) (br_t (beq_iff_eq.2 d.symm) rfl)), .inr ⟨k, by omega, c, allF_end (by omega), d, rfl⟩⟩
      · obtain ⟨r, h1, h2⟩ := ih (k + 1) (by omega) (by omega)
        refine ⟨r, br_d (by omega) (ck_t (by omega) (br_f (beq_eq_false_iff_ne.2 (fun e => d e.symm)) h1)), ?_⟩
        rcases h2 with ⟨g, e⟩ | ⟨j, g1, g2, g3, g4, e⟩
        · exact .inl ⟨(allF_step c).2 ⟨d, g⟩, e⟩
        · exact .inr ⟨j, by omega, g2, (allF_step (by omega)).2 ⟨d, g3⟩, g4, e⟩
    · exact ⟨_, br_n (by omega) rfl, .inl ⟨allF_end (by omega), rfl⟩⟩
theorem impl_Index_first (K : Nat) (hK : 10000000000000 ≤ K) (m : List Int) (hl : m.length ≤ 1000000000000) (i : Nat) (hi : i < m.length) : ∃ r : Int, slices.Index_int_int.f K m (kid m i) = some r ∧ (r = (i : Int) ↔ allF (fun k => kid m k ≠ kid m i) 0 i) := by
  unfold slices.Index_int_int.f
  obtain ⟨r, h1, h2⟩ := impl_Index_l0 m (kid m i) hl K 0 (by omega) (by omega)
  rcases h2 with ⟨g, rfl⟩ | ⟨j, g1, g2, g3, g4, rfl⟩
  · exact absurd rfl (g i (by omega) hi)
  · refine ⟨(j : Int), bind_t h1 rfl, fun h => ?_, fun h => ?_⟩
    · have : j = i := by omega
      rw [← this]
      rw [this] at g3 ⊢
      exact g3
    · have h3 : ¬ j < i := fun q => h j (by omega) q g4
      have h4 : ¬ i < j := fun q => g3 i (by omega) q rfl
      omega
theorem impl_NodeOk_l0 (K : Nat) (hK : 10000000000000 ≤ K) (b : Bool) (n : List ByteArray) (m : List Int) (t : ByteArray) (hn : n.length ≤ 1000000000000) (hs : ∀ x ∈ n, x.size ≤ 1000000000000) (hm : n.length = m.length) : ∀ (f i : Nat), n.length < i + f → i ≤ n.length →
    impl.NodeOk.l0.f K b n m t f (i : Int) = some (if allF (kidAt n m) i n.length then .inr () else .inl ()) := by
  intro f
  induction f with
  | zero => intro i h hi; omega
  | succ f ih =>
    intro i h hi
    rw [impl.NodeOk.l0.f]
    by_cases c : i < n.length
    · have e1 : w64 ((i : Int) + 1) = ((i + 1 : Nat) : Int) := wsucc (by omega)
      have hx : (n.getD i noVal).size ≤ 1000000000000 := by rw [getD_at c]; exact hs _ (List.getElem_mem c)
      have hN := impl_NameOk_eq K hK (n.getD i noVal) hx
      have hI := impl_isKid_eq (m.getD i 0)
      obtain ⟨r, hF, hf⟩ := impl_Index_first K hK m (by omega) i (by omega)
      have hF : slices.Index_int_int.f K m (m.getD i 0) = some r := hF
      simp only [Int.toNat_natCast, e1]
      by_cases d1 : nameOk (nam n i)
      case neg =>
        rw [if_neg (fun g => d1 ((allF_step c).1 g).1.1)]
        exact br_d (by omega) (ck_t (by omega) (bind_t hN (br_n d1 rfl)))
      by_cases d3 : 0 < i → strLt (nam n (i - 1)) (nam n i) = true
      case neg =>
        rw [if_neg (fun g => d3 ((allF_step c).1 g).1.2.2.1)]
        have d0 : 0 < i := Decidable.byContradiction fun h => d3 (fun h' => absurd h' h)
        have d4 : ¬ strLt (nam n (i - 1)) (nam n i) = true := fun h => d3 (fun _ => h)
        have e2 : w64 ((i : Int) - 1) = ((i - 1 : Nat) : Int) := by rw [w64_id (by omega) (by omega)]; omega
        simp only [e2, Int.toNat_natCast]
        exact br_d (by omega) (ck_t (by omega) (bind_t hN (br_d d1 (br_d (by omega) (ck_t (by omega) (ck_t (by omega) (br_f (Bool.eq_false_iff.2 d4 : strLt (nam n (i - 1)) (nam n i) = false) rfl)))))))
      have fin : ∀ {q : Option (Unit ⊕ Unit)}, (ck ((i : Int) < (m.length : Int)) (Option.bind (impl.isKid.f (m.getD i 0)) fun x2 => cond x2 (Option.bind (slices.Index_int_int.f K m (m.getD i 0)) fun x3 => cond (x3 != (i : Int)) (some (.inl ())) (impl.NodeOk.l0.f K b n m t f ((i + 1 : Nat) : Int))) (some (.inl ()))) = q) → cond (decide ((i : Int) < (n.length : Int))) (ck (0 ≤ (i : Int)) (Option.bind (impl.NameOk.f K (n.getD i noVal)) fun x1 => cond (x1) (cond (decide ((i : Int) > 0)) (ck (0 ≤ (w64 ((i : Int) - 1))) (ck ((w64 ((i : Int) - 1)) < (n.length : Int)) (cond (strLt (n.getD ((w64 ((i : Int) - 1)).toNat) noVal) (n.getD i noVal)) (ck ((i : Int) < (m.length : Int)) (Option.bind (impl.isKid.f (m.getD i 0)) fun x2 => cond x2 (Option.bind (slices.Index_int_int.f K m (m.getD i 0)) fun x3 => cond (x3 != (i : Int)) (some (.inl ())) (impl.NodeOk.l0.f K b n m t f ((i + 1 : Nat) : Int))) (some (.inl ())))) (some (.inl ()))))) (ck ((i : Int) < (m.length : Int)) (Option.bind (impl.isKid.f (m.getD i 0)) fun x2 => cond x2 (Option.bind (slices.Index_int_int.f K m (m.getD i 0)) fun x3 => cond (x3 != (i : Int)) (some (.inl ())) (impl.NodeOk.l0.f K b n m t f ((i + 1 : Nat) : Int))) (some (.inl ()))))) (some (.inl ())))) (some (.inr ())) = q := by
        intro q hq
        by_cases d0 : 0 < i
        · have e2 : w64 ((i : Int) - 1) = ((i - 1 : Nat) : Int) := by rw [w64_id (by omega) (by omega)]; omega
          simp only [e2, Int.toNat_natCast]
          exact br_d (by omega) (ck_t (by omega) (bind_t hN (br_d d1 (br_d (by omega) (ck_t (by omega) (ck_t (by omega) (br_t (d3 d0) hq)))))))
        · exact br_d (by omega) (ck_t (by omega) (bind_t hN (br_d d1 (br_n (by omega) hq))))
      refine fin ?_
      by_cases d2 : 1 ≤ kid m i ∧ kid m i ≤ 11
      case neg =>
        rw [if_neg (fun g => d2 ((allF_step c).1 g).1.2.1)]
        exact ck_t (by omega) (bind_t hI (br_n d2 rfl))
      by_cases d5 : allF (fun k => kid m k ≠ kid m i) 0 i
      case neg =>
        rw [if_neg (fun g => d5 ((allF_step c).1 g).1.2.2.2)]
        exact ck_t (by omega) (bind_t hI (br_d d2 (bind_t hF (br_t (bne_iff_ne.2 (fun h => d5 (hf.1 h))) rfl))))
      rw [if_iff ((allF_step c).trans ⟨fun g => g.2, fun g => ⟨⟨d1, d2, d3, d5⟩, g⟩⟩)]
      exact ck_t (by omega) (bind_t hI (br_d d2 (bind_t hF (br_f (by rw [hf.2 d5]; simp) (ih (i + 1) (by omega) (by omega))))))
    · rw [if_pos (allF_end (by omega))]
      exact br_n (by omega) rfl
theorem impl_NodeOk_eq (K : Nat) (hK : 10000000000000 ≤ K) (b : Bool) (n : List ByteArray) (m : List Int) (t : ByteArray) (hn : n.length ≤ 1000000000000) (hs : ∀ x ∈ n, x.size ≤ 1000000000000) (hm : m.length ≤ 1000000000000) (ht : t.size ≤ 1000000000000) : impl.NodeOk.f K b n m t = some (decide (nodeOk b n m t)) := by
  unfold impl.NodeOk.f
  cases b with
  | true =>
    refine br_t rfl ?_
    by_cases c : n.length = m.length
    case neg =>
      rw [decide_eq_false (p := nodeOk true n m t) (fun g => by rcases g with g | g; exact c g.2.1; cases g.1)]
      exact br_t (bne_iff_ne.2 (by omega)) rfl
    refine br_f (by simp [c]) ?_
    by_cases c2 : t.size = 0
    case neg =>
      rw [decide_eq_false (p := nodeOk true n m t) (fun g => by rcases g with g | g; exact c2 g.2.2.1; cases g.1)]
      exact br_f (by rw [← Bool.not_eq_true, strEq_iff]; exact fun h => c2 (size_zero.2 h)) rfl
    refine br_t (strEq_iff.2 (size_zero.1 c2)) (bind_t (impl_NodeOk_l0 K hK true n m t hn hs c K 0 (by omega) (by omega)) ?_)
    by_cases d : allF (kidAt n m) 0 n.length
    · rw [if_pos d, decide_eq_true (p := nodeOk true n m t) (.inl ⟨rfl, c, c2, d⟩)]; rfl
    · rw [if_neg d, decide_eq_false (p := nodeOk true n m t) (fun g => by rcases g with g | g; exact d g.2.2.2; cases g.1)]; rfl
  | false =>
    refine br_f rfl ?_
    by_cases c : n.length = 0 ∧ m.length = 0
    · refine br_t (beq_iff_eq.2 (by omega)) (br_t (beq_iff_eq.2 (by omega)) ?_)
      congr 1
      exact decide_eq_decide.2 ⟨fun g => .inr ⟨rfl, c.1, c.2, by omega⟩, fun g => by rcases g with g | g; cases g.1; have := g.2.2.2; omega⟩
    · rw [decide_eq_false (p := nodeOk false n m t) (fun g => by rcases g with g | g; cases g.1; exact c ⟨g.2.1, g.2.2.1⟩)]
      by_cases c1 : n.length = 0
      · exact br_t (beq_iff_eq.2 (by omega)) (br_f (beq_eq_false_iff_ne.2 (by omega)) rfl)
      · exact br_f (beq_eq_false_iff_ne.2 (by omega)) rfl
theorem spec_NodeText_l0 (b : Bool) (n : List ByteArray) (m : List Int) (t : ByteArray) (hn : n.length ≤ 1000000000) (hm : n.length = m.length) (ha : allF (kidAt n m) 0 n.length) : ∀ (f i : Nat) (x : List Int), n.length < i + f → i ≤ n.length → x.length ≤ 1 + 8 * i →
    spec.NodeText.l0.f b n m t f (ofBytes x) (i : Int) = some (ofBytes (x ++ nodeL n m i (n.length - i))) := by
  intro f
  induction f with
  | zero => intro i x h hi; omega
  | succ f ih =>
    intro i x h hi hx
    rw [spec.NodeText.l0.f]
    by_cases c : i < n.length
    · have e1 : w64 ((i : Int) + 1) = ((i + 1 : Nat) : Int) := wsucc (by omega)
      have hk := ha i (by omega) c
      have hsz : (n.getD i noVal).size ≤ 6 := hk.1.2.2
      have e3 : ((ofBytes x ++ n.getD i noVal) ++ (ByteArray.mk #[61])) ++ (ofBytes [IntKind.u8.wrap (w64 (48 + (m.getD i 0)))]) = ofBytes (x ++ nodeE n m i) := by
        rw [show nodeE n m i = bytesL (n.getD i noVal) ++ ([61] ++ [IntKind.u8.wrap (w64 (48 + (m.getD i 0)))]) from rfl, ofBytes_append, ofBytes_append, ofBytes_append, ofBytes_bytesL, ByteArray.append_assoc, ByteArray.append_assoc]
        rfl
      have z : (ByteArray.mk #[61]).size = 1 := rfl
      simp only [Int.toNat_natCast, e1, e3]
      have hr := ih (i + 1) (x ++ nodeE n m i) (by omega) (by omega) (by have := nodeE_len (m := m) hk.1; rw [List.length_append]; omega)
      rw [show n.length - i = (n.length - (i + 1)) + 1 by omega, nodeL_succ, ← List.append_assoc]
      refine br_d (by omega) (ck_t (by omega) (ck_t ?_ (ck_t ?_ (ck_t (by omega) (ck_t ?_ hr)))))
      · rw [ofBytes_size]; omega
      · rw [ByteArray.size_append, ofBytes_size]; omega
      · rw [ByteArray.size_append, ByteArray.size_append, ofBytes_size, ofBytes_size, z]; simp only [List.length_cons, List.length_nil]; omega
    · rw [show n.length - i = 0 by omega, show nodeL n m i 0 = [] from rfl, List.append_nil]
      exact br_n (by omega) rfl
theorem impl_NodeText_l0 (b : Bool) (n : List ByteArray) (m : List Int) (t : ByteArray) (hn : n.length ≤ 1000000000) (hm : n.length = m.length) (ha : allF (kidAt n m) 0 n.length) : ∀ (f i : Nat) (x : List Int), n.length < i + f → i ≤ n.length → x.length ≤ 1 + 8 * i →
    impl.NodeText.l0.f b n m t f x (i : Int) = some (x ++ nodeL n m i (n.length - i)) := by
  intro f
  induction f with
  | zero => intro i x h hi; omega
  | succ f ih =>
    intro i x h hi hx
    rw [impl.NodeText.l0.f]
    by_cases c : i < n.length
    · have e1 : w64 ((i : Int) + 1) = ((i + 1 : Nat) : Int) := wsucc (by omega)
      have hk := ha i (by omega) c
      have hsz : (n.getD i noVal).size ≤ 6 := hk.1.2.2
      have e3 : (x ++ bytesL (n.getD i noVal)) ++ [61, IntKind.u8.wrap (w64 (48 + (m.getD i 0)))] = x ++ nodeE n m i := by
        rw [List.append_assoc]; rfl
      have hl := nodeE_len (m := m) hk.1
      simp only [Int.toNat_natCast, e1, e3]
      have hr := ih (i + 1) (x ++ nodeE n m i) (by omega) (by omega) (by rw [List.length_append]; omega)
      rw [show n.length - i = (n.length - (i + 1)) + 1 by omega, nodeL_succ, ← List.append_assoc]
      refine br_d (by omega) (ck_t (by omega) (ck_t ?_ (ck_t (by omega) (ck_t ?_ hr))))
      · rw [List.length_append, bytesL_len]; omega
      · rw [List.length_append]; omega
    · rw [show n.length - i = 0 by omega, show nodeL n m i 0 = [] from rfl, List.append_nil]
      exact br_n (by omega) rfl
theorem nodeOk_dir {n : List ByteArray} {m : List Int} {t : ByteArray} (h : nodeOk true n m t) : n.length = m.length ∧ allF (kidAt n m) 0 n.length := by
  rcases h with h | h
  · exact ⟨h.2.1, h.2.2.2⟩
  · cases h.1
theorem spec_NodeText_eq (K : Nat) (hK : 10000000000000 ≤ K) (b : Bool) (n : List ByteArray) (m : List Int) (t : ByteArray) (hn : n.length ≤ 1000000000) (hs : ∀ x ∈ n, x.size ≤ 1000000000000) (hm : m.length ≤ 1000000000000) (ht : t.size ≤ 1000000000000) : spec.NodeText.f K b n m t = some (nodeT b n m t) := by
  unfold spec.NodeText.f nodeT
  refine bind_t (spec_NodeOk_eq K hK b n m t (by omega) hs hm ht) ?_
  by_cases c : nodeOk b n m t
  case neg => rw [if_neg c]; exact br_n c rfl
  rw [if_pos c]
  refine br_d c ?_
  cases b with
  | true =>
    obtain ⟨h1, h2⟩ := nodeOk_dir c
    exact br_t rfl (bind_t (spec_NodeText_l0 true n m t hn h1 h2 K 0 [100] (by omega) (by omega) (by simp)) rfl)
  | false => exact br_f rfl (ck_t (by rw [show (ByteArray.mk #[102]).size = 1 from rfl]; omega) rfl)
theorem impl_NodeText_eq (K : Nat) (hK : 10000000000000 ≤ K) (b : Bool) (n : List ByteArray) (m : List Int) (t : ByteArray) (hn : n.length ≤ 1000000000) (hs : ∀ x ∈ n, x.size ≤ 1000000000000) (hm : m.length ≤ 1000000000000) (ht : t.size ≤ 1000000000000) : impl.NodeText.f K b n m t = some (nodeT b n m t) := by
  unfold impl.NodeText.f nodeT
  refine bind_t (impl_NodeOk_eq K hK b n m t (by omega) hs hm ht) ?_
  by_cases c : nodeOk b n m t
  case neg => rw [if_neg c]; exact br_n c rfl
  rw [if_pos c]
  refine br_d c ?_
  cases b with
  | true =>
    obtain ⟨h1, h2⟩ := nodeOk_dir c
    exact br_t rfl (bind_t (impl_NodeText_l0 true n m t hn h1 h2 K 0 [100] (by omega) (by omega) (by simp)) rfl)
  | false => exact br_f rfl (ck_t (by rw [show (ByteArray.mk #[102]).size = 1 from rfl]; omega) rfl)
theorem szStringS_l0 (a : List ByteArray) (hl : a.length ≤ 1000000000000000) (hs : ∀ x ∈ a, x.size ≤ maxLen) : ∀ (f i : Nat) (left : Int), a.length < i + f → i ≤ a.length → 0 ≤ left → left ≤ 1000000000000 →
    laws.szStringS.l0.f a f left (i : Int) = some (.inl ()) ∨ ∃ r, laws.szStringS.l0.f a f left (i : Int) = some (.inr r) ∧ 0 ≤ r ∧ r + tot (a.drop i) = left := by
  intro f
  induction f with
  | zero => intro i left h hi; omega
  | succ f ih =>
    intro i left h hi h0 h1
    rw [laws.szStringS.l0.f]
    by_cases c : i < a.length
    · have e1 : w64 ((i : Int) + 1) = ((i + 1 : Nat) : Int) := wsucc (by omega)
      have hx := hs _ (List.getElem_mem c)
      have hm := maxLen_le
      have e2 : w64 (left - (a[i].size : Int)) = left - (a[i].size : Int) := w64_id (by omega) (by omega)
      simp only [Int.toNat_natCast, getD_at c, e1, e2]
      by_cases c2 : left - (a[i].size : Int) < 0
      · exact .inl (br_d (by omega) (ck_t (by omega) (br_d c2 rfl)))
      · rcases ih (i + 1) (left - (a[i].size : Int)) (by omega) (by omega) (by omega) (by omega) with g | ⟨r, g1, g2, g3⟩
        · exact .inl (br_d (by omega) (ck_t (by omega) (br_n c2 g)))
        · refine .inr ⟨r, br_d (by omega) (ck_t (by omega) (br_n c2 g1)), g2, ?_⟩
          rw [List.drop_eq_getElem_cons c, tot_cons]
          omega
    · refine .inr ⟨left, br_n (by omega) rfl, h0, ?_⟩
      rw [List.drop_of_length_le (by omega)]
      simp [tot]
theorem szStringS_eq (K : Nat) (hK : 10000000000000 ≤ K) (a : List ByteArray) (hl : a.length ≤ maxLen) (hs : ∀ x ∈ a, x.size ≤ maxLen) (left : Int) (h0 : 0 ≤ left) (h1 : left ≤ 1000000000000) :
    ∃ r, laws.szStringS.f K a left = some r ∧ (0 ≤ r → r + a.length + tot a = left) := by
  unfold laws.szStringS.f
  have hm := maxLen_le
  have e2 : w64 (left - (a.length : Int)) = left - (a.length : Int) := w64_id (by omega) (by omega)
  rw [e2]
  by_cases c : left - (a.length : Int) < 0
  · exact ⟨-1, br_d c rfl, fun h => by omega⟩
  · rcases szStringS_l0 a (by omega) hs K 0 (left - a.length) (by omega) (by omega) (by omega) (by omega) with g | ⟨r, g1, g2, g3⟩
    · exact ⟨-1, br_n c (bind_t g rfl), fun h => by omega⟩
    · refine ⟨r, br_n c (bind_t g1 rfl), fun _ => ?_⟩
      rw [List.drop_zero] at g3
      omega
theorem szIntS_eq (a : List Int) (hl : a.length ≤ maxLen) (left : Int) (h0 : 0 ≤ left) (h1 : left ≤ 1000000000000) : ∃ r, laws.szIntS.f a left = some r ∧ (0 ≤ r → r + a.length = left) := by
  unfold laws.szIntS.f
  have hm := maxLen_le
  have e2 : w64 (left - (a.length : Int)) = left - (a.length : Int) := w64_id (by omega) (by omega)
  rw [e2]
  by_cases c : left - (a.length : Int) < 0
  · exact ⟨-1, br_d c rfl, fun h => by omega⟩
  · exact ⟨_, br_n c rfl, fun _ => by omega⟩
theorem toStringS_l0 (a : List ByteArray) (hl : a.length ≤ 1000000000000000) : ∀ (f i : Nat) (v : List ByteArray), a.length < i + f → i ≤ a.length → v.length = a.length → v.take i = a.take i → laws.toStringS.l0.f a f v (i : Int) = some a := by
  intro f
  induction f with
  | zero => intro i v h hi; omega
  | succ f ih =>
    intro i v h hi hv ht
    rw [laws.toStringS.l0.f]
    by_cases c : i < a.length
    · have e1 : w64 ((i : Int) + 1) = ((i + 1 : Nat) : Int) := wsucc (by omega)
      simp only [Int.toNat_natCast, getD_at c, e1]
      exact br_d (by omega) (ck_t (by omega) (ck_t (by omega) (ih (i + 1) _ (by omega) (by omega) (by rw [List.length_set]; exact hv) (set_take c hv ht))))
    · rw [take_all (by omega) hv ht]
      exact br_n (by omega) rfl
theorem toStringS_eq (K : Nat) (hK : 10000000000000 ≤ K) (a : List ByteArray) (hl : a.length ≤ 1000000000000) : laws.toStringS.f K a = some a := by
  unfold laws.toStringS.f
  exact ck_t (by omega) (bind_t (toStringS_l0 a (by omega) K 0 _ (by omega) (by omega) (by rw [List.length_replicate]) rfl) rfl)
theorem toIntS_l0 (a : List Int) (hl : a.length ≤ 1000000000000000) : ∀ (f i : Nat) (v : List Int), a.length < i + f → i ≤ a.length → v.length = a.length → v.take i = a.take i → laws.toIntS.l0.f a f v (i : Int) = some a := by
  intro f
  induction f with
  | zero => intro i v h hi; omega
  | succ f ih =>
    intro i v h hi hv ht
    rw [laws.toIntS.l0.f]
    by_cases c : i < a.length
    · have e1 : w64 ((i : Int) + 1) = ((i + 1 : Nat) : Int) := wsucc (by omega)
      simp only [Int.toNat_natCast, getD_at c, e1]
      exact br_d (by omega) (ck_t (by omega) (ck_t (by omega) (ih (i + 1) _ (by omega) (by omega) (by rw [List.length_set]; exact hv) (set_take c hv ht))))
    · rw [take_all (by omega) hv ht]
      exact br_n (by omega) rfl
theorem toIntS_eq (K : Nat) (hK : 10000000000000 ≤ K) (a : List Int) (hl : a.length ≤ 1000000000000) : laws.toIntS.f K a = some a := by
  unfold laws.toIntS.f
  exact ck_t (by omega) (bind_t (toIntS_l0 a (by omega) K 0 _ (by omega) (by omega) (by rw [List.length_replicate]) rfl) rfl)
theorem eqStringS_l0 (a : List ByteArray) (hl : a.length ≤ 1000000000000000) : ∀ (f i : Nat), a.length < i + f → i ≤ a.length → laws.eqStringS.l0.f a a f (i : Int) = some (.inr ()) := by
  intro f
  induction f with
  | zero => intro i h hi; omega
  | succ f ih =>
    intro i h hi
    rw [laws.eqStringS.l0.f]
    by_cases c : i < a.length
    · have e1 : w64 ((i : Int) + 1) = ((i + 1 : Nat) : Int) := wsucc (by omega)
      simp only [e1]
      exact br_d (by omega) (ck_t (by omega) (ck_t (by omega) (br_t (strEq_self _) (ih (i + 1) (by omega) (by omega)))))
    · exact br_n (by omega) rfl
theorem eqStringS_self (K : Nat) (hK : 10000000000000 ≤ K) (a : List ByteArray) (hl : a.length ≤ 1000000000000) : laws.eqStringS.f K a a = some true := by
  unfold laws.eqStringS.f
  exact br_f (by simp) (bind_t (eqStringS_l0 a (by omega) K 0 (by omega) (by omega)) rfl)
theorem eqIntS_l0 (a : List Int) (hl : a.length ≤ 1000000000000000) : ∀ (f i : Nat), a.length < i + f → i ≤ a.length → laws.eqIntS.l0.f a a f (i : Int) = some (.inr ()) := by
  intro f
  induction f with
  | zero => intro i h hi; omega
  | succ f ih =>
    intro i h hi
    rw [laws.eqIntS.l0.f]
    by_cases c : i < a.length
    · have e1 : w64 ((i : Int) + 1) = ((i + 1 : Nat) : Int) := wsucc (by omega)
      simp only [e1]
      exact br_d (by omega) (ck_t (by omega) (ck_t (by omega) (br_f (by simp) (ih (i + 1) (by omega) (by omega)))))
    · exact br_n (by omega) rfl
theorem eqIntS_self (K : Nat) (hK : 10000000000000 ≤ K) (a : List Int) (hl : a.length ≤ 1000000000000) : laws.eqIntS.f K a a = some true := by
  unfold laws.eqIntS.f
  exact br_f (by simp) (bind_t (eqIntS_l0 a (by omega) K 0 (by omega) (by omega)) rfl)
theorem eqNode_self (K : Nat) (hK : 10000000000000 ≤ K) (b : Bool) (n : List ByteArray) (m : List Int) (t : ByteArray) (hn : n.length ≤ 1000000000000) (hm : m.length ≤ 1000000000000) : laws.eqNode.f K b n m t b n m t = some true := by
  unfold laws.eqNode.f
  exact br_t (by simp) (bind_t (eqStringS_self K hK n hn) (br_t rfl (bind_t (eqIntS_self K hK m hm) (br_t rfl (br_t (strEq_self _) rfl)))))
theorem szNode_eq (K : Nat) (hK : 10000000000000 ≤ K) (b : Bool) (n : List ByteArray) (m : List Int) (t : ByteArray) (hn : n.length ≤ maxLen) (hs : ∀ x ∈ n, x.size ≤ maxLen) (hm : m.length ≤ maxLen) (ht : t.size ≤ maxLen) : ∃ r, laws.szNode.f K b n m t 1048576 = some r ∧ (0 ≤ r → n.length + tot n + m.length + t.size ≤ 1048576) := by
  unfold laws.szNode.f
  obtain ⟨r, h1, h2⟩ := szStringS_eq K hK n hn hs 1048576 (by decide) (by decide)
  by_cases c : r < 0
  · exact ⟨-1, bind_t h1 (br_d c rfl), fun h => by omega⟩
  have h3 := h2 (by omega)
  obtain ⟨q, g1, g2⟩ := szIntS_eq m hm r (by omega) (by omega)
  by_cases c2 : q < 0
  · exact ⟨-1, bind_t h1 (br_n c (bind_t g1 (br_d c2 rfl))), fun h => by omega⟩
  have g3 := g2 (by omega)
  have e : w64 (q - (t.size : Int)) = q - (t.size : Int) := by have := maxLen_le; exact w64_id (by omega) (by omega)
  by_cases c3 : q - (t.size : Int) < 0
  · exact ⟨-1, bind_t h1 (br_n c (bind_t g1 (br_n c2 (br_d (by rw [e]; exact c3) rfl)))), fun h => by omega⟩
  · exact ⟨_, bind_t h1 (br_n c (bind_t g1 (br_n c2 (br_n (by rw [e]; exact c3) rfl)))), fun h => by omega⟩
theorem toNode_eq (K : Nat) (hK : 10000000000000 ≤ K) (b : Bool) (n : List ByteArray) (m : List Int) (t : ByteArray) (hn : n.length ≤ 1000000000000) (hm : m.length ≤ 1000000000000) : laws.toNode.f K b n m t = some (n, m) := by
  unfold laws.toNode.f
  exact bind_t (toStringS_eq K hK n hn) (bind_t (toIntS_eq K hK m hm) rfl)
theorem FnExactNodeText_pure (b : Bool) (n : List ByteArray) (m : List Int) (t : ByteArray) (hn : n.length ≤ maxLen) (hs : ∀ x ∈ n, x.size ≤ maxLen) (hm : m.length ≤ maxLen) (hm' : ∀ x ∈ m, (Lit.int .i64 x).wf = true) (ht : t.size ≤ maxLen) : laws.FnExactNodeText.f 10000000000000 b n m t = some true := by
  unfold laws.FnExactNodeText.f
  obtain ⟨r, h1, h2⟩ := szNode_eq 10000000000000 (by decide) b n m t hn hs hm ht
  refine bind_t h1 ?_
  by_cases c : r < 0
  · exact br_d c rfl
  have h3 := h2 (by omega)
  have hs' : ∀ x ∈ n, x.size ≤ 1000000000000 := fun x hx => by have := tot_mem hx; omega
  have hto := toNode_eq 10000000000000 (by decide) b n m t (by omega) (by omega)
  refine br_n c (bind_t hto ?_)
  refine bind_t (spec_NodeText_eq _ (by decide) b n m t (by omega) hs' (by omega) (by omega)) (bind_t hto ?_)
  refine bind_t (impl_NodeText_eq _ (by decide) b n m t (by omega) hs' (by omega) (by omega)) (br_t (strEq_self _) (bind_t hto ?_))
  exact bind_t (eqNode_self _ (by decide) b n m t (by omega) (by omega)) (br_t rfl rfl)
end Go.Proofs.Ythneilmhnbboeaa.Pure
