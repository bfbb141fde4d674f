/- The law FnNodes, in plain words: its function answers true. -/
import Derived.Test.YthneilmhnbboeaaGFnNodes
import Derived.Test.YthneilmhnbboeaaDenMod
import Derived.KernelRfl
namespace Go.Proofs.Ythneilmhnbboeaa.Pure
open Go Go.RowKit Go.Proofs.Ythneilmhnbboeaa.Den Go.Proofs.Ythneilmhnbboeaa.GFnNodes
set_option linter.unusedSimpArgs false
set_option linter.unusedVariables false
theorem nat_tmod (n m : Nat) : ((n : Int).tmod (m : Int)) = ((n % m : Nat) : Int) := (Int.ofNat_tmod n m).symm
theorem nat_tdiv (n m : Nat) : ((n : Int).tdiv (m : Int)) = ((n / m : Nat) : Int) := (Int.ofNat_tdiv n m).symm
theorem impl_in_eq (n lo hi : Int) : impl.in_.f n lo hi = some (decide (lo ≤ n ∧ n ≤ hi)) := by
  unfold impl.in_.f
  by_cases c : n ≥ lo
  · refine br_d c ?_
    by_cases d : n ≤ hi
    · rw [decide_eq_true d, decide_eq_true ⟨c, d⟩]
    · rw [decide_eq_false d, decide_eq_false (fun h => d h.2)]
  · refine br_n c ?_
    rw [decide_eq_false (fun h => c h.1)]
theorem spec_l1In_eq (n lo hi : Int) : spec.l1In.f n lo hi = some (decide (lo ≤ n ∧ n ≤ hi)) := by
  unfold spec.l1In.f
  by_cases c : n ≥ lo
  · refine br_d c ?_
    by_cases d : n ≤ hi
    · rw [decide_eq_true d, decide_eq_true ⟨c, d⟩]
    · rw [decide_eq_false d, decide_eq_false (fun h => d h.2)]
  · refine br_n c ?_
    rw [decide_eq_false (fun h => c h.1)]
theorem spec_NameOk_l0 (s : ByteArray) (hl : s.size ≤ 1000000000000) : ∀ (f i : Nat), s.size < i + f → i ≤ s.size →
    spec.NameOk.l0.f s f (i : Int) = some (if allF (fun j => 97 ≤ byteAt s (j : Int) ∧ byteAt s (j : Int) ≤ 122) i s.size then .inr () else .inl ()) := by
  intro f
  induction f with
  | zero => intro i h hi; omega
  | succ f ih =>
    intro i h hi
    rw [spec.NameOk.l0.f]
    by_cases c : i < s.size
    · have e1 : w64 ((i : Int) + 1) = ((i + 1 : Nat) : Int) := wsucc (by omega)
      simp only [e1]
      by_cases d1 : byteAt s (i : Int) < 97
      · rw [if_neg (fun g => by have : 97 ≤ byteAt s (i : Int) ∧ byteAt s (i : Int) ≤ 122 := ((allF_step c).1 g).1; omega)]
        exact br_d (by omega) (ck_t (by omega) (br_d d1 rfl))
      · by_cases d2 : byteAt s (i : Int) > 122
        · rw [if_neg (fun g => by have : 97 ≤ byteAt s (i : Int) ∧ byteAt s (i : Int) ≤ 122 := ((allF_step c).1 g).1; omega)]
          exact br_d (by omega) (ck_t (by omega) (br_n d1 (br_d d2 rfl)))
        · rw [if_iff ((allF_step c).trans ⟨fun g => g.2, fun g => ⟨⟨by omega, by omega⟩, g⟩⟩)]
          exact br_d (by omega) (ck_t (by omega) (br_n d1 (br_n d2 (ih (i + 1) (by omega) (by omega)))))
    · rw [if_pos (allF_end (by omega))]
      exact br_n (by omega) rfl
theorem spec_NameOk_eq (K : Nat) (hK : 10000000000000 ≤ K) (s : ByteArray) (hl : s.size ≤ 1000000000000) : spec.NameOk.f K s = some (decide (nameOk s)) := by
  unfold spec.NameOk.f
  refine bind_t (spec_NameOk_l0 s hl K 0 (by omega) (by omega)) ?_
  by_cases d : allF (fun j => 97 ≤ byteAt s (j : Int) ∧ byteAt s (j : Int) ≤ 122) 0 s.size
  · rw [if_pos d]
    refine bind_t (spec_l1In_eq _ 1 6) ?_
    congr 1
    exact decide_eq_decide.2 ⟨fun g => ⟨d, by omega, by omega⟩, fun g => by have := g.2; omega⟩
  · rw [if_neg d, decide_eq_false (p := nameOk s) (fun g => d g.1)]
    rfl
theorem impl_NameOk_l0 (s : ByteArray) (hl : s.size ≤ 1000000000000) : ∀ (f i : Nat), s.size < i + f → i ≤ s.size →
    impl.NameOk.l0.f s f (i : Int) = some (if allF (fun j => 97 ≤ byteAt s (j : Int) ∧ byteAt s (j : Int) ≤ 122) i s.size then .inr () else .inl ()) := by
  intro f
  induction f with
  | zero => intro i h hi; omega
  | succ f ih =>
    intro i h hi
    rw [impl.NameOk.l0.f]
    by_cases c : i < s.size
    · have e1 : w64 ((i : Int) + 1) = ((i + 1 : Nat) : Int) := wsucc (by omega)
      simp only [e1]
      by_cases d1 : byteAt s (i : Int) < 97
      · rw [if_neg (fun g => by have : 97 ≤ byteAt s (i : Int) ∧ byteAt s (i : Int) ≤ 122 := ((allF_step c).1 g).1; omega)]
        exact br_d (by omega) (ck_t (by omega) (br_d d1 rfl))
      · by_cases d2 : byteAt s (i : Int) > 122
        · rw [if_neg (fun g => by have : 97 ≤ byteAt s (i : Int) ∧ byteAt s (i : Int) ≤ 122 := ((allF_step c).1 g).1; omega)]
          exact br_d (by omega) (ck_t (by omega) (br_n d1 (br_d d2 rfl)))
        · rw [if_iff ((allF_step c).trans ⟨fun g => g.2, fun g => ⟨⟨by omega, by omega⟩, g⟩⟩)]
          exact br_d (by omega) (ck_t (by omega) (br_n d1 (br_n d2 (ih (i + 1) (by omega) (by omega)))))
    · rw [if_pos (allF_end (by omega))]
      exact br_n (by omega) rfl
theorem impl_NameOk_eq (K : Nat) (hK : 10000000000000 ≤ K) (s : ByteArray) (hl : s.size ≤ 1000000000000) : impl.NameOk.f K s = some (decide (nameOk s)) := by
  unfold impl.NameOk.f
  refine bind_t (impl_NameOk_l0 s hl K 0 (by omega) (by omega)) ?_
  by_cases d : allF (fun j => 97 ≤ byteAt s (j : Int) ∧ byteAt s (j : Int) ≤ 122) 0 s.size
  · rw [if_pos d]
    refine bind_t (impl_in_eq _ 1 6) ?_
    congr 1
    exact decide_eq_decide.2 ⟨fun g => ⟨d, by omega, by omega⟩, fun g => by have := g.2; omega⟩
  · rw [if_neg d, decide_eq_false (p := nameOk s) (fun g => d g.1)]
    rfl
theorem spec_NodeOk_in1 (b : Bool) (n : List ByteArray) (m : List Int) (t : ByteArray) (hl : m.length ≤ 1000000000000) (i : Nat) (hi : i < m.length) (x y : Bool) : ∀ (f k : Nat), i < k + f → k ≤ i →
    spec.NodeOk.l1.f b n m t (i : Int) f (k : Int) x y = some (if allF (fun k => kid m k ≠ kid m i) k i then .inr (x, y) else .inl ()) := by
  intro f
  induction f with
  | zero => intro k h hk; omega
  | succ f ih =>
    intro k h hk
    rw [spec.NodeOk.l1.f]
    by_cases c : k < i
    · have e1 : w64 ((k : Int) + 1) = ((k + 1 : Nat) : Int) := wsucc (by omega)
      simp only [Int.toNat_natCast, e1]
      by_cases d : kid m k = kid m i
      · rw [if_neg (fun g => (show kid m k ≠ kid m i from ((allF_step c).1 g).1) d)]
        exact br_d (by omega) (ck_t (by omega) (ck_t (by omega) (ck_t (by omega) (ck_t (by omega) (br_t (beq_iff_eq.2 d) rfl)))))
      · rw [if_iff ((allF_step c).trans ⟨fun g => g.2, fun g => ⟨d, g⟩⟩)]
        exact br_d (by omega) (ck_t (by omega) (ck_t (by omega) (ck_t (by omega) (ck_t (by omega) (br_f (beq_eq_false_iff_ne.2 d) (ih (k + 1) (by omega) (by omega)))))))
    · rw [if_pos (allF_end (by omega))]
      exact br_n (by omega) rfl
theorem spec_NodeOk_in2 (b : Bool) (n : List ByteArray) (m : List Int) (t : ByteArray) (hl : m.length ≤ 1000000000000) (i : Nat) (hi : i < m.length) (x y : Bool) : ∀ (f k : Nat), i < k + f → k ≤ i →
    spec.NodeOk.l1_1.f b n m t (i : Int) f (k : Int) x y = some (if allF (fun k => kid m k ≠ kid m i) k i then .inr (x, y) else .inl ()) := by
  intro f
  induction f with
  | zero => intro k h hk; omega
  | succ f ih =>
    intro k h hk
    rw [spec.NodeOk.l1_1.f]
    by_cases c : k < i
    · have e1 : w64 ((k : Int) + 1) = ((k + 1 : Nat) : Int) := wsucc (by omega)
      simp only [Int.toNat_natCast, e1]
      by_cases d : kid m k = kid m i
      · rw [if_neg (fun g => (show kid m k ≠ kid m i from ((allF_step c).1 g).1) d)]
        exact br_d (by omega) (ck_t (by omega) (ck_t (by omega) (ck_t (by omega) (ck_t (by omega) (br_t (beq_iff_eq.2 d) rfl)))))
      · rw [if_iff ((allF_step c).trans ⟨fun g => g.2, fun g => ⟨d, g⟩⟩)]
        exact br_d (by omega) (ck_t (by omega) (ck_t (by omega) (ck_t (by omega) (ck_t (by omega) (br_f (beq_eq_false_iff_ne.2 d) (ih (k + 1) (by omega) (by omega)))))))
    · rw [if_pos (allF_end (by omega))]
      exact br_n (by omega) rfl
theorem spec_NodeOk_l0 (K : Nat) (hK : 10000000000000 ≤ K) (b : Bool) (n : List ByteArray) (m : List Int) (t : ByteArray) (hn : n.length ≤ 1000000000000) (hs : ∀ x ∈ n, x.size ≤ 1000000000000) (hm : n.length = m.length) : ∀ (f i : Nat), n.length < i + f → i ≤ n.length →
    spec.NodeOk.l0.f K b n m t f (i : Int) = some (if allF (kidAt n m) i n.length then .inr () else .inl ()) := by
  intro f
  induction f with
  | zero => intro i h hi; omega
  | succ f ih =>
    intro i h hi
    rw [spec.NodeOk.l0.f]
    by_cases c : i < n.length
    · have e1 : w64 ((i : Int) + 1) = ((i + 1 : Nat) : Int) := wsucc (by omega)
      have hx : (n.getD i noVal).size ≤ 1000000000000 := by rw [getD_at c]; exact hs _ (List.getElem_mem c)
      have hN := spec_NameOk_eq K hK (n.getD i noVal) hx
      have hI := spec_l1In_eq (m.getD i 0) 1 11
      simp only [Int.toNat_natCast, e1]
      by_cases d1 : nameOk (nam n i)
      case neg =>
        rw [if_neg (fun g => d1 ((allF_step c).1 g).1.1)]
        exact br_d (by omega) (ck_t (by omega) (bind_t hN (br_n d1 rfl)))
      by_cases d2 : 1 ≤ kid m i ∧ kid m i ≤ 11
      case neg =>
        rw [if_neg (fun g => d2 ((allF_step c).1 g).1.2.1)]
        exact br_d (by omega) (ck_t (by omega) (bind_t hN (br_d d1 (ck_t (by omega) (bind_t hI (br_n d2 rfl))))))
      by_cases d3 : 0 < i → strLt (nam n (i - 1)) (nam n i) = true
      case neg =>
        rw [if_neg (fun g => d3 ((allF_step c).1 g).1.2.2.1)]
        have d0 : 0 < i := Decidable.byContradiction fun h => d3 (fun h' => absurd h' h)
        have d4 : ¬ strLt (nam n (i - 1)) (nam n i) = true := fun h => d3 (fun _ => h)
        have e2 : w64 ((i : Int) - 1) = ((i - 1 : Nat) : Int) := by rw [w64_id (by omega) (by omega)]; omega
        simp only [e2, Int.toNat_natCast]
        exact br_d (by omega) (ck_t (by omega) (bind_t hN (br_d d1 (ck_t (by omega) (bind_t hI (br_d d2 (br_d (by omega) (ck_t (by omega) (ck_t (by omega) (br_f (Bool.eq_false_iff.2 d4 : strLt (nam n (i - 1)) (nam n i) = false) rfl))))))))))
      by_cases d5 : allF (fun k => kid m k ≠ kid m i) 0 i
      case neg =>
        rw [if_neg (fun g => d5 ((allF_step c).1 g).1.2.2.2)]
        by_cases d0 : 0 < i
        · have e2 : w64 ((i : Int) - 1) = ((i - 1 : Nat) : Int) := by rw [w64_id (by omega) (by omega)]; omega
          have gi := spec_NodeOk_in1 b n m t (by omega) i (by omega) (decide (1 ≤ m.getD i 0 ∧ m.getD i 0 ≤ 11)) (!decide (1 ≤ m.getD i 0 ∧ m.getD i 0 ≤ 11)) K 0 (by omega) (by omega)
          rw [if_neg d5] at gi
          simp only [e2, Int.toNat_natCast]
          exact br_d (by omega) (ck_t (by omega) (bind_t hN (br_d d1 (ck_t (by omega) (bind_t hI (br_d d2 (br_d (by omega) (ck_t (by omega) (ck_t (by omega) (br_t (d3 d0) (bind_t gi rfl)))))))))))
        · have gi := spec_NodeOk_in2 b n m t (by omega) i (by omega) (decide (1 ≤ m.getD i 0 ∧ m.getD i 0 ≤ 11)) (!decide (1 ≤ m.getD i 0 ∧ m.getD i 0 ≤ 11)) K 0 (by omega) (by omega)
          rw [if_neg d5] at gi
          exact br_d (by omega) (ck_t (by omega) (bind_t hN (br_d d1 (ck_t (by omega) (bind_t hI (br_d d2 (br_n (by omega) (bind_t gi rfl))))))))
      rw [if_iff ((allF_step c).trans ⟨fun g => g.2, fun g => ⟨⟨d1, d2, d3, d5⟩, g⟩⟩)]
      have hr := ih (i + 1) (by omega) (by omega)
      by_cases d0 : 0 < i
      · have e2 : w64 ((i : Int) - 1) = ((i - 1 : Nat) : Int) := by rw [w64_id (by omega) (by omega)]; omega
        have gi := spec_NodeOk_in1 b n m t (by omega) i (by omega) (decide (1 ≤ m.getD i 0 ∧ m.getD i 0 ≤ 11)) (!decide (1 ≤ m.getD i 0 ∧ m.getD i 0 ≤ 11)) K 0 (by omega) (by omega)
        rw [if_pos d5] at gi
        simp only [e2, Int.toNat_natCast]
        exact br_d (by omega) (ck_t (by omega) (bind_t hN (br_d d1 (ck_t (by omega) (bind_t hI (br_d d2 (br_d (by omega) (ck_t (by omega) (ck_t (by omega) (br_t (d3 d0) (bind_t gi hr)))))))))))
      · have gi := spec_NodeOk_in2 b n m t (by omega) i (by omega) (decide (1 ≤ m.getD i 0 ∧ m.getD i 0 ≤ 11)) (!decide (1 ≤ m.getD i 0 ∧ m.getD i 0 ≤ 11)) K 0 (by omega) (by omega)
        rw [if_pos d5] at gi
        exact br_d (by omega) (ck_t (by omega) (bind_t hN (br_d d1 (ck_t (by omega) (bind_t hI (br_d d2 (br_n (by omega) (bind_t gi hr))))))))
    · rw [if_pos (allF_end (by omega))]
      exact br_n (by omega) rfl
theorem spec_NodeOk_eq (K : Nat) (hK : 10000000000000 ≤ K) (b : Bool) (n : List ByteArray) (m : List Int) (t : ByteArray) (hn : n.length ≤ 1000000000000) (hs : ∀ x ∈ n, x.size ≤ 1000000000000) (hm : m.length ≤ 1000000000000) (ht : t.size ≤ 1000000000000) : spec.NodeOk.f K b n m t = some (decide (nodeOk b n m t)) := by
  unfold spec.NodeOk.f
  cases b with
  | true =>
    refine br_t rfl ?_
    by_cases c : n.length = m.length
    case neg =>
      rw [decide_eq_false (p := nodeOk true n m t) (fun g => by rcases g with g | g; exact c g.2.1; cases g.1)]
      exact br_t (bne_iff_ne.2 (by omega)) rfl
    refine br_f (by simp [c]) ?_
    by_cases c2 : t.size = 0
    case neg =>
      rw [decide_eq_false (p := nodeOk true n m t) (fun g => by rcases g with g | g; exact c2 g.2.2.1; cases g.1)]
      exact br_f (by rw [← Bool.not_eq_true, strEq_iff]; exact fun h => c2 (size_zero.2 h)) rfl
    refine br_t (strEq_iff.2 (size_zero.1 c2)) (bind_t (spec_NodeOk_l0 K hK true n m t hn hs c K 0 (by omega) (by omega)) ?_)
    by_cases d : allF (kidAt n m) 0 n.length
    · rw [if_pos d, decide_eq_true (p := nodeOk true n m t) (.inl ⟨rfl, c, c2, d⟩)]; rfl
    · rw [if_neg d, decide_eq_false (p := nodeOk true n m t) (fun g => by rcases g with g | g; exact d g.2.2.2; cases g.1)]; rfl
  | false =>
    refine br_f rfl ?_
    have e : w64 ((n.length : Int) + (m.length : Int)) = (n.length : Int) + (m.length : Int) := w64_id (by omega) (by omega)
    rw [e]
    by_cases c : n.length = 0 ∧ m.length = 0
    · refine br_t (beq_iff_eq.2 (by omega)) ?_
      congr 1
      exact decide_eq_decide.2 ⟨fun g => .inr ⟨rfl, c.1, c.2, by omega⟩, fun g => by rcases g with g | g; cases g.1; have := g.2.2.2; omega⟩
    · rw [decide_eq_false (p := nodeOk false n m t) (fun g => by rcases g with g | g; cases g.1; exact c ⟨g.2.1, g.2.2.1⟩)]
      exact br_f (beq_eq_false_iff_ne.2 (by omega)) rfl
theorem impl_isKid_eq (x : Int) : impl.isKid.f x = some (decide (1 ≤ x ∧ x ≤ 11)) := by
  unfold impl.isKid.f
  exact bind_t (impl_in_eq x 1 11) rfl
theorem impl_Index_l0 (m : List Int) (x : Int) (hl : m.length ≤ 1000000000000) : ∀ (f k : Nat), m.length < k + f → k ≤ m.length →
    ∃ r, slices.Index_int_int.l0.f m x f (k : Int) = some r ∧ ((allF (fun j => kid m j ≠ x) k m.length ∧ r = .inr ()) ∨ ∃ j : Nat, k ≤ j ∧ j < m.length ∧ allF (fun j => kid m j ≠ x) k j ∧ kid m j = x ∧ r = .inl (j : Int)) := by
  intro f
  induction f with
  | zero => intro k h hk; omega
  | succ f ih =>
    intro k h hk
    rw [slices.Index_int_int.l0.f]
    by_cases c : k < m.length
    · have e1 : w64 ((k : Int) + 1) = ((k + 1 : Nat) : Int) := wsucc (by omega)
      simp only [Int.toNat_natCast, e1]
      by_cases d : kid m k = x
      · exact ⟨_, br_d (by omega) (ck_t (by omega) (br_t (beq_iff_eq.2 d.symm) rfl)), .inr ⟨k, by omega, c, allF_end (by omega), d, rfl⟩⟩
      · obtain ⟨r, h1, h2⟩ := ih (k + 1) (by omega) (by omega)
        refine ⟨r, br_d (by omega) (ck_t (by omega) (br_f (beq_eq_false_iff_ne.2 (fun e => d e.symm)) h1)), ?_⟩
        rcases h2 with ⟨g, e⟩ | ⟨j, g1, g2, g3, g4, e⟩
        · exact .inl ⟨(allF_step c).2 ⟨d, g⟩, e⟩
        · exact .inr ⟨j, by omega, g2, (allF_step (by omega)).2 ⟨d, g3⟩, g4, e⟩
    · exact ⟨_, br_n (by omega) rfl, .inl ⟨allF_end (by omega), rfl⟩⟩
theorem impl_Index_first (K : Nat) (hK : 10000000000000 ≤ K) (m : List Int) (hl : m.length ≤ 1000000000000) (i : Nat) (hi : i < m.length) : ∃ r : Int, slices.Index_int_int.f K m (kid m i) = some r ∧ (r = (i : Int) ↔ allF (fun k => kid m k ≠ kid m i) 0 i) := by
  unfold slices.Index_int_int.f
  obtain ⟨r, h1, h2⟩ := impl_Index_l0 m (kid m i) hl K 0 (by omega) (by omega)
  rcases h2 with ⟨g, rfl⟩ | ⟨j, g1, g2, g3, g4, rfl⟩
  · exact absurd rfl (g i (by omega) hi)
  · refine ⟨(j : Int), bind_t h1 rfl, fun h => ?_, fun h => ?_⟩
    · have : j = i := by omega
      rw [← this]
      rw [this] at g3 ⊢
      exact g3
    · have h3 : ¬ j < i := fun q => h j (by omega) q g4
      have h4 : ¬ i < j := fun q => g3 i (by omega) q rfl
      omega
theorem impl_NodeOk_l0 (K : Nat) (hK : 10000000000000 ≤ K) (b : Bool) (n : List ByteArray) (m : List Int) (t : ByteArray) (hn : n.length ≤ 1000000000000) (hs : ∀ x ∈ n, x.size ≤ 1000000000000) (hm : n.length = m.length) : ∀ (f i : Nat), n.length < i + f → i ≤ n.length →
    impl.NodeOk.l0.f K b n m t f (i : Int) = some (if allF (kidAt n m) i n.length then .inr () else .inl ()) := by
  intro f
  induction f with
  | zero => intro i h hi; omega
  | succ f ih =>
    intro i h hi
    rw [impl.NodeOk.l0.f]
    by_cases c : i < n.length
    · have e1 : w64 ((i : Int) + 1) = ((i + 1 : Nat) : Int) := wsucc (by omega)
      have hx : (n.getD i noVal).size ≤ 1000000000000 := by rw [getD_at c]; exact hs _ (List.getElem_mem c)
      have hN := impl_NameOk_eq K hK (n.getD i noVal) hx
      have hI := impl_isKid_eq (m.getD i 0)
      obtain ⟨r, hF, hf⟩ := impl_Index_first K hK m (by omega) i (by omega)
      have hF : slices.Index_int_int.f K m (m.getD i 0) = some r := hF
      simp only [Int.toNat_natCast, e1]
      by_cases d1 : nameOk (nam n i)
      case neg =>
        rw [if_neg (fun g => d1 ((allF_step c).1 g).1.1)]
        exact br_d (by omega) (ck_t (by omega) (bind_t hN (br_n d1 rfl)))
      by_cases d3 : 0 < i → strLt (nam n (i - 1)) (nam n i) = true
      case neg =>
        rw [if_neg (fun g => d3 ((allF_step c).1 g).1.2.2.1)]
        have d0 : 0 < i := Decidable.byContradiction fun h => d3 (fun h' => absurd h' h)
        have d4 : ¬ strLt (nam n (i - 1)) (nam n i) = true := fun h => d3 (fun _ => h)
        have e2 : w64 ((i : Int) - 1) = ((i - 1 : Nat) : Int) := by rw [w64_id (by omega) (by omega)]; omega
        simp only [e2, Int.toNat_natCast]
        exact br_d (by omega) (ck_t (by omega) (bind_t hN (br_d d1 (br_d (by omega) (ck_t (by omega) (ck_t (by omega) (br_f (Bool.eq_false_iff.2 d4 : strLt (nam n (i - 1)) (nam n i) = false) rfl)))))))
      have fin : ∀ {q : Option (Unit ⊕ Unit)}, (ck ((i : Int) < (m.length : Int)) (Option.bind (impl.isKid.f (m.getD i 0)) fun x2 => cond x2 (Option.bind (slices.Index_int_int.f K m (m.getD i 0)) fun x3 => cond (x3 != (i : Int)) (some (.inl ())) (impl.NodeOk.l0.f K b n m t f ((i + 1 : Nat) : Int))) (some (.inl ()))) = q) → cond (decide ((i : Int) < (n.length : Int))) (ck (0 ≤ (i : Int)) (Option.bind (impl.NameOk.f K (n.getD i noVal)) fun x1 => cond (x1) (cond (decide ((i : Int) > 0)) (ck (0 ≤ (w64 ((i : Int) - 1))) (ck ((w64 ((i : Int) - 1)) < (n.length : Int)) (cond (strLt (n.getD ((w64 ((i : Int) - 1)).toNat) noVal) (n.getD i noVal)) (ck ((i : Int) < (m.length : Int)) (Option.bind (impl.isKid.f (m.getD i 0)) fun x2 => cond x2 (Option.bind (slices.Index_int_int.f K m (m.getD i 0)) fun x3 => cond (x3 != (i : Int)) (some (.inl ())) (impl.NodeOk.l0.f K b n m t f ((i + 1 : Nat) : Int))) (some (.inl ())))) (some (.inl ()))))) (ck ((i : Int) < (m.length : Int)) (Option.bind (impl.isKid.f (m.getD i 0)) fun x2 => cond x2 (Option.bind (slices.Index_int_int.f K m (m.getD i 0)) fun x3 => cond (x3 != (i : Int)) (some (.inl ())) (impl.NodeOk.l0.f K b n m t f ((i + 1 : Nat) : Int))) (some (.inl ()))))) (some (.inl ())))) (some (.inr ())) = q := by
        intro q hq
        by_cases d0 : 0 < i
        · have e2 : w64 ((i : Int) - 1) = ((i - 1 : Nat) : Int) := by rw [w64_id (by omega) (by omega)]; omega
          simp only [e2, Int.toNat_natCast]
          exact br_d (by omega) (ck_t (by omega) (bind_t hN (br_d d1 (br_d (by omega) (ck_t (by omega) (ck_t (by omega) (br_t (d3 d0) hq)))))))
        · exact br_d (by omega) (ck_t (by omega) (bind_t hN (br_d d1 (br_n (by omega) hq))))
      refine fin ?_
      by_cases d2 : 1 ≤ kid m i ∧ kid m i ≤ 11
      case neg =>
        rw [if_neg (fun g => d2 ((allF_step c).1 g).1.2.1)]
        exact ck_t (by omega) (bind_t hI (br_n d2 rfl))
      by_cases d5 : allF (fun k => kid m k ≠ kid m i) 0 i
      case neg =>
        rw [if_neg (fun g => d5 ((allF_step c).1 g).1.2.2.2)]
        exact ck_t (by omega) (bind_t hI (br_d d2 (bind_t hF (br_t (bne_iff_ne.2 (fun h => d5 (hf.1 h))) rfl))))
      rw [if_iff ((allF_step c).trans ⟨fun g => g.2, fun g => ⟨⟨d1, d2, d3, d5⟩, g⟩⟩)]
      exact ck_t (by omega) (bind_t hI (br_d d2 (bind_t hF (br_f (by rw [hf.2 d5]; simp) (ih (i + 1) (by omega) (by omega))))))
    · rw [if_pos (allF_end (by omega))]
      exact br_n (by omega) rfl
theorem impl_NodeOk_eq (K : Nat) (hK : 10000000000000 ≤ K) (b : Bool) (n : List ByteArray) (m : List Int) (t : ByteArray) (hn : n.length ≤ 1000000000000) (hs : ∀ x ∈ n, x.size ≤ 1000000000000) (hm : m.length ≤ 1000000000000) (ht : t.size ≤ 1000000000000) : impl.NodeOk.f K b n m t = some (decide (nodeOk b n m t)) := by
  unfold impl.NodeOk.f
  cases b with
  | true =>
    refine br_t rfl ?_
    by_cases c : n.length = m.length
    case neg =>
      rw [decide_eq_false (p := nodeOk true n m t) (fun g => by rcases g with g | g; exact c g.2.1; cases g.1)]
      exact br_t (bne_iff_ne.2 (by omega)) rfl
    refine br_f (by simp [c]) ?_
    by_cases c2 : t.size = 0
    case neg =>
      rw [decide_eq_false (p := nodeOk true n m t) (fun g => by rcases g with g | g; exact c2 g.2.2.1; cases g.1)]
      exact br_f (by rw [← Bool.not_eq_true, strEq_iff]; exact fun h => c2 (size_zero.2 h)) rfl
    refine br_t (strEq_iff.2 (size_zero.1 c2)) (bind_t (impl_NodeOk_l0 K hK true n m t hn hs c K 0 (by omega) (by omega)) ?_)
    by_cases d : allF (kidAt n m) 0 n.length
    · rw [if_pos d, decide_eq_true (p := nodeOk true n m t) (.inl ⟨rfl, c, c2, d⟩)]; rfl
    · rw [if_neg d, decide_eq_false (p := nodeOk true n m t) (fun g => by rcases g with g | g; exact d g.2.2.2; cases g.1)]; rfl
  | false =>
    refine br_f rfl ?_
    by_cases c : n.length = 0 ∧ m.length = 0
    · refine br_t (beq_iff_eq.2 (by omega)) (br_t (beq_iff_eq.2 (by omega)) ?_)
      congr 1
      exact decide_eq_decide.2 ⟨fun g => .inr ⟨rfl, c.1, c.2, by omega⟩, fun g => by rcases g with g | g; cases g.1; have := g.2.2.2; omega⟩
    · rw [decide_eq_false (p := nodeOk false n m t) (fun g => by rcases g with g | g; cases g.1; exact c ⟨g.2.1, g.2.2.1⟩)]
      by_cases c1 : n.length = 0
      · exact br_t (beq_iff_eq.2 (by omega)) (br_f (beq_eq_false_iff_ne.2 (by omega)) rfl)
      · exact br_f (beq_eq_false_iff_ne.2 (by omega)) rfl
theorem spec_NodeText_l0 (b : Bool) (n : List ByteArray) (m : List Int) (t : ByteArray) (hn : n.length ≤ 1000000000) (hm : n.length = m.length) (ha : allF (kidAt n m) 0 n.length) : ∀ (f i : Nat) (x : List Int), n.length < i + f → i ≤ n.length → x.length ≤ 1 + 8 * i →
    spec.NodeText.l0.f b n m t f (ofBytes x) (i : Int) = some (ofBytes (x ++ nodeL n m i (n.length - i))) := by
  intro f
  induction f with
  | zero => intro i x h hi; omega
  | succ f ih =>
    intro i x h hi hx
    rw [spec.NodeText.l0.f]
    by_cases c : i < n.length
    · have e1 : w64 ((i : Int) + 1) = ((i + 1 : Nat) : Int) := wsucc (by omega)
      have hk := ha i (by omega) c
      have hsz : (n.getD i noVal).size ≤ 6 := hk.1.2.2
      have e3 : ((ofBytes x ++ n.getD i noVal) ++ (ByteArray.mk #[61])) ++ (ofBytes [IntKind.u8.wrap (w64 (48 + (m.getD i 0)))]) = ofBytes (x ++ nodeE n m i) := by
        rw [show nodeE n m i = bytesL (n.getD i noVal) ++ ([61] ++ [IntKind.u8.wrap (w64 (48 + (m.getD i 0)))]) from rfl, ofBytes_append, ofBytes_append, ofBytes_append, ofBytes_bytesL, ByteArray.append_assoc, ByteArray.append_assoc]
        rfl
      have z : (ByteArray.mk #[61]).size = 1 := rfl
      simp only [Int.toNat_natCast, e1, e3]
      have hr := ih (i + 1) (x ++ nodeE n m i) (by omega) (by omega) (by have := nodeE_len (m := m) hk.1; rw [List.length_append]; omega)
      rw [show n.length - i = (n.length - (i + 1)) + 1 by omega, nodeL_succ, ← List.append_assoc]
      refine br_d (by omega) (ck_t (by omega) (ck_t ?_ (ck_t ?_ (ck_t (by omega) (ck_t ?_ hr)))))
      · rw [ofBytes_size]; omega
      · rw [ByteArray.size_append, ofBytes_size]; omega
      · rw [ByteArray.size_append, ByteArray.size_append, ofBytes_size, ofBytes_size, z]; simp only [List.length_cons, List.length_nil]; omega
    · rw [show n.length - i = 0 by omega, show nodeL n m i 0 = [] from rfl, List.append_nil]
      exact br_n (by omega) rfl
theorem impl_NodeText_l0 (b : Bool) (n : List ByteArray) (m : List Int) (t : ByteArray) (hn : n.length ≤ 1000000000) (hm : n.length = m.length) (ha : allF (kidAt n m) 0 n.length) : ∀ (f i : Nat) (x : List Int), n.length < i + f → i ≤ n.length → x.length ≤ 1 + 8 * i →
    impl.NodeText.l0.f b n m t f x (i : Int) = some (x ++ nodeL n m i (n.length - i)) := by
  intro f
  induction f with
  | zero => intro i x h hi; omega
  | succ f ih =>
    intro i x h hi hx
    rw [impl.NodeText.l0.f]
    by_cases c : i < n.length
    · have e1 : w64 ((i : Int) + 1) = ((i + 1 : Nat) : Int) := wsucc (by omega)
      have hk := ha i (by omega) c
      have hsz : (n.getD i noVal).size ≤ 6 := hk.1.2.2
      have e3 : (x ++ bytesL (n.getD i noVal)) ++ [61, IntKind.u8.wrap (w64 (48 + (m.getD i 0)))] = x ++ nodeE n m i := by
        rw [List.append_assoc]; rfl
      have hl := nodeE_len (m := m) hk.1
      simp only [Int.toNat_natCast, e1, e3]
      have hr := ih (i + 1) (x ++ nodeE n m i) (by omega) (by omega) (by rw [List.length_append]; omega)
      rw [show n.length - i = (n.length - (i + 1)) + 1 by omega, nodeL_succ, ← List.append_assoc]
      refine br_d (by omega) (ck_t (by omega) (ck_t ?_ (ck_t (by omega) (ck_t ?_ hr))))
      · rw [List.length_append, bytesL_len]; omega
      · rw [List.length_append]; omega
    · rw [show n.length - i = 0 by omega, show nodeL n m i 0 = [] from rfl, List.append_nil]
      exact br_n (by omega) rfl
theorem nodeOk_dir {n : List ByteArray} {m : List Int} {t : ByteArray} (h : nodeOk true n m t) : n.length = m.length ∧ allF (kidAt n m) 0 n.length := by
  rcases h with h | h
  · exact ⟨h.2.1, h.2.2.2⟩
  · cases h.1
theorem spec_NodeText_eq (K : Nat) (hK : 10000000000000 ≤ K) (b : Bool) (n : List ByteArray) (m : List Int) (t : ByteArray) (hn : n.length ≤ 1000000000) (hs : ∀ x ∈ n, x.size ≤ 1000000000000) (hm : m.length ≤ 1000000000000) (ht : t.size ≤ 1000000000000) : spec.NodeText.f K b n m t = some (nodeT b n m t) := by
  unfold spec.NodeText.f nodeT
  refine bind_t (spec_NodeOk_eq K hK b n m t (by omega) hs hm ht) ?_
  by_cases c : nodeOk b n m t
  case neg => rw [if_neg c]; exact br_n c rfl
  rw [if_pos c]
  refine br_d c ?_
  cases b with
  | true =>
    obtain ⟨h1, h2⟩ := nodeOk_dir c
    exact br_t rfl (bind_t (spec_NodeText_l0 true n m t hn h1 h2 K 0 [100] (by omega) (by omega) (by simp)) rfl)
  | false => exact br_f rfl (ck_t (by rw [show (ByteArray.mk #[102]).size = 1 from rfl]; omega) rfl)
theorem impl_NodeText_eq (K : Nat) (hK : 10000000000000 ≤ K) (b : Bool) (n : List ByteArray) (m : List Int) (t : ByteArray) (hn : n.length ≤ 1000000000) (hs : ∀ x ∈ n, x.size ≤ 1000000000000) (hm : m.length ≤ 1000000000000) (ht : t.size ≤ 1000000000000) : impl.NodeText.f K b n m t = some (nodeT b n m t) := by
  unfold impl.NodeText.f nodeT
  refine bind_t (impl_NodeOk_eq K hK b n m t (by omega) hs hm ht) ?_
  by_cases c : nodeOk b n m t
  case neg => rw [if_neg c]; exact br_n c rfl
  rw [if_pos c]
  refine br_d c ?_
  cases b with
  | true =>
    obtain ⟨h1, h2⟩ := nodeOk_dir c
    exact br_t rfl (bind_t (impl_NodeText_l0 true n m t hn h1 h2 K 0 [100] (by omega) (by omega) (by simp)) rfl)
  | false => exact br_f rfl (ck_t (by rw [show (ByteArray.mk #[102]).size = 1 from rfl]; omega) rfl)
theorem NodeRead_l0 (s : ByteArray) (hs : s.size ≤ 1000000000000) : ∀ (f g i fr : Nat) (v : List ByteArray) (m : List Int), s.size < i + f → s.size + 1 < i + g → i ≤ s.size → fr ≤ i → v.length ≤ i → m.length ≤ i → (∀ x ∈ v, x.size ≤ s.size) →
    ∃ r, spec.NodeRead.l0.f s f v m (fr : Int) (i : Int) = some r ∧ impl.NodeRead.l0.f s g v m (fr : Int) (i : Int) = some r ∧ r.1.length ≤ s.size ∧ r.2.length ≤ s.size ∧ ∀ x ∈ r.1, x.size ≤ s.size := by
  intro f
  induction f with
  | zero => intro g i fr v m h hg hi; omega
  | succ f ih =>
    intro g i fr v m h hg hi hfr hv hm hx
    obtain ⟨g, rfl⟩ := Nat.exists_eq_add_one_of_ne_zero (by omega : g ≠ 0)
    rw [spec.NodeRead.l0.f, impl.NodeRead.l0.f]
    have e1 : w64 ((i : Int) + 1) = ((i + 1 : Nat) : Int) := wsucc (by omega)
    have e2 : w64 ((i : Int) + 2) = ((i + 2 : Nat) : Int) := by rw [w64_id (by omega) (by omega)]; omega
    have e3 : w64 (((i + 1 : Nat) : Int) + 1) = ((i + 2 : Nat) : Int) := by rw [w64_id (by omega) (by omega)]; omega
    by_cases c : i + 1 < s.size
    · simp only [e1, e2, e3, Int.toNat_natCast]
      by_cases d : byteAt s (i : Int) = 61
      · have hxs : ∀ x ∈ v ++ [s.extract fr i], x.size ≤ s.size := by
          intro x hx'
          rcases List.mem_append.1 hx' with h' | h'
          · exact hx x h'
          · rw [List.mem_singleton.1 h', ByteArray.size_extract]; omega
        obtain ⟨r, r1, r2, r3⟩ := ih g (i + 2) (i + 2) (v ++ [s.extract fr i]) (m ++ [w64 ((w64 (byteAt s ((i + 1 : Nat) : Int))) - 48)]) (by omega) (by omega) (by omega) (by omega) (by simp; omega) (by simp; omega) hxs
        refine ⟨r, br_d (by omega) (ck_t (by omega) (ck_t (by omega) (br_t (beq_iff_eq.2 d) (ck_t (by omega) (ck_t (by omega) (ck_t (by omega) (ck_t (by simp; omega) (ck_t (by omega) (ck_t (by simp; omega) r1))))))))), br_d (by omega) (ck_t (by omega) (br_t (beq_iff_eq.2 d) (br_d (by omega) (ck_t (by omega) (ck_t (by omega) (ck_t (by omega) (ck_t (by simp; omega) (ck_t (by omega) (ck_t (by simp; omega) r2))))))))), r3⟩
      · obtain ⟨r, r1, r2, r3⟩ := ih g (i + 1) fr v m (by omega) (by omega) (by omega) (by omega) (by omega) (by omega) hx
        exact ⟨r, br_d (by omega) (ck_t (by omega) (ck_t (by omega) (br_f (beq_eq_false_iff_ne.2 d) r1))), br_d (by omega) (ck_t (by omega) (br_f (beq_eq_false_iff_ne.2 d) r2)), r3⟩
    · refine ⟨(v, m), br_n (by omega) rfl, ?_, by simp only; omega, by simp only; omega, hx⟩
      by_cases c2 : i < s.size
      · have nxt : impl.NodeRead.l0.f s g v m (fr : Int) ((i + 1 : Nat) : Int) = some (v, m) := by
          obtain ⟨g, rfl⟩ := Nat.exists_eq_add_one_of_ne_zero (by omega : g ≠ 0)
          rw [impl.NodeRead.l0.f]
          exact br_n (by omega) rfl
        simp only [e1]
        by_cases d : byteAt s (i : Int) = 61
        · exact br_d (by omega) (ck_t (by omega) (br_t (beq_iff_eq.2 d) (br_n (by omega) nxt)))
        · exact br_d (by omega) (ck_t (by omega) (br_f (beq_eq_false_iff_ne.2 d) nxt))
      · exact br_n (by omega) rfl
theorem nodeT_head (n : List ByteArray) (m : List Int) (t : ByteArray) (h : nodeT true n m t ≠ noVal) : byteAt (nodeT true n m t) 0 = 100 := by
  unfold nodeT at h ⊢
  by_cases c : nodeOk true n m t
  · rw [if_pos c]; rfl
  · rw [if_neg c] at h; exact absurd rfl h
theorem NodeRead_eq (K : Nat) (hK : 10000000000000 ≤ K) (s : ByteArray) (hs : s.size ≤ 1000000000) : ∃ x, spec.NodeRead.f K s = some x ∧ impl.NodeRead.f K s = some x ∧ x.2.1.length ≤ s.size ∧ x.2.2.1.length ≤ s.size := by
  unfold spec.NodeRead.f impl.NodeRead.f
  by_cases c0 : s = noVal
  · exact ⟨_, br_t (strEq_iff.2 c0) rfl, br_t (strEq_iff.2 c0) rfl, by simp, by simp⟩
  have n0 : strEq s noVal = false := by rw [← Bool.not_eq_true, strEq_iff]; exact c0
  have hp : s.size ≠ 0 := fun h => c0 (size_zero.1 h)
  by_cases c1 : byteAt s 0 = 102
  · have hz : (s.extract 1 s.size).size ≤ 1000000000000 := by rw [ByteArray.size_extract]; omega
    have h1 := spec_NodeText_eq K hK false [] [] (s.extract 1 s.size) (by simp) (by simp) (by simp) hz
    have h2 := impl_NodeText_eq K hK false [] [] (s.extract 1 s.size) (by simp) (by simp) (by simp) hz
    cases h : strEq (nodeT false [] [] (s.extract 1 s.size)) s with
    | true => exact ⟨_, br_f n0 (ck_t (by omega) (br_t (beq_iff_eq.2 c1) (ck_t (by omega) (bind_t h1 (br_t h rfl))))), br_f n0 (ck_t (by omega) (br_t (beq_iff_eq.2 c1) (ck_t (by omega) (bind_t h2 (br_t h rfl))))), by simp, by simp⟩
    | false => exact ⟨_, br_f n0 (ck_t (by omega) (br_t (beq_iff_eq.2 c1) (ck_t (by omega) (bind_t h1 (br_f h rfl))))), br_f n0 (ck_t (by omega) (br_t (beq_iff_eq.2 c1) (ck_t (by omega) (bind_t h2 (br_f h rfl))))), by simp, by simp⟩
  have n1 : (byteAt s 0 == 102) = false := beq_eq_false_iff_ne.2 c1
  obtain ⟨r, r1, r2, r3, r4, r5⟩ := NodeRead_l0 s (by omega) K K 1 1 [] [] (by omega) (by omega) (by omega) (by omega) (by simp) (by simp) (by simp)
  have r1 : spec.NodeRead.l0.f s K [] [] 1 1 = some r := r1
  have r2 : impl.NodeRead.l0.f s K [] [] 1 1 = some r := r2
  have h1 := spec_NodeText_eq K hK true r.1 r.2 noVal (by omega) (fun x hx => by have := r5 x hx; omega) (by omega) (by decide)
  have h2 := impl_NodeText_eq K hK true r.1 r.2 noVal (by omega) (fun x hx => by have := r5 x hx; omega) (by omega) (by decide)
  by_cases c2 : byteAt s 0 = 100
  · cases h : strEq (nodeT true r.1 r.2 noVal) s with
    | true => exact ⟨_, br_f n0 (ck_t (by omega) (br_f n1 (bind_t r1 (bind_t h1 (br_t h rfl))))), br_f n0 (ck_t (by omega) (br_f n1 (br_t (beq_iff_eq.2 c2) (bind_t r2 (bind_t h2 (br_t h rfl)))))), r3, r4⟩
    | false => exact ⟨_, br_f n0 (ck_t (by omega) (br_f n1 (bind_t r1 (bind_t h1 (br_f h rfl))))), br_f n0 (ck_t (by omega) (br_f n1 (br_t (beq_iff_eq.2 c2) (bind_t r2 (bind_t h2 (br_f h rfl)))))), by simp, by simp⟩
  · have n2 : (byteAt s 0 == 100) = false := beq_eq_false_iff_ne.2 c2
    have h3 := impl_NodeText_eq K hK false [] [] noVal (by simp) (by simp) (by simp) (by decide)
    have f1 : strEq (nodeT true r.1 r.2 noVal) s = false := by
      rw [← Bool.not_eq_true, strEq_iff]
      intro e
      refine c2 ?_
      rw [← e]
      exact nodeT_head _ _ _ (by rw [e]; exact c0)
    have f2 : strEq (nodeT false [] [] noVal) s = false := by
      rw [← Bool.not_eq_true, strEq_iff]
      intro e
      refine c1 ?_
      rw [← e]
      unfold nodeT
      rw [if_pos (.inr ⟨rfl, rfl, rfl, by decide⟩)]
      rfl
    exact ⟨_, br_f n0 (ck_t (by omega) (br_f n1 (bind_t r1 (bind_t h1 (br_f f1 rfl))))), br_f n0 (ck_t (by omega) (br_f n1 (br_f n2 (bind_t h3 (br_f f2 rfl))))), by simp, by simp⟩
theorem NodeRead_eq2 (K : Nat) (hK : 10000000000000 ≤ K) (s : ByteArray) (hs : s.size ≤ 1000000000) : ∃ x, spec.NodeRead.f K s = some x ∧ impl.NodeRead.f K s = some x ∧ x.2.1.length ≤ s.size ∧ x.2.2.1.length ≤ s.size ∧ (x.2.2.2.2 = true → impl.NodeText.f K x.1 x.2.1 x.2.2.1 x.2.2.2.1 = some s) ∧ (x.2.2.2.2 = false → x.1 = false ∧ x.2.2.2.1 = noVal) := by
  unfold spec.NodeRead.f impl.NodeRead.f
  by_cases c0 : s = noVal
  · exact ⟨_, br_t (strEq_iff.2 c0) rfl, br_t (strEq_iff.2 c0) rfl, by simp, by simp, (by intro g; cases g), fun _ => ⟨rfl, rfl⟩⟩
  have n0 : strEq s noVal = false := by rw [← Bool.not_eq_true, strEq_iff]; exact c0
  have hp : s.size ≠ 0 := fun h => c0 (size_zero.1 h)
  by_cases c1 : byteAt s 0 = 102
  · have hz : (s.extract 1 s.size).size ≤ 1000000000000 := by rw [ByteArray.size_extract]; omega
    have h1 := spec_NodeText_eq K hK false [] [] (s.extract 1 s.size) (by simp) (by simp) (by simp) hz
    have h2 := impl_NodeText_eq K hK false [] [] (s.extract 1 s.size) (by simp) (by simp) (by simp) hz
    cases h : strEq (nodeT false [] [] (s.extract 1 s.size)) s with
    | true => exact ⟨_, br_f n0 (ck_t (by omega) (br_t (beq_iff_eq.2 c1) (ck_t (by omega) (bind_t h1 (br_t h rfl))))), br_f n0 (ck_t (by omega) (br_t (beq_iff_eq.2 c1) (ck_t (by omega) (bind_t h2 (br_t h rfl))))), by simp, by simp, fun _ => by rw [h2, strEq_iff.1 h], (by intro g; cases g)⟩
    | false => exact ⟨_, br_f n0 (ck_t (by omega) (br_t (beq_iff_eq.2 c1) (ck_t (by omega) (bind_t h1 (br_f h rfl))))), br_f n0 (ck_t (by omega) (br_t (beq_iff_eq.2 c1) (ck_t (by omega) (bind_t h2 (br_f h rfl))))), by simp, by simp, (by intro g; cases g), fun _ => ⟨rfl, rfl⟩⟩
  have n1 : (byteAt s 0 == 102) = false := beq_eq_false_iff_ne.2 c1
  obtain ⟨r, r1, r2, r3, r4, r5⟩ := NodeRead_l0 s (by omega) K K 1 1 [] [] (by omega) (by omega) (by omega) (by omega) (by simp) (by simp) (by simp)
  have r1 : spec.NodeRead.l0.f s K [] [] 1 1 = some r := r1
  have r2 : impl.NodeRead.l0.f s K [] [] 1 1 = some r := r2
  have h1 := spec_NodeText_eq K hK true r.1 r.2 noVal (by omega) (fun x hx => by have := r5 x hx; omega) (by omega) (by decide)
  have h2 := impl_NodeText_eq K hK true r.1 r.2 noVal (by omega) (fun x hx => by have := r5 x hx; omega) (by omega) (by decide)
  by_cases c2 : byteAt s 0 = 100
  · cases h : strEq (nodeT true r.1 r.2 noVal) s with
    | true => exact ⟨_, br_f n0 (ck_t (by omega) (br_f n1 (bind_t r1 (bind_t h1 (br_t h rfl))))), br_f n0 (ck_t (by omega) (br_f n1 (br_t (beq_iff_eq.2 c2) (bind_t r2 (bind_t h2 (br_t h rfl)))))), r3, r4, fun _ => by rw [h2, strEq_iff.1 h], (by intro g; cases g)⟩
    | false => exact ⟨_, br_f n0 (ck_t (by omega) (br_f n1 (bind_t r1 (bind_t h1 (br_f h rfl))))), br_f n0 (ck_t (by omega) (br_f n1 (br_t (beq_iff_eq.2 c2) (bind_t r2 (bind_t h2 (br_f h rfl)))))), by simp, by simp, (by intro g; cases g), fun _ => ⟨rfl, rfl⟩⟩
  · have n2 : (byteAt s 0 == 100) = false := beq_eq_false_iff_ne.2 c2
    have h3 := impl_NodeText_eq K hK false [] [] noVal (by simp) (by simp) (by simp) (by decide)
    have f1 : strEq (nodeT true r.1 r.2 noVal) s = false := by
      rw [← Bool.not_eq_true, strEq_iff]
      intro e
      refine c2 ?_
      rw [← e]
      exact nodeT_head _ _ _ (by rw [e]; exact c0)
    have f2 : strEq (nodeT false [] [] noVal) s = false := by
      rw [← Bool.not_eq_true, strEq_iff]
      intro e
      refine c1 ?_
      rw [← e]
      unfold nodeT
      rw [if_pos (.inr ⟨rfl, rfl, rfl, by decide⟩)]
      rfl
    exact ⟨_, br_f n0 (ck_t (by omega) (br_f n1 (bind_t r1 (bind_t h1 (br_f f1 rfl))))), br_f n0 (ck_t (by omega) (br_f n1 (br_f n2 (bind_t h3 (br_f f2 rfl))))), by simp, by simp, (by intro g; cases g), fun _ => ⟨rfl, rfl⟩⟩
theorem and255 (x : Int) : 0 ≤ bits2 .i64 (· &&& ·) x 255 ∧ bits2 .i64 (· &&& ·) x 255 < 256 := by
  unfold bits2
  have h : ((BitVec.ofInt 64 x) &&& (BitVec.ofInt 64 255)).toNat ≤ 255 := by
    rw [BitVec.toNat_and]
    exact Nat.le_trans Nat.and_le_right (by decide)
  have e : IntKind.i64.wrap (((BitVec.ofInt 64 x) &&& (BitVec.ofInt 64 255)).toNat : Int) = (((BitVec.ofInt 64 x) &&& (BitVec.ofInt 64 255)).toNat : Int) := wraps_i64 _ (by omega) (by omega)
  show 0 ≤ IntKind.i64.wrap (((BitVec.ofInt 64 x) &&& (BitVec.ofInt 64 255)).toNat : Int) ∧ IntKind.i64.wrap (((BitVec.ofInt 64 x) &&& (BitVec.ofInt 64 255)).toNat : Int) < 256
  rw [e]
  exact ⟨by omega, by omega⟩
theorem l1New_l0 (b : List Int) (hl : b.length ≤ 1000000000000) : ∀ (f i : Nat) (n : Int), b.length < i + f → i ≤ b.length → ∃ s, spec.l1New.l0.f b f n (i : Int) = some s := by
  intro f
  induction f with
  | zero => intro i n h hi; omega
  | succ f ih =>
    intro i n h hi
    rw [spec.l1New.l0.f]
    by_cases c : i < b.length
    · by_cases d : (i : Int) < 4000
      · obtain ⟨s, g⟩ := ih (i + 1) (bits2 .i64 (· &&& ·) (w64 ((w64 ((w64 (n * 131)) + (w64 (b.getD (i : Int).toNat 0)))) + 7)) 1073741823) (by omega) (by omega)
        refine ⟨s, br_d (by omega) (br_d d (ck_t (by omega) ?_))⟩
        rw [wsucc (by omega)]
        exact g
      · exact ⟨n, br_d (by omega) (br_n d rfl)⟩
    · exact ⟨n, br_n (by omega) rfl⟩
theorem l1New_ok (K : Nat) (hK : 10000000000000 ≤ K) (b : List Int) (hl : b.length ≤ 1000000000000) : ∃ s, spec.l1New.f K b = some s := by
  obtain ⟨s, h⟩ := l1New_l0 b hl K 0 (w64 (19109 + (b.length : Int))) (by omega) (by omega)
  exact ⟨s, bind_t h rfl⟩
theorem l1Byte_ok (b : List Int) (hl : b.length ≤ 1000000000000) (i s : Int) (hi : 0 ≤ i) : ∃ v j, spec.l1Byte.f b i s = some (v, j) ∧ 0 ≤ v ∧ v < 256 ∧ 0 ≤ j := by
  unfold spec.l1Byte.f
  by_cases c : i < (b.length : Int)
  · exact ⟨_, _, br_d c (ck_t hi rfl), (and255 _).1, (and255 _).2, by rw [w64_id (by omega) (by omega)]; omega⟩
  · exact ⟨_, _, br_n c rfl, (and255 _).1, (and255 _).2, hi⟩
theorem l1Below_ok (b : List Int) (hl : b.length ≤ 1000000000000) (i s n : Int) (hi : 0 ≤ i) : ∃ v j t, spec.l1Below.f b i s n = some (v, j, t) ∧ 0 ≤ j ∧ 0 ≤ v ∧ (0 < n → v < n) := by
  unfold spec.l1Below.f
  by_cases c : n ≤ 0
  · exact ⟨0, i, s, br_d c rfl, hi, Int.le_refl _, fun h => by omega⟩
  by_cases d : n ≤ 256
  · obtain ⟨v, j, h1, h2, h3, h4⟩ := l1Byte_ok b hl i s hi
    exact ⟨_, _, _, br_n c (br_d d (bind_t h1 (ck_t (by omega) rfl))), h4, Int.tmod_nonneg _ h2, fun h => Int.tmod_lt_of_pos _ h⟩
  · obtain ⟨v1, j1, a1, a2, a3, a4⟩ := l1Byte_ok b hl i s hi
    obtain ⟨v2, j2, b1, b2, b3, b4⟩ := l1Byte_ok b hl j1 (w64 ((w64 (s * 6364136223846793005)) + 1442695040888963407)) a4
    obtain ⟨v3, j3, c1, c2, c3, c4⟩ := l1Byte_ok b hl j2 (w64 ((w64 ((w64 ((w64 (s * 6364136223846793005)) + 1442695040888963407)) * 6364136223846793005)) + 1442695040888963407)) b4
    obtain ⟨v4, j4, d1, d2, d3, d4⟩ := l1Byte_ok b hl j3 (w64 ((w64 ((w64 ((w64 ((w64 ((w64 (s * 6364136223846793005)) + 1442695040888963407)) * 6364136223846793005)) + 1442695040888963407)) * 6364136223846793005)) + 1442695040888963407)) c4
    refine ⟨_, _, _, br_n c (br_n d (bind_t a1 (bind_t b1 (bind_t c1 (bind_t d1 (ck_t (by omega) rfl)))))), d4, Int.tmod_nonneg _ ?_, fun h => Int.tmod_lt_of_pos _ h⟩
    show 0 ≤ w64 (w64 (w64 (w64 (v1 * 16777216) + w64 (v2 * 65536)) + w64 (v3 * 256)) + v4)
    rw [w64_id (x := v1 * 16777216) (by omega) (by omega), w64_id (x := v2 * 65536) (by omega) (by omega), w64_id (x := v3 * 256) (by omega) (by omega), w64_id (x := v1 * 16777216 + v2 * 65536) (by omega) (by omega), w64_id (x := v1 * 16777216 + v2 * 65536 + v3 * 256) (by omega) (by omega), w64_id (by omega) (by omega)]
    omega
theorem l1Once_ok (b : List Int) (hl : b.length ≤ 1000000000000) (i s n : Int) (hi : 0 ≤ i) : ∃ c j t, spec.l1Once.f b i s n = some (c, j, t) ∧ 0 ≤ j := by
  obtain ⟨v, j, t, h1, h2, _⟩ := l1Below_ok b hl i s n hi
  exact ⟨_, j, t, bind_t h1 rfl, h2⟩
theorem l1PickInt_ok (b : List Int) (hl : b.length ≤ 1000000000000) (i s : Int) (L : List Int) (hi : 0 ≤ i) (h0 : 0 < L.length) : ∃ v j t, spec.l1PickInt.f b i s L = some (v, j, t) ∧ 0 ≤ j ∧ v ∈ L := by
  unfold spec.l1PickInt.f
  obtain ⟨v, j, t, h1, h2, h3, h4⟩ := l1Below_ok b hl i s L.length hi
  have h5 := h4 (by omega)
  refine ⟨_, j, t, bind_t h1 (ck_t h3 (ck_t h5 rfl)), h2, ?_⟩
  show L.getD v.toNat 0 ∈ L
  rw [getD_at (by omega)]
  exact List.getElem_mem _
theorem l1Pick_ok (b : List Int) (hl : b.length ≤ 1000000000000) (i s : Int) (L : List ByteArray) (hi : 0 ≤ i) (h0 : 0 < L.length) : ∃ v j t, spec.l1Pick.f b i s L = some (v, j, t) ∧ 0 ≤ j ∧ v ∈ L := by
  unfold spec.l1Pick.f
  obtain ⟨v, j, t, h1, h2, h3, h4⟩ := l1Below_ok b hl i s L.length hi
  have h5 := h4 (by omega)
  refine ⟨_, j, t, bind_t h1 (ck_t h3 (ck_t h5 rfl)), h2, ?_⟩
  show L.getD v.toNat noVal ∈ L
  rw [getD_at (by omega)]
  exact List.getElem_mem _
def Szs (n : List ByteArray) : Prop := ∀ x ∈ n, x.size ≤ 10
theorem Szs.nil : Szs [] := fun x h => by cases h
theorem Szs.snoc {n : List ByteArray} {x : ByteArray} (h : Szs n) (hx : x.size ≤ 10) : Szs (n ++ [x]) := fun y hy => by
  rcases List.mem_append.1 hy with g | g
  · exact h y g
  · rw [List.mem_singleton.1 g]; exact hx
theorem Szs.at {n : List ByteArray} (h : Szs n) {i : Nat} (hi : i < n.length) : (n.getD i noVal).size ≤ 10 := by
  rw [getD_at hi]; exact h _ (List.getElem_mem hi)
theorem l8At_l0 (b : Bool) (n : List ByteArray) (m : List Int) (t nm : ByteArray) (hn : n.length ≤ 1000) : ∀ (f i : Nat), n.length < i + f → i ≤ n.length → ∃ r, spec.l8At.l0.f b n m t nm f (i : Int) = some r := by
  intro f
  induction f with
  | zero => intro i h hi; omega
  | succ f ih =>
    intro i h hi
    rw [spec.l8At.l0.f]
    by_cases c : i < n.length
    · by_cases c2 : (i : Int) < (m.length : Int)
      · obtain ⟨r, g⟩ := ih (i + 1) (by omega) (by omega)
        cases d : strEq (n.getD (i : Int).toNat noVal) nm with
        | true => exact ⟨_, br_d (by omega) (br_d c2 (ck_t (by omega) (br_t rfl rfl)))⟩
        | false => exact ⟨r, br_d (by omega) (br_d c2 (ck_t (by omega) (br_f rfl (by rw [wsucc (by omega)]; exact g))))⟩
      · exact ⟨_, br_d (by omega) (br_n c2 rfl)⟩
    · exact ⟨_, br_n (by omega) rfl⟩
theorem l8At_ok (K : Nat) (hK : 10000000000000 ≤ K) (b : Bool) (n : List ByteArray) (m : List Int) (t nm : ByteArray) (hn : n.length ≤ 1000) : ∃ r, spec.l8At.f K b n m t nm = some r := by
  unfold spec.l8At.f
  obtain ⟨r, h⟩ := l8At_l0 b n m t nm hn K 0 (by omega) (by omega)
  cases r with
  | inl x => exact ⟨_, bind_t h rfl⟩
  | inr x => exact ⟨_, bind_t h rfl⟩
theorem KidDrop_l0 (b : Bool) (n : List ByteArray) (m : List Int) (t : ByteArray) (hn : n.length ≤ 1000) (hs : Szs n) (q : Int) : ∀ (f i : Nat) (v : List ByteArray) (u : List Int), n.length < i + f → i ≤ n.length → v.length = u.length → v.length ≤ i → Szs v →
    ∃ v' u', spec.KidDrop.l0.f b n m t f v u q (i : Int) = some (v', u') ∧ v'.length = u'.length ∧ v'.length ≤ n.length ∧ Szs v' := by
  intro f
  induction f with
  | zero => intro i v u h hi; omega
  | succ f ih =>
    intro i v u h hi h1 h2 h3
    rw [spec.KidDrop.l0.f]
    by_cases c : i < n.length
    · by_cases c2 : (i : Int) < (m.length : Int)
      · rw [wsucc (by omega)]
        by_cases d : ((i : Int) != q) = true
        · obtain ⟨v', u', g1, g2⟩ := ih (i + 1) (v ++ [n.getD (i : Int).toNat noVal]) (u ++ [m.getD (i : Int).toNat 0]) (by omega) (by omega) (by simp [h1]) (by simp; omega) (h3.snoc (hs.at (by omega)))
          exact ⟨v', u', br_d (by omega) (br_d c2 (br_t d (ck_t (by omega) (ck_t (by simp; omega) (ck_t (by simp; omega) g1))))), g2⟩
        · obtain ⟨v', u', g1, g2⟩ := ih (i + 1) v u (by omega) (by omega) h1 (by omega) h3
          exact ⟨v', u', br_d (by omega) (br_d c2 (br_f (by simpa using d) g1)), g2⟩
      · exact ⟨v, u, br_d (by omega) (br_n c2 rfl), h1, by omega, h3⟩
    · exact ⟨v, u, br_n (by omega) rfl, h1, by omega, h3⟩
theorem KidDrop_ok (K : Nat) (hK : 10000000000000 ≤ K) (b : Bool) (n : List ByteArray) (m : List Int) (t nm : ByteArray) (hn : n.length ≤ 1000) (hs : Szs n) : ∃ v u, spec.KidDrop.f K b n m t nm = some (v, u) ∧ v.length = u.length ∧ v.length ≤ n.length ∧ Szs v := by
  unfold spec.KidDrop.f
  obtain ⟨r, h⟩ := l8At_ok K hK b n m t nm hn
  obtain ⟨v, u, g1, g2⟩ := KidDrop_l0 b n m t hn hs r K 0 [] [] (by omega) (by omega) rfl (by simp) .nil
  exact ⟨v, u, bind_t h (bind_t g1 rfl), g2⟩
theorem KidPut_l0 (b : Bool) (n : List ByteArray) (m : List Int) (t nm : ByteArray) (x : Int) (V : List ByteArray) (U : List Int) (hV : V.length = U.length) (hV2 : V.length ≤ 1000) (hVs : Szs V) (hnm : nm.size ≤ 10) : ∀ (f i : Nat) (v : List ByteArray) (u : List Int) (fl : Bool), V.length < i + f → i ≤ V.length → v.length = u.length → v.length ≤ i + 1 → (fl = false → v.length ≤ i) → Szs v →
    ∃ v' u' fl', spec.KidPut.l0.f b n m t nm x f V U v u fl (i : Int) = some (v', u', fl') ∧ v'.length = u'.length ∧ v'.length ≤ V.length + 1 ∧ (fl' = false → v'.length ≤ V.length) ∧ Szs v' := by
  intro f
  induction f with
  | zero => intro i v u fl h hi; omega
  | succ f ih =>
    intro i v u fl h hi h1 h2 h3 h4
    rw [spec.KidPut.l0.f]
    by_cases c : i < V.length
    · rw [wsucc (by omega)]
      have hz := hVs.at c
      simp only [Int.toNat_natCast]
      cases fl with
      | true =>
        obtain ⟨v', u', fl', g1, g2⟩ := ih (i + 1) (v ++ [V.getD i noVal]) (u ++ [U.getD i 0]) true (by omega) (by omega) (by simp [h1]) (by simp; omega) (fun g => by cases g) (h4.snoc hz)
        exact ⟨v', u', fl', br_d (by omega) (br_t rfl (ck_t (by omega) (ck_t (by simp; omega) (ck_t (by omega) (ck_t (by simp; omega) g1))))), g2⟩
      | false =>
        have h5 := h3 rfl
        by_cases d : (strLt (V.getD i noVal) nm || strEq (V.getD i noVal) nm) = true
        · obtain ⟨v', u', fl', g1, g2⟩ := ih (i + 1) (v ++ [V.getD i noVal]) (u ++ [U.getD i 0]) false (by omega) (by omega) (by simp [h1]) (by simp; omega) (fun g => by simp; omega) (h4.snoc hz)
          exact ⟨v', u', fl', br_d (by omega) (br_f rfl (ck_t (by omega) (br_t d (ck_t (by simp; omega) (ck_t (by omega) (ck_t (by simp; omega) g1)))))), g2⟩
        · obtain ⟨v', u', fl', g1, g2⟩ := ih (i + 1) ((v ++ [nm]) ++ [V.getD i noVal]) ((u ++ [x]) ++ [U.getD i 0]) true (by omega) (by omega) (by simp [h1]) (by simp; omega) (fun g => by cases g) ((h4.snoc hnm).snoc hz)
          exact ⟨v', u', fl', br_d (by omega) (br_f rfl (ck_t (by omega) (br_f (by simpa using d) (ck_t (by simp; omega) (ck_t (by simp; omega) (ck_t (by simp; omega) (ck_t (by omega) (ck_t (by simp; omega) g1)))))))), g2⟩
    · exact ⟨v, u, fl, br_n (by omega) rfl, h1, by omega, fun g => by have := h3 g; omega, h4⟩
theorem KidPut_ok (K : Nat) (hK : 10000000000000 ≤ K) (b : Bool) (n : List ByteArray) (m : List Int) (t nm : ByteArray) (x : Int) (hn : n.length ≤ 100) (hs : Szs n) (hnm : nm.size ≤ 10) : ∃ v u, spec.KidPut.f K b n m t nm x = some (v, u) ∧ v.length = u.length ∧ v.length ≤ n.length + 1 ∧ Szs v := by
  unfold spec.KidPut.f
  obtain ⟨V, U, h1, h2, h3, h4⟩ := KidDrop_ok K hK b n m t nm (by omega) hs
  obtain ⟨v, u, fl, g1, g2, g3, g4, g5⟩ := KidPut_l0 b n m t nm x V U h2 (by omega) h4 hnm K 0 [] [] false (by omega) (by omega) rfl (by simp) (fun _ => by simp) .nil
  cases fl with
  | true => exact ⟨v, u, bind_t h1 (bind_t g1 (br_t rfl rfl)), g2, by omega, g5⟩
  | false =>
    have g6 := g4 rfl
    exact ⟨v ++ [nm], u ++ [x], bind_t h1 (bind_t g1 (br_f rfl (ck_t (by simp; omega) (ck_t (by simp; omega) rfl)))), by simp [g2], by simp; omega, g5.snoc hnm⟩
theorem l8DrawName_ok (b : List Int) (hl : b.length ≤ 1000000000000) (i s : Int) (hi : 0 ≤ i) : ∃ v j t, spec.l8DrawName.f b i s = some (v, j, t) ∧ 0 ≤ j ∧ v.size ≤ 10 := by
  unfold spec.l8DrawName.f
  obtain ⟨v, j, t, h1, h2, h3⟩ := l1Pick_ok b hl i s [(ByteArray.mk #[97]), (ByteArray.mk #[98]), (ByteArray.mk #[99, 100]), (ByteArray.mk #[108, 111, 103]), (ByteArray.mk #[122, 122])] hi (by decide)
  refine ⟨v, j, t, bind_t h1 rfl, h2, ?_⟩
  simp only [List.mem_cons, List.not_mem_nil, or_false] at h3
  rcases h3 with rfl | rfl | rfl | rfl | rfl <;> decide
theorem l8DrawRight_l0 (K : Nat) (hK : 10000000000000 ≤ K) (b : List Int) (hl : b.length ≤ 1000000000000) : ∀ (f c : Nat) (i s : Int) (n : List ByteArray) (m : List Int), 0 ≤ i → 4 < c + f → c ≤ 4 → n.length = m.length → n.length ≤ c → Szs n →
    ∃ n' m' j t, spec.l8DrawRight.l0.f K b f i s n m (c : Int) = some (n', m', j, t) ∧ 0 ≤ j ∧ n'.length = m'.length ∧ n'.length ≤ 4 ∧ Szs n' := by
  intro f
  induction f with
  | zero => intro c i s n m h1 h2 h3; omega
  | succ f ih =>
    intro c i s n m h1 h2 h3 h4 h5 h6
    rw [spec.l8DrawRight.l0.f]
    obtain ⟨v, j, t, g1, g2, g3, g4⟩ := l1Below_ok b hl i s 5 h1
    have g5 := g4 (by decide)
    by_cases d : (c : Int) < v
    · obtain ⟨nm, j', t', k1, k2, k3⟩ := l8DrawName_ok b hl j t g2
      obtain ⟨n1, m1, q1, q2, q3, q4⟩ := KidPut_ok K hK true n m noVal nm (w64 (1 + (c : Int))) (by omega) h6 k3
      obtain ⟨n2, m2, j2, t2, r1, r2⟩ := ih (c + 1) j' t' n1 m1 k2 (by omega) (by omega) q2 (by omega) q4
      refine ⟨n2, m2, j2, t2, bind_t g1 (br_d d (bind_t k1 (bind_t q1 ?_))), r2⟩
      rw [wsucc (by omega)]
      exact r1
    · exact ⟨n, m, j, t, bind_t g1 (br_n d rfl), g2, h4, by omega, h6⟩
theorem l8DrawRight_ok (K : Nat) (hK : 10000000000000 ≤ K) (b : List Int) (hl : b.length ≤ 1000000000000) (i s : Int) (hi : 0 ≤ i) : ∃ d n m t j s', spec.l8DrawRight.f K b i s = some (d, n, m, t, j, s') ∧ 0 ≤ j ∧ n.length = m.length ∧ n.length ≤ 4 ∧ Szs n ∧ t.size ≤ 10 := by
  unfold spec.l8DrawRight.f
  obtain ⟨c, j, t, h1, h2⟩ := l1Once_ok b hl i s 2 hi
  cases c with
  | true =>
    obtain ⟨v, j', t', k1, k2, k3⟩ := l1Pick_ok b hl j t [noVal, (ByteArray.mk #[120]), (ByteArray.mk #[104, 101, 108, 108, 111]), (ByteArray.mk #[100]), (ByteArray.mk #[102])] h2 (by decide)
    refine ⟨false, [], [], v, j', t', bind_t h1 (br_t rfl (bind_t k1 rfl)), k2, rfl, by simp, .nil, ?_⟩
    simp only [List.mem_cons, List.not_mem_nil, or_false] at k3
    rcases k3 with rfl | rfl | rfl | rfl | rfl <;> decide
  | false =>
    obtain ⟨n, m, j', t', k1, k2, k3, k4, k5⟩ := l8DrawRight_l0 K hK b hl K 0 j t [] [] h2 (by omega) (by omega) rfl (by simp) .nil
    exact ⟨true, n, m, noVal, j', t', bind_t h1 (br_f rfl (bind_t k1 rfl)), k2, k3, k4, k5, by decide⟩
theorem l8Draw_l0 (b : List Int) (hl : b.length ≤ 1000000000000) (D : Bool) (N : List ByteArray) (M : List Int) : ∀ (f : Nat) (i s : Int) (d : ByteArray), 0 ≤ i → 61 < d.size + f → d.size ≤ 61 → ∃ v j t, spec.l8Draw.l0.f b f i s D N M d = some (D, N, M, v, j, t) ∧ 0 ≤ j ∧ v.size ≤ 61 := by
  intro f
  induction f with
  | zero => intro i s d h1 h2 h3; omega
  | succ f ih =>
    intro i s d h1 h2 h3
    rw [spec.l8Draw.l0.f]
    obtain ⟨v, j, t, g1, g2, g3, g4⟩ := l1Below_ok b hl i s 2 h1
    have g5 := g4 (by decide)
    have e : w64 (60 + v) = 60 + v := w64_id (by omega) (by omega)
    by_cases c : (d.size : Int) < 60 + v
    · have hz : (d ++ (ByteArray.mk #[121])).size = d.size + 1 := by rw [ByteArray.size_append]; rfl
      obtain ⟨v', j', t', k1, k2, k3⟩ := ih j t (d ++ (ByteArray.mk #[121])) g2 (by omega) (by omega)
      have hs : (ByteArray.mk #[121]).size = 1 := rfl
      exact ⟨v', j', t', bind_t g1 (br_d (by show (d.size : Int) < w64 (60 + v); omega) (ck_t (by rw [hs]; omega) k1)), k2, k3⟩
    · exact ⟨d, j, t, bind_t g1 (br_n (by show ¬ (d.size : Int) < w64 (60 + v); omega) rfl), g2, h3⟩
theorem l8Draw_ok (K : Nat) (hK : 10000000000000 ≤ K) (b : List Int) (hl : b.length ≤ 1000000000000) (i s : Int) (hi : 0 ≤ i) : ∃ d n m t j s', spec.l8Draw.f K b i s = some (d, n, m, t, j, s') ∧ 0 ≤ j ∧ n.length ≤ 10 ∧ m.length ≤ 10 ∧ Szs n ∧ t.size ≤ 61 := by
  unfold spec.l8Draw.f
  obtain ⟨d, n, m, t, j, s1, h1, h2, h3, h4, h5, h6⟩ := l8DrawRight_ok K hK b hl i s hi
  obtain ⟨v, j2, s2, g1, g2, g3, g4⟩ := l1Below_ok b hl j s1 12 h2
  by_cases c0 : v = 0
  · obtain ⟨nm, j3, s3, k1, k2, k3⟩ := l8DrawName_ok b hl j2 s2 g2
    exact ⟨d, n ++ [nm], m, t, j3, s3, bind_t h1 (bind_t g1 (br_t (by simpa using c0) (bind_t k1 (ck_t (by simp; omega) rfl)))), k2, by simp; omega, by omega, h5.snoc k3, by omega⟩
  have n0 : (v == 0) = false := by simpa using c0
  by_cases c1 : v = 1
  · obtain ⟨x, j3, s3, k1, k2, k3⟩ := l1PickInt_ok b hl j2 s2 [0, 3, 12] g2 (by decide)
    exact ⟨d, n ++ [(ByteArray.mk #[122, 122, 122])], m ++ [x], t, j3, s3, bind_t h1 (bind_t g1 (br_f n0 (br_t (by simpa using c1) (bind_t k1 (ck_t (by simp; omega) (ck_t (by simp; omega) rfl)))))), k2, by simp; omega, by simp; omega, h5.snoc (by decide), by omega⟩
  have n1 : (v == 1) = false := by simpa using c1
  by_cases c2 : v = 2
  · exact ⟨!d, n, m, t, j2, s2, bind_t h1 (bind_t g1 (br_f n0 (br_f n1 (br_t (by simpa using c2) rfl)))), g2, by omega, by omega, h5, by omega⟩
  have n2 : (v == 2) = false := by simpa using c2
  by_cases c3 : v = 3
  · obtain ⟨t', j3, s3, k1, k2, k3⟩ := l8Draw_l0 b hl d n m K j2 s2 t g2 (by omega) (by omega)
    exact ⟨d, n, m, t', j3, s3, bind_t h1 (bind_t g1 (br_f n0 (br_f n1 (br_f n2 (br_t (by simpa using c3) (bind_t k1 rfl)))))), k2, by omega, by omega, h5, k3⟩
  have n3 : (v == 3) = false := by simpa using c3
  exact ⟨d, n, m, t, j2, s2, bind_t h1 (bind_t g1 (br_f n0 (br_f n1 (br_f n2 (br_f n3 rfl))))), g2, by omega, by omega, h5, by omega⟩
theorem byteAt_drop (s : ByteArray) (p k : Nat) : byteAt s ((p + k : Nat) : Int) = ((bytesL s).drop p).getD k 0 := by
  unfold byteAt bytesL
  rw [Int.toNat_natCast, List.getD_eq_getElem?_getD, List.getD_eq_getElem?_getD, List.getElem?_drop, List.getElem?_map]
  cases s.data.toList[p + k]? <;> rfl
theorem bytesL_extract (s : ByteArray) (a b : Nat) : bytesL (s.extract a b) = ((bytesL s).drop a).take (b - a) := by
  unfold bytesL
  rw [ByteArray.data_extract, Array.toList_extract, List.extract_eq_take_drop, List.map_take, List.map_drop]
theorem scan (s : ByteArray) (hs : s.size ≤ 1000000) (nm : ByteArray) (c : Int) (r : List Int) (p : Nat) (v : List ByteArray) (u : List Int) (hv : v.length ≤ 1000) (hu : u.length ≤ 1000) (h : (bytesL s).drop p = bytesL nm ++ (61 :: c :: r)) (hn : ∀ x ∈ bytesL nm, x ≠ 61) : ∀ (d j f : Nat), j + d = nm.size →
    impl.NodeRead.l0.f s (f + d + 1) v u (p : Int) ((p + j : Nat) : Int) = impl.NodeRead.l0.f s f (v ++ [nm]) (u ++ [w64 (w64 c - 48)]) ((p + nm.size + 2 : Nat) : Int) ((p + nm.size + 2 : Nat) : Int) := by
  have hl : s.size - p = nm.size + (r.length + 2) := by rw [← bytesL_len s, ← List.length_drop, h, List.length_append, bytesL_len]; simp
  intro d
  induction d with
  | zero =>
    intro j f hj
    rw [impl.NodeRead.l0.f]
    have hj' : j = nm.size := by omega
    subst hj'
    have b1 : byteAt s ((p + nm.size : Nat) : Int) = 61 := by
      rw [byteAt_drop, h, List.getD_eq_getElem?_getD, List.getElem?_append_right (by rw [bytesL_len]; omega), bytesL_len, Nat.sub_self]; rfl
    have b2 : byteAt s ((p + nm.size + 1 : Nat) : Int) = c := by
      rw [Nat.add_assoc, byteAt_drop, h, List.getD_eq_getElem?_getD, List.getElem?_append_right (by rw [bytesL_len]; omega), bytesL_len, Nat.add_sub_cancel_left]; rfl
    have b3 : s.extract p (p + nm.size) = nm := by
      apply bytesL_inj
      rw [bytesL_extract, h, Nat.add_sub_cancel_left, ← bytesL_len nm, List.take_left]
    have e1 : w64 (((p + nm.size : Nat) : Int) + 1) = ((p + nm.size + 1 : Nat) : Int) := wsucc (by omega)
    have e2 : w64 (((p + nm.size : Nat) : Int) + 2) = ((p + nm.size + 2 : Nat) : Int) := by rw [w64_id (by omega) (by omega)]; omega
    have e3 : w64 (((p + nm.size + 1 : Nat) : Int) + 1) = ((p + nm.size + 2 : Nat) : Int) := by rw [w64_id (by omega) (by omega)]; omega
    simp only [e1, e2, e3, b1, b2, b3, Int.toNat_natCast]
    exact br_d (by omega) (ck_t (by omega) (br_t rfl (br_d (by omega) (ck_t (by omega) (ck_t (by omega) (ck_t (by omega) (ck_t (by simp; omega) (ck_t (by omega) (ck_t (by simp; omega) rfl)))))))))
  | succ d ih =>
    intro j f hj
    rw [show f + (d + 1) + 1 = (f + d + 1) + 1 by omega, impl.NodeRead.l0.f]
    have hjb : j < (bytesL nm).length := by rw [bytesL_len]; omega
    have b1 : byteAt s ((p + j : Nat) : Int) ≠ 61 := by
      rw [byteAt_drop, h, List.getD_eq_getElem?_getD, List.getElem?_append_left hjb, List.getElem?_eq_getElem hjb]
      exact hn _ (List.getElem_mem hjb)
    have e1 : w64 (((p + j : Nat) : Int) + 1) = ((p + (j + 1) : Nat) : Int) := wsucc (by omega)
    simp only [e1]
    exact br_d (by omega) (ck_t (by omega) (br_f (beq_eq_false_iff_ne.2 b1) (ih (j + 1) f (by omega))))
theorem name_ne {nm : ByteArray} (h : nameOk nm) : ∀ x ∈ bytesL nm, x ≠ 61 := by
  intro x hx
  obtain ⟨j, hj, rfl⟩ := List.mem_iff_getElem.1 hx
  have h1 := h.1 j (by omega) (by rw [bytesL_len] at hj; exact hj)
  have h2 := byteAt_drop nm 0 j
  rw [Nat.zero_add, List.drop_zero, List.getD_eq_getElem?_getD, List.getElem?_eq_getElem hj] at h2
  have h3 : byteAt nm (j : Int) = (bytesL nm)[j] := h2
  omega
theorem readL (s : ByteArray) (hs : s.size ≤ 1000000) (n : List ByteArray) (m : List Int) (hnm : n.length = m.length) (hn : n.length ≤ 1000) (ha : allF (kidAt n m) 0 n.length) : ∀ (d k P F : Nat), k + d = n.length → (bytesL s).drop P = nodeL n m k d → s.size < F + P → P ≤ s.size →
    impl.NodeRead.l0.f s F (n.take k) (m.take k) (P : Int) (P : Int) = some (n, m) := by
  intro d
  induction d with
  | zero =>
    intro k P F hk hd hF hP0
    have hP : s.size ≤ P := by
      have : (bytesL s).drop P = [] := hd
      rw [List.drop_eq_nil_iff, bytesL_len] at this; exact this
    obtain ⟨F, rfl⟩ := Nat.exists_eq_add_one_of_ne_zero (by omega : F ≠ 0)
    rw [impl.NodeRead.l0.f, List.take_of_length_le (by omega), List.take_of_length_le (by omega)]
    exact br_n (by omega) rfl
  | succ d ih =>
    intro k P F hk hd hF hP0
    have hka := ha k (by omega) (by omega)
    rw [nodeL_succ] at hd
    have hd' : (bytesL s).drop P = bytesL (nam n k) ++ (61 :: IntKind.u8.wrap (w64 (48 + kid m k)) :: nodeL n m (k + 1) d) := by
      rw [hd]; unfold nodeE; simp
    have hl : s.size - P = (nam n k).size + ((nodeL n m (k + 1) d).length + 2) := by rw [← bytesL_len s, ← List.length_drop, hd', List.length_append, bytesL_len]; simp
    obtain ⟨f, rfl⟩ : ∃ f, F = f + (nam n k).size + 1 := ⟨F - ((nam n k).size + 1), by omega⟩
    have hsc := scan s hs (nam n k) _ _ P (n.take k) (m.take k) (by rw [List.length_take]; omega) (by rw [List.length_take]; omega) hd' (name_ne hka.1) (nam n k).size 0 f (by omega)
    simp only [Nat.add_zero] at hsc
    rw [hsc]
    have hkd : w64 (w64 (IntKind.u8.wrap (w64 (48 + kid m k))) - 48) = kid m k := by
      have := hka.2.1
      rw [w64_id (x := 48 + kid m k) (by omega) (by omega), wrap_u8 (by omega) (by omega), w64_id (x := 48 + kid m k) (by omega) (by omega), w64_id (by omega) (by omega)]; omega
    have t1 : n.take k ++ [nam n k] = n.take (k + 1) := by
      rw [List.take_succ_eq_append_getElem (by omega : k < n.length)]; unfold nam; rw [getD_at (by omega)]
    have t2 : m.take k ++ [kid m k] = m.take (k + 1) := by
      rw [List.take_succ_eq_append_getElem (by omega : k < m.length)]; unfold kid; rw [getD_at (by omega)]
    rw [hkd, t1, t2]
    refine ih (k + 1) (P + (nam n k).size + 2) f (by omega) ?_ (by omega) (by omega)
    rw [show P + (nam n k).size + 2 = P + ((nam n k).size + 2) by omega, ← List.drop_drop, hd']
    rw [show (nam n k).size + 2 = (bytesL (nam n k)).length + 2 by rw [bytesL_len], ← List.drop_drop, List.drop_left]; rfl
theorem wrap8n (x : Int) : 0 ≤ IntKind.u8.wrap x ∧ IntKind.u8.wrap x < 256 := by
  rw [IntKind.wrap_u8]
  omega
theorem ofBytes_size (l : List Int) : (ofBytes l).size = l.length := by
  show (l.map fun n => UInt8.ofNat n.toNat).toArray.size = l.length
  simp
theorem nodeL_bytes {n : List ByteArray} {m : List Int} : ∀ (d i : Nat), Bytes (nodeL n m i d)
  | 0, i => .nil
  | d + 1, i => by
    rw [nodeL_succ]
    unfold nodeE
    exact ((bytesL_ok _).append ((Bytes.one (by decide) (by decide) : Bytes [61]).append (Bytes.one (wrap8n _).1 (wrap8n _).2))).append (nodeL_bytes d (i + 1))
theorem nodeT_size {b : Bool} {n : List ByteArray} {m : List Int} {t : ByteArray} (hn : n.length ≤ 1000) : (nodeT b n m t).size ≤ 9000 := by
  unfold nodeT
  by_cases c : nodeOk b n m t
  case neg => rw [if_neg c]; decide
  rw [if_pos c]
  cases b with
  | true =>
    rw [if_pos rfl, ofBytes_size, List.length_append]
    have := nodeL_len (n := n) (m := m) n.length 0 (fun j h1 h2 => (nodeOk_dir c).2 j h1 (by omega))
    simp only [List.length_cons, List.length_nil]; omega
  | false =>
    rw [if_neg (by decide), ByteArray.size_append]
    have h1 : t.size ≤ 60 := by
      rcases c with c | c
      · cases c.1
      · exact c.2.2.2
    have : (ByteArray.mk #[102]).size = 1 := rfl
    omega
theorem nodeT_ne {b : Bool} {n : List ByteArray} {m : List Int} {t : ByteArray} (c : nodeOk b n m t) : nodeT b n m t ≠ noVal := by
  unfold nodeT
  rw [if_pos c]
  intro h
  have h2 := size_zero.2 h
  cases b with
  | true => rw [if_pos rfl, ofBytes_size, List.length_append] at h2; simp at h2
  | false =>
    rw [if_neg (by decide), ByteArray.size_append] at h2
    have : (ByteArray.mk #[102]).size = 1 := rfl
    omega
theorem NodeRead_rt (K : Nat) (hK : 10000000000000 ≤ K) (b : Bool) (n : List ByteArray) (m : List Int) (t : ByteArray) (hn : n.length ≤ 100) (hm : m.length ≤ 100) (hs : Szs n) (ht : t.size ≤ 100) (c : nodeOk b n m t) : impl.NodeRead.f K (nodeT b n m t) = some (b, n, m, t, true) := by
  have c0 := nodeT_ne c
  have n0 : strEq (nodeT b n m t) noVal = false := by rw [← Bool.not_eq_true, strEq_iff]; exact c0
  have hsz := nodeT_size (b := b) (m := m) (t := t) (n := n) (by omega)
  have hp : (nodeT b n m t).size ≠ 0 := fun h => c0 (size_zero.1 h)
  unfold impl.NodeRead.f
  cases b with
  | true =>
    have ht0 : t = noVal := by
      rcases c with c | c
      · exact size_zero.1 c.2.2.1
      · cases c.1
    subst ht0
    have hd := nodeOk_dir c
    have hh := nodeT_head n m noVal c0
    have h1 := impl_NodeText_eq K hK true n m noVal (by omega) (fun x hx => by have := hs x hx; omega) (by omega) (by decide)
    have hb : bytesL (nodeT true n m noVal) = [100] ++ nodeL n m 0 n.length := by
      unfold nodeT
      rw [if_pos c, if_pos rfl, bytesL_ofBytes ((Bytes.one (by decide) (by decide) : Bytes [100]).append (nodeL_bytes _ _))]
    have hl := readL (nodeT true n m noVal) (by omega) n m hd.1 (by omega) hd.2 n.length 0 1 K (by omega) (by rw [hb]; rfl) (by omega) (by omega)
    rw [List.take_zero, List.take_zero] at hl
    exact br_f n0 (ck_t (by omega) (br_f (by rw [hh]; rfl) (br_t (by rw [hh]; rfl) (bind_t hl (bind_t h1 (br_t (strEq_self _) rfl))))))
  | false =>
    have hc : n = [] ∧ m = [] ∧ t.size ≤ 60 := by
      rcases c with c | c
      · cases c.1
      · exact ⟨List.eq_nil_of_length_eq_zero c.2.1, List.eq_nil_of_length_eq_zero c.2.2.1, c.2.2.2⟩
    obtain ⟨rfl, rfl, ht6⟩ := hc
    have hT : nodeT false [] [] t = (ByteArray.mk #[102]) ++ t := by unfold nodeT; rw [if_pos c, if_neg (by decide)]
    have hb : bytesL (nodeT false [] [] t) = 102 :: bytesL t := by
      rw [hT]; unfold bytesL; rw [ByteArray.data_append]; simp
    have hx : (nodeT false [] [] t).extract 1 (nodeT false [] [] t).size = t := by
      apply bytesL_inj
      rw [bytesL_extract, hb, List.drop_succ_cons, List.drop_zero, List.take_of_length_le]
      rw [← bytesL_len (nodeT false [] [] t), hb]; simp
    have hh : byteAt (nodeT false [] [] t) 0 = 102 := by
      have := byteAt_drop (nodeT false [] [] t) 0 0
      rw [hb] at this; exact this
    have h1 := impl_NodeText_eq K hK false [] [] t (by simp) (by simp) (by simp) (by omega)
    rw [hx]
    exact br_f n0 (ck_t (by omega) (br_t (by rw [hh]; rfl) (ck_t (by omega) (bind_t h1 (br_t (strEq_self _) rfl)))))
theorem DrawNodeText_ok (K : Nat) (hK : 10000000000000 ≤ K) (b : List Int) (hl : b.length ≤ 1000000000000) : ∃ d n m t, spec.DrawNodeText.f K b = some (d, n, m, t) ∧ n.length ≤ 10 ∧ m.length ≤ 10 ∧ Szs n ∧ t.size ≤ 61 := by
  unfold spec.DrawNodeText.f
  obtain ⟨s, h1⟩ := l1New_ok K hK b hl
  obtain ⟨d, n, m, t, j, s', h2, _, h3⟩ := l8Draw_ok K hK b hl 0 s (by decide)
  exact ⟨d, n, m, t, bind_t h1 (bind_t h2 rfl), h3⟩
theorem DrawNodeRead_ok (K : Nat) (hK : 10000000000000 ≤ K) (b : List Int) (hl : b.length ≤ 1000000000000) : ∃ s, spec.DrawNodeRead.f K b = some s ∧ s.size ≤ 100000 := by
  unfold spec.DrawNodeRead.f
  obtain ⟨s, h1⟩ := l1New_ok K hK b hl
  obtain ⟨d, n, m, t, j, s', h2, h3, h4, h5, h6, h7⟩ := l8DrawRight_ok K hK b hl 0 s (by decide)
  have h8 := spec_NodeText_eq K hK d n m t (by omega) (fun x hx => by have := h6 x hx; omega) (by omega) (by omega)
  have hz := nodeT_size (b := d) (m := m) (t := t) (n := n) (by omega)
  have e : w64 (((nodeT d n m t).size : Int) + 1) = ((nodeT d n m t).size : Int) + 1 := w64_id (by omega) (by omega)
  obtain ⟨v, j2, s2, g1, g2, g3, g4⟩ := l1Below_ok b hl j s' (w64 (((nodeT d n m t).size : Int) + 1)) h3
  rw [e] at g4
  have g5 := g4 (by omega)
  obtain ⟨y, j3, s3, k1, k2, k3, k4⟩ := l1Below_ok b hl j2 s2 5 g2
  generalize nodeT d n m t = T at h8 hz g1 g5
  have hx1 : (T.extract 0 v.toNat).size ≤ 9000 := by rw [ByteArray.size_extract]; omega
  have hx2 : (T.extract v.toNat T.size).size ≤ 9000 := by rw [ByteArray.size_extract]; omega
  by_cases c0 : y = 0
  · exact ⟨_, bind_t h1 (bind_t h2 (bind_t h8 (bind_t g1 (bind_t k1 (br_t (by simpa using c0) (ck_t g3 (ck_t (by show v ≤ _; omega) rfl))))))), by show (T.extract 0 v.toNat).size ≤ _; omega⟩
  have n0 : (y == 0) = false := by simpa using c0
  by_cases c1 : y = 1
  · obtain ⟨x, j4, s4, q1, q2, q3⟩ := l1Pick_ok b hl j3 s3 [(ByteArray.mk #[61]), (ByteArray.mk #[97]), (ByteArray.mk #[49]), (ByteArray.mk #[97, 61, 57])] k2 (by decide)
    have hxs : x.size ≤ 10 := by
      simp only [List.mem_cons, List.not_mem_nil, or_false] at q3
      rcases q3 with rfl | rfl | rfl | rfl <;> decide
    have hx3 : (T.extract 0 v.toNat ++ x).size = (T.extract 0 v.toNat).size + x.size := ByteArray.size_append
    exact ⟨(T.extract 0 v.toNat ++ x) ++ T.extract v.toNat T.size, bind_t h1 (bind_t h2 (bind_t h8 (bind_t g1 (bind_t k1 (br_f n0 (br_t (by simpa using c1) (ck_t g3 (ck_t (by show v ≤ _; omega) (bind_t q1 (ck_t (by show (((T.extract 0 v.toNat).size + x.size : Nat) : Int) ≤ _; omega) (ck_t (by show (((T.extract 0 v.toNat ++ x).size + (T.extract v.toNat T.size).size : Nat) : Int) ≤ _; omega) rfl))))))))))), by rw [ByteArray.size_append]; omega⟩
  have n1 : (y == 1) = false := by simpa using c1
  exact ⟨T, bind_t h1 (bind_t h2 (bind_t h8 (bind_t g1 (bind_t k1 (br_f n0 (br_f n1 rfl)))))), by omega⟩
theorem DrawNameOk_ok (K : Nat) (hK : 10000000000000 ≤ K) (b : List Int) (hl : b.length ≤ 1000000000000) : ∃ s, spec.DrawNameOk.f K b = some s ∧ s.size ≤ 100 := by
  unfold spec.DrawNameOk.f
  obtain ⟨s, h1⟩ := l1New_ok K hK b hl
  obtain ⟨x, j, t, h2, h3, h4⟩ := l1Pick_ok b hl 0 s [noVal, (ByteArray.mk #[97]), (ByteArray.mk #[97, 98, 99, 100, 101, 102]), (ByteArray.mk #[97, 98, 99, 100, 101, 102, 103]), (ByteArray.mk #[65]), (ByteArray.mk #[97, 61]), (ByteArray.mk #[122, 122])] (by decide) (by decide)
  refine ⟨x, bind_t h1 (bind_t h2 rfl), ?_⟩
  simp only [List.mem_cons, List.not_mem_nil, or_false] at h4
  rcases h4 with rfl | rfl | rfl | rfl | rfl | rfl | rfl <;> decide
theorem sameTexts_l0 (a : List ByteArray) (hl : a.length ≤ 1000000) : ∀ (f i : Nat), a.length < i + f → i ≤ a.length → laws.sameTexts.l0.f a a f (i : Int) = some (.inr ()) := by
  intro f
  induction f with
  | zero => intro i h hi; omega
  | succ f ih =>
    intro i h hi
    rw [laws.sameTexts.l0.f]
    by_cases c : i < a.length
    · rw [wsucc (by omega)]
      exact br_d (by omega) (ck_t (by omega) (ck_t (by omega) (br_t (strEq_self _) (ih (i + 1) (by omega) (by omega)))))
    · exact br_n (by omega) rfl
theorem sameTexts_self (K : Nat) (hK : 10000000000000 ≤ K) (a : List ByteArray) (hl : a.length ≤ 1000000) : laws.sameTexts.f K a a = some true := by
  unfold laws.sameTexts.f
  exact br_f (by simp) (bind_t (sameTexts_l0 a hl K 0 (by omega) (by omega)) rfl)
theorem sameInts_l0 (a : List Int) (hl : a.length ≤ 1000000) : ∀ (f i : Nat), a.length < i + f → i ≤ a.length → laws.sameInts.l0.f a a f (i : Int) = some (.inr ()) := by
  intro f
  induction f with
  | zero => intro i h hi; omega
  | succ f ih =>
    intro i h hi
    rw [laws.sameInts.l0.f]
    by_cases c : i < a.length
    · rw [wsucc (by omega)]
      exact br_d (by omega) (ck_t (by omega) (ck_t (by omega) (br_f (by simp) (ih (i + 1) (by omega) (by omega)))))
    · exact br_n (by omega) rfl
theorem sameInts_self (K : Nat) (hK : 10000000000000 ≤ K) (a : List Int) (hl : a.length ≤ 1000000) : laws.sameInts.f K a a = some true := by
  unfold laws.sameInts.f
  exact br_f (by simp) (bind_t (sameInts_l0 a hl K 0 (by omega) (by omega)) rfl)
theorem FnNodes_pure (b : List Int) (_ : b.length ≤ maxLen) (_ : ∀ x ∈ b, (Lit.int .u8 x).wf = true) : laws.FnNodes.f 10000000000000 b = some true := by
  unfold laws.FnNodes.f
  refine bind_t (a := ()) rfl ?_
  by_cases c : (b.length : Int) > 1048576
  · exact br_d c rfl
  have hl : b.length ≤ 1000000000000 := by omega
  have hK : 10000000000000 ≤ 10000000000000 := Nat.le_refl _
  obtain ⟨d, n, m, t, hd1, hn, hm, hs, ht⟩ := DrawNodeText_ok 10000000000000 hK b hl
  have hsz : ∀ x ∈ n, x.size ≤ 1000000000000 := fun x hx => by have := hs x hx; omega
  have i1 := impl_NodeText_eq 10000000000000 hK d n m t (by omega) hsz (by omega) (by omega)
  have i2 := spec_NodeText_eq 10000000000000 hK d n m t (by omega) hsz (by omega) (by omega)
  have i3 := impl_NodeOk_eq 10000000000000 hK d n m t (by omega) hsz (by omega) (by omega)
  obtain ⟨s, hd2, hs2⟩ := DrawNodeRead_ok 10000000000000 hK b hl
  obtain ⟨x, r1, r2, _, _, r3, r4⟩ := NodeRead_eq2 10000000000000 hK s (by omega)
  obtain ⟨nm, hd3, hs3⟩ := DrawNameOk_ok 10000000000000 hK b hl
  have q1 := impl_NameOk_eq 10000000000000 hK nm (by omega)
  have q2 := spec_NameOk_eq 10000000000000 hK nm (by omega)
  refine br_n c (bind_t hd1 (bind_t i1 (bind_t i2 (br_t (strEq_self _) (bind_t i3 ?_)))))
  by_cases ok : nodeOk d n m t
  · have e0 : strEq (nodeT d n m t) noVal = false := by rw [← Bool.not_eq_true, strEq_iff]; exact nodeT_ne ok
    have rt := NodeRead_rt 10000000000000 hK d n m t (by omega) (by omega) hs (by omega) ok
    refine br_t (by rw [e0, decide_eq_true ok]; rfl) (br_f e0 (bind_t rt (br_t rfl (br_t (by simp) (br_t (strEq_self _) (bind_t (sameTexts_self _ hK n (by omega)) (br_t rfl (bind_t (sameInts_self _ hK m (by omega)) (br_t rfl ?_)))))))))
    refine bind_t hd2 (bind_t r2 (bind_t r1 (bind_t hd3 (bind_t q1 (bind_t q2 (br_t (by simp) (br_t (by simp) ?_)))))))
    cases hx : x.2.2.2.2 with
    | true => exact br_t rfl (bind_t (r3 hx) (by rw [strEq_self]))
    | false => exact br_f rfl (br_f (r4 hx).1 (br_t (strEq_iff.2 (r4 hx).2) rfl))
  · have e0 : strEq (nodeT d n m t) noVal = true := by rw [strEq_iff]; unfold nodeT; rw [if_neg ok]
    refine br_t (by rw [e0, decide_eq_false ok]; rfl) (br_t e0 ?_)
    refine bind_t hd2 (bind_t r2 (bind_t r1 (bind_t hd3 (bind_t q1 (bind_t q2 (br_t (by simp) (br_t (by simp) ?_)))))))
    cases hx : x.2.2.2.2 with
    | true => exact br_t rfl (bind_t (r3 hx) (by rw [strEq_self]))
    | false => exact br_f rfl (br_f (r4 hx).1 (br_t (strEq_iff.2 (r4 hx).2) rfl))
end Go.Proofs.Ythneilmhnbboeaa.Pure
