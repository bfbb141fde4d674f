/- The law FnKids, in plain words: its function answers true. -/
import Derived.Test.YtmodnnokcmabhaaGFnKids
import Derived.Test.YtmodnnokcmabhaaDenMod
import Derived.KernelRfl
namespace Go.Proofs.Ytmodnnokcmabhaa.Pure
open Go Go.RowKit Go.Proofs.Ytmodnnokcmabhaa.Den Go.Proofs.Ytmodnnokcmabhaa.GFnKids
set_option linter.unusedSimpArgs false
set_option linter.unusedVariables false
theorem nat_tmod (n m : Nat) : ((n : Int).tmod (m : Int)) = ((n % m : Nat) : Int) := (Int.ofNat_tmod n m).symm
theorem nat_tdiv (n m : Nat) : ((n : Int).tdiv (m : Int)) = ((n / m : Nat) : Int) := (Int.ofNat_tdiv n m).symm
theorem spec_l1In_eq (n lo hi : Int) : spec.l1In.f n lo hi = some (decide (lo ≤ n ∧ n ≤ hi)) := by
  unfold spec.l1In.f
  by_cases c : n ≥ lo
  · refine br_d c ?_
    by_cases d : n ≤ hi
    · rw [decide_eq_true d, decide_eq_true ⟨c, d⟩]
    · rw [decide_eq_false d, decide_eq_false (fun h => d h.2)]
  · refine br_n c ?_
    rw [decide_eq_false (fun h => c h.1)]
theorem spec_NameOk_l0 (s : ByteArray) (hl : s.size ≤ 1000000000000) : ∀ (f i : Nat), s.size < i + f → i ≤ s.size →
    spec.NameOk.l0.f s f (i : Int) = some (if allF (fun j => 97 ≤ byteAt s (j : Int) ∧ byteAt s (j : Int) ≤ 122) i s.size then .inr () else .inl ()) := by
  intro f
  induction f with
  | zero => intro i h hi; omega
  | succ f ih =>
    intro i h hi
    rw [spec.NameOk.l0.f]
    by_cases c : i < s.size
    · have e1 : w64 ((i : Int) + 1) = ((i + 1 : Nat) : Int) := wsucc (by omega)
      simp only [e1]
      by_cases d1 : byteAt s (i : Int) < 97
      · rw [if_neg (fun g => by have : 97 ≤ byteAt s (i : Int) ∧ byteAt s (i : Int) ≤ 122 := ((allF_step c).1 g).1; omega)]
        exact br_d (by omega) (ck_t (by omega) (br_d d1 rfl))
      · by_cases d2 : byteAt s (i : Int) > 122
        · rw [if_neg (fun g => by have : 97 ≤ byteAt s (i : Int) ∧ byteAt s (i : Int) ≤ 122 := ((allF_step c).1 g).1; omega)]
          exact br_d (by omega) (ck_t (by omega) (br_n d1 (br_d d2 rfl)))
        · rw [if_iff ((allF_step c).trans ⟨fun g => g.2, fun g => ⟨⟨by omega, by omega⟩, g⟩⟩)]
          exact br_d (by omega) (ck_t (by omega) (br_n d1 (br_n d2 (ih (i + 1) (by omega) (by omega)))))
    · rw [if_pos (allF_end (by omega))]
      exact br_n (by omega) rfl
theorem spec_NameOk_eq (K : Nat) (hK : 10000000000000 ≤ K) (s : ByteArray) (hl : s.size ≤ 1000000000000) : spec.NameOk.f K s = some (decide (nameOk s)) := by
  unfold spec.NameOk.f
  refine bind_t (spec_NameOk_l0 s hl K 0 (by omega) (by omega)) ?_
  by_cases d : allF (fun j => 97 ≤ byteAt s (j : Int) ∧ byteAt s (j : Int) ≤ 122) 0 s.size
  · rw [if_pos d]
    refine bind_t (spec_l1In_eq _ 1 6) ?_
    congr 1
    exact decide_eq_decide.2 ⟨fun g => ⟨d, by omega, by omega⟩, fun g => by have := g.2; omega⟩
  · rw [if_neg d, decide_eq_false (p := nameOk s) (fun g => d g.1)]
    rfl
theorem spec_NodeOk_in1 (b : Bool) (n : List ByteArray) (m : List Int) (t : ByteArray) (hl : m.length ≤ 1000000000000) (i : Nat) (hi : i < m.length) (x y : Bool) : ∀ (f k : Nat), i < k + f → k ≤ i →
    spec.NodeOk.l1.f b n m t (i : Int) f (k : Int) x y = some (if allF (fun k => kid m k ≠ kid m i) k i then .inr (x, y) else .inl ()) := by
  intro f
  induction f with
  | zero => intro k h hk; omega
  | succ f ih =>
    intro k h hk
    rw [spec.NodeOk.l1.f]
    by_cases c : k < i
    · have e1 : w64 ((k : Int) + 1) = ((k + 1 : Nat) : Int) := wsucc (by omega)
      simp only [Int.toNat_natCast, e1]
      by_cases d : kid m k = kid m i
      · rw [if_neg (fun g => (show kid m k ≠ kid m i from ((allF_step c).1 g).1) d)]
        exact br_d (by omega) (ck_t (by omega) (ck_t (by omega) (ck_t (by omega) (ck_t (by omega) (br_t (beq_iff_eq.2 d) rfl)))))
      · rw [if_iff ((allF_step c).trans ⟨fun g => g.2, fun g => ⟨d, g⟩⟩)]
        exact br_d (by omega) (ck_t (by omega) (ck_t (by omega) (ck_t (by omega) (ck_t (by omega) (br_f (beq_eq_false_iff_ne.2 d) (ih (k + 1) (by omega) (by omega)))))))
    · rw [if_pos (allF_end (by omega))]
      exact br_n (by omega) rfl
theorem spec_NodeOk_in2 (b : Bool) (n : List ByteArray) (m : List Int) (t : ByteArray) (hl : m.length ≤ 1000000000000) (i : Nat) (hi : i < m.length) (x y : Bool) : ∀ (f k : Nat), i < k + f → k ≤ i →
    spec.NodeOk.l1_1.f b n m t (i : Int) f (k : Int) x y = some (if allF (fun k => kid m k ≠ kid m i) k i then .inr (x, y) else .inl ()) := by
  intro f
  induction f with
  | zero => intro k h hk; omega
  | succ f ih =>
    intro k h hk
    rw [spec.NodeOk.l1_1.f]
    by_cases c : k < i
    · have e1 : w64 ((k : Int) + 1) = ((k + 1 : Nat) : Int) := wsucc (by omega)
      simp only [Int.toNat_natCast, e1]
      by_cases d : kid m k = kid m i
      · rw [if_neg (fun g => (show kid m k ≠ kid m i from ((allF_step c).1 g).1) d)]
        exact br_d (by omega) (ck_t (by omega) (ck_t (by omega) (ck_t (by omega) (ck_t (by omega) (br_t (beq_iff_eq.2 d) rfl)))))
      · rw [if_iff ((allF_step c).trans ⟨fun g => g.2, fun g => ⟨d, g⟩⟩)]
        exact br_d (by omega) (ck_t (by omega) (ck_t (by omega) (ck_t (by omega) (ck_t (by omega) (br_f (beq_eq_false_iff_ne.2 d) (ih (k + 1) (by omega) (by omega)))))))
    · rw [if_pos (allF_end (by omega))]
      exact br_n (by omega) rfl
theorem spec_NodeOk_l0 (K : Nat) (hK : 10000000000000 ≤ K) (b : Bool) (n : List ByteArray) (m : List Int) (t : ByteArray) (hn : n.length ≤ 1000000000000) (hs : ∀ x ∈ n, x.size ≤ 1000000000000) (hm : n.length = m.length) : ∀ (f i : Nat), n.length < i + f → i ≤ n.length →
    spec.NodeOk.l0.f K b n m t f (i : Int) = some (if allF (kidAt n m) i n.length then .inr () else .inl ()) := by
  intro f
  induction f with
  | zero => intro i h hi; omega
  | succ f ih =>
    intro i h hi
    rw [spec.NodeOk.l0.f]
    by_cases c : i < n.length
    · have e1 : w64 ((i : Int) + 1) = ((i + 1 : Nat) : Int) := wsucc (by omega)
      have hx : (n.getD i noVal).size ≤ 1000000000000 := by rw [getD_at c]; exact hs _ (List.getElem_mem c)
      have hN := spec_NameOk_eq K hK (n.getD i noVal) hx
      have hI := spec_l1In_eq (m.getD i 0) 1 11
      simp only [Int.toNat_natCast, e1]
      by_cases d1 : nameOk (nam n i)
      case neg =>
        rw [if_neg (fun g => d1 ((allF_step c).1 g).1.1)]
        exact br_d (by omega) (ck_t (by omega) (bind_t hN (br_n d1 rfl)))
      by_cases d2 : 1 ≤ kid m i ∧ kid m i ≤ 11
      case neg =>
        rw [if_neg (fun g => d2 ((allF_step c).1 g).1.2.1)]
        exact br_d (by omega) (ck_t (by omega) (bind_t hN (br_d d1 (ck_t (by omega) (bind_t hI (br_n d2 rfl))))))
      by_cases d3 : 0 < i → strLt (nam n (i - 1)) (nam n i) = true
      case neg =>
        rw [if_neg (fun g => d3 ((allF_step c).1 g).1.2.2.1)]
        have d0 : 0 < i := Decidable.byContradiction fun h => d3 (fun h' => absurd h' h)
        have d4 : ¬ strLt (nam n (i - 1)) (nam n i) = true := fun h => d3 (fun _ => h)
        have e2 : w64 ((i : Int) - 1) = ((i - 1 : Nat) : Int) := by rw [w64_id (by omega) (by omega)]; omega
        simp only [e2, Int.toNat_natCast]
        exact br_d (by omega) (ck_t (by omega) (bind_t hN (br_d d1 (ck_t (by omega) (bind_t hI (br_d d2 (br_d (by omega) (ck_t (by omega) (ck_t (by omega) (br_f (Bool.eq_false_iff.2 d4 : strLt (nam n (i - 1)) (nam n i) = false) rfl))))))))))
      by_cases d5 : allF (fun k => kid m k ≠ kid m i) 0 i
      case neg =>
        rw [if_neg (fun g => d5 ((allF_step c).1 g).1.2.2.2)]
        by_cases d0 : 0 < i
        · have e2 : w64 ((i : Int) - 1) = ((i - 1 : Nat) : Int) := by rw [w64_id (by omega) (by omega)]; omega
          have gi := spec_NodeOk_in1 b n m t (by omega) i (by omega) (decide (1 ≤ m.getD i 0 ∧ m.getD i 0 ≤ 11)) (!decide (1 ≤ m.getD i 0 ∧ m.getD i 0 ≤ 11)) K 0 (by omega) (by omega)
          rw [if_neg d5] at gi
          simp only [e2, Int.toNat_natCast]
          exact br_d (by omega) (ck_t (by omega) (bind_t hN (br_d d1 (ck_t (by omega) (bind_t hI (br_d d2 (br_d (by omega) (ck_t (by omega) (ck_t (by omega) (br_t (d3 d0) (bind_t gi rfl)))))))))))
        · have gi := spec_NodeOk_in2 b n m t (by omega) i (by omega) (decide (1 ≤ m.getD i 0 ∧ m.getD i 0 ≤ 11)) (!decide (1 ≤ m.getD i 0 ∧ m.getD i 0 ≤ 11)) K 0 (by omega) (by omega)
          rw [if_neg d5] at gi
          exact br_d (by omega) (ck_t (by omega) (bind_t hN (br_d d1 (ck_t (by omega) (bind_t hI (br_d d2 (br_n (by omega) (bind_t gi rfl))))))))
      rw [if_iff ((allF_step c).trans ⟨fun g => g.2, fun g => ⟨⟨d1, d2, d3, d5⟩, g⟩⟩)]
      have hr := ih (i + 1) (by omega) (by omega)
      by_cases d0 : 0 < i
      · have e2 : w64 ((i : Int) - 1) = ((i - 1 : Nat) : Int) := by rw [w64_id (by omega) (by omega)]; omega
        have gi := spec_NodeOk_in1 b n m t (by omega) i (by omega) (decide (1 ≤ m.getD i 0 ∧ m.getD i 0 ≤ 11)) (!decide (1 ≤ m.getD i 0 ∧ m.getD i 0 ≤ 11)) K 0 (by omega) (by omega)
        rw [if_pos d5] at gi
        simp only [e2, Int.toNat_natCast]
        exact br_d (by omega) (ck_t (by omega) (bind_t hN (br_d d1 (ck_t (by omega) (bind_t hI (br_d d2 (br_d (by omega) (ck_t (by omega) (ck_t (by omega) (br_t (d3 d0) (bind_t gi hr)))))))))))
      · have gi := spec_NodeOk_in2 b n m t (by omega) i (by omega) (decide (1 ≤ m.getD i 0 ∧ m.getD i 0 ≤ 11)) (!decide (1 ≤ m.getD i 0 ∧ m.getD i 0 ≤ 11)) K 0 (by omega) (by omega)
        rw [if_pos d5] at gi
        exact br_d (by omega) (ck_t (by omega) (bind_t hN (br_d d1 (ck_t (by omega) (bind_t hI (br_d d2 (br_n (by omega) (bind_t gi hr))))))))
    · rw [if_pos (allF_end (by omega))]
      exact br_n (by omega) rfl
theorem spec_NodeOk_eq (K : Nat) (hK : 10000000000000 ≤ K) (b : Bool) (n : List ByteArray) (m : List Int) (t : ByteArray) (hn : n.length ≤ 1000000000000) (hs : ∀ x ∈ n, x.size ≤ 1000000000000) (hm : m.length ≤ 1000000000000) (ht : t.size ≤ 1000000000000) : spec.NodeOk.f K b n m t = some (decide (nodeOk b n m t)) := by
  unfold spec.NodeOk.f
  cases b with
  | true =>
    refine br_t rfl ?_
    by_cases c : n.length = m.length
    case neg =>
      rw [decide_eq_false (p := nodeOk true n m t) (fun g => by rcases g with g | g; exact c g.2.1; cases g.1)]
      exact br_t (bne_iff_ne.2 (by omega)) rfl
    refine br_f (by simp [c]) ?_
    by_cases c2 : t.size = 0
    case neg =>
      rw [decide_eq_false (p := nodeOk true n m t) (fun g => by rcases g with g | g; exact c2 g.2.2.1; cases g.1)]
      exact br_f (by rw [← Bool.not_eq_true, strEq_iff]; exact fun h => c2 (size_zero.2 h)) rfl
    refine br_t (strEq_iff.2 (size_zero.1 c2)) (bind_t (spec_NodeOk_l0 K hK true n m t hn hs c K 0 (by omega) (by omega)) ?_)
    by_cases d : allF (kidAt n m) 0 n.length
    · rw [if_pos d, decide_eq_true (p := nodeOk true n m t) (.inl ⟨rfl, c, c2, d⟩)]; rfl
    · rw [if_neg d, decide_eq_false (p := nodeOk true n m t) (fun g => by rcases g with g | g; exact d g.2.2.2; cases g.1)]; rfl
  | false =>
    refine br_f rfl ?_
    have e : w64 ((n.length : Int) + (m.length : Int)) = (n.length : Int) + (m.length : Int) := w64_id (by omega) (by omega)
    rw [e]
    by_cases c : n.length = 0 ∧ m.length = 0
    · refine br_t (beq_iff_eq.2 (by omega)) ?_
      congr 1
      exact decide_eq_decide.2 ⟨fun g => .inr ⟨rfl, c.1, c.2, by omega⟩, fun g => by rcases g with g | g; cases g.1; have := g.2.2.2; omega⟩
    · rw [decide_eq_false (p := nodeOk false n m t) (fun g => by rcases g with g | g; cases g.1; exact c ⟨g.2.1, g.2.2.1⟩)]
      exact br_f (beq_eq_false_iff_ne.2 (by omega)) rfl
theorem and255 (x : Int) : 0 ≤ bits2 .i64 (· &&& ·) x 255 ∧ bits2 .i64 (· &&& ·) x 255 < 256 := by
  unfold bits2
  have h : ((BitVec.ofInt 64 x) &&& (BitVec.ofInt 64 255)).toNat ≤ 255 := by
    rw [BitVec.toNat_and]
    exact Nat.le_trans Nat.and_le_right (by decide)
  have e : IntKind.i64.wrap (((BitVec.ofInt 64 x) &&& (BitVec.ofInt 64 255)).toNat : Int) = (((BitVec.ofInt 64 x) &&& (BitVec.ofInt 64 255)).toNat : Int) := wraps_i64 _ (by omega) (by omega)
  show 0 ≤ IntKind.i64.wrap (((BitVec.ofInt 64 x) &&& (BitVec.ofInt 64 255)).toNat : Int) ∧ IntKind.i64.wrap (((BitVec.ofInt 64 x) &&& (BitVec.ofInt 64 255)).toNat : Int) < 256
  rw [e]
  exact ⟨by omega, by omega⟩
theorem l1New_l0 (b : List Int) (hl : b.length ≤ 1000000000000) : ∀ (f i : Nat) (n : Int), b.length < i + f → i ≤ b.length → ∃ s, spec.l1New.l0.f b f n (i : Int) = some s := by
  intro f
  induction f with
  | zero => intro i n h hi; omega
  | succ f ih =>
    intro i n h hi
    rw [spec.l1New.l0.f]
    by_cases c : i < b.length
    · by_cases d : (i : Int) < 4000
      · obtain ⟨s, g⟩ := ih (i + 1) (bits2 .i64 (· &&& ·) (w64 ((w64 ((w64 (n * 131)) + (w64 (b.getD (i : Int).toNat 0)))) + 7)) 1073741823) (by omega) (by omega)
        refine ⟨s, br_d (by omega) (br_d d (ck_t (by omega) ?_))⟩
        rw [wsucc (by omega)]
        exact g
      · exact ⟨n, br_d (by omega) (br_n d rfl)⟩
    · exact ⟨n, br_n (by omega) rfl⟩
theorem l1New_ok (K : Nat) (hK : 10000000000000 ≤ K) (b : List Int) (hl : b.length ≤ 1000000000000) : ∃ s, spec.l1New.f K b = some s := by
  obtain ⟨s, h⟩ := l1New_l0 b hl K 0 (w64 (19109 + (b.length : Int))) (by omega) (by omega)
  exact ⟨s, bind_t h rfl⟩
theorem l1Byte_ok (b : List Int) (hl : b.length ≤ 1000000000000) (i s : Int) (hi : 0 ≤ i) : ∃ v j, spec.l1Byte.f b i s = some (v, j) ∧ 0 ≤ v ∧ v < 256 ∧ 0 ≤ j := by
  unfold spec.l1Byte.f
  by_cases c : i < (b.length : Int)
  · exact ⟨_, _, br_d c (ck_t hi rfl), (and255 _).1, (and255 _).2, by rw [w64_id (by omega) (by omega)]; omega⟩
  · exact ⟨_, _, br_n c rfl, (and255 _).1, (and255 _).2, hi⟩
theorem l1Below_ok (b : List Int) (hl : b.length ≤ 1000000000000) (i s n : Int) (hi : 0 ≤ i) : ∃ v j t, spec.l1Below.f b i s n = some (v, j, t) ∧ 0 ≤ j ∧ 0 ≤ v ∧ (0 < n → v < n) := by
  unfold spec.l1Below.f
  by_cases c : n ≤ 0
  · exact ⟨0, i, s, br_d c rfl, hi, Int.le_refl _, fun h => by omega⟩
  by_cases d : n ≤ 256
  · obtain ⟨v, j, h1, h2, h3, h4⟩ := l1Byte_ok b hl i s hi
    exact ⟨_, _, _, br_n c (br_d d (bind_t h1 (ck_t (by omega) rfl))), h4, Int.tmod_nonneg _ h2, fun h => Int.tmod_lt_of_pos _ h⟩
  · obtain ⟨v1, j1, a1, a2, a3, a4⟩ := l1Byte_ok b hl i s hi
    obtain ⟨v2, j2, b1, b2, b3, b4⟩ := l1Byte_ok b hl j1 (w64 ((w64 (s * 6364136223846793005)) + 1442695040888963407)) a4
    obtain ⟨v3, j3, c1, c2, c3, c4⟩ := l1Byte_ok b hl j2 (w64 ((w64 ((w64 ((w64 (s * 6364136223846793005)) + 1442695040888963407)) * 6364136223846793005)) + 1442695040888963407)) b4
    obtain ⟨v4, j4, d1, d2, d3, d4⟩ := l1Byte_ok b hl j3 (w64 ((w64 ((w64 ((w64 ((w64 ((w64 (s * 6364136223846793005)) + 1442695040888963407)) * 6364136223846793005)) + 1442695040888963407)) * 6364136223846793005)) + 1442695040888963407)) c4
    refine ⟨_, _, _, br_n c (br_n d (bind_t a1 (bind_t b1 (bind_t c1 (bind_t d1 (ck_t (by omega) rfl)))))), d4, Int.tmod_nonneg _ ?_, fun h => Int.tmod_lt_of_pos _ h⟩
    show 0 ≤ w64 (w64 (w64 (w64 (v1 * 16777216) + w64 (v2 * 65536)) + w64 (v3 * 256)) + v4)
    rw [w64_id (x := v1 * 16777216) (by omega) (by omega), w64_id (x := v2 * 65536) (by omega) (by omega), w64_id (x := v3 * 256) (by omega) (by omega), w64_id (x := v1 * 16777216 + v2 * 65536) (by omega) (by omega), w64_id (x := v1 * 16777216 + v2 * 65536 + v3 * 256) (by omega) (by omega), w64_id (by omega) (by omega)]
    omega
theorem l1Once_ok (b : List Int) (hl : b.length ≤ 1000000000000) (i s n : Int) (hi : 0 ≤ i) : ∃ c j t, spec.l1Once.f b i s n = some (c, j, t) ∧ 0 ≤ j := by
  obtain ⟨v, j, t, h1, h2, _⟩ := l1Below_ok b hl i s n hi
  exact ⟨_, j, t, bind_t h1 rfl, h2⟩
theorem l1PickInt_ok (b : List Int) (hl : b.length ≤ 1000000000000) (i s : Int) (L : List Int) (hi : 0 ≤ i) (h0 : 0 < L.length) : ∃ v j t, spec.l1PickInt.f b i s L = some (v, j, t) ∧ 0 ≤ j ∧ v ∈ L := by
  unfold spec.l1PickInt.f
  obtain ⟨v, j, t, h1, h2, h3, h4⟩ := l1Below_ok b hl i s L.length hi
  have h5 := h4 (by omega)
  refine ⟨_, j, t, bind_t h1 (ck_t h3 (ck_t h5 rfl)), h2, ?_⟩
  show L.getD v.toNat 0 ∈ L
  rw [getD_at (by omega)]
  exact List.getElem_mem _
theorem l1Pick_ok (b : List Int) (hl : b.length ≤ 1000000000000) (i s : Int) (L : List ByteArray) (hi : 0 ≤ i) (h0 : 0 < L.length) : ∃ v j t, spec.l1Pick.f b i s L = some (v, j, t) ∧ 0 ≤ j ∧ v ∈ L := by
  unfold spec.l1Pick.f
  obtain ⟨v, j, t, h1, h2, h3, h4⟩ := l1Below_ok b hl i s L.length hi
  have h5 := h4 (by omega)
  refine ⟨_, j, t, bind_t h1 (ck_t h3 (ck_t h5 rfl)), h2, ?_⟩
  show L.getD v.toNat noVal ∈ L
  rw [getD_at (by omega)]
  exact List.getElem_mem _
def Szs (n : List ByteArray) : Prop := ∀ x ∈ n, x.size ≤ 10
theorem Szs.nil : Szs [] := fun x h => by cases h
theorem Szs.snoc {n : List ByteArray} {x : ByteArray} (h : Szs n) (hx : x.size ≤ 10) : Szs (n ++ [x]) := fun y hy => by
  rcases List.mem_append.1 hy with g | g
  · exact h y g
  · rw [List.mem_singleton.1 g]; exact hx
theorem Szs.at {n : List ByteArray} (h : Szs n) {i : Nat} (hi : i < n.length) : (n.getD i noVal).size ≤ 10 := by
  rw [getD_at hi]; exact h _ (List.getElem_mem hi)
theorem l8At_l0 (b : Bool) (n : List ByteArray) (m : List Int) (t nm : ByteArray) (hn : n.length ≤ 1000) : ∀ (f i : Nat), n.length < i + f → i ≤ n.length → ∃ r, spec.l8At.l0.f b n m t nm f (i : Int) = some r := by
  intro f
  induction f with
  | zero => intro i h hi; omega
  | succ f ih =>
    intro i h hi
    rw [spec.l8At.l0.f]
    by_cases c : i < n.length
    · by_cases c2 : (i : Int) < (m.length : Int)
      · obtain ⟨r, g⟩ := ih (i + 1) (by omega) (by omega)
        cases d : strEq (n.getD (i : Int).toNat noVal) nm with
        | true => exact ⟨_, br_d (by omega) (br_d c2 (ck_t (by omega) (br_t rfl rfl)))⟩
        | false => exact ⟨r, br_d (by omega) (br_d c2 (ck_t (by omega) (br_f rfl (by rw [wsucc (by omega)]; exact g))))⟩
      · exact ⟨_, br_d (by omega) (br_n c2 rfl)⟩
    · exact ⟨_, br_n (by omega) rfl⟩
theorem l8At_ok (K : Nat) (hK : 10000000000000 ≤ K) (b : Bool) (n : List ByteArray) (m : List Int) (t nm : ByteArray) (hn : n.length ≤ 1000) : ∃ r, spec.l8At.f K b n m t nm = some r := by
  unfold spec.l8At.f
  obtain ⟨r, h⟩ := l8At_l0 b n m t nm hn K 0 (by omega) (by omega)
  cases r with
  | inl x => exact ⟨_, bind_t h rfl⟩
  | inr x => exact ⟨_, bind_t h rfl⟩
theorem KidDrop_l0 (b : Bool) (n : List ByteArray) (m : List Int) (t : ByteArray) (hn : n.length ≤ 1000) (hs : Szs n) (q : Int) : ∀ (f i : Nat) (v : List ByteArray) (u : List Int), n.length < i + f → i ≤ n.length → v.length = u.length → v.length ≤ i → Szs v →
    ∃ v' u', spec.KidDrop.l0.f b n m t f v u q (i : Int) = some (v', u') ∧ v'.length = u'.length ∧ v'.length ≤ n.length ∧ Szs v' := by
  intro f
  induction f with
  | zero => intro i v u h hi; omega
  | succ f ih =>
    intro i v u h hi h1 h2 h3
    rw [spec.KidDrop.l0.f]
    by_cases c : i < n.length
    · by_cases c2 : (i : Int) < (m.length : Int)
      · rw [wsucc (by omega)]
        by_cases d : ((i : Int) != q) = true
        · obtain ⟨v', u', g1, g2⟩ := ih (i + 1) (v ++ [n.getD (i : Int).toNat noVal]) (u ++ [m.getD (i : Int).toNat 0]) (by omega) (by omega) (by simp [h1]) (by simp; omega) (h3.snoc (hs.at (by omega)))
          exact ⟨v', u', br_d (by omega) (br_d c2 (br_t d (ck_t (by omega) (ck_t (by simp; omega) (ck_t (by simp; omega) g1))))), g2⟩
        · obtain ⟨v', u', g1, g2⟩ := ih (i + 1) v u (by omega) (by omega) h1 (by omega) h3
          exact ⟨v', u', br_d (by omega) (br_d c2 (br_f (by simpa using d) g1)), g2⟩
      · exact ⟨v, u, br_d (by omega) (br_n c2 rfl), h1, by omega, h3⟩
    · exact ⟨v, u, br_n (by omega) rfl, h1, by omega, h3⟩
theorem KidDrop_ok (K : Nat) (hK : 10000000000000 ≤ K) (b : Bool) (n : List ByteArray) (m : List Int) (t nm : ByteArray) (hn : n.length ≤ 1000) (hs : Szs n) : ∃ v u, spec.KidDrop.f K b n m t nm = some (v, u) ∧ v.length = u.length ∧ v.length ≤ n.length ∧ Szs v := by
  unfold spec.KidDrop.f
  obtain ⟨r, h⟩ := l8At_ok K hK b n m t nm hn
  obtain ⟨v, u, g1, g2⟩ := KidDrop_l0 b n m t hn hs r K 0 [] [] (by omega) (by omega) rfl (by simp) .nil
  exact ⟨v, u, bind_t h (bind_t g1 rfl), g2⟩
theorem KidPut_l0 (b : Bool) (n : List ByteArray) (m : List Int) (t nm : ByteArray) (x : Int) (V : List ByteArray) (U : List Int) (hV : V.length = U.length) (hV2 : V.length ≤ 1000) (hVs : Szs V) (hnm : nm.size ≤ 10) : ∀ (f i : Nat) (v : List ByteArray) (u : List Int) (fl : Bool), V.length < i + f → i ≤ V.length → v.length = u.length → v.length ≤ i + 1 → (fl = false → v.length ≤ i) → Szs v →
    ∃ v' u' fl', spec.KidPut.l0.f b n m t nm x f V U v u fl (i : Int) = some (v', u', fl') ∧ v'.length = u'.length ∧ v'.length ≤ V.length + 1 ∧ (fl' = false → v'.length ≤ V.length) ∧ Szs v' := by
  intro f
  induction f with
  | zero => intro i v u fl h hi; omega
  | succ f ih =>
    intro i v u fl h hi h1 h2 h3 h4
    rw [spec.KidPut.l0.f]
    by_cases c : i < V.length
    · rw [wsucc (by omega)]
      have hz := hVs.at c
      simp only [Int.toNat_natCast]
      cases fl with
      | true =>
        obtain ⟨v', u', fl', g1, g2⟩ := ih (i + 1) (v ++ [V.getD i noVal]) (u ++ [U.getD i 0]) true (by omega) (by omega) (by simp [h1]) (by simp; omega) (fun g => by cases g) (h4.snoc hz)
        exact ⟨v', u', fl', br_d (by omega) (br_t rfl (ck_t (by omega) (ck_t (by simp; omega) (ck_t (by omega) (ck_t (by simp; omega) g1))))), g2⟩
      | false =>
        have h5 := h3 rfl
        by_cases d : (strLt (V.getD i noVal) nm || strEq (V.getD i noVal) nm) = true
        · obtain ⟨v', u', fl', g1, g2⟩ := ih (i + 1) (v ++ [V.getD i noVal]) (u ++ [U.getD i 0]) false (by omega) (by omega) (by simp [h1]) (by simp; omega) (fun g => by simp; omega) (h4.snoc hz)
          exact ⟨v', u', fl', br_d (by omega) (br_f rfl (ck_t (by omega) (br_t d (ck_t (by simp; omega) (ck_t (by omega) (ck_t (by simp; omega) g1)))))), g2⟩
        · obtain ⟨v', u', fl', g1, g2⟩ := ih (i + 1) ((v ++ [nm]) ++ [V.getD i noVal]) ((u ++ [x]) ++ [U.getD i 0]) true (by omega) (by omega) (by simp [h1]) (by simp; omega) (fun g => by cases g) ((h4.snoc hnm).snoc hz)
          exact ⟨v', u', fl', br_d (by omega) (br_f rfl (ck_t (by omega) (br_f (by simpa using d) (ck_t (by simp; omega) (ck_t (by simp; omega) (ck_t (by simp; omega) (ck_t (by omega) (ck_t (by simp; omega) g1)))))))), g2⟩
    · exact ⟨v, u, fl, br_n (by omega) rfl, h1, by omega, fun g => by have := h3 g; omega, h4⟩
theorem KidPut_ok (K : Nat) (hK : 10000000000000 ≤ K) (b : Bool) (n : List ByteArray) (m : List Int) (t nm : ByteArray) (x : Int) (hn : n.length ≤ 100) (hs : Szs n) (hnm : nm.size ≤ 10) : ∃ v u, spec.KidPut.f K b n m t nm x = some (v, u) ∧ v.length = u.length ∧ v.length ≤ n.length + 1 ∧ Szs v := by
  unfold spec.KidPut.f
  obtain ⟨V, U, h1, h2, h3, h4⟩ := KidDrop_ok K hK b n m t nm (by omega) hs
  obtain ⟨v, u, fl, g1, g2, g3, g4, g5⟩ := KidPut_l0 b n m t nm x V U h2 (by omega) h4 hnm K 0 [] [] false (by omega) (by omega) rfl (by simp) (fun _ => by simp) .nil
  cases fl with
  | true => exact ⟨v, u, bind_t h1 (bind_t g1 (br_t rfl rfl)), g2, by omega, g5⟩
  | false =>
    have g6 := g4 rfl
    exact ⟨v ++ [nm], u ++ [x], bind_t h1 (bind_t g1 (br_f rfl (ck_t (by simp; omega) (ck_t (by simp; omega) rfl)))), by simp [g2], by simp; omega, g5.snoc hnm⟩
theorem l8DrawName_ok (b : List Int) (hl : b.length ≤ 1000000000000) (i s : Int) (hi : 0 ≤ i) : ∃ v j t, spec.l8DrawName.f b i s = some (v, j, t) ∧ 0 ≤ j ∧ v.size ≤ 10 := by
  unfold spec.l8DrawName.f
  obtain ⟨v, j, t, h1, h2, h3⟩ := l1Pick_ok b hl i s [(ByteArray.mk #[97]), (ByteArray.mk #[98]), (ByteArray.mk #[99, 100]), (ByteArray.mk #[108, 111, 103]), (ByteArray.mk #[122, 122])] hi (by decide)
  refine ⟨v, j, t, bind_t h1 rfl, h2, ?_⟩
  simp only [List.mem_cons, List.not_mem_nil, or_false] at h3
  rcases h3 with rfl | rfl | rfl | rfl | rfl <;> decide
theorem l8DrawRight_l0 (K : Nat) (hK : 10000000000000 ≤ K) (b : List Int) (hl : b.length ≤ 1000000000000) : ∀ (f c : Nat) (i s : Int) (n : List ByteArray) (m : List Int), 0 ≤ i → 4 < c + f → c ≤ 4 → n.length = m.length → n.length ≤ c → Szs n →
    ∃ n' m' j t, spec.l8DrawRight.l0.f K b f i s n m (c : Int) = some (n', m', j, t) ∧ 0 ≤ j ∧ n'.length = m'.length ∧ n'.length ≤ 4 ∧ Szs n' := by
  intro f
  induction f with
  | zero => intro c i s n m h1 h2 h3; omega
  | succ f ih =>
    intro c i s n m h1 h2 h3 h4 h5 h6
    rw [spec.l8DrawRight.l0.f]
    obtain ⟨v, j, t, g1, g2, g3, g4⟩ := l1Below_ok b hl i s 5 h1
    have g5 := g4 (by decide)
    by_cases d : (c : Int) < v
    · obtain ⟨nm, j', t', k1, k2, k3⟩ := l8DrawName_ok b hl j t g2
      obtain ⟨n1, m1, q1, q2, q3, q4⟩ := KidPut_ok K hK true n m noVal nm (w64 (1 + (c : Int))) (by omega) h6 k3
      obtain ⟨n2, m2, j2, t2, r1, r2⟩ := ih (c + 1) j' t' n1 m1 k2 (by omega) (by omega) q2 (by omega) q4
      refine ⟨n2, m2, j2, t2, bind_t g1 (br_d d (bind_t k1 (bind_t q1 ?_))), r2⟩
      rw [wsucc (by omega)]
      exact r1
    · exact ⟨n, m, j, t, bind_t g1 (br_n d rfl), g2, h4, by omega, h6⟩
theorem l8DrawRight_ok (K : Nat) (hK : 10000000000000 ≤ K) (b : List Int) (hl : b.length ≤ 1000000000000) (i s : Int) (hi : 0 ≤ i) : ∃ d n m t j s', spec.l8DrawRight.f K b i s = some (d, n, m, t, j, s') ∧ 0 ≤ j ∧ n.length = m.length ∧ n.length ≤ 4 ∧ Szs n ∧ t.size ≤ 10 := by
  unfold spec.l8DrawRight.f
  obtain ⟨c, j, t, h1, h2⟩ := l1Once_ok b hl i s 2 hi
  cases c with
  | true =>
    obtain ⟨v, j', t', k1, k2, k3⟩ := l1Pick_ok b hl j t [noVal, (ByteArray.mk #[120]), (ByteArray.mk #[104, 101, 108, 108, 111]), (ByteArray.mk #[100]), (ByteArray.mk #[102])] h2 (by decide)
    refine ⟨false, [], [], v, j', t', bind_t h1 (br_t rfl (bind_t k1 rfl)), k2, rfl, by simp, .nil, ?_⟩
    simp only [List.mem_cons, List.not_mem_nil, or_false] at k3
    rcases k3 with rfl | rfl | rfl | rfl | rfl <;> decide
  | false =>
    obtain ⟨n, m, j', t', k1, k2, k3, k4, k5⟩ := l8DrawRight_l0 K hK b hl K 0 j t [] [] h2 (by omega) (by omega) rfl (by simp) .nil
    exact ⟨true, n, m, noVal, j', t', bind_t h1 (br_f rfl (bind_t k1 rfl)), k2, k3, k4, k5, by decide⟩
theorem l8Draw_l0 (b : List Int) (hl : b.length ≤ 1000000000000) (D : Bool) (N : List ByteArray) (M : List Int) : ∀ (f : Nat) (i s : Int) (d : ByteArray), 0 ≤ i → 61 < d.size + f → d.size ≤ 61 → ∃ v j t, spec.l8Draw.l0.f b f i s D N M d = some (D, N, M, v, j, t) ∧ 0 ≤ j ∧ v.size ≤ 61 := by
  intro f
  induction f with
  | zero => intro i s d h1 h2 h3; omega
  | succ f ih =>
    intro i s d h1 h2 h3
    rw [spec.l8Draw.l0.f]
    obtain ⟨v, j, t, g1, g2, g3, g4⟩ := l1Below_ok b hl i s 2 h1
    have g5 := g4 (by decide)
    have e : w64 (60 + v) = 60 + v := w64_id (by omega) (by omega)
    by_cases c : (d.size : Int) < 60 + v
    · have hz : (d ++ (ByteArray.mk #[121])).size = d.size + 1 := by rw [ByteArray.size_append]; rfl
      obtain ⟨v', j', t', k1, k2, k3⟩ := ih j t (d ++ (ByteArray.mk #[121])) g2 (by omega) (by omega)
      have hs : (ByteArray.mk #[121]).size = 1 := rfl
      exact ⟨v', j', t', bind_t g1 (br_d (by show (d.size : Int) < w64 (60 + v); omega) (ck_t (by rw [hs]; omega) k1)), k2, k3⟩
    · exact ⟨d, j, t, bind_t g1 (br_n (by show ¬ (d.size : Int) < w64 (60 + v); omega) rfl), g2, h3⟩
theorem l8Draw_ok (K : Nat) (hK : 10000000000000 ≤ K) (b : List Int) (hl : b.length ≤ 1000000000000) (i s : Int) (hi : 0 ≤ i) : ∃ d n m t j s', spec.l8Draw.f K b i s = some (d, n, m, t, j, s') ∧ 0 ≤ j ∧ n.length ≤ 10 ∧ m.length ≤ 10 ∧ Szs n ∧ t.size ≤ 61 := by
  unfold spec.l8Draw.f
  obtain ⟨d, n, m, t, j, s1, h1, h2, h3, h4, h5, h6⟩ := l8DrawRight_ok K hK b hl i s hi
  obtain ⟨v, j2, s2, g1, g2, g3, g4⟩ := l1Below_ok b hl j s1 12 h2
  by_cases c0 : v = 0
  · obtain ⟨nm, j3, s3, k1, k2, k3⟩ := l8DrawName_ok b hl j2 s2 g2
    exact ⟨d, n ++ [nm], m, t, j3, s3, bind_t h1 (bind_t g1 (br_t (by simpa using c0) (bind_t k1 (ck_t (by simp; omega) rfl)))), k2, by simp; omega, by omega, h5.snoc k3, by omega⟩
  have n0 : (v == 0) = false := by simpa using c0
  by_cases c1 : v = 1
  · obtain ⟨x, j3, s3, k1, k2, k3⟩ := l1PickInt_ok b hl j2 s2 [0, 3, 12] g2 (by decide)
    exact ⟨d, n ++ [(ByteArray.mk #[122, 122, 122])], m ++ [x], t, j3, s3, bind_t h1 (bind_t g1 (br_f n0 (br_t (by simpa using c1) (bind_t k1 (ck_t (by simp; omega) (ck_t (by simp; omega) rfl)))))), k2, by simp; omega, by simp; omega, h5.snoc (by decide), by omega⟩
  have n1 : (v == 1) = false := by simpa using c1
  by_cases c2 : v = 2
  · exact ⟨!d, n, m, t, j2, s2, bind_t h1 (bind_t g1 (br_f n0 (br_f n1 (br_t (by simpa using c2) rfl)))), g2, by omega, by omega, h5, by omega⟩
  have n2 : (v == 2) = false := by simpa using c2
  by_cases c3 : v = 3
  · obtain ⟨t', j3, s3, k1, k2, k3⟩ := l8Draw_l0 b hl d n m K j2 s2 t g2 (by omega) (by omega)
    exact ⟨d, n, m, t', j3, s3, bind_t h1 (bind_t g1 (br_f n0 (br_f n1 (br_f n2 (br_t (by simpa using c3) (bind_t k1 rfl)))))), k2, by omega, by omega, h5, k3⟩
  have n3 : (v == 3) = false := by simpa using c3
  exact ⟨d, n, m, t, j2, s2, bind_t h1 (bind_t g1 (br_f n0 (br_f n1 (br_f n2 (br_f n3 rfl))))), g2, by omega, by omega, h5, by omega⟩
theorem laws_big_eq (b : List Int) : laws.big.f b = some () := by
  unfold laws.big.f; rfl
theorem sameTexts_l0 (a : List ByteArray) (ha : a.length ≤ 1000000) : ∀ (f i : Nat), a.length < i + f → i ≤ a.length → laws.sameTexts.l0.f a a f (i : Int) = some (.inr ()) := by
  intro f
  induction f with
  | zero => intro i h hi; omega
  | succ f ih =>
    intro i h hi
    rw [laws.sameTexts.l0.f]
    by_cases c : i < a.length
    · have e1 : w64 ((i : Int) + 1) = ((i + 1 : Nat) : Int) := wsucc (by omega)
      exact br_d (by omega) (ck_t (by omega) (ck_t (by omega) (br_t (strEq_self _) (by rw [e1]; exact ih (i + 1) (by omega) (by omega)))))
    · exact br_n (by omega) rfl
theorem sameTexts_self (K : Nat) (hK : 10000000000000 ≤ K) (a : List ByteArray) (ha : a.length ≤ 1000000) : laws.sameTexts.f K a a = some true := by
  unfold laws.sameTexts.f
  exact br_f (by simp) (bind_t (sameTexts_l0 a ha K 0 (by omega) (by omega)) rfl)
theorem sameInts_l0 (a : List Int) (ha : a.length ≤ 1000000) : ∀ (f i : Nat), a.length < i + f → i ≤ a.length → laws.sameInts.l0.f a a f (i : Int) = some (.inr ()) := by
  intro f
  induction f with
  | zero => intro i h hi; omega
  | succ f ih =>
    intro i h hi
    rw [laws.sameInts.l0.f]
    by_cases c : i < a.length
    · have e1 : w64 ((i : Int) + 1) = ((i + 1 : Nat) : Int) := wsucc (by omega)
      exact br_d (by omega) (ck_t (by omega) (ck_t (by omega) (br_f (by simp) (by rw [e1]; exact ih (i + 1) (by omega) (by omega)))))
    · exact br_n (by omega) rfl
theorem sameInts_self (K : Nat) (hK : 10000000000000 ≤ K) (a : List Int) (ha : a.length ≤ 1000000) : laws.sameInts.f K a a = some true := by
  unfold laws.sameInts.f
  exact br_f (by simp) (bind_t (sameInts_l0 a ha K 0 (by omega) (by omega)) rfl)
/-! ### a folder's kids -/
theorem strEq_comm (a b : ByteArray) : strEq a b = strEq b a := by
  rw [Bool.eq_iff_iff, strEq_iff, strEq_iff]; exact eq_comm
def kN (n : List ByteArray) (m : List Int) : Nat := min n.length m.length
def prN (n : List ByteArray) (m : List Int) : List ByteArray := n.take (kN n m)
def prM (n : List ByteArray) (m : List Int) : List Int := m.take (kN n m)
theorem prN_length (n : List ByteArray) (m : List Int) : (prN n m).length = kN n m := by unfold prN kN; rw [List.length_take]; omega
theorem prM_length (n : List ByteArray) (m : List Int) : (prM n m).length = kN n m := by unfold prM kN; rw [List.length_take]; omega
theorem prN_at {n : List ByteArray} {m : List Int} {i : Nat} (h : i < kN n m) : (prN n m).getD i noVal = n.getD i noVal := by
  unfold prN; rw [List.getD_eq_getElem?_getD, List.getElem?_take, if_pos h, ← List.getD_eq_getElem?_getD]
theorem prM_at {n : List ByteArray} {m : List Int} {i : Nat} (h : i < kN n m) : (prM n m).getD i 0 = m.getD i 0 := by
  unfold prM; rw [List.getD_eq_getElem?_getD, List.getElem?_take, if_pos h, ← List.getD_eq_getElem?_getD]
def eqN (x : ByteArray) (y : ByteArray) : Bool := strEq y x
/-- Where a name stands. -/
def ixN (l : List ByteArray) (x : ByteArray) : Nat := l.findIdx (eqN x)
theorem find_l0 (l : List ByteArray) (x : ByteArray) (i : Nat) (h : i < l.length) : (l.drop i).findIdx (eqN x) = if eqN x (l.getD i noVal) = true then 0 else (l.drop (i + 1)).findIdx (eqN x) + 1 := by
  rw [List.drop_eq_getElem_cons h, List.findIdx_cons, getD_at h]
  cases eqN x l[i] <;> rfl
theorem Index_l0 (l : List ByteArray) (x : ByteArray) (hl : l.length ≤ 1000000000) : ∀ (f i : Nat), l.length < i + f → i ≤ l.length →
    slices.Index_string_string.l0.f l x f (i : Int) = some (if i + (l.drop i).findIdx (eqN x) < l.length then .inl ((i + (l.drop i).findIdx (eqN x) : Nat) : Int) else .inr ()) := by
  intro f
  induction f with
  | zero => intro i h hi; omega
  | succ f ih =>
    intro i h hi
    rw [slices.Index_string_string.l0.f]
    by_cases c : i < l.length
    case neg =>
      rw [if_neg (by rw [List.drop_of_length_le (by omega)]; simp; omega)]
      exact br_n (by omega) rfl
    have e1 : w64 ((i : Int) + 1) = ((i + 1 : Nat) : Int) := wsucc (by omega)
    rw [find_l0 l x i c]
    cases d : eqN x (l.getD i noVal) with
    | true =>
      rw [if_pos rfl, if_pos (by omega)]
      refine br_d (by omega) (ck_t (by omega) (br_t ?_ rfl))
      show strEq x (l.getD i noVal) = true
      rw [strEq_comm]; exact d
    | false =>
      refine br_d (by omega) (ck_t (by omega) (br_f ?_ ?_))
      · show strEq x (l.getD i noVal) = false
        rw [strEq_comm]; exact d
      · rw [e1, ih (i + 1) (by omega) (by omega)]
        simp only [Bool.false_eq_true, if_false]
        have : i + 1 + (l.drop (i + 1)).findIdx (eqN x) = i + ((l.drop (i + 1)).findIdx (eqN x) + 1) := by omega
        rw [this]
theorem Index_eq (K : Nat) (hK : 10000000000000 ≤ K) (l : List ByteArray) (x : ByteArray) (hl : l.length ≤ 1000000000) : slices.Index_string_string.f K l x = some (if ixN l x < l.length then (ixN l x : Int) else -1) := by
  unfold slices.Index_string_string.f ixN
  refine bind_t (Index_l0 l x hl K 0 (by omega) (by omega)) ?_
  simp only [List.drop_zero, Nat.zero_add]
  split <;> rfl
theorem spec_l8At_l0 (b : Bool) (n : List ByteArray) (m : List Int) (t x : ByteArray) (hl : n.length ≤ 1000000000) : ∀ (f i : Nat), kN n m < i + f → i ≤ kN n m →
    spec.l8At.l0.f b n m t x f (i : Int) = some (if i + ((prN n m).drop i).findIdx (eqN x) < kN n m then .inl ((i + ((prN n m).drop i).findIdx (eqN x) : Nat) : Int) else .inr ()) := by
  have hp := prN_length n m
  have hk : kN n m = min n.length m.length := rfl
  intro f
  induction f with
  | zero => intro i h hi; omega
  | succ f ih =>
    intro i h hi
    rw [spec.l8At.l0.f]
    by_cases c : i < kN n m
    case neg =>
      rw [if_neg (by rw [List.drop_of_length_le (by omega)]; simp; omega)]
      by_cases d : i < n.length
      · exact br_d (by omega) (br_n (by omega) rfl)
      · exact br_n (by omega) rfl
    have e1 : w64 ((i : Int) + 1) = ((i + 1 : Nat) : Int) := wsucc (by omega)
    rw [find_l0 _ x i (by omega), prN_at c]
    cases d : eqN x (n.getD i noVal) with
    | true =>
      rw [if_pos rfl, if_pos (by omega)]
      exact br_d (by omega) (br_d (by omega) (ck_t (by omega) (br_t d rfl)))
    | false =>
      refine br_d (by omega) (br_d (by omega) (ck_t (by omega) (br_f d ?_)))
      rw [e1, ih (i + 1) (by omega) (by omega)]
      simp only [Bool.false_eq_true, if_false]
      have : i + 1 + ((prN n m).drop (i + 1)).findIdx (eqN x) = i + (((prN n m).drop (i + 1)).findIdx (eqN x) + 1) := by omega
      rw [this]
def atN (n : List ByteArray) (m : List Int) (x : ByteArray) : Nat := ixN (prN n m) x
theorem spec_l8At_eq (K : Nat) (hK : 10000000000000 ≤ K) (b : Bool) (n : List ByteArray) (m : List Int) (t x : ByteArray) (hl : n.length ≤ 1000000000) : spec.l8At.f K b n m t x = some (if atN n m x < kN n m then (atN n m x : Int) else -1) := by
  unfold spec.l8At.f atN ixN
  have hk : kN n m = min n.length m.length := rfl
  refine bind_t (spec_l8At_l0 b n m t x hl K 0 (by omega) (by omega)) ?_
  simp only [List.drop_zero, Nat.zero_add]
  split <;> rfl
theorem atN_le (n : List ByteArray) (m : List Int) (x : ByteArray) : atN n m x ≤ kN n m := by
  have := List.findIdx_le_length (p := eqN x) (xs := prN n m)
  rw [prN_length] at this
  exact this
/-- What is left of a list from i on, the one at p taken out. -/
def er {α : Type} (l : List α) (i p : Nat) : List α := if i ≤ p then (l.drop i).eraseIdx (p - i) else l.drop i
theorem er_cons {α : Type} (l : List α) (i p : Nat) (d : α) (h : i < l.length) : er l i p = if i = p then er l (i + 1) p else l.getD i d :: er l (i + 1) p := by
  unfold er
  rw [List.drop_eq_getElem_cons h, getD_at h]
  by_cases c : i = p
  · subst c
    rw [if_pos (Nat.le_refl _), if_pos rfl, if_neg (by omega), Nat.sub_self]; rfl
  · rw [if_neg c]
    by_cases d : i ≤ p
    · rw [if_pos d, if_pos (by omega), show p - i = (p - (i + 1)) + 1 by omega]; rfl
    · rw [if_neg d, if_neg (by omega)]
theorem er_end {α : Type} (l : List α) (i p : Nat) (h : l.length ≤ i) : er l i p = [] := by
  unfold er
  rw [List.drop_of_length_le h]
  split <;> simp
theorem er_zero {α : Type} (l : List α) (p : Nat) : er l 0 p = l.eraseIdx p := by unfold er; rw [if_pos (Nat.zero_le _)]; rfl
theorem er_length {α : Type} (l : List α) (i p : Nat) : (er l i p).length ≤ l.length - i := by
  unfold er
  split
  · have := List.length_eraseIdx_le (l.drop i) (p - i); rw [List.length_drop] at this; exact this
  · rw [List.length_drop]; exact Nat.le_refl _
theorem spec_KidDrop_l0 (b : Bool) (n : List ByteArray) (m : List Int) (t : ByteArray) (hl : n.length ≤ 1000000000) (at_ : Int) (p : Nat) (ha : ∀ i : Nat, i < kN n m → ((i : Int) = at_ ↔ i = p)) : ∀ (f i : Nat) (v : List ByteArray) (u : List Int), kN n m < i + f → i ≤ kN n m → v.length + (kN n m - i) ≤ 1000000000 → u.length + (kN n m - i) ≤ 1000000000 →
    spec.KidDrop.l0.f b n m t f v u at_ (i : Int) = some (v ++ er (prN n m) i p, u ++ er (prM n m) i p) := by
  have hp := prN_length n m
  have hq := prM_length n m
  have hk : kN n m = min n.length m.length := rfl
  intro f
  induction f with
  | zero => intro i v u h hi; omega
  | succ f ih =>
    intro i v u h hi hv hu
    rw [spec.KidDrop.l0.f]
    by_cases c : i < kN n m
    case neg =>
      rw [er_end _ _ _ (by omega), er_end _ _ _ (by omega), List.append_nil, List.append_nil]
      by_cases d : i < n.length
      · exact br_d (by omega) (br_n (by omega) rfl)
      · exact br_n (by omega) rfl
    have e1 : w64 ((i : Int) + 1) = ((i + 1 : Nat) : Int) := wsucc (by omega)
    rw [er_cons (prN n m) i p noVal (by omega), er_cons (prM n m) i p 0 (by omega), prN_at c, prM_at c, e1]
    by_cases d : i = p
    · rw [if_pos d, if_pos d]
      refine br_d (by omega) (br_d (by omega) (br_f (by rw [(ha i c).2 d]; simp) ?_))
      exact ih (i + 1) v u (by omega) (by omega) (by omega) (by omega)
    · rw [if_neg d, if_neg d]
      refine br_d (by omega) (br_d (by omega) (br_t ?_ (ck_t (by omega) (ck_t (by simp; omega) (ck_t (by simp; omega) ?_)))))
      · have : ¬ (i : Int) = at_ := fun e => d ((ha i c).1 e)
        simpa using this
      · rw [Int.toNat_natCast, ih (i + 1) _ _ (by omega) (by omega) (by simp; omega) (by simp; omega)]
        simp
/-- A kid dropped: names and numbers. -/
def dropN (n : List ByteArray) (m : List Int) (x : ByteArray) : List ByteArray := (prN n m).eraseIdx (atN n m x)
def dropM (n : List ByteArray) (m : List Int) (x : ByteArray) : List Int := (prM n m).eraseIdx (atN n m x)
theorem dropN_length (n : List ByteArray) (m : List Int) (x : ByteArray) : (dropN n m x).length = (dropM n m x).length ∧ (dropN n m x).length ≤ n.length ∧ (dropN n m x).length ≤ m.length := by
  have hp := prN_length n m
  have hq := prM_length n m
  have hk : kN n m = min n.length m.length := rfl
  unfold dropN dropM
  rw [List.length_eraseIdx, List.length_eraseIdx, hp, hq]
  refine ⟨rfl, ?_, ?_⟩ <;> split <;> omega
theorem spec_KidDrop_eq (K : Nat) (hK : 10000000000000 ≤ K) (b : Bool) (n : List ByteArray) (m : List Int) (t x : ByteArray) (hl : n.length ≤ 1000000000) : spec.KidDrop.f K b n m t x = some (dropN n m x, dropM n m x) := by
  unfold spec.KidDrop.f
  have hk : kN n m = min n.length m.length := rfl
  refine bind_t (spec_l8At_eq K hK b n m t x hl) (bind_t (spec_KidDrop_l0 b n m t hl _ (atN n m x) (fun i hi => ?_) K 0 [] [] (by omega) (by omega) (by simp; omega) (by simp; omega)) ?_)
  · have := atN_le n m x
    split <;> omega
  · rw [er_zero, er_zero]; rfl
theorem impl_pairs_eq (b : Bool) (n : List ByteArray) (m : List Int) (t : ByteArray) (hn : n.length ≤ 1000000000) (hm : m.length ≤ 1000000000) : impl.pairs.f b n m t = some (prN n m, prM n m) := by
  unfold impl.pairs.f
  have hk : kN n m = min n.length m.length := rfl
  have e : minI (n.length : Int) (m.length : Int) = ((kN n m : Nat) : Int) := by
    unfold minI; split <;> omega
  rw [e, Int.toNat_natCast]
  have c1 : slices.Clone_string_string.f ((n.drop 0).take (kN n m)) = some (prN n m) := by
    unfold slices.Clone_string_string.f
    rw [List.drop_zero]
    exact ck_t (by have := prN_length n m; unfold prN at this; rw [this]; omega) rfl
  have c2 : slices.Clone_int_int.f ((m.drop 0).take (kN n m)) = some (prM n m) := by
    unfold slices.Clone_int_int.f
    rw [List.drop_zero]
    exact ck_t (by have := prM_length n m; unfold prM at this; rw [this]; omega) rfl
  exact ck_t (by omega) (ck_t (by omega) (bind_t c1 (ck_t (by omega) (ck_t (by omega) (bind_t c2 (ck_t (by omega) rfl))))))
theorem impl_KidDrop_eq (K : Nat) (hK : 10000000000000 ≤ K) (b : Bool) (n : List ByteArray) (m : List Int) (t x : ByteArray) (hn : n.length ≤ 1000000000) (hm : m.length ≤ 1000000000) : impl.KidDrop.f K b n m t x = some (dropN n m x, dropM n m x) := by
  unfold impl.KidDrop.f
  have hp := prN_length n m
  have hq := prM_length n m
  have hk : kN n m = min n.length m.length := rfl
  have hx := Index_eq K hK (prN n m) x (by omega)
  refine bind_t (impl_pairs_eq b n m t hn hm) (bind_t hx ?_)
  unfold dropN dropM
  show cond (decide ((if ixN (prN n m) x < (prN n m).length then (ixN (prN n m) x : Int) else -1) ≥ 0)) _ _ = _
  have ha : atN n m x = ixN (prN n m) x := rfl
  rw [← ha]
  by_cases c : atN n m x < kN n m
  · rw [if_pos (by omega)]
    have e1 : w64 ((atN n m x : Int) + 1) = ((atN n m x + 1 : Nat) : Int) := wsucc (by omega)
    rw [e1]
    have d1 : slices.Delete_string_string.f (prN n m) (atN n m x : Int) ((atN n m x + 1 : Nat) : Int) = some ((prN n m).eraseIdx (atN n m x)) := by
      unfold slices.Delete_string_string.f
      rw [List.eraseIdx_eq_take_drop_succ]
      exact ck_t (by omega) (ck_t (by omega) (ck_t (by omega) (ck_t (by omega) rfl)))
    have d2 : slices.Delete_int_int.f (prM n m) (atN n m x : Int) ((atN n m x + 1 : Nat) : Int) = some ((prM n m).eraseIdx (atN n m x)) := by
      unfold slices.Delete_int_int.f
      rw [List.eraseIdx_eq_take_drop_succ]
      exact ck_t (by omega) (ck_t (by omega) (ck_t (by omega) (ck_t (by omega) rfl)))
    exact br_d (by omega) (bind_t d1 (bind_t d2 rfl))
  · rw [if_neg (by omega), List.eraseIdx_of_length_le (by omega), List.eraseIdx_of_length_le (by omega)]
    exact br_n (by decide) rfl
def gtN (x : ByteArray) (y : ByteArray) : Bool := !(strLt y x || strEq y x)
/-- Where a name is put. -/
def putAt (l : List ByteArray) (x : ByteArray) : Nat := l.findIdx (gtN x)
theorem findG_l0 (l : List ByteArray) (x : ByteArray) (i : Nat) (h : i < l.length) : (l.drop i).findIdx (gtN x) = if gtN x (l.getD i noVal) = true then 0 else (l.drop (i + 1)).findIdx (gtN x) + 1 := by
  rw [List.drop_eq_getElem_cons h, List.findIdx_cons, getD_at h]
  cases gtN x l[i] <;> rfl
theorem impl_KidPut_l0 (b : Bool) (n : List ByteArray) (m : List Int) (t x : ByteArray) (k : Int) (N : List ByteArray) (M : List Int) (hl : N.length ≤ 1000000000) : ∀ (f i : Nat), N.length < i + f → i ≤ N.length →
    impl.KidPut.l0.f b n m t x k f N M (i : Int) = some (N, M, ((i + (N.drop i).findIdx (gtN x) : Nat) : Int)) := by
  intro f
  induction f with
  | zero => intro i h hi; omega
  | succ f ih =>
    intro i h hi
    rw [impl.KidPut.l0.f]
    by_cases c : i < N.length
    case neg =>
      have : (N.drop i).findIdx (gtN x) = 0 := by rw [List.drop_of_length_le (by omega)]; rfl
      rw [this]
      exact br_n (by omega) rfl
    have e1 : w64 ((i : Int) + 1) = ((i + 1 : Nat) : Int) := wsucc (by omega)
    rw [findG_l0 _ x i c]
    refine br_d (by omega) (ck_t (by omega) ?_)
    show cond (strLt (N.getD i noVal) x || strEq (N.getD i noVal) x) _ _ = _
    cases d : (strLt (N.getD i noVal) x || strEq (N.getD i noVal) x) with
    | true =>
      have dg : gtN x (N.getD i noVal) = false := by unfold gtN; rw [d]; rfl
      rw [dg]
      simp only [Bool.false_eq_true, if_false]
      refine br_t rfl ?_
      rw [e1, ih (i + 1) (by omega) (by omega)]
      have : i + 1 + (N.drop (i + 1)).findIdx (gtN x) = i + ((N.drop (i + 1)).findIdx (gtN x) + 1) := by omega
      rw [this]
    | false =>
      have dg : gtN x (N.getD i noVal) = true := by unfold gtN; rw [d]; rfl
      rw [dg]
      simp only [if_true]
      exact br_f rfl rfl
def putL {α : Type} (l : List α) (j : Nat) (x : α) : List α := l.take j ++ (x :: l.drop j)
theorem putL_cons {α : Type} (a : α) (l : List α) (j : Nat) (x : α) : putL (a :: l) (j + 1) x = a :: putL l j x := rfl
theorem impl_KidPut_eq (K : Nat) (hK : 10000000000000 ≤ K) (b : Bool) (n : List ByteArray) (m : List Int) (t x : ByteArray) (k : Int) (hn : n.length ≤ 1000000000) (hm : m.length ≤ 1000000000) :
    impl.KidPut.f K b n m t x k = some (putL (dropN n m x) (putAt (dropN n m x) x) x, putL (dropM n m x) (putAt (dropN n m x) x) k) := by
  unfold impl.KidPut.f
  obtain ⟨q1, q2, q3⟩ := dropN_length n m x
  have hd := impl_KidDrop_eq K hK b n m t x hn hm
  generalize dropN n m x = N at q1 q2 q3 hd
  generalize dropM n m x = M at q1 hd
  refine bind_t hd (bind_t (impl_KidPut_l0 b n m t x k N M (by omega) K 0 (by omega) (by omega)) ?_)
  have e : ((0 + (N.drop 0).findIdx (gtN x) : Nat) : Int) = (putAt N x : Int) := by rw [List.drop_zero, Nat.zero_add]; rfl
  show Option.bind (slices.Insert_string_string.f N ((0 + (N.drop 0).findIdx (gtN x) : Nat) : Int) [x]) _ = _
  rw [e]
  have hle : putAt N x ≤ N.length := List.findIdx_le_length
  have i1 : slices.Insert_string_string.f N (putAt N x : Int) [x] = some (putL N (putAt N x) x) := by
    unfold slices.Insert_string_string.f
    exact ck_t (by omega) (ck_t (by omega) (ck_t (by simp) (ck_t (by simp; omega) rfl)))
  have i2 : slices.Insert_int_int.f M (putAt N x : Int) [k] = some (putL M (putAt N x) k) := by
    unfold slices.Insert_int_int.f
    exact ck_t (by omega) (ck_t (by omega) (ck_t (by simp) (ck_t (by simp; omega) rfl)))
  exact bind_t i1 (bind_t i2 rfl)
theorem spec_KidPut_on (b : Bool) (n : List ByteArray) (m : List Int) (t x : ByteArray) (k : Int) (N : List ByteArray) (M : List Int) (hl : N.length ≤ 1000000000) (hM : M.length = N.length) : ∀ (f i : Nat) (v : List ByteArray) (u : List Int), N.length < i + f → i ≤ N.length → v.length + (N.length - i) ≤ 2000000000 → u.length + (N.length - i) ≤ 2000000000 →
    spec.KidPut.l0.f b n m t x k f N M v u true (i : Int) = some (v ++ N.drop i, u ++ M.drop i, true) := by
  intro f
  induction f with
  | zero => intro i v u h hi; omega
  | succ f ih =>
    intro i v u h hi hv hu
    rw [spec.KidPut.l0.f]
    by_cases c : i < N.length
    case neg =>
      rw [List.drop_of_length_le (by omega), List.drop_of_length_le (by omega), List.append_nil, List.append_nil]
      exact br_n (by omega) rfl
    have e1 : w64 ((i : Int) + 1) = ((i + 1 : Nat) : Int) := wsucc (by omega)
    refine br_d (by omega) (br_t rfl (ck_t (by omega) (ck_t (by simp; omega) (ck_t (by omega) (ck_t (by simp; omega) ?_)))))
    rw [e1, ih (i + 1) _ _ (by omega) (by omega) (by simp; omega) (by simp; omega)]
    rw [List.drop_eq_getElem_cons c, List.drop_eq_getElem_cons (by omega : i < M.length), Int.toNat_natCast, getD_at c, getD_at (by omega)]
    simp
theorem spec_KidPut_l0 (b : Bool) (n : List ByteArray) (m : List Int) (t x : ByteArray) (k : Int) (N : List ByteArray) (M : List Int) (hl : N.length ≤ 1000000000) (hM : M.length = N.length) : ∀ (f i : Nat) (v : List ByteArray) (u : List Int), N.length < i + f → i ≤ N.length → v.length + (N.length - i) ≤ 1000000000 → u.length + (N.length - i) ≤ 1000000000 →
    spec.KidPut.l0.f b n m t x k f N M v u false (i : Int) = some (if i + (N.drop i).findIdx (gtN x) < N.length then (v ++ putL (N.drop i) ((N.drop i).findIdx (gtN x)) x, u ++ putL (M.drop i) ((N.drop i).findIdx (gtN x)) k, true) else (v ++ N.drop i, u ++ M.drop i, false)) := by
  intro f
  induction f with
  | zero => intro i v u h hi; omega
  | succ f ih =>
    intro i v u h hi hv hu
    rw [spec.KidPut.l0.f]
    by_cases c : i < N.length
    case neg =>
      rw [if_neg (by omega), List.drop_of_length_le (by omega), List.drop_of_length_le (by omega), List.append_nil, List.append_nil]
      exact br_n (by omega) rfl
    have e1 : w64 ((i : Int) + 1) = ((i + 1 : Nat) : Int) := wsucc (by omega)
    rw [findG_l0 _ x i c]
    refine br_d (by omega) (br_f rfl (ck_t (by omega) ?_))
    show cond (strLt (N.getD i noVal) x || strEq (N.getD i noVal) x) _ _ = _
    cases d : (strLt (N.getD i noVal) x || strEq (N.getD i noVal) x) with
    | true =>
      have dg : gtN x (N.getD i noVal) = false := by unfold gtN; rw [d]; rfl
      rw [dg]
      simp only [Bool.false_eq_true, if_false]
      refine br_t rfl (ck_t (by simp; omega) (ck_t (by omega) (ck_t (by simp; omega) ?_)))
      rw [e1, ih (i + 1) _ _ (by omega) (by omega) (by simp; omega) (by simp; omega)]
      rw [List.drop_eq_getElem_cons c, List.drop_eq_getElem_cons (by omega : i < M.length), Int.toNat_natCast, getD_at c, getD_at (by omega : i < M.length)]
      have : i + 1 + (N.drop (i + 1)).findIdx (gtN x) = i + ((N.drop (i + 1)).findIdx (gtN x) + 1) := by omega
      rw [this]
      split
      · rw [putL_cons, putL_cons, List.append_assoc, List.append_assoc]; rfl
      · rw [List.append_assoc, List.append_assoc]; rfl
    | false =>
      have dg : gtN x (N.getD i noVal) = true := by unfold gtN; rw [d]; rfl
      rw [dg]
      simp only [if_true]
      rw [if_pos (by omega)]
      refine br_f rfl (ck_t (by simp; omega) (ck_t (by simp; omega) (ck_t (by simp; omega) (ck_t (by omega) (ck_t (by simp; omega) ?_)))))
      rw [e1, spec_KidPut_on b n m t x k N M hl hM f (i + 1) _ _ (by omega) (by omega) (by simp; omega) (by simp; omega)]
      rw [List.drop_eq_getElem_cons c, List.drop_eq_getElem_cons (by omega : i < M.length), Int.toNat_natCast, getD_at c, getD_at (by omega : i < M.length)]
      simp [putL]
theorem spec_KidPut_eq (K : Nat) (hK : 10000000000000 ≤ K) (b : Bool) (n : List ByteArray) (m : List Int) (t x : ByteArray) (k : Int) (hn : n.length ≤ 1000000000) :
    spec.KidPut.f K b n m t x k = some (putL (dropN n m x) (putAt (dropN n m x) x) x, putL (dropM n m x) (putAt (dropN n m x) x) k) := by
  unfold spec.KidPut.f
  obtain ⟨q1, q2, q3⟩ := dropN_length n m x
  have hd := spec_KidDrop_eq K hK b n m t x hn
  generalize dropN n m x = N at q1 q2 q3 hd
  generalize dropM n m x = M at q1 hd
  have hl := spec_KidPut_l0 b n m t x k N M (by omega) q1.symm K 0 [] [] (by omega) (by omega) (by simp; omega) (by simp; omega)
  simp only [List.drop_zero, Nat.zero_add, List.nil_append] at hl
  have hle : putAt N x ≤ N.length := List.findIdx_le_length
  by_cases c : putAt N x < N.length
  · have hl2 : spec.KidPut.l0.f b n m t x k K N M [] [] false 0 = some (putL N (putAt N x) x, putL M (putAt N x) k, true) := by
      refine Eq.trans hl ?_
      exact congrArg some (if_pos c)
    exact bind_t hd (bind_t hl2 (br_t rfl rfl))
  · have hl2 : spec.KidPut.l0.f b n m t x k K N M [] [] false 0 = some (N, M, false) := by
      refine Eq.trans hl ?_
      exact congrArg some (if_neg c)
    have e1 : putL N (putAt N x) x = N ++ [x] := by unfold putL; rw [List.take_of_length_le (by omega), List.drop_of_length_le (by omega)]
    have e2 : putL M (putAt N x) k = M ++ [k] := by unfold putL; rw [List.take_of_length_le (by omega), List.drop_of_length_le (by omega)]
    rw [e1, e2]
    exact bind_t hd (bind_t hl2 (br_f rfl (ck_t (by simp; omega) (ck_t (by simp; omega) rfl))))
theorem putL_length {α : Type} (l : List α) (j : Nat) (x : α) : (putL l j x).length = l.length + 1 := by
  unfold putL
  rw [List.length_append, List.length_cons, List.length_take, List.length_drop]; omega
/-! ### looking a kid up -/
theorem bLess_irrefl : ∀ l : List UInt8, Op.bytesLess l l = false
  | [] => by simp [Op.bytesLess]
  | a :: l => by
    rw [Op.bytesLess, bLess_irrefl l]
    simp
theorem bLess_trans : ∀ x y z : List UInt8, Op.bytesLess x y = true → Op.bytesLess y z = true → Op.bytesLess x z = true
  | _, [], _, h, _ => by simp [Op.bytesLess] at h
  | _, _ :: _, [], _, h => by simp [Op.bytesLess] at h
  | [], _ :: _, _ :: _, _, _ => by simp [Op.bytesLess]
  | a :: x, b :: y, c :: z, h1, h2 => by
    rw [Op.bytesLess] at h1 h2 ⊢
    simp only [Bool.or_eq_true, Bool.and_eq_true, decide_eq_true_eq, beq_iff_eq] at h1 h2 ⊢
    rcases h1 with h1 | ⟨h1, g1⟩ <;> rcases h2 with h2 | ⟨h2, g2⟩
    · exact .inl (UInt8.lt_trans h1 h2)
    · exact .inl (h2 ▸ h1)
    · exact .inl (h1 ▸ h2)
    · exact .inr ⟨h1.trans h2, bLess_trans x y z g1 g2⟩
theorem strLt_irrefl (a : ByteArray) : strLt a a = false := bLess_irrefl _
theorem strLt_trans {a b c : ByteArray} (h1 : strLt a b = true) (h2 : strLt b c = true) : strLt a c = true := bLess_trans _ _ _ h1 h2
/-- The number that a lookup gives. -/
def kidV (n : List ByteArray) (m : List Int) (x : ByteArray) : Int := if atN n m x < kN n m then m.getD (atN n m x) 0 else -1
theorem spec_Kid_eq (K : Nat) (hK : 10000000000000 ≤ K) (b : Bool) (n : List ByteArray) (m : List Int) (t x : ByteArray) (hn : n.length ≤ 1000000000) : spec.Kid.f K b n m t x = some (kidV n m x) := by
  unfold spec.Kid.f kidV
  have h := spec_l8At_eq K hK b n m t x hn
  have hk : kN n m = min n.length m.length := rfl
  by_cases c : atN n m x < kN n m
  · rw [if_pos c] at h ⊢
    exact bind_t h (br_n (by omega) (ck_t (by omega) rfl))
  · rw [if_neg c] at h ⊢
    exact bind_t h (br_d (by decide) rfl)
theorem impl_Kid_eq (K : Nat) (hK : 10000000000000 ≤ K) (b : Bool) (n : List ByteArray) (m : List Int) (t x : ByteArray) (hn : n.length ≤ 1000000000) (hm : m.length ≤ 1000000000) : impl.Kid.f K b n m t x = some (kidV n m x) := by
  unfold impl.Kid.f kidV
  have hp := prN_length n m
  have hq := prM_length n m
  have hk : kN n m = min n.length m.length := rfl
  have h := Index_eq K hK (prN n m) x (by omega)
  rw [hp] at h
  have ha : ixN (prN n m) x = atN n m x := rfl
  rw [ha] at h
  by_cases c : atN n m x < kN n m
  · rw [if_pos c] at h ⊢
    refine bind_t (impl_pairs_eq b n m t hn hm) (bind_t h (br_n (by omega) (ck_t (by show (atN n m x : Int) < ((prM n m).length : Int); omega) ?_)))
    show some ((prM n m).getD (atN n m x) 0) = _
    rw [prM_at c]
  · rw [if_neg c] at h ⊢
    exact bind_t (impl_pairs_eq b n m t hn hm) (bind_t h (br_d (by decide) rfl))
/-! ### lookups in paired lists -/
def look (z : List (ByteArray × Int)) (x : ByteArray) : Int := match z.find? (fun q => eqN x q.1) with | some q => q.2 | none => -1
theorem look_cons (q : ByteArray × Int) (z : List (ByteArray × Int)) (x : ByteArray) : look (q :: z) x = if eqN x q.1 = true then q.2 else look z x := by
  unfold look
  rw [List.find?_cons]
  cases eqN x q.1 <;> rfl
theorem kN_same {n : List ByteArray} {m : List Int} (h : n.length = m.length) : kN n m = n.length := by unfold kN; omega
theorem prN_same {n : List ByteArray} {m : List Int} (h : n.length = m.length) : prN n m = n := by
  unfold prN; rw [kN_same h]; exact List.take_of_length_le (Nat.le_refl _)
theorem prM_same {n : List ByteArray} {m : List Int} (h : n.length = m.length) : prM n m = m := by
  unfold prM; rw [kN_same h]; exact List.take_of_length_le (by omega)
theorem kidV_look (x : ByteArray) : ∀ (n : List ByteArray) (m : List Int), n.length = m.length → kidV n m x = look (n.zip m) x := by
  have key : ∀ (n : List ByteArray) (m : List Int), n.length = m.length → (if ixN n x < n.length then m.getD (ixN n x) 0 else -1) = look (n.zip m) x := by
    intro n
    induction n with
    | nil => intro m h; rfl
    | cons a n ih =>
      intro m h
      cases m with
      | nil => simp at h
      | cons c m =>
        have h' : n.length = m.length := by simpa using h
        rw [List.zip_cons_cons, look_cons, ← ih m h']
        unfold ixN
        rw [List.findIdx_cons]
        cases d : eqN x a with
        | true => simp [d]
        | false =>
          simp only [d, cond_false, List.length_cons, Nat.add_lt_add_iff_right, Bool.false_eq_true, if_false]
          rfl
  intro n m h
  rw [← key n m h]
  unfold kidV atN
  rw [kN_same h, prN_same h]
theorem look_app_none {A : List (ByteArray × Int)} {x : ByteArray} (h : ∀ q ∈ A, eqN x q.1 = false) (B : List (ByteArray × Int)) : look (A ++ B) x = look B x := by
  induction A with
  | nil => rfl
  | cons a A ih =>
    rw [List.cons_append, look_cons, if_neg (by rw [h a (List.mem_cons_self ..)]; decide)]
    exact ih (fun q hq => h q (List.mem_cons_of_mem _ hq))
theorem look_app (A B C : List (ByteArray × Int)) (x : ByteArray) (h : look B x = look C x) : look (A ++ B) x = look (A ++ C) x := by
  induction A with
  | nil => exact h
  | cons a A ih => rw [List.cons_append, List.cons_append, look_cons, look_cons, ih]
theorem look_nil (x : ByteArray) : look [] x = -1 := rfl
/-- What a put and a drop do to a lookup. -/
theorem zip_putL (n : List ByteArray) (m : List Int) (j : Nat) (x : ByteArray) (k : Int) (h : n.length = m.length) : (putL n j x).zip (putL m j k) = (n.zip m).take j ++ (x, k) :: (n.zip m).drop j := by
  unfold putL
  rw [List.zip_append (by rw [List.length_take, List.length_take, h]), List.zip_cons_cons]
  simp only [List.zip_eq_zipWith, List.take_zipWith, List.drop_zipWith]
theorem zip_erase (n : List ByteArray) (m : List Int) (p : Nat) (h : n.length = m.length) : (n.eraseIdx p).zip (m.eraseIdx p) = (n.zip m).eraseIdx p := by
  rw [List.eraseIdx_eq_take_drop_succ, List.eraseIdx_eq_take_drop_succ, List.eraseIdx_eq_take_drop_succ, List.zip_append (by rw [List.length_take, List.length_take, h])]
  simp only [List.zip_eq_zipWith, List.take_zipWith, List.drop_zipWith]
theorem look_put (z : List (ByteArray × Int)) (j : Nat) (x y : ByteArray) (k : Int) (h : eqN y x = false) : look (z.take j ++ (x, k) :: z.drop j) y = look z y := by
  have : look (z.take j ++ (x, k) :: z.drop j) y = look (z.take j ++ z.drop j) y := look_app _ _ _ _ (by rw [look_cons, if_neg (by rw [h]; decide)])
  rw [this, List.take_append_drop]
theorem look_erase (z : List (ByteArray × Int)) (p : Nat) (y : ByteArray) (h : ∀ g : p < z.length, eqN y z[p].1 = false) : look (z.eraseIdx p) y = look z y := by
  by_cases c : p < z.length
  · rw [List.eraseIdx_eq_take_drop_succ]
    have e : z = z.take p ++ z[p] :: z.drop (p + 1) := by rw [← List.drop_eq_getElem_cons c, List.take_append_drop]
    have : look (z.take p ++ z.drop (p + 1)) y = look (z.take p ++ z[p] :: z.drop (p + 1)) y := look_app _ _ _ _ (by rw [look_cons, if_neg (by rw [h c]; decide)])
    rw [this, ← e]
  · rw [List.eraseIdx_of_length_le (by omega)]
/-- Distinct names. -/
def Dis (n : List ByteArray) : Prop := ∀ i j : Nat, i < j → j < n.length → n.getD i noVal ≠ n.getD j noVal
theorem nodeOk_dis {n : List ByteArray} {m : List Int} {t : ByteArray} (h : nodeOk true n m t) : n.length = m.length ∧ Dis n := by
  rcases h with h | h
  case inr => cases h.1
  obtain ⟨_, h1, _, h2⟩ := h
  refine ⟨h1, ?_⟩
  have key : ∀ d i : Nat, i + d + 1 < n.length → strLt (n.getD i noVal) (n.getD (i + d + 1) noVal) = true := by
    intro d
    induction d with
    | zero =>
      intro i hi
      exact (h2 (i + 1) (by omega) (by omega)).2.2.1 (by omega)
    | succ d ih =>
      intro i hi
      exact strLt_trans (ih i (by omega)) ((h2 (i + (d + 1) + 1) (by omega) (by omega)).2.2.1 (by omega))
  intro i j hij hj he
  have g := key (j - i - 1) i (by omega)
  rw [show i + (j - i - 1) + 1 = j by omega, he, strLt_irrefl] at g
  cases g
theorem eqN_iff {x y : ByteArray} : eqN x y = true ↔ y = x := strEq_iff
theorem eqN_no {x y : ByteArray} (h : y ≠ x) : eqN x y = false := by rw [← Bool.not_eq_true, eqN_iff]; exact h
theorem look_at {n : List ByteArray} {m : List Int} (h : n.length = m.length) (hd : Dis n) {i : Nat} (hi : i < n.length) : look (n.zip m) (n.getD i noVal) = m.getD i 0 := by
  have hz : (n.zip m).length = n.length := by rw [List.length_zip]; omega
  have e : n.zip m = (n.zip m).take i ++ (n.zip m)[i] :: (n.zip m).drop (i + 1) := by rw [← List.drop_eq_getElem_cons (by omega), List.take_append_drop]
  have hg : (n.zip m)[i]'(by omega) = (n.getD i noVal, m.getD i 0) := by
    rw [List.getElem_zip, getD_at hi, getD_at (by omega)]
  rw [e, look_app_none, look_cons, hg, if_pos (eqN_iff.2 rfl)]
  intro q hq
  obtain ⟨j, hj, rfl⟩ := List.getElem_of_mem hq
  rw [List.length_take] at hj
  rw [List.getElem_take, List.getElem_zip]
  refine eqN_no ?_
  have := hd j i (by omega) hi
  rw [getD_at (by omega)] at this
  exact this
theorem look_none {z : List (ByteArray × Int)} {x : ByteArray} (h : ∀ q ∈ z, q.1 ≠ x) : look z x = -1 := by
  have := look_app_none (A := z) (x := x) (fun q hq => eqN_no (h q hq)) []
  rw [List.append_nil] at this
  rw [this]; rfl
/-- A folder whose names differ, a name dropped: the name is gone. -/
theorem drop_gone {n : List ByteArray} {m : List Int} (h : n.length = m.length) (hd : Dis n) (x : ByteArray) : ∀ y ∈ dropN n m x, y ≠ x := by
  unfold dropN atN
  rw [prN_same h]
  intro y hy
  have hle : ixN n x ≤ n.length := List.findIdx_le_length
  by_cases c : ixN n x < n.length
  case neg =>
    rw [List.eraseIdx_of_length_le (by omega)] at hy
    obtain ⟨j, hj, rfl⟩ := List.getElem_of_mem hy
    have g := List.not_of_lt_findIdx (p := eqN x) (xs := n) (i := j) (by show j < ixN n x; omega)
    intro he
    exact absurd (eqN_iff.2 he) (by rw [g]; decide)
  have hx : eqN x (n[ixN n x]'c) = true := List.findIdx_getElem (p := eqN x) (xs := n) (w := c)
  rw [List.mem_eraseIdx_iff_getElem] at hy
  obtain ⟨j, hj, hne, rfl⟩ := hy
  intro he
  have e1 : n[j] = n[ixN n x]'c := by rw [he, eqN_iff.1 hx]
  rcases Nat.lt_or_gt_of_ne hne with g | g
  · have := hd j (ixN n x) g c
    rw [getD_at (by omega), getD_at c] at this
    exact this e1
  · have := hd (ixN n x) j g hj
    rw [getD_at (by omega), getD_at (by omega)] at this
    exact this e1.symm
theorem drop_dis {n : List ByteArray} {m : List Int} (h : n.length = m.length) (hd : Dis n) (x : ByteArray) : (dropN n m x).length = (dropM n m x).length ∧ ∀ i, i < n.length → n.getD i noVal ≠ x → look ((dropN n m x).zip (dropM n m x)) (n.getD i noVal) = m.getD i 0 := by
  refine ⟨(dropN_length n m x).1, fun i hi hne => ?_⟩
  unfold dropN dropM atN
  rw [prN_same h, prM_same h, zip_erase n m _ h, look_erase, look_at h hd hi]
  intro g
  have hz : (n.zip m).length = n.length := by rw [List.length_zip]; omega
  rw [List.getElem_zip]
  have hx : eqN x (n[ixN n x]'(by omega)) = true := List.findIdx_getElem (p := eqN x) (xs := n) (w := by show ixN n x < n.length; omega)
  refine eqN_no ?_
  show n[ixN n x] ≠ _
  rw [eqN_iff.1 hx]
  exact fun e => hne e.symm
def kPN (n : List ByteArray) (m : List Int) (x : ByteArray) : List ByteArray := putL (dropN n m x) (putAt (dropN n m x) x) x
def kPM (n : List ByteArray) (m : List Int) (x : ByteArray) (k : Int) : List Int := putL (dropM n m x) (putAt (dropN n m x) x) k
theorem kP_length (n : List ByteArray) (m : List Int) (x : ByteArray) (k : Int) : (kPN n m x).length = (kPM n m x k).length ∧ (kPN n m x).length ≤ n.length + 1 ∧ (kPN n m x).length ≤ m.length + 1 := by
  have := dropN_length n m x
  unfold kPN kPM
  rw [putL_length, putL_length]; omega
theorem kidV_put {n : List ByteArray} {m : List Int} (h : n.length = m.length) (hd : Dis n) (x : ByteArray) (k : Int) {i : Nat} (hi : i < n.length) (hne : n.getD i noVal ≠ x) : kidV (kPN n m x) (kPM n m x k) (n.getD i noVal) = m.getD i 0 := by
  obtain ⟨g1, g2⟩ := drop_dis h hd x
  rw [kidV_look _ _ _ (kP_length n m x k).1]
  unfold kPN kPM
  rw [zip_putL _ _ _ _ _ g1, look_put _ _ _ _ _ (eqN_no (fun e => hne e.symm)), g2 i hi hne]
theorem kidV_put_self {n : List ByteArray} {m : List Int} (h : n.length = m.length) (hd : Dis n) (x : ByteArray) (k : Int) : kidV (kPN n m x) (kPM n m x k) x = k := by
  have g1 := (drop_dis h hd x).1
  have g2 := drop_gone h hd x
  rw [kidV_look _ _ _ (kP_length n m x k).1]
  unfold kPN kPM
  rw [zip_putL _ _ _ _ _ g1, look_app_none, look_cons, if_pos (eqN_iff.2 rfl)]
  intro q hq
  have hq2 : q ∈ (dropN n m x).zip (dropM n m x) := List.mem_of_mem_take hq
  obtain ⟨q1, q2⟩ := q
  exact eqN_no (g2 _ (List.of_mem_zip hq2).1)
theorem kidV_drop {n : List ByteArray} {m : List Int} (h : n.length = m.length) (hd : Dis n) (x : ByteArray) (k : Int) : kidV (dropN (kPN n m x) (kPM n m x k) x) (dropM (kPN n m x) (kPM n m x k) x) x = -1 := by
  have g1 := (drop_dis h hd x).1
  have g2 := drop_gone h hd x
  have g3 := (kP_length n m x k).1
  rw [kidV_look _ _ _ (dropN_length _ _ x).1]
  refine look_none (fun q hq => ?_)
  obtain ⟨q1, q2⟩ := q
  have hq1 := (List.of_mem_zip hq).1
  show q1 ≠ x
  have hj : putAt (dropN n m x) x ≤ (dropN n m x).length := List.findIdx_le_length
  generalize hJ : putAt (dropN n m x) x = J at hj
  have hix : ixN (kPN n m x) x = J := by
    unfold kPN putL ixN
    rw [hJ, List.findIdx_append, List.findIdx_cons, eqN_iff.2 rfl]
    have hnone : (List.take J (dropN n m x)).findIdx (eqN x) = (List.take J (dropN n m x)).length := List.findIdx_eq_length_of_false (fun y hy => eqN_no (g2 y (List.mem_of_mem_take hy)))
    rw [hnone, if_neg (Nat.lt_irrefl _), List.length_take]
    simp; omega
  unfold dropN atN at hq1
  rw [prN_same g3, hix] at hq1
  have he : (kPN n m x).eraseIdx J = dropN n m x := by
    unfold kPN putL
    rw [hJ, List.eraseIdx_append_of_length_le (by rw [List.length_take]; omega), List.length_take, show J - min J (dropN n m x).length = 0 by omega, List.eraseIdx_cons_zero, List.take_append_drop]
  rw [he] at hq1
  exact g2 _ hq1
theorem DrawKidPut_ok (K : Nat) (hK : 10000000000000 ≤ K) (a : List Int) (ha : a.length ≤ 1000000000) : ∃ b n m t x k, spec.DrawKidPut.f K a = some (b, n, m, t, x, k) ∧ n.length ≤ 10 ∧ m.length ≤ 10 ∧ Szs n ∧ t.size ≤ 61 := by
  unfold spec.DrawKidPut.f
  obtain ⟨s, h0⟩ := l1New_ok K hK a (by omega)
  obtain ⟨b, n, m, t, j, s', h1, h2, h3, h4, h5, h6⟩ := l8Draw_ok K hK a (by omega) 0 s (Int.le_refl _)
  obtain ⟨v, j1, s1, g1, g2, g3⟩ := l8DrawName_ok a (by omega) j s' h2
  obtain ⟨u, j2, s2, q1, q2, q3, q4⟩ := l1Below_ok a (by omega) j1 s1 14 g2
  exact ⟨b, n, m, t, v, u, bind_t h0 (bind_t h1 (bind_t g1 (bind_t q1 rfl))), h3, h4, h5, h6⟩
theorem DrawKid_ok (K : Nat) (hK : 10000000000000 ≤ K) (a : List Int) (ha : a.length ≤ 1000000000) : ∃ b n m t x, spec.DrawKid.f K a = some (b, n, m, t, x) ∧ n.length ≤ 10 ∧ m.length ≤ 10 := by
  unfold spec.DrawKid.f
  obtain ⟨s, h0⟩ := l1New_ok K hK a (by omega)
  obtain ⟨b, n, m, t, j, s', h1, h2, h3, h4, h5, h6⟩ := l8Draw_ok K hK a (by omega) 0 s (Int.le_refl _)
  obtain ⟨v, j1, s1, g1, g2, g3⟩ := l8DrawName_ok a (by omega) j s' h2
  exact ⟨b, n, m, t, v, bind_t h0 (bind_t h1 (bind_t g1 rfl)), h3, h4⟩
theorem DrawKidDrop_ok (K : Nat) (hK : 10000000000000 ≤ K) (a : List Int) (ha : a.length ≤ 1000000000) : ∃ b n m t x, spec.DrawKidDrop.f K a = some (b, n, m, t, x) ∧ n.length ≤ 10 ∧ m.length ≤ 10 := by
  unfold spec.DrawKidDrop.f
  obtain ⟨b, n, m, t, x, h1, h2, h3⟩ := DrawKid_ok K hK a ha
  exact ⟨b, n, m, t, x, bind_t h1 rfl, h2, h3⟩
theorem kids_l0 (K : Nat) (hK : 10000000000000 ≤ K) (a : List Int) (n : List ByteArray) (m : List Int) (t x : ByteArray) (k : Int) (hn : n.length ≤ 10) (hm : n.length = m.length) (hd : Dis n) : ∀ (f i : Nat), n.length < i + f → i ≤ n.length →
    laws.FnKids.l0.f K a f true n m t x k true (kPN n m x) (kPM n m x k) t (i : Int) = some (.inr (x, k, true, kPN n m x, kPM n m x k, t)) := by
  intro f
  induction f with
  | zero => intro i h hi; omega
  | succ f ih =>
    intro i h hi
    rw [laws.FnKids.l0.f]
    by_cases c : i < n.length
    case neg => exact br_n (by omega) rfl
    have e1 : w64 ((i : Int) + 1) = ((i + 1 : Nat) : Int) := wsucc (by omega)
    have hr := ih (i + 1) (by omega) (by omega)
    obtain ⟨q1, q2, q3⟩ := kP_length n m x k
    rw [e1]
    by_cases d : n.getD i noVal = x
    · exact br_d (by omega) (ck_t (by omega) (br_t (strEq_iff.2 d) hr))
    · have hk := impl_Kid_eq K hK true (kPN n m x) (kPM n m x k) t (n.getD i noVal) (by omega) (by omega)
      rw [kidV_put hm hd x k c d] at hk
      refine br_d (by omega) (ck_t (by omega) (br_f ?_ (bind_t hk (ck_t (by omega) (br_f ?_ hr)))))
      · show strEq (n.getD i noVal) x = false
        rw [← Bool.not_eq_true, strEq_iff]; exact d
      · show (m.getD i 0 != m.getD i 0) = false
        simp
theorem FnKids_pure (a : List Int) (ha : a.length ≤ maxLen) (_ : ∀ x ∈ a, (Lit.int .u8 x).wf = true) : laws.FnKids.f 10000000000000 a = some true := by
  unfold laws.FnKids.f
  refine bind_t (laws_big_eq a) ?_
  by_cases cx : (a.length : Int) > 1048576
  · exact br_d cx rfl
  refine br_n cx ?_
  have hK : 10000000000000 ≤ 10000000000000 := Nat.le_refl _
  obtain ⟨b, n, m, t, x, k, d1, d2, d3, d4, d5⟩ := DrawKidPut_ok 10000000000000 hK a (by omega)
  obtain ⟨b', n', m', t', x', e1, e2, e3⟩ := DrawKidDrop_ok 10000000000000 hK a (by omega)
  obtain ⟨b2, n2, m2, t2, x2, f1, f2, f3⟩ := DrawKid_ok 10000000000000 hK a (by omega)
  have h1 : impl.KidPut.f 10000000000000 b n m t x k = some (kPN n m x, kPM n m x k) := impl_KidPut_eq 10000000000000 hK b n m t x k (by omega) (by omega)
  have h2 : spec.KidPut.f 10000000000000 b n m t x k = some (kPN n m x, kPM n m x k) := spec_KidPut_eq 10000000000000 hK b n m t x k (by omega)
  have h3 := impl_KidDrop_eq 10000000000000 hK b' n' m' t' x' (by omega) (by omega)
  have h4 := spec_KidDrop_eq 10000000000000 hK b' n' m' t' x' (by omega)
  have h5 := impl_Kid_eq 10000000000000 hK b2 n2 m2 t2 x2 (by omega) (by omega)
  have h6 := spec_Kid_eq 10000000000000 hK b2 n2 m2 t2 x2 (by omega)
  obtain ⟨q1, q2, q3⟩ := kP_length n m x k
  obtain ⟨r1, r2, r3⟩ := dropN_length n' m' x'
  have s1 := sameTexts_self 10000000000000 hK (kPN n m x) (by omega)
  have s2 := sameInts_self 10000000000000 hK (kPM n m x k) (by omega)
  have s3 := sameTexts_self 10000000000000 hK (dropN n' m' x') (by omega)
  have s4 := sameInts_self 10000000000000 hK (dropM n' m' x') (by omega)
  have hN := spec_NodeOk_eq 10000000000000 hK b n m t (by omega) (fun y hy => by have := d4 y hy; omega) (by omega) (by omega)
  refine bind_t d1 (bind_t h1 (bind_t h2 (bind_t e1 (bind_t h3 (bind_t h4 (bind_t f1 (bind_t s1 (br_t rfl (bind_t s2 (br_t rfl (bind_t s3 (br_t rfl (bind_t s4 (br_t rfl (bind_t h5 (bind_t h6 (br_f (by simp) (bind_t hN ?_))))))))))))))))))
  by_cases c : nodeOk b n m t
  case neg => exact br_n c rfl
  refine br_d c ?_
  cases b with
  | false => exact br_f rfl rfl
  | true =>
    obtain ⟨g1, g2⟩ := nodeOk_dis c
    have hk1 := impl_Kid_eq 10000000000000 hK true (kPN n m x) (kPM n m x k) t x (by omega) (by omega)
    rw [kidV_put_self g1 g2] at hk1
    have hk2 := impl_KidDrop_eq 10000000000000 hK true (kPN n m x) (kPM n m x k) t x (by omega) (by omega)
    obtain ⟨u1, u2, u3⟩ := dropN_length (kPN n m x) (kPM n m x k) x
    have hk3 := impl_Kid_eq 10000000000000 hK true (dropN (kPN n m x) (kPM n m x k) x) (dropM (kPN n m x) (kPM n m x k) x) t x (by omega) (by omega)
    rw [kidV_drop g1 g2] at hk3
    have hl := kids_l0 10000000000000 hK a n m t x k d2 g1 g2 10000000000000 0 (by omega) (by omega)
    refine br_t rfl (bind_t hl ?_)
    exact bind_t hk1 (br_t (by simp) (bind_t hk2 (bind_t hk3 rfl)))
end Go.Proofs.Ytmodnnokcmabhaa.Pure
