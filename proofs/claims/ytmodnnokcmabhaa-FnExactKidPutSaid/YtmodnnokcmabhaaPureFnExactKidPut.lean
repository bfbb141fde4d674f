/- The law FnExactKidPut, in plain words: its function answers true. -/
import Derived.Test.YtmodnnokcmabhaaGFnExactKidPut
import Derived.Test.YtmodnnokcmabhaaDenMod
import Derived.KernelRfl
namespace Go.Proofs.Ytmodnnokcmabhaa.Pure
open Go Go.RowKit Go.Proofs.Ytmodnnokcmabhaa.Den Go.Proofs.Ytmodnnokcmabhaa.GFnExactKidPut
set_option linter.unusedSimpArgs false
set_option linter.unusedVariables false
theorem nat_tmod (n m : Nat) : ((n : Int).tmod (m : Int)) = ((n % m : Nat) : Int) := (Int.ofNat_tmod n m).symm
theorem nat_tdiv (n m : Nat) : ((n : Int).tdiv (m : Int)) = ((n / m : Nat) : Int) := (Int.ofNat_tdiv n m).symm
theorem szStringS_l0 (a : List ByteArray) (hl : a.length ≤ 1000000000000000) (hs : ∀ x ∈ a, x.size ≤ maxLen) : ∀ (f i : Nat) (left : Int), a.length < i + f → i ≤ a.length → 0 ≤ left → left ≤ 1000000000000 →
    laws.szStringS.l0.f a f left (i : Int) = some (.inl ()) ∨ ∃ r, laws.szStringS.l0.f a f left (i : Int) = some (.inr r) ∧ 0 ≤ r ∧ r + tot (a.drop i) = left := by
  intro f
  induction f with
  | zero => intro i left h hi; omega
  | succ f ih =>
    intro i left h hi h0 h1
    rw [laws.szStringS.l0.f]
    by_cases c : i < a.length
    · have e1 : w64 ((i : Int) + 1) = ((i + 1 : Nat) : Int) := wsucc (by omega)
      have hx := hs _ (List.getElem_mem c)
      have hm := maxLen_le
      have e2 : w64 (left - (a[i].size : Int)) = left - (a[i].size : Int) := w64_id (by omega) (by omega)
      simp only [Int.toNat_natCast, getD_at c, e1, e2]
      by_cases c2 : left - (a[i].size : Int) < 0
      · exact .inl (br_d (by omega) (ck_t (by omega) (br_d c2 rfl)))
      · rcases ih (i + 1) (left - (a[i].size : Int)) (by omega) (by omega) (by omega) (by omega) with g | ⟨r, g1, g2, g3⟩
        · exact .inl (br_d (by omega) (ck_t (by omega) (br_n c2 g)))
        · refine .inr ⟨r, br_d (by omega) (ck_t (by omega) (br_n c2 g1)), g2, ?_⟩
          rw [List.drop_eq_getElem_cons c, tot_cons]
          omega
    · refine .inr ⟨left, br_n (by omega) rfl, h0, ?_⟩
      rw [List.drop_of_length_le (by omega)]
      simp [tot]
theorem szStringS_eq (K : Nat) (hK : 10000000000000 ≤ K) (a : List ByteArray) (hl : a.length ≤ maxLen) (hs : ∀ x ∈ a, x.size ≤ maxLen) (left : Int) (h0 : 0 ≤ left) (h1 : left ≤ 1000000000000) :
    ∃ r, laws.szStringS.f K a left = some r ∧ (0 ≤ r → r + a.length + tot a = left) := by
  unfold laws.szStringS.f
  have hm := maxLen_le
  have e2 : w64 (left - (a.length : Int)) = left - (a.length : Int) := w64_id (by omega) (by omega)
  rw [e2]
  by_cases c : left - (a.length : Int) < 0
  · exact ⟨-1, br_d c rfl, fun h => by omega⟩
  · rcases szStringS_l0 a (by omega) hs K 0 (left - a.length) (by omega) (by omega) (by omega) (by omega) with g | ⟨r, g1, g2, g3⟩
    · exact ⟨-1, br_n c (bind_t g rfl), fun h => by omega⟩
    · refine ⟨r, br_n c (bind_t g1 rfl), fun _ => ?_⟩
      rw [List.drop_zero] at g3
      omega
theorem szIntS_eq (a : List Int) (hl : a.length ≤ maxLen) (left : Int) (h0 : 0 ≤ left) (h1 : left ≤ 1000000000000) : ∃ r, laws.szIntS.f a left = some r ∧ (0 ≤ r → r + a.length = left) := by
  unfold laws.szIntS.f
  have hm := maxLen_le
  have e2 : w64 (left - (a.length : Int)) = left - (a.length : Int) := w64_id (by omega) (by omega)
  rw [e2]
  by_cases c : left - (a.length : Int) < 0
  · exact ⟨-1, br_d c rfl, fun h => by omega⟩
  · exact ⟨_, br_n c rfl, fun _ => by omega⟩
theorem toStringS_l0 (a : List ByteArray) (hl : a.length ≤ 1000000000000000) : ∀ (f i : Nat) (v : List ByteArray), a.length < i + f → i ≤ a.length → v.length = a.length → v.take i = a.take i → laws.toStringS.l0.f a f v (i : Int) = some a := by
  intro f
  induction f with
  | zero => intro i v h hi; omega
  | succ f ih =>
    intro i v h hi hv ht
    rw [laws.toStringS.l0.f]
    by_cases c : i < a.length
    · have e1 : w64 ((i : Int) + 1) = ((i + 1 : Nat) : Int) := wsucc (by omega)
      simp only [Int.toNat_natCast, getD_at c, e1]
      exact br_d (by omega) (ck_t (by omega) (ck_t (by omega) (ih (i + 1) _ (by omega) (by omega) (by rw [List.length_set]; exact hv) (set_take c hv ht))))
    · rw [take_all (by omega) hv ht]
      exact br_n (by omega) rfl
theorem toStringS_eq (K : Nat) (hK : 10000000000000 ≤ K) (a : List ByteArray) (hl : a.length ≤ 1000000000000) : laws.toStringS.f K a = some a := by
  unfold laws.toStringS.f
  exact ck_t (by omega) (bind_t (toStringS_l0 a (by omega) K 0 _ (by omega) (by omega) (by rw [List.length_replicate]) rfl) rfl)
theorem toIntS_l0 (a : List Int) (hl : a.length ≤ 1000000000000000) : ∀ (f i : Nat) (v : List Int), a.length < i + f → i ≤ a.length → v.length = a.length → v.take i = a.take i → laws.toIntS.l0.f a f v (i : Int) = some a := by
  intro f
  induction f with
  | zero => intro i v h hi; omega
  | succ f ih =>
    intro i v h hi hv ht
    rw [laws.toIntS.l0.f]
    by_cases c : i < a.length
    · have e1 : w64 ((i : Int) + 1) = ((i + 1 : Nat) : Int) := wsucc (by omega)
      simp only [Int.toNat_natCast, getD_at c, e1]
      exact br_d (by omega) (ck_t (by omega) (ck_t (by omega) (ih (i + 1) _ (by omega) (by omega) (by rw [List.length_set]; exact hv) (set_take c hv ht))))
    · rw [take_all (by omega) hv ht]
      exact br_n (by omega) rfl
theorem toIntS_eq (K : Nat) (hK : 10000000000000 ≤ K) (a : List Int) (hl : a.length ≤ 1000000000000) : laws.toIntS.f K a = some a := by
  unfold laws.toIntS.f
  exact ck_t (by omega) (bind_t (toIntS_l0 a (by omega) K 0 _ (by omega) (by omega) (by rw [List.length_replicate]) rfl) rfl)
theorem eqStringS_l0 (a : List ByteArray) (hl : a.length ≤ 1000000000000000) : ∀ (f i : Nat), a.length < i + f → i ≤ a.length → laws.eqStringS.l0.f a a f (i : Int) = some (.inr ()) := by
  intro f
  induction f with
  | zero => intro i h hi; omega
  | succ f ih =>
    intro i h hi
    rw [laws.eqStringS.l0.f]
    by_cases c : i < a.length
    · have e1 : w64 ((i : Int) + 1) = ((i + 1 : Nat) : Int) := wsucc (by omega)
      simp only [e1]
      exact br_d (by omega) (ck_t (by omega) (ck_t (by omega) (br_t (strEq_self _) (ih (i + 1) (by omega) (by omega)))))
    · exact br_n (by omega) rfl
theorem eqStringS_self (K : Nat) (hK : 10000000000000 ≤ K) (a : List ByteArray) (hl : a.length ≤ 1000000000000) : laws.eqStringS.f K a a = some true := by
  unfold laws.eqStringS.f
  exact br_f (by simp) (bind_t (eqStringS_l0 a (by omega) K 0 (by omega) (by omega)) rfl)
theorem eqIntS_l0 (a : List Int) (hl : a.length ≤ 1000000000000000) : ∀ (f i : Nat), a.length < i + f → i ≤ a.length → laws.eqIntS.l0.f a a f (i : Int) = some (.inr ()) := by
  intro f
  induction f with
  | zero => intro i h hi; omega
  | succ f ih =>
    intro i h hi
    rw [laws.eqIntS.l0.f]
    by_cases c : i < a.length
    · have e1 : w64 ((i : Int) + 1) = ((i + 1 : Nat) : Int) := wsucc (by omega)
      simp only [e1]
      exact br_d (by omega) (ck_t (by omega) (ck_t (by omega) (br_f (by simp) (ih (i + 1) (by omega) (by omega)))))
    · exact br_n (by omega) rfl
theorem eqIntS_self (K : Nat) (hK : 10000000000000 ≤ K) (a : List Int) (hl : a.length ≤ 1000000000000) : laws.eqIntS.f K a a = some true := by
  unfold laws.eqIntS.f
  exact br_f (by simp) (bind_t (eqIntS_l0 a (by omega) K 0 (by omega) (by omega)) rfl)
theorem eqNode_self (K : Nat) (hK : 10000000000000 ≤ K) (b : Bool) (n : List ByteArray) (m : List Int) (t : ByteArray) (hn : n.length ≤ 1000000000000) (hm : m.length ≤ 1000000000000) : laws.eqNode.f K b n m t b n m t = some true := by
  unfold laws.eqNode.f
  exact br_t (by simp) (bind_t (eqStringS_self K hK n hn) (br_t rfl (bind_t (eqIntS_self K hK m hm) (br_t rfl (br_t (strEq_self _) rfl)))))
theorem szNode_eq (K : Nat) (hK : 10000000000000 ≤ K) (b : Bool) (n : List ByteArray) (m : List Int) (t : ByteArray) (hn : n.length ≤ maxLen) (hs : ∀ x ∈ n, x.size ≤ maxLen) (hm : m.length ≤ maxLen) (ht : t.size ≤ maxLen) : ∃ r, laws.szNode.f K b n m t 1048576 = some r ∧ (0 ≤ r → n.length + tot n + m.length + t.size ≤ 1048576) := by
  unfold laws.szNode.f
  obtain ⟨r, h1, h2⟩ := szStringS_eq K hK n hn hs 1048576 (by decide) (by decide)
  by_cases c : r < 0
  · exact ⟨-1, bind_t h1 (br_d c rfl), fun h => by omega⟩
  have h3 := h2 (by omega)
  obtain ⟨q, g1, g2⟩ := szIntS_eq m hm r (by omega) (by omega)
  by_cases c2 : q < 0
  · exact ⟨-1, bind_t h1 (br_n c (bind_t g1 (br_d c2 rfl))), fun h => by omega⟩
  have g3 := g2 (by omega)
  have e : w64 (q - (t.size : Int)) = q - (t.size : Int) := by have := maxLen_le; exact w64_id (by omega) (by omega)
  by_cases c3 : q - (t.size : Int) < 0
  · exact ⟨-1, bind_t h1 (br_n c (bind_t g1 (br_n c2 (br_d (by rw [e]; exact c3) rfl)))), fun h => by omega⟩
  · exact ⟨_, bind_t h1 (br_n c (bind_t g1 (br_n c2 (br_n (by rw [e]; exact c3) rfl)))), fun h => by omega⟩
theorem toNode_eq (K : Nat) (hK : 10000000000000 ≤ K) (b : Bool) (n : List ByteArray) (m : List Int) (t : ByteArray) (hn : n.length ≤ 1000000000000) (hm : m.length ≤ 1000000000000) : laws.toNode.f K b n m t = some (n, m) := by
  unfold laws.toNode.f
  exact bind_t (toStringS_eq K hK n hn) (bind_t (toIntS_eq K hK m hm) rfl)
theorem markText_l0 : ∀ (f q : Nat) (n : Int) (x : ByteArray), f < q → 0 ≤ n → n < 10 ^ f → n < 9223372036854775808 → x.size + f ≤ 1000 → ∃ r, laws.markText.l0.f q n x = some r ∧ r.size ≤ x.size + f := by
  intro f
  induction f with
  | zero =>
    intro q n x hq h0 h1 h2 hx
    obtain ⟨q, rfl⟩ := Nat.exists_eq_add_one_of_ne_zero (by omega : q ≠ 0)
    have h1 : n < 1 := h1
    rw [laws.markText.l0.f]
    exact ⟨x, br_n (by omega) rfl, by omega⟩
  | succ f ih =>
    intro q n x hq h0 h1 h2 hx
    obtain ⟨q, rfl⟩ := Nat.exists_eq_add_one_of_ne_zero (by omega : q ≠ 0)
    rw [laws.markText.l0.f]
    by_cases c : n > 0
    · have e1 : n.tdiv 10 = n / 10 := Int.tdiv_eq_ediv_of_nonneg (by omega)
      have e2 : w64 (n / 10) = n / 10 := w64_id (by omega) (by omega)
      have hs : ∀ y : List Int, (ofBytes y ++ x).size = y.length + x.size := fun y => by rw [ByteArray.size_append, ofBytes_size]
      rw [e1, e2]
      generalize IntKind.u8.wrap (w64 (48 + n.tmod 10)) = z
      obtain ⟨r, hr, hz⟩ := ih q (n / 10) (ofBytes [z] ++ x) (by omega) (by omega) (by rw [Int.pow_succ] at h1; omega) (by omega) (by rw [hs]; simp; omega)
      refine ⟨r, br_d c (ck_t ?_ hr), ?_⟩
      · rw [ofBytes_size]; simp; omega
      · rw [hs] at hz; simp at hz; omega
    · exact ⟨x, br_n c rfl, by omega⟩
theorem markText_some (K : Nat) (hK : 10000000000000 ≤ K) (n : Int) (h : n < 9223372036854775808) : ∃ r, laws.markText.f K n = some r ∧ r.size ≤ 30 := by
  unfold laws.markText.f
  by_cases c : n ≤ 0
  · exact ⟨_, br_d c rfl, by decide⟩
  · obtain ⟨r, h1, h2⟩ := markText_l0 19 K n noVal (by omega) (by omega) (by omega) h (by decide)
    have h3 : r.size ≤ 19 := h2
    have h4 : (ByteArray.mk #[109]).size = 1 := rfl
    exact ⟨_, br_n c (bind_t h1 (ck_t (by rw [h4]; omega) rfl)), by rw [ByteArray.size_append, h4]; omega⟩
/-- The mark of a number, as a text. -/
def mtx (K : Nat) (n : Int) : ByteArray := (laws.markText.f K n).getD noVal
theorem markText_eq (K : Nat) (hK : 10000000000000 ≤ K) (n : Int) (h : n < 9223372036854775808) : laws.markText.f K n = some (mtx K n) := by
  obtain ⟨r, h1, _⟩ := markText_some K hK n h
  unfold mtx
  rw [h1]; rfl
/-- What the marks are. -/
def mkStringS (K : Nat) (m : Int) (n : Nat) : List ByteArray := (List.range n).map fun j : Nat => mtx K (m + (j : Nat))
theorem mkStringS_length (K : Nat) (m : Int) (n : Nat) : (mkStringS K m n).length = n := by simp [mkStringS]
theorem mkStringS_at (K : Nat) (m : Int) (n j : Nat) (h : j < (mkStringS K m n).length) : (mkStringS K m n)[j] = mtx K (m + (j : Nat)) := by simp [mkStringS]
theorem markStringS_l0 (K : Nat) (hK : 10000000000000 ≤ K) (m : Int) (N : Nat) (h0 : 0 ≤ m) (h1 : m ≤ 1000000000000) (hN : N ≤ 1000000000000) : ∀ (f i : Nat) (v : List ByteArray), N < i + f → i ≤ N → v.length = N → v.take i = (mkStringS K m N).take i →
    laws.markStringS.l0.f K f v (m + (i : Nat)) (i : Int) = some (m + (N : Nat), mkStringS K m N) := by
  intro f
  induction f with
  | zero => intro i v h hi; omega
  | succ f ih =>
    intro i v h hi hv ht
    rw [laws.markStringS.l0.f]
    by_cases c : i < N
    · have e1 : w64 ((i : Int) + 1) = ((i + 1 : Nat) : Int) := wsucc (by omega)
      have hc : i < (mkStringS K m N).length := by rw [mkStringS_length]; exact c
      have st := set_take hc (by rw [mkStringS_length]; exact hv) ht
      rw [mkStringS_at] at st
      have e2 : w64 (m + (i : Nat) + 1) = m + ((i + 1 : Nat) : Int) := by rw [w64_id (by omega) (by omega)]; omega
      simp only [Int.toNat_natCast, e1, e2]
      exact br_d (by omega) (bind_t (markText_eq K hK _ (by omega)) (ck_t (by omega) (ih (i + 1) _ (by omega) (by omega) (by rw [List.length_set]; exact hv) st)))
    · have : i = N := by omega
      subst this
      rw [take_all (by rw [mkStringS_length]; omega) (by rw [mkStringS_length]; exact hv) ht]
      exact br_n (by rw [mkStringS_length]; omega) rfl
theorem markStringS_eq (K : Nat) (hK : 10000000000000 ≤ K) (a : List ByteArray) (m : Int) (h0 : 0 ≤ m) (h1 : m ≤ 1000000000000) (hl : a.length ≤ 1000000000000) : laws.markStringS.f K a m = some (m + (a.length : Nat), mkStringS K m a.length) := by
  unfold laws.markStringS.f
  have := markStringS_l0 K hK m a.length h0 h1 hl K 0 a (by omega) (by omega) rfl rfl
  simp only [Int.natCast_zero, Int.mul_zero, Int.add_zero] at this
  exact bind_t this rfl
/-- What the marks are. -/
def mkIntS (K : Nat) (m : Int) (n : Nat) : List Int := (List.range n).map fun j : Nat => m + (j : Nat)
theorem mkIntS_length (K : Nat) (m : Int) (n : Nat) : (mkIntS K m n).length = n := by simp [mkIntS]
theorem mkIntS_at (K : Nat) (m : Int) (n j : Nat) (h : j < (mkIntS K m n).length) : (mkIntS K m n)[j] = m + (j : Nat) := by simp [mkIntS]
theorem markIntS_l0 (K : Nat) (hK : 10000000000000 ≤ K) (m : Int) (N : Nat) (h0 : 0 ≤ m) (h1 : m ≤ 1000000000000) (hN : N ≤ 1000000000000) : ∀ (f i : Nat) (v : List Int), N < i + f → i ≤ N → v.length = N → v.take i = (mkIntS K m N).take i →
    laws.markIntS.l0.f f v (m + (i : Nat)) (i : Int) = some (m + (N : Nat), mkIntS K m N) := by
  intro f
  induction f with
  | zero => intro i v h hi; omega
  | succ f ih =>
    intro i v h hi hv ht
    rw [laws.markIntS.l0.f]
    by_cases c : i < N
    · have e1 : w64 ((i : Int) + 1) = ((i + 1 : Nat) : Int) := wsucc (by omega)
      have hc : i < (mkIntS K m N).length := by rw [mkIntS_length]; exact c
      have st := set_take hc (by rw [mkIntS_length]; exact hv) ht
      rw [mkIntS_at] at st
      have e2 : w64 (m + (i : Nat) + 1) = m + ((i + 1 : Nat) : Int) := by rw [w64_id (by omega) (by omega)]; omega
      simp only [Int.toNat_natCast, e1, e2]
      exact br_d (by omega) (ck_t (by omega) (ih (i + 1) _ (by omega) (by omega) (by rw [List.length_set]; exact hv) st))
    · have : i = N := by omega
      subst this
      rw [take_all (by rw [mkIntS_length]; omega) (by rw [mkIntS_length]; exact hv) ht]
      exact br_n (by rw [mkIntS_length]; omega) rfl
theorem markIntS_eq (K : Nat) (hK : 10000000000000 ≤ K) (a : List Int) (m : Int) (h0 : 0 ≤ m) (h1 : m ≤ 1000000000000) (hl : a.length ≤ 1000000000000) : laws.markIntS.f K a m = some (m + (a.length : Nat), mkIntS K m a.length) := by
  unfold laws.markIntS.f
  have := markIntS_l0 K hK m a.length h0 h1 hl K 0 a (by omega) (by omega) rfl rfl
  simp only [Int.natCast_zero, Int.mul_zero, Int.add_zero] at this
  exact bind_t this rfl
theorem heldStringS_l0 (K : Nat) (hK : 10000000000000 ≤ K) (m : Int) (N : Nat) (h0 : 0 ≤ m) (h1 : m ≤ 1000000000000) (hN : N ≤ 1000000000000) : ∀ (f i : Nat), N < i + f → i ≤ N →
    laws.heldStringS.l0.f K (mkStringS K m N) f (m + (i : Nat)) (i : Int) = some (.inr (m + (N : Nat))) := by
  intro f
  induction f with
  | zero => intro i h hi; omega
  | succ f ih =>
    intro i h hi
    rw [laws.heldStringS.l0.f]
    have hml := mkStringS_length K m N
    by_cases c : i < N
    · have e1 : w64 ((i : Int) + 1) = ((i + 1 : Nat) : Int) := wsucc (by omega)
      have e5 : (mkStringS K m N).getD i noVal = (mkStringS K m N)[i] := getD_at (by omega) _
      have e2 : w64 (m + (i : Nat) + 1) = m + ((i + 1 : Nat) : Int) := by rw [w64_id (by omega) (by omega)]; omega
      have e3 : True = True := rfl
      simp only [Int.toNat_natCast, e1, e2, e3, e5, mkStringS_at]
      exact br_d (by omega) (ck_t (by omega) (bind_t (markText_eq K hK _ (by omega)) (br_t (strEq_self _) (ih (i + 1) (by omega) (by omega)))))
    · have : i = N := by omega
      subst this
      exact br_n (by omega) rfl
theorem heldStringS_eq (K : Nat) (hK : 10000000000000 ≤ K) (m : Int) (N : Nat) (h0 : 0 ≤ m) (h1 : m ≤ 1000000000000) (hN : N ≤ 1000000000000) : laws.heldStringS.f K (mkStringS K m N) m = some (m + (N : Nat)) := by
  unfold laws.heldStringS.f
  have := heldStringS_l0 K hK m N h0 h1 hN K 0 (by omega) (by omega)
  simp only [Int.natCast_zero, Int.mul_zero, Int.add_zero] at this
  exact bind_t this rfl
theorem heldIntS_l0 (K : Nat) (hK : 10000000000000 ≤ K) (m : Int) (N : Nat) (h0 : 0 ≤ m) (h1 : m ≤ 1000000000000) (hN : N ≤ 1000000000000) : ∀ (f i : Nat), N < i + f → i ≤ N →
    laws.heldIntS.l0.f (mkIntS K m N) f (m + (i : Nat)) (i : Int) = some (.inr (m + (N : Nat))) := by
  intro f
  induction f with
  | zero => intro i h hi; omega
  | succ f ih =>
    intro i h hi
    rw [laws.heldIntS.l0.f]
    have hml := mkIntS_length K m N
    by_cases c : i < N
    · have e1 : w64 ((i : Int) + 1) = ((i + 1 : Nat) : Int) := wsucc (by omega)
      have e5 : (mkIntS K m N).getD i 0 = (mkIntS K m N)[i] := getD_at (by omega) _
      have e2 : w64 (m + (i : Nat) + 1) = m + ((i + 1 : Nat) : Int) := by rw [w64_id (by omega) (by omega)]; omega
      have e3 : True = True := rfl
      simp only [Int.toNat_natCast, e1, e2, e3, e5, mkIntS_at]
      exact br_d (by omega) (ck_t (by omega) (br_f (by simp) (ih (i + 1) (by omega) (by omega))))
    · have : i = N := by omega
      subst this
      exact br_n (by omega) rfl
theorem heldIntS_eq (K : Nat) (hK : 10000000000000 ≤ K) (m : Int) (N : Nat) (h0 : 0 ≤ m) (h1 : m ≤ 1000000000000) (hN : N ≤ 1000000000000) : laws.heldIntS.f K (mkIntS K m N) m = some (m + (N : Nat)) := by
  unfold laws.heldIntS.f
  have := heldIntS_l0 K hK m N h0 h1 hN K 0 (by omega) (by omega)
  simp only [Int.natCast_zero, Int.mul_zero, Int.add_zero] at this
  exact bind_t this rfl
theorem markNode_eq (K : Nat) (hK : 10000000000000 ≤ K) (b : Bool) (n : List ByteArray) (m : List Int) (t : ByteArray) (hn : n.length ≤ 1000000000) (hm : m.length ≤ 1000000000) : laws.markNode.f K b n m t 1 = some (1 + (n.length : Int) + (m.length : Int), mkStringS K 1 n.length, mkIntS K (1 + (n.length : Int)) m.length) := by
  unfold laws.markNode.f
  exact bind_t (markStringS_eq K hK n 1 (by omega) (by omega) (by omega)) (bind_t (markIntS_eq K hK m _ (by omega) (by omega) (by omega)) rfl)
theorem heldNode_eq (K : Nat) (hK : 10000000000000 ≤ K) (b : Bool) (n m : Nat) (t : ByteArray) (hn : n ≤ 1000000000) (hm : m ≤ 1000000000) : laws.heldNode.f K b (mkStringS K 1 n) n (mkIntS K (1 + (n : Int)) m) m t 1 = some (1 + (n : Int) + (m : Int)) := by
  unfold laws.heldNode.f
  have h1 := mkStringS_length K 1 n
  have h2 := mkIntS_length K (1 + (n : Int)) m
  have w1 : ((mkStringS K 1 n).drop 0).take n = mkStringS K 1 n := by rw [List.drop_zero, List.take_of_length_le (by omega)]
  have w2 : ((mkIntS K (1 + (n : Int)) m).drop 0).take m = mkIntS K (1 + (n : Int)) m := by rw [List.drop_zero, List.take_of_length_le (by omega)]
  rw [w1, w2]
  exact bind_t (heldStringS_eq K hK 1 n (by omega) (by omega) (by omega)) (ck_t (by omega) (br_n (by omega) (bind_t (heldIntS_eq K hK _ m (by omega) (by omega) (by omega)) (ck_t (by omega) (br_n (by omega) rfl)))))
/-! ### a folder's kids -/
theorem strEq_comm (a b : ByteArray) : strEq a b = strEq b a := by
  rw [Bool.eq_iff_iff, strEq_iff, strEq_iff]; exact eq_comm
def kN (n : List ByteArray) (m : List Int) : Nat := min n.length m.length
def prN (n : List ByteArray) (m : List Int) : List ByteArray := n.take (kN n m)
def prM (n : List ByteArray) (m : List Int) : List Int := m.take (kN n m)
theorem prN_length (n : List ByteArray) (m : List Int) : (prN n m).length = kN n m := by unfold prN kN; rw [List.length_take]; omega
theorem prM_length (n : List ByteArray) (m : List Int) : (prM n m).length = kN n m := by unfold prM kN; rw [List.length_take]; omega
theorem prN_at {n : List ByteArray} {m : List Int} {i : Nat} (h : i < kN n m) : (prN n m).getD i noVal = n.getD i noVal := by
  unfold prN; rw [List.getD_eq_getElem?_getD, List.getElem?_take, if_pos h, ← List.getD_eq_getElem?_getD]
theorem prM_at {n : List ByteArray} {m : List Int} {i : Nat} (h : i < kN n m) : (prM n m).getD i 0 = m.getD i 0 := by
  unfold prM; rw [List.getD_eq_getElem?_getD, List.getElem?_take, if_pos h, ← List.getD_eq_getElem?_getD]
def eqN (x : ByteArray) (y : ByteArray) : Bool := strEq y x
/-- Where a name stands. -/
def ixN (l : List ByteArray) (x : ByteArray) : Nat := l.findIdx (eqN x)
theorem find_l0 (l : List ByteArray) (x : ByteArray) (i : Nat) (h : i < l.length) : (l.drop i).findIdx (eqN x) = if eqN x (l.getD i noVal) = true then 0 else (l.drop (i + 1)).findIdx (eqN x) + 1 := by
  rw [List.drop_eq_getElem_cons h, List.findIdx_cons, getD_at h]
  cases eqN x l[i] <;> rfl
theorem Index_l0 (l : List ByteArray) (x : ByteArray) (hl : l.length ≤ 1000000000) : ∀ (f i : Nat), l.length < i + f → i ≤ l.length →
    slices.Index_string_string.l0.f l x f (i : Int) = some (if i + (l.drop i).findIdx (eqN x) < l.length then .inl ((i + (l.drop i).findIdx (eqN x) : Nat) : Int) else .inr ()) := by
  intro f
  induction f with
  | zero => intro i h hi; omega
  | succ f ih =>
    intro i h hi
    rw [slices.Index_string_string.l0.f]
    by_cases c : i < l.length
    case neg =>
      rw [if_neg (by rw [List.drop_of_length_le (by omega)]; simp; omega)]
      exact br_n (by omega) rfl
    have e1 : w64 ((i : Int) + 1) = ((i + 1 : Nat) : Int) := wsucc (by omega)
    rw [find_l0 l x i c]
    cases d : eqN x (l.getD i noVal) with
    | true =>
      rw [if_pos rfl, if_pos (by omega)]
      refine br_d (by omega) (ck_t (by omega) (br_t ?_ rfl))
      show strEq x (l.getD i noVal) = true
      rw [strEq_comm]; exact d
    | false =>
      refine br_d (by omega) (ck_t (by omega) (br_f ?_ ?_))
      · show strEq x (l.getD i noVal) = false
        rw [strEq_comm]; exact d
      · rw [e1, ih (i + 1) (by omega) (by omega)]
        simp only [Bool.false_eq_true, if_false]
        have : i + 1 + (l.drop (i + 1)).findIdx (eqN x) = i + ((l.drop (i + 1)).findIdx (eqN x) + 1) := by omega
        rw [this]
theorem Index_eq (K : Nat) (hK : 10000000000000 ≤ K) (l : List ByteArray) (x : ByteArray) (hl : l.length ≤ 1000000000) : slices.Index_string_string.f K l x = some (if ixN l x < l.length then (ixN l x : Int) else -1) := by
  unfold slices.Index_string_string.f ixN
  refine bind_t (Index_l0 l x hl K 0 (by omega) (by omega)) ?_
  simp only [List.drop_zero, Nat.zero_add]
  split <;> rfl
theorem spec_l8At_l0 (b : Bool) (n : List ByteArray) (m : List Int) (t x : ByteArray) (hl : n.length ≤ 1000000000) : ∀ (f i : Nat), kN n m < i + f → i ≤ kN n m →
    spec.l8At.l0.f b n m t x f (i : Int) = some (if i + ((prN n m).drop i).findIdx (eqN x) < kN n m then .inl ((i + ((prN n m).drop i).findIdx (eqN x) : Nat) : Int) else .inr ()) := by
  have hp := prN_length n m
  have hk : kN n m = min n.length m.length := rfl
  intro f
  induction f with
  | zero => intro i h hi; omega
  | succ f ih =>
    intro i h hi
    rw [spec.l8At.l0.f]
    by_cases c : i < kN n m
    case neg =>
      rw [if_neg (by rw [List.drop_of_length_le (by omega)]; simp; omega)]
      by_cases d : i < n.length
      · exact br_d (by omega) (br_n (by omega) rfl)
      · exact br_n (by omega) rfl
    have e1 : w64 ((i : Int) + 1) = ((i + 1 : Nat) : Int) := wsucc (by omega)
    rw [find_l0 _ x i (by omega), prN_at c]
    cases d : eqN x (n.getD i noVal) with
    | true =>
      rw [if_pos rfl, if_pos (by omega)]
      exact br_d (by omega) (br_d (by omega) (ck_t (by omega) (br_t d rfl)))
    | false =>
      refine br_d (by omega) (br_d (by omega) (ck_t (by omega) (br_f d ?_)))
      rw [e1, ih (i + 1) (by omega) (by omega)]
      simp only [Bool.false_eq_true, if_false]
      have : i + 1 + ((prN n m).drop (i + 1)).findIdx (eqN x) = i + (((prN n m).drop (i + 1)).findIdx (eqN x) + 1) := by omega
      rw [this]
def atN (n : List ByteArray) (m : List Int) (x : ByteArray) : Nat := ixN (prN n m) x
theorem spec_l8At_eq (K : Nat) (hK : 10000000000000 ≤ K) (b : Bool) (n : List ByteArray) (m : List Int) (t x : ByteArray) (hl : n.length ≤ 1000000000) : spec.l8At.f K b n m t x = some (if atN n m x < kN n m then (atN n m x : Int) else -1) := by
  unfold spec.l8At.f atN ixN
  have hk : kN n m = min n.length m.length := rfl
  refine bind_t (spec_l8At_l0 b n m t x hl K 0 (by omega) (by omega)) ?_
  simp only [List.drop_zero, Nat.zero_add]
  split <;> rfl
theorem atN_le (n : List ByteArray) (m : List Int) (x : ByteArray) : atN n m x ≤ kN n m := by
  have := List.findIdx_le_length (p := eqN x) (xs := prN n m)
  rw [prN_length] at this
  exact this
/-- What is left of a list from i on, the one at p taken out. -/
def er {α : Type} (l : List α) (i p : Nat) : List α := if i ≤ p then (l.drop i).eraseIdx (p - i) else l.drop i
theorem er_cons {α : Type} (l : List α) (i p : Nat) (d : α) (h : i < l.length) : er l i p = if i = p then er l (i + 1) p else l.getD i d :: er l (i + 1) p := by
  unfold er
  rw [List.drop_eq_getElem_cons h, getD_at h]
  by_cases c : i = p
  · subst c
    rw [if_pos (Nat.le_refl _), if_pos rfl, if_neg (by omega), Nat.sub_self]; rfl
  · rw [if_neg c]
    by_cases d : i ≤ p
    · rw [if_pos d, if_pos (by omega), show p - i = (p - (i + 1)) + 1 by omega]; rfl
    · rw [if_neg d, if_neg (by omega)]
theorem er_end {α : Type} (l : List α) (i p : Nat) (h : l.length ≤ i) : er l i p = [] := by
  unfold er
  rw [List.drop_of_length_le h]
  split <;> simp
theorem er_zero {α : Type} (l : List α) (p : Nat) : er l 0 p = l.eraseIdx p := by unfold er; rw [if_pos (Nat.zero_le _)]; rfl
theorem er_length {α : Type} (l : List α) (i p : Nat) : (er l i p).length ≤ l.length - i := by
  unfold er
  split
  · have := List.length_eraseIdx_le (l.drop i) (p - i); rw [List.length_drop] at this; exact this
  · rw [List.length_drop]; exact Nat.le_refl _
theorem spec_KidDrop_l0 (b : Bool) (n : List ByteArray) (m : List Int) (t : ByteArray) (hl : n.length ≤ 1000000000) (at_ : Int) (p : Nat) (ha : ∀ i : Nat, i < kN n m → ((i : Int) = at_ ↔ i = p)) : ∀ (f i : Nat) (v : List ByteArray) (u : List Int), kN n m < i + f → i ≤ kN n m → v.length + (kN n m - i) ≤ 1000000000 → u.length + (kN n m - i) ≤ 1000000000 →
    spec.KidDrop.l0.f b n m t f v u at_ (i : Int) = some (v ++ er (prN n m) i p, u ++ er (prM n m) i p) := by
  have hp := prN_length n m
  have hq := prM_length n m
  have hk : kN n m = min n.length m.length := rfl
  intro f
  induction f with
  | zero => intro i v u h hi; omega
  | succ f ih =>
    intro i v u h hi hv hu
    rw [spec.KidDrop.l0.f]
    by_cases c : i < kN n m
    case neg =>
      rw [er_end _ _ _ (by omega), er_end _ _ _ (by omega), List.append_nil, List.append_nil]
      by_cases d : i < n.length
      · exact br_d (by omega) (br_n (by omega) rfl)
      · exact br_n (by omega) rfl
    have e1 : w64 ((i : Int) + 1) = ((i + 1 : Nat) : Int) := wsucc (by omega)
    rw [er_cons (prN n m) i p noVal (by omega), er_cons (prM n m) i p 0 (by omega), prN_at c, prM_at c, e1]
    by_cases d : i = p
    · rw [if_pos d, if_pos d]
      refine br_d (by omega) (br_d (by omega) (br_f (by rw [(ha i c).2 d]; simp) ?_))
      exact ih (i + 1) v u (by omega) (by omega) (by omega) (by omega)
    · rw [if_neg d, if_neg d]
      refine br_d (by omega) (br_d (by omega) (br_t ?_ (ck_t (by omega) (ck_t (by simp; omega) (ck_t (by simp; omega) ?_)))))
      · have : ¬ (i : Int) = at_ := fun e => d ((ha i c).1 e)
        simpa using this
      · rw [Int.toNat_natCast, ih (i + 1) _ _ (by omega) (by omega) (by simp; omega) (by simp; omega)]
        simp
/-- A kid dropped: names and numbers. -/
def dropN (n : List ByteArray) (m : List Int) (x : ByteArray) : List ByteArray := (prN n m).eraseIdx (atN n m x)
def dropM (n : List ByteArray) (m : List Int) (x : ByteArray) : List Int := (prM n m).eraseIdx (atN n m x)
theorem dropN_length (n : List ByteArray) (m : List Int) (x : ByteArray) : (dropN n m x).length = (dropM n m x).length ∧ (dropN n m x).length ≤ n.length ∧ (dropN n m x).length ≤ m.length := by
  have hp := prN_length n m
  have hq := prM_length n m
  have hk : kN n m = min n.length m.length := rfl
  unfold dropN dropM
  rw [List.length_eraseIdx, List.length_eraseIdx, hp, hq]
  refine ⟨rfl, ?_, ?_⟩ <;> split <;> omega
theorem spec_KidDrop_eq (K : Nat) (hK : 10000000000000 ≤ K) (b : Bool) (n : List ByteArray) (m : List Int) (t x : ByteArray) (hl : n.length ≤ 1000000000) : spec.KidDrop.f K b n m t x = some (dropN n m x, dropM n m x) := by
  unfold spec.KidDrop.f
  have hk : kN n m = min n.length m.length := rfl
  refine bind_t (spec_l8At_eq K hK b n m t x hl) (bind_t (spec_KidDrop_l0 b n m t hl _ (atN n m x) (fun i hi => ?_) K 0 [] [] (by omega) (by omega) (by simp; omega) (by simp; omega)) ?_)
  · have := atN_le n m x
    split <;> omega
  · rw [er_zero, er_zero]; rfl
theorem impl_pairs_eq (b : Bool) (n : List ByteArray) (m : List Int) (t : ByteArray) (hn : n.length ≤ 1000000000) (hm : m.length ≤ 1000000000) : impl.pairs.f b n m t = some (prN n m, prM n m) := by
  unfold impl.pairs.f
  have hk : kN n m = min n.length m.length := rfl
  have e : minI (n.length : Int) (m.length : Int) = ((kN n m : Nat) : Int) := by
    unfold minI; split <;> omega
  rw [e, Int.toNat_natCast]
  have c1 : slices.Clone_string_string.f ((n.drop 0).take (kN n m)) = some (prN n m) := by
    unfold slices.Clone_string_string.f
    rw [List.drop_zero]
    exact ck_t (by have := prN_length n m; unfold prN at this; rw [this]; omega) rfl
  have c2 : slices.Clone_int_int.f ((m.drop 0).take (kN n m)) = some (prM n m) := by
    unfold slices.Clone_int_int.f
    rw [List.drop_zero]
    exact ck_t (by have := prM_length n m; unfold prM at this; rw [this]; omega) rfl
  exact ck_t (by omega) (ck_t (by omega) (bind_t c1 (ck_t (by omega) (ck_t (by omega) (bind_t c2 (ck_t (by omega) rfl))))))
theorem impl_KidDrop_eq (K : Nat) (hK : 10000000000000 ≤ K) (b : Bool) (n : List ByteArray) (m : List Int) (t x : ByteArray) (hn : n.length ≤ 1000000000) (hm : m.length ≤ 1000000000) : impl.KidDrop.f K b n m t x = some (dropN n m x, dropM n m x) := by
  unfold impl.KidDrop.f
  have hp := prN_length n m
  have hq := prM_length n m
  have hk : kN n m = min n.length m.length := rfl
  have hx := Index_eq K hK (prN n m) x (by omega)
  refine bind_t (impl_pairs_eq b n m t hn hm) (bind_t hx ?_)
  unfold dropN dropM
  show cond (decide ((if ixN (prN n m) x < (prN n m).length then (ixN (prN n m) x : Int) else -1) ≥ 0)) _ _ = _
  have ha : atN n m x = ixN (prN n m) x := rfl
  rw [← ha]
  by_cases c : atN n m x < kN n m
  · rw [if_pos (by omega)]
    have e1 : w64 ((atN n m x : Int) + 1) = ((atN n m x + 1 : Nat) : Int) := wsucc (by omega)
    rw [e1]
    have d1 : slices.Delete_string_string.f (prN n m) (atN n m x : Int) ((atN n m x + 1 : Nat) : Int) = some ((prN n m).eraseIdx (atN n m x)) := by
      unfold slices.Delete_string_string.f
      rw [List.eraseIdx_eq_take_drop_succ]
      exact ck_t (by omega) (ck_t (by omega) (ck_t (by omega) (ck_t (by omega) rfl)))
    have d2 : slices.Delete_int_int.f (prM n m) (atN n m x : Int) ((atN n m x + 1 : Nat) : Int) = some ((prM n m).eraseIdx (atN n m x)) := by
      unfold slices.Delete_int_int.f
      rw [List.eraseIdx_eq_take_drop_succ]
      exact ck_t (by omega) (ck_t (by omega) (ck_t (by omega) (ck_t (by omega) rfl)))
    exact br_d (by omega) (bind_t d1 (bind_t d2 rfl))
  · rw [if_neg (by omega), List.eraseIdx_of_length_le (by omega), List.eraseIdx_of_length_le (by omega)]
    exact br_n (by decide) rfl
def gtN (x : ByteArray) (y : ByteArray) : Bool := !(strLt y x || strEq y x)
/-- Where a name is put. -/
def putAt (l : List ByteArray) (x : ByteArray) : Nat := l.findIdx (gtN x)
theorem findG_l0 (l : List ByteArray) (x : ByteArray) (i : Nat) (h : i < l.length) : (l.drop i).findIdx (gtN x) = if gtN x (l.getD i noVal) = true then 0 else (l.drop (i + 1)).findIdx (gtN x) + 1 := by
  rw [List.drop_eq_getElem_cons h, List.findIdx_cons, getD_at h]
  cases gtN x l[i] <;> rfl
theorem impl_KidPut_l0 (b : Bool) (n : List ByteArray) (m : List Int) (t x : ByteArray) (k : Int) (N : List ByteArray) (M : List Int) (hl : N.length ≤ 1000000000) : ∀ (f i : Nat), N.length < i + f → i ≤ N.length →
    impl.KidPut.l0.f b n m t x k f N M (i : Int) = some (N, M, ((i + (N.drop i).findIdx (gtN x) : Nat) : Int)) := by
  intro f
  induction f with
  | zero => intro i h hi; omega
  | succ f ih =>
    intro i h hi
    rw [impl.KidPut.l0.f]
    by_cases c : i < N.length
    case neg =>
      have : (N.drop i).findIdx (gtN x) = 0 := by rw [List.drop_of_length_le (by omega)]; rfl
      rw [this]
      exact br_n (by omega) rfl
    have e1 : w64 ((i : Int) + 1) = ((i + 1 : Nat) : Int) := wsucc (by omega)
    rw [findG_l0 _ x i c]
    refine br_d (by omega) (ck_t (by omega) ?_)
    show cond (strLt (N.getD i noVal) x || strEq (N.getD i noVal) x) _ _ = _
    cases d : (strLt (N.getD i noVal) x || strEq (N.getD i noVal) x) with
    | true =>
      have dg : gtN x (N.getD i noVal) = false := by unfold gtN; rw [d]; rfl
      rw [dg]
      simp only [Bool.false_eq_true, if_false]
      refine br_t rfl ?_
      rw [e1, ih (i + 1) (by omega) (by omega)]
      have : i + 1 + (N.drop (i + 1)).findIdx (gtN x) = i + ((N.drop (i + 1)).findIdx (gtN x) + 1) := by omega
      rw [this]
    | false =>
      have dg : gtN x (N.getD i noVal) = true := by unfold gtN; rw [d]; rfl
      rw [dg]
      simp only [if_true]
      exact br_f rfl rfl
def putL {α : Type} (l : List α) (j : Nat) (x : α) : List α := l.take j ++ (x :: l.drop j)
theorem putL_cons {α : Type} (a : α) (l : List α) (j : Nat) (x : α) : putL (a :: l) (j + 1) x = a :: putL l j x := rfl
theorem impl_KidPut_eq (K : Nat) (hK : 10000000000000 ≤ K) (b : Bool) (n : List ByteArray) (m : List Int) (t x : ByteArray) (k : Int) (hn : n.length ≤ 1000000000) (hm : m.length ≤ 1000000000) :
    impl.KidPut.f K b n m t x k = some (putL (dropN n m x) (putAt (dropN n m x) x) x, putL (dropM n m x) (putAt (dropN n m x) x) k) := by
  unfold impl.KidPut.f
  obtain ⟨q1, q2, q3⟩ := dropN_length n m x
  have hd := impl_KidDrop_eq K hK b n m t x hn hm
  generalize dropN n m x = N at q1 q2 q3 hd
  generalize dropM n m x = M at q1 hd
  refine bind_t hd (bind_t (impl_KidPut_l0 b n m t x k N M (by omega) K 0 (by omega) (by omega)) ?_)
  have e : ((0 + (N.drop 0).findIdx (gtN x) : Nat) : Int) = (putAt N x : Int) := by rw [List.drop_zero, Nat.zero_add]; rfl
  show Option.bind (slices.Insert_string_string.f N ((0 + (N.drop 0).findIdx (gtN x) : Nat) : Int) [x]) _ = _
  rw [e]
  have hle : putAt N x ≤ N.length := List.findIdx_le_length
  have i1 : slices.Insert_string_string.f N (putAt N x : Int) [x] = some (putL N (putAt N x) x) := by
    unfold slices.Insert_string_string.f
    exact ck_t (by omega) (ck_t (by omega) (ck_t (by simp) (ck_t (by simp; omega) rfl)))
  have i2 : slices.Insert_int_int.f M (putAt N x : Int) [k] = some (putL M (putAt N x) k) := by
    unfold slices.Insert_int_int.f
    exact ck_t (by omega) (ck_t (by omega) (ck_t (by simp) (ck_t (by simp; omega) rfl)))
  exact bind_t i1 (bind_t i2 rfl)
theorem spec_KidPut_on (b : Bool) (n : List ByteArray) (m : List Int) (t x : ByteArray) (k : Int) (N : List ByteArray) (M : List Int) (hl : N.length ≤ 1000000000) (hM : M.length = N.length) : ∀ (f i : Nat) (v : List ByteArray) (u : List Int), N.length < i + f → i ≤ N.length → v.length + (N.length - i) ≤ 2000000000 → u.length + (N.length - i) ≤ 2000000000 →
    spec.KidPut.l0.f b n m t x k f N M v u true (i : Int) = some (v ++ N.drop i, u ++ M.drop i, true) := by
  intro f
  induction f with
  | zero => intro i v u h hi; omega
  | succ f ih =>
    intro i v u h hi hv hu
    rw [spec.KidPut.l0.f]
    by_cases c : i < N.length
    case neg =>
      rw [List.drop_of_length_le (by omega), List.drop_of_length_le (by omega), List.append_nil, List.append_nil]
      exact br_n (by omega) rfl
    have e1 : w64 ((i : Int) + 1) = ((i + 1 : Nat) : Int) := wsucc (by omega)
    refine br_d (by omega) (br_t rfl (ck_t (by omega) (ck_t (by simp; omega) (ck_t (by omega) (ck_t (by simp; omega) ?_)))))
    rw [e1, ih (i + 1) _ _ (by omega) (by omega) (by simp; omega) (by simp; omega)]
    rw [List.drop_eq_getElem_cons c, List.drop_eq_getElem_cons (by omega : i < M.length), Int.toNat_natCast, getD_at c, getD_at (by omega)]
    simp
theorem spec_KidPut_l0 (b : Bool) (n : List ByteArray) (m : List Int) (t x : ByteArray) (k : Int) (N : List ByteArray) (M : List Int) (hl : N.length ≤ 1000000000) (hM : M.length = N.length) : ∀ (f i : Nat) (v : List ByteArray) (u : List Int), N.length < i + f → i ≤ N.length → v.length + (N.length - i) ≤ 1000000000 → u.length + (N.length - i) ≤ 1000000000 →
    spec.KidPut.l0.f b n m t x k f N M v u false (i : Int) = some (if i + (N.drop i).findIdx (gtN x) < N.length then (v ++ putL (N.drop i) ((N.drop i).findIdx (gtN x)) x, u ++ putL (M.drop i) ((N.drop i).findIdx (gtN x)) k, true) else (v ++ N.drop i, u ++ M.drop i, false)) := by
  intro f
  induction f with
  | zero => intro i v u h hi; omega
  | succ f ih =>
    intro i v u h hi hv hu
    rw [spec.KidPut.l0.f]
    by_cases c : i < N.length
    case neg =>
      rw [if_neg (by omega), List.drop_of_length_le (by omega), List.drop_of_length_le (by omega), List.append_nil, List.append_nil]
      exact br_n (by omega) rfl
    have e1 : w64 ((i : Int) + 1) = ((i + 1 : Nat) : Int) := wsucc (by omega)
    rw [findG_l0 _ x i c]
    refine br_d (by omega) (br_f rfl (ck_t (by omega) ?_))
    show cond (strLt (N.getD i noVal) x || strEq (N.getD i noVal) x) _ _ = _
    cases d : (strLt (N.getD i noVal) x || strEq (N.getD i noVal) x) with
    | true =>
      have dg : gtN x (N.getD i noVal) = false := by unfold gtN; rw [d]; rfl
      rw [dg]
      simp only [Bool.false_eq_true, if_false]
      refine br_t rfl (ck_t (by simp; omega) (ck_t (by omega) (ck_t (by simp; omega) ?_)))
      rw [e1, ih (i + 1) _ _ (by omega) (by omega) (by simp; omega) (by simp; omega)]
      rw [List.drop_eq_getElem_cons c, List.drop_eq_getElem_cons (by omega : i < M.length), Int.toNat_natCast, getD_at c, getD_at (by omega : i < M.length)]
      have : i + 1 + (N.drop (i + 1)).findIdx (gtN x) = i + ((N.drop (i + 1)).findIdx (gtN x) + 1) := by omega
      rw [this]
      split
      · rw [putL_cons, putL_cons, List.append_assoc, List.append_assoc]; rfl
      · rw [List.append_assoc, List.append_assoc]; rfl
    | false =>
      have dg : gtN x (N.getD i noVal) = true := by unfold gtN; rw [d]; rfl
      rw [dg]
      simp only [if_true]
      rw [if_pos (by omega)]
      refine br_f rfl (ck_t (by simp; omega) (ck_t (by simp; omega) (ck_t (by simp; omega) (ck_t (by omega) (ck_t (by simp; omega) ?_)))))
      rw [e1, spec_KidPut_on b n m t x k N M hl hM f (i + 1) _ _ (by omega) (by omega) (by simp; omega) (by simp; omega)]
      rw [List.drop_eq_getElem_cons c, List.drop_eq_getElem_cons (by omega : i < M.length), Int.toNat_natCast, getD_at c, getD_at (by omega : i < M.length)]
      simp [putL]
theorem spec_KidPut_eq (K : Nat) (hK : 10000000000000 ≤ K) (b : Bool) (n : List ByteArray) (m : List Int) (t x : ByteArray) (k : Int) (hn : n.length ≤ 1000000000) :
    spec.KidPut.f K b n m t x k = some (putL (dropN n m x) (putAt (dropN n m x) x) x, putL (dropM n m x) (putAt (dropN n m x) x) k) := by
  unfold spec.KidPut.f
  obtain ⟨q1, q2, q3⟩ := dropN_length n m x
  have hd := spec_KidDrop_eq K hK b n m t x hn
  generalize dropN n m x = N at q1 q2 q3 hd
  generalize dropM n m x = M at q1 hd
  have hl := spec_KidPut_l0 b n m t x k N M (by omega) q1.symm K 0 [] [] (by omega) (by omega) (by simp; omega) (by simp; omega)
  simp only [List.drop_zero, Nat.zero_add, List.nil_append] at hl
  have hle : putAt N x ≤ N.length := List.findIdx_le_length
  by_cases c : putAt N x < N.length
  · have hl2 : spec.KidPut.l0.f b n m t x k K N M [] [] false 0 = some (putL N (putAt N x) x, putL M (putAt N x) k, true) := by
      refine Eq.trans hl ?_
      exact congrArg some (if_pos c)
    exact bind_t hd (bind_t hl2 (br_t rfl rfl))
  · have hl2 : spec.KidPut.l0.f b n m t x k K N M [] [] false 0 = some (N, M, false) := by
      refine Eq.trans hl ?_
      exact congrArg some (if_neg c)
    have e1 : putL N (putAt N x) x = N ++ [x] := by unfold putL; rw [List.take_of_length_le (by omega), List.drop_of_length_le (by omega)]
    have e2 : putL M (putAt N x) k = M ++ [k] := by unfold putL; rw [List.take_of_length_le (by omega), List.drop_of_length_le (by omega)]
    rw [e1, e2]
    exact bind_t hd (bind_t hl2 (br_f rfl (ck_t (by simp; omega) (ck_t (by simp; omega) rfl))))
theorem putL_length {α : Type} (l : List α) (j : Nat) (x : α) : (putL l j x).length = l.length + 1 := by
  unfold putL
  rw [List.length_append, List.length_cons, List.length_take, List.length_drop]; omega
theorem FnExactKidPut_pure (b : Bool) (n : List ByteArray) (m : List Int) (t x : ByteArray) (k : Int) (hn : n.length ≤ maxLen) (hs : ∀ x ∈ n, x.size ≤ maxLen) (hm : m.length ≤ maxLen) (_ : ∀ x ∈ m, (Lit.int .i64 x).wf = true) (ht : t.size ≤ maxLen) (hx : x.size ≤ maxLen) (_ : (Lit.int .i64 k).wf = true) : laws.FnExactKidPut.f 10000000000000 b n m t x k = some true := by
  unfold laws.FnExactKidPut.f
  by_cases cx : (x.size : Int) > 1048576
  · exact br_d cx rfl
  refine br_n cx ?_
  have hK : 10000000000000 ≤ 10000000000000 := Nat.le_refl _
  obtain ⟨r, g1, g2⟩ := szNode_eq 10000000000000 hK b n m t hn hs hm ht
  refine bind_t g1 ?_
  by_cases c : r < 0
  · exact br_d c rfl
  refine br_n c ?_
  have g3 := g2 (by omega)
  have hto := toNode_eq 10000000000000 hK b n m t (by omega) (by omega)
  have h1 := spec_KidPut_eq 10000000000000 hK b n m t x k (by omega)
  have h2 := impl_KidPut_eq 10000000000000 hK b n m t x k (by omega) (by omega)
  obtain ⟨q1, q2, q3⟩ := dropN_length n m x
  have p1 := putL_length (dropN n m x) (putAt (dropN n m x) x) x
  have p2 := putL_length (dropM n m x) (putAt (dropN n m x) x) k
  generalize putL (dropN n m x) (putAt (dropN n m x) x) x = N at h1 h2 p1
  generalize putL (dropM n m x) (putAt (dropN n m x) x) k = M at h1 h2 p2
  have he := eqNode_self 10000000000000 hK b N M t (by omega) (by omega)
  have he0 := eqNode_self 10000000000000 hK b n m t (by omega) (by omega)
  have hm0 := markNode_eq 10000000000000 hK b n m t (by omega) (by omega)
  have hm1 := markNode_eq 10000000000000 hK b N M t (by omega) (by omega)
  have hh := heldNode_eq 10000000000000 hK b N.length M.length t (by omega) (by omega)
  refine bind_t hto (bind_t h1 (bind_t hto (bind_t h2 (bind_t he (br_t rfl (bind_t hto (bind_t he0 (br_t rfl (bind_t hm0 (br_n (by show ¬ (1 + (n.length : Int) + (m.length : Int) < 0); omega) (bind_t he (br_t rfl (bind_t hm1 (bind_t hh (br_n (by omega) (br_f (by simp) ?_))))))))))))))))
  exact bind_t hto (bind_t h2 (bind_t he (br_t rfl (bind_t hh (br_n (by omega) (br_f (by simp) rfl))))))
end Go.Proofs.Ytmodnnokcmabhaa.Pure
