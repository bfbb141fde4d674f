/- What numbers, texts and sums are, in plain words: no program in sight. -/
import Derived.Test.YthneilmhnbboeaaDenX
import Derived.Laws.BitsLemmas
namespace Go.Proofs.Ythneilmhnbboeaa.Den
open Go Go.RowKit
set_option linter.unusedSimpArgs false
theorem w64_id {x : Int} (h0 : -9223372036854775808 ≤ x) (h1 : x < 9223372036854775808) : w64 x = x := by
  unfold w64
  rw [IntKind.wrap_i64]
  omega
theorem wsucc {i : Nat} (h : i < 9223372036854775807) : w64 ((i : Int) + 1) = ((i + 1 : Nat) : Int) := by
  rw [w64_id (by omega) (by omega)]
  omega
theorem u8_of {x : Int} (h : (Lit.int .u8 x).wf = true) : 0 ≤ x ∧ x < 256 := by
  simp [Lit.wf, IntKind.min, IntKind.max, IntKind.signed, IntKind.bits] at h
  omega
theorem i64_of {x : Int} (h : (Lit.int .i64 x).wf = true) : -9223372036854775808 ≤ x ∧ x < 9223372036854775808 := by
  simp [Lit.wf, IntKind.min, IntKind.max, IntKind.signed, IntKind.bits] at h
  omega
theorem wrap_u8 {x : Int} (h0 : 0 ≤ x) (h1 : x < 256) : IntKind.u8.wrap x = x := by
  simp [IntKind.wrap, IntKind.bits, IntKind.signed]
  omega
/-! ### branches -/
theorem br_t {α : Type} {c : Bool} {a b r : Option α} (h : c = true) (e : a = r) : cond c a b = r := by rw [h]; exact e
theorem br_f {α : Type} {c : Bool} {a b r : Option α} (h : c = false) (e : b = r) : cond c a b = r := by rw [h]; exact e
theorem br_d {α : Type} {p : Prop} [Decidable p] {a b r : Option α} (h : p) (e : a = r) : cond (decide p) a b = r := by rw [decide_eq_true h]; exact e
theorem br_n {α : Type} {p : Prop} [Decidable p] {a b r : Option α} (h : ¬ p) (e : b = r) : cond (decide p) a b = r := by rw [decide_eq_false h]; exact e
theorem ck_t {α : Type} {p : Prop} [Decidable p] {a r : Option α} (h : p) (e : a = r) : ck p a = r := by unfold ck; rw [if_pos h]; exact e
theorem bind_t {α β : Type} {x : Option α} {a : α} {f : α → Option β} {r : Option β} (h : x = some a) (e : f a = r) : x.bind f = r := by rw [h]; exact e
/-! ### lists -/
theorem getD_at {α : Type} {l : List α} {i : Nat} (h : i < l.length) (d : α) : l.getD i d = l[i] := by
  rw [List.getD_eq_getElem?_getD, List.getElem?_eq_getElem h]; rfl
/-- Every number of the list is a byte. -/
def Bytes (l : List Int) : Prop := ∀ x ∈ l, 0 ≤ x ∧ x < 256
theorem bytes_of {l : List Int} (h : ∀ x ∈ l, (Lit.int .u8 x).wf = true) : Bytes l := fun x hx => u8_of (h x hx)
theorem Bytes.at_ {l : List Int} (h : Bytes l) {i : Nat} (hi : i < l.length) : 0 ≤ l[i] ∧ l[i] < 256 := h _ (List.getElem_mem hi)
theorem Bytes.nil : Bytes [] := fun _ h => by cases h
theorem Bytes.append {a b : List Int} (h : Bytes a) (k : Bytes b) : Bytes (a ++ b) := fun x hx => by
  rcases List.mem_append.1 hx with hx | hx
  · exact h x hx
  · exact k x hx
theorem Bytes.one {x : Int} (h0 : 0 ≤ x) (h1 : x < 256) : Bytes [x] := fun y hy => by
  rw [List.mem_singleton.1 hy]
  exact ⟨h0, h1⟩
theorem Bytes.drop {a : List Int} (h : Bytes a) (n : Nat) : Bytes (a.drop n) := fun x hx => h x (List.mem_of_mem_drop hx)
theorem Bytes.take {a : List Int} (h : Bytes a) (n : Nat) : Bytes (a.take n) := fun x hx => h x (List.mem_of_mem_take hx)
theorem bytesL_ok (s : ByteArray) : Bytes (bytesL s) := fun x hx => by
  unfold bytesL at hx
  obtain ⟨b, _, rfl⟩ := List.mem_map.1 hx
  have := b.toNat_lt
  omega
theorem bytesL_len (s : ByteArray) : (bytesL s).length = s.size := by
  unfold bytesL
  rw [List.length_map, Array.length_toList]; rfl
theorem ofBytes_bytesL (s : ByteArray) : ofBytes (bytesL s) = s := by
  unfold ofBytes bytesL
  rw [List.map_map]
  have : (s.data.toList.map ((fun n : Int => UInt8.ofNat n.toNat) ∘ fun b : UInt8 => (b.toNat : Int))) = s.data.toList := by
    conv => rhs; rw [← List.map_id s.data.toList]
    exact List.map_congr_left fun b _ => by simp
  rw [this]
theorem bytesL_ofBytes {l : List Int} (h : Bytes l) : bytesL (ofBytes l) = l := by
  unfold ofBytes bytesL
  simp only [List.toList_toArray, List.map_map]
  conv => rhs; rw [← List.map_id l]
  refine List.map_congr_left fun n hn => ?_
  have := h n hn
  simp only [Function.comp_apply, id]
  rw [UInt8.toNat_ofNat_of_lt' (by simp [UInt8.size]; omega)]
  omega
theorem ofBytes_size (l : List Int) : (ofBytes l).size = l.length := by
  unfold ofBytes
  simp [ByteArray.size]
theorem strEq_iff {a b : ByteArray} : strEq a b = true ↔ a = b := by
  unfold strEq
  rw [beq_iff_eq]
  refine ⟨fun h => ?_, fun h => by rw [h]⟩
  rw [ByteArray.toList_eq, ByteArray.toList_eq] at h
  cases a; cases b
  simp at h
  simp [h]
theorem strEq_self (a : ByteArray) : strEq a a = true := strEq_iff.2 rfl
/-! ### sums -/
def sumF (n : Int) (l : List Int) : Int := l.foldl (fun n v => (31 * n + v) % 1000003) n
theorem sumF_nil (n : Int) : sumF n [] = n := rfl
theorem sumF_cons (n v : Int) (l : List Int) : sumF n (v :: l) = sumF ((31 * n + v) % 1000003) l := rfl
theorem sumF_range (l : List Int) : ∀ n, 0 ≤ n → n < 1000003 → 0 ≤ sumF n l ∧ sumF n l < 1000003 := by
  induction l with
  | nil => exact fun n h0 h1 => ⟨h0, h1⟩
  | cons v l ih => exact fun n h0 h1 => ih ((31 * n + v) % 1000003) (by omega) (by omega)
/-! ### bits -/
theorem wraps_i64 (n : Int) (h0 : 0 ≤ n) (h1 : n < 2 ^ 62) : IntKind.i64.wrap n = n := by
  rw [IntKind.wrap_i64]
  omega
theorem and127 {x : Int} (h0 : 0 ≤ x) (h1 : x < 4611686018427387904) : bits2 .i64 (· &&& ·) x 127 = x % 128 :=
  bits_mask .i64 62 (by decide) wraps_i64 7 (by decide) x h0 h1
theorem or128 {x : Int} (h0 : 0 ≤ x) (h1 : x < 128) : bits2 .i64 (· ||| ·) x 128 = x + 128 := by
  obtain ⟨a, rfl⟩ := Int.eq_ofNat_of_zero_le h0
  have ha : a < 128 := by omega
  have hc : (128 : Int) = ((128 : Nat) : Int) := rfl
  have hb := (bits_nat .i64 62 (by decide) wraps_i64 a 128 (by omega) (by decide)).2
  rw [hc]
  refine hb.trans ?_
  have := Nat.two_pow_add_eq_or_of_lt (i := 7) ha 1
  rw [Nat.or_comm] at this
  simp only [Nat.reducePow, Nat.mul_one] at this
  rw [← this]
  omega
theorem or_high (i a d : Nat) (hi : i ≤ 40) (ha : a < 2 ^ i) (hd : d < 128) : bits2 .i64 (· ||| ·) (a : Int) ((d * 2 ^ i : Nat) : Int) = ((a + d * 2 ^ i : Nat) : Int) := by
  have hp : 2 ^ i ≤ 2 ^ 40 := Nat.pow_le_pow_right (by decide) hi
  have hm : d * 2 ^ i < 128 * 2 ^ 40 := Nat.lt_of_lt_of_le (Nat.mul_lt_mul_of_pos_right hd (Nat.two_pow_pos i)) (Nat.mul_le_mul_left _ hp)
  refine ((bits_nat .i64 62 (by decide) wraps_i64 a (d * 2 ^ i) (by omega) (by omega)).2).trans ?_
  have := Nat.two_pow_add_eq_or_of_lt (i := i) ha d
  rw [Nat.or_comm, Nat.mul_comm d, ← this]
  congr 1
  omega
theorem or_shl (k : Nat) (hk : k ≤ 4) {n d : Int} (h0 : 0 ≤ n) (h1 : n < 128 ^ k) (h2 : 0 ≤ d) (h3 : d < 128) :
    bits2 .i64 (· ||| ·) n (w64 (d * 2 ^ (min (7 * (k : Int)).toNat 64))) = n + d * 128 ^ k := by
  obtain ⟨a, rfl⟩ := Int.eq_ofNat_of_zero_le h0
  obtain ⟨b, rfl⟩ := Int.eq_ofNat_of_zero_le h2
  have hb : b < 128 := by omega
  have e : (128 : Nat) ^ k = 2 ^ (7 * k) := by rw [Nat.pow_mul]
  have ha : a < 2 ^ (7 * k) := by
    rw [← e]
    exact_mod_cast h1
  have hp : (2 : Nat) ^ (7 * k) ≤ 2 ^ 28 := Nat.pow_le_pow_right (by decide) (by omega)
  have hm : b * 2 ^ (7 * k) < 128 * 2 ^ 28 := Nat.lt_of_lt_of_le (Nat.mul_lt_mul_of_pos_right hb (Nat.two_pow_pos _)) (Nat.mul_le_mul_left _ hp)
  have hs : w64 ((b : Int) * 2 ^ (min (7 * (k : Int)).toNat 64)) = ((b * 2 ^ (7 * k) : Nat) : Int) := by
    have h7 : (7 * (k : Int)).toNat = 7 * k := by omega
    have hmin : min (7 * k) 64 = 7 * k := Nat.min_eq_left (by omega)
    rw [h7, hmin]
    have : ((b : Int) * 2 ^ (7 * k)) = ((b * 2 ^ (7 * k) : Nat) : Int) := by push_cast; rfl
    rw [this]
    exact wraps_i64 _ (by omega) (by omega)
  rw [hs, or_high (7 * k) a b (by omega) ha hb, ← e]
  push_cast
  rfl
/-! ### numbers as bytes -/
def putF : Nat → Nat → List Int
  | 0, n => [(n : Int)]
  | f + 1, n => if n > 127 then ((n % 128 + 128 : Nat) : Int) :: putF f (n / 128) else [(n : Int)]
def putI (n : Int) : List Int := if 0 ≤ n ∧ n ≤ 1000000000 then putF 4 n.toNat else []
theorem putF_bytes : ∀ (f n : Nat), n < 128 ^ (f + 1) → Bytes (putF f n) := by
  intro f
  induction f with
  | zero => exact fun n h => Bytes.one (by omega) (by simp at h; omega)
  | succ f ih =>
    intro n h
    unfold putF
    split
    · intro x hx
      rcases List.mem_cons.1 hx with rfl | hx
      · omega
      · exact ih (n / 128) (Nat.div_lt_of_lt_mul (by rw [Nat.pow_succ, Nat.mul_comm] at h; exact h)) x hx
    · exact Bytes.one (by omega) (by omega)
theorem putF_length : ∀ (f n : Nat), 1 ≤ (putF f n).length ∧ (putF f n).length ≤ f + 1 := by
  intro f
  induction f with
  | zero => exact fun n => by simp [putF]
  | succ f ih =>
    intro n
    unfold putF
    split
    · have := ih (n / 128)
      simp
      omega
    · simp
theorem putI_length (n : Int) : (putI n).length ≤ 5 := by
  unfold putI
  split
  · exact (putF_length 4 _).2
  · simp
theorem putI_bytes (n : Int) : Bytes (putI n) := by
  unfold putI
  split
  · exact putF_bytes 4 _ (by omega)
  · exact Bytes.nil
theorem putI_pos {n : Int} (h0 : 0 ≤ n) (h1 : n ≤ 1000000000) : 1 ≤ (putI n).length := by
  unfold putI
  rw [if_pos ⟨h0, h1⟩]
  exact (putF_length 4 _).1
/-- The number that begins a list of bytes (k bytes and the number n of them are behind us), and of how many bytes it is. -/
def getF : Nat → Nat → Int → List Int → Option (Int × Int)
  | 0, _, _, _ => none
  | _ + 1, _, _, [] => none
  | f + 1, k, n, v :: r =>
    if v ≥ 128 then getF f (k + 1) (n + v % 128 * 128 ^ k) r
    else if v = 0 ∧ k > 0 then none
    else if n + v % 128 * 128 ^ k > 1000000000 then none
    else some (n + v % 128 * 128 ^ k, (k : Int) + 1)
def getI (b : List Int) (at_ : Int) : Int × Int × Bool :=
  if at_ < 0 then (0, 0, false)
  else match getF 5 0 0 (b.drop at_.toNat) with
    | none => (0, 0, false)
    | some (n, c) => (n, at_ + c, true)
def getR (at_ : Int) : Option (Int × Int) → Int × Int × Bool
  | none => (0, 0, false)
  | some (n, c) => (n, at_ + c, true)
theorem getI_at (b : List Int) (a : Nat) : getI b (a : Int) = getR (a : Int) (getF 5 0 0 (b.drop a)) := by
  unfold getI getR
  rw [if_neg (by omega), Int.toNat_natCast]
theorem getF_ok : ∀ (f k : Nat) (n : Int) (b : List Int) (r : Int × Int), Bytes b → 0 ≤ n → getF f k n b = some r → 0 ≤ r.1 ∧ r.1 ≤ 1000000000 ∧ (k : Int) < r.2 ∧ r.2 ≤ k + b.length := by
  intro f
  induction f with
  | zero => exact fun k n b r _ _ h => by simp [getF] at h
  | succ f ih =>
    intro k n b r hb hn h
    match b, hb, h with
    | [], _, h => simp [getF] at h
    | v :: t, hb, h =>
      have hv := hb v (by simp)
      have hp : (0 : Int) < 128 ^ k := Int.pow_pos (by decide)
      have hm : 0 ≤ v % 128 * 128 ^ k := Int.mul_nonneg (by omega) (by omega)
      unfold getF at h
      split at h
      · have := ih (k + 1) _ t r (fun x hx => hb x (by simp [hx])) (by omega) h
        simp only [List.length_cons]
        omega
      · split at h
        · cases h
        · split at h
          · cases h
          · injection h with h
            subst h
            simp only [List.length_cons]
            omega
theorem getI_ok {b : List Int} {at_ : Int} (hb : Bytes b) (h : (getI b at_).2.2 = true) :
    0 ≤ at_ ∧ 0 ≤ (getI b at_).1 ∧ (getI b at_).1 ≤ 1000000000 ∧ at_ < (getI b at_).2.1 ∧ (getI b at_).2.1 ≤ b.length := by
  unfold getI at h ⊢
  split at h
  · cases h
  · rename_i h0
    rw [if_neg h0]
    cases e : getF 5 0 0 (b.drop at_.toNat) with
    | none => rw [e] at h; cases h
    | some r =>
      have := getF_ok 5 0 0 _ r (hb.drop _) (by omega) e
      simp only [List.length_drop] at this
      simp only
      omega
/-- The text that begins at that place. -/
def gettI (b : List Int) (at_ : Int) : ByteArray × Int × Bool :=
  if (getI b at_).2.2 = true ∧ (getI b at_).1 ≤ 400 ∧ (getI b at_).1 ≤ (b.length : Int) - (getI b at_).2.1 then
    (ofBytes ((b.drop (getI b at_).2.1.toNat).take (getI b at_).1.toNat), (getI b at_).2.1 + (getI b at_).1, true)
  else (noVal, 0, false)
end Go.Proofs.Ythneilmhnbboeaa.Den
