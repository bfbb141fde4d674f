/- Words of this claim's own: rounds ('Ev'), numbers that do not wrap, places of a list; no program in sight. -/
import Derived.Test.YtpbamdcbaloibaaWWords
import Derived.Test.YtpbamdcbaloibaaWMore
namespace Go.Proofs.Ytpbamdcbaloibaa.Lib
open Go.RowKit Go.Proofs.YtpbamdcbaloibaaW.PrintWords Go.Proofs.YtpbamdcbaloibaaW.PrintLast Go.Proofs.YtpbamdcbaloibaaW.PrintMore

theorem w64 {x : Int} (h0 : -9223372036854775808 ≤ x) (h1 : x < 9223372036854775808) : wrap64 x = x := by
  unfold wrap64
  omega
theorem wsucc {i : Nat} (h : i < 9223372036854775807) : wrap64 ((i : Int) + 1) = ((i + 1 : Nat) : Int) := by
  rw [w64 (by omega) (by omega)]
  omega
theorem u8_of {x : Int} (h : (Lit.int .u8 x).wf = true) : 0 ≤ x ∧ x < 256 := by
  simp [Lit.wf, IntKind.min, IntKind.max, IntKind.signed, IntKind.bits] at h
  omega
theorem i64_of {x : Int} (h : (Lit.int .i64 x).wf = true) : -9223372036854775808 ≤ x ∧ x < 9223372036854775808 := by
  simp [Lit.wf, IntKind.min, IntKind.max, IntKind.signed, IntKind.bits] at h
  omega

theorem ev_pos {α : Type} {c : Prop} [Decidable c] {A B : Nat → Option α} {r : α} (h : c) (e : Ev A r) : Ev (fun k => if c then A k else B k) r := by
  simpa [h] using e
theorem ev_neg {α : Type} {c : Prop} [Decidable c] {A B : Nat → Option α} {r : α} (h : ¬ c) (e : Ev B r) : Ev (fun k => if c then A k else B k) r := by
  simpa [h] using e
theorem ev_r {α : Type} {g : Nat → Option α} {r s : α} (h : r = s) (e : Ev g s) : Ev g r := h ▸ e
theorem ev_eq {α : Type} {a : Option α} {r : α} (h : a = some r) : Ev (fun _ => a) r := ⟨0, fun _ _ => h⟩
theorem ev_bind {α β : Type} {a : Option α} {f : Nat → α → Option β} {x : α} {r : β} (h : a = some x) (k : Ev (fun n => f n x) r) : Ev (fun n => a.bind (f n)) r := by
  subst h
  exact k
/-- Facts from some number of rounds on, brought to one number. -/
theorem ev_at {α : Type} {g : Nat → Option α} {r : α} {K k : Nat} (h : ∀ k, K ≤ k → g k = some r) (hk : K ≤ k) : g k = some r := h k hk

theorem rd_at {xs : List Int} {i : Nat} (h : i < xs.length) : rd xs (i : Int) = xs[i] := by
  simp [rd, h]
theorem rds_at {xs : List ByteArray} {i : Nat} (h : i < xs.length) : rdOf ByteArray.empty xs (i : Int) = xs[i] := by
  simp [rdOf, h]
theorem bt_at {s : ByteArray} {i : Nat} (h : i < s.size) : bt s (i : Int) = (s[i].toNat : Int) := by
  simp [bt, h]

/-- Every number of the list is a byte. -/
def Bytes (l : List Int) : Prop := ∀ x ∈ l, 0 ≤ x ∧ x < 256
theorem bytes_of {l : List Int} (h : ∀ x ∈ l, (Lit.int .u8 x).wf = true) : Bytes l := fun x hx => u8_of (h x hx)
theorem Bytes.at_ {l : List Int} (h : Bytes l) {i : Nat} (hi : i < l.length) : 0 ≤ l[i] ∧ l[i] < 256 := h _ (List.getElem_mem hi)
theorem Bytes.nil : Bytes [] := fun _ h => by cases h
theorem Bytes.append {a b : List Int} (h : Bytes a) (k : Bytes b) : Bytes (a ++ b) := fun x hx => by
  rcases List.mem_append.1 hx with hx | hx
  · exact h x hx
  · exact k x hx
theorem Bytes.one {x : Int} (h0 : 0 ≤ x) (h1 : x < 256) : Bytes [x] := fun y hy => by
  rw [List.mem_singleton.1 hy]
  exact ⟨h0, h1⟩
theorem Bytes.drop {a : List Int} (h : Bytes a) (n : Nat) : Bytes (a.drop n) := fun x hx => h x (List.mem_of_mem_drop hx)
theorem Bytes.take {a : List Int} (h : Bytes a) (n : Nat) : Bytes (a.take n) := fun x hx => h x (List.mem_of_mem_take hx)

theorem set_at {α : Type} (pre : List α) (x y : α) (post : List α) : (pre ++ x :: post).set pre.length y = pre ++ y :: post := by
  simp
/-- All bytes of a list of texts. -/
def total (l : List ByteArray) : Nat := (l.map (·.size)).sum
theorem total_nil : total [] = 0 := rfl
theorem total_cons (x : ByteArray) (l : List ByteArray) : total (x :: l) = x.size + total l := by simp [total]
theorem size_le_total {l : List ByteArray} {x : ByteArray} (h : x ∈ l) : x.size ≤ total l := by
  induction l with
  | nil => cases h
  | cons y l ih =>
    rw [total_cons]
    rcases List.mem_cons.1 h with rfl | h
    · omega
    · have := ih h
      omega
/-- What is left of a measure. -/
def left_ (n : Int) (m : Nat) : Int := if n - m < 0 then -1 else n - m
theorem left_neg {n : Int} {m : Nat} (h : left_ n m < 0) : n - m < 0 := by
  unfold left_ at h
  split at h <;> omega
theorem left_pos {n : Int} {m : Nat} (h : ¬ left_ n m < 0) : left_ n m = n - m ∧ (m : Int) ≤ n := by
  unfold left_ at h ⊢
  split at h
  · omega
  · rename_i c
    rw [if_neg c]
    omega
theorem toList_inj {a b : ByteArray} (h : a.toList = b.toList) : a = b := by
  rw [ByteArray.toList_eq, ByteArray.toList_eq] at h
  cases a
  cases b
  simp at h
  simp [h]
theorem toList_nil_iff {a : ByteArray} : a.toList = ([] : List UInt8) ↔ a.size = 0 := by
  rw [ByteArray.toList_eq, List.eq_nil_iff_length_eq_zero, Array.length_toList]
  exact Iff.rfl
end Go.Proofs.Ytpbamdcbaloibaa.Lib
