/- Words that generated texts use. -/
import Derived.Test.YtmodnnokcmabhaaGreatDenW
namespace Go.Proofs.YtmodnnokcmabhaaGreat.Den
open Go Go.RowKit
abbrev w64 (n : Int) : Int := IntKind.i64.wrap n
theorem nd {p q : Prop} (a : p) (b : q) : p ∧ q := ⟨a, b⟩
def ck {α : Type} (p : Prop) [Decidable p] (x : Option α) : Option α := if p then x else none
theorem ck_some {α : Type} {p : Prop} [Decidable p] {x : Option α} {r : α} (h : ck p x = some r) : p ∧ x = some r := by
  unfold ck at h
  split at h
  · exact ⟨‹_›, h⟩
  · cases h
theorem br_cases {α : Type} {b : Bool} {x y : Option α} {r : α} (h : cond b x y = some r) : (b = true ∧ x = some r) ∨ (b = false ∧ y = some r) := by
  cases b
  · exact .inr ⟨rfl, h⟩
  · exact .inl ⟨rfl, h⟩
theorem bind_some {α β : Type} {x : Option α} {f : α → Option β} {r : β} (h : x.bind f = some r) : ∃ a, x = some a ∧ f a = some r := by
  cases x with
  | none => cases h
  | some a => exact ⟨a, rfl, h⟩
theorem tt : true = true := rfl
theorem ff : false = false := rfl
theorem nt {b : Bool} (h : b = false) : (!b) = true := by rw [h]; rfl
theorem nf {b : Bool} (h : b = true) : (!b) = false := by rw [h]; rfl
theorem tn {i : Int} {n : Nat} (h0 : 0 ≤ i) (h1 : i < (n : Int)) : i.toNat < n := by omega
theorem lt_set {α : Type} {l : List α} {i j : Nat} {v : α} (h : i < l.length) : i < (l.set j v).length := by simpa using h
theorem win_len {α : Type} {l : List α} {off len : Nat} (h : off + len ≤ l.length) : ((l.drop off).take len).length = len := by
  simp; omega
theorem Spec.args {P : Program} {f : FuncId} {args args' : List AV} {h h' : Heap} {r : AV} (hs : Spec P f args h r h') (e : args = args') : Spec P f args' h r h' := e ▸ hs
theorem overL_length {α : Type} (l : List α) (o : Nat) (m : List α) (o2 n : Nat) : (overL l o m o2 n).length = l.length := by
  unfold overL
  split
  · simp; omega
  · rfl
theorem LoopSpec.eqs {P : Program} {m0 : Nat} {c : Code} {s t s' : St} {e : AExit} (h : LoopSpec P m0 c s e s') (q : s = t) : LoopSpec P m0 c t e s' := q ▸ h
theorem LoopSpec.eqd {P : Program} {m0 : Nat} {c : Code} {s t s' : St} {e : AExit} (h : LoopSpec P m0 c s e t) (q : t = s') : LoopSpec P m0 c s e s' := q ▸ h
theorem Spec.eqd {P : Program} {f : FuncId} {args : List AV} {h h' h2 : Heap} {r r2 : AV} (hs : Spec P f args h r h') (e : r = r2) (e2 : h' = h2) : Spec P f args h r2 h2 := e ▸ e2 ▸ hs
theorem Spec.argsS {P : Program} {f : FuncId} {args args' : List AV} {h h' : Heap} {r : AV} (hs : Spec P f args h r h') (e : args = args') : Spec P f args' h r h' := e ▸ hs
theorem Spec.heapS {P : Program} {f : FuncId} {args : List AV} {h h' h2 : Heap} {r : AV} (hs : Spec P f args h r h') (e : h = h2) : Spec P f args h2 r h' := e ▸ hs
end Go.Proofs.YtmodnnokcmabhaaGreat.Den
