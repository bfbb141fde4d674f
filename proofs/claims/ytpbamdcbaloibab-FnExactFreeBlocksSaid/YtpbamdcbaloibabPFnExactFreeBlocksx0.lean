-- Laid by a program out of the translation, with contracts of our own for what it does not take; Lean checks it.
import Derived.Test.YtpbamdcbaloibabProg
import Derived.Below
import Derived.Deep.Draws
import Derived.Deep.AppendLies
import Derived.Maps.AppendAt
import Derived.OwnWalk
import Derived.Laws.BytesArg
import Derived.Laws.MakeOwn
import Derived.Laws.OwnMore
import Derived.Deep.OwnRows
import Derived.Tactics
import Derived.Lib.ConvBytes
import Derived.Laws.Slices
import Derived.WalkKit
import Derived.KernelRfl
import Derived.RowKit3
import Derived.Deep.LoopGhost
import Derived.Deep.QuietTactic
import Derived.BigQuiet
import Derived.WideLaws
import Derived.Deep.DeepCutAuto
import Derived.Deep.CutBlock
import Derived.Deep.RegionHeld3
import Derived.Laws.Rows
import Derived.Lib.AppendStr
import Derived.ArgAppend
import Derived.Laws.IdiomCopy
import Derived.OrdersHeld
import Derived.Laws.BitsLemmas
import Derived.RowKit
import Derived.Laws.Cover1
import Derived.Test.YtpbamdcbaloibabLibH
import Derived.Test.YtpbamdcbaloibabWWords
import Derived.Test.YtpbamdcbaloibabWLast
import Derived.Test.YtpbamdcbaloibabWTab
import Derived.Test.YtpbamdcbaloibabWFour
import Derived.Test.YtpbamdcbaloibabWQPut
import Derived.Test.YtpbamdcbaloibabWApart
import Derived.Test.YtpbamdcbaloibabWArr
import Derived.Test.YtpbamdcbaloibabWZeros
import Derived.Test.YtpbamdcbaloibabWFoot
import Derived.Test.YtpbamdcbaloibabWKept
import Derived.Test.YtpbamdcbaloibabWShare
import Derived.Test.YtpbamdcbaloibabWN
import Derived.Test.YtpbamdcbaloibabWFootNe
import Derived.Test.YtpbamdcbaloibabWAt
import Derived.Test.YtpbamdcbaloibabWEqStruct
import Derived.Test.YtpbamdcbaloibabWRepsOne
import Derived.Test.YtpbamdcbaloibabWInv
import Derived.Test.YtpbamdcbaloibabWInvWords
import Derived.Test.YtpbamdcbaloibabWGuard
import Derived.Test.YtpbamdcbaloibabWNEv
import Derived.Test.YtpbamdcbaloibabWMore
namespace Go.Proofs.Ytpbamdcbaloibab.PFnExactFreeBlocks
open Go.RowKit Go.Proofs.YtpbamdcbaloibabW.PrintWords Go.Proofs.YtpbamdcbaloibabW.PrintLast Go.Proofs.YtpbamdcbaloibabW.PrintMore
attribute [local go_sem] max2_int min2_int max_two min_two max_three min_three max_four min_four   -- for this text's walks alone
set_option linter.unusedVariables false
set_option linter.unusedSimpArgs false
namespace Kx
open Kd
theorem own_eq (A : Option Addr) (n m c c' : Nat) : (Value.slice A n c).ownBlock = (Value.slice A m c').ownBlock := by cases A <;> rfl
theorem C_prefix {α : Type} {d : Kd α} {w : World} {A : Option Addr} {xs ys : List α} (h : d.C w A (xs ++ ys).length (xs ++ ys)) : d.C w A xs.length xs := by
  obtain ⟨_, h2, h3⟩ := h; rw [List.length_append] at h2 h3; refine ⟨rfl, by omega, fun h0 => ?_⟩; obtain ⟨ad, ha, hj⟩ := h3 (by omega); refine ⟨ad, ha, fun j p hp => hj j p ?_⟩; rw [List.getElem?_append_left (List.getElem?_eq_some_iff.1 hp).1]; exact hp
/-- The first of a row's elements: a slice that was clipped. -/
def R {α : Type} (d : Kd α) (e : Nat) (w : World) (base : Nat) (ok : Nat → Prop) (v : Value) (xs : List α) : Prop :=
  ∃ A c c' ys, v = .slice A xs.length c ∧ xs.length ≤ c ∧ Kd.R d e w base ok (.slice A (xs ++ ys).length c') (xs ++ ys)
section
variable {α β : Type} {d : Kd α} {d' : Kd β} {e e' : Nat} {w w1 W W2 : World} {base b : Nat} {ok ok' ok1 oku okv S : Nat → Prop} {u v : Value} {xs : List α} {ys : List β}
theorem R_of (h : Kd.R d e w base ok v xs) : R d e w base ok v xs := by
  obtain ⟨A, c, rfl, hc, _⟩ := Kd.R_reads h; refine ⟨A, c, c, [], rfl, hc, ?_⟩; rw [List.append_nil]; exact h
theorem R_nil (d : Kd α) (e : Nat) (w : World) (base : Nat) (ok : Nat → Prop) : R d e w base ok (.slice none 0 0) [] := R_of (Kd.R_nil d e w base ok)
theorem R_mono (h : R d e w base ok v xs) (hok : ∀ k, ok k → ok' k) : R d e w base ok' v xs := by
  obtain ⟨A, c, c', zs, rfl, hc, h⟩ := h; exact ⟨A, c, c', zs, rfl, hc, Kd.R_mono h hok⟩
theorem R_below (h : R d e w base ok v xs) (hb : Below w.heap.size w w1) : R d e w1 base ok v xs := by
  obtain ⟨A, c, c', zs, rfl, hc, h⟩ := h; exact ⟨A, c, c', zs, rfl, hc, Kd.R_below h hb⟩
theorem R_alloc (h : R d e w base ok v xs) (o : Obj) : R d e (w.alloc o) base ok v xs := R_below h (below_alloc (Below.refl _ _) o)
theorem R_drew (h : R d e w base ok v xs) : R d e w.drew base ok v xs := R_below h (below_drew (Below.refl _ _))
theorem R_drewN (h : R d e w base ok v xs) (m : Nat) : R d e (w.drewN m) base ok v xs := R_below h (pw_below_drewN (Below.refl _ _) m)
theorem R_at {m : Nat} {w' : World} (hq : w.drewN m = w') (h : R d e w base ok v xs) : R d e w' base ok v xs := by subst hq; exact R_drewN h m
theorem R_lower {base' : Nat} (h : R d e w base ok v xs) (hb : base' ≤ base) : R d e w base' ok v xs := by
  obtain ⟨A, c, c', zs, rfl, hc, h⟩ := h; exact ⟨A, c, c', zs, rfl, hc, Kd.R_lower h hb⟩
theorem R_far (h : R d e w base ok v xs) {p : Addr} (hok : ∀ k, ok k → k ≠ p.block) (y : Value) : R d e (w.setCell p y) base ok v xs := by
  obtain ⟨A, c, c', zs, rfl, hc, h⟩ := h; exact ⟨A, c, c', zs, rfl, hc, Kd.R_far h hok y⟩
theorem R_types (h : R d e w base ok v xs) {g t : Nat} {cells : Array Value} (hb : w.heap[g]? = some (.cells cells t (0, 0))) (ht : ∀ q, q ∈ e :: d.E → q ≠ t) : R d e w base (fun k => ok k ∧ k ≠ g) v xs := by
  obtain ⟨A, c, c', zs, rfl, hc, h⟩ := h; exact ⟨A, c, c', zs, rfl, hc, Kd.R_types h hb ht⟩
theorem R_tight (hE : d.E = []) (h : R d e w base ok v xs) : R d e w base (fun k => some k = v.ownBlock) v xs := by
  obtain ⟨A, c, c', zs, rfl, hc, h⟩ := h; exact ⟨A, c, c', zs, rfl, hc, Kd.R_mono (Kd.R_tight hE h) (fun k hk => hk.trans (own_eq A _ _ _ _))⟩
theorem R_one (h : R d e w base ok v xs) : ∀ k, v.ownBlock = some k → ok k := by
  obtain ⟨A, c, c', zs, rfl, hc, h⟩ := h
  exact fun k hk => h.1 k ((own_eq A _ _ _ _).trans hk)
theorem R_reok (hE : d.E = []) (h : R d e w base ok1 v xs) (hok : ∀ k, v.ownBlock = some k → ok k) : R d e w base ok v xs := R_mono (R_tight hE h) (fun k hk => hok k hk.symm)
theorem R_bound (h : R d e w base ok v xs) : R d e w base (fun k => ok k ∧ base ≤ k ∧ k < w.heap.size ∧ ∃ q, q ∈ e :: d.E ∧ ∃ cells, w.heap[k]? = some (.cells cells q (0, 0))) v xs := by
  obtain ⟨A, c, c', zs, rfl, hc, h⟩ := h; exact ⟨A, c, c', zs, rfl, hc, Kd.R_bound h⟩
theorem R_keptB (h : R d e W base ok v xs) (hk : Kept W W2 S) (hne : ∀ k, ok k → ¬ S k) : R d e W2 base (fun k => ok k ∧ (¬ S k ∧ k < W.heap.size)) v xs := by
  obtain ⟨A, c, c', zs, rfl, hc, h⟩ := h; exact ⟨A, c, c', zs, rfl, hc, Kd.R_keptB h hk hne⟩
theorem R_reads' {A : Option Addr} {n c : Nat} (h : R d e w base ok (.slice A n c) xs) : n = xs.length ∧ n ≤ c ∧ d.C w A xs.length xs := by
  obtain ⟨A', c1, c', zs, he, hc, h⟩ := h; injection he with h1 h2 h3; subst h1 h2 h3; exact ⟨rfl, hc, C_prefix (Kd.R_reads' h).2.2⟩
theorem R_slice (h : R d e w base ok v xs) : ∃ A c, v = .slice A xs.length c := by
  obtain ⟨A, c, c', zs, rfl, hc, h⟩ := h; exact ⟨A, c, rfl⟩
theorem R_reads (h : R d e w base ok v xs) : ∃ A c, v = .slice A xs.length c ∧ xs.length ≤ c ∧ d.C w A xs.length xs := by
  obtain ⟨A, c, rfl⟩ := R_slice h; exact ⟨A, c, rfl, (R_reads' h).2⟩
theorem R_lt (h : R d e w base ok v xs) : ∀ k, v.ownBlock = some k → k < w.heap.size := by
  obtain ⟨A, c, c', zs, rfl, hc, h⟩ := h
  exact fun k hk => Kd.R_lt h k ((own_eq A _ _ _ _).trans hk)
theorem R_base (h : R d e w base ok v xs) : ∀ k, v.ownBlock = some k → base ≤ k := by
  obtain ⟨A, c, c', zs, rfl, hc, h⟩ := h
  exact fun k hk => Kd.R_base h k ((own_eq A _ _ _ _).trans hk)
theorem R_typed (h : R d e w base ok v xs) : ∀ k, v.ownBlock = some k → ∃ cells, w.heap[k]? = some (.cells cells e (0, 0)) := by
  obtain ⟨A, c, c', zs, rfl, hc, h⟩ := h
  exact fun k hk => Kd.R_typed h k ((own_eq A _ _ _ _).trans hk)
theorem R_ne (h : R d e w base ok v xs) {g t : Nat} {cells : Array Value} (hb : w.heap[g]? = some (.cells cells t (0, 0))) (ht : e ≠ t) : some g ≠ v.ownBlock := by
  obtain ⟨A, c, c', zs, rfl, hc, h⟩ := h; rw [own_eq A _ _ _ _]; exact Kd.R_ne h hb ht
theorem R_apart' (h : R d e W base ok u xs) (hty : ∀ k, v.ownBlock = some k → ∃ cells, W.heap[k]? = some (.cells cells e' (0, 0))) (ht : ∀ q, q ∈ e :: d.E → q ≠ e') : R d e W base (fun k => ok k ∧ some k ≠ v.ownBlock) u xs := by
  obtain ⟨A, c, c', zs, rfl, hc, h⟩ := h; exact ⟨A, c, c', zs, rfl, hc, Kd.R_apart' h hty ht⟩
theorem R_elder' (hu : R d e W base ok u xs) (hbase : ∀ k, v.ownBlock = some k → W.heap.size ≤ k) (hb : Below W.heap.size W w1) : R d e w1 base (fun k => ok k ∧ some k ≠ v.ownBlock) u xs := by
  obtain ⟨A, c, c', zs, rfl, hc, h⟩ := hu; exact ⟨A, c, c', zs, rfl, hc, Kd.R_elder' h hbase hb⟩
theorem R_new' (h : R d e w1 W.heap.size ok v xs) (hlt : ∀ k, u.ownBlock = some k → k < W.heap.size) : R d e w1 W.heap.size (fun k => ok k ∧ some k ≠ u.ownBlock) v xs := by
  obtain ⟨A, c, c', zs, rfl, hc, h⟩ := h; exact ⟨A, c, c', zs, rfl, hc, Kd.R_new' h hlt⟩
theorem R_form (h : R d e w base ok v xs) (hp : 0 < xs.length) : ∃ g cap, v = .slice (some ⟨g, 0, none⟩) xs.length cap ∧ base ≤ g ∧ g < w.heap.size ∧ ∃ cells, w.heap[g]? = some (.cells cells e (0, 0)) := by
  obtain ⟨A, c, c', zs, rfl, hc, h⟩ := h; obtain ⟨g, cap, he, r⟩ := Kd.R_form h (by rw [List.length_append]; omega); injection he with h1; subst h1; exact ⟨g, c, rfl, r⟩
theorem R_clip {A : Option Addr} {n c : Nat} (h : Kd.R d e w base ok (.slice A n c) xs) {y : List α} (hv : v = .slice A xs.length xs.length ∧ xs = y) : R d e w base ok v y := by
  obtain ⟨rfl, rfl⟩ := hv; obtain ⟨rfl, hc, _⟩ := Kd.R_reads' h; refine ⟨A, xs.length, c, [], rfl, Nat.le_refl _, ?_⟩; rw [List.append_nil]; exact h
end
section
variable {α : Type} {enc : α → Value} {h1 : ∀ x, (enc x).oneCell' = true} {e base g n cap : Nat} {ok : Nat → Prop} {W : World} {xs : List α}
theorem R_celln (d : α) (h : R (scalar enc h1) e W base ok (.slice (some ⟨g, 0, none⟩) n cap) xs) (i : Int) (h0 : 0 ≤ i) (hi : i < n) : W.cell? ⟨g, i.toNat, none⟩ = some (enc (rdOf d xs i)) ∧ W.frozen? ⟨g, i.toNat, none⟩ = false := by
  obtain ⟨A, c, c', zs, he, hc, h⟩ := h; injection he with e1 e2 e3; subst e1 e2 e3; have := Kd.R_celln d h i h0 (by rw [List.length_append]; omega)
  have q : rdOf d (xs ++ zs) i = rdOf d xs i := by
    unfold rdOf
    rw [List.getD_eq_getElem?_getD, List.getD_eq_getElem?_getD, List.getElem?_append_left (by omega)]
  rw [q] at this; exact this
theorem R_putg (h : R (scalar enc h1) e W base ok (.slice (some ⟨g, 0, none⟩) n cap) xs) (i : Int) (x : α) : R (scalar enc h1) e (W.setCell ⟨g, i.toNat, none⟩ (enc x)) base ok (.slice (some ⟨g, 0, none⟩) n cap) (xs.set i.toNat x) ∧ W.grownBy (W.setCell ⟨g, i.toNat, none⟩ (enc x)) (some g) := by
  obtain ⟨A, c, c', zs, he, hc, h⟩ := h; injection he with e1 e2 e3; subst e1 e2 e3; obtain ⟨h2, h3⟩ := Kd.R_putg h i x; refine ⟨?_, h3⟩
  by_cases hi : i.toNat < xs.length
  (· refine ⟨_, cap, c', zs, by rw [List.length_set], by rw [List.length_set]; exact hc, ?_⟩; rw [List.set_append_left _ _ hi] at h2; rw [show (xs.set i.toNat x ++ zs).length = (xs ++ zs).length by simp]; exact h2); (· rw [List.set_append_right _ _ (by omega)] at h2; rw [List.set_eq_of_length_le (by omega)]; refine ⟨_, cap, c', zs.set (i.toNat - xs.length) x, rfl, hc, ?_⟩; rw [show (xs ++ zs.set (i.toNat - xs.length) x).length = (xs ++ zs).length by simp]; exact h2)
end
end Kx



def errW : Option Int → Value
  | none => .nilIface
  | some c => .iface 0 (.int .i64 c)
theorem errW_none : errW none = .nilIface := rfl
theorem errW_some (c : Int) : errW (some c) = .iface 0 (.int .i64 c) := rfl

theorem info3 : (Try.prog.info? 3).map (fun i => (i.zero, i.size, i.bytes)) = some (some (.int .i64 0), 1, 8) := by kernel_rfl
theorem info5 : (Try.prog.info? 5).map (fun i => (i.zero, i.size, i.bytes)) = some (some (.int .u8 0), 1, 1) := by kernel_rfl
theorem info9 : (Try.prog.info? 9).map (fun i => (i.zero, i.size, i.bytes)) = some (some (.string ⟨#[]⟩), 1, 16) := by kernel_rfl
-- the values' own types

end Go.Proofs.Ytpbamdcbaloibab.PFnExactFreeBlocks
