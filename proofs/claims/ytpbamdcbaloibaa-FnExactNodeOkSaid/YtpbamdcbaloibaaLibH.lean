/- Words of this claim's own for the contracts of the library's functions: no program in sight. -/
import Derived.Test.YtpbamdcbaloibaaWWords
import Derived.Test.YtpbamdcbaloibaaWMore
import Derived.WalkSpells
import Derived.WalkKit
import Derived.Shelf.Abstract
namespace Go.Proofs.YtpbamdcbaloibaaW.PrintMore
open Go.RowKit Go.Proofs.YtpbamdcbaloibaaW.PrintWords Go.Proofs.YtpbamdcbaloibaaW.PrintLast
theorem C_none {α : Type} {d : Kd α} {w : World} {n : Nat} {xs : List α} (h : d.C w none n xs) : n = 0 ∧ xs = [] := by
  obtain ⟨h1, _, h3⟩ := h
  rcases Nat.eq_zero_or_pos n with h0 | h0
  · exact ⟨h0, List.eq_nil_of_length_eq_zero (h1.trans h0)⟩
  · obtain ⟨_, h, _⟩ := h3 h0
    cases h
theorem any_hit {α : Type} {p : α → Bool} {l : List α} {k : Nat} (h : k < l.length) (hp : p l[k] = true) : l.any p = true := List.any_eq_true.2 ⟨_, List.getElem_mem h, hp⟩
theorem any_miss {α : Type} {p : α → Bool} {l : List α} (h : ∀ j (hj : j < l.length), p l[j] = false) : l.any p = false := by
  rw [List.any_eq_false]
  intro x hx
  obtain ⟨j, hj, rfl⟩ := List.getElem_of_mem hx
  simp [h j hj]
section
variable {P : Program} {ops : Array Oper} {rest : List Oper} {o : Oper} {a : Act} {Q : Exit → Act → World → Prop}
/-- '[]byte(s)': a new row that is read. -/
theorem conv_event {W : World} (hgd : o.guard = none) (src dst e : TypeId) (x : Operand) (ho : o.op = .convert src dst x) (s : ByteArray) (hx : a.eval x = .string s)
    (hs : P.underlying src = some .string) (hd : P.underlying dst = some (.slice e)) (he : P.underlying e = some (.int .u8)) (hm : (s.size : Int) ≤ 140737488351232) (xs : List Int) (hxs : xs = bytesOf s)
    (h : ∀ v1 w1, Kd.V (Kd.int .u8) e w1 W.heap.size (fun k_ => W.heap.size ≤ k_) v1 xs → Below W.heap.size W w1 → wpList P ops Q rest (a.put o.dst v1) w1) : wpList P ops Q (o :: rest) a W := by
  subst hxs
  have hl := bytesOf_length s
  refine Kd.event_run hgd ?_ (h (.slice (some ⟨W.heap.size, 0, none⟩) (bytesOf s).length (grownCap W s.size 0 e)) (Lib.bytesWorld W e s) ?_ (bytes_below (Below.refl _ _) (Nat.le_refl _) e s))
  · have hrun := print_bytes src dst e hs hd he s W
    simp [execOp, ho, hx, hrun, hl]
  · refine Kd.V_mk (by rw [hl]; exact grownCap_ge W s.size 0 e) (fun W' hW => ?_)
    have hr := bytes_reads W e s (by omega)
    have hg : W'.heap[W.heap.size]? = (Lib.bytesWorld W e s).heap[W.heap.size]? := hW _ (Nat.le_refl _) (by rw [Lib.bytesWorld_size]; omega)
    have hc : ∀ i, W'.cell? ⟨W.heap.size, i, none⟩ = (Lib.bytesWorld W e s).cell? ⟨W.heap.size, i, none⟩ := fun i => by simp [World.cell?, hg]
    rw [hl]
    refine Kd.C_of_reads (h1 := fun _ => rfl) (d := (0 : Int)) (enc := Value.int .u8) ⟨hl, by omega, fun h0 => ⟨_, rfl, fun j hj => ?_⟩⟩
    obtain ⟨ad, e0, hx0⟩ := hr.2.2 h0
    cases e0
    have := hx0 j hj
    rw [add_plain] at this ⊢
    rw [hc]
    exact this
end
end Go.Proofs.YtpbamdcbaloibaaW.PrintMore
