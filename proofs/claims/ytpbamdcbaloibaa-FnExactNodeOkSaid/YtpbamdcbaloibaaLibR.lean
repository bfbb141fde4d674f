/- Arguments that came in, read as data: what a value's cells say, kind by kind (structs, slices of texts, of numbers, of structs). -/
import Derived.Test.YtpbamdcbaloibaaWWords
import Derived.Test.YtpbamdcbaloibaaWMore
import Derived.WalkKit
import Derived.ProofKit
import Derived.OpenShut
import Derived.ShutString
import Derived.ChangeOld
import Derived.Below
import Derived.SizedLaws
import Derived.Deep.Slices
import Derived.Deep.Strs
namespace Go.Proofs.Ytpbamdcbaloibaa.Row
open Go.ChangeShapes Go.WideShapes Go.ChangeAt Go.RowKit Go.Deep
open Go.Proofs.YtpbamdcbaloibaaW.PrintWords Go.Proofs.YtpbamdcbaloibaaW.PrintLast Go.Proofs.YtpbamdcbaloibaaW.PrintMore
variable {P : Program}

def Opens {α : Type} (P : Program) (t : TypeId) (d : Kd α) (Q : α → Prop) : Prop :=
  ∀ (H : Type) (enc : TypeId × Value → H) (w : World) (base : Nat) (spare : Nat → Bool) (held : Bool) (fuel : Nat) (cs : List Value) (x : DataW H × List MemPlace),
    DataW.trod enc P w base spare held fuel t cs = some x → ∃ p, d.K w p cs ∧ Q p
theorem opens_int {t : TypeId} {k : IntKind} (ht : P.underlying t = some (.int k)) : Opens P t (Kd.int k) (fun n => (Lit.int k n).wf = true) := by
  intro H enc w base spare held fuel cs x h
  obtain ⟨n, rfl, _, hw⟩ := DataW.trod_int ht h
  exact ⟨n, rfl, hw⟩
theorem opens_bool {t : TypeId} (ht : P.underlying t = some .bool) : Opens P t Kd.bool (fun _ => True) := by
  intro H enc w base spare held fuel cs x h
  obtain ⟨n, rfl, _⟩ := DataW.trod_bool ht h
  exact ⟨n, rfl, trivial⟩
theorem opens_string {t : TypeId} (ht : P.underlying t = some .string) : Opens P t Kd.string (fun s => s.size ≤ maxLen) := by
  intro H enc w base spare held fuel cs x h
  obtain ⟨s, rfl, _, hs⟩ := DataW.trod_string ht h
  exact ⟨s, rfl, hs⟩
theorem opens_slice {α : Type} {t e : TypeId} {d : Kd α} {Q : α → Prop} (ht : P.underlying t = some (.slice e)) (hc : P.cellsOf e = d.sz) (ho : Opens P e d Q) (z : α) :
    Opens P t (Kd.slice e d) (fun xs => xs.length ≤ maxLen ∧ ∀ x ∈ xs, Q x) := by
  intro H enc w base spare held fuel cs x h
  rcases open_slice ht h with ⟨rfl, _⟩ | ⟨a, len, cap, m, n, D, Pl, rfl, hb, hl, hm, hmm, _, hx⟩
  · exact ⟨[], ⟨none, 0, rfl, Nat.le_refl _, ⟨rfl, by simp, fun h => absurd h (by simp)⟩⟩, by simp, fun x hx => by cases hx⟩
  · have hlm : len ≤ m := by rw [hmm]; split <;> omega
    have each : ∀ i, i < len → ∃ q : α × List Value, d.K w q.1 q.2 ∧ Q q.1 ∧ w.cells? base (a.add (i * P.cellsOf e)) (P.cellsOf e) = some q.2 := fun i hi => by
      obtain ⟨cs', h1, h2⟩ := hx i (by omega)
      obtain ⟨p, hk, hq⟩ := ho H enc w base spare held n cs' _ h2
      exact ⟨(p, cs'), hk, hq, h1⟩
    have : Inhabited (α × List Value) := ⟨(z, [])⟩
    obtain ⟨F, hF⟩ := choose_lt each
    have hlen : ((List.range len).map fun i => (F i).1).length = len := by simp
    refine ⟨(List.range len).map fun i => (F i).1, ⟨some a, cap, by rw [hlen], by rw [hlen]; exact hl, ?_⟩, by rw [hlen]; omega, ?_⟩
    · refine ⟨rfl, ?_, fun _ => ⟨a, rfl, fun j p hj => ?_⟩⟩
      · rw [hlen]
        unfold maxLen at hm
        omega
      · have hj' : j < len := by
          have := (List.getElem?_eq_some_iff.1 hj).1
          simpa using this
        have hp : p = (F j).1 := by
          rw [List.getElem?_map, List.getElem?_range hj'] at hj
          simpa using hj.symm
        subst hp
        obtain ⟨hk, _, hcells⟩ := hF j hj'
        refine ⟨(F j).2, d.K_len hk, hk, fun i u hu => ?_⟩
        obtain ⟨_, hl2, hget⟩ := World.cells?_some hcells
        rw [← hc, ← Go.Deep.add_add]
        first
          | exact (hget i (by have := (List.getElem?_eq_some_iff.1 hu).1; omega)).trans hu
          | (rw [hget i (by have := (List.getElem?_eq_some_iff.1 hu).1; omega)]; exact hu)
    · intro x hx
      obtain ⟨i, hi, rfl⟩ := List.mem_map.1 hx
      exact (hF i (List.mem_range.1 hi)).2.1
theorem opens_struct2 {α β : Type} {t : TypeId} {f0 f1 : Field} {a : Kd α} {b : Kd β} {Q : α → Prop} {R : β → Prop} (ht : P.underlying t = some (.struct #[f0, f1]))
    (ho : f0.offset = 0 ∧ f1.offset = a.sz ∧ P.cellsOf f0.type = a.sz ∧ P.cellsOf f1.type = b.sz ∧ P.cellsOf t = a.sz + b.sz) (h0 : Opens P f0.type a Q) (h1 : Opens P f1.type b R) :
    Opens P t (Kd.pair a b) (fun p => Q p.1 ∧ R p.2) := by
  intro H enc w base spare held fuel cs x h
  obtain ⟨e0, e1, e2, e3, e4⟩ := ho
  obtain ⟨y0, y1, n, _, hl, g0, g1⟩ := trod_struct2 ht h
  rw [e0, e2, List.drop_zero] at g0
  rw [e1, e3, List.take_of_length_le (by rw [List.length_drop]; omega)] at g1
  obtain ⟨p, k0, q0⟩ := h0 H enc w base spare held n _ _ g0
  obtain ⟨q, k1, q1⟩ := h1 H enc w base spare held n _ _ g1
  exact ⟨(p, q), ⟨_, _, (List.take_append_drop a.sz cs).symm, k0, k1⟩, q0, q1⟩
theorem opens_struct3 {α β γ : Type} {t : TypeId} {f0 f1 f2 : Field} {a : Kd α} {b : Kd β} {c : Kd γ} {Q : α → Prop} {R : β → Prop} {S : γ → Prop} (ht : P.underlying t = some (.struct #[f0, f1, f2]))
    (ho : f0.offset = 0 ∧ f1.offset = a.sz ∧ f2.offset = a.sz + b.sz ∧ P.cellsOf f0.type = a.sz ∧ P.cellsOf f1.type = b.sz ∧ P.cellsOf f2.type = c.sz ∧ P.cellsOf t = a.sz + b.sz + c.sz)
    (h0 : Opens P f0.type a Q) (h1 : Opens P f1.type b R) (h2 : Opens P f2.type c S) :
    Opens P t (Kd.pair a (Kd.pair b c)) (fun p => Q p.1 ∧ R p.2.1 ∧ S p.2.2) := by
  intro H enc w base spare held fuel cs x h
  obtain ⟨e0, e1, e2, e3, e4, e5, e6⟩ := ho
  obtain ⟨y0, y1, y2, n, _, hl, g0, g1, g2⟩ := trod_struct3 ht h
  rw [e0, e3, List.drop_zero] at g0
  rw [e1, e4] at g1
  rw [e2, e5, List.take_of_length_le (by rw [List.length_drop]; omega)] at g2
  obtain ⟨p, k0, q0⟩ := h0 H enc w base spare held n _ _ g0
  obtain ⟨q, k1, q1⟩ := h1 H enc w base spare held n _ _ g1
  obtain ⟨r, k2, q2⟩ := h2 H enc w base spare held n _ _ g2
  refine ⟨(p, q, r), ⟨_, _, (List.take_append_drop a.sz cs).symm, k0, _, _, (List.take_append_drop b.sz _).symm, k1, ?_⟩, q0, q1, q2⟩
  rw [List.drop_drop]
  exact k2
theorem opens_struct4 {α β γ δ : Type} {t : TypeId} {f0 f1 f2 f3 : Field} {a : Kd α} {b : Kd β} {c : Kd γ} {d : Kd δ} {Q : α → Prop} {R : β → Prop} {S : γ → Prop} {T : δ → Prop} (ht : P.underlying t = some (.struct #[f0, f1, f2, f3]))
    (ho : f0.offset = 0 ∧ f1.offset = a.sz ∧ f2.offset = a.sz + b.sz ∧ f3.offset = a.sz + b.sz + c.sz ∧ P.cellsOf f0.type = a.sz ∧ P.cellsOf f1.type = b.sz ∧ P.cellsOf f2.type = c.sz ∧ P.cellsOf f3.type = d.sz ∧ P.cellsOf t = a.sz + b.sz + c.sz + d.sz)
    (h0 : Opens P f0.type a Q) (h1 : Opens P f1.type b R) (h2 : Opens P f2.type c S) (h3 : Opens P f3.type d T) :
    Opens P t (Kd.pair a (Kd.pair b (Kd.pair c d))) (fun p => Q p.1 ∧ R p.2.1 ∧ S p.2.2.1 ∧ T p.2.2.2) := by
  intro H enc w base spare held fuel cs x h
  obtain ⟨e0, e1, e2, e3, e4, e5, e6, e7, e8⟩ := ho
  obtain ⟨xs, n, _, _, hl, hlen, hf⟩ := DataW.trod_struct ht h
  match xs, hlen with
  | [y0, y1, y2, y3], _ =>
    have g0 := hf 0 f0 rfl
    have g1 := hf 1 f1 rfl
    have g2 := hf 2 f2 rfl
    have g3 := hf 3 f3 rfl
    rw [e0, e4, List.drop_zero] at g0
    rw [e1, e5] at g1
    rw [e2, e6] at g2
    rw [e3, e7, List.take_of_length_le (by rw [List.length_drop]; omega)] at g3
    obtain ⟨p, k0, q0⟩ := h0 H enc w base spare held n _ _ g0
    obtain ⟨q, k1, q1⟩ := h1 H enc w base spare held n _ _ g1
    obtain ⟨r, k2, q2⟩ := h2 H enc w base spare held n _ _ g2
    obtain ⟨s, k3, q3⟩ := h3 H enc w base spare held n _ _ g3
    refine ⟨(p, q, r, s), ⟨_, _, (List.take_append_drop a.sz cs).symm, k0, _, _, (List.take_append_drop b.sz _).symm, k1, _, _, (List.take_append_drop c.sz _).symm, ?_, ?_⟩, q0, q1, q2, q3⟩
    · rw [List.drop_drop]
      exact k2
    · rw [List.drop_drop, List.drop_drop, ← Nat.add_assoc]
      exact k3
/-- An argument. -/
theorem Opens.top {α : Type} {t : TypeId} {d : Kd α} {Q : α → Prop} (ho : Opens P t d Q) {H : Type} {enc : TypeId × Value → H} {w : World} {base : Nat} {spare : Nat → Bool} {held : Bool} {v : Value} {y : DataW H} {ps : List MemPlace}
    (h : DataW.Trod enc P w base spare held t v y ps) : ∃ p, d.K w p v.cells.toList ∧ Q p := by
  obtain ⟨fuel, hf⟩ := h
  exact ho H enc w base spare held fuel _ _ hf
theorem agg_of {cs : Array Value} {l : List Value} (h : (Value.agg cs).cells.toList = l) : Value.agg cs = .agg l.toArray := by
  simp only [Value.cells] at h
  rw [← h]
end Go.Proofs.Ytpbamdcbaloibaa.Row
