/- Each step that the reckoner takes is the model's step: rows written out, made, converted; slices; small ones. -/
import Derived.Test.YtmodnnokcmabhaaGreatDenI
namespace Go.Proofs.YtmodnnokcmabhaaGreat.Den
open Go Go.RowKit
set_option linter.unusedSimpArgs false
set_option linter.unusedVariables false
variable {P : Program} {tb : TypeId → Option Ty} {B : Nat → Prop} {w0 w w' : World} {ρ ρ' : Rho} {fh fh' : Nat → Option Row} {fr : Nat} {ev : Operand → AV} {ee : Operand → Value}

/-- values, one behind the other, laid into cells. -/
theorem fill_all (size : Nat) : ∀ (vals : List (Nat × Value)) (k : Nat) (L : Array Value), (∀ (q : Nat) (p : Nat × Value), vals[q]? = some p → p.1 = k + q ∧ p.2.cells.size = size) → (k + vals.length) * size = L.size →
    ∃ cells, Instr.fill (fun i => some (i * size, size)) L vals = some cells ∧ cells.toList = L.toList.take (k * size) ++ vals.flatMap (fun p => p.2.cells.toList)
  | [], k, L, _, hl => ⟨L, rfl, by
    simp only [List.length_nil, Nat.add_zero] at hl
    rw [hl, List.take_of_length_le (by simp)]
    simp⟩
  | (i, v) :: vals, k, L, h, hl => by
    obtain ⟨h1, h2⟩ := h 0 (i, v) rfl
    simp only [Nat.add_zero] at h1
    subst h1
    have hl' : (i + (vals.length + 1)) * size = L.size := hl
    have hfit : i * size + size ≤ L.size := by rw [← hl', Nat.add_mul, Nat.add_mul]; omega
    have hfold := fold_sets (i * size) v.cells.toList 0 L
    rw [Nat.add_zero] at hfold
    have hfold' : (v.cells.zipIdx.foldl (fun cs x => cs.setIfInBounds (i * size + x.2) x.1) L).toList = setsAt L.toList (i * size) v.cells.toList := by
      rw [← Array.foldl_toList, Array.toList_zipIdx]; exact hfold
    obtain ⟨a1, a2, a3⟩ := setsAt_spec v.cells.toList L.toList (i * size) (by simp [h2]; omega)
    obtain ⟨cells, h3, h4⟩ := fill_all size vals (i + 1) (v.cells.zipIdx.foldl (fun cs x => cs.setIfInBounds (i * size + x.2) x.1) L) (fun q p hq => by
      have := h (q + 1) p (by simpa using hq)
      exact ⟨by rw [this.1]; omega, this.2⟩) (by
      have : (v.cells.zipIdx.foldl (fun cs x => cs.setIfInBounds (i * size + x.2) x.1) L).toList.length = L.toList.length := by rw [hfold', a1]
      simp only [Array.length_toList] at this
      rw [this, ← hl']; congr 1; omega)
    refine ⟨cells, ?_, ?_⟩
    · simp only [Instr.fill]
      rw [if_neg (by simp [h2]; omega)]
      exact h3
    · rw [h4, hfold', List.flatMap_cons, ← List.append_assoc]
      congr 1
      apply List.ext_getElem?
      intro q
      have hvl : v.cells.toList.length = size := by simp [h2]
      by_cases hq1 : q < i * size
      · rw [List.getElem?_take, if_pos (by rw [Nat.add_mul]; omega), a3 q (.inl hq1), List.getElem?_append_left (by simp; omega), List.getElem?_take, if_pos hq1]
      · by_cases hq2 : q < i * size + size
        · rw [List.getElem?_take, if_pos (by rw [Nat.add_mul]; omega)]
          have := a2 (q - i * size) (by omega)
          rw [show i * size + (q - i * size) = q by omega] at this
          rw [this, List.getElem?_append_right (by simp; omega)]
          congr 1
          simp
          omega
        · rw [List.getElem?_eq_none (by simp; rw [Nat.add_mul]; omega), List.getElem?_eq_none (by simp [h2]; omega)]
theorem lit_spec : ∀ {dk : DK} {xs : List AV} {d : Data}, lit dk xs = some d → d.isCells = false ∧ d.len = xs.length ∧ d.kindIs dk = true ∧ ∀ {vs : List Value}, AVsR ρ xs vs → vs.flatMap (fun v => v.cells.toList) = d.vals ∧ ∀ v ∈ vs, v.cells.size = d.sz
  | dk, [], d, h => by
    unfold lit at h
    cases dk <;> simp only [Data.nilOf, Option.some.injEq, reduceCtorEq] at h <;> subst h <;> refine ⟨rfl, rfl, ?_, fun {vs} hv => by rw [show vs = [] from hv]; exact ⟨rfl, fun v hv => (List.not_mem_nil hv).elim⟩⟩
    · rename_i k; cases k <;> rfl
    all_goals rfl
  | dk, x :: xs, d, h => by
    unfold lit at h
    split at h
    · rename_i he; cases he
    · rename_i k k' n r he
      obtain ⟨rfl, rfl⟩ := List.cons.inj he
      split at h
      · rename_i hk
        obtain rfl := same_eq hk
        split at h
        · rename_i k2 l hr
          obtain rfl := Option.some.inj h
          obtain ⟨h1, h2, h3, h4⟩ := lit_spec hr
          refine ⟨rfl, by simp [Data.len] at h2 ⊢; exact h2, hk, fun {vs} hv => ?_⟩
          obtain ⟨u, us, rfl, hu, hus⟩ := hv
          obtain rfl : u = .int k n := hu
          obtain ⟨h5, h6⟩ := h4 hus
          have hkk : k2 = k := (same_eq h3)
          subst hkk
          refine ⟨by rw [List.flatMap_cons, h5]; rfl, fun v hv => ?_⟩
          rcases List.mem_cons.1 hv with rfl | hv
          · rfl
          · exact h6 v hv
        · cases h
      · cases h
    · rename_i s r he
      obtain ⟨rfl, rfl⟩ := List.cons.inj he
      split at h
      · rename_i l hr
        obtain rfl := Option.some.inj h
        obtain ⟨h1, h2, h3, h4⟩ := lit_spec hr
        refine ⟨rfl, by simp [Data.len] at h2 ⊢; exact h2, rfl, fun {vs} hv => ?_⟩
        obtain ⟨u, us, rfl, hu, hus⟩ := hv
        obtain rfl : u = .string s := hu
        obtain ⟨h5, h6⟩ := h4 hus
        refine ⟨by rw [List.flatMap_cons, h5]; rfl, fun v hv => ?_⟩
        rcases List.mem_cons.1 hv with rfl | hv
        · rfl
        · exact h6 v hv
      · cases h
    · rename_i a s r he
      obtain ⟨rfl, rfl⟩ := List.cons.inj he
      split at h
      · rename_i l hr
        obtain rfl := Option.some.inj h
        obtain ⟨h1, h2, h3, h4⟩ := lit_spec hr
        refine ⟨rfl, by simp [Data.len] at h2 ⊢; exact h2, rfl, fun {vs} hv => ?_⟩
        obtain ⟨u, us, rfl, hu, hus⟩ := hv
        obtain ⟨us', rfl, hc⟩ := hu
        obtain ⟨c1, r1, e1, q1, c2, r2, e2, q2, q3⟩ := hc
        obtain rfl : c1 = .int .i64 a := q1
        obtain rfl : c2 = .string s := q2
        obtain rfl : r2 = [] := q3
        subst e2
        have hua : us' = #[.int .i64 a, .string s] := by apply Array.ext'; simpa using e1
        subst hua
        obtain ⟨h5, h6⟩ := h4 hus
        refine ⟨by rw [List.flatMap_cons, h5]; rfl, fun v hv => ?_⟩
        rcases List.mem_cons.1 hv with rfl | hv
        · rfl
        · exact h6 v hv
      · cases h
    · rename_i a b s r he
      obtain ⟨rfl, rfl⟩ := List.cons.inj he
      split at h
      · rename_i l hr
        obtain rfl := Option.some.inj h
        obtain ⟨h1, h2, h3, h4⟩ := lit_spec hr
        refine ⟨rfl, by simp [Data.len] at h2 ⊢; exact h2, rfl, fun {vs} hv => ?_⟩
        obtain ⟨u, us, rfl, hu, hus⟩ := hv
        obtain ⟨us', rfl, hc⟩ := hu
        obtain ⟨c1, r1, e1, q1, c2, r2, e2, q2, c3, r3, e3, q4, q3⟩ := hc
        obtain rfl : c1 = .int .i64 a := q1
        obtain rfl : c2 = .int .i64 b := q2
        obtain rfl : c3 = .string s := q4
        obtain rfl : r3 = [] := q3
        subst e3
        subst e2
        have hua : us' = #[.int .i64 a, .int .i64 b, .string s] := by apply Array.ext'; simpa using e1
        subst hua
        obtain ⟨h5, h6⟩ := h4 hus
        refine ⟨by rw [List.flatMap_cons, h5]; rfl, fun v hv => ?_⟩
        rcases List.mem_cons.1 hv with rfl | hv
        · rfl
        · exact h6 v hv
      · cases h
    · cases h
end Go.Proofs.YtmodnnokcmabhaaGreat.Den
