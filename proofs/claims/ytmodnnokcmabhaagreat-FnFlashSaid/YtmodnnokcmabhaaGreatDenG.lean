/- Each step that the reckoner takes is the model's step: literals, conversions, slices. -/
import Derived.Test.YtmodnnokcmabhaaGreatDenF
import Derived.Laws.Tables
import Derived.Lib.ConvBytes
namespace Go.Proofs.YtmodnnokcmabhaaGreat.Den
open Go Go.RowKit
set_option linter.unusedSimpArgs false
set_option linter.unusedVariables false
variable {P : Program} {tb : TypeId → Option Ty} {B : Nat → Prop} {w0 w w' : World} {ρ ρ' : Rho} {fh fh' : Nat → Option Row} {fr : Nat} {ev : Operand → AV} {ee : Operand → Value}

theorem fold_sets (off : Nat) : ∀ (us : List Value) (k : Nat) (L : Array Value), ((us.zipIdx k).foldl (fun cs x => cs.setIfInBounds (off + x.2) x.1) L).toList = setsAt L.toList (off + k) us
  | [], _, _ => rfl
  | u :: us, k, L => by
    rw [List.zipIdx_cons, List.foldl_cons, fold_sets off us (k + 1)]
    simp [setsAt, Nat.add_assoc]
theorem CsR.sets {l cs : List C} {L us : List Value} (hl : CsR ρ l L) (hc : CsR ρ cs us) {off : Nat} (ho : off + cs.length ≤ l.length) : CsR ρ (setsAt l off cs) (setsAt L off us) := by
  obtain ⟨h1, h2⟩ := hl.get
  obtain ⟨h3, h4⟩ := hc.get
  obtain ⟨a1, a2, a3⟩ := setsAt_spec cs l off ho
  obtain ⟨b1, b2, b3⟩ := setsAt_spec us L off (by omega)
  refine CsR.mk (by omega) (fun i c hi => ?_)
  by_cases h : off ≤ i ∧ i < off + cs.length
  · have e : i = off + (i - off) := by omega
    rw [e] at hi ⊢
    rw [a2 _ (by omega)] at hi
    rw [b2 _ (by omega)]
    exact h4 _ _ hi
  · rw [a3 _ (by omega)] at hi
    rw [b3 _ (by omega)]
    exact h2 _ _ hi
theorem fill_sound {fs : List (Nat × Nat)} {places : Nat → Option (Nat × Nat)} (hpl : ∀ j, places j = fs[j]?) : ∀ (parts : List (Nat × AV)) (vals : List (Nat × Value)) (l : List C) (L : Array Value) (cs : List C), fillC fs l parts = some cs → CsR ρ l L.toList →
    vals.length = parts.length → (∀ (q : Nat) (p : Nat × AV), parts[q]? = some p → ∃ v, vals[q]? = some (p.1, v) ∧ AVR ρ p.2 v) → ∃ cells, Instr.fill places L vals = some cells ∧ CsR ρ cs cells.toList
  | [], vals, l, L, cs, h, hl, hn, _ => by
    obtain rfl : vals = [] := List.eq_nil_of_length_eq_zero (by simpa using hn)
    simp only [fillC, Option.some.injEq] at h
    subst h
    exact ⟨L, rfl, hl⟩
  | (i, x) :: parts, [], l, L, cs, h, hl, hn, _ => by simp at hn
  | (i, x) :: parts, (i', v) :: vals, l, L, cs, h, hl, hn, hp => by
    obtain ⟨v1, h1, h2⟩ := hp 0 (i, x) rfl
    simp only [List.getElem?_cons_zero, Option.some.injEq, Prod.mk.injEq] at h1
    obtain ⟨rfl, rfl⟩ := h1
    simp only [fillC] at h
    split at h
    · rename_i off n cs' hf hx
      split at h
      · rename_i hc
        simp only [Bool.and_eq_true, beq_iff_eq, Bool.not_eq_true', decide_eq_false_iff_not] at hc
        obtain ⟨⟨hc1, hc2⟩, hc3⟩ := hc
        have hcr := cells_of hx (by simpa using hc2) h2
        obtain ⟨hl1, _⟩ := hl.get
        obtain ⟨hc4, _⟩ := hcr.get
        have hsz : v.cells.size = n := by rw [← hc1, ← hc4]; simp
        have hsz2 : ¬ (off + v.cells.size > L.size) := by simp at hl1; omega
        obtain ⟨cells, h3, h4⟩ := fill_sound hpl parts vals (setsAt l off cs') (v.cells.zipIdx.foldl (fun cs x => cs.setIfInBounds (off + x.2) x.1) L) cs h (by
          have := fold_sets off v.cells.toList 0 L
          rw [Nat.add_zero] at this
          rw [← Array.foldl_toList, Array.toList_zipIdx, this]
          exact hl.sets hcr (by omega)) (by simpa using hn) (fun q p hq => by simpa using hp (q + 1) p (by simpa using hq))
        refine ⟨cells, ?_, h4⟩
        simp only [Instr.fill, hpl, hf]
        rw [if_neg (by simp [hsz]; omega)]
        exact h3
      · cases h
    · cases h
theorem mapM_places {gs : List Field} {fs : List (Nat × Nat)} (hl : gs.length = fs.length) (hg : ∀ (j : Nat) (g : Field), gs[j]? = some g → ∃ q, P.info? g.type = some q ∧ fs[j]? = some (g.offset, q.size)) : gs.mapM (fun f => (P.info? f.type).map fun i => (f.offset, i.size)) = some fs := by
  induction gs generalizing fs with
  | nil =>
    obtain rfl : fs = [] := List.eq_nil_of_length_eq_zero (by simpa using hl.symm)
    rfl
  | cons g gs ih =>
    cases fs with
    | nil => simp at hl
    | cons f fs =>
      obtain ⟨q, h1, h2⟩ := hg 0 g rfl
      simp only [List.getElem?_cons_zero, Option.some.injEq] at h2
      subst h2
      have := ih (fs := fs) (by simpa using hl) (fun j g' hj => by simpa using hg (j + 1) g' (by simpa using hj))
      simp [List.mapM_cons, h1, this]
theorem build_sound {o : Oper} {t : TypeId} {parts : Array (Nat × Operand)} (ho : o.op = .build t parts) {y : Ty} (hy : TyOk P t y) {fs : List (Nat × Nat)} (hk : y.k = .st fs) {cs : List C} (hf : fillC fs y.zero (parts.toList.map fun p => (p.1, ev p.2)) = some cs)
    (hev : ∀ x, AVR ρ (ev x) (ee x)) (hs : Sim B w0 ρ w fh) {ps : List Prop} : Good P o ee w (Res B w0 ρ fh fr (ef0 (.v (.agg cs)) ps)) := by
  obtain ⟨i, d, z, h1, h2, h3, h4, h5, h6, h7, h8, h9, h10⟩ := hy.1
  rw [hk] at h9
  obtain ⟨gs, rfl, hl, hg⟩ := h9
  have hpl := mapM_places (P := P) (gs := gs.toList) (fs := fs) (by simpa using hl) (fun j g hj => by obtain ⟨q, a, b, _⟩ := hg j g (by simpa using hj); exact ⟨q, a, b⟩)
  obtain ⟨cells, hc1, hc2⟩ := fill_sound (ρ := ρ) (places := fun j => fs.toArray[j]?) (fun j => by simp) _ (parts.toList.map fun p => (p.1, ee p.2)) y.zero z.cells cs hf (by rw [h6]; exact CsR.plain h7) (by simp) (fun q p hq => by
    rw [List.getElem?_map] at hq
    cases hpq : parts.toList[q]? with
    | none => rw [hpq] at hq; cases hq
    | some pp =>
      rw [hpq] at hq
      simp only [Option.map_some, Option.some.injEq] at hq
      subst hq
      exact ⟨ee pp.2, by rw [List.getElem?_map, hpq]; rfl, hev _⟩)
  refine .val (v := .agg cells) (w' := w) (exec_val (s := Instr.build t (parts.map fun (i, x) => (i, ee x))) (by unfold execOp; simp only [ho]) ?_) (.same hs ⟨cells, rfl, hc2⟩)
  refine run_build w t _ cells ?_
  simp only [Program.built, h1, h2, h5, hpl, Array.toList_map]
  exact hc1
end Go.Proofs.YtmodnnokcmabhaaGreat.Den
