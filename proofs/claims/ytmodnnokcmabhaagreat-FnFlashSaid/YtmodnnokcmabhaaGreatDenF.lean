/- Each step that the reckoner takes is the model's step: stores and new rows. -/
import Derived.Test.YtmodnnokcmabhaaGreatDenE
namespace Go.Proofs.YtmodnnokcmabhaaGreat.Den
open Go Go.RowKit
set_option linter.unusedSimpArgs false
set_option linter.unusedVariables false
variable {P : Program} {tb : TypeId → Option Ty} {B : Nat → Prop} {w0 w w' : World} {ρ ρ' : Rho} {fh fh' : Nat → Option Row} {fr : Nat} {ev : Operand → AV} {ee : Operand → Value}

theorem flatMap_len {α : Type} (f : α → List C) (n : Nat) (hf : ∀ x, (f x).length = n) : ∀ l : List α, (l.flatMap f).length = l.length * n
  | [] => by simp
  | x :: r => by rw [List.flatMap_cons, List.length_append, hf, flatMap_len f n hf r, List.length_cons, Nat.add_mul]; omega
theorem flatMap_set {α : Type} (f : α → List C) (n : Nat) (hn : 0 < n) (hf : ∀ x, (f x).length = n) (l : List α) (i : Nat) (x : α) (hi : i < l.length) (q : Nat) : ((l.set i x).flatMap f)[q]? = if q / n = i then (f x)[q % n]? else (l.flatMap f)[q]? := by
  by_cases hq : q / n < l.length
  · have e : q = q / n * n + q % n := by have := Nat.div_add_mod q n; rw [Nat.mul_comm] at this; omega
    have h1 := flatMap_at f n hf (l.set i x) (q / n) (q % n) x (by simpa using hq) (Nat.mod_lt _ hn)
    have h2 := flatMap_at f n hf l (q / n) (q % n) x hq (Nat.mod_lt _ hn)
    rw [← e] at h1 h2
    rw [h1, h2, List.getD_eq_getElem?_getD, List.getElem?_set, List.getD_eq_getElem?_getD]
    by_cases hqi : q / n = i
    · subst hqi
      simp [hi]
    · rw [if_neg (fun h => hqi h.symm), if_neg hqi]
  · have hge : l.length * n ≤ q := by
      have : ¬ q < l.length * n := fun h => hq ((Nat.div_lt_iff_lt_mul hn).2 h)
      omega
    rw [if_neg (by omega), List.getElem?_eq_none (by rw [flatMap_len f n hf]; simpa using hge), List.getElem?_eq_none (by rw [flatMap_len f n hf]; exact hge)]
/-- What a store of these cells at place p leaves. -/
def Stored (d d' : Data) (p : Nat) (cs : List C) : Prop :=
  d'.sz = d.sz ∧ p + cs.length ≤ d.flat.length ∧ d'.flat.length = d.flat.length ∧ (∀ (q : Nat), q < cs.length → d'.flat[p + q]? = cs[q]?) ∧ ∀ q, (q < p ∨ p + cs.length ≤ q) → d'.flat[q]? = d.flat[q]?
theorem stored_set {l l' : List C} {p : Nat} {c : C} (hp : p < l.length) (h : l' = l.set p c) : p + 1 ≤ l.length ∧ l'.length = l.length ∧ (∀ (q : Nat), q < 1 → l'[p + q]? = [c][q]?) ∧ ∀ q, (q < p ∨ p + 1 ≤ q) → l'[q]? = l[q]? := by
  subst h
  refine ⟨hp, by simp, fun q hq => ?_, fun q hq => ?_⟩
  · obtain rfl : q = 0 := by omega
    simp [hp]
  · rw [List.getElem?_set_ne (by omega)]
theorem mod2 {i j q n : Nat} (hj : j < n) (h : q / n = i) (hne : q ≠ i * n + j) : q % n ≠ j := by
  intro e
  have := Nat.div_add_mod q n
  rw [h, e, Nat.mul_comm] at this
  omega
theorem put_stored {d d' : Data} {i j : Nat} {c : C} {ps : List Prop} (h : d.put i j c = some (d', ps)) (hp : allP ps) : Stored d d' (i * d.sz + j) [c] ∧ c.isUndef = false := by
  unfold Data.put at h
  split at h <;> first | (cases h; done) | skip
  · split at h
    · rename_i k l k' n hk
      obtain rfl := same_eq hk
      simp only [Option.some.injEq, Prod.mk.injEq] at h; obtain ⟨rfl, rfl⟩ := h
      have hi := hp.1
      refine ⟨⟨rfl, ?_⟩, rfl⟩
      simp only [Data.flat, Data.sz, Nat.mul_one, Nat.add_zero]
      exact stored_set (l := l.map (C.int k)) (by simpa using hi) (by rw [List.map_set])
    · cases h
  · simp only [Option.some.injEq, Prod.mk.injEq] at h; obtain ⟨rfl, rfl⟩ := h
    have hi := hp.1
    refine ⟨⟨rfl, ?_⟩, rfl⟩
    simp only [Data.flat, Data.sz, Nat.mul_one, Nat.add_zero]
    exact stored_set (by simpa using hi) (by rw [List.map_set])
  · simp only [Option.some.injEq, Prod.mk.injEq] at h; obtain ⟨rfl, rfl⟩ := h
    have hi := hp.1
    refine ⟨⟨rfl, ?_⟩, rfl⟩
    simp only [Data.flat, Data.sz, Nat.mul_one, Nat.add_zero]
    exact stored_set (by simpa using hi) (by rw [List.map_set])
  · rename_i l n
    simp only [Option.some.injEq, Prod.mk.injEq] at h; obtain ⟨rfl, rfl⟩ := h
    have hi := hp.1
    have hfl := flatMap_len encP 2 (fun _ => rfl)
    refine ⟨⟨rfl, ?_, ?_, fun q hq => ?_, fun q hq => ?_⟩, rfl⟩
    · simp only [Data.flat, Data.sz, hfl, List.length_singleton]; have := Nat.mul_le_mul_right 2 hi; omega
    · simp only [Data.flat, hfl, List.length_set]
    · simp only [List.length_singleton] at hq
      obtain rfl : q = 0 := by omega
      simp only [Data.flat, Data.sz, Nat.add_zero]
      rw [flatMap_set encP 2 (by omega) (fun _ => rfl) l i _ hi, if_pos (by omega)]
      have : i * 2 % 2 = 0 := by omega
      rw [this]; rfl
    · simp only [List.length_singleton, Data.sz, Nat.add_zero] at hq
      simp only [Data.flat]
      rw [flatMap_set encP 2 (by omega) (fun _ => rfl) l i _ hi]
      split
      · rename_i he
        have h1 : q = i * 2 + 1 := by omega
        subst h1
        rw [flatMap_at encP 2 (fun _ => rfl) l i 1 (0, noVal) hi (by omega)]
        have : (i * 2 + 1) % 2 = 1 := by omega
        rw [this]; rfl
      · rfl
  · rename_i l n
    simp only [Option.some.injEq, Prod.mk.injEq] at h; obtain ⟨rfl, rfl⟩ := h
    have hi := hp.1
    have hfl := flatMap_len encP 2 (fun _ => rfl)
    refine ⟨⟨rfl, ?_, ?_, fun q hq => ?_, fun q hq => ?_⟩, rfl⟩
    · simp only [Data.flat, Data.sz, hfl, List.length_singleton]; have := Nat.mul_le_mul_right 2 hi; omega
    · simp only [Data.flat, hfl, List.length_set]
    · simp only [List.length_singleton] at hq
      obtain rfl : q = 0 := by omega
      simp only [Data.flat, Data.sz, Nat.add_zero]
      rw [flatMap_set encP 2 (by omega) (fun _ => rfl) l i _ hi, if_pos (by omega)]
      have : (i * 2 + 1) % 2 = 1 := by omega
      rw [this]; rfl
    · simp only [List.length_singleton, Data.sz] at hq
      simp only [Data.flat]
      rw [flatMap_set encP 2 (by omega) (fun _ => rfl) l i _ hi]
      split
      · rename_i he
        have h1 : q = i * 2 + 0 := by omega
        subst h1
        rw [flatMap_at encP 2 (fun _ => rfl) l i 0 (0, noVal) hi (by omega)]
        have : (i * 2 + 0) % 2 = 0 := by omega
        rw [this]; rfl
      · rfl
  · split at h
    · split at h
      · cases h
      · split at h
        · cases h
        · rename_i l _ hu hl
          simp only [Option.some.injEq, Prod.mk.injEq] at h; obtain ⟨rfl, rfl⟩ := h
          refine ⟨⟨?_, ?_⟩, by simpa using hu⟩
          · simp [Data.sz]
          · simp only [Data.flat, Nat.zero_mul, Nat.zero_add]
            exact stored_set (by omega) rfl
    · cases h
theorem setsAt_spec {α : Type} : ∀ (cs l : List α) (j : Nat), j + cs.length ≤ l.length → (setsAt l j cs).length = l.length ∧ (∀ (q : Nat), q < cs.length → (setsAt l j cs)[j + q]? = cs[q]?) ∧ ∀ q, (q < j ∨ j + cs.length ≤ q) → (setsAt l j cs)[q]? = l[q]?
  | [], l, j, h => ⟨rfl, fun q hq => by simp at hq, fun _ _ => rfl⟩
  | c :: cs, l, j, h => by
    have hc : (c :: cs).length = cs.length + 1 := rfl
    obtain ⟨h1, h2, h3⟩ := setsAt_spec cs (l.set j c) (j + 1) (by rw [List.length_set]; omega)
    refine ⟨by show (setsAt (l.set j c) (j + 1) cs).length = _; rw [h1]; simp, fun q hq => ?_, fun q hq => ?_⟩
    · show (setsAt (l.set j c) (j + 1) cs)[j + q]? = _
      cases q with
      | zero => rw [h3 _ (.inl (by omega))]; simp [show j < l.length by omega]
      | succ q => rw [show j + (q + 1) = j + 1 + q by omega, h2 q (by omega)]; rfl
    · show (setsAt (l.set j c) (j + 1) cs)[q]? = _
      rw [h3 q (by omega), List.getElem?_set_ne (by omega)]
theorem puts_stored {d d' : Data} {i j : Nat} {cs : List C} {ps : List Prop} (h : d.puts' i j cs = some (d', ps)) (hp : allP ps) : Stored d d' (i * d.sz + j) cs ∧ cs.any C.isUndef = false := by
  unfold Data.puts' at h
  split at h <;> first | (cases h; done) | skip
  · split at h
    · rename_i l _ _ n s
      simp only [Option.some.injEq, Prod.mk.injEq] at h; obtain ⟨rfl, rfl⟩ := h
      have hi := hp.1
      have hfl := flatMap_len encP 2 (fun _ => rfl)
      refine ⟨⟨rfl, ?_, ?_, fun q hq => ?_, fun q hq => ?_⟩, rfl⟩
      · simp only [Data.flat, Data.sz, hfl, List.length_cons, List.length_nil]; have := Nat.mul_le_mul_right 2 hi; omega
      · simp only [Data.flat, hfl, List.length_set]
      · simp only [List.length_cons, List.length_nil] at hq
        simp only [Data.flat, Data.sz, Nat.add_zero]
        rw [flatMap_set encP 2 (by omega) (fun _ => rfl) l i _ hi, if_pos (by omega)]
        have : (i * 2 + q) % 2 = q := by omega
        rw [this]; rfl
      · simp only [List.length_cons, List.length_nil, Data.sz, Nat.add_zero] at hq
        simp only [Data.flat]
        rw [flatMap_set encP 2 (by omega) (fun _ => rfl) l i _ hi, if_neg (by omega)]
    · cases h
  · split at h
    · rename_i l _ _ n m s
      simp only [Option.some.injEq, Prod.mk.injEq] at h; obtain ⟨rfl, rfl⟩ := h
      have hi := hp.1
      have hfl := flatMap_len encA 3 (fun _ => rfl)
      refine ⟨⟨rfl, ?_, ?_, fun q hq => ?_, fun q hq => ?_⟩, rfl⟩
      · simp only [Data.flat, Data.sz, hfl, List.length_cons, List.length_nil]; have := Nat.mul_le_mul_right 3 hi; omega
      · simp only [Data.flat, hfl, List.length_set]
      · simp only [List.length_cons, List.length_nil] at hq
        simp only [Data.flat, Data.sz, Nat.add_zero]
        rw [flatMap_set encA 3 (by omega) (fun _ => rfl) l i _ hi, if_pos (by omega)]
        have : (i * 3 + q) % 3 = q := by omega
        rw [this]; rfl
      · simp only [List.length_cons, List.length_nil, Data.sz, Nat.add_zero] at hq
        simp only [Data.flat]
        rw [flatMap_set encA 3 (by omega) (fun _ => rfl) l i _ hi, if_neg (by omega)]
    · cases h
  · split at h
    · split at h
      · cases h
      · split at h
        · cases h
        · rename_i l _ hu hl
          simp only [Option.some.injEq, Prod.mk.injEq] at h; obtain ⟨rfl, rfl⟩ := h
          obtain ⟨h1, h2, h3⟩ := setsAt_spec cs l j (by omega)
          refine ⟨⟨?_, ?_, ?_, ?_, ?_⟩, by simpa using hu⟩
          · simp [Data.sz, h1]
          · simp only [Data.flat, Nat.zero_mul, Nat.zero_add]; omega
          · simpa only [Data.flat] using h1
          · simpa only [Data.flat, Nat.zero_mul, Nat.zero_add] using h2
          · simpa only [Data.flat, Nat.zero_mul, Nat.zero_add] using h3
    · cases h

theorem setCells_size (b : Nat) : ∀ (vs : List Value) (o : Nat) (w : World), (w.setCells b o vs).heap.size = w.heap.size
  | [], _, _ => rfl
  | v :: r, o, w => by rw [World.setCells, setCells_size b r]; simp [World.setCell]
theorem setCells_other (b : Nat) : ∀ (vs : List Value) (o : Nat) (w : World) (k : Nat), k ≠ b → (w.setCells b o vs).heap[k]? = w.heap[k]?
  | [], _, _, _, _ => rfl
  | v :: r, o, w, k, h => by rw [World.setCells, setCells_other b r _ _ k h]; exact Below.heap_setCell _ _ _ _ h
theorem setCells_rest (b : Nat) : ∀ (vs : List Value) (o : Nat) (w : World), (w.setCells b o vs).os = w.os ∧ (w.setCells b o vs).tape = w.tape ∧ (w.setCells b o vs).output = w.output
  | [], _, _ => ⟨rfl, rfl, rfl⟩
  | v :: r, o, w => by rw [World.setCells]; exact setCells_rest b r _ _
theorem setCells_grown (w : World) (b o : Nat) (vs : List Value) : w.grownBy (w.setCells b o vs) (some b) := by
  obtain ⟨h1, h2, h3⟩ := setCells_rest b vs o w
  exact ⟨h1, h2, h3, by rw [setCells_size]; exact Nat.le_refl _, fun k _ hk => setCells_other b vs o w k (fun e => hk (by rw [e]))⟩
theorem setCells_block (b : Nat) : ∀ (vs : List Value) (o : Nat) (w : World) (cur : Array Value) (e : TypeId) (fz : Nat × Nat), w.heap[b]? = some (.cells cur e fz) → ∃ cur', (w.setCells b o vs).heap[b]? = some (.cells cur' e fz) ∧ cur'.size = cur.size
  | [], _, _, cur, _, _, h => ⟨cur, h, rfl⟩
  | v :: r, o, w, cur, e, fz, h => by
    rw [World.setCells]
    obtain ⟨cur', h1, h2⟩ := setCells_block b r (o + 1) (w.setCell ⟨b, o, none⟩ v) (cur.setIfInBounds o v) e fz (by simp [World.setCell, Array.getElem?_modify, h])
    exact ⟨cur', h1, by simpa using h2⟩
/-- Cells written into a row of ours. -/
theorem Sim.store (hs : Sim B w0 ρ w fh) {l : Nat} {d d' : Data} {lc : Lc} (hf : fh l = some ⟨true, d⟩) (hlc : rat ρ l = some lc) {p : Nat} {cs : List C} {us : List Value} (hst : Stored d d' p cs) (hu : CsR ρ cs us) :
    Sim B w0 ρ (w.setCells lc.b (lc.o + p) us) (fun k => if k = l then some ⟨true, d'⟩ else fh k) := by
  obtain ⟨lc', hlc', hrow, hpl⟩ := hs.row l _ hf
  rw [hlc] at hlc'
  obtain rfl := Option.some.inj hlc'
  obtain ⟨hsz, hb, hl, hin, hout⟩ := hst
  obtain ⟨hul, hug⟩ := hu.get
  obtain ⟨hn, hblk⟩ := hrow.2.2.2 rfl
  have hcell : ∀ j, j < us.length → (w.cell? ⟨lc.b, lc.o + p + j, none⟩).isSome = true := by
    intro j hj
    obtain ⟨v, h1, _⟩ := hrow.2.2.1 (p + j) _ (List.getElem?_eq_getElem (by show p + j < d.flat.length; omega))
    rw [← Nat.add_assoc] at h1
    rw [h1]; rfl
  by_cases h0 : lc.n = 0
  · have hdl : d.flat.length = 0 := by have : d.flat.length ≤ lc.n := hn; omega
    obtain rfl : us = [] := List.eq_nil_of_length_eq_zero (by omega)
    refine hs.step (Sub.refl ρ) (row := none) ⟨rfl, rfl, rfl, Nat.le_refl _, fun _ _ _ => rfl⟩ l (fun b hb' => by cases hb') (fun l' r hl' hf' => by simpa [hl'] using hf') (fun r hr => ?_)
    simp only [if_true] at hr
    obtain rfl := Option.some.inj hr
    refine ⟨lc, hlc, ⟨hrow.1.trans hsz.symm, hrow.2.1, fun i c hi => ?_, fun _ => ⟨by show d'.flat.length ≤ _; omega, .inl h0⟩⟩, rfl, .inl h0⟩
    have : i < d'.flat.length := (List.getElem?_eq_some_iff.1 hi).1
    omega
  refine hs.step (Sub.refl ρ) (setCells_grown w lc.b (lc.o + p) us) l (fun b hb' => ?_) (fun l' r hl' hf' => by simpa [hl'] using hf') (fun r hr => ?_)
  · obtain rfl := Option.some.inj hb'
    exact ⟨l, _, lc, hf, rfl, hlc, h0, rfl, .inl rfl⟩
  · simp only [if_true] at hr
    obtain rfl := Option.some.inj hr
    refine ⟨lc, hlc, ⟨hrow.1.trans hsz.symm, hrow.2.1, fun i c hi => ?_, fun _ => ⟨by show d'.flat.length ≤ _; rw [hl]; exact hn, ?_⟩⟩, rfl, ?_⟩
    · by_cases hip : p ≤ i ∧ i < p + cs.length
      · have h1 := hin (i - p) (by omega)
        rw [show p + (i - p) = i by omega] at h1
        have hi' : cs[i - p]? = some c := h1.symm.trans hi
        obtain ⟨u, h2, h3⟩ := hug _ _ hi'
        refine ⟨u, ?_, h3⟩
        have h4 := World.cell?_setCells_in lc.b us (lc.o + p) w hcell (i - p) (by omega)
        rw [show lc.o + p + (i - p) = lc.o + i by omega] at h4
        rw [h4, ← h2, List.getElem?_eq_getElem (by omega)]
      · have h1 := hout i (by omega)
        have hi' : d.flat[i]? = some c := h1.symm.trans hi
        obtain ⟨v, h2, h3⟩ := hrow.2.2.1 i c hi'
        refine ⟨v, ?_, h3⟩
        rw [World.cell?_setCells_out lc.b us (lc.o + p) w ⟨lc.b, lc.o + i, none⟩ (fun _ _ => by show lc.o + i < lc.o + p ∨ lc.o + p + us.length ≤ lc.o + i; omega)]
        exact h2
    · rcases hblk with h0 | ⟨cur, e, fz, h1, h2, h3⟩
      · exact .inl h0
      · obtain ⟨cur', h4, h5⟩ := setCells_block lc.b us (lc.o + p) w cur e fz h1
        exact .inr ⟨cur', e, fz, h4, by rw [h5]; exact h2, by rw [h5]; exact h3⟩
    · exact .inr (.inl rfl)

theorem store_sound {o : Oper} {t : TypeId} {a x : Operand} (ho : o.op = .store t a x) {y : Ty} (hy : TyOk P t y) {l i j : Nat} {d d' : Data} (hf : fh l = some ⟨true, d⟩) (hx : CR ρ (.ptr l i j) (ee a)) {cs : List C} (hsz : y.sz = cs.length)
    (hst : Stored d d' (i * d.sz + j) cs) (hun : cs.any C.isUndef = false) (hv : CsR ρ cs (ee x).cells.toList) (hs : Sim B w0 ρ w fh) {rd : List Nat} {ps : List Prop} : Good P o ee w (Res B w0 ρ fh fr ⟨.tup [], [(l, some ⟨true, d'⟩)], 0, rd, ps⟩) := by
  obtain ⟨lc, hlc, hp⟩ := hx
  obtain ⟨lc', hlc', hrow, _⟩ := hs.row l _ hf
  rw [hlc] at hlc'
  obtain rfl := Option.some.inj hlc'
  have hsz' : lc.sz = d.sz := hrow.1
  obtain ⟨hul, hug⟩ := hv.get
  have hcell : ∀ q, q < (ee x).cells.toList.length → (w.cell? ⟨lc.b, lc.o + i * lc.sz + j + 0 + q, none⟩).isSome = true := by
    intro q hq
    have := hst.2.1
    obtain ⟨v, h1, _⟩ := hrow.2.2.1 (i * d.sz + j + q) _ (List.getElem?_eq_getElem (by show _ < d.flat.length; omega))
    rw [hsz', show lc.o + i * d.sz + j + 0 + q = lc.o + (i * d.sz + j + q) by omega, h1]; rfl
  have hfr : ∀ q, q < (ee x).cells.toList.length → w.frozen? ⟨lc.b, lc.o + i * lc.sz + j + 0 + q, none⟩ = false := by
    intro q hq
    have hin := hst.2.1
    have hn := (hrow.2.2.2 rfl).1
    have hn' : d.flat.length ≤ lc.n := hn
    rcases (hrow.2.2.2 rfl).2 with h0 | ⟨cur, e, fz, h1, h2, h3⟩
    · omega
    · simp only [World.frozen?, h1]
      rw [hsz']
      by_cases hz : fz.1 ≤ lc.o + i * d.sz + j + 0 + q ∧ lc.o + i * d.sz + j + 0 + q < fz.2
      · have := h2.at hz.1 hz.2
        omega
      · simp only [Bool.and_eq_false_iff, decide_eq_false_iff_not]
        omega
  have hone : ∀ v ∈ (ee x).cells.toList, v.oneCell' = true := by
    intro v hv'
    obtain ⟨q, hq, rfl⟩ := List.getElem_of_mem hv'
    obtain ⟨u, h1, h2⟩ := hug q _ (List.getElem?_eq_getElem (by omega))
    rw [List.getElem?_eq_getElem hq] at h1
    obtain rfl := Option.some.inj h1
    refine h2.one ?_
    have := List.any_eq_false.1 hun _ (List.getElem_mem (by omega : q < cs.length))
    simpa using this
  have hrun := run_storeCells_cells (P := P) lc.b (lc.o + i * lc.sz + j) (ee x).cells.toList 0 w hcell hfr hone
  refine .inr (.inl ⟨w.setCells lc.b (lc.o + (i * d.sz + j)) (ee x).cells.toList, exec_unit (s := Instr.storeAt t (ee a) (ee x)) (by unfold execOp; simp only [ho]) ?_, ρ, Sub.refl ρ, fun _ _ => rfl, hs.store hf hlc hst hv, ⟨#[], rfl, rfl⟩⟩)
  rw [hp]
  have hsz2 : (ee x).cells.size = y.sz := by rw [hsz, ← hul]; simp
  have e : lc.o + i * lc.sz + j + 0 = lc.o + (i * d.sz + j) := by rw [hsz']; omega
  rw [e] at hrun
  simp [Instr.storeAt, Instr.sureAddr, storeVar, hy.size, hsz2, hrun]

/-! ### new rows -/
theorem newRow_run (e : TypeId) (cs : Array Value) (w : World) : (newRow e cs).run P w = .ok ⟨w.heap.size, 0, none⟩ { w with heap := w.heap.push (.cells cs e) } := rfl
theorem push_at (w : World) (o : Obj) (n : Nat) : ({ w with heap := w.heap.push o, drawn := n } : World).heap[w.heap.size]? = some o := by simp
theorem cells_new (hs : Sim B w0 ρ w fh) (hfr : rat ρ fr = none) {cs : List C} {us : Array Value} (hu : CsR ρ cs us.toList) (e : TypeId) :
    Sim B w0 (rset ρ fr ⟨w.heap.size, 0, us.size, cs.length, true⟩) { w with heap := w.heap.push (.cells us e) } (fun k => if k = fr then some ⟨true, .cells cs⟩ else fh k) := by
  obtain ⟨hl, hg⟩ := hu.get
  refine hs.alloc hfr (.cells cs) (grown_push w _ w.drawn) (push_at w _ w.drawn) (.inl rfl) (by show cs.length ≤ us.size; simp at hl; omega) (fun i c hi => ?_)
  obtain ⟨u, h1, h2⟩ := hg i c hi
  exact ⟨u, by simpa using h1, h2⟩
theorem ptr_new {lc : Lc} : AVR (rset ρ fr lc) (one (.ptr fr 0 0)) (.pointer (some ⟨lc.b, lc.o, none⟩)) := ⟨lc, rset_at _ _ _, by simp⟩
theorem alloc_sound {o : Oper} {e : TypeId} (ho : o.op = .alloc e) {z : Value} (hz : ∀ w, (zeroValue e).run P w = .ok z w) {cs : List C} (hu : CsR ρ cs z.cells.toList) (hs : Sim B w0 ρ w fh) (hfr : rat ρ fr = none) : Good P o ee w (Res B w0 ρ fh fr ⟨one (.ptr fr 0 0), [(fr, some ⟨true, .cells cs⟩)], 1, [], []⟩) := by
  refine .val (v := .pointer (some ⟨w.heap.size, 0, none⟩)) (exec_val (s := Instr.alloc e true (.tuple #[])) (by unfold execOp; simp only [ho]) ?_) ⟨_, rset_sub hfr, fun k hk => rset_out (n := 1) (by omega) hk, cells_new hs hfr hu e, ptr_new⟩
  simp only [Instr.alloc, Sem.run_bind, hz, Result.andThen_ok, newVar, newRow_run]
  rfl
theorem box_sound {o : Oper} {e : TypeId} {x : Operand} (ho : o.op = .box e x) {cs : List C} (hu : CsR ρ cs (ee x).cells.toList) (hs : Sim B w0 ρ w fh) (hfr : rat ρ fr = none) : Good P o ee w (Res B w0 ρ fh fr ⟨one (.ptr fr 0 0), [(fr, some ⟨true, .cells cs⟩)], 1, [], []⟩) := by
  refine .val (v := .pointer (some ⟨w.heap.size, 0, none⟩)) (exec_val (s := Instr.box e (ee x)) (by unfold execOp; simp only [ho]) ?_) ⟨_, rset_sub hfr, fun k hk => rset_out (n := 1) (by omega) hk, cells_new hs hfr hu e, ptr_new⟩
  simp only [Instr.box, Sem.run_bind, newVar, newRow_run, Result.andThen_ok]
  rfl
theorem cells_of {x : AV} {cs : List C} {v : Value} (h : x.cells = some cs) (hu : cs.any C.isUndef = false) (hv : AVR ρ x v) : CsR ρ cs v.cells.toList := by
  cases x with
  | v x =>
    cases x with
    | c c =>
      simp only [AV.cells, Option.some.injEq] at h
      subst h
      have h1 : CR ρ c v := hv
      have h2 := h1.one (by simpa using hu)
      have : v.cells = #[v] := by cases v <;> first | rfl | simp [Value.oneCell'] at h2
      rw [this]
      exact ⟨v, [], rfl, h1, rfl⟩
    | agg ds =>
      simp only [AV.cells, Option.some.injEq] at h
      subst h
      obtain ⟨us, rfl, hr⟩ := hv
      exact hr
  | tup vs => cases h
end Go.Proofs.YtmodnnokcmabhaaGreat.Den
