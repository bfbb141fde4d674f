/- Arguments that came in, read as rows; a Spec at them. -/
import Derived.Test.YtmodnnokcmabhaaGreatDenX
import Derived.OpenShut
import Derived.Below
import Derived.ShutString
import Derived.ChangeOld
import Derived.SizedLaws
import Derived.Deep.Slices
import Derived.Deep.Strs
namespace Go.Proofs.YtmodnnokcmabhaaGreat.Den
open Go Go.RowKit Go.ChangeShapes Go.WideShapes Go.Deep
set_option linter.unusedSimpArgs false
set_option linter.unusedVariables false
variable {P : Program}

/-- Values of a type without slices: their cells. -/
def OpensE {α : Type} (P : Program) (t : TypeId) (en : α → List C) (Q : α → Prop) : Prop :=
  ∀ (H : Type) (enc : TypeId × Value → H) (w : World) (base : Nat) (spare : Nat → Bool) (held : Bool) (fuel : Nat) (cs : List Value) (x : DataW H × List MemPlace),
    DataW.trod enc P w base spare held fuel t cs = some x → ∃ p, cs = (en p).map C.val ∧ Q p
theorem opensE_int {t : TypeId} {k : IntKind} (ht : P.underlying t = some (.int k)) : OpensE P t (fun n => [C.int k n]) (fun n => (Lit.int k n).wf = true) := by
  intro H enc w base spare held fuel cs x h
  obtain ⟨n, rfl, _, hw⟩ := DataW.trod_int ht h
  exact ⟨n, rfl, hw⟩
theorem opensE_bool {t : TypeId} (ht : P.underlying t = some .bool) : OpensE P t (fun b => [C.bool b]) (fun _ => True) := by
  intro H enc w base spare held fuel cs x h
  obtain ⟨n, rfl, _⟩ := DataW.trod_bool ht h
  exact ⟨n, rfl, trivial⟩
theorem opensE_str {t : TypeId} (ht : P.underlying t = some .string) : OpensE P t (fun s => [C.str s]) (fun s => s.size ≤ maxLen) := by
  intro H enc w base spare held fuel cs x h
  obtain ⟨s, rfl, _, hs⟩ := DataW.trod_string ht h
  exact ⟨s, rfl, hs⟩
theorem opensE_put {t : TypeId} {f0 f1 : Field} (ht : P.underlying t = some (.struct #[f0, f1])) (ho : f0.offset = 0 ∧ f1.offset = 1 ∧ P.cellsOf f0.type = 1 ∧ P.cellsOf f1.type = 1 ∧ P.cellsOf t = 2)
    (h0 : P.underlying f0.type = some (.int .i64)) (h1 : P.underlying f1.type = some .string) : OpensE P t encP (fun p => (Lit.int .i64 p.1).wf = true ∧ p.2.size ≤ maxLen) := by
  intro H enc w base spare held fuel cs x h
  obtain ⟨e0, e1, e2, e3, e4⟩ := ho
  obtain ⟨xs, n, _, _, hl, hlen, hf⟩ := DataW.trod_struct ht h
  match xs, hlen with
  | [y0, y1], _ =>
    have g0 := hf 0 f0 rfl
    have g1 := hf 1 f1 rfl
    rw [e0, e2, List.drop_zero] at g0
    rw [e1, e3] at g1
    obtain ⟨a, q0, _, r0⟩ := DataW.trod_int h0 g0
    obtain ⟨b, q1, _, r1⟩ := DataW.trod_string h1 g1
    match cs, (hl.trans e4) with
    | [v0, v1], _ =>
      simp only [List.take_succ_cons, List.take_zero, List.drop_succ_cons, List.drop_zero, List.cons.injEq, and_true] at q0 q1
      exact ⟨(a, b), by rw [q0, q1]; rfl, r0, r1⟩
theorem opensE_act {t : TypeId} {f0 f1 f2 : Field} (ht : P.underlying t = some (.struct #[f0, f1, f2])) (ho : f0.offset = 0 ∧ f1.offset = 1 ∧ f2.offset = 2 ∧ P.cellsOf f0.type = 1 ∧ P.cellsOf f1.type = 1 ∧ P.cellsOf f2.type = 1 ∧ P.cellsOf t = 3)
    (h0 : P.underlying f0.type = some (.int .i64)) (h1 : P.underlying f1.type = some (.int .i64)) (h2 : P.underlying f2.type = some .string) : OpensE P t encA (fun p => (Lit.int .i64 p.1).wf = true ∧ (Lit.int .i64 p.2.1).wf = true ∧ p.2.2.size ≤ maxLen) := by
  intro H enc w base spare held fuel cs x h
  obtain ⟨e0, e1, e2, e3, e4, e5, e6⟩ := ho
  obtain ⟨xs, n, _, _, hl, hlen, hf⟩ := DataW.trod_struct ht h
  match xs, hlen with
  | [y0, y1, y2], _ =>
    have g0 := hf 0 f0 rfl
    have g1 := hf 1 f1 rfl
    have g2 := hf 2 f2 rfl
    rw [e0, e3, List.drop_zero] at g0
    rw [e1, e4] at g1
    rw [e2, e5] at g2
    obtain ⟨a, q0, _, r0⟩ := DataW.trod_int h0 g0
    obtain ⟨b, q1, _, r1⟩ := DataW.trod_int h1 g1
    obtain ⟨c, q2, _, r2⟩ := DataW.trod_string h2 g2
    match cs, (hl.trans e6) with
    | [v0, v1, v2], _ =>
      simp only [List.take_succ_cons, List.take_zero, List.drop_succ_cons, List.drop_zero, List.cons.injEq, and_true] at q0 q1 q2
      exact ⟨(a, b, c), by rw [q0, q1, q2]; rfl, r0, r1, r2⟩

/-- A row that is read alone: where it stands. -/
def RowAt (w : World) (d : Data) (v : Value) (lc : Lc) : Prop :=
  lc.sz = d.sz ∧ lc.own = false ∧ SlR lc 0 d.len v ∧ (∀ (i : Nat) (c : C), d.flat[i]? = some c → w.cell? ⟨lc.b, lc.o + i, none⟩ = some c.val) ∧ (d.flat = [] ∨ lc.b < w.heap.size)
theorem flatMap_ix {α β : Type} {en : α → List β} {n : Nat} (hn : ∀ p, (en p).length = n) : ∀ (l : List α) (i : Nat) (c : β), (l.flatMap en)[i]? = some c → ∃ j r p, i = j * n + r ∧ r < n ∧ l[j]? = some p ∧ (en p)[r]? = some c
  | [], i, c, h => by simp at h
  | p :: l, i, c, h => by
    rw [List.flatMap_cons] at h
    by_cases hi : i < n
    · rw [List.getElem?_append_left (by rw [hn]; exact hi)] at h
      exact ⟨0, i, p, by omega, hi, rfl, h⟩
    · rw [List.getElem?_append_right (by rw [hn]; omega), hn] at h
      obtain ⟨j, r, q, h1, h2, h3, h4⟩ := flatMap_ix hn l _ c h
      exact ⟨j + 1, r, q, by rw [Nat.add_mul]; omega, h2, by simpa using h3, h4⟩
theorem row_of {α : Type} {en : α → List C} {Q : α → Prop} {n : Nat} (mk : List α → Data) (hn : ∀ p, (en p).length = n) (hlen : ∀ l, (mk l).len = l.length) (hflat : ∀ l, (mk l).flat = l.flatMap en) (hsz : ∀ l, (mk l).sz = n) (hn0 : 0 < n) [Inhabited α]
    {t e : TypeId} (ht : P.underlying t = some (.slice e)) (hc : P.cellsOf e = n) (ho : OpensE P e en Q) {H : Type} {enc : TypeId × Value → H} {w : World} {held : Bool} {fuel : Nat} {cs : List Value} {x : DataW H × List MemPlace}
    (h : DataW.trod enc P w 0 (fun _ => true) held fuel t cs = some x) : ∃ v lc l, cs = [v] ∧ RowAt w (mk l) v lc ∧ l.length ≤ maxLen ∧ ∀ p ∈ l, Q p := by
  rcases open_slice ht h with ⟨rfl, _⟩ | ⟨a, len, cap, m, k, D, Pl, rfl, hb, hl, hm, hmm, _, hx⟩
  · refine ⟨_, ⟨0, 0, 0, n, false⟩, [], rfl, ⟨(hsz _).symm, rfl, ⟨none, 0, by rw [hlen]; rfl, by rw [hlen]; exact Nat.le_refl _, .inr ⟨by rw [hlen]; rfl, rfl⟩⟩, fun i c hi => ?_, .inl (by rw [hflat]; rfl)⟩, by simp, fun x hx => by cases hx⟩
    rw [hflat] at hi; simp at hi
  · simp only [if_true] at hmm
    subst hmm
    rw [hc] at hx
    have each : ∀ i, i < m → ∃ q : α, Q q ∧ w.cells? 0 (a.add (i * n)) n = some ((en q).map C.val) := fun i hi => by
      obtain ⟨cs', h1, h2⟩ := hx i hi
      obtain ⟨p, rfl, hq⟩ := ho H enc w 0 _ held k cs' _ h2
      exact ⟨p, hq, h1⟩
    obtain ⟨F, hF⟩ := choose_lt each
    have hcell : ∀ j r, j < m → r < n → w.cell? (a.add (j * n + r)) = ((en (F j)).map C.val)[r]? := fun j r hj hr => by
      obtain ⟨_, _, hget⟩ := World.cells?_some (hF j hj).2
      have := hget r hr
      rw [Go.Deep.add_add] at this
      exact this
    have hl' : ((List.range len).map F).length = len := by simp
    have hspot : m ≠ 0 → a.spot = none ∧ a.block < w.heap.size := fun hm0 => by
      have h1 := hcell 0 0 (by omega) hn0
      have h2 : ∃ u, ((en (F 0)).map C.val)[0]? = some u := by
        rw [List.getElem?_map]
        have : 0 < (en (F 0)).length := by rw [hn]; exact hn0
        rw [List.getElem?_eq_getElem this]
        exact ⟨_, rfl⟩
      obtain ⟨u, hu⟩ := h2
      rw [hu] at h1
      have h3 : a.add (0 * n + 0) = a := by cases a; simp [Addr.add]
      rw [h3] at h1
      refine ⟨World.cell?_spot h1, ?_⟩
      unfold World.cell? at h1
      split at h1
      · rename_i hb'
        exact (Array.getElem?_eq_some_iff.1 hb').1
      · cases h1
    refine ⟨_, ⟨a.block, a.off, 0, n, false⟩, (List.range len).map F, rfl, ⟨(hsz _).symm, rfl, ⟨some a, m, by rw [hlen, hl'], by rw [hlen, hl']; exact hl, ?_⟩, fun i c hi => ?_, ?_⟩, by rw [hl']; omega, fun x hx => ?_⟩
    · by_cases hm0 : m = 0
      · exact .inr ⟨by rw [hlen, hl']; omega, hm0⟩
      · refine .inl ⟨?_, fun h => by cases h⟩
        have := (hspot hm0).1
        cases a
        simp only at this
        subst this
        simp
    · rw [hflat] at hi
      obtain ⟨j, r, p, rfl, hr, hj, hc'⟩ := flatMap_ix hn _ i c hi
      have hjl : j < len := by
        have := (List.getElem?_eq_some_iff.1 hj).1
        simpa using this
      have hp : p = F j := by
        rw [List.getElem?_map, List.getElem?_range hjl] at hj
        simpa using hj.symm
      subst hp
      have h1 := hcell j r (by omega) hr
      rw [List.getElem?_map, hc'] at h1
      have hsp := (hspot (by omega)).1
      have : a.add (j * n + r) = ⟨a.block, a.off + (j * n + r), none⟩ := by
        cases a; simp only at hsp; subst hsp; simp [Addr.add]
      rw [this] at h1
      exact h1
    · by_cases hl0 : len = 0
      · left; rw [hflat, hl0]; rfl
      · exact .inr (hspot (by omega)).2
    · obtain ⟨i, hi, rfl⟩ := List.mem_map.1 hx
      exact (hF i (by have := List.mem_range.1 hi; omega)).1
theorem row_ints {t e : TypeId} {k : IntKind} (ht : P.underlying t = some (.slice e)) (he : P.underlying e = some (.int k)) (hc : P.cellsOf e = 1) {H : Type} {enc : TypeId × Value → H} {w : World} {held : Bool} {fuel : Nat} {cs : List Value} {x : DataW H × List MemPlace}
    (h : DataW.trod enc P w 0 (fun _ => true) held fuel t cs = some x) : ∃ v lc l, cs = [v] ∧ RowAt w (.ints k l) v lc ∧ l.length ≤ maxLen ∧ ∀ p ∈ l, (Lit.int k p).wf = true :=
  row_of (n := 1) (Data.ints k) (fun _ => rfl) (fun _ => rfl) (fun l => by simp only [Data.flat]; induction l with | nil => rfl | cons a l ih => simpa using ih) (fun _ => rfl) (by decide) ht hc (opensE_int he) h
theorem row_strs {t e : TypeId} (ht : P.underlying t = some (.slice e)) (he : P.underlying e = some .string) (hc : P.cellsOf e = 1) {H : Type} {enc : TypeId × Value → H} {w : World} {held : Bool} {fuel : Nat} {cs : List Value} {x : DataW H × List MemPlace}
    (h : DataW.trod enc P w 0 (fun _ => true) held fuel t cs = some x) : ∃ v lc l, cs = [v] ∧ RowAt w (.strs l) v lc ∧ l.length ≤ maxLen ∧ ∀ p ∈ l, p.size ≤ maxLen :=
  row_of (n := 1) Data.strs (fun _ => rfl) (fun _ => rfl) (fun l => by simp only [Data.flat]; induction l with | nil => rfl | cons a l ih => simpa using ih) (fun _ => rfl) (by decide) ht hc (opensE_str he) h
theorem row_puts {t e : TypeId} {f0 f1 : Field} (ht : P.underlying t = some (.slice e)) (he : P.underlying e = some (.struct #[f0, f1])) (ho : f0.offset = 0 ∧ f1.offset = 1 ∧ P.cellsOf f0.type = 1 ∧ P.cellsOf f1.type = 1 ∧ P.cellsOf e = 2)
    (h0 : P.underlying f0.type = some (.int .i64)) (h1 : P.underlying f1.type = some .string) {H : Type} {enc : TypeId × Value → H} {w : World} {held : Bool} {fuel : Nat} {cs : List Value} {x : DataW H × List MemPlace}
    (h : DataW.trod enc P w 0 (fun _ => true) held fuel t cs = some x) : ∃ v lc l, cs = [v] ∧ RowAt w (.puts l) v lc ∧ l.length ≤ maxLen ∧ ∀ p ∈ l, (Lit.int .i64 p.1).wf = true ∧ p.2.size ≤ maxLen :=
  row_of (n := 2) Data.puts (fun _ => rfl) (fun _ => rfl) (fun _ => rfl) (fun _ => rfl) (by decide) ht ho.2.2.2.2 (opensE_put he ho h0 h1) h
theorem row_acts {t e : TypeId} {f0 f1 f2 : Field} (ht : P.underlying t = some (.slice e)) (he : P.underlying e = some (.struct #[f0, f1, f2])) (ho : f0.offset = 0 ∧ f1.offset = 1 ∧ f2.offset = 2 ∧ P.cellsOf f0.type = 1 ∧ P.cellsOf f1.type = 1 ∧ P.cellsOf f2.type = 1 ∧ P.cellsOf e = 3)
    (h0 : P.underlying f0.type = some (.int .i64)) (h1 : P.underlying f1.type = some (.int .i64)) (h2 : P.underlying f2.type = some .string) {H : Type} {enc : TypeId × Value → H} {w : World} {held : Bool} {fuel : Nat} {cs : List Value} {x : DataW H × List MemPlace}
    (h : DataW.trod enc P w 0 (fun _ => true) held fuel t cs = some x) : ∃ v lc l, cs = [v] ∧ RowAt w (.acts l) v lc ∧ l.length ≤ maxLen ∧ ∀ p ∈ l, (Lit.int .i64 p.1).wf = true ∧ (Lit.int .i64 p.2.1).wf = true ∧ p.2.2.size ≤ maxLen :=
  row_of (n := 3) Data.acts (fun _ => rfl) (fun _ => rfl) (fun _ => rfl) (fun _ => rfl) (by decide) ht ho.2.2.2.2.2.2 (opensE_act he ho h0 h1 h2) h
/-- Rows that are read alone, one behind the other. -/
def RowsAt (w : World) : List (Data × Value × Lc) → Prop
  | [] => True
  | (d, v, lc) :: r => RowAt w d v lc ∧ RowsAt w r
theorem RowsAt.get {w : World} : ∀ {L : List (Data × Value × Lc)}, RowsAt w L → ∀ (i : Nat) (x : Data × Value × Lc), L[i]? = some x → RowAt w x.1 x.2.1 x.2.2
  | [], _, i, x, h => by simp at h
  | (d, v, lc) :: r, ⟨h1, h2⟩, 0, x, h => by simp at h; subst h; exact h1
  | (d, v, lc) :: r, ⟨h1, h2⟩, i + 1, x, h => RowsAt.get h2 i x (by simpa using h)
theorem plain_flat {d : Data} (hd : d.isCells = false) {ρ : Rho} {c : C} (hc : c ∈ d.flat) : CR ρ c c.val := by
  cases d <;> simp only [Data.flat, List.mem_map, List.mem_flatMap, encP, encA, List.mem_cons, List.mem_nil_iff, or_false] at hc
  · obtain ⟨a, _, rfl⟩ := hc; rfl
  · obtain ⟨a, _, rfl⟩ := hc; rfl
  · obtain ⟨a, _, rfl⟩ := hc; rfl
  · obtain ⟨a, _, rfl | rfl⟩ := hc <;> rfl
  · obtain ⟨a, _, rfl | rfl | rfl⟩ := hc <;> rfl
  · cases hd
  · cases hd
/-- A law at arguments that came in. -/
theorem Spec.at {f : FuncId} {args : List AV} {r : Bool} {h' : Heap} (L : List (Data × Value × Lc)) {vs : List Value} {W : World} (hs : Spec P f args (L.map fun x => some ⟨false, x.1⟩) (one (.bool r)) h') (hL : RowsAt W L) (hc : ∀ x ∈ L, x.1.isCells = false)
    (hav : AVsR (fun i => (L[i]?).map (·.2.2)) args vs) : Calls P f vs.toArray W fun e W' => e = .returned (.bool r) ∧ Below W.heap.size W W' := by
  have hat_ : ∀ l r, hat (L.map fun x => some ⟨false, x.1⟩) l = some r → ∃ x, L[l]? = some x ∧ r = ⟨false, x.1⟩ := by
    intro l r hl
    simp only [hat, List.getElem?_map] at hl
    cases hx : L[l]? with
    | none => rw [hx] at hl; cases hl
    | some x => rw [hx] at hl; exact ⟨x, rfl, (Option.some.inj hl).symm⟩
  refine (hs.2 (fun _ => False) W (fun i => (L[i]?).map (·.2.2)) vs (fun l hl => ?_) ⟨rfl, rfl, rfl, Nat.le_refl _, fun _ _ _ => rfl, fun l r hl => ?_, fun l l' lc lc' r r' _ hl _ ho => ?_⟩ hav).mono ?_
  · have : L[l]? = none := List.getElem?_eq_none (by simpa using hl)
    simp [rat, this]
  · obtain ⟨x, hx, rfl⟩ := hat_ l r hl
    obtain ⟨h1, h2, h3, h4, h5⟩ := hL.get l x hx
    have hcx := hc x (List.mem_of_getElem? hx)
    refine ⟨x.2.2, by simp [rat, hx], ⟨h1, h2, fun i c hi => ⟨_, h4 i c hi, plain_flat hcx (List.mem_of_getElem? hi)⟩, fun ho => by cases ho⟩, ?_⟩
    simp only [Place]
    exact h5.imp id fun h => ⟨h, fun h => h⟩
  · obtain ⟨x, hx, rfl⟩ := hat_ l r hl
    cases ho
  · rintro e W' ⟨ρ', v, rfl, h1, h2, _⟩
    obtain rfl : v = .bool r := h2
    exact ⟨rfl, ⟨h1.os, h1.tape, h1.output, h1.size, fun k hk => h1.keep k hk (fun h => h)⟩⟩
theorem RowAt.sl {w : World} {d : Data} {v : Value} {lc : Lc} (h : RowAt w d v lc) {ρ : Rho} {l : Nat} (hl : rat ρ l = some lc) : CR ρ (.sl l 0 d.len) v := ⟨lc, hl, h.2.2.1⟩
theorem struct2_ {H : Type} {enc : TypeId × Value → H} {w : World} {base : Nat} {spare : Nat → Bool} {held : Bool} {fuel : Nat} {t : TypeId} {f0 f1 : Field} {s0 s1 : Nat} {cs : List Value} {x : DataW H × List MemPlace} (ht : P.underlying t = some (.struct #[f0, f1]))
    (ho : f0.offset = 0 ∧ f1.offset = s0 ∧ P.cellsOf f0.type = s0 ∧ P.cellsOf f1.type = s1 ∧ P.cellsOf t = s0 + s1) (h : DataW.trod enc P w base spare held fuel t cs = some x) :
    ∃ n c0 c1 y0 y1, cs = c0 ++ c1 ∧ DataW.trod enc P w base spare held n f0.type c0 = some y0 ∧ DataW.trod enc P w base spare held n f1.type c1 = some y1 := by
  obtain ⟨e0, e1, e2, e3, e4⟩ := ho
  obtain ⟨xs, n, _, _, hl, hlen, hf⟩ := DataW.trod_struct ht h
  match xs, hlen with
  | [y0, y1], _ =>
    have g0 := hf 0 f0 rfl
    have g1 := hf 1 f1 rfl
    rw [e0, e2, List.drop_zero] at g0
    rw [e1, e3, List.take_of_length_le (by rw [List.length_drop]; omega)] at g1
    exact ⟨n, _, _, _, _, (List.take_append_drop s0 cs).symm, g0, g1⟩
theorem struct3_ {H : Type} {enc : TypeId × Value → H} {w : World} {base : Nat} {spare : Nat → Bool} {held : Bool} {fuel : Nat} {t : TypeId} {f0 f1 f2 : Field} {s0 s1 s2 : Nat} {cs : List Value} {x : DataW H × List MemPlace} (ht : P.underlying t = some (.struct #[f0, f1, f2]))
    (ho : f0.offset = 0 ∧ f1.offset = s0 ∧ f2.offset = s0 + s1 ∧ P.cellsOf f0.type = s0 ∧ P.cellsOf f1.type = s1 ∧ P.cellsOf f2.type = s2 ∧ P.cellsOf t = s0 + s1 + s2) (h : DataW.trod enc P w base spare held fuel t cs = some x) :
    ∃ n c0 c1 c2 y0 y1 y2, cs = c0 ++ (c1 ++ c2) ∧ DataW.trod enc P w base spare held n f0.type c0 = some y0 ∧ DataW.trod enc P w base spare held n f1.type c1 = some y1 ∧ DataW.trod enc P w base spare held n f2.type c2 = some y2 := by
  obtain ⟨e0, e1, e2, e3, e4, e5, e6⟩ := ho
  obtain ⟨xs, n, _, _, hl, hlen, hf⟩ := DataW.trod_struct ht h
  match xs, hlen with
  | [y0, y1, y2], _ =>
    have g0 := hf 0 f0 rfl
    have g1 := hf 1 f1 rfl
    have g2 := hf 2 f2 rfl
    rw [e0, e3, List.drop_zero] at g0
    rw [e1, e4] at g1
    rw [e2, e5, ← List.drop_drop, List.take_of_length_le (by rw [List.length_drop, List.length_drop]; omega)] at g2
    exact ⟨n, _, _, _, _, _, _, by rw [List.take_append_drop, List.take_append_drop], g0, g1, g2⟩
theorem struct4_ {H : Type} {enc : TypeId × Value → H} {w : World} {base : Nat} {spare : Nat → Bool} {held : Bool} {fuel : Nat} {t : TypeId} {f0 f1 f2 f3 : Field} {s0 s1 s2 s3 : Nat} {cs : List Value} {x : DataW H × List MemPlace} (ht : P.underlying t = some (.struct #[f0, f1, f2, f3]))
    (ho : f0.offset = 0 ∧ f1.offset = s0 ∧ f2.offset = s0 + s1 ∧ f3.offset = s0 + s1 + s2 ∧ P.cellsOf f0.type = s0 ∧ P.cellsOf f1.type = s1 ∧ P.cellsOf f2.type = s2 ∧ P.cellsOf f3.type = s3 ∧ P.cellsOf t = s0 + s1 + s2 + s3) (h : DataW.trod enc P w base spare held fuel t cs = some x) :
    ∃ n c0 c1 c2 c3 y0 y1 y2 y3, cs = c0 ++ (c1 ++ (c2 ++ c3)) ∧ DataW.trod enc P w base spare held n f0.type c0 = some y0 ∧ DataW.trod enc P w base spare held n f1.type c1 = some y1 ∧ DataW.trod enc P w base spare held n f2.type c2 = some y2 ∧ DataW.trod enc P w base spare held n f3.type c3 = some y3 := by
  obtain ⟨e0, e1, e2, e3, e4, e5, e6, e7, e8⟩ := ho
  obtain ⟨xs, n, _, _, hl, hlen, hf⟩ := DataW.trod_struct ht h
  match xs, hlen with
  | [y0, y1, y2, y3], _ =>
    have g0 := hf 0 f0 rfl
    have g1 := hf 1 f1 rfl
    have g2 := hf 2 f2 rfl
    have g3 := hf 3 f3 rfl
    rw [e0, e4, List.drop_zero] at g0
    rw [e1, e5] at g1
    rw [e2, e6, ← List.drop_drop] at g2
    rw [e3, e7, ← List.drop_drop, ← List.drop_drop, List.take_of_length_le (by rw [List.length_drop, List.length_drop, List.length_drop]; omega)] at g3
    exact ⟨n, _, _, _, _, _, _, _, _, by rw [List.take_append_drop, List.take_append_drop, List.take_append_drop], g0, g1, g2, g3⟩
theorem agg_of {cs : Array Value} {l : List Value} (h : (Value.agg cs).cells.toList = l) : Value.agg cs = .agg l.toArray := by
  simp only [Value.cells] at h
  rw [← h]
end Go.Proofs.YtmodnnokcmabhaaGreat.Den
