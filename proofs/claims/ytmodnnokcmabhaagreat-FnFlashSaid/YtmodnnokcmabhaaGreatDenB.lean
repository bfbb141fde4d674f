/- What the reckoner's state says of memory, and what memory's changes leave of it. -/
import Derived.Test.YtmodnnokcmabhaaGreatDenA
import Derived.ArgAppend
import Derived.Laws.IdiomStrings
namespace Go.Proofs.YtmodnnokcmabhaaGreat.Den
open Go Go.RowKit

structure Lc where
  b : Nat
  o : Nat
  n : Nat
  sz : Nat
  own : Bool
abbrev Rho := Nat → Option Lc
def rat (ρ : Rho) (l : Nat) : Option Lc := ρ l
def SlR (lc : Lc) (off len : Nat) (v : Value) : Prop :=
  ∃ A cap, v = .slice A len cap ∧ len ≤ cap ∧ ((A = some ⟨lc.b, lc.o + off * lc.sz, none⟩ ∧ (lc.own = true → (off + cap) * lc.sz ≤ lc.n)) ∨ (len = 0 ∧ cap = 0))
def CapR (ρ : Rho) : List (Nat × Nat × Nat) → List Value → Prop
  | [], us => us = []
  | (l, i, j) :: r, us => ∃ u us', us = u :: us' ∧ (∃ lc, rat ρ l = some lc ∧ u = .pointer (some ⟨lc.b, lc.o + i * lc.sz + j, none⟩)) ∧ CapR ρ r us'
def CR (ρ : Rho) : C → Value → Prop
  | .undef, _ => True
  | .int k n, v => v = .int k n
  | .bool b, v => v = .bool b
  | .str s, v => v = .string s
  | .nil, v => ∃ A, v = .slice A 0 0
  | .sl l off len, v => ∃ lc, rat ρ l = some lc ∧ SlR lc off len v
  | .ptr l i j, v => ∃ lc, rat ρ l = some lc ∧ v = .pointer (some ⟨lc.b, lc.o + i * lc.sz + j, none⟩)
  | .fn f caps, v => ∃ us : Array Value, v = .func (.func f) #[] us ∧ CapR ρ caps us.toList
  | .nilq n, v => ∃ b : Bool, v = .bool b ∧ (b = true → n = 0)
def CsR (ρ : Rho) : List C → List Value → Prop
  | [], us => us = []
  | c :: r, us => ∃ u us', us = u :: us' ∧ CR ρ c u ∧ CsR ρ r us'
def VR (ρ : Rho) : V → Value → Prop
  | .c x, v => CR ρ x v
  | .agg cs, v => ∃ us : Array Value, v = .agg us ∧ CsR ρ cs us.toList
def VsR (ρ : Rho) : List V → List Value → Prop
  | [], us => us = []
  | c :: r, us => ∃ u us', us = u :: us' ∧ VR ρ c u ∧ VsR ρ r us'
def AVR (ρ : Rho) : AV → Value → Prop
  | .v x, v => VR ρ x v
  | .tup vs, v => ∃ us : Array Value, v = .tuple us ∧ VsR ρ vs us.toList
def AVsR (ρ : Rho) : List AV → List Value → Prop
  | [], us => us = []
  | c :: r, us => ∃ u us', us = u :: us' ∧ AVR ρ c u ∧ AVsR ρ r us'

/-- ρ' knows what ρ knows, the places named anew by τ. -/
def Le (τ : Nat → Option Nat) (ρ ρ' : Rho) : Prop := ∀ l l' lc, τ l = some l' → rat ρ l = some lc → rat ρ' l' = some lc
def Sub (ρ ρ' : Rho) : Prop := ∀ l lc, rat ρ l = some lc → rat ρ' l = some lc
theorem Sub.refl (ρ : Rho) : Sub ρ ρ := fun _ _ h => h
theorem Sub.trans {a b c : Rho} (h : Sub a b) (k : Sub b c) : Sub a c := fun _ _ h' => k _ _ (h _ _ h')

theorem CapR.ren {ρ ρ' : Rho} {τ : Nat → Option Nat} (h : ∀ l l' lc, τ l = some l' → rat ρ l = some lc → ∃ lc', rat ρ' l' = some lc' ∧ lc'.b = lc.b ∧ lc'.o = lc.o ∧ lc'.sz = lc.sz) :
    ∀ {caps caps' : List (Nat × Nat × Nat)} {us : List Value}, renCaps τ caps = some caps' → CapR ρ caps us → CapR ρ' caps' us
  | [], _, us, he, hc => by simp [renCaps] at he; subst he; exact hc
  | (l, i, j) :: r, caps', us, he, hc => by
    simp only [renCaps] at he
    split at he
    · rename_i l' r' h1 h2
      obtain rfl := Option.some.inj he
      obtain ⟨u, us', rfl, ⟨lc, hlc, rfl⟩, hr⟩ := hc
      obtain ⟨lc', hlc', hb, ho, hs⟩ := h _ _ _ h1 hlc
      exact ⟨_, us', rfl, ⟨lc', hlc', by rw [hb, ho, hs]⟩, CapR.ren h h2 hr⟩
    · cases he
/-- How a place may be seen under a new name: the same; a row that was our own may be handed on for reading. -/
def LeV (τ : Nat → Option Nat) (ρ ρ' : Rho) : Prop :=
  ∀ l l' lc, τ l = some l' → rat ρ l = some lc → ∃ lc', rat ρ' l' = some lc' ∧ lc'.b = lc.b ∧ lc'.o = lc.o ∧ lc'.sz = lc.sz ∧ lc'.n = lc.n ∧ (lc'.own = true → lc.own = true)
theorem SlR.see {lc lc' : Lc} {off len : Nat} {v : Value} (h : SlR lc off len v) (hb : lc'.b = lc.b) (ho : lc'.o = lc.o) (hs : lc'.sz = lc.sz) (hn : lc'.n = lc.n) (hw : lc'.own = true → lc.own = true) : SlR lc' off len v := by
  obtain ⟨A, cap, rfl, hc, hA⟩ := h
  refine ⟨A, cap, rfl, hc, ?_⟩
  rcases hA with ⟨rfl, hA⟩ | hA
  · exact .inl ⟨by rw [hb, ho, hs], fun hq => by rw [hs, hn]; exact hA (hw hq)⟩
  · exact .inr hA
theorem CR.ren {ρ ρ' : Rho} {τ : Nat → Option Nat} (h : LeV τ ρ ρ') {c : C} {v : Value} (hc : CR ρ c v) : CR ρ' (c.ren τ) v := by
  cases c with
  | sl l off len =>
    obtain ⟨lc, hlc, hs⟩ := hc
    simp only [C.ren]
    split
    · rename_i l' hl
      obtain ⟨lc', h1, h2, h3, h4, h5, h6⟩ := h _ _ _ hl hlc
      exact ⟨lc', h1, hs.see h2 h3 h4 h5 h6⟩
    · trivial
  | ptr l i j =>
    obtain ⟨lc, hlc, rfl⟩ := hc
    simp only [C.ren]
    split
    · rename_i l' hl
      obtain ⟨lc', h1, h2, h3, h4, h5, h6⟩ := h _ _ _ hl hlc
      exact ⟨lc', h1, by rw [h2, h3, h4]⟩
    · trivial
  | fn f caps =>
    obtain ⟨us, rfl, hcap⟩ := hc
    simp only [C.ren]
    split
    · rename_i c' hl
      exact ⟨us, rfl, CapR.ren (fun l l' lc h1 h2 => by obtain ⟨lc', a, b, c, d, _⟩ := h _ _ _ h1 h2; exact ⟨lc', a, b, c, d⟩) hl hcap⟩
    · trivial
  | _ => exact hc
theorem CsR.ren {ρ ρ' : Rho} {τ : Nat → Option Nat} (h : LeV τ ρ ρ') : ∀ {cs : List C} {us : List Value}, CsR ρ cs us → CsR ρ' (cs.map (C.ren τ)) us
  | [], _, hc => hc
  | _ :: _, _, ⟨u, us', he, h1, h2⟩ => ⟨u, us', he, h1.ren h, CsR.ren h h2⟩
theorem VR.ren {ρ ρ' : Rho} {τ : Nat → Option Nat} (h : LeV τ ρ ρ') {x : V} {v : Value} (hc : VR ρ x v) : VR ρ' (x.ren τ) v := by
  cases x with
  | c x => exact CR.ren h hc
  | agg cs => obtain ⟨us, rfl, hr⟩ := hc; exact ⟨us, rfl, hr.ren h⟩
theorem VsR.ren {ρ ρ' : Rho} {τ : Nat → Option Nat} (h : LeV τ ρ ρ') : ∀ {cs : List V} {us : List Value}, VsR ρ cs us → VsR ρ' (cs.map (V.ren τ)) us
  | [], _, hc => hc
  | _ :: _, _, ⟨u, us', he, h1, h2⟩ => ⟨u, us', he, h1.ren h, VsR.ren h h2⟩
theorem AVR.ren {ρ ρ' : Rho} {τ : Nat → Option Nat} (h : LeV τ ρ ρ') {x : AV} {v : Value} (hc : AVR ρ x v) : AVR ρ' (x.ren τ) v := by
  cases x with
  | v x => exact VR.ren h hc
  | tup vs => obtain ⟨us, rfl, hr⟩ := hc; exact ⟨us, rfl, hr.ren h⟩

/-! ### the same places, more of them -/
theorem CapR.sub {ρ ρ' : Rho} (h : Sub ρ ρ') : ∀ {caps : List (Nat × Nat × Nat)} {us : List Value}, CapR ρ caps us → CapR ρ' caps us
  | [], _, hc => hc
  | (_, _, _) :: _, _, ⟨u, us', he, ⟨lc, h1, h2⟩, h3⟩ => ⟨u, us', he, ⟨lc, h _ _ h1, h2⟩, CapR.sub h h3⟩
theorem CR.sub {ρ ρ' : Rho} (h : Sub ρ ρ') {c : C} {v : Value} (hc : CR ρ c v) : CR ρ' c v := by
  cases c with
  | sl l off len => obtain ⟨lc, h1, h2⟩ := hc; exact ⟨lc, h _ _ h1, h2⟩
  | ptr l i j => obtain ⟨lc, h1, h2⟩ := hc; exact ⟨lc, h _ _ h1, h2⟩
  | fn f caps => obtain ⟨us, h1, h2⟩ := hc; exact ⟨us, h1, h2.sub h⟩
  | _ => exact hc
theorem CsR.sub {ρ ρ' : Rho} (h : Sub ρ ρ') : ∀ {cs : List C} {us : List Value}, CsR ρ cs us → CsR ρ' cs us
  | [], _, hc => hc
  | _ :: _, _, ⟨u, us', he, h1, h2⟩ => ⟨u, us', he, h1.sub h, CsR.sub h h2⟩
theorem VR.sub {ρ ρ' : Rho} (h : Sub ρ ρ') {x : V} {v : Value} (hc : VR ρ x v) : VR ρ' x v := by
  cases x with
  | c x => exact CR.sub h hc
  | agg cs => obtain ⟨us, rfl, hr⟩ := hc; exact ⟨us, rfl, hr.sub h⟩
theorem VsR.sub {ρ ρ' : Rho} (h : Sub ρ ρ') : ∀ {cs : List V} {us : List Value}, VsR ρ cs us → VsR ρ' cs us
  | [], _, hc => hc
  | _ :: _, _, ⟨u, us', he, h1, h2⟩ => ⟨u, us', he, h1.sub h, VsR.sub h h2⟩
theorem AVR.sub {ρ ρ' : Rho} (h : Sub ρ ρ') {x : AV} {v : Value} (hc : AVR ρ x v) : AVR ρ' x v := by
  cases x with
  | v x => exact VR.sub h hc
  | tup vs => obtain ⟨us, rfl, hr⟩ := hc; exact ⟨us, rfl, hr.sub h⟩
theorem CR.one {ρ : Rho} {c : C} {v : Value} (h : CR ρ c v) (hu : c.isUndef = false) : v.oneCell' = true := by
  cases c with
  | undef => cases hu
  | sl l off len => obtain ⟨lc, _, A, cap, rfl, _⟩ := h; rfl
  | ptr l i j => obtain ⟨lc, _, rfl⟩ := h; rfl
  | fn f caps => obtain ⟨us, rfl, _⟩ := h; rfl
  | nil => obtain ⟨A, rfl⟩ := h; rfl
  | int k n => rw [show v = .int k n from h]; rfl
  | bool b => rw [show v = .bool b from h]; rfl
  | nilq n => obtain ⟨b, rfl, _⟩ := h; rfl
  | str s => rw [show v = .string s from h]; rfl
theorem CsR.get {ρ : Rho} : ∀ {cs : List C} {us : List Value}, CsR ρ cs us → us.length = cs.length ∧ ∀ (i : Nat) (c : C), cs[i]? = some c → ∃ u, us[i]? = some u ∧ CR ρ c u
  | [], _, h => by rw [show _ = _ from h]; exact ⟨rfl, fun i c hc => by simp at hc⟩
  | c :: r, us, ⟨u, us', he, h1, h2⟩ => by
    obtain ⟨h3, h4⟩ := h2.get
    subst he
    refine ⟨by simp [h3], fun i d hd => ?_⟩
    cases i with
    | zero => simp at hd; subst hd; exact ⟨u, rfl, h1⟩
    | succ i => simpa using h4 i d (by simpa using hd)
theorem CsR.mk {ρ : Rho} : ∀ {cs : List C} {us : List Value}, us.length = cs.length → (∀ (i : Nat) (c : C), cs[i]? = some c → ∃ u, us[i]? = some u ∧ CR ρ c u) → CsR ρ cs us
  | [], us, hl, _ => List.eq_nil_of_length_eq_zero (by simpa using hl)
  | c :: r, [], hl, _ => by simp at hl
  | c :: r, u :: us, hl, h => by
    obtain ⟨u', h1, h2⟩ := h 0 c rfl
    simp at h1
    subst h1
    exact ⟨u, us, rfl, h2, CsR.mk (by simpa using hl) (fun i d hd => by simpa using h (i + 1) d (by simpa using hd))⟩

/-! ### rows -/
/-- No cell below n is marked. -/
def Unf (n : Nat) (fz : Nat × Nat) : Prop := fz.1 = fz.2 ∨ n ≤ fz.1
theorem Unf.at {n o : Nat} {fz : Nat × Nat} (h : Unf n fz) (h1 : fz.1 ≤ o) (h2 : o < fz.2) : n ≤ o := by
  rcases h with h | h <;> omega
def RowR (ρ : Rho) (w : World) (r : Row) (lc : Lc) : Prop :=
  lc.sz = r.d.sz ∧ lc.own = r.own ∧ (∀ (i : Nat) (c : C), r.d.flat[i]? = some c → ∃ v, w.cell? ⟨lc.b, lc.o + i, none⟩ = some v ∧ CR ρ c v) ∧
  (r.own = true → r.d.flat.length ≤ lc.n ∧ (lc.n = 0 ∨ ∃ cur e fz, w.heap[lc.b]? = some (.cells cur e fz) ∧ Unf cur.size fz ∧ lc.o + lc.n ≤ cur.size))
theorem RowR.move {ρ ρ' : Rho} {w w' : World} {r : Row} {lc : Lc} (h : RowR ρ w r lc) (hρ : Sub ρ ρ') (hb : (r.own = true ∧ lc.n = 0) ∨ r.d.flat = [] ∧ r.own = false ∨ w'.heap[lc.b]? = w.heap[lc.b]?) : RowR ρ' w' r lc := by
  obtain ⟨h1, h2, h3, h4⟩ := h
  refine ⟨h1, h2, fun i c hc => ?_, fun ho => ?_⟩
  · obtain ⟨v, hv, hr⟩ := h3 i c hc
    rcases hb with ⟨ho, hn⟩ | ⟨hf, _⟩ | hb
    · have := (h4 ho).1
      have hi : i < r.d.flat.length := (List.getElem?_eq_some_iff.1 hc).1
      omega
    · rw [hf] at hc; simp at hc
    · exact ⟨v, (World.cell?_of_block (w := w) (a := ⟨lc.b, lc.o + i, none⟩) hb).trans hv, hr.sub hρ⟩
  · obtain ⟨h5, h6⟩ := h4 ho
    refine ⟨h5, ?_⟩
    rcases h6 with h6 | h6
    · exact .inl h6
    · rcases hb with ⟨_, hn⟩ | ⟨_, hf⟩ | hb
      · exact .inl hn
      · rw [ho] at hf; cases hf
      · rw [hb]; exact .inr h6
/-- Where a row may lie: our own from w0 on, or among B; what is only read below, and none of B. -/
def Place (B : Nat → Prop) (w0 : World) (r : Row) (lc : Lc) : Prop :=
  if r.own = true then lc.n = 0 ∨ w0.heap.size ≤ lc.b ∨ B lc.b else r.d.flat = [] ∨ (lc.b < w0.heap.size ∧ ¬ B lc.b)
structure Sim (B : Nat → Prop) (w0 : World) (ρ : Rho) (w : World) (fh : Nat → Option Row) : Prop where
  os : w.os = w0.os
  tape : w.tape = w0.tape
  output : w.output = w0.output
  size : w0.heap.size ≤ w.heap.size
  keep : ∀ k, k < w0.heap.size → ¬ B k → w.heap[k]? = w0.heap[k]?
  row : ∀ l r, fh l = some r → ∃ lc, rat ρ l = some lc ∧ RowR ρ w r lc ∧ Place B w0 r lc
  apart : ∀ l l' lc lc' r r', l ≠ l' → fh l = some r → fh l' = some r' → r.own = true → r'.own = true → rat ρ l = some lc → rat ρ l' = some lc' → lc.n ≠ 0 → lc'.n ≠ 0 → lc.b ≠ lc'.b

variable {B : Nat → Prop} {w0 w w' : World} {ρ ρ' : Rho} {fh fh' : Nat → Option Row}
theorem own_lt {r : Row} {lc : Lc} (h : RowR ρ w r lc) (ho : r.own = true) (hn : lc.n ≠ 0) : lc.b < w.heap.size := by
  obtain ⟨_, h6⟩ := h.2.2.2 ho
  rcases h6 with h6 | ⟨cur, e, fz, hh, _⟩
  · exact absurd h6 hn
  · exact (Array.getElem?_eq_some_iff.1 hh).1
/-- A step of memory: at most one row of ours is written ('row'); what stands behind it at ln is new. -/
theorem Sim.step (hs : Sim B w0 ρ w fh) (hρ : Sub ρ ρ') {row : Option Nat} (g : w.grownBy w' row) (ln : Nat)
    (hrow : ∀ b, row = some b → ∃ l r lc, fh l = some r ∧ r.own = true ∧ rat ρ l = some lc ∧ lc.n ≠ 0 ∧ lc.b = b ∧ (l = ln ∨ fh' l = none))
    (hold : ∀ l r, l ≠ ln → fh' l = some r → fh l = some r)
    (hnew : ∀ r, fh' ln = some r → ∃ lc, rat ρ' ln = some lc ∧ RowR ρ' w' r lc ∧ r.own = true ∧ (lc.n = 0 ∨ row = some lc.b ∨ w.heap.size ≤ lc.b)) : Sim B w0 ρ' w' fh' := by
  have hplace : ∀ b, row = some b → w0.heap.size ≤ b ∨ B b := by
    intro b hb
    obtain ⟨l, r, lc, h1, h2, h3, h4, h5, h6⟩ := hrow b hb
    obtain ⟨lc', h7, h8, h9⟩ := hs.row l r h1
    rw [h3] at h7
    obtain rfl := Option.some.inj h7
    simp only [Place, h2, if_true] at h9
    rcases h9 with h9 | h9
    · exact absurd h9 h4
    · rw [← h5]; exact h9
  have hblk : ∀ l r lc, l ≠ ln → fh' l = some r → fh l = some r → rat ρ l = some lc → RowR ρ w r lc → Place B w0 r lc → r.own = true ∧ lc.n = 0 ∨ r.d.flat = [] ∧ r.own = false ∨ w'.heap[lc.b]? = w.heap[lc.b]? := by
    intro l r lc hl hf' hf hlc hr hp
    by_cases ho : r.own = true
    · by_cases hn : lc.n = 0
      · exact .inl ⟨ho, hn⟩
      · refine .inr (.inr (g.block _ (own_lt hr ho hn) (fun e => ?_)))
        obtain ⟨l2, r2, lc2, h1, h2, h3, h4, h5, h6⟩ := hrow _ e.symm
        by_cases hll : l = l2
        · subst hll
          rcases h6 with h6 | h6
          · exact hl h6
          · rw [h6] at hf'; cases hf'
        · exact hs.apart l l2 lc lc2 r r2 hll hf h1 ho h2 hlc h3 hn h4 h5.symm
    · have ho' : r.own = false := by simpa using ho
      simp only [Place, ho', Bool.false_eq_true, if_false] at hp
      rcases hp with hp | ⟨hp1, hp2⟩
      · exact .inr (.inl ⟨hp, ho'⟩)
      · refine .inr (.inr (g.block _ (Nat.lt_of_lt_of_le hp1 hs.size) (fun e => ?_)))
        rcases hplace _ e.symm with h | h
        · omega
        · exact hp2 h
  refine ⟨g.os.trans hs.os, g.tape.trans hs.tape, g.output.trans hs.output, Nat.le_trans hs.size g.size, fun k hk hB => ?_, fun l r hf => ?_, ?_⟩
  · rw [g.block k (Nat.lt_of_lt_of_le hk hs.size) (fun e => ?_)]
    · exact hs.keep k hk hB
    · rcases hplace _ e.symm with h | h
      · omega
      · exact hB h
  · by_cases hl : l = ln
    · subst hl
      obtain ⟨lc, h1, h2, h3, h4⟩ := hnew r hf
      refine ⟨lc, h1, h2, ?_⟩
      simp only [Place, h3, if_true]
      rcases h4 with h4 | h4 | h4
      · exact .inl h4
      · exact .inr (hplace _ h4)
      · exact .inr (.inl (Nat.le_trans hs.size h4))
    · have h1 := hold l r hl hf
      obtain ⟨lc, h2, h3, h4⟩ := hs.row l r h1
      exact ⟨lc, hρ _ _ h2, h3.move hρ (hblk l r lc hl hf h1 h2 h3 h4), h4⟩
  · have key : ∀ l lc lcn r r', l ≠ ln → fh' l = some r → fh' ln = some r' → r.own = true → rat ρ' l = some lc → rat ρ' ln = some lcn → lc.n ≠ 0 → lcn.n ≠ 0 → lc.b ≠ lcn.b := by
      intro l lc lcn r r' hl hf hfn ho hlc hlcn hn hnn
      have h1 := hold l r hl hf
      obtain ⟨lc2, h2, h3, h4⟩ := hs.row l r h1
      have h5 := hρ _ _ h2
      rw [hlc] at h5
      obtain rfl := Option.some.inj h5
      obtain ⟨lcn2, h6, h7, h8, h9⟩ := hnew r' hfn
      rw [hlcn] at h6
      obtain rfl := Option.some.inj h6
      rcases h9 with h9 | h9 | h9
      · exact absurd h9 hnn
      · obtain ⟨l2, r2, lc3, g1, g2, g3, g4, g5, g6⟩ := hrow _ h9
        intro e
        by_cases hll : l = l2
        · subst hll
          rcases g6 with g6 | g6
          · exact hl g6
          · rw [g6] at hf; cases hf
        · exact hs.apart l l2 lc lc3 r r2 hll h1 g1 ho g2 h2 g3 hn g4 (e.trans g5.symm)
      · have := own_lt h3 ho hn
        omega
    intro l l' lc lc' r r' hll hf hf' ho ho' hlc hlc' hn hn'
    by_cases hl : l = ln
    · subst hl
      exact (key l' lc' lc r' r (fun e => hll e.symm) hf' hf ho' hlc' hlc hn' hn).symm
    · by_cases hl' : l' = ln
      · subst hl'
        exact key l lc lc' r r' hl hf hf' ho hlc hlc' hn hn'
      · have h1 := hold l r hl hf
        have h2 := hold l' r' hl' hf'
        obtain ⟨a, a1, _⟩ := hs.row l r h1
        obtain ⟨b, b1, _⟩ := hs.row l' r' h2
        have a2 := hρ _ _ a1
        have b2 := hρ _ _ b1
        rw [hlc] at a2
        rw [hlc'] at b2
        obtain rfl := Option.some.inj a2
        obtain rfl := Option.some.inj b2
        exact hs.apart l l' lc lc' r r' hll h1 h2 ho ho' a1 b1 hn hn'
end Go.Proofs.YtmodnnokcmabhaaGreat.Den
