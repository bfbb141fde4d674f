/- Functions of Go's library, told by what was shown of them: slices.Delete, slices.Insert. -/
import Derived.Test.YtmodnnokcmabhaaDenX
import Derived.Deep.Draws
namespace Go.Proofs.Ytmodnnokcmabhaa.Den
open Go Go.RowKit
set_option linter.unusedSimpArgs false
set_option linter.unusedVariables false
variable {P : Program}
/-- What is shown of a function that takes elements out of a slice. -/
def DelOk (P : Program) (f : FuncId) (cs : List Value) (i j : Nat) (z : Value) : Prop :=
  ∀ (b off c : Nat) (w : World), cs.length ≤ c → c ≤ 9223372036854775807 → (∀ t x, cs[t]? = some x → w.cell? ⟨b, off + t, none⟩ = some x) → (∀ t, t < cs.length → w.frozen? ⟨b, off + t, none⟩ = false) →
    Calls P f #[.slice (some ⟨b, off, none⟩) cs.length c, .int .i64 i, .int .i64 j] w fun e w' => e = .returned (.slice (some ⟨b, off, none⟩) (cs.length - (j - i)) c) ∧ ∃ q, w' = (w.drewN q).setCells b off (cs.take i ++ cs.drop j ++ List.replicate (j - i) z)
theorem frozen_no {w : World} {b o : Nat} {cur : Array Value} {e : TypeId} {fz : Nat × Nat} (h : w.heap[b]? = some (.cells cur e fz)) (hz : fz.1 = fz.2) : w.frozen? ⟨b, o, none⟩ = false := by
  obtain ⟨lo, hi⟩ := fz
  simp only at hz
  subst hz
  simp only [World.frozen?, h, Bool.and_eq_false_iff, decide_eq_false_iff_not]
  omega
theorem tame_block {ρ : Rho} {w : World} {d : Data} {lc : Lc} (h : RowR ρ w ⟨true, d⟩ lc) (hu : d.u8 = false) (hn : lc.n ≠ 0) : ∃ cur e fz, w.heap[lc.b]? = some (.cells cur e fz) ∧ Unf cur.size fz ∧ lc.o + lc.n ≤ cur.size ∧ fz.1 = fz.2 ∧ lc.n ≤ 9223372036854775807 * lc.sz := by
  rcases (h.2.2.2 rfl).2 with h0 | ⟨cur, e, fz, g1, g2, g3, g4⟩
  · exact absurd h0 hn
  · rcases g4 with g4 | ⟨g4, g5⟩
    · have g4 : d.u8 = true := g4
      rw [hu] at g4; cases g4
    · exact ⟨cur, e, fz, g1, g2, g3, g4, g5⟩
theorem grown_trans {w w1 w2 : World} {row : Option Nat} (h : w.grownBy w1 row) (k : w1.grownBy w2 row) : w.grownBy w2 row :=
  ⟨k.os.trans h.os, k.tape.trans h.tape, k.output.trans h.output, Nat.le_trans h.size k.size, fun j hj hr => (k.block j (Nat.lt_of_lt_of_le hj h.size) hr).trans (h.block j hj hr)⟩
theorem grown_drewN (w : World) (q : Nat) (row : Option Nat) : w.grownBy (w.drewN q) row := ⟨rfl, rfl, rfl, Nat.le_refl _, fun _ _ _ => rfl⟩
theorem grown_drew (w : World) (row : Option Nat) : w.grownBy w.drew row := ⟨rfl, rfl, rfl, Nat.le_refl _, fun _ _ _ => rfl⟩
theorem vals_flat {r : Data} {l : List Value} (hr : r.isCells = false) (h : r.vals = l) : r.flat.length = l.length := by
  rw [← h, Data.vals, List.length_map]
theorem row_cells {ρ : Rho} {w : World} {r : Data} (hr : r.isCells = false) {lc : Lc} (h : ∀ t x, r.vals[t]? = some x → w.cell? ⟨lc.b, lc.o + t, none⟩ = some x) : ∀ (i : Nat) (c : C), r.flat[i]? = some c → ∃ v, w.cell? ⟨lc.b, lc.o + i, none⟩ = some v ∧ CR ρ c v := by
  intro i c hi
  obtain ⟨v1, v2⟩ := vals_cr (ρ := ρ) hr hi
  exact ⟨c.val, h i _ v1, v2⟩
theorem Spec.delete {f : FuncId} (hf : FnOk P f) {d r : Data} (hd : d.isCells = false) (hr : r.isCells = false) (hz : d.sz = 1) (hrz : r.sz = 1) (hu : d.u8 = false) {i j : Nat} {z : Value} (hij : i ≤ j) (hj : j ≤ d.len) (h0 : 0 < d.len) (hrv : r.vals = d.vals.take i ++ d.vals.drop j) (hD : DelOk P f d.vals i j z) :
    Spec P f [one (.sl 0 0 d.len), one (.int .i64 (i : Int)), one (.int .i64 (j : Int))] [some ⟨true, d⟩] (one (.sl 0 0 r.len)) [some ⟨true, r⟩] := by
  refine ⟨hf, fun B w ρ vs hfr hs hav => ?_⟩
  obtain ⟨sv, vs1, rfl, ⟨lc, hlc, A, cap, rfl, hcap, hA⟩, iv, vs2, rfl, hiv, jv, vs3, rfl, hjv, hnil⟩ := hav
  obtain rfl : iv = .int .i64 (i : Int) := hiv
  obtain rfl : jv = .int .i64 (j : Int) := hjv
  obtain rfl : vs3 = [] := hnil
  rcases hA with ⟨rfl, hown⟩ | ⟨h1, _⟩
  case inr => omega
  obtain ⟨lc', hlc', hrow, hpl⟩ := hs.row 0 ⟨true, d⟩ rfl
  rw [hlc] at hlc'
  obtain rfl := Option.some.inj hlc'
  have hsz : lc.sz = 1 := hrow.1.trans hz
  have hown := hown hrow.2.1
  rw [hsz] at hown
  simp only [Nat.zero_mul, Nat.add_zero, Nat.zero_add, Nat.mul_one] at hown ⊢
  have hn0 : lc.n ≠ 0 := by omega
  obtain ⟨cur, e, fz, g1, g2, g3, g4, g5⟩ := tame_block hrow hu hn0
  have hvl : d.vals.length = d.len := by rw [vals_len hd, hz, Nat.mul_one]
  have hrl : r.flat.length = r.len := by rw [flat_len hr, hrz, Nat.mul_one]
  have hrlen : r.len = d.len - (j - i) := by
    rw [← hrl, vals_flat hr hrv, List.length_append, List.length_take, List.length_drop, hvl]; omega
  have hcells : ∀ t x, d.vals[t]? = some x → w.cell? ⟨lc.b, lc.o + t, none⟩ = some x := fun t x hx => vals_row hrow hd hx
  have hcall := hD lc.b lc.o cap w (by rw [hvl]; exact hcap) (by rw [hsz] at g5; omega) hcells (fun t _ => frozen_no g1 g4)
  rw [hvl] at hcall
  refine hcall.mono ?_
  rintro e' w' ⟨rfl, q, rfl⟩
  have hnew : (d.vals.take i ++ d.vals.drop j ++ List.replicate (j - i) z).length = d.len := by
    rw [List.length_append, List.length_append, List.length_take, List.length_drop, List.length_replicate, hvl]; omega
  have hsome : ∀ t, t < (d.vals.take i ++ d.vals.drop j ++ List.replicate (j - i) z).length → ((w.drewN q).cell? ⟨lc.b, lc.o + t, none⟩).isSome = true := by
    intro t ht
    rw [hnew] at ht
    have := hcells t _ (List.getElem?_eq_getElem (by omega))
    show (w.cell? _).isSome = true
    rw [this]; rfl
  refine ⟨ρ, _, rfl, ?_, ⟨lc, hlc, some ⟨lc.b, lc.o, none⟩, cap, by rw [hrlen], by omega, .inl ⟨by simp, fun _ => by rw [hsz]; simpa using hown⟩⟩, Sub.refl ρ⟩
  · refine (hs.step (Sub.refl ρ) (row := some lc.b) (grown_trans (grown_drewN w q _) (setCells_grown (w.drewN q) lc.b lc.o _)) 0 (fh' := hat [some ⟨true, r⟩]) (fun b hb => ?_) (fun l r' hl hf' => ?_) (fun r' hr' => ?_))
    · obtain rfl := Option.some.inj hb
      exact ⟨0, _, lc, rfl, rfl, hlc, hn0, rfl, .inl rfl⟩
    · cases l with
      | zero => exact absurd rfl hl
      | succ l => cases hf'
    · obtain rfl : (⟨true, r⟩ : Row) = r' := Option.some.inj hr'
      obtain ⟨cur', k1, k2⟩ := setCells_block lc.b (d.vals.take i ++ d.vals.drop j ++ List.replicate (j - i) z) lc.o (w.drewN q) cur e fz g1
      refine ⟨lc, hlc, ⟨hsz.trans hrz.symm, hrow.2.1, row_cells hr (fun t x hx => ?_), fun _ => ⟨?_, .inr ⟨cur', e, fz, k1, by rw [k2]; exact g2, by rw [k2]; exact g3, .inr ⟨g4, g5⟩⟩⟩⟩, rfl, .inr (.inl rfl)⟩
      · rw [hrv] at hx
        have ht := (List.getElem?_eq_some_iff.1 hx).1
        have hin := World.cell?_setCells_in lc.b (d.vals.take i ++ d.vals.drop j ++ List.replicate (j - i) z) lc.o (w.drewN q) hsome t (by rw [List.length_append]; omega)
        rw [hin, ← List.getElem?_eq_getElem, List.getElem?_append_left ht, hx]
      · show r.flat.length ≤ lc.n
        omega
/-- What is shown of a function that puts elements into a slice. -/
structure InsOk (P : Program) (f : FuncId) (e : TypeId) (z : Value) (bytes : Nat) : Prop where
  shift : ∀ (b off n c i vb voff m vc : Nat) (cs vs : List Value) (w : World), i < n → 0 < m → n + m ≤ c → c ≤ 9223372036854775807 → vb ≠ b → cs.length = n → vs.length = m →
    (∀ j v, cs[j]? = some v → w.cell? ⟨b, off + j, none⟩ = some v) → (∀ j, j < n + m → (w.cell? ⟨b, off + j, none⟩).isSome = true) → (∀ j, j < n + m → w.frozen? ⟨b, off + j, none⟩ = false) →
    (∀ j v, vs[j]? = some v → w.cell? ⟨vb, voff + j, none⟩ = some v) → (∀ v ∈ cs, v.oneCell' = true) → (∀ v ∈ vs, v.oneCell' = true) →
    ∀ (tA tB : TypeId) (kA kB : Nat), w.shape? vb = some (tA, kA) → w.shape? b = some (tB, kB) → kB ≠ 0 → w.frozen? ⟨vb, voff, none⟩ = false → w.frozen? ⟨vb, kA, none⟩ = false →
    Calls P f #[.slice (some ⟨b, off, none⟩) n c, .int .i64 i, .slice (some ⟨vb, voff, none⟩) m vc] w fun e w' => e = .returned (.slice (some ⟨b, off, none⟩) (n + m) c) ∧ w' = (w.drew.setCells b (off + (i + m)) (cs.drop i)).setCells b (off + i) vs
  room : ∀ (b off n c vb voff m vc : Nat) (vs : List Value) (w : World), 0 < m → n + m ≤ c → c ≤ 9223372036854775807 → vs.length = m → (∀ j, j < m → (w.cell? ⟨b, off + n + j, none⟩).isSome = true) → (∀ j, j < m → w.frozen? ⟨b, off + n + j, none⟩ = false) →
    (∀ j v, vs[j]? = some v → w.cell? ⟨vb, voff + j, none⟩ = some v) → (∀ v ∈ vs, v.oneCell' = true) →
    Calls P f #[.slice (some ⟨b, off, none⟩) n c, .int .i64 n, .slice (some ⟨vb, voff, none⟩) m vc] w fun e w' => e = .returned (.slice (some ⟨b, off, none⟩) (n + m) c) ∧ w' = w.setCells b (off + n) vs
  grow : ∀ (base : Option Addr) (n c vb voff m vc : Nat) (cs vs : List Value) (w : World), 0 < m → n ≤ c → c < n + m → (n + m) * bytes ≤ 140737488355328 → cs.length = n → vs.length = m → (base = none → n = 0) →
    (∀ a, base = some a → ∀ j v, cs[j]? = some v → w.cell? (a.add j) = some v) → (∀ j v, vs[j]? = some v → w.cell? ⟨vb, voff + j, none⟩ = some v) → (∀ v ∈ vs, v.oneCell' = true) →
    Calls P f #[.slice base n c, .int .i64 n, .slice (some ⟨vb, voff, none⟩) m vc] w fun e' w' => e' = .returned (.slice (some ⟨w.heap.size, 0, none⟩) (n + m) (grownCap w (n + m) c e)) ∧
      w' = w.drew.alloc (.cells ((cs ++ vs).toArray ++ Builtin.zeroCells z.cells (grownCap w (n + m) c e - (n + m))) e)
  mid : ∀ (b off n c i vb voff m vc : Nat) (cs vs : List Value) (w : World), i < n → 0 < m → n ≤ c → c < n + m → (n + m) * bytes ≤ 140737488355328 → cs.length = n → vs.length = m →
    (∀ j v, cs[j]? = some v → w.cell? ⟨b, off + j, none⟩ = some v) → (∀ j v, vs[j]? = some v → w.cell? ⟨vb, voff + j, none⟩ = some v) → (∀ v ∈ cs, v.oneCell' = true) → (∀ v ∈ vs, v.oneCell' = true) →
    Calls P f #[.slice (some ⟨b, off, none⟩) n c, .int .i64 i, .slice (some ⟨vb, voff, none⟩) m vc] w fun e' w' => e' = .returned (.slice (some ⟨w.heap.size, 0, none⟩) (n + m) (grownCap w (n + m) c e)) ∧
      w' = (((w.alloc (.cells ((cs.take i).toArray ++ Builtin.zeroCells z.cells (n + m - i) ++ Builtin.zeroCells z.cells (grownCap w (n + m) c e - (n + m))) e)).drew.setCells w.heap.size i vs).drew).setCells w.heap.size (i + m) (cs.drop i)
/-- The cells behind both writes. -/
theorem ins_cells {W W2 : World} {b off i m n : Nat} {cs vs : List Value} (hcl : cs.length = n) (hvl : vs.length = m) (hi : i ≤ n) (hsp : ∀ j, j < n + m → (W.cell? ⟨b, off + j, none⟩).isSome = true) (hold : ∀ j x, j < i → cs[j]? = some x → W.cell? ⟨b, off + j, none⟩ = some x)
    (h2 : W2 = (W.setCells b (off + (i + m)) (cs.drop i)).setCells b (off + i) vs ∨ W2 = ((W.setCells b (off + i) vs).drew).setCells b (off + (i + m)) (cs.drop i)) : ∀ j x, (cs.take i ++ (vs ++ cs.drop i))[j]? = some x → W2.cell? ⟨b, off + j, none⟩ = some x := by
  intro j x hx
  have ht : (cs.take i).length = i := by rw [List.length_take]; omega
  have hd : (cs.drop i).length = n - i := by rw [List.length_drop]; omega
  have some_out : ∀ {V : World} {p : Nat} {l : List Value}, (∀ j, j < n + m → (V.cell? ⟨b, off + j, none⟩).isSome = true) → p + l.length ≤ n + m → ∀ j, j < n + m → ((V.setCells b (off + p) l).cell? ⟨b, off + j, none⟩).isSome = true := by
    intro V p l hV hl j hj
    by_cases hin : p ≤ j ∧ j < p + l.length
    · have := World.cell?_setCells_in b l (off + p) V (fun t ht => by rw [show off + p + t = off + (p + t) by omega]; exact hV _ (by omega)) (j - p) (by omega)
      rw [show off + p + (j - p) = off + j by omega] at this
      rw [this]; rfl
    · rw [World.cell?_setCells_out b l (off + p) V ⟨b, off + j, none⟩ (fun _ _ => by show off + j < _ ∨ _ ≤ off + j; omega)]
      exact hV j hj
  -- what each write gives
  have at1 : ∀ {V : World}, (∀ j, j < n + m → (V.cell? ⟨b, off + j, none⟩).isSome = true) → i ≤ j → j < i + m → (V.setCells b (off + i) vs).cell? ⟨b, off + j, none⟩ = vs[j - i]? := by
    intro V hV h3 h4
    have := World.cell?_setCells_in b vs (off + i) V (fun t ht => by rw [show off + i + t = off + (i + t) by omega]; exact hV _ (by omega)) (j - i) (by omega)
    rw [show off + i + (j - i) = off + j by omega] at this
    rw [this, List.getElem?_eq_getElem]
  have at2 : ∀ {V : World}, (∀ j, j < n + m → (V.cell? ⟨b, off + j, none⟩).isSome = true) → i + m ≤ j → j < n + m → (V.setCells b (off + (i + m)) (cs.drop i)).cell? ⟨b, off + j, none⟩ = (cs.drop i)[j - (i + m)]? := by
    intro V hV h3 h4
    have := World.cell?_setCells_in b (cs.drop i) (off + (i + m)) V (fun t ht => by rw [show off + (i + m) + t = off + (i + m + t) by omega]; exact hV _ (by omega)) (j - (i + m)) (by omega)
    rw [show off + (i + m) + (j - (i + m)) = off + j by omega] at this
    rw [this, List.getElem?_eq_getElem]
  have out1 : ∀ (V : World), (j < i ∨ i + m ≤ j) → (V.setCells b (off + i) vs).cell? ⟨b, off + j, none⟩ = V.cell? ⟨b, off + j, none⟩ := fun V h =>
    World.cell?_setCells_out b vs (off + i) V ⟨b, off + j, none⟩ (fun _ _ => by show off + j < _ ∨ _ ≤ off + j; omega)
  have out2 : ∀ (V : World), j < i + m → (V.setCells b (off + (i + m)) (cs.drop i)).cell? ⟨b, off + j, none⟩ = V.cell? ⟨b, off + j, none⟩ := fun V h =>
    World.cell?_setCells_out b (cs.drop i) (off + (i + m)) V ⟨b, off + j, none⟩ (fun _ _ => by show off + j < _ ∨ _ ≤ off + j; omega)
  have hlen : j < n + m := by
    have := (List.getElem?_eq_some_iff.1 hx).1
    rw [List.length_append, List.length_append, ht, hd, hvl] at this; omega
  by_cases c1 : j < i
  · rw [List.getElem?_append_left (by omega), List.getElem?_take, if_pos c1] at hx
    have hW := hold j x c1 hx
    rcases h2 with rfl | rfl
    · rw [out1 _ (.inl c1), out2 _ (by omega)]; exact hW
    · rw [out2 _ (by omega)]
      show ((W.setCells b (off + i) vs)).cell? _ = _
      rw [out1 _ (.inl c1)]; exact hW
  rw [List.getElem?_append_right (by omega), ht] at hx
  by_cases c2 : j < i + m
  · rw [List.getElem?_append_left (by omega)] at hx
    rcases h2 with rfl | rfl
    · rw [at1 (some_out hsp (by omega)) (by omega) c2]; exact hx
    · rw [out2 _ c2]
      show ((W.setCells b (off + i) vs)).cell? _ = _
      rw [at1 hsp (by omega) c2]; exact hx
  · rw [List.getElem?_append_right (by omega), hvl, show j - i - m = j - (i + m) by omega] at hx
    rcases h2 with rfl | rfl
    · rw [out1 _ (.inr (by omega)), at2 hsp (by omega) hlen]; exact hx
    · rw [at2 (V := (W.setCells b (off + i) vs).drew) (some_out hsp (by omega)) (by omega) hlen]; exact hx
theorem Spec.insert {f : FuncId} (hf : FnOk P f) {e : TypeId} {z : Value} {bytes : Nat} (hI : InsOk P f e z bytes) (hz1 : z.cells.size = 1) (hby : 0 < bytes) {d v r : Data} (hd : d.isCells = false) (hv : v.isCells = false) (hr : r.isCells = false) (hdz : d.sz = 1) (hvz : v.sz = 1) (hrz : r.sz = 1) (hdu : d.u8 = false) (hvu : v.u8 = false)
    {i : Nat} (hi : i ≤ d.len) (hm : 0 < v.len) (hb : (d.len + v.len) * bytes ≤ 140737488355328) (hrv : r.vals = d.vals.take i ++ (v.vals ++ d.vals.drop i)) :
    Spec P f [one (.sl 0 0 d.len), one (.int .i64 (i : Int)), one (.sl 1 0 v.len)] [some ⟨true, d⟩, some ⟨true, v⟩] (one (.sl 2 0 r.len)) [none, some ⟨true, v⟩, some ⟨true, r⟩] := by
  refine ⟨hf, fun B w ρ vs hfr hs hav => ?_⟩
  obtain ⟨sv, vs1, rfl, ⟨lc, hlc, A, cap, rfl, hcap, hA⟩, iv, vs2, rfl, hiv, vv, vs3, rfl, ⟨lv, hlv, Av, vc, rfl, hvcap, hAv⟩, hnil⟩ := hav
  obtain rfl : iv = .int .i64 (i : Int) := hiv
  obtain rfl : vs3 = [] := hnil
  rcases hAv with ⟨rfl, hvown⟩ | ⟨h1, _⟩
  case inr => omega
  obtain ⟨lc', hlc', hrow, hpl⟩ := hs.row 0 ⟨true, d⟩ rfl
  rw [hlc] at hlc'
  obtain rfl := Option.some.inj hlc'
  obtain ⟨lv', hlv', hvrow, _⟩ := hs.row 1 ⟨true, v⟩ rfl
  rw [hlv] at hlv'
  obtain rfl := Option.some.inj hlv'
  have hsz : lc.sz = 1 := hrow.1.trans hdz
  have hvsz : lv.sz = 1 := hvrow.1.trans hvz
  have hvown := hvown hvrow.2.1
  rw [hvsz] at hvown
  have hlvn : lv.n ≠ 0 := by omega
  obtain ⟨vcur, ve, vfz, u1, u2, u3, u4, u5⟩ := tame_block hvrow hvu hlvn
  have hvl : d.vals.length = d.len := by rw [vals_len hd, hdz, Nat.mul_one]
  have hvvl : v.vals.length = v.len := by rw [vals_len hv, hvz, Nat.mul_one]
  have hrl : r.flat.length = r.len := by rw [flat_len hr, hrz, Nat.mul_one]
  have hrlen : r.len = d.len + v.len := by
    rw [← hrl, vals_flat hr hrv, List.length_append, List.length_append, List.length_take, List.length_drop, hvl, hvvl]; omega
  have hcs : ∀ t x, d.vals[t]? = some x → w.cell? ⟨lc.b, lc.o + t, none⟩ = some x := fun t x hx => vals_row hrow hd hx
  have hvs : ∀ t x, v.vals[t]? = some x → w.cell? ⟨lv.b, lv.o + t, none⟩ = some x := fun t x hx => vals_row hvrow hv hx
  have hr2 : rat ρ 2 = none := hfr 2 (by simp)
  have hvaddr : (⟨lv.b, lv.o + 0 * lv.sz, none⟩ : Addr) = ⟨lv.b, lv.o, none⟩ := by simp
  rw [hvaddr]
  have hfin : ∀ {ρ' : Rho} {w' : World}, Sim B w ρ' w' (fun k => if k = 2 then some ⟨true, r⟩ else if some k = some 0 then none else hat [some ⟨true, d⟩, some ⟨true, v⟩] k) → Sim B w ρ' w' (hat [none, some ⟨true, v⟩, some ⟨true, r⟩]) := by
    intro ρ' w' h
    refine h.weaken (fun l r' hl => ?_)
    match l, hl with
    | 0, hl => cases hl
    | 1, hl => exact hl
    | 2, hl => exact hl
    | l + 3, hl => cases hl
  -- a new block
  have newB : ∀ {w' : World} {cells : Array Value} {c' : Nat}, w'.heap[w.heap.size]? = some (.cells cells e (0, 0)) → w.grownBy w' none → cells.size = c' → d.len + v.len ≤ c' → c' < 9223372036854775808 → (∀ t x, r.vals[t]? = some x → w'.cell? ⟨w.heap.size, 0 + t, none⟩ = some x) →
      ∃ ρ' u, Ending.returned (.slice (some ⟨w.heap.size, 0, none⟩) (d.len + v.len) c') = .returned u ∧ Sim B w ρ' w' (hat [none, some ⟨true, v⟩, some ⟨true, r⟩]) ∧ AVR ρ' (one (.sl 2 0 r.len)) u ∧ Sub ρ ρ' := by
    intro w' cells c' hb' g hsize hle hlt hcell
    refine ⟨rset ρ 2 ⟨w.heap.size, 0, c', 1, true⟩, _, rfl, hfin (hs.fresh hr2 g ⟨w.heap.size, 0, c', 1, true⟩ r (some 0) (fun b hb => by cases hb) ⟨hrz.symm, rfl, row_cells hr hcell, fun _ => ⟨?_, .inr ⟨cells, e, (0, 0), hb', .inl rfl, ?_, .inr ⟨rfl, ?_⟩⟩⟩⟩ (.inr (.inr (Nat.le_refl _)))), ⟨_, rset_at _ _ _, some ⟨w.heap.size, 0, none⟩, c', by rw [hrlen], by omega, .inl ⟨by simp, fun _ => ?_⟩⟩, rset_sub hr2⟩
    · show r.flat.length ≤ c'
      omega
    · show 0 + c' ≤ cells.size
      omega
    · show c' ≤ 9223372036854775807 * 1
      omega
    · show (0 + c') * 1 ≤ c'
      omega
  have hneed : d.len + v.len < 9223372036854775808 := by
    have : d.len + v.len ≤ (d.len + v.len) * bytes := Nat.le_mul_of_pos_right _ hby
    omega
  have hzc : ∀ k, (Builtin.zeroCells z.cells k).size = k := fun k => by rw [size_zeroCells, hz1, Nat.mul_one]
  have hend : ∀ (A : Option Addr) (c : Nat), i = d.len → d.len ≤ c → c < d.len + v.len → (A = none → d.len = 0) → (∀ a, A = some a → ∀ j x, d.vals[j]? = some x → w.cell? (a.add j) = some x) →
      Calls P f #[.slice A d.len c, .int .i64 (i : Int), .slice (some ⟨lv.b, lv.o, none⟩) v.len vc] w fun e w' => ∃ ρ' u, e = .returned u ∧ Sim B w ρ' w' (hat [none, some ⟨true, v⟩, some ⟨true, r⟩]) ∧ AVR ρ' (one (.sl 2 0 r.len)) u ∧ Sub ρ ρ' := by
    intro A c hid h1 h2 h3 h4
    have hcall := hI.grow A d.len c lv.b lv.o v.len vc d.vals v.vals w hm h1 h2 hb hvl hvvl h3 h4 hvs (vals_one hv)
    rw [hid]
    refine hcall.mono ?_
    rintro e' w' ⟨rfl, rfl⟩
    have hge := grownCap_ge w (d.len + v.len) c e
    have hlt := capLt w (need := d.len + v.len) c e hneed
    generalize grownCap w (d.len + v.len) c e = c' at hge hlt
    have hnew := heap_alloc_new w.drew (.cells ((d.vals ++ v.vals).toArray ++ Builtin.zeroCells z.cells (c' - (d.len + v.len))) e)
    refine newB (cells := (d.vals ++ v.vals).toArray ++ Builtin.zeroCells z.cells (c' - (d.len + v.len))) hnew ⟨rfl, rfl, rfl, by simp [World.alloc], fun k hk _ => heap_alloc_old w.drew _ hk⟩ ?_ hge hlt (fun t x hx => ?_)
    · rw [Array.size_append, hzc, List.size_toArray, List.length_append, hvl, hvvl]; omega
    · rw [hrv, hid, List.take_of_length_le (by omega), List.drop_of_length_le (by omega), List.append_nil] at hx
      have ht := (List.getElem?_eq_some_iff.1 hx).1
      simp only [World.cell?, Nat.zero_add]
      rw [show (w.drew.alloc (.cells ((d.vals ++ v.vals).toArray ++ Builtin.zeroCells z.cells (c' - (d.len + v.len))) e)).heap[w.heap.size]? = _ from hnew]
      simp only [Option.isSome_none, Bool.false_eq_true, if_false]
      rw [Array.getElem?_append_left (by simpa using ht)]
      simpa using hx
  rcases hA with ⟨rfl, hown⟩ | ⟨h0, hc0⟩
  case inr =>
    rw [hc0, h0]
    have := hend A 0 (by omega) (by omega) (by omega) (fun _ => h0) (fun a _ j x hx => by
      have := (List.getElem?_eq_some_iff.1 hx).1
      omega)
    rw [h0] at this
    exact this
  have hown := hown hrow.2.1
  rw [hsz] at hown
  have haddr : (⟨lc.b, lc.o + 0 * lc.sz, none⟩ : Addr) = ⟨lc.b, lc.o, none⟩ := by simp
  rw [haddr]
  by_cases hroom : d.len + v.len ≤ cap
  case neg =>
    by_cases hid : i = d.len
    · exact hend _ cap hid hcap (by omega) (fun e => by cases e) (fun a ha j x hx => by
        obtain rfl := Option.some.inj ha
        rw [add_lit]; exact hcs j x hx)
    · have hcall := hI.mid lc.b lc.o d.len cap i lv.b lv.o v.len vc d.vals v.vals w (by omega) hm hcap (by omega) hb hvl hvvl hcs hvs (vals_one hd) (vals_one hv)
      refine hcall.mono ?_
      rintro e' w' ⟨rfl, rfl⟩
      have hge := grownCap_ge w (d.len + v.len) cap e
      have hlt := capLt w (need := d.len + v.len) cap e hneed
      generalize grownCap w (d.len + v.len) cap e = c' at hge hlt
      have hnew := heap_alloc_new w (.cells ((d.vals.take i).toArray ++ Builtin.zeroCells z.cells (d.len + v.len - i) ++ Builtin.zeroCells z.cells (c' - (d.len + v.len))) e)
      have hold := fun (k : Nat) (hk : k < w.heap.size) => heap_alloc_old w (.cells ((d.vals.take i).toArray ++ Builtin.zeroCells z.cells (d.len + v.len - i) ++ Builtin.zeroCells z.cells (c' - (d.len + v.len))) e) hk
      have hcsz : ((d.vals.take i).toArray ++ Builtin.zeroCells z.cells (d.len + v.len - i) ++ Builtin.zeroCells z.cells (c' - (d.len + v.len))).size = c' := by
        rw [Array.size_append, Array.size_append, hzc, hzc, List.size_toArray, List.length_take, hvl]; omega
      generalize hWeq : w.alloc (.cells ((d.vals.take i).toArray ++ Builtin.zeroCells z.cells (d.len + v.len - i) ++ Builtin.zeroCells z.cells (c' - (d.len + v.len))) e) = W at hnew hold
      have hWg : w.grownBy W none := by
        rw [← hWeq]
        exact ⟨rfl, rfl, rfl, by show w.heap.size ≤ (w.heap.push _).size; simp, fun k hk _ => heap_alloc_old w _ hk⟩
      generalize hcells : (d.vals.take i).toArray ++ Builtin.zeroCells z.cells (d.len + v.len - i) ++ Builtin.zeroCells z.cells (c' - (d.len + v.len)) = cells at hnew hcsz
      obtain ⟨cur1, k1, k2⟩ := setCells_block w.heap.size v.vals i W.drew cells e (0, 0) hnew
      obtain ⟨cur2, k3, k4⟩ := setCells_block w.heap.size (d.vals.drop i) (i + v.len) ((W.drew.setCells w.heap.size i v.vals).drew) cur1 e (0, 0) k1
      have hcell0 : ∀ j, j < c' → W.cell? ⟨w.heap.size, 0 + j, none⟩ = cells[j]? := by
        intro j hj
        simp [World.cell?, hnew]
      refine newB (cells := cur2) k3 ⟨?_, ?_, ?_, ?_, fun k hk _ => ?_⟩ (by rw [k4, k2, hcsz]) hge hlt (fun t x hx => ?_)
      · have h1 := (setCells_grown W.drew w.heap.size i v.vals).os
        have h2 := (setCells_grown ((W.drew.setCells w.heap.size i v.vals).drew) w.heap.size (i + v.len) (d.vals.drop i)).os
        exact h2.trans (h1.trans hWg.os)
      · have h1 := (setCells_grown W.drew w.heap.size i v.vals).tape
        have h2 := (setCells_grown ((W.drew.setCells w.heap.size i v.vals).drew) w.heap.size (i + v.len) (d.vals.drop i)).tape
        exact h2.trans (h1.trans hWg.tape)
      · have h1 := (setCells_grown W.drew w.heap.size i v.vals).output
        have h2 := (setCells_grown ((W.drew.setCells w.heap.size i v.vals).drew) w.heap.size (i + v.len) (d.vals.drop i)).output
        exact h2.trans (h1.trans hWg.output)
      · have h1 := (setCells_grown W.drew w.heap.size i v.vals).size
        have h2 := (setCells_grown ((W.drew.setCells w.heap.size i v.vals).drew) w.heap.size (i + v.len) (d.vals.drop i)).size
        exact Nat.le_trans hWg.size (Nat.le_trans h1 h2)
      · have hkW : k < W.heap.size := Nat.lt_of_lt_of_le hk hWg.size
        have hne : some k ≠ some w.heap.size := fun e => by have := Option.some.inj e; omega
        have h1 := (setCells_grown W.drew w.heap.size i v.vals).block k hkW hne
        have h2 := (setCells_grown ((W.drew.setCells w.heap.size i v.vals).drew) w.heap.size (i + v.len) (d.vals.drop i)).block k (Nat.lt_of_lt_of_le hkW (setCells_grown W.drew w.heap.size i v.vals).size) hne
        exact h2.trans (h1.trans (hold k hk))
      · rw [hrv] at hx
        refine ins_cells (W := W.drew) (off := 0) (i := i) (m := v.len) (n := d.len) hvl hvvl hi (fun j hj => ?_) (fun j y hj hy => ?_) (.inr (by simp only [Nat.zero_add])) t x hx
        · show (W.cell? ⟨w.heap.size, 0 + j, none⟩).isSome = true
          rw [hcell0 j (by omega), Array.getElem?_eq_getElem (by omega)]; rfl
        · show W.cell? ⟨w.heap.size, 0 + j, none⟩ = some y
          rw [hcell0 j (by omega), ← hcells, Array.getElem?_append_left (by rw [Array.size_append, List.size_toArray, List.length_take, hvl]; omega), Array.getElem?_append_left (by rw [List.size_toArray, List.length_take, hvl]; omega)]
          simp [List.getElem?_take, hj, hy]
  -- there is room
  have hn0 : lc.n ≠ 0 := by omega
  obtain ⟨cur, e1, fz, g1, g2, g3, g4, g5⟩ := tame_block hrow hdu hn0
  have hblk : lv.b ≠ lc.b := hs.apart 1 0 lv lc ⟨true, v⟩ ⟨true, d⟩ (by decide) rfl rfl rfl rfl hlv hlc hlvn hn0
  have hsp : ∀ j, j < d.len + v.len → (w.cell? ⟨lc.b, lc.o + j, none⟩).isSome = true := by
    intro j hj
    have : lc.o + j < cur.size := by omega
    simp [World.cell?, g1, this]
  have hcap63 : cap ≤ 9223372036854775807 := by rw [hsz] at g5; omega
  have place : ∀ {w' : World}, w.grownBy w' (some lc.b) → (∃ cur', w'.heap[lc.b]? = some (.cells cur' e1 fz) ∧ cur'.size = cur.size) → (∀ t x, r.vals[t]? = some x → w'.cell? ⟨lc.b, lc.o + t, none⟩ = some x) →
      ∃ ρ' u, Ending.returned (.slice (some ⟨lc.b, lc.o, none⟩) (d.len + v.len) cap) = .returned u ∧ Sim B w ρ' w' (hat [none, some ⟨true, v⟩, some ⟨true, r⟩]) ∧ AVR ρ' (one (.sl 2 0 r.len)) u ∧ Sub ρ ρ' := by
    intro w' g ⟨cur', k1, k2⟩ hcell
    refine ⟨rset ρ 2 lc, _, rfl, hfin (hs.fresh hr2 g lc r (some 0) (fun b hb => ?_) ⟨hsz.trans hrz.symm, hrow.2.1, row_cells hr hcell, fun _ => ⟨?_, .inr ⟨cur', e1, fz, k1, by rw [k2]; exact g2, by rw [k2]; exact g3, .inr ⟨g4, g5⟩⟩⟩⟩ (.inr (.inl rfl))), ⟨lc, rset_at _ _ _, some ⟨lc.b, lc.o, none⟩, cap, by rw [hrlen], by omega, .inl ⟨by simp, fun _ => by rw [hsz]; exact hown⟩⟩, rset_sub hr2⟩
    · obtain rfl := Option.some.inj hb
      exact ⟨0, _, lc, rfl, rfl, rfl, hlc, hn0, rfl⟩
    · show r.flat.length ≤ lc.n
      omega
  have hgr : ∀ p l, w.drew.grownBy (w.drew.setCells lc.b p l) (some lc.b) := fun p l => setCells_grown _ _ _ _
  by_cases hid : i = d.len
  · have hcall := hI.room lc.b lc.o d.len cap lv.b lv.o v.len vc v.vals w hm hroom hcap63 hvvl (fun j hj => by rw [Nat.add_assoc]; exact hsp _ (by omega)) (fun j _ => frozen_no g1 g4) hvs (vals_one hv)
    rw [hid]
    refine hcall.mono ?_
    rintro e' w' ⟨rfl, rfl⟩
    refine place (setCells_grown _ _ _ _) (setCells_block lc.b v.vals (lc.o + d.len) w cur e1 fz g1) (fun t x hx => ?_)
    rw [hrv] at hx
    have hd0 : d.vals.drop i = [] := List.drop_of_length_le (by omega)
    refine ins_cells (W := w) (off := lc.o) (i := i) (m := v.len) (n := d.len) hvl hvvl hi hsp (fun j y hj hy => hcs j y hy) (.inl ?_) t x hx
    rw [hd0, hid]; rfl
  · have hcall := hI.shift lc.b lc.o d.len cap i lv.b lv.o v.len vc d.vals v.vals w (by omega) hm hroom hcap63 hblk hvl hvvl hcs hsp (fun j _ => frozen_no g1 g4) hvs (vals_one hd) (vals_one hv) ve e1 vcur.size cur.size (by simp [World.shape?, u1]) (by simp [World.shape?, g1]) (by omega) (frozen_no u1 u4) (frozen_no u1 u4)
    refine hcall.mono ?_
    rintro e' w' ⟨rfl, rfl⟩
    obtain ⟨cur1, k1, k2⟩ := setCells_block lc.b (d.vals.drop i) (lc.o + (i + v.len)) w.drew cur e1 fz g1
    obtain ⟨cur2, k3, k4⟩ := setCells_block lc.b v.vals (lc.o + i) (w.drew.setCells lc.b (lc.o + (i + v.len)) (d.vals.drop i)) cur1 e1 fz k1
    refine place (grown_trans (grown_trans (grown_drew w _) (setCells_grown _ _ _ _)) (setCells_grown _ _ _ _)) ⟨cur2, k3, k4.trans k2⟩ (fun t x hx => ?_)
    rw [hrv] at hx
    exact ins_cells (W := w.drew) (off := lc.o) (i := i) (m := v.len) (n := d.len) hvl hvvl hi hsp (fun j y hj hy => hcs j y hy) (.inl rfl) t x hx
end Go.Proofs.Ytmodnnokcmabhaa.Den
