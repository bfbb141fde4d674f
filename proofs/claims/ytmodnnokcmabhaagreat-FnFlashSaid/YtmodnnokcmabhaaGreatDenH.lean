/- Each step that the reckoner takes is the model's step: append. -/
import Derived.Test.YtmodnnokcmabhaaGreatDenG
import Derived.Lib.AppendStr
namespace Go.Proofs.YtmodnnokcmabhaaGreat.Den
open Go Go.RowKit
set_option linter.unusedSimpArgs false
set_option linter.unusedVariables false
variable {P : Program} {tb : TypeId → Option Ty} {B : Nat → Prop} {w0 w w' : World} {ρ ρ' : Rho} {fh fh' : Nat → Option Row} {fr : Nat} {ev : Operand → AV} {ee : Operand → Value}

/-- What is appended. -/
structure Src (P : Program) (w : World) (u : TypeId) (x : Value) (n size : Nat) (news : List Value) : Prop where
  ty : (∃ e, P.underlying u = some (.slice e)) ∨ P.underlying u = some .string
  len : ∀ w, (Builtin.lenOf x).run P w = .ok n w
  cells : (Builtin.firstCells size n x).run P w = .ok news.toArray w
  cells' : (Builtin.firstCells size n x).run P w.drew = .ok news.toArray w.drew
  one : ∀ v ∈ news, v.oneCell' = true
  size : news.length = n * size
theorem app_room {t u ty e : TypeId} {i : TypeInfo} (ht : P.underlying t = some (.slice e)) (hi : P.info? e = some i) {b off sLen sCap n : Nat} {x : Value} {news : List Value} (hx : Src P w u x n i.size news)
    (hroom : sLen + n ≤ sCap) (hc : ∀ j, j < news.length → (w.cell? ⟨b, off + sLen * i.size + j, none⟩).isSome = true) (hf : ∀ j, j < news.length → w.frozen? ⟨b, off + sLen * i.size + j, none⟩ = false) :
    (Builtin.append_ #[t, u] ty #[.slice (some ⟨b, off, none⟩) sLen sCap, x]).run P w = .ok (.slice (some ⟨b, off, none⟩) (sLen + n) sCap) (w.setCells b (off + sLen * i.size) news) := by
  have hst := run_storeCells_cells (P := P) b (off + sLen * i.size) news 0 w (by simpa using hc) (by simpa using hf) hx.one
  simp only [Nat.add_zero] at hst
  rcases hx.ty with ⟨e', hu⟩ | hu <;>
    simp [Builtin.append_, run_underlying ht, run_underlying hu, sizeOf, typeInfo, hi, hx.len, hroom, hx.cells, Addr.add_lit, hst]
theorem app_none {t u ty e : TypeId} {i : TypeInfo} (ht : P.underlying t = some (.slice e)) (hi : P.info? e = some i) {A : Option Addr} {x : Value} {news : List Value} (hx : Src P w u x 0 i.size news) :
    (Builtin.append_ #[t, u] ty #[.slice A 0 0, x]).run P w = .ok (.slice A 0 0) w := by
  obtain rfl : news = [] := List.eq_nil_of_length_eq_zero (by simpa using hx.size)
  have h0 : ∀ a : Addr, (storeCells a [] 0).run P w = .ok () w := fun _ => rfl
  cases A <;> rcases hx.ty with ⟨e', hu⟩ | hu <;>
    simp [Builtin.append_, run_underlying ht, run_underlying hu, sizeOf, typeInfo, hi, hx.len, hx.cells, h0]
theorem app_grow {t u ty e : TypeId} {i : TypeInfo} {z : Value} (ht : P.underlying t = some (.slice e)) (hi : P.info? e = some i) (hz : i.zero = some z) {A : Option Addr} {sLen sCap n : Nat} {x : Value} {olds news : List Value} (hx : Src P w u x n i.size news)
    (holds : (Builtin.firstCells i.size sLen (.slice A sLen sCap)).run P w.drew = .ok olds.toArray w.drew) (hg : sCap < sLen + n) (hb0 : 0 < i.bytes) (hb : (sLen + n) * i.bytes ≤ 140737488355328) :
    (Builtin.append_ #[t, u] ty #[.slice A sLen sCap, x]).run P w = .ok (.slice (some ⟨w.heap.size, 0, none⟩) (sLen + n) (grownCap w (sLen + n) sCap e))
      (w.drew.alloc (.cells (olds.toArray ++ news.toArray ++ Builtin.zeroCells z.cells (grownCap w (sLen + n) sCap e - (sLen + n))) e)) := by
  have hn : ¬ (sLen + n ≤ sCap) := by omega
  have h63 : sLen + n ≤ 140737488355328 := Nat.le_trans (Nat.le_mul_of_pos_right _ hb0) hb
  have h63' : ¬ (9223372036854775807 < ((sLen : Int) + (n : Int))) := by omega
  have h48 := growslice_fits hg hb
  have h48' : ¬ (281474976710656 < Builtin.nextslicecap (sLen + n) sCap * i.bytes) := by omega
  have hby : ¬ (i.bytes = 0) := by omega
  rcases hx.ty with ⟨e', hu⟩ | hu <;>
    (simp [Builtin.append_, run_underlying ht, run_underlying hu, sizeOf, typeInfo, zeroValue, hi, hz, hx.len, hn, h63', h48', hby, Question.forced, hx.cells', holds, newRow, grownCap]
     try (congr 2; apply Array.ext'; simp [List.append_assoc]))

theorem scalar_typed {d : Data} (hd : d.isCells = false) {i : Nat} {c : C} (h : d.flat[i]? = some c) : c.isUndef = false ∧ ∀ v, CR ρ c v → v = c.val ∧ (∀ ρ', CR ρ' c v) := by
  have hm := List.mem_of_getElem? h
  cases d <;> simp only [Data.isCells, Bool.true_eq_false] at hd <;> simp only [Data.flat, List.mem_map, List.mem_flatMap, encP, encA, List.mem_cons, List.not_mem_nil, or_false] at hm
  · obtain ⟨a, _, rfl⟩ := hm; exact ⟨rfl, fun v hv => ⟨hv, fun _ => hv⟩⟩
  · obtain ⟨a, _, rfl⟩ := hm; exact ⟨rfl, fun v hv => ⟨hv, fun _ => hv⟩⟩
  · obtain ⟨a, _, rfl⟩ := hm; exact ⟨rfl, fun v hv => ⟨hv, fun _ => hv⟩⟩
  · obtain ⟨a, _, rfl | rfl⟩ := hm <;> exact ⟨rfl, fun v hv => ⟨hv, fun _ => hv⟩⟩
  · obtain ⟨a, _, rfl | rfl | rfl⟩ := hm <;> exact ⟨rfl, fun v hv => ⟨hv, fun _ => hv⟩⟩
/-- The cells that typed data stands for. -/
def Data.vals (d : Data) : List Value := d.flat.map C.val
theorem vals_row {r : Row} {lc : Lc} (h : RowR ρ w r lc) (hd : r.d.isCells = false) {i : Nat} {v : Value} (hi : r.d.vals[i]? = some v) : w.cell? ⟨lc.b, lc.o + i, none⟩ = some v := by
  unfold Data.vals at hi
  rw [List.getElem?_map] at hi
  cases hc : r.d.flat[i]? with
  | none => rw [hc] at hi; cases hi
  | some c =>
    rw [hc] at hi
    simp only [Option.map_some, Option.some.injEq] at hi
    obtain ⟨u, h1, h2⟩ := h.2.2.1 i c hc
    rw [h1, ((scalar_typed hd hc).2 u h2).1, hi]
theorem vals_one {d : Data} (hd : d.isCells = false) : ∀ v ∈ d.vals, v.oneCell' = true := by
  intro v hv
  unfold Data.vals at hv
  obtain ⟨c, hc, rfl⟩ := List.mem_map.1 hv
  obtain ⟨i, hi, rfl⟩ := List.getElem_of_mem hc
  have h1 := List.getElem?_eq_getElem hi
  have hm := hc
  generalize d.flat[i] = c at hm
  cases d <;> simp only [Data.isCells, Bool.true_eq_false] at hd <;> simp only [Data.flat, List.mem_map, List.mem_flatMap, encP, encA, List.mem_cons, List.not_mem_nil, or_false] at hm
  · obtain ⟨a, _, rfl⟩ := hm; rfl
  · obtain ⟨a, _, rfl⟩ := hm; rfl
  · obtain ⟨a, _, rfl⟩ := hm; rfl
  · obtain ⟨a, _, rfl | rfl⟩ := hm <;> rfl
  · obtain ⟨a, _, rfl | rfl | rfl⟩ := hm <;> rfl
theorem vals_cr {d : Data} (hd : d.isCells = false) {i : Nat} {c : C} (h : d.flat[i]? = some c) : d.vals[i]? = some c.val ∧ CR ρ c c.val := by
  refine ⟨by unfold Data.vals; rw [List.getElem?_map, h]; rfl, ?_⟩
  have hm := List.mem_of_getElem? h
  cases d <;> simp only [Data.isCells, Bool.true_eq_false] at hd <;> simp only [Data.flat, List.mem_map, List.mem_flatMap, encP, encA, List.mem_cons, List.not_mem_nil, or_false] at hm
  · obtain ⟨a, _, rfl⟩ := hm; rfl
  · obtain ⟨a, _, rfl⟩ := hm; rfl
  · obtain ⟨a, _, rfl⟩ := hm; rfl
  · obtain ⟨a, _, rfl | rfl⟩ := hm <;> rfl
  · obtain ⟨a, _, rfl | rfl | rfl⟩ := hm <;> rfl
theorem flat_len {d : Data} (hd : d.isCells = false) : d.flat.length = d.len * d.sz := by
  cases d <;> simp only [Data.isCells, Bool.true_eq_false] at hd <;> simp only [Data.flat, Data.len, Data.sz, Nat.mul_one, List.length_map]
  · exact flatMap_len encP 2 (fun _ => rfl) _
  · exact flatMap_len encA 3 (fun _ => rfl) _
theorem app_flat {d e f : Data} (h : d.app e = some f) : f.flat = d.flat ++ e.flat ∧ f.len = d.len + e.len ∧ f.sz = d.sz ∧ f.isCells = false ∧ d.isCells = false ∧ e.isCells = false := by
  cases d <;> cases e <;> simp only [Data.app, reduceCtorEq] at h <;> first | (cases h; done) | skip
  · split at h
    · rename_i hk
      obtain rfl := same_eq hk
      obtain rfl := Option.some.inj h
      exact ⟨by simp [Data.flat], by simp [Data.len], rfl, rfl, rfl, rfl⟩
    · cases h
  all_goals
    obtain rfl := Option.some.inj h
    exact ⟨by simp [Data.flat], by simp [Data.len], rfl, rfl, rfl, rfl⟩
theorem win_cells {d : Data} (o n : Nat) : (d.win o n).isCells = d.isCells := by cases d <;> rfl
theorem win_flat {d : Data} (hd : d.isCells = false) {o n : Nat} : (d.win o n).sz = d.sz ∧ (d.win o n).len = min n (d.len - o) ∧ ∀ (i : Nat) (c : C), (d.win o n).flat[i]? = some c → d.flat[o * d.sz + i]? = some c := by
  have key : ∀ {α : Type} (f : α → List C) (m : Nat), 0 < m → (∀ x, (f x).length = m) → ∀ (l : List α) (i : Nat) (c : C), (((l.drop o).take n).flatMap f)[i]? = some c → (l.flatMap f)[o * m + i]? = some c := by
    intro α f m hm hf l i c hi
    have hlt := (List.getElem?_eq_some_iff.1 hi).1
    rw [flatMap_len f m hf] at hlt
    have hq : i / m < ((l.drop o).take n).length := (Nat.div_lt_iff_lt_mul hm).2 hlt
    have e : i = i / m * m + i % m := by have := Nat.div_add_mod i m; rw [Nat.mul_comm] at this; omega
    obtain ⟨x, hx⟩ : ∃ x, ((l.drop o).take n)[i / m]? = some x := ⟨_, List.getElem?_eq_getElem hq⟩
    have h1 := flatMap_at f m hf ((l.drop o).take n) (i / m) (i % m) x hq (Nat.mod_lt _ hm)
    have hx' : l[o + i / m]? = some x := by
      rw [List.getElem?_take] at hx
      split at hx
      · rw [List.getElem?_drop] at hx; exact hx
      · cases hx
    have hlt' : o + i / m < l.length := (List.getElem?_eq_some_iff.1 hx').1
    have h2 := flatMap_at f m hf l (o + i / m) (i % m) x hlt' (Nat.mod_lt _ hm)
    rw [← e] at h1
    rw [show (o + i / m) * m + i % m = o * m + i by rw [Nat.add_mul]; omega] at h2
    rw [h2, List.getD_eq_getElem?_getD, hx']
    rw [hi, List.getD_eq_getElem?_getD, hx] at h1
    exact h1.symm
  have key1 : ∀ {α : Type} (f : α → C) (l : List α) (i : Nat) (c : C), (((l.drop o).take n).map f)[i]? = some c → (l.map f)[o * 1 + i]? = some c := by
    intro α f l i c hi
    rw [List.getElem?_map, List.getElem?_take] at hi
    split at hi
    · rw [List.getElem?_drop] at hi
      rw [Nat.mul_one, List.getElem?_map]; exact hi
    · cases hi
  cases d <;> simp only [Data.isCells, Bool.true_eq_false] at hd <;> refine ⟨rfl, by simp [Data.win, Data.len], fun i c hi => ?_⟩
  · exact key1 _ _ i c hi
  · exact key1 _ _ i c hi
  · exact key1 _ _ i c hi
  · exact key encP 2 (by omega) (fun _ => rfl) _ i c hi
  · exact key encA 3 (by omega) (fun _ => rfl) _ i c hi
end Go.Proofs.YtmodnnokcmabhaaGreat.Den
