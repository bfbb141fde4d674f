/- Each step that the reckoner takes is the model's step: append, shown. -/
import Derived.Test.YtmodnnokcmabhaaGreatDenH
namespace Go.Proofs.YtmodnnokcmabhaaGreat.Den
open Go Go.RowKit
set_option linter.unusedSimpArgs false
set_option linter.unusedVariables false
variable {P : Program} {tb : TypeId → Option Ty} {B : Nat → Prop} {w0 w w' : World} {ρ ρ' : Rho} {fh fh' : Nat → Option Row} {fr : Nat} {ev : Operand → AV} {ee : Operand → Value}

theorem isSl_und (T : TabOk P tb) {u : TypeId} (h : isSl tb #[u] = true) : ∃ e, P.underlying u = some (.slice e) := by
  unfold isSl at h
  simp only at h
  split at h
  · rename_i s b a z d e nk hu
    obtain ⟨dd, h1, _, h2⟩ := (T _ _ hu).und
    exact ⟨e, by rw [h1]; exact congrArg some h2⟩
  · cases h
theorem isStr_und (T : TabOk P tb) {u : TypeId} (h : isStr tb #[u] = true) : P.underlying u = some .string := by
  unfold isStr at h
  simp only at h
  split at h
  · rename_i s b a z d nk hu
    obtain ⟨dd, h1, _, h2⟩ := (T _ _ hu).und
    rw [h1]; exact congrArg some h2
  · cases h
theorem vals_len {d : Data} (hd : d.isCells = false) : d.vals.length = d.len * d.sz := by rw [Data.vals, List.length_map, flat_len hd]
theorem firsts {w w1 : World} {size n : Nat} {b o : Nat} {len cap : Nat} {cs : List Value} (hl : cs.length = n * size) (h : ∀ (j : Nat) v, cs[j]? = some v → w.cell? ⟨b, o + j, none⟩ = some v) (hw : ∀ a, w1.cell? a = w.cell? a) :
    (Builtin.firstCells size n (.slice (some ⟨b, o, none⟩) len cap)).run P w1 = .ok cs.toArray w1 :=
  run_firstCells_some (P := P) w1 size n ⟨b, o, none⟩ len cap cs hl (fun j v hj => by rw [add_lit, hw]; exact h j v hj)
theorem firsts0 (size : Nat) (A : Option Addr) (w : World) : (Builtin.firstCells size 0 (.slice A 0 0)).run P w = .ok ([] : List Value).toArray w := by
  cases A with
  | none => simp [Builtin.firstCells]
  | some a => exact run_firstCells_some (P := P) w size 0 a 0 0 [] (by simp) (fun j v hj => by simp at hj)
theorem src_sound {u : TypeId} (hu : (∃ e, P.underlying u = some (.slice e)) ∨ P.underlying u = some .string) {dk : DK} {x : AV} {as as' : List Ans} {dx : Data} {rd : List Nat} {ps : List Prop} (h : srcOf dk fh x as = some (dx, rd, ps, as')) (hp : allP ps)
    (hs : Sim B w0 ρ w fh) {v : Value} (hv : AVR ρ x v) {size : Nat} (hz : size = dx.sz) : Src P w u v dx.len size dx.vals ∧ dx.isCells = false := by
  subst hz
  unfold srcOf at h
  split at h
  · rename_i s
    simp only [Option.some.injEq, Prod.mk.injEq] at h
    obtain ⟨rfl, rfl, rfl, rfl⟩ := h
    obtain rfl : v = .string s := hv
    have hvals : (Data.ints .u8 (bytesL s)).vals = Lib.strCells s := by
      simp [Data.vals, Data.flat, bytesL, Lib.strCells, C.val, Function.comp_def]
    have hlen : (Data.ints .u8 (bytesL s)).len = s.size := by
      simp [Data.len, bytesL]
    rw [hvals, hlen]
    exact ⟨⟨hu, fun w => by simp [Builtin.lenOf], Lib.run_firstCells_string w _ s, Lib.run_firstCells_string w.drew _ s, Lib.strCells_oneCell s, by rw [Lib.strCells_length]; simp [Data.sz]⟩, rfl⟩
  · cases hd : Data.nilOf dk with
    | none => rw [hd] at h; cases h
    | some d =>
      rw [hd] at h
      simp only [Option.map_some, Option.some.injEq, Prod.mk.injEq] at h
      obtain ⟨rfl, rfl, rfl, rfl⟩ := h
      obtain ⟨A, rfl⟩ := hv
      have hd' : d.isCells = false ∧ d.vals = [] ∧ d.len = 0 := by
        cases dk <;> simp only [Data.nilOf, Option.some.injEq, reduceCtorEq] at hd <;> subst hd <;> exact ⟨rfl, rfl, rfl⟩
      obtain ⟨h1, h2, h3⟩ := hd'
      rw [h2, h3]
      exact ⟨⟨hu, fun w => by simp [Builtin.lenOf], firsts0 _ _ _, firsts0 _ _ _, fun v hv => (List.not_mem_nil hv).elim, by simp⟩, h1⟩
  · rename_i l off len as
    split at h
    · rename_i r hr
      split at h
      · cases h
      · rename_i hc
        simp only [Option.some.injEq, Prod.mk.injEq] at h
        obtain ⟨rfl, rfl, rfl, rfl⟩ := h
        obtain ⟨rfl, rfl, _⟩ := hp
        have hc : r.d.isCells = false := by simpa using hc
        obtain ⟨lc, hlc, A, cap, rfl, hcap, hA⟩ := hv
        obtain ⟨lc', hlc', hrow, _⟩ := hs.row l r hr
        rw [hlc] at hlc'
        obtain rfl := Option.some.inj hlc'
        refine ⟨?_, hc⟩
        rcases hA with ⟨rfl, _⟩ | ⟨h0, h1⟩
        · have hf := fun w1 hw => firsts (P := P) (w := w) (w1 := w1) (size := r.d.sz) (n := r.d.len) (b := lc.b) (o := lc.o + 0 * lc.sz) (len := r.d.len) (cap := cap) (vals_len hc) (fun j v hj => by simpa using vals_row hrow hc hj) hw
          exact ⟨hu, fun w => by simp [Builtin.lenOf], hf w (fun _ => rfl), hf w.drew (fun _ => by simp), vals_one hc, vals_len hc⟩
        · subst h1
          have hv0 : r.d.vals = [] := List.eq_nil_of_length_eq_zero (by rw [vals_len hc, h0, Nat.zero_mul])
          rw [hv0, h0]
          exact ⟨hu, fun w => by simp [Builtin.lenOf], firsts0 _ _ _, firsts0 _ _ _, fun v hv => (List.not_mem_nil hv).elim, by simp⟩
    · cases h
  · rename_i l off len as
    split at h
    · rename_i r hr
      split at h
      · cases h
      · rename_i hc
        simp only [Option.some.injEq, Prod.mk.injEq] at h
        obtain ⟨rfl, rfl, rfl, rfl⟩ := h
        have hle := hp.1
        have hc : r.d.isCells = false := by simpa using hc
        have hc' : (r.d.win off len).isCells = false := by rw [win_cells]; exact hc
        obtain ⟨w1, w2, w3⟩ := win_flat hc (o := off) (n := len)
        have hwl : (r.d.win off len).len = len := by rw [w2]; omega
        obtain ⟨lc, hlc, A, cap, rfl, hcap, hA⟩ := hv
        obtain ⟨lc', hlc', hrow, _⟩ := hs.row l r hr
        rw [hlc] at hlc'
        obtain rfl := Option.some.inj hlc'
        refine ⟨?_, hc'⟩
        rcases hA with ⟨rfl, _⟩ | ⟨h0, h1⟩
        · have hf := fun w2 hw => firsts (P := P) (w := w) (w1 := w2) (size := (r.d.win off len).sz) (n := len) (b := lc.b) (o := lc.o + off * lc.sz) (len := len) (cap := cap) (cs := (r.d.win off len).vals) (by rw [vals_len hc', hwl]) (fun j v hj => by
            unfold Data.vals at hj
            rw [List.getElem?_map] at hj
            cases hq : (r.d.win off len).flat[j]? with
            | none => rw [hq] at hj; cases hj
            | some c =>
              rw [hq] at hj
              have h5 := w3 j c hq
              rw [Nat.add_assoc, show lc.sz = r.d.sz from hrow.1]
              refine vals_row hrow hc ?_
              unfold Data.vals
              rw [List.getElem?_map, h5]; exact hj) hw
          rw [hwl]
          exact ⟨hu, fun w => by simp [Builtin.lenOf], hf w (fun _ => rfl), hf w.drew (fun _ => by simp), vals_one hc', by rw [vals_len hc', hwl]⟩
        · subst h1
          have hv0 : (r.d.win off len).vals = [] := List.eq_nil_of_length_eq_zero (by rw [vals_len hc', hwl, h0, Nat.zero_mul])
          rw [hv0, hwl, h0]
          exact ⟨hu, fun w => by simp [Builtin.lenOf], firsts0 _ _ _, firsts0 _ _ _, fun v hv => (List.not_mem_nil hv).elim, by simp⟩
    · cases h
  · cases h
/-- A new row of typed data in a new block. -/
theorem Sim.typed (hs : Sim B w0 ρ w fh) (hfr : rat ρ fr = none) {d : Data} (hd : d.isCells = false) {cs : Array Value} {e : TypeId} {fz : Nat × Nat} {rest : List Value} (hcs : cs.toList = d.vals ++ rest)
    (g : w.grownBy w' none) (hb : w'.heap[w.heap.size]? = some (.cells cs e fz)) (hz : Unf cs.size fz) (kill : Option Nat) :
    Sim B w0 (rset ρ fr ⟨w.heap.size, 0, cs.size, d.sz, true⟩) w' (fun k => if k = fr then some ⟨true, d⟩ else if some k = kill then none else fh k) := by
  have hl : d.flat.length ≤ cs.size := by
    have : cs.toList.length = (d.vals ++ rest).length := by rw [hcs]
    simp [Data.vals] at this
    omega
  refine hs.fresh hfr g ⟨w.heap.size, 0, cs.size, d.sz, true⟩ d kill (fun b hb => by cases hb) ⟨rfl, rfl, fun i c hi => ?_, fun _ => ⟨hl, .inr ⟨cs, e, fz, hb, hz, by simp⟩⟩⟩ (.inr (.inr (Nat.le_refl _)))
  obtain ⟨h1, h2⟩ := vals_cr (ρ := rset ρ fr ⟨w.heap.size, 0, cs.size, d.sz, true⟩) hd hi
  refine ⟨c.val, ?_, h2⟩
  have : cs.toList[i]? = some c.val := by rw [hcs, List.getElem?_append_left (List.getElem?_eq_some_iff.1 h1).1]; exact h1
  simp only [World.cell?, hb, Option.isSome_none, Bool.false_eq_true, if_false, Nat.zero_add]
  simpa using this
theorem append_sound {t u ty e : TypeId} {y : Ty} (hyt : P.underlying t = some (.slice e)) (hy : TyOk P e y) (hb0 : 0 < y.bytes) {sv xv : Value} {n : Nat} {dx d' : Data} (hx : Src P w u xv dx.len y.sz dx.vals) (hdx : dx.isCells = false)
    (hs : Sim B w0 ρ w fh) (hfr : rat ρ fr = none) {kill : Option Nat} {d : Data} (hd : d.isCells = false) (happ : d.app dx = some d') (hz : y.sz = d.sz) (hbytes : d'.len * y.bytes ≤ 70368744177664)
    (hsv : (∃ A, sv = .slice A 0 0 ∧ d.len = 0) ∨ ∃ l, kill = some l ∧ fh l = some ⟨true, d⟩ ∧ CR ρ (.sl l 0 d.len) sv) :
    ∃ v w', (Builtin.append_ #[t, u] ty #[sv, xv]).run P w = .ok v w' ∧ ∃ ρ', Sub ρ ρ' ∧ (∀ l, ¬ (fr ≤ l ∧ l < fr + 1) → rat ρ' l = rat ρ l) ∧ Sim B w0 ρ' w' (fun k => if k = fr then some ⟨true, d'⟩ else if some k = kill then none else fh k) ∧ CR ρ' (.sl fr 0 d'.len) v := by
  obtain ⟨i, dd, z, h1, h2, h3, h4, h5, h6, h7, h8, h9, h10⟩ := hy.1
  obtain ⟨f1, f2, f3, f4, f5, f6⟩ := app_flat happ
  have hvals : d'.vals = d.vals ++ dx.vals := by simp [Data.vals, f1]
  have hszpos : 0 < d.sz := by cases d <;> simp_all [Data.sz, Data.isCells]
  have hzc : z.cells.size = y.sz := by
    have : z.cells.toList.length = (y.zero.map C.val).length := by rw [h6]
    simp at this
    omega
  have hx' : Src P w u xv dx.len i.size dx.vals := by rw [h3]; exact hx
  have hbi : 0 < i.bytes := by rw [h4]; exact hb0
  have grow : ∀ (A : Option Addr) (sCap : Nat), (Builtin.firstCells i.size d.len (.slice A d.len sCap)).run P w.drew = .ok d.vals.toArray w.drew → sCap < d.len + dx.len → sv = .slice A d.len sCap →
      ∃ v w', (Builtin.append_ #[t, u] ty #[sv, xv]).run P w = .ok v w' ∧ ∃ ρ', Sub ρ ρ' ∧ (∀ l, ¬ (fr ≤ l ∧ l < fr + 1) → rat ρ' l = rat ρ l) ∧ Sim B w0 ρ' w' (fun k => if k = fr then some ⟨true, d'⟩ else if some k = kill then none else fh k) ∧ CR ρ' (.sl fr 0 d'.len) v := by
    intro A sCap holds hg hsv
    subst hsv
    have hrun := app_grow (ty := ty) hyt h1 h5 (olds := d.vals) hx' holds hg hbi (by rw [← f2, h4]; omega)
    have hge := grownCap_ge w (d.len + dx.len) sCap e
    generalize hcap : grownCap w (d.len + dx.len) sCap e = cap at hrun hge
    have hsim := hs.typed (w' := w.drew.alloc (.cells (d.vals.toArray ++ dx.vals.toArray ++ Builtin.zeroCells z.cells (cap - (d.len + dx.len))) e)) hfr f4 (rest := (Builtin.zeroCells z.cells (cap - (d.len + dx.len))).toList) (by simp [hvals]) ⟨rfl, rfl, rfl, by simp [World.alloc], fun k hk _ => heap_alloc_old w.drew _ hk⟩ (heap_alloc_new w.drew _) (.inl rfl) kill
    refine ⟨.slice (some ⟨w.heap.size, 0, none⟩) (d.len + dx.len) cap, _, hrun, _, rset_sub hfr, fun k hk => rset_out (n := 1) (by omega) hk, hsim, _, rset_at _ _ _, some ⟨w.heap.size, 0, none⟩, cap, by rw [f2], by rw [f2]; exact hge, .inl ⟨by simp, fun _ => ?_⟩⟩
    simp only [Array.size_append, List.size_toArray, size_zeroCells, hzc, vals_len hd, vals_len hdx, Nat.zero_add, f3]
    have hzx : dx.sz = d.sz := by
      have := hx.size
      rw [vals_len hdx, hz] at this
      rcases Nat.eq_zero_or_pos dx.len with h0 | h0
      · cases d <;> cases dx <;> simp [Data.app] at happ <;> simp_all [Data.sz, Data.isCells]
      · exact Nat.eq_of_mul_eq_mul_left h0 this
    rw [hzx, hz, ← Nat.add_mul, ← Nat.add_mul]
    exact Nat.mul_le_mul_right _ (by omega)
  have emp : ∀ A : Option Addr, d.len = 0 → sv = .slice A 0 0 →
      ∃ v w', (Builtin.append_ #[t, u] ty #[sv, xv]).run P w = .ok v w' ∧ ∃ ρ', Sub ρ ρ' ∧ (∀ l, ¬ (fr ≤ l ∧ l < fr + 1) → rat ρ' l = rat ρ l) ∧ Sim B w0 ρ' w' (fun k => if k = fr then some ⟨true, d'⟩ else if some k = kill then none else fh k) ∧ CR ρ' (.sl fr 0 d'.len) v := by
    intro A h0 hsv
    by_cases hn : dx.len = 0
    · subst hsv
      have hx0 : Src P w u xv 0 i.size dx.vals := by rw [← hn]; exact hx'
      refine ⟨_, _, app_none (ty := ty) hyt h1 hx0, rset ρ fr ⟨0, 0, 0, d'.sz, true⟩, rset_sub hfr, fun k hk => rset_out (n := 1) (by omega) hk, hs.fresh hfr (row := none) ⟨rfl, rfl, rfl, Nat.le_refl _, fun _ _ _ => rfl⟩ ⟨0, 0, 0, d'.sz, true⟩ d' kill (fun b hb => by cases hb) ⟨rfl, rfl, fun j c hj => ?_, fun _ => ⟨?_, .inl rfl⟩⟩ (.inl rfl), _, rset_at _ _ _, A, 0, by rw [f2, h0, hn], by rw [f2, h0, hn]; exact Nat.le_refl _, .inr ⟨by rw [f2, h0, hn], rfl⟩⟩
      · have := (List.getElem?_eq_some_iff.1 hj).1
        rw [flat_len f4, f2, h0, hn] at this
        simp at this
      · show d'.flat.length ≤ 0
        rw [flat_len f4, f2, h0, hn]; simp
    · refine grow A 0 ?_ (by omega) (by rw [h0]; exact hsv)
      have : d.vals = [] := List.eq_nil_of_length_eq_zero (by rw [vals_len hd, h0, Nat.zero_mul])
      rw [this, h0]
      exact firsts0 _ _ _
  rcases hsv with ⟨A, rfl, h0⟩ | ⟨l, hk, hf, lc, hlc, A, cap, hsv, hcap, hA⟩
  · exact emp A h0 rfl
  · rcases hA with ⟨hA, hown⟩ | ⟨h0, hc0⟩
    case inr => exact emp A h0 (by rw [hsv, h0, hc0])
    obtain ⟨lc', hlc', hrow, hpl⟩ := hs.row l _ hf
    rw [hlc] at hlc'
    obtain rfl := Option.some.inj hlc'
    have hlsz : lc.sz = d.sz := hrow.1
    have hlo : lc.own = true := hrow.2.1
    have hown := hown hlo
    subst hA
    simp only [Nat.zero_mul, Nat.add_zero, Nat.zero_add] at hsv hown
    by_cases hroom : d.len + dx.len ≤ cap
    · have hcz : (d.len + dx.len) * d.sz ≤ lc.n := by rw [hlsz] at hown; exact Nat.le_trans (Nat.mul_le_mul_right _ hroom) hown
      have hzx : dx.sz = d.sz := by
        cases d <;> cases dx <;> simp [Data.app] at happ <;> simp_all [Data.sz, Data.isCells]
      have hnl : dx.vals.length = dx.len * d.sz := by rw [vals_len hdx, hzx]
      by_cases hn0 : lc.n = 0
      · have hd0 : d.len + dx.len = 0 := by
          rcases Nat.eq_zero_or_pos (d.len + dx.len) with h | h
          · exact h
          · have := Nat.mul_pos h hszpos; omega
        have hx0 : Src P w u xv 0 i.size dx.vals := by rw [show (0 : Nat) = dx.len by omega]; exact hx'
        have hcap0 : cap = 0 := by
          rcases Nat.eq_zero_or_pos cap with h | h
          · exact h
          · have := Nat.mul_pos h (by rw [hlsz]; exact hszpos : 0 < lc.sz); omega
        exact emp _ (by omega) (by rw [hsv, hcap0]; congr 1; omega)
      · rcases (hrow.2.2.2 rfl).2 with h | ⟨cur, e', fz, g1, g2, g3⟩
        · exact absurd h hn0
        have hin : ∀ j, j < dx.vals.length → lc.o + d.len * i.size + j < cur.size := by
          intro j hj
          rw [h3, hz]
          rw [hnl] at hj
          rw [Nat.add_mul] at hcz
          omega
        have hrun := app_room (ty := ty) hyt h1 (b := lc.b) (off := lc.o) (sLen := d.len) (sCap := cap) hx' hroom (fun j hj => by simp [World.cell?, g1, hin j hj]) (fun j hj => by
          simp only [World.frozen?, g1]
          by_cases hzz : fz.1 ≤ lc.o + d.len * i.size + j ∧ lc.o + d.len * i.size + j < fz.2
          · have := g2.at hzz.1 hzz.2
            have := hin j hj
            omega
          · simp only [Bool.and_eq_false_iff, decide_eq_false_iff_not]
            omega)
        rw [← hsv] at hrun
        refine ⟨_, _, hrun, rset ρ fr lc, rset_sub hfr, fun k hk => rset_out (n := 1) (by omega) hk, hs.fresh hfr (setCells_grown w lc.b (lc.o + d.len * i.size) dx.vals) lc d' kill (fun b hb => ?_) ⟨by rw [f3]; exact hlsz, hlo, fun j c hj => ?_, fun _ => ⟨?_, .inr ?_⟩⟩ (.inr (.inl rfl)), lc, rset_at _ _ _, some ⟨lc.b, lc.o, none⟩, cap, by rw [f2], by rw [f2]; exact hroom, .inl ⟨by simp, fun _ => by simpa using hown⟩⟩
        · obtain rfl := Option.some.inj hb
          exact ⟨l, _, lc, hk, hf, rfl, hlc, hn0, rfl⟩
        · obtain ⟨v1, v2⟩ := vals_cr (ρ := rset ρ fr lc) f4 hj
          refine ⟨c.val, ?_, v2⟩
          rw [hvals] at v1
          by_cases hjd : j < d.vals.length
          · rw [List.getElem?_append_left hjd] at v1
            rw [World.cell?_setCells_out lc.b dx.vals _ w ⟨lc.b, lc.o + j, none⟩ (fun _ _ => .inl (by show lc.o + j < _; rw [vals_len hd] at hjd; rw [h3, hz]; omega))]
            exact vals_row hrow hd v1
          · rw [List.getElem?_append_right (by omega)] at v1
            have hjx := (List.getElem?_eq_some_iff.1 v1).1
            have := World.cell?_setCells_in lc.b dx.vals (lc.o + d.len * i.size) w (fun q hq => by simp [World.cell?, g1, hin q hq]) (j - d.vals.length) hjx
            rw [show lc.o + d.len * i.size + (j - d.vals.length) = lc.o + j by rw [h3, hz, vals_len hd]; rw [vals_len hd] at hjd; omega] at this
            rw [this, ← v1, List.getElem?_eq_getElem hjx]
        · show d'.flat.length ≤ lc.n
          rw [flat_len f4, f2, f3]; exact hcz
        · obtain ⟨cur', g4, g5⟩ := setCells_block lc.b dx.vals (lc.o + d.len * i.size) w cur e' fz g1
          exact ⟨cur', e', fz, g4, by rw [g5]; exact g2, by rw [g5]; exact g3⟩
    · refine grow (some ⟨lc.b, lc.o, none⟩) cap ?_ (by omega) hsv
      exact firsts (w := w) (size := i.size) (n := d.len) (cs := d.vals) (by rw [vals_len hd, h3, hz]) (fun j v hj => vals_row hrow hd hj) (fun _ => by simp)
/-- Less of a row may be told. -/
theorem Sim.cut (hs : Sim B w0 ρ w fh) {l : Nat} {d : Data} (hd : d.isCells = false) (hf : fh l = some ⟨true, d⟩) (n : Nat) : Sim B w0 ρ w (fun k => if k = l then some ⟨true, d.win 0 n⟩ else fh k) := by
  refine ⟨hs.os, hs.tape, hs.output, hs.size, hs.keep, fun k r hk => ?_, fun k k' lc lc' r r' hne hk hk' ho ho' hlc hlc' hn hn' => ?_⟩
  · by_cases e : k = l
    · subst e
      simp only [if_true, Option.some.injEq] at hk
      subst hk
      obtain ⟨lc, h1, h2, h3⟩ := hs.row k _ hf
      obtain ⟨w1, w2, w3⟩ := win_flat hd (o := 0) (n := n)
      have hd' : (d.win 0 n).isCells = false := by rw [win_cells]; exact hd
      refine ⟨lc, h1, ⟨h2.1.trans w1.symm, h2.2.1, fun i c hi => h2.2.2.1 i c (by simpa using w3 i c hi), fun _ => ⟨?_, (h2.2.2.2 rfl).2⟩⟩, h3⟩
      refine Nat.le_trans ?_ (h2.2.2.2 rfl).1
      show (d.win 0 n).flat.length ≤ d.flat.length
      rw [flat_len hd', flat_len hd, w1]
      exact Nat.mul_le_mul_right _ (by omega)
    · rw [if_neg e] at hk
      exact hs.row k r hk
  · have g : ∀ k r, (if k = l then some (⟨true, d.win 0 n⟩ : Row) else fh k) = some r → ∃ r0, fh k = some r0 ∧ (r.own = true → r0.own = true) := by
      intro k r hk
      by_cases e : k = l
      · subst e
        exact ⟨_, hf, fun _ => rfl⟩
      · rw [if_neg e] at hk
        exact ⟨r, hk, id⟩
    obtain ⟨a, ha, ha'⟩ := g k r hk
    obtain ⟨b, hb, hb'⟩ := g k' r' hk'
    exact hs.apart k k' lc lc' a b hne ha hb (ha' ho) (hb' ho') hlc hlc' hn hn'
/-! ### copy -/
theorem over_list {α : Type} (l m : List α) (o o2 n : Nat) (h1 : o + n ≤ l.length) (h2 : o2 + n ≤ m.length) :
    (l.take o ++ (m.drop o2).take n ++ l.drop (o + n)).length = l.length ∧ (∀ q, q < n → (l.take o ++ (m.drop o2).take n ++ l.drop (o + n))[o + q]? = ((m.drop o2).take n)[q]?) ∧ ∀ q, (q < o ∨ o + n ≤ q) → (l.take o ++ (m.drop o2).take n ++ l.drop (o + n))[q]? = l[q]? := by
  have hm : ((m.drop o2).take n).length = n := by simp; omega
  have ho : (l.take o).length = o := by simp; omega
  refine ⟨by simp; omega, fun q hq => ?_, fun q hq => ?_⟩
  · rw [List.append_assoc, List.getElem?_append_right (by omega), ho, List.getElem?_append_left (by omega)]
    congr 1; omega
  · rcases hq with hq | hq
    · rw [List.append_assoc, List.getElem?_append_left (by omega), List.getElem?_take, if_pos hq]
    · rw [List.getElem?_append_right (by simp; omega), List.getElem?_drop]
      congr 1
      simp
      omega
theorem over_stored {d d' e : Data} {o o2 n : Nat} (h : d.over o e o2 n = some d') (h1 : o + n ≤ d.len) (h2 : o2 + n ≤ e.len) :
    d.isCells = false ∧ e.isCells = false ∧ d.sz = 1 ∧ e.sz = 1 ∧ (e.win o2 n).len = n ∧ Stored d d' o (e.win o2 n).flat := by
  have key : ∀ {α : Type} (f : α → C) (l m : List α), o + n ≤ l.length → o2 + n ≤ m.length →
      (o + (((m.drop o2).take n).map f).length ≤ (l.map f).length ∧ ((l.take o ++ (m.drop o2).take n ++ l.drop (o + n)).map f).length = (l.map f).length ∧ (∀ q, q < (((m.drop o2).take n).map f).length → ((l.take o ++ (m.drop o2).take n ++ l.drop (o + n)).map f)[o + q]? = (((m.drop o2).take n).map f)[q]?) ∧ ∀ q, (q < o ∨ o + (((m.drop o2).take n).map f).length ≤ q) → ((l.take o ++ (m.drop o2).take n ++ l.drop (o + n)).map f)[q]? = (l.map f)[q]?) := by
    intro α f l m g1 g2
    obtain ⟨a1, a2, a3⟩ := over_list l m o o2 n g1 g2
    have hm : (((m.drop o2).take n).map f).length = n := by simp; omega
    rw [hm]
    refine ⟨by simpa using g1, by rw [List.length_map, a1, List.length_map], fun q hq => ?_, fun q hq => ?_⟩
    · rw [List.getElem?_map, a2 q hq, List.getElem?_map]
    · rw [List.getElem?_map, a3 q hq, List.getElem?_map]
  cases d <;> cases e <;> simp only [Data.over, reduceCtorEq] at h <;> first | (cases h; done) | skip
  · split at h
    · rename_i k l k' m hk
      obtain rfl := same_eq hk
      obtain rfl := Option.some.inj h
      simp only [Data.len] at h1 h2
      exact ⟨rfl, rfl, rfl, rfl, by simp [Data.win, Data.len]; omega, rfl, by show _ ∧ ((overL l o m o2 n).map (C.int k)).length = _ ∧ (∀ q, q < _ → ((overL l o m o2 n).map (C.int k))[o + q]? = _) ∧ (∀ q, _ → ((overL l o m o2 n).map (C.int k))[q]? = _); rw [show overL l o m o2 n = l.take o ++ (m.drop o2).take n ++ l.drop (o + n) from if_pos ⟨h1, h2⟩]; exact key (C.int k) l m h1 h2⟩
    · cases h
  · rename_i l m
    obtain rfl := Option.some.inj h
    simp only [Data.len] at h1 h2
    exact ⟨rfl, rfl, rfl, rfl, by simp [Data.win, Data.len]; omega, rfl, by show _ ∧ ((overL l o m o2 n).map C.str).length = _ ∧ (∀ q, q < _ → ((overL l o m o2 n).map C.str)[o + q]? = _) ∧ (∀ q, _ → ((overL l o m o2 n).map C.str)[q]? = _); rw [show overL l o m o2 n = l.take o ++ (m.drop o2).take n ++ l.drop (o + n) from if_pos ⟨h1, h2⟩]; exact key C.str l m h1 h2⟩
  · rename_i l m
    obtain rfl := Option.some.inj h
    simp only [Data.len] at h1 h2
    exact ⟨rfl, rfl, rfl, rfl, by simp [Data.win, Data.len]; omega, rfl, by show _ ∧ ((overL l o m o2 n).map C.bool).length = _ ∧ (∀ q, q < _ → ((overL l o m o2 n).map C.bool)[o + q]? = _) ∧ (∀ q, _ → ((overL l o m o2 n).map C.bool)[q]? = _); rw [show overL l o m o2 n = l.take o ++ (m.drop o2).take n ++ l.drop (o + n) from if_pos ⟨h1, h2⟩]; exact key C.bool l m h1 h2⟩
theorem copy_sound {t u ty e : TypeId} {y : Ty} (hyt : P.underlying t = some (.slice e)) (hy : TyOk P e y) (hz : y.sz = 1) {l off len l2 off2 len2 : Nat} {d d' : Data} {r2 : Row} (hf : fh l = some ⟨true, d⟩) (hf2 : fh l2 = some r2) {n : Nat} (hn : n = min len2 len)
    (hov : d.over off r2.d off2 n = some d') (h1 : off + len ≤ d.len) (h2 : off2 + len2 ≤ r2.d.len) (hs : Sim B w0 ρ w fh) {dv sv : Value} (hd : CR ρ (.sl l off len) dv) (hsv : CR ρ (.sl l2 off2 len2) sv) :
    ∃ w', (Builtin.copy_ #[t, u] ty #[dv, sv]).run P w = .ok (.int .i64 (n : Int)) w' ∧ Sim B w0 ρ w' (fun k => if k = l then some ⟨true, d'⟩ else fh k) := by
  obtain ⟨c1, c2, c3, c4, c5, hst⟩ := over_stored hov (by omega) (by omega)
  obtain ⟨w1, w2, w3⟩ := win_flat c2 (o := off2) (n := n)
  have c2' : (r2.d.win off2 n).isCells = false := by rw [win_cells]; exact c2
  have hfl : (r2.d.win off2 n).flat.length = n := by rw [flat_len c2', c5, w1, c4, Nat.mul_one]
  have hvl : (r2.d.win off2 n).vals.length = n := by rw [Data.vals, List.length_map, hfl]
  obtain ⟨i, dd, z, q1, q2, q3, q4, q5, q6, q7, q8, q9, q10⟩ := hy.1
  have hinfo : (P.info? e).map (·.size) = some 1 := by rw [q1]; simp [q3, hz]
  have hcs : CsR ρ (r2.d.win off2 n).flat (r2.d.win off2 n).vals := CsR.mk (by rw [hvl, hfl]) (fun j c hj => by
    obtain ⟨a, b⟩ := vals_cr (ρ := ρ) c2' hj
    exact ⟨_, a, b⟩)
  obtain ⟨lc, hlc, A, cap, rfl, hcap, hA⟩ := hd
  obtain ⟨lc2, hlc2, A2, cap2, rfl, hcap2, hA2⟩ := hsv
  by_cases h0 : n = 0
  · have hd' : d' = d := by
      subst h0
      cases hde : d <;> cases hee : r2.d <;> rw [hde, hee] at hov <;> simp only [Data.over, reduceCtorEq] at hov <;> first | (cases hov; done) | skip
      · split at hov
        · obtain rfl := Option.some.inj hov; simp [overL]
        · cases hov
      all_goals obtain rfl := Option.some.inj hov; simp [overL]
    refine ⟨w, ?_, ?_⟩
    · rw [run_copy_none w t u ty e A A2 len cap len2 cap2 hyt hinfo (by show min _ _ = 0; omega), h0]; rfl
    · have : (fun k => if k = l then some (⟨true, d'⟩ : Row) else fh k) = fh := by
        funext k
        by_cases e : k = l
        · subst e; rw [if_pos rfl, hd', hf]
        · rw [if_neg e]
      rw [this]; exact hs
  · rcases hA with ⟨rfl, hown⟩ | ⟨e1, _⟩
    case inr => omega
    rcases hA2 with ⟨rfl, _⟩ | ⟨e1, _⟩
    case inr => omega
    obtain ⟨lc', hlc', hrow, _⟩ := hs.row l _ hf
    rw [hlc] at hlc'
    obtain rfl := Option.some.inj hlc'
    obtain ⟨lc2', hlc2', hrow2, _⟩ := hs.row l2 _ hf2
    rw [hlc2] at hlc2'
    obtain rfl := Option.some.inj hlc2'
    have hsz : lc.sz = 1 := hrow.1.trans c3
    have hsz2 : lc2.sz = 1 := hrow2.1.trans c4
    have hdl : d.flat.length = d.len := by rw [flat_len c1, c3, Nat.mul_one]
    have hrun := run_copy_cells (P := P) w t u ty e lc.b (lc.o + off * lc.sz) len cap ⟨lc2.b, lc2.o + off2 * lc2.sz, none⟩ len2 cap2 (r2.d.win off2 n).vals hyt hinfo (by rw [hvl, hn])
      (fun j v hj => by
        rw [add_lit, hsz2, Nat.mul_one, Nat.add_assoc]
        refine vals_row hrow2 c2 ?_
        unfold Data.vals at hj ⊢
        rw [List.getElem?_map] at hj ⊢
        cases hq : (r2.d.win off2 n).flat[j]? with
        | none => rw [hq] at hj; cases hj
        | some c =>
          rw [hq] at hj
          have h5 := w3 j c hq
          rw [c4, Nat.mul_one] at h5
          rw [h5]; exact hj)
      (fun j hj => by
        obtain ⟨v, g1, _⟩ := hrow.2.2.1 (off + j) _ (List.getElem?_eq_getElem (by show off + j < d.flat.length; omega))
        rw [hsz, Nat.mul_one, Nat.add_assoc, g1]; rfl)
      (fun j hj => by
        have hn' := (hrow.2.2.2 rfl).1
        have hn' : d.flat.length ≤ lc.n := hn'
        rcases (hrow.2.2.2 rfl).2 with g0 | ⟨cur, e', fz, g1, g2, g3⟩
        · omega
        · simp only [World.frozen?, g1]
          rw [hsz]
          by_cases hz : fz.1 ≤ lc.o + off * 1 + j ∧ lc.o + off * 1 + j < fz.2
          · have := g2.at hz.1 hz.2
            omega
          · simp only [Bool.and_eq_false_iff, decide_eq_false_iff_not]
            omega)
      (vals_one c2')
    refine ⟨_, ?_, hs.store hf hlc hst hcs⟩
    rw [hrun, hvl, hsz, Nat.mul_one]; rfl
end Go.Proofs.YtmodnnokcmabhaaGreat.Den
