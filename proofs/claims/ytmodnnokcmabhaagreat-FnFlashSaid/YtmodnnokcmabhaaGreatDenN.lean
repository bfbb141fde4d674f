/- Each step that the reckoner takes is the model's step: a call of a Go function, by what is told of it. -/
import Derived.Test.YtmodnnokcmabhaaGreatDenM
namespace Go.Proofs.YtmodnnokcmabhaaGreat.Den
open Go Go.RowKit
set_option linter.unusedSimpArgs false
set_option linter.unusedVariables false
variable {P : Program} {tb : TypeId → Option Ty} {B : Nat → Prop} {w0 w w' : World} {ρ ρ' : Rho} {fh fh' : Nat → Option Row} {fr : Nat} {ev : Operand → AV} {ee : Operand → Value}

theorem updF_not : ∀ (u : List (Nat × Option Row)) (fh : Nat → Option Row) (l : Nat), (∀ x ∈ u, x.1 ≠ l) → updF fh u l = fh l
  | [], _, _, _ => rfl
  | (k, r) :: u, fh, l, h => by
    rw [updF, updF_not u _ l (fun x hx => h x (List.mem_cons_of_mem _ hx)), if_neg (fun e => h (k, r) List.mem_cons_self e.symm)]
theorem updF_mem : ∀ (u : List (Nat × Option Row)) (fh : Nat → Option Row) (l : Nat) (r : Option Row), (u.map (·.1)).Nodup → (l, r) ∈ u → updF fh u l = r
  | (k, r') :: u, fh, l, r, hn, h => by
    rw [List.map_cons, List.nodup_cons] at hn
    rcases List.mem_cons.1 h with e | h
    · obtain ⟨rfl, rfl⟩ := Prod.mk.inj e
      rw [updF, updF_not u _ l (fun x hx e => hn.1 (List.mem_map.2 ⟨x, hx, e⟩)), if_pos rfl]
    · rw [updF]; exact updF_mem u _ l r hn.2 h
theorem at?_go : ∀ (ks : List Nat) (l i j : Nat), at?.go l ks i = some j → i ≤ j ∧ ks[j - i]? = some l
  | [], _, _, _, h => by simp [at?.go] at h
  | k :: ks, l, i, j, h => by
    unfold at?.go at h
    split at h
    · rename_i he
      obtain rfl := Option.some.inj h
      exact ⟨Nat.le_refl _, by simp; simpa using he⟩
    · obtain ⟨h1, h2⟩ := at?_go ks l (i + 1) j h
      refine ⟨by omega, ?_⟩
      rw [show j - i = (j - (i + 1)) + 1 by omega]
      exact h2
theorem at?_some {ks : List Nat} {l i : Nat} (h : at? ks l = some i) : ks[i]? = some l := by
  have := (at?_go ks l 0 i h).2
  simpa using this
theorem nodupB_spec : ∀ {ks : List Nat}, nodupB ks = true → ks.Nodup
  | [], _ => List.nodup_nil
  | k :: ks, h => by
    simp only [nodupB, Bool.and_eq_true, Bool.not_eq_true', List.contains_eq_mem, decide_eq_false_iff_not] at h
    exact List.nodup_cons.2 ⟨h.1, nodupB_spec h.2⟩
theorem keepOk_spec : ∀ {keep : List (Nat × Bool)}, keepOk fh keep = true → ∀ x ∈ keep, ∃ r, fh x.1 = some r ∧ (x.2 = true → r.own = true)
  | (l, wr) :: r, h, x, hx => by
    simp only [keepOk, Bool.and_eq_true] at h
    rcases List.mem_cons.1 hx with rfl | hx
    · have h1 := h.1
      split at h1
      · rename_i o d he
        exact ⟨⟨o, d⟩, he, fun hw => by simp only at hw; subst hw; simpa using h1⟩
      · cases h1
    · exact keepOk_spec h.2 x hx
theorem ren_typed {d : Data} (hd : d.isCells = false) (τ : Nat → Option Nat) : d.ren τ = d := by cases d <;> first | rfl | cases hd
theorem ren_flat {d : Data} {τ : Nat → Option Nat} {i : Nat} {c : C} (h : (d.ren τ).flat[i]? = some c) : ∃ c0, d.flat[i]? = some c0 ∧ ∀ {ρ ρ' : Rho} {v : Value}, LeV τ ρ ρ' → CR ρ c0 v → CR ρ' c v := by
  by_cases hd : d.isCells = true
  · cases d <;> first | (cases hd; done) | skip
    all_goals
      rename_i l
      simp only [Data.ren, Data.flat, List.getElem?_map] at h ⊢
      cases hc : l[i]? with
      | none => rw [hc] at h; cases h
      | some c0 =>
        rw [hc] at h
        obtain rfl := Option.some.inj h
        exact ⟨c0, rfl, fun hle hc => hc.ren hle⟩
  · have hd : d.isCells = false := by simpa using hd
    rw [ren_typed hd] at h
    exact ⟨c, h, fun _ hc => (((scalar_typed hd h).2 _ hc).2 _)⟩
theorem ren_meta (d : Data) (τ : Nat → Option Nat) : (d.ren τ).sz = d.sz ∧ (d.ren τ).flat.length = d.flat.length := by
  cases d <;> simp [Data.ren, Data.sz, Data.flat]
theorem RowR.seen {r : Row} {lc lc' : Lc} {τ : Nat → Option Nat} {o : Bool} (h : RowR ρ w r lc) (hle : LeV τ ρ ρ') (hb : lc'.b = lc.b) (ho : lc'.o = lc.o) (hs : lc'.sz = lc.sz) (hn : lc'.n = lc.n) (hw : lc'.own = o) (hi : o = true → r.own = true) : RowR ρ' w ⟨o, r.d.ren τ⟩ lc' := by
  obtain ⟨h1, h2, h3, h4⟩ := h
  refine ⟨by rw [hs, h1]; exact (ren_meta _ _).1.symm, hw, fun i c hc => ?_, fun ht => ?_⟩
  · obtain ⟨c0, h5, h6⟩ := ren_flat hc
    obtain ⟨v, h7, h8⟩ := h3 i c0 h5
    exact ⟨v, by rw [hb, ho]; exact h7, h6 hle h8⟩
  · rw [hb, ho, hn]
    obtain ⟨h5, h6⟩ := h4 (hi ht)
    exact ⟨by show (r.d.ren τ).flat.length ≤ _; rw [(ren_meta _ _).2]; exact h5, h6⟩

section call
variable (ρ fh) in
/-- What a callee is told of places. -/
def rhoIn (keep : List (Nat × Bool)) (views : List Nat) (args : List AV) : Rho := fun i =>
  match (keep[i]? : Option (Nat × Bool)) with
  | some x => (rat ρ x.1).map fun lc => { lc with own := lc.own && x.2 }
  | none => match (views[i - keep.length]? : Option Nat) with
    | some p => match (args[p]? : Option AV) with
      | some (.v (.c (.sl l off _))) => (rat ρ l).map fun lc => { lc with o := lc.o + off * lc.sz, own := false }
      | _ => none
    | none => none
variable {keep : List (Nat × Bool)} {views : List Nat} {args : List AV}
theorem rhoIn_keep {i : Nat} {x : Nat × Bool} (h : keep[i]? = some x) : rat (rhoIn ρ keep views args) i = (rat ρ x.1).map fun lc => { lc with own := lc.own && x.2 } := by
  simp [rat, rhoIn, h]
theorem le_in : LeV (at? (keep.map (·.1))) ρ (rhoIn ρ keep views args) := by
  intro l l' lc h1 h2
  have h3 := at?_some h1
  rw [List.getElem?_map] at h3
  cases hk : keep[l']? with
  | none => rw [hk] at h3; cases h3
  | some x =>
    rw [hk] at h3
    simp only [Option.map_some, Option.some.injEq] at h3
    subst h3
    rw [rhoIn_keep hk, h2]
    exact ⟨_, rfl, rfl, rfl, rfl, rfl, fun h => by simp only [Bool.and_eq_true] at h; exact h.1⟩
theorem args_in : ∀ (xs : List AV) (vs : List Value) (p : Nat), (∀ j x, xs[j]? = some x → args[p + j]? = some x) → AVsR ρ xs vs → AVsR (rhoIn ρ keep views args) (argsIn (at? (keep.map (·.1))) views keep.length p xs) vs
  | [], vs, p, _, h => h
  | x :: xs, vs, p, hp, ⟨u, us, he, h1, h2⟩ => by
    subst he
    refine ⟨u, us, rfl, ?_, args_in xs us (p + 1) (fun j y hj => by have := hp (j + 1) y (by simpa using hj); rwa [show p + (j + 1) = p + 1 + j by omega] at this) h2⟩
    split
    · rename_i q hq
      have hv := at?_some hq
      split
      · rename_i l off len
        have ha := hp 0 _ rfl
        rw [Nat.add_zero] at ha
        obtain ⟨lc, hlc, A, cap, rfl, hcap, hA⟩ := h1
        have hkl : keep[keep.length + q]? = none := List.getElem?_eq_none (by omega)
        have hr : rat (rhoIn ρ keep views args) (keep.length + q) = some { lc with o := lc.o + off * lc.sz, own := false } := by
          simp only [rat, rhoIn, hkl, Nat.add_sub_cancel_left, hv, ha]
          show (rat ρ l).map _ = _
          rw [hlc]; rfl
        refine ⟨_, hr, A, cap, rfl, hcap, ?_⟩
        rcases hA with ⟨rfl, _⟩ | hA
        · exact .inl ⟨by simp, fun h => by cases h⟩
        · exact .inr hA
      · trivial
    · exact h1.ren le_in
def inB (ρ : Rho) (fh : Nat → Option Row) (keep : List (Nat × Bool)) : Nat → Prop := fun b =>
  ∃ l r lc, (l, true) ∈ keep ∧ fh l = some r ∧ r.own = true ∧ rat ρ l = some lc ∧ lc.n ≠ 0 ∧ lc.b = b
theorem inB_place (hs : Sim B w0 ρ w fh) {b : Nat} (h : inB ρ fh keep b) : w0.heap.size ≤ b ∨ B b := by
  obtain ⟨l, r, lc, h1, h2, h3, h4, h5, h6⟩ := h
  obtain ⟨lc', h7, h8, h9⟩ := hs.row l r h2
  rw [h4] at h7
  obtain rfl := Option.some.inj h7
  simp only [Place, h3, if_true] at h9
  rcases h9 with h9 | h9
  · exact absurd h9 h5
  · rw [← h6]; exact h9
theorem inB_ro (hs : Sim B w0 ρ w fh) {l : Nat} {r : Row} {lc : Lc} (hf : fh l = some r) (hlc : rat ρ l = some lc) (hne : (l, true) ∉ keep) (hr : r.d.flat ≠ []) : lc.b < w.heap.size ∧ ¬ inB ρ fh keep lc.b := by
  obtain ⟨lc', h7, h8, h9⟩ := hs.row l r hf
  rw [hlc] at h7
  obtain rfl := Option.some.inj h7
  by_cases ho : r.own = true
  · have hn : lc.n ≠ 0 := by
      have := (h8.2.2.2 ho).1
      have : 0 < r.d.flat.length := List.length_pos_iff.2 hr
      omega
    refine ⟨own_lt h8 ho hn, fun ⟨l2, r2, lc2, g1, g2, g3, g4, g5, g6⟩ => ?_⟩
    by_cases e : l = l2
    · subst e; exact hne g1
    · exact hs.apart l l2 lc lc2 r r2 e hf g2 ho g3 hlc g4 hn g5 g6.symm
  · simp only [Place, ho, if_false, Bool.false_eq_true] at h9
    rcases h9 with h9 | ⟨h9, h10⟩
    · exact absurd h9 hr
    · refine ⟨Nat.lt_of_lt_of_le h9 hs.size, fun h => ?_⟩
      rcases inB_place hs h with h | h
      · omega
      · exact h10 h
theorem sim_in (hs : Sim B w0 ρ w fh) (hnd : (keep.map (·.1)).Nodup) (hvk : ∀ p ∈ views, ∀ l off len, args[p]? = some (.v (.c (.sl l off len))) → (l, true) ∉ keep) : Sim (inB ρ fh keep) w (rhoIn ρ keep views args) w (hat (heapIn fh keep views args)) := by
  have hkeep : ∀ (i : Nat) (x : Nat × Bool), keep[i]? = some x → hat (heapIn fh keep views args) i = (fh x.1).map fun r => ⟨r.own && x.2, r.d.ren (at? (keep.map (·.1)))⟩ := by
    intro i x hx
    have hi : i < keep.length := (List.getElem?_eq_some_iff.1 hx).1
    simp only [hat, heapIn]
    rw [List.getElem?_append_left (by simpa using hi), List.getElem?_map, hx]
    simp only [Option.map_some]
    cases fh x.1 <;> rfl
  have hview : ∀ (i : Nat), keep[i]? = none → ∀ r, hat (heapIn fh keep views args) i = some r → ∃ p, views[i - keep.length]? = some p ∧ viewOf fh args p = some r := by
    intro i hi r hr
    have hi' : keep.length ≤ i := by
      rcases Nat.lt_or_ge i keep.length with h | h
      · rw [List.getElem?_eq_getElem h] at hi; cases hi
      · exact h
    simp only [hat, heapIn] at hr
    rw [List.getElem?_append_right (by simpa using hi'), List.getElem?_map, List.length_map] at hr
    cases hv : views[i - keep.length]? with
    | none => rw [hv] at hr; cases hr
    | some p =>
      rw [hv] at hr
      simp only [Option.map_some] at hr
      refine ⟨p, rfl, ?_⟩
      cases hvo : viewOf fh args p with
      | none => rw [hvo] at hr; cases hr
      | some r' => rw [hvo] at hr; exact hr
  refine ⟨rfl, rfl, rfl, Nat.le_refl _, fun _ _ _ => rfl, fun i r hr => ?_, fun i i' lc lc' r r' hne hr hr' ho ho' hlc hlc' hn hn' => ?_⟩
  · cases hk : keep[i]? with
    | some x =>
      rw [hkeep i x hk] at hr
      cases hf : fh x.1 with
      | none => rw [hf] at hr; cases hr
      | some r0 =>
        rw [hf] at hr
        simp only [Option.map_some, Option.some.injEq] at hr
        subst hr
        obtain ⟨lc, h1, h2, h3⟩ := hs.row _ _ hf
        refine ⟨{ lc with own := lc.own && x.2 }, by rw [rhoIn_keep hk, h1]; rfl, h2.seen le_in rfl rfl rfl rfl (by show (lc.own && x.2) = _; rw [h2.2.1]) (fun h => by simp only [Bool.and_eq_true] at h; exact h.1), ?_⟩
        unfold Place
        by_cases ho : r0.own = true ∧ x.2 = true
        · simp only [ho.1, ho.2, Bool.and_self, if_true]
          by_cases hn : lc.n = 0
          · exact .inl hn
          · refine .inr (.inr ⟨x.1, r0, lc, ?_, hf, ho.1, h1, hn, rfl⟩)
            have := List.mem_of_getElem? hk
            obtain ⟨xa, xb⟩ := x
            simp only at ho
            rw [ho.2] at this
            exact this
        · have hf' : (r0.own && x.2) = false := by
            cases h1 : r0.own <;> cases h2 : x.2 <;> simp_all
          simp only [hf', Bool.false_eq_true, if_false]
          by_cases hnil : r0.d.flat = []
          · left
            have := (ren_meta r0.d (at? (keep.map (·.1)))).2
            rw [hnil] at this
            exact List.eq_nil_of_length_eq_zero (by simpa using this)
          · right
            by_cases hro : (x.1, true) ∈ keep
            · -- the place stands with 'true': then x is that entry
              have hx2 : x.2 = true := by
                obtain ⟨j, hj, hje⟩ := List.getElem_of_mem hro
                have h4 := List.getElem?_eq_some_iff.1 hk
                obtain ⟨hil, hie⟩ := h4
                have : (keep.map (·.1))[i]'(by simpa using hil) = (keep.map (·.1))[j]'(by simpa using hj) := by simp [hie, hje]
                have hij := (List.getElem_inj hnd).1 this
                subst hij
                rw [← hie, hje]
              have hr0 : r0.own = false := by
                cases h : r0.own
                · rfl
                · exact absurd ⟨h, hx2⟩ ho
              simp only [Place, hr0, Bool.false_eq_true, if_false] at h3
              rcases h3 with h3 | ⟨h3, h4⟩
              · exact absurd h3 hnil
              · refine ⟨Nat.lt_of_lt_of_le h3 hs.size, fun h => ?_⟩
                rcases inB_place hs h with h | h
                · omega
                · exact h4 h
            · exact inB_ro hs hf h1 hro hnil
    | none =>
      obtain ⟨p, hp, hv⟩ := hview i hk r hr
      unfold viewOf at hv
      split at hv
      · rename_i l off len ha
        split at hv
        · rename_i r0 hf
          split at hv
          · cases hv
          · rename_i hc
            have hc : r0.d.isCells = false := by simpa using hc
            obtain rfl := Option.some.inj hv
            obtain ⟨lc, h1, h2, h3⟩ := hs.row _ _ hf
            have hri : rat (rhoIn ρ keep views args) i = some { lc with o := lc.o + off * lc.sz, own := false } := by
              simp only [rat, rhoIn, hk, hp, ha]
              show (rat ρ l).map _ = _
              rw [h1]; rfl
            obtain ⟨v1, v2, v3⟩ := win_flat hc (o := off) (n := len)
            refine ⟨_, hri, ⟨by rw [h2.1]; exact v1.symm, rfl, fun j c hj => ?_, fun h => by cases h⟩, ?_⟩
            · have h5 := v3 j c hj
              obtain ⟨v, h6, h7⟩ := h2.2.2.1 _ _ h5
              refine ⟨v, ?_, ((scalar_typed hc h5).2 _ h7).2 _⟩
              show w.cell? ⟨lc.b, lc.o + off * lc.sz + j, none⟩ = _
              rw [show lc.sz = r0.d.sz from h2.1, Nat.add_assoc]; exact h6
            · simp only [Place, Bool.false_eq_true, if_false]
              by_cases hnil : r0.d.flat = []
              · left
                refine List.eq_nil_of_length_eq_zero ?_
                rcases Nat.eq_zero_or_pos (r0.d.win off len).flat.length with h | h
                · exact h
                · have := v3 0 _ (List.getElem?_eq_getElem h)
                  rw [hnil] at this
                  simp at this
              · exact .inr (inB_ro hs hf h1 (hvk p (List.mem_of_getElem? hp) l off len ha) hnil)
        · cases hv
      · cases hv
  · have own_keep : ∀ i r lc, hat (heapIn fh keep views args) i = some r → r.own = true → rat (rhoIn ρ keep views args) i = some lc → ∃ x r0 lc0, keep[i]? = some x ∧ fh x.1 = some r0 ∧ r0.own = true ∧ rat ρ x.1 = some lc0 ∧ lc.n = lc0.n ∧ lc.b = lc0.b := by
      intro i r lc hr ho hlc
      cases hk : keep[i]? with
      | some x =>
        rw [hkeep i x hk] at hr
        cases hf : fh x.1 with
        | none => rw [hf] at hr; cases hr
        | some r0 =>
          rw [hf] at hr
          simp only [Option.map_some, Option.some.injEq] at hr
          subst hr
          obtain ⟨lc0, h1, _, _⟩ := hs.row _ _ hf
          rw [rhoIn_keep hk, h1] at hlc
          simp only [Option.map_some, Option.some.injEq] at hlc
          subst hlc
          simp only [Bool.and_eq_true] at ho
          exact ⟨x, r0, lc0, rfl, hf, ho.1, h1, rfl, rfl⟩
      | none =>
        obtain ⟨p, hp, hv⟩ := hview i hk r hr
        unfold viewOf at hv
        split at hv
        · split at hv
          · split at hv
            · cases hv
            · obtain rfl := Option.some.inj hv
              cases ho
          · cases hv
        · cases hv
    obtain ⟨x, r0, lc0, a1, a2, a3, a4, a5, a6⟩ := own_keep i r lc hr ho hlc
    obtain ⟨x', r0', lc0', b1, b2, b3, b4, b5, b6⟩ := own_keep i' r' lc' hr' ho' hlc'
    have hxx : x.1 ≠ x'.1 := by
      intro e
      obtain ⟨hil, hie⟩ := List.getElem?_eq_some_iff.1 a1
      obtain ⟨hil', hie'⟩ := List.getElem?_eq_some_iff.1 b1
      have : (keep.map (·.1))[i]'(by simpa using hil) = (keep.map (·.1))[i']'(by simpa using hil') := by simp [hie, hie', e]
      exact hne ((List.getElem_inj hnd).1 this)
    rw [a6, b6]
    exact hs.apart _ _ lc0 lc0' r0 r0' hxx a2 b2 a3 b3 a4 b4 (by rw [← a5]; exact hn) (by rw [← b5]; exact hn')
end call
end Go.Proofs.YtmodnnokcmabhaaGreat.Den
