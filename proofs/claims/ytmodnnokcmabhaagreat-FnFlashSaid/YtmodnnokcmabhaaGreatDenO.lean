/- Each step that the reckoner takes is the model's step: behind a call. -/
import Derived.Test.YtmodnnokcmabhaaGreatDenN
namespace Go.Proofs.YtmodnnokcmabhaaGreat.Den
open Go Go.RowKit
set_option linter.unusedSimpArgs false
set_option linter.unusedVariables false
variable {P : Program} {tb : TypeId → Option Ty} {B : Nat → Prop} {w0 w w' : World} {ρ ρ' : Rho} {fh fh' : Nat → Option Row} {fr : Nat} {ev : Operand → AV} {ee : Operand → Value}
variable {keep : List (Nat × Bool)} {views : List Nat} {args : List AV}

/-- The places behind a call. -/
def rhoOut (ρ ρ1 : Rho) (m n fr : Nat) : Rho := fun l => if fr ≤ l ∧ l < fr + n then ρ1 (m + (l - fr)) else ρ l
theorem rhoOut_new {ρ1 : Rho} {m n fr j : Nat} (h : j < n) : rat (rhoOut ρ ρ1 m n fr) (fr + j) = rat ρ1 (m + j) := by
  simp only [rat, rhoOut]
  rw [if_pos ⟨by omega, by omega⟩, Nat.add_sub_cancel_left]
theorem rhoOut_old {ρ1 : Rho} {m n fr l : Nat} (h : ¬ (fr ≤ l ∧ l < fr + n)) : rat (rhoOut ρ ρ1 m n fr) l = rat ρ l := by
  simp only [rat, rhoOut, if_neg h]
theorem mem_keepOut {τ : Nat → Option Nat} {h : Heap} : ∀ (k : List (Nat × Bool)) (i : Nat) (x : Nat × Option Row), x ∈ keepOut τ h i k → ∃ j, k[j]? = some (x.1, true) ∧ x.2 = (hat h (i + j)).map (Row.ren τ)
  | [], i, x, hx => by simp [keepOut] at hx
  | (l, true) :: r, i, x, hx => by
    rw [keepOut] at hx
    rcases List.mem_cons.1 hx with rfl | hx
    · exact ⟨0, rfl, rfl⟩
    · obtain ⟨j, h1, h2⟩ := mem_keepOut r (i + 1) x hx
      exact ⟨j + 1, by simpa using h1, by rw [h2, show i + 1 + j = i + (j + 1) by omega]⟩
  | (l, false) :: r, i, x, hx => by
    rw [keepOut] at hx
    obtain ⟨j, h1, h2⟩ := mem_keepOut r (i + 1) x hx
    exact ⟨j + 1, by simpa using h1, by rw [h2, show i + 1 + j = i + (j + 1) by omega]⟩
theorem keepOut_mem {τ : Nat → Option Nat} {h : Heap} : ∀ (k : List (Nat × Bool)) (i j : Nat) (l : Nat), k[j]? = some (l, true) → (l, (hat h (i + j)).map (Row.ren τ)) ∈ keepOut τ h i k
  | [], i, j, l, hx => by simp at hx
  | (k, b) :: r, i, 0, l, hx => by
    simp only [List.getElem?_cons_zero, Option.some.injEq, Prod.mk.injEq] at hx
    obtain ⟨rfl, rfl⟩ := hx
    rw [keepOut]; exact List.mem_cons_self
  | (k, b) :: r, i, j + 1, l, hx => by
    have := keepOut_mem (τ := τ) (h := h) r (i + 1) j l (by simpa using hx)
    rw [show i + 1 + j = i + (j + 1) by omega] at this
    cases b <;> rw [keepOut]
    · exact this
    · exact List.mem_cons_of_mem _ this
theorem newOut_at {τ : Nat → Option Nat} : ∀ (h : Heap) (fr : Nat), (newOut τ fr h).map (·.1) = (List.range' fr h.length) ∧ ∀ x ∈ newOut τ fr h, ∃ j, x.1 = fr + j ∧ j < h.length ∧ ∀ r, x.2 = some r → r.own = true ∧ ∃ d, h[j]? = some (some ⟨true, d⟩) ∧ r = ⟨true, d.ren τ⟩
  | [], fr => ⟨rfl, fun x hx => by simp [newOut] at hx⟩
  | some ⟨true, d⟩ :: t, fr => by
    obtain ⟨h1, h2⟩ := newOut_at t (fr + 1)
    rw [newOut]
    refine ⟨by rw [List.map_cons, h1, List.length_cons, List.range'_succ], fun x hx => ?_⟩
    rcases List.mem_cons.1 hx with rfl | hx
    · exact ⟨0, rfl, by simp, fun r hr => by simp only [Option.some.injEq] at hr; subst hr; exact ⟨rfl, d, rfl, rfl⟩⟩
    · obtain ⟨j, a, b, c⟩ := h2 x hx
      exact ⟨j + 1, by omega, by simp; omega, fun r hr => by simpa using c r hr⟩
  | some ⟨false, d⟩ :: t, fr => by
    obtain ⟨h1, h2⟩ := newOut_at t (fr + 1)
    rw [newOut]
    · refine ⟨by rw [List.map_cons, h1, List.length_cons, List.range'_succ], fun x hx => ?_⟩
      rcases List.mem_cons.1 hx with rfl | hx
      · exact ⟨0, rfl, by simp, fun r hr => by cases hr⟩
      · obtain ⟨j, a, b, c⟩ := h2 x hx
        exact ⟨j + 1, by omega, by simp; omega, fun r hr => by simpa using c r hr⟩
    · intro d' hd'; cases hd'
  | none :: t, fr => by
    obtain ⟨h1, h2⟩ := newOut_at t (fr + 1)
    rw [newOut]
    · refine ⟨by rw [List.map_cons, h1, List.length_cons, List.range'_succ], fun x hx => ?_⟩
      rcases List.mem_cons.1 hx with rfl | hx
      · exact ⟨0, rfl, by simp, fun r hr => by cases hr⟩
      · obtain ⟨j, a, b, c⟩ := h2 x hx
        exact ⟨j + 1, by omega, by simp; omega, fun r hr => by simpa using c r hr⟩
    · intro d' hd'; cases hd'
theorem keepOut_keys {τ : Nat → Option Nat} {h : Heap} : ∀ (k : List (Nat × Bool)) (i : Nat), (k.map (·.1)).Nodup → ((keepOut τ h i k).map (·.1)).Nodup
  | [], _, _ => List.nodup_nil
  | (l, b) :: r, i, hn => by
    rw [List.map_cons, List.nodup_cons] at hn
    cases b <;> rw [keepOut]
    · exact keepOut_keys r (i + 1) hn.2
    · rw [List.map_cons, List.nodup_cons]
      refine ⟨fun hm => ?_, keepOut_keys r (i + 1) hn.2⟩
      obtain ⟨x, hx, he⟩ := List.mem_map.1 hm
      obtain ⟨j, h1, _⟩ := mem_keepOut r (i + 1) x hx
      simp only at he
      rw [he] at h1
      exact hn.1 (List.mem_map.2 ⟨(l, true), List.mem_of_getElem? h1, rfl⟩)

theorem sim_out {ro : List Nat} (hro : ∀ l ∈ ro, ∃ d, fh l = some ⟨false, d⟩) (hs : Sim B w0 ρ w fh) (hnd : (keep.map (·.1)).Nodup) (hko : ∀ x ∈ keep, ∃ r, fh x.1 = some r ∧ (x.2 = true → r.own = true)) {m n : Nat} (hm : m = keep.length + views.length) {h' : Heap} (hn : n = h'.length - m) (hml : m ≤ h'.length)
    (hfr : ∀ j, fr ≤ j → j < fr + n → rat ρ j = none) {ρ1 : Rho} (hs1 : Sim (inB ρ fh keep) w ρ1 w' (hat h')) (hsub : Sub (rhoIn ρ keep views args) ρ1) :
    LeV (outN ro keep m n fr) ρ1 (rhoOut ρ ρ1 m n fr) ∧ Sub ρ (rhoOut ρ ρ1 m n fr) ∧ Sim B w0 (rhoOut ρ ρ1 m n fr) w' (updF fh (keepOut (outN ro keep m n fr) h' 0 keep ++ newOut (outN ro keep m n fr) fr (h'.drop m))) := by
  have hkeepat : ∀ (i : Nat) (x : Nat × Bool), keep[i]? = some x → ∃ r lc, fh x.1 = some r ∧ rat ρ x.1 = some lc ∧ RowR ρ w r lc ∧ Place B w0 r lc ∧ (x.2 = true → r.own = true) ∧ rat ρ1 i = some { lc with own := lc.own && x.2 } := by
    intro i x hx
    obtain ⟨r, h1, h2⟩ := hko x (List.mem_of_getElem? hx)
    obtain ⟨lc, h3, h4, h5⟩ := hs.row _ _ h1
    exact ⟨r, lc, h1, h3, h4, h5, h2, hsub _ _ (by rw [rhoIn_keep hx, h3]; rfl)⟩
  have hout : ∀ l, ¬ (fr ≤ l ∧ l < fr + n) → rat (rhoOut ρ ρ1 m n fr) l = rat ρ l := fun l h => rhoOut_old h
  have hkfr : ∀ x ∈ keep, ¬ (fr ≤ x.1 ∧ x.1 < fr + n) := by
    intro x hx h
    obtain ⟨r, h1, _⟩ := hko x hx
    obtain ⟨lc, h3, _⟩ := hs.row _ _ h1
    rw [hfr _ h.1 h.2] at h3
    cases h3
  have hle : LeV (outN ro keep m n fr) ρ1 (rhoOut ρ ρ1 m n fr) := by
    intro i l' lc hi hlc
    unfold outN at hi
    split at hi
    · rename_i l hk
      obtain rfl := Option.some.inj hi
      obtain ⟨r, lc0, h1, h2, h3, h4, h5, h6⟩ := hkeepat i _ hk
      rw [hlc] at h6
      obtain rfl := Option.some.inj h6
      refine ⟨lc0, ?_, rfl, rfl, rfl, rfl, fun h => by simpa using h⟩
      rw [hout _ (hkfr _ (List.mem_of_getElem? hk))]; exact h2
    · rename_i l hk
      split at hi
      · rename_i hc
        obtain rfl := Option.some.inj hi
        obtain ⟨r, lc0, h1, h2, h3, h4, h5, h6⟩ := hkeepat i _ hk
        rw [hlc] at h6
        obtain rfl := Option.some.inj h6
        obtain ⟨d, hd⟩ := hro l (by simpa using hc)
        rw [h1] at hd
        have hown : lc0.own = false := by rw [h3.2.1, Option.some.inj hd]
        refine ⟨lc0, ?_, rfl, rfl, rfl, rfl, fun h => by rw [hown] at h; cases h⟩
        rw [hout _ (hkfr _ (List.mem_of_getElem? hk))]; exact h2
      · cases hi
    · split at hi
      · cases hi
      · rename_i hk h1
        split at hi
        · rename_i h2
          obtain rfl := Option.some.inj hi
          have h1 : ¬ i < m := by simpa [Nat.blt_eq] using h1
          have h2 : i < m + n := by simpa [Nat.blt_eq] using h2
          refine ⟨lc, ?_, rfl, rfl, rfl, rfl, fun h => h⟩
          rw [rhoOut_new (by omega), show m + (i - m) = i by omega]; exact hlc
        · cases hi
  have hsubρ : Sub ρ (rhoOut ρ ρ1 m n fr) := by
    intro l lc hl
    by_cases h : fr ≤ l ∧ l < fr + n
    · rw [hfr l h.1 h.2] at hl; cases hl
    · rw [hout l h]; exact hl
  obtain ⟨hk1, hk2⟩ := newOut_at (τ := outN ro keep m n fr) (h'.drop m) fr
  have hlen : (h'.drop m).length = n := by rw [List.length_drop, hn]
  have hkeys : ((keepOut (outN ro keep m n fr) h' 0 keep ++ newOut (outN ro keep m n fr) fr (h'.drop m)).map (·.1)).Nodup := by
    rw [List.map_append, hk1, hlen]
    refine List.nodup_append.2 ⟨keepOut_keys keep 0 hnd, List.nodup_range', fun a ha b hb e => ?_⟩
    subst e
    obtain ⟨x, hx, he⟩ := List.mem_map.1 ha
    obtain ⟨j, h1, _⟩ := mem_keepOut keep 0 x hx
    rw [List.mem_range'_1] at hb
    exact hkfr _ (List.mem_of_getElem? h1) (by simp only at he ⊢; omega)
  -- what stands where
  have cases_ : ∀ l r, updF fh (keepOut (outN ro keep m n fr) h' 0 keep ++ newOut (outN ro keep m n fr) fr (h'.drop m)) l = some r →
      (∃ i r1, keep[i]? = some (l, true) ∧ hat h' i = some r1 ∧ r = r1.ren (outN ro keep m n fr)) ∨ (∃ j d, l = fr + j ∧ j < n ∧ hat h' (m + j) = some ⟨true, d⟩ ∧ r = ⟨true, d.ren (outN ro keep m n fr)⟩) ∨ ((l, true) ∉ keep ∧ ¬ (fr ≤ l ∧ l < fr + n) ∧ fh l = some r) := by
    intro l r hl
    by_cases h1 : (l, true) ∈ keep
    · obtain ⟨i, hi⟩ := List.getElem?_of_mem h1
      have hm1 := keepOut_mem (τ := outN ro keep m n fr) (h := h') keep 0 i l hi
      rw [updF_mem _ _ _ _ hkeys (List.mem_append_left _ hm1), Nat.zero_add] at hl
      cases hh : hat h' i with
      | none => rw [hh] at hl; cases hl
      | some r1 =>
        rw [hh] at hl
        exact .inl ⟨i, r1, hi, hh, (Option.some.inj hl).symm⟩
    · by_cases h2 : fr ≤ l ∧ l < fr + n
      · have hmem : l ∈ (newOut (outN ro keep m n fr) fr (h'.drop m)).map (·.1) := by
          rw [hk1, hlen, List.mem_range'_1]; omega
        obtain ⟨x, hx, he⟩ := List.mem_map.1 hmem
        subst he
        rw [updF_mem _ _ x.1 x.2 hkeys (List.mem_append_right _ hx)] at hl
        obtain ⟨j, a, b, c⟩ := hk2 x hx
        obtain ⟨c1, d, c2, c3⟩ := c r hl
        rw [List.getElem?_drop] at c2
        exact .inr (.inl ⟨j, d, a, by omega, by simp [hat, c2], c3⟩)
      · refine .inr (.inr ⟨h1, h2, ?_⟩)
        rw [updF_not] at hl
        · exact hl
        · intro x hx e
          subst e
          rcases List.mem_append.1 hx with hx | hx
          · obtain ⟨j, g1, _⟩ := mem_keepOut keep 0 x hx
            exact h1 (List.mem_of_getElem? g1)
          · obtain ⟨j, a, b, _⟩ := hk2 x hx
            exact h2 (by omega)
  have keepRow : ∀ i l r1, keep[i]? = some (l, true) → hat h' i = some r1 → ∃ lc, rat ρ l = some lc ∧ rat ρ1 i = some lc ∧ r1.own = true ∧ lc.own = true ∧ RowR ρ1 w' r1 lc ∧ Place (inB ρ fh keep) w r1 lc := by
    intro i l r1 hi hr1
    obtain ⟨r, lc0, h1, h2, h3, h4, h5, h6⟩ := hkeepat i _ hi
    obtain ⟨lc1, g1, g2, g3⟩ := hs1.row i r1 hr1
    rw [h6] at g1
    simp only [Bool.and_true, Option.some.injEq] at g1
    subst g1
    have ho : lc0.own = true := by rw [h3.2.1]; exact h5 rfl
    exact ⟨lc0, h2, by simpa using h6, by rw [← g2.2.1]; exact ho, ho, g2, g3⟩
  have oldBlk : ∀ l r lc, (l, true) ∉ keep → fh l = some r → rat ρ l = some lc → (r.own = true ∧ lc.n = 0) ∨ r.d.flat = [] ∧ r.own = false ∨ w'.heap[lc.b]? = w.heap[lc.b]? := by
    intro l r lc hl hf hlc
    obtain ⟨lc', g1, g2, g3⟩ := hs.row l r hf
    rw [hlc] at g1
    obtain rfl := Option.some.inj g1
    by_cases hnil : r.d.flat = []
    · cases ho : r.own
      · exact .inr (.inl ⟨hnil, rfl⟩)
      · by_cases hn0 : lc.n = 0
        · exact .inl ⟨rfl, hn0⟩
        · refine .inr (.inr (hs1.keep _ (own_lt g2 ho hn0) (fun ⟨l2, r2, lc2, q1, q2, q3, q4, q5, q6⟩ => ?_)))
          by_cases e : l = l2
          · subst e; exact hl q1
          · exact hs.apart l l2 lc lc2 r r2 e hf q2 ho q3 hlc q4 hn0 q5 q6.symm
    · obtain ⟨a, b⟩ := inB_ro hs hf hlc hl hnil
      exact .inr (.inr (hs1.keep _ a b))
  have newPlace : ∀ j d lc, rat ρ1 (m + j) = some lc → hat h' (m + j) = some ⟨true, d⟩ → lc.n ≠ 0 → w.heap.size ≤ lc.b ∨ inB ρ fh keep lc.b := by
    intro j d lc hlc hh hn0
    obtain ⟨lc', g1, g2, g3⟩ := hs1.row _ _ hh
    rw [hlc] at g1
    obtain rfl := Option.some.inj g1
    simp only [Place, if_true] at g3
    rcases g3 with g3 | g3
    · exact absurd g3 hn0
    · exact g3
  refine ⟨hle, hsubρ, hs1.os.trans hs.os, hs1.tape.trans hs.tape, hs1.output.trans hs.output, Nat.le_trans hs.size hs1.size, fun k hk hB => ?_, fun l r hl => ?_, fun l l' lc lc' r r' hne hl hl' ho ho' hlc hlc' hn0 hn0' => ?_⟩
  · rw [hs1.keep k (Nat.lt_of_lt_of_le hk hs.size) (fun h => ?_)]
    · exact hs.keep k hk hB
    · rcases inB_place hs h with h | h
      · omega
      · exact hB h
  · rcases cases_ l r hl with ⟨i, r1, hi, hr1, rfl⟩ | ⟨j, d, rfl, hj, hh, rfl⟩ | ⟨h1, h2, h3⟩
    · obtain ⟨lc, g1, g2, g3, g4, g5, g6⟩ := keepRow i l r1 hi hr1
      refine ⟨lc, hsubρ _ _ g1, g5.seen hle rfl rfl rfl rfl (by rw [g3]; exact g4) (fun h => h), ?_⟩
      obtain ⟨r, lc0, q1, q2, q3, q4, q5, q6⟩ := hkeepat i _ hi
      rw [g1] at q2
      obtain rfl := Option.some.inj q2
      simp only [Place, q5 rfl, if_true] at q4
      simp only [Place, Row.ren, g3, if_true]
      exact q4
    · obtain ⟨lc, g1, g2, g3⟩ := hs1.row _ _ hh
      refine ⟨lc, by rw [rhoOut_new hj]; exact g1, g2.seen hle rfl rfl rfl rfl g2.2.1 (fun h => h), ?_⟩
      simp only [Place, if_true]
      by_cases hn0 : lc.n = 0
      · exact .inl hn0
      · rcases newPlace j d lc g1 hh hn0 with h | h
        · exact .inr (.inl (Nat.le_trans hs.size h))
        · exact .inr (inB_place hs h)
    · obtain ⟨lc, g1, g2, g3⟩ := hs.row l r h3
      exact ⟨lc, hsubρ _ _ g1, g2.move hsubρ (oldBlk l r lc h1 h3 g1), g3⟩
  · -- no two own rows in one block
    have kk : ∀ i l r1 lc, keep[i]? = some (l, true) → hat h' i = some r1 → rat (rhoOut ρ ρ1 m n fr) l = some lc → rat ρ l = some lc ∧ rat ρ1 i = some lc ∧ r1.own = true := by
      intro i l r1 lc hi hr1 h
      obtain ⟨lc0, g1, g2, g3, g4, g5, g6⟩ := keepRow i l r1 hi hr1
      rw [hsubρ _ _ g1] at h
      obtain rfl := Option.some.inj h
      exact ⟨g1, g2, g3⟩
    have ko : ∀ i l lc l' lc' r' r1, keep[i]? = some (l, true) → hat h' i = some r1 → rat (rhoOut ρ ρ1 m n fr) l = some lc → (l', true) ∉ keep → fh l' = some r' → r'.own = true → ¬ (fr ≤ l' ∧ l' < fr + n) → rat (rhoOut ρ ρ1 m n fr) l' = some lc' → lc.n ≠ 0 → lc'.n ≠ 0 → lc.b ≠ lc'.b := by
      intro i l lc l' lc' r' r1 hi hr1 h hl' hf' ho' hfr' h' hn0 hn0'
      obtain ⟨a1, a2, a3⟩ := kk i l r1 lc hi hr1 h
      obtain ⟨r, lc0, q1, q2, q3, q4, q5, q6⟩ := hkeepat i _ hi
      rw [hout _ hfr'] at h'
      refine hs.apart l l' lc lc' r r' (fun e => ?_) q1 hf' (q5 rfl) ho' a1 h' hn0 hn0'
      subst e
      exact hl' (List.mem_of_getElem? hi)
    have kn : ∀ i l lc j d r1 lc', keep[i]? = some (l, true) → hat h' i = some r1 → rat (rhoOut ρ ρ1 m n fr) l = some lc → j < n → hat h' (m + j) = some ⟨true, d⟩ → rat (rhoOut ρ ρ1 m n fr) (fr + j) = some lc' → lc.n ≠ 0 → lc'.n ≠ 0 → lc.b ≠ lc'.b := by
      intro i l lc j d r1 lc' hi hr1 h hj hh h' hn0 hn0'
      obtain ⟨a1, a2, a3⟩ := kk i l r1 lc hi hr1 h
      rw [rhoOut_new hj] at h'
      have hil := (List.getElem?_eq_some_iff.1 hi).1
      exact hs1.apart i (m + j) lc lc' r1 ⟨true, d⟩ (by omega) hr1 hh a3 rfl a2 h' hn0 hn0'
    have no : ∀ j d lc l' lc' r', j < n → hat h' (m + j) = some ⟨true, d⟩ → rat (rhoOut ρ ρ1 m n fr) (fr + j) = some lc → (l', true) ∉ keep → fh l' = some r' → r'.own = true → ¬ (fr ≤ l' ∧ l' < fr + n) → rat (rhoOut ρ ρ1 m n fr) l' = some lc' → lc.n ≠ 0 → lc'.n ≠ 0 → lc.b ≠ lc'.b := by
      intro j d lc l' lc' r' hj hh h hl' hf' ho' hfr' h' hn0 hn0'
      rw [rhoOut_new hj] at h
      rw [hout _ hfr'] at h'
      obtain ⟨lcx, g1, g2, g3⟩ := hs.row l' r' hf'
      rw [h'] at g1
      obtain rfl := Option.some.inj g1
      have hlt := own_lt g2 ho' hn0'
      rcases newPlace j d lc h hh hn0 with hp | ⟨l2, r2, lc2, q1, q2, q3, q4, q5, q6⟩
      · omega
      · rw [← q6]
        exact hs.apart l2 l' lc2 lc' r2 r' (fun e => by subst e; exact hl' q1) q2 hf' q3 ho' q4 h' q5 hn0'
    rcases cases_ l r hl with ⟨i, r1, hi, hr1, rfl⟩ | ⟨j, d, rfl, hj, hh, rfl⟩ | ⟨h1, h2, h3⟩ <;>
    rcases cases_ l' r' hl' with ⟨i', r1', hi', hr1', rfl⟩ | ⟨j', d', rfl, hj', hh', rfl⟩ | ⟨h1', h2', h3'⟩
    · obtain ⟨a1, a2, a3⟩ := kk i l r1 lc hi hr1 hlc
      obtain ⟨b1, b2, b3⟩ := kk i' l' r1' lc' hi' hr1' hlc'
      exact hs1.apart i i' lc lc' r1 r1' (fun e => by subst e; rw [hi] at hi'; simp at hi'; exact hne hi') hr1 hr1' a3 b3 a2 b2 hn0 hn0'
    · exact kn i l lc j' d' r1 lc' hi hr1 hlc hj' hh' hlc' hn0 hn0'
    · exact ko i l lc l' lc' r' r1 hi hr1 hlc h1' h3' ho' h2' hlc' hn0 hn0'
    · exact (kn i' l' lc' j d r1' lc hi' hr1' hlc' hj hh hlc hn0' hn0).symm
    · rw [rhoOut_new hj] at hlc
      rw [rhoOut_new hj'] at hlc'
      exact hs1.apart _ _ lc lc' _ _ (by omega) hh hh' rfl rfl hlc hlc' hn0 hn0'
    · exact no j d lc l' lc' r' hj hh hlc h1' h3' ho' h2' hlc' hn0 hn0'
    · exact (ko i' l' lc' l lc r r1' hi' hr1' hlc' h1 h3 ho h2 hlc hn0' hn0).symm
    · exact (no j' d' lc' l lc r hj' hh' hlc' h1 h3 ho h2 hlc hn0' hn0).symm
    · rw [hout _ h2] at hlc
      rw [hout _ h2'] at hlc'
      exact hs.apart l l' lc lc' r r' hne h3 h3' ho ho' hlc hlc' hn0 hn0'

theorem updF_append : ∀ (a b : List (Nat × Option Row)) (f : Nat → Option Row), updF f (a ++ b) = updF (updF f a) b
  | [], _, _ => rfl
  | (k, r) :: a, b, f => by rw [List.cons_append, updF, updF_append a b]; rfl
theorem denil_len : ∀ (ks : List DK) (fr : Nat) (cs : List C), (denil ks fr cs).1.length = cs.length ∧ (denil ks fr cs).1.any C.isUndef = cs.any C.isUndef
  | [], _, cs => ⟨rfl, rfl⟩
  | _ :: _, _, [] => ⟨rfl, rfl⟩
  | dk :: ks, fr, c :: cs => by
    unfold denil
    split
    · obtain ⟨h1, h2⟩ := denil_len ks (fr + 1) cs
      exact ⟨by simp [h1], by simp only [List.any_cons, h2]; rfl⟩
    · obtain ⟨h1, h2⟩ := denil_len ks fr cs
      exact ⟨by simp [h1], by simp only [List.any_cons, h2]⟩
theorem denil_sound : ∀ (ks : List DK) (fr : Nat) (cs : List C) (us : List Value) (ρ : Rho) (fh : Nat → Option Row), Sim B w0 ρ w fh → CsR ρ cs us → (∀ j, fr ≤ j → j < fr + (denil ks fr cs).2.length → rat ρ j = none) →
    ∃ ρ', Sub ρ ρ' ∧ (∀ l, ¬ (fr ≤ l ∧ l < fr + (denil ks fr cs).2.length) → rat ρ' l = rat ρ l) ∧ Sim B w0 ρ' w (updF fh (denil ks fr cs).2) ∧ CsR ρ' (denil ks fr cs).1 us
  | [], fr, cs, us, ρ, fh, hs, hu, _ => ⟨ρ, Sub.refl ρ, fun _ _ => rfl, hs, hu⟩
  | _ :: _, fr, [], us, ρ, fh, hs, hu, _ => ⟨ρ, Sub.refl ρ, fun _ _ => rfl, hs, hu⟩
  | dk :: ks, fr, c :: cs, us, ρ, fh, hs, ⟨u, us', he, hc, hcs⟩, hfr => by
    subst he
    unfold denil at hfr ⊢
    split at hfr
    · rename_i d hd
      simp only [List.length_cons] at hfr ⊢
      have hd' : d.isCells = false ∧ d.flat = [] := by
        cases dk <;> simp only [Data.nilOf, Option.some.injEq, reduceCtorEq] at hd <;> subst hd <;> exact ⟨rfl, rfl⟩
      have hs1 := hs.fresh (w' := w) (row := none) (hfr fr (Nat.le_refl _) (by omega)) ⟨rfl, rfl, rfl, Nat.le_refl _, fun _ _ _ => rfl⟩ ⟨0, 0, 0, d.sz, true⟩ d none (fun b hb => by cases hb) ⟨rfl, rfl, fun i c hi => by rw [show (⟨true, d⟩ : Row).d.flat = [] from hd'.2] at hi; simp at hi, fun _ => ⟨by rw [show (⟨true, d⟩ : Row).d.flat = [] from hd'.2]; exact Nat.zero_le _, .inl rfl⟩⟩ (.inl rfl)
      have hsub := rset_sub (ρ := ρ) (lc := ⟨0, 0, 0, d.sz, true⟩) (hfr fr (Nat.le_refl _) (by omega))
      obtain ⟨ρ', g1, g2, g3, g4⟩ := denil_sound ks (fr + 1) cs us' _ _ hs1 (hcs.sub hsub) (fun j h1 h2 => by
        rw [rset_out (n := 1) (by omega) (by omega)]
        exact hfr j (by omega) (by omega))
      refine ⟨ρ', hsub.trans g1, fun l hl => ?_, ?_, ⟨u, us', rfl, ?_, g4⟩⟩
      · rw [g2 l (by omega), rset_out (n := 1) (by omega) (by omega)]
      · have : updF fh ((fr, some ⟨true, d⟩) :: (denil ks (fr + 1) cs).2) = updF (fun k => if k = fr then some ⟨true, d⟩ else if some k = none then none else fh k) (denil ks (fr + 1) cs).2 := by
          rw [updF]; congr 1; try (funext k; simp)
        rw [this]; exact g3
      · obtain ⟨A, rfl⟩ := hc
        exact ⟨_, g1 _ _ (rset_at _ _ _), A, 0, rfl, Nat.le_refl _, .inr ⟨rfl, rfl⟩⟩
    · obtain ⟨ρ', g1, g2, g3, g4⟩ := denil_sound ks fr cs us' ρ fh hs hcs hfr
      exact ⟨ρ', g1, g2, g3, ⟨u, us', rfl, hc.sub g1, g4⟩⟩
theorem denilV_sound (ks : List DK) (fr : Nat) (x : V) (v : Value) (hs : Sim B w0 ρ w fh) (hv : VR ρ x v) (hfr : ∀ j, fr ≤ j → j < fr + (denilV ks fr x).2.length → rat ρ j = none) :
    ∃ ρ', Sub ρ ρ' ∧ (∀ l, ¬ (fr ≤ l ∧ l < fr + (denilV ks fr x).2.length) → rat ρ' l = rat ρ l) ∧ Sim B w0 ρ' w (updF fh (denilV ks fr x).2) ∧ VR ρ' (denilV ks fr x).1 v := by
  cases x with
  | c x =>
    simp only [denilV] at hfr ⊢
    split at hfr
    · rename_i y u hy
      obtain ⟨ρ', g1, g2, g3, g4⟩ := denil_sound ks fr [x] [v] ρ fh hs ⟨v, [], rfl, hv, rfl⟩ (by rw [hy]; exact hfr)
      rw [hy] at g2 g3 g4
      obtain ⟨u', us', he, g5, _⟩ := g4
      obtain ⟨rfl, rfl⟩ := List.cons.inj he
      exact ⟨ρ', g1, g2, g3, g5⟩
    · exact ⟨ρ, Sub.refl ρ, fun _ _ => rfl, hs, hv⟩
  | agg cs =>
    obtain ⟨us, rfl, hr⟩ := hv
    obtain ⟨ρ', g1, g2, g3, g4⟩ := denil_sound ks fr cs us.toList ρ fh hs hr hfr
    exact ⟨ρ', g1, g2, g3, us, rfl, g4⟩
theorem denilA_sound : ∀ (kss : List (List DK)) (fr : Nat) (xs : List AV) (vs : List Value) (ρ : Rho) (fh : Nat → Option Row), Sim B w0 ρ w fh → AVsR ρ xs vs → (∀ j, fr ≤ j → j < fr + (denilA kss fr xs).2.length → rat ρ j = none) →
    ∃ ρ', Sub ρ ρ' ∧ (∀ l, ¬ (fr ≤ l ∧ l < fr + (denilA kss fr xs).2.length) → rat ρ' l = rat ρ l) ∧ Sim B w0 ρ' w (updF fh (denilA kss fr xs).2) ∧ AVsR ρ' (denilA kss fr xs).1 vs
  | [], fr, xs, vs, ρ, fh, hs, hv, _ => ⟨ρ, Sub.refl ρ, fun _ _ => rfl, hs, hv⟩
  | _ :: _, fr, [], vs, ρ, fh, hs, hv, _ => ⟨ρ, Sub.refl ρ, fun _ _ => rfl, hs, hv⟩
  | ks :: kss, fr, x :: xs, vs, ρ, fh, hs, ⟨u, us', he, hx, hxs⟩, hfr => by
    subst he
    have avsub : ∀ {xs : List AV} {vs : List Value} {ρ ρ' : Rho}, Sub ρ ρ' → AVsR ρ xs vs → AVsR ρ' xs vs := by
      intro xs
      induction xs with
      | nil => intro vs ρ ρ' _ h; exact h
      | cons y ys ih => intro vs ρ ρ' hsub ⟨a, b, c, d, e⟩; exact ⟨a, b, c, d.sub hsub, ih hsub e⟩
    cases x with
    | v x =>
      simp only [denilA, List.length_append] at hfr ⊢
      obtain ⟨ρ1, a1, a2, a3, a4⟩ := denilV_sound ks fr x u hs hx (fun j h1 h2 => hfr j h1 (by omega))
      obtain ⟨ρ2, b1, b2, b3, b4⟩ := denilA_sound kss (fr + (denilV ks fr x).2.length) xs us' ρ1 _ a3 (avsub a1 hxs) (fun j h1 h2 => by
        rw [a2 j (by omega)]; exact hfr j (by omega) (by omega))
      refine ⟨ρ2, a1.trans b1, fun l hl => by rw [b2 l (by omega), a2 l (by omega)], by rw [updF_append]; exact b3, ⟨u, us', rfl, VR.sub b1 a4, b4⟩⟩
    | tup ts =>
      simp only [denilA] at hfr ⊢
      obtain ⟨ρ2, b1, b2, b3, b4⟩ := denilA_sound kss fr xs us' ρ fh hs hxs hfr
      exact ⟨ρ2, b1, b2, b3, ⟨u, us', rfl, hx.sub b1, b4⟩⟩
/-- Two steps, one behind the other. -/
theorem Res.trans_ {ρ1 : Rho} {u1 : List (Nat × Option Row)} {fr1 n1 n2 : Nat} {ef : Ef} {o : Oper} (h1 : Sub ρ ρ1) (h2 : ∀ l, ¬ (fr ≤ l ∧ l < fr + n1) → rat ρ1 l = rat ρ l) (hg : Good P o ee w (Res B w0 ρ1 (updF fh u1) fr1 ef)) {v : AV} {rd : List Nat} {ps : List Prop} (hv : v = ef.v)
    (hn : ∀ l, (fr1 ≤ l ∧ l < fr1 + ef.n) ∨ (fr ≤ l ∧ l < fr + n1) → fr ≤ l ∧ l < fr + n2) : Good P o ee w (Res B w0 ρ fh fr ⟨v, u1 ++ ef.u, n2, rd, ps⟩) := by
  subst hv
  have key : ∀ x w', Res B w0 ρ1 (updF fh u1) fr1 ef x w' → Res B w0 ρ fh fr ⟨ef.v, u1 ++ ef.u, n2, rd, ps⟩ x w' := by
    rintro x w' ⟨ρ', a1, a2, a3, a4⟩
    refine ⟨ρ', h1.trans a1, fun l hl => ?_, by rw [updF_append]; exact a3, a4⟩
    have hl : ¬ (fr ≤ l ∧ l < fr + n2) := hl
    rw [a2 l (fun h => hl (hn l (.inl h))), h2 l (fun h => hl (hn l (.inr h)))]
  rcases hg with ⟨x, w', g1, g2⟩ | ⟨w', g1, g2⟩ | ⟨f, args, w1, g1, g2⟩
  · exact .inl ⟨x, w', g1, key _ _ g2⟩
  · exact .inr (.inl ⟨w', g1, key _ _ g2⟩)
  · exact .inr (.inr ⟨f, args, w1, g1, g2.mono fun e w' ⟨x, he, hr⟩ => ⟨x, he, key _ _ hr⟩⟩)
theorem invoke_func {f : FuncId} {fn : Func} (hf : P.funcs[f]? = some fn) (hname : (fn.name == "runtime.NumGoroutine") = false) (hb : fn.body.isSome = true) (args : Array Value) (w : World) : (callFunc f args).run P w = .ok (.enter f args) w := by
  have h1 : fn.name ≠ "runtime.NumGoroutine" := by simpa using hname
  obtain ⟨c, hc⟩ := Option.isSome_iff_exists.1 hb
  simp [callFunc, hf, h1, hc]
theorem allP_append_ : ∀ {a b : List Prop}, allP (a ++ b) → allP a ∧ allP b
  | [], _, h => ⟨trivial, h⟩
  | p :: a, b, ⟨h1, h2⟩ => by obtain ⟨h3, h4⟩ := allP_append_ h2; exact ⟨⟨h1, h3⟩, h4⟩
theorem roOf_mem : ∀ {k : List (Nat × Bool)}, ∀ l ∈ roOf fh k, ∃ d, fh l = some ⟨false, d⟩
  | [], l, h => by cases h
  | (k, b) :: r, l, h => by
    unfold roOf at h
    split at h
    · rename_i d hd
      rcases List.mem_cons.1 h with rfl | h
      · exact ⟨d, hd⟩
      · exact roOf_mem l h
    · exact roOf_mem l h
theorem win_whole {d : Data} (h : d.isCells = false) : d.win 0 d.len = d := by
  cases d <;> first | (cases h; done) | simp [Data.win, Data.len]
theorem viewW_eq {fh : Nat → Option Row} {args : List AV} : ∀ {views : List (Nat × Bool)}, allP (viewPs fh args views) → ∀ x ∈ views, viewW fh args x = viewOf fh args x.1
  | [], _, _, hx => by cases hx
  | (p, false) :: r, h, x, hx => by
    rcases List.mem_cons.1 hx with rfl | hx
    · rfl
    · exact viewW_eq (views := r) h x hx
  | (p, true) :: r, h, x, hx => by
    obtain ⟨h1, h2⟩ := allP_append_ h
    rcases List.mem_cons.1 hx with rfl | hx
    · unfold viewW viewOf
      simp only
      split
      · rename_i l off len ha
        rw [ha] at h1
        simp only at h1
        split
        · rename_i r0 hr
          rw [hr] at h1
          obtain ⟨rfl, rfl, _⟩ := h1
          split
          · rfl
          · rename_i hc
            rw [win_whole (by simpa using hc)]
        · rfl
      · rfl
    · exact viewW_eq (views := r) h2 x hx
theorem heapW_eq {fh : Nat → Option Row} {args : List AV} {keep views : List (Nat × Bool)} (h : allP (viewPs fh args views)) : heapW fh keep views args = heapIn fh keep (views.map (·.1)) args := by
  unfold heapW heapIn
  simp only [List.map_map]
  congr 1
  exact List.map_congr_left fun x hx => viewW_eq h x hx
theorem call_sound {o : Oper} {c : Call} (ho : o.op = .call c) {x : Operand} (hc : c.callee = .value x) {g : FuncId} {us : Array Value} (hx : ee x = .func (.func g) #[] us) {args : List AV} {vs : List Value} (hvs : vs.toArray = c.args.map ee ++ us) (hav : AVsR ρ args vs) {as as' : List Ans} {ef : Ef}
    (h : aCall (Spec P) g args as fr fh = some (ef, as')) (hp : allP ef.p) (hs : Sim B w0 ρ w fh) (hfr : ∀ j, fr ≤ j → j < fr + ef.n → rat ρ j = none) : Good P o ee w (Res B w0 ρ fh fr ef) := by
  unfold aCall at h
  split at h
  · rename_i keep views0 r h' as2
    simp only at h
    split at h
    · rename_i hcond
      simp only [Option.some.injEq, Prod.mk.injEq] at h
      obtain ⟨rfl, rfl⟩ := h
      simp only [Bool.and_eq_true] at hcond
      obtain ⟨⟨⟨h1, h2⟩, h3⟩, h4⟩ := hcond
      rw [heapW_eq hp.2] at hp
      replace hfr : ∀ j, fr ≤ j → j < fr + (h'.length - (keep.length + views0.length)) → rat ρ j = none := hfr
      rw [show views0.length = (views0.map (·.1)).length by simp] at h4 hfr ⊢
      generalize views0.map (·.1) = views at h3 h4 hp hfr ⊢
      have hnd := nodupB_spec h1
      have hko := keepOk_spec h2
      have hml : keep.length + views.length ≤ h'.length := Nat.le_of_ble_eq_true h4
      have hvk : ∀ p ∈ views, ∀ l off len, args[p]? = some (.v (.c (.sl l off len))) → (l, true) ∉ keep := by
        intro p hpv l off len ha hm
        unfold viewOk at h3
        rw [List.all_eq_true] at h3
        have hl : l ∈ viewLocs args views := List.mem_filterMap.2 ⟨p, hpv, by rw [ha]⟩
        have := h3 l hl
        rw [List.all_eq_true] at this
        have := this _ hm
        simp at this
      obtain ⟨⟨fn, f1, f2, f3⟩, hspec⟩ := hp.1
      have hin := sim_in (keep := keep) (views := views) (args := args) hs hnd hvk
      have hargs := args_in (keep := keep) (views := views) (args := args) (ρ := ρ) args vs 0 (fun j y hj => by rw [Nat.zero_add]; exact hj) hav
      have hcall := hspec (inB ρ fh keep) w (rhoIn ρ keep views args) vs (fun l hl => by
        have hk : keep[l]? = none := List.getElem?_eq_none (by simp [heapIn] at hl; omega)
        have hv : views[l - keep.length]? = none := List.getElem?_eq_none (by simp [heapIn] at hl; omega)
        simp [rat, rhoIn, hk, hv]) hin hargs
      refine .inr (.inr ⟨g, vs.toArray, w, ?_, hcall.mono fun e w' he => ?_⟩)
      · have hrun := invoke_func f1 f2 f3 vs.toArray w
        rw [hvs] at hrun ⊢
        unfold execOp
        simp [ho, resolve, hc, hx, Deferred.ofValue, invoke, hrun]
      · obtain ⟨ρ1, v, rfl, g1, g2, g3⟩ := he
        obtain ⟨q1, q2, q3⟩ := sim_out (fr := fr) roOf_mem hs hnd hko (views := views) (args := args) rfl rfl hml (fun j a b => hfr j a b) g1 g3
        exact ⟨v, rfl, _, q2, fun l hl => rhoOut_old hl, q3, g2.ren q1⟩
    · cases h
  · cases h
end Go.Proofs.YtmodnnokcmabhaaGreat.Den
