/- A region whose order is drawn, shown. -/
import Derived.Test.YtmodnnokcmabhaaGreatDenT
namespace Go.Proofs.YtmodnnokcmabhaaGreat.Den
open Go Go.RowKit
set_option linter.unusedSimpArgs false
set_option linter.unusedVariables false
variable {P : Program} {tb : TypeId → Option Ty} {B : Nat → Prop} {w0 w w' : World} {ρ ρ' ρ0 : Rho} {m0 : Nat}

theorem bit_fold (f : Nat → Nat) : ∀ (ns : List Nat) (s i : Nat), (ns.foldl (fun s j => s ||| 2 ^ j ||| f j) s).testBit i = true → s.testBit i = true ∨ ∃ j ∈ ns, i = j ∨ (f j).testBit i = true
  | [], s, i, h => .inl h
  | n :: ns, s, i, h => by
    rw [List.foldl_cons] at h
    rcases bit_fold f ns _ i h with h | ⟨j, hj, hi⟩
    · rw [Nat.testBit_or, Nat.testBit_or, Bool.or_eq_true, Bool.or_eq_true, Nat.testBit_two_pow] at h
      rcases h with (h | h) | h
      · exact .inl h
      · exact .inr ⟨n, List.mem_cons_self, .inl (by simp at h; exact h.symm)⟩
      · exact .inr ⟨n, List.mem_cons_self, .inr h⟩
    · exact .inr ⟨j, List.mem_cons_of_mem _ hj, hi⟩
theorem ancs_spec : ∀ (l : List Oper) (acc : List Nat), (∃ tail, ancs l acc = acc ++ tail ∧ tail.length = l.length) ∧ ∀ (k : Nat) (o : Oper), l[k]? = some o → ∀ i, ((ancs l acc).getD (acc.length + k) 0).testBit i = true → ∃ j ∈ needs o, i = j ∨ ((ancs l acc).getD j 0).testBit i = true
  | [], acc => ⟨⟨[], by simp [ancs], rfl⟩, fun k o hk => by simp at hk⟩
  | o :: rest, acc => by
    obtain ⟨⟨tail, h1, h2⟩, h3⟩ := ancs_spec rest (acc ++ [(needs o).foldl (fun s j => s ||| 2 ^ j ||| acc.getD j 0) 0])
    have ht : ancs (o :: rest) acc = acc ++ ((needs o).foldl (fun s j => s ||| 2 ^ j ||| acc.getD j 0) 0 :: tail) := by rw [ancs, h1]; simp
    refine ⟨⟨_, ht, by simp [h2]⟩, fun k o' hk i hi => ?_⟩
    cases k with
    | zero =>
      simp only [List.getElem?_cons_zero, Option.some.injEq] at hk
      subst hk
      rw [ht] at hi ⊢
      simp only [Nat.add_zero, List.getD_eq_getElem?_getD, List.getElem?_append_right (Nat.le_refl _), Nat.sub_self, List.getElem?_cons_zero, Option.getD_some] at hi
      rcases bit_fold (fun j => acc.getD j 0) _ _ _ (by simpa only [List.getD_eq_getElem?_getD] using hi) with h | ⟨j, hj, hij⟩
      · simp at h
      · refine ⟨j, hj, hij.imp id (fun hb => ?_)⟩
        by_cases hja : j < acc.length
        · rw [List.getD_eq_getElem?_getD, List.getElem?_append_left hja, ← List.getD_eq_getElem?_getD]; exact hb
        · rw [List.getD_eq_getElem?_getD, List.getElem?_eq_none (by omega)] at hb
          simp at hb
    | succ k =>
      have := h3 k o' (by simpa using hk) i
      rw [List.length_append, List.length_singleton, show acc.length + 1 + k = acc.length + (k + 1) by omega] at this
      exact this hi
/-- A set of operations that has, with each, what it needs. -/
def Closed (ops : List Oper) (D : Nat → Bool) : Prop := ∀ i o, ops[i]? = some o → D i = true → ∀ j ∈ needs o, D j = true
theorem anc_in {ops : List Oper} (hn : needsOk ops = true) {D : Nat → Bool} (hD : Closed ops D) : ∀ (j : Nat) (o : Oper), ops[j]? = some o → (∀ k ∈ needs o, D k = true) → ∀ i, ((ancs ops []).getD j 0).testBit i = true → D i = true := by
  intro j
  induction j using Nat.strongRecOn with
  | _ j ih =>
    intro o ho hk i hi
    obtain ⟨q, hq, h⟩ := (ancs_spec ops []).2 j o ho i (by simpa using hi)
    have hqj : q < j := by
      unfold needsOk at hn
      rw [List.all_eq_true] at hn
      have := hn j (List.mem_range.2 (List.getElem?_eq_some_iff.1 ho).1)
      rw [ho] at this
      simp only [List.all_eq_true, Nat.blt_eq] at this
      exact this q hq
    rcases h with rfl | h
    · exact hk _ hq
    · have hql : q < ops.length := Nat.lt_trans hqj (List.getElem?_eq_some_iff.1 ho).1
      have hqo := List.getElem?_eq_getElem hql
      exact ih q hqj _ hqo (hD q _ hqo (hk q hq)) i h
theorem calm_of {rs : List Rec} {an : List Nat} (h : calmAll rs an = true) {i j : Nat} {a b : Rec} (hij : i < j) (ha : rs[i]? = some a) (hb : rs[j]? = some b) (hn : (an.getD j 0).testBit i = false) : calm a b = true := by
  unfold calmAll at h
  rw [List.all_eq_true] at h
  have h1 := h j (List.mem_range.2 (List.getElem?_eq_some_iff.1 hb).1)
  rw [List.all_eq_true] at h1
  have h2 := h1 i (List.mem_range.2 hij)
  rw [hn, Bool.false_or, ha, hb] at h2
  exact h2
theorem apartD_spec {d : Option Nat} {ts : List Nat} (h : apartD d ts = true) {t : Nat} (ht : t ∈ ts) : d ≠ some t := by
  intro e
  subst e
  simp only [apartD, Bool.not_eq_true', List.contains_eq_mem, decide_eq_false_iff_not] at h
  exact h ht
structure Calm (a b : Rec) : Prop where
  ab : ∀ t ∈ b.ts, a.d ≠ some t
  ba : ∀ t ∈ a.ts, b.d ≠ some t
  dd : ∀ t, a.d = some t → b.d ≠ some t
  ur : ∀ x ∈ a.u, x.1 ∉ b.rd
  uu : ∀ x ∈ a.u, ∀ y ∈ b.u, x.1 ≠ y.1
  ru : ∀ y ∈ b.u, y.1 ∉ a.rd
theorem calm_spec {a b : Rec} (h : calm a b = true) : Calm a b := by
  unfold calm at h
  simp only [Bool.and_eq_true] at h
  obtain ⟨⟨⟨⟨h1, h2⟩, h3⟩, h4⟩, h5⟩ := h
  rw [List.all_eq_true] at h4 h5
  refine ⟨fun t ht => apartD_spec h1 ht, fun t ht => apartD_spec h2 ht, fun t ha hb => ?_, fun x hx => ?_, fun x hx y hy => ?_, fun y hy => ?_⟩
  · exact apartD_spec h3 (t := t) (by rw [hb]; simp) ha
  · have := (Bool.and_eq_true _ _ ▸ h4 x hx : _ ∧ _).1
    simpa using this
  · have := (Bool.and_eq_true _ _ ▸ h4 x hx : _ ∧ _).2
    rw [List.all_eq_true] at this
    have := this y hy
    intro e
    rw [e] at this
    simp at this
  · simpa using h5 y hy
/-- Two that neither needs: whichever stands first in the text. -/
theorem calm_two {rs : List Rec} {ops : List Oper} (hn : needsOk ops = true) (h : calmAll rs (ancs ops []) = true) {D : Nat → Bool} (hD : Closed ops D) {i j : Nat} {o : Oper} {a b : Rec} (hi : ops[i]? = some o) (hnd : ∀ k ∈ needs o, D k = true) (hDi : D i = false) (ha : rs[i]? = some a) (hb : rs[j]? = some b) (hl : rs.length = ops.length)
    (hne : D j ≠ decide (j < i)) (hij : j ≠ i) : Calm a b ∨ Calm b a := by
  rcases Nat.lt_or_ge j i with hlt | hge
  · have hDj : D j = false := by simp [hlt] at hne; exact hne
    right
    refine calm_spec (calm_of h hlt hb ha ?_)
    cases hbit : ((ancs ops []).getD i 0).testBit j
    · rfl
    · have := anc_in hn hD i o hi hnd j hbit
      rw [hDj] at this; cases this
  · have hgt : i < j := by omega
    have hDj : D j = true := by
      have : ¬ j < i := by omega
      simp [this] at hne; exact hne
    left
    refine calm_spec (calm_of h hgt ha hb ?_)
    cases hbit : ((ancs ops []).getD j 0).testBit i
    · rfl
    · have hjl : j < ops.length := by rw [← hl]; exact (List.getElem?_eq_some_iff.1 hb).1
      have := anc_in hn hD j _ (List.getElem?_eq_getElem hjl) (hD j _ (List.getElem?_eq_getElem hjl) hDj) i hbit
      rw [hDi] at this; cases this

theorem mem_ready {ops : Array Oper} {listed : Array Bool} {i : Nat} (hsz : listed.size = ops.size) : i ∈ Region.ready .any ops listed ↔ ∃ o, ops[i]? = some o ∧ listed.getD i false = false ∧ ∀ j ∈ needs o, listed.getD j false = true := by
  unfold Region.ready
  rw [List.mem_filter, List.mem_range]
  constructor
  · rintro ⟨hi, h⟩
    simp only [Bool.and_eq_true, Bool.not_eq_true'] at h
    have ho : ops[i]? = some ops[i] := Array.getElem?_eq_getElem hi
    rw [ho] at h
    simp only [Option.map_some, Option.getD_some] at h
    refine ⟨ops[i], ho, ?_, fun j hj => ?_⟩
    · have := h.1
      simp only [Array.getD_eq_getD_getElem?] at this ⊢
      rw [Array.getElem?_eq_getElem (by omega)] at this ⊢
      simpa using this
    · obtain ⟨e, he, hb⟩ := List.mem_filterMap.1 hj
      have h2 := h.2
      rw [← Array.all_toList, List.all_eq_true] at h2
      have := h2 e he
      split at hb
      · rename_i hbi
        obtain rfl := Option.some.inj hb
        rw [hbi] at this
        simpa using this
      · cases hb
  · rintro ⟨o, ho, h1, h2⟩
    have hi : i < ops.size := (Array.getElem?_eq_some_iff.1 ho).1
    refine ⟨hi, ?_⟩
    simp only [Bool.and_eq_true, Bool.not_eq_true']
    refine ⟨?_, ?_⟩
    · simp only [Array.getD_eq_getD_getElem?] at h1 ⊢
      rw [Array.getElem?_eq_getElem (by omega)] at h1 ⊢
      simpa using h1
    · rw [ho]
      simp only [Option.map_some, Option.getD_some]
      rw [← Array.all_toList, List.all_eq_true]
      intro e he
      cases hb : Region.binds .any e with
      | false => rfl
      | true =>
        simp only [Bool.not_true, Bool.false_or]
        exact h2 e.on (List.mem_filterMap.2 ⟨e, he, by rw [hb]; rfl⟩)
def left_ (listed : Array Bool) : Nat := (listed.toList.filter (! ·)).length
theorem left_set {listed : Array Bool} {i : Nat} (hi : i < listed.size) (h : listed.getD i false = false) : left_ (listed.setIfInBounds i true) + 1 = left_ listed := by
  unfold left_
  have : ∀ (l : List Bool) (i : Nat), i < l.length → l[i]? = some false → ((l.set i true).filter (! ·)).length + 1 = (l.filter (! ·)).length := by
    intro l
    induction l with
    | nil => intro i h; simp at h
    | cons b l ih =>
      intro i hi h
      cases i with
      | zero =>
        simp only [List.getElem?_cons_zero, Option.some.injEq] at h
        subst h
        simp
      | succ i =>
        have := ih i (by simpa using hi) (by simpa using h)
        cases b <;> simp <;> omega
  rw [Array.toList_setIfInBounds]
  refine this _ i (by simpa using hi) ?_
  rw [Array.getD_eq_getD_getElem?, Array.getElem?_eq_getElem hi] at h
  simp at h
  simp [hi, h]

theorem draw_any (T : TabOk P tb) {ops : Array Oper} {Q : Exit → Act → World → Prop} {s s' : St} {as as' : List Ans} {rs : List Rec} {ps : List Prop}
    (h : drawRun tb (Spec P) ops.toList s.h.length 0 ops.toList ⟨s.env, s.h ++ List.replicate (8 * ops.toList.length) none⟩ as = some (rs, s', as', ps)) (hp : allP ps) (hn : needsOk ops.toList = true) (hc : calmAll rs (ancs ops.toList []) = true)
    (hpre0 : ∀ l, m0 ≤ l → rat ρ0 l = none) (hQ : ∀ ρ' a' w', Rel B w0 ρ0 m0 s' ρ' a' w' → Q .normal a' w') :
    ∀ (fuel : Nat) (listed : Array Bool) (ρ : Rho) (a : Act) (w : World), left_ listed ≤ fuel → listed.size = ops.size → Closed ops.toList (fun j => listed.getD j false) →
      Sim B w0 ρ w (fun x => ov (wH rs x) (fun j => listed.getD j false) (hat s.h x) ops.size) → (∀ t, AVR ρ (ov (wE rs t) (fun j => listed.getD j false) (eat s.env t) ops.size) (a.tmps.getD t undef)) → s.env.length = a.tmps.size → a.defers = [] → Sub ρ0 ρ →
      (∀ l, s.h.length + 8 * ops.size ≤ l → rat ρ l = none) → (∀ i, i < ops.size → listed.getD i false = false → ∀ q, q < 8 → rat ρ (s.h.length + 8 * i + q) = none) → wpAny P .any ops Q fuel listed a w := by
  obtain ⟨h1, h2, h3, h4, h5, h6⟩ := draw_spec ops.toList 0 _ s' as as' rs ps h hp
  have hhat : ∀ x, hat (s.h ++ List.replicate (8 * ops.toList.length) none) x = hat s.h x := by
    intro x
    simp only [hat]
    by_cases hl : x < s.h.length
    · rw [List.getElem?_append_left hl]
    · rw [List.getElem?_append_right (by omega), List.getElem?_eq_none (by omega : s.h.length ≤ x), List.getElem?_replicate]
      by_cases hq : x - s.h.length < 8 * ops.toList.length <;> simp [hq]
  simp only [hhat] at h4 h6
  have hlen : ops.toList.length = ops.size := by simp
  have done : ∀ (listed : Array Bool) (ρ : Rho) (a : Act) (w : World), listed.size = ops.size → Region.ready .any ops listed = [] → Sim B w0 ρ w (fun x => ov (wH rs x) (fun j => listed.getD j false) (hat s.h x) ops.size) → (∀ t, AVR ρ (ov (wE rs t) (fun j => listed.getD j false) (eat s.env t) ops.size) (a.tmps.getD t undef)) → s.env.length = a.tmps.size → a.defers = [] → Sub ρ0 ρ →
      (∀ l, s.h.length + 8 * ops.size ≤ l → rat ρ l = none) → Q .normal a w := by
    intro listed ρ a w hsz hr hsim henv hl hd hpre hf
    have hall : ∀ i, i < ops.size → listed.getD i false = true := by
      intro i
      induction i using Nat.strongRecOn with
      | _ i ih =>
        intro hi
        cases hb : listed.getD i false
        · exfalso
          have ho : ops[i]? = some ops[i] := Array.getElem?_eq_getElem hi
          have : i ∈ Region.ready .any ops listed := (mem_ready hsz).2 ⟨_, ho, hb, fun j hj => by
            have hji : j < i := by
              have hn' := hn
              unfold needsOk at hn'
              rw [List.all_eq_true] at hn'
              have := hn' i (List.mem_range.2 (by simpa using hi))
              rw [show ops.toList[i]? = some ops[i] by simp] at this
              simp only [List.all_eq_true, Nat.blt_eq] at this
              exact this j hj
            exact ih j hji (by omega)⟩
          rw [hr] at this
          cases this
        · rfl
    have e1 : ∀ {α : Type} (ws : Nat → Option α) (b : α), ov ws (fun j => listed.getD j false) b ops.size = ov ws (fun _ => true) b ops.toList.length := by
      intro α ws b
      rw [hlen]
      exact ov_same _ (fun j hj _ => hall j hj)
    refine hQ ρ a w ⟨?_, fun t => ?_, by rw [h3]; exact hl, hd, fun l hl' => hf l (by rw [h2] at hl'; simp at hl'; omega), hpre, hpre0⟩
    · have : hat s'.h = fun x => ov (wH rs x) (fun j => listed.getD j false) (hat s.h x) ops.size := by
        funext x; rw [h6, e1]
      rw [this]; exact hsim
    · rw [h5, ← e1]; exact henv t
  intro fuel
  induction fuel with
  | zero =>
    intro listed ρ a w hleft hsz hcl hsim henv hl hd hpre hf hfi
    have hr : Region.ready .any ops listed = [] := by
      cases hrd : Region.ready .any ops listed with
      | nil => rfl
      | cons i r =>
        exfalso
        obtain ⟨o, ho, hb, _⟩ := (mem_ready hsz).1 (by rw [hrd]; exact List.mem_cons_self : i ∈ _)
        have := left_set (by rw [hsz]; exact (Array.getElem?_eq_some_iff.1 ho).1) hb
        omega
    exact ⟨hr, done listed ρ a w hsz hr hsim henv hl hd hpre hf⟩
  | succ fuel ih =>
    intro listed ρ a w hleft hsz hcl hsim henv hl hd hpre hf hfi
    refine ⟨fun hr => done listed ρ a w hsz hr hsim henv hl hd hpre hf, fun i hi => ?_⟩
    obtain ⟨o, ho, hb, hnd⟩ := (mem_ready hsz).1 hi
    have hil : i < ops.size := (Array.getElem?_eq_some_iff.1 ho).1
    have hoL : ops.toList[i]? = some o := by simpa using ho
    obtain ⟨r, as1, as2, ps1, b1, b2, b3, b4, b5⟩ := h4 i o hoL
    rw [Nat.zero_add] at b2
    have hi' : ∀ j (b : Rec), rs[j]? = some b → listed.getD j false ≠ decide (j < i) → j ≠ i → Calm r b ∨ Calm b r := fun j b hbj hne hji =>
      calm_two hn hc hcl hoL hnd hb b1 hbj h1 hne hji
    -- what the operation reads is as it is in the text's order
    have eE : ∀ t ∈ r.ts, ov (wE rs t) (fun j => listed.getD j false) (eat s.env t) ops.size = ov (wE rs t) (fun _ => true) (eat s.env t) i := by
      intro t ht
      rw [← ov_lt ops.size i (by omega)]
      refine ov_same _ (fun j hj hs => ?_)
      by_cases hji : j = i
      · subst hji; simp [hb]
      · apply Classical.byContradiction
        intro hne
        cases hbj : rs[j]? with
        | none => rw [wE, hbj] at hs; cases hs
        | some b =>
          rw [wE, hbj] at hs
          simp only at hs
          split at hs
          · rename_i hbd
            rcases hi' j b hbj hne hji with hcm | hcm
            · exact hcm.ba t ht hbd
            · exact hcm.ab t ht hbd
          · cases hs
    have eH : ∀ x ∈ r.rd, ov (wH rs x) (fun j => listed.getD j false) (hat s.h x) ops.size = ov (wH rs x) (fun _ => true) (hat s.h x) i := by
      intro x hx
      rw [← ov_lt ops.size i (by omega)]
      refine ov_same _ (fun j hj hs => ?_)
      by_cases hji : j = i
      · subst hji; simp [hb]
      · apply Classical.byContradiction
        intro hne
        cases hbj : rs[j]? with
        | none => rw [wH, hbj] at hs; cases hs
        | some b =>
          rw [wH, hbj] at hs
          obtain ⟨y, hy, rfl⟩ := look_key hs
          rcases hi' j b hbj hne hji with hcm | hcm
          · exact hcm.ru y hy hx
          · exact hcm.ur y hy hx
    have hrec := rec_local b2 eE eH
    unfold wpOp
    rw [ho]
    have main := rec_sound T hrec b3 (a := a) hsim henv (fun j q1 q2 => by
      have := hfi i hil hb (j - (s.h.length + 8 * i)) (by omega)
      rwa [show s.h.length + 8 * i + (j - (s.h.length + 8 * i)) = j by omega] at this)
      (K := wpAny P .any ops Q fuel (listed.setIfInBounds i true)) (Q := Q) (fun ρ' v w' k1 k2 k3 k4 => ?_)
    · simp only
      split
      · rename_i hw; rw [if_pos hw] at main; exact .inl main
      · rename_i hw; rw [if_neg hw] at main; exact main
    · -- behind it
      have hset : ∀ j, (listed.setIfInBounds i true).getD j false = if j = i then true else listed.getD j false := by
        intro j
        simp only [Array.getD_eq_getD_getElem?, Array.getElem?_setIfInBounds]
        by_cases e : i = j
        · subst e; simp [show i < listed.size by omega]
        · rw [if_neg e, if_neg (fun h => e h.symm)]
      have hlater : ∀ j (b : Rec), i < j → rs[j]? = some b → (listed.setIfInBounds i true).getD j false = true → Calm r b ∨ Calm b r := by
        intro j b hij hbj hD
        rw [hset, if_neg (by omega)] at hD
        refine hi' j b hbj ?_ (by omega)
        rw [hD]
        have : ¬ j < i := by omega
        simp [this]
      refine ih (listed.setIfInBounds i true) ρ' (a.put r.d v) w' ?_ (by simp [hsz]) ?_ ?_ ?_ ?_ ?_ (hpre.trans k1) ?_ ?_
      · have := left_set (listed := listed) (i := i) (by omega) hb
        omega
      · intro j o' hj hD k hk
        show (listed.setIfInBounds i true).getD k false = true
        have hD : (listed.setIfInBounds i true).getD j false = true := hD
        rw [hset] at hD ⊢
        by_cases e : k = i
        · rw [if_pos e]
        · rw [if_neg e]
          by_cases ej : j = i
          · subst ej
            rw [hoL] at hj
            obtain rfl := Option.some.inj hj
            exact hnd k hk
          · rw [if_neg ej] at hD
            exact hcl j o' hj hD k hk
      · have : (fun x => ov (wH rs x) (fun j => (listed.setIfInBounds i true).getD j false) (hat s.h x) ops.size) = updF (fun x => ov (wH rs x) (fun j => listed.getD j false) (hat s.h x) ops.size) r.u := by
          funext x
          rw [updF_look]
          cases hlk : lookU r.u x with
          | none =>
            rw [Option.getD_none]
            exact ov_none (i := i) (by rw [wH, b1]; exact hlk) _ (fun j hj => by show (listed.setIfInBounds i true).getD j false = _; rw [hset, if_neg hj])
          | some y =>
            rw [Option.getD_some]
            refine ov_last (i := i) (by rw [wH, b1]; exact hlk) (by show (listed.setIfInBounds i true).getD i false = true; rw [hset, if_pos rfl]) _ hil (fun j hij hj hD => ?_)
            cases hw : wH rs x j with
            | none => rfl
            | some z =>
              exfalso
              cases hbj : rs[j]? with
              | none => rw [wH, hbj] at hw; cases hw
              | some b =>
                rw [wH, hbj] at hw
                have hw : lookU b.u x = some z := hw
                obtain ⟨p, hp1, hp2⟩ := look_key (u := r.u) (l := x) (by rw [hlk]; rfl)
                obtain ⟨q, hq1, hq2⟩ := look_key (u := b.u) (l := x) (by rw [hw]; rfl)
                rcases hlater j b hij hbj hD with hcm | hcm
                · exact hcm.uu p hp1 q hq1 (by rw [hp2, hq2])
                · exact hcm.uu q hq1 p hp1 (by rw [hp2, hq2])
        rw [this]
        exact k3
      · intro t
        by_cases hdt : r.d = some t
        · have e1 : ov (wE rs t) (fun j => (listed.setIfInBounds i true).getD j false) (eat s.env t) ops.size = r.v := by
            refine ov_last (i := i) (by rw [wE, b1]; simp [hdt]) (by show (listed.setIfInBounds i true).getD i false = true; rw [hset, if_pos rfl]) _ hil (fun j hij hj hD => ?_)
            cases hbj : rs[j]? with
            | none => rw [wE, hbj]
            | some b =>
              rw [wE, hbj]
              simp only
              rw [if_neg]
              intro hbd
              rcases hlater j b hij hbj hD with hcm | hcm
              · exact hcm.dd t hdt hbd
              · exact hcm.dd t hbd hdt
          rw [e1, hdt]
          rw [hdt] at b5
          simp only [inEnv, Nat.blt_eq] at b5
          simp only [Act.put, Array.getD_eq_getD_getElem?, Array.getElem?_setIfInBounds]
          rw [if_pos trivial, if_pos (by omega)]
          exact k4
        · have e1 : ov (wE rs t) (fun j => (listed.setIfInBounds i true).getD j false) (eat s.env t) ops.size = ov (wE rs t) (fun j => listed.getD j false) (eat s.env t) ops.size :=
            ov_none (i := i) (by rw [wE, b1]; simp [hdt]) _ (fun j hj => by show (listed.setIfInBounds i true).getD j false = _; rw [hset, if_neg hj])
          rw [e1]
          have e2 : (a.put r.d v).tmps.getD t undef = a.tmps.getD t undef := by
            cases hrd : r.d with
            | none => rfl
            | some d =>
              have hne : d ≠ t := fun e => hdt (by rw [hrd, e])
              simp only [Act.put, Array.getD_eq_getD_getElem?, Array.getElem?_setIfInBounds, if_neg hne]
          rw [e2]
          exact (henv t).sub k1
      · cases r.d <;> simp [Act.put, hl]
      · cases r.d <;> exact hd
      · intro l hl'
        rw [k2 l (by omega)]
        exact hf l hl'
      · intro j hj hD q hq
        rw [hset] at hD
        split at hD
        · cases hD
        · rename_i hji
          rw [k2 _ (by omega)]
          exact hfi j hj hD q hq
end Go.Proofs.YtmodnnokcmabhaaGreat.Den
