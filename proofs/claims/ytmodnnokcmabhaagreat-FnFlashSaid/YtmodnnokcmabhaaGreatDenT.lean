/- A region whose order is drawn: in whatever order its operations come, what stands behind it is the same. -/
import Derived.Test.YtmodnnokcmabhaaGreatDenS
namespace Go.Proofs.YtmodnnokcmabhaaGreat.Den
open Go Go.RowKit
set_option linter.unusedSimpArgs false
set_option linter.unusedVariables false
variable {P : Program} {tb : TypeId → Option Ty} {B : Nat → Prop} {w0 w w' : World} {ρ ρ' ρ0 : Rho} {m0 : Nat}

/-- The last word of those that speak. -/
def ov {α : Type} (ws : Nat → Option α) (fl : Nat → Bool) (b : α) : Nat → α
  | 0 => b
  | n + 1 => if fl n then (ws n).getD (ov ws fl b n) else ov ws fl b n
section
variable {α : Type} {ws ws' : Nat → Option α} {fl gl : Nat → Bool} {b : α}
theorem ov_same : ∀ (n : Nat), (∀ j, j < n → (ws j).isSome = true → fl j = gl j) → ov ws fl b n = ov ws gl b n
  | 0, _ => rfl
  | n + 1, h => by
    have ih := ov_same n (fun j hj => h j (by omega))
    simp only [ov]
    cases hw : ws n with
    | none => simp only [Option.getD_none, ih]; split <;> split <;> rfl
    | some x => rw [h n (by omega) (by rw [hw]; rfl), ih]
theorem ov_lt : ∀ (n i : Nat), i ≤ n → ov ws (fun j => decide (j < i)) b n = ov ws (fun _ => true) b i
  | 0, i, h => by
    obtain rfl : i = 0 := by omega
    rfl
  | n + 1, i, h => by
    by_cases e : i = n + 1
    · subst e
      refine ov_same (n + 1) (fun j hj _ => by simp; omega)
    · simp only [ov, decide_eq_true_eq]
      rw [if_neg (by omega)]
      exact ov_lt n i (by omega)
theorem ov_none {i : Nat} (hi : ws i = none) : ∀ (n : Nat), (∀ j, j ≠ i → fl j = gl j) → ov ws fl b n = ov ws gl b n :=
  fun n h => ov_same n (fun j _ hs => h j (fun e => by subst e; rw [hi] at hs; cases hs))
theorem ov_last {i : Nat} {x : α} (hi : ws i = some x) (hf : fl i = true) : ∀ (n : Nat), i < n → (∀ j, i < j → j < n → fl j = true → ws j = none) → ov ws fl b n = x
  | 0, h, _ => by omega
  | n + 1, h, hl => by
    simp only [ov]
    by_cases e : i = n
    · subst e; rw [if_pos hf, hi]; rfl
    · have ih := ov_last hi hf n (by omega) (fun j a b c => hl j a (by omega) c)
      split
      · rename_i hfn
        rw [hl n (by omega) (by omega) hfn, Option.getD_none, ih]
      · exact ih
theorem ov_shift : ∀ (k : Nat), ov ws (fun _ => true) b (k + 1) = ov (fun j => ws (j + 1)) (fun _ => true) ((ws 0).getD b) k
  | 0 => by simp [ov]
  | k + 1 => by
    have ih := ov_shift k
    rw [ov, ih]
    rfl
end
def lookU : List (Nat × Option Row) → Nat → Option (Option Row)
  | [], _ => none
  | (k, x) :: u, l => match lookU u l with
    | some y => some y
    | none => if l = k then some x else none
theorem updF_look : ∀ (u : List (Nat × Option Row)) (f : Nat → Option Row) (l : Nat), updF f u l = (lookU u l).getD (f l)
  | [], _, _ => rfl
  | (k, x) :: u, f, l => by
    rw [updF, updF_look u, lookU]
    cases lookU u l with
    | some y => rfl
    | none => simp only [Option.getD_none]; split <;> rfl
theorem look_key : ∀ {u : List (Nat × Option Row)} {l : Nat}, (lookU u l).isSome = true → ∃ x ∈ u, x.1 = l
  | [], l, h => by cases h
  | (k, x) :: u, l, h => by
    rw [lookU] at h
    cases hu : lookU u l with
    | some y =>
      obtain ⟨z, h1, h2⟩ := look_key (u := u) (l := l) (by rw [hu]; rfl)
      exact ⟨z, List.mem_cons_of_mem _ h1, h2⟩
    | none =>
      rw [hu] at h
      simp only at h
      split at h
      · rename_i e; exact ⟨(k, x), List.mem_cons_self, e.symm⟩
      · cases h
def wE (rs : List Rec) (t : Nat) (j : Nat) : Option AV := match rs[j]? with
  | some r => if r.d = some t then some r.v else none
  | none => none
def wH (rs : List Rec) (l : Nat) (j : Nat) : Option (Option Row) := match rs[j]? with
  | some r => lookU r.u l
  | none => none
theorem setU_hat : ∀ (u : List (Nat × Option Row)) (h : Heap) (l : Nat), (∀ x ∈ u, x.1 < h.length) → hat (setU h u) l = updF (hat h) u l
  | [], _, _, _ => rfl
  | (k, x) :: u, h, l, hk => by
    rw [setU, setU_hat u _ l (fun y hy => by rw [List.length_set]; exact hk y (List.mem_cons_of_mem _ hy)), updF, updF_look, updF_look]
    congr 1
    have hkl := hk (k, x) List.mem_cons_self
    simp only [hat, List.getElem?_set]
    by_cases e : k = l
    · subst e
      simp only [if_true]
      rw [if_pos (by exact hkl)]
      cases x <;> rfl
    · rw [if_neg e, if_neg (fun h => e h.symm)]
theorem setD_eat {env : List AV} {d : Option Nat} {v : AV} (h : inEnv d env = true) (t : Nat) : eat (setD env d v) t = if d = some t then v else eat env t := by
  cases d with
  | none => simp [setD]
  | some d =>
    simp only [inEnv, Nat.blt_eq] at h
    simp only [setD, eat, List.getD_eq_getElem?_getD, List.getElem?_set]
    by_cases e : d = t
    · subst e; simp [h]
    · simp [e]
theorem draw_spec {sp : SP} {ops : List Oper} {n0 : Nat} : ∀ (l : List Oper) (i0 : Nat) (s s' : St) (as as' : List Ans) (rs : List Rec) (ps : List Prop), drawRun tb sp ops n0 i0 l s as = some (rs, s', as', ps) → allP ps →
    rs.length = l.length ∧ s'.h.length = s.h.length ∧ s'.env.length = s.env.length ∧
    (∀ (k : Nat) (o : Oper), l[k]? = some o → ∃ r as1 as2 ps1, rs[k]? = some r ∧ opRec tb sp ops o (n0 + 8 * (i0 + k)) (fun t => ov (wE rs t) (fun _ => true) (eat s.env t) k) (fun x => ov (wH rs x) (fun _ => true) (hat s.h x) k) as1 = some (r, as2, ps1) ∧ allP ps1 ∧ r.n ≤ 8 ∧ inEnv r.d s.env = true) ∧
    (∀ t, eat s'.env t = ov (wE rs t) (fun _ => true) (eat s.env t) l.length) ∧ (∀ x, hat s'.h x = ov (wH rs x) (fun _ => true) (hat s.h x) l.length)
  | [], i0, s, s', as, as', rs, ps, h, _ => by
    simp only [drawRun, Option.some.injEq, Prod.mk.injEq] at h
    obtain ⟨rfl, rfl, _⟩ := h
    exact ⟨rfl, rfl, rfl, fun k o hk => by simp at hk, fun _ => rfl, fun _ => rfl⟩
  | o :: rest, i0, s, s', as, as', rs, ps, h, hp => by
    simp only [drawRun] at h
    split at h <;> first | (cases h; done) | skip
    rename_i r as2 ps1 hrec
    split at h <;> first | (cases h; done) | skip
    rename_i hc
    split at h <;> first | (cases h; done) | skip
    rename_i rs2 s2 as3 qs hrest
    simp only [Option.some.injEq, Prod.mk.injEq] at h
    obtain ⟨rfl, rfl, rfl, rfl⟩ := h
    obtain ⟨hp1, hp2⟩ := allP_append hp
    simp only [Bool.and_eq_true, List.all_eq_true, Nat.blt_eq] at hc
    obtain ⟨⟨c1, c2⟩, c3⟩ := hc
    obtain ⟨a1, a2, a3, a4, a5, a6⟩ := draw_spec rest (i0 + 1) _ s2 as2 as3 rs2 qs hrest hp2
    have hE : ∀ t k, ov (wE (r :: rs2) t) (fun _ => true) (eat s.env t) (k + 1) = ov (wE rs2 t) (fun _ => true) (eat (setD s.env r.d r.v) t) k := by
      intro t k
      rw [ov_shift, setD_eat c2]
      have e1 : (fun j => wE (r :: rs2) t (j + 1)) = wE rs2 t := by funext j; simp [wE]
      have e2 : (wE (r :: rs2) t 0).getD (eat s.env t) = if r.d = some t then r.v else eat s.env t := by
        simp only [wE, List.getElem?_cons_zero]; split <;> rfl
      rw [e1, e2]
    have hH : ∀ x k, ov (wH (r :: rs2) x) (fun _ => true) (hat s.h x) (k + 1) = ov (wH rs2 x) (fun _ => true) (hat (setU s.h r.u) x) k := by
      intro x k
      rw [ov_shift, setU_hat r.u s.h x c3, updF_look]
      have e1 : (fun j => wH (r :: rs2) x (j + 1)) = wH rs2 x := by funext j; simp [wH]
      rw [e1]
      rfl
    refine ⟨by simp [a1], by rw [a2]; exact setU_len _ _, by rw [a3]; cases r.d <;> simp [setD], fun k o' hk => ?_, fun t => by rw [a5, List.length_cons, hE], fun x => by rw [a6, List.length_cons, hH]⟩
    cases k with
    | zero =>
      simp only [List.getElem?_cons_zero, Option.some.injEq] at hk
      subst hk
      exact ⟨r, as, as2, ps1, rfl, hrec, hp1, Nat.le_of_ble_eq_true c1, c2⟩
    | succ k =>
      obtain ⟨r', b1, b2, b3, b4, b5, b6, b7, b8⟩ := a4 k o' (by simpa using hk)
      refine ⟨r', b1, b2, b3, by simpa using b4, ?_, b6, b7, ?_⟩
      · have e1 : (fun t => ov (wE (r :: rs2) t) (fun _ => true) (eat s.env t) (k + 1)) = fun t => ov (wE rs2 t) (fun _ => true) (eat (setD s.env r.d r.v) t) k := by funext t; exact hE t k
        have e2 : (fun x => ov (wH (r :: rs2) x) (fun _ => true) (hat s.h x) (k + 1)) = fun x => ov (wH rs2 x) (fun _ => true) (hat (setU s.h r.u) x) k := by funext x; exact hH x k
        rw [e1, e2, show i0 + (k + 1) = i0 + 1 + k by omega]
        exact b5
      · cases hd : r'.d with
        | none => rfl
        | some d =>
          rw [hd] at b8
          simp only [inEnv, Nat.blt_eq] at b8 ⊢
          cases hrd : r.d <;> rw [hrd] at b8 <;> simpa [setD] using b8
theorem ofF_same {ev ev' : Nat → AV} {o : Op} (h : ∀ t ∈ tsOf o, ev' t = ev t) : ∀ x ∈ o.operands, ofF ev' x = ofF ev x := by
  intro x hx
  cases x with
  | tmp t => exact h t (List.mem_filterMap.2 ⟨.tmp t, by simpa using hx, rfl⟩)
  | _ => rfl
theorem rec_local {sp : SP} {ops : List Oper} {o : Oper} {fr : Nat} {ev ev' : Nat → AV} {fh fh' : Nat → Option Row} {as as' : List Ans} {r : Rec} {ps : List Prop} (h : opRec tb sp ops o fr ev fh as = some (r, as', ps)) (he : ∀ t ∈ r.ts, ev' t = ev t) (hf : ∀ l ∈ r.rd, fh' l = fh l) :
    opRec tb sp ops o fr ev' fh' as = some (r, as', ps) := by
  have run : ∀ {g : List Nat} {ps0 : List Prop} {as : List Ans}, runRec tb sp o fr ev fh g ps0 as = some (r, as', ps) → runRec tb sp o fr ev' fh' g ps0 as = some (r, as', ps) ∧ ∀ x ∈ g, x ∈ r.ts := by
    intro g ps0 as h
    unfold runRec at h ⊢
    split at h
    · rename_i ef as2 ha
      simp only [Option.some.injEq, Prod.mk.injEq] at h
      obtain ⟨rfl, rfl, rfl⟩ := h
      rw [aop_local ha (ofF_same fun t ht => he t (List.mem_append_right _ ht)) hf]
      exact ⟨rfl, fun x hx => List.mem_append_left _ hx⟩
    · cases h
  unfold opRec at h ⊢
  split at h
  · exact (run h).1
  · rename_i j want hg
    split at h
    · rename_i d hd
      have hdts : d ∈ r.ts := by
        split at h
        · split at h
          · exact (run h).2 d (by simp)
          · simp only [Option.some.injEq, Prod.mk.injEq] at h
            obtain ⟨rfl, _⟩ := h
            simp
        · split at h
          · simp only [Option.some.injEq, Prod.mk.injEq] at h
            obtain ⟨rfl, _⟩ := h
            simp
          · exact (run h).2 d (by simp)
        · simp only [Option.some.injEq, Prod.mk.injEq] at h
          obtain ⟨rfl, _⟩ := h
          simp
        · cases h
      rw [he d hdts]
      split at h
      · split at h
        · exact (run h).1
        · exact h
      · split at h
        · exact h
        · exact (run h).1
      · exact h
      · cases h
    · cases h
end Go.Proofs.YtmodnnokcmabhaaGreat.Den
