/- The reckoner's walk over a function's text is the model's: regions in order, branches, loops. -/
import Derived.Test.YtmodnnokcmabhaaGreatDenQ
namespace Go.Proofs.YtmodnnokcmabhaaGreat.Den
open Go Go.RowKit
set_option linter.unusedSimpArgs false
set_option linter.unusedVariables false
variable {P : Program} {tb : TypeId → Option Ty} {B : Nat → Prop} {w0 w w' : World} {ρ ρ' ρ0 : Rho} {m0 : Nat}

structure Rel (B : Nat → Prop) (w0 : World) (ρ0 : Rho) (m0 : Nat) (s : St) (ρ : Rho) (a : Act) (w : World) : Prop where
  sim : Sim B w0 ρ w (hat s.h)
  env : ∀ t, AVR ρ (eat s.env t) (a.tmps.getD t undef)
  len : s.env.length = a.tmps.size
  dfs : a.defers = []
  fresh : ∀ l, s.h.length ≤ l → rat ρ l = none
  pre : Sub ρ0 ρ
  pre0 : ∀ l, m0 ≤ l → rat ρ0 l = none
theorem Sim.weaken {fh fh' : Nat → Option Row} (hs : Sim B w0 ρ w fh) (h : ∀ l r, fh' l = some r → fh l = some r) : Sim B w0 ρ w fh' :=
  ⟨hs.os, hs.tape, hs.output, hs.size, hs.keep, fun l r hl => hs.row l r (h l r hl), fun l l' lc lc' r r' hne hl hl' => hs.apart l l' lc lc' r r' hne (h _ _ hl) (h _ _ hl')⟩
theorem allP_append : ∀ {a b : List Prop}, allP (a ++ b) → allP a ∧ allP b
  | [], _, h => ⟨trivial, h⟩
  | p :: a, b, ⟨h1, h2⟩ => by obtain ⟨h3, h4⟩ := allP_append h2; exact ⟨⟨h1, h3⟩, h4⟩
theorem ofF_env {f : Nat → AV} {a : Act} (h : ∀ t, AVR ρ (f t) (a.tmps.getD t undef)) : ∀ x, AVR ρ (ofF f x) (a.eval x)
  | .tmp t => h t
  | .const v => val_c v
  | .global g => trivial
  | .func f => ⟨#[], rfl, rfl⟩
theorem hat_set (h : Heap) (k : Nat) (r : Option Row) (l : Nat) {x : Row} (hx : hat (h.set k r) l = some x) : (if l = k then r else hat h l) = some x := by
  simp only [hat, List.getElem?_set] at hx
  by_cases e : k = l
  · subst e
    simp only [if_true] at hx
    rw [if_pos rfl]
    split at hx
    · rename_i r' he
      split at he
      · simp only [Option.some.injEq] at he; subst he; exact hx
      · cases he
    · cases hx
  · rw [if_neg e] at hx
    rw [if_neg (fun h => e h.symm)]
    exact hx
theorem hat_setU : ∀ (u : List (Nat × Option Row)) (h : Heap) (f : Nat → Option Row), (∀ l r, hat h l = some r → f l = some r) → ∀ l r, hat (setU h u) l = some r → updF f u l = some r
  | [], h, f, hf, l, r, hl => hf l r hl
  | (k, x) :: u, h, f, hf, l, r, hl => by
    rw [updF]
    refine hat_setU u (h.set k x) _ (fun l' r' hl' => ?_) l r hl
    have := hat_set h k x l' hl'
    by_cases e : l' = k
    · rw [if_pos e] at this ⊢; exact this
    · rw [if_neg e] at this ⊢; exact hf _ _ this
theorem setU_len : ∀ (u : List (Nat × Option Row)) (h : Heap), (setU h u).length = h.length
  | [], _ => rfl
  | (k, x) :: u, h => by rw [setU, setU_len u]; simp
theorem pad_len (h : Heap) (n : Nat) : (pad h n).length = h.length + n := by cases n <;> simp [pad]
theorem pad_hat (h : Heap) (n : Nat) (l : Nat) : hat (pad h n) l = hat h l := by
  cases n with
  | zero => rfl
  | succ n =>
    simp only [hat, pad]
    by_cases hl : l < h.length
    · rw [List.getElem?_append_left hl]
    · rw [List.getElem?_append_right (by omega), List.getElem?_eq_none (by omega : h.length ≤ l)]
      rw [List.getElem?_replicate]
      by_cases hq : l - h.length < n + 1 <;> simp [hq]
theorem env_set {env : List AV} {d : Option Nat} {v : AV} {a : Act} {x : Value} (h : ∀ t, AVR ρ (eat env t) (a.tmps.getD t undef)) (hl : env.length = a.tmps.size) (hv : AVR ρ v x) : (∀ t, AVR ρ (eat (setD env d v) t) ((a.put d x).tmps.getD t undef)) ∧ (setD env d v).length = (a.put d x).tmps.size ∧ (a.put d x).defers = a.defers := by
  cases d with
  | none => exact ⟨h, hl, rfl⟩
  | some d =>
    refine ⟨fun t => ?_, by simp [setD, Act.put, hl], rfl⟩
    simp only [setD, Act.put, eat, List.getD_eq_getElem?_getD, List.getElem?_set, Array.getD_eq_getD_getElem?, Array.getElem?_setIfInBounds]
    by_cases e : d = t
    · subst e
      by_cases hd : d < env.length
      · simp only [if_true, hd, show d < a.tmps.size by omega]
        exact hv
      · simp only [if_true, hd, show ¬ d < a.tmps.size by omega, if_false]
        trivial
    · simp only [e, if_false]
      have := h t
      simp only [eat, List.getD_eq_getElem?_getD, Array.getD_eq_getD_getElem?] at this
      exact this

/-- The concrete side of one operation. -/
theorem rec_sound (T : TabOk P tb) {ops : Array Oper} {o : Oper} {fr : Nat} {ev : Nat → AV} {fh : Nat → Option Row} {as as' : List Ans} {r : Rec} {ps : List Prop} (h : opRec tb (Spec P) ops.toList o fr ev fh as = some (r, as', ps)) (hp : allP ps) {a : Act}
    (hs : Sim B w0 ρ w fh) (hev : ∀ t, AVR ρ (ev t) (a.tmps.getD t undef)) (hfr : ∀ j, fr ≤ j → j < fr + r.n → rat ρ j = none) {K : Act → World → Prop} {Q : Exit → Act → World → Prop}
    (hK : ∀ ρ' v w', Sub ρ ρ' → (∀ l, ¬ (fr ≤ l ∧ l < fr + r.n) → rat ρ' l = rat ρ l) → Sim B w0 ρ' w' (updF fh r.u) → AVR ρ' r.v v → K (a.put r.d v) w') :
    if Region.wanted o (yielded ops a.tmps) = true then o.wp P a w K Q else K (a.put o.dst undef) w := by
  have run : ∀ {g : List Nat} {ps0 : List Prop} {as : List Ans}, runRec tb (Spec P) o fr ev fh g ps0 as = some (r, as', ps) → o.wp P a w K Q := by
    intro g ps0 as h
    unfold runRec at h
    split at h
    · rename_i ef as2 he
      simp only [Option.some.injEq, Prod.mk.injEq] at h
      obtain ⟨rfl, rfl, rfl⟩ := h
      have hg := aop_sound T he (allP_append hp).2 hs (ofF_env hev) rfl hfr
      exact hg.wp (fun v w' ⟨ρ', h1, h2, h3, h4⟩ => hK ρ' v w' h1 h2 h3 h4)
    · cases h
  have skip : r = ⟨o.dst, .tup [], [], [], r.ts, 0⟩ → K (a.put o.dst undef) w := by
    intro e
    have h1 := hK ρ undef w (Sub.refl ρ) (fun _ _ => rfl) (by rw [e]; exact hs) (by rw [e]; exact ⟨#[], rfl, rfl⟩)
    rw [e] at h1
    exact h1
  unfold opRec at h
  split at h
  · rename_i hg
    rw [if_pos (by simp [Region.wanted, hg])]
    exact run h
  · rename_i j want hg
    split at h
    · rename_i d hd
      have hd' : (ops[j]?).bind (·.dst) = some d := by simpa using hd
      have hy : ∀ b, ev d = .v (.c (.bool b)) → yielded ops a.tmps j = some b := by
        intro b he
        have := hev d
        rw [he] at this
        have h2 : a.tmps.getD d undef = .bool b := this
        have h3 : a.tmps[d]? = some (.bool b) := by
          rw [Array.getD_eq_getD_getElem?] at h2
          cases hq : a.tmps[d]? with
          | none => rw [hq] at h2; cases h2
          | some q => rw [hq] at h2; simp at h2; rw [h2]
        simp [yielded, hd', h3]
      split at h
      · rename_i b as2 he
        have hyy := hy b he
        split at h
        · have hb := hp
          have hb1 : b = true := by
            unfold runRec at h
            split at h
            · simp only [Option.some.injEq, Prod.mk.injEq] at h
              obtain ⟨_, _, rfl⟩ := h
              exact hb.1
            · cases h
          rw [if_pos (by simp [Region.wanted, hg, hyy, hb1])]
          exact run h
        · simp only [Option.some.injEq, Prod.mk.injEq] at h
          obtain ⟨rfl, rfl, rfl⟩ := h
          have hb1 : b = true := hp.1
          rw [if_neg (by simp [Region.wanted, hg, hyy, hb1])]
          exact skip rfl
      · rename_i b as2 he
        have hyy := hy b he
        split at h
        · simp only [Option.some.injEq, Prod.mk.injEq] at h
          obtain ⟨rfl, rfl, rfl⟩ := h
          have hb1 : b = false := hp.1
          rw [if_neg (by simp [Region.wanted, hg, hyy, hb1])]
          exact skip rfl
        · have hb := hp
          have hb1 : b = false := by
            unfold runRec at h
            split at h
            · simp only [Option.some.injEq, Prod.mk.injEq] at h
              obtain ⟨_, _, rfl⟩ := h
              exact hb.1
            · cases h
          rw [if_pos (by simp [Region.wanted, hg, hyy, hb1])]
          exact run h
      · rename_i as2 he
        simp only [Option.some.injEq, Prod.mk.injEq] at h
        obtain ⟨rfl, rfl, rfl⟩ := h
        have hyy : yielded ops a.tmps j = none := by
          have := hev d
          rw [he] at this
          obtain ⟨us, hu, hus⟩ := this
          have h2 : a.tmps.getD d undef = .tuple us := hu
          rw [Array.getD_eq_getD_getElem?] at h2
          cases hq : a.tmps[d]? with
          | none => simp [yielded, hd', hq]
          | some q =>
            rw [hq] at h2
            simp at h2
            simp [yielded, hd', hq, h2]
        rw [if_neg (by simp [Region.wanted, hg, hyy])]
        exact skip rfl
      · cases h
    · cases h

theorem rec_dst (T : TabOk P tb) {ops : List Oper} {o : Oper} {fr : Nat} {ev : Nat → AV} {fh : Nat → Option Row} {as as' : List Ans} {r : Rec} {ps : List Prop} (h : opRec tb (Spec P) ops o fr ev fh as = some (r, as', ps)) : r.d = o.dst := by
  have run : ∀ {g : List Nat} {ps0 : List Prop} {as : List Ans}, runRec tb (Spec P) o fr ev fh g ps0 as = some (r, as', ps) → r.d = o.dst := by
    intro g ps0 as h
    unfold runRec at h
    split at h
    · simp only [Option.some.injEq, Prod.mk.injEq] at h
      obtain ⟨rfl, _⟩ := h
      rfl
    · cases h
  unfold opRec at h
  split at h
  · exact run h
  · split at h
    · split at h
      · split at h
        · exact run h
        · simp only [Option.some.injEq, Prod.mk.injEq] at h
          obtain ⟨rfl, _⟩ := h
          rfl
      · split at h
        · simp only [Option.some.injEq, Prod.mk.injEq] at h
          obtain ⟨rfl, _⟩ := h
          rfl
        · exact run h
      · simp only [Option.some.injEq, Prod.mk.injEq] at h
        obtain ⟨rfl, _⟩ := h
        rfl
      · cases h
    · cases h

theorem seq_sound (T : TabOk P tb) {ops : Array Oper} {Q : Exit → Act → World → Prop} : ∀ (l : List Oper) (s s' : St) (as as' : List Ans) (ps : List Prop) (ρ : Rho) (a : Act) (w : World), seqRun tb (Spec P) ops.toList l s as = some (s', as', ps) → allP ps → Rel B w0 ρ0 m0 s ρ a w →
    (∀ ρ' a' w', Rel B w0 ρ0 m0 s' ρ' a' w' → Q .normal a' w') → wpList P ops Q l a w
  | [], s, s', as, as', ps, ρ, a, w, h, _, hr, hQ => by
    simp only [seqRun, Option.some.injEq, Prod.mk.injEq] at h
    obtain ⟨rfl, _⟩ := h
    exact hQ _ _ _ hr
  | o :: rest, s, s', as, as', ps, ρ, a, w, h, hp, hr, hQ => by
    simp only [seqRun] at h
    split at h <;> first | (cases h; done) | skip
    rename_i r as2 ps1 hrec
    split at h <;> first | (cases h; done) | skip
    rename_i s2 as3 qs hrest
    simp only [Option.some.injEq, Prod.mk.injEq] at h
    obtain ⟨rfl, rfl, rfl⟩ := h
    obtain ⟨hp1, hp2⟩ := allP_append hp
    refine wpList_step fun K hK => ?_
    refine rec_sound T hrec hp1 hr.sim hr.env (fun j h1 _ => hr.fresh j h1) (fun ρ' v w' h1 h2 h3 h4 => hK _ _ ?_)
    obtain ⟨e1, e2, e3⟩ := env_set (d := r.d) (v := r.v) (fun t => (hr.env t).sub h1) hr.len h4
    refine seq_sound T rest _ s2 as2 as3 qs ρ' _ w' hrest hp2 ⟨h3.weaken (hat_setU r.u _ _ (fun l r' hl => by rw [pad_hat] at hl; exact hl)), e1, e2, by rw [e3]; exact hr.dfs, fun l hl => ?_, hr.pre.trans h1, hr.pre0⟩ hQ
    simp only [setU_len, pad_len] at hl
    rw [h2 l (by omega)]
    exact hr.fresh l (by omega)
end Go.Proofs.YtmodnnokcmabhaaGreat.Den
