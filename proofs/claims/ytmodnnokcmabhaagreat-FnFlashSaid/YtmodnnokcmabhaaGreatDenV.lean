/- The reckoner's walk over a function's text is the model's: all of it; loops; what is told of a function. -/
import Derived.Test.YtmodnnokcmabhaaGreatDenU
namespace Go.Proofs.YtmodnnokcmabhaaGreat.Den
open Go Go.RowKit
set_option linter.unusedSimpArgs false
set_option linter.unusedVariables false
variable {P : Program} {tb : TypeId → Option Ty} {B : Nat → Prop} {w0 w w' : World} {ρ ρ' ρ0 : Rho} {m0 : Nat}

def AExit.conc : AExit → Exit
  | .norm => .normal
  | .exit id => .exit id
  | .ret => .ret
def LoopWp (P : Program) (c : Code) (Q : Exit → Act → World → Prop) (a : Act) (w : World) : Prop :=
  ∀ (b : Frame) (k : List Item) (cs : List Frame), ∃ e a' w', Q e a' w' ∧ Arrives P (lone (b.at a (.code c :: .inLoop c :: k)) cs w) b k cs e a' w'
theorem LoopWp.loop {c : Code} {Q : Exit → Act → World → Prop} {a : Act} (h : LoopWp P c Q a w) : (Code.loop c).wp P Q a w := by
  intro b k cs
  obtain ⟨e, a', w', hq, harr⟩ := h b k cs
  exact ⟨e, a', w', hq, .of_steps (.one step_loop) harr⟩
theorem LoopWp.round {c : Code} {Q : Exit → Act → World → Prop} {a : Act} (h : c.wp P (Exit.then (LoopWp P c Q) Q) a w) : LoopWp P c Q a w := by
  intro b k cs
  obtain ⟨e, a₁, w₁, hq, harr⟩ := h b (.inLoop c :: k) cs
  cases e with
  | normal =>
    obtain ⟨e₂, a₂, w₂, hq₂, harr₂⟩ := hq b k cs
    exact ⟨e₂, a₂, w₂, hq₂, .of_steps (Steps.trans harr (.one step_inLoop)) harr₂⟩
  | exit id => exact ⟨_, a₁, w₁, hq, .pass (x := .inLoop c) rfl (fun _ _ => .inl (by simp)) harr⟩
  | goto l => exact ⟨_, a₁, w₁, hq, .pass (x := .inLoop c) rfl (fun _ _ => .inl (by simp)) harr⟩
  | ret => exact ⟨_, a₁, w₁, hq, .pass (x := .inLoop c) rfl (fun _ _ => .inl (by simp)) harr⟩
  | panic ch => exact ⟨_, a₁, w₁, hq, .pass (x := .inLoop c) rfl (fun _ _ => .inl (by simp)) harr⟩
  | outgrown => exact ⟨_, a₁, w₁, hq, .pass (x := .inLoop c) rfl (fun _ _ => .inl (by simp)) harr⟩
def LoopSpec (P : Program) (m0 : Nat) (c : Code) (s : St) (e : AExit) (s' : St) : Prop :=
  ∀ (B : Nat → Prop) (w0 : World) (ρ0 ρ : Rho) (a : Act) (w : World), Rel B w0 ρ0 m0 s ρ a w → ∀ Q : Exit → Act → World → Prop, (∀ ρ' a' w', Rel B w0 ρ0 m0 s' ρ' a' w' → Q e.conc a' w') → LoopWp P c Q a w

/-! ### other names -/
def rhoN (ρ : Rho) (keep : List Nat) : Rho := fun i => match (keep[i]? : Option Nat) with
  | some l => rat ρ l
  | none => none
theorem rhoN_at {keep : List Nat} {i l : Nat} (h : keep[i]? = some l) : rat (rhoN ρ keep) i = rat ρ l := by
  simp [rat, rhoN, h]
theorem le_norm {keep : List Nat} : LeV (at? keep) ρ (rhoN ρ keep) := by
  intro l l' lc h1 h2
  exact ⟨lc, by rw [rhoN_at (at?_some h1)]; exact h2, rfl, rfl, rfl, rfl, fun h => h⟩
theorem normHeap_at {keep : List Nat} {h : Heap} {i : Nat} {r : Row} (hr : hat (normHeap keep h) i = some r) : ∃ l r0, keep[i]? = some l ∧ hat h l = some r0 ∧ r = r0.ren (at? keep) := by
  simp only [hat, normHeap, List.getElem?_map] at hr
  cases hk : keep[i]? with
  | none => rw [hk] at hr; cases hr
  | some l =>
    rw [hk] at hr
    simp only [Option.map_some] at hr
    refine ⟨l, ?_⟩
    cases hh : hat h l with
    | none =>
      have : hat h l = none := hh
      simp only [hat] at this
      rw [this] at hr
      cases hr
    | some r0 =>
      have : hat h l = some r0 := hh
      simp only [hat] at this
      rw [this] at hr
      exact ⟨r0, rfl, rfl, (Option.some.inj hr).symm⟩
theorem norm_sim {keep : List Nat} {h : Heap} (hs : Sim B w0 ρ w (hat h)) (hn : keep.Nodup) : Sim B w0 (rhoN ρ keep) w (hat (normHeap keep h)) := by
  refine ⟨hs.os, hs.tape, hs.output, hs.size, hs.keep, fun i r hr => ?_, fun i i' lc lc' r r' hne hr hr' ho ho' hlc hlc' h1 h2 => ?_⟩
  · obtain ⟨l, r0, hk, hh, rfl⟩ := normHeap_at hr
    obtain ⟨lc, g1, g2, g3⟩ := hs.row l r0 hh
    refine ⟨lc, by rw [rhoN_at hk]; exact g1, g2.seen le_norm rfl rfl rfl rfl g2.2.1 (fun h => h), ?_⟩
    by_cases ho : r0.own = true
    · simp only [Place, ho, if_true] at g3
      simp only [Place, Row.ren, ho, if_true]
      exact g3
    · simp only [Place, ho, if_false, Bool.false_eq_true] at g3
      simp only [Place, Row.ren, ho, if_false, Bool.false_eq_true]
      rcases g3 with g3 | g3
      · left
        have := (ren_meta r0.d (at? keep)).2
        rw [g3] at this
        exact List.eq_nil_of_length_eq_zero (by simpa using this)
      · exact .inr g3
  · obtain ⟨l, r0, hk, hh, rfl⟩ := normHeap_at hr
    obtain ⟨l', r0', hk', hh', rfl⟩ := normHeap_at hr'
    rw [rhoN_at hk] at hlc
    rw [rhoN_at hk'] at hlc'
    refine hs.apart l l' lc lc' r0 r0' (fun e => hne ?_) hh hh' ho ho' hlc hlc' h1 h2
    subst e
    obtain ⟨q1, q2⟩ := List.getElem?_eq_some_iff.1 hk
    obtain ⟨q3, q4⟩ := List.getElem?_eq_some_iff.1 hk'
    exact (List.getElem_inj hn).1 (q2.trans q4.symm)
theorem preOk_spec {keep : List Nat} (h : preOk m0 keep = true) : keep.Nodup ∧ ∀ i, i < m0 → keep[i]? = some i := by
  simp only [preOk, Bool.and_eq_true, beq_iff_eq] at h
  refine ⟨nodupB_spec h.2, fun i hi => ?_⟩
  have : (keep.take m0)[i]? = some i := by rw [h.1, List.getElem?_range hi]
  rw [List.getElem?_take, if_pos hi] at this
  exact this
theorem norm_pre {keep : List Nat} (h : preOk m0 keep = true) (hp : Sub ρ0 ρ) (h0 : ∀ l, m0 ≤ l → rat ρ0 l = none) : Sub ρ0 (rhoN ρ keep) := by
  intro l lc hl
  have hlt : l < m0 := by
    rcases Nat.lt_or_ge l m0 with h | h
    · exact h
    · rw [h0 l h] at hl; cases hl
  rw [rhoN_at ((preOk_spec h).2 l hlt)]
  exact hp _ _ hl
theorem normEnv_at (τ : Nat → Option Nat) (slots : List Nat) : ∀ (env : List AV) (i t : Nat), eat (normEnv τ slots i env) t = if slots.contains (i + t) then (eat env t).ren τ else un
  | [], i, t => by
    simp only [eat, normEnv, List.getD_nil]
    split <;> rfl
  | x :: env, i, 0 => by simp [eat, normEnv]
  | x :: env, i, t + 1 => by
    have := normEnv_at τ slots env (i + 1) t
    rw [show i + 1 + t = i + (t + 1) by omega] at this
    simpa [eat, normEnv] using this
theorem normEnv_len (τ : Nat → Option Nat) (slots : List Nat) : ∀ (env : List AV) (i : Nat), (normEnv τ slots i env).length = env.length
  | [], _ => rfl
  | x :: env, i => by simp [normEnv, normEnv_len τ slots env (i + 1)]
theorem norm0_rel {s : St} {a : Act} {slots keep : List Nat} (h : preOk m0 keep = true) (hr : Rel B w0 ρ0 m0 s ρ a w) : Rel B w0 ρ0 m0 (norm0 slots keep s) (rhoN ρ keep) a w := by
  refine ⟨norm_sim hr.sim (preOk_spec h).1, fun t => ?_, by rw [← hr.len]; exact normEnv_len _ _ _ _, hr.dfs, fun l hl => ?_, norm_pre h hr.pre hr.pre0, hr.pre0⟩
  · show AVR _ (eat (normEnv _ _ 0 _) t) _
    rw [normEnv_at]
    split
    · exact (hr.env t).ren le_norm
    · trivial
  · have : keep[l]? = none := List.getElem?_eq_none (by simpa [norm0, normHeap] using hl)
    simp [rat, rhoN, this]

theorem mvT_le {l n : Nat} (hf : rat ρ n = none) : LeV (mvT l n) ρ (fun k => if k = n then rat ρ l else rat ρ k) := by
  intro k k' lc h1 h2
  refine ⟨lc, ?_, rfl, rfl, rfl, rfl, fun h => h⟩
  unfold mvT at h1
  split at h1
  · rename_i hk
    obtain rfl := Option.some.inj h1
    rw [Nat.eq_of_beq_eq_true hk] at h2
    show (if n = n then rat ρ l else rat ρ n) = some lc
    rw [if_pos rfl]; exact h2
  · obtain rfl := Option.some.inj h1
    have : k ≠ n := fun e => by rw [e, hf] at h2; cases h2
    show (if k = n then rat ρ l else rat ρ k) = some lc
    rw [if_neg this]; exact h2
theorem moveSt_hat {l : Nat} {s : St} {k : Nat} {r : Row} (h : hat (moveSt l s).h k = some r) : ∃ k0 r0, hat s.h k0 = some r0 ∧ r = r0.ren (mvT l s.h.length) ∧ ((k = s.h.length ∧ k0 = l) ∨ (k < s.h.length ∧ k ≠ l ∧ k0 = k)) := by
  rcases Nat.lt_trichotomy k s.h.length with hk | hk | hk
  · have hk' : k < ((s.h.set l none).map (Option.map (Row.ren (mvT l s.h.length)))).length := by simpa using hk
    simp only [hat, moveSt] at h
    rw [List.getElem?_append_left hk', List.getElem?_map, List.getElem?_set] at h
    by_cases e : l = k
    · subst e
      simp [hk] at h
    · rw [if_neg e] at h
      cases hh : s.h[k]? with
      | none => rw [hh] at h; cases h
      | some q =>
        rw [hh] at h
        cases q with
        | none => cases h
        | some r0 =>
          simp only [Option.map_some, Option.some.injEq] at h
          exact ⟨k, r0, by simp [hat, hh], h.symm, .inr ⟨hk, fun e' => e e'.symm, rfl⟩⟩
  · simp only [hat, moveSt] at h
    rw [List.getElem?_append_right (by simp [hk]), List.length_map, List.length_set, hk, Nat.sub_self, List.getElem?_cons_zero] at h
    cases hh : hat s.h l with
    | none =>
      have hh' := hh
      simp only [hat] at hh'
      rw [hh'] at h; cases h
    | some r0 =>
      have hh' := hh
      simp only [hat] at hh'
      rw [hh'] at h
      simp only [Option.map_some, Option.some.injEq] at h
      exact ⟨l, r0, hh, h.symm, .inl ⟨hk, rfl⟩⟩
  · simp only [hat, moveSt] at h
    rw [List.getElem?_eq_none (by simp; omega)] at h
    cases h
theorem moveSt_rel {l : Nat} {s : St} {a : Act} {ρ : Rho} (hr : Rel B w0 ρ0 m0 s ρ a w) : ∃ ρ', Rel B w0 ρ0 m0 (moveSt l s) ρ' a w := by
  have hf := hr.fresh s.h.length (Nat.le_refl _)
  have hle := mvT_le (ρ := ρ) (l := l) hf
  have hs := hr.sim
  have hat' : ∀ k k0 : Nat, ((k = s.h.length ∧ k0 = l) ∨ (k < s.h.length ∧ k ≠ l ∧ k0 = k)) → rat (fun k => if k = s.h.length then rat ρ l else rat ρ k) k = rat ρ k0 := by
    intro k k0 h
    show (if k = s.h.length then rat ρ l else rat ρ k) = _
    rcases h with ⟨h1, h2⟩ | ⟨h1, _, h2⟩
    · rw [if_pos h1, h2]
    · rw [if_neg (by omega), h2]
  refine ⟨fun k => if k = s.h.length then rat ρ l else rat ρ k, ⟨⟨hs.os, hs.tape, hs.output, hs.size, hs.keep, fun i r hri => ?_, fun i i' lc lc' r r' hne hri hri' ho ho' hlc hlc' h1 h2 => ?_⟩, fun t => ?_, by rw [← hr.len]; simp [moveSt], hr.dfs, fun k hk => ?_, fun k lc hk => ?_, hr.pre0⟩⟩
  · obtain ⟨k0, r0, hh, rfl, hk⟩ := moveSt_hat hri
    obtain ⟨lc, g1, g2, g3⟩ := hs.row k0 r0 hh
    refine ⟨lc, by rw [hat' i k0 hk]; exact g1, g2.seen hle rfl rfl rfl rfl g2.2.1 (fun h => h), ?_⟩
    by_cases ho : r0.own = true
    · simp only [Place, ho, if_true] at g3
      simp only [Place, Row.ren, ho, if_true]
      exact g3
    · simp only [Place, ho, if_false, Bool.false_eq_true] at g3
      simp only [Place, Row.ren, ho, if_false, Bool.false_eq_true]
      rcases g3 with g3 | g3
      · left
        have := (ren_meta r0.d (mvT l s.h.length)).2
        rw [g3] at this
        exact List.eq_nil_of_length_eq_zero (by simpa using this)
      · exact .inr g3
  · obtain ⟨k, r0, hh, rfl, hk⟩ := moveSt_hat hri
    obtain ⟨k', r0', hh', rfl, hk'⟩ := moveSt_hat hri'
    rw [hat' i k hk] at hlc
    rw [hat' i' k' hk'] at hlc'
    refine hs.apart k k' lc lc' r0 r0' (fun e => hne ?_) hh hh' ho ho' hlc hlc' h1 h2
    omega
  · have : eat (moveSt l s).env t = (eat s.env t).ren (mvT l s.h.length) := by
      simp only [eat, moveSt, List.getD_eq_getElem?_getD, List.getElem?_map]
      cases s.env[t]? <;> rfl
    rw [this]
    exact (hr.env t).ren hle
  · have hk : s.h.length + 1 ≤ k := by simpa [moveSt] using hk
    show (if k = s.h.length then rat ρ l else rat ρ k) = none
    rw [if_neg (by omega)]
    exact hr.fresh k (by omega)
  · have h1 := hr.pre k lc hk
    show (if k = s.h.length then rat ρ l else rat ρ k) = some lc
    rw [if_neg (fun e => by rw [e, hf] at h1; cases h1)]
    exact h1
theorem dropSt_rel {l : Nat} {s : St} {a : Act} (hr : Rel B w0 ρ0 m0 s ρ a w) : Rel B w0 ρ0 m0 (dropSt l s) ρ a w := by
  refine ⟨hr.sim.weaken (fun k r hk => ?_), hr.env, hr.len, hr.dfs, fun k hk => hr.fresh k (by simpa [dropSt] using hk), hr.pre, hr.pre0⟩
  have := hat_set s.h l none k hk
  split at this
  · cases this
  · exact this
theorem denilSt_rel : ∀ (nils : List (Nat × List DK)) {s : St} {a : Act} {ρ : Rho}, Rel B w0 ρ0 m0 s ρ a w → ∃ ρ', Rel B w0 ρ0 m0 (denilSt nils s) ρ' a w
  | [], s, a, ρ, hr => ⟨ρ, hr⟩
  | (t, ks) :: r, s, a, ρ, hr => by
    unfold denilSt
    split
    · split
      · exact denilSt_rel r (dropSt_rel hr)
      · obtain ⟨ρ1, h1⟩ := moveSt_rel (l := t - 1000000) hr
        exact denilSt_rel r h1
    split
    · rename_i x hx
      split
      rename_i y u hden
      have hv := hr.env t
      rw [hx] at hv
      have e1 := congrArg Prod.fst hden
      have e2 := congrArg Prod.snd hden
      simp only at e1 e2
      subst e1 e2
      obtain ⟨ρ1, g1, g2, g3, g4⟩ := denilV_sound ks s.h.length x _ hr.sim hv (fun j h1 _ => hr.fresh j h1)
      refine denilSt_rel r (ρ := ρ1) ⟨?_, fun k => ?_, by simp [hr.len], hr.dfs, fun l hl => ?_, hr.pre.trans g1, hr.pre0⟩
      · exact g3.weaken (fun l r0 hl => hat_setU _ _ _ (fun l' r' h' => by rw [pad_hat] at h'; exact h') l r0 hl)
      · by_cases e : k = t
        · subst e
          by_cases hk : k < s.env.length
          · have : eat (s.env.set k (.v (denilV ks s.h.length x).1)) k = .v (denilV ks s.h.length x).1 := by
              simp [eat, List.getD_eq_getElem?_getD, List.getElem?_set, hk]
            rw [this]; exact g4
          · have : eat (s.env.set k (.v (denilV ks s.h.length x).1)) k = un := by
              simp [eat, List.getD_eq_getElem?_getD, List.getElem?_set, hk]
            rw [this]; trivial
        · have : eat (s.env.set t (.v (denilV ks s.h.length x).1)) k = eat s.env k := by
            simp only [eat, List.getD_eq_getElem?_getD, List.getElem?_set]
            rw [if_neg (fun h : t = k => e h.symm)]
          rw [this]; exact (hr.env k).sub g1
      · rw [setU_len, pad_len] at hl
        rw [g2 l (by omega)]
        exact hr.fresh l (by omega)
    · exact denilSt_rel r hr
theorem norm_rel {s : St} {a : Act} {nils : List (Nat × List DK)} {slots keep : List Nat} (h : preOk m0 keep = true) (hr : Rel B w0 ρ0 m0 s ρ a w) : ∃ ρ', Rel B w0 ρ0 m0 (normSt nils slots keep s) ρ' a w := by
  obtain ⟨ρ1, h1⟩ := denilSt_rel nils hr
  exact ⟨_, norm0_rel h h1⟩

/-! ### the walk -/
theorem exec_sound (T : TabOk P tb) (hm : P.follows .mixedOrders = true) : ∀ (c : Code) (s s' : St) (as as' : List Ans) (e : AExit) (ps : List Prop) (ρ : Rho) (a : Act) (w : World), exec tb (Spec P) (LoopSpec P m0) m0 c s as = some (e, s', as', ps) → allP ps → Rel B w0 ρ0 m0 s ρ a w →
    ∀ Q : Exit → Act → World → Prop, (∀ ρ' a' w', Rel B w0 ρ0 m0 s' ρ' a' w' → Q e.conc a' w') → c.wp P Q a w
  | .skip, s, s', as, as', e, ps, ρ, a, w, h, hp, hr, Q, hQ => by
    simp only [exec, Option.some.injEq, Prod.mk.injEq] at h
    obtain ⟨rfl, rfl, _⟩ := h
    exact wp_skip (hQ _ _ _ hr)
  | .exit id, s, s', as, as', e, ps, ρ, a, w, h, hp, hr, Q, hQ => by
    simp only [exec, Option.some.injEq, Prod.mk.injEq] at h
    obtain ⟨rfl, rfl, _⟩ := h
    exact wp_exit (hQ _ _ _ hr)
  | .ret, s, s', as, as', e, ps, ρ, a, w, h, hp, hr, Q, hQ => by
    simp only [exec, Option.some.injEq, Prod.mk.injEq] at h
    obtain ⟨rfl, rfl, _⟩ := h
    exact wp_ret (hQ _ _ _ hr)
  | .seq x y, s, s', as, as', e, ps, ρ, a, w, h, hp, hr, Q, hQ => by
    simp only [exec] at h
    split at h
    · rename_i s1 as1 ps1 hx
      split at h <;> first | (cases h; done) | skip
      rename_i e2 s2 as2 qs hy
      simp only [Option.some.injEq, Prod.mk.injEq] at h
      obtain ⟨rfl, rfl, rfl, rfl⟩ := h
      obtain ⟨hp1, hp2⟩ := allP_append hp
      exact wp_seq (exec_sound T hm x s s1 as as1 .norm ps1 ρ a w hx hp1 hr _ (fun ρ' a' w' hr' => exec_sound T hm y s1 s2 as1 as2 e2 qs ρ' a' w' hy hp2 hr' Q hQ))
    · rename_i hne
      cases e with
      | norm => exact absurd h (hne _ _ _)
      | exit id => exact wp_seq (exec_sound T hm x s s' as as' (.exit id) ps ρ a w h hp hr _ hQ)
      | ret => exact wp_seq (exec_sound T hm x s s' as as' .ret ps ρ a w h hp hr _ hQ)
  | .cond c x y, s, s', as, as', e, ps, ρ, a, w, h, hp, hr, Q, hQ => by
    simp only [exec] at h
    have hc := ofF_env hr.env c
    split at h <;> first | (cases h; done) | skip
    · rename_i b as1 hb
      split at h <;> first | (cases h; done) | skip
      rename_i e2 s2 as2 qs hx
      simp only [Option.some.injEq, Prod.mk.injEq] at h
      obtain ⟨rfl, rfl, rfl, rfl⟩ := h
      rw [hb] at hc
      have hbt : b = true := hp.1
      subst hbt
      exact wp_cond_true hc (exec_sound T hm x s s2 as1 as2 e2 qs ρ a w hx hp.2 hr Q hQ)
    · rename_i b as1 hb
      split at h <;> first | (cases h; done) | skip
      rename_i e2 s2 as2 qs hx
      simp only [Option.some.injEq, Prod.mk.injEq] at h
      obtain ⟨rfl, rfl, rfl, rfl⟩ := h
      rw [hb] at hc
      have hbt : b = false := hp.1
      subst hbt
      exact wp_cond_false hc (exec_sound T hm y s s2 as1 as2 e2 qs ρ a w hx hp.2 hr Q hQ)
  | .block id c, s, s', as, as', e, ps, ρ, a, w, h, hp, hr, Q, hQ => by
    simp only [exec] at h
    split at h
    · rename_i k s1 as1 ps1 hc
      split at h
      · rename_i hk
        simp only [Option.some.injEq, Prod.mk.injEq] at h
        obtain ⟨rfl, rfl, rfl, rfl⟩ := h
        have hkid : k = id := Nat.eq_of_beq_eq_true hk
        refine wp_block (exec_sound T hm c s s1 as as1 (.exit k) ps1 ρ a w hc hp hr _ (fun ρ' a' w' hr' => ?_))
        show Exit.inBlock id Q (.exit k) a' w'
        simp only [Exit.inBlock, hkid, if_true]
        exact hQ _ _ _ hr'
      · rename_i hk
        simp only [Option.some.injEq, Prod.mk.injEq] at h
        obtain ⟨rfl, rfl, rfl, rfl⟩ := h
        have hkid : k ≠ id := fun e => hk (by rw [e]; simp)
        refine wp_block (exec_sound T hm c s s1 as as1 (.exit k) ps1 ρ a w hc hp hr _ (fun ρ' a' w' hr' => ?_))
        show Exit.inBlock id Q (.exit k) a' w'
        simp only [Exit.inBlock, hkid, if_false]
        exact hQ _ _ _ hr'
    · rename_i hne
      cases e with
      | norm => exact wp_block (exec_sound T hm c s s' as as' .norm ps ρ a w h hp hr _ hQ)
      | exit k => exact absurd h (hne _ _ _ _)
      | ret => exact wp_block (exec_sound T hm c s s' as as' .ret ps ρ a w h hp hr _ hQ)
  | .loop c, s, s', as, as', e, ps, ρ, a, w, h, hp, hr, Q, hQ => by
    simp only [exec] at h
    split at h <;> first | (cases h; done) | skip
    rename_i nils slots keep e2 s2 as2
    split at h <;> first | (cases h; done) | skip
    rename_i hc
    simp only [Option.some.injEq, Prod.mk.injEq] at h
    obtain ⟨rfl, rfl, rfl, rfl⟩ := h
    simp only [Bool.and_eq_true] at hc
    obtain ⟨ρn, hrn⟩ := norm_rel (nils := nils) (slots := slots) hc.1 hr
    exact (hp.1 B w0 ρ0 _ a w hrn Q hQ).loop
  | .region id ops false, s, s', as, as', e, ps, ρ, a, w, h, hp, hr, Q, hQ => by
    simp only [exec] at h
    split at h <;> first | (cases h; done) | skip
    rename_i s1 as1 ps1 hs
    simp only [Option.some.injEq, Prod.mk.injEq] at h
    obtain ⟨rfl, rfl, rfl, rfl⟩ := h
    exact wp_region_list (seq_sound T ops.toList s s1 as as1 ps1 ρ a w hs hp hr hQ)
  | .region id ops true, s, s', as, as', e, ps, ρ, a, w, h, hp, hr, Q, hQ => by
    simp only [exec] at h
    split at h <;> first | (cases h; done) | skip
    rename_i rs s1 as1 ps1 hs
    split at h <;> first | (cases h; done) | skip
    rename_i hc
    simp only [Option.some.injEq, Prod.mk.injEq] at h
    obtain ⟨rfl, rfl, rfl, rfl⟩ := h
    simp only [Bool.and_eq_true] at hc
    have hf0 : ∀ j, (Array.replicate ops.size false).getD j false = false := by
      intro j
      simp only [Array.getD_eq_getD_getElem?, Array.getElem?_replicate]
      split <;> rfl
    have hov : ∀ {α : Type} (ws : Nat → Option α) (b : α) (n : Nat), ov ws (fun j => (Array.replicate ops.size false).getD j false) b n = b := by
      intro α ws b n
      induction n with
      | zero => rfl
      | succ n ih => rw [ov, hf0, if_neg (by decide), ih]
    refine wp_region_any hm (draw_any T hs hp hc.1 hc.2 hr.pre0 hQ ops.size (Array.replicate ops.size false) ρ a _ ?_ (by simp) (fun i o _ hD => ?_) ?_ (fun t => ?_) hr.len hr.dfs hr.pre (fun l hl => hr.fresh l (by omega)) (fun i _ _ q _ => hr.fresh _ (by omega)))
    · unfold left_
      exact Nat.le_trans (List.length_filter_le _ _) (by simp)
    · have hD : (Array.replicate ops.size false).getD i false = true := hD
      rw [hf0] at hD; cases hD
    · have : (fun x => ov (wH rs x) (fun j => (Array.replicate ops.size false).getD j false) (hat s.h x) ops.size) = hat s.h := by funext x; exact hov _ _ _
      rw [this]
      obtain ⟨a1, a2, a3, a4, a5, a6, a7⟩ := hr.sim
      exact ⟨a1, a2, a3, a4, a5, fun l r hl => by obtain ⟨lc, b1, b2, b3⟩ := a6 l r hl; exact ⟨lc, b1, b2, b3⟩, a7⟩
    · rw [hov]; exact hr.env t
  | .rangeFunc .., s, s', as, as', e, ps, ρ, a, w, h, hp, hr, Q, hQ => by simp [exec] at h
  | .scope .., s, s', as, as', e, ps, ρ, a, w, h, hp, hr, Q, hQ => by simp [exec] at h
  | .label .., s, s', as, as', e, ps, ρ, a, w, h, hp, hr, Q, hQ => by simp [exec] at h
  | .goto .., s, s', as, as', e, ps, ρ, a, w, h, hp, hr, Q, hQ => by simp [exec] at h
  | .refuse .., s, s', as, as', e, ps, ρ, a, w, h, hp, hr, Q, hQ => by simp [exec] at h

/-! ### loops -/
theorem LoopSpec.done (T : TabOk P tb) (hm : P.follows .mixedOrders = true) {c : Code} {s s' : St} {as as' : List Ans} {e : AExit} {ps : List Prop} (h : exec tb (Spec P) (LoopSpec P m0) m0 c s as = some (e, s', as', ps)) (hp : allP ps) (he : e.isNorm = false) : LoopSpec P m0 c s e s' := by
  intro B w0 ρ0 ρ a w hr Q hQ
  refine LoopWp.round (exec_sound T hm c s s' as as' e ps ρ a w h hp hr _ (fun ρ' a' w' hr' => ?_))
  cases e with
  | norm => cases he
  | exit id => exact hQ _ _ _ hr'
  | ret => exact hQ _ _ _ hr'
theorem LoopSpec.step (T : TabOk P tb) (hm : P.follows .mixedOrders = true) {c : Code} {s s1 s' : St} {as as' : List Ans} {e : AExit} {ps : List Prop} {nils : List (Nat × List DK)} {slots keep : List Nat} (h : exec tb (Spec P) (LoopSpec P m0) m0 c s as = some (.norm, s1, as', ps)) (hp : allP ps) (hk : preOk m0 keep = true)
    (hl : LoopSpec P m0 c (normSt nils slots keep s1) e s') : LoopSpec P m0 c s e s' := by
  intro B w0 ρ0 ρ a w hr Q hQ
  refine LoopWp.round (exec_sound T hm c s s1 as as' .norm ps ρ a w h hp hr _ (fun ρ' a' w' hr' => ?_))
  obtain ⟨ρn, hrn⟩ := norm_rel (nils := nils) (slots := slots) hk hr'
  exact hl B w0 ρ0 _ a' w' hrn Q hQ

/-! ### functions -/
def resOne (tb : TypeId → Option Ty) (s : St) : ResultVar → Option V
  | .tmp t => match eat s.env t with
    | .v x => some x
    | _ => none
  | .cell t ty => match tb ty, eat s.env t with
    | some y, .v (.c (.ptr l i j)) => match hat s.h l with
      | some r => match y.agg with
        | true => match r.d.gets i j y.sz with
          | some (cs, []) => some (.agg cs)
          | _ => none
        | false => match r.d.get i j with
          | some (c, []) => some (.c c)
          | _ => none
      | none => none
    | _, _ => none
def resAll (tb : TypeId → Option Ty) (s : St) : List ResultVar → Option (List V)
  | [] => some []
  | r :: rs => match resOne tb s r, resAll tb s rs with
    | some x, some xs => some (x :: xs)
    | _, _ => none
def resOf : List V → AV
  | [x] => .v x
  | xs => .tup xs
def resRun (a : Act) : ResultVar → Sem Value
  | .tmp t => pure (a.tmps.getD t undef)
  | .cell t ty => do loadVar ty (← asAddr (a.tmps.getD t undef))
theorem resOne_sound (T : TabOk P tb) {s : St} {a : Act} {r : ResultVar} {x : V} (h : resOne tb s r = some x) (hr : Rel B w0 ρ0 m0 s ρ a w) : ∃ v, (resRun a r).run P w = .ok v w ∧ VR ρ x v := by
  cases r with
  | tmp t =>
    simp only [resOne] at h
    split at h
    · rename_i y hy
      obtain rfl := Option.some.inj h
      have := hr.env t
      rw [hy] at this
      exact ⟨_, rfl, this⟩
    · cases h
  | cell t ty =>
    simp only [resOne] at h
    split at h <;> first | (cases h; done) | skip
    rename_i y l i j hy ht
    split at h <;> first | (cases h; done) | skip
    rename_i r0 hr0
    have hp := hr.env t
    rw [ht] at hp
    have fin : ∀ u, (Instr.loadAt ty (a.tmps.getD t undef)).run P w = .ok u w → (resRun a (.cell t ty)).run P w = .ok u w := by
      intro u hu
      obtain ⟨lc, hlc, hv⟩ := hp
      have hv : a.tmps.getD t undef = .pointer (some ⟨lc.b, lc.o + i * lc.sz + j, none⟩) := hv
      simp only [resRun]
      rw [hv] at hu ⊢
      exact hu
    split at h
    · rename_i hagg
      split at h <;> first | (cases h; done) | skip
      rename_i cs hg
      obtain rfl := Option.some.inj h
      obtain ⟨u, h1, h2⟩ := run_load_agg (T _ _ hy) hagg hr0 hp hg trivial hr.sim
      exact ⟨u, fin u h1, h2⟩
    · rename_i hagg
      split at h <;> first | (cases h; done) | skip
      rename_i c hg
      obtain rfl := Option.some.inj h
      obtain ⟨u, h1, h2⟩ := run_load_one (T _ _ hy) hagg hr0 hp hg trivial hr.sim
      exact ⟨u, fin u h1, h2⟩
theorem resAll_sound (T : TabOk P tb) {s : St} {a : Act} (hr : Rel B w0 ρ0 m0 s ρ a w) : ∀ (rs : List ResultVar) (xs : List V), resAll tb s rs = some xs → ∃ vs : List Value, (rs.mapM (resRun a)).run P w = .ok vs w ∧ VsR ρ xs vs ∧ vs.length = xs.length
  | [], xs, h => by
    simp only [resAll, Option.some.injEq] at h
    subst h
    exact ⟨[], rfl, rfl, rfl⟩
  | r :: rs, xs, h => by
    simp only [resAll] at h
    split at h <;> first | (cases h; done) | skip
    rename_i x xs' h1 h2
    obtain rfl := Option.some.inj h
    obtain ⟨v, g1, g2⟩ := resOne_sound T h1 hr
    obtain ⟨vs, g3, g4, g5⟩ := resAll_sound T hr rs xs' h2
    exact ⟨v :: vs, by simp [List.mapM_cons, Sem.run_bind, g1, g3], ⟨v, vs, rfl, g2, g4⟩, by simp [g5]⟩
theorem avs_get : ∀ {xs : List AV} {vs : List Value}, AVsR ρ xs vs → xs.length = vs.length ∧ ∀ t, AVR ρ (eat xs t) (vs.getD t undef)
  | [], vs, h => by rw [show vs = [] from h]; exact ⟨rfl, fun t => trivial⟩
  | x :: xs, vs, ⟨u, us, he, h1, h2⟩ => by
    subst he
    obtain ⟨h3, h4⟩ := avs_get h2
    refine ⟨by simp [h3], fun t => ?_⟩
    cases t with
    | zero => exact h1
    | succ t => simpa [eat] using h4 t
/-- The state that a function begins with. -/
def begin_ (args : List AV) (h : Heap) (nt : Nat) : St := ⟨args ++ List.replicate (nt - args.length) un, h⟩
theorem Spec.of_exec (T : TabOk P tb) (hm : P.follows .mixedOrders = true) {f : FuncId} {fn : Func} {c : Code} (hf : P.funcs[f]? = some fn) (hname : (fn.name == "runtime.NumGoroutine") = false) (hb : fn.body = some c) {args : List AV} {h : Heap} {s' : St} {as as' : List Ans} {e : AExit} {ps : List Prop}
    (hx : exec tb (Spec P) (LoopSpec P h.length) h.length c (begin_ args h fn.ntmps) as = some (e, s', as', ps)) (hp : allP ps) (he : e.isNorm = true ∨ e = .ret) (nils : List (Nat × List DK)) {xs : List V} (hr : resAll tb (denilSt nils s') fn.results.toList = some xs) {keep : List Nat} (hk : preOk h.length keep = true) :
    Spec P f args h ((resOf xs).ren (at? keep)) (normHeap keep (denilSt nils s').h) := by
  refine ⟨⟨fn, hf, hname, by rw [hb]; rfl⟩, fun B w ρ vs hfr hs hav => ?_⟩
  obtain ⟨hl, hg⟩ := avs_get hav
  have hrel : Rel B w ρ h.length (begin_ args h fn.ntmps) ρ { tmps := vs.toArray ++ Array.replicate (fn.ntmps - vs.toArray.size) undef, defers := [] } w := by
    refine ⟨hs, fun t => ?_, by simp [begin_, hl], rfl, hfr, Sub.refl ρ, hfr⟩
    have := hg t
    simp only [begin_, eat, List.getD_eq_getElem?_getD, Array.getD_eq_getD_getElem?, Array.getElem?_append, List.getElem?_append, List.size_toArray, hl] at this ⊢
    by_cases ht : t < vs.length
    · simpa [ht] using this
    · simp only [ht, if_false]
      rw [List.getElem?_replicate]
      split <;> trivial
  have fin : ∀ ρ' a' w', Rel B w ρ h.length s' ρ' a' w' → a'.defers = [] ∧ ∃ v, (results fn a'.tmps).run P w' = .ok v w' ∧ ∃ ρ'' v', Ending.returned v = .returned v' ∧ Sim B w ρ'' w' (hat (normHeap keep (denilSt nils s').h)) ∧ AVR ρ'' ((resOf xs).ren (at? keep)) v' ∧ Sub ρ ρ'' := by
    intro ρ0' a' w' hr0'
    obtain ⟨ρ', hr'⟩ := denilSt_rel nils hr0'
    obtain ⟨us, g1, g2, g3⟩ := resAll_sound T hr' fn.results.toList xs hr
    have hrun : (results fn a'.tmps).run P w' = .ok (if h : us.toArray.size = 1 then us.toArray[0] else .tuple us.toArray) w' := by
      have : results fn a'.tmps = (do let vs ← fn.results.mapM (resRun a'); pure (if h : vs.size = 1 then vs[0] else .tuple vs)) := rfl
      rw [this, Array.mapM_eq_mapM_toList]
      simp [Sem.run_bind, g1]
    refine ⟨hr'.dfs, _, hrun, rhoN ρ' keep, _, rfl, norm_sim hr'.sim (preOk_spec hk).1, AVR.ren le_norm ?_, norm_pre hk hr'.pre hfr⟩
    cases xs with
    | nil =>
      obtain rfl : us = [] := g2
      exact ⟨#[], rfl, rfl⟩
    | cons x xs =>
      cases xs with
      | nil =>
        obtain ⟨u, us', rfl, q1, q2⟩ := g2
        obtain rfl : us' = [] := q2
        exact q1
      | cons y ys =>
        have : ¬ us.toArray.size = 1 := by simp [g3]
        rw [dif_neg this]
        exact ⟨us.toArray, rfl, g2⟩
  refine calls_of_wp hf hb (exec_sound T hm c _ s' as as' e ps ρ _ w hx hp hrel _ (fun ρ' a' w' hr' => ?_))
  rcases he with he | rfl
  · cases e with
    | norm => exact fin ρ' a' w' hr'
    | exit id => cases he
    | ret => cases he
  · exact fin ρ' a' w' hr'
end Go.Proofs.YtmodnnokcmabhaaGreat.Den
