/- Each step that the reckoner takes is the model's step: all of them. -/
import Derived.Test.YtmodnnokcmabhaaGreatDenO
namespace Go.Proofs.YtmodnnokcmabhaaGreat.Den
open Go Go.RowKit
set_option linter.unusedSimpArgs false
set_option linter.unusedVariables false
variable {P : Program} {tb : TypeId → Option Ty} {B : Nat → Prop} {w0 w w' : World} {ρ ρ' : Rho} {fh fh' : Nat → Option Row} {fr : Nat} {ev : Operand → AV} {ee : Operand → Value}

theorem exec_builtin {o : Oper} {c : Call} (ho : o.op = .call c) {b : Builtin} (hc : c.callee = .builtin b) {v : Value} (hr : ∀ consts, (builtin b c.argTypes o.type consts (c.args.map ee)).run P w = .ok (.value v) w') : (execOp ee o).run P w = .ok (.value v) w' := by
  unfold execOp
  simp [ho, resolve, hc, invoke, hr]
theorem avs_one {x : AV} {vs : List Value} (h : AVsR ρ [x] vs) : ∃ u, vs = [u] ∧ AVR ρ x u := by
  obtain ⟨u, us, rfl, h1, h2⟩ := h
  obtain rfl : us = [] := h2
  exact ⟨u, rfl, h1⟩
theorem avs_two {x y : AV} {vs : List Value} (h : AVsR ρ [x, y] vs) : ∃ u v, vs = [u, v] ∧ AVR ρ x u ∧ AVR ρ y v := by
  obtain ⟨u, us, rfl, h1, h2⟩ := h
  obtain ⟨v, rfl, h3⟩ := avs_one h2
  exact ⟨u, v, rfl, h1, h3⟩
theorem ty0_sl (T : TabOk P tb) {ts : Array TypeId} (h : isSl tb ts = true) : ∃ t e, ts[0]? = some t ∧ P.underlying t = some (.slice e) := by
  unfold isSl at h
  split at h
  · rename_i t r ht
    split at h
    · rename_i s b a z d e nk hu
      obtain ⟨dd, h1, _, h2⟩ := (T _ _ hu).und
      exact ⟨t, e, by rw [← Array.getElem?_toList, ht]; rfl, by rw [h1]; exact congrArg some h2⟩
    · cases h
  · cases h
theorem ty0_str (T : TabOk P tb) {ts : Array TypeId} (h : isStr tb ts = true) : ∃ t, ts[0]? = some t ∧ P.underlying t = some .string := by
  unfold isStr at h
  split at h
  · rename_i t r ht
    split at h
    · rename_i s b a z d nk hu
      obtain ⟨dd, h1, _, h2⟩ := (T _ _ hu).und
      exact ⟨t, by rw [← Array.getElem?_toList, ht]; rfl, by rw [h1]; exact congrArg some h2⟩
    · cases h
  · cases h
theorem builtin_sound (T : TabOk P tb) {o : Oper} {c : Call} (ho : o.op = .call c) {b : Builtin} (hc : c.callee = .builtin b) {args : List AV} (hav : AVsR ρ args (c.args.toList.map ee)) {as as' : List Ans} {ef : Ef}
    (h : aBuiltin tb b c.argTypes args as fr fh = some (ef, as')) (hp : allP ef.p) (hs : Sim B w0 ρ w fh) (hfr : ∀ j, fr ≤ j → j < fr + ef.n → rat ρ j = none) : Good P o ee w (Res B w0 ρ fh fr ef) := by
  have hargs1 : ∀ u, c.args.toList.map ee = [u] → c.args.map ee = #[u] := fun u hu => by apply Array.ext'; simpa using hu
  have hargs2 : ∀ u v, c.args.toList.map ee = [u, v] → c.args.map ee = #[u, v] := fun u v hu => by apply Array.ext'; simpa using hu
  unfold aBuiltin at h
  split at h <;> first | (cases h; done) | skip
  · rename_i l off len
    split at h
    · rename_i ht
      simp only [Option.some.injEq, Prod.mk.injEq] at h
      obtain ⟨rfl, rfl⟩ := h
      obtain ⟨u, hu, lc, hlc, A, cap, rfl, _⟩ := avs_one hav
      obtain ⟨t, e, h1, h2⟩ := ty0_sl T ht
      exact .val (exec_builtin ho hc (fun consts => by rw [hargs1 _ hu]; simp [builtin, Builtin.len_, h1, run_underlying h2, goInt])) (.same hs rfl)
    · cases h
  · rename_i s
    split at h
    · rename_i ht
      simp only [Option.some.injEq, Prod.mk.injEq] at h
      obtain ⟨rfl, rfl⟩ := h
      obtain ⟨u, hu, hv⟩ := avs_one hav
      obtain rfl : u = .string s := hv
      obtain ⟨t, h1, h2⟩ := ty0_str T ht
      exact .val (exec_builtin ho hc (fun consts => by rw [hargs1 _ hu]; simp [builtin, Builtin.len_, h1, run_underlying h2, goInt])) (.same hs rfl)
    · cases h
  · split at h
    · rename_i ht
      simp only [Option.some.injEq, Prod.mk.injEq] at h
      obtain ⟨rfl, rfl⟩ := h
      obtain ⟨u, hu, A, rfl⟩ := avs_one hav
      obtain ⟨t, e, h1, h2⟩ := ty0_sl T ht
      exact .val (exec_builtin ho hc (fun consts => by rw [hargs1 _ hu]; simp [builtin, Builtin.len_, h1, run_underlying h2, goInt])) (.same hs rfl)
    · cases h
  · split at h
    · rename_i ht
      simp only [Option.some.injEq, Prod.mk.injEq] at h
      obtain ⟨rfl, rfl⟩ := h
      obtain ⟨u, hu, A, rfl⟩ := avs_one hav
      obtain ⟨t, e, h1, h2⟩ := ty0_sl T ht
      exact .val (exec_builtin ho hc (fun consts => by rw [hargs1 _ hu]; simp [builtin, Builtin.cap_, h1, run_underlying h2, goInt])) (.same hs rfl)
    · cases h
  · rename_i n
    unfold aZeros at h
    split at h <;> first | (cases h; done) | skip
    rename_i t u hts
    split at h <;> first | (cases h; done) | skip
    rename_i yt yu hyt hyu
    split at h <;> first | (cases h; done) | skip
    rename_i e hk hku
    split at h <;> first | (cases h; done) | skip
    rename_i y hy
    split at h <;> first | (cases h; done) | skip
    rename_i d hd
    split at h <;> first | (cases h; done) | skip
    rename_i hb
    simp only [Option.some.injEq, Prod.mk.injEq] at h
    obtain ⟨rfl, rfl⟩ := h
    obtain ⟨p1, p2, _⟩ := hp
    have htt : c.argTypes = #[t, u] := by apply Array.ext'; simpa using hts
    obtain ⟨sv, xv, hsx, ⟨A, rfl⟩, hxv⟩ := avs_two hav
    obtain rfl : xv = .int .i64 n := hxv
    obtain ⟨v, w', hr, ρ', r1, r2, r3, r4⟩ := zeros_sound (ty := o.type) (A := A) ((T _ _ hyt).sl hk) ((T _ _ hyu).int hku) (T _ _ hy) hd (fun e0 => hb (by rw [e0]; rfl)) p1 p2 hs (hfr fr (Nat.le_refl _) (by show fr < fr + 1; omega))
    exact .val (exec_builtin ho hc (fun consts => by rw [hargs2 _ _ hsx, htt]; simp [builtin, hr])) ⟨ρ', r1, r2, r3, r4⟩
  · rename_i s x hno
    split at h <;> first | (cases h; done) | skip
    rename_i t u hts
    split at h <;> first | (cases h; done) | skip
    rename_i yt hyt
    split at h <;> first | (cases h; done) | skip
    rename_i e hk
    split at h <;> first | (cases h; done) | skip
    rename_i y hy
    split at h
    · cases h
    · rename_i hcond
      simp only [Bool.or_eq_true, not_or, Bool.not_eq_true', Bool.not_eq_false] at hcond
      obtain ⟨⟨hc1, hc2⟩, hc3⟩ := hcond
      have hu : (∃ e, P.underlying u = some (.slice e)) ∨ P.underlying u = some .string := by
        have hc2' : isSl tb #[u] = true ∨ isStr tb #[u] = true := by simpa using hc2
        rcases hc2' with h | h
        · exact .inl (isSl_und T h)
        · exact .inr (isStr_und T h)
      have htt : c.argTypes = #[t, u] := by apply Array.ext'; simpa using hts
      have hyb : 0 < y.bytes := by
        rcases Nat.eq_zero_or_pos y.bytes with h | h
        · rw [h] at hc3; exact absurd rfl hc3
        · exact h
      obtain ⟨sv, xv, hsx, hsv, hxv⟩ := avs_two hav
      have hslu := (T _ _ hyt).sl hk
      have fin : ∀ v w', (Builtin.append_ #[t, u] o.type #[sv, xv]).run P w = .ok v w' → Res B w0 ρ fh fr ef v w' → Good P o ee w (Res B w0 ρ fh fr ef) := fun v w' hr hres =>
        .val (exec_builtin ho hc (fun consts => by rw [hargs2 _ _ hsx, htt]; simp [builtin, hr])) hres
      unfold aAppend at h
      split at h <;> first | (cases h; done) | skip
      · split at h <;> first | (cases h; done) | skip
        rename_i d0 dx rd ps as2 hd0 hsrc
        split at h
        · rename_i hkz
          simp only [Bool.and_eq_true] at hkz
          simp only [Option.some.injEq, Prod.mk.injEq] at h
          obtain ⟨rfl, rfl⟩ := h
          obtain ⟨hb, hps⟩ := hp
          have hz := Nat.eq_of_beq_eq_true hkz.2
          obtain ⟨hsx', hdc⟩ := src_sound hu hsrc hps hs hxv (size := y.sz) hz
          obtain ⟨A, rfl⟩ := hsv
          have hd0' : d0.isCells = false ∧ d0.len = 0 ∧ d0.app dx = some dx ∧ y.sz = d0.sz := by
            cases hdk : y.dk <;> rw [hdk] at hd0 hkz <;> simp only [Data.nilOf, Option.some.injEq, reduceCtorEq] at hd0 <;> subst hd0 <;> cases dx <;> simp only [Data.kindIs, Bool.false_eq_true, false_and] at hkz
            · rename_i k k' l
              have := same_eq hkz.1
              subst this
              exact ⟨rfl, rfl, by simp [Data.app, hkz.1], hz⟩
            all_goals exact ⟨rfl, rfl, rfl, hz⟩
          obtain ⟨v, w', hr, ρ', r1, r2, r3, r4⟩ := append_sound (n := 0) (ty := o.type) hslu (T _ _ hy) hyb hsx' hdc hs (hfr fr (Nat.le_refl _) (by show fr < fr + 1; omega)) (kill := none) hd0'.1 hd0'.2.2.1 hd0'.2.2.2 hb (.inl ⟨A, rfl, hd0'.2.1⟩)
          rw [no_kill] at r3
          exact fin v w' hr ⟨ρ', r1, r2, r3, r4⟩
        · cases h
      · rename_i l off len
        split at h <;> first | (cases h; done) | skip
        rename_i d hf
        split at h <;> first | (cases h; done) | skip
        rename_i dx rd ps as2 hsrc
        split at h <;> first | (cases h; done) | skip
        rename_i hkz
        split at h <;> first | (cases h; done) | skip
        rename_i d' happ
        simp only [Bool.and_eq_true] at hkz
        simp only [Option.some.injEq, Prod.mk.injEq] at h
        obtain ⟨rfl, rfl⟩ := h
        obtain ⟨ho0, hlen, hb, hps⟩ := hp
        subst ho0
        rcases cutD_or d len as2 with ⟨hcd, hcp⟩ | ⟨hcd, hcp⟩
        · rw [hcd] at happ
          rw [hcp] at hlen
          obtain ⟨hsx', hdc⟩ := src_sound hu hsrc hps hs hxv (size := y.sz) (Nat.eq_of_beq_eq_true hkz.2)
          have hwc := (app_flat happ).2.2.2.2.1
          have hdcells : d.isCells = false := by rw [win_cells] at hwc; exact hwc
          obtain ⟨wf1, wf2, _⟩ := win_flat hdcells (o := 0) (n := len)
          have hwl : (d.win 0 len).len = len := by rw [wf2]; omega
          have hsv' : CR ρ (.sl l 0 (d.win 0 len).len) sv := by rw [hwl]; exact hsv
          obtain ⟨v, w', hr, ρ', r1, r2, r3, r4⟩ := append_sound (n := 0) (ty := o.type) hslu (T _ _ hy) hyb hsx' hdc (hs.cut hdcells hf len) (hfr fr (Nat.le_refl _) (by show fr < fr + 1; omega)) (kill := some l) hwc happ (by rw [wf1]; exact Nat.eq_of_beq_eq_true hkz.1) hb (.inr ⟨l, rfl, by simp, hsv'⟩)
          refine fin v w' hr ⟨ρ', r1, r2, ?_, r4⟩
          have e : (fun k => if k = fr then some (⟨true, d'⟩ : Row) else if some k = some l then none else if k = l then some ⟨true, d.win 0 len⟩ else fh k) = fun k => if k = fr then some ⟨true, d'⟩ else if k = l then none else fh k := by
            funext k
            by_cases e1 : k = fr
            · simp [e1]
            · by_cases e2 : k = l
              · simp [e2]
              · simp [e1, e2]
          rw [e] at r3
          simpa [updF] using r3
        rw [hcd] at happ
        rw [hcp] at hlen
        subst hlen
        obtain ⟨hsx', hdc⟩ := src_sound hu hsrc hps hs hxv (size := y.sz) (Nat.eq_of_beq_eq_true hkz.2)
        have hdcells := (app_flat happ).2.2.2.2.1
        obtain ⟨v, w', hr, ρ', r1, r2, r3, r4⟩ := append_sound (n := 0) (ty := o.type) hslu (T _ _ hy) hyb hsx' hdc hs (hfr fr (Nat.le_refl _) (by show fr < fr + 1; omega)) (kill := some l) hdcells happ (Nat.eq_of_beq_eq_true hkz.1) hb (.inr ⟨l, rfl, hf, hsv⟩)
        refine fin v w' hr ⟨ρ', r1, r2, ?_, r4⟩
        simpa [updF, Option.some.injEq] using r3
  · rename_i a b
    simp only [Option.some.injEq, Prod.mk.injEq] at h
    obtain ⟨rfl, rfl⟩ := h
    obtain ⟨u, v, huv, hu, hv⟩ := avs_two hav
    obtain rfl : u = .int .i64 a := hu
    obtain rfl : v = .int .i64 b := hv
    refine .val (exec_builtin (v := .int .i64 (minI a b)) ho hc (fun consts => ?_)) (.same hs rfl)
    rw [hargs2 _ _ huv]
    simp [builtin, Builtin.min_, Builtin.min2, minI]
  · rename_i a b
    simp only [Option.some.injEq, Prod.mk.injEq] at h
    obtain ⟨rfl, rfl⟩ := h
    obtain ⟨u, v, huv, hu, hv⟩ := avs_two hav
    obtain rfl : u = .int .i64 a := hu
    obtain rfl : v = .int .i64 b := hv
    refine .val (exec_builtin (v := .int .i64 (maxI a b)) ho hc (fun consts => ?_)) (.same hs rfl)
    rw [hargs2 _ _ huv]
    simp [builtin, Builtin.max_, Builtin.max2, maxI]
  · rename_i l off len l2 off2 len2
    unfold aCopy at h
    split at h <;> first | (cases h; done) | skip
    rename_i t t2 hts
    split at h <;> first | (cases h; done) | skip
    rename_i yt hyt
    split at h <;> first | (cases h; done) | skip
    rename_i e hk
    split at h <;> first | (cases h; done) | skip
    rename_i y d r2 b as2 hy hf hf2
    split at h <;> first | (cases h; done) | skip
    rename_i d' hov
    split at h <;> first | (cases h; done) | skip
    rename_i hz
    simp only [Option.some.injEq, Prod.mk.injEq] at h
    obtain ⟨rfl, rfl⟩ := h
    obtain ⟨p1, p2, p3, _⟩ := hp
    have htt : c.argTypes = #[t, t2] := by apply Array.ext'; simpa using hts
    obtain ⟨dv, sv, hds, hdv, hsv⟩ := avs_two hav
    have hn : (cond b len2 len) = min len2 len := by
      cases b
      · have p1 : len ≤ len2 := p1
        show len = _; omega
      · have p1 : len2 ≤ len := p1
        show len2 = _; omega
    obtain ⟨w', hr, hsim⟩ := copy_sound (u := t2) (ty := o.type) ((T _ _ hyt).sl hk) (T _ _ hy) (Nat.eq_of_beq_eq_true hz) hf hf2 hn hov p2 p3 hs hdv hsv
    refine .val (w' := w') (exec_builtin ho hc (fun consts => by rw [hargs2 _ _ hds, htt]; simp [builtin, hr])) ⟨ρ, Sub.refl ρ, fun _ _ => rfl, ?_, rfl⟩
    simpa [updF] using hsim

theorem caps_of : ∀ {l : List AV} {caps : List (Nat × Nat × Nat)} {vs : List Value}, capsOf l = some caps → AVsR ρ l vs → CapR ρ caps vs
  | [], caps, vs, h, hv => by simp only [capsOf, Option.some.injEq] at h; subst h; exact hv
  | x :: l, caps, vs, h, hv => by
    unfold capsOf at h
    split at h <;> first | (cases h; done) | skip
    · rename_i he; cases he
    · rename_i k i j r he
      obtain ⟨rfl, rfl⟩ := List.cons.inj he
      cases hc : capsOf l with
      | none => rw [hc] at h; cases h
      | some cs =>
        rw [hc] at h
        simp only [Option.map_some, Option.some.injEq] at h
        subst h
        obtain ⟨u, us, rfl, h1, h2⟩ := hv
        exact ⟨u, us, rfl, h1, caps_of hc h2⟩
theorem caps_args : ∀ {caps : List (Nat × Nat × Nat)} {us : List Value}, CapR ρ caps us → AVsR ρ (caps.map fun x => one (.ptr x.1 x.2.1 x.2.2)) us
  | [], us, h => h
  | (l, i, j) :: r, us, ⟨u, us', he, h1, h2⟩ => ⟨u, us', he, h1, caps_args h2⟩
theorem avs_append : ∀ {a b : List AV} {x y : List Value}, AVsR ρ a x → AVsR ρ b y → AVsR ρ (a ++ b) (x ++ y)
  | [], b, x, y, h, k => by rw [show x = [] from h]; exact k
  | c :: a, b, x, y, ⟨u, us, he, h1, h2⟩, k => by subst he; exact ⟨u, us ++ y, rfl, h1, avs_append h2 k⟩
theorem val_c (v : Value) : CR ρ (ofVal v) v := by
  unfold ofVal
  split <;> first | rfl | exact ⟨_, rfl⟩ | trivial

theorem denil_keys : ∀ (ks : List DK) (fr : Nat) (cs : List C) (x : Nat × Option Row), x ∈ (denil ks fr cs).2 → fr ≤ x.1 ∧ x.1 < fr + (denil ks fr cs).2.length
  | [], _, cs, x, h => by simp [denil] at h
  | _ :: _, _, [], x, h => by simp [denil] at h
  | dk :: ks, fr, c :: cs, x, h => by
    unfold denil at h ⊢
    split at h
    · simp only [List.length_cons] at h ⊢
      rcases List.mem_cons.1 h with rfl | h
      · exact ⟨Nat.le_refl _, by simp⟩
      · have := denil_keys ks (fr + 1) cs x h
        omega
    · exact denil_keys ks fr cs x h
theorem aop_sound (T : TabOk P tb) {o : Oper} {as as' : List Ans} {ef : Ef} (h : aop tb (Spec P) o.op as fr ev fh = some (ef, as')) (hp : allP ef.p) (hs : Sim B w0 ρ w fh) (hev : ∀ x, AVR ρ (ev x) (ee x)) (hec : ee (.const (.slice none 0 0)) = .slice none 0 0) (hfr : ∀ j, fr ≤ j → j < fr + ef.n → rat ρ j = none) : Good P o ee w (Res B w0 ρ fh fr ef) := by
  generalize ho : o.op = op at h
  have hfr1 : ef.n = 1 → rat ρ fr = none := fun e => hfr fr (Nat.le_refl _) (by omega)
  unfold aop at h
  split at h <;> first | (cases h; done) | skip
  · -- move
    rename_i x
    simp only [Option.some.injEq, Prod.mk.injEq] at h
    obtain ⟨rfl, rfl⟩ := h
    exact .val (v := ee x) (w' := w) (by unfold execOp; simp [ho]) (.same hs (hev x))
  · rename_i x
    simp only [Option.some.injEq, Prod.mk.injEq] at h
    obtain ⟨rfl, rfl⟩ := h
    exact .val (v := ee x) (w' := w) (by unfold execOp; simp [ho]) (.same hs (hev x))
  · -- pick
    rename_i c a b
    split at h <;> first | (cases h; done) | skip
    · rename_i t as2 hc
      simp only [Option.some.injEq, Prod.mk.injEq] at h
      obtain ⟨rfl, rfl⟩ := h
      have hcv := hev c
      rw [hc] at hcv
      exact pick_sound ho hcv hp.1 (hev a) hs
    · rename_i t as2 hc
      simp only [Option.some.injEq, Prod.mk.injEq] at h
      obtain ⟨rfl, rfl⟩ := h
      have hcv := hev c
      rw [hc] at hcv
      exact pick_sound ho hcv hp.1 (hev b) hs
  · -- alloc
    rename_i e
    split at h <;> first | (cases h; done) | skip
    rename_i y hy
    simp only [Option.some.injEq, Prod.mk.injEq] at h
    obtain ⟨rfl, rfl⟩ := h
    obtain ⟨z, hz, hc, hpl⟩ := (T _ _ hy).zero
    have hu : CsR ρ y.zero z.cells.toList := by rw [hc]; exact CsR.plain hpl
    obtain ⟨ρ1, a1, a2, a3, a4⟩ := denil_sound y.nk (fr + 1) y.zero _ ρ fh hs hu (fun j q1 q2 => hfr j (by omega) (by show j < fr + (1 + _); omega))
    exact Res.trans_ (n1 := 1 + (denil y.nk (fr + 1) y.zero).2.length) (ef := ⟨one (.ptr fr 0 0), [(fr, some ⟨true, .cells (denil y.nk (fr + 1) y.zero).1⟩)], 1, [], []⟩) a1 (fun l hl => a2 l (by omega)) (alloc_sound (fr := fr) ho hz a4 a3 (by rw [a2 fr (by omega)]; exact hfr fr (Nat.le_refl _) (by show fr < fr + (1 + _); omega))) rfl (fun l hl => by
      rcases hl with ⟨q1, q2⟩ | q
      · have q2 : l < fr + 1 := q2
        omega
      · omega)
  · -- box
    rename_i e x
    split at h <;> first | (cases h; done) | skip
    rename_i y cs hy hcs
    simp only at h
    split at h <;> first | (cases h; done) | skip
    rename_i hu
    simp only [Option.some.injEq, Prod.mk.injEq] at h
    obtain ⟨rfl, rfl⟩ := h
    have hcv := cells_of hcs (by simpa using hu) (hev x)
    obtain ⟨ρ1, a1, a2, a3, a4⟩ := denil_sound y.nk (fr + 1) cs _ ρ fh hs hcv (fun j q1 q2 => hfr j (by omega) (by show j < fr + (1 + _); omega))
    refine Res.trans_ (n1 := 1 + (denil y.nk (fr + 1) cs).2.length) (ef := ⟨one (.ptr fr 0 0), [(fr, some ⟨true, .cells (denil y.nk (fr + 1) cs).1⟩)], 1, [], []⟩) a1 (fun l hl => a2 l (by omega)) (box_sound (fr := fr) ho a4 a3 (by rw [a2 fr (by omega)]; exact hfr fr (Nat.le_refl _) (by show fr < fr + (1 + _); omega))) rfl (fun l hl => ?_)
    rcases hl with ⟨q1, q2⟩ | q
    · have q2 : l < fr + 1 := q2
      omega
    · omega
  · -- build
    rename_i t parts
    split at h <;> first | (cases h; done) | skip
    rename_i y hy
    split at h <;> first | (cases h; done) | skip
    rename_i fs hk
    split at h <;> first | (cases h; done) | skip
    rename_i cs hcs
    simp only [Option.some.injEq, Prod.mk.injEq] at h
    obtain ⟨rfl, rfl⟩ := h
    exact build_sound ho (T _ _ hy) hk hcs hev hs
  · -- buildSlice
    rename_i t n parts
    split at h <;> first | (cases h; done) | skip
    rename_i yt hyt
    split at h <;> first | (cases h; done) | skip
    rename_i e hk
    split at h <;> first | (cases h; done) | skip
    rename_i y hy
    split at h
    · rename_i hrefs
      split at h <;> first | (cases h; done) | skip
      rename_i cs hd
      split at h <;> first | (cases h; done) | skip
      rename_i hc
      simp only [Bool.and_eq_true, beq_iff_eq] at hc
      obtain ⟨⟨⟨c1, c2⟩, c3⟩, c4⟩ := hc
      simp only [Option.some.injEq, Prod.mk.injEq] at h
      obtain ⟨rfl, rfl⟩ := h
      exact buildRefs_sound ho (T _ _ hyt) hk (T _ _ hy) hd (Nat.eq_of_beq_eq_true c1) c2 (Nat.le_of_ble_eq_true c3) (Nat.eq_of_beq_eq_true c4) hev hs (hfr1 rfl)
    split at h <;> first | (cases h; done) | skip
    rename_i d hd
    split at h <;> first | (cases h; done) | skip
    rename_i hc
    simp only [Bool.and_eq_true, beq_iff_eq] at hc
    obtain ⟨⟨⟨c1, c2⟩, c3⟩, c4⟩ := hc
    simp only [Option.some.injEq, Prod.mk.injEq] at h
    obtain ⟨rfl, rfl⟩ := h
    exact buildSlice_sound ho (T _ _ hyt) hk (T _ _ hy) hd (Nat.eq_of_beq_eq_true c1) c2 (Nat.le_of_ble_eq_true c3) (Nat.eq_of_beq_eq_true c4) hev hs (hfr1 rfl)
  · -- load
    rename_i t a
    split at h <;> first | (cases h; done) | skip
    rename_i y l i j hy ha
    split at h <;> first | (cases h; done) | skip
    rename_i r hr
    have hav := hev a
    rw [ha] at hav
    split at h
    · rename_i hagg
      simp only [Option.map_eq_some_iff, Prod.mk.injEq] at h
      obtain ⟨x, hx, rfl, rfl⟩ := h
      exact load_agg ho (T _ _ hy) hagg hr hav hx hp hs
    · rename_i hagg
      simp only [Option.map_eq_some_iff, Prod.mk.injEq] at h
      obtain ⟨x, hx, rfl, rfl⟩ := h
      exact load_one ho (T _ _ hy) hagg hr hav hx hp hs
  · -- store
    rename_i t a x
    split at h <;> first | (cases h; done) | skip
    · rename_i y l i j c hy ha hx
      have hav := hev a
      rw [ha] at hav
      have hxv := hev x
      rw [hx] at hxv
      split at h <;> first | (cases h; done) | skip
      rename_i d hf
      split at h <;> first | (cases h; done) | skip
      rename_i hz
      split at h <;> first | (cases h; done) | skip
      rename_i c' u hden
      simp only [Option.map_eq_some_iff, Prod.mk.injEq] at h
      obtain ⟨z, hz1, rfl, rfl⟩ := h
      obtain ⟨s1, s2⟩ := put_stored hz1 hp
      have hu : c.isUndef = false := by
        have := (denil_len y.nk fr [c]).2
        rw [hden] at this
        simpa [s2] using this.symm
      obtain ⟨ρ1, a1, a2, a3, a4⟩ := denil_sound y.nk fr [c] _ ρ fh hs (cells_of (x := .v (.c c)) rfl (by simp [hu]) hxv) (fun j q1 q2 => hfr j q1 (by rw [hden] at q2; exact q2))
      rw [hden] at a2 a3 a4
      have hlf : ∀ q ∈ u, q.1 ≠ l := fun q hq e => by
        have := denil_keys y.nk fr [c] q (by rw [hden]; exact hq)
        rw [hden] at this
        obtain ⟨lc, hlc, _⟩ := hs.row l _ hf
        rw [← e, hfr q.1 this.1 this.2] at hlc
        cases hlc
      refine Res.trans_ (fr1 := fr) (n1 := u.length) (n2 := u.length) (ef := ⟨.tup [], [(l, some ⟨true, z.1⟩)], 0, [l], z.2⟩) a1 a2 (store_sound (cs := [c']) ho (T _ _ hy) (by rw [updF_not u fh l hlf]; exact hf) (CR.sub a1 hav) (by simpa using Nat.eq_of_beq_eq_true hz) s1 (by simp [s2]) a4 a3) rfl (fun q hq => ?_)
      rcases hq with ⟨q1, q2⟩ | hq
      · have q2 : q < fr + 0 := q2
        omega
      · exact hq
    · rename_i y l i j cs hy ha hx
      have hav := hev a
      rw [ha] at hav
      have hxv := hev x
      rw [hx] at hxv
      split at h <;> first | (cases h; done) | skip
      rename_i d hf
      simp only at h
      split at h <;> first | (cases h; done) | skip
      rename_i hz
      simp only [Option.map_eq_some_iff, Prod.mk.injEq] at h
      obtain ⟨z, hz1, rfl, rfl⟩ := h
      obtain ⟨s1, s2⟩ := puts_stored hz1 hp
      have hu : cs.any C.isUndef = false := by rw [← (denil_len y.nk fr cs).2]; exact s2
      obtain ⟨ρ1, a1, a2, a3, a4⟩ := denil_sound y.nk fr cs _ ρ fh hs (cells_of (x := .v (.agg cs)) rfl hu hxv) (fun j q1 q2 => hfr j q1 q2)
      have hlf : ∀ q ∈ (denil y.nk fr cs).2, q.1 ≠ l := fun q hq e => by
        have := denil_keys y.nk fr cs q hq
        obtain ⟨lc, hlc, _⟩ := hs.row l _ hf
        rw [← e, hfr q.1 this.1 this.2] at hlc
        cases hlc
      refine Res.trans_ (fr1 := fr) (n1 := (denil y.nk fr cs).2.length) (n2 := (denil y.nk fr cs).2.length) (ef := ⟨.tup [], [(l, some ⟨true, z.1⟩)], 0, [l], z.2⟩) a1 a2 (store_sound (cs := (denil y.nk fr cs).1) ho (T _ _ hy) (by rw [updF_not _ fh l hlf]; exact hf) (CR.sub a1 hav) (by rw [(denil_len y.nk fr cs).1]; exact Nat.eq_of_beq_eq_true hz) s1 s2 a4 a3) rfl (fun q hq => ?_)
      rcases hq with ⟨q1, q2⟩ | hq
      · have q2 : q < fr + 0 := q2
        omega
      · exact hq
  · -- nilCheck
    rename_i x
    split at h <;> first | (cases h; done) | skip
    rename_i l i j hx
    simp only [Option.some.injEq, Prod.mk.injEq] at h
    obtain ⟨rfl, rfl⟩ := h
    have hxv := hev x
    rw [hx] at hxv
    obtain ⟨lc, hlc, he⟩ := hxv
    refine .val (v := ee x) (w' := w) ?_ (.same hs ⟨lc, hlc, he⟩)
    unfold execOp
    simp only [ho, he]
    rfl
  · -- binOp
    rename_i op t x y _
    split at h <;> first | (cases h; done) | skip
    rename_i yt hyt
    split at h
    · rename_i c hnil
      simp only [Option.some.injEq, Prod.mk.injEq] at h
      obtain ⟨rfl, rfl⟩ := h
      unfold nilE at hnil
      split at hnil <;> first | (cases hnil; done) | skip
      rename_i e l off n _ _ hk hx
      obtain rfl := Option.some.inj hnil
      have hsl := (T _ _ hyt).sl hk
      have hxv := hev x
      rw [hx] at hxv
      obtain ⟨lc, hlc, A, cap, hxe, hcap, hA⟩ := hxv
      refine .val (v := .bool A.isNone) (w' := w) (exec_val (s := do eqGuard .eql t x (.const (.slice none 0 0)) (ee x) (ee (.const (.slice none 0 0))); binOp .eql t (ee x) (ee (.const (.slice none 0 0)))) (by unfold execOp; simp only [ho]) ?_) (.same hs ⟨A.isNone, rfl, fun hb => ?_⟩)
      · rw [hec, hxe]
        have he : ∀ n, (Op.equal t (.slice A n cap) (.slice none 0 0)).run P w = .ok A.isNone w := by
          intro n
          show (Op.equalIn (9999 + 1) t (.slice A n cap) (.slice none 0 0)).run P w = _
          rw [Op.equalIn.eq_def]
          cases A <;> simp [run_underlying hsl]
        have hbin : ∀ n, binOp .eql t (.slice A n cap) (.slice none 0 0) = (do pure (.bool (← Op.equal t (.slice A n cap) (.slice none 0 0))) : Sem Value) := fun _ => rfl
        have hg : ∀ n, (eqGuard .eql t x (.const (.slice none 0 0)) (.slice A n cap) (.slice none 0 0)).run P w = .ok () w := by intro n; simp [eqGuard]
        simp [Sem.run_bind, hg, hbin, he]
      · rcases hA with ⟨hA, _⟩ | hA
        · rw [hA] at hb; cases hb
        · exact hA.1
    split at h
    rotate_left
    · split at h <;> first | (cases h; done) | skip
      rename_i c hb
      simp only [Option.some.injEq, Prod.mk.injEq] at h
      obtain ⟨rfl, rfl⟩ := h
      obtain ⟨v, hg, hv, hc⟩ := eqE_sound hb (T _ _ hyt).2 (hev x) (hev y) x y w
      refine .val (exec_val (s := do eqGuard op t x y (ee x) (ee y); binOp op t (ee x) (ee y)) (by unfold execOp; simp only [ho]) ?_) (.same hs hc)
      simp [Sem.run_bind, hg, hv]
    rename_i c ps hb
    simp only [Option.some.injEq, Prod.mk.injEq] at h
    obtain ⟨rfl, rfl⟩ := h
    have hbool : yt.k.isBool = true → P.underlying t = some .bool := by
      intro hk
      obtain ⟨dd, h1, _, h2⟩ := (T _ _ hyt).und
      rw [h1]
      cases hkk : yt.k <;> rw [hkk] at hk <;> first | (cases hk; done) | skip
      rw [hkk] at h2
      exact congrArg some h2
    obtain ⟨v, hv, hc⟩ := bin_sound hb hp (hev x) (hev y) t hbool w
    refine .val (exec_val (s := do eqGuard op t x y (ee x) (ee y); binOp op t (ee x) (ee y)) (by unfold execOp; simp only [ho]) ?_) (.same hs hc)
    have hg : (eqGuard op t x y (ee x) (ee y)).run P w = .ok () w := by
      have hx := hev x
      have hy := hev y
      unfold binE at hb
      split at hb <;> first | (cases hb; done) | skip
      · rename_i k a k' b e1 e2
        rw [e1] at hx; rw [e2] at hy
        rw [show ee x = .int k a from hx, show ee y = .int k' b from hy]
        cases op <;> simp [eqGuard]
      · rename_i a b e1 e2
        rw [e1] at hx; rw [e2] at hy
        rw [show ee x = .string a from hx, show ee y = .string b from hy]
        cases op <;> simp [eqGuard]
      · rename_i a b e1 e2
        rw [e1] at hx; rw [e2] at hy
        rw [show ee x = .bool a from hx, show ee y = .bool b from hy]
        cases op <;> simp [eqGuard]
    simp [Sem.run_bind, hg, hv]
  · -- not
    rename_i t x
    split at h <;> first | (cases h; done) | skip
    rename_i b hx
    simp only [Option.some.injEq, Prod.mk.injEq] at h
    obtain ⟨rfl, rfl⟩ := h
    have hxv := hev x
    rw [hx] at hxv
    have he : ee x = .bool b := hxv
    refine .val (v := .bool (!b)) (w' := w) (exec_val (s := Op.unary .not (ee x)) (by unfold execOp; simp only [ho]) ?_) (.same hs rfl)
    rw [he]; rfl
  · -- convert
    rename_i s d x
    split at h <;> first | (cases h; done) | skip
    rename_i ys yd hys hyd
    obtain ⟨us, hus, _⟩ := (T _ _ hys).und
    have fin : ∀ v w', (convert s d (ee x)).run P w = .ok v w' → Res B w0 ρ fh fr ef v w' → Good P o ee w (Res B w0 ρ fh fr ef) := fun v w' hv hr =>
      .val (exec_val (s := convert s d (ee x)) (by unfold execOp; simp only [ho]) hv) hr
    have hxv := hev x
    generalize hks : ys.k = ks at h
    generalize hkd : yd.k = kd at h
    unfold aConvert at h
    rw [hks, hkd] at h
    generalize hex : ev x = xv at h hxv
    split at h <;> first | (cases h; done) | skip
    · rename_i k0 n k
      simp only [Option.some.injEq, Prod.mk.injEq] at h
      obtain ⟨rfl, rfl⟩ := h
      rw [show ee x = .int k0 n from hxv] at fin
      exact fin _ _ (conv_int hus ((T _ _ hyd).int hkd) n w) (.same hs rfl)
    · rename_i b
      simp only [Option.some.injEq, Prod.mk.injEq] at h
      obtain ⟨rfl, rfl⟩ := h
      rw [show ee x = .string b from hxv] at fin
      exact fin _ _ (conv_str hus ((T _ _ hyd).str hkd) b w) (.same hs rfl)
    · rename_i b e
      split at h <;> first | (cases h; done) | skip
      rename_i e1 e2 e3 e4 e5 e6 he
      simp only [Option.some.injEq, Prod.mk.injEq] at h
      obtain ⟨rfl, rfl⟩ := h
      rw [show ee x = .string b from hxv] at fin
      obtain ⟨v, w', r1, r2⟩ := conv_bytes T hus ((T _ _ hyd).sl hkd) ((T _ _ he).int rfl) b hs (hfr1 rfl)
      exact fin _ _ r1 r2
    · rename_i e
      split at h <;> first | (cases h; done) | skip
      rename_i e1 e2 e3 e4 e5 e6 he
      simp only [Option.some.injEq, Prod.mk.injEq] at h
      obtain ⟨rfl, rfl⟩ := h
      obtain ⟨A, hA⟩ := hxv
      rw [hA] at fin
      exact fin _ _ (conv_string ((T _ _ hys).sl hks) ((T _ _ he).int rfl) ((T _ _ hyd).str hkd) (L := []) rfl (.inr rfl)) (.same hs rfl)
    · rename_i l off len e
      split at h <;> first | (cases h; done) | skip
      · rename_i e1 e2 e3 e4 e5 e6 as2 own L he hf
        simp only [Option.some.injEq, Prod.mk.injEq] at h
        obtain ⟨rfl, rfl⟩ := h
        obtain ⟨h0, hl, _⟩ := hp
        subst h0
        subst hl
        have := convS_sound ((T _ _ hys).sl hks) ((T _ _ he).int rfl) ((T _ _ hyd).str hkd) hf hxv (by omega) hs
        simp only [List.drop_zero, List.take_length] at this
        exact fin _ _ this (.same hs rfl)
      · rename_i e1 e2 e3 e4 e5 e6 as2 own L he hf
        simp only [Option.some.injEq, Prod.mk.injEq] at h
        obtain ⟨rfl, rfl⟩ := h
        exact fin _ _ (convS_sound ((T _ _ hys).sl hks) ((T _ _ he).int rfl) ((T _ _ hyd).str hkd) hf hxv hp.1 hs) (.same hs rfl)
    · rename_i l off len e e'
      split at h <;> first | (cases h; done) | skip
      rename_i e1 e2 e3 e4 e5 e6 d' hsame he hf
      split at h <;> first | (cases h; done) | skip
      rename_i hc
      simp only [Option.some.injEq, Prod.mk.injEq] at h
      obtain ⟨rfl, rfl⟩ := h
      have hsd : s = d := Nat.eq_of_beq_eq_true hsame
      subst hsd
      obtain ⟨w', r1, r2⟩ := conv_mark ((T _ _ hys).sl hks) ((T _ _ he).int rfl) hf (by simpa using hc) hxv hp.1 hs
      exact fin _ _ r1 ⟨ρ, Sub.refl ρ, fun _ _ => rfl, r2, hxv⟩
  · -- makeFunc
    rename_i f first captured
    split at h <;> first | (cases h; done) | skip
    rename_i caps hfi hcaps
    simp only [Option.some.injEq, Prod.mk.injEq] at h
    obtain ⟨rfl, rfl⟩ := h
    have hfirst : first = #[] := by apply Array.ext'; simpa using hfi
    subst hfirst
    refine .val (v := .func (.func f) #[] (captured.map ee)) (w' := w) ?_ (.same hs ⟨_, rfl, by simpa using caps_of hcaps (avs_map hev captured.toList)⟩)
    unfold execOp
    simp [ho, Instr.makeFunc]
  · -- makeSlice
    rename_i t l c
    split at h <;> first | (cases h; done) | skip
    rename_i yt n m hyt hl hc
    split at h <;> first | (cases h; done) | skip
    rename_i e hk
    split at h <;> first | (cases h; done) | skip
    rename_i y hy
    split at h <;> first | (cases h; done) | skip
    rename_i d hd
    split at h <;> first | (cases h; done) | skip
    rename_i hb
    simp only [Option.some.injEq, Prod.mk.injEq] at h
    obtain ⟨rfl, rfl⟩ := h
    have hlv := hev l
    rw [hl] at hlv
    have hcv := hev c
    rw [hc] at hcv
    obtain ⟨p1, p2, p3, _⟩ := hp
    exact makeSlice_sound ho (T _ _ hyt) hk (T _ _ hy) hlv hcv hd (fun e0 => hb (by rw [e0]; rfl)) p1 p2 p3 hs (hfr1 rfl)
  · -- slice
    rename_i t x lo hi mx
    split at h <;> first | (cases h; done) | skip
    rename_i yt hyt
    split at h <;> first | (cases h; done) | skip
    rename_i l' h' m' htk hl hh hm
    refine slice_sound T ho (T _ _ hyt) (bound_sound hl hev) (bound_sound hh hev) (bound_sound hm hev) (hev x) h hfr1 hp (fun e he => ?_) hs
    rw [he] at htk
    simp only [tkOk] at htk
    obtain ⟨ye, hye⟩ := Option.isSome_iff_exists.1 htk
    exact ⟨ye.sz, fun w => (T _ _ hye).size w⟩
  · -- fieldAddr
    rename_i s x f
    split at h <;> first | (cases h; done) | skip
    rename_i y l i j hy hx
    split at h <;> first | (cases h; done) | skip
    rename_i fs hk
    split at h <;> first | (cases h; done) | skip
    rename_i off n hf
    split at h <;> first | (cases h; done) | skip
    rename_i hn
    simp only [Option.some.injEq, Prod.mk.injEq] at h
    obtain ⟨rfl, rfl⟩ := h
    have hxv := hev x
    rw [hx] at hxv
    exact field_sound ho (T _ _ hy) hk hf (fun e0 => hn (by rw [e0]; rfl)) hxv hs
  · -- indexAddr
    rename_i t x ix
    split at h <;> first | (cases h; done) | skip
    rename_i yt l off len k i hyt hx hi
    simp only [addO_eq] at h
    split at h <;> first | (cases h; done) | skip
    rename_i e r hk hr
    split at h <;> first | (cases h; done) | skip
    rename_i y hy
    split at h <;> first | (cases h; done) | skip
    rename_i hz
    simp only [Option.some.injEq, Prod.mk.injEq] at h
    obtain ⟨rfl, rfl⟩ := h
    have hxv := hev x
    rw [hx] at hxv
    have hiv := hev ix
    rw [hi] at hiv
    exact indexAddr_sound ho (T _ _ hyt) hk (T _ _ hy) hr (Nat.eq_of_beq_eq_true hz) hxv hiv hp.1 hp.2.1 hs
  · -- index
    rename_i t x ix
    split at h <;> first | (cases h; done) | skip
    rename_i s k i hx hi
    split at h <;> first | (cases h; done) | skip
    rename_i ht
    simp only [Option.some.injEq, Prod.mk.injEq] at h
    obtain ⟨rfl, rfl⟩ := h
    have hxv := hev x
    rw [hx] at hxv
    have hiv := hev ix
    rw [hi] at hiv
    exact indexS_sound ho (isStr_und T ht) hxv hiv hp.1 hp.2.1 hs
  · -- extract
    rename_i x i
    split at h <;> first | (cases h; done) | skip
    rename_i vs hx
    split at h <;> first | (cases h; done) | skip
    rename_i v hv
    simp only [Option.some.injEq, Prod.mk.injEq] at h
    obtain ⟨rfl, rfl⟩ := h
    have hxv := hev x
    rw [hx] at hxv
    obtain ⟨us, hus, hr⟩ := hxv
    have key : ∀ {vs : List V} {us : List Value} {i : Nat} {v : V}, VsR ρ vs us → vs[i]? = some v → ∃ u, us[i]? = some u ∧ VR ρ v u := by
      intro vs
      induction vs with
      | nil => intro us i v _ h; simp at h
      | cons a vs ih =>
        intro us i v ⟨u, us', he, h1, h2⟩ h
        subst he
        cases i with
        | zero => simp at h; subst h; exact ⟨u, rfl, h1⟩
        | succ i => simpa using ih h2 (by simpa using h)
    obtain ⟨u, hu, huv⟩ := key hr hv
    refine .val (v := u) (w' := w) (exec_val (s := Instr.extract (ee x) i) (by unfold execOp; simp only [ho]) ?_) (.same hs huv)
    rw [hus]
    have : us[i]? = some u := by simpa using hu
    simp [Instr.extract, this]
  · -- field
    rename_i t x f
    split at h <;> first | (cases h; done) | skip
    rename_i y cs hy hx
    split at h <;> first | (cases h; done) | skip
    rename_i fs hk
    split at h <;> first | (cases h; done) | skip
    rename_i off n hf
    have hxv := hev x
    rw [hx] at hxv
    split at h
    · rename_i hn
      split at h <;> first | (cases h; done) | skip
      rename_i c hc
      simp only [Option.some.injEq, Prod.mk.injEq] at h
      obtain ⟨rfl, rfl⟩ := h
      exact fieldV_sound ho (T _ _ hy) hk hf hxv hs (.inl ⟨Nat.eq_of_beq_eq_true hn, c, hc, rfl⟩)
    · rename_i hn
      split at h <;> first | (cases h; done) | skip
      rename_i hc
      simp only [Option.some.injEq, Prod.mk.injEq] at h
      obtain ⟨rfl, rfl⟩ := h
      exact fieldV_sound ho (T _ _ hy) hk hf hxv hs (.inr ⟨fun e => (by rw [e] at hn; cases hn), Nat.le_of_ble_eq_true hc, rfl⟩)
  · -- call
    rename_i c
    split at h <;> first | (cases h; done) | skip
    · rename_i b hc
      exact builtin_sound T ho hc (avs_map hev c.args.toList) h hp hs hfr
    · rename_i f hc
      unfold aGo at h
      split at h <;> first | (cases h; done) | skip
      rename_i g caps hf
      have hfv := hev f
      rw [hf] at hfv
      obtain ⟨us, hus, hcap⟩ := hfv
      split at h
      rename_i xs u hden
      split at h <;> first | (cases h; done) | skip
      rename_i ef2 as2 hcall
      simp only [Option.some.injEq, Prod.mk.injEq] at h
      obtain ⟨rfl, rfl⟩ := h
      have hxs := congrArg Prod.fst hden
      have hu := congrArg Prod.snd hden
      simp only at hxs hu
      subst hxs hu
      obtain ⟨ρ1, a1, a2, a3, a4⟩ := denilA_sound (kindsOf tb c.argTypes as) fr (c.args.toList.map ev ++ caps.map fun x => one (.ptr x.1 x.2.1 x.2.2)) _ ρ fh hs (avs_append (avs_map hev c.args.toList) (caps_args hcap)) (fun j q1 q2 => hfr j q1 (by show j < fr + (_ + _); omega))
      refine Res.trans_ a1 a2 (call_sound ho hc hus (vs := c.args.toList.map ee ++ us.toList) (by simp) a4 hcall hp a3 (fun j q1 q2 => ?_)) rfl (fun q hq => by omega)
      rw [a2 j (by omega)]
      exact hfr j (by omega) (by show j < fr + (_ + _); omega)
end Go.Proofs.YtmodnnokcmabhaaGreat.Den
