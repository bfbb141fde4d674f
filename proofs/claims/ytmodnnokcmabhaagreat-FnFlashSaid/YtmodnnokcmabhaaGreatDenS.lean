/- What an operation gives hangs on what it names, and on the rows that it reads. -/
import Derived.Test.YtmodnnokcmabhaaGreatDenR
namespace Go.Proofs.YtmodnnokcmabhaaGreat.Den
open Go Go.RowKit
set_option linter.unusedSimpArgs false
set_option linter.unusedVariables false
variable {P : Program} {tb : TypeId → Option Ty} {sp : SP} {fh fh' : Nat → Option Row} {fr : Nat} {ev ev' : Operand → AV}

theorem src_local {dk : DK} {x : AV} {as : List Ans} {r : Data × List Nat × List Prop × List Ans} (h : srcOf dk fh x as = some r) (hf : ∀ l ∈ r.2.1, fh' l = fh l) : srcOf dk fh' x as = some r := by
  unfold srcOf at h ⊢
  split at h
  · exact h
  · exact h
  · split at h
    · rename_i r0 hr
      split at h
      · cases h
      · rename_i hc
        have e := Option.some.inj h
        subst e
        have := hf _ List.mem_cons_self
        simp only [this, hr]
        rw [if_neg hc]
    · cases h
  · split at h
    · rename_i r0 hr
      split at h
      · cases h
      · rename_i hc
        have e := Option.some.inj h
        subst e
        have := hf _ List.mem_cons_self
        simp only [this, hr]
        rw [if_neg hc]
    · cases h
  · cases h
theorem append_local {y : Ty} {s x : AV} {as : List Ans} {r : Ef × List Ans} (h : aAppend y s x as fr fh = some r) (hf : ∀ l ∈ r.1.rd, fh' l = fh l) : aAppend y s x as fr fh' = some r := by
  unfold aAppend at h ⊢
  split at h
  · split at h <;> first | (cases h; done) | skip
    rename_i d0 dx rd ps as2 hd0 hsrc
    split at h
    · rename_i hc
      have e := Option.some.inj h
      subst e
      rw [src_local hsrc hf]
      simp only [hd0, if_pos hc]
    · cases h
  · rename_i l off len
    split at h <;> first | (cases h; done) | skip
    rename_i d hl
    split at h <;> first | (cases h; done) | skip
    rename_i dx rd ps as2 hsrc
    split at h <;> first | (cases h; done) | skip
    rename_i hc
    split at h <;> first | (cases h; done) | skip
    rename_i d' happ
    have e := Option.some.inj h
    subst e
    have h1 := hf l List.mem_cons_self
    rw [src_local hsrc (fun k hk => hf k (List.mem_cons_of_mem _ hk))]
    simp only [h1, hl, if_pos hc, happ]
  · cases h
theorem copy_local {ts : Array TypeId} {l off len l2 off2 len2 : Nat} {as : List Ans} {r : Ef × List Ans} (h : aCopy tb ts l off len l2 off2 len2 as fh = some r) (hf : ∀ l ∈ r.1.rd, fh' l = fh l) : aCopy tb ts l off len l2 off2 len2 as fh' = some r := by
  unfold aCopy at h ⊢
  split at h <;> first | (cases h; done) | skip
  rename_i t t2 hts
  split at h <;> first | (cases h; done) | skip
  rename_i yt hyt
  split at h <;> first | (cases h; done) | skip
  rename_i e hk
  split at h <;> first | (cases h; done) | skip
  rename_i y d r2 b as2 hy hfl hfl2
  split at h <;> first | (cases h; done) | skip
  rename_i d' hov
  split at h <;> first | (cases h; done) | skip
  rename_i hz
  have e := Option.some.inj h
  subst e
  have h1 := hf l List.mem_cons_self
  have h2 := hf l2 (List.mem_cons_of_mem _ List.mem_cons_self)
  simp only [hts, hyt, hk, hy, h1, h2, hfl, hfl2, hov, if_pos hz]
theorem builtin_local {b : Builtin} {ts : Array TypeId} {args : List AV} {as : List Ans} {r : Ef × List Ans} (h : aBuiltin tb b ts args as fr fh = some r) (hf : ∀ l ∈ r.1.rd, fh' l = fh l) : aBuiltin tb b ts args as fr fh' = some r := by
  unfold aBuiltin at h ⊢
  split at h <;> first | exact h | (cases h; done) | skip
  case h_9 => exact copy_local h hf
  split at h <;> first | (cases h; done) | skip
  rename_i hts
  split at h <;> first | (cases h; done) | skip
  rename_i hyt
  split at h <;> first | (cases h; done) | skip
  rename_i hk
  split at h <;> first | (cases h; done) | skip
  rename_i hy
  split at h
  · cases h
  · rename_i hc
    simp only [hts, hyt, hk, hy, if_neg hc]
    exact append_local h hf
theorem szIs_local {e : TypeId} {l : Nat} (h : fh' l = fh l) : szIs tb fh' e l = szIs tb fh e l := by
  unfold szIs; rw [h]
theorem rew_local {e : TypeId} {k off len : Nat} {l h : Int} {as : List Ans} {r : Ef × List Ans} (hr : aRew tb fh e k off len l h as fr = some r) (hf : ∀ l ∈ r.1.rd, fh' l = fh l) : aRew tb fh' e k off len l h as fr = some r := by
  unfold aRew at hr ⊢
  split at hr <;> first | (cases hr; done) | skip
  rename_i d hd
  split at hr
  · cases hr
  · rename_i hc
    have e := Option.some.inj hr
    subst e
    have h1 := hf k List.mem_cons_self
    rw [h1]
    simp only [hd]
    rw [szIs_local h1, if_neg hc]
theorem slice_local {tk : TK} {x : AV} {lo hi mx : Option Int} {as : List Ans} {r : Ef × List Ans} (h : aSlice tb fh fr tk x lo hi mx as = some r) (hf : ∀ l ∈ r.1.rd, fh' l = fh l) : aSlice tb fh' fr tk x lo hi mx as = some r := by
  unfold aSlice at h ⊢
  split at h <;> first | exact h | (cases h; done) | skip
  · simp only at h ⊢
    split at h
    · rename_i hq
      rw [if_pos hq]
      exact rew_local h hf
    rename_i hq
    rw [if_neg hq]
    split at h
    · rename_i hz
      have e := Option.some.inj h
      subst e
      rw [szIs_local (hf _ List.mem_cons_self), if_pos hz]
    · cases h
  · simp only at h ⊢
    split at h
    · exact h
    · split at h
      · rename_i hz
        have e := Option.some.inj h
        subst e
        rw [szIs_local (hf _ List.mem_cons_self), if_pos hz]
      · cases h
    · cases h
theorem convert_local {ys yd : Ty} {same : Bool} {x : AV} {as : List Ans} {r : Ef × List Ans} (h : aConvert ys yd tb same x as fr fh = some r) (hf : ∀ l ∈ r.1.rd, fh' l = fh l) : aConvert ys yd tb same x as fr fh' = some r := by
  unfold aConvert at h ⊢
  split at h <;> first | exact h | (cases h; done) | skip
  · rename_i l off len e h1 h2
    try simp only [h1, h2]
    split at h <;> first | (cases h; done) | skip
    · rename_i e1 hl
      have e := Option.some.inj h
      subst e
      rw [hf _ List.mem_cons_self]
      simp only [e1, hl]
    · rename_i e1 hl
      have e := Option.some.inj h
      subst e
      rw [hf _ List.mem_cons_self]
      simp only [e1, hl]
  · rename_i l off len e e' h1 h2
    try simp only [h1, h2]
    split at h <;> first | (cases h; done) | skip
    rename_i e1 hl
    split at h
    · cases h
    · rename_i hc
      have e := Option.some.inj h
      subst e
      rw [hf _ List.mem_cons_self]
      simp only [e1, hl, if_neg hc]
theorem keepOk_local : ∀ {keep : List (Nat × Bool)}, (∀ l ∈ keep.map (·.1), fh' l = fh l) → keepOk fh' keep = keepOk fh keep
  | [], _ => rfl
  | (l, wr) :: r, h => by
    simp only [keepOk]
    rw [h l (by simp), keepOk_local (fun k hk => h k (by simp at hk ⊢; exact .inr hk))]
theorem heapIn_local {keep : List (Nat × Bool)} {views : List Nat} {args : List AV} (h : ∀ l ∈ keep.map (·.1) ++ viewLocs args views, fh' l = fh l) : heapIn fh' keep views args = heapIn fh keep views args := by
  unfold heapIn
  simp only
  congr 1
  · refine List.map_congr_left fun x hx => ?_
    rw [h x.1 (List.mem_append_left _ (List.mem_map.2 ⟨x, hx, rfl⟩))]
  · refine List.map_congr_left fun p hp => ?_
    unfold viewOf
    split
    · rename_i l off len ha
      rw [h l (List.mem_append_right _ (List.mem_filterMap.2 ⟨p, hp, by rw [ha]⟩))]
    · rfl
theorem roOf_local : ∀ {keep : List (Nat × Bool)}, (∀ l ∈ keep.map (·.1), fh' l = fh l) → roOf fh' keep = roOf fh keep
  | [], _ => rfl
  | (l, b) :: r, h => by
    unfold roOf
    rw [h l (by simp), roOf_local (keep := r) (fun k hk => h k (by simp at hk ⊢; exact .inr hk))]
theorem heapW_local {keep views : List (Nat × Bool)} {args : List AV} (h : ∀ l ∈ keep.map (·.1) ++ viewLocs args (views.map (·.1)), fh' l = fh l) : heapW fh' keep views args = heapW fh keep views args := by
  unfold heapW
  simp only
  congr 1
  · refine List.map_congr_left fun x hx => ?_
    rw [h x.1 (List.mem_append_left _ (List.mem_map.2 ⟨x, hx, rfl⟩))]
  · refine List.map_congr_left fun p hp => ?_
    unfold viewW viewOf
    have : ∀ l off len, args[p.1]? = some (.v (.c (.sl l off len))) → fh' l = fh l := fun l off len ha =>
      h l (List.mem_append_right _ (List.mem_filterMap.2 ⟨p.1, List.mem_map.2 ⟨p, hp, rfl⟩, by rw [ha]⟩))
    split
    · split
      · rename_i l off len ha
        rw [this _ _ _ ha]
      · rfl
    · split
      · rename_i l off len ha
        rw [this _ _ _ ha]
      · rfl
theorem viewPs_local {args : List AV} : ∀ {views : List (Nat × Bool)}, (∀ l ∈ viewLocs args (views.map (·.1)), fh' l = fh l) → viewPs fh' args views = viewPs fh args views
  | [], _ => rfl
  | (p, b) :: r, h => by
    have ih := viewPs_local (views := r) (fun l hl => h l (by
      simp only [viewLocs, List.map_cons, List.filterMap_cons] at hl ⊢
      split
      · exact hl
      · exact List.mem_cons_of_mem _ hl))
    cases b with
    | false => exact ih
    | true =>
      unfold viewPs
      rw [ih]
      congr 1
      split
      · rename_i l off len ha
        rw [h l (List.mem_filterMap.2 ⟨p, by simp, by rw [ha]⟩)]
      · rfl
theorem call_local {f : FuncId} {args : List AV} {as : List Ans} {r : Ef × List Ans} (h : aCall sp f args as fr fh = some r) (hf : ∀ l ∈ r.1.rd, fh' l = fh l) : aCall sp f args as fr fh' = some r := by
  unfold aCall at h ⊢
  split at h
  · simp only at h ⊢
    split at h
    · rename_i hc
      have e := Option.some.inj h
      subst e
      have hf' := hf
      rw [roOf_local (fun l hl => hf l (List.mem_append_left _ hl)), keepOk_local (fun l hl => hf l (List.mem_append_left _ hl)), if_pos hc, heapW_local hf, viewPs_local (fun l hl => hf l (List.mem_append_right _ hl))]
    · cases h
  · cases h
theorem updF_local : ∀ (u : List (Nat × Option Row)) {f g : Nat → Option Row} {l : Nat}, f l = g l → updF f u l = updF g u l
  | [], _, _, _, h => h
  | (k, r) :: u, f, g, l, h => by
    rw [updF, updF]
    refine updF_local u ?_
    split
    · rfl
    · exact h
theorem map_ev {l : List Operand} (h : ∀ x ∈ l, ev' x = ev x) : l.map ev' = l.map ev := List.map_congr_left h
theorem bound_local {o : Option Operand} (h : ∀ x ∈ o, ev' x = ev x) : bound? ev' o = bound? ev o := by
  cases o with
  | none => rfl
  | some x => simp only [bound?, h x rfl]
theorem go_local {ts : Array TypeId} {args : List AV} {f : AV} {as : List Ans} {r : Ef × List Ans} (h : aGo tb sp ts args f as fr fh = some r) (hf : ∀ l ∈ r.1.rd, fh' l = fh l) : aGo tb sp ts args f as fr fh' = some r := by
  unfold aGo at h ⊢
  split at h <;> first | (cases h; done) | skip
  rename_i g caps
  split at h
  rename_i xs u hden
  split at h <;> first | (cases h; done) | skip
  rename_i ef2 as2 hcall
  have e0 := Option.some.inj h
  subst e0
  have : ∀ l ∈ ef2.rd, updF fh' u l = updF fh u l := fun l hl => updF_local _ (hf l hl)
  rw [call_local hcall this]
theorem aop_local {o : Op} {as : List Ans} {r : Ef × List Ans} (h : aop tb sp o as fr ev fh = some r) (he : ∀ x ∈ o.operands, ev' x = ev x) (hf : ∀ l ∈ r.1.rd, fh' l = fh l) : aop tb sp o as fr ev' fh' = some r := by
  unfold aop at h ⊢
  split at h <;> first | (cases h; done) | skip
  · rename_i x
    rw [he x (by simp [Op.operands])]; exact h
  · rename_i x
    rw [he x (by simp [Op.operands])]; exact h
  · rename_i c a b
    rw [he c (by simp [Op.operands]), he a (by simp [Op.operands]), he b (by simp [Op.operands])]; exact h
  · exact h
  · rename_i e x
    rw [he x (by simp [Op.operands])]; exact h
  · rename_i t parts
    have : (parts.toList.map fun p => (p.1, ev' p.2)) = parts.toList.map fun p => (p.1, ev p.2) := List.map_congr_left fun p hp => by
      rw [he p.2 (by simp [Op.operands]; exact ⟨p.1, by simpa using hp⟩)]
    rw [this]; exact h
  · rename_i t n parts
    have : (parts.toList.map fun p => ev' p.2) = parts.toList.map fun p => ev p.2 := List.map_congr_left fun p hp => by
      rw [he p.2 (by simp [Op.operands]; exact ⟨p.1, by simpa using hp⟩)]
    rw [this]; exact h
  · rename_i t a
    rw [he a (by simp [Op.operands])]
    split at h <;> first | (cases h; done) | skip
    rename_i y l i j hy ha
    split at h <;> first | (cases h; done) | skip
    rename_i r0 hr
    try simp only [hy, ha]
    have hl : r.1.rd = [l] := by
      split at h <;> simp only [Option.map_eq_some_iff] at h <;> obtain ⟨z, _, rfl⟩ := h <;> rfl
    rw [hf l (by rw [hl]; exact List.mem_cons_self), hr]
    exact h
  · rename_i t a x
    rw [he a (by simp [Op.operands]), he x (by simp [Op.operands])]
    split at h <;> first | (cases h; done) | skip
    · rename_i y l i j c hy ha hx
      split at h <;> first | (cases h; done) | skip
      rename_i d hd
      have hl : r.1.rd = [l] := by
        split at h <;> first | (cases h; done) | skip
        split at h <;> first | (cases h; done) | skip
        simp only [Option.map_eq_some_iff] at h; obtain ⟨z, _, rfl⟩ := h; rfl
      rw [hf l (by rw [hl]; exact List.mem_cons_self), hd]
      exact h
    · rename_i y l i j cs hy ha hx
      split at h <;> first | (cases h; done) | skip
      rename_i d hd
      have hl : r.1.rd = [l] := by
        simp only at h
        split at h <;> first | (cases h; done) | skip
        simp only [Option.map_eq_some_iff] at h; obtain ⟨z, _, rfl⟩ := h; rfl
      rw [hf l (by rw [hl]; exact List.mem_cons_self), hd]
      exact h
  · rename_i x
    rw [he x (by simp [Op.operands])]; exact h
  · rename_i op t x y _
    rw [he x (by simp [Op.operands]), he y (by simp [Op.operands])]; exact h
  · rename_i t x
    rw [he x (by simp [Op.operands])]; exact h
  · rename_i s d x
    rw [he x (by simp [Op.operands])]
    split at h <;> first | (cases h; done) | skip
    rename_i ys yd hys hyd
    try simp only [hys, hyd]
    exact convert_local h hf
  · rename_i f first captured
    have : captured.toList.map ev' = captured.toList.map ev := map_ev fun x hx => he x (by simp [Op.operands]; exact .inr (by simpa using hx))
    rw [this]; exact h
  · rename_i t l c
    rw [he l (by simp [Op.operands]), he c (by simp [Op.operands])]; exact h
  · rename_i t x lo hi mx
    rw [he x (by simp [Op.operands]), bound_local (ev' := ev') (ev := ev) (o := lo) (fun y hy => he y (by simp [Op.operands]; simp at hy; simp [hy])), bound_local (ev' := ev') (ev := ev) (o := hi) (fun y hy => he y (by simp [Op.operands]; simp at hy; simp [hy])), bound_local (ev' := ev') (ev := ev) (o := mx) (fun y hy => he y (by simp [Op.operands]; simp at hy; simp [hy]))]
    split at h <;> first | (cases h; done) | skip
    rename_i yt hyt
    split at h <;> first | (cases h; done) | skip
    rename_i l' h' m' htk hl hh hm
    try simp only [hyt, htk, hl, hh, hm]
    exact slice_local h hf
  · rename_i s x f
    rw [he x (by simp [Op.operands])]; exact h
  · rename_i t x ix
    rw [he x (by simp [Op.operands]), he ix (by simp [Op.operands])]
    split at h <;> first | (cases h; done) | skip
    rename_i yt l off len k i hyt hx hi
    split at h <;> first | (cases h; done) | skip
    rename_i e r0 hk hr
    split at h <;> first | (cases h; done) | skip
    rename_i y hy
    split at h <;> first | (cases h; done) | skip
    rename_i hz
    have e0 := Option.some.inj h
    subst e0
    try simp only [hyt, hx, hi, hk]
    rw [hf l List.mem_cons_self, hr]
    simp only [hy, if_pos hz]
  · rename_i t x ix
    rw [he x (by simp [Op.operands]), he ix (by simp [Op.operands])]; exact h
  · rename_i x i
    rw [he x (by simp [Op.operands])]; exact h
  · rename_i t x f
    rw [he x (by simp [Op.operands])]; exact h
  · rename_i c
    have hargs : c.args.toList.map ev' = c.args.toList.map ev := map_ev fun x hx => he x (by simp [Op.operands, Call.operands]; exact .inr (by simpa using hx))
    rw [hargs]
    split at h <;> first | (cases h; done) | skip
    · rename_i b hc
      exact builtin_local h hf
    · rename_i f hc
      rw [he f (by simp [Op.operands, Call.operands, hc])]
      exact go_local h hf
end Go.Proofs.YtmodnnokcmabhaaGreat.Den
