/- Functions of Go's library, told by hand: a slice that may be nil. -/
import Derived.Test.YtmodnnokcmabhaaGreatDenX
namespace Go.Proofs.YtmodnnokcmabhaaGreat.Den
open Go Go.RowKit
set_option linter.unusedSimpArgs false
set_option linter.unusedVariables false
variable {P : Program} {tb : TypeId → Option Ty}
/-- What is answered at a function's end. -/
theorem Rel.fin (T : TabOk P tb) {fn : Func} {B : Nat → Prop} {w w' : World} {ρ ρ0' : Rho} {h : Heap} {s' : St} {a' : Act} (hfr : ∀ l, h.length ≤ l → rat ρ l = none) (nils : List (Nat × List DK)) {xs : List V} (hr : resAll tb (denilSt nils s') fn.results.toList = some xs) {keep : List Nat} (hk : preOk h.length keep = true)
    (hr0' : Rel B w ρ h.length s' ρ0' a' w') : a'.defers = [] ∧ ∃ v, (results fn a'.tmps).run P w' = .ok v w' ∧ ∃ ρ'' v', Ending.returned v = .returned v' ∧ Sim B w ρ'' w' (hat (normHeap keep (denilSt nils s').h)) ∧ AVR ρ'' ((resOf xs).ren (at? keep)) v' ∧ Sub ρ ρ'' := by
  obtain ⟨ρ', hr'⟩ := denilSt_rel nils hr0'
  obtain ⟨us, g1, g2, g3⟩ := resAll_sound T hr' fn.results.toList xs hr
  have hrun : (results fn a'.tmps).run P w' = .ok (if h : us.toArray.size = 1 then us.toArray[0] else .tuple us.toArray) w' := by
    have : results fn a'.tmps = (do let vs ← fn.results.mapM (resRun a'); pure (if h : vs.size = 1 then vs[0] else .tuple vs)) := rfl
    rw [this, Array.mapM_eq_mapM_toList]
    simp [Sem.run_bind, g1]
  refine ⟨hr'.dfs, _, hrun, rhoN ρ' keep, _, rfl, norm_sim hr'.sim (preOk_spec hk).1, AVR.ren le_norm ?_, norm_pre hk hr'.pre hfr⟩
  cases xs with
  | nil =>
    obtain rfl : us = [] := g2
    exact ⟨#[], rfl, rfl⟩
  | cons x xs =>
    cases xs with
    | nil =>
      obtain ⟨u, us', rfl, q1, q2⟩ := g2
      obtain rfl : us' = [] := q2
      exact q1
    | cons y ys =>
      have : ¬ us.toArray.size = 1 := by simp [g3]
      rw [dif_neg this]
      exact ⟨us.toArray, rfl, g2⟩
theorem Rel.begin {fn : Func} {B : Nat → Prop} {w : World} {ρ : Rho} {h : Heap} {args : List AV} {vs : List Value} (hfr : ∀ l, h.length ≤ l → rat ρ l = none) (hs : Sim B w ρ w (hat h)) (hav : AVsR ρ args vs) :
    Rel B w ρ h.length (begin_ args h fn.ntmps) ρ { tmps := vs.toArray ++ Array.replicate (fn.ntmps - vs.toArray.size) undef, defers := [] } w := by
  obtain ⟨hl, hg⟩ := avs_get hav
  refine ⟨hs, fun t => ?_, by simp [begin_, hl], rfl, hfr, Sub.refl ρ, hfr⟩
  have := hg t
  simp only [begin_, eat, List.getD_eq_getElem?_getD, Array.getD_eq_getD_getElem?, Array.getElem?_append, List.getElem?_append, List.size_toArray, hl] at this ⊢
  by_cases ht : t < vs.length
  · simpa [ht] using this
  · simp only [ht, if_false]
    rw [List.getElem?_replicate]
    split <;> trivial
/-- What is known of a slot, told anew. -/
theorem Rel.slot {B : Nat → Prop} {w0 w : World} {ρ ρ0 : Rho} {m0 : Nat} {s : St} {a : Act} (hr : Rel B w0 ρ0 m0 s ρ a w) (d : Nat) {v : AV} (hv : AVR ρ v (a.tmps.getD d undef)) : Rel B w0 ρ0 m0 ⟨s.env.set d v, s.h⟩ ρ a w := by
  refine ⟨hr.sim, fun t => ?_, by simp [hr.len], hr.dfs, hr.fresh, hr.pre, hr.pre0⟩
  by_cases e : d = t
  · subst e
    by_cases hd : d < s.env.length
    · have : eat (s.env.set d v) d = v := by simp [eat, List.getD_eq_getElem?_getD, hd]
      rw [this]; exact hv
    · have : eat (s.env.set d v) d = un := by simp [eat, List.getD_eq_getElem?_getD, hd]
      rw [this]; trivial
  · have : eat (s.env.set d v) t = eat s.env t := by simp [eat, List.getD_eq_getElem?_getD, List.getElem?_set_ne e]
    rw [this]; exact hr.env t
def endW (tb : TypeId → Option Ty) (fn : Func) (m0 : Nat) (s : St) (nils : List (Nat × List DK)) (keep : List Nat) : Option (AV × Heap) :=
  if preOk m0 keep then match resAll tb (denilSt nils s) fn.results.toList with
    | some xs => some ((resOf xs).ren (at? keep), normHeap keep (denilSt nils s).h)
    | none => none
  else none
theorem Rel.end_ (T : TabOk P tb) {fn : Func} {B : Nat → Prop} {w w' : World} {ρ ρ0' : Rho} {h : Heap} {s' : St} {a' : Act} (hfr : ∀ l, h.length ≤ l → rat ρ l = none) {nils : List (Nat × List DK)} {keep : List Nat} {r : AV} {h' : Heap} (he : endW tb fn h.length s' nils keep = some (r, h'))
    (hr0' : Rel B w ρ h.length s' ρ0' a' w') : a'.defers = [] ∧ ∃ v, (results fn a'.tmps).run P w' = .ok v w' ∧ ∃ ρ'' v', Ending.returned v = .returned v' ∧ Sim B w ρ'' w' (hat h') ∧ AVR ρ'' r v' ∧ Sub ρ ρ'' := by
  unfold endW at he
  split at he <;> first | (cases he; done) | skip
  rename_i hk
  split at he <;> first | (cases he; done) | skip
  rename_i xs hr
  simp only [Option.some.injEq, Prod.mk.injEq] at he
  obtain ⟨rfl, rfl⟩ := he
  exact Rel.fin T hfr nils hr hk hr0'
def c1 : Code → Code
  | .seq a _ => a
  | c => c
def c2 : Code → Code
  | .seq _ b => b
  | c => c
def cX : Code → Code
  | .cond _ x _ => x
  | c => c
def preW (tb : TypeId → Option Ty) (sp : SP) (lsp : LSP) (m0 : Nat) (A B : Code) (s : St) : Option (St × Prop) :=
  match exec tb sp lsp m0 A s [] with
  | some (.norm, s, _, p) => match exec tb sp lsp m0 B s [] with
    | some (.norm, s, _, q) => some (s, allP (p ++ q))
    | _ => none
  | _ => none
def nqOf (d : Nat) (s : St) : Option Nat := match eat s.env d with
  | .v (.c (.nilq n)) => some n
  | _ => none
def postW (tb : TypeId → Option Ty) (sp : SP) (lsp : LSP) (fn : Func) (m0 : Nat) (c : Code) (d : Nat) (b : Bool) (s : St) (as : List Ans) (nils : List (Nat × List DK)) (keep : List Nat) : Option (AV × Heap × Prop) :=
  match exec tb sp lsp m0 c ⟨s.env.set d (one (.bool b)), s.h⟩ as with
  | some (.ret, s, _, ps) => match endW tb fn m0 s nils keep with
    | some (r, h) => some (r, h, allP ps)
    | none => none
  | _ => none
def forkW (tb : TypeId → Option Ty) (sp : SP) (lsp : LSP) (fn : Func) (m0 : Nat) (A B c : Code) (d : Nat) (b : Bool) (s : St) (as : List Ans) (nils : List (Nat × List DK)) (keep : List Nat) : Option (Nat × AV × Heap × Prop) :=
  match preW tb sp lsp m0 A B s with
  | some (s, p) => match nqOf d s with
    | some n => match postW tb sp lsp fn m0 c d b s as nils keep with
      | some (r, h, q) => some (n, r, h, p ∧ q)
      | none => none
    | none => none
  | none => none
/-- A function that begins with the question whether a slice is nil. -/
theorem Spec.fork (T : TabOk P tb) (hm : P.follows .mixedOrders = true) {f : FuncId} {fn : Func} (hf : P.funcs[f]? = some fn) (hok : (!(fn.name == "runtime.NumGoroutine") && fn.body.isSome) = true) (d : Nat)
    (hb : bodyOf fn = .seq (c1 (bodyOf fn)) (.seq (.seq (c1 (c1 (c2 (bodyOf fn)))) (.cond (.tmp d) (cX (c2 (c1 (c2 (bodyOf fn))))) .skip)) (c2 (c2 (bodyOf fn))))) {args : List AV} {h : Heap} {n : Nat} {r : AV} {h' : Heap} {pF : Prop}
    (asF : List Ans) (nilsF : List (Nat × List DK)) (keepF : List Nat) (qF : pF) (hF : forkW tb (Spec P) (LoopSpec P h.length) fn h.length (c1 (bodyOf fn)) (c1 (c1 (c2 (bodyOf fn)))) (c2 (c2 (bodyOf fn))) d false (begin_ args h fn.ntmps) asF nilsF keepF = some (n, r, h', pF))
    (hT : n = 0 → ∃ asT nilsT keepT pT, forkW tb (Spec P) (LoopSpec P h.length) fn h.length (c1 (bodyOf fn)) (c1 (c1 (c2 (bodyOf fn)))) (cX (c2 (c1 (c2 (bodyOf fn))))) d true (begin_ args h fn.ntmps) asT nilsT keepT = some (n, r, h', pT) ∧ pT) : Spec P f args h r h' := by
  simp only [Bool.and_eq_true, Bool.not_eq_true'] at hok
  obtain ⟨c, hc⟩ := Option.isSome_iff_exists.1 hok.2
  have hb' : bodyOf fn = c := by simp [bodyOf, hc]
  generalize c1 (bodyOf fn) = A at hb hF hT
  generalize c1 (c1 (c2 (bodyOf fn))) = B' at hb hF hT
  generalize cX (c2 (c1 (c2 (bodyOf fn)))) = X at hb hT
  generalize c2 (c2 (bodyOf fn)) = Z at hb hF
  rw [hb'] at hb
  refine ⟨⟨fn, hf, hok.1, by rw [hc]; rfl⟩, fun B w ρ vs hfr hs hav => ?_⟩
  have post : ∀ {cc : Code} {b : Bool} {s : St} {as : List Ans} {nils : List (Nat × List DK)} {keep : List Nat} {q : Prop}, postW tb (Spec P) (LoopSpec P h.length) fn h.length cc d b s as nils keep = some (r, h', q) → q → ∀ {ρ2 : Rho} {b2 : Act} {w2 : World}, Rel B w ρ h.length ⟨s.env.set d (one (.bool b)), s.h⟩ ρ2 b2 w2 → ∀ Q : Exit → Act → World → Prop,
      (∀ a' w', (a'.defers = [] ∧ ∃ v, (results fn a'.tmps).run P w' = .ok v w' ∧ ∃ ρ'' v', Ending.returned v = .returned v' ∧ Sim B w ρ'' w' (hat h') ∧ AVR ρ'' r v' ∧ Sub ρ ρ'') → Q .ret a' w') → cc.wp P Q b2 w2 := by
    intro cc b s as nils keep q hx hq ρ2 b2 w2 r2 Q hQ
    unfold postW at hx
    split at hx <;> first | (cases hx; done) | skip
    rename_i s3 as3 ps he
    split at hx <;> first | (cases hx; done) | skip
    rename_i r4 h4 hend
    simp only [Option.some.injEq, Prod.mk.injEq] at hx
    obtain ⟨rfl, rfl, rfl⟩ := hx
    exact exec_sound T hm cc _ _ _ _ _ _ ρ2 b2 w2 he hq r2 Q (fun ρ3 b3 w3 r3 => hQ b3 w3 (Rel.end_ T hfr hend r3))
  unfold forkW at hF
  split at hF <;> first | (cases hF; done) | skip
  rename_i sB p hpre
  split at hF <;> first | (cases hF; done) | skip
  rename_i n' hn
  split at hF <;> first | (cases hF; done) | skip
  rename_i r' h'' q hpost
  simp only [Option.some.injEq, Prod.mk.injEq] at hF
  obtain ⟨rfl, rfl, rfl, rfl⟩ := hF
  have hpre0 := hpre
  unfold preW at hpre
  split at hpre <;> first | (cases hpre; done) | skip
  rename_i sA as1 p1 hA
  split at hpre <;> first | (cases hpre; done) | skip
  rename_i sB' as2 p2 hB
  simp only [Option.some.injEq, Prod.mk.injEq] at hpre
  obtain ⟨rfl, rfl⟩ := hpre
  obtain ⟨q1, q2⟩ := allP_append qF.1
  refine calls_of_wp hf hc ?_
  rw [hb]
  refine wp_seq (exec_sound T hm A _ _ _ _ _ _ ρ _ w hA q1 (Rel.begin hfr hs hav) _ (fun ρ1 b1 w1 r1 => ?_))
  refine wp_seq (wp_seq (exec_sound T hm B' _ _ _ _ _ _ ρ1 b1 w1 hB q2 r1 _ (fun ρ2 b2 w2 r2 => ?_)))
  have hd := r2.env d
  unfold nqOf at hn
  split at hn <;> first | (cases hn; done) | skip
  rename_i n2 hq
  obtain rfl := Option.some.inj hn
  rw [hq] at hd
  obtain ⟨b, hb1, hb2⟩ := hd
  have hd' : b2.eval (.tmp d) = .bool b := hb1
  cases b with
  | true =>
    obtain ⟨asT, nilsT, keepT, pT, x1, x2⟩ := hT (hb2 rfl)
    unfold forkW at x1
    rw [hpre0] at x1
    simp only [nqOf, hq] at x1
    split at x1 <;> first | (cases x1; done) | skip
    rename_i r5 h5 q5 hpostT
    simp only [Option.some.injEq, Prod.mk.injEq, true_and] at x1
    obtain ⟨rfl, rfl, rfl⟩ := x1
    exact wp_cond_true hd' (post hpostT x2.2 (r2.slot d (show AVR ρ2 (one (.bool true)) _ from hb1)) _ (fun a' w' hh => hh))
  | false =>
    exact wp_cond_false hd' (wp_skip (post hpost qF.2 (r2.slot d (show AVR ρ2 (one (.bool false)) _ from hb1)) _ (fun a' w' hh => hh)))
end Go.Proofs.YtmodnnokcmabhaaGreat.Den
