/- Words for the proofs about one function each. -/
import Derived.Test.YtmodnnokcmabhaaGreatDenV
namespace Go.Proofs.YtmodnnokcmabhaaGreat.Den
open Go Go.RowKit
variable {P : Program} {tb : TypeId → Option Ty}
def tbOf : List (Nat × Ty) → TypeId → Option Ty
  | [], _ => none
  | (k, y) :: r, t => if Nat.beq k t then some y else tbOf r t
def AllTy (P : Program) : List (Nat × Ty) → Prop
  | [] => True
  | (k, y) :: r => TyOk P k y ∧ AllTy P r
theorem TabOk.of : ∀ {L : List (Nat × Ty)}, AllTy P L → TabOk P (tbOf L)
  | [], _, t, y, h => by cases h
  | (k, z) :: r, ⟨h1, h2⟩, t, y, h => by
    simp only [tbOf] at h
    split at h
    · rename_i hk
      obtain rfl := Option.some.inj h
      rw [← Nat.eq_of_beq_eq_true hk]
      exact h1
    · exact TabOk.of h2 t y h
def fieldsOf (P : Program) (t : TypeId) : Option (List (Option (Nat × Nat))) :=
  match P.underlying t with
  | some (.struct gs) => some (gs.toList.map fun g => match P.info? g.type, aggT P g.type with | some q, some b => cond (b == !(Nat.beq q.size 1)) (some (g.offset, q.size)) none | _, _ => none)
  | _ => none
def KOk (P : Program) (t : TypeId) : TK → Prop
  | .int k => P.underlying t = some (.int k)
  | .str => P.underlying t = some .string
  | .bool => P.underlying t = some .bool
  | .sl e => P.underlying t = some (.slice e)
  | .st fs => fieldsOf P t = some (fs.map some)
  | .other => True
theorem TyOk.of {t : TypeId} {y : Ty} (h1 : (P.info? t).map (fun i => (i.size, i.bytes, i.zero.map (fun z => z.cells.toList))) = some (y.sz, y.bytes, some (y.zero.map C.val))) (h2 : y.zero.all C.plain = true) (h3 : y.zero.length = y.sz)
    (h4 : (P.underlying t).map (fun d => match d with | .struct _ | .array _ _ => true | _ => false) = some y.agg) (h5 : KOk P t y.k) (h6 : EqOk P t y.eq) : TyOk P t y := by
  refine ⟨?_, h6⟩
  cases hi : P.info? t with
  | none => rw [hi] at h1; cases h1
  | some i =>
    rw [hi] at h1
    simp only [Option.map_some, Option.some.injEq, Prod.mk.injEq] at h1
    obtain ⟨a1, a2, a3⟩ := h1
    cases hz : i.zero with
    | none => rw [hz] at a3; cases a3
    | some z =>
      rw [hz] at a3
      cases hd : P.underlying t with
      | none => rw [hd] at h4; cases h4
      | some d =>
        rw [hd] at h4
        refine ⟨i, d, z, hi, hd, a1, a2, hz, by simpa using a3, h2, ?_, ?_, h3⟩
        · simp only [Option.map_some, Option.some.injEq] at h4
          rw [← h4]; cases d <;> rfl
        · revert h5
          cases y.k with
          | int k => intro h5; simpa [KOk, hd] using h5
          | str => intro h5; simpa [KOk, hd] using h5
          | bool => intro h5; simpa [KOk, hd] using h5
          | sl e => intro h5; simpa [KOk, hd] using h5
          | other => intro _; trivial
          | st fs =>
            intro h5
            simp only [KOk, fieldsOf, hd] at h5
            cases d <;> first | (cases h5; done) | skip
            rename_i gs
            simp only [Option.some.injEq] at h5
            refine ⟨gs, rfl, ?_, fun j g hj => ?_⟩
            · have := congrArg List.length h5
              simpa using this
            · have hj' : gs.toList[j]? = some g := by simpa using hj
              have := congrArg (fun l => l[j]?) h5
              simp only [List.getElem?_map, hj', Option.map_some] at this
              cases hfs : fs[j]? with
              | none => rw [hfs] at this; cases this
              | some p =>
                rw [hfs] at this
                simp only [Option.map_some, Option.some.injEq] at this
                cases hq : P.info? g.type with
                | none => rw [hq] at this; cases this
                | some q =>
                  rw [hq] at this
                  cases hb : aggT P g.type with
                  | none => rw [hb] at this; cases this
                  | some b =>
                    rw [hb] at this
                    have this : (cond (b == !(Nat.beq q.size 1)) (some (g.offset, q.size)) none) = some p := this
                    cases hbq : b == !(Nat.beq q.size 1)
                    · rw [hbq] at this; cases this
                    · rw [hbq] at this
                      simp only [cond_true, Option.some.injEq] at this
                      exact ⟨q, rfl, by rw [← this], by rw [eq_of_beq hbq]⟩
/-- What is left of a walk that the kernel has gone: 'by kernel_rfl'. -/
theorem by_eq {p q : Prop} (h : p) (e : p = q) : q := e ▸ h
def Ends (x : Option (AExit × St × List Ans × List Prop)) (e : AExit) (s : St) (p : Prop) : Prop := ∃ as ps, x = some (e, s, as, ps) ∧ allP ps = p
/-- The walk as one value, to be reckoned by the kernel. -/
def outcome (x : Option (AExit × St × List Ans × List Prop)) : Option (AExit × St × Prop) := x.map fun z => (z.1, z.2.1, allP z.2.2.2)
theorem out_of {x : Option (AExit × St × List Ans × List Prop)} {e : AExit} {s : St} {p : Prop} (h : outcome x = some (e, s, p)) : ∃ as ps, x = some (e, s, as, ps) ∧ allP ps = p := by
  cases x with
  | none => cases h
  | some z =>
    simp only [outcome, Option.map_some, Option.some.injEq, Prod.mk.injEq] at h
    obtain ⟨rfl, rfl, h3⟩ := h
    exact ⟨_, _, rfl, h3⟩
/-- A function, walked: the answer, the rows behind it, what is owed. -/
def walk (tb : TypeId → Option Ty) (sp : SP) (lsp : LSP) (fn : Func) (c : Code) (args : List AV) (h : Heap) (as : List Ans) (nils : List (Nat × List DK)) (keep : List Nat) : Option (AV × Heap × Prop) :=
  match exec tb sp lsp h.length c (begin_ args h fn.ntmps) as with
  | some (e, s, _, ps) => match e with
    | .exit _ => none
    | _ => if preOk h.length keep then match resAll tb (denilSt nils s) fn.results.toList with
        | some xs => some ((resOf xs).ren (at? keep), normHeap keep (denilSt nils s).h, allP ps)
        | none => none
      else none
  | none => none
def bodyOf (fn : Func) : Code := match fn.body with
  | some c => c
  | none => .skip
theorem Spec.of_walk (T : TabOk P tb) (hm : P.follows .mixedOrders = true) {f : FuncId} {fn : Func} (hf : P.funcs[f]? = some fn) (hok : (!(fn.name == "runtime.NumGoroutine") && fn.body.isSome) = true) {args : List AV} {h : Heap} (as : List Ans) (nils : List (Nat × List DK)) (keep : List Nat) {r : AV} {h' : Heap} {p : Prop}
    (hp : p) (hx : walk tb (Spec P) (LoopSpec P h.length) fn (bodyOf fn) args h as nils keep = some (r, h', p)) : Spec P f args h r h' := by
  simp only [Bool.and_eq_true, Bool.not_eq_true'] at hok
  obtain ⟨c, hc⟩ := Option.isSome_iff_exists.1 hok.2
  have hb : bodyOf fn = c := by simp [bodyOf, hc]
  rw [hb] at hx
  unfold walk at hx
  split at hx <;> first | (cases hx; done) | skip
  rename_i e s as' ps he
  split at hx
  · cases hx
  · rename_i hne
    split at hx <;> first | (cases hx; done) | skip
    rename_i hk
    split at hx <;> first | (cases hx; done) | skip
    rename_i xs hr
    simp only [Option.some.injEq, Prod.mk.injEq] at hx
    obtain ⟨rfl, rfl, rfl⟩ := hx
    refine Spec.of_exec T hm hf hok.1 hc he hp ?_ nils hr hk
    cases e with
    | norm => exact .inl rfl
    | exit id => exact absurd rfl (hne id)
    | ret => exact .inr rfl
theorem LoopSpec.norm {m0 : Nat} {c : Code} {s s' : St} {e : AExit} {nils : List (Nat × List DK)} {slots keep : List Nat} (hk : preOk m0 keep = true) (h : LoopSpec P m0 c s e s') : LoopSpec P m0 c s e (normSt nils slots keep s') :=
  fun B w0 ρ0 ρ a w hr Q hQ => h B w0 ρ0 ρ a w hr Q (fun _ a' w' hr' => by
    obtain ⟨ρn, hrn⟩ := norm_rel (nils := nils) (slots := slots) hk hr'
    exact hQ _ a' w' hrn)
/-- A loop's round, walked. -/
def roundW (tb : TypeId → Option Ty) (sp : SP) (lsp : LSP) (m0 : Nat) (c : Code) (s : St) (as : List Ans) (nils : List (Nat × List DK)) (slots keep : List Nat) : Option (AExit × St × Prop) :=
  match exec tb sp lsp m0 c s as with
  | some (e, s, _, ps) => if preOk m0 keep then some (e, normSt nils slots keep s, allP ps) else none
  | none => none
theorem LoopSpec.of_done (T : TabOk P tb) (hm : P.follows .mixedOrders = true) {m0 : Nat} {c : Code} {s s' : St} (as : List Ans) (nils : List (Nat × List DK)) (slots keep : List Nat) {e : AExit} (he : e.isNorm = false) {p : Prop} (hp : p) (hx : roundW tb (Spec P) (LoopSpec P m0) m0 c s as nils slots keep = some (e, s', p)) : LoopSpec P m0 c s e s' := by
  unfold roundW at hx
  split at hx
  · rename_i e2 s2 as2 ps hex
    split at hx
    · rename_i hk
      simp only [Option.some.injEq, Prod.mk.injEq] at hx
      obtain ⟨rfl, rfl, rfl⟩ := hx
      exact LoopSpec.norm hk (LoopSpec.done T hm hex hp he)
    · cases hx
  · cases hx
theorem LoopSpec.of_step (T : TabOk P tb) (hm : P.follows .mixedOrders = true) {m0 : Nat} {c : Code} {s s1 s' : St} (as : List Ans) (nils : List (Nat × List DK)) (slots keep : List Nat) {e : AExit} {p : Prop} (hp : p) (hx : roundW tb (Spec P) (LoopSpec P m0) m0 c s as nils slots keep = some (.norm, s1, p)) (hl : LoopSpec P m0 c s1 e s') : LoopSpec P m0 c s e s' := by
  unfold roundW at hx
  split at hx
  · rename_i e2 s2 as2 ps hex
    split at hx
    · rename_i hk
      simp only [Option.some.injEq, Prod.mk.injEq] at hx
      obtain ⟨rfl, rfl, rfl⟩ := hx
      exact LoopSpec.step T hm hex hp hk hl
    · cases hx
  · cases hx
def loops : Code → List Code
  | .seq a b => loops a ++ loops b
  | .cond _ a b => loops a ++ loops b
  | .block _ c => loops c
  | .loop c => c :: loops c
  | _ => []
/-- The k-th loop's round in a function's text. -/
def loopN (fn : Func) (k : Nat) : Code := (loops (bodyOf fn)).getD k .skip
def lookE : List (Nat × AV) → Nat → AV
  | [], _ => un
  | (k, v) :: r, t => match Nat.beq k t with
    | true => v
    | false => lookE r t
/-- A state of nt slots, these filled. -/
def mkSt (nt : Nat) (xs : List (Nat × AV)) (h : Heap) : St := ⟨(List.range nt).map (lookE xs), h⟩
end Go.Proofs.YtmodnnokcmabhaaGreat.Den
