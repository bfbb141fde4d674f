/- Each step that the reckoner takes is the model's step: operations without calls and appends. -/
import Derived.Test.YtmodnnokcmabhaaGreatDenC
import Derived.Laws.StructEq
namespace Go.Proofs.YtmodnnokcmabhaaGreat.Den
open Go Go.RowKit
set_option linter.unusedSimpArgs false
set_option linter.unusedVariables false
variable {P : Program} {tb : TypeId → Option Ty} {B : Nat → Prop} {w0 w w' : World} {ρ ρ' : Rho} {fh fh' : Nat → Option Row} {fr : Nat} {ev : Operand → AV} {ee : Operand → Value}

def Good (P : Program) (o : Oper) (ee : Operand → Value) (w : World) (R : Value → World → Prop) : Prop :=
  (∃ v w', (execOp ee o).run P w = .ok (.value v) w' ∧ R v w') ∨
  (∃ w', (execOp ee o).run P w = .ok .skip w' ∧ R undef w') ∨
  (∃ f args w1, (execOp ee o).run P w = .ok (.enter f args) w1 ∧ Calls P f args w1 fun e w' => ∃ v, e = .returned v ∧ R v w')
theorem Good.wp {o : Oper} {a : Act} {R : Value → World → Prop} {next : Act → World → Prop} {Q : Exit → Act → World → Prop} (h : Good P o a.eval w R) (hn : ∀ v w', R v w' → next (a.put o.dst v) w') : o.wp P a w next Q := by
  unfold Oper.wp
  rcases h with ⟨v, w', h1, h2⟩ | ⟨w', h1, h2⟩ | ⟨f, args, w1, h1, h2⟩
  · rw [h1]; exact hn _ _ h2
  · rw [h1]; exact hn _ _ h2
  · rw [h1, Oper.upon_enter]
    refine h2.mono fun e w' he => ?_
    obtain ⟨v, rfl, hv⟩ := he
    exact hn _ _ hv
def Res (B : Nat → Prop) (w0 : World) (ρ : Rho) (fh : Nat → Option Row) (fr : Nat) (ef : Ef) (v : Value) (w' : World) : Prop :=
  ∃ ρ', Sub ρ ρ' ∧ (∀ l, ¬ (fr ≤ l ∧ l < fr + ef.n) → rat ρ' l = rat ρ l) ∧ Sim B w0 ρ' w' (updF fh ef.u) ∧ AVR ρ' ef.v v
theorem Res.same (hs : Sim B w0 ρ w fh) {av : AV} {ps : List Prop} {rd : List Nat} {v : Value} (hv : AVR ρ av v) : Res B w0 ρ fh fr ⟨av, [], 0, rd, ps⟩ v w :=
  ⟨ρ, Sub.refl ρ, fun _ _ => rfl, hs, hv⟩
theorem Good.val {o : Oper} {R : Value → World → Prop} {v : Value} {w' : World} (h : (execOp ee o).run P w = .ok (.value v) w') (hr : R v w') : Good P o ee w R := .inl ⟨v, w', h, hr⟩

/-! ### memory's steps -/
def rset (ρ : Rho) (l : Nat) (lc : Lc) : Rho := fun k => if k = l then some lc else ρ k
theorem rset_sub {l : Nat} {lc : Lc} (h : rat ρ l = none) : Sub ρ (rset ρ l lc) := by
  intro k c hk
  show (if k = l then some lc else ρ k) = some c
  by_cases e : k = l
  · subst e; rw [h] at hk; cases hk
  · rw [if_neg e]; exact hk
theorem rset_at (ρ : Rho) (l : Nat) (lc : Lc) : rat (rset ρ l lc) l = some lc := by simp [rat, rset]
theorem rset_out {l k : Nat} {lc : Lc} {n : Nat} (hn : 0 < n) (h : ¬ (l ≤ k ∧ k < l + n)) : rat (rset ρ l lc) k = rat ρ k := by
  have : k ≠ l := by omega
  simp [rat, rset, this]
/-- A row that is new: in a new block, or in the row that is given up. -/
theorem Sim.fresh (hs : Sim B w0 ρ w fh) (hfr : rat ρ fr = none) {row : Option Nat} (g : w.grownBy w' row) (lc : Lc) (d : Data) (kill : Option Nat)
    (hrow : ∀ b, row = some b → ∃ l r lc, kill = some l ∧ fh l = some r ∧ r.own = true ∧ rat ρ l = some lc ∧ lc.n ≠ 0 ∧ lc.b = b)
    (hnew : RowR (rset ρ fr lc) w' ⟨true, d⟩ lc) (hpl : lc.n = 0 ∨ row = some lc.b ∨ w.heap.size ≤ lc.b) :
    Sim B w0 (rset ρ fr lc) w' (fun k => if k = fr then some ⟨true, d⟩ else if some k = kill then none else fh k) := by
  refine hs.step (rset_sub hfr) g fr (fun b hb => ?_) (fun l r hl hf => ?_) (fun r hf => ?_)
  · obtain ⟨l, r, lc', h1, h2, h3, h4, h5, h6⟩ := hrow b hb
    refine ⟨l, r, lc', h2, h3, h4, h5, h6, ?_⟩
    by_cases e : l = fr
    · exact .inl e
    · exact .inr (by simp [e, h1])
  · simp only [hl, if_false] at hf
    split at hf
    · cases hf
    · exact hf
  · simp only [if_true] at hf
    obtain rfl := Option.some.inj hf
    exact ⟨lc, rset_at _ _ _, hnew, rfl, hpl⟩
theorem Sim.alloc (hs : Sim B w0 ρ w fh) (hfr : rat ρ fr = none) (d : Data) {cs : Array Value} {e : TypeId} {fz : Nat × Nat}
    (g : w.grownBy w' none) (hb : w'.heap[w.heap.size]? = some (.cells cs e fz)) (hz : Unf cs.size fz) (hl : d.flat.length ≤ cs.size)
    (hc : ∀ (i : Nat) (c : C), d.flat[i]? = some c → ∃ v, cs[i]? = some v ∧ CR ρ c v) :
    Sim B w0 (rset ρ fr ⟨w.heap.size, 0, cs.size, d.sz, true⟩) w' (fun k => if k = fr then some ⟨true, d⟩ else fh k) := by
  have := hs.fresh hfr g ⟨w.heap.size, 0, cs.size, d.sz, true⟩ d none (fun b hb => by cases hb) ⟨rfl, rfl, fun i c hi => ?_, fun _ => ⟨hl, .inr ⟨cs, e, fz, hb, hz, by simp⟩⟩⟩ (.inr (.inr (Nat.le_refl _)))
  · simpa using this
  · obtain ⟨v, h1, h2⟩ := hc i c hi
    refine ⟨v, ?_, h2.sub (rset_sub hfr)⟩
    simp [World.cell?, hb, h1]
theorem grown_push (w : World) (o : Obj) (n : Nat) : w.grownBy { w with heap := w.heap.push o, drawn := n } none :=
  ⟨rfl, rfl, rfl, by simp, fun k hk _ => by simp [Array.getElem?_push, Nat.ne_of_lt hk]⟩

/-! ### types -/
theorem TyOk.size {t : TypeId} {y : Ty} (h : TyOk P t y) (w : World) : (sizeOf t).run P w = .ok y.sz w := by
  obtain ⟨i, d, z, h1, h2, h3, h4, h5, h6, h7, h8, h9, h10⟩ := h.1
  simp [sizeOf, typeInfo, h1, h3]
theorem TyOk.und {t : TypeId} {y : Ty} (h : TyOk P t y) : ∃ d, P.underlying t = some d ∧ (match d with | .struct _ | .array _ _ => true | _ => false) = y.agg ∧
    (match y.k with | .int k => d = .int k | .str => d = .string | .bool => d = .bool | .sl e => d = .slice e | .st fs => ∃ gs, d = .struct gs ∧ gs.size = fs.length ∧ ∀ (j : Nat) (g : Field), gs[j]? = some g → ∃ q, P.info? g.type = some q ∧ fs[j]? = some (g.offset, q.size) ∧ aggT P g.type = some (!(Nat.beq q.size 1)) | .other => True) := by
  obtain ⟨i, d, z, h1, h2, h3, h4, h5, h6, h7, h8, h9, h10⟩ := h.1
  exact ⟨d, h2, h8, h9⟩
theorem TyOk.isAgg {t : TypeId} {y : Ty} (h : TyOk P t y) (w : World) : (isAgg t).run P w = .ok y.agg w := by
  obtain ⟨d, h1, h2, _⟩ := h.und
  rw [← h2]
  cases d <;> simp [Go.isAgg, run_underlying h1]
theorem TyOk.zero {t : TypeId} {y : Ty} (h : TyOk P t y) : ∃ z, (∀ w, (zeroValue t).run P w = .ok z w) ∧ z.cells.toList = y.zero.map C.val ∧ y.zero.all C.plain = true := by
  obtain ⟨i, d, z, h1, h2, h3, h4, h5, h6, h7, h8, h9, h10⟩ := h.1
  exact ⟨z, fun w => by simp [zeroValue, typeInfo, h1, h5], h6, h7⟩
theorem CR.plain {c : C} (h : c.plain = true) : CR ρ c c.val := by
  cases c <;> first | rfl | exact ⟨_, rfl⟩ | cases h
theorem CsR.plain : ∀ {cs : List C}, cs.all C.plain = true → CsR ρ cs (cs.map C.val)
  | [], _ => rfl
  | c :: r, h => by
    simp only [List.all_cons, Bool.and_eq_true] at h
    exact ⟨_, _, rfl, CR.plain h.1, CsR.plain h.2⟩

/-! ### operations that only reckon -/
theorem AVR.c {c : C} {v : Value} (h : AVR ρ (.v (.c c)) v) : CR ρ c v := h
theorem same_eq {a b : IntKind} (h : IntKind.same a b = true) : a = b := by cases a <;> cases b <;> first | rfl | cases h
theorem run_bool_equal {t : TypeId} (hu : P.underlying t = some .bool) (a b : Bool) (w : World) : (Op.equal t (.bool a) (.bool b)).run P w = .ok (a == b) w := by
  show (Op.equalIn (9999 + 1) t (.bool a) (.bool b)).run P w = _
  rw [Op.equalIn.eq_def]
  simp [run_underlying hu]
theorem run_bool_eql {t : TypeId} (hu : P.underlying t = some .bool) (a b : Bool) (w : World) : (binOp .eql t (.bool a) (.bool b)).run P w = .ok (.bool (a == b)) w := by
  have h : binOp .eql t (.bool a) (.bool b) = (do pure (.bool (← Op.equal t (.bool a) (.bool b))) : Sem Value) := rfl
  rw [h]
  simp [Sem.run_bind, run_bool_equal hu]
theorem run_bool_neq {t : TypeId} (hu : P.underlying t = some .bool) (a b : Bool) (w : World) : (binOp .neq t (.bool a) (.bool b)).run P w = .ok (.bool (!(a == b))) w := by
  have h : binOp .neq t (.bool a) (.bool b) = (do pure (.bool (!(← Op.equal t (.bool a) (.bool b)))) : Sem Value) := rfl
  rw [h]
  simp [Sem.run_bind, run_bool_equal hu]
theorem run_part1 {t : TypeId} {d : TypeDesc} (hu : P.underlying t = some d) (hd : (match d with | .struct _ | .array _ _ => true | _ => false) = false) {xs : Array Value} {j : Nat} {v : Value} (hx : xs[j]? = some v) (w : World) : (part t xs j).run P w = .ok v w := by
  have ha : (isAgg t).run P w = .ok false w := by
    rw [← hd]; cases d <;> simp [Go.isAgg, run_underlying hu]
  simp [part, Sem.run_bind, ha, hx]
theorem CsR.cons {c : C} {cs : List C} {l : List Value} (h : CsR ρ (c :: cs) l) : ∃ u r, l = u :: r ∧ CR ρ c u ∧ CsR ρ cs r := h
theorem drop_cons {xs : Array Value} {j : Nat} {u : Value} {r : List Value} (h : xs.toList.drop j = u :: r) : xs[j]? = some u ∧ xs.toList.drop (j + 1) = r := by
  have h1 : (xs.toList.drop j)[0]? = some u := by rw [h]; rfl
  rw [List.getElem?_drop, Nat.add_zero, Array.getElem?_toList] at h1
  refine ⟨h1, ?_⟩
  rw [← List.drop_drop, h]; rfl
theorem eqFields_sound (d : Nat) (xs ys : Array Value) (w : World) : ∀ (ks : List TK) (gs : List Field) (j : Nat) (cs ds : List C) (b : Bool), eqFs P gs ks j = true → eqT ks cs ds = some b → CsR ρ cs (xs.toList.drop j) → CsR ρ ds (ys.toList.drop j) →
    (Op.eqFields (d + 1) xs ys gs).run P w = .ok b w := by
  intro ks
  induction ks with
  | nil =>
    intro gs j cs ds b h1 h2 _ _
    cases gs with
    | cons g gs => simp [eqFs] at h1
    | nil =>
      cases cs <;> cases ds <;> simp only [eqT, Option.some.injEq, reduceCtorEq] at h2
      subst h2
      simp [Op.eqFields]
  | cons k ks ih =>
    intro gs j cs ds b h1 h2 hx hy
    cases gs with
    | nil => simp [eqFs] at h1
    | cons g gs =>
      simp only [eqFs, Bool.and_eq_true, Bool.not_eq_true'] at h1
      obtain ⟨hn, ho, hu, hr⟩ := h1
      have hn' : g.name ≠ "_" := by simpa using hn
      have ho' : g.offset = j := Nat.eq_of_beq_eq_true ho
      rw [Op.eqFields, if_pos hn', ho']
      unfold eqT at h2
      split at h2
      · rename_i e; cases e
      · rename_i k0 ks0 j1 a x k1 b' y e
        obtain ⟨rfl, rfl⟩ := List.cons.inj e
        split at h2 <;> first | (cases h2; done) | skip
        rename_i hk
        split at h2 <;> first | (cases h2; done) | skip
        rename_i r er
        obtain rfl := Option.some.inj h2
        obtain ⟨u, l1, e1, c1, hx'⟩ := hx.cons
        obtain ⟨v, l2, e2, c2, hy'⟩ := hy.cons
        obtain ⟨p1, q1⟩ := drop_cons e1
        obtain ⟨p2, q2⟩ := drop_cons e2
        obtain rfl : u = .int j1 a := c1
        obtain rfl : v = .int k1 b' := c2
        obtain rfl := same_eq hk
        split at hu <;> first | (cases hu; done) | skip
        · rename_i q hq _
          have hrest := ih gs (j + 1) x y r hr er (by rw [q1]; exact hx') (by rw [q2]; exact hy')
          simp only [Sem.run_bind, run_part1 hq rfl p1 w, run_part1 hq rfl p2 w, run_equalIn_int w d g.type j1 _ a b' hq, Result.andThen_ok]
          cases hab : (a == b') <;> simp [hrest]
        all_goals (rename_i hh; cases hh)
      · rename_i ks0 a x b' y e
        obtain ⟨rfl, rfl⟩ := List.cons.inj e
        split at h2 <;> first | (cases h2; done) | skip
        rename_i r er
        obtain rfl := Option.some.inj h2
        obtain ⟨u, l1, e1, c1, hx'⟩ := hx.cons
        obtain ⟨v, l2, e2, c2, hy'⟩ := hy.cons
        obtain ⟨p1, q1⟩ := drop_cons e1
        obtain ⟨p2, q2⟩ := drop_cons e2
        obtain rfl : u = .string a := c1
        obtain rfl : v = .string b' := c2
        split at hu <;> first | (cases hu; done) | skip
        · rename_i hh; cases hh
        · rename_i hq _
          have hrest := ih gs (j + 1) x y r hr er (by rw [q1]; exact hx') (by rw [q2]; exact hy')
          simp only [Sem.run_bind, run_part1 hq rfl p1 w, run_part1 hq rfl p2 w, run_equalIn_string w d g.type a b' hq, Result.andThen_ok, strEq]
          cases hab : (a.toList == b'.toList) <;> simp [hrest]
        · rename_i hh; cases hh
      · rename_i ks0 a x b' y e
        obtain ⟨rfl, rfl⟩ := List.cons.inj e
        split at h2 <;> first | (cases h2; done) | skip
        rename_i r er
        obtain rfl := Option.some.inj h2
        obtain ⟨u, l1, e1, c1, hx'⟩ := hx.cons
        obtain ⟨v, l2, e2, c2, hy'⟩ := hy.cons
        obtain ⟨p1, q1⟩ := drop_cons e1
        obtain ⟨p2, q2⟩ := drop_cons e2
        obtain rfl : u = .bool a := c1
        obtain rfl : v = .bool b' := c2
        split at hu <;> first | (cases hu; done) | skip
        · rename_i hh; cases hh
        · rename_i hh; cases hh
        · rename_i hq _
          have hrest := ih gs (j + 1) x y r hr er (by rw [q1]; exact hx') (by rw [q2]; exact hy')
          simp only [Sem.run_bind, run_part1 hq rfl p1 w, run_part1 hq rfl p2 w, run_equalIn_bool' w d g.type a b' hq, Result.andThen_ok]
          cases hab : (a == b') <;> simp [hrest]
      · cases h2
theorem eqE_sound {op : BinOp} {t : TypeId} {ks : List TK} {x y : AV} {c : C} (h : eqE op ks x y = some c) (he : EqOk P t ks) {vx vy : Value} (hx : AVR ρ x vx) (hy : AVR ρ y vy) (ox oy : Operand) (w : World) :
    ∃ v, (eqGuard op t ox oy vx vy).run P w = .ok () w ∧ (binOp op t vx vy).run P w = .ok v w ∧ CR ρ c v := by
  unfold eqE at h
  split at h <;> first | (cases h; done) | skip
  rename_i k ks cs ds
  obtain ⟨us, rfl, hcs⟩ := hx
  obtain ⟨vs, rfl, hds⟩ := hy
  have he' : eqB P t (k :: ks) = true := he
  unfold eqB at he'
  split at he' <;> first | (cases he'; done) | skip
  rename_i gs hu
  simp only [Bool.and_eq_true, Bool.not_eq_true'] at he'
  obtain ⟨h1, h2, h3⟩ := he'
  have hf : P.fieldsOf t = gs := by simp [Program.fieldsOf, hu]
  have hq : ∀ b, eqT (k :: ks) cs ds = some b → (Op.equalIn 10000 t (.agg us) (.agg vs)).run P w = .ok b w := by
    intro b hb
    show (Op.equalIn (9999 + 1) t (.agg us) (.agg vs)).run P w = _
    rw [run_equalIn_struct (P := P) w 9999 t us vs (by rw [hf]; exact hu) h1, hf]
    exact eqFields_sound 9998 us vs w (k :: ks) gs.toList 0 cs ds b h3 hb hcs hds
  split at h <;> first | (cases h; done) | skip
  · rename_i b hb
    obtain rfl := Option.some.inj h
    exact ⟨.bool b, run_eqGuard_agg w _ t ox oy us vs h2, by rw [run_eql_struct, hq b hb]; rfl, rfl⟩
  · rename_i b hb
    obtain rfl := Option.some.inj h
    exact ⟨.bool (!b), run_eqGuard_agg w _ t ox oy us vs h2, by rw [run_neq_struct, hq b hb]; rfl, rfl⟩
theorem bin_sound {op : BinOp} {x y : AV} {c : C} {ps : List Prop} {tk : TK} (h : binE op tk x y = some (c, ps)) (hp : allP ps) {vx vy : Value} (hx : AVR ρ x vx) (hy : AVR ρ y vy) (t : TypeId) (ht : tk.isBool = true → P.underlying t = some .bool) (w : World) :
    ∃ v, (binOp op t vx vy).run P w = .ok v w ∧ CR ρ c v := by
  unfold binE at h
  split at h
  · rename_i k a k' b
    obtain rfl : vx = .int k a := hx
    obtain rfl : vy = .int k' b := hy
    split at h
    · rename_i hsh
      cases op <;> simp only [isShift, Bool.false_eq_true] at hsh <;> simp only [shiftI, Option.some.injEq, Prod.mk.injEq] at h <;> obtain ⟨rfl, rfl⟩ := h
      all_goals
        have hb := hp.1
        refine ⟨_, ?_, rfl⟩
        have : ¬ b < 0 := by omega
        simp [binOp, Op.shift, this]
    · split at h
      · rename_i hsh hk
        obtain rfl := same_eq hk
        cases op <;> simp only [binI, Option.some.injEq, Prod.mk.injEq, reduceCtorEq] at h <;> first | cases h; done | skip
        all_goals obtain ⟨rfl, rfl⟩ := h
        all_goals first
          | (refine ⟨_, ?_, rfl⟩; (simp [binOp, Op.intArith]; done))
          | (refine ⟨_, ?_, rfl⟩; (simp [binOp, Op.intCmp]; done))
          | (refine ⟨_, ?_, rfl⟩; (simp [binOp, Op.intDiv, hp.1]; done))
          | (refine ⟨_, ?_, rfl⟩; (simp [binOp]; rfl))
      · cases h
  · rename_i a b
    obtain rfl : vx = .string a := hx
    obtain rfl : vy = .string b := hy
    cases op <;> simp only [binS, Option.some.injEq, Prod.mk.injEq, reduceCtorEq] at h <;> first | cases h; done | skip
    all_goals obtain ⟨rfl, rfl⟩ := h
    all_goals first
      | (refine ⟨_, ?_, rfl⟩; (simp [binOp, Op.stringOp, strEq, strLt]; done))
      | (have h1 := hp.1
         have h2 : ¬ (((a.size + b.size : Nat) : Int) > IntKind.i64.max) := by
           have : IntKind.i64.max = 9223372036854775807 := by decide
           omega
         refine ⟨_, ?_, rfl⟩
         simp only [binOp, Op.stringOp, if_neg h2]; rfl)
  · rename_i a b
    obtain rfl : vx = .bool a := hx
    obtain rfl : vy = .bool b := hy
    split at h
    · rename_i hk
      have hu := ht hk
      cases op <;> simp only [Option.some.injEq, Prod.mk.injEq, reduceCtorEq] at h <;> first | cases h; done | skip
      all_goals obtain ⟨rfl, rfl⟩ := h
      · exact ⟨_, run_bool_eql hu a b w, rfl⟩
      · exact ⟨_, run_bool_neq hu a b w, rfl⟩
    · cases h
  · cases h
end Go.Proofs.YtmodnnokcmabhaaGreat.Den
