/- The reckoner's steps: what an operation gives, what it writes, what it asks. -/
import Derived.Test.YtmodnnokcmabhaaGreatDenB
namespace Go.Proofs.YtmodnnokcmabhaaGreat.Den
open Go Go.RowKit

def C.val : C → Value
  | .int k n => .int k n
  | .bool b => .bool b
  | .str s => .string s
  | .nil => .slice none 0 0
  | _ => .tuple #[]
def C.plain : C → Bool
  | .int .. | .bool _ | .str _ | .nil => true
  | _ => false
def eqFs (P : Program) : List Field → List TK → Nat → Bool
  | [], [], _ => true
  | g :: gs, k :: ks, j => !(g.name == "_") && (Nat.beq g.offset j && ((match P.underlying g.type, k with
    | some (.int _), .int _ => true
    | some .string, .str => true
    | some .bool, .bool => true
    | _, _ => false) && eqFs P gs ks (j + 1)))
  | _, _, _ => false
/-- The struct's values may be compared, field by field, the fields of these kinds. -/
def eqB (P : Program) (t : TypeId) (ks : List TK) : Bool :=
  match P.underlying t with
  | some (.struct gs) => !P.stoodInHeld t && (!P.eqGuardType P.depth t && eqFs P gs.toList ks 0)
  | _ => false
/-- Whether a type's values are of several cells' kind. -/
def aggT (P : Program) (t : TypeId) : Option Bool := match P.underlying t with
  | some d => some (match d with | .struct _ | .array _ _ => true | _ => false)
  | none => none
def TyOk0 (P : Program) (t : TypeId) (y : Ty) : Prop :=
  ∃ i d z, P.info? t = some i ∧ P.underlying t = some d ∧ i.size = y.sz ∧ i.bytes = y.bytes ∧ i.zero = some z ∧ z.cells.toList = y.zero.map C.val ∧ y.zero.all C.plain = true ∧
    (match d with | .struct _ | .array _ _ => true | _ => false) = y.agg ∧
    (match y.k with
      | .int k => d = .int k
      | .str => d = .string
      | .bool => d = .bool
      | .sl e => d = .slice e
      | .st fs => ∃ gs, d = .struct gs ∧ gs.size = fs.length ∧ ∀ (j : Nat) (g : Field), gs[j]? = some g → ∃ q, P.info? g.type = some q ∧ fs[j]? = some (g.offset, q.size) ∧ aggT P g.type = some (!(Nat.beq q.size 1))
      | .other => True) ∧ y.zero.length = y.sz
def EqOk (P : Program) (t : TypeId) : List TK → Prop
  | [] => True
  | k :: ks => eqB P t (k :: ks) = true
def TyOk (P : Program) (t : TypeId) (y : Ty) : Prop := TyOk0 P t y ∧ EqOk P t y.eq
def TabOk (P : Program) (tb : TypeId → Option Ty) : Prop := ∀ t y, tb t = some y → TyOk P t y

/-- A call of f, at these values and rows, answers r, and leaves these rows. -/
def FnOk (P : Program) (f : FuncId) : Prop := ∃ fn, P.funcs[f]? = some fn ∧ (fn.name == "runtime.NumGoroutine") = false ∧ fn.body.isSome = true
def Spec (P : Program) (f : FuncId) (args : List AV) (h : Heap) (r : AV) (h' : Heap) : Prop :=
  FnOk P f ∧ ∀ (B : Nat → Prop) (w : World) (ρ : Rho) (vs : List Value), (∀ l, h.length ≤ l → rat ρ l = none) → Sim B w ρ w (hat h) → AVsR ρ args vs →
    Calls P f vs.toArray w fun e w' => ∃ ρ' v, e = .returned v ∧ Sim B w ρ' w' (hat h') ∧ AVR ρ' r v ∧ Sub ρ ρ'

structure Ef where
  v : AV
  u : List (Nat × Option Row)
  n : Nat
  rd : List Nat
  p : List Prop
def ef0 (v : AV) (p : List Prop) : Ef := ⟨v, [], 0, [], p⟩
def allP : List Prop → Prop
  | [] => True
  | p :: r => p ∧ allP r
def updF (fh : Nat → Option Row) : List (Nat × Option Row) → Nat → Option Row
  | [] => fh
  | (l, r) :: us => updF (fun k => if k = l then r else fh k) us
def int? : AV → Option (IntKind × Int)
  | .v (.c (.int k n)) => some (k, n)
  | _ => none
def byteAt (s : ByteArray) (i : Int) : Int := ((s.data.toList.getD i.toNat 0).toNat : Int)
def capsOf : List AV → Option (List (Nat × Nat × Nat))
  | [] => some []
  | .v (.c (.ptr l i j)) :: r => (capsOf r).map ((l, i, j) :: ·)
  | _ :: _ => none
def DK.isCells : DK → Bool
  | .none | .refs => true
  | _ => false
def Data.isCells : Data → Bool
  | .cells _ | .refs _ => true
  | _ => false

/-! ### calls -/
def argsIn (τ : Nat → Option Nat) (views : List Nat) (m : Nat) : Nat → List AV → List AV
  | _, [] => []
  | p, x :: xs => (match at? views p with
      | some q => (match x with
        | .v (.c (.sl _ _ len)) => one (.sl (m + q) 0 len)
        | _ => un)
      | none => x.ren τ) :: argsIn τ views m (p + 1) xs
def viewOf (fh : Nat → Option Row) (args : List AV) (p : Nat) : Option Row :=
  match (args[p]? : Option AV) with
  | some (.v (.c (.sl l off len))) => match fh l with
    | some r => if r.d.isCells then none else some ⟨false, r.d.win off len⟩
    | none => none
  | _ => none
def heapIn (fh : Nat → Option Row) (keep : List (Nat × Bool)) (views : List Nat) (args : List AV) : Heap :=
  let τ := at? (keep.map (·.1))
  keep.map (fun x => (fh x.1).map fun r => ⟨r.own && x.2, r.d.ren τ⟩) ++ views.map (viewOf fh args)
/-- A window that is passed read-only: part of a row (false), or the whole of it (true). -/
def viewW (fh : Nat → Option Row) (args : List AV) (x : Nat × Bool) : Option Row := match x.2 with
  | false => viewOf fh args x.1
  | true => match (args[x.1]? : Option AV) with
    | some (.v (.c (.sl l _ _))) => match fh l with
      | some r => if r.d.isCells then none else some ⟨false, r.d⟩
      | none => none
    | _ => none
def viewPs (fh : Nat → Option Row) (args : List AV) : List (Nat × Bool) → List Prop
  | [] => []
  | (_, false) :: r => viewPs fh args r
  | (p, true) :: r => (match (args[p]? : Option AV) with
    | some (.v (.c (.sl l off len))) => match fh l with
      | some r => [off = 0, len = r.d.len]
      | none => []
    | _ => []) ++ viewPs fh args r
def heapW (fh : Nat → Option Row) (keep : List (Nat × Bool)) (views : List (Nat × Bool)) (args : List AV) : Heap :=
  let τ := at? (keep.map (·.1))
  keep.map (fun x => (fh x.1).map fun r => ⟨r.own && x.2, r.d.ren τ⟩) ++ views.map (viewW fh args)
def outN (ro : List Nat) (keep : List (Nat × Bool)) (m n fr : Nat) (i : Nat) : Option Nat :=
  match (keep[i]? : Option (Nat × Bool)) with
  | some (l, true) => some l
  | some (l, false) => if ro.contains l then some l else none
  | none => if Nat.blt i m then none else if Nat.blt i (m + n) then some (fr + (i - m)) else none
/-- Rows that are ours to read alone, and are passed so. -/
def roOf (fh : Nat → Option Row) : List (Nat × Bool) → List Nat
  | [] => []
  | (l, _) :: r => match fh l with
    | some ⟨false, _⟩ => l :: roOf fh r
    | _ => roOf fh r
def keepOut (τ : Nat → Option Nat) (h : Heap) : Nat → List (Nat × Bool) → List (Nat × Option Row)
  | _, [] => []
  | i, (l, true) :: r => (l, (hat h i).map (Row.ren τ)) :: keepOut τ h (i + 1) r
  | i, (_, false) :: r => keepOut τ h (i + 1) r
def newOut (τ : Nat → Option Nat) : Nat → Heap → List (Nat × Option Row)
  | _, [] => []
  | fr, some ⟨true, d⟩ :: t => (fr, some ⟨true, d.ren τ⟩) :: newOut τ (fr + 1) t
  | fr, _ :: t => (fr, none) :: newOut τ (fr + 1) t
def keepOk (fh : Nat → Option Row) : List (Nat × Bool) → Bool
  | [] => true
  | (l, wr) :: r => (match fh l with
    | some ⟨o, _⟩ => !wr || o
    | none => false) && keepOk fh r
def nodupB : List Nat → Bool
  | [] => true
  | k :: ks => !ks.contains k && nodupB ks
def viewLocs (args : List AV) (views : List Nat) : List Nat := views.filterMap fun p => match (args[p]? : Option AV) with
  | some (.v (.c (.sl l _ _))) => some l
  | _ => none
def viewOk (keep : List (Nat × Bool)) (ls : List Nat) : Bool := ls.all fun l => keep.all fun x => !(x.2 && x.1 == l)
def aCall (sp : FuncId → List AV → Heap → AV → Heap → Prop) (f : FuncId) (args : List AV) (as : List Ans) (fr : Nat) (fh : Nat → Option Row) : Option (Ef × List Ans) :=
  match as with
  | .call keep views r h' :: as =>
    let m := keep.length + views.length
    let n := h'.length - m
    let τ := outN (roOf fh keep) keep m n fr
    if nodupB (keep.map (·.1)) && keepOk fh keep && viewOk keep (viewLocs args (views.map (·.1))) && Nat.ble m h'.length then
      some (⟨r.ren τ, keepOut τ h' 0 keep ++ newOut τ fr (h'.drop m), n, keep.map (·.1) ++ viewLocs args (views.map (·.1)),
        sp f (argsIn (at? (keep.map (·.1))) (views.map (·.1)) keep.length 0 args) (heapW fh keep views args) r h' :: viewPs fh args views⟩, as)
    else none
  | _ => none

/-! ### appends -/
def srcOf (dk : DK) (fh : Nat → Option Row) (x : AV) (as : List Ans) : Option (Data × List Nat × List Prop × List Ans) :=
  match x, as with
  | .v (.c (.str s)), as => some (.ints .u8 (bytesL s), [], [], as)
  | .v (.c .nil), as => (Data.nilOf dk).map (·, [], [], as)
  | .v (.c (.sl l off len)), .br true :: as => match fh l with
    | some r => if r.d.isCells then none else some (r.d, [l], [off = 0, len = r.d.len], as)
    | none => none
  | .v (.c (.sl l off len)), .br false :: as => match fh l with
    | some r => if r.d.isCells then none else some (r.d.win off len, [l], [off + len ≤ r.d.len], as)
    | none => none
  | _, _ => none
def Data.kindIs : Data → DK → Bool
  | .ints k _, .ints k' => IntKind.same k k'
  | .strs _, .strs | .bools _, .bools | .puts _, .puts | .acts _, .acts => true
  | _, _ => false
/-- 'cut': what stands behind a window is let go. -/
def cutD (d : Data) (len : Nat) : List Ans → Data
  | .cut :: _ => d.win 0 len
  | _ => d
def cutP (d : Data) (len : Nat) : List Ans → Prop
  | .cut :: _ => len ≤ d.len
  | _ => len = d.len
def cutA : List Ans → List Ans
  | .cut :: as => as
  | as => as
theorem cutD_or (d : Data) (len : Nat) (as : List Ans) : (cutD d len as = d.win 0 len ∧ cutP d len as = (len ≤ d.len)) ∨ (cutD d len as = d ∧ cutP d len as = (len = d.len)) := by
  unfold cutD cutP
  split
  · exact .inl ⟨rfl, rfl⟩
  · exact .inr ⟨rfl, rfl⟩
def aAppend (y : Ty) (s x : AV) (as : List Ans) (fr : Nat) (fh : Nat → Option Row) : Option (Ef × List Ans) :=
  match s with
  | .v (.c .nil) => match Data.nilOf y.dk, srcOf y.dk fh x as with
    | some _, some (dx, rd, ps, as) => if dx.kindIs y.dk && Nat.beq y.sz dx.sz then some (⟨one (.sl fr 0 dx.len), [(fr, some ⟨true, dx⟩)], 1, rd, (dx.len * y.bytes ≤ 70368744177664) :: ps⟩, as) else none
    | _, _ => none
  | .v (.c (.sl l off len)) => match fh l with
    | some ⟨true, d⟩ => match srcOf y.dk fh x as with
      | some (dx, rd, ps, as) => if Nat.beq y.sz d.sz && Nat.beq y.sz dx.sz then match (cutD d len as).app dx with
          | some d' => some (⟨one (.sl fr 0 d'.len), [(l, none), (fr, some ⟨true, d'⟩)], 1, l :: rd, (off = 0) :: cutP d len as :: (d'.len * y.bytes ≤ 70368744177664) :: ps⟩, cutA as)
          | none => none
        else none
      | none => none
    | _ => none
  | _ => none
def isSl (tb : TypeId → Option Ty) (ts : Array TypeId) : Bool := match ts.toList with
  | t :: _ => match tb t with
    | some ⟨_, _, _, _, _, _, .sl _, _⟩ => true
    | _ => false
  | [] => false
def isStr (tb : TypeId → Option Ty) (ts : Array TypeId) : Bool := match ts.toList with
  | t :: _ => match tb t with
    | some ⟨_, _, _, _, _, _, .str, _⟩ => true
    | _ => false
  | [] => false
/-- append(nil, make([]T, n)...) -/
def aZeros (tb : TypeId → Option Ty) (ts : Array TypeId) (n : Int) (as : List Ans) (fr : Nat) : Option (Ef × List Ans) :=
  match ts.toList with
  | [t, u] => match tb t, tb u with
    | some yt, some yu => match yt.k, yu.k with
      | .sl e, .int .i64 => match tb e with
        | some y => match Data.rep n.toNat y.dk y.zero with
          | some d => if Nat.beq y.bytes 0 then none else some (⟨one (.sl fr 0 d.len), [(fr, some ⟨true, d⟩)], 1, [], [0 < n, n * (y.bytes : Int) ≤ 70368744177664]⟩, as)
          | none => none
        | none => none
      | _, _ => none
    | _, _ => none
  | _ => none
def aCopy (tb : TypeId → Option Ty) (ts : Array TypeId) (l off len l2 off2 len2 : Nat) (as : List Ans) (fh : Nat → Option Row) : Option (Ef × List Ans) :=
  match ts.toList with
  | [t, _] => match tb t with
    | some yt => match yt.k with
      | .sl e => match tb e, fh l, fh l2, as with
        | some y, some ⟨true, d⟩, some r2, .br b :: as => match d.over off r2.d off2 (cond b len2 len) with
          | some d' => if Nat.beq y.sz 1 then some (⟨one (.int .i64 ((cond b len2 len : Nat) : Int)), [(l, some ⟨true, d'⟩)], 0, [l, l2], [cond b (len2 ≤ len) (len ≤ len2), off + len ≤ d.len, off2 + len2 ≤ r2.d.len]⟩, as) else none
          | none => none
        | _, _, _, _ => none
      | _ => none
    | none => none
  | _ => none
def minI (a b : Int) : Int := if b < a then b else a
def maxI (a b : Int) : Int := if a < b then b else a
def aBuiltin (tb : TypeId → Option Ty) (b : Builtin) (ts : Array TypeId) (args : List AV) (as : List Ans) (fr : Nat) (fh : Nat → Option Row) : Option (Ef × List Ans) :=
  match b, args with
  | .len, [.v (.c (.sl _ _ len))] => if isSl tb ts then some (ef0 (one (.int .i64 (len : Int))) [], as) else none
  | .len, [.v (.c (.str s))] => if isStr tb ts then some (ef0 (one (.int .i64 (s.size : Int))) [], as) else none
  | .len, [.v (.c .nil)] => if isSl tb ts then some (ef0 (one (.int .i64 0)) [], as) else none
  | .cap, [.v (.c .nil)] => if isSl tb ts then some (ef0 (one (.int .i64 0)) [], as) else none
  | .append, [.v (.c .nil), .v (.c (.int .i64 n))] => aZeros tb ts n as fr
  | .append, [s, x] => match ts.toList with
    | [t, u] => match tb t with
      | some yt => match yt.k with
        | .sl e => match tb e with
          | some y => if y.dk.isCells || !(isSl tb #[u] || isStr tb #[u]) || Nat.beq y.bytes 0 then none else aAppend y s x as fr fh
          | none => none
        | _ => none
      | none => none
    | _ => none
  | .min, [.v (.c (.int .i64 a)), .v (.c (.int .i64 b))] => some (ef0 (one (.int .i64 (minI a b))) [], as)
  | .max, [.v (.c (.int .i64 a)), .v (.c (.int .i64 b))] => some (ef0 (one (.int .i64 (maxI a b))) [], as)
  | .copy, [.v (.c (.sl l off len)), .v (.c (.sl l2 off2 len2))] => aCopy tb ts l off len l2 off2 len2 as fh
  | _, _ => none

/-! ### conversions, slices -/
def aConvert (ys yd : Ty) (tb : TypeId → Option Ty) (same : Bool) (x : AV) (as : List Ans) (fr : Nat) (fh : Nat → Option Row) : Option (Ef × List Ans) :=
  match x, ys.k, yd.k with
  | .v (.c (.int _ n)), _, .int k => some (ef0 (one (.int k (k.wrap n))) [], as)
  | .v (.c (.str s)), _, .str => some (ef0 (one (.str s)) [], as)
  | .v (.c (.str s)), .str, .sl e => match tb e with
    | some ⟨_, _, _, _, _, _, .int .u8, _⟩ => some (⟨one (.sl fr 0 (bytesL s).length), [(fr, some ⟨true, .ints .u8 (bytesL s)⟩)], 1, [], []⟩, as)
    | _ => none
  | .v (.c .nil), .sl e, .str => match tb e with
    | some ⟨_, _, _, _, _, _, .int .u8, _⟩ => some (ef0 (one (.str noVal)) [], as)
    | _ => none
  | .v (.c (.sl l off len)), .sl e, .str => match tb e, as, fh l with
    | some ⟨_, _, _, _, _, _, .int .u8, _⟩, .br true :: as, some ⟨_, .ints .u8 L⟩ => some (⟨one (.str (ofBytes L)), [], 0, [l], [off = 0, len = L.length]⟩, as)
    | some ⟨_, _, _, _, _, _, .int .u8, _⟩, .br false :: as, some ⟨_, .ints .u8 L⟩ => some (⟨one (.str (ofBytes ((L.drop off).take len))), [], 0, [l], [off + len ≤ L.length]⟩, as)
    | _, _, _ => none
  | .v (.c (.sl l _ len)), .sl e, .sl _ => match same, tb e, fh l with
    | true, some ⟨_, _, _, _, _, _, .int .u8, _⟩, some ⟨true, d⟩ => if d.isCells then none else some (⟨x, [(l, some ⟨true, d⟩)], 0, [l], [0 < len]⟩, as)
    | _, _, _ => none
  | _, _, _ => none
def bound? (ev : Operand → AV) : Option Operand → Option (Option Int)
  | none => some none
  | some x => match ev x with
    | .v (.c (.int _ n)) => some (some n)
    | _ => none
def szIs (tb : TypeId → Option Ty) (fh : Nat → Option Row) (e : TypeId) (l : Nat) : Bool := match tb e, fh l with
  | some y, some r => Nat.beq y.sz r.d.sz
  | _, _ => false
/-- 'rew': a part of a row of ours is a row of its own; the rest is let go. -/
def aRew (tb : TypeId → Option Ty) (fh : Nat → Option Row) (e : TypeId) (k off len : Nat) (l h : Int) (as : List Ans) (fr : Nat) : Option (Ef × List Ans) :=
  match fh k with
  | some ⟨true, d⟩ => if d.isCells || !szIs tb fh e k then none else some (⟨one (.sl fr 0 (d.win (addO off l.toNat) (h.toNat - l.toNat)).len), [(k, none), (fr, some ⟨true, d.win (addO off l.toNat) (h.toNat - l.toNat)⟩)], 1, [k], [0 ≤ l, l ≤ h, h ≤ (len : Int), off + len ≤ d.len]⟩, as)
  | _ => none
def isRew : List Ans → Bool
  | .rew :: _ => true
  | _ => false
def aSlice (tb : TypeId → Option Ty) (fh : Nat → Option Row) (fr : Nat) (tk : TK) (x : AV) (lo hi mx : Option Int) (as : List Ans) : Option (Ef × List Ans) :=
  match tk, x, mx with
  | .str, .v (.c (.str s)), none => let l := lo.getD 0; let h := hi.getD (s.size : Int)
    some (ef0 (one (.str (s.extract l.toNat h.toNat))) [0 ≤ l, l ≤ h, h ≤ (s.size : Int)], as)
  | .sl e, .v (.c (.sl k off len)), none => let l := lo.getD 0; let h := hi.getD (len : Int)
    if isRew as then aRew tb fh e k off len l h as.tail fr else if szIs tb fh e k then some (⟨one (.sl k (addO off l.toNat) (h.toNat - l.toNat)), [], 0, [k], [0 ≤ l, l ≤ h, h ≤ (len : Int)]⟩, as) else none
  | .sl _, .v (.c .nil), none => let l := lo.getD 0; let h := hi.getD 0
    some (ef0 (one .nil) [l = 0, h = 0], as)
  | .sl e, .v (.c (.sl k off len)), some m => let l := lo.getD 0
    match hi, as with
    | some h, .br true :: as => some (ef0 (one .nil) [0 ≤ l, l = h, h = m, m ≤ (len : Int)], as)
    | some h, .br false :: as => if szIs tb fh e k then some (⟨one (.sl k (addO off l.toNat) (h.toNat - l.toNat)), [], 0, [k], [0 ≤ l, l ≤ h, h ≤ m, m ≤ (len : Int)]⟩, as) else none
    | _, _ => none
  | .sl _, .v (.c .nil), some m => let l := lo.getD 0
    match hi with
    | some h => some (ef0 (one .nil) [l = 0, h = 0, m = 0], as)
    | none => none
  | _, _, _ => none

def nkOf (tb : TypeId → Option Ty) (t : TypeId) : List DK := match tb t with
  | some y => y.nk
  | none => []
def tkOk (tb : TypeId → Option Ty) : TK → Bool
  | .sl e => (tb e).isSome
  | _ => true
/-- 'asis': nil slices stay as they are. -/
def kindsOf (tb : TypeId → Option Ty) (ts : Array TypeId) : List Ans → List (List DK)
  | .asis :: _ => []
  | _ => ts.toList.map (nkOf tb)
def dropAsis : List Ans → List Ans
  | .asis :: as => as
  | as => as
/-- 's == nil', of a slice that may be nil. -/
def nilE (op : BinOp) (tk : TK) (x : AV) (y : Operand) : Option C :=
  match op, tk, x, y with
  | .eql, .sl _, .v (.c (.sl _ _ n)), .const (.slice none 0 0) => some (.nilq n)
  | _, _, _, _ => none
def refsOk (dk : DK) : Bool := match dk with
  | .refs => true
  | _ => false
/-- A call of a function of the program: nil slices among the arguments are rows without an element. -/
def aGo (tb : TypeId → Option Ty) (sp : FuncId → List AV → Heap → AV → Heap → Prop) (ts : Array TypeId) (args : List AV) (f : AV) (as : List Ans) (fr : Nat) (fh : Nat → Option Row) : Option (Ef × List Ans) :=
  match f with
  | .v (.c (.fn g caps)) =>
    match denilA (kindsOf tb ts as) fr (args ++ caps.map fun x => one (.ptr x.1 x.2.1 x.2.2)) with
    | (xs, u) => match aCall sp g xs (dropAsis as) (fr + u.length) (updF fh u) with
      | some (ef, as) => some (⟨ef.v, u ++ ef.u, u.length + ef.n, ef.rd, ef.p⟩, as)
      | none => none
  | _ => none
def aop (tb : TypeId → Option Ty) (sp : FuncId → List AV → Heap → AV → Heap → Prop) (o : Op) (as : List Ans) (fr : Nat) (ev : Operand → AV) (fh : Nat → Option Row) : Option (Ef × List Ans) :=
  match o with
  | .move x => some (ef0 (ev x) [], as)
  | .assign x => some (ef0 (ev x) [], as)
  | .pick c a b => match ev c, as with
    | .v (.c (.bool t)), .br true :: as => some (ef0 (ev a) [t = true], as)
    | .v (.c (.bool t)), .br false :: as => some (ef0 (ev b) [t = false], as)
    | _, _ => none
  | .alloc e => match tb e with
    | some y => let r := denil y.nk (fr + 1) y.zero
      some (⟨one (.ptr fr 0 0), r.2 ++ [(fr, some ⟨true, .cells r.1⟩)], 1 + r.2.length, [], []⟩, as)
    | none => none
  | .box e x => match tb e, (ev x).cells with
    | some y, some cs => let r := denil y.nk (fr + 1) cs
      if cs.any C.isUndef then none else some (⟨one (.ptr fr 0 0), r.2 ++ [(fr, some ⟨true, .cells r.1⟩)], 1 + r.2.length, [], []⟩, as)
    | _, _ => none
  | .build t parts => match tb t with
    | some y => match y.k with
      | .st fs => match fillC fs y.zero (parts.toList.map fun p => (p.1, ev p.2)) with
        | some cs => some (ef0 (.v (.agg cs)) [], as)
        | none => none
      | _ => none
    | none => none
  | .buildSlice t n parts => match tb t with
    | some yt => match yt.k with
      | .sl e => match tb e with
        | some y => if refsOk y.dk then match litR (parts.toList.map fun p => ev p.2) with
            | some cs => if Nat.beq n parts.toList.length && (parts.toList.map (·.1) == List.range n) && Nat.ble n 1000000 && Nat.beq y.sz 1 then some (⟨one (.sl fr 0 cs.length), [(fr, some ⟨true, .refs cs⟩)], 1, [], []⟩, as) else none
            | none => none
          else match lit y.dk (parts.toList.map fun p => ev p.2) with
          | some d => if Nat.beq n parts.toList.length && (parts.toList.map (·.1) == List.range n) && Nat.ble n 1000000 && Nat.beq y.sz d.sz then some (⟨one (.sl fr 0 d.len), [(fr, some ⟨true, d⟩)], 1, [], []⟩, as) else none
          | none => none
        | none => none
      | _ => none
    | none => none
  | .load t a => match tb t, ev a with
    | some y, .v (.c (.ptr l i j)) => match fh l with
      | some r => match y.agg with
        | true => (r.d.gets i j y.sz).map fun x => (⟨.v (.agg x.1), [], 0, [l], x.2⟩, as)
        | false => (r.d.get i j).map fun x => (⟨one x.1, [], 0, [l], x.2⟩, as)
      | none => none
    | _, _ => none
  | .store t a x => match tb t, ev a, ev x with
    | some y, .v (.c (.ptr l i j)), .v (.c c) => match fh l with
      | some ⟨true, d⟩ => if Nat.beq y.sz 1 then match denil y.nk fr [c] with
          | ([c'], u) => (d.put i j c').map fun z => (⟨.tup [], u ++ [(l, some ⟨true, z.1⟩)], u.length, [l], z.2⟩, as)
          | _ => none
        else none
      | _ => none
    | some y, .v (.c (.ptr l i j)), .v (.agg cs) => match fh l with
      | some ⟨true, d⟩ => let r := denil y.nk fr cs
        if Nat.beq y.sz cs.length then (d.puts' i j r.1).map fun z => (⟨.tup [], r.2 ++ [(l, some ⟨true, z.1⟩)], r.2.length, [l], z.2⟩, as) else none
      | _ => none
    | _, _, _ => none
  | .nilCheck x => match ev x with
    | .v (.c (.ptr l i j)) => some (ef0 (one (.ptr l i j)) [], as)
    | _ => none
  | .binOp op t x y _ => match tb t with
    | some yt => match nilE op yt.k (ev x) y with
      | some c => some (ef0 (one c) [], as)
      | none => match binE op yt.k (ev x) (ev y) with
        | some (c, ps) => some (ef0 (one c) ps, as)
        | none => match eqE op yt.eq (ev x) (ev y) with
          | some c => some (ef0 (one c) [], as)
          | none => none
    | none => none
  | .unOp .not _ x => match ev x with
    | .v (.c (.bool b)) => some (ef0 (one (.bool (!b))) [], as)
    | _ => none
  | .convert s d x => match tb s, tb d with
    | some ys, some yd => aConvert ys yd tb (Nat.beq s d) (ev x) as fr fh
    | _, _ => none
  | .makeFunc (.func f) first captured => match first.toList, capsOf (captured.toList.map ev) with
    | [], some caps => some (ef0 (one (.fn f caps)) [], as)
    | _, _ => none
  | .makeSlice t l c => match tb t, ev l, ev c with
    | some yt, .v (.c (.int .i64 n)), .v (.c (.int .i64 m)) => match yt.k with
      | .sl e => match tb e with
        | some y => match Data.rep n.toNat y.dk y.zero with
          | some d => if Nat.beq y.bytes 0 then none else some (⟨one (.sl fr 0 d.len), [(fr, some ⟨true, d⟩)], 1, [], [0 ≤ n, n = m, n * (y.bytes : Int) ≤ 70368744177664]⟩, as)
          | none => none
        | none => none
      | _ => none
    | _, _, _ => none
  | .slice t x lo hi mx => match tb t with
    | some yt => match tkOk tb yt.k, bound? ev lo, bound? ev hi, bound? ev mx with
      | true, some lo, some hi, some mx => aSlice tb fh fr yt.k (ev x) lo hi mx as
      | _, _, _, _ => none
    | none => none
  | .fieldAddr s x f => match tb s, ev x with
    | some y, .v (.c (.ptr l i j)) => match y.k with
      | .st fs => match fs[f]? with
        | some (off, n) => if Nat.beq n 0 then none else some (ef0 (one (.ptr l i (j + off))) [], as)
        | none => none
      | _ => none
    | _, _ => none
  | .indexAddr t x ix => match tb t, ev x, ev ix with
    | some yt, .v (.c (.sl l off len)), .v (.c (.int _ i)) => match yt.k, fh l with
      | .sl e, some r => match tb e with
        | some y => if Nat.beq y.sz r.d.sz then some (⟨one (.ptr l (addO off i.toNat) 0), [], 0, [l], [0 ≤ i, i < (len : Int)]⟩, as) else none
        | none => none
      | _, _ => none
    | _, _, _ => none
  | .index t x ix => match ev x, ev ix with
    | .v (.c (.str s)), .v (.c (.int _ i)) => if isStr tb #[t] then some (ef0 (one (.int .u8 (byteAt s i))) [0 ≤ i, i < (s.size : Int)], as) else none
    | _, _ => none
  | .extract x i => match ev x with
    | .tup vs => match vs[i]? with
      | some v => some (ef0 (.v v) [], as)
      | none => none
    | _ => none
  | .field t x f => match tb t, ev x with
    | some y, .v (.agg cs) => match y.k with
      | .st fs => match fs[f]? with
        | some (off, n) => match Nat.beq n 1 with
          | true => match cs[off]? with
            | some c => some (ef0 (one c) [], as)
            | none => none
          | false => match Nat.ble (off + n) cs.length with
            | true => some (ef0 (.v (.agg ((cs.drop off).take n))) [], as)
            | false => none
        | none => none
      | _ => none
    | _, _ => none
  | .call c => match c.callee with
    | .builtin b => aBuiltin tb b c.argTypes (c.args.toList.map ev) as fr fh
    | .value f => aGo tb sp c.argTypes (c.args.toList.map ev) (ev f) as fr fh
    | _ => none
  | _ => none
end Go.Proofs.YtmodnnokcmabhaaGreat.Den
