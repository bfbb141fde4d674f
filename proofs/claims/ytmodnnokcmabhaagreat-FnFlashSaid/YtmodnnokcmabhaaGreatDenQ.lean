/- The reckoner over a function's text: regions, branches, loops. -/
import Derived.Test.YtmodnnokcmabhaaGreatDenP
namespace Go.Proofs.YtmodnnokcmabhaaGreat.Den
open Go Go.RowKit
set_option linter.unusedSimpArgs false
set_option linter.unusedVariables false

/-- What one operation does. -/
structure Rec where
  d : Option Nat
  v : AV
  u : List (Nat × Option Row)
  rd : List Nat
  ts : List Nat
  n : Nat
def tsOf (o : Op) : List Nat := o.operands.toList.filterMap fun
  | .tmp t => some t
  | _ => none
abbrev SP := FuncId → List AV → Heap → AV → Heap → Prop
def runRec (tb : TypeId → Option Ty) (sp : SP) (o : Oper) (fr : Nat) (ev : Nat → AV) (fh : Nat → Option Row) (g : List Nat) (ps : List Prop) (as : List Ans) : Option (Rec × List Ans × List Prop) :=
  match aop tb sp o.op as fr (ofF ev) fh with
  | some (ef, as) => some (⟨o.dst, ef.v, ef.u, ef.rd, g ++ tsOf o.op, ef.n⟩, as, ps ++ ef.p)
  | none => none
def opRec (tb : TypeId → Option Ty) (sp : SP) (ops : List Oper) (o : Oper) (fr : Nat) (ev : Nat → AV) (fh : Nat → Option Row) (as : List Ans) : Option (Rec × List Ans × List Prop) :=
  match o.guard with
  | none => runRec tb sp o fr ev fh [] [] as
  | some (j, want) => match (ops[j]?).bind (·.dst) with
    | some d => match ev d, as with
      | .v (.c (.bool b)), .br true :: as => match want with
        | true => runRec tb sp o fr ev fh [d] [b = true] as
        | false => some (⟨o.dst, .tup [], [], [], [d], 0⟩, as, [b = true])
      | .v (.c (.bool b)), .br false :: as => match want with
        | true => some (⟨o.dst, .tup [], [], [], [d], 0⟩, as, [b = false])
        | false => runRec tb sp o fr ev fh [d] [b = false] as
      | .tup [], as => some (⟨o.dst, .tup [], [], [], [d], 0⟩, as, [])
      | _, _ => none
    | none => none
def setD (env : List AV) : Option Nat → AV → List AV
  | some d, v => env.set d v
  | none, _ => env
def setU : Heap → List (Nat × Option Row) → Heap
  | h, [] => h
  | h, (l, r) :: u => setU (h.set l r) u
def pad (h : Heap) (n : Nat) : Heap := match n with
  | 0 => h
  | n + 1 => h ++ List.replicate (n + 1) none
def seqRun (tb : TypeId → Option Ty) (sp : SP) (ops : List Oper) : List Oper → St → List Ans → Option (St × List Ans × List Prop)
  | [], s, as => some (s, as, [])
  | o :: rest, s, as => match opRec tb sp ops o s.h.length (eat s.env) (hat s.h) as with
    | some (r, as, ps) => match seqRun tb sp ops rest ⟨setD s.env r.d r.v, setU (pad s.h r.n) r.u⟩ as with
      | some (s, as, qs) => some (s, as, ps ++ qs)
      | none => none
    | none => none
def inEnv (d : Option Nat) (env : List AV) : Bool := match d with
  | some d => Nat.blt d env.length
  | none => true
/-- A region whose order is drawn: each operation has eight places of its own. -/
def drawRun (tb : TypeId → Option Ty) (sp : SP) (ops : List Oper) (n0 : Nat) : Nat → List Oper → St → List Ans → Option (List Rec × St × List Ans × List Prop)
  | _, [], s, as => some ([], s, as, [])
  | i, o :: rest, s, as => match opRec tb sp ops o (n0 + 8 * i) (eat s.env) (hat s.h) as with
    | some (r, as, ps) =>
      if Nat.ble r.n 8 && inEnv r.d s.env && r.u.all (fun x => Nat.blt x.1 s.h.length) then match drawRun tb sp ops n0 (i + 1) rest ⟨setD s.env r.d r.v, setU s.h r.u⟩ as with
        | some (rs, s, as, qs) => some (r :: rs, s, as, ps ++ qs)
        | none => none
      else none
    | none => none
/-- Which operations must stand before one. -/
def needs (o : Oper) : List Nat := o.after.toList.filterMap fun e => if Region.binds .any e then some e.on else none
def ancs : List Oper → List Nat → List Nat
  | [], acc => acc
  | o :: rest, acc => ancs rest (acc ++ [(needs o).foldl (fun s j => s ||| 2 ^ j ||| acc.getD j 0) 0])
def apartD : Option Nat → List Nat → Bool
  | some d, ts => !ts.contains d
  | none, _ => true
def calm (a b : Rec) : Bool :=
  apartD a.d b.ts && apartD b.d a.ts && apartD a.d b.d.toList &&
  a.u.all (fun x => !b.rd.contains x.1 && b.u.all fun y => !(Nat.beq x.1 y.1)) && b.u.all fun y => !a.rd.contains y.1
def calmAll (rs : List Rec) (an : List Nat) : Bool :=
  (List.range rs.length).all fun j => (List.range j).all fun i => (an.getD j 0).testBit i || match rs[i]?, rs[j]? with
    | some a, some b => calm a b
    | _, _ => false
def needsOk (ops : List Oper) : Bool := (List.range ops.length).all fun i => match ops[i]? with
  | some o => (needs o).all fun j => Nat.blt j i
  | none => false
def normEnv (τ : Nat → Option Nat) (slots : List Nat) : Nat → List AV → List AV
  | _, [] => []
  | i, x :: xs => (if slots.contains i then x.ren τ else un) :: normEnv τ slots (i + 1) xs
def normHeap (keep : List Nat) (h : Heap) : Heap := keep.map fun l => (hat h l).map (Row.ren (at? keep))
def norm0 (slots keep : List Nat) (s : St) : St := ⟨normEnv (at? keep) slots 0 s.env, normHeap keep s.h⟩
/-- A place under a new name: l is called n. -/
def mvT (l n k : Nat) : Option Nat := match Nat.beq k l with
  | true => some n
  | false => some k
def moveSt (l : Nat) (s : St) : St := ⟨s.env.map (AV.ren (mvT l s.h.length)), (s.h.set l none).map (Option.map (Row.ren (mvT l s.h.length))) ++ [(hat s.h l).map (Row.ren (mvT l s.h.length))]⟩
def dropSt (l : Nat) (s : St) : St := ⟨s.env, s.h.set l none⟩
/-- nil slices in these slots: rows without an element; 1000000 + l: the place l gets a new name; 2000000 + l: nothing is told of the place l. -/
def denilSt : List (Nat × List DK) → St → St
  | [], s => s
  | (t, ks) :: r, s => match Nat.ble 1000000 t with
    | true => match Nat.ble 2000000 t with
      | true => denilSt r (dropSt (t - 2000000) s)
      | false => denilSt r (moveSt (t - 1000000) s)
    | false => match eat s.env t with
      | .v x => match denilV ks s.h.length x with
        | (y, u) => denilSt r ⟨s.env.set t (.v y), setU (pad s.h u.length) u⟩
      | .tup _ => denilSt r s
def normSt (nils : List (Nat × List DK)) (slots keep : List Nat) (s : St) : St := norm0 slots keep (denilSt nils s)
def preOk (m0 : Nat) (keep : List Nat) : Bool := (keep.take m0 == List.range m0) && nodupB keep
abbrev LSP := Code → St → AExit → St → Prop
def AExit.isNorm : AExit → Bool
  | .norm => true
  | _ => false
def exec (tb : TypeId → Option Ty) (sp : SP) (lsp : LSP) (m0 : Nat) : Code → St → List Ans → Option (AExit × St × List Ans × List Prop)
  | .skip, s, as => some (.norm, s, as, [])
  | .exit id, s, as => some (.exit id, s, as, [])
  | .ret, s, as => some (.ret, s, as, [])
  | .seq a b, s, as => match exec tb sp lsp m0 a s as with
    | some (.norm, s, as, ps) => match exec tb sp lsp m0 b s as with
      | some (e, s, as, qs) => some (e, s, as, ps ++ qs)
      | none => none
    | r => r
  | .cond c x y, s, as => match ofF (eat s.env) c, as with
    | .v (.c (.bool b)), .br true :: as => match exec tb sp lsp m0 x s as with
      | some (e, s, as, ps) => some (e, s, as, (b = true) :: ps)
      | none => none
    | .v (.c (.bool b)), .br false :: as => match exec tb sp lsp m0 y s as with
      | some (e, s, as, ps) => some (e, s, as, (b = false) :: ps)
      | none => none
    | _, _ => none
  | .block id c, s, as => match exec tb sp lsp m0 c s as with
    | some (.exit k, s, as, ps) => if Nat.beq k id then some (.norm, s, as, ps) else some (.exit k, s, as, ps)
    | r => r
  | .loop c, s, as => match as with
    | .loop nils slots keep e s' :: as => if preOk m0 keep && !e.isNorm then some (e, s', as, [lsp c (normSt nils slots keep s) e s']) else none
    | _ => none
  | .region _ ops false, s, as => match seqRun tb sp ops.toList ops.toList s as with
    | some (s, as, ps) => some (.norm, s, as, ps)
    | none => none
  | .region _ ops true, s, as => match drawRun tb sp ops.toList s.h.length 0 ops.toList ⟨s.env, s.h ++ List.replicate (8 * ops.toList.length) none⟩ as with
    | some (rs, s', as, ps) => if needsOk ops.toList && calmAll rs (ancs ops.toList []) then some (.norm, s', as, ps) else none
    | none => none
  | _, _, _ => none
end Go.Proofs.YtmodnnokcmabhaaGreat.Den
