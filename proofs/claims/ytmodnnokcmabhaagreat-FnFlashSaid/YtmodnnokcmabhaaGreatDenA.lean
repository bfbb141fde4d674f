/- The words of a reckoner of our own: Go's values without memory's places, the steps of a function told by answers. -/
import Derived.WalkKit
import Derived.Below
import Derived.Orders
import Derived.KernelRfl
namespace Go.Proofs.YtmodnnokcmabhaaGreat.Den
open Go Go.RowKit

/-- What a cell holds. -/
inductive C where
  | undef
  | int (k : IntKind) (n : Int)
  | bool (b : Bool)
  | str (s : ByteArray)
  | nil
  | sl (l off len : Nat)
  | ptr (l i j : Nat)
  | fn (f : FuncId) (caps : List (Nat × Nat × Nat))
  | nilq (n : Nat)
inductive V where
  | c (x : C)
  | agg (cs : List C)
inductive AV where
  | v (x : V)
  | tup (vs : List V)
inductive Data where
  | ints (k : IntKind) (l : List Int)
  | strs (l : List ByteArray)
  | bools (l : List Bool)
  | puts (l : List (Int × ByteArray))
  | acts (l : List (Int × Int × ByteArray))
  | cells (l : List C)
  | refs (l : List C)
structure Row where
  own : Bool
  d : Data
abbrev Heap := List (Option Row)
structure St where
  env : List AV
  h : Heap
inductive AExit where
  | norm
  | exit (id : Nat)
  | ret
inductive DK where
  | ints (k : IntKind)
  | strs
  | bools
  | puts
  | acts
  | refs
  | none
inductive TK where
  | other
  | int (k : IntKind)
  | str
  | bool
  | sl (e : TypeId)
  | st (fs : List (Nat × Nat))
/-- What the reckoner knows of a type. -/
structure Ty where
  eq : List TK
  sz : Nat
  bytes : Nat
  agg : Bool
  zero : List C
  dk : DK
  k : TK
  nk : List DK
inductive Ans where
  | br (b : Bool)
  | call (keep : List (Nat × Bool)) (views : List (Nat × Bool)) (r : AV) (h : Heap)
  | asis
  | cut
  | rew
  | loop (nils : List (Nat × List DK)) (slots keep : List Nat) (e : AExit) (s : St)

def one (c : C) : AV := .v (.c c)
def un : AV := .v (.c .undef)
def noVal : ByteArray := ⟨#[]⟩
def Data.sz : Data → Nat
  | .ints .. | .strs _ | .bools _ | .refs _ => 1
  | .puts _ => 2
  | .acts _ => 3
  | .cells l => l.length
def Data.len : Data → Nat
  | .ints _ l => l.length
  | .strs l => l.length
  | .bools l => l.length
  | .puts l => l.length
  | .acts l => l.length
  | .cells _ => 1
  | .refs l => l.length
def encP (p : Int × ByteArray) : List C := [.int .i64 p.1, .str p.2]
def encA (p : Int × Int × ByteArray) : List C := [.int .i64 p.1, .int .i64 p.2.1, .str p.2.2]
def Data.flat : Data → List C
  | .ints k l => l.map (C.int k)
  | .strs l => l.map C.str
  | .bools l => l.map C.bool
  | .puts l => l.flatMap encP
  | .acts l => l.flatMap encA
  | .cells l => l
  | .refs l => l

/-! ### other names for the places -/
def at? (ks : List Nat) (l : Nat) : Option Nat := go ks 0
where go : List Nat → Nat → Option Nat
  | [], _ => none
  | k :: ks, i => if k == l then some i else go ks (i + 1)
def renCaps (τ : Nat → Option Nat) : List (Nat × Nat × Nat) → Option (List (Nat × Nat × Nat))
  | [] => some []
  | (l, i, j) :: r => match τ l, renCaps τ r with
    | some l', some r' => some ((l', i, j) :: r')
    | _, _ => none
def C.ren (τ : Nat → Option Nat) : C → C
  | .sl l off len => match τ l with
    | some l' => .sl l' off len
    | none => .undef
  | .ptr l i j => match τ l with
    | some l' => .ptr l' i j
    | none => .undef
  | .fn f caps => match renCaps τ caps with
    | some c => .fn f c
    | none => .undef
  | .undef => .undef
  | .nilq n => .nilq n
  | .int k n => .int k n
  | .bool b => .bool b
  | .str s => .str s
  | .nil => .nil
def V.ren (τ : Nat → Option Nat) : V → V
  | .c x => .c (x.ren τ)
  | .agg cs => .agg (cs.map (C.ren τ))
def AV.ren (τ : Nat → Option Nat) : AV → AV
  | .v x => .v (x.ren τ)
  | .tup vs => .tup (vs.map (V.ren τ))
def Data.ren (τ : Nat → Option Nat) : Data → Data
  | .cells l => .cells (l.map (C.ren τ))
  | .refs l => .refs (l.map (C.ren τ))
  | .ints k l => .ints k l
  | .strs l => .strs l
  | .bools l => .bools l
  | .puts l => .puts l
  | .acts l => .acts l
def Row.ren (τ : Nat → Option Nat) (r : Row) : Row := ⟨r.own, r.d.ren τ⟩
def hat (h : Heap) (l : Nat) : Option Row := match h[l]? with
  | some (some r) => some r
  | _ => none
def eat (env : List AV) (t : Nat) : AV := env.getD t un

/-- a sum of places; nothing is added to 0. -/
def addO : Nat → Nat → Nat
  | 0, n => n
  | k + 1, n => k + 1 + n
theorem addO_eq (a b : Nat) : addO a b = a + b := by cases a <;> simp [addO]
/-! ### values -/
def ofVal : Value → C
  | .int k n => .int k n
  | .bool b => .bool b
  | .string s => .str s
  | .slice none 0 0 => .nil
  | _ => .undef
def ofF (f : Nat → AV) : Operand → AV
  | .tmp t => f t
  | .const v => one (ofVal v)
  | .global _ => un
  | .func f => one (.fn f [])
def strEq (a b : ByteArray) : Bool := a.toList == b.toList
def strLt (a b : ByteArray) : Bool := Op.bytesLess a.toList b.toList
def bits2 (k : IntKind) (f : BitVec k.bits → BitVec k.bits → BitVec k.bits) (a b : Int) : Int := k.wrap ((f (BitVec.ofInt k.bits a) (BitVec.ofInt k.bits b)).toNat : Int)
def binI (op : BinOp) (k : IntKind) (a b : Int) : Option (C × List Prop) :=
  match op with
  | .add => some (.int k (k.wrap (a + b)), [])
  | .sub => some (.int k (k.wrap (a - b)), [])
  | .mul => some (.int k (k.wrap (a * b)), [])
  | .quo => some (.int k (k.wrap (a.tdiv b)), [b ≠ 0])
  | .rem => some (.int k (a.tmod b), [b ≠ 0])
  | .and => some (.int k (bits2 k (· &&& ·) a b), [])
  | .or => some (.int k (bits2 k (· ||| ·) a b), [])
  | .xor => some (.int k (bits2 k (· ^^^ ·) a b), [])
  | .eql => some (.bool (a == b), [])
  | .neq => some (.bool (a != b), [])
  | .lss => some (.bool (decide (a < b)), [])
  | .leq => some (.bool (decide (a ≤ b)), [])
  | .gtr => some (.bool (decide (a > b)), [])
  | .geq => some (.bool (decide (a ≥ b)), [])
  | _ => none
def binS (op : BinOp) (a b : ByteArray) : Option (C × List Prop) :=
  match op with
  | .add => some (.str (a ++ b), [((a.size + b.size : Nat) : Int) ≤ 9223372036854775807])
  | .eql => some (.bool (strEq a b), [])
  | .neq => some (.bool (!strEq a b), [])
  | .lss => some (.bool (strLt a b), [])
  | .leq => some (.bool (strLt a b || strEq a b), [])
  | .gtr => some (.bool (!(strLt a b || strEq a b)), [])
  | .geq => some (.bool (!strLt a b), [])
  | _ => none
def shiftI (op : BinOp) (k : IntKind) (a b : Int) : Option (C × List Prop) :=
  match op with
  | .shl => some (.int k (k.wrap (a * 2 ^ (min b.toNat k.bits))), [0 ≤ b])
  | .shr => some (.int k (a.fdiv (2 ^ (min b.toNat k.bits))), [0 ≤ b])
  | _ => none
def isShift : BinOp → Bool
  | .shl | .shr => true
  | _ => false
def IntKind.same : IntKind → IntKind → Bool
  | .i8, .i8 | .i16, .i16 | .i32, .i32 | .i64, .i64 | .u8, .u8 | .u16, .u16 | .u32, .u32 | .u64, .u64 => true
  | _, _ => false
/-- Structs that are compared: field by field, numbers and strings alone. -/
def eqCells : List C → List C → Option Bool
  | [], [] => some true
  | .int j a :: x, .int k b :: y => if IntKind.same j k then (eqCells x y).map (fun r => (a == b) && r) else none
  | .str a :: x, .str b :: y => (eqCells x y).map (fun r => (a == b) && r)
  | .bool a :: x, .bool b :: y => (eqCells x y).map (fun r => (a == b) && r)
  | _, _ => none
/-- The same, the fields' kinds told: what two such structs compare to. -/
def eqT : List TK → List C → List C → Option Bool
  | [], [], [] => some true
  | .int _ :: ks, .int j a :: x, .int k b :: y => if IntKind.same j k then (match eqT ks x y with | some r => some ((a == b) && r) | none => none) else none
  | .str :: ks, .str a :: x, .str b :: y => match eqT ks x y with | some r => some (strEq a b && r) | none => none
  | .bool :: ks, .bool a :: x, .bool b :: y => match eqT ks x y with | some r => some ((a == b) && r) | none => none
  | _, _, _ => none
def eqE (op : BinOp) (ks : List TK) (x y : AV) : Option C :=
  match ks, x, y with
  | k :: ks, .v (.agg cs), .v (.agg ds) => match op, eqT (k :: ks) cs ds with
    | .eql, some b => some (.bool b)
    | .neq, some b => some (.bool (!b))
    | _, _ => none
  | _, _, _ => none
def TK.isBool : TK → Bool
  | .bool => true
  | _ => false
def binE (op : BinOp) (tk : TK) (x y : AV) : Option (C × List Prop) :=
  match x, y with
  | .v (.c (.int k a)), .v (.c (.int k' b)) => if isShift op then shiftI op k a b else if IntKind.same k k' then binI op k a b else none
  | .v (.c (.str a)), .v (.c (.str b)) => binS op a b
  | .v (.c (.bool a)), .v (.c (.bool b)) => if tk.isBool then match op with
      | .eql => some (.bool (a == b), [])
      | .neq => some (.bool (!(a == b)), [])
      | _ => none
    else none
  | _, _ => none

/-! ### what rows hold -/
def Data.get (d : Data) (i j : Nat) : Option (C × List Prop) :=
  match d, j with
  | .ints k l, 0 => some (.int k (l.getD i 0), [i < l.length])
  | .strs l, 0 => some (.str (l.getD i noVal), [i < l.length])
  | .bools l, 0 => some (.bool (l.getD i false), [i < l.length])
  | .puts l, 0 => some (.int .i64 (l.getD i (0, noVal)).1, [i < l.length])
  | .puts l, 1 => some (.str (l.getD i (0, noVal)).2, [i < l.length])
  | .acts l, 0 => some (.int .i64 (l.getD i (0, 0, noVal)).1, [i < l.length])
  | .acts l, 1 => some (.int .i64 (l.getD i (0, 0, noVal)).2.1, [i < l.length])
  | .acts l, 2 => some (.str (l.getD i (0, 0, noVal)).2.2, [i < l.length])
  | .cells l, j => match i with
    | 0 => (l[j]?).map (·, [])
    | _ + 1 => none
  | .refs l, 0 => (l[i]?).map (·, [])
  | _, _ => none
def Data.gets (d : Data) (i j n : Nat) : Option (List C × List Prop) :=
  match d with
  | .puts l => if j == 0 && n == 2 then some (encP (l.getD i (0, noVal)), [i < l.length]) else none
  | .acts l => if j == 0 && n == 3 then some (encA (l.getD i (0, 0, noVal)), [i < l.length]) else none
  | .cells l => match i with
    | 0 => if (l.drop j).length < n then none else some ((l.drop j).take n, [])
    | _ + 1 => none
  | _ => none
def C.isUndef : C → Bool
  | .undef => true
  | _ => false
def Data.put (d : Data) (i j : Nat) (c : C) : Option (Data × List Prop) :=
  match d, j, c with
  | .ints k l, 0, .int k' n => if IntKind.same k k' then some (.ints k (l.set i n), [i < l.length]) else none
  | .strs l, 0, .str s => some (.strs (l.set i s), [i < l.length])
  | .bools l, 0, .bool b => some (.bools (l.set i b), [i < l.length])
  | .puts l, 0, .int .i64 n => some (.puts (l.set i (n, (l.getD i (0, noVal)).2)), [i < l.length])
  | .puts l, 1, .str s => some (.puts (l.set i ((l.getD i (0, noVal)).1, s)), [i < l.length])
  | .cells l, j, c => match i with
    | 0 => if c.isUndef then none else if l.length ≤ j then none else some (.cells (l.set j c), [])
    | _ + 1 => none
  | _, _, _ => none
def setsAt {α : Type} : List α → Nat → List α → List α
  | l, _, [] => l
  | l, j, c :: cs => setsAt (l.set j c) (j + 1) cs
def Data.puts' (d : Data) (i j : Nat) (cs : List C) : Option (Data × List Prop) :=
  match d with
  | .puts l => match j, cs with
    | 0, [.int .i64 n, .str s] => some (.puts (l.set i (n, s)), [i < l.length])
    | _, _ => none
  | .acts l => match j, cs with
    | 0, [.int .i64 a, .int .i64 b, .str s] => some (.acts (l.set i (a, b, s)), [i < l.length])
    | _, _ => none
  | .cells l => match i with
    | 0 => if cs.any C.isUndef then none else if l.length < j + cs.length then none else some (.cells (setsAt l j cs), [])
    | _ + 1 => none
  | _ => none
def Data.win (d : Data) (off len : Nat) : Data :=
  match d with
  | .ints k l => .ints k ((l.drop off).take len)
  | .strs l => .strs ((l.drop off).take len)
  | .bools l => .bools ((l.drop off).take len)
  | .puts l => .puts ((l.drop off).take len)
  | .acts l => .acts ((l.drop off).take len)
  | .cells l => .cells l
  | .refs l => .refs l
def Data.app (d e : Data) : Option Data :=
  match d, e with
  | .ints k l, .ints k' m => if IntKind.same k k' then some (.ints k (l ++ m)) else none
  | .strs l, .strs m => some (.strs (l ++ m))
  | .bools l, .bools m => some (.bools (l ++ m))
  | .puts l, .puts m => some (.puts (l ++ m))
  | .acts l, .acts m => some (.acts (l ++ m))
  | _, _ => none
def Data.nilOf : DK → Option Data
  | .ints k => some (.ints k [])
  | .strs => some (.strs [])
  | .bools => some (.bools [])
  | .puts => some (.puts [])
  | .acts => some (.acts [])
  | .refs => none
  | .none => none
def Data.rep (n : Nat) (dk : DK) (zero : List C) : Option Data :=
  match dk, zero with
  | .ints k, [.int k' z] => if IntKind.same k k' then some (.ints k (List.replicate n z)) else none
  | .strs, [.str z] => some (.strs (List.replicate n z))
  | .bools, [.bool z] => some (.bools (List.replicate n z))
  | .puts, [.int .i64 a, .str s] => some (.puts (List.replicate n (a, s)))
  | .acts, [.int .i64 a, .int .i64 b, .str s] => some (.acts (List.replicate n (a, b, s)))
  | _, _ => none
def bytesL (s : ByteArray) : List Int := s.data.toList.map fun b => (b.toNat : Int)
def ofBytes (l : List Int) : ByteArray := ⟨(l.map fun n => UInt8.ofNat n.toNat).toArray⟩
def lit : DK → List AV → Option Data
  | d, [] => Data.nilOf d
  | .ints k, .v (.c (.int k' n)) :: r => if IntKind.same k k' then match lit (.ints k) r with
      | some (.ints _ l) => some (.ints k (n :: l))
      | _ => none
    else none
  | .strs, .v (.c (.str s)) :: r => match lit .strs r with
    | some (.strs l) => some (.strs (s :: l))
    | _ => none
  | .puts, .v (.agg [.int .i64 a, .str s]) :: r => match lit .puts r with
    | some (.puts l) => some (.puts ((a, s) :: l))
    | _ => none
  | .acts, .v (.agg [.int .i64 a, .int .i64 b, .str s]) :: r => match lit .acts r with
    | some (.acts l) => some (.acts ((a, b, s) :: l))
    | _ => none
  | _, _ => none
/-- slices, laid out in a row. -/
def litR : List AV → Option (List C)
  | [] => some []
  | .v (.c x) :: r => if x.isUndef then none else (litR r).map (x :: ·)
  | _ :: _ => none
/-- n elements of m from o2 on, laid over l from o on. -/
def overL {α : Type} (l : List α) (o : Nat) (m : List α) (o2 n : Nat) : List α := if o + n ≤ l.length ∧ o2 + n ≤ m.length then l.take o ++ (m.drop o2).take n ++ l.drop (o + n) else l
def Data.over (d : Data) (o : Nat) (e : Data) (o2 n : Nat) : Option Data :=
  match d, e with
  | .ints k l, .ints k' m => if IntKind.same k k' then some (.ints k (overL l o m o2 n)) else none
  | .strs l, .strs m => some (.strs (overL l o m o2 n))
  | .bools l, .bools m => some (.bools (overL l o m o2 n))
  | _, _ => none
def AV.cells : AV → Option (List C)
  | .v (.c x) => some [x]
  | .v (.agg cs) => some cs
  | .tup _ => none
/-- nil slices in cells: rows of their own, without an element. -/
def denil : List DK → Nat → List C → List C × List (Nat × Option Row)
  | [], _, cs => (cs, [])
  | _ :: _, _, [] => ([], [])
  | dk :: ks, fr, c :: cs => match c, Data.nilOf dk with
    | .nil, some d => let r := denil ks (fr + 1) cs
      (.sl fr 0 0 :: r.1, (fr, some ⟨true, d⟩) :: r.2)
    | c, _ => let r := denil ks fr cs
      (c :: r.1, r.2)
def denilV (ks : List DK) (fr : Nat) : V → V × List (Nat × Option Row)
  | .c x => match denil ks fr [x] with
    | ([y], u) => (.c y, u)
    | _ => (.c x, [])
  | .agg cs => let r := denil ks fr cs
    (.agg r.1, r.2)
def denilA : List (List DK) → Nat → List AV → List AV × List (Nat × Option Row)
  | [], _, xs => (xs, [])
  | _ :: _, _, [] => ([], [])
  | ks :: kss, fr, x :: xs => match x with
    | .v v => let r := denilV ks fr v
      let q := denilA kss (fr + r.2.length) xs
      (.v r.1 :: q.1, r.2 ++ q.2)
    | .tup vs => let q := denilA kss fr xs
      (.tup vs :: q.1, q.2)
/-- fields laid into a struct's cells. -/
def fillC (fs : List (Nat × Nat)) : List C → List (Nat × AV) → Option (List C)
  | l, [] => some l
  | l, (i, x) :: r => match fs[i]?, x.cells with
    | some (off, n), some cs => if cs.length == n && !cs.any C.isUndef && !(l.length < off + n) then fillC fs (setsAt l off cs) r else none
    | _, _ => none

end Go.Proofs.YtmodnnokcmabhaaGreat.Den
