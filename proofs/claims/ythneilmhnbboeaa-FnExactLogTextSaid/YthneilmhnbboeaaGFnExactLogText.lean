import Derived.Test.YthneilmhnbboeaaDenZ
import Derived.Test.YthneilmhnbboeaaProg
namespace Go.Proofs.Ythneilmhnbboeaa.GFnExactLogText
open Go Go.RowKit Go.Proofs Go.Proofs.Ythneilmhnbboeaa.Den
set_option linter.unusedVariables false
def tyL : List (Nat × Ty) := [(3, ⟨1, 8, false, [.int .i64 0], .ints .i64, .int .i64, []⟩),
  (4, ⟨1, 1, false, [.bool false], .bools, .bool, []⟩),
  (5, ⟨1, 1, false, [.int .u8 0], .ints .u8, .int .u8, []⟩),
  (9, ⟨1, 16, false, [.str ⟨#[]⟩], .strs, .str, []⟩),
  (28, ⟨1, 24, false, [.nil], .refs, .sl 5, [.ints .u8]⟩),
  (52, ⟨1, 24, false, [.nil], .refs, .sl 98, [.puts]⟩),
  (55, ⟨1, 24, false, [.nil], .refs, .sl 100, [.puts]⟩),
  (98, ⟨2, 24, true, [.int .i64 0, .str ⟨#[]⟩], .puts, .st [(0, 1), (1, 1)], []⟩),
  (100, ⟨2, 24, true, [.int .i64 0, .str ⟨#[]⟩], .puts, .st [(0, 1), (1, 1)], []⟩),
  (127, ⟨1, 24, false, [.nil], .none, .sl 28, []⟩)]
def tb : TypeId → Option Ty := tbOf tyL
theorem tab : TabOk Try.prog tb := TabOk.of ⟨.of (by kernel_rfl) rfl rfl (by kernel_rfl) (by show _ = _; kernel_rfl),
  .of (by kernel_rfl) rfl rfl (by kernel_rfl) (by show _ = _; kernel_rfl),
  .of (by kernel_rfl) rfl rfl (by kernel_rfl) (by show _ = _; kernel_rfl),
  .of (by kernel_rfl) rfl rfl (by kernel_rfl) (by show _ = _; kernel_rfl),
  .of (by kernel_rfl) rfl rfl (by kernel_rfl) (by show _ = _; kernel_rfl),
  .of (by kernel_rfl) rfl rfl (by kernel_rfl) (by show _ = _; kernel_rfl),
  .of (by kernel_rfl) rfl rfl (by kernel_rfl) (by show _ = _; kernel_rfl),
  .of (by kernel_rfl) rfl rfl (by kernel_rfl) (by show _ = _; kernel_rfl),
  .of (by kernel_rfl) rfl rfl (by kernel_rfl) (by show _ = _; kernel_rfl),
  .of (by kernel_rfl) rfl rfl (by kernel_rfl) (by show _ = _; kernel_rfl), trivial⟩
theorem mixed : Try.prog.follows .mixedOrders = true := by kernel_rfl
def laws.szPut.f (a0 : Int) (a1 : ByteArray) (a2 : Int) : Option (Int) :=
  cond (decide ((w64 (a2 - (a1.size : Int))) < 0)) (some (-1)) (some (w64 (a2 - (a1.size : Int))))
theorem laws.szPut.spec (a0 : Int) (a1 : ByteArray) (a2 : Int) (o : Int) (h : laws.szPut.f a0 a1 a2 = some o) : Den.Spec Try.prog 97 [.v (.agg [.int .i64 a0, .str a1]), one (.int .i64 a2)] [] (one (.int .i64 o)) [] := by
  unfold laws.szPut.f at h
  rcases br_cases h with ⟨c1, h⟩ | ⟨c1, h⟩
  · obtain rfl := Option.some.inj h
    exact Den.Spec.of_walk tab mixed Try.func97 (by kernel_rfl) [.br true] [] [] (nd c1 trivial) (by kernel_rfl)
  · obtain rfl := Option.some.inj h
    exact Den.Spec.of_walk tab mixed Try.func97 (by kernel_rfl) [.br false] [] [] (nd c1 trivial) (by kernel_rfl)
def laws.szPutS.l0.f (a0 : List (Int × ByteArray)) : Nat → Int → Int → Option (Unit ⊕ Int)
  | 0, _, _ => none
  | k + 1, v3_0, v3_1 =>
    cond (decide (v3_1 < (a0.length : Int))) (ck (0 ≤ v3_1) (Option.bind (laws.szPut.f ((a0.getD v3_1.toNat (0, noVal)).1) ((a0.getD v3_1.toNat (0, noVal)).2) v3_0) fun x1 => cond (decide (x1 < 0)) (some (.inl ())) (laws.szPutS.l0.f a0 k x1 (w64 (v3_1 + 1))))) (some (.inr (v3_0)))
def laws.szPutS.l0.s (a0 : List (Int × ByteArray)) (v3_0 : Int) (v3_1 : Int) : St := mkSt 27 [(0, one (.sl 0 0 a0.length)), (1, one (.int .i64 v3_0)), (5, one (.int .i64 v3_1))] [some ⟨false, .puts a0⟩]
def laws.szPutS.l0.e0 (a0 : List (Int × ByteArray)) (o : Unit) : St := mkSt 27 [(4, one (.int .i64 (-1)))] [some ⟨false, .puts a0⟩]
def laws.szPutS.l0.e1 (a0 : List (Int × ByteArray)) (o : Int) : St := mkSt 27 [(1, one (.int .i64 o))] [some ⟨false, .puts a0⟩]
def laws.szPutS.l0.x (a0 : List (Int × ByteArray)) : (Unit ⊕ Int) → AExit × St := Sum.elim (fun o => (.ret, laws.szPutS.l0.e0 a0 o)) (fun o => (.exit 0, laws.szPutS.l0.e1 a0 o))
theorem laws.szPutS.l0.spec (a0 : List (Int × ByteArray)) : ∀ (k : Nat) (v3_0 : Int) (v3_1 : Int) (o : Unit ⊕ Int), laws.szPutS.l0.f a0 k v3_0 v3_1 = some o → LoopSpec Try.prog 1 (loopN Try.f40 0) (laws.szPutS.l0.s a0 v3_0 v3_1) (laws.szPutS.l0.x a0 o).1 (laws.szPutS.l0.x a0 o).2
  | 0, _, _, _, h => by cases h
  | k + 1, v3_0, v3_1, o, h => by
    unfold laws.szPutS.l0.f at h
    rcases br_cases h with ⟨c1, h⟩ | ⟨c1, h⟩
    · obtain ⟨p1, h⟩ := ck_some h
      obtain ⟨x1, e1, h⟩ := bind_some h
      rcases br_cases h with ⟨c2, h⟩ | ⟨c2, h⟩
      · obtain rfl := Option.some.inj h
        exact .of_done tab mixed [.br true, .call [] [] (one (.int .i64 x1)) [], .br true] [] [4] [0] rfl (nd c1 (nd p1 (nd (of_decide_eq_true c1) (nd (tn p1 (of_decide_eq_true c1)) (nd (laws.szPut.spec ((a0.getD v3_1.toNat (0, noVal)).1) ((a0.getD v3_1.toNat (0, noVal)).2) v3_0 _ e1) (nd c2 trivial)))))) (by kernel_rfl)
      · exact .of_step tab mixed [.br true, .call [] [] (one (.int .i64 x1)) [], .br false] [] [0, 1, 5] [0] (s1 := laws.szPutS.l0.s a0 x1 (w64 (v3_1 + 1))) (nd c1 (nd p1 (nd (of_decide_eq_true c1) (nd (tn p1 (of_decide_eq_true c1)) (nd (laws.szPut.spec ((a0.getD v3_1.toNat (0, noVal)).1) ((a0.getD v3_1.toNat (0, noVal)).2) v3_0 _ e1) (nd c2 trivial)))))) (by kernel_rfl) (laws.szPutS.l0.spec a0 k x1 (w64 (v3_1 + 1)) _ h)
    · obtain rfl := Option.some.inj h
      exact .of_done tab mixed [.br false] [] [1] [0] rfl (nd c1 trivial) (by kernel_rfl)
def laws.szPutS.f (K : Nat) (a0 : List (Int × ByteArray)) (a1 : Int) : Option (Int) :=
  cond (decide ((w64 (a1 - (a0.length : Int))) < 0)) (some (-1)) (Option.bind (laws.szPutS.l0.f a0 K (w64 (a1 - (a0.length : Int))) 0) fun x1 => (Sum.elim (fun x1 => some (-1)) (fun x1 => some x1)) x1)
theorem laws.szPutS.spec (K : Nat) (a0 : List (Int × ByteArray)) (a1 : Int) (o : Int) (h : laws.szPutS.f K a0 a1 = some o) : Den.Spec Try.prog 40 [one (.sl 0 0 a0.length), one (.int .i64 a1)] [some ⟨false, .puts a0⟩] (one (.int .i64 o)) [some ⟨false, .puts a0⟩] := by
  unfold laws.szPutS.f at h
  rcases br_cases h with ⟨c1, h⟩ | ⟨c1, h⟩
  · obtain rfl := Option.some.inj h
    exact Den.Spec.of_walk tab mixed Try.func40 (by kernel_rfl) [.br true] [] [0] (nd c1 trivial) (by kernel_rfl)
  · obtain ⟨x1, e1, h⟩ := bind_some h
    rcases x1 with x1 | x1
    · obtain rfl := Option.some.inj h
      exact Den.Spec.of_walk tab mixed Try.func40 (by kernel_rfl) [.br false, .loop [] [0, 1, 5] [0] (.ret) (laws.szPutS.l0.e0 a0 x1)] [] [0] (nd c1 (nd (laws.szPutS.l0.spec a0 K (w64 (a1 - (a0.length : Int))) 0 _ e1) trivial)) (by kernel_rfl)
    · obtain rfl := Option.some.inj h
      exact Den.Spec.of_walk tab mixed Try.func40 (by kernel_rfl) [.br false, .loop [] [0, 1, 5] [0] (.exit 0) (laws.szPutS.l0.e1 a0 x1)] [] [0] (nd c1 (nd (laws.szPutS.l0.spec a0 K (w64 (a1 - (a0.length : Int))) 0 _ e1) trivial)) (by kernel_rfl)
def laws.toPut.f (a0 : Int) (a1 : ByteArray) : Option (Unit) :=
  some ()
theorem laws.toPut.spec (a0 : Int) (a1 : ByteArray) (o : Unit) (h : laws.toPut.f a0 a1 = some o) : Den.Spec Try.prog 99 [.v (.agg [.int .i64 a0, .str a1])] [] (.v (.agg [.int .i64 a0, .str a1])) [] := by
  unfold laws.toPut.f at h
  obtain rfl := Option.some.inj h
  exact Den.Spec.of_walk tab mixed Try.func99 (by kernel_rfl) [] [] [] trivial (by kernel_rfl)
def laws.toPutS.l0.f (a0 : List (Int × ByteArray)) : Nat → (List (Int × ByteArray)) → Nat → Int → Option ((List (Int × ByteArray)) × Nat)
  | 0, _, _, _ => none
  | k + 1, v7_0, v7_1, v7_2 =>
    cond (decide (v7_2 < (a0.length : Int))) (ck (0 ≤ v7_2) (Option.bind (laws.toPut.f ((a0.getD v7_2.toNat (0, noVal)).1) ((a0.getD v7_2.toNat (0, noVal)).2)) fun x1 => ck (v7_2 < (v7_1 : Int)) (ck (v7_2.toNat < v7_0.length) (laws.toPutS.l0.f a0 k (v7_0.set v7_2.toNat ((a0.getD v7_2.toNat (0, noVal)).1, (a0.getD v7_2.toNat (0, noVal)).2)) v7_1 (w64 (v7_2 + 1)))))) (some (v7_0, v7_1))
def laws.toPutS.l0.s (a0 : List (Int × ByteArray)) (v7_0 : List (Int × ByteArray)) (v7_1 : Nat) (v7_2 : Int) : St := mkSt 23 [(0, one (.sl 0 0 a0.length)), (3, one (.sl 1 0 v7_1)), (4, one (.int .i64 v7_2))] [some ⟨false, .puts a0⟩, some ⟨true, .puts v7_0⟩]
def laws.toPutS.l0.e0 (a0 : List (Int × ByteArray)) (o : (List (Int × ByteArray)) × Nat) : St := mkSt 23 [(3, one (.sl 1 0 o.2))] [some ⟨false, .puts a0⟩, some ⟨true, .puts o.1⟩]
def laws.toPutS.l0.x (a0 : List (Int × ByteArray)) : ((List (Int × ByteArray)) × Nat) → AExit × St := fun o => (.exit 0, laws.toPutS.l0.e0 a0 o)
theorem laws.toPutS.l0.spec (a0 : List (Int × ByteArray)) : ∀ (k : Nat) (v7_0 : List (Int × ByteArray)) (v7_1 : Nat) (v7_2 : Int) (o : (List (Int × ByteArray)) × Nat), laws.toPutS.l0.f a0 k v7_0 v7_1 v7_2 = some o → LoopSpec Try.prog 1 (loopN Try.f42 0) (laws.toPutS.l0.s a0 v7_0 v7_1 v7_2) (laws.toPutS.l0.x a0 o).1 (laws.toPutS.l0.x a0 o).2
  | 0, _, _, _, _, h => by cases h
  | k + 1, v7_0, v7_1, v7_2, o, h => by
    unfold laws.toPutS.l0.f at h
    rcases br_cases h with ⟨c1, h⟩ | ⟨c1, h⟩
    · obtain ⟨p1, h⟩ := ck_some h
      obtain ⟨x1, e1, h⟩ := bind_some h
      obtain ⟨p2, h⟩ := ck_some h
      obtain ⟨p3, h⟩ := ck_some h
      exact .of_step tab mixed [.br true, .call [] [] (.v (.agg [.int .i64 ((a0.getD v7_2.toNat (0, noVal)).1), .str ((a0.getD v7_2.toNat (0, noVal)).2)])) []] [] [0, 3, 4] [0, 1] (s1 := laws.toPutS.l0.s a0 (v7_0.set v7_2.toNat ((a0.getD v7_2.toNat (0, noVal)).1, (a0.getD v7_2.toNat (0, noVal)).2)) v7_1 (w64 (v7_2 + 1))) (nd c1 (nd p1 (nd (of_decide_eq_true c1) (nd (tn p1 (of_decide_eq_true c1)) (nd (laws.toPut.spec ((a0.getD v7_2.toNat (0, noVal)).1) ((a0.getD v7_2.toNat (0, noVal)).2) _ e1) (nd p1 (nd p2 (nd p3 trivial)))))))) (by kernel_rfl) (laws.toPutS.l0.spec a0 k (v7_0.set v7_2.toNat ((a0.getD v7_2.toNat (0, noVal)).1, (a0.getD v7_2.toNat (0, noVal)).2)) v7_1 (w64 (v7_2 + 1)) _ h)
    · obtain rfl := Option.some.inj h
      exact .of_done tab mixed [.br false] [] [3] [0, 1] rfl (nd c1 trivial) (by kernel_rfl)
def laws.toPutS.f (K : Nat) (a0 : List (Int × ByteArray)) : Option ((List (Int × ByteArray)) × Nat) :=
  ck (((a0.length : Int) * (24 : Int)) ≤ 70368744177664) (Option.bind (laws.toPutS.l0.f a0 K (List.replicate a0.length ((0 : Int), noVal)) ((List.replicate a0.length ((0 : Int), noVal)).length) 0) fun x1 => some (x1.1, x1.2))
theorem laws.toPutS.spec (K : Nat) (a0 : List (Int × ByteArray)) (o : (List (Int × ByteArray)) × Nat) (h : laws.toPutS.f K a0 = some o) : Den.Spec Try.prog 42 [one (.sl 0 0 a0.length)] [some ⟨false, .puts a0⟩] (one (.sl 1 0 o.2)) [some ⟨false, .puts a0⟩, some ⟨true, .puts o.1⟩] := by
  unfold laws.toPutS.f at h
  obtain ⟨p1, h⟩ := ck_some h
  obtain ⟨x1, e1, h⟩ := bind_some h
  obtain rfl := Option.some.inj h
  exact Den.Spec.of_walk tab mixed Try.func42 (by kernel_rfl) [.loop [] [0, 3, 4] [0, 1] (.exit 0) (laws.toPutS.l0.e0 a0 x1)] [] [0, 1] (nd (Int.natCast_nonneg a0.length) (nd (rfl : (a0.length : Int) = (a0.length : Int)) (nd p1 (nd (laws.toPutS.l0.spec a0 K (List.replicate a0.length ((0 : Int), noVal)) ((List.replicate a0.length ((0 : Int), noVal)).length) 0 _ e1) trivial)))) (by kernel_rfl)
def spec.l1In.f (a0 : Int) (a1 : Int) (a2 : Int) : Option (Bool) :=
  cond (decide (a0 ≥ a1)) (some (decide (a0 ≤ a2))) (some false)
theorem spec.l1In.spec (a0 : Int) (a1 : Int) (a2 : Int) (o : Bool) (h : spec.l1In.f a0 a1 a2 = some o) : Den.Spec Try.prog 88 [one (.int .i64 a0), one (.int .i64 a1), one (.int .i64 a2)] [] (one (.bool o)) [] := by
  unfold spec.l1In.f at h
  rcases br_cases h with ⟨c1, h⟩ | ⟨c1, h⟩
  · obtain rfl := Option.some.inj h
    exact Den.Spec.of_walk tab mixed Try.func88 (by kernel_rfl) [.br true, .br true, .br true, .br true] [] [] (nd c1 (nd c1 (nd c1 (nd c1 trivial)))) (by kernel_rfl)
  · obtain rfl := Option.some.inj h
    exact Den.Spec.of_walk tab mixed Try.func88 (by kernel_rfl) [.br false, .br false, .br false, .br false] [] [] (nd c1 (nd c1 (nd c1 (nd c1 trivial)))) (by kernel_rfl)
def spec.l7Batch.l1.f (a0 : List (Int × ByteArray)) (v13_0 : Int) : Nat → Int → Option (Unit ⊕ Unit)
  | 0, _ => none
  | k + 1, v15_0 =>
    cond (decide (v15_0 < v13_0)) (ck (0 ≤ v15_0) (ck (v15_0 < (a0.length : Int)) (ck (0 ≤ v13_0) (ck (v13_0 < (a0.length : Int)) (cond (((a0.getD v15_0.toNat (0, noVal)).1) == ((a0.getD v13_0.toNat (0, noVal)).1)) (some (.inl ())) (spec.l7Batch.l1.f a0 v13_0 k (w64 (v15_0 + 1)))))))) (some (.inr (())))
def spec.l7Batch.l1.s (a0 : List (Int × ByteArray)) (v13_0 : Int) (v15_0 : Int) : St := mkSt 46 [(0, one (.sl 0 0 a0.length)), (3, one (.int .i64 v13_0)), (4, one (.int .i64 v15_0)), (19, one (.sl 0 0 a0.length)), (20, one (.int .i64 v13_0)), (21, one (.ptr 0 v13_0.toNat 0)), (22, one (.ptr 0 v13_0.toNat 1)), (23, one (.str ((a0.getD v13_0.toNat (0, noVal)).2))), (24, one (.int .i64 (((a0.getD v13_0.toNat (0, noVal)).2).size : Int))), (25, one (.bool (decide ((((a0.getD v13_0.toNat (0, noVal)).2).size : Int) > 400))))] [some ⟨false, .puts a0⟩]
def spec.l7Batch.l1.e0 (a0 : List (Int × ByteArray)) (v13_0 : Int) (o : Unit) : St := mkSt 46 [(2, one (.bool false))] [some ⟨false, .puts a0⟩]
def spec.l7Batch.l1.e1 (a0 : List (Int × ByteArray)) (v13_0 : Int) (o : Unit) : St := mkSt 46 [(0, one (.sl 0 0 a0.length)), (3, one (.int .i64 v13_0)), (19, one (.sl 0 0 a0.length)), (20, one (.int .i64 v13_0)), (21, one (.ptr 0 v13_0.toNat 0)), (22, one (.ptr 0 v13_0.toNat 1)), (23, one (.str ((a0.getD v13_0.toNat (0, noVal)).2))), (24, one (.int .i64 (((a0.getD v13_0.toNat (0, noVal)).2).size : Int))), (25, one (.bool (decide ((((a0.getD v13_0.toNat (0, noVal)).2).size : Int) > 400))))] [some ⟨false, .puts a0⟩]
def spec.l7Batch.l1.x (a0 : List (Int × ByteArray)) (v13_0 : Int) : (Unit ⊕ Unit) → AExit × St := Sum.elim (fun o => (.ret, spec.l7Batch.l1.e0 a0 v13_0 o)) (fun o => (.exit 2, spec.l7Batch.l1.e1 a0 v13_0 o))
theorem spec.l7Batch.l1.spec (a0 : List (Int × ByteArray)) (v13_0 : Int) : ∀ (k : Nat) (v15_0 : Int) (o : Unit ⊕ Unit), spec.l7Batch.l1.f a0 v13_0 k v15_0 = some o → LoopSpec Try.prog 1 (loopN Try.f98 1) (spec.l7Batch.l1.s a0 v13_0 v15_0) (spec.l7Batch.l1.x a0 v13_0 o).1 (spec.l7Batch.l1.x a0 v13_0 o).2
  | 0, _, _, h => by cases h
  | k + 1, v15_0, o, h => by
    unfold spec.l7Batch.l1.f at h
    rcases br_cases h with ⟨c1, h⟩ | ⟨c1, h⟩
    · obtain ⟨p1, h⟩ := ck_some h
      obtain ⟨p2, h⟩ := ck_some h
      obtain ⟨p3, h⟩ := ck_some h
      obtain ⟨p4, h⟩ := ck_some h
      rcases br_cases h with ⟨c2, h⟩ | ⟨c2, h⟩
      · obtain rfl := Option.some.inj h
        exact .of_done tab mixed [.br true, .br true] [] [2] [0] rfl (nd c1 (nd p1 (nd p2 (nd (tn p1 p2) (nd p3 (nd p4 (nd (tn p3 p4) (nd c2 trivial)))))))) (by kernel_rfl)
      · exact .of_step tab mixed [.br true, .br false] [] [0, 3, 4, 19, 20, 21, 22, 23, 24, 25] [0] (s1 := spec.l7Batch.l1.s a0 v13_0 (w64 (v15_0 + 1))) (nd c1 (nd p1 (nd p2 (nd (tn p1 p2) (nd p3 (nd p4 (nd (tn p3 p4) (nd c2 trivial)))))))) (by kernel_rfl) (spec.l7Batch.l1.spec a0 v13_0 k (w64 (v15_0 + 1)) _ h)
    · obtain rfl := Option.some.inj h
      exact .of_done tab mixed [.br false] [] [0, 3, 19, 20, 21, 22, 23, 24, 25] [0] rfl (nd c1 trivial) (by kernel_rfl)
def spec.l7Batch.l0.f (K : Nat) (a0 : List (Int × ByteArray)) : Nat → Int → Option (Unit ⊕ Unit)
  | 0, _ => none
  | k + 1, v13_0 =>
    cond (decide (v13_0 < (a0.length : Int))) (ck (0 ≤ v13_0) (Option.bind (spec.l1In.f ((a0.getD v13_0.toNat (0, noVal)).1) 0 23) fun x1 => cond (x1) (cond (decide ((((a0.getD v13_0.toNat (0, noVal)).2).size : Int) > 400)) (some (.inl ())) (Option.bind (spec.l7Batch.l1.f a0 v13_0 K 0) fun x2 => (Sum.elim (fun x2 => some (.inl ())) (fun x2 => spec.l7Batch.l0.f K a0 k (w64 (v13_0 + 1)))) x2)) (some (.inl ())))) (some (.inr (())))
def spec.l7Batch.l0.s (K : Nat) (a0 : List (Int × ByteArray)) (v13_0 : Int) : St := mkSt 46 [(0, one (.sl 0 0 a0.length)), (3, one (.int .i64 v13_0))] [some ⟨false, .puts a0⟩]
def spec.l7Batch.l0.e0 (K : Nat) (a0 : List (Int × ByteArray)) (o : Unit) : St := mkSt 46 [(2, one (.bool false))] [some ⟨false, .puts a0⟩]
def spec.l7Batch.l0.e1 (K : Nat) (a0 : List (Int × ByteArray)) (o : Unit) : St := mkSt 46 [(0, one (.sl 0 0 a0.length))] [some ⟨false, .puts a0⟩]
def spec.l7Batch.l0.x (K : Nat) (a0 : List (Int × ByteArray)) : (Unit ⊕ Unit) → AExit × St := Sum.elim (fun o => (.ret, spec.l7Batch.l0.e0 K a0 o)) (fun o => (.exit 0, spec.l7Batch.l0.e1 K a0 o))
theorem spec.l7Batch.l0.spec (K : Nat) (a0 : List (Int × ByteArray)) : ∀ (k : Nat) (v13_0 : Int) (o : Unit ⊕ Unit), spec.l7Batch.l0.f K a0 k v13_0 = some o → LoopSpec Try.prog 1 (loopN Try.f98 0) (spec.l7Batch.l0.s K a0 v13_0) (spec.l7Batch.l0.x K a0 o).1 (spec.l7Batch.l0.x K a0 o).2
  | 0, _, _, h => by cases h
  | k + 1, v13_0, o, h => by
    unfold spec.l7Batch.l0.f at h
    rcases br_cases h with ⟨c1, h⟩ | ⟨c1, h⟩
    · obtain ⟨p1, h⟩ := ck_some h
      obtain ⟨x1, e1, h⟩ := bind_some h
      rcases br_cases h with ⟨c2, h⟩ | ⟨c2, h⟩
      · rcases br_cases h with ⟨c3, h⟩ | ⟨c3, h⟩
        · obtain rfl := Option.some.inj h
          exact .of_done tab mixed [.br true, .call [] [] (one (.bool x1)) [], .br false, .br false, .br false, .br false, .br false, .br false, .br false, .br false, .br true] [] [2] [0] rfl (nd c1 (nd p1 (nd (of_decide_eq_true c1) (nd (tn p1 (of_decide_eq_true c1)) (nd (spec.l1In.spec ((a0.getD v13_0.toNat (0, noVal)).1) 0 23 _ e1) (nd (nf c2) (nd (nf c2) (nd (nf c2) (nd p1 (nd (of_decide_eq_true c1) (nd (nf c2) (nd (nf c2) (nd (tn p1 (of_decide_eq_true c1)) (nd (nf c2) (nd (nf c2) (nd (nf c2) (nd c3 trivial))))))))))))))))) (by kernel_rfl)
        · obtain ⟨x2, e2, h⟩ := bind_some h
          rcases x2 with x2 | x2
          · obtain rfl := Option.some.inj h
            exact .of_done tab mixed [.br true, .call [] [] (one (.bool x1)) [], .br false, .br false, .br false, .br false, .br false, .br false, .br false, .br false, .br false, .loop [] [0, 3, 4, 19, 20, 21, 22, 23, 24, 25] [0] (.ret) (spec.l7Batch.l1.e0 a0 v13_0 x2)] [] [2] [0] rfl (nd c1 (nd p1 (nd (of_decide_eq_true c1) (nd (tn p1 (of_decide_eq_true c1)) (nd (spec.l1In.spec ((a0.getD v13_0.toNat (0, noVal)).1) 0 23 _ e1) (nd (nf c2) (nd (nf c2) (nd (nf c2) (nd p1 (nd (of_decide_eq_true c1) (nd (nf c2) (nd (nf c2) (nd (tn p1 (of_decide_eq_true c1)) (nd (nf c2) (nd (nf c2) (nd (nf c2) (nd c3 (nd (spec.l7Batch.l1.spec a0 v13_0 K 0 _ e2) trivial)))))))))))))))))) (by kernel_rfl)
          · exact .of_step tab mixed [.br true, .call [] [] (one (.bool x1)) [], .br false, .br false, .br false, .br false, .br false, .br false, .br false, .br false, .br false, .loop [] [0, 3, 4, 19, 20, 21, 22, 23, 24, 25] [0] (.exit 2) (spec.l7Batch.l1.e1 a0 v13_0 x2)] [] [0, 3] [0] (s1 := spec.l7Batch.l0.s K a0 (w64 (v13_0 + 1))) (nd c1 (nd p1 (nd (of_decide_eq_true c1) (nd (tn p1 (of_decide_eq_true c1)) (nd (spec.l1In.spec ((a0.getD v13_0.toNat (0, noVal)).1) 0 23 _ e1) (nd (nf c2) (nd (nf c2) (nd (nf c2) (nd p1 (nd (of_decide_eq_true c1) (nd (nf c2) (nd (nf c2) (nd (tn p1 (of_decide_eq_true c1)) (nd (nf c2) (nd (nf c2) (nd (nf c2) (nd c3 (nd (spec.l7Batch.l1.spec a0 v13_0 K 0 _ e2) trivial)))))))))))))))))) (by kernel_rfl) (spec.l7Batch.l0.spec K a0 k (w64 (v13_0 + 1)) _ h)
      · obtain rfl := Option.some.inj h
        exact .of_done tab mixed [.br true, .call [] [] (one (.bool x1)) [], .br true, .br true, .br true, .br true, .br true, .br true, .br true, .br true, .br true] [] [2] [0] rfl (nd c1 (nd p1 (nd (of_decide_eq_true c1) (nd (tn p1 (of_decide_eq_true c1)) (nd (spec.l1In.spec ((a0.getD v13_0.toNat (0, noVal)).1) 0 23 _ e1) (nd (nt c2) (nd (nt c2) (nd (nt c2) (nd (nt c2) (nd (nt c2) (nd (nt c2) (nd (nt c2) (nd (nt c2) (nd tt trivial)))))))))))))) (by kernel_rfl)
    · obtain rfl := Option.some.inj h
      exact .of_done tab mixed [.br false] [] [0] [0] rfl (nd c1 trivial) (by kernel_rfl)
def spec.l7Batch.f (K : Nat) (a0 : List (Int × ByteArray)) : Option (Bool) :=
  Option.bind (spec.l7Batch.l0.f K a0 K 0) fun x1 => (Sum.elim (fun x1 => some false) (fun x1 => some (decide ((a0.length : Int) ≤ 3)))) x1
theorem spec.l7Batch.spec (K : Nat) (a0 : List (Int × ByteArray)) (o : Bool) (h : spec.l7Batch.f K a0 = some o) : Den.Spec Try.prog 98 [one (.sl 0 0 a0.length)] [some ⟨false, .puts a0⟩] (one (.bool o)) [some ⟨false, .puts a0⟩] := by
  unfold spec.l7Batch.f at h
  obtain ⟨x1, e1, h⟩ := bind_some h
  rcases x1 with x1 | x1
  · obtain rfl := Option.some.inj h
    exact Den.Spec.of_walk tab mixed Try.func98 (by kernel_rfl) [.loop [] [0, 3] [0] (.ret) (spec.l7Batch.l0.e0 K a0 x1)] [] [0] (nd (spec.l7Batch.l0.spec K a0 K 0 _ e1) trivial) (by kernel_rfl)
  · obtain rfl := Option.some.inj h
    exact Den.Spec.of_walk tab mixed Try.func98 (by kernel_rfl) [.loop [] [0, 3] [0] (.exit 0) (spec.l7Batch.l0.e1 K a0 x1)] [] [0] (nd (spec.l7Batch.l0.spec K a0 K 0 _ e1) trivial) (by kernel_rfl)
def spec.PutNum.l0.f : Nat → Int → (List Int) → Option (Int × (List Int))
  | 0, _, _ => none
  | k + 1, v18_0, v18_1 =>
    cond (decide (v18_0 > 127)) (ck ((v18_1 ++ [IntKind.u8.wrap (w64 ((v18_0.tmod 128) + 128))]).length * 1 ≤ 70368744177664) (spec.PutNum.l0.f k (w64 (v18_0.tdiv 128)) (v18_1 ++ [IntKind.u8.wrap (w64 ((v18_0.tmod 128) + 128))]))) (some (v18_0, v18_1))
def spec.PutNum.l0.s (v18_0 : Int) (v18_1 : List Int) : St := mkSt 25 [(0, one (.int .i64 v18_0)), (3, one (.sl 0 0 v18_1.length))] [some ⟨true, .ints .u8 v18_1⟩]
def spec.PutNum.l0.e0 (o : Int × (List Int)) : St := mkSt 25 [(0, one (.int .i64 o.1)), (3, one (.sl 0 0 o.2.length))] [some ⟨true, .ints .u8 o.2⟩]
def spec.PutNum.l0.x : (Int × (List Int)) → AExit × St := fun o => (.exit 0, spec.PutNum.l0.e0 o)
theorem spec.PutNum.l0.spec : ∀ (k : Nat) (v18_0 : Int) (v18_1 : List Int) (o : Int × (List Int)), spec.PutNum.l0.f k v18_0 v18_1 = some o → LoopSpec Try.prog 0 (loopN Try.f21 0) (spec.PutNum.l0.s v18_0 v18_1) (spec.PutNum.l0.x o).1 (spec.PutNum.l0.x o).2
  | 0, _, _, _, h => by cases h
  | k + 1, v18_0, v18_1, o, h => by
    unfold spec.PutNum.l0.f at h
    rcases br_cases h with ⟨c1, h⟩ | ⟨c1, h⟩
    · obtain ⟨p1, h⟩ := ck_some h
      exact .of_step tab mixed [.br true, .br true] [] [0, 3] [2] (s1 := spec.PutNum.l0.s (w64 (v18_0.tdiv 128)) (v18_1 ++ [IntKind.u8.wrap (w64 ((v18_0.tmod 128) + 128))])) (nd c1 (nd (by decide : (128 : Int) ≠ 0) (nd (rfl : (0 : Nat) = 0) (nd (rfl : v18_1.length = v18_1.length) (nd p1 (nd (rfl : (0 : Nat) = 0) (nd (rfl : 1 = 1) (nd (by decide : (128 : Int) ≠ 0) trivial)))))))) (by kernel_rfl) (spec.PutNum.l0.spec k (w64 (v18_0.tdiv 128)) (v18_1 ++ [IntKind.u8.wrap (w64 ((v18_0.tmod 128) + 128))]) _ h)
    · obtain rfl := Option.some.inj h
      exact .of_done tab mixed [.br false] [] [0, 3] [0] rfl (nd c1 trivial) (by kernel_rfl)
def spec.PutNum.f (K : Nat) (a0 : Int) : Option ((List Int)) :=
  Option.bind (spec.l1In.f a0 0 1000000000) fun x1 => cond (x1) (Option.bind (spec.PutNum.l0.f K a0 []) fun x2 => ck ((x2.2 ++ [IntKind.u8.wrap x2.1]).length * 1 ≤ 70368744177664) (some (x2.2 ++ [IntKind.u8.wrap x2.1]))) (some [])
theorem spec.PutNum.spec (K : Nat) (a0 : Int) (o : (List Int)) (h : spec.PutNum.f K a0 = some o) : Den.Spec Try.prog 21 [one (.int .i64 a0)] [] (one (.sl 0 0 o.length)) [some ⟨true, .ints .u8 o⟩] := by
  unfold spec.PutNum.f at h
  obtain ⟨x1, e1, h⟩ := bind_some h
  rcases br_cases h with ⟨c1, h⟩ | ⟨c1, h⟩
  · obtain ⟨x2, e2, h⟩ := bind_some h
    obtain ⟨p1, h⟩ := ck_some h
    obtain rfl := Option.some.inj h
    exact Den.Spec.of_walk tab mixed Try.func21 (by kernel_rfl) [.call [] [] (one (.bool x1)) [], .br false, .loop [] [0, 3] [0] (.exit 0) (spec.PutNum.l0.e0 x2), .br true] [] [2] (nd (spec.l1In.spec a0 0 1000000000 _ e1) (nd (nf c1) (nd (spec.PutNum.l0.spec K a0 [] _ e2) (nd (rfl : (0 : Nat) = 0) (nd (rfl : x2.2.length = x2.2.length) (nd p1 (nd (rfl : (0 : Nat) = 0) (nd (rfl : 1 = 1) trivial)))))))) (by kernel_rfl)
  · obtain rfl := Option.some.inj h
    exact Den.Spec.of_walk tab mixed Try.func21 (by kernel_rfl) [.call [] [] (one (.bool x1)) [], .br true] [] [0] (nd (spec.l1In.spec a0 0 1000000000 _ e1) (nd (nt c1) trivial)) (by kernel_rfl)
def spec.PutText.f (K : Nat) (a0 : ByteArray) : Option ((List Int)) :=
  cond (decide ((a0.size : Int) > 400)) (some []) (Option.bind (spec.PutNum.f K (a0.size : Int)) fun x1 => ck ((x1 ++ (bytesL a0)).length * 1 ≤ 70368744177664) (some (x1 ++ (bytesL a0))))
theorem spec.PutText.spec (K : Nat) (a0 : ByteArray) (o : (List Int)) (h : spec.PutText.f K a0 = some o) : Den.Spec Try.prog 29 [one (.str a0)] [] (one (.sl 0 0 o.length)) [some ⟨true, .ints .u8 o⟩] := by
  unfold spec.PutText.f at h
  rcases br_cases h with ⟨c1, h⟩ | ⟨c1, h⟩
  · obtain rfl := Option.some.inj h
    exact Den.Spec.of_walk tab mixed Try.func29 (by kernel_rfl) [.br true] [] [0] (nd c1 trivial) (by kernel_rfl)
  · obtain ⟨x1, e1, h⟩ := bind_some h
    obtain ⟨p1, h⟩ := ck_some h
    obtain rfl := Option.some.inj h
    exact Den.Spec.of_walk tab mixed Try.func29 (by kernel_rfl) [.br false, .call [] [] (one (.sl 0 0 x1.length)) [some ⟨true, .ints .u8 x1⟩], .br true] [] [2] (nd c1 (nd (spec.PutNum.spec K (a0.size : Int) _ e1) (nd (rfl : (0 : Nat) = 0) (nd (rfl : x1.length = x1.length) (nd p1 (nd (rfl : (0 : Nat) = 0) (nd (rfl : (bytesL a0).length = (bytesL a0).length) trivial))))))) (by kernel_rfl)
def spec.LogText.l0.f (K : Nat) (a0 : List (Int × ByteArray)) : Nat → (List Int) → Int → Option ((List Int))
  | 0, _, _ => none
  | k + 1, v25_0, v25_1 =>
    cond (decide (v25_1 < (a0.length : Int))) (ck (0 ≤ v25_1) (Option.bind (spec.PutNum.f K ((a0.getD v25_1.toNat (0, noVal)).1)) fun x1 => ck ((v25_0 ++ x1).length * 1 ≤ 70368744177664) (Option.bind (spec.PutText.f K ((a0.getD v25_1.toNat (0, noVal)).2)) fun x2 => ck (((v25_0 ++ x1) ++ x2).length * 1 ≤ 70368744177664) (spec.LogText.l0.f K a0 k ((v25_0 ++ x1) ++ x2) (w64 (v25_1 + 1)))))) (some v25_0)
def spec.LogText.l0.s (K : Nat) (a0 : List (Int × ByteArray)) (v25_0 : List Int) (v25_1 : Int) : St := mkSt 49 [(0, one (.sl 0 0 a0.length)), (3, one (.sl 1 0 v25_0.length)), (4, one (.int .i64 v25_1))] [some ⟨false, .puts a0⟩, some ⟨true, .ints .u8 v25_0⟩]
def spec.LogText.l0.e0 (K : Nat) (a0 : List (Int × ByteArray)) (o : (List Int)) : St := mkSt 49 [(3, one (.sl 1 0 o.length))] [some ⟨false, .puts a0⟩, some ⟨true, .ints .u8 o⟩]
def spec.LogText.l0.x (K : Nat) (a0 : List (Int × ByteArray)) : ((List Int)) → AExit × St := fun o => (.exit 0, spec.LogText.l0.e0 K a0 o)
theorem spec.LogText.l0.spec (K : Nat) (a0 : List (Int × ByteArray)) : ∀ (k : Nat) (v25_0 : List Int) (v25_1 : Int) (o : (List Int)), spec.LogText.l0.f K a0 k v25_0 v25_1 = some o → LoopSpec Try.prog 1 (loopN Try.f41 0) (spec.LogText.l0.s K a0 v25_0 v25_1) (spec.LogText.l0.x K a0 o).1 (spec.LogText.l0.x K a0 o).2
  | 0, _, _, _, h => by cases h
  | k + 1, v25_0, v25_1, o, h => by
    unfold spec.LogText.l0.f at h
    rcases br_cases h with ⟨c1, h⟩ | ⟨c1, h⟩
    · obtain ⟨p1, h⟩ := ck_some h
      obtain ⟨x1, e1, h⟩ := bind_some h
      obtain ⟨p2, h⟩ := ck_some h
      obtain ⟨x2, e2, h⟩ := bind_some h
      obtain ⟨p3, h⟩ := ck_some h
      exact .of_step tab mixed [.br true, .call [] [] (one (.sl 0 0 x1.length)) [some ⟨true, .ints .u8 x1⟩], .br true, .call [] [] (one (.sl 0 0 x2.length)) [some ⟨true, .ints .u8 x2⟩], .br true] [] [0, 3, 4] [0, 5] (s1 := spec.LogText.l0.s K a0 ((v25_0 ++ x1) ++ x2) (w64 (v25_1 + 1))) (nd c1 (nd p1 (nd (of_decide_eq_true c1) (nd (tn p1 (of_decide_eq_true c1)) (nd (spec.PutNum.spec K ((a0.getD v25_1.toNat (0, noVal)).1) _ e1) (nd (rfl : (0 : Nat) = 0) (nd (rfl : v25_0.length = v25_0.length) (nd p2 (nd (rfl : (0 : Nat) = 0) (nd (rfl : x1.length = x1.length) (nd p1 (nd (of_decide_eq_true c1) (nd (tn p1 (of_decide_eq_true c1)) (nd (spec.PutText.spec K ((a0.getD v25_1.toNat (0, noVal)).2) _ e2) (nd (rfl : (0 : Nat) = 0) (nd (rfl : (v25_0 ++ x1).length = (v25_0 ++ x1).length) (nd p3 (nd (rfl : (0 : Nat) = 0) (nd (rfl : x2.length = x2.length) trivial))))))))))))))))))) (by kernel_rfl) (spec.LogText.l0.spec K a0 k ((v25_0 ++ x1) ++ x2) (w64 (v25_1 + 1)) _ h)
    · obtain rfl := Option.some.inj h
      exact .of_done tab mixed [.br false] [] [3] [0, 1] rfl (nd c1 trivial) (by kernel_rfl)
def spec.Sum.l0.f (a0 : List Int) : Nat → Int → Int → Option (Int)
  | 0, _, _ => none
  | k + 1, v23_0, v23_1 =>
    cond (decide (v23_1 < (a0.length : Int))) (ck (0 ≤ v23_1) (spec.Sum.l0.f a0 k ((w64 ((w64 (31 * v23_0)) + (w64 (a0.getD v23_1.toNat 0)))).tmod 1000003) (w64 (v23_1 + 1)))) (some v23_0)
def spec.Sum.l0.s (a0 : List Int) (v23_0 : Int) (v23_1 : Int) : St := mkSt 21 [(0, one (.sl 0 0 a0.length)), (3, one (.int .i64 v23_0)), (4, one (.int .i64 v23_1))] [some ⟨false, .ints .u8 a0⟩]
def spec.Sum.l0.e0 (a0 : List Int) (o : Int) : St := mkSt 21 [(3, one (.int .i64 o))] [some ⟨false, .ints .u8 a0⟩]
def spec.Sum.l0.x (a0 : List Int) : (Int) → AExit × St := fun o => (.exit 0, spec.Sum.l0.e0 a0 o)
theorem spec.Sum.l0.spec (a0 : List Int) : ∀ (k : Nat) (v23_0 : Int) (v23_1 : Int) (o : Int), spec.Sum.l0.f a0 k v23_0 v23_1 = some o → LoopSpec Try.prog 1 (loopN Try.f34 0) (spec.Sum.l0.s a0 v23_0 v23_1) (spec.Sum.l0.x a0 o).1 (spec.Sum.l0.x a0 o).2
  | 0, _, _, _, h => by cases h
  | k + 1, v23_0, v23_1, o, h => by
    unfold spec.Sum.l0.f at h
    rcases br_cases h with ⟨c1, h⟩ | ⟨c1, h⟩
    · obtain ⟨p1, h⟩ := ck_some h
      exact .of_step tab mixed [.br true] [] [0, 3, 4] [0] (s1 := spec.Sum.l0.s a0 ((w64 ((w64 (31 * v23_0)) + (w64 (a0.getD v23_1.toNat 0)))).tmod 1000003) (w64 (v23_1 + 1))) (nd c1 (nd p1 (nd (of_decide_eq_true c1) (nd (tn p1 (of_decide_eq_true c1)) (nd (by decide : (1000003 : Int) ≠ 0) trivial))))) (by kernel_rfl) (spec.Sum.l0.spec a0 k ((w64 ((w64 (31 * v23_0)) + (w64 (a0.getD v23_1.toNat 0)))).tmod 1000003) (w64 (v23_1 + 1)) _ h)
    · obtain rfl := Option.some.inj h
      exact .of_done tab mixed [.br false] [] [3] [0] rfl (nd c1 trivial) (by kernel_rfl)
def spec.Sum.f (K : Nat) (a0 : List Int) : Option (Int) :=
  Option.bind (spec.Sum.l0.f a0 K 7 0) fun x1 => some x1
theorem spec.Sum.spec (K : Nat) (a0 : List Int) (o : Int) (h : spec.Sum.f K a0 = some o) : Den.Spec Try.prog 34 [one (.sl 0 0 a0.length)] [some ⟨false, .ints .u8 a0⟩] (one (.int .i64 o)) [some ⟨false, .ints .u8 a0⟩] := by
  unfold spec.Sum.f at h
  obtain ⟨x1, e1, h⟩ := bind_some h
  obtain rfl := Option.some.inj h
  exact Den.Spec.of_walk tab mixed Try.func34 (by kernel_rfl) [.loop [] [0, 3, 4] [0] (.exit 0) (spec.Sum.l0.e0 a0 x1)] [] [0] (nd (spec.Sum.l0.spec a0 K 7 0 _ e1) trivial) (by kernel_rfl)
def spec.LogText.f (K : Nat) (a0 : List (Int × ByteArray)) : Option (ByteArray) :=
  Option.bind (spec.l7Batch.f K a0) fun x1 => cond (x1) (cond ((a0.length : Int) == 0) (some noVal) (Option.bind (spec.PutNum.f K (a0.length : Int)) fun x2 => Option.bind (spec.LogText.l0.f K a0 K x2 0) fun x3 => Option.bind (spec.Sum.f K x3) fun x4 => Option.bind (spec.PutNum.f K x4) fun x5 => ck ((x5 ++ x3).length * 1 ≤ 70368744177664) (cond (decide (((x5 ++ x3).length : Int) > 400)) (some noVal) (some (ofBytes (x5 ++ x3)))))) (some noVal)
theorem spec.LogText.spec (K : Nat) (a0 : List (Int × ByteArray)) (o : ByteArray) (h : spec.LogText.f K a0 = some o) : Den.Spec Try.prog 41 [one (.sl 0 0 a0.length)] [some ⟨false, .puts a0⟩] (one (.str o)) [some ⟨false, .puts a0⟩] := by
  unfold spec.LogText.f at h
  obtain ⟨x1, e1, h⟩ := bind_some h
  rcases br_cases h with ⟨c1, h⟩ | ⟨c1, h⟩
  · rcases br_cases h with ⟨c2, h⟩ | ⟨c2, h⟩
    · obtain rfl := Option.some.inj h
      exact Den.Spec.of_walk tab mixed Try.func41 (by kernel_rfl) [.call [] [(0, true)] (one (.bool x1)) [some ⟨false, .puts a0⟩], .br false, .br false, .br false, .br false, .br true] [] [0] (nd (spec.l7Batch.spec K a0 _ e1) (nd (rfl : (0 : Nat) = 0) (nd (rfl : a0.length = a0.length) (nd (nf c1) (nd (nf c1) (nd (nf c1) (nd (nf c1) (nd c2 trivial)))))))) (by kernel_rfl)
    · obtain ⟨x2, e2, h⟩ := bind_some h
      obtain ⟨x3, e3, h⟩ := bind_some h
      obtain ⟨x4, e4, h⟩ := bind_some h
      obtain ⟨x5, e5, h⟩ := bind_some h
      obtain ⟨p1, h⟩ := ck_some h
      rcases br_cases h with ⟨c3, h⟩ | ⟨c3, h⟩
      · obtain rfl := Option.some.inj h
        exact Den.Spec.of_walk tab mixed Try.func41 (by kernel_rfl) [.call [] [(0, true)] (one (.bool x1)) [some ⟨false, .puts a0⟩], .br false, .br false, .br false, .br false, .br false, .call [] [] (one (.sl 0 0 x2.length)) [some ⟨true, .ints .u8 x2⟩], .loop [] [0, 3, 4] [0, 1] (.exit 0) (spec.LogText.l0.e0 K a0 x3), .call [] [(0, true)] (one (.int .i64 x4)) [some ⟨false, .ints .u8 x3⟩], .call [] [] (one (.sl 0 0 x5.length)) [some ⟨true, .ints .u8 x5⟩], .br true, .br true] [] [0] (nd (spec.l7Batch.spec K a0 _ e1) (nd (rfl : (0 : Nat) = 0) (nd (rfl : a0.length = a0.length) (nd (nf c1) (nd (nf c1) (nd (nf c1) (nd (nf c1) (nd c2 (nd (spec.PutNum.spec K (a0.length : Int) _ e2) (nd (spec.LogText.l0.spec K a0 K x2 0 _ e3) (nd (spec.Sum.spec K x3 _ e4) (nd (rfl : (0 : Nat) = 0) (nd (rfl : x3.length = x3.length) (nd (spec.PutNum.spec K x4 _ e5) (nd (rfl : (0 : Nat) = 0) (nd (rfl : x5.length = x5.length) (nd p1 (nd (rfl : (0 : Nat) = 0) (nd (rfl : x3.length = x3.length) (nd c3 trivial)))))))))))))))))))) (by kernel_rfl)
      · obtain rfl := Option.some.inj h
        exact Den.Spec.of_walk tab mixed Try.func41 (by kernel_rfl) [.call [] [(0, true)] (one (.bool x1)) [some ⟨false, .puts a0⟩], .br false, .br false, .br false, .br false, .br false, .call [] [] (one (.sl 0 0 x2.length)) [some ⟨true, .ints .u8 x2⟩], .loop [] [0, 3, 4] [0, 1] (.exit 0) (spec.LogText.l0.e0 K a0 x3), .call [] [(0, true)] (one (.int .i64 x4)) [some ⟨false, .ints .u8 x3⟩], .call [] [] (one (.sl 0 0 x5.length)) [some ⟨true, .ints .u8 x5⟩], .br true, .br false, .br true] [] [0] (nd (spec.l7Batch.spec K a0 _ e1) (nd (rfl : (0 : Nat) = 0) (nd (rfl : a0.length = a0.length) (nd (nf c1) (nd (nf c1) (nd (nf c1) (nd (nf c1) (nd c2 (nd (spec.PutNum.spec K (a0.length : Int) _ e2) (nd (spec.LogText.l0.spec K a0 K x2 0 _ e3) (nd (spec.Sum.spec K x3 _ e4) (nd (rfl : (0 : Nat) = 0) (nd (rfl : x3.length = x3.length) (nd (spec.PutNum.spec K x4 _ e5) (nd (rfl : (0 : Nat) = 0) (nd (rfl : x5.length = x5.length) (nd p1 (nd (rfl : (0 : Nat) = 0) (nd (rfl : x3.length = x3.length) (nd c3 (nd (rfl : (0 : Nat) = 0) (nd (rfl : (x5 ++ x3).length = (x5 ++ x3).length) trivial)))))))))))))))))))))) (by kernel_rfl)
  · obtain rfl := Option.some.inj h
    exact Den.Spec.of_walk tab mixed Try.func41 (by kernel_rfl) [.call [] [(0, true)] (one (.bool x1)) [some ⟨false, .puts a0⟩], .br true, .br true, .br true, .br true, .br true] [] [0] (nd (spec.l7Batch.spec K a0 _ e1) (nd (rfl : (0 : Nat) = 0) (nd (rfl : a0.length = a0.length) (nd (nt c1) (nd (nt c1) (nd (nt c1) (nd (nt c1) (nd tt trivial)))))))) (by kernel_rfl)
def impl.in_.f (a0 : Int) (a1 : Int) (a2 : Int) : Option (Bool) :=
  cond (decide (a0 ≥ a1)) (some (decide (a0 ≤ a2))) (some false)
theorem impl.in_.spec (a0 : Int) (a1 : Int) (a2 : Int) (o : Bool) (h : impl.in_.f a0 a1 a2 = some o) : Den.Spec Try.prog 87 [one (.int .i64 a0), one (.int .i64 a1), one (.int .i64 a2)] [] (one (.bool o)) [] := by
  unfold impl.in_.f at h
  rcases br_cases h with ⟨c1, h⟩ | ⟨c1, h⟩
  · obtain rfl := Option.some.inj h
    exact Den.Spec.of_walk tab mixed Try.func87 (by kernel_rfl) [.br true, .br true, .br true, .br true] [] [] (nd c1 (nd c1 (nd c1 (nd c1 trivial)))) (by kernel_rfl)
  · obtain rfl := Option.some.inj h
    exact Den.Spec.of_walk tab mixed Try.func87 (by kernel_rfl) [.br false, .br false, .br false, .br false] [] [] (nd c1 (nd c1 (nd c1 (nd c1 trivial)))) (by kernel_rfl)
def impl.isBatch_1.f (a0 : Int) (a1 : ByteArray) (a2 : Int) (a3 : ByteArray) : Option (Unit) :=
  some ()
theorem impl.isBatch_1.spec (a0 : Int) (a1 : ByteArray) (a2 : Int) (a3 : ByteArray) (o : Unit) (h : impl.isBatch_1.f a0 a1 a2 a3 = some o) : Den.Spec Try.prog 123 [.v (.agg [.int .i64 a0, .str a1]), one (.ptr 0 0 0)] [some ⟨false, .cells [.int .i64 a2, .str a3]⟩] (one (.bool (a0 == a2))) [some ⟨false, .cells [.int .i64 a2, .str a3]⟩] := by
  unfold impl.isBatch_1.f at h
  obtain rfl := Option.some.inj h
  exact Den.Spec.of_walk tab mixed Try.func123 (by kernel_rfl) [] [] [0] trivial (by kernel_rfl)
def slices.IndexFunc_impl.Put_impl.Put.l0.f (a0 : List (Int × ByteArray)) (a1 : Int) (a2 : ByteArray) : Nat → Int → Option (Int ⊕ Unit)
  | 0, _ => none
  | k + 1, v31_0 =>
    cond (decide (v31_0 < (a0.length : Int))) (ck (0 ≤ v31_0) (Option.bind (impl.isBatch_1.f ((a0.getD v31_0.toNat (0, noVal)).1) ((a0.getD v31_0.toNat (0, noVal)).2) a1 a2) fun x1 => cond (((a0.getD v31_0.toNat (0, noVal)).1) == a1) (some (.inl v31_0)) (slices.IndexFunc_impl.Put_impl.Put.l0.f a0 a1 a2 k (w64 (v31_0 + 1))))) (some (.inr (())))
def slices.IndexFunc_impl.Put_impl.Put.l0.s (a0 : List (Int × ByteArray)) (a1 : Int) (a2 : ByteArray) (v31_0 : Int) : St := mkSt 19 [(0, one (.sl 1 0 a0.length)), (1, one (.fn 123 [(0, 0, 0)])), (7, one (.int .i64 (a0.length : Int))), (8, one (.int .i64 v31_0))] [some ⟨false, .cells [.int .i64 a1, .str a2]⟩, some ⟨false, .puts a0⟩]
def slices.IndexFunc_impl.Put_impl.Put.l0.e0 (a0 : List (Int × ByteArray)) (a1 : Int) (a2 : ByteArray) (o : Int) : St := mkSt 19 [(4, one (.int .i64 o))] [some ⟨false, .cells [.int .i64 a1, .str a2]⟩, some ⟨false, .puts a0⟩]
def slices.IndexFunc_impl.Put_impl.Put.l0.e1 (a0 : List (Int × ByteArray)) (a1 : Int) (a2 : ByteArray) (o : Unit) : St := mkSt 19 [] [some ⟨false, .cells [.int .i64 a1, .str a2]⟩, some ⟨false, .puts a0⟩]
def slices.IndexFunc_impl.Put_impl.Put.l0.x (a0 : List (Int × ByteArray)) (a1 : Int) (a2 : ByteArray) : (Int ⊕ Unit) → AExit × St := Sum.elim (fun o => (.ret, slices.IndexFunc_impl.Put_impl.Put.l0.e0 a0 a1 a2 o)) (fun o => (.exit 0, slices.IndexFunc_impl.Put_impl.Put.l0.e1 a0 a1 a2 o))
theorem slices.IndexFunc_impl.Put_impl.Put.l0.spec (a0 : List (Int × ByteArray)) (a1 : Int) (a2 : ByteArray) : ∀ (k : Nat) (v31_0 : Int) (o : Int ⊕ Unit), slices.IndexFunc_impl.Put_impl.Put.l0.f a0 a1 a2 k v31_0 = some o → LoopSpec Try.prog 2 (loopN Try.f129 0) (slices.IndexFunc_impl.Put_impl.Put.l0.s a0 a1 a2 v31_0) (slices.IndexFunc_impl.Put_impl.Put.l0.x a0 a1 a2 o).1 (slices.IndexFunc_impl.Put_impl.Put.l0.x a0 a1 a2 o).2
  | 0, _, _, h => by cases h
  | k + 1, v31_0, o, h => by
    unfold slices.IndexFunc_impl.Put_impl.Put.l0.f at h
    rcases br_cases h with ⟨c1, h⟩ | ⟨c1, h⟩
    · obtain ⟨p1, h⟩ := ck_some h
      obtain ⟨x1, e1, h⟩ := bind_some h
      rcases br_cases h with ⟨c2, h⟩ | ⟨c2, h⟩
      · obtain rfl := Option.some.inj h
        exact .of_done tab mixed [.br true, .call [(0, false)] [] (one (.bool (((a0.getD v31_0.toNat (0, noVal)).1) == a1))) [some ⟨false, .cells [.int .i64 a1, .str a2]⟩], .br true] [] [4] [0, 1] rfl (nd c1 (nd p1 (nd (of_decide_eq_true c1) (nd (tn p1 (of_decide_eq_true c1)) (nd (impl.isBatch_1.spec ((a0.getD v31_0.toNat (0, noVal)).1) ((a0.getD v31_0.toNat (0, noVal)).2) a1 a2 _ e1) (nd c2 trivial)))))) (by kernel_rfl)
      · exact .of_step tab mixed [.br true, .call [(0, false)] [] (one (.bool (((a0.getD v31_0.toNat (0, noVal)).1) == a1))) [some ⟨false, .cells [.int .i64 a1, .str a2]⟩], .br false] [] [0, 1, 7, 8] [0, 1] (s1 := slices.IndexFunc_impl.Put_impl.Put.l0.s a0 a1 a2 (w64 (v31_0 + 1))) (nd c1 (nd p1 (nd (of_decide_eq_true c1) (nd (tn p1 (of_decide_eq_true c1)) (nd (impl.isBatch_1.spec ((a0.getD v31_0.toNat (0, noVal)).1) ((a0.getD v31_0.toNat (0, noVal)).2) a1 a2 _ e1) (nd c2 trivial)))))) (by kernel_rfl) (slices.IndexFunc_impl.Put_impl.Put.l0.spec a0 a1 a2 k (w64 (v31_0 + 1)) _ h)
    · obtain rfl := Option.some.inj h
      exact .of_done tab mixed [.br false] [] [] [0, 1] rfl (nd c1 trivial) (by kernel_rfl)
def slices.IndexFunc_impl.Put_impl.Put.f (K : Nat) (a0 : List (Int × ByteArray)) (a1 : Int) (a2 : ByteArray) : Option (Int) :=
  Option.bind (slices.IndexFunc_impl.Put_impl.Put.l0.f a0 a1 a2 K 0) fun x1 => (Sum.elim (fun x1 => some x1) (fun x1 => some (-1))) x1
theorem slices.IndexFunc_impl.Put_impl.Put.spec (K : Nat) (a0 : List (Int × ByteArray)) (a1 : Int) (a2 : ByteArray) (o : Int) (h : slices.IndexFunc_impl.Put_impl.Put.f K a0 a1 a2 = some o) : Den.Spec Try.prog 129 [one (.sl 1 0 a0.length), one (.fn 123 [(0, 0, 0)])] [some ⟨false, .cells [.int .i64 a1, .str a2]⟩, some ⟨false, .puts a0⟩] (one (.int .i64 o)) [some ⟨false, .cells [.int .i64 a1, .str a2]⟩, some ⟨false, .puts a0⟩] := by
  unfold slices.IndexFunc_impl.Put_impl.Put.f at h
  obtain ⟨x1, e1, h⟩ := bind_some h
  rcases x1 with x1 | x1
  · obtain rfl := Option.some.inj h
    exact Den.Spec.of_walk tab mixed Try.func129 (by kernel_rfl) [.loop [] [0, 1, 7, 8] [0, 1] (.ret) (slices.IndexFunc_impl.Put_impl.Put.l0.e0 a0 a1 a2 x1)] [] [0, 1] (nd (slices.IndexFunc_impl.Put_impl.Put.l0.spec a0 a1 a2 K 0 _ e1) trivial) (by kernel_rfl)
  · obtain rfl := Option.some.inj h
    exact Den.Spec.of_walk tab mixed Try.func129 (by kernel_rfl) [.loop [] [0, 1, 7, 8] [0, 1] (.exit 0) (slices.IndexFunc_impl.Put_impl.Put.l0.e1 a0 a1 a2 x1)] [] [0, 1] (nd (slices.IndexFunc_impl.Put_impl.Put.l0.spec a0 a1 a2 K 0 _ e1) trivial) (by kernel_rfl)
def slices.ContainsFunc_impl.Put_impl.Put.f (K : Nat) (a0 : List (Int × ByteArray)) (a1 : Int) (a2 : ByteArray) : Option (Bool) :=
  Option.bind (slices.IndexFunc_impl.Put_impl.Put.f K a0 a1 a2) fun x1 => some (decide (x1 ≥ 0))
theorem slices.ContainsFunc_impl.Put_impl.Put.spec (K : Nat) (a0 : List (Int × ByteArray)) (a1 : Int) (a2 : ByteArray) (o : Bool) (h : slices.ContainsFunc_impl.Put_impl.Put.f K a0 a1 a2 = some o) : Den.Spec Try.prog 122 [one (.sl 1 0 a0.length), one (.fn 123 [(0, 0, 0)])] [some ⟨false, .cells [.int .i64 a1, .str a2]⟩, some ⟨false, .puts a0⟩] (one (.bool o)) [some ⟨false, .cells [.int .i64 a1, .str a2]⟩, some ⟨false, .puts a0⟩] := by
  unfold slices.ContainsFunc_impl.Put_impl.Put.f at h
  obtain ⟨x1, e1, h⟩ := bind_some h
  obtain rfl := Option.some.inj h
  exact Den.Spec.of_walk tab mixed Try.func122 (by kernel_rfl) [.call [(0, false)] [(0, true)] (one (.int .i64 x1)) [some ⟨false, .cells [.int .i64 a1, .str a2]⟩, some ⟨false, .puts a0⟩]] [] [0, 1] (nd (slices.IndexFunc_impl.Put_impl.Put.spec K a0 a1 a2 _ e1) (nd (rfl : (0 : Nat) = 0) (nd (rfl : a0.length = a0.length) trivial))) (by kernel_rfl)
def impl.isBatch.l0.f (K : Nat) (a0 : List (Int × ByteArray)) : Nat → Int → Option (Unit ⊕ Unit)
  | 0, _ => none
  | k + 1, v34_0 =>
    cond (decide (v34_0 < (a0.length : Int))) (ck (0 ≤ v34_0) (Option.bind (impl.in_.f ((a0.getD v34_0.toNat (0, noVal)).1) 0 23) fun x1 => cond (x1) (cond (decide ((((a0.getD v34_0.toNat (0, noVal)).2).size : Int) > 400)) (some (.inl ())) (ck (v34_0 ≤ (a0.length : Int)) (Option.bind (slices.ContainsFunc_impl.Put_impl.Put.f K ((a0.drop 0).take v34_0.toNat) ((a0.getD v34_0.toNat (0, noVal)).1) ((a0.getD v34_0.toNat (0, noVal)).2)) fun x2 => ck (0 + v34_0.toNat ≤ a0.length) (cond (x2) (some (.inl ())) (impl.isBatch.l0.f K a0 k (w64 (v34_0 + 1))))))) (some (.inl ())))) (some (.inr (())))
def impl.isBatch.l0.s (K : Nat) (a0 : List (Int × ByteArray)) (v34_0 : Int) : St := mkSt 33 [(0, one (.sl 0 0 a0.length)), (5, one (.sl 0 0 a0.length)), (6, one (.int .i64 (a0.length : Int))), (7, one (.int .i64 v34_0))] [some ⟨false, .puts a0⟩]
def impl.isBatch.l0.e0 (K : Nat) (a0 : List (Int × ByteArray)) (o : Unit) : St := mkSt 33 [(2, one (.bool false))] [some ⟨false, .puts a0⟩]
def impl.isBatch.l0.e1 (K : Nat) (a0 : List (Int × ByteArray)) (o : Unit) : St := mkSt 33 [(0, one (.sl 0 0 a0.length))] [some ⟨false, .puts a0⟩]
def impl.isBatch.l0.x (K : Nat) (a0 : List (Int × ByteArray)) : (Unit ⊕ Unit) → AExit × St := Sum.elim (fun o => (.ret, impl.isBatch.l0.e0 K a0 o)) (fun o => (.exit 0, impl.isBatch.l0.e1 K a0 o))
theorem impl.isBatch.l0.spec (K : Nat) (a0 : List (Int × ByteArray)) : ∀ (k : Nat) (v34_0 : Int) (o : Unit ⊕ Unit), impl.isBatch.l0.f K a0 k v34_0 = some o → LoopSpec Try.prog 1 (loopN Try.f100 0) (impl.isBatch.l0.s K a0 v34_0) (impl.isBatch.l0.x K a0 o).1 (impl.isBatch.l0.x K a0 o).2
  | 0, _, _, h => by cases h
  | k + 1, v34_0, o, h => by
    unfold impl.isBatch.l0.f at h
    rcases br_cases h with ⟨c1, h⟩ | ⟨c1, h⟩
    · obtain ⟨p1, h⟩ := ck_some h
      obtain ⟨x1, e1, h⟩ := bind_some h
      rcases br_cases h with ⟨c2, h⟩ | ⟨c2, h⟩
      · rcases br_cases h with ⟨c3, h⟩ | ⟨c3, h⟩
        · obtain rfl := Option.some.inj h
          exact .of_done tab mixed [.br true, .call [] [] (one (.bool x1)) [], .br false, .br false, .br false, .br false, .br false, .br true, .br true, .br true, .br true, .br true, .br true, .br true] [] [2] [0] rfl (nd c1 (nd p1 (nd (of_decide_eq_true c1) (nd (tn p1 (of_decide_eq_true c1)) (nd (impl.in_.spec ((a0.getD v34_0.toNat (0, noVal)).1) 0 23 _ e1) (nd (nf c2) (nd (nf c2) (nd (nf c2) (nd (nf c2) (nd (nf c2) (nd c3 (nd c3 (nd c3 (nd c3 (nd c3 (nd c3 (nd tt trivial))))))))))))))))) (by kernel_rfl)
        · obtain ⟨p2, h⟩ := ck_some h
          obtain ⟨x2, e2, h⟩ := bind_some h
          obtain ⟨p3, h⟩ := ck_some h
          rcases br_cases h with ⟨c4, h⟩ | ⟨c4, h⟩
          · obtain rfl := Option.some.inj h
            exact .of_done tab mixed [.br true, .call [] [] (one (.bool x1)) [], .br false, .br false, .br false, .br false, .br false, .br false, .br false, .br false, .br false, .br false, .call [(1, false)] [(0, false)] (one (.bool x2)) [some ⟨false, .cells [.int .i64 ((a0.getD v34_0.toNat (0, noVal)).1), .str ((a0.getD v34_0.toNat (0, noVal)).2)]⟩, some ⟨false, .puts ((a0.drop 0).take v34_0.toNat)⟩], .br false, .br true] [] [2] [0] rfl (nd c1 (nd p1 (nd (of_decide_eq_true c1) (nd (tn p1 (of_decide_eq_true c1)) (nd (impl.in_.spec ((a0.getD v34_0.toNat (0, noVal)).1) 0 23 _ e1) (nd (nf c2) (nd (nf c2) (nd (nf c2) (nd (nf c2) (nd (nf c2) (nd c3 (nd c3 (nd c3 (nd (Int.le_refl 0) (nd p1 (nd p2 (nd c3 (nd c3 (nd ((slices.ContainsFunc_impl.Put_impl.Put.spec K ((a0.drop 0).take v34_0.toNat) ((a0.getD v34_0.toNat (0, noVal)).1) ((a0.getD v34_0.toNat (0, noVal)).2) _ e2).args (congrArg (fun n => ([one (.sl 1 0 n), one (.fn 123 [(0, 0, 0)])] : List AV)) (win_len p3))) (nd c3 (nd c4 trivial))))))))))))))))))))) (by kernel_rfl)
          · exact .of_step tab mixed [.br true, .call [] [] (one (.bool x1)) [], .br false, .br false, .br false, .br false, .br false, .br false, .br false, .br false, .br false, .br false, .call [(1, false)] [(0, false)] (one (.bool x2)) [some ⟨false, .cells [.int .i64 ((a0.getD v34_0.toNat (0, noVal)).1), .str ((a0.getD v34_0.toNat (0, noVal)).2)]⟩, some ⟨false, .puts ((a0.drop 0).take v34_0.toNat)⟩], .br false, .br false] [] [0, 5, 6, 7] [0] (s1 := impl.isBatch.l0.s K a0 (w64 (v34_0 + 1))) (nd c1 (nd p1 (nd (of_decide_eq_true c1) (nd (tn p1 (of_decide_eq_true c1)) (nd (impl.in_.spec ((a0.getD v34_0.toNat (0, noVal)).1) 0 23 _ e1) (nd (nf c2) (nd (nf c2) (nd (nf c2) (nd (nf c2) (nd (nf c2) (nd c3 (nd c3 (nd c3 (nd (Int.le_refl 0) (nd p1 (nd p2 (nd c3 (nd c3 (nd ((slices.ContainsFunc_impl.Put_impl.Put.spec K ((a0.drop 0).take v34_0.toNat) ((a0.getD v34_0.toNat (0, noVal)).1) ((a0.getD v34_0.toNat (0, noVal)).2) _ e2).args (congrArg (fun n => ([one (.sl 1 0 n), one (.fn 123 [(0, 0, 0)])] : List AV)) (win_len p3))) (nd c3 (nd c4 trivial))))))))))))))))))))) (by kernel_rfl) (impl.isBatch.l0.spec K a0 k (w64 (v34_0 + 1)) _ h)
      · obtain rfl := Option.some.inj h
        exact .of_done tab mixed [.br true, .call [] [] (one (.bool x1)) [], .br true, .br true, .br true, .br true, .br true, .br true, .br true, .br true, .br true, .br true, .br true, .br true] [] [2] [0] rfl (nd c1 (nd p1 (nd (of_decide_eq_true c1) (nd (tn p1 (of_decide_eq_true c1)) (nd (impl.in_.spec ((a0.getD v34_0.toNat (0, noVal)).1) 0 23 _ e1) (nd (nt c2) (nd (nt c2) (nd (nt c2) (nd (nt c2) (nd (nt c2) (nd tt (nd tt (nd tt (nd tt (nd tt (nd tt (nd tt trivial))))))))))))))))) (by kernel_rfl)
    · obtain rfl := Option.some.inj h
      exact .of_done tab mixed [.br false] [] [0] [0] rfl (nd c1 trivial) (by kernel_rfl)
def impl.isBatch.f (K : Nat) (a0 : List (Int × ByteArray)) : Option (Bool) :=
  Option.bind (impl.isBatch.l0.f K a0 K 0) fun x1 => (Sum.elim (fun x1 => some false) (fun x1 => some (decide ((a0.length : Int) ≤ 3)))) x1
theorem impl.isBatch.spec (K : Nat) (a0 : List (Int × ByteArray)) (o : Bool) (h : impl.isBatch.f K a0 = some o) : Den.Spec Try.prog 100 [one (.sl 0 0 a0.length)] [some ⟨false, .puts a0⟩] (one (.bool o)) [some ⟨false, .puts a0⟩] := by
  unfold impl.isBatch.f at h
  obtain ⟨x1, e1, h⟩ := bind_some h
  rcases x1 with x1 | x1
  · obtain rfl := Option.some.inj h
    exact Den.Spec.of_walk tab mixed Try.func100 (by kernel_rfl) [.loop [] [0, 5, 6, 7] [0] (.ret) (impl.isBatch.l0.e0 K a0 x1)] [] [0] (nd (impl.isBatch.l0.spec K a0 K 0 _ e1) trivial) (by kernel_rfl)
  · obtain rfl := Option.some.inj h
    exact Den.Spec.of_walk tab mixed Try.func100 (by kernel_rfl) [.loop [] [0, 5, 6, 7] [0] (.exit 0) (impl.isBatch.l0.e1 K a0 x1)] [] [0] (nd (impl.isBatch.l0.spec K a0 K 0 _ e1) trivial) (by kernel_rfl)
def impl.PutNum.l0.f : Nat → Int → (List Int) → Option (Int × (List Int))
  | 0, _, _ => none
  | k + 1, v37_0, v37_1 =>
    cond (decide (v37_0 > 127)) (ck ((v37_1 ++ [IntKind.u8.wrap (bits2 .i64 (· ||| ·) (bits2 .i64 (· &&& ·) v37_0 127) 128)]).length * 1 ≤ 70368744177664) (impl.PutNum.l0.f k (v37_0.fdiv (2 ^ 7)) (v37_1 ++ [IntKind.u8.wrap (bits2 .i64 (· ||| ·) (bits2 .i64 (· &&& ·) v37_0 127) 128)]))) (some (v37_0, v37_1))
def impl.PutNum.l0.s (v37_0 : Int) (v37_1 : List Int) : St := mkSt 24 [(0, one (.int .i64 v37_0)), (3, one (.sl 0 0 v37_1.length))] [some ⟨true, .ints .u8 v37_1⟩]
def impl.PutNum.l0.e0 (o : Int × (List Int)) : St := mkSt 24 [(0, one (.int .i64 o.1)), (3, one (.sl 0 0 o.2.length))] [some ⟨true, .ints .u8 o.2⟩]
def impl.PutNum.l0.x : (Int × (List Int)) → AExit × St := fun o => (.exit 0, impl.PutNum.l0.e0 o)
theorem impl.PutNum.l0.spec : ∀ (k : Nat) (v37_0 : Int) (v37_1 : List Int) (o : Int × (List Int)), impl.PutNum.l0.f k v37_0 v37_1 = some o → LoopSpec Try.prog 0 (loopN Try.f20 0) (impl.PutNum.l0.s v37_0 v37_1) (impl.PutNum.l0.x o).1 (impl.PutNum.l0.x o).2
  | 0, _, _, _, h => by cases h
  | k + 1, v37_0, v37_1, o, h => by
    unfold impl.PutNum.l0.f at h
    rcases br_cases h with ⟨c1, h⟩ | ⟨c1, h⟩
    · obtain ⟨p1, h⟩ := ck_some h
      exact .of_step tab mixed [.br true, .br true] [] [0, 3] [2] (s1 := impl.PutNum.l0.s (v37_0.fdiv (2 ^ 7)) (v37_1 ++ [IntKind.u8.wrap (bits2 .i64 (· ||| ·) (bits2 .i64 (· &&& ·) v37_0 127) 128)])) (nd c1 (nd (rfl : (0 : Nat) = 0) (nd (rfl : v37_1.length = v37_1.length) (nd p1 (nd (rfl : (0 : Nat) = 0) (nd (rfl : 1 = 1) (nd (by decide : (0 : Int) ≤ 7) trivial))))))) (by kernel_rfl) (impl.PutNum.l0.spec k (v37_0.fdiv (2 ^ 7)) (v37_1 ++ [IntKind.u8.wrap (bits2 .i64 (· ||| ·) (bits2 .i64 (· &&& ·) v37_0 127) 128)]) _ h)
    · obtain rfl := Option.some.inj h
      exact .of_done tab mixed [.br false] [] [0, 3] [0] rfl (nd c1 trivial) (by kernel_rfl)
def impl.PutNum.f (K : Nat) (a0 : Int) : Option ((List Int)) :=
  Option.bind (impl.in_.f a0 0 1000000000) fun x1 => cond (x1) (Option.bind (impl.PutNum.l0.f K a0 []) fun x2 => ck ((x2.2 ++ [IntKind.u8.wrap x2.1]).length * 1 ≤ 70368744177664) (some (x2.2 ++ [IntKind.u8.wrap x2.1]))) (some [])
theorem impl.PutNum.spec (K : Nat) (a0 : Int) (o : (List Int)) (h : impl.PutNum.f K a0 = some o) : Den.Spec Try.prog 20 [one (.int .i64 a0)] [] (one (.sl 0 0 o.length)) [some ⟨true, .ints .u8 o⟩] := by
  unfold impl.PutNum.f at h
  obtain ⟨x1, e1, h⟩ := bind_some h
  rcases br_cases h with ⟨c1, h⟩ | ⟨c1, h⟩
  · obtain ⟨x2, e2, h⟩ := bind_some h
    obtain ⟨p1, h⟩ := ck_some h
    obtain rfl := Option.some.inj h
    exact Den.Spec.of_walk tab mixed Try.func20 (by kernel_rfl) [.call [] [] (one (.bool x1)) [], .br false, .loop [] [0, 3] [0] (.exit 0) (impl.PutNum.l0.e0 x2), .br true] [] [2] (nd (impl.in_.spec a0 0 1000000000 _ e1) (nd (nf c1) (nd (impl.PutNum.l0.spec K a0 [] _ e2) (nd (rfl : (0 : Nat) = 0) (nd (rfl : x2.2.length = x2.2.length) (nd p1 (nd (rfl : (0 : Nat) = 0) (nd (rfl : 1 = 1) trivial)))))))) (by kernel_rfl)
  · obtain rfl := Option.some.inj h
    exact Den.Spec.of_walk tab mixed Try.func20 (by kernel_rfl) [.call [] [] (one (.bool x1)) [], .br true] [(2, [.ints .u8])] [0] (nd (impl.in_.spec a0 0 1000000000 _ e1) (nd (nt c1) trivial)) (by kernel_rfl)
def impl.PutText.f (K : Nat) (a0 : ByteArray) : Option ((List Int)) :=
  cond (decide ((a0.size : Int) > 400)) (some []) (Option.bind (impl.PutNum.f K (a0.size : Int)) fun x1 => ck ((x1 ++ (bytesL a0)).length * 1 ≤ 70368744177664) (some (x1 ++ (bytesL a0))))
theorem impl.PutText.spec (K : Nat) (a0 : ByteArray) (o : (List Int)) (h : impl.PutText.f K a0 = some o) : Den.Spec Try.prog 27 [one (.str a0)] [] (one (.sl 0 0 o.length)) [some ⟨true, .ints .u8 o⟩] := by
  unfold impl.PutText.f at h
  rcases br_cases h with ⟨c1, h⟩ | ⟨c1, h⟩
  · obtain rfl := Option.some.inj h
    exact Den.Spec.of_walk tab mixed Try.func27 (by kernel_rfl) [.br true] [(2, [.ints .u8])] [0] (nd c1 trivial) (by kernel_rfl)
  · obtain ⟨x1, e1, h⟩ := bind_some h
    obtain ⟨p1, h⟩ := ck_some h
    obtain rfl := Option.some.inj h
    exact Den.Spec.of_walk tab mixed Try.func27 (by kernel_rfl) [.br false, .call [] [] (one (.sl 0 0 x1.length)) [some ⟨true, .ints .u8 x1⟩]] [] [1] (nd c1 (nd (impl.PutNum.spec K (a0.size : Int) _ e1) (nd (rfl : (0 : Nat) = 0) (nd (rfl : x1.length = x1.length) (nd p1 trivial))))) (by kernel_rfl)
def slices.Grow_byte_byte.f (a0 : Int) : Option ((List Int) × Nat) :=
  cond (decide (a0 < 0)) (none) (cond (decide ((w64 (a0 - 0)) > 0)) (ck (((w64 (a0 - 0)) * (1 : Int)) ≤ 70368744177664) (some (List.replicate (w64 (a0 - 0)).toNat (0 : Int), 0))) (some ([], 0)))
theorem slices.Grow_byte_byte.spec (a0 : Int) (o : (List Int) × Nat) (h : slices.Grow_byte_byte.f a0 = some o) : Den.Spec Try.prog 124 [one (.nil), one (.int .i64 a0)] [] (one (.sl 0 0 o.2)) [some ⟨true, .ints .u8 o.1⟩] := by
  unfold slices.Grow_byte_byte.f at h
  rcases br_cases h with ⟨c1, h⟩ | ⟨c1, h⟩
  · cases h
  · rcases br_cases h with ⟨c2, h⟩ | ⟨c2, h⟩
    · obtain ⟨p1, h⟩ := ck_some h
      obtain rfl := Option.some.inj h
      exact Den.Spec.of_walk tab mixed Try.func124 (by kernel_rfl) [.br false, .br true] [] [0] (nd c1 (nd c2 (nd (rfl : (0 : Int) = 0) (nd (rfl : (0 : Int) = 0) (nd (of_decide_eq_true c2) (nd p1 (nd (Int.le_refl 0) (nd (Int.le_refl 0) (nd (Int.natCast_nonneg ((List.replicate (w64 (a0 - 0)).toNat (0 : Int)).length)) trivial))))))))) (by kernel_rfl)
    · obtain rfl := Option.some.inj h
      exact Den.Spec.of_walk tab mixed Try.func124 (by kernel_rfl) [.br false, .br false] [(4, [.ints .u8])] [0] (nd c1 (nd c2 trivial)) (by kernel_rfl)
def slices.Concat_byte_byte.f (a0 : List Int) (a1 : List Int) (a2 : List Int) : Option ((List Int)) :=
  ck (0 < (3 : Int)) (cond (decide ((w64 (0 + (a0.length : Int))) < 0)) (none) (ck (1 < (3 : Int)) (cond (decide ((w64 ((w64 (0 + (a0.length : Int))) + (a1.length : Int))) < 0)) (none) (ck (2 < (3 : Int)) (cond (decide ((w64 ((w64 ((w64 (0 + (a0.length : Int))) + (a1.length : Int))) + (a2.length : Int))) < 0)) (none) (Option.bind (slices.Grow_byte_byte.f (w64 ((w64 ((w64 (0 + (a0.length : Int))) + (a1.length : Int))) + (a2.length : Int)))) fun x1 => ck (x1.2 ≤ x1.1.length) (ck ((((x1.1.drop 0).take x1.2) ++ a0).length * 1 ≤ 70368744177664) (ck (((((x1.1.drop 0).take x1.2) ++ a0) ++ a1).length * 1 ≤ 70368744177664) (ck ((((((x1.1.drop 0).take x1.2) ++ a0) ++ a1) ++ a2).length * 1 ≤ 70368744177664) (some (((((x1.1.drop 0).take x1.2) ++ a0) ++ a1) ++ a2)))))))))))
theorem slices.Concat_byte_byte.spec (a0 : List Int) (a1 : List Int) (a2 : List Int) (o : (List Int)) (h : slices.Concat_byte_byte.f a0 a1 a2 = some o) : Den.Spec Try.prog 101 [one (.sl 0 0 3)] [some ⟨false, .refs [.sl 1 0 a0.length, .sl 2 0 a1.length, .sl 3 0 a2.length]⟩, some ⟨false, .ints .u8 a0⟩, some ⟨false, .ints .u8 a1⟩, some ⟨false, .ints .u8 a2⟩] (one (.sl 4 0 o.length)) [some ⟨false, .refs [.sl 1 0 a0.length, .sl 2 0 a1.length, .sl 3 0 a2.length]⟩, some ⟨false, .ints .u8 a0⟩, some ⟨false, .ints .u8 a1⟩, some ⟨false, .ints .u8 a2⟩, some ⟨true, .ints .u8 o⟩] := by
  unfold slices.Concat_byte_byte.f at h
  obtain ⟨p1, h⟩ := ck_some h
  rcases br_cases h with ⟨c1, h⟩ | ⟨c1, h⟩
  · cases h
  · obtain ⟨p2, h⟩ := ck_some h
    rcases br_cases h with ⟨c2, h⟩ | ⟨c2, h⟩
    · cases h
    · obtain ⟨p3, h⟩ := ck_some h
      rcases br_cases h with ⟨c3, h⟩ | ⟨c3, h⟩
      · cases h
      · obtain ⟨x1, e1, h⟩ := bind_some h
        obtain ⟨p4, h⟩ := ck_some h
        obtain ⟨p5, h⟩ := ck_some h
        obtain ⟨p6, h⟩ := ck_some h
        obtain ⟨p7, h⟩ := ck_some h
        obtain rfl := Option.some.inj h
        exact Den.Spec.of_walk tab mixed Try.func101 (by kernel_rfl) [.loop [] [0, 3, 9, 10, 11] [0, 1, 2, 3] (.exit 0) (mkSt 36 [(0, one (.sl 0 0 3)), (3, one (.int .i64 (w64 ((w64 ((w64 (0 + (a0.length : Int))) + (a1.length : Int))) + (a2.length : Int)))))] [some ⟨false, .refs [.sl 1 0 a0.length, .sl 2 0 a1.length, .sl 3 0 a2.length]⟩, some ⟨false, .ints .u8 a0⟩, some ⟨false, .ints .u8 a1⟩, some ⟨false, .ints .u8 a2⟩]), .asis, .call [] [] (one (.sl 0 0 x1.2)) [some ⟨true, .ints .u8 x1.1⟩], .loop [] [6, 25, 26, 27] [0, 1, 2, 3, 4] (.exit 2) (mkSt 36 [(6, one (.sl 4 0 ((((((x1.1.drop 0).take x1.2) ++ a0) ++ a1) ++ a2).length)))] [some ⟨false, .refs [.sl 1 0 a0.length, .sl 2 0 a1.length, .sl 3 0 a2.length]⟩, some ⟨false, .ints .u8 a0⟩, some ⟨false, .ints .u8 a1⟩, some ⟨false, .ints .u8 a2⟩, some ⟨true, .ints .u8 (((((x1.1.drop 0).take x1.2) ++ a0) ++ a1) ++ a2)⟩])] [] [0, 1, 2, 3, 4] (nd (LoopSpec.of_step tab mixed [.br true, .br false] [] [0, 3, 9, 10, 11] [0, 1, 2, 3] (s1 := mkSt 36 [(0, one (.sl 0 0 3)), (3, one (.int .i64 (w64 (0 + (a0.length : Int))))), (9, one (.sl 0 0 3)), (10, one (.int .i64 3)), (11, one (.int .i64 1))] [some ⟨false, .refs [.sl 1 0 a0.length, .sl 2 0 a1.length, .sl 3 0 a2.length]⟩, some ⟨false, .ints .u8 a0⟩, some ⟨false, .ints .u8 a1⟩, some ⟨false, .ints .u8 a2⟩]) (nd tt (nd (Int.le_refl 0) (nd p1 (nd c1 trivial)))) (by kernel_rfl) (LoopSpec.of_step tab mixed [.br true, .br false] [] [0, 3, 9, 10, 11] [0, 1, 2, 3] (s1 := mkSt 36 [(0, one (.sl 0 0 3)), (3, one (.int .i64 (w64 ((w64 (0 + (a0.length : Int))) + (a1.length : Int))))), (9, one (.sl 0 0 3)), (10, one (.int .i64 3)), (11, one (.int .i64 2))] [some ⟨false, .refs [.sl 1 0 a0.length, .sl 2 0 a1.length, .sl 3 0 a2.length]⟩, some ⟨false, .ints .u8 a0⟩, some ⟨false, .ints .u8 a1⟩, some ⟨false, .ints .u8 a2⟩]) (nd tt (nd (by decide : (0 : Int) ≤ 1) (nd p2 (nd c2 trivial)))) (by kernel_rfl) (LoopSpec.of_step tab mixed [.br true, .br false] [] [0, 3, 9, 10, 11] [0, 1, 2, 3] (s1 := mkSt 36 [(0, one (.sl 0 0 3)), (3, one (.int .i64 (w64 ((w64 ((w64 (0 + (a0.length : Int))) + (a1.length : Int))) + (a2.length : Int))))), (9, one (.sl 0 0 3)), (10, one (.int .i64 3)), (11, one (.int .i64 3))] [some ⟨false, .refs [.sl 1 0 a0.length, .sl 2 0 a1.length, .sl 3 0 a2.length]⟩, some ⟨false, .ints .u8 a0⟩, some ⟨false, .ints .u8 a1⟩, some ⟨false, .ints .u8 a2⟩]) (nd tt (nd (by decide : (0 : Int) ≤ 2) (nd p3 (nd c3 trivial)))) (by kernel_rfl) (LoopSpec.of_done tab mixed [.br false] [] [0, 3] [0, 1, 2, 3] rfl (nd ff trivial) (by kernel_rfl) : LoopSpec Try.prog 4 (loopN Try.f101 0) (mkSt 36 [(0, one (.sl 0 0 3)), (3, one (.int .i64 (w64 ((w64 ((w64 (0 + (a0.length : Int))) + (a1.length : Int))) + (a2.length : Int))))), (9, one (.sl 0 0 3)), (10, one (.int .i64 3)), (11, one (.int .i64 3))] [some ⟨false, .refs [.sl 1 0 a0.length, .sl 2 0 a1.length, .sl 3 0 a2.length]⟩, some ⟨false, .ints .u8 a0⟩, some ⟨false, .ints .u8 a1⟩, some ⟨false, .ints .u8 a2⟩]) (.exit 0) (mkSt 36 [(0, one (.sl 0 0 3)), (3, one (.int .i64 (w64 ((w64 ((w64 (0 + (a0.length : Int))) + (a1.length : Int))) + (a2.length : Int)))))] [some ⟨false, .refs [.sl 1 0 a0.length, .sl 2 0 a1.length, .sl 3 0 a2.length]⟩, some ⟨false, .ints .u8 a0⟩, some ⟨false, .ints .u8 a1⟩, some ⟨false, .ints .u8 a2⟩])) : LoopSpec Try.prog 4 (loopN Try.f101 0) (mkSt 36 [(0, one (.sl 0 0 3)), (3, one (.int .i64 (w64 ((w64 (0 + (a0.length : Int))) + (a1.length : Int))))), (9, one (.sl 0 0 3)), (10, one (.int .i64 3)), (11, one (.int .i64 2))] [some ⟨false, .refs [.sl 1 0 a0.length, .sl 2 0 a1.length, .sl 3 0 a2.length]⟩, some ⟨false, .ints .u8 a0⟩, some ⟨false, .ints .u8 a1⟩, some ⟨false, .ints .u8 a2⟩]) (.exit 0) (mkSt 36 [(0, one (.sl 0 0 3)), (3, one (.int .i64 (w64 ((w64 ((w64 (0 + (a0.length : Int))) + (a1.length : Int))) + (a2.length : Int)))))] [some ⟨false, .refs [.sl 1 0 a0.length, .sl 2 0 a1.length, .sl 3 0 a2.length]⟩, some ⟨false, .ints .u8 a0⟩, some ⟨false, .ints .u8 a1⟩, some ⟨false, .ints .u8 a2⟩])) : LoopSpec Try.prog 4 (loopN Try.f101 0) (mkSt 36 [(0, one (.sl 0 0 3)), (3, one (.int .i64 (w64 (0 + (a0.length : Int))))), (9, one (.sl 0 0 3)), (10, one (.int .i64 3)), (11, one (.int .i64 1))] [some ⟨false, .refs [.sl 1 0 a0.length, .sl 2 0 a1.length, .sl 3 0 a2.length]⟩, some ⟨false, .ints .u8 a0⟩, some ⟨false, .ints .u8 a1⟩, some ⟨false, .ints .u8 a2⟩]) (.exit 0) (mkSt 36 [(0, one (.sl 0 0 3)), (3, one (.int .i64 (w64 ((w64 ((w64 (0 + (a0.length : Int))) + (a1.length : Int))) + (a2.length : Int)))))] [some ⟨false, .refs [.sl 1 0 a0.length, .sl 2 0 a1.length, .sl 3 0 a2.length]⟩, some ⟨false, .ints .u8 a0⟩, some ⟨false, .ints .u8 a1⟩, some ⟨false, .ints .u8 a2⟩])) : LoopSpec Try.prog 4 (loopN Try.f101 0) (mkSt 36 [(0, one (.sl 0 0 3)), (3, one (.int .i64 0)), (9, one (.sl 0 0 3)), (10, one (.int .i64 3)), (11, one (.int .i64 0))] [some ⟨false, .refs [.sl 1 0 a0.length, .sl 2 0 a1.length, .sl 3 0 a2.length]⟩, some ⟨false, .ints .u8 a0⟩, some ⟨false, .ints .u8 a1⟩, some ⟨false, .ints .u8 a2⟩]) (.exit 0) (mkSt 36 [(0, one (.sl 0 0 3)), (3, one (.int .i64 (w64 ((w64 ((w64 (0 + (a0.length : Int))) + (a1.length : Int))) + (a2.length : Int)))))] [some ⟨false, .refs [.sl 1 0 a0.length, .sl 2 0 a1.length, .sl 3 0 a2.length]⟩, some ⟨false, .ints .u8 a0⟩, some ⟨false, .ints .u8 a1⟩, some ⟨false, .ints .u8 a2⟩])) (nd (slices.Grow_byte_byte.spec (w64 ((w64 ((w64 (0 + (a0.length : Int))) + (a1.length : Int))) + (a2.length : Int))) _ e1) (nd (LoopSpec.of_step tab mixed [.br true, .br true, .cut] [] [6, 25, 26, 27] [0, 1, 2, 3, 5] (s1 := mkSt 36 [(6, one (.sl 4 0 ((((x1.1.drop 0).take x1.2) ++ a0).length))), (25, one (.sl 0 0 3)), (26, one (.int .i64 3)), (27, one (.int .i64 1))] [some ⟨false, .refs [.sl 1 0 a0.length, .sl 2 0 a1.length, .sl 3 0 a2.length]⟩, some ⟨false, .ints .u8 a0⟩, some ⟨false, .ints .u8 a1⟩, some ⟨false, .ints .u8 a2⟩, some ⟨true, .ints .u8 (((x1.1.drop 0).take x1.2) ++ a0)⟩]) (nd tt (nd (Int.le_refl 0) (nd p1 (nd (rfl : (0 : Nat) = 0) (nd p4 (nd p5 (nd (rfl : (0 : Nat) = 0) (nd (rfl : a0.length = a0.length) trivial)))))))) (by kernel_rfl) (LoopSpec.of_step tab mixed [.br true, .br true] [] [6, 25, 26, 27] [0, 1, 2, 3, 5] (s1 := mkSt 36 [(6, one (.sl 4 0 (((((x1.1.drop 0).take x1.2) ++ a0) ++ a1).length))), (25, one (.sl 0 0 3)), (26, one (.int .i64 3)), (27, one (.int .i64 2))] [some ⟨false, .refs [.sl 1 0 a0.length, .sl 2 0 a1.length, .sl 3 0 a2.length]⟩, some ⟨false, .ints .u8 a0⟩, some ⟨false, .ints .u8 a1⟩, some ⟨false, .ints .u8 a2⟩, some ⟨true, .ints .u8 ((((x1.1.drop 0).take x1.2) ++ a0) ++ a1)⟩]) (nd tt (nd (by decide : (0 : Int) ≤ 1) (nd p2 (nd (rfl : (0 : Nat) = 0) (nd (rfl : (((x1.1.drop 0).take x1.2) ++ a0).length = (((x1.1.drop 0).take x1.2) ++ a0).length) (nd p6 (nd (rfl : (0 : Nat) = 0) (nd (rfl : a1.length = a1.length) trivial)))))))) (by kernel_rfl) (LoopSpec.of_step tab mixed [.br true, .br true] [] [6, 25, 26, 27] [0, 1, 2, 3, 5] (s1 := mkSt 36 [(6, one (.sl 4 0 ((((((x1.1.drop 0).take x1.2) ++ a0) ++ a1) ++ a2).length))), (25, one (.sl 0 0 3)), (26, one (.int .i64 3)), (27, one (.int .i64 3))] [some ⟨false, .refs [.sl 1 0 a0.length, .sl 2 0 a1.length, .sl 3 0 a2.length]⟩, some ⟨false, .ints .u8 a0⟩, some ⟨false, .ints .u8 a1⟩, some ⟨false, .ints .u8 a2⟩, some ⟨true, .ints .u8 (((((x1.1.drop 0).take x1.2) ++ a0) ++ a1) ++ a2)⟩]) (nd tt (nd (by decide : (0 : Int) ≤ 2) (nd p3 (nd (rfl : (0 : Nat) = 0) (nd (rfl : ((((x1.1.drop 0).take x1.2) ++ a0) ++ a1).length = ((((x1.1.drop 0).take x1.2) ++ a0) ++ a1).length) (nd p7 (nd (rfl : (0 : Nat) = 0) (nd (rfl : a2.length = a2.length) trivial)))))))) (by kernel_rfl) (LoopSpec.of_done tab mixed [.br false] [] [6] [0, 1, 2, 3, 4] rfl (nd ff trivial) (by kernel_rfl) : LoopSpec Try.prog 4 (loopN Try.f101 1) (mkSt 36 [(6, one (.sl 4 0 ((((((x1.1.drop 0).take x1.2) ++ a0) ++ a1) ++ a2).length))), (25, one (.sl 0 0 3)), (26, one (.int .i64 3)), (27, one (.int .i64 3))] [some ⟨false, .refs [.sl 1 0 a0.length, .sl 2 0 a1.length, .sl 3 0 a2.length]⟩, some ⟨false, .ints .u8 a0⟩, some ⟨false, .ints .u8 a1⟩, some ⟨false, .ints .u8 a2⟩, some ⟨true, .ints .u8 (((((x1.1.drop 0).take x1.2) ++ a0) ++ a1) ++ a2)⟩]) (.exit 2) (mkSt 36 [(6, one (.sl 4 0 ((((((x1.1.drop 0).take x1.2) ++ a0) ++ a1) ++ a2).length)))] [some ⟨false, .refs [.sl 1 0 a0.length, .sl 2 0 a1.length, .sl 3 0 a2.length]⟩, some ⟨false, .ints .u8 a0⟩, some ⟨false, .ints .u8 a1⟩, some ⟨false, .ints .u8 a2⟩, some ⟨true, .ints .u8 (((((x1.1.drop 0).take x1.2) ++ a0) ++ a1) ++ a2)⟩])) : LoopSpec Try.prog 4 (loopN Try.f101 1) (mkSt 36 [(6, one (.sl 4 0 (((((x1.1.drop 0).take x1.2) ++ a0) ++ a1).length))), (25, one (.sl 0 0 3)), (26, one (.int .i64 3)), (27, one (.int .i64 2))] [some ⟨false, .refs [.sl 1 0 a0.length, .sl 2 0 a1.length, .sl 3 0 a2.length]⟩, some ⟨false, .ints .u8 a0⟩, some ⟨false, .ints .u8 a1⟩, some ⟨false, .ints .u8 a2⟩, some ⟨true, .ints .u8 ((((x1.1.drop 0).take x1.2) ++ a0) ++ a1)⟩]) (.exit 2) (mkSt 36 [(6, one (.sl 4 0 ((((((x1.1.drop 0).take x1.2) ++ a0) ++ a1) ++ a2).length)))] [some ⟨false, .refs [.sl 1 0 a0.length, .sl 2 0 a1.length, .sl 3 0 a2.length]⟩, some ⟨false, .ints .u8 a0⟩, some ⟨false, .ints .u8 a1⟩, some ⟨false, .ints .u8 a2⟩, some ⟨true, .ints .u8 (((((x1.1.drop 0).take x1.2) ++ a0) ++ a1) ++ a2)⟩])) : LoopSpec Try.prog 4 (loopN Try.f101 1) (mkSt 36 [(6, one (.sl 4 0 ((((x1.1.drop 0).take x1.2) ++ a0).length))), (25, one (.sl 0 0 3)), (26, one (.int .i64 3)), (27, one (.int .i64 1))] [some ⟨false, .refs [.sl 1 0 a0.length, .sl 2 0 a1.length, .sl 3 0 a2.length]⟩, some ⟨false, .ints .u8 a0⟩, some ⟨false, .ints .u8 a1⟩, some ⟨false, .ints .u8 a2⟩, some ⟨true, .ints .u8 (((x1.1.drop 0).take x1.2) ++ a0)⟩]) (.exit 2) (mkSt 36 [(6, one (.sl 4 0 ((((((x1.1.drop 0).take x1.2) ++ a0) ++ a1) ++ a2).length)))] [some ⟨false, .refs [.sl 1 0 a0.length, .sl 2 0 a1.length, .sl 3 0 a2.length]⟩, some ⟨false, .ints .u8 a0⟩, some ⟨false, .ints .u8 a1⟩, some ⟨false, .ints .u8 a2⟩, some ⟨true, .ints .u8 (((((x1.1.drop 0).take x1.2) ++ a0) ++ a1) ++ a2)⟩])) : LoopSpec Try.prog 4 (loopN Try.f101 1) (mkSt 36 [(6, one (.sl 4 0 x1.2)), (25, one (.sl 0 0 3)), (26, one (.int .i64 3)), (27, one (.int .i64 0))] [some ⟨false, .refs [.sl 1 0 a0.length, .sl 2 0 a1.length, .sl 3 0 a2.length]⟩, some ⟨false, .ints .u8 a0⟩, some ⟨false, .ints .u8 a1⟩, some ⟨false, .ints .u8 a2⟩, some ⟨true, .ints .u8 x1.1⟩]) (.exit 2) (mkSt 36 [(6, one (.sl 4 0 ((((((x1.1.drop 0).take x1.2) ++ a0) ++ a1) ++ a2).length)))] [some ⟨false, .refs [.sl 1 0 a0.length, .sl 2 0 a1.length, .sl 3 0 a2.length]⟩, some ⟨false, .ints .u8 a0⟩, some ⟨false, .ints .u8 a1⟩, some ⟨false, .ints .u8 a2⟩, some ⟨true, .ints .u8 (((((x1.1.drop 0).take x1.2) ++ a0) ++ a1) ++ a2)⟩])) trivial))) (by kernel_rfl)
def impl.LogText.l0.f (K : Nat) (a0 : List (Int × ByteArray)) : Nat → (List Int) → Int → Option ((List Int))
  | 0, _, _ => none
  | k + 1, v48_0, v48_1 =>
    cond (decide (v48_1 < (a0.length : Int))) (ck (0 ≤ v48_1) (Option.bind (impl.PutNum.f K ((a0.getD v48_1.toNat (0, noVal)).1)) fun x1 => Option.bind (impl.PutText.f K ((a0.getD v48_1.toNat (0, noVal)).2)) fun x2 => Option.bind (slices.Concat_byte_byte.f v48_0 x1 x2) fun x3 => impl.LogText.l0.f K a0 k x3 (w64 (v48_1 + 1)))) (some v48_0)
def impl.LogText.l0.s (K : Nat) (a0 : List (Int × ByteArray)) (v48_0 : List Int) (v48_1 : Int) : St := mkSt 40 [(3, one (.sl 1 0 v48_0.length)), (18, one (.sl 0 0 a0.length)), (19, one (.int .i64 (a0.length : Int))), (20, one (.int .i64 v48_1))] [some ⟨false, .puts a0⟩, some ⟨true, .ints .u8 v48_0⟩]
def impl.LogText.l0.e0 (K : Nat) (a0 : List (Int × ByteArray)) (o : (List Int)) : St := mkSt 40 [(3, one (.sl 1 0 o.length))] [some ⟨false, .puts a0⟩, some ⟨true, .ints .u8 o⟩]
def impl.LogText.l0.x (K : Nat) (a0 : List (Int × ByteArray)) : ((List Int)) → AExit × St := fun o => (.exit 0, impl.LogText.l0.e0 K a0 o)
theorem impl.LogText.l0.spec (K : Nat) (a0 : List (Int × ByteArray)) : ∀ (k : Nat) (v48_0 : List Int) (v48_1 : Int) (o : (List Int)), impl.LogText.l0.f K a0 k v48_0 v48_1 = some o → LoopSpec Try.prog 1 (loopN Try.f43 0) (impl.LogText.l0.s K a0 v48_0 v48_1) (impl.LogText.l0.x K a0 o).1 (impl.LogText.l0.x K a0 o).2
  | 0, _, _, _, h => by cases h
  | k + 1, v48_0, v48_1, o, h => by
    unfold impl.LogText.l0.f at h
    rcases br_cases h with ⟨c1, h⟩ | ⟨c1, h⟩
    · obtain ⟨p1, h⟩ := ck_some h
      obtain ⟨x1, e1, h⟩ := bind_some h
      obtain ⟨x2, e2, h⟩ := bind_some h
      obtain ⟨x3, e3, h⟩ := bind_some h
      exact .of_step tab mixed [.br true, .call [] [] (one (.sl 0 0 x1.length)) [some ⟨true, .ints .u8 x1⟩], .call [] [] (one (.sl 0 0 x2.length)) [some ⟨true, .ints .u8 x2⟩], .call [(59, false), (1, false), (27, false), (51, false)] [] (one (.sl 4 0 x3.length)) [some ⟨false, .refs [.sl 1 0 v48_0.length, .sl 2 0 x1.length, .sl 3 0 x2.length]⟩, some ⟨false, .ints .u8 v48_0⟩, some ⟨false, .ints .u8 x1⟩, some ⟨false, .ints .u8 x2⟩, some ⟨true, .ints .u8 x3⟩]] [] [3, 18, 19, 20] [0, 67] (s1 := impl.LogText.l0.s K a0 x3 (w64 (v48_1 + 1))) (nd c1 (nd p1 (nd (of_decide_eq_true c1) (nd (tn p1 (of_decide_eq_true c1)) (nd (impl.PutNum.spec K ((a0.getD v48_1.toNat (0, noVal)).1) _ e1) (nd (impl.PutText.spec K ((a0.getD v48_1.toNat (0, noVal)).2) _ e2) (nd (slices.Concat_byte_byte.spec v48_0 x1 x2 _ e3) trivial))))))) (by kernel_rfl) (impl.LogText.l0.spec K a0 k x3 (w64 (v48_1 + 1)) _ h)
    · obtain rfl := Option.some.inj h
      exact .of_done tab mixed [.br false] [] [3] [0, 1] rfl (nd c1 trivial) (by kernel_rfl)
def impl.Sum.l0.f (a0 : List Int) : Nat → Int → Int → Option (Int)
  | 0, _, _ => none
  | k + 1, v44_0, v44_1 =>
    cond (decide (v44_1 < (a0.length : Int))) (ck (0 ≤ v44_1) (impl.Sum.l0.f a0 k ((w64 ((w64 (31 * v44_0)) + (w64 (a0.getD v44_1.toNat 0)))).tmod 1000003) (w64 (v44_1 + 1)))) (some v44_0)
def impl.Sum.l0.s (a0 : List Int) (v44_0 : Int) (v44_1 : Int) : St := mkSt 20 [(3, one (.int .i64 v44_0)), (6, one (.sl 0 0 a0.length)), (7, one (.int .i64 (a0.length : Int))), (8, one (.int .i64 v44_1))] [some ⟨false, .ints .u8 a0⟩]
def impl.Sum.l0.e0 (a0 : List Int) (o : Int) : St := mkSt 20 [(3, one (.int .i64 o))] [some ⟨false, .ints .u8 a0⟩]
def impl.Sum.l0.x (a0 : List Int) : (Int) → AExit × St := fun o => (.exit 0, impl.Sum.l0.e0 a0 o)
theorem impl.Sum.l0.spec (a0 : List Int) : ∀ (k : Nat) (v44_0 : Int) (v44_1 : Int) (o : Int), impl.Sum.l0.f a0 k v44_0 v44_1 = some o → LoopSpec Try.prog 1 (loopN Try.f33 0) (impl.Sum.l0.s a0 v44_0 v44_1) (impl.Sum.l0.x a0 o).1 (impl.Sum.l0.x a0 o).2
  | 0, _, _, _, h => by cases h
  | k + 1, v44_0, v44_1, o, h => by
    unfold impl.Sum.l0.f at h
    rcases br_cases h with ⟨c1, h⟩ | ⟨c1, h⟩
    · obtain ⟨p1, h⟩ := ck_some h
      exact .of_step tab mixed [.br true] [] [3, 6, 7, 8] [0] (s1 := impl.Sum.l0.s a0 ((w64 ((w64 (31 * v44_0)) + (w64 (a0.getD v44_1.toNat 0)))).tmod 1000003) (w64 (v44_1 + 1))) (nd c1 (nd p1 (nd (of_decide_eq_true c1) (nd (tn p1 (of_decide_eq_true c1)) (nd (by decide : (1000003 : Int) ≠ 0) trivial))))) (by kernel_rfl) (impl.Sum.l0.spec a0 k ((w64 ((w64 (31 * v44_0)) + (w64 (a0.getD v44_1.toNat 0)))).tmod 1000003) (w64 (v44_1 + 1)) _ h)
    · obtain rfl := Option.some.inj h
      exact .of_done tab mixed [.br false] [] [3] [0] rfl (nd c1 trivial) (by kernel_rfl)
def impl.Sum.f (K : Nat) (a0 : List Int) : Option (Int) :=
  Option.bind (impl.Sum.l0.f a0 K 7 0) fun x1 => some x1
theorem impl.Sum.spec (K : Nat) (a0 : List Int) (o : Int) (h : impl.Sum.f K a0 = some o) : Den.Spec Try.prog 33 [one (.sl 0 0 a0.length)] [some ⟨false, .ints .u8 a0⟩] (one (.int .i64 o)) [some ⟨false, .ints .u8 a0⟩] := by
  unfold impl.Sum.f at h
  obtain ⟨x1, e1, h⟩ := bind_some h
  obtain rfl := Option.some.inj h
  exact Den.Spec.of_walk tab mixed Try.func33 (by kernel_rfl) [.loop [] [3, 6, 7, 8] [0] (.exit 0) (impl.Sum.l0.e0 a0 x1)] [] [0] (nd (impl.Sum.l0.spec a0 K 7 0 _ e1) trivial) (by kernel_rfl)
def slices.Concat_byte_byte_1.f (a0 : List Int) (a1 : List Int) : Option ((List Int)) :=
  ck (0 < (2 : Int)) (cond (decide ((w64 (0 + (a0.length : Int))) < 0)) (none) (ck (1 < (2 : Int)) (cond (decide ((w64 ((w64 (0 + (a0.length : Int))) + (a1.length : Int))) < 0)) (none) (Option.bind (slices.Grow_byte_byte.f (w64 ((w64 (0 + (a0.length : Int))) + (a1.length : Int)))) fun x1 => ck (x1.2 ≤ x1.1.length) (ck ((((x1.1.drop 0).take x1.2) ++ a0).length * 1 ≤ 70368744177664) (ck (((((x1.1.drop 0).take x1.2) ++ a0) ++ a1).length * 1 ≤ 70368744177664) (some ((((x1.1.drop 0).take x1.2) ++ a0) ++ a1))))))))
theorem slices.Concat_byte_byte_1.spec (a0 : List Int) (a1 : List Int) (o : (List Int)) (h : slices.Concat_byte_byte_1.f a0 a1 = some o) : Den.Spec Try.prog 101 [one (.sl 0 0 2)] [some ⟨false, .refs [.sl 1 0 a0.length, .sl 2 0 a1.length]⟩, some ⟨false, .ints .u8 a0⟩, some ⟨false, .ints .u8 a1⟩] (one (.sl 3 0 o.length)) [some ⟨false, .refs [.sl 1 0 a0.length, .sl 2 0 a1.length]⟩, some ⟨false, .ints .u8 a0⟩, some ⟨false, .ints .u8 a1⟩, some ⟨true, .ints .u8 o⟩] := by
  unfold slices.Concat_byte_byte_1.f at h
  obtain ⟨p1, h⟩ := ck_some h
  rcases br_cases h with ⟨c1, h⟩ | ⟨c1, h⟩
  · cases h
  · obtain ⟨p2, h⟩ := ck_some h
    rcases br_cases h with ⟨c2, h⟩ | ⟨c2, h⟩
    · cases h
    · obtain ⟨x1, e1, h⟩ := bind_some h
      obtain ⟨p3, h⟩ := ck_some h
      obtain ⟨p4, h⟩ := ck_some h
      obtain ⟨p5, h⟩ := ck_some h
      obtain rfl := Option.some.inj h
      exact Den.Spec.of_walk tab mixed Try.func101 (by kernel_rfl) [.loop [] [0, 3, 9, 10, 11] [0, 1, 2] (.exit 0) (mkSt 36 [(0, one (.sl 0 0 2)), (3, one (.int .i64 (w64 ((w64 (0 + (a0.length : Int))) + (a1.length : Int)))))] [some ⟨false, .refs [.sl 1 0 a0.length, .sl 2 0 a1.length]⟩, some ⟨false, .ints .u8 a0⟩, some ⟨false, .ints .u8 a1⟩]), .asis, .call [] [] (one (.sl 0 0 x1.2)) [some ⟨true, .ints .u8 x1.1⟩], .loop [] [6, 25, 26, 27] [0, 1, 2, 3] (.exit 2) (mkSt 36 [(6, one (.sl 3 0 (((((x1.1.drop 0).take x1.2) ++ a0) ++ a1).length)))] [some ⟨false, .refs [.sl 1 0 a0.length, .sl 2 0 a1.length]⟩, some ⟨false, .ints .u8 a0⟩, some ⟨false, .ints .u8 a1⟩, some ⟨true, .ints .u8 ((((x1.1.drop 0).take x1.2) ++ a0) ++ a1)⟩])] [] [0, 1, 2, 3] (nd (LoopSpec.of_step tab mixed [.br true, .br false] [] [0, 3, 9, 10, 11] [0, 1, 2] (s1 := mkSt 36 [(0, one (.sl 0 0 2)), (3, one (.int .i64 (w64 (0 + (a0.length : Int))))), (9, one (.sl 0 0 2)), (10, one (.int .i64 2)), (11, one (.int .i64 1))] [some ⟨false, .refs [.sl 1 0 a0.length, .sl 2 0 a1.length]⟩, some ⟨false, .ints .u8 a0⟩, some ⟨false, .ints .u8 a1⟩]) (nd tt (nd (Int.le_refl 0) (nd p1 (nd c1 trivial)))) (by kernel_rfl) (LoopSpec.of_step tab mixed [.br true, .br false] [] [0, 3, 9, 10, 11] [0, 1, 2] (s1 := mkSt 36 [(0, one (.sl 0 0 2)), (3, one (.int .i64 (w64 ((w64 (0 + (a0.length : Int))) + (a1.length : Int))))), (9, one (.sl 0 0 2)), (10, one (.int .i64 2)), (11, one (.int .i64 2))] [some ⟨false, .refs [.sl 1 0 a0.length, .sl 2 0 a1.length]⟩, some ⟨false, .ints .u8 a0⟩, some ⟨false, .ints .u8 a1⟩]) (nd tt (nd (by decide : (0 : Int) ≤ 1) (nd p2 (nd c2 trivial)))) (by kernel_rfl) (LoopSpec.of_done tab mixed [.br false] [] [0, 3] [0, 1, 2] rfl (nd ff trivial) (by kernel_rfl) : LoopSpec Try.prog 3 (loopN Try.f101 0) (mkSt 36 [(0, one (.sl 0 0 2)), (3, one (.int .i64 (w64 ((w64 (0 + (a0.length : Int))) + (a1.length : Int))))), (9, one (.sl 0 0 2)), (10, one (.int .i64 2)), (11, one (.int .i64 2))] [some ⟨false, .refs [.sl 1 0 a0.length, .sl 2 0 a1.length]⟩, some ⟨false, .ints .u8 a0⟩, some ⟨false, .ints .u8 a1⟩]) (.exit 0) (mkSt 36 [(0, one (.sl 0 0 2)), (3, one (.int .i64 (w64 ((w64 (0 + (a0.length : Int))) + (a1.length : Int)))))] [some ⟨false, .refs [.sl 1 0 a0.length, .sl 2 0 a1.length]⟩, some ⟨false, .ints .u8 a0⟩, some ⟨false, .ints .u8 a1⟩])) : LoopSpec Try.prog 3 (loopN Try.f101 0) (mkSt 36 [(0, one (.sl 0 0 2)), (3, one (.int .i64 (w64 (0 + (a0.length : Int))))), (9, one (.sl 0 0 2)), (10, one (.int .i64 2)), (11, one (.int .i64 1))] [some ⟨false, .refs [.sl 1 0 a0.length, .sl 2 0 a1.length]⟩, some ⟨false, .ints .u8 a0⟩, some ⟨false, .ints .u8 a1⟩]) (.exit 0) (mkSt 36 [(0, one (.sl 0 0 2)), (3, one (.int .i64 (w64 ((w64 (0 + (a0.length : Int))) + (a1.length : Int)))))] [some ⟨false, .refs [.sl 1 0 a0.length, .sl 2 0 a1.length]⟩, some ⟨false, .ints .u8 a0⟩, some ⟨false, .ints .u8 a1⟩])) : LoopSpec Try.prog 3 (loopN Try.f101 0) (mkSt 36 [(0, one (.sl 0 0 2)), (3, one (.int .i64 0)), (9, one (.sl 0 0 2)), (10, one (.int .i64 2)), (11, one (.int .i64 0))] [some ⟨false, .refs [.sl 1 0 a0.length, .sl 2 0 a1.length]⟩, some ⟨false, .ints .u8 a0⟩, some ⟨false, .ints .u8 a1⟩]) (.exit 0) (mkSt 36 [(0, one (.sl 0 0 2)), (3, one (.int .i64 (w64 ((w64 (0 + (a0.length : Int))) + (a1.length : Int)))))] [some ⟨false, .refs [.sl 1 0 a0.length, .sl 2 0 a1.length]⟩, some ⟨false, .ints .u8 a0⟩, some ⟨false, .ints .u8 a1⟩])) (nd (slices.Grow_byte_byte.spec (w64 ((w64 (0 + (a0.length : Int))) + (a1.length : Int))) _ e1) (nd (LoopSpec.of_step tab mixed [.br true, .br true, .cut] [] [6, 25, 26, 27] [0, 1, 2, 4] (s1 := mkSt 36 [(6, one (.sl 3 0 ((((x1.1.drop 0).take x1.2) ++ a0).length))), (25, one (.sl 0 0 2)), (26, one (.int .i64 2)), (27, one (.int .i64 1))] [some ⟨false, .refs [.sl 1 0 a0.length, .sl 2 0 a1.length]⟩, some ⟨false, .ints .u8 a0⟩, some ⟨false, .ints .u8 a1⟩, some ⟨true, .ints .u8 (((x1.1.drop 0).take x1.2) ++ a0)⟩]) (nd tt (nd (Int.le_refl 0) (nd p1 (nd (rfl : (0 : Nat) = 0) (nd p3 (nd p4 (nd (rfl : (0 : Nat) = 0) (nd (rfl : a0.length = a0.length) trivial)))))))) (by kernel_rfl) (LoopSpec.of_step tab mixed [.br true, .br true] [] [6, 25, 26, 27] [0, 1, 2, 4] (s1 := mkSt 36 [(6, one (.sl 3 0 (((((x1.1.drop 0).take x1.2) ++ a0) ++ a1).length))), (25, one (.sl 0 0 2)), (26, one (.int .i64 2)), (27, one (.int .i64 2))] [some ⟨false, .refs [.sl 1 0 a0.length, .sl 2 0 a1.length]⟩, some ⟨false, .ints .u8 a0⟩, some ⟨false, .ints .u8 a1⟩, some ⟨true, .ints .u8 ((((x1.1.drop 0).take x1.2) ++ a0) ++ a1)⟩]) (nd tt (nd (by decide : (0 : Int) ≤ 1) (nd p2 (nd (rfl : (0 : Nat) = 0) (nd (rfl : (((x1.1.drop 0).take x1.2) ++ a0).length = (((x1.1.drop 0).take x1.2) ++ a0).length) (nd p5 (nd (rfl : (0 : Nat) = 0) (nd (rfl : a1.length = a1.length) trivial)))))))) (by kernel_rfl) (LoopSpec.of_done tab mixed [.br false] [] [6] [0, 1, 2, 3] rfl (nd ff trivial) (by kernel_rfl) : LoopSpec Try.prog 3 (loopN Try.f101 1) (mkSt 36 [(6, one (.sl 3 0 (((((x1.1.drop 0).take x1.2) ++ a0) ++ a1).length))), (25, one (.sl 0 0 2)), (26, one (.int .i64 2)), (27, one (.int .i64 2))] [some ⟨false, .refs [.sl 1 0 a0.length, .sl 2 0 a1.length]⟩, some ⟨false, .ints .u8 a0⟩, some ⟨false, .ints .u8 a1⟩, some ⟨true, .ints .u8 ((((x1.1.drop 0).take x1.2) ++ a0) ++ a1)⟩]) (.exit 2) (mkSt 36 [(6, one (.sl 3 0 (((((x1.1.drop 0).take x1.2) ++ a0) ++ a1).length)))] [some ⟨false, .refs [.sl 1 0 a0.length, .sl 2 0 a1.length]⟩, some ⟨false, .ints .u8 a0⟩, some ⟨false, .ints .u8 a1⟩, some ⟨true, .ints .u8 ((((x1.1.drop 0).take x1.2) ++ a0) ++ a1)⟩])) : LoopSpec Try.prog 3 (loopN Try.f101 1) (mkSt 36 [(6, one (.sl 3 0 ((((x1.1.drop 0).take x1.2) ++ a0).length))), (25, one (.sl 0 0 2)), (26, one (.int .i64 2)), (27, one (.int .i64 1))] [some ⟨false, .refs [.sl 1 0 a0.length, .sl 2 0 a1.length]⟩, some ⟨false, .ints .u8 a0⟩, some ⟨false, .ints .u8 a1⟩, some ⟨true, .ints .u8 (((x1.1.drop 0).take x1.2) ++ a0)⟩]) (.exit 2) (mkSt 36 [(6, one (.sl 3 0 (((((x1.1.drop 0).take x1.2) ++ a0) ++ a1).length)))] [some ⟨false, .refs [.sl 1 0 a0.length, .sl 2 0 a1.length]⟩, some ⟨false, .ints .u8 a0⟩, some ⟨false, .ints .u8 a1⟩, some ⟨true, .ints .u8 ((((x1.1.drop 0).take x1.2) ++ a0) ++ a1)⟩])) : LoopSpec Try.prog 3 (loopN Try.f101 1) (mkSt 36 [(6, one (.sl 3 0 x1.2)), (25, one (.sl 0 0 2)), (26, one (.int .i64 2)), (27, one (.int .i64 0))] [some ⟨false, .refs [.sl 1 0 a0.length, .sl 2 0 a1.length]⟩, some ⟨false, .ints .u8 a0⟩, some ⟨false, .ints .u8 a1⟩, some ⟨true, .ints .u8 x1.1⟩]) (.exit 2) (mkSt 36 [(6, one (.sl 3 0 (((((x1.1.drop 0).take x1.2) ++ a0) ++ a1).length)))] [some ⟨false, .refs [.sl 1 0 a0.length, .sl 2 0 a1.length]⟩, some ⟨false, .ints .u8 a0⟩, some ⟨false, .ints .u8 a1⟩, some ⟨true, .ints .u8 ((((x1.1.drop 0).take x1.2) ++ a0) ++ a1)⟩])) trivial))) (by kernel_rfl)
def impl.summed.f (K : Nat) (a0 : List Int) : Option (ByteArray) :=
  Option.bind (impl.Sum.f K a0) fun x1 => Option.bind (impl.PutNum.f K x1) fun x2 => Option.bind (slices.Concat_byte_byte_1.f x2 a0) fun x3 => some (ofBytes x3)
theorem impl.summed.spec (K : Nat) (a0 : List Int) (o : ByteArray) (h : impl.summed.f K a0 = some o) : Den.Spec Try.prog 102 [one (.sl 0 0 a0.length)] [some ⟨false, .ints .u8 a0⟩] (one (.str o)) [some ⟨false, .ints .u8 a0⟩] := by
  unfold impl.summed.f at h
  obtain ⟨x1, e1, h⟩ := bind_some h
  obtain ⟨x2, e2, h⟩ := bind_some h
  obtain ⟨x3, e3, h⟩ := bind_some h
  obtain rfl := Option.some.inj h
  exact Den.Spec.of_walk tab mixed Try.func102 (by kernel_rfl) [.call [] [(0, true)] (one (.int .i64 x1)) [some ⟨false, .ints .u8 a0⟩], .call [] [] (one (.sl 0 0 x2.length)) [some ⟨true, .ints .u8 x2⟩], .call [(2, false), (1, false), (0, false)] [] (one (.sl 3 0 x3.length)) [some ⟨false, .refs [.sl 1 0 x2.length, .sl 2 0 a0.length]⟩, some ⟨false, .ints .u8 x2⟩, some ⟨false, .ints .u8 a0⟩, some ⟨true, .ints .u8 x3⟩], .br true] [] [0] (nd (impl.Sum.spec K a0 _ e1) (nd (rfl : (0 : Nat) = 0) (nd (rfl : a0.length = a0.length) (nd (impl.PutNum.spec K x1 _ e2) (nd (slices.Concat_byte_byte_1.spec x2 a0 _ e3) (nd (rfl : (0 : Nat) = 0) (nd (rfl : x3.length = x3.length) trivial))))))) (by kernel_rfl)
def impl.LogText.f (K : Nat) (a0 : List (Int × ByteArray)) : Option (ByteArray) :=
  Option.bind (impl.isBatch.f K a0) fun x1 => cond (x1) (cond ((a0.length : Int) == 0) (some noVal) (Option.bind (impl.PutNum.f K (a0.length : Int)) fun x2 => Option.bind (impl.LogText.l0.f K a0 K x2 0) fun x3 => Option.bind (impl.summed.f K x3) fun x4 => cond (decide ((x4.size : Int) > 400)) (some noVal) (some x4))) (some noVal)
theorem impl.LogText.spec (K : Nat) (a0 : List (Int × ByteArray)) (o : ByteArray) (h : impl.LogText.f K a0 = some o) : Den.Spec Try.prog 43 [one (.sl 0 0 a0.length)] [some ⟨false, .puts a0⟩] (one (.str o)) [some ⟨false, .puts a0⟩] := by
  unfold impl.LogText.f at h
  obtain ⟨x1, e1, h⟩ := bind_some h
  rcases br_cases h with ⟨c1, h⟩ | ⟨c1, h⟩
  · rcases br_cases h with ⟨c2, h⟩ | ⟨c2, h⟩
    · obtain rfl := Option.some.inj h
      exact Den.Spec.of_walk tab mixed Try.func43 (by kernel_rfl) [.call [] [(0, true)] (one (.bool x1)) [some ⟨false, .puts a0⟩], .br false, .br false, .br false, .br false, .br true] [] [0] (nd (impl.isBatch.spec K a0 _ e1) (nd (rfl : (0 : Nat) = 0) (nd (rfl : a0.length = a0.length) (nd (nf c1) (nd (nf c1) (nd (nf c1) (nd (nf c1) (nd c2 trivial)))))))) (by kernel_rfl)
    · obtain ⟨x2, e2, h⟩ := bind_some h
      obtain ⟨x3, e3, h⟩ := bind_some h
      obtain ⟨x4, e4, h⟩ := bind_some h
      rcases br_cases h with ⟨c3, h⟩ | ⟨c3, h⟩
      · obtain rfl := Option.some.inj h
        exact Den.Spec.of_walk tab mixed Try.func43 (by kernel_rfl) [.call [] [(0, true)] (one (.bool x1)) [some ⟨false, .puts a0⟩], .br false, .br false, .br false, .br false, .br false, .call [] [] (one (.sl 0 0 x2.length)) [some ⟨true, .ints .u8 x2⟩], .loop [] [3, 18, 19, 20] [0, 1] (.exit 0) (impl.LogText.l0.e0 K a0 x3), .call [] [(0, true)] (one (.str x4)) [some ⟨false, .ints .u8 x3⟩], .br true] [] [0] (nd (impl.isBatch.spec K a0 _ e1) (nd (rfl : (0 : Nat) = 0) (nd (rfl : a0.length = a0.length) (nd (nf c1) (nd (nf c1) (nd (nf c1) (nd (nf c1) (nd c2 (nd (impl.PutNum.spec K (a0.length : Int) _ e2) (nd (impl.LogText.l0.spec K a0 K x2 0 _ e3) (nd (impl.summed.spec K x3 _ e4) (nd (rfl : (0 : Nat) = 0) (nd (rfl : x3.length = x3.length) (nd c3 trivial)))))))))))))) (by kernel_rfl)
      · obtain rfl := Option.some.inj h
        exact Den.Spec.of_walk tab mixed Try.func43 (by kernel_rfl) [.call [] [(0, true)] (one (.bool x1)) [some ⟨false, .puts a0⟩], .br false, .br false, .br false, .br false, .br false, .call [] [] (one (.sl 0 0 x2.length)) [some ⟨true, .ints .u8 x2⟩], .loop [] [3, 18, 19, 20] [0, 1] (.exit 0) (impl.LogText.l0.e0 K a0 x3), .call [] [(0, true)] (one (.str x4)) [some ⟨false, .ints .u8 x3⟩], .br false] [] [0] (nd (impl.isBatch.spec K a0 _ e1) (nd (rfl : (0 : Nat) = 0) (nd (rfl : a0.length = a0.length) (nd (nf c1) (nd (nf c1) (nd (nf c1) (nd (nf c1) (nd c2 (nd (impl.PutNum.spec K (a0.length : Int) _ e2) (nd (impl.LogText.l0.spec K a0 K x2 0 _ e3) (nd (impl.summed.spec K x3 _ e4) (nd (rfl : (0 : Nat) = 0) (nd (rfl : x3.length = x3.length) (nd c3 trivial)))))))))))))) (by kernel_rfl)
  · obtain rfl := Option.some.inj h
    exact Den.Spec.of_walk tab mixed Try.func43 (by kernel_rfl) [.call [] [(0, true)] (one (.bool x1)) [some ⟨false, .puts a0⟩], .br true, .br true, .br true, .br true, .br true] [] [0] (nd (impl.isBatch.spec K a0 _ e1) (nd (rfl : (0 : Nat) = 0) (nd (rfl : a0.length = a0.length) (nd (nt c1) (nd (nt c1) (nd (nt c1) (nd (nt c1) (nd tt trivial)))))))) (by kernel_rfl)
def laws.eqPut.f (a0 : Int) (a1 : ByteArray) (a2 : Int) (a3 : ByteArray) : Option (Bool) :=
  cond (a0 != a2) (some false) (cond (strEq a1 a3) (some true) (some false))
theorem laws.eqPut.spec (a0 : Int) (a1 : ByteArray) (a2 : Int) (a3 : ByteArray) (o : Bool) (h : laws.eqPut.f a0 a1 a2 a3 = some o) : Den.Spec Try.prog 103 [.v (.agg [.int .i64 a0, .str a1]), .v (.agg [.int .i64 a2, .str a3])] [] (one (.bool o)) [] := by
  unfold laws.eqPut.f at h
  rcases br_cases h with ⟨c1, h⟩ | ⟨c1, h⟩
  · obtain rfl := Option.some.inj h
    exact Den.Spec.of_walk tab mixed Try.func103 (by kernel_rfl) [.br true] [] [] (nd c1 trivial) (by kernel_rfl)
  · rcases br_cases h with ⟨c2, h⟩ | ⟨c2, h⟩
    · obtain rfl := Option.some.inj h
      exact Den.Spec.of_walk tab mixed Try.func103 (by kernel_rfl) [.br false, .br false] [] [] (nd c1 (nd (nf c2) trivial)) (by kernel_rfl)
    · obtain rfl := Option.some.inj h
      exact Den.Spec.of_walk tab mixed Try.func103 (by kernel_rfl) [.br false, .br true] [] [] (nd c1 (nd (nt c2) trivial)) (by kernel_rfl)
def laws.eqPutS.l0.f (a0 : List (Int × ByteArray)) (a1 : List (Int × ByteArray)) : Nat → Int → Option (Unit ⊕ Unit)
  | 0, _ => none
  | k + 1, v52_0 =>
    cond (decide (v52_0 < (a0.length : Int))) (ck (0 ≤ v52_0) (ck (v52_0 < (a1.length : Int)) (Option.bind (laws.eqPut.f ((a0.getD v52_0.toNat (0, noVal)).1) ((a0.getD v52_0.toNat (0, noVal)).2) ((a1.getD v52_0.toNat (0, noVal)).1) ((a1.getD v52_0.toNat (0, noVal)).2)) fun x1 => cond (x1) (laws.eqPutS.l0.f a0 a1 k (w64 (v52_0 + 1))) (some (.inl ()))))) (some (.inr (())))
def laws.eqPutS.l0.s (a0 : List (Int × ByteArray)) (a1 : List (Int × ByteArray)) (v52_0 : Int) : St := mkSt 27 [(0, one (.sl 0 0 a0.length)), (1, one (.sl 1 0 a1.length)), (5, one (.int .i64 v52_0))] [some ⟨false, .puts a0⟩, some ⟨false, .puts a1⟩]
def laws.eqPutS.l0.e0 (a0 : List (Int × ByteArray)) (a1 : List (Int × ByteArray)) (o : Unit) : St := mkSt 27 [(4, one (.bool false))] [some ⟨false, .puts a0⟩, some ⟨false, .puts a1⟩]
def laws.eqPutS.l0.e1 (a0 : List (Int × ByteArray)) (a1 : List (Int × ByteArray)) (o : Unit) : St := mkSt 27 [] [some ⟨false, .puts a0⟩, some ⟨false, .puts a1⟩]
def laws.eqPutS.l0.x (a0 : List (Int × ByteArray)) (a1 : List (Int × ByteArray)) : (Unit ⊕ Unit) → AExit × St := Sum.elim (fun o => (.ret, laws.eqPutS.l0.e0 a0 a1 o)) (fun o => (.exit 0, laws.eqPutS.l0.e1 a0 a1 o))
theorem laws.eqPutS.l0.spec (a0 : List (Int × ByteArray)) (a1 : List (Int × ByteArray)) : ∀ (k : Nat) (v52_0 : Int) (o : Unit ⊕ Unit), laws.eqPutS.l0.f a0 a1 k v52_0 = some o → LoopSpec Try.prog 2 (loopN Try.f44 0) (laws.eqPutS.l0.s a0 a1 v52_0) (laws.eqPutS.l0.x a0 a1 o).1 (laws.eqPutS.l0.x a0 a1 o).2
  | 0, _, _, h => by cases h
  | k + 1, v52_0, o, h => by
    unfold laws.eqPutS.l0.f at h
    rcases br_cases h with ⟨c1, h⟩ | ⟨c1, h⟩
    · obtain ⟨p1, h⟩ := ck_some h
      obtain ⟨p2, h⟩ := ck_some h
      obtain ⟨x1, e1, h⟩ := bind_some h
      rcases br_cases h with ⟨c2, h⟩ | ⟨c2, h⟩
      · exact .of_step tab mixed [.br true, .call [] [] (one (.bool x1)) [], .br false] [] [0, 1, 5] [0, 1] (s1 := laws.eqPutS.l0.s a0 a1 (w64 (v52_0 + 1))) (nd c1 (nd p1 (nd (of_decide_eq_true c1) (nd (tn p1 (of_decide_eq_true c1)) (nd p1 (nd p2 (nd (tn p1 p2) (nd (laws.eqPut.spec ((a0.getD v52_0.toNat (0, noVal)).1) ((a0.getD v52_0.toNat (0, noVal)).2) ((a1.getD v52_0.toNat (0, noVal)).1) ((a1.getD v52_0.toNat (0, noVal)).2) _ e1) (nd (nf c2) trivial))))))))) (by kernel_rfl) (laws.eqPutS.l0.spec a0 a1 k (w64 (v52_0 + 1)) _ h)
      · obtain rfl := Option.some.inj h
        exact .of_done tab mixed [.br true, .call [] [] (one (.bool x1)) [], .br true] [] [4] [0, 1] rfl (nd c1 (nd p1 (nd (of_decide_eq_true c1) (nd (tn p1 (of_decide_eq_true c1)) (nd p1 (nd p2 (nd (tn p1 p2) (nd (laws.eqPut.spec ((a0.getD v52_0.toNat (0, noVal)).1) ((a0.getD v52_0.toNat (0, noVal)).2) ((a1.getD v52_0.toNat (0, noVal)).1) ((a1.getD v52_0.toNat (0, noVal)).2) _ e1) (nd (nt c2) trivial))))))))) (by kernel_rfl)
    · obtain rfl := Option.some.inj h
      exact .of_done tab mixed [.br false] [] [] [0, 1] rfl (nd c1 trivial) (by kernel_rfl)
def laws.eqPutS.f (K : Nat) (a0 : List (Int × ByteArray)) (a1 : List (Int × ByteArray)) : Option (Bool) :=
  cond ((a0.length : Int) != (a1.length : Int)) (some false) (Option.bind (laws.eqPutS.l0.f a0 a1 K 0) fun x1 => (Sum.elim (fun x1 => some false) (fun x1 => some true)) x1)
theorem laws.eqPutS.spec (K : Nat) (a0 : List (Int × ByteArray)) (a1 : List (Int × ByteArray)) (o : Bool) (h : laws.eqPutS.f K a0 a1 = some o) : Den.Spec Try.prog 44 [one (.sl 0 0 a0.length), one (.sl 1 0 a1.length)] [some ⟨false, .puts a0⟩, some ⟨false, .puts a1⟩] (one (.bool o)) [some ⟨false, .puts a0⟩, some ⟨false, .puts a1⟩] := by
  unfold laws.eqPutS.f at h
  rcases br_cases h with ⟨c1, h⟩ | ⟨c1, h⟩
  · obtain rfl := Option.some.inj h
    exact Den.Spec.of_walk tab mixed Try.func44 (by kernel_rfl) [.br true] [] [0, 1] (nd c1 trivial) (by kernel_rfl)
  · obtain ⟨x1, e1, h⟩ := bind_some h
    rcases x1 with x1 | x1
    · obtain rfl := Option.some.inj h
      exact Den.Spec.of_walk tab mixed Try.func44 (by kernel_rfl) [.br false, .loop [] [0, 1, 5] [0, 1] (.ret) (laws.eqPutS.l0.e0 a0 a1 x1)] [] [0, 1] (nd c1 (nd (laws.eqPutS.l0.spec a0 a1 K 0 _ e1) trivial)) (by kernel_rfl)
    · obtain rfl := Option.some.inj h
      exact Den.Spec.of_walk tab mixed Try.func44 (by kernel_rfl) [.br false, .loop [] [0, 1, 5] [0, 1] (.exit 0) (laws.eqPutS.l0.e1 a0 a1 x1)] [] [0, 1] (nd c1 (nd (laws.eqPutS.l0.spec a0 a1 K 0 _ e1) trivial)) (by kernel_rfl)
def laws.FnExactLogText.f (K : Nat) (a0 : List (Int × ByteArray)) : Option (Bool) :=
  Option.bind (laws.szPutS.f K a0 1048576) fun x1 => cond (decide (x1 < 0)) (some true) (Option.bind (laws.toPutS.f K a0) fun x2 => Option.bind (spec.LogText.f K ((x2.1.drop 0).take x2.2)) fun x3 => ck (0 + x2.2 ≤ x2.1.length) (Option.bind (laws.toPutS.f K a0) fun x4 => Option.bind (impl.LogText.f K ((x4.1.drop 0).take x4.2)) fun x5 => ck (0 + x4.2 ≤ x4.1.length) (cond (strEq x5 x3) (Option.bind (laws.toPutS.f K a0) fun x6 => Option.bind (laws.eqPutS.f K ((x4.1.drop 0).take x4.2) ((x6.1.drop 0).take x6.2)) fun x7 => ck (0 + x6.2 ≤ x6.1.length) (cond (x7) (some true) (some false))) (some false))))
theorem laws.FnExactLogText.spec (K : Nat) (a0 : List (Int × ByteArray)) (o : Bool) (h : laws.FnExactLogText.f K a0 = some o) : Den.Spec Try.prog 6 [one (.sl 0 0 a0.length)] [some ⟨false, .puts a0⟩] (one (.bool o)) [some ⟨false, .puts a0⟩] := by
  unfold laws.FnExactLogText.f at h
  obtain ⟨x1, e1, h⟩ := bind_some h
  rcases br_cases h with ⟨c1, h⟩ | ⟨c1, h⟩
  · obtain rfl := Option.some.inj h
    exact Den.Spec.of_walk tab mixed Try.func6 (by kernel_rfl) [.call [] [(0, true)] (one (.int .i64 x1)) [some ⟨false, .puts a0⟩], .br true] [] [0] (nd (laws.szPutS.spec K a0 1048576 _ e1) (nd (rfl : (0 : Nat) = 0) (nd (rfl : a0.length = a0.length) (nd c1 trivial)))) (by kernel_rfl)
  · obtain ⟨x2, e2, h⟩ := bind_some h
    obtain ⟨x3, e3, h⟩ := bind_some h
    obtain ⟨p1, h⟩ := ck_some h
    obtain ⟨x4, e4, h⟩ := bind_some h
    obtain ⟨x5, e5, h⟩ := bind_some h
    obtain ⟨p2, h⟩ := ck_some h
    rcases br_cases h with ⟨c2, h⟩ | ⟨c2, h⟩
    · obtain ⟨x6, e6, h⟩ := bind_some h
      obtain ⟨x7, e7, h⟩ := bind_some h
      obtain ⟨p3, h⟩ := ck_some h
      rcases br_cases h with ⟨c3, h⟩ | ⟨c3, h⟩
      · obtain rfl := Option.some.inj h
        exact Den.Spec.of_walk tab mixed Try.func6 (by kernel_rfl) [.call [] [(0, true)] (one (.int .i64 x1)) [some ⟨false, .puts a0⟩], .br false, .call [] [(0, true)] (one (.sl 1 0 x2.2)) [some ⟨false, .puts a0⟩, some ⟨true, .puts x2.1⟩], .call [] [(0, false)] (one (.str x3)) [some ⟨false, .puts ((x2.1.drop 0).take x2.2)⟩], .call [] [(0, true)] (one (.sl 1 0 x4.2)) [some ⟨false, .puts a0⟩, some ⟨true, .puts x4.1⟩], .call [] [(0, false)] (one (.str x5)) [some ⟨false, .puts ((x4.1.drop 0).take x4.2)⟩], .br false, .call [] [(0, true)] (one (.sl 1 0 x6.2)) [some ⟨false, .puts a0⟩, some ⟨true, .puts x6.1⟩], .call [] [(0, false), (1, false)] (one (.bool x7)) [some ⟨false, .puts ((x4.1.drop 0).take x4.2)⟩, some ⟨false, .puts ((x6.1.drop 0).take x6.2)⟩], .br false] [] [0] (nd (laws.szPutS.spec K a0 1048576 _ e1) (nd (rfl : (0 : Nat) = 0) (nd (rfl : a0.length = a0.length) (nd c1 (nd (laws.toPutS.spec K a0 _ e2) (nd (rfl : (0 : Nat) = 0) (nd (rfl : a0.length = a0.length) (nd ((spec.LogText.spec K ((x2.1.drop 0).take x2.2) _ e3).args (congrArg (fun n => ([one (.sl 0 0 n)] : List AV)) (win_len p1))) (nd (laws.toPutS.spec K a0 _ e4) (nd (rfl : (0 : Nat) = 0) (nd (rfl : a0.length = a0.length) (nd ((impl.LogText.spec K ((x4.1.drop 0).take x4.2) _ e5).args (congrArg (fun n => ([one (.sl 0 0 n)] : List AV)) (win_len p2))) (nd (nf c2) (nd (laws.toPutS.spec K a0 _ e6) (nd (rfl : (0 : Nat) = 0) (nd (rfl : a0.length = a0.length) (nd (((laws.eqPutS.spec K ((x4.1.drop 0).take x4.2) ((x6.1.drop 0).take x6.2) _ e7).args (congrArg (fun n => ([one (.sl 0 0 n), one (.sl 1 0 (((x6.1.drop 0).take x6.2).length))] : List AV)) (win_len p2))).args (congrArg (fun n => ([one (.sl 0 0 x4.2), one (.sl 1 0 n)] : List AV)) (win_len p3))) (nd (nf c3) trivial)))))))))))))))))) (by kernel_rfl)
      · obtain rfl := Option.some.inj h
        exact Den.Spec.of_walk tab mixed Try.func6 (by kernel_rfl) [.call [] [(0, true)] (one (.int .i64 x1)) [some ⟨false, .puts a0⟩], .br false, .call [] [(0, true)] (one (.sl 1 0 x2.2)) [some ⟨false, .puts a0⟩, some ⟨true, .puts x2.1⟩], .call [] [(0, false)] (one (.str x3)) [some ⟨false, .puts ((x2.1.drop 0).take x2.2)⟩], .call [] [(0, true)] (one (.sl 1 0 x4.2)) [some ⟨false, .puts a0⟩, some ⟨true, .puts x4.1⟩], .call [] [(0, false)] (one (.str x5)) [some ⟨false, .puts ((x4.1.drop 0).take x4.2)⟩], .br false, .call [] [(0, true)] (one (.sl 1 0 x6.2)) [some ⟨false, .puts a0⟩, some ⟨true, .puts x6.1⟩], .call [] [(0, false), (1, false)] (one (.bool x7)) [some ⟨false, .puts ((x4.1.drop 0).take x4.2)⟩, some ⟨false, .puts ((x6.1.drop 0).take x6.2)⟩], .br true] [] [0] (nd (laws.szPutS.spec K a0 1048576 _ e1) (nd (rfl : (0 : Nat) = 0) (nd (rfl : a0.length = a0.length) (nd c1 (nd (laws.toPutS.spec K a0 _ e2) (nd (rfl : (0 : Nat) = 0) (nd (rfl : a0.length = a0.length) (nd ((spec.LogText.spec K ((x2.1.drop 0).take x2.2) _ e3).args (congrArg (fun n => ([one (.sl 0 0 n)] : List AV)) (win_len p1))) (nd (laws.toPutS.spec K a0 _ e4) (nd (rfl : (0 : Nat) = 0) (nd (rfl : a0.length = a0.length) (nd ((impl.LogText.spec K ((x4.1.drop 0).take x4.2) _ e5).args (congrArg (fun n => ([one (.sl 0 0 n)] : List AV)) (win_len p2))) (nd (nf c2) (nd (laws.toPutS.spec K a0 _ e6) (nd (rfl : (0 : Nat) = 0) (nd (rfl : a0.length = a0.length) (nd (((laws.eqPutS.spec K ((x4.1.drop 0).take x4.2) ((x6.1.drop 0).take x6.2) _ e7).args (congrArg (fun n => ([one (.sl 0 0 n), one (.sl 1 0 (((x6.1.drop 0).take x6.2).length))] : List AV)) (win_len p2))).args (congrArg (fun n => ([one (.sl 0 0 x4.2), one (.sl 1 0 n)] : List AV)) (win_len p3))) (nd (nt c3) trivial)))))))))))))))))) (by kernel_rfl)
    · obtain rfl := Option.some.inj h
      exact Den.Spec.of_walk tab mixed Try.func6 (by kernel_rfl) [.call [] [(0, true)] (one (.int .i64 x1)) [some ⟨false, .puts a0⟩], .br false, .call [] [(0, true)] (one (.sl 1 0 x2.2)) [some ⟨false, .puts a0⟩, some ⟨true, .puts x2.1⟩], .call [] [(0, false)] (one (.str x3)) [some ⟨false, .puts ((x2.1.drop 0).take x2.2)⟩], .call [] [(0, true)] (one (.sl 1 0 x4.2)) [some ⟨false, .puts a0⟩, some ⟨true, .puts x4.1⟩], .call [] [(0, false)] (one (.str x5)) [some ⟨false, .puts ((x4.1.drop 0).take x4.2)⟩], .br true] [] [0] (nd (laws.szPutS.spec K a0 1048576 _ e1) (nd (rfl : (0 : Nat) = 0) (nd (rfl : a0.length = a0.length) (nd c1 (nd (laws.toPutS.spec K a0 _ e2) (nd (rfl : (0 : Nat) = 0) (nd (rfl : a0.length = a0.length) (nd ((spec.LogText.spec K ((x2.1.drop 0).take x2.2) _ e3).args (congrArg (fun n => ([one (.sl 0 0 n)] : List AV)) (win_len p1))) (nd (laws.toPutS.spec K a0 _ e4) (nd (rfl : (0 : Nat) = 0) (nd (rfl : a0.length = a0.length) (nd ((impl.LogText.spec K ((x4.1.drop 0).take x4.2) _ e5).args (congrArg (fun n => ([one (.sl 0 0 n)] : List AV)) (win_len p2))) (nd (nt c2) trivial))))))))))))) (by kernel_rfl)
end Go.Proofs.Ythneilmhnbboeaa.GFnExactLogText
