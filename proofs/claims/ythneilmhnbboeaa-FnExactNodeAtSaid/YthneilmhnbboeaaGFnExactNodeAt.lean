import Derived.Test.YthneilmhnbboeaaDenZ
import Derived.Test.YthneilmhnbboeaaProg
namespace Go.Proofs.Ythneilmhnbboeaa.GFnExactNodeAt
open Go Go.RowKit Go.Proofs Go.Proofs.Ythneilmhnbboeaa.Den
set_option linter.unusedVariables false
def tyL : List (Nat × Ty) := [(3, ⟨1, 8, false, [.int .i64 0], .ints .i64, .int .i64, []⟩),
  (4, ⟨1, 1, false, [.bool false], .bools, .bool, []⟩),
  (5, ⟨1, 1, false, [.int .u8 0], .ints .u8, .int .u8, []⟩),
  (9, ⟨1, 16, false, [.str ⟨#[]⟩], .strs, .str, []⟩),
  (28, ⟨1, 24, false, [.nil], .refs, .sl 5, [.ints .u8]⟩),
  (42, ⟨1, 24, false, [.nil], .refs, .sl 9, [.strs]⟩),
  (43, ⟨1, 24, false, [.nil], .refs, .sl 3, [.ints .i64]⟩),
  (48, ⟨4, 72, true, [.bool false, .nil, .nil, .str ⟨#[]⟩], .none, .st [(0, 1), (1, 1), (2, 1), (3, 1)], [.none, .strs, .ints .i64, .none]⟩)]
def tb : TypeId → Option Ty := tbOf tyL
theorem tab : TabOk Try.prog tb := TabOk.of ⟨.of (by kernel_rfl) rfl rfl (by kernel_rfl) (by show _ = _; kernel_rfl),
  .of (by kernel_rfl) rfl rfl (by kernel_rfl) (by show _ = _; kernel_rfl),
  .of (by kernel_rfl) rfl rfl (by kernel_rfl) (by show _ = _; kernel_rfl),
  .of (by kernel_rfl) rfl rfl (by kernel_rfl) (by show _ = _; kernel_rfl),
  .of (by kernel_rfl) rfl rfl (by kernel_rfl) (by show _ = _; kernel_rfl),
  .of (by kernel_rfl) rfl rfl (by kernel_rfl) (by show _ = _; kernel_rfl),
  .of (by kernel_rfl) rfl rfl (by kernel_rfl) (by show _ = _; kernel_rfl),
  .of (by kernel_rfl) rfl rfl (by kernel_rfl) (by show _ = _; kernel_rfl), trivial⟩
theorem mixed : Try.prog.follows .mixedOrders = true := by kernel_rfl
def laws.szStringS.l0.f (a0 : List ByteArray) : Nat → Int → Int → Option (Unit ⊕ Int)
  | 0, _, _ => none
  | k + 1, v2_0, v2_1 =>
    cond (decide (v2_1 < (a0.length : Int))) (ck (0 ≤ v2_1) (cond (decide ((w64 (v2_0 - ((a0.getD v2_1.toNat noVal).size : Int))) < 0)) (some (.inl ())) (laws.szStringS.l0.f a0 k (w64 (v2_0 - ((a0.getD v2_1.toNat noVal).size : Int))) (w64 (v2_1 + 1))))) (some (.inr (v2_0)))
def laws.szStringS.l0.s (a0 : List ByteArray) (v2_0 : Int) (v2_1 : Int) : St := mkSt 28 [(0, one (.sl 0 0 a0.length)), (1, one (.int .i64 v2_0)), (5, one (.int .i64 v2_1))] [some ⟨false, .strs a0⟩]
def laws.szStringS.l0.e0 (a0 : List ByteArray) (o : Unit) : St := mkSt 28 [(4, one (.int .i64 (-1)))] [some ⟨false, .strs a0⟩]
def laws.szStringS.l0.e1 (a0 : List ByteArray) (o : Int) : St := mkSt 28 [(1, one (.int .i64 o))] [some ⟨false, .strs a0⟩]
def laws.szStringS.l0.x (a0 : List ByteArray) : (Unit ⊕ Int) → AExit × St := Sum.elim (fun o => (.ret, laws.szStringS.l0.e0 a0 o)) (fun o => (.exit 0, laws.szStringS.l0.e1 a0 o))
theorem laws.szStringS.l0.spec (a0 : List ByteArray) : ∀ (k : Nat) (v2_0 : Int) (v2_1 : Int) (o : Unit ⊕ Int), laws.szStringS.l0.f a0 k v2_0 v2_1 = some o → LoopSpec Try.prog 1 (loopN Try.f60 0) (laws.szStringS.l0.s a0 v2_0 v2_1) (laws.szStringS.l0.x a0 o).1 (laws.szStringS.l0.x a0 o).2
  | 0, _, _, _, h => by cases h
  | k + 1, v2_0, v2_1, o, h => by
    unfold laws.szStringS.l0.f at h
    rcases br_cases h with ⟨c1, h⟩ | ⟨c1, h⟩
    · obtain ⟨p1, h⟩ := ck_some h
      rcases br_cases h with ⟨c2, h⟩ | ⟨c2, h⟩
      · obtain rfl := Option.some.inj h
        exact .of_done tab mixed [.br true, .br true] [] [4] [0] rfl (nd c1 (nd p1 (nd (of_decide_eq_true c1) (nd (tn p1 (of_decide_eq_true c1)) (nd c2 trivial))))) (by kernel_rfl)
      · exact .of_step tab mixed [.br true, .br false] [] [0, 1, 5] [0] (s1 := laws.szStringS.l0.s a0 (w64 (v2_0 - ((a0.getD v2_1.toNat noVal).size : Int))) (w64 (v2_1 + 1))) (nd c1 (nd p1 (nd (of_decide_eq_true c1) (nd (tn p1 (of_decide_eq_true c1)) (nd c2 trivial))))) (by kernel_rfl) (laws.szStringS.l0.spec a0 k (w64 (v2_0 - ((a0.getD v2_1.toNat noVal).size : Int))) (w64 (v2_1 + 1)) _ h)
    · obtain rfl := Option.some.inj h
      exact .of_done tab mixed [.br false] [] [1] [0] rfl (nd c1 trivial) (by kernel_rfl)
def laws.szStringS.f (K : Nat) (a0 : List ByteArray) (a1 : Int) : Option (Int) :=
  cond (decide ((w64 (a1 - (a0.length : Int))) < 0)) (some (-1)) (Option.bind (laws.szStringS.l0.f a0 K (w64 (a1 - (a0.length : Int))) 0) fun x1 => (Sum.elim (fun x1 => some (-1)) (fun x1 => some x1)) x1)
theorem laws.szStringS.spec (K : Nat) (a0 : List ByteArray) (a1 : Int) (o : Int) (h : laws.szStringS.f K a0 a1 = some o) : Den.Spec Try.prog 60 [one (.sl 0 0 a0.length), one (.int .i64 a1)] [some ⟨false, .strs a0⟩] (one (.int .i64 o)) [some ⟨false, .strs a0⟩] := by
  unfold laws.szStringS.f at h
  rcases br_cases h with ⟨c1, h⟩ | ⟨c1, h⟩
  · obtain rfl := Option.some.inj h
    exact Den.Spec.of_walk tab mixed Try.func60 (by kernel_rfl) [.br true] [] [0] (nd c1 trivial) (by kernel_rfl)
  · obtain ⟨x1, e1, h⟩ := bind_some h
    rcases x1 with x1 | x1
    · obtain rfl := Option.some.inj h
      exact Den.Spec.of_walk tab mixed Try.func60 (by kernel_rfl) [.br false, .loop [] [0, 1, 5] [0] (.ret) (laws.szStringS.l0.e0 a0 x1)] [] [0] (nd c1 (nd (laws.szStringS.l0.spec a0 K (w64 (a1 - (a0.length : Int))) 0 _ e1) trivial)) (by kernel_rfl)
    · obtain rfl := Option.some.inj h
      exact Den.Spec.of_walk tab mixed Try.func60 (by kernel_rfl) [.br false, .loop [] [0, 1, 5] [0] (.exit 0) (laws.szStringS.l0.e1 a0 x1)] [] [0] (nd c1 (nd (laws.szStringS.l0.spec a0 K (w64 (a1 - (a0.length : Int))) 0 _ e1) trivial)) (by kernel_rfl)
def laws.toStringS.l0.f (a0 : List ByteArray) : Nat → (List ByteArray) → Int → Option ((List ByteArray))
  | 0, _, _ => none
  | k + 1, v5_0, v5_1 =>
    cond (decide (v5_1 < (a0.length : Int))) (ck (0 ≤ v5_1) (ck (v5_1 < (v5_0.length : Int)) (laws.toStringS.l0.f a0 k (v5_0.set v5_1.toNat (a0.getD v5_1.toNat noVal)) (w64 (v5_1 + 1))))) (some v5_0)
def laws.toStringS.l0.s (a0 : List ByteArray) (v5_0 : List ByteArray) (v5_1 : Int) : St := mkSt 22 [(0, one (.sl 0 0 a0.length)), (3, one (.sl 1 0 v5_0.length)), (4, one (.int .i64 v5_1))] [some ⟨false, .strs a0⟩, some ⟨true, .strs v5_0⟩]
def laws.toStringS.l0.e0 (a0 : List ByteArray) (o : (List ByteArray)) : St := mkSt 22 [(3, one (.sl 1 0 o.length))] [some ⟨false, .strs a0⟩, some ⟨true, .strs o⟩]
def laws.toStringS.l0.x (a0 : List ByteArray) : ((List ByteArray)) → AExit × St := fun o => (.exit 0, laws.toStringS.l0.e0 a0 o)
theorem laws.toStringS.l0.spec (a0 : List ByteArray) : ∀ (k : Nat) (v5_0 : List ByteArray) (v5_1 : Int) (o : (List ByteArray)), laws.toStringS.l0.f a0 k v5_0 v5_1 = some o → LoopSpec Try.prog 1 (loopN Try.f62 0) (laws.toStringS.l0.s a0 v5_0 v5_1) (laws.toStringS.l0.x a0 o).1 (laws.toStringS.l0.x a0 o).2
  | 0, _, _, _, h => by cases h
  | k + 1, v5_0, v5_1, o, h => by
    unfold laws.toStringS.l0.f at h
    rcases br_cases h with ⟨c1, h⟩ | ⟨c1, h⟩
    · obtain ⟨p1, h⟩ := ck_some h
      obtain ⟨p2, h⟩ := ck_some h
      exact .of_step tab mixed [.br true] [] [0, 3, 4] [0, 1] (s1 := mkSt 22 [(0, one (.sl 0 0 a0.length)), (3, one (.sl 1 0 v5_0.length)), (4, one (.int .i64 (w64 (v5_1 + 1))))] [some ⟨false, .strs a0⟩, some ⟨true, .strs (v5_0.set v5_1.toNat (a0.getD v5_1.toNat noVal))⟩]) (nd c1 (nd p1 (nd (of_decide_eq_true c1) (nd (tn p1 (of_decide_eq_true c1)) (nd p1 (nd p2 (nd (tn p1 p2) trivial))))))) (by kernel_rfl) (LoopSpec.eqs (laws.toStringS.l0.spec a0 k (v5_0.set v5_1.toNat (a0.getD v5_1.toNat noVal)) (w64 (v5_1 + 1)) _ h) (by simp only [laws.toStringS.l0.s, List.length_set] : laws.toStringS.l0.s a0 (v5_0.set v5_1.toNat (a0.getD v5_1.toNat noVal)) (w64 (v5_1 + 1)) = mkSt 22 [(0, one (.sl 0 0 a0.length)), (3, one (.sl 1 0 v5_0.length)), (4, one (.int .i64 (w64 (v5_1 + 1))))] [some ⟨false, .strs a0⟩, some ⟨true, .strs (v5_0.set v5_1.toNat (a0.getD v5_1.toNat noVal))⟩]))
    · obtain rfl := Option.some.inj h
      exact .of_done tab mixed [.br false] [] [3] [0, 1] rfl (nd c1 trivial) (by kernel_rfl)
def laws.toStringS.f (K : Nat) (a0 : List ByteArray) : Option ((List ByteArray)) :=
  ck (((a0.length : Int) * (16 : Int)) ≤ 70368744177664) (Option.bind (laws.toStringS.l0.f a0 K (List.replicate a0.length noVal) 0) fun x1 => some x1)
theorem laws.toStringS.spec (K : Nat) (a0 : List ByteArray) (o : (List ByteArray)) (h : laws.toStringS.f K a0 = some o) : Den.Spec Try.prog 62 [one (.sl 0 0 a0.length)] [some ⟨false, .strs a0⟩] (one (.sl 1 0 o.length)) [some ⟨false, .strs a0⟩, some ⟨true, .strs o⟩] := by
  unfold laws.toStringS.f at h
  obtain ⟨p1, h⟩ := ck_some h
  obtain ⟨x1, e1, h⟩ := bind_some h
  obtain rfl := Option.some.inj h
  exact Den.Spec.of_walk tab mixed Try.func62 (by kernel_rfl) [.loop [] [0, 3, 4] [0, 1] (.exit 0) (laws.toStringS.l0.e0 a0 x1)] [] [0, 1] (nd (Int.natCast_nonneg a0.length) (nd (rfl : (a0.length : Int) = (a0.length : Int)) (nd p1 (nd (laws.toStringS.l0.spec a0 K (List.replicate a0.length noVal) 0 _ e1) trivial)))) (by kernel_rfl)
def spec.l1In.f (a0 : Int) (a1 : Int) (a2 : Int) : Option (Bool) :=
  cond (decide (a0 ≥ a1)) (some (decide (a0 ≤ a2))) (some false)
theorem spec.l1In.spec (a0 : Int) (a1 : Int) (a2 : Int) (o : Bool) (h : spec.l1In.f a0 a1 a2 = some o) : Den.Spec Try.prog 88 [one (.int .i64 a0), one (.int .i64 a1), one (.int .i64 a2)] [] (one (.bool o)) [] := by
  unfold spec.l1In.f at h
  rcases br_cases h with ⟨c1, h⟩ | ⟨c1, h⟩
  · obtain rfl := Option.some.inj h
    exact Den.Spec.of_walk tab mixed Try.func88 (by kernel_rfl) [.br true, .br true, .br true, .br true] [] [] (nd c1 (nd c1 (nd c1 (nd c1 trivial)))) (by kernel_rfl)
  · obtain rfl := Option.some.inj h
    exact Den.Spec.of_walk tab mixed Try.func88 (by kernel_rfl) [.br false, .br false, .br false, .br false] [] [] (nd c1 (nd c1 (nd c1 (nd c1 trivial)))) (by kernel_rfl)
def spec.NameOk.l0.f (a0 : ByteArray) : Nat → Int → Option (Unit ⊕ Unit)
  | 0, _ => none
  | k + 1, v10_0 =>
    cond (decide (v10_0 < (a0.size : Int))) (ck (0 ≤ v10_0) (cond (decide ((byteAt a0 v10_0) < 97)) (some (.inl ())) (cond (decide ((byteAt a0 v10_0) > 122)) (some (.inl ())) (spec.NameOk.l0.f a0 k (w64 (v10_0 + 1)))))) (some (.inr (())))
def spec.NameOk.l0.s (a0 : ByteArray) (v10_0 : Int) : St := mkSt 23 [(0, one (.str a0)), (3, one (.int .i64 v10_0))] []
def spec.NameOk.l0.e0 (a0 : ByteArray) (o : Unit) : St := mkSt 23 [(2, one (.bool false))] []
def spec.NameOk.l0.e1 (a0 : ByteArray) (o : Unit) : St := mkSt 23 [(0, one (.str a0))] []
def spec.NameOk.l0.x (a0 : ByteArray) : (Unit ⊕ Unit) → AExit × St := Sum.elim (fun o => (.ret, spec.NameOk.l0.e0 a0 o)) (fun o => (.exit 0, spec.NameOk.l0.e1 a0 o))
theorem spec.NameOk.l0.spec (a0 : ByteArray) : ∀ (k : Nat) (v10_0 : Int) (o : Unit ⊕ Unit), spec.NameOk.l0.f a0 k v10_0 = some o → LoopSpec Try.prog 0 (loopN Try.f73 0) (spec.NameOk.l0.s a0 v10_0) (spec.NameOk.l0.x a0 o).1 (spec.NameOk.l0.x a0 o).2
  | 0, _, _, h => by cases h
  | k + 1, v10_0, o, h => by
    unfold spec.NameOk.l0.f at h
    rcases br_cases h with ⟨c1, h⟩ | ⟨c1, h⟩
    · obtain ⟨p1, h⟩ := ck_some h
      rcases br_cases h with ⟨c2, h⟩ | ⟨c2, h⟩
      · obtain rfl := Option.some.inj h
        exact .of_done tab mixed [.br true, .br true, .br true, .br true, .br true, .br true, .br true] [] [2] [] rfl (nd c1 (nd p1 (nd (of_decide_eq_true c1) (nd c2 (nd c2 (nd c2 (nd c2 (nd c2 (nd tt trivial))))))))) (by kernel_rfl)
      · rcases br_cases h with ⟨c3, h⟩ | ⟨c3, h⟩
        · obtain rfl := Option.some.inj h
          exact .of_done tab mixed [.br true, .br false, .br false, .br false, .br false, .br false, .br true] [] [2] [] rfl (nd c1 (nd p1 (nd (of_decide_eq_true c1) (nd c2 (nd c2 (nd c2 (nd p1 (nd (of_decide_eq_true c1) (nd c2 (nd c2 (nd c3 trivial))))))))))) (by kernel_rfl)
        · exact .of_step tab mixed [.br true, .br false, .br false, .br false, .br false, .br false, .br false] [] [0, 3] [] (s1 := spec.NameOk.l0.s a0 (w64 (v10_0 + 1))) (nd c1 (nd p1 (nd (of_decide_eq_true c1) (nd c2 (nd c2 (nd c2 (nd p1 (nd (of_decide_eq_true c1) (nd c2 (nd c2 (nd c3 trivial))))))))))) (by kernel_rfl) (spec.NameOk.l0.spec a0 k (w64 (v10_0 + 1)) _ h)
    · obtain rfl := Option.some.inj h
      exact .of_done tab mixed [.br false] [] [0] [] rfl (nd c1 trivial) (by kernel_rfl)
def spec.NameOk.f (K : Nat) (a0 : ByteArray) : Option (Bool) :=
  Option.bind (spec.NameOk.l0.f a0 K 0) fun x1 => (Sum.elim (fun x1 => some false) (fun x1 => Option.bind (spec.l1In.f (a0.size : Int) 1 6) fun x2 => some x2)) x1
theorem spec.NameOk.spec (K : Nat) (a0 : ByteArray) (o : Bool) (h : spec.NameOk.f K a0 = some o) : Den.Spec Try.prog 73 [one (.str a0)] [] (one (.bool o)) [] := by
  unfold spec.NameOk.f at h
  obtain ⟨x1, e1, h⟩ := bind_some h
  rcases x1 with x1 | x1
  · obtain rfl := Option.some.inj h
    exact Den.Spec.of_walk tab mixed Try.func73 (by kernel_rfl) [.loop [] [0, 3] [] (.ret) (spec.NameOk.l0.e0 a0 x1)] [] [] (nd (spec.NameOk.l0.spec a0 K 0 _ e1) trivial) (by kernel_rfl)
  · obtain ⟨x2, e2, h⟩ := bind_some h
    obtain rfl := Option.some.inj h
    exact Den.Spec.of_walk tab mixed Try.func73 (by kernel_rfl) [.loop [] [0, 3] [] (.exit 0) (spec.NameOk.l0.e1 a0 x1), .call [] [] (one (.bool x2)) []] [] [] (nd (spec.NameOk.l0.spec a0 K 0 _ e1) (nd (spec.l1In.spec (a0.size : Int) 1 6 _ e2) trivial)) (by kernel_rfl)
def spec.NodeOk.l1.f (a0 : Bool) (a1 : List ByteArray) (a2 : List Int) (a3 : ByteArray) (v15_0 : Int) : Nat → Int → Bool → Bool → Option (Unit ⊕ (Bool × Bool))
  | 0, _, _, _ => none
  | k + 1, v17_0, v17_1, v17_2 =>
    cond (decide (v17_0 < v15_0)) (ck (0 ≤ v17_0) (ck (v17_0 < (a2.length : Int)) (ck (0 ≤ v15_0) (ck (v15_0 < (a2.length : Int)) (cond ((a2.getD v17_0.toNat 0) == (a2.getD v15_0.toNat 0)) (some (.inl ())) (spec.NodeOk.l1.f a0 a1 a2 a3 v15_0 k (w64 (v17_0 + 1)) v17_1 v17_2)))))) (some (.inr ((v17_1, v17_2))))
def spec.NodeOk.l1.s (a0 : Bool) (a1 : List ByteArray) (a2 : List Int) (a3 : ByteArray) (v15_0 : Int) (v17_0 : Int) (v17_1 : Bool) (v17_2 : Bool) : St := mkSt 91 [(1, one (.ptr 2 0 0)), (3, one (.int .i64 v15_0)), (4, one (.int .i64 v17_0)), (49, one (.ptr 2 0 2)), (50, one (.sl 1 0 a2.length)), (51, one (.int .i64 v15_0)), (52, one (.ptr 1 v15_0.toNat 0)), (53, one (.int .i64 (a2.getD v15_0.toNat 0))), (54, one (.bool v17_1)), (55, one (.bool v17_2)), (58, one (.int .i64 v15_0)), (59, one (.bool (decide (v15_0 > 0)))), (60, one (.bool (decide (v15_0 > 0)))), (61, one (.ptr 2 0 1)), (62, one (.sl 0 0 a1.length)), (63, one (.int .i64 v15_0)), (64, one (.int .i64 (w64 (v15_0 - 1)))), (65, one (.ptr 0 ((w64 (v15_0 - 1)).toNat) 0)), (66, one (.str (a1.getD ((w64 (v15_0 - 1)).toNat) noVal))), (67, one (.ptr 2 0 1)), (68, one (.sl 0 0 a1.length)), (69, one (.int .i64 v15_0)), (70, one (.ptr 0 v15_0.toNat 0)), (71, one (.str (a1.getD v15_0.toNat noVal))), (72, one (.bool (!(strLt (a1.getD ((w64 (v15_0 - 1)).toNat) noVal) (a1.getD v15_0.toNat noVal))))), (73, one (.bool (!(strLt (a1.getD ((w64 (v15_0 - 1)).toNat) noVal) (a1.getD v15_0.toNat noVal)))))] [some ⟨false, .strs a1⟩, some ⟨false, .ints .i64 a2⟩, some ⟨true, .cells [.bool a0, .sl 0 0 a1.length, .sl 1 0 a2.length, .str a3]⟩]
def spec.NodeOk.l1.e0 (a0 : Bool) (a1 : List ByteArray) (a2 : List Int) (a3 : ByteArray) (v15_0 : Int) (o : Unit) : St := mkSt 91 [(2, one (.bool false))] [some ⟨false, .strs a1⟩, some ⟨false, .ints .i64 a2⟩]
def spec.NodeOk.l1.e1 (a0 : Bool) (a1 : List ByteArray) (a2 : List Int) (a3 : ByteArray) (v15_0 : Int) (o : Bool × Bool) : St := mkSt 91 [(1, one (.ptr 2 0 0)), (3, one (.int .i64 v15_0)), (49, one (.ptr 2 0 2)), (50, one (.sl 1 0 a2.length)), (51, one (.int .i64 v15_0)), (52, one (.ptr 1 v15_0.toNat 0)), (53, one (.int .i64 (a2.getD v15_0.toNat 0))), (54, one (.bool o.1)), (55, one (.bool o.2)), (58, one (.int .i64 v15_0)), (59, one (.bool (decide (v15_0 > 0)))), (60, one (.bool (decide (v15_0 > 0)))), (61, one (.ptr 2 0 1)), (62, one (.sl 0 0 a1.length)), (63, one (.int .i64 v15_0)), (64, one (.int .i64 (w64 (v15_0 - 1)))), (65, one (.ptr 0 ((w64 (v15_0 - 1)).toNat) 0)), (66, one (.str (a1.getD ((w64 (v15_0 - 1)).toNat) noVal))), (67, one (.ptr 2 0 1)), (68, one (.sl 0 0 a1.length)), (69, one (.int .i64 v15_0)), (70, one (.ptr 0 v15_0.toNat 0)), (71, one (.str (a1.getD v15_0.toNat noVal))), (72, one (.bool (!(strLt (a1.getD ((w64 (v15_0 - 1)).toNat) noVal) (a1.getD v15_0.toNat noVal))))), (73, one (.bool (!(strLt (a1.getD ((w64 (v15_0 - 1)).toNat) noVal) (a1.getD v15_0.toNat noVal)))))] [some ⟨false, .strs a1⟩, some ⟨false, .ints .i64 a2⟩, some ⟨true, .cells [.bool a0, .sl 0 0 a1.length, .sl 1 0 a2.length, .str a3]⟩]
def spec.NodeOk.l1.x (a0 : Bool) (a1 : List ByteArray) (a2 : List Int) (a3 : ByteArray) (v15_0 : Int) : (Unit ⊕ (Bool × Bool)) → AExit × St := Sum.elim (fun o => (.ret, spec.NodeOk.l1.e0 a0 a1 a2 a3 v15_0 o)) (fun o => (.exit 2, spec.NodeOk.l1.e1 a0 a1 a2 a3 v15_0 o))
theorem spec.NodeOk.l1.spec (a0 : Bool) (a1 : List ByteArray) (a2 : List Int) (a3 : ByteArray) (v15_0 : Int) : ∀ (k : Nat) (v17_0 : Int) (v17_1 : Bool) (v17_2 : Bool) (o : Unit ⊕ (Bool × Bool)), spec.NodeOk.l1.f a0 a1 a2 a3 v15_0 k v17_0 v17_1 v17_2 = some o → LoopSpec Try.prog 2 (loopN Try.f94 1) (spec.NodeOk.l1.s a0 a1 a2 a3 v15_0 v17_0 v17_1 v17_2) (spec.NodeOk.l1.x a0 a1 a2 a3 v15_0 o).1 (spec.NodeOk.l1.x a0 a1 a2 a3 v15_0 o).2
  | 0, _, _, _, _, h => by cases h
  | k + 1, v17_0, v17_1, v17_2, o, h => by
    unfold spec.NodeOk.l1.f at h
    rcases br_cases h with ⟨c1, h⟩ | ⟨c1, h⟩
    · obtain ⟨p1, h⟩ := ck_some h
      obtain ⟨p2, h⟩ := ck_some h
      obtain ⟨p3, h⟩ := ck_some h
      obtain ⟨p4, h⟩ := ck_some h
      rcases br_cases h with ⟨c2, h⟩ | ⟨c2, h⟩
      · obtain rfl := Option.some.inj h
        exact .of_done tab mixed [.br true, .br true] [] [2] [0, 1] rfl (nd c1 (nd p1 (nd p2 (nd (tn p1 p2) (nd p3 (nd p4 (nd (tn p3 p4) (nd c2 trivial)))))))) (by kernel_rfl)
      · exact .of_step tab mixed [.br true, .br false] [] [1, 3, 4, 49, 50, 51, 52, 53, 54, 55, 58, 59, 60, 61, 62, 63, 64, 65, 66, 67, 68, 69, 70, 71, 72, 73] [0, 1, 2] (s1 := spec.NodeOk.l1.s a0 a1 a2 a3 v15_0 (w64 (v17_0 + 1)) v17_1 v17_2) (nd c1 (nd p1 (nd p2 (nd (tn p1 p2) (nd p3 (nd p4 (nd (tn p3 p4) (nd c2 trivial)))))))) (by kernel_rfl) (spec.NodeOk.l1.spec a0 a1 a2 a3 v15_0 k (w64 (v17_0 + 1)) v17_1 v17_2 _ h)
    · obtain rfl := Option.some.inj h
      exact .of_done tab mixed [.br false] [] [1, 3, 49, 50, 51, 52, 53, 54, 55, 58, 59, 60, 61, 62, 63, 64, 65, 66, 67, 68, 69, 70, 71, 72, 73] [0, 1, 2] rfl (nd c1 trivial) (by kernel_rfl)
def spec.NodeOk.l1_1.f (a0 : Bool) (a1 : List ByteArray) (a2 : List Int) (a3 : ByteArray) (v15_0 : Int) : Nat → Int → Bool → Bool → Option (Unit ⊕ (Bool × Bool))
  | 0, _, _, _ => none
  | k + 1, v18_0, v18_1, v18_2 =>
    cond (decide (v18_0 < v15_0)) (ck (0 ≤ v18_0) (ck (v18_0 < (a2.length : Int)) (ck (0 ≤ v15_0) (ck (v15_0 < (a2.length : Int)) (cond ((a2.getD v18_0.toNat 0) == (a2.getD v15_0.toNat 0)) (some (.inl ())) (spec.NodeOk.l1_1.f a0 a1 a2 a3 v15_0 k (w64 (v18_0 + 1)) v18_1 v18_2)))))) (some (.inr ((v18_1, v18_2))))
def spec.NodeOk.l1_1.s (a0 : Bool) (a1 : List ByteArray) (a2 : List Int) (a3 : ByteArray) (v15_0 : Int) (v18_0 : Int) (v18_1 : Bool) (v18_2 : Bool) : St := mkSt 91 [(1, one (.ptr 2 0 0)), (3, one (.int .i64 v15_0)), (4, one (.int .i64 v18_0)), (49, one (.ptr 2 0 2)), (50, one (.sl 1 0 a2.length)), (51, one (.int .i64 v15_0)), (52, one (.ptr 1 v15_0.toNat 0)), (53, one (.int .i64 (a2.getD v15_0.toNat 0))), (54, one (.bool v18_1)), (55, one (.bool v18_2)), (58, one (.int .i64 v15_0)), (59, one (.bool (decide (v15_0 > 0)))), (60, one (.bool (decide (v15_0 > 0)))), (61, .tup []), (62, .tup []), (63, .tup []), (64, .tup []), (65, .tup []), (66, .tup []), (67, .tup []), (68, .tup []), (69, .tup []), (70, .tup []), (71, .tup []), (72, .tup []), (73, one (.bool false))] [some ⟨false, .strs a1⟩, some ⟨false, .ints .i64 a2⟩, some ⟨true, .cells [.bool a0, .sl 0 0 a1.length, .sl 1 0 a2.length, .str a3]⟩]
def spec.NodeOk.l1_1.e0 (a0 : Bool) (a1 : List ByteArray) (a2 : List Int) (a3 : ByteArray) (v15_0 : Int) (o : Unit) : St := mkSt 91 [(2, one (.bool false))] [some ⟨false, .strs a1⟩, some ⟨false, .ints .i64 a2⟩]
def spec.NodeOk.l1_1.e1 (a0 : Bool) (a1 : List ByteArray) (a2 : List Int) (a3 : ByteArray) (v15_0 : Int) (o : Bool × Bool) : St := mkSt 91 [(1, one (.ptr 2 0 0)), (3, one (.int .i64 v15_0)), (49, one (.ptr 2 0 2)), (50, one (.sl 1 0 a2.length)), (51, one (.int .i64 v15_0)), (52, one (.ptr 1 v15_0.toNat 0)), (53, one (.int .i64 (a2.getD v15_0.toNat 0))), (54, one (.bool o.1)), (55, one (.bool o.2)), (58, one (.int .i64 v15_0)), (59, one (.bool (decide (v15_0 > 0)))), (60, one (.bool (decide (v15_0 > 0)))), (61, .tup []), (62, .tup []), (63, .tup []), (64, .tup []), (65, .tup []), (66, .tup []), (67, .tup []), (68, .tup []), (69, .tup []), (70, .tup []), (71, .tup []), (72, .tup []), (73, one (.bool false))] [some ⟨false, .strs a1⟩, some ⟨false, .ints .i64 a2⟩, some ⟨true, .cells [.bool a0, .sl 0 0 a1.length, .sl 1 0 a2.length, .str a3]⟩]
def spec.NodeOk.l1_1.x (a0 : Bool) (a1 : List ByteArray) (a2 : List Int) (a3 : ByteArray) (v15_0 : Int) : (Unit ⊕ (Bool × Bool)) → AExit × St := Sum.elim (fun o => (.ret, spec.NodeOk.l1_1.e0 a0 a1 a2 a3 v15_0 o)) (fun o => (.exit 2, spec.NodeOk.l1_1.e1 a0 a1 a2 a3 v15_0 o))
theorem spec.NodeOk.l1_1.spec (a0 : Bool) (a1 : List ByteArray) (a2 : List Int) (a3 : ByteArray) (v15_0 : Int) : ∀ (k : Nat) (v18_0 : Int) (v18_1 : Bool) (v18_2 : Bool) (o : Unit ⊕ (Bool × Bool)), spec.NodeOk.l1_1.f a0 a1 a2 a3 v15_0 k v18_0 v18_1 v18_2 = some o → LoopSpec Try.prog 2 (loopN Try.f94 1) (spec.NodeOk.l1_1.s a0 a1 a2 a3 v15_0 v18_0 v18_1 v18_2) (spec.NodeOk.l1_1.x a0 a1 a2 a3 v15_0 o).1 (spec.NodeOk.l1_1.x a0 a1 a2 a3 v15_0 o).2
  | 0, _, _, _, _, h => by cases h
  | k + 1, v18_0, v18_1, v18_2, o, h => by
    unfold spec.NodeOk.l1_1.f at h
    rcases br_cases h with ⟨c1, h⟩ | ⟨c1, h⟩
    · obtain ⟨p1, h⟩ := ck_some h
      obtain ⟨p2, h⟩ := ck_some h
      obtain ⟨p3, h⟩ := ck_some h
      obtain ⟨p4, h⟩ := ck_some h
      rcases br_cases h with ⟨c2, h⟩ | ⟨c2, h⟩
      · obtain rfl := Option.some.inj h
        exact .of_done tab mixed [.br true, .br true] [] [2] [0, 1] rfl (nd c1 (nd p1 (nd p2 (nd (tn p1 p2) (nd p3 (nd p4 (nd (tn p3 p4) (nd c2 trivial)))))))) (by kernel_rfl)
      · exact .of_step tab mixed [.br true, .br false] [] [1, 3, 4, 49, 50, 51, 52, 53, 54, 55, 58, 59, 60, 61, 62, 63, 64, 65, 66, 67, 68, 69, 70, 71, 72, 73] [0, 1, 2] (s1 := spec.NodeOk.l1_1.s a0 a1 a2 a3 v15_0 (w64 (v18_0 + 1)) v18_1 v18_2) (nd c1 (nd p1 (nd p2 (nd (tn p1 p2) (nd p3 (nd p4 (nd (tn p3 p4) (nd c2 trivial)))))))) (by kernel_rfl) (spec.NodeOk.l1_1.spec a0 a1 a2 a3 v15_0 k (w64 (v18_0 + 1)) v18_1 v18_2 _ h)
    · obtain rfl := Option.some.inj h
      exact .of_done tab mixed [.br false] [] [1, 3, 49, 50, 51, 52, 53, 54, 55, 58, 59, 60, 61, 62, 63, 64, 65, 66, 67, 68, 69, 70, 71, 72, 73] [0, 1, 2] rfl (nd c1 trivial) (by kernel_rfl)
def spec.NodeOk.l0.f (K : Nat) (a0 : Bool) (a1 : List ByteArray) (a2 : List Int) (a3 : ByteArray) : Nat → Int → Option (Unit ⊕ Unit)
  | 0, _ => none
  | k + 1, v15_0 =>
    cond (decide (v15_0 < (a1.length : Int))) (ck (0 ≤ v15_0) (Option.bind (spec.NameOk.f K (a1.getD v15_0.toNat noVal)) fun x1 => cond (x1) (ck (v15_0 < (a2.length : Int)) (Option.bind (spec.l1In.f (a2.getD v15_0.toNat 0) 1 11) fun x2 => cond (x2) (cond (decide (v15_0 > 0)) (ck (0 ≤ (w64 (v15_0 - 1))) (ck ((w64 (v15_0 - 1)) < (a1.length : Int)) (cond (strLt (a1.getD ((w64 (v15_0 - 1)).toNat) noVal) (a1.getD v15_0.toNat noVal)) (Option.bind (spec.NodeOk.l1.f a0 a1 a2 a3 v15_0 K 0 x2 (!x2)) fun x3 => (Sum.elim (fun x3 => some (.inl ())) (fun x3 => spec.NodeOk.l0.f K a0 a1 a2 a3 k (w64 (v15_0 + 1)))) x3) (some (.inl ()))))) (Option.bind (spec.NodeOk.l1_1.f a0 a1 a2 a3 v15_0 K 0 x2 (!x2)) fun x3 => (Sum.elim (fun x3 => some (.inl ())) (fun x3 => spec.NodeOk.l0.f K a0 a1 a2 a3 k (w64 (v15_0 + 1)))) x3)) (some (.inl ())))) (some (.inl ())))) (some (.inr (())))
def spec.NodeOk.l0.s (K : Nat) (a0 : Bool) (a1 : List ByteArray) (a2 : List Int) (a3 : ByteArray) (v15_0 : Int) : St := mkSt 91 [(1, one (.ptr 2 0 0)), (3, one (.int .i64 v15_0))] [some ⟨false, .strs a1⟩, some ⟨false, .ints .i64 a2⟩, some ⟨true, .cells [.bool a0, .sl 0 0 a1.length, .sl 1 0 a2.length, .str a3]⟩]
def spec.NodeOk.l0.e0 (K : Nat) (a0 : Bool) (a1 : List ByteArray) (a2 : List Int) (a3 : ByteArray) (o : Unit) : St := mkSt 91 [(2, one (.bool false))] [some ⟨false, .strs a1⟩, some ⟨false, .ints .i64 a2⟩]
def spec.NodeOk.l0.e1 (K : Nat) (a0 : Bool) (a1 : List ByteArray) (a2 : List Int) (a3 : ByteArray) (o : Unit) : St := mkSt 91 [] [some ⟨false, .strs a1⟩, some ⟨false, .ints .i64 a2⟩]
def spec.NodeOk.l0.x (K : Nat) (a0 : Bool) (a1 : List ByteArray) (a2 : List Int) (a3 : ByteArray) : (Unit ⊕ Unit) → AExit × St := Sum.elim (fun o => (.ret, spec.NodeOk.l0.e0 K a0 a1 a2 a3 o)) (fun o => (.exit 0, spec.NodeOk.l0.e1 K a0 a1 a2 a3 o))
theorem spec.NodeOk.l0.spec (K : Nat) (a0 : Bool) (a1 : List ByteArray) (a2 : List Int) (a3 : ByteArray) : ∀ (k : Nat) (v15_0 : Int) (o : Unit ⊕ Unit), spec.NodeOk.l0.f K a0 a1 a2 a3 k v15_0 = some o → LoopSpec Try.prog 2 (loopN Try.f94 0) (spec.NodeOk.l0.s K a0 a1 a2 a3 v15_0) (spec.NodeOk.l0.x K a0 a1 a2 a3 o).1 (spec.NodeOk.l0.x K a0 a1 a2 a3 o).2
  | 0, _, _, h => by cases h
  | k + 1, v15_0, o, h => by
    unfold spec.NodeOk.l0.f at h
    rcases br_cases h with ⟨c1, h⟩ | ⟨c1, h⟩
    · obtain ⟨p1, h⟩ := ck_some h
      obtain ⟨x1, e1, h⟩ := bind_some h
      rcases br_cases h with ⟨c2, h⟩ | ⟨c2, h⟩
      · obtain ⟨p2, h⟩ := ck_some h
        obtain ⟨x2, e2, h⟩ := bind_some h
        rcases br_cases h with ⟨c3, h⟩ | ⟨c3, h⟩
        · rcases br_cases h with ⟨c4, h⟩ | ⟨c4, h⟩
          · obtain ⟨p3, h⟩ := ck_some h
            obtain ⟨p4, h⟩ := ck_some h
            rcases br_cases h with ⟨c5, h⟩ | ⟨c5, h⟩
            · obtain ⟨x3, e3, h⟩ := bind_some h
              rcases x3 with x3 | x3
              · obtain rfl := Option.some.inj h
                exact .of_done tab mixed [.br true, .call [] [] (one (.bool x1)) [], .br false, .br false, .br false, .br false, .br false, .br false, .call [] [] (one (.bool x2)) [], .br false, .br false, .br false, .br false, .br false, .br true, .br true, .br true, .br true, .br true, .br true, .br true, .br true, .br true, .br true, .br true, .br true, .br false, .br true, .br false, .br false, .loop [] [1, 3, 4, 49, 50, 51, 52, 53, 54, 55, 58, 59, 60, 61, 62, 63, 64, 65, 66, 67, 68, 69, 70, 71, 72, 73] [0, 1, 2] (.ret) (spec.NodeOk.l1.e0 a0 a1 a2 a3 v15_0 x3)] [] [2] [0, 1] rfl (nd c1 (nd p1 (nd (of_decide_eq_true c1) (nd (tn p1 (of_decide_eq_true c1)) (nd (spec.NameOk.spec K (a1.getD v15_0.toNat noVal) _ e1) (nd (nf c2) (nd (nf c2) (nd (nf c2) (nd (nf c2) (nd p1 (nd p2 (nd (nf c2) (nd (tn p1 p2) (nd (nf c2) (nd (spec.l1In.spec (a2.getD v15_0.toNat 0) 1 11 _ e2) (nd (nf c2) (nd (nf c2) (nd (nf c3) (nd (nf c3) (nd (nf c3) (nd c4 (nd c4 (nd c4 (nd c4 (nd c4 (nd p3 (nd p4 (nd c4 (nd (tn p3 p4) (nd c4 (nd c4 (nd c4 (nd c4 (nd p1 (nd (of_decide_eq_true c1) (nd c4 (nd (tn p1 (of_decide_eq_true c1)) (nd c4 (nd (nf c3) (nd c4 (nd (nf c3) (nd (nf c5) (nd (spec.NodeOk.l1.spec a0 a1 a2 a3 v15_0 K 0 x2 (!x2) _ e3) trivial))))))))))))))))))))))))))))))))))))))))))) (by kernel_rfl)
              · exact .of_step tab mixed [.br true, .call [] [] (one (.bool x1)) [], .br false, .br false, .br false, .br false, .br false, .br false, .call [] [] (one (.bool x2)) [], .br false, .br false, .br false, .br false, .br false, .br true, .br true, .br true, .br true, .br true, .br true, .br true, .br true, .br true, .br true, .br true, .br true, .br false, .br true, .br false, .br false, .loop [] [1, 3, 4, 49, 50, 51, 52, 53, 54, 55, 58, 59, 60, 61, 62, 63, 64, 65, 66, 67, 68, 69, 70, 71, 72, 73] [0, 1, 2] (.exit 2) (spec.NodeOk.l1.e1 a0 a1 a2 a3 v15_0 x3)] [] [1, 3] [0, 1, 2] (s1 := spec.NodeOk.l0.s K a0 a1 a2 a3 (w64 (v15_0 + 1))) (nd c1 (nd p1 (nd (of_decide_eq_true c1) (nd (tn p1 (of_decide_eq_true c1)) (nd (spec.NameOk.spec K (a1.getD v15_0.toNat noVal) _ e1) (nd (nf c2) (nd (nf c2) (nd (nf c2) (nd (nf c2) (nd p1 (nd p2 (nd (nf c2) (nd (tn p1 p2) (nd (nf c2) (nd (spec.l1In.spec (a2.getD v15_0.toNat 0) 1 11 _ e2) (nd (nf c2) (nd (nf c2) (nd (nf c3) (nd (nf c3) (nd (nf c3) (nd c4 (nd c4 (nd c4 (nd c4 (nd c4 (nd p3 (nd p4 (nd c4 (nd (tn p3 p4) (nd c4 (nd c4 (nd c4 (nd c4 (nd p1 (nd (of_decide_eq_true c1) (nd c4 (nd (tn p1 (of_decide_eq_true c1)) (nd c4 (nd (nf c3) (nd c4 (nd (nf c3) (nd (nf c5) (nd (spec.NodeOk.l1.spec a0 a1 a2 a3 v15_0 K 0 x2 (!x2) _ e3) trivial))))))))))))))))))))))))))))))))))))))))))) (by kernel_rfl) (spec.NodeOk.l0.spec K a0 a1 a2 a3 k (w64 (v15_0 + 1)) _ h)
            · obtain rfl := Option.some.inj h
              exact .of_done tab mixed [.br true, .call [] [] (one (.bool x1)) [], .br false, .br false, .br false, .br false, .br false, .br false, .call [] [] (one (.bool x2)) [], .br false, .br false, .br false, .br false, .br false, .br true, .br true, .br true, .br true, .br true, .br true, .br true, .br true, .br true, .br true, .br true, .br true, .br false, .br true, .br false, .br true] [] [2] [0, 1] rfl (nd c1 (nd p1 (nd (of_decide_eq_true c1) (nd (tn p1 (of_decide_eq_true c1)) (nd (spec.NameOk.spec K (a1.getD v15_0.toNat noVal) _ e1) (nd (nf c2) (nd (nf c2) (nd (nf c2) (nd (nf c2) (nd p1 (nd p2 (nd (nf c2) (nd (tn p1 p2) (nd (nf c2) (nd (spec.l1In.spec (a2.getD v15_0.toNat 0) 1 11 _ e2) (nd (nf c2) (nd (nf c2) (nd (nf c3) (nd (nf c3) (nd (nf c3) (nd c4 (nd c4 (nd c4 (nd c4 (nd c4 (nd p3 (nd p4 (nd c4 (nd (tn p3 p4) (nd c4 (nd c4 (nd c4 (nd c4 (nd p1 (nd (of_decide_eq_true c1) (nd c4 (nd (tn p1 (of_decide_eq_true c1)) (nd c4 (nd (nf c3) (nd c4 (nd (nf c3) (nd (nt c5) trivial)))))))))))))))))))))))))))))))))))))))))) (by kernel_rfl)
          · obtain ⟨x3, e3, h⟩ := bind_some h
            rcases x3 with x3 | x3
            · obtain rfl := Option.some.inj h
              exact .of_done tab mixed [.br true, .call [] [] (one (.bool x1)) [], .br false, .br false, .br false, .br false, .br false, .br false, .call [] [] (one (.bool x2)) [], .br false, .br false, .br false, .br false, .br false, .br false, .br false, .br false, .br false, .br false, .br false, .br false, .br false, .br false, .br false, .br false, .br false, .br false, .br false, .br false, .br false, .loop [] [1, 3, 4, 49, 50, 51, 52, 53, 54, 55, 58, 59, 60, 61, 62, 63, 64, 65, 66, 67, 68, 69, 70, 71, 72, 73] [0, 1, 2] (.ret) (spec.NodeOk.l1_1.e0 a0 a1 a2 a3 v15_0 x3)] [] [2] [0, 1] rfl (nd c1 (nd p1 (nd (of_decide_eq_true c1) (nd (tn p1 (of_decide_eq_true c1)) (nd (spec.NameOk.spec K (a1.getD v15_0.toNat noVal) _ e1) (nd (nf c2) (nd (nf c2) (nd (nf c2) (nd (nf c2) (nd p1 (nd p2 (nd (nf c2) (nd (tn p1 p2) (nd (nf c2) (nd (spec.l1In.spec (a2.getD v15_0.toNat 0) 1 11 _ e2) (nd (nf c2) (nd (nf c2) (nd (nf c3) (nd (nf c3) (nd (nf c3) (nd c4 (nd c4 (nd c4 (nd c4 (nd c4 (nd c4 (nd c4 (nd c4 (nd c4 (nd c4 (nd c4 (nd c4 (nd (nf c3) (nd c4 (nd (nf c3) (nd ff (nd (spec.NodeOk.l1_1.spec a0 a1 a2 a3 v15_0 K 0 x2 (!x2) _ e3) trivial))))))))))))))))))))))))))))))))))))) (by kernel_rfl)
            · exact .of_step tab mixed [.br true, .call [] [] (one (.bool x1)) [], .br false, .br false, .br false, .br false, .br false, .br false, .call [] [] (one (.bool x2)) [], .br false, .br false, .br false, .br false, .br false, .br false, .br false, .br false, .br false, .br false, .br false, .br false, .br false, .br false, .br false, .br false, .br false, .br false, .br false, .br false, .br false, .loop [] [1, 3, 4, 49, 50, 51, 52, 53, 54, 55, 58, 59, 60, 61, 62, 63, 64, 65, 66, 67, 68, 69, 70, 71, 72, 73] [0, 1, 2] (.exit 2) (spec.NodeOk.l1_1.e1 a0 a1 a2 a3 v15_0 x3)] [] [1, 3] [0, 1, 2] (s1 := spec.NodeOk.l0.s K a0 a1 a2 a3 (w64 (v15_0 + 1))) (nd c1 (nd p1 (nd (of_decide_eq_true c1) (nd (tn p1 (of_decide_eq_true c1)) (nd (spec.NameOk.spec K (a1.getD v15_0.toNat noVal) _ e1) (nd (nf c2) (nd (nf c2) (nd (nf c2) (nd (nf c2) (nd p1 (nd p2 (nd (nf c2) (nd (tn p1 p2) (nd (nf c2) (nd (spec.l1In.spec (a2.getD v15_0.toNat 0) 1 11 _ e2) (nd (nf c2) (nd (nf c2) (nd (nf c3) (nd (nf c3) (nd (nf c3) (nd c4 (nd c4 (nd c4 (nd c4 (nd c4 (nd c4 (nd c4 (nd c4 (nd c4 (nd c4 (nd c4 (nd c4 (nd (nf c3) (nd c4 (nd (nf c3) (nd ff (nd (spec.NodeOk.l1_1.spec a0 a1 a2 a3 v15_0 K 0 x2 (!x2) _ e3) trivial))))))))))))))))))))))))))))))))))))) (by kernel_rfl) (spec.NodeOk.l0.spec K a0 a1 a2 a3 k (w64 (v15_0 + 1)) _ h)
        · obtain rfl := Option.some.inj h
          exact .of_done tab mixed [.br true, .call [] [] (one (.bool x1)) [], .br false, .br false, .br false, .br false, .br false, .br false, .call [] [] (one (.bool x2)) [], .br false, .br false, .br true, .br true, .br true, .br true, .br true, .br true] [] [2] [0, 1] rfl (nd c1 (nd p1 (nd (of_decide_eq_true c1) (nd (tn p1 (of_decide_eq_true c1)) (nd (spec.NameOk.spec K (a1.getD v15_0.toNat noVal) _ e1) (nd (nf c2) (nd (nf c2) (nd (nf c2) (nd (nf c2) (nd p1 (nd p2 (nd (nf c2) (nd (tn p1 p2) (nd (nf c2) (nd (spec.l1In.spec (a2.getD v15_0.toNat 0) 1 11 _ e2) (nd (nf c2) (nd (nf c2) (nd (nt c3) (nd (nt c3) (nd (nt c3) (nd (nt c3) (nd (nt c3) (nd tt trivial))))))))))))))))))))))) (by kernel_rfl)
      · obtain rfl := Option.some.inj h
        exact .of_done tab mixed [.br true, .call [] [] (one (.bool x1)) [], .br true, .br true, .br true, .br true, .br true, .br true, .br true, .br true, .br true, .br true, .br true, .br true, .br true, .br true] [] [2] [0, 1] rfl (nd c1 (nd p1 (nd (of_decide_eq_true c1) (nd (tn p1 (of_decide_eq_true c1)) (nd (spec.NameOk.spec K (a1.getD v15_0.toNat noVal) _ e1) (nd (nt c2) (nd (nt c2) (nd (nt c2) (nd (nt c2) (nd (nt c2) (nd (nt c2) (nd (nt c2) (nd (nt c2) (nd tt (nd tt (nd tt (nd tt (nd tt (nd tt trivial))))))))))))))))))) (by kernel_rfl)
    · obtain rfl := Option.some.inj h
      exact .of_done tab mixed [.br false] [] [] [0, 1] rfl (nd c1 trivial) (by kernel_rfl)
def spec.NodeOk.f (K : Nat) (a0 : Bool) (a1 : List ByteArray) (a2 : List Int) (a3 : ByteArray) : Option (Bool) :=
  cond (a0) (cond ((a1.length : Int) != (a2.length : Int)) (some false) (cond (strEq a3 noVal) (Option.bind (spec.NodeOk.l0.f K a0 a1 a2 a3 K 0) fun x1 => (Sum.elim (fun x1 => some false) (fun x1 => some true)) x1) (some false))) (cond ((w64 ((a1.length : Int) + (a2.length : Int))) == 0) (some (decide ((a3.size : Int) ≤ 60))) (some false))
theorem spec.NodeOk.spec (K : Nat) (a0 : Bool) (a1 : List ByteArray) (a2 : List Int) (a3 : ByteArray) (o : Bool) (h : spec.NodeOk.f K a0 a1 a2 a3 = some o) : Den.Spec Try.prog 94 [.v (.agg [.bool a0, .sl 0 0 a1.length, .sl 1 0 a2.length, .str a3])] [some ⟨false, .strs a1⟩, some ⟨false, .ints .i64 a2⟩] (one (.bool o)) [some ⟨false, .strs a1⟩, some ⟨false, .ints .i64 a2⟩] := by
  unfold spec.NodeOk.f at h
  rcases br_cases h with ⟨c1, h⟩ | ⟨c1, h⟩
  · rcases br_cases h with ⟨c2, h⟩ | ⟨c2, h⟩
    · obtain rfl := Option.some.inj h
      exact Den.Spec.of_walk tab mixed Try.func94 (by kernel_rfl) [.br false, .br true, .br true, .br true, .br true, .br true] [] [0, 1] (nd (nf c1) (nd c2 (nd c2 (nd c2 (nd c2 (nd tt trivial)))))) (by kernel_rfl)
    · rcases br_cases h with ⟨c3, h⟩ | ⟨c3, h⟩
      · obtain ⟨x1, e1, h⟩ := bind_some h
        rcases x1 with x1 | x1
        · obtain rfl := Option.some.inj h
          exact Den.Spec.of_walk tab mixed Try.func94 (by kernel_rfl) [.br false, .br false, .br false, .br false, .br false, .br false, .loop [] [1, 3] [0, 1, 2] (.ret) (spec.NodeOk.l0.e0 K a0 a1 a2 a3 x1)] [] [0, 1] (nd (nf c1) (nd c2 (nd c2 (nd c2 (nd c2 (nd (nf c3) (nd (spec.NodeOk.l0.spec K a0 a1 a2 a3 K 0 _ e1) trivial))))))) (by kernel_rfl)
        · obtain rfl := Option.some.inj h
          exact Den.Spec.of_walk tab mixed Try.func94 (by kernel_rfl) [.br false, .br false, .br false, .br false, .br false, .br false, .loop [] [1, 3] [0, 1, 2] (.exit 0) (spec.NodeOk.l0.e1 K a0 a1 a2 a3 x1)] [] [0, 1] (nd (nf c1) (nd c2 (nd c2 (nd c2 (nd c2 (nd (nf c3) (nd (spec.NodeOk.l0.spec K a0 a1 a2 a3 K 0 _ e1) trivial))))))) (by kernel_rfl)
      · obtain rfl := Option.some.inj h
        exact Den.Spec.of_walk tab mixed Try.func94 (by kernel_rfl) [.br false, .br false, .br false, .br false, .br false, .br true] [] [0, 1] (nd (nf c1) (nd c2 (nd c2 (nd c2 (nd c2 (nd (nt c3) trivial)))))) (by kernel_rfl)
  · rcases br_cases h with ⟨c2, h⟩ | ⟨c2, h⟩
    · obtain rfl := Option.some.inj h
      exact Den.Spec.of_walk tab mixed Try.func94 (by kernel_rfl) [.br true, .br true, .br true, .br true, .br true, .br true] [] [0, 1] (nd (nt c1) (nd c2 (nd c2 (nd c2 (nd c2 (nd c2 trivial)))))) (by kernel_rfl)
    · obtain rfl := Option.some.inj h
      exact Den.Spec.of_walk tab mixed Try.func94 (by kernel_rfl) [.br true, .br false, .br false, .br false, .br false, .br false] [] [0, 1] (nd (nt c1) (nd c2 (nd c2 (nd c2 (nd c2 (nd c2 trivial)))))) (by kernel_rfl)
def spec.NodeText.l0.f (a0 : Bool) (a1 : List ByteArray) (a2 : List Int) (a3 : ByteArray) : Nat → ByteArray → Int → Option (ByteArray)
  | 0, _, _ => none
  | k + 1, v21_0, v21_1 =>
    cond (decide (v21_1 < (a1.length : Int))) (ck (0 ≤ v21_1) (ck (((v21_0.size + (a1.getD v21_1.toNat noVal).size : Nat) : Int) ≤ 9223372036854775807) (ck ((((v21_0 ++ (a1.getD v21_1.toNat noVal)).size + (ByteArray.mk #[61]).size : Nat) : Int) ≤ 9223372036854775807) (ck (v21_1 < (a2.length : Int)) (ck (((((v21_0 ++ (a1.getD v21_1.toNat noVal)) ++ (ByteArray.mk #[61])).size + (ofBytes [IntKind.u8.wrap (w64 (48 + (a2.getD v21_1.toNat 0)))]).size : Nat) : Int) ≤ 9223372036854775807) (spec.NodeText.l0.f a0 a1 a2 a3 k (((v21_0 ++ (a1.getD v21_1.toNat noVal)) ++ (ByteArray.mk #[61])) ++ (ofBytes [IntKind.u8.wrap (w64 (48 + (a2.getD v21_1.toNat 0)))])) (w64 (v21_1 + 1)))))))) (some v21_0)
def spec.NodeText.l0.s (a0 : Bool) (a1 : List ByteArray) (a2 : List Int) (a3 : ByteArray) (v21_0 : ByteArray) (v21_1 : Int) : St := mkSt 40 [(1, one (.ptr 2 0 0)), (3, one (.str v21_0)), (4, one (.int .i64 v21_1))] [some ⟨false, .strs a1⟩, some ⟨false, .ints .i64 a2⟩, some ⟨true, .cells [.bool a0, .sl 0 0 a1.length, .sl 1 0 a2.length, .str a3]⟩]
def spec.NodeText.l0.e0 (a0 : Bool) (a1 : List ByteArray) (a2 : List Int) (a3 : ByteArray) (o : ByteArray) : St := mkSt 40 [(3, one (.str o))] [some ⟨false, .strs a1⟩, some ⟨false, .ints .i64 a2⟩]
def spec.NodeText.l0.x (a0 : Bool) (a1 : List ByteArray) (a2 : List Int) (a3 : ByteArray) : (ByteArray) → AExit × St := fun o => (.exit 0, spec.NodeText.l0.e0 a0 a1 a2 a3 o)
theorem spec.NodeText.l0.spec (a0 : Bool) (a1 : List ByteArray) (a2 : List Int) (a3 : ByteArray) : ∀ (k : Nat) (v21_0 : ByteArray) (v21_1 : Int) (o : ByteArray), spec.NodeText.l0.f a0 a1 a2 a3 k v21_0 v21_1 = some o → LoopSpec Try.prog 2 (loopN Try.f36 0) (spec.NodeText.l0.s a0 a1 a2 a3 v21_0 v21_1) (spec.NodeText.l0.x a0 a1 a2 a3 o).1 (spec.NodeText.l0.x a0 a1 a2 a3 o).2
  | 0, _, _, _, h => by cases h
  | k + 1, v21_0, v21_1, o, h => by
    unfold spec.NodeText.l0.f at h
    rcases br_cases h with ⟨c1, h⟩ | ⟨c1, h⟩
    · obtain ⟨p1, h⟩ := ck_some h
      obtain ⟨p2, h⟩ := ck_some h
      obtain ⟨p3, h⟩ := ck_some h
      obtain ⟨p4, h⟩ := ck_some h
      obtain ⟨p5, h⟩ := ck_some h
      exact .of_step tab mixed [.br true, .br true] [] [1, 3, 4] [0, 1, 2] (s1 := spec.NodeText.l0.s a0 a1 a2 a3 (((v21_0 ++ (a1.getD v21_1.toNat noVal)) ++ (ByteArray.mk #[61])) ++ (ofBytes [IntKind.u8.wrap (w64 (48 + (a2.getD v21_1.toNat 0)))])) (w64 (v21_1 + 1))) (nd c1 (nd p1 (nd (of_decide_eq_true c1) (nd (tn p1 (of_decide_eq_true c1)) (nd p2 (nd p3 (nd p1 (nd p4 (nd (tn p1 p4) (nd (rfl : (0 : Nat) = 0) (nd (rfl : 1 = 1) (nd p5 trivial)))))))))))) (by kernel_rfl) (spec.NodeText.l0.spec a0 a1 a2 a3 k (((v21_0 ++ (a1.getD v21_1.toNat noVal)) ++ (ByteArray.mk #[61])) ++ (ofBytes [IntKind.u8.wrap (w64 (48 + (a2.getD v21_1.toNat 0)))])) (w64 (v21_1 + 1)) _ h)
    · obtain rfl := Option.some.inj h
      exact .of_done tab mixed [.br false] [] [3] [0, 1] rfl (nd c1 trivial) (by kernel_rfl)
def spec.NodeText.f (K : Nat) (a0 : Bool) (a1 : List ByteArray) (a2 : List Int) (a3 : ByteArray) : Option (ByteArray) :=
  Option.bind (spec.NodeOk.f K a0 a1 a2 a3) fun x1 => cond (x1) (cond (a0) (Option.bind (spec.NodeText.l0.f a0 a1 a2 a3 K (ByteArray.mk #[100]) 0) fun x2 => some x2) (ck ((((ByteArray.mk #[102]).size + a3.size : Nat) : Int) ≤ 9223372036854775807) (some ((ByteArray.mk #[102]) ++ a3)))) (some noVal)
theorem spec.NodeText.spec (K : Nat) (a0 : Bool) (a1 : List ByteArray) (a2 : List Int) (a3 : ByteArray) (o : ByteArray) (h : spec.NodeText.f K a0 a1 a2 a3 = some o) : Den.Spec Try.prog 36 [.v (.agg [.bool a0, .sl 0 0 a1.length, .sl 1 0 a2.length, .str a3])] [some ⟨false, .strs a1⟩, some ⟨false, .ints .i64 a2⟩] (one (.str o)) [some ⟨false, .strs a1⟩, some ⟨false, .ints .i64 a2⟩] := by
  unfold spec.NodeText.f at h
  obtain ⟨x1, e1, h⟩ := bind_some h
  rcases br_cases h with ⟨c1, h⟩ | ⟨c1, h⟩
  · rcases br_cases h with ⟨c2, h⟩ | ⟨c2, h⟩
    · obtain ⟨x2, e2, h⟩ := bind_some h
      obtain rfl := Option.some.inj h
      exact Den.Spec.of_walk tab mixed Try.func36 (by kernel_rfl) [.call [(0, false), (1, false)] [] (one (.bool x1)) [some ⟨false, .strs a1⟩, some ⟨false, .ints .i64 a2⟩], .br false, .br false, .loop [] [1, 3, 4] [0, 1, 2] (.exit 0) (spec.NodeText.l0.e0 a0 a1 a2 a3 x2)] [] [0, 1] (nd (spec.NodeOk.spec K a0 a1 a2 a3 _ e1) (nd (nf c1) (nd (nf c2) (nd (spec.NodeText.l0.spec a0 a1 a2 a3 K (ByteArray.mk #[100]) 0 _ e2) trivial)))) (by kernel_rfl)
    · obtain ⟨p1, h⟩ := ck_some h
      obtain rfl := Option.some.inj h
      exact Den.Spec.of_walk tab mixed Try.func36 (by kernel_rfl) [.call [(0, false), (1, false)] [] (one (.bool x1)) [some ⟨false, .strs a1⟩, some ⟨false, .ints .i64 a2⟩], .br false, .br true] [] [0, 1] (nd (spec.NodeOk.spec K a0 a1 a2 a3 _ e1) (nd (nf c1) (nd (nt c2) (nd p1 trivial)))) (by kernel_rfl)
  · obtain rfl := Option.some.inj h
    exact Den.Spec.of_walk tab mixed Try.func36 (by kernel_rfl) [.call [(0, false), (1, false)] [] (one (.bool x1)) [some ⟨false, .strs a1⟩, some ⟨false, .ints .i64 a2⟩], .br true] [] [0, 1] (nd (spec.NodeOk.spec K a0 a1 a2 a3 _ e1) (nd (nt c1) trivial)) (by kernel_rfl)
def spec.NodeRead.l0.f (a0 : ByteArray) : Nat → (List ByteArray) → (List Int) → Int → Int → Option ((List ByteArray) × (List Int))
  | 0, _, _, _, _ => none
  | k + 1, v24_0, v24_1, v24_2, v24_3 =>
    cond (decide ((w64 (v24_3 + 1)) < (a0.size : Int))) (ck (0 ≤ v24_3) (ck (v24_3 < (a0.size : Int)) (cond ((byteAt a0 v24_3) == 61) (ck (0 ≤ v24_2) (ck (v24_2 ≤ v24_3) (ck (v24_3 ≤ (a0.size : Int)) (ck ((v24_0 ++ [a0.extract v24_2.toNat v24_3.toNat]).length * 16 ≤ 70368744177664) (ck (0 ≤ (w64 (v24_3 + 1))) (ck ((v24_1 ++ [w64 ((w64 (byteAt a0 (w64 (v24_3 + 1)))) - 48)]).length * 8 ≤ 70368744177664) (spec.NodeRead.l0.f a0 k (v24_0 ++ [a0.extract v24_2.toNat v24_3.toNat]) (v24_1 ++ [w64 ((w64 (byteAt a0 (w64 (v24_3 + 1)))) - 48)]) (w64 (v24_3 + 2)) (w64 ((w64 (v24_3 + 1)) + 1))))))))) (spec.NodeRead.l0.f a0 k v24_0 v24_1 v24_2 (w64 (v24_3 + 1)))))) (some (v24_0, v24_1))
def spec.NodeRead.l0.s (a0 : ByteArray) (v24_0 : List ByteArray) (v24_1 : List Int) (v24_2 : Int) (v24_3 : Int) : St := mkSt 59 [(0, one (.str a0)), (2, one (.ptr 0 0 0)), (4, one (.ptr 3 0 0)), (5, one (.int .i64 v24_2)), (6, one (.int .i64 v24_3))] [some ⟨true, .cells [.bool false, .sl 1 0 0, .sl 2 0 0, .str noVal]⟩, some ⟨true, .strs []⟩, some ⟨true, .ints .i64 []⟩, some ⟨true, .cells [.bool true, .sl 4 0 v24_0.length, .sl 5 0 v24_1.length, .str noVal]⟩, some ⟨true, .strs v24_0⟩, some ⟨true, .ints .i64 v24_1⟩]
def spec.NodeRead.l0.e0 (a0 : ByteArray) (o : (List ByteArray) × (List Int)) : St := mkSt 59 [(0, one (.str a0)), (2, one (.ptr 0 0 0)), (4, one (.ptr 3 0 0))] [some ⟨true, .cells [.bool false, .sl 1 0 0, .sl 2 0 0, .str noVal]⟩, some ⟨true, .strs []⟩, some ⟨true, .ints .i64 []⟩, some ⟨true, .cells [.bool true, .sl 4 0 o.1.length, .sl 5 0 o.2.length, .str noVal]⟩, some ⟨true, .strs o.1⟩, some ⟨true, .ints .i64 o.2⟩]
def spec.NodeRead.l0.x (a0 : ByteArray) : ((List ByteArray) × (List Int)) → AExit × St := fun o => (.exit 0, spec.NodeRead.l0.e0 a0 o)
theorem spec.NodeRead.l0.spec (a0 : ByteArray) : ∀ (k : Nat) (v24_0 : List ByteArray) (v24_1 : List Int) (v24_2 : Int) (v24_3 : Int) (o : (List ByteArray) × (List Int)), spec.NodeRead.l0.f a0 k v24_0 v24_1 v24_2 v24_3 = some o → LoopSpec Try.prog 0 (loopN Try.f56 0) (spec.NodeRead.l0.s a0 v24_0 v24_1 v24_2 v24_3) (spec.NodeRead.l0.x a0 o).1 (spec.NodeRead.l0.x a0 o).2
  | 0, _, _, _, _, _, h => by cases h
  | k + 1, v24_0, v24_1, v24_2, v24_3, o, h => by
    unfold spec.NodeRead.l0.f at h
    rcases br_cases h with ⟨c1, h⟩ | ⟨c1, h⟩
    · obtain ⟨p1, h⟩ := ck_some h
      obtain ⟨p2, h⟩ := ck_some h
      rcases br_cases h with ⟨c2, h⟩ | ⟨c2, h⟩
      · obtain ⟨p3, h⟩ := ck_some h
        obtain ⟨p4, h⟩ := ck_some h
        obtain ⟨p5, h⟩ := ck_some h
        obtain ⟨p6, h⟩ := ck_some h
        obtain ⟨p7, h⟩ := ck_some h
        obtain ⟨p8, h⟩ := ck_some h
        exact .of_step tab mixed [.br true, .br true, .br true, .br true] [] [0, 2, 4, 5, 6] [0, 1, 2, 3, 62, 158] (s1 := spec.NodeRead.l0.s a0 (v24_0 ++ [a0.extract v24_2.toNat v24_3.toNat]) (v24_1 ++ [w64 ((w64 (byteAt a0 (w64 (v24_3 + 1)))) - 48)]) (w64 (v24_3 + 2)) (w64 ((w64 (v24_3 + 1)) + 1))) (nd c1 (nd p1 (nd p2 (nd c2 (nd p3 (nd p4 (nd p5 (nd (rfl : (0 : Nat) = 0) (nd (rfl : v24_0.length = v24_0.length) (nd p6 (nd (rfl : (0 : Nat) = 0) (nd (rfl : 1 = 1) (nd p7 (nd (of_decide_eq_true c1) (nd (rfl : (0 : Nat) = 0) (nd (rfl : v24_1.length = v24_1.length) (nd p8 (nd (rfl : (0 : Nat) = 0) (nd (rfl : 1 = 1) trivial))))))))))))))))))) (by kernel_rfl) (spec.NodeRead.l0.spec a0 k (v24_0 ++ [a0.extract v24_2.toNat v24_3.toNat]) (v24_1 ++ [w64 ((w64 (byteAt a0 (w64 (v24_3 + 1)))) - 48)]) (w64 (v24_3 + 2)) (w64 ((w64 (v24_3 + 1)) + 1)) _ h)
      · exact .of_step tab mixed [.br true, .br false] [] [0, 2, 4, 5, 6] [0, 1, 2, 3, 4, 5] (s1 := spec.NodeRead.l0.s a0 v24_0 v24_1 v24_2 (w64 (v24_3 + 1))) (nd c1 (nd p1 (nd p2 (nd c2 trivial)))) (by kernel_rfl) (spec.NodeRead.l0.spec a0 k v24_0 v24_1 v24_2 (w64 (v24_3 + 1)) _ h)
    · obtain rfl := Option.some.inj h
      exact .of_done tab mixed [.br false] [] [0, 2, 4] [0, 1, 2, 3, 4, 5] rfl (nd c1 trivial) (by kernel_rfl)
def spec.NodeRead.f (K : Nat) (a0 : ByteArray) : Option (Bool × (List ByteArray) × (List Int) × ByteArray × Bool) :=
  cond (strEq a0 noVal) (some (false, [], [], noVal, false)) (ck (0 < (a0.size : Int)) (cond ((byteAt a0 0) == 102) (ck (1 ≤ (a0.size : Int)) (Option.bind (spec.NodeText.f K false [] [] (a0.extract 1 a0.size)) fun x1 => cond (strEq x1 a0) (some (false, [], [], a0.extract 1 a0.size, true)) (some (false, [], [], noVal, false)))) (Option.bind (spec.NodeRead.l0.f a0 K [] [] 1 1) fun x1 => Option.bind (spec.NodeText.f K true x1.1 x1.2 noVal) fun x2 => cond (strEq x2 a0) (some (true, x1.1, x1.2, noVal, true)) (some (false, [], [], noVal, false)))))
theorem spec.NodeRead.spec (K : Nat) (a0 : ByteArray) (o : Bool × (List ByteArray) × (List Int) × ByteArray × Bool) (h : spec.NodeRead.f K a0 = some o) : Den.Spec Try.prog 56 [one (.str a0)] [] (.tup [.agg [.bool o.1, .sl 0 0 o.2.1.length, .sl 1 0 o.2.2.1.length, .str o.2.2.2.1], .c (.bool o.2.2.2.2)]) [some ⟨true, .strs o.2.1⟩, some ⟨true, .ints .i64 o.2.2.1⟩] := by
  unfold spec.NodeRead.f at h
  rcases br_cases h with ⟨c1, h⟩ | ⟨c1, h⟩
  · obtain rfl := Option.some.inj h
    exact Den.Spec.of_walk tab mixed Try.func56 (by kernel_rfl) [.br true] [] [6, 7] (nd c1 trivial) (by kernel_rfl)
  · obtain ⟨p1, h⟩ := ck_some h
    rcases br_cases h with ⟨c2, h⟩ | ⟨c2, h⟩
    · obtain ⟨p2, h⟩ := ck_some h
      obtain ⟨x1, e1, h⟩ := bind_some h
      rcases br_cases h with ⟨c3, h⟩ | ⟨c3, h⟩
      · obtain rfl := Option.some.inj h
        exact Den.Spec.of_walk tab mixed Try.func56 (by kernel_rfl) [.br false, .br true, .call [(6, false), (7, false)] [] (one (.str x1)) [some ⟨false, .strs []⟩, some ⟨false, .ints .i64 []⟩], .br false] [] [6, 7] (nd c1 (nd (Int.le_refl 0) (nd p1 (nd c2 (nd (by decide : (0 : Int) ≤ 1) (nd p2 (nd (Int.le_refl (a0.size : Int)) (nd (spec.NodeText.spec K false [] [] (a0.extract 1 a0.size) _ e1) (nd (nf c3) trivial))))))))) (by kernel_rfl)
      · obtain rfl := Option.some.inj h
        exact Den.Spec.of_walk tab mixed Try.func56 (by kernel_rfl) [.br false, .br true, .call [(6, false), (7, false)] [] (one (.str x1)) [some ⟨false, .strs []⟩, some ⟨false, .ints .i64 []⟩], .br true] [] [8, 9] (nd c1 (nd (Int.le_refl 0) (nd p1 (nd c2 (nd (by decide : (0 : Int) ≤ 1) (nd p2 (nd (Int.le_refl (a0.size : Int)) (nd (spec.NodeText.spec K false [] [] (a0.extract 1 a0.size) _ e1) (nd (nt c3) trivial))))))))) (by kernel_rfl)
    · obtain ⟨x1, e1, h⟩ := bind_some h
      obtain ⟨x2, e2, h⟩ := bind_some h
      rcases br_cases h with ⟨c3, h⟩ | ⟨c3, h⟩
      · obtain rfl := Option.some.inj h
        exact Den.Spec.of_walk tab mixed Try.func56 (by kernel_rfl) [.br false, .br false, .loop [] [0, 2, 4, 5, 6] [0, 1, 2, 3, 6, 7] (.exit 0) (spec.NodeRead.l0.e0 a0 x1), .call [(4, false), (5, false)] [] (one (.str x2)) [some ⟨false, .strs x1.1⟩, some ⟨false, .ints .i64 x1.2⟩], .br false] [] [4, 5] (nd c1 (nd (Int.le_refl 0) (nd p1 (nd c2 (nd (spec.NodeRead.l0.spec a0 K [] [] 1 1 _ e1) (nd (spec.NodeText.spec K true x1.1 x1.2 noVal _ e2) (nd (nf c3) trivial))))))) (by kernel_rfl)
      · obtain rfl := Option.some.inj h
        exact Den.Spec.of_walk tab mixed Try.func56 (by kernel_rfl) [.br false, .br false, .loop [] [0, 2, 4, 5, 6] [0, 1, 2, 3, 6, 7] (.exit 0) (spec.NodeRead.l0.e0 a0 x1), .call [(4, false), (5, false)] [] (one (.str x2)) [some ⟨false, .strs x1.1⟩, some ⟨false, .ints .i64 x1.2⟩], .br true] [] [6, 7] (nd c1 (nd (Int.le_refl 0) (nd p1 (nd c2 (nd (spec.NodeRead.l0.spec a0 K [] [] 1 1 _ e1) (nd (spec.NodeText.spec K true x1.1 x1.2 noVal _ e2) (nd (nt c3) trivial))))))) (by kernel_rfl)
def spec.NodeAt.f (K : Nat) (a0 : List ByteArray) (a1 : Int) : Option (Bool × (List ByteArray) × (List Int) × ByteArray × Bool) :=
  cond ((a0.length : Int) != 12) (some (false, [], [], noVal, false)) (Option.bind (spec.l1In.f a1 0 11) fun x1 => cond (x1) (ck (0 ≤ a1) (ck (a1 < (a0.length : Int)) (Option.bind (spec.NodeRead.f K (a0.getD a1.toNat noVal)) fun x2 => some (x2.1, x2.2.1, x2.2.2.1, x2.2.2.2.1, x2.2.2.2.2)))) (some (false, [], [], noVal, false)))
theorem spec.NodeAt.spec (K : Nat) (a0 : List ByteArray) (a1 : Int) (o : Bool × (List ByteArray) × (List Int) × ByteArray × Bool) (h : spec.NodeAt.f K a0 a1 = some o) : Den.Spec Try.prog 61 [one (.sl 0 0 a0.length), one (.int .i64 a1)] [some ⟨false, .strs a0⟩] (.tup [.agg [.bool o.1, .sl 1 0 o.2.1.length, .sl 2 0 o.2.2.1.length, .str o.2.2.2.1], .c (.bool o.2.2.2.2)]) [some ⟨false, .strs a0⟩, some ⟨true, .strs o.2.1⟩, some ⟨true, .ints .i64 o.2.2.1⟩] := by
  unfold spec.NodeAt.f at h
  rcases br_cases h with ⟨c1, h⟩ | ⟨c1, h⟩
  · obtain rfl := Option.some.inj h
    exact Den.Spec.of_walk tab mixed Try.func61 (by kernel_rfl) [.br true, .br true, .br true, .br true, .br true] [] [0, 4, 5] (nd c1 (nd c1 (nd c1 (nd c1 (nd tt trivial))))) (by kernel_rfl)
  · obtain ⟨x1, e1, h⟩ := bind_some h
    rcases br_cases h with ⟨c2, h⟩ | ⟨c2, h⟩
    · obtain ⟨p1, h⟩ := ck_some h
      obtain ⟨p2, h⟩ := ck_some h
      obtain ⟨x2, e2, h⟩ := bind_some h
      obtain rfl := Option.some.inj h
      exact Den.Spec.of_walk tab mixed Try.func61 (by kernel_rfl) [.br false, .br false, .call [] [] (one (.bool x1)) [], .br false, .br false, .br false, .call [] [] (.tup [.agg [.bool x2.1, .sl 0 0 x2.2.1.length, .sl 1 0 x2.2.2.1.length, .str x2.2.2.2.1], .c (.bool x2.2.2.2.2)]) [some ⟨true, .strs x2.2.1⟩, some ⟨true, .ints .i64 x2.2.2.1⟩]] [] [0, 4, 5] (nd c1 (nd c1 (nd (spec.l1In.spec a1 0 11 _ e1) (nd c1 (nd c1 (nd (nf c2) (nd p1 (nd p2 (nd (tn p1 p2) (nd (spec.NodeRead.spec K (a0.getD a1.toNat noVal) _ e2) trivial)))))))))) (by kernel_rfl)
    · obtain rfl := Option.some.inj h
      exact Den.Spec.of_walk tab mixed Try.func61 (by kernel_rfl) [.br false, .br false, .call [] [] (one (.bool x1)) [], .br false, .br false, .br true] [] [0, 4, 5] (nd c1 (nd c1 (nd (spec.l1In.spec a1 0 11 _ e1) (nd c1 (nd c1 (nd (nt c2) trivial)))))) (by kernel_rfl)
def impl.in_.f (a0 : Int) (a1 : Int) (a2 : Int) : Option (Bool) :=
  cond (decide (a0 ≥ a1)) (some (decide (a0 ≤ a2))) (some false)
theorem impl.in_.spec (a0 : Int) (a1 : Int) (a2 : Int) (o : Bool) (h : impl.in_.f a0 a1 a2 = some o) : Den.Spec Try.prog 87 [one (.int .i64 a0), one (.int .i64 a1), one (.int .i64 a2)] [] (one (.bool o)) [] := by
  unfold impl.in_.f at h
  rcases br_cases h with ⟨c1, h⟩ | ⟨c1, h⟩
  · obtain rfl := Option.some.inj h
    exact Den.Spec.of_walk tab mixed Try.func87 (by kernel_rfl) [.br true, .br true, .br true, .br true] [] [] (nd c1 (nd c1 (nd c1 (nd c1 trivial)))) (by kernel_rfl)
  · obtain rfl := Option.some.inj h
    exact Den.Spec.of_walk tab mixed Try.func87 (by kernel_rfl) [.br false, .br false, .br false, .br false] [] [] (nd c1 (nd c1 (nd c1 (nd c1 trivial)))) (by kernel_rfl)
def impl.NameOk.l0.f (a0 : ByteArray) : Nat → Int → Option (Unit ⊕ Unit)
  | 0, _ => none
  | k + 1, v30_0 =>
    cond (decide (v30_0 < (a0.size : Int))) (ck (0 ≤ v30_0) (cond (decide ((byteAt a0 v30_0) < 97)) (some (.inl ())) (cond (decide ((byteAt a0 v30_0) > 122)) (some (.inl ())) (impl.NameOk.l0.f a0 k (w64 (v30_0 + 1)))))) (some (.inr (())))
def impl.NameOk.l0.s (a0 : ByteArray) (v30_0 : Int) : St := mkSt 23 [(0, one (.str a0)), (5, one (.int .i64 (a0.size : Int))), (6, one (.int .i64 v30_0))] []
def impl.NameOk.l0.e0 (a0 : ByteArray) (o : Unit) : St := mkSt 23 [(2, one (.bool false))] []
def impl.NameOk.l0.e1 (a0 : ByteArray) (o : Unit) : St := mkSt 23 [(0, one (.str a0))] []
def impl.NameOk.l0.x (a0 : ByteArray) : (Unit ⊕ Unit) → AExit × St := Sum.elim (fun o => (.ret, impl.NameOk.l0.e0 a0 o)) (fun o => (.exit 0, impl.NameOk.l0.e1 a0 o))
theorem impl.NameOk.l0.spec (a0 : ByteArray) : ∀ (k : Nat) (v30_0 : Int) (o : Unit ⊕ Unit), impl.NameOk.l0.f a0 k v30_0 = some o → LoopSpec Try.prog 0 (loopN Try.f72 0) (impl.NameOk.l0.s a0 v30_0) (impl.NameOk.l0.x a0 o).1 (impl.NameOk.l0.x a0 o).2
  | 0, _, _, h => by cases h
  | k + 1, v30_0, o, h => by
    unfold impl.NameOk.l0.f at h
    rcases br_cases h with ⟨c1, h⟩ | ⟨c1, h⟩
    · obtain ⟨p1, h⟩ := ck_some h
      rcases br_cases h with ⟨c2, h⟩ | ⟨c2, h⟩
      · obtain rfl := Option.some.inj h
        exact .of_done tab mixed [.br true, .br true, .br true, .br true, .br true, .br true, .br true] [] [2] [] rfl (nd c1 (nd p1 (nd (of_decide_eq_true c1) (nd c2 (nd c2 (nd c2 (nd c2 (nd c2 (nd tt trivial))))))))) (by kernel_rfl)
      · rcases br_cases h with ⟨c3, h⟩ | ⟨c3, h⟩
        · obtain rfl := Option.some.inj h
          exact .of_done tab mixed [.br true, .br false, .br false, .br false, .br false, .br false, .br true] [] [2] [] rfl (nd c1 (nd p1 (nd (of_decide_eq_true c1) (nd c2 (nd c2 (nd c2 (nd p1 (nd (of_decide_eq_true c1) (nd c2 (nd c2 (nd c3 trivial))))))))))) (by kernel_rfl)
        · exact .of_step tab mixed [.br true, .br false, .br false, .br false, .br false, .br false, .br false] [] [0, 5, 6] [] (s1 := impl.NameOk.l0.s a0 (w64 (v30_0 + 1))) (nd c1 (nd p1 (nd (of_decide_eq_true c1) (nd c2 (nd c2 (nd c2 (nd p1 (nd (of_decide_eq_true c1) (nd c2 (nd c2 (nd c3 trivial))))))))))) (by kernel_rfl) (impl.NameOk.l0.spec a0 k (w64 (v30_0 + 1)) _ h)
    · obtain rfl := Option.some.inj h
      exact .of_done tab mixed [.br false] [] [0] [] rfl (nd c1 trivial) (by kernel_rfl)
def impl.NameOk.f (K : Nat) (a0 : ByteArray) : Option (Bool) :=
  Option.bind (impl.NameOk.l0.f a0 K 0) fun x1 => (Sum.elim (fun x1 => some false) (fun x1 => Option.bind (impl.in_.f (a0.size : Int) 1 6) fun x2 => some x2)) x1
theorem impl.NameOk.spec (K : Nat) (a0 : ByteArray) (o : Bool) (h : impl.NameOk.f K a0 = some o) : Den.Spec Try.prog 72 [one (.str a0)] [] (one (.bool o)) [] := by
  unfold impl.NameOk.f at h
  obtain ⟨x1, e1, h⟩ := bind_some h
  rcases x1 with x1 | x1
  · obtain rfl := Option.some.inj h
    exact Den.Spec.of_walk tab mixed Try.func72 (by kernel_rfl) [.loop [] [0, 5, 6] [] (.ret) (impl.NameOk.l0.e0 a0 x1)] [] [] (nd (impl.NameOk.l0.spec a0 K 0 _ e1) trivial) (by kernel_rfl)
  · obtain ⟨x2, e2, h⟩ := bind_some h
    obtain rfl := Option.some.inj h
    exact Den.Spec.of_walk tab mixed Try.func72 (by kernel_rfl) [.loop [] [0, 5, 6] [] (.exit 0) (impl.NameOk.l0.e1 a0 x1), .call [] [] (one (.bool x2)) []] [] [] (nd (impl.NameOk.l0.spec a0 K 0 _ e1) (nd (impl.in_.spec (a0.size : Int) 1 6 _ e2) trivial)) (by kernel_rfl)
def impl.isKid.f (a0 : Int) : Option (Bool) :=
  Option.bind (impl.in_.f a0 1 11) fun x1 => some x1
theorem impl.isKid.spec (a0 : Int) (o : Bool) (h : impl.isKid.f a0 = some o) : Den.Spec Try.prog 111 [one (.int .i64 a0)] [] (one (.bool o)) [] := by
  unfold impl.isKid.f at h
  obtain ⟨x1, e1, h⟩ := bind_some h
  obtain rfl := Option.some.inj h
  exact Den.Spec.of_walk tab mixed Try.func111 (by kernel_rfl) [.call [] [] (one (.bool x1)) []] [] [] (nd (impl.in_.spec a0 1 11 _ e1) trivial) (by kernel_rfl)
def slices.Index_int_int.l0.f (a0 : List Int) (a1 : Int) : Nat → Int → Option (Int ⊕ Unit)
  | 0, _ => none
  | k + 1, v34_0 =>
    cond (decide (v34_0 < (a0.length : Int))) (ck (0 ≤ v34_0) (cond (a1 == (a0.getD v34_0.toNat 0)) (some (.inl v34_0)) (slices.Index_int_int.l0.f a0 a1 k (w64 (v34_0 + 1))))) (some (.inr (())))
def slices.Index_int_int.l0.s (a0 : List Int) (a1 : Int) (v34_0 : Int) : St := mkSt 19 [(0, one (.sl 0 0 a0.length)), (1, one (.int .i64 a1)), (7, one (.int .i64 (a0.length : Int))), (8, one (.int .i64 v34_0))] [some ⟨false, .ints .i64 a0⟩]
def slices.Index_int_int.l0.e0 (a0 : List Int) (a1 : Int) (o : Int) : St := mkSt 19 [(4, one (.int .i64 o))] [some ⟨false, .ints .i64 a0⟩]
def slices.Index_int_int.l0.e1 (a0 : List Int) (a1 : Int) (o : Unit) : St := mkSt 19 [] [some ⟨false, .ints .i64 a0⟩]
def slices.Index_int_int.l0.x (a0 : List Int) (a1 : Int) : (Int ⊕ Unit) → AExit × St := Sum.elim (fun o => (.ret, slices.Index_int_int.l0.e0 a0 a1 o)) (fun o => (.exit 0, slices.Index_int_int.l0.e1 a0 a1 o))
theorem slices.Index_int_int.l0.spec (a0 : List Int) (a1 : Int) : ∀ (k : Nat) (v34_0 : Int) (o : Int ⊕ Unit), slices.Index_int_int.l0.f a0 a1 k v34_0 = some o → LoopSpec Try.prog 1 (loopN Try.f112 0) (slices.Index_int_int.l0.s a0 a1 v34_0) (slices.Index_int_int.l0.x a0 a1 o).1 (slices.Index_int_int.l0.x a0 a1 o).2
  | 0, _, _, h => by cases h
  | k + 1, v34_0, o, h => by
    unfold slices.Index_int_int.l0.f at h
    rcases br_cases h with ⟨c1, h⟩ | ⟨c1, h⟩
    · obtain ⟨p1, h⟩ := ck_some h
      rcases br_cases h with ⟨c2, h⟩ | ⟨c2, h⟩
      · obtain rfl := Option.some.inj h
        exact .of_done tab mixed [.br true, .br true] [] [4] [0] rfl (nd c1 (nd p1 (nd (of_decide_eq_true c1) (nd (tn p1 (of_decide_eq_true c1)) (nd c2 trivial))))) (by kernel_rfl)
      · exact .of_step tab mixed [.br true, .br false] [] [0, 1, 7, 8] [0] (s1 := slices.Index_int_int.l0.s a0 a1 (w64 (v34_0 + 1))) (nd c1 (nd p1 (nd (of_decide_eq_true c1) (nd (tn p1 (of_decide_eq_true c1)) (nd c2 trivial))))) (by kernel_rfl) (slices.Index_int_int.l0.spec a0 a1 k (w64 (v34_0 + 1)) _ h)
    · obtain rfl := Option.some.inj h
      exact .of_done tab mixed [.br false] [] [] [0] rfl (nd c1 trivial) (by kernel_rfl)
def slices.Index_int_int.f (K : Nat) (a0 : List Int) (a1 : Int) : Option (Int) :=
  Option.bind (slices.Index_int_int.l0.f a0 a1 K 0) fun x1 => (Sum.elim (fun x1 => some x1) (fun x1 => some (-1))) x1
theorem slices.Index_int_int.spec (K : Nat) (a0 : List Int) (a1 : Int) (o : Int) (h : slices.Index_int_int.f K a0 a1 = some o) : Den.Spec Try.prog 112 [one (.sl 0 0 a0.length), one (.int .i64 a1)] [some ⟨false, .ints .i64 a0⟩] (one (.int .i64 o)) [some ⟨false, .ints .i64 a0⟩] := by
  unfold slices.Index_int_int.f at h
  obtain ⟨x1, e1, h⟩ := bind_some h
  rcases x1 with x1 | x1
  · obtain rfl := Option.some.inj h
    exact Den.Spec.of_walk tab mixed Try.func112 (by kernel_rfl) [.loop [] [0, 1, 7, 8] [0] (.ret) (slices.Index_int_int.l0.e0 a0 a1 x1)] [] [0] (nd (slices.Index_int_int.l0.spec a0 a1 K 0 _ e1) trivial) (by kernel_rfl)
  · obtain rfl := Option.some.inj h
    exact Den.Spec.of_walk tab mixed Try.func112 (by kernel_rfl) [.loop [] [0, 1, 7, 8] [0] (.exit 0) (slices.Index_int_int.l0.e1 a0 a1 x1)] [] [0] (nd (slices.Index_int_int.l0.spec a0 a1 K 0 _ e1) trivial) (by kernel_rfl)
def impl.NodeOk.l0.f (K : Nat) (a0 : Bool) (a1 : List ByteArray) (a2 : List Int) (a3 : ByteArray) : Nat → Int → Option (Unit ⊕ Unit)
  | 0, _ => none
  | k + 1, v36_0 =>
    cond (decide (v36_0 < (a1.length : Int))) (ck (0 ≤ v36_0) (Option.bind (impl.NameOk.f K (a1.getD v36_0.toNat noVal)) fun x1 => cond (x1) (cond (decide (v36_0 > 0)) (ck (0 ≤ (w64 (v36_0 - 1))) (ck ((w64 (v36_0 - 1)) < (a1.length : Int)) (cond (strLt (a1.getD ((w64 (v36_0 - 1)).toNat) noVal) (a1.getD v36_0.toNat noVal)) (ck (v36_0 < (a2.length : Int)) (Option.bind (impl.isKid.f (a2.getD v36_0.toNat 0)) fun x2 => cond (x2) (Option.bind (slices.Index_int_int.f K a2 (a2.getD v36_0.toNat 0)) fun x3 => cond (x3 != v36_0) (some (.inl ())) (impl.NodeOk.l0.f K a0 a1 a2 a3 k (w64 (v36_0 + 1)))) (some (.inl ())))) (some (.inl ()))))) (ck (v36_0 < (a2.length : Int)) (Option.bind (impl.isKid.f (a2.getD v36_0.toNat 0)) fun x2 => cond (x2) (Option.bind (slices.Index_int_int.f K a2 (a2.getD v36_0.toNat 0)) fun x3 => cond (x3 != v36_0) (some (.inl ())) (impl.NodeOk.l0.f K a0 a1 a2 a3 k (w64 (v36_0 + 1)))) (some (.inl ()))))) (some (.inl ())))) (some (.inr (())))
def impl.NodeOk.l0.s (K : Nat) (a0 : Bool) (a1 : List ByteArray) (a2 : List Int) (a3 : ByteArray) (v36_0 : Int) : St := mkSt 83 [(1, one (.ptr 2 0 0)), (37, one (.sl 0 0 a1.length)), (38, one (.int .i64 (a1.length : Int))), (39, one (.int .i64 v36_0))] [some ⟨false, .strs a1⟩, some ⟨false, .ints .i64 a2⟩, some ⟨true, .cells [.bool a0, .sl 0 0 a1.length, .sl 1 0 a2.length, .str a3]⟩]
def impl.NodeOk.l0.e0 (K : Nat) (a0 : Bool) (a1 : List ByteArray) (a2 : List Int) (a3 : ByteArray) (o : Unit) : St := mkSt 83 [(2, one (.bool false))] [some ⟨false, .strs a1⟩, some ⟨false, .ints .i64 a2⟩]
def impl.NodeOk.l0.e1 (K : Nat) (a0 : Bool) (a1 : List ByteArray) (a2 : List Int) (a3 : ByteArray) (o : Unit) : St := mkSt 83 [] [some ⟨false, .strs a1⟩, some ⟨false, .ints .i64 a2⟩]
def impl.NodeOk.l0.x (K : Nat) (a0 : Bool) (a1 : List ByteArray) (a2 : List Int) (a3 : ByteArray) : (Unit ⊕ Unit) → AExit × St := Sum.elim (fun o => (.ret, impl.NodeOk.l0.e0 K a0 a1 a2 a3 o)) (fun o => (.exit 0, impl.NodeOk.l0.e1 K a0 a1 a2 a3 o))
theorem impl.NodeOk.l0.spec (K : Nat) (a0 : Bool) (a1 : List ByteArray) (a2 : List Int) (a3 : ByteArray) : ∀ (k : Nat) (v36_0 : Int) (o : Unit ⊕ Unit), impl.NodeOk.l0.f K a0 a1 a2 a3 k v36_0 = some o → LoopSpec Try.prog 2 (loopN Try.f67 0) (impl.NodeOk.l0.s K a0 a1 a2 a3 v36_0) (impl.NodeOk.l0.x K a0 a1 a2 a3 o).1 (impl.NodeOk.l0.x K a0 a1 a2 a3 o).2
  | 0, _, _, h => by cases h
  | k + 1, v36_0, o, h => by
    unfold impl.NodeOk.l0.f at h
    rcases br_cases h with ⟨c1, h⟩ | ⟨c1, h⟩
    · obtain ⟨p1, h⟩ := ck_some h
      obtain ⟨x1, e1, h⟩ := bind_some h
      rcases br_cases h with ⟨c2, h⟩ | ⟨c2, h⟩
      · rcases br_cases h with ⟨c3, h⟩ | ⟨c3, h⟩
        · obtain ⟨p2, h⟩ := ck_some h
          obtain ⟨p3, h⟩ := ck_some h
          rcases br_cases h with ⟨c4, h⟩ | ⟨c4, h⟩
          · obtain ⟨p4, h⟩ := ck_some h
            obtain ⟨x2, e2, h⟩ := bind_some h
            rcases br_cases h with ⟨c5, h⟩ | ⟨c5, h⟩
            · obtain ⟨x3, e3, h⟩ := bind_some h
              rcases br_cases h with ⟨c6, h⟩ | ⟨c6, h⟩
              · obtain rfl := Option.some.inj h
                exact .of_done tab mixed [.br true, .call [] [] (one (.bool x1)) [], .br false, .br false, .br false, .br true, .br true, .br true, .br true, .br true, .br true, .br true, .br true, .br false, .br true, .br false, .br false, .br false, .br false, .br false, .br false, .br false, .call [] [] (one (.bool x2)) [], .br false, .br false, .br false, .br false, .br false, .br false, .br false, .br false, .br false, .br false, .call [] [(0, true)] (one (.int .i64 x3)) [some ⟨false, .ints .i64 a2⟩], .br false, .br false, .br false, .br true] [] [2] [0, 1] rfl (nd c1 (nd p1 (nd (of_decide_eq_true c1) (nd (tn p1 (of_decide_eq_true c1)) (nd (impl.NameOk.spec K (a1.getD v36_0.toNat noVal) _ e1) (nd (nf c2) (nd (nf c2) (nd (nf c2) (nd c3 (nd c3 (nd c3 (nd c3 (nd c3 (nd p2 (nd p3 (nd c3 (nd (tn p2 p3) (nd c3 (nd c3 (nd (nf c2) (nd c3 (nd (nf c2) (nd (nf c4) (nd (nf c4) (nd (nf c4) (nd (nf c4) (nd p1 (nd p4 (nd (nf c4) (nd (tn p1 p4) (nd (nf c4) (nd (impl.isKid.spec (a2.getD v36_0.toNat 0) _ e2) (nd (nf c4) (nd (nf c4) (nd (nf c5) (nd (nf c5) (nd (nf c5) (nd (nf c5) (nd (nf c5) (nd (nf c5) (nd p1 (nd p4 (nd (nf c5) (nd (tn p1 p4) (nd (nf c5) (nd (slices.Index_int_int.spec K a2 (a2.getD v36_0.toNat 0) _ e3) (nd (rfl : (0 : Nat) = 0) (nd (rfl : a2.length = a2.length) (nd (nf c5) (nd (nf c5) (nd (nf c5) (nd c6 trivial)))))))))))))))))))))))))))))))))))))))))))))))))))) (by kernel_rfl)
              · exact .of_step tab mixed [.br true, .call [] [] (one (.bool x1)) [], .br false, .br false, .br false, .br true, .br true, .br true, .br true, .br true, .br true, .br true, .br true, .br false, .br true, .br false, .br false, .br false, .br false, .br false, .br false, .br false, .call [] [] (one (.bool x2)) [], .br false, .br false, .br false, .br false, .br false, .br false, .br false, .br false, .br false, .br false, .call [] [(0, true)] (one (.int .i64 x3)) [some ⟨false, .ints .i64 a2⟩], .br false, .br false, .br false, .br false] [] [1, 37, 38, 39] [0, 1, 2] (s1 := impl.NodeOk.l0.s K a0 a1 a2 a3 (w64 (v36_0 + 1))) (nd c1 (nd p1 (nd (of_decide_eq_true c1) (nd (tn p1 (of_decide_eq_true c1)) (nd (impl.NameOk.spec K (a1.getD v36_0.toNat noVal) _ e1) (nd (nf c2) (nd (nf c2) (nd (nf c2) (nd c3 (nd c3 (nd c3 (nd c3 (nd c3 (nd p2 (nd p3 (nd c3 (nd (tn p2 p3) (nd c3 (nd c3 (nd (nf c2) (nd c3 (nd (nf c2) (nd (nf c4) (nd (nf c4) (nd (nf c4) (nd (nf c4) (nd p1 (nd p4 (nd (nf c4) (nd (tn p1 p4) (nd (nf c4) (nd (impl.isKid.spec (a2.getD v36_0.toNat 0) _ e2) (nd (nf c4) (nd (nf c4) (nd (nf c5) (nd (nf c5) (nd (nf c5) (nd (nf c5) (nd (nf c5) (nd (nf c5) (nd p1 (nd p4 (nd (nf c5) (nd (tn p1 p4) (nd (nf c5) (nd (slices.Index_int_int.spec K a2 (a2.getD v36_0.toNat 0) _ e3) (nd (rfl : (0 : Nat) = 0) (nd (rfl : a2.length = a2.length) (nd (nf c5) (nd (nf c5) (nd (nf c5) (nd c6 trivial)))))))))))))))))))))))))))))))))))))))))))))))))))) (by kernel_rfl) (impl.NodeOk.l0.spec K a0 a1 a2 a3 k (w64 (v36_0 + 1)) _ h)
            · obtain rfl := Option.some.inj h
              exact .of_done tab mixed [.br true, .call [] [] (one (.bool x1)) [], .br false, .br false, .br false, .br true, .br true, .br true, .br true, .br true, .br true, .br true, .br true, .br false, .br true, .br false, .br false, .br false, .br false, .br false, .br false, .br false, .call [] [] (one (.bool x2)) [], .br false, .br false, .br true, .br true, .br true, .br true, .br true, .br true, .br true, .br true, .br true, .br true, .br true, .br true] [] [2] [0, 1] rfl (nd c1 (nd p1 (nd (of_decide_eq_true c1) (nd (tn p1 (of_decide_eq_true c1)) (nd (impl.NameOk.spec K (a1.getD v36_0.toNat noVal) _ e1) (nd (nf c2) (nd (nf c2) (nd (nf c2) (nd c3 (nd c3 (nd c3 (nd c3 (nd c3 (nd p2 (nd p3 (nd c3 (nd (tn p2 p3) (nd c3 (nd c3 (nd (nf c2) (nd c3 (nd (nf c2) (nd (nf c4) (nd (nf c4) (nd (nf c4) (nd (nf c4) (nd p1 (nd p4 (nd (nf c4) (nd (tn p1 p4) (nd (nf c4) (nd (impl.isKid.spec (a2.getD v36_0.toNat 0) _ e2) (nd (nf c4) (nd (nf c4) (nd (nt c5) (nd (nt c5) (nd (nt c5) (nd (nt c5) (nd (nt c5) (nd (nt c5) (nd (nt c5) (nd (nt c5) (nd (nt c5) (nd (nt c5) (nd (nt c5) (nd tt trivial)))))))))))))))))))))))))))))))))))))))))))))) (by kernel_rfl)
          · obtain rfl := Option.some.inj h
            exact .of_done tab mixed [.br true, .call [] [] (one (.bool x1)) [], .br false, .br false, .br false, .br true, .br true, .br true, .br true, .br true, .br true, .br true, .br true, .br false, .br true, .br false, .br true, .br true, .br true, .br true, .br true, .br true, .br true, .br true, .br true, .br true, .br true, .br true, .br true, .br true, .br true, .br true, .br true, .br true, .br true, .br true] [] [2] [0, 1] rfl (nd c1 (nd p1 (nd (of_decide_eq_true c1) (nd (tn p1 (of_decide_eq_true c1)) (nd (impl.NameOk.spec K (a1.getD v36_0.toNat noVal) _ e1) (nd (nf c2) (nd (nf c2) (nd (nf c2) (nd c3 (nd c3 (nd c3 (nd c3 (nd c3 (nd p2 (nd p3 (nd c3 (nd (tn p2 p3) (nd c3 (nd c3 (nd (nf c2) (nd c3 (nd (nf c2) (nd (nt c4) (nd (nt c4) (nd (nt c4) (nd (nt c4) (nd (nt c4) (nd (nt c4) (nd (nt c4) (nd (nt c4) (nd tt (nd tt (nd tt (nd tt (nd tt (nd tt (nd tt (nd tt (nd tt (nd tt (nd tt (nd tt trivial)))))))))))))))))))))))))))))))))))))))))) (by kernel_rfl)
        · obtain ⟨p2, h⟩ := ck_some h
          obtain ⟨x2, e2, h⟩ := bind_some h
          rcases br_cases h with ⟨c4, h⟩ | ⟨c4, h⟩
          · obtain ⟨x3, e3, h⟩ := bind_some h
            rcases br_cases h with ⟨c5, h⟩ | ⟨c5, h⟩
            · obtain rfl := Option.some.inj h
              exact .of_done tab mixed [.br true, .call [] [] (one (.bool x1)) [], .br false, .br false, .br false, .br false, .br false, .br false, .br false, .br false, .br false, .br false, .br false, .br false, .br false, .br false, .br false, .br false, .br false, .br false, .br false, .br false, .call [] [] (one (.bool x2)) [], .br false, .br false, .br false, .br false, .br false, .br false, .br false, .br false, .br false, .br false, .call [] [(0, true)] (one (.int .i64 x3)) [some ⟨false, .ints .i64 a2⟩], .br false, .br false, .br false, .br true] [] [2] [0, 1] rfl (nd c1 (nd p1 (nd (of_decide_eq_true c1) (nd (tn p1 (of_decide_eq_true c1)) (nd (impl.NameOk.spec K (a1.getD v36_0.toNat noVal) _ e1) (nd (nf c2) (nd (nf c2) (nd (nf c2) (nd c3 (nd c3 (nd c3 (nd c3 (nd c3 (nd c3 (nd c3 (nd c3 (nd (nf c2) (nd c3 (nd (nf c2) (nd ff (nd ff (nd ff (nd ff (nd p1 (nd p2 (nd ff (nd (tn p1 p2) (nd ff (nd (impl.isKid.spec (a2.getD v36_0.toNat 0) _ e2) (nd ff (nd ff (nd (nf c4) (nd (nf c4) (nd (nf c4) (nd (nf c4) (nd (nf c4) (nd (nf c4) (nd p1 (nd p2 (nd (nf c4) (nd (tn p1 p2) (nd (nf c4) (nd (slices.Index_int_int.spec K a2 (a2.getD v36_0.toNat 0) _ e3) (nd (rfl : (0 : Nat) = 0) (nd (rfl : a2.length = a2.length) (nd (nf c4) (nd (nf c4) (nd (nf c4) (nd c5 trivial))))))))))))))))))))))))))))))))))))))))))))))))) (by kernel_rfl)
            · exact .of_step tab mixed [.br true, .call [] [] (one (.bool x1)) [], .br false, .br false, .br false, .br false, .br false, .br false, .br false, .br false, .br false, .br false, .br false, .br false, .br false, .br false, .br false, .br false, .br false, .br false, .br false, .br false, .call [] [] (one (.bool x2)) [], .br false, .br false, .br false, .br false, .br false, .br false, .br false, .br false, .br false, .br false, .call [] [(0, true)] (one (.int .i64 x3)) [some ⟨false, .ints .i64 a2⟩], .br false, .br false, .br false, .br false] [] [1, 37, 38, 39] [0, 1, 2] (s1 := impl.NodeOk.l0.s K a0 a1 a2 a3 (w64 (v36_0 + 1))) (nd c1 (nd p1 (nd (of_decide_eq_true c1) (nd (tn p1 (of_decide_eq_true c1)) (nd (impl.NameOk.spec K (a1.getD v36_0.toNat noVal) _ e1) (nd (nf c2) (nd (nf c2) (nd (nf c2) (nd c3 (nd c3 (nd c3 (nd c3 (nd c3 (nd c3 (nd c3 (nd c3 (nd (nf c2) (nd c3 (nd (nf c2) (nd ff (nd ff (nd ff (nd ff (nd p1 (nd p2 (nd ff (nd (tn p1 p2) (nd ff (nd (impl.isKid.spec (a2.getD v36_0.toNat 0) _ e2) (nd ff (nd ff (nd (nf c4) (nd (nf c4) (nd (nf c4) (nd (nf c4) (nd (nf c4) (nd (nf c4) (nd p1 (nd p2 (nd (nf c4) (nd (tn p1 p2) (nd (nf c4) (nd (slices.Index_int_int.spec K a2 (a2.getD v36_0.toNat 0) _ e3) (nd (rfl : (0 : Nat) = 0) (nd (rfl : a2.length = a2.length) (nd (nf c4) (nd (nf c4) (nd (nf c4) (nd c5 trivial))))))))))))))))))))))))))))))))))))))))))))))))) (by kernel_rfl) (impl.NodeOk.l0.spec K a0 a1 a2 a3 k (w64 (v36_0 + 1)) _ h)
          · obtain rfl := Option.some.inj h
            exact .of_done tab mixed [.br true, .call [] [] (one (.bool x1)) [], .br false, .br false, .br false, .br false, .br false, .br false, .br false, .br false, .br false, .br false, .br false, .br false, .br false, .br false, .br false, .br false, .br false, .br false, .br false, .br false, .call [] [] (one (.bool x2)) [], .br false, .br false, .br true, .br true, .br true, .br true, .br true, .br true, .br true, .br true, .br true, .br true, .br true, .br true] [] [2] [0, 1] rfl (nd c1 (nd p1 (nd (of_decide_eq_true c1) (nd (tn p1 (of_decide_eq_true c1)) (nd (impl.NameOk.spec K (a1.getD v36_0.toNat noVal) _ e1) (nd (nf c2) (nd (nf c2) (nd (nf c2) (nd c3 (nd c3 (nd c3 (nd c3 (nd c3 (nd c3 (nd c3 (nd c3 (nd (nf c2) (nd c3 (nd (nf c2) (nd ff (nd ff (nd ff (nd ff (nd p1 (nd p2 (nd ff (nd (tn p1 p2) (nd ff (nd (impl.isKid.spec (a2.getD v36_0.toNat 0) _ e2) (nd ff (nd ff (nd (nt c4) (nd (nt c4) (nd (nt c4) (nd (nt c4) (nd (nt c4) (nd (nt c4) (nd (nt c4) (nd (nt c4) (nd (nt c4) (nd (nt c4) (nd (nt c4) (nd tt trivial))))))))))))))))))))))))))))))))))))))))))) (by kernel_rfl)
      · obtain rfl := Option.some.inj h
        exact .of_done tab mixed [.br true, .call [] [] (one (.bool x1)) [], .br true, .br true, .br true, .br true, .br true, .br true, .br true, .br true, .br true, .br true, .br true, .br true, .br true, .br true, .br true, .br true, .br true, .br true, .br true, .br true, .br true, .br true, .br true, .br true, .br true] [] [2] [0, 1] rfl (nd c1 (nd p1 (nd (of_decide_eq_true c1) (nd (tn p1 (of_decide_eq_true c1)) (nd (impl.NameOk.spec K (a1.getD v36_0.toNat noVal) _ e1) (nd (nt c2) (nd (nt c2) (nd (nt c2) (nd (nt c2) (nd (nt c2) (nd tt (nd tt (nd tt (nd tt (nd tt (nd tt (nd tt (nd tt (nd tt (nd tt (nd tt (nd tt (nd tt (nd tt (nd tt (nd tt (nd tt (nd tt (nd tt (nd tt trivial)))))))))))))))))))))))))))))) (by kernel_rfl)
    · obtain rfl := Option.some.inj h
      exact .of_done tab mixed [.br false] [] [] [0, 1] rfl (nd c1 trivial) (by kernel_rfl)
def impl.NodeOk.f (K : Nat) (a0 : Bool) (a1 : List ByteArray) (a2 : List Int) (a3 : ByteArray) : Option (Bool) :=
  cond (a0) (cond ((a1.length : Int) != (a2.length : Int)) (some false) (cond (strEq a3 noVal) (Option.bind (impl.NodeOk.l0.f K a0 a1 a2 a3 K 0) fun x1 => (Sum.elim (fun x1 => some false) (fun x1 => some true)) x1) (some false))) (cond ((a1.length : Int) == 0) (cond ((a2.length : Int) == 0) (some (decide ((a3.size : Int) ≤ 60))) (some false)) (some false))
theorem impl.NodeOk.spec (K : Nat) (a0 : Bool) (a1 : List ByteArray) (a2 : List Int) (a3 : ByteArray) (o : Bool) (h : impl.NodeOk.f K a0 a1 a2 a3 = some o) : Den.Spec Try.prog 67 [.v (.agg [.bool a0, .sl 0 0 a1.length, .sl 1 0 a2.length, .str a3])] [some ⟨false, .strs a1⟩, some ⟨false, .ints .i64 a2⟩] (one (.bool o)) [some ⟨false, .strs a1⟩, some ⟨false, .ints .i64 a2⟩] := by
  unfold impl.NodeOk.f at h
  rcases br_cases h with ⟨c1, h⟩ | ⟨c1, h⟩
  · rcases br_cases h with ⟨c2, h⟩ | ⟨c2, h⟩
    · obtain rfl := Option.some.inj h
      exact Den.Spec.of_walk tab mixed Try.func67 (by kernel_rfl) [.br false, .br true, .br true, .br true, .br true, .br true] [] [0, 1] (nd (nf c1) (nd c2 (nd c2 (nd c2 (nd c2 (nd tt trivial)))))) (by kernel_rfl)
    · rcases br_cases h with ⟨c3, h⟩ | ⟨c3, h⟩
      · obtain ⟨x1, e1, h⟩ := bind_some h
        rcases x1 with x1 | x1
        · obtain rfl := Option.some.inj h
          exact Den.Spec.of_walk tab mixed Try.func67 (by kernel_rfl) [.br false, .br false, .br false, .br false, .br false, .br false, .loop [] [1, 37, 38, 39] [0, 1, 2] (.ret) (impl.NodeOk.l0.e0 K a0 a1 a2 a3 x1)] [] [0, 1] (nd (nf c1) (nd c2 (nd c2 (nd c2 (nd c2 (nd (nf c3) (nd (impl.NodeOk.l0.spec K a0 a1 a2 a3 K 0 _ e1) trivial))))))) (by kernel_rfl)
        · obtain rfl := Option.some.inj h
          exact Den.Spec.of_walk tab mixed Try.func67 (by kernel_rfl) [.br false, .br false, .br false, .br false, .br false, .br false, .loop [] [1, 37, 38, 39] [0, 1, 2] (.exit 0) (impl.NodeOk.l0.e1 K a0 a1 a2 a3 x1)] [] [0, 1] (nd (nf c1) (nd c2 (nd c2 (nd c2 (nd c2 (nd (nf c3) (nd (impl.NodeOk.l0.spec K a0 a1 a2 a3 K 0 _ e1) trivial))))))) (by kernel_rfl)
      · obtain rfl := Option.some.inj h
        exact Den.Spec.of_walk tab mixed Try.func67 (by kernel_rfl) [.br false, .br false, .br false, .br false, .br false, .br true] [] [0, 1] (nd (nf c1) (nd c2 (nd c2 (nd c2 (nd c2 (nd (nt c3) trivial)))))) (by kernel_rfl)
  · rcases br_cases h with ⟨c2, h⟩ | ⟨c2, h⟩
    · rcases br_cases h with ⟨c3, h⟩ | ⟨c3, h⟩
      · obtain rfl := Option.some.inj h
        exact Den.Spec.of_walk tab mixed Try.func67 (by kernel_rfl) [.br true, .br true, .br true, .br true, .br true, .br true, .br true, .br true, .br true, .br true, .br true] [] [0, 1] (nd (nt c1) (nd c2 (nd c2 (nd c2 (nd c2 (nd c2 (nd c3 (nd c3 (nd c3 (nd c3 (nd c3 trivial))))))))))) (by kernel_rfl)
      · obtain rfl := Option.some.inj h
        exact Den.Spec.of_walk tab mixed Try.func67 (by kernel_rfl) [.br true, .br true, .br true, .br true, .br true, .br true, .br false, .br false, .br false, .br false, .br false] [] [0, 1] (nd (nt c1) (nd c2 (nd c2 (nd c2 (nd c2 (nd c2 (nd c3 (nd c3 (nd c3 (nd c3 (nd c3 trivial))))))))))) (by kernel_rfl)
    · obtain rfl := Option.some.inj h
      exact Den.Spec.of_walk tab mixed Try.func67 (by kernel_rfl) [.br true, .br false, .br false, .br false, .br false, .br false, .br false, .br false, .br false, .br false, .br false] [] [0, 1] (nd (nt c1) (nd c2 (nd c2 (nd c2 (nd c2 (nd c2 (nd ff (nd ff (nd ff (nd ff (nd ff trivial))))))))))) (by kernel_rfl)
def impl.NodeText.l0.f (a0 : Bool) (a1 : List ByteArray) (a2 : List Int) (a3 : ByteArray) : Nat → (List Int) → Int → Option ((List Int))
  | 0, _, _ => none
  | k + 1, v39_0, v39_1 =>
    cond (decide (v39_1 < (a1.length : Int))) (ck (0 ≤ v39_1) (ck ((v39_0 ++ (bytesL (a1.getD v39_1.toNat noVal))).length * 1 ≤ 70368744177664) (ck (v39_1 < (a2.length : Int)) (ck (((v39_0 ++ (bytesL (a1.getD v39_1.toNat noVal))) ++ [61, IntKind.u8.wrap (w64 (48 + (a2.getD v39_1.toNat 0)))]).length * 1 ≤ 70368744177664) (impl.NodeText.l0.f a0 a1 a2 a3 k ((v39_0 ++ (bytesL (a1.getD v39_1.toNat noVal))) ++ [61, IntKind.u8.wrap (w64 (48 + (a2.getD v39_1.toNat 0)))]) (w64 (v39_1 + 1))))))) (some v39_0)
def impl.NodeText.l0.s (a0 : Bool) (a1 : List ByteArray) (a2 : List Int) (a3 : ByteArray) (v39_0 : List Int) (v39_1 : Int) : St := mkSt 40 [(1, one (.ptr 2 0 0)), (3, one (.sl 3 0 v39_0.length)), (18, one (.sl 0 0 a1.length)), (19, one (.int .i64 (a1.length : Int))), (20, one (.int .i64 v39_1))] [some ⟨false, .strs a1⟩, some ⟨false, .ints .i64 a2⟩, some ⟨true, .cells [.bool a0, .sl 0 0 a1.length, .sl 1 0 a2.length, .str a3]⟩, some ⟨true, .ints .u8 v39_0⟩]
def impl.NodeText.l0.e0 (a0 : Bool) (a1 : List ByteArray) (a2 : List Int) (a3 : ByteArray) (o : (List Int)) : St := mkSt 40 [(3, one (.sl 2 0 o.length))] [some ⟨false, .strs a1⟩, some ⟨false, .ints .i64 a2⟩, some ⟨true, .ints .u8 o⟩]
def impl.NodeText.l0.x (a0 : Bool) (a1 : List ByteArray) (a2 : List Int) (a3 : ByteArray) : ((List Int)) → AExit × St := fun o => (.exit 0, impl.NodeText.l0.e0 a0 a1 a2 a3 o)
theorem impl.NodeText.l0.spec (a0 : Bool) (a1 : List ByteArray) (a2 : List Int) (a3 : ByteArray) : ∀ (k : Nat) (v39_0 : List Int) (v39_1 : Int) (o : (List Int)), impl.NodeText.l0.f a0 a1 a2 a3 k v39_0 v39_1 = some o → LoopSpec Try.prog 2 (loopN Try.f38 0) (impl.NodeText.l0.s a0 a1 a2 a3 v39_0 v39_1) (impl.NodeText.l0.x a0 a1 a2 a3 o).1 (impl.NodeText.l0.x a0 a1 a2 a3 o).2
  | 0, _, _, _, h => by cases h
  | k + 1, v39_0, v39_1, o, h => by
    unfold impl.NodeText.l0.f at h
    rcases br_cases h with ⟨c1, h⟩ | ⟨c1, h⟩
    · obtain ⟨p1, h⟩ := ck_some h
      obtain ⟨p2, h⟩ := ck_some h
      obtain ⟨p3, h⟩ := ck_some h
      obtain ⟨p4, h⟩ := ck_some h
      exact .of_step tab mixed [.br true, .br true] [] [1, 3, 18, 19, 20] [0, 1, 2, 92] (s1 := impl.NodeText.l0.s a0 a1 a2 a3 ((v39_0 ++ (bytesL (a1.getD v39_1.toNat noVal))) ++ [61, IntKind.u8.wrap (w64 (48 + (a2.getD v39_1.toNat 0)))]) (w64 (v39_1 + 1))) (nd c1 (nd p1 (nd (of_decide_eq_true c1) (nd (tn p1 (of_decide_eq_true c1)) (nd (rfl : (0 : Nat) = 0) (nd (rfl : v39_0.length = v39_0.length) (nd p2 (nd p1 (nd p3 (nd (tn p1 p3) (nd (rfl : (0 : Nat) = 0) (nd (rfl : (v39_0 ++ (bytesL (a1.getD v39_1.toNat noVal))).length = (v39_0 ++ (bytesL (a1.getD v39_1.toNat noVal))).length) (nd p4 (nd (rfl : (0 : Nat) = 0) (nd (rfl : 2 = 2) trivial))))))))))))))) (by kernel_rfl) (impl.NodeText.l0.spec a0 a1 a2 a3 k ((v39_0 ++ (bytesL (a1.getD v39_1.toNat noVal))) ++ [61, IntKind.u8.wrap (w64 (48 + (a2.getD v39_1.toNat 0)))]) (w64 (v39_1 + 1)) _ h)
    · obtain rfl := Option.some.inj h
      exact .of_done tab mixed [.br false] [] [3] [0, 1, 3] rfl (nd c1 trivial) (by kernel_rfl)
def impl.NodeText.f (K : Nat) (a0 : Bool) (a1 : List ByteArray) (a2 : List Int) (a3 : ByteArray) : Option (ByteArray) :=
  Option.bind (impl.NodeOk.f K a0 a1 a2 a3) fun x1 => cond (x1) (cond (a0) (Option.bind (impl.NodeText.l0.f a0 a1 a2 a3 K [100] 0) fun x2 => some (ofBytes x2)) (ck ((((ByteArray.mk #[102]).size + a3.size : Nat) : Int) ≤ 9223372036854775807) (some ((ByteArray.mk #[102]) ++ a3)))) (some noVal)
theorem impl.NodeText.spec (K : Nat) (a0 : Bool) (a1 : List ByteArray) (a2 : List Int) (a3 : ByteArray) (o : ByteArray) (h : impl.NodeText.f K a0 a1 a2 a3 = some o) : Den.Spec Try.prog 38 [.v (.agg [.bool a0, .sl 0 0 a1.length, .sl 1 0 a2.length, .str a3])] [some ⟨false, .strs a1⟩, some ⟨false, .ints .i64 a2⟩] (one (.str o)) [some ⟨false, .strs a1⟩, some ⟨false, .ints .i64 a2⟩] := by
  unfold impl.NodeText.f at h
  obtain ⟨x1, e1, h⟩ := bind_some h
  rcases br_cases h with ⟨c1, h⟩ | ⟨c1, h⟩
  · rcases br_cases h with ⟨c2, h⟩ | ⟨c2, h⟩
    · obtain ⟨x2, e2, h⟩ := bind_some h
      obtain rfl := Option.some.inj h
      exact Den.Spec.of_walk tab mixed Try.func38 (by kernel_rfl) [.call [(0, false), (1, false)] [] (one (.bool x1)) [some ⟨false, .strs a1⟩, some ⟨false, .ints .i64 a2⟩], .br false, .br false, .loop [] [1, 3, 18, 19, 20] [0, 1, 2, 3] (.exit 0) (impl.NodeText.l0.e0 a0 a1 a2 a3 x2), .br true] [] [0, 1] (nd (impl.NodeOk.spec K a0 a1 a2 a3 _ e1) (nd (nf c1) (nd (nf c2) (nd (by decide : ((0 : Nat) < 1)) (nd (impl.NodeText.l0.spec a0 a1 a2 a3 K [100] 0 _ e2) (nd (rfl : (0 : Nat) = 0) (nd (rfl : x2.length = x2.length) trivial))))))) (by kernel_rfl)
    · obtain ⟨p1, h⟩ := ck_some h
      obtain rfl := Option.some.inj h
      exact Den.Spec.of_walk tab mixed Try.func38 (by kernel_rfl) [.call [(0, false), (1, false)] [] (one (.bool x1)) [some ⟨false, .strs a1⟩, some ⟨false, .ints .i64 a2⟩], .br false, .br true] [] [0, 1] (nd (impl.NodeOk.spec K a0 a1 a2 a3 _ e1) (nd (nf c1) (nd (nt c2) (nd p1 trivial)))) (by kernel_rfl)
  · obtain rfl := Option.some.inj h
    exact Den.Spec.of_walk tab mixed Try.func38 (by kernel_rfl) [.call [(0, false), (1, false)] [] (one (.bool x1)) [some ⟨false, .strs a1⟩, some ⟨false, .ints .i64 a2⟩], .br true] [] [0, 1] (nd (impl.NodeOk.spec K a0 a1 a2 a3 _ e1) (nd (nt c1) trivial)) (by kernel_rfl)
def impl.NodeRead.l0.f (a0 : ByteArray) : Nat → (List ByteArray) → (List Int) → Int → Int → Option ((List ByteArray) × (List Int))
  | 0, _, _, _, _ => none
  | k + 1, v42_0, v42_1, v42_2, v42_3 =>
    cond (decide (v42_3 < (a0.size : Int))) (ck (0 ≤ v42_3) (cond ((byteAt a0 v42_3) == 61) (cond (decide ((w64 (v42_3 + 1)) < (a0.size : Int))) (ck (0 ≤ v42_2) (ck (v42_2 ≤ v42_3) (ck (v42_3 ≤ (a0.size : Int)) (ck ((v42_0 ++ [a0.extract v42_2.toNat v42_3.toNat]).length * 16 ≤ 70368744177664) (ck (0 ≤ (w64 (v42_3 + 1))) (ck ((v42_1 ++ [w64 ((w64 (byteAt a0 (w64 (v42_3 + 1)))) - 48)]).length * 8 ≤ 70368744177664) (impl.NodeRead.l0.f a0 k (v42_0 ++ [a0.extract v42_2.toNat v42_3.toNat]) (v42_1 ++ [w64 ((w64 (byteAt a0 (w64 (v42_3 + 1)))) - 48)]) (w64 (v42_3 + 2)) (w64 ((w64 (v42_3 + 1)) + 1))))))))) (impl.NodeRead.l0.f a0 k v42_0 v42_1 v42_2 (w64 (v42_3 + 1)))) (impl.NodeRead.l0.f a0 k v42_0 v42_1 v42_2 (w64 (v42_3 + 1))))) (some (v42_0, v42_1))
def impl.NodeRead.l0.s (a0 : ByteArray) (v42_0 : List ByteArray) (v42_1 : List Int) (v42_2 : Int) (v42_3 : Int) : St := mkSt 71 [(0, one (.str a0)), (2, one (.ptr 0 0 0)), (4, one (.ptr 3 0 0)), (5, one (.int .i64 v42_2)), (6, one (.int .i64 v42_3))] [some ⟨true, .cells [.bool false, .sl 1 0 0, .sl 2 0 0, .str noVal]⟩, some ⟨true, .strs []⟩, some ⟨true, .ints .i64 []⟩, some ⟨true, .cells [.bool true, .sl 4 0 v42_0.length, .sl 5 0 v42_1.length, .str noVal]⟩, some ⟨true, .strs v42_0⟩, some ⟨true, .ints .i64 v42_1⟩]
def impl.NodeRead.l0.e0 (a0 : ByteArray) (o : (List ByteArray) × (List Int)) : St := mkSt 71 [(0, one (.str a0)), (2, one (.ptr 0 0 0)), (4, one (.ptr 3 0 0))] [some ⟨true, .cells [.bool false, .sl 1 0 0, .sl 2 0 0, .str noVal]⟩, some ⟨true, .strs []⟩, some ⟨true, .ints .i64 []⟩, some ⟨true, .cells [.bool true, .sl 4 0 o.1.length, .sl 5 0 o.2.length, .str noVal]⟩, some ⟨true, .strs o.1⟩, some ⟨true, .ints .i64 o.2⟩]
def impl.NodeRead.l0.x (a0 : ByteArray) : ((List ByteArray) × (List Int)) → AExit × St := fun o => (.exit 1, impl.NodeRead.l0.e0 a0 o)
theorem impl.NodeRead.l0.spec (a0 : ByteArray) : ∀ (k : Nat) (v42_0 : List ByteArray) (v42_1 : List Int) (v42_2 : Int) (v42_3 : Int) (o : (List ByteArray) × (List Int)), impl.NodeRead.l0.f a0 k v42_0 v42_1 v42_2 v42_3 = some o → LoopSpec Try.prog 0 (loopN Try.f57 0) (impl.NodeRead.l0.s a0 v42_0 v42_1 v42_2 v42_3) (impl.NodeRead.l0.x a0 o).1 (impl.NodeRead.l0.x a0 o).2
  | 0, _, _, _, _, _, h => by cases h
  | k + 1, v42_0, v42_1, v42_2, v42_3, o, h => by
    unfold impl.NodeRead.l0.f at h
    rcases br_cases h with ⟨c1, h⟩ | ⟨c1, h⟩
    · obtain ⟨p1, h⟩ := ck_some h
      rcases br_cases h with ⟨c2, h⟩ | ⟨c2, h⟩
      · rcases br_cases h with ⟨c3, h⟩ | ⟨c3, h⟩
        · obtain ⟨p2, h⟩ := ck_some h
          obtain ⟨p3, h⟩ := ck_some h
          obtain ⟨p4, h⟩ := ck_some h
          obtain ⟨p5, h⟩ := ck_some h
          obtain ⟨p6, h⟩ := ck_some h
          obtain ⟨p7, h⟩ := ck_some h
          exact .of_step tab mixed [.br true, .br true, .br true, .br true, .br true, .br true, .br true, .br true, .br true, .br true] [] [0, 2, 4, 5, 6] [0, 1, 2, 3, 62, 158] (s1 := impl.NodeRead.l0.s a0 (v42_0 ++ [a0.extract v42_2.toNat v42_3.toNat]) (v42_1 ++ [w64 ((w64 (byteAt a0 (w64 (v42_3 + 1)))) - 48)]) (w64 (v42_3 + 2)) (w64 ((w64 (v42_3 + 1)) + 1))) (nd c1 (nd p1 (nd (of_decide_eq_true c1) (nd c2 (nd c2 (nd c2 (nd c2 (nd c2 (nd c2 (nd c3 (nd p2 (nd p3 (nd p4 (nd (rfl : (0 : Nat) = 0) (nd (rfl : v42_0.length = v42_0.length) (nd p5 (nd (rfl : (0 : Nat) = 0) (nd (rfl : 1 = 1) (nd p6 (nd (of_decide_eq_true c3) (nd (rfl : (0 : Nat) = 0) (nd (rfl : v42_1.length = v42_1.length) (nd p7 (nd (rfl : (0 : Nat) = 0) (nd (rfl : 1 = 1) trivial))))))))))))))))))))))))) (by kernel_rfl) (impl.NodeRead.l0.spec a0 k (v42_0 ++ [a0.extract v42_2.toNat v42_3.toNat]) (v42_1 ++ [w64 ((w64 (byteAt a0 (w64 (v42_3 + 1)))) - 48)]) (w64 (v42_3 + 2)) (w64 ((w64 (v42_3 + 1)) + 1)) _ h)
        · exact .of_step tab mixed [.br true, .br true, .br true, .br true, .br true, .br true, .br true, .br false] [] [0, 2, 4, 5, 6] [0, 1, 2, 3, 4, 5] (s1 := impl.NodeRead.l0.s a0 v42_0 v42_1 v42_2 (w64 (v42_3 + 1))) (nd c1 (nd p1 (nd (of_decide_eq_true c1) (nd c2 (nd c2 (nd c2 (nd c2 (nd c2 (nd c2 (nd c3 trivial)))))))))) (by kernel_rfl) (impl.NodeRead.l0.spec a0 k v42_0 v42_1 v42_2 (w64 (v42_3 + 1)) _ h)
      · exact .of_step tab mixed [.br true, .br false, .br false, .br false, .br false, .br false, .br false, .br false] [] [0, 2, 4, 5, 6] [0, 1, 2, 3, 4, 5] (s1 := impl.NodeRead.l0.s a0 v42_0 v42_1 v42_2 (w64 (v42_3 + 1))) (nd c1 (nd p1 (nd (of_decide_eq_true c1) (nd c2 (nd c2 (nd c2 (nd c2 (nd c2 (nd c2 (nd ff trivial)))))))))) (by kernel_rfl) (impl.NodeRead.l0.spec a0 k v42_0 v42_1 v42_2 (w64 (v42_3 + 1)) _ h)
    · obtain rfl := Option.some.inj h
      exact .of_done tab mixed [.br false] [] [0, 2, 4] [0, 1, 2, 3, 4, 5] rfl (nd c1 trivial) (by kernel_rfl)
def impl.NodeRead.f (K : Nat) (a0 : ByteArray) : Option (Bool × (List ByteArray) × (List Int) × ByteArray × Bool) :=
  cond (strEq a0 noVal) (some (false, [], [], noVal, false)) (ck (0 < (a0.size : Int)) (cond ((byteAt a0 0) == 102) (ck (1 ≤ (a0.size : Int)) (Option.bind (impl.NodeText.f K false [] [] (a0.extract 1 a0.size)) fun x1 => cond (strEq x1 a0) (some (false, [], [], a0.extract 1 a0.size, true)) (some (false, [], [], noVal, false)))) (cond ((byteAt a0 0) == 100) (Option.bind (impl.NodeRead.l0.f a0 K [] [] 1 1) fun x1 => Option.bind (impl.NodeText.f K true x1.1 x1.2 noVal) fun x2 => cond (strEq x2 a0) (some (true, x1.1, x1.2, noVal, true)) (some (false, [], [], noVal, false))) (Option.bind (impl.NodeText.f K false [] [] noVal) fun x1 => cond (strEq x1 a0) (some (false, [], [], noVal, true)) (some (false, [], [], noVal, false))))))
theorem impl.NodeRead.spec (K : Nat) (a0 : ByteArray) (o : Bool × (List ByteArray) × (List Int) × ByteArray × Bool) (h : impl.NodeRead.f K a0 = some o) : Den.Spec Try.prog 57 [one (.str a0)] [] (.tup [.agg [.bool o.1, .sl 0 0 o.2.1.length, .sl 1 0 o.2.2.1.length, .str o.2.2.2.1], .c (.bool o.2.2.2.2)]) [some ⟨true, .strs o.2.1⟩, some ⟨true, .ints .i64 o.2.2.1⟩] := by
  unfold impl.NodeRead.f at h
  rcases br_cases h with ⟨c1, h⟩ | ⟨c1, h⟩
  · obtain rfl := Option.some.inj h
    exact Den.Spec.of_walk tab mixed Try.func57 (by kernel_rfl) [.br true] [] [8, 9] (nd c1 trivial) (by kernel_rfl)
  · obtain ⟨p1, h⟩ := ck_some h
    rcases br_cases h with ⟨c2, h⟩ | ⟨c2, h⟩
    · obtain ⟨p2, h⟩ := ck_some h
      obtain ⟨x1, e1, h⟩ := bind_some h
      rcases br_cases h with ⟨c3, h⟩ | ⟨c3, h⟩
      · obtain rfl := Option.some.inj h
        exact Den.Spec.of_walk tab mixed Try.func57 (by kernel_rfl) [.br false, .br true, .call [(6, false), (7, false)] [] (one (.str x1)) [some ⟨false, .strs []⟩, some ⟨false, .ints .i64 []⟩], .br false] [] [6, 7] (nd c1 (nd (Int.le_refl 0) (nd p1 (nd c2 (nd (by decide : (0 : Int) ≤ 1) (nd p2 (nd (Int.le_refl (a0.size : Int)) (nd (impl.NodeText.spec K false [] [] (a0.extract 1 a0.size) _ e1) (nd (nf c3) trivial))))))))) (by kernel_rfl)
      · obtain rfl := Option.some.inj h
        exact Den.Spec.of_walk tab mixed Try.func57 (by kernel_rfl) [.br false, .br true, .call [(6, false), (7, false)] [] (one (.str x1)) [some ⟨false, .strs []⟩, some ⟨false, .ints .i64 []⟩], .br true] [] [8, 9] (nd c1 (nd (Int.le_refl 0) (nd p1 (nd c2 (nd (by decide : (0 : Int) ≤ 1) (nd p2 (nd (Int.le_refl (a0.size : Int)) (nd (impl.NodeText.spec K false [] [] (a0.extract 1 a0.size) _ e1) (nd (nt c3) trivial))))))))) (by kernel_rfl)
    · rcases br_cases h with ⟨c3, h⟩ | ⟨c3, h⟩
      · obtain ⟨x1, e1, h⟩ := bind_some h
        obtain ⟨x2, e2, h⟩ := bind_some h
        rcases br_cases h with ⟨c4, h⟩ | ⟨c4, h⟩
        · obtain rfl := Option.some.inj h
          exact Den.Spec.of_walk tab mixed Try.func57 (by kernel_rfl) [.br false, .br false, .br true, .loop [] [0, 2, 4, 5, 6] [0, 1, 2, 3, 6, 7] (.exit 1) (impl.NodeRead.l0.e0 a0 x1), .call [(4, false), (5, false)] [] (one (.str x2)) [some ⟨false, .strs x1.1⟩, some ⟨false, .ints .i64 x1.2⟩], .br false] [] [4, 5] (nd c1 (nd (Int.le_refl 0) (nd p1 (nd c2 (nd (Int.le_refl 0) (nd p1 (nd c3 (nd (impl.NodeRead.l0.spec a0 K [] [] 1 1 _ e1) (nd (impl.NodeText.spec K true x1.1 x1.2 noVal _ e2) (nd (nf c4) trivial)))))))))) (by kernel_rfl)
        · obtain rfl := Option.some.inj h
          exact Den.Spec.of_walk tab mixed Try.func57 (by kernel_rfl) [.br false, .br false, .br true, .loop [] [0, 2, 4, 5, 6] [0, 1, 2, 3, 6, 7] (.exit 1) (impl.NodeRead.l0.e0 a0 x1), .call [(4, false), (5, false)] [] (one (.str x2)) [some ⟨false, .strs x1.1⟩, some ⟨false, .ints .i64 x1.2⟩], .br true] [] [6, 7] (nd c1 (nd (Int.le_refl 0) (nd p1 (nd c2 (nd (Int.le_refl 0) (nd p1 (nd c3 (nd (impl.NodeRead.l0.spec a0 K [] [] 1 1 _ e1) (nd (impl.NodeText.spec K true x1.1 x1.2 noVal _ e2) (nd (nt c4) trivial)))))))))) (by kernel_rfl)
      · obtain ⟨x1, e1, h⟩ := bind_some h
        rcases br_cases h with ⟨c4, h⟩ | ⟨c4, h⟩
        · obtain rfl := Option.some.inj h
          exact Den.Spec.of_walk tab mixed Try.func57 (by kernel_rfl) [.br false, .br false, .br false, .call [(6, false), (7, false)] [] (one (.str x1)) [some ⟨false, .strs []⟩, some ⟨false, .ints .i64 []⟩], .br false] [] [6, 7] (nd c1 (nd (Int.le_refl 0) (nd p1 (nd c2 (nd (Int.le_refl 0) (nd p1 (nd c3 (nd (impl.NodeText.spec K false [] [] noVal _ e1) (nd (nf c4) trivial))))))))) (by kernel_rfl)
        · obtain rfl := Option.some.inj h
          exact Den.Spec.of_walk tab mixed Try.func57 (by kernel_rfl) [.br false, .br false, .br false, .call [(6, false), (7, false)] [] (one (.str x1)) [some ⟨false, .strs []⟩, some ⟨false, .ints .i64 []⟩], .br true] [] [8, 9] (nd c1 (nd (Int.le_refl 0) (nd p1 (nd c2 (nd (Int.le_refl 0) (nd p1 (nd c3 (nd (impl.NodeText.spec K false [] [] noVal _ e1) (nd (nt c4) trivial))))))))) (by kernel_rfl)
def impl.NodeAt.f (K : Nat) (a0 : List ByteArray) (a1 : Int) : Option (Bool × (List ByteArray) × (List Int) × ByteArray × Bool) :=
  cond ((a0.length : Int) != 12) (some (false, [], [], noVal, false)) (Option.bind (impl.in_.f a1 0 11) fun x1 => cond (x1) (ck (0 ≤ a1) (ck (a1 < (a0.length : Int)) (Option.bind (impl.NodeRead.f K (a0.getD a1.toNat noVal)) fun x2 => some (x2.1, x2.2.1, x2.2.2.1, x2.2.2.2.1, x2.2.2.2.2)))) (some (false, [], [], noVal, false)))
theorem impl.NodeAt.spec (K : Nat) (a0 : List ByteArray) (a1 : Int) (o : Bool × (List ByteArray) × (List Int) × ByteArray × Bool) (h : impl.NodeAt.f K a0 a1 = some o) : Den.Spec Try.prog 63 [one (.sl 0 0 a0.length), one (.int .i64 a1)] [some ⟨false, .strs a0⟩] (.tup [.agg [.bool o.1, .sl 1 0 o.2.1.length, .sl 2 0 o.2.2.1.length, .str o.2.2.2.1], .c (.bool o.2.2.2.2)]) [some ⟨false, .strs a0⟩, some ⟨true, .strs o.2.1⟩, some ⟨true, .ints .i64 o.2.2.1⟩] := by
  unfold impl.NodeAt.f at h
  rcases br_cases h with ⟨c1, h⟩ | ⟨c1, h⟩
  · obtain rfl := Option.some.inj h
    exact Den.Spec.of_walk tab mixed Try.func63 (by kernel_rfl) [.br true, .br true, .br true, .br true, .br true] [] [0, 4, 5] (nd c1 (nd c1 (nd c1 (nd c1 (nd tt trivial))))) (by kernel_rfl)
  · obtain ⟨x1, e1, h⟩ := bind_some h
    rcases br_cases h with ⟨c2, h⟩ | ⟨c2, h⟩
    · obtain ⟨p1, h⟩ := ck_some h
      obtain ⟨p2, h⟩ := ck_some h
      obtain ⟨x2, e2, h⟩ := bind_some h
      obtain rfl := Option.some.inj h
      exact Den.Spec.of_walk tab mixed Try.func63 (by kernel_rfl) [.br false, .br false, .call [] [] (one (.bool x1)) [], .br false, .br false, .br false, .call [] [] (.tup [.agg [.bool x2.1, .sl 0 0 x2.2.1.length, .sl 1 0 x2.2.2.1.length, .str x2.2.2.2.1], .c (.bool x2.2.2.2.2)]) [some ⟨true, .strs x2.2.1⟩, some ⟨true, .ints .i64 x2.2.2.1⟩]] [] [0, 4, 5] (nd c1 (nd c1 (nd (impl.in_.spec a1 0 11 _ e1) (nd c1 (nd c1 (nd (nf c2) (nd p1 (nd p2 (nd (tn p1 p2) (nd (impl.NodeRead.spec K (a0.getD a1.toNat noVal) _ e2) trivial)))))))))) (by kernel_rfl)
    · obtain rfl := Option.some.inj h
      exact Den.Spec.of_walk tab mixed Try.func63 (by kernel_rfl) [.br false, .br false, .call [] [] (one (.bool x1)) [], .br false, .br false, .br true] [] [0, 4, 5] (nd c1 (nd c1 (nd (impl.in_.spec a1 0 11 _ e1) (nd c1 (nd c1 (nd (nt c2) trivial)))))) (by kernel_rfl)
def laws.eqStringS.l0.f (a0 : List ByteArray) (a1 : List ByteArray) : Nat → Int → Option (Unit ⊕ Unit)
  | 0, _ => none
  | k + 1, v46_0 =>
    cond (decide (v46_0 < (a0.length : Int))) (ck (0 ≤ v46_0) (ck (v46_0 < (a1.length : Int)) (cond (strEq (a0.getD v46_0.toNat noVal) (a1.getD v46_0.toNat noVal)) (laws.eqStringS.l0.f a0 a1 k (w64 (v46_0 + 1))) (some (.inl ()))))) (some (.inr (())))
def laws.eqStringS.l0.s (a0 : List ByteArray) (a1 : List ByteArray) (v46_0 : Int) : St := mkSt 26 [(0, one (.sl 0 0 a0.length)), (1, one (.sl 1 0 a1.length)), (5, one (.int .i64 v46_0))] [some ⟨false, .strs a0⟩, some ⟨false, .strs a1⟩]
def laws.eqStringS.l0.e0 (a0 : List ByteArray) (a1 : List ByteArray) (o : Unit) : St := mkSt 26 [(4, one (.bool false))] [some ⟨false, .strs a0⟩, some ⟨false, .strs a1⟩]
def laws.eqStringS.l0.e1 (a0 : List ByteArray) (a1 : List ByteArray) (o : Unit) : St := mkSt 26 [] [some ⟨false, .strs a0⟩, some ⟨false, .strs a1⟩]
def laws.eqStringS.l0.x (a0 : List ByteArray) (a1 : List ByteArray) : (Unit ⊕ Unit) → AExit × St := Sum.elim (fun o => (.ret, laws.eqStringS.l0.e0 a0 a1 o)) (fun o => (.exit 0, laws.eqStringS.l0.e1 a0 a1 o))
theorem laws.eqStringS.l0.spec (a0 : List ByteArray) (a1 : List ByteArray) : ∀ (k : Nat) (v46_0 : Int) (o : Unit ⊕ Unit), laws.eqStringS.l0.f a0 a1 k v46_0 = some o → LoopSpec Try.prog 2 (loopN Try.f64 0) (laws.eqStringS.l0.s a0 a1 v46_0) (laws.eqStringS.l0.x a0 a1 o).1 (laws.eqStringS.l0.x a0 a1 o).2
  | 0, _, _, h => by cases h
  | k + 1, v46_0, o, h => by
    unfold laws.eqStringS.l0.f at h
    rcases br_cases h with ⟨c1, h⟩ | ⟨c1, h⟩
    · obtain ⟨p1, h⟩ := ck_some h
      obtain ⟨p2, h⟩ := ck_some h
      rcases br_cases h with ⟨c2, h⟩ | ⟨c2, h⟩
      · exact .of_step tab mixed [.br true, .br false] [] [0, 1, 5] [0, 1] (s1 := laws.eqStringS.l0.s a0 a1 (w64 (v46_0 + 1))) (nd c1 (nd p1 (nd (of_decide_eq_true c1) (nd (tn p1 (of_decide_eq_true c1)) (nd p1 (nd p2 (nd (tn p1 p2) (nd (nf c2) trivial)))))))) (by kernel_rfl) (laws.eqStringS.l0.spec a0 a1 k (w64 (v46_0 + 1)) _ h)
      · obtain rfl := Option.some.inj h
        exact .of_done tab mixed [.br true, .br true] [] [4] [0, 1] rfl (nd c1 (nd p1 (nd (of_decide_eq_true c1) (nd (tn p1 (of_decide_eq_true c1)) (nd p1 (nd p2 (nd (tn p1 p2) (nd (nt c2) trivial)))))))) (by kernel_rfl)
    · obtain rfl := Option.some.inj h
      exact .of_done tab mixed [.br false] [] [] [0, 1] rfl (nd c1 trivial) (by kernel_rfl)
def laws.eqStringS.f (K : Nat) (a0 : List ByteArray) (a1 : List ByteArray) : Option (Bool) :=
  cond ((a0.length : Int) != (a1.length : Int)) (some false) (Option.bind (laws.eqStringS.l0.f a0 a1 K 0) fun x1 => (Sum.elim (fun x1 => some false) (fun x1 => some true)) x1)
theorem laws.eqStringS.spec (K : Nat) (a0 : List ByteArray) (a1 : List ByteArray) (o : Bool) (h : laws.eqStringS.f K a0 a1 = some o) : Den.Spec Try.prog 64 [one (.sl 0 0 a0.length), one (.sl 1 0 a1.length)] [some ⟨false, .strs a0⟩, some ⟨false, .strs a1⟩] (one (.bool o)) [some ⟨false, .strs a0⟩, some ⟨false, .strs a1⟩] := by
  unfold laws.eqStringS.f at h
  rcases br_cases h with ⟨c1, h⟩ | ⟨c1, h⟩
  · obtain rfl := Option.some.inj h
    exact Den.Spec.of_walk tab mixed Try.func64 (by kernel_rfl) [.br true] [] [0, 1] (nd c1 trivial) (by kernel_rfl)
  · obtain ⟨x1, e1, h⟩ := bind_some h
    rcases x1 with x1 | x1
    · obtain rfl := Option.some.inj h
      exact Den.Spec.of_walk tab mixed Try.func64 (by kernel_rfl) [.br false, .loop [] [0, 1, 5] [0, 1] (.ret) (laws.eqStringS.l0.e0 a0 a1 x1)] [] [0, 1] (nd c1 (nd (laws.eqStringS.l0.spec a0 a1 K 0 _ e1) trivial)) (by kernel_rfl)
    · obtain rfl := Option.some.inj h
      exact Den.Spec.of_walk tab mixed Try.func64 (by kernel_rfl) [.br false, .loop [] [0, 1, 5] [0, 1] (.exit 0) (laws.eqStringS.l0.e1 a0 a1 x1)] [] [0, 1] (nd c1 (nd (laws.eqStringS.l0.spec a0 a1 K 0 _ e1) trivial)) (by kernel_rfl)
def laws.eqIntS.l0.f (a0 : List Int) (a1 : List Int) : Nat → Int → Option (Unit ⊕ Unit)
  | 0, _ => none
  | k + 1, v49_0 =>
    cond (decide (v49_0 < (a0.length : Int))) (ck (0 ≤ v49_0) (ck (v49_0 < (a1.length : Int)) (cond ((a0.getD v49_0.toNat 0) != (a1.getD v49_0.toNat 0)) (some (.inl ())) (laws.eqIntS.l0.f a0 a1 k (w64 (v49_0 + 1)))))) (some (.inr (())))
def laws.eqIntS.l0.s (a0 : List Int) (a1 : List Int) (v49_0 : Int) : St := mkSt 26 [(0, one (.sl 0 0 a0.length)), (1, one (.sl 1 0 a1.length)), (5, one (.int .i64 v49_0))] [some ⟨false, .ints .i64 a0⟩, some ⟨false, .ints .i64 a1⟩]
def laws.eqIntS.l0.e0 (a0 : List Int) (a1 : List Int) (o : Unit) : St := mkSt 26 [(4, one (.bool false))] [some ⟨false, .ints .i64 a0⟩, some ⟨false, .ints .i64 a1⟩]
def laws.eqIntS.l0.e1 (a0 : List Int) (a1 : List Int) (o : Unit) : St := mkSt 26 [] [some ⟨false, .ints .i64 a0⟩, some ⟨false, .ints .i64 a1⟩]
def laws.eqIntS.l0.x (a0 : List Int) (a1 : List Int) : (Unit ⊕ Unit) → AExit × St := Sum.elim (fun o => (.ret, laws.eqIntS.l0.e0 a0 a1 o)) (fun o => (.exit 0, laws.eqIntS.l0.e1 a0 a1 o))
theorem laws.eqIntS.l0.spec (a0 : List Int) (a1 : List Int) : ∀ (k : Nat) (v49_0 : Int) (o : Unit ⊕ Unit), laws.eqIntS.l0.f a0 a1 k v49_0 = some o → LoopSpec Try.prog 2 (loopN Try.f96 0) (laws.eqIntS.l0.s a0 a1 v49_0) (laws.eqIntS.l0.x a0 a1 o).1 (laws.eqIntS.l0.x a0 a1 o).2
  | 0, _, _, h => by cases h
  | k + 1, v49_0, o, h => by
    unfold laws.eqIntS.l0.f at h
    rcases br_cases h with ⟨c1, h⟩ | ⟨c1, h⟩
    · obtain ⟨p1, h⟩ := ck_some h
      obtain ⟨p2, h⟩ := ck_some h
      rcases br_cases h with ⟨c2, h⟩ | ⟨c2, h⟩
      · obtain rfl := Option.some.inj h
        exact .of_done tab mixed [.br true, .br true] [] [4] [0, 1] rfl (nd c1 (nd p1 (nd (of_decide_eq_true c1) (nd (tn p1 (of_decide_eq_true c1)) (nd p1 (nd p2 (nd (tn p1 p2) (nd c2 trivial)))))))) (by kernel_rfl)
      · exact .of_step tab mixed [.br true, .br false] [] [0, 1, 5] [0, 1] (s1 := laws.eqIntS.l0.s a0 a1 (w64 (v49_0 + 1))) (nd c1 (nd p1 (nd (of_decide_eq_true c1) (nd (tn p1 (of_decide_eq_true c1)) (nd p1 (nd p2 (nd (tn p1 p2) (nd c2 trivial)))))))) (by kernel_rfl) (laws.eqIntS.l0.spec a0 a1 k (w64 (v49_0 + 1)) _ h)
    · obtain rfl := Option.some.inj h
      exact .of_done tab mixed [.br false] [] [] [0, 1] rfl (nd c1 trivial) (by kernel_rfl)
def laws.eqIntS.f (K : Nat) (a0 : List Int) (a1 : List Int) : Option (Bool) :=
  cond ((a0.length : Int) != (a1.length : Int)) (some false) (Option.bind (laws.eqIntS.l0.f a0 a1 K 0) fun x1 => (Sum.elim (fun x1 => some false) (fun x1 => some true)) x1)
theorem laws.eqIntS.spec (K : Nat) (a0 : List Int) (a1 : List Int) (o : Bool) (h : laws.eqIntS.f K a0 a1 = some o) : Den.Spec Try.prog 96 [one (.sl 0 0 a0.length), one (.sl 1 0 a1.length)] [some ⟨false, .ints .i64 a0⟩, some ⟨false, .ints .i64 a1⟩] (one (.bool o)) [some ⟨false, .ints .i64 a0⟩, some ⟨false, .ints .i64 a1⟩] := by
  unfold laws.eqIntS.f at h
  rcases br_cases h with ⟨c1, h⟩ | ⟨c1, h⟩
  · obtain rfl := Option.some.inj h
    exact Den.Spec.of_walk tab mixed Try.func96 (by kernel_rfl) [.br true] [] [0, 1] (nd c1 trivial) (by kernel_rfl)
  · obtain ⟨x1, e1, h⟩ := bind_some h
    rcases x1 with x1 | x1
    · obtain rfl := Option.some.inj h
      exact Den.Spec.of_walk tab mixed Try.func96 (by kernel_rfl) [.br false, .loop [] [0, 1, 5] [0, 1] (.ret) (laws.eqIntS.l0.e0 a0 a1 x1)] [] [0, 1] (nd c1 (nd (laws.eqIntS.l0.spec a0 a1 K 0 _ e1) trivial)) (by kernel_rfl)
    · obtain rfl := Option.some.inj h
      exact Den.Spec.of_walk tab mixed Try.func96 (by kernel_rfl) [.br false, .loop [] [0, 1, 5] [0, 1] (.exit 0) (laws.eqIntS.l0.e1 a0 a1 x1)] [] [0, 1] (nd c1 (nd (laws.eqIntS.l0.spec a0 a1 K 0 _ e1) trivial)) (by kernel_rfl)
def laws.eqNode.f (K : Nat) (a0 : Bool) (a1 : List ByteArray) (a2 : List Int) (a3 : ByteArray) (a4 : Bool) (a5 : List ByteArray) (a6 : List Int) (a7 : ByteArray) : Option (Bool) :=
  cond (a0 == a4) (Option.bind (laws.eqStringS.f K a1 a5) fun x1 => cond (x1) (Option.bind (laws.eqIntS.f K a2 a6) fun x2 => cond (x2) (cond (strEq a3 a7) (some true) (some false)) (some false)) (some false)) (some false)
theorem laws.eqNode.spec (K : Nat) (a0 : Bool) (a1 : List ByteArray) (a2 : List Int) (a3 : ByteArray) (a4 : Bool) (a5 : List ByteArray) (a6 : List Int) (a7 : ByteArray) (o : Bool) (h : laws.eqNode.f K a0 a1 a2 a3 a4 a5 a6 a7 = some o) : Den.Spec Try.prog 39 [.v (.agg [.bool a0, .sl 0 0 a1.length, .sl 1 0 a2.length, .str a3]), .v (.agg [.bool a4, .sl 2 0 a5.length, .sl 3 0 a6.length, .str a7])] [some ⟨false, .strs a1⟩, some ⟨false, .ints .i64 a2⟩, some ⟨false, .strs a5⟩, some ⟨false, .ints .i64 a6⟩] (one (.bool o)) [some ⟨false, .strs a1⟩, some ⟨false, .ints .i64 a2⟩, some ⟨false, .strs a5⟩, some ⟨false, .ints .i64 a6⟩] := by
  unfold laws.eqNode.f at h
  rcases br_cases h with ⟨c1, h⟩ | ⟨c1, h⟩
  · obtain ⟨x1, e1, h⟩ := bind_some h
    rcases br_cases h with ⟨c2, h⟩ | ⟨c2, h⟩
    · obtain ⟨x2, e2, h⟩ := bind_some h
      rcases br_cases h with ⟨c3, h⟩ | ⟨c3, h⟩
      · rcases br_cases h with ⟨c4, h⟩ | ⟨c4, h⟩
        · obtain rfl := Option.some.inj h
          exact Den.Spec.of_walk tab mixed Try.func39 (by kernel_rfl) [.br false, .call [] [(0, true), (1, true)] (one (.bool x1)) [some ⟨false, .strs a1⟩, some ⟨false, .strs a5⟩], .br false, .call [] [(0, true), (1, true)] (one (.bool x2)) [some ⟨false, .ints .i64 a2⟩, some ⟨false, .ints .i64 a6⟩], .br false, .br false] [] [0, 1, 2, 3] (nd (nf c1) (nd (laws.eqStringS.spec K a1 a5 _ e1) (nd (rfl : (0 : Nat) = 0) (nd (rfl : a1.length = a1.length) (nd (rfl : (0 : Nat) = 0) (nd (rfl : a5.length = a5.length) (nd (nf c2) (nd (laws.eqIntS.spec K a2 a6 _ e2) (nd (rfl : (0 : Nat) = 0) (nd (rfl : a2.length = a2.length) (nd (rfl : (0 : Nat) = 0) (nd (rfl : a6.length = a6.length) (nd (nf c3) (nd (nf c4) trivial)))))))))))))) (by kernel_rfl)
        · obtain rfl := Option.some.inj h
          exact Den.Spec.of_walk tab mixed Try.func39 (by kernel_rfl) [.br false, .call [] [(0, true), (1, true)] (one (.bool x1)) [some ⟨false, .strs a1⟩, some ⟨false, .strs a5⟩], .br false, .call [] [(0, true), (1, true)] (one (.bool x2)) [some ⟨false, .ints .i64 a2⟩, some ⟨false, .ints .i64 a6⟩], .br false, .br true] [] [0, 1, 2, 3] (nd (nf c1) (nd (laws.eqStringS.spec K a1 a5 _ e1) (nd (rfl : (0 : Nat) = 0) (nd (rfl : a1.length = a1.length) (nd (rfl : (0 : Nat) = 0) (nd (rfl : a5.length = a5.length) (nd (nf c2) (nd (laws.eqIntS.spec K a2 a6 _ e2) (nd (rfl : (0 : Nat) = 0) (nd (rfl : a2.length = a2.length) (nd (rfl : (0 : Nat) = 0) (nd (rfl : a6.length = a6.length) (nd (nf c3) (nd (nt c4) trivial)))))))))))))) (by kernel_rfl)
      · obtain rfl := Option.some.inj h
        exact Den.Spec.of_walk tab mixed Try.func39 (by kernel_rfl) [.br false, .call [] [(0, true), (1, true)] (one (.bool x1)) [some ⟨false, .strs a1⟩, some ⟨false, .strs a5⟩], .br false, .call [] [(0, true), (1, true)] (one (.bool x2)) [some ⟨false, .ints .i64 a2⟩, some ⟨false, .ints .i64 a6⟩], .br true] [] [0, 1, 2, 3] (nd (nf c1) (nd (laws.eqStringS.spec K a1 a5 _ e1) (nd (rfl : (0 : Nat) = 0) (nd (rfl : a1.length = a1.length) (nd (rfl : (0 : Nat) = 0) (nd (rfl : a5.length = a5.length) (nd (nf c2) (nd (laws.eqIntS.spec K a2 a6 _ e2) (nd (rfl : (0 : Nat) = 0) (nd (rfl : a2.length = a2.length) (nd (rfl : (0 : Nat) = 0) (nd (rfl : a6.length = a6.length) (nd (nt c3) trivial))))))))))))) (by kernel_rfl)
    · obtain rfl := Option.some.inj h
      exact Den.Spec.of_walk tab mixed Try.func39 (by kernel_rfl) [.br false, .call [] [(0, true), (1, true)] (one (.bool x1)) [some ⟨false, .strs a1⟩, some ⟨false, .strs a5⟩], .br true] [] [0, 1, 2, 3] (nd (nf c1) (nd (laws.eqStringS.spec K a1 a5 _ e1) (nd (rfl : (0 : Nat) = 0) (nd (rfl : a1.length = a1.length) (nd (rfl : (0 : Nat) = 0) (nd (rfl : a5.length = a5.length) (nd (nt c2) trivial))))))) (by kernel_rfl)
  · obtain rfl := Option.some.inj h
    exact Den.Spec.of_walk tab mixed Try.func39 (by kernel_rfl) [.br true] [] [0, 1, 2, 3] (nd (nt c1) trivial) (by kernel_rfl)
def laws.markText.l0.f : Nat → Int → ByteArray → Option (ByteArray)
  | 0, _, _ => none
  | k + 1, v54_0, v54_1 =>
    cond (decide (v54_0 > 0)) (ck ((((ofBytes [IntKind.u8.wrap (w64 (48 + (v54_0.tmod 10)))]).size + v54_1.size : Nat) : Int) ≤ 9223372036854775807) (laws.markText.l0.f k (w64 (v54_0.tdiv 10)) ((ofBytes [IntKind.u8.wrap (w64 (48 + (v54_0.tmod 10)))]) ++ v54_1))) (some v54_1)
def laws.markText.l0.s (v54_0 : Int) (v54_1 : ByteArray) : St := mkSt 20 [(0, one (.int .i64 v54_0)), (3, one (.str v54_1))] []
def laws.markText.l0.e0 (o : ByteArray) : St := mkSt 20 [(3, one (.str o))] []
def laws.markText.l0.x : (ByteArray) → AExit × St := fun o => (.exit 0, laws.markText.l0.e0 o)
theorem laws.markText.l0.spec : ∀ (k : Nat) (v54_0 : Int) (v54_1 : ByteArray) (o : ByteArray), laws.markText.l0.f k v54_0 v54_1 = some o → LoopSpec Try.prog 0 (loopN Try.f104 0) (laws.markText.l0.s v54_0 v54_1) (laws.markText.l0.x o).1 (laws.markText.l0.x o).2
  | 0, _, _, _, h => by cases h
  | k + 1, v54_0, v54_1, o, h => by
    unfold laws.markText.l0.f at h
    rcases br_cases h with ⟨c1, h⟩ | ⟨c1, h⟩
    · obtain ⟨p1, h⟩ := ck_some h
      exact .of_step tab mixed [.br true, .br true] [] [0, 3] [] (s1 := laws.markText.l0.s (w64 (v54_0.tdiv 10)) ((ofBytes [IntKind.u8.wrap (w64 (48 + (v54_0.tmod 10)))]) ++ v54_1)) (nd c1 (nd (by decide : (10 : Int) ≠ 0) (nd (rfl : (0 : Nat) = 0) (nd (rfl : 1 = 1) (nd p1 (nd (by decide : (10 : Int) ≠ 0) trivial)))))) (by kernel_rfl) (laws.markText.l0.spec k (w64 (v54_0.tdiv 10)) ((ofBytes [IntKind.u8.wrap (w64 (48 + (v54_0.tmod 10)))]) ++ v54_1) _ h)
    · obtain rfl := Option.some.inj h
      exact .of_done tab mixed [.br false] [] [3] [] rfl (nd c1 trivial) (by kernel_rfl)
def laws.markText.f (K : Nat) (a0 : Int) : Option (ByteArray) :=
  cond (decide (a0 ≤ 0)) (some (ByteArray.mk #[109, 48])) (Option.bind (laws.markText.l0.f K a0 noVal) fun x1 => ck ((((ByteArray.mk #[109]).size + x1.size : Nat) : Int) ≤ 9223372036854775807) (some ((ByteArray.mk #[109]) ++ x1)))
theorem laws.markText.spec (K : Nat) (a0 : Int) (o : ByteArray) (h : laws.markText.f K a0 = some o) : Den.Spec Try.prog 104 [one (.int .i64 a0)] [] (one (.str o)) [] := by
  unfold laws.markText.f at h
  rcases br_cases h with ⟨c1, h⟩ | ⟨c1, h⟩
  · obtain rfl := Option.some.inj h
    exact Den.Spec.of_walk tab mixed Try.func104 (by kernel_rfl) [.br true] [] [] (nd c1 trivial) (by kernel_rfl)
  · obtain ⟨x1, e1, h⟩ := bind_some h
    obtain ⟨p1, h⟩ := ck_some h
    obtain rfl := Option.some.inj h
    exact Den.Spec.of_walk tab mixed Try.func104 (by kernel_rfl) [.br false, .loop [] [0, 3] [] (.exit 0) (laws.markText.l0.e0 x1)] [] [] (nd c1 (nd (laws.markText.l0.spec K a0 noVal _ e1) (nd p1 trivial))) (by kernel_rfl)
def laws.markStringS.l0.f (K : Nat) : Nat → (List ByteArray) → Int → Int → Option (Int × (List ByteArray))
  | 0, _, _, _ => none
  | k + 1, v56_0, v56_1, v56_2 =>
    cond (decide (v56_2 < (v56_0.length : Int))) (Option.bind (laws.markText.f K v56_1) fun x1 => ck (0 ≤ v56_2) (laws.markStringS.l0.f K k (v56_0.set v56_2.toNat x1) (w64 (v56_1 + 1)) (w64 (v56_2 + 1)))) (some (v56_1, v56_0))
def laws.markStringS.l0.s (K : Nat) (v56_0 : List ByteArray) (v56_1 : Int) (v56_2 : Int) : St := mkSt 20 [(0, one (.sl 0 0 v56_0.length)), (1, one (.int .i64 v56_1)), (5, one (.int .i64 v56_2))] [some ⟨true, .strs v56_0⟩]
def laws.markStringS.l0.e0 (K : Nat) (o : Int × (List ByteArray)) : St := mkSt 20 [(1, one (.int .i64 o.1))] [some ⟨true, .strs o.2⟩]
def laws.markStringS.l0.x (K : Nat) : (Int × (List ByteArray)) → AExit × St := fun o => (.exit 0, laws.markStringS.l0.e0 K o)
theorem laws.markStringS.l0.spec (K : Nat) : ∀ (k : Nat) (v56_0 : List ByteArray) (v56_1 : Int) (v56_2 : Int) (o : Int × (List ByteArray)), laws.markStringS.l0.f K k v56_0 v56_1 v56_2 = some o → LoopSpec Try.prog 1 (loopN Try.f65 0) (laws.markStringS.l0.s K v56_0 v56_1 v56_2) (laws.markStringS.l0.x K o).1 (laws.markStringS.l0.x K o).2
  | 0, _, _, _, _, h => by cases h
  | k + 1, v56_0, v56_1, v56_2, o, h => by
    unfold laws.markStringS.l0.f at h
    rcases br_cases h with ⟨c1, h⟩ | ⟨c1, h⟩
    · obtain ⟨x1, e1, h⟩ := bind_some h
      obtain ⟨p1, h⟩ := ck_some h
      exact .of_step tab mixed [.br true, .call [] [] (one (.str x1)) []] [] [0, 1, 5] [0] (s1 := mkSt 20 [(0, one (.sl 0 0 v56_0.length)), (1, one (.int .i64 (w64 (v56_1 + 1)))), (5, one (.int .i64 (w64 (v56_2 + 1))))] [some ⟨true, .strs (v56_0.set v56_2.toNat x1)⟩]) (nd c1 (nd (laws.markText.spec K v56_1 _ e1) (nd p1 (nd (of_decide_eq_true c1) (nd (tn p1 (of_decide_eq_true c1)) trivial))))) (by kernel_rfl) (LoopSpec.eqs (laws.markStringS.l0.spec K k (v56_0.set v56_2.toNat x1) (w64 (v56_1 + 1)) (w64 (v56_2 + 1)) _ h) (by simp only [laws.markStringS.l0.s, List.length_set] : laws.markStringS.l0.s K (v56_0.set v56_2.toNat x1) (w64 (v56_1 + 1)) (w64 (v56_2 + 1)) = mkSt 20 [(0, one (.sl 0 0 v56_0.length)), (1, one (.int .i64 (w64 (v56_1 + 1)))), (5, one (.int .i64 (w64 (v56_2 + 1))))] [some ⟨true, .strs (v56_0.set v56_2.toNat x1)⟩]))
    · obtain rfl := Option.some.inj h
      exact .of_done tab mixed [.br false] [] [1] [0] rfl (nd c1 trivial) (by kernel_rfl)
def laws.markStringS.f (K : Nat) (a0 : List ByteArray) (a1 : Int) : Option (Int × (List ByteArray)) :=
  Option.bind (laws.markStringS.l0.f K K a0 a1 0) fun x1 => some (x1.1, x1.2)
theorem laws.markStringS.spec (K : Nat) (a0 : List ByteArray) (a1 : Int) (o : Int × (List ByteArray)) (h : laws.markStringS.f K a0 a1 = some o) : Den.Spec Try.prog 65 [one (.sl 0 0 a0.length), one (.int .i64 a1)] [some ⟨true, .strs a0⟩] (one (.int .i64 o.1)) [some ⟨true, .strs o.2⟩] := by
  unfold laws.markStringS.f at h
  obtain ⟨x1, e1, h⟩ := bind_some h
  obtain rfl := Option.some.inj h
  exact Den.Spec.of_walk tab mixed Try.func65 (by kernel_rfl) [.loop [] [0, 1, 5] [0] (.exit 0) (laws.markStringS.l0.e0 K x1)] [] [0] (nd (laws.markStringS.l0.spec K K a0 a1 0 _ e1) trivial) (by kernel_rfl)
def laws.markIntS.l0.f : Nat → (List Int) → Int → Int → Option (Int × (List Int))
  | 0, _, _, _ => none
  | k + 1, v59_0, v59_1, v59_2 =>
    cond (decide (v59_2 < (v59_0.length : Int))) (ck (0 ≤ v59_2) (laws.markIntS.l0.f k (v59_0.set v59_2.toNat v59_1) (w64 (v59_1 + 1)) (w64 (v59_2 + 1)))) (some (v59_1, v59_0))
def laws.markIntS.l0.s (v59_0 : List Int) (v59_1 : Int) (v59_2 : Int) : St := mkSt 19 [(0, one (.sl 0 0 v59_0.length)), (1, one (.int .i64 v59_1)), (5, one (.int .i64 v59_2))] [some ⟨true, .ints .i64 v59_0⟩]
def laws.markIntS.l0.e0 (o : Int × (List Int)) : St := mkSt 19 [(1, one (.int .i64 o.1))] [some ⟨true, .ints .i64 o.2⟩]
def laws.markIntS.l0.x : (Int × (List Int)) → AExit × St := fun o => (.exit 0, laws.markIntS.l0.e0 o)
theorem laws.markIntS.l0.spec : ∀ (k : Nat) (v59_0 : List Int) (v59_1 : Int) (v59_2 : Int) (o : Int × (List Int)), laws.markIntS.l0.f k v59_0 v59_1 v59_2 = some o → LoopSpec Try.prog 1 (loopN Try.f108 0) (laws.markIntS.l0.s v59_0 v59_1 v59_2) (laws.markIntS.l0.x o).1 (laws.markIntS.l0.x o).2
  | 0, _, _, _, _, h => by cases h
  | k + 1, v59_0, v59_1, v59_2, o, h => by
    unfold laws.markIntS.l0.f at h
    rcases br_cases h with ⟨c1, h⟩ | ⟨c1, h⟩
    · obtain ⟨p1, h⟩ := ck_some h
      exact .of_step tab mixed [.br true] [] [0, 1, 5] [0] (s1 := mkSt 19 [(0, one (.sl 0 0 v59_0.length)), (1, one (.int .i64 (w64 (v59_1 + 1)))), (5, one (.int .i64 (w64 (v59_2 + 1))))] [some ⟨true, .ints .i64 (v59_0.set v59_2.toNat v59_1)⟩]) (nd c1 (nd p1 (nd (of_decide_eq_true c1) (nd (tn p1 (of_decide_eq_true c1)) trivial)))) (by kernel_rfl) (LoopSpec.eqs (laws.markIntS.l0.spec k (v59_0.set v59_2.toNat v59_1) (w64 (v59_1 + 1)) (w64 (v59_2 + 1)) _ h) (by simp only [laws.markIntS.l0.s, List.length_set] : laws.markIntS.l0.s (v59_0.set v59_2.toNat v59_1) (w64 (v59_1 + 1)) (w64 (v59_2 + 1)) = mkSt 19 [(0, one (.sl 0 0 v59_0.length)), (1, one (.int .i64 (w64 (v59_1 + 1)))), (5, one (.int .i64 (w64 (v59_2 + 1))))] [some ⟨true, .ints .i64 (v59_0.set v59_2.toNat v59_1)⟩]))
    · obtain rfl := Option.some.inj h
      exact .of_done tab mixed [.br false] [] [1] [0] rfl (nd c1 trivial) (by kernel_rfl)
def laws.markIntS.f (K : Nat) (a0 : List Int) (a1 : Int) : Option (Int × (List Int)) :=
  Option.bind (laws.markIntS.l0.f K a0 a1 0) fun x1 => some (x1.1, x1.2)
theorem laws.markIntS.spec (K : Nat) (a0 : List Int) (a1 : Int) (o : Int × (List Int)) (h : laws.markIntS.f K a0 a1 = some o) : Den.Spec Try.prog 108 [one (.sl 0 0 a0.length), one (.int .i64 a1)] [some ⟨true, .ints .i64 a0⟩] (one (.int .i64 o.1)) [some ⟨true, .ints .i64 o.2⟩] := by
  unfold laws.markIntS.f at h
  obtain ⟨x1, e1, h⟩ := bind_some h
  obtain rfl := Option.some.inj h
  exact Den.Spec.of_walk tab mixed Try.func108 (by kernel_rfl) [.loop [] [0, 1, 5] [0] (.exit 0) (laws.markIntS.l0.e0 x1)] [] [0] (nd (laws.markIntS.l0.spec K a0 a1 0 _ e1) trivial) (by kernel_rfl)
def laws.markNode.f (K : Nat) (a0 : Bool) (a1 : List ByteArray) (a2 : List Int) (a3 : ByteArray) (a4 : Int) : Option (Int × (List ByteArray) × (List Int)) :=
  Option.bind (laws.markStringS.f K a1 a4) fun x1 => Option.bind (laws.markIntS.f K a2 x1.1) fun x2 => some (x2.1, x1.2, x2.2)
theorem laws.markNode.spec (K : Nat) (a0 : Bool) (a1 : List ByteArray) (a2 : List Int) (a3 : ByteArray) (a4 : Int) (o : Int × (List ByteArray) × (List Int)) (h : laws.markNode.f K a0 a1 a2 a3 a4 = some o) : Den.Spec Try.prog 58 [.v (.agg [.bool a0, .sl 0 0 a1.length, .sl 1 0 a2.length, .str a3]), one (.int .i64 a4)] [some ⟨true, .strs a1⟩, some ⟨true, .ints .i64 a2⟩] (one (.int .i64 o.1)) [some ⟨true, .strs o.2.1⟩, some ⟨true, .ints .i64 o.2.2⟩] := by
  unfold laws.markNode.f at h
  obtain ⟨x1, e1, h⟩ := bind_some h
  obtain ⟨x2, e2, h⟩ := bind_some h
  obtain rfl := Option.some.inj h
  exact Den.Spec.of_walk tab mixed Try.func58 (by kernel_rfl) [.call [(0, true)] [] (one (.int .i64 x1.1)) [some ⟨true, .strs x1.2⟩], .call [(1, true)] [] (one (.int .i64 x2.1)) [some ⟨true, .ints .i64 x2.2⟩]] [] [0, 1] (nd (laws.markStringS.spec K a1 a4 _ e1) (nd (laws.markIntS.spec K a2 x1.1 _ e2) trivial)) (by kernel_rfl)
def laws.heldStringS.l0.f (K : Nat) (a0 : List ByteArray) : Nat → Int → Int → Option (Unit ⊕ Int)
  | 0, _, _ => none
  | k + 1, v63_0, v63_1 =>
    cond (decide (v63_1 < (a0.length : Int))) (ck (0 ≤ v63_1) (Option.bind (laws.markText.f K v63_0) fun x1 => cond (strEq (a0.getD v63_1.toNat noVal) x1) (laws.heldStringS.l0.f K a0 k (w64 (v63_0 + 1)) (w64 (v63_1 + 1))) (some (.inl ())))) (some (.inr (v63_0)))
def laws.heldStringS.l0.s (K : Nat) (a0 : List ByteArray) (v63_0 : Int) (v63_1 : Int) : St := mkSt 22 [(0, one (.sl 0 0 a0.length)), (1, one (.int .i64 v63_0)), (5, one (.int .i64 v63_1))] [some ⟨false, .strs a0⟩]
def laws.heldStringS.l0.e0 (K : Nat) (a0 : List ByteArray) (o : Unit) : St := mkSt 22 [(4, one (.int .i64 (-1)))] [some ⟨false, .strs a0⟩]
def laws.heldStringS.l0.e1 (K : Nat) (a0 : List ByteArray) (o : Int) : St := mkSt 22 [(1, one (.int .i64 o))] [some ⟨false, .strs a0⟩]
def laws.heldStringS.l0.x (K : Nat) (a0 : List ByteArray) : (Unit ⊕ Int) → AExit × St := Sum.elim (fun o => (.ret, laws.heldStringS.l0.e0 K a0 o)) (fun o => (.exit 0, laws.heldStringS.l0.e1 K a0 o))
theorem laws.heldStringS.l0.spec (K : Nat) (a0 : List ByteArray) : ∀ (k : Nat) (v63_0 : Int) (v63_1 : Int) (o : Unit ⊕ Int), laws.heldStringS.l0.f K a0 k v63_0 v63_1 = some o → LoopSpec Try.prog 1 (loopN Try.f78 0) (laws.heldStringS.l0.s K a0 v63_0 v63_1) (laws.heldStringS.l0.x K a0 o).1 (laws.heldStringS.l0.x K a0 o).2
  | 0, _, _, _, h => by cases h
  | k + 1, v63_0, v63_1, o, h => by
    unfold laws.heldStringS.l0.f at h
    rcases br_cases h with ⟨c1, h⟩ | ⟨c1, h⟩
    · obtain ⟨p1, h⟩ := ck_some h
      obtain ⟨x1, e1, h⟩ := bind_some h
      rcases br_cases h with ⟨c2, h⟩ | ⟨c2, h⟩
      · exact .of_step tab mixed [.br true, .call [] [] (one (.str x1)) [], .br false] [] [0, 1, 5] [0] (s1 := laws.heldStringS.l0.s K a0 (w64 (v63_0 + 1)) (w64 (v63_1 + 1))) (nd c1 (nd p1 (nd (of_decide_eq_true c1) (nd (tn p1 (of_decide_eq_true c1)) (nd (laws.markText.spec K v63_0 _ e1) (nd (nf c2) trivial)))))) (by kernel_rfl) (laws.heldStringS.l0.spec K a0 k (w64 (v63_0 + 1)) (w64 (v63_1 + 1)) _ h)
      · obtain rfl := Option.some.inj h
        exact .of_done tab mixed [.br true, .call [] [] (one (.str x1)) [], .br true] [] [4] [0] rfl (nd c1 (nd p1 (nd (of_decide_eq_true c1) (nd (tn p1 (of_decide_eq_true c1)) (nd (laws.markText.spec K v63_0 _ e1) (nd (nt c2) trivial)))))) (by kernel_rfl)
    · obtain rfl := Option.some.inj h
      exact .of_done tab mixed [.br false] [] [1] [0] rfl (nd c1 trivial) (by kernel_rfl)
def laws.heldStringS.f (K : Nat) (a0 : List ByteArray) (a1 : Int) : Option (Int) :=
  Option.bind (laws.heldStringS.l0.f K a0 K a1 0) fun x1 => (Sum.elim (fun x1 => some (-1)) (fun x1 => some x1)) x1
theorem laws.heldStringS.spec (K : Nat) (a0 : List ByteArray) (a1 : Int) (o : Int) (h : laws.heldStringS.f K a0 a1 = some o) : Den.Spec Try.prog 78 [one (.sl 0 0 a0.length), one (.int .i64 a1)] [some ⟨false, .strs a0⟩] (one (.int .i64 o)) [some ⟨false, .strs a0⟩] := by
  unfold laws.heldStringS.f at h
  obtain ⟨x1, e1, h⟩ := bind_some h
  rcases x1 with x1 | x1
  · obtain rfl := Option.some.inj h
    exact Den.Spec.of_walk tab mixed Try.func78 (by kernel_rfl) [.loop [] [0, 1, 5] [0] (.ret) (laws.heldStringS.l0.e0 K a0 x1)] [] [0] (nd (laws.heldStringS.l0.spec K a0 K a1 0 _ e1) trivial) (by kernel_rfl)
  · obtain rfl := Option.some.inj h
    exact Den.Spec.of_walk tab mixed Try.func78 (by kernel_rfl) [.loop [] [0, 1, 5] [0] (.exit 0) (laws.heldStringS.l0.e1 K a0 x1)] [] [0] (nd (laws.heldStringS.l0.spec K a0 K a1 0 _ e1) trivial) (by kernel_rfl)
def laws.heldIntS.l0.f (a0 : List Int) : Nat → Int → Int → Option (Unit ⊕ Int)
  | 0, _, _ => none
  | k + 1, v66_0, v66_1 =>
    cond (decide (v66_1 < (a0.length : Int))) (ck (0 ≤ v66_1) (cond ((a0.getD v66_1.toNat 0) != v66_0) (some (.inl ())) (laws.heldIntS.l0.f a0 k (w64 (v66_0 + 1)) (w64 (v66_1 + 1))))) (some (.inr (v66_0)))
def laws.heldIntS.l0.s (a0 : List Int) (v66_0 : Int) (v66_1 : Int) : St := mkSt 21 [(0, one (.sl 0 0 a0.length)), (1, one (.int .i64 v66_0)), (5, one (.int .i64 v66_1))] [some ⟨false, .ints .i64 a0⟩]
def laws.heldIntS.l0.e0 (a0 : List Int) (o : Unit) : St := mkSt 21 [(4, one (.int .i64 (-1)))] [some ⟨false, .ints .i64 a0⟩]
def laws.heldIntS.l0.e1 (a0 : List Int) (o : Int) : St := mkSt 21 [(1, one (.int .i64 o))] [some ⟨false, .ints .i64 a0⟩]
def laws.heldIntS.l0.x (a0 : List Int) : (Unit ⊕ Int) → AExit × St := Sum.elim (fun o => (.ret, laws.heldIntS.l0.e0 a0 o)) (fun o => (.exit 0, laws.heldIntS.l0.e1 a0 o))
theorem laws.heldIntS.l0.spec (a0 : List Int) : ∀ (k : Nat) (v66_0 : Int) (v66_1 : Int) (o : Unit ⊕ Int), laws.heldIntS.l0.f a0 k v66_0 v66_1 = some o → LoopSpec Try.prog 1 (loopN Try.f109 0) (laws.heldIntS.l0.s a0 v66_0 v66_1) (laws.heldIntS.l0.x a0 o).1 (laws.heldIntS.l0.x a0 o).2
  | 0, _, _, _, h => by cases h
  | k + 1, v66_0, v66_1, o, h => by
    unfold laws.heldIntS.l0.f at h
    rcases br_cases h with ⟨c1, h⟩ | ⟨c1, h⟩
    · obtain ⟨p1, h⟩ := ck_some h
      rcases br_cases h with ⟨c2, h⟩ | ⟨c2, h⟩
      · obtain rfl := Option.some.inj h
        exact .of_done tab mixed [.br true, .br true] [] [4] [0] rfl (nd c1 (nd p1 (nd (of_decide_eq_true c1) (nd (tn p1 (of_decide_eq_true c1)) (nd c2 trivial))))) (by kernel_rfl)
      · exact .of_step tab mixed [.br true, .br false] [] [0, 1, 5] [0] (s1 := laws.heldIntS.l0.s a0 (w64 (v66_0 + 1)) (w64 (v66_1 + 1))) (nd c1 (nd p1 (nd (of_decide_eq_true c1) (nd (tn p1 (of_decide_eq_true c1)) (nd c2 trivial))))) (by kernel_rfl) (laws.heldIntS.l0.spec a0 k (w64 (v66_0 + 1)) (w64 (v66_1 + 1)) _ h)
    · obtain rfl := Option.some.inj h
      exact .of_done tab mixed [.br false] [] [1] [0] rfl (nd c1 trivial) (by kernel_rfl)
def laws.heldIntS.f (K : Nat) (a0 : List Int) (a1 : Int) : Option (Int) :=
  Option.bind (laws.heldIntS.l0.f a0 K a1 0) fun x1 => (Sum.elim (fun x1 => some (-1)) (fun x1 => some x1)) x1
theorem laws.heldIntS.spec (K : Nat) (a0 : List Int) (a1 : Int) (o : Int) (h : laws.heldIntS.f K a0 a1 = some o) : Den.Spec Try.prog 109 [one (.sl 0 0 a0.length), one (.int .i64 a1)] [some ⟨false, .ints .i64 a0⟩] (one (.int .i64 o)) [some ⟨false, .ints .i64 a0⟩] := by
  unfold laws.heldIntS.f at h
  obtain ⟨x1, e1, h⟩ := bind_some h
  rcases x1 with x1 | x1
  · obtain rfl := Option.some.inj h
    exact Den.Spec.of_walk tab mixed Try.func109 (by kernel_rfl) [.loop [] [0, 1, 5] [0] (.ret) (laws.heldIntS.l0.e0 a0 x1)] [] [0] (nd (laws.heldIntS.l0.spec a0 K a1 0 _ e1) trivial) (by kernel_rfl)
  · obtain rfl := Option.some.inj h
    exact Den.Spec.of_walk tab mixed Try.func109 (by kernel_rfl) [.loop [] [0, 1, 5] [0] (.exit 0) (laws.heldIntS.l0.e1 a0 x1)] [] [0] (nd (laws.heldIntS.l0.spec a0 K a1 0 _ e1) trivial) (by kernel_rfl)
def laws.heldNode.f (K : Nat) (a0 : Bool) (a1 : List ByteArray) (a2 : Nat) (a3 : List Int) (a4 : Nat) (a5 : ByteArray) (a6 : Int) : Option (Int) :=
  Option.bind (laws.heldStringS.f K ((a1.drop 0).take a2) a6) fun x1 => ck (0 + a2 ≤ a1.length) (cond (decide (x1 < 0)) (some (-1)) (Option.bind (laws.heldIntS.f K ((a3.drop 0).take a4) x1) fun x2 => ck (0 + a4 ≤ a3.length) (cond (decide (x2 < 0)) (some (-1)) (some x2))))
theorem laws.heldNode.spec (K : Nat) (a0 : Bool) (a1 : List ByteArray) (a2 : Nat) (a3 : List Int) (a4 : Nat) (a5 : ByteArray) (a6 : Int) (o : Int) (h : laws.heldNode.f K a0 a1 a2 a3 a4 a5 a6 = some o) : Den.Spec Try.prog 59 [.v (.agg [.bool a0, .sl 0 0 a2, .sl 1 0 a4, .str a5]), one (.int .i64 a6)] [some ⟨false, .strs a1⟩, some ⟨false, .ints .i64 a3⟩] (one (.int .i64 o)) [some ⟨false, .strs a1⟩, some ⟨false, .ints .i64 a3⟩] := by
  unfold laws.heldNode.f at h
  obtain ⟨x1, e1, h⟩ := bind_some h
  obtain ⟨p1, h⟩ := ck_some h
  rcases br_cases h with ⟨c1, h⟩ | ⟨c1, h⟩
  · obtain rfl := Option.some.inj h
    exact Den.Spec.of_walk tab mixed Try.func59 (by kernel_rfl) [.call [] [(0, false)] (one (.int .i64 x1)) [some ⟨false, .strs ((a1.drop 0).take a2)⟩], .br true] [] [0, 1] (nd ((laws.heldStringS.spec K ((a1.drop 0).take a2) a6 _ e1).args (congrArg (fun n => ([one (.sl 0 0 n), one (.int .i64 a6)] : List AV)) (win_len p1))) (nd c1 trivial)) (by kernel_rfl)
  · obtain ⟨x2, e2, h⟩ := bind_some h
    obtain ⟨p2, h⟩ := ck_some h
    rcases br_cases h with ⟨c2, h⟩ | ⟨c2, h⟩
    · obtain rfl := Option.some.inj h
      exact Den.Spec.of_walk tab mixed Try.func59 (by kernel_rfl) [.call [] [(0, false)] (one (.int .i64 x1)) [some ⟨false, .strs ((a1.drop 0).take a2)⟩], .br false, .call [] [(0, false)] (one (.int .i64 x2)) [some ⟨false, .ints .i64 ((a3.drop 0).take a4)⟩], .br true] [] [0, 1] (nd ((laws.heldStringS.spec K ((a1.drop 0).take a2) a6 _ e1).args (congrArg (fun n => ([one (.sl 0 0 n), one (.int .i64 a6)] : List AV)) (win_len p1))) (nd c1 (nd ((laws.heldIntS.spec K ((a3.drop 0).take a4) x1 _ e2).args (congrArg (fun n => ([one (.sl 0 0 n), one (.int .i64 x1)] : List AV)) (win_len p2))) (nd c2 trivial)))) (by kernel_rfl)
    · obtain rfl := Option.some.inj h
      exact Den.Spec.of_walk tab mixed Try.func59 (by kernel_rfl) [.call [] [(0, false)] (one (.int .i64 x1)) [some ⟨false, .strs ((a1.drop 0).take a2)⟩], .br false, .call [] [(0, false)] (one (.int .i64 x2)) [some ⟨false, .ints .i64 ((a3.drop 0).take a4)⟩], .br false] [] [0, 1] (nd ((laws.heldStringS.spec K ((a1.drop 0).take a2) a6 _ e1).args (congrArg (fun n => ([one (.sl 0 0 n), one (.int .i64 a6)] : List AV)) (win_len p1))) (nd c1 (nd ((laws.heldIntS.spec K ((a3.drop 0).take a4) x1 _ e2).args (congrArg (fun n => ([one (.sl 0 0 n), one (.int .i64 x1)] : List AV)) (win_len p2))) (nd c2 trivial)))) (by kernel_rfl)
def laws.FnExactNodeAt.f (K : Nat) (a0 : List ByteArray) (a1 : Int) : Option (Bool) :=
  Option.bind (laws.szStringS.f K a0 1048576) fun x1 => cond (decide (x1 < 0)) (some true) (Option.bind (laws.toStringS.f K a0) fun x2 => Option.bind (spec.NodeAt.f K x2 a1) fun x3 => Option.bind (laws.toStringS.f K a0) fun x4 => Option.bind (impl.NodeAt.f K x4 a1) fun x5 => Option.bind (laws.eqNode.f K x5.1 x5.2.1 x5.2.2.1 x5.2.2.2.1 x3.1 x3.2.1 x3.2.2.1 x3.2.2.2.1) fun x6 => cond (x6) (cond (x5.2.2.2.2 == x3.2.2.2.2) (Option.bind (laws.toStringS.f K a0) fun x7 => Option.bind (laws.eqStringS.f K x4 x7) fun x8 => cond (x8) (Option.bind (laws.markStringS.f K x4 1) fun x9 => cond (decide (x9.1 < 0)) (some false) (Option.bind (laws.eqNode.f K x5.1 x5.2.1 x5.2.2.1 x5.2.2.2.1 x3.1 x3.2.1 x3.2.2.1 x3.2.2.2.1) fun x10 => cond (x10) (Option.bind (laws.markNode.f K x5.1 x5.2.1 x5.2.2.1 x5.2.2.2.1 1) fun x11 => Option.bind (laws.heldNode.f K x5.1 x11.2.1 x5.2.1.length x11.2.2 x5.2.2.1.length x5.2.2.2.1 1) fun x12 => cond (decide (x12 < 0)) (some false) (cond (x12 != x11.1) (some false) (Option.bind (laws.toStringS.f K a0) fun x13 => Option.bind (impl.NodeAt.f K x13 a1) fun x14 => Option.bind (laws.eqNode.f K x14.1 x14.2.1 x14.2.2.1 x14.2.2.2.1 x3.1 x3.2.1 x3.2.2.1 x3.2.2.2.1) fun x15 => cond (x15) (cond (x14.2.2.2.2 == x3.2.2.2.2) (Option.bind (laws.heldNode.f K x5.1 x11.2.1 x5.2.1.length x11.2.2 x5.2.2.1.length x5.2.2.2.1 1) fun x16 => cond (decide (x16 < 0)) (some false) (cond (x16 != x11.1) (some false) (some true))) (some false)) (some false)))) (some false))) (some false)) (some false)) (some false))
theorem laws.FnExactNodeAt.spec (K : Nat) (a0 : List ByteArray) (a1 : Int) (o : Bool) (h : laws.FnExactNodeAt.f K a0 a1 = some o) : Den.Spec Try.prog 10 [one (.sl 0 0 a0.length), one (.int .i64 a1)] [some ⟨false, .strs a0⟩] (one (.bool o)) [some ⟨false, .strs a0⟩] := by
  unfold laws.FnExactNodeAt.f at h
  obtain ⟨x1, e1, h⟩ := bind_some h
  rcases br_cases h with ⟨c1, h⟩ | ⟨c1, h⟩
  · obtain rfl := Option.some.inj h
    exact Den.Spec.of_walk tab mixed Try.func10 (by kernel_rfl) [.call [] [(0, true)] (one (.int .i64 x1)) [some ⟨false, .strs a0⟩], .br true] [] [0] (nd (laws.szStringS.spec K a0 1048576 _ e1) (nd (rfl : (0 : Nat) = 0) (nd (rfl : a0.length = a0.length) (nd c1 trivial)))) (by kernel_rfl)
  · obtain ⟨x2, e2, h⟩ := bind_some h
    obtain ⟨x3, e3, h⟩ := bind_some h
    obtain ⟨x4, e4, h⟩ := bind_some h
    obtain ⟨x5, e5, h⟩ := bind_some h
    obtain ⟨x6, e6, h⟩ := bind_some h
    rcases br_cases h with ⟨c2, h⟩ | ⟨c2, h⟩
    · rcases br_cases h with ⟨c3, h⟩ | ⟨c3, h⟩
      · obtain ⟨x7, e7, h⟩ := bind_some h
        obtain ⟨x8, e8, h⟩ := bind_some h
        rcases br_cases h with ⟨c4, h⟩ | ⟨c4, h⟩
        · obtain ⟨x9, e9, h⟩ := bind_some h
          rcases br_cases h with ⟨c5, h⟩ | ⟨c5, h⟩
          · obtain rfl := Option.some.inj h
            exact Den.Spec.of_walk tab mixed Try.func10 (by kernel_rfl) [.call [] [(0, true)] (one (.int .i64 x1)) [some ⟨false, .strs a0⟩], .br false, .call [] [(0, true)] (one (.sl 1 0 x2.length)) [some ⟨false, .strs a0⟩, some ⟨true, .strs x2⟩], .call [] [(0, true)] (.tup [.agg [.bool x3.1, .sl 1 0 x3.2.1.length, .sl 2 0 x3.2.2.1.length, .str x3.2.2.2.1], .c (.bool x3.2.2.2.2)]) [some ⟨false, .strs x2⟩, some ⟨true, .strs x3.2.1⟩, some ⟨true, .ints .i64 x3.2.2.1⟩], .call [] [(0, true)] (one (.sl 1 0 x4.length)) [some ⟨false, .strs a0⟩, some ⟨true, .strs x4⟩], .call [] [(0, true)] (.tup [.agg [.bool x5.1, .sl 1 0 x5.2.1.length, .sl 2 0 x5.2.2.1.length, .str x5.2.2.2.1], .c (.bool x5.2.2.2.2)]) [some ⟨false, .strs x4⟩, some ⟨true, .strs x5.2.1⟩, some ⟨true, .ints .i64 x5.2.2.1⟩], .call [(8, false), (9, false), (2, false), (3, false)] [] (one (.bool x6)) [some ⟨false, .strs x5.2.1⟩, some ⟨false, .ints .i64 x5.2.2.1⟩, some ⟨false, .strs x3.2.1⟩, some ⟨false, .ints .i64 x3.2.2.1⟩], .br false, .br false, .br false, .br false, .br false, .call [] [(0, true)] (one (.sl 1 0 x7.length)) [some ⟨false, .strs a0⟩, some ⟨true, .strs x7⟩], .call [] [(0, true), (1, true)] (one (.bool x8)) [some ⟨false, .strs x4⟩, some ⟨false, .strs x7⟩], .br false, .call [(7, true)] [] (one (.int .i64 x9.1)) [some ⟨true, .strs x9.2⟩], .br true, .br true, .br true, .br true, .br true, .br true, .br true, .br true, .br true, .br true] [] [0] (nd (laws.szStringS.spec K a0 1048576 _ e1) (nd (rfl : (0 : Nat) = 0) (nd (rfl : a0.length = a0.length) (nd c1 (nd (laws.toStringS.spec K a0 _ e2) (nd (rfl : (0 : Nat) = 0) (nd (rfl : a0.length = a0.length) (nd (spec.NodeAt.spec K x2 a1 _ e3) (nd (rfl : (0 : Nat) = 0) (nd (rfl : x2.length = x2.length) (nd (laws.toStringS.spec K a0 _ e4) (nd (rfl : (0 : Nat) = 0) (nd (rfl : a0.length = a0.length) (nd (impl.NodeAt.spec K x4 a1 _ e5) (nd (rfl : (0 : Nat) = 0) (nd (rfl : x4.length = x4.length) (nd (laws.eqNode.spec K x5.1 x5.2.1 x5.2.2.1 x5.2.2.2.1 x3.1 x3.2.1 x3.2.2.1 x3.2.2.2.1 _ e6) (nd (nf c2) (nd (nf c2) (nd (nf c2) (nd (nf c2) (nd (nf c3) (nd (laws.toStringS.spec K a0 _ e7) (nd (rfl : (0 : Nat) = 0) (nd (rfl : a0.length = a0.length) (nd (laws.eqStringS.spec K x4 x7 _ e8) (nd (rfl : (0 : Nat) = 0) (nd (rfl : x4.length = x4.length) (nd (rfl : (0 : Nat) = 0) (nd (rfl : x7.length = x7.length) (nd (nf c4) (nd (laws.markStringS.spec K x4 1 _ e9) (nd c5 (nd c5 (nd c5 (nd c5 (nd c5 (nd tt (nd tt (nd tt (nd tt (nd tt trivial)))))))))))))))))))))))))))))))))))))))))) (by kernel_rfl)
          · obtain ⟨x10, e10, h⟩ := bind_some h
            rcases br_cases h with ⟨c6, h⟩ | ⟨c6, h⟩
            · obtain ⟨x11, e11, h⟩ := bind_some h
              obtain ⟨x12, e12, h⟩ := bind_some h
              rcases br_cases h with ⟨c7, h⟩ | ⟨c7, h⟩
              · obtain rfl := Option.some.inj h
                exact Den.Spec.of_walk tab mixed Try.func10 (by kernel_rfl) [.call [] [(0, true)] (one (.int .i64 x1)) [some ⟨false, .strs a0⟩], .br false, .call [] [(0, true)] (one (.sl 1 0 x2.length)) [some ⟨false, .strs a0⟩, some ⟨true, .strs x2⟩], .call [] [(0, true)] (.tup [.agg [.bool x3.1, .sl 1 0 x3.2.1.length, .sl 2 0 x3.2.2.1.length, .str x3.2.2.2.1], .c (.bool x3.2.2.2.2)]) [some ⟨false, .strs x2⟩, some ⟨true, .strs x3.2.1⟩, some ⟨true, .ints .i64 x3.2.2.1⟩], .call [] [(0, true)] (one (.sl 1 0 x4.length)) [some ⟨false, .strs a0⟩, some ⟨true, .strs x4⟩], .call [] [(0, true)] (.tup [.agg [.bool x5.1, .sl 1 0 x5.2.1.length, .sl 2 0 x5.2.2.1.length, .str x5.2.2.2.1], .c (.bool x5.2.2.2.2)]) [some ⟨false, .strs x4⟩, some ⟨true, .strs x5.2.1⟩, some ⟨true, .ints .i64 x5.2.2.1⟩], .call [(8, false), (9, false), (2, false), (3, false)] [] (one (.bool x6)) [some ⟨false, .strs x5.2.1⟩, some ⟨false, .ints .i64 x5.2.2.1⟩, some ⟨false, .strs x3.2.1⟩, some ⟨false, .ints .i64 x3.2.2.1⟩], .br false, .br false, .br false, .br false, .br false, .call [] [(0, true)] (one (.sl 1 0 x7.length)) [some ⟨false, .strs a0⟩, some ⟨true, .strs x7⟩], .call [] [(0, true), (1, true)] (one (.bool x8)) [some ⟨false, .strs x4⟩, some ⟨false, .strs x7⟩], .br false, .call [(7, true)] [] (one (.int .i64 x9.1)) [some ⟨true, .strs x9.2⟩], .br false, .br false, .br false, .call [(8, false), (9, false), (2, false), (3, false)] [] (one (.bool x10)) [some ⟨false, .strs x5.2.1⟩, some ⟨false, .ints .i64 x5.2.2.1⟩, some ⟨false, .strs x3.2.1⟩, some ⟨false, .ints .i64 x3.2.2.1⟩], .br false, .br false, .br false, .br false, .br false, .br false, .br false, .call [(8, true), (9, true)] [] (one (.int .i64 x11.1)) [some ⟨true, .strs x11.2.1⟩, some ⟨true, .ints .i64 x11.2.2⟩], .call [(8, false), (9, false)] [] (one (.int .i64 x12)) [some ⟨false, .strs x11.2.1⟩, some ⟨false, .ints .i64 x11.2.2⟩], .br true] [] [0] (nd (laws.szStringS.spec K a0 1048576 _ e1) (nd (rfl : (0 : Nat) = 0) (nd (rfl : a0.length = a0.length) (nd c1 (nd (laws.toStringS.spec K a0 _ e2) (nd (rfl : (0 : Nat) = 0) (nd (rfl : a0.length = a0.length) (nd (spec.NodeAt.spec K x2 a1 _ e3) (nd (rfl : (0 : Nat) = 0) (nd (rfl : x2.length = x2.length) (nd (laws.toStringS.spec K a0 _ e4) (nd (rfl : (0 : Nat) = 0) (nd (rfl : a0.length = a0.length) (nd (impl.NodeAt.spec K x4 a1 _ e5) (nd (rfl : (0 : Nat) = 0) (nd (rfl : x4.length = x4.length) (nd (laws.eqNode.spec K x5.1 x5.2.1 x5.2.2.1 x5.2.2.2.1 x3.1 x3.2.1 x3.2.2.1 x3.2.2.2.1 _ e6) (nd (nf c2) (nd (nf c2) (nd (nf c2) (nd (nf c2) (nd (nf c3) (nd (laws.toStringS.spec K a0 _ e7) (nd (rfl : (0 : Nat) = 0) (nd (rfl : a0.length = a0.length) (nd (laws.eqStringS.spec K x4 x7 _ e8) (nd (rfl : (0 : Nat) = 0) (nd (rfl : x4.length = x4.length) (nd (rfl : (0 : Nat) = 0) (nd (rfl : x7.length = x7.length) (nd (nf c4) (nd (laws.markStringS.spec K x4 1 _ e9) (nd c5 (nd c5 (nd c5 (nd (laws.eqNode.spec K x5.1 x5.2.1 x5.2.2.1 x5.2.2.2.1 x3.1 x3.2.1 x3.2.2.1 x3.2.2.2.1 _ e10) (nd c5 (nd c5 (nd (nf c6) (nd (nf c6) (nd (nf c6) (nd (nf c6) (nd (nf c3) (nd (laws.markNode.spec K x5.1 x5.2.1 x5.2.2.1 x5.2.2.2.1 1 _ e11) (nd (laws.heldNode.spec K x5.1 x11.2.1 x5.2.1.length x11.2.2 x5.2.2.1.length x5.2.2.2.1 1 _ e12) (nd c7 trivial)))))))))))))))))))))))))))))))))))))))))))))) (by kernel_rfl)
              · rcases br_cases h with ⟨c8, h⟩ | ⟨c8, h⟩
                · obtain rfl := Option.some.inj h
                  exact Den.Spec.of_walk tab mixed Try.func10 (by kernel_rfl) [.call [] [(0, true)] (one (.int .i64 x1)) [some ⟨false, .strs a0⟩], .br false, .call [] [(0, true)] (one (.sl 1 0 x2.length)) [some ⟨false, .strs a0⟩, some ⟨true, .strs x2⟩], .call [] [(0, true)] (.tup [.agg [.bool x3.1, .sl 1 0 x3.2.1.length, .sl 2 0 x3.2.2.1.length, .str x3.2.2.2.1], .c (.bool x3.2.2.2.2)]) [some ⟨false, .strs x2⟩, some ⟨true, .strs x3.2.1⟩, some ⟨true, .ints .i64 x3.2.2.1⟩], .call [] [(0, true)] (one (.sl 1 0 x4.length)) [some ⟨false, .strs a0⟩, some ⟨true, .strs x4⟩], .call [] [(0, true)] (.tup [.agg [.bool x5.1, .sl 1 0 x5.2.1.length, .sl 2 0 x5.2.2.1.length, .str x5.2.2.2.1], .c (.bool x5.2.2.2.2)]) [some ⟨false, .strs x4⟩, some ⟨true, .strs x5.2.1⟩, some ⟨true, .ints .i64 x5.2.2.1⟩], .call [(8, false), (9, false), (2, false), (3, false)] [] (one (.bool x6)) [some ⟨false, .strs x5.2.1⟩, some ⟨false, .ints .i64 x5.2.2.1⟩, some ⟨false, .strs x3.2.1⟩, some ⟨false, .ints .i64 x3.2.2.1⟩], .br false, .br false, .br false, .br false, .br false, .call [] [(0, true)] (one (.sl 1 0 x7.length)) [some ⟨false, .strs a0⟩, some ⟨true, .strs x7⟩], .call [] [(0, true), (1, true)] (one (.bool x8)) [some ⟨false, .strs x4⟩, some ⟨false, .strs x7⟩], .br false, .call [(7, true)] [] (one (.int .i64 x9.1)) [some ⟨true, .strs x9.2⟩], .br false, .br false, .br false, .call [(8, false), (9, false), (2, false), (3, false)] [] (one (.bool x10)) [some ⟨false, .strs x5.2.1⟩, some ⟨false, .ints .i64 x5.2.2.1⟩, some ⟨false, .strs x3.2.1⟩, some ⟨false, .ints .i64 x3.2.2.1⟩], .br false, .br false, .br false, .br false, .br false, .br false, .br false, .call [(8, true), (9, true)] [] (one (.int .i64 x11.1)) [some ⟨true, .strs x11.2.1⟩, some ⟨true, .ints .i64 x11.2.2⟩], .call [(8, false), (9, false)] [] (one (.int .i64 x12)) [some ⟨false, .strs x11.2.1⟩, some ⟨false, .ints .i64 x11.2.2⟩], .br false, .br true] [] [0] (nd (laws.szStringS.spec K a0 1048576 _ e1) (nd (rfl : (0 : Nat) = 0) (nd (rfl : a0.length = a0.length) (nd c1 (nd (laws.toStringS.spec K a0 _ e2) (nd (rfl : (0 : Nat) = 0) (nd (rfl : a0.length = a0.length) (nd (spec.NodeAt.spec K x2 a1 _ e3) (nd (rfl : (0 : Nat) = 0) (nd (rfl : x2.length = x2.length) (nd (laws.toStringS.spec K a0 _ e4) (nd (rfl : (0 : Nat) = 0) (nd (rfl : a0.length = a0.length) (nd (impl.NodeAt.spec K x4 a1 _ e5) (nd (rfl : (0 : Nat) = 0) (nd (rfl : x4.length = x4.length) (nd (laws.eqNode.spec K x5.1 x5.2.1 x5.2.2.1 x5.2.2.2.1 x3.1 x3.2.1 x3.2.2.1 x3.2.2.2.1 _ e6) (nd (nf c2) (nd (nf c2) (nd (nf c2) (nd (nf c2) (nd (nf c3) (nd (laws.toStringS.spec K a0 _ e7) (nd (rfl : (0 : Nat) = 0) (nd (rfl : a0.length = a0.length) (nd (laws.eqStringS.spec K x4 x7 _ e8) (nd (rfl : (0 : Nat) = 0) (nd (rfl : x4.length = x4.length) (nd (rfl : (0 : Nat) = 0) (nd (rfl : x7.length = x7.length) (nd (nf c4) (nd (laws.markStringS.spec K x4 1 _ e9) (nd c5 (nd c5 (nd c5 (nd (laws.eqNode.spec K x5.1 x5.2.1 x5.2.2.1 x5.2.2.2.1 x3.1 x3.2.1 x3.2.2.1 x3.2.2.2.1 _ e10) (nd c5 (nd c5 (nd (nf c6) (nd (nf c6) (nd (nf c6) (nd (nf c6) (nd (nf c3) (nd (laws.markNode.spec K x5.1 x5.2.1 x5.2.2.1 x5.2.2.2.1 1 _ e11) (nd (laws.heldNode.spec K x5.1 x11.2.1 x5.2.1.length x11.2.2 x5.2.2.1.length x5.2.2.2.1 1 _ e12) (nd c7 (nd c8 trivial))))))))))))))))))))))))))))))))))))))))))))))) (by kernel_rfl)
                · obtain ⟨x13, e13, h⟩ := bind_some h
                  obtain ⟨x14, e14, h⟩ := bind_some h
                  obtain ⟨x15, e15, h⟩ := bind_some h
                  rcases br_cases h with ⟨c9, h⟩ | ⟨c9, h⟩
                  · rcases br_cases h with ⟨c10, h⟩ | ⟨c10, h⟩
                    · obtain ⟨x16, e16, h⟩ := bind_some h
                      rcases br_cases h with ⟨c11, h⟩ | ⟨c11, h⟩
                      · obtain rfl := Option.some.inj h
                        exact Den.Spec.of_walk tab mixed Try.func10 (by kernel_rfl) [.call [] [(0, true)] (one (.int .i64 x1)) [some ⟨false, .strs a0⟩], .br false, .call [] [(0, true)] (one (.sl 1 0 x2.length)) [some ⟨false, .strs a0⟩, some ⟨true, .strs x2⟩], .call [] [(0, true)] (.tup [.agg [.bool x3.1, .sl 1 0 x3.2.1.length, .sl 2 0 x3.2.2.1.length, .str x3.2.2.2.1], .c (.bool x3.2.2.2.2)]) [some ⟨false, .strs x2⟩, some ⟨true, .strs x3.2.1⟩, some ⟨true, .ints .i64 x3.2.2.1⟩], .call [] [(0, true)] (one (.sl 1 0 x4.length)) [some ⟨false, .strs a0⟩, some ⟨true, .strs x4⟩], .call [] [(0, true)] (.tup [.agg [.bool x5.1, .sl 1 0 x5.2.1.length, .sl 2 0 x5.2.2.1.length, .str x5.2.2.2.1], .c (.bool x5.2.2.2.2)]) [some ⟨false, .strs x4⟩, some ⟨true, .strs x5.2.1⟩, some ⟨true, .ints .i64 x5.2.2.1⟩], .call [(8, false), (9, false), (2, false), (3, false)] [] (one (.bool x6)) [some ⟨false, .strs x5.2.1⟩, some ⟨false, .ints .i64 x5.2.2.1⟩, some ⟨false, .strs x3.2.1⟩, some ⟨false, .ints .i64 x3.2.2.1⟩], .br false, .br false, .br false, .br false, .br false, .call [] [(0, true)] (one (.sl 1 0 x7.length)) [some ⟨false, .strs a0⟩, some ⟨true, .strs x7⟩], .call [] [(0, true), (1, true)] (one (.bool x8)) [some ⟨false, .strs x4⟩, some ⟨false, .strs x7⟩], .br false, .call [(7, true)] [] (one (.int .i64 x9.1)) [some ⟨true, .strs x9.2⟩], .br false, .br false, .br false, .call [(8, false), (9, false), (2, false), (3, false)] [] (one (.bool x10)) [some ⟨false, .strs x5.2.1⟩, some ⟨false, .ints .i64 x5.2.2.1⟩, some ⟨false, .strs x3.2.1⟩, some ⟨false, .ints .i64 x3.2.2.1⟩], .br false, .br false, .br false, .br false, .br false, .br false, .br false, .call [(8, true), (9, true)] [] (one (.int .i64 x11.1)) [some ⟨true, .strs x11.2.1⟩, some ⟨true, .ints .i64 x11.2.2⟩], .call [(8, false), (9, false)] [] (one (.int .i64 x12)) [some ⟨false, .strs x11.2.1⟩, some ⟨false, .ints .i64 x11.2.2⟩], .br false, .br false, .call [] [(0, true)] (one (.sl 1 0 x13.length)) [some ⟨false, .strs a0⟩, some ⟨true, .strs x13⟩], .call [] [(0, true)] (.tup [.agg [.bool x14.1, .sl 1 0 x14.2.1.length, .sl 2 0 x14.2.2.1.length, .str x14.2.2.2.1], .c (.bool x14.2.2.2.2)]) [some ⟨false, .strs x13⟩, some ⟨true, .strs x14.2.1⟩, some ⟨true, .ints .i64 x14.2.2.1⟩], .call [(15, false), (16, false), (2, false), (3, false)] [] (one (.bool x15)) [some ⟨false, .strs x14.2.1⟩, some ⟨false, .ints .i64 x14.2.2.1⟩, some ⟨false, .strs x3.2.1⟩, some ⟨false, .ints .i64 x3.2.2.1⟩], .br false, .br false, .br false, .br false, .br false, .call [(8, false), (9, false)] [] (one (.int .i64 x16)) [some ⟨false, .strs x11.2.1⟩, some ⟨false, .ints .i64 x11.2.2⟩], .br true] [] [0] (nd (laws.szStringS.spec K a0 1048576 _ e1) (nd (rfl : (0 : Nat) = 0) (nd (rfl : a0.length = a0.length) (nd c1 (nd (laws.toStringS.spec K a0 _ e2) (nd (rfl : (0 : Nat) = 0) (nd (rfl : a0.length = a0.length) (nd (spec.NodeAt.spec K x2 a1 _ e3) (nd (rfl : (0 : Nat) = 0) (nd (rfl : x2.length = x2.length) (nd (laws.toStringS.spec K a0 _ e4) (nd (rfl : (0 : Nat) = 0) (nd (rfl : a0.length = a0.length) (nd (impl.NodeAt.spec K x4 a1 _ e5) (nd (rfl : (0 : Nat) = 0) (nd (rfl : x4.length = x4.length) (nd (laws.eqNode.spec K x5.1 x5.2.1 x5.2.2.1 x5.2.2.2.1 x3.1 x3.2.1 x3.2.2.1 x3.2.2.2.1 _ e6) (nd (nf c2) (nd (nf c2) (nd (nf c2) (nd (nf c2) (nd (nf c3) (nd (laws.toStringS.spec K a0 _ e7) (nd (rfl : (0 : Nat) = 0) (nd (rfl : a0.length = a0.length) (nd (laws.eqStringS.spec K x4 x7 _ e8) (nd (rfl : (0 : Nat) = 0) (nd (rfl : x4.length = x4.length) (nd (rfl : (0 : Nat) = 0) (nd (rfl : x7.length = x7.length) (nd (nf c4) (nd (laws.markStringS.spec K x4 1 _ e9) (nd c5 (nd c5 (nd c5 (nd (laws.eqNode.spec K x5.1 x5.2.1 x5.2.2.1 x5.2.2.2.1 x3.1 x3.2.1 x3.2.2.1 x3.2.2.2.1 _ e10) (nd c5 (nd c5 (nd (nf c6) (nd (nf c6) (nd (nf c6) (nd (nf c6) (nd (nf c3) (nd (laws.markNode.spec K x5.1 x5.2.1 x5.2.2.1 x5.2.2.2.1 1 _ e11) (nd (laws.heldNode.spec K x5.1 x11.2.1 x5.2.1.length x11.2.2 x5.2.2.1.length x5.2.2.2.1 1 _ e12) (nd c7 (nd c8 (nd (laws.toStringS.spec K a0 _ e13) (nd (rfl : (0 : Nat) = 0) (nd (rfl : a0.length = a0.length) (nd (impl.NodeAt.spec K x13 a1 _ e14) (nd (rfl : (0 : Nat) = 0) (nd (rfl : x13.length = x13.length) (nd (laws.eqNode.spec K x14.1 x14.2.1 x14.2.2.1 x14.2.2.2.1 x3.1 x3.2.1 x3.2.2.1 x3.2.2.2.1 _ e15) (nd (nf c9) (nd (nf c9) (nd (nf c9) (nd (nf c9) (nd (nf c10) (nd (laws.heldNode.spec K x5.1 x11.2.1 x5.2.1.length x11.2.2 x5.2.2.1.length x5.2.2.2.1 1 _ e16) (nd c11 trivial))))))))))))))))))))))))))))))))))))))))))))))))))))))))))))) (by kernel_rfl)
                      · rcases br_cases h with ⟨c12, h⟩ | ⟨c12, h⟩
                        · obtain rfl := Option.some.inj h
                          exact Den.Spec.of_walk tab mixed Try.func10 (by kernel_rfl) [.call [] [(0, true)] (one (.int .i64 x1)) [some ⟨false, .strs a0⟩], .br false, .call [] [(0, true)] (one (.sl 1 0 x2.length)) [some ⟨false, .strs a0⟩, some ⟨true, .strs x2⟩], .call [] [(0, true)] (.tup [.agg [.bool x3.1, .sl 1 0 x3.2.1.length, .sl 2 0 x3.2.2.1.length, .str x3.2.2.2.1], .c (.bool x3.2.2.2.2)]) [some ⟨false, .strs x2⟩, some ⟨true, .strs x3.2.1⟩, some ⟨true, .ints .i64 x3.2.2.1⟩], .call [] [(0, true)] (one (.sl 1 0 x4.length)) [some ⟨false, .strs a0⟩, some ⟨true, .strs x4⟩], .call [] [(0, true)] (.tup [.agg [.bool x5.1, .sl 1 0 x5.2.1.length, .sl 2 0 x5.2.2.1.length, .str x5.2.2.2.1], .c (.bool x5.2.2.2.2)]) [some ⟨false, .strs x4⟩, some ⟨true, .strs x5.2.1⟩, some ⟨true, .ints .i64 x5.2.2.1⟩], .call [(8, false), (9, false), (2, false), (3, false)] [] (one (.bool x6)) [some ⟨false, .strs x5.2.1⟩, some ⟨false, .ints .i64 x5.2.2.1⟩, some ⟨false, .strs x3.2.1⟩, some ⟨false, .ints .i64 x3.2.2.1⟩], .br false, .br false, .br false, .br false, .br false, .call [] [(0, true)] (one (.sl 1 0 x7.length)) [some ⟨false, .strs a0⟩, some ⟨true, .strs x7⟩], .call [] [(0, true), (1, true)] (one (.bool x8)) [some ⟨false, .strs x4⟩, some ⟨false, .strs x7⟩], .br false, .call [(7, true)] [] (one (.int .i64 x9.1)) [some ⟨true, .strs x9.2⟩], .br false, .br false, .br false, .call [(8, false), (9, false), (2, false), (3, false)] [] (one (.bool x10)) [some ⟨false, .strs x5.2.1⟩, some ⟨false, .ints .i64 x5.2.2.1⟩, some ⟨false, .strs x3.2.1⟩, some ⟨false, .ints .i64 x3.2.2.1⟩], .br false, .br false, .br false, .br false, .br false, .br false, .br false, .call [(8, true), (9, true)] [] (one (.int .i64 x11.1)) [some ⟨true, .strs x11.2.1⟩, some ⟨true, .ints .i64 x11.2.2⟩], .call [(8, false), (9, false)] [] (one (.int .i64 x12)) [some ⟨false, .strs x11.2.1⟩, some ⟨false, .ints .i64 x11.2.2⟩], .br false, .br false, .call [] [(0, true)] (one (.sl 1 0 x13.length)) [some ⟨false, .strs a0⟩, some ⟨true, .strs x13⟩], .call [] [(0, true)] (.tup [.agg [.bool x14.1, .sl 1 0 x14.2.1.length, .sl 2 0 x14.2.2.1.length, .str x14.2.2.2.1], .c (.bool x14.2.2.2.2)]) [some ⟨false, .strs x13⟩, some ⟨true, .strs x14.2.1⟩, some ⟨true, .ints .i64 x14.2.2.1⟩], .call [(15, false), (16, false), (2, false), (3, false)] [] (one (.bool x15)) [some ⟨false, .strs x14.2.1⟩, some ⟨false, .ints .i64 x14.2.2.1⟩, some ⟨false, .strs x3.2.1⟩, some ⟨false, .ints .i64 x3.2.2.1⟩], .br false, .br false, .br false, .br false, .br false, .call [(8, false), (9, false)] [] (one (.int .i64 x16)) [some ⟨false, .strs x11.2.1⟩, some ⟨false, .ints .i64 x11.2.2⟩], .br false, .br true] [] [0] (nd (laws.szStringS.spec K a0 1048576 _ e1) (nd (rfl : (0 : Nat) = 0) (nd (rfl : a0.length = a0.length) (nd c1 (nd (laws.toStringS.spec K a0 _ e2) (nd (rfl : (0 : Nat) = 0) (nd (rfl : a0.length = a0.length) (nd (spec.NodeAt.spec K x2 a1 _ e3) (nd (rfl : (0 : Nat) = 0) (nd (rfl : x2.length = x2.length) (nd (laws.toStringS.spec K a0 _ e4) (nd (rfl : (0 : Nat) = 0) (nd (rfl : a0.length = a0.length) (nd (impl.NodeAt.spec K x4 a1 _ e5) (nd (rfl : (0 : Nat) = 0) (nd (rfl : x4.length = x4.length) (nd (laws.eqNode.spec K x5.1 x5.2.1 x5.2.2.1 x5.2.2.2.1 x3.1 x3.2.1 x3.2.2.1 x3.2.2.2.1 _ e6) (nd (nf c2) (nd (nf c2) (nd (nf c2) (nd (nf c2) (nd (nf c3) (nd (laws.toStringS.spec K a0 _ e7) (nd (rfl : (0 : Nat) = 0) (nd (rfl : a0.length = a0.length) (nd (laws.eqStringS.spec K x4 x7 _ e8) (nd (rfl : (0 : Nat) = 0) (nd (rfl : x4.length = x4.length) (nd (rfl : (0 : Nat) = 0) (nd (rfl : x7.length = x7.length) (nd (nf c4) (nd (laws.markStringS.spec K x4 1 _ e9) (nd c5 (nd c5 (nd c5 (nd (laws.eqNode.spec K x5.1 x5.2.1 x5.2.2.1 x5.2.2.2.1 x3.1 x3.2.1 x3.2.2.1 x3.2.2.2.1 _ e10) (nd c5 (nd c5 (nd (nf c6) (nd (nf c6) (nd (nf c6) (nd (nf c6) (nd (nf c3) (nd (laws.markNode.spec K x5.1 x5.2.1 x5.2.2.1 x5.2.2.2.1 1 _ e11) (nd (laws.heldNode.spec K x5.1 x11.2.1 x5.2.1.length x11.2.2 x5.2.2.1.length x5.2.2.2.1 1 _ e12) (nd c7 (nd c8 (nd (laws.toStringS.spec K a0 _ e13) (nd (rfl : (0 : Nat) = 0) (nd (rfl : a0.length = a0.length) (nd (impl.NodeAt.spec K x13 a1 _ e14) (nd (rfl : (0 : Nat) = 0) (nd (rfl : x13.length = x13.length) (nd (laws.eqNode.spec K x14.1 x14.2.1 x14.2.2.1 x14.2.2.2.1 x3.1 x3.2.1 x3.2.2.1 x3.2.2.2.1 _ e15) (nd (nf c9) (nd (nf c9) (nd (nf c9) (nd (nf c9) (nd (nf c10) (nd (laws.heldNode.spec K x5.1 x11.2.1 x5.2.1.length x11.2.2 x5.2.2.1.length x5.2.2.2.1 1 _ e16) (nd c11 (nd c12 trivial)))))))))))))))))))))))))))))))))))))))))))))))))))))))))))))) (by kernel_rfl)
                        · obtain rfl := Option.some.inj h
                          exact Den.Spec.of_walk tab mixed Try.func10 (by kernel_rfl) [.call [] [(0, true)] (one (.int .i64 x1)) [some ⟨false, .strs a0⟩], .br false, .call [] [(0, true)] (one (.sl 1 0 x2.length)) [some ⟨false, .strs a0⟩, some ⟨true, .strs x2⟩], .call [] [(0, true)] (.tup [.agg [.bool x3.1, .sl 1 0 x3.2.1.length, .sl 2 0 x3.2.2.1.length, .str x3.2.2.2.1], .c (.bool x3.2.2.2.2)]) [some ⟨false, .strs x2⟩, some ⟨true, .strs x3.2.1⟩, some ⟨true, .ints .i64 x3.2.2.1⟩], .call [] [(0, true)] (one (.sl 1 0 x4.length)) [some ⟨false, .strs a0⟩, some ⟨true, .strs x4⟩], .call [] [(0, true)] (.tup [.agg [.bool x5.1, .sl 1 0 x5.2.1.length, .sl 2 0 x5.2.2.1.length, .str x5.2.2.2.1], .c (.bool x5.2.2.2.2)]) [some ⟨false, .strs x4⟩, some ⟨true, .strs x5.2.1⟩, some ⟨true, .ints .i64 x5.2.2.1⟩], .call [(8, false), (9, false), (2, false), (3, false)] [] (one (.bool x6)) [some ⟨false, .strs x5.2.1⟩, some ⟨false, .ints .i64 x5.2.2.1⟩, some ⟨false, .strs x3.2.1⟩, some ⟨false, .ints .i64 x3.2.2.1⟩], .br false, .br false, .br false, .br false, .br false, .call [] [(0, true)] (one (.sl 1 0 x7.length)) [some ⟨false, .strs a0⟩, some ⟨true, .strs x7⟩], .call [] [(0, true), (1, true)] (one (.bool x8)) [some ⟨false, .strs x4⟩, some ⟨false, .strs x7⟩], .br false, .call [(7, true)] [] (one (.int .i64 x9.1)) [some ⟨true, .strs x9.2⟩], .br false, .br false, .br false, .call [(8, false), (9, false), (2, false), (3, false)] [] (one (.bool x10)) [some ⟨false, .strs x5.2.1⟩, some ⟨false, .ints .i64 x5.2.2.1⟩, some ⟨false, .strs x3.2.1⟩, some ⟨false, .ints .i64 x3.2.2.1⟩], .br false, .br false, .br false, .br false, .br false, .br false, .br false, .call [(8, true), (9, true)] [] (one (.int .i64 x11.1)) [some ⟨true, .strs x11.2.1⟩, some ⟨true, .ints .i64 x11.2.2⟩], .call [(8, false), (9, false)] [] (one (.int .i64 x12)) [some ⟨false, .strs x11.2.1⟩, some ⟨false, .ints .i64 x11.2.2⟩], .br false, .br false, .call [] [(0, true)] (one (.sl 1 0 x13.length)) [some ⟨false, .strs a0⟩, some ⟨true, .strs x13⟩], .call [] [(0, true)] (.tup [.agg [.bool x14.1, .sl 1 0 x14.2.1.length, .sl 2 0 x14.2.2.1.length, .str x14.2.2.2.1], .c (.bool x14.2.2.2.2)]) [some ⟨false, .strs x13⟩, some ⟨true, .strs x14.2.1⟩, some ⟨true, .ints .i64 x14.2.2.1⟩], .call [(15, false), (16, false), (2, false), (3, false)] [] (one (.bool x15)) [some ⟨false, .strs x14.2.1⟩, some ⟨false, .ints .i64 x14.2.2.1⟩, some ⟨false, .strs x3.2.1⟩, some ⟨false, .ints .i64 x3.2.2.1⟩], .br false, .br false, .br false, .br false, .br false, .call [(8, false), (9, false)] [] (one (.int .i64 x16)) [some ⟨false, .strs x11.2.1⟩, some ⟨false, .ints .i64 x11.2.2⟩], .br false, .br false] [] [0] (nd (laws.szStringS.spec K a0 1048576 _ e1) (nd (rfl : (0 : Nat) = 0) (nd (rfl : a0.length = a0.length) (nd c1 (nd (laws.toStringS.spec K a0 _ e2) (nd (rfl : (0 : Nat) = 0) (nd (rfl : a0.length = a0.length) (nd (spec.NodeAt.spec K x2 a1 _ e3) (nd (rfl : (0 : Nat) = 0) (nd (rfl : x2.length = x2.length) (nd (laws.toStringS.spec K a0 _ e4) (nd (rfl : (0 : Nat) = 0) (nd (rfl : a0.length = a0.length) (nd (impl.NodeAt.spec K x4 a1 _ e5) (nd (rfl : (0 : Nat) = 0) (nd (rfl : x4.length = x4.length) (nd (laws.eqNode.spec K x5.1 x5.2.1 x5.2.2.1 x5.2.2.2.1 x3.1 x3.2.1 x3.2.2.1 x3.2.2.2.1 _ e6) (nd (nf c2) (nd (nf c2) (nd (nf c2) (nd (nf c2) (nd (nf c3) (nd (laws.toStringS.spec K a0 _ e7) (nd (rfl : (0 : Nat) = 0) (nd (rfl : a0.length = a0.length) (nd (laws.eqStringS.spec K x4 x7 _ e8) (nd (rfl : (0 : Nat) = 0) (nd (rfl : x4.length = x4.length) (nd (rfl : (0 : Nat) = 0) (nd (rfl : x7.length = x7.length) (nd (nf c4) (nd (laws.markStringS.spec K x4 1 _ e9) (nd c5 (nd c5 (nd c5 (nd (laws.eqNode.spec K x5.1 x5.2.1 x5.2.2.1 x5.2.2.2.1 x3.1 x3.2.1 x3.2.2.1 x3.2.2.2.1 _ e10) (nd c5 (nd c5 (nd (nf c6) (nd (nf c6) (nd (nf c6) (nd (nf c6) (nd (nf c3) (nd (laws.markNode.spec K x5.1 x5.2.1 x5.2.2.1 x5.2.2.2.1 1 _ e11) (nd (laws.heldNode.spec K x5.1 x11.2.1 x5.2.1.length x11.2.2 x5.2.2.1.length x5.2.2.2.1 1 _ e12) (nd c7 (nd c8 (nd (laws.toStringS.spec K a0 _ e13) (nd (rfl : (0 : Nat) = 0) (nd (rfl : a0.length = a0.length) (nd (impl.NodeAt.spec K x13 a1 _ e14) (nd (rfl : (0 : Nat) = 0) (nd (rfl : x13.length = x13.length) (nd (laws.eqNode.spec K x14.1 x14.2.1 x14.2.2.1 x14.2.2.2.1 x3.1 x3.2.1 x3.2.2.1 x3.2.2.2.1 _ e15) (nd (nf c9) (nd (nf c9) (nd (nf c9) (nd (nf c9) (nd (nf c10) (nd (laws.heldNode.spec K x5.1 x11.2.1 x5.2.1.length x11.2.2 x5.2.2.1.length x5.2.2.2.1 1 _ e16) (nd c11 (nd c12 trivial)))))))))))))))))))))))))))))))))))))))))))))))))))))))))))))) (by kernel_rfl)
                    · obtain rfl := Option.some.inj h
                      exact Den.Spec.of_walk tab mixed Try.func10 (by kernel_rfl) [.call [] [(0, true)] (one (.int .i64 x1)) [some ⟨false, .strs a0⟩], .br false, .call [] [(0, true)] (one (.sl 1 0 x2.length)) [some ⟨false, .strs a0⟩, some ⟨true, .strs x2⟩], .call [] [(0, true)] (.tup [.agg [.bool x3.1, .sl 1 0 x3.2.1.length, .sl 2 0 x3.2.2.1.length, .str x3.2.2.2.1], .c (.bool x3.2.2.2.2)]) [some ⟨false, .strs x2⟩, some ⟨true, .strs x3.2.1⟩, some ⟨true, .ints .i64 x3.2.2.1⟩], .call [] [(0, true)] (one (.sl 1 0 x4.length)) [some ⟨false, .strs a0⟩, some ⟨true, .strs x4⟩], .call [] [(0, true)] (.tup [.agg [.bool x5.1, .sl 1 0 x5.2.1.length, .sl 2 0 x5.2.2.1.length, .str x5.2.2.2.1], .c (.bool x5.2.2.2.2)]) [some ⟨false, .strs x4⟩, some ⟨true, .strs x5.2.1⟩, some ⟨true, .ints .i64 x5.2.2.1⟩], .call [(8, false), (9, false), (2, false), (3, false)] [] (one (.bool x6)) [some ⟨false, .strs x5.2.1⟩, some ⟨false, .ints .i64 x5.2.2.1⟩, some ⟨false, .strs x3.2.1⟩, some ⟨false, .ints .i64 x3.2.2.1⟩], .br false, .br false, .br false, .br false, .br false, .call [] [(0, true)] (one (.sl 1 0 x7.length)) [some ⟨false, .strs a0⟩, some ⟨true, .strs x7⟩], .call [] [(0, true), (1, true)] (one (.bool x8)) [some ⟨false, .strs x4⟩, some ⟨false, .strs x7⟩], .br false, .call [(7, true)] [] (one (.int .i64 x9.1)) [some ⟨true, .strs x9.2⟩], .br false, .br false, .br false, .call [(8, false), (9, false), (2, false), (3, false)] [] (one (.bool x10)) [some ⟨false, .strs x5.2.1⟩, some ⟨false, .ints .i64 x5.2.2.1⟩, some ⟨false, .strs x3.2.1⟩, some ⟨false, .ints .i64 x3.2.2.1⟩], .br false, .br false, .br false, .br false, .br false, .br false, .br false, .call [(8, true), (9, true)] [] (one (.int .i64 x11.1)) [some ⟨true, .strs x11.2.1⟩, some ⟨true, .ints .i64 x11.2.2⟩], .call [(8, false), (9, false)] [] (one (.int .i64 x12)) [some ⟨false, .strs x11.2.1⟩, some ⟨false, .ints .i64 x11.2.2⟩], .br false, .br false, .call [] [(0, true)] (one (.sl 1 0 x13.length)) [some ⟨false, .strs a0⟩, some ⟨true, .strs x13⟩], .call [] [(0, true)] (.tup [.agg [.bool x14.1, .sl 1 0 x14.2.1.length, .sl 2 0 x14.2.2.1.length, .str x14.2.2.2.1], .c (.bool x14.2.2.2.2)]) [some ⟨false, .strs x13⟩, some ⟨true, .strs x14.2.1⟩, some ⟨true, .ints .i64 x14.2.2.1⟩], .call [(15, false), (16, false), (2, false), (3, false)] [] (one (.bool x15)) [some ⟨false, .strs x14.2.1⟩, some ⟨false, .ints .i64 x14.2.2.1⟩, some ⟨false, .strs x3.2.1⟩, some ⟨false, .ints .i64 x3.2.2.1⟩], .br false, .br false, .br false, .br false, .br true] [] [0] (nd (laws.szStringS.spec K a0 1048576 _ e1) (nd (rfl : (0 : Nat) = 0) (nd (rfl : a0.length = a0.length) (nd c1 (nd (laws.toStringS.spec K a0 _ e2) (nd (rfl : (0 : Nat) = 0) (nd (rfl : a0.length = a0.length) (nd (spec.NodeAt.spec K x2 a1 _ e3) (nd (rfl : (0 : Nat) = 0) (nd (rfl : x2.length = x2.length) (nd (laws.toStringS.spec K a0 _ e4) (nd (rfl : (0 : Nat) = 0) (nd (rfl : a0.length = a0.length) (nd (impl.NodeAt.spec K x4 a1 _ e5) (nd (rfl : (0 : Nat) = 0) (nd (rfl : x4.length = x4.length) (nd (laws.eqNode.spec K x5.1 x5.2.1 x5.2.2.1 x5.2.2.2.1 x3.1 x3.2.1 x3.2.2.1 x3.2.2.2.1 _ e6) (nd (nf c2) (nd (nf c2) (nd (nf c2) (nd (nf c2) (nd (nf c3) (nd (laws.toStringS.spec K a0 _ e7) (nd (rfl : (0 : Nat) = 0) (nd (rfl : a0.length = a0.length) (nd (laws.eqStringS.spec K x4 x7 _ e8) (nd (rfl : (0 : Nat) = 0) (nd (rfl : x4.length = x4.length) (nd (rfl : (0 : Nat) = 0) (nd (rfl : x7.length = x7.length) (nd (nf c4) (nd (laws.markStringS.spec K x4 1 _ e9) (nd c5 (nd c5 (nd c5 (nd (laws.eqNode.spec K x5.1 x5.2.1 x5.2.2.1 x5.2.2.2.1 x3.1 x3.2.1 x3.2.2.1 x3.2.2.2.1 _ e10) (nd c5 (nd c5 (nd (nf c6) (nd (nf c6) (nd (nf c6) (nd (nf c6) (nd (nf c3) (nd (laws.markNode.spec K x5.1 x5.2.1 x5.2.2.1 x5.2.2.2.1 1 _ e11) (nd (laws.heldNode.spec K x5.1 x11.2.1 x5.2.1.length x11.2.2 x5.2.2.1.length x5.2.2.2.1 1 _ e12) (nd c7 (nd c8 (nd (laws.toStringS.spec K a0 _ e13) (nd (rfl : (0 : Nat) = 0) (nd (rfl : a0.length = a0.length) (nd (impl.NodeAt.spec K x13 a1 _ e14) (nd (rfl : (0 : Nat) = 0) (nd (rfl : x13.length = x13.length) (nd (laws.eqNode.spec K x14.1 x14.2.1 x14.2.2.1 x14.2.2.2.1 x3.1 x3.2.1 x3.2.2.1 x3.2.2.2.1 _ e15) (nd (nf c9) (nd (nf c9) (nd (nf c9) (nd (nf c9) (nd (nt c10) trivial))))))))))))))))))))))))))))))))))))))))))))))))))))))))))) (by kernel_rfl)
                  · obtain rfl := Option.some.inj h
                    exact Den.Spec.of_walk tab mixed Try.func10 (by kernel_rfl) [.call [] [(0, true)] (one (.int .i64 x1)) [some ⟨false, .strs a0⟩], .br false, .call [] [(0, true)] (one (.sl 1 0 x2.length)) [some ⟨false, .strs a0⟩, some ⟨true, .strs x2⟩], .call [] [(0, true)] (.tup [.agg [.bool x3.1, .sl 1 0 x3.2.1.length, .sl 2 0 x3.2.2.1.length, .str x3.2.2.2.1], .c (.bool x3.2.2.2.2)]) [some ⟨false, .strs x2⟩, some ⟨true, .strs x3.2.1⟩, some ⟨true, .ints .i64 x3.2.2.1⟩], .call [] [(0, true)] (one (.sl 1 0 x4.length)) [some ⟨false, .strs a0⟩, some ⟨true, .strs x4⟩], .call [] [(0, true)] (.tup [.agg [.bool x5.1, .sl 1 0 x5.2.1.length, .sl 2 0 x5.2.2.1.length, .str x5.2.2.2.1], .c (.bool x5.2.2.2.2)]) [some ⟨false, .strs x4⟩, some ⟨true, .strs x5.2.1⟩, some ⟨true, .ints .i64 x5.2.2.1⟩], .call [(8, false), (9, false), (2, false), (3, false)] [] (one (.bool x6)) [some ⟨false, .strs x5.2.1⟩, some ⟨false, .ints .i64 x5.2.2.1⟩, some ⟨false, .strs x3.2.1⟩, some ⟨false, .ints .i64 x3.2.2.1⟩], .br false, .br false, .br false, .br false, .br false, .call [] [(0, true)] (one (.sl 1 0 x7.length)) [some ⟨false, .strs a0⟩, some ⟨true, .strs x7⟩], .call [] [(0, true), (1, true)] (one (.bool x8)) [some ⟨false, .strs x4⟩, some ⟨false, .strs x7⟩], .br false, .call [(7, true)] [] (one (.int .i64 x9.1)) [some ⟨true, .strs x9.2⟩], .br false, .br false, .br false, .call [(8, false), (9, false), (2, false), (3, false)] [] (one (.bool x10)) [some ⟨false, .strs x5.2.1⟩, some ⟨false, .ints .i64 x5.2.2.1⟩, some ⟨false, .strs x3.2.1⟩, some ⟨false, .ints .i64 x3.2.2.1⟩], .br false, .br false, .br false, .br false, .br false, .br false, .br false, .call [(8, true), (9, true)] [] (one (.int .i64 x11.1)) [some ⟨true, .strs x11.2.1⟩, some ⟨true, .ints .i64 x11.2.2⟩], .call [(8, false), (9, false)] [] (one (.int .i64 x12)) [some ⟨false, .strs x11.2.1⟩, some ⟨false, .ints .i64 x11.2.2⟩], .br false, .br false, .call [] [(0, true)] (one (.sl 1 0 x13.length)) [some ⟨false, .strs a0⟩, some ⟨true, .strs x13⟩], .call [] [(0, true)] (.tup [.agg [.bool x14.1, .sl 1 0 x14.2.1.length, .sl 2 0 x14.2.2.1.length, .str x14.2.2.2.1], .c (.bool x14.2.2.2.2)]) [some ⟨false, .strs x13⟩, some ⟨true, .strs x14.2.1⟩, some ⟨true, .ints .i64 x14.2.2.1⟩], .call [(15, false), (16, false), (2, false), (3, false)] [] (one (.bool x15)) [some ⟨false, .strs x14.2.1⟩, some ⟨false, .ints .i64 x14.2.2.1⟩, some ⟨false, .strs x3.2.1⟩, some ⟨false, .ints .i64 x3.2.2.1⟩], .br true, .br true, .br true, .br true, .br true] [] [0] (nd (laws.szStringS.spec K a0 1048576 _ e1) (nd (rfl : (0 : Nat) = 0) (nd (rfl : a0.length = a0.length) (nd c1 (nd (laws.toStringS.spec K a0 _ e2) (nd (rfl : (0 : Nat) = 0) (nd (rfl : a0.length = a0.length) (nd (spec.NodeAt.spec K x2 a1 _ e3) (nd (rfl : (0 : Nat) = 0) (nd (rfl : x2.length = x2.length) (nd (laws.toStringS.spec K a0 _ e4) (nd (rfl : (0 : Nat) = 0) (nd (rfl : a0.length = a0.length) (nd (impl.NodeAt.spec K x4 a1 _ e5) (nd (rfl : (0 : Nat) = 0) (nd (rfl : x4.length = x4.length) (nd (laws.eqNode.spec K x5.1 x5.2.1 x5.2.2.1 x5.2.2.2.1 x3.1 x3.2.1 x3.2.2.1 x3.2.2.2.1 _ e6) (nd (nf c2) (nd (nf c2) (nd (nf c2) (nd (nf c2) (nd (nf c3) (nd (laws.toStringS.spec K a0 _ e7) (nd (rfl : (0 : Nat) = 0) (nd (rfl : a0.length = a0.length) (nd (laws.eqStringS.spec K x4 x7 _ e8) (nd (rfl : (0 : Nat) = 0) (nd (rfl : x4.length = x4.length) (nd (rfl : (0 : Nat) = 0) (nd (rfl : x7.length = x7.length) (nd (nf c4) (nd (laws.markStringS.spec K x4 1 _ e9) (nd c5 (nd c5 (nd c5 (nd (laws.eqNode.spec K x5.1 x5.2.1 x5.2.2.1 x5.2.2.2.1 x3.1 x3.2.1 x3.2.2.1 x3.2.2.2.1 _ e10) (nd c5 (nd c5 (nd (nf c6) (nd (nf c6) (nd (nf c6) (nd (nf c6) (nd (nf c3) (nd (laws.markNode.spec K x5.1 x5.2.1 x5.2.2.1 x5.2.2.2.1 1 _ e11) (nd (laws.heldNode.spec K x5.1 x11.2.1 x5.2.1.length x11.2.2 x5.2.2.1.length x5.2.2.2.1 1 _ e12) (nd c7 (nd c8 (nd (laws.toStringS.spec K a0 _ e13) (nd (rfl : (0 : Nat) = 0) (nd (rfl : a0.length = a0.length) (nd (impl.NodeAt.spec K x13 a1 _ e14) (nd (rfl : (0 : Nat) = 0) (nd (rfl : x13.length = x13.length) (nd (laws.eqNode.spec K x14.1 x14.2.1 x14.2.2.1 x14.2.2.2.1 x3.1 x3.2.1 x3.2.2.1 x3.2.2.2.1 _ e15) (nd (nt c9) (nd (nt c9) (nd (nt c9) (nd (nt c9) (nd tt trivial))))))))))))))))))))))))))))))))))))))))))))))))))))))))))) (by kernel_rfl)
            · obtain rfl := Option.some.inj h
              exact Den.Spec.of_walk tab mixed Try.func10 (by kernel_rfl) [.call [] [(0, true)] (one (.int .i64 x1)) [some ⟨false, .strs a0⟩], .br false, .call [] [(0, true)] (one (.sl 1 0 x2.length)) [some ⟨false, .strs a0⟩, some ⟨true, .strs x2⟩], .call [] [(0, true)] (.tup [.agg [.bool x3.1, .sl 1 0 x3.2.1.length, .sl 2 0 x3.2.2.1.length, .str x3.2.2.2.1], .c (.bool x3.2.2.2.2)]) [some ⟨false, .strs x2⟩, some ⟨true, .strs x3.2.1⟩, some ⟨true, .ints .i64 x3.2.2.1⟩], .call [] [(0, true)] (one (.sl 1 0 x4.length)) [some ⟨false, .strs a0⟩, some ⟨true, .strs x4⟩], .call [] [(0, true)] (.tup [.agg [.bool x5.1, .sl 1 0 x5.2.1.length, .sl 2 0 x5.2.2.1.length, .str x5.2.2.2.1], .c (.bool x5.2.2.2.2)]) [some ⟨false, .strs x4⟩, some ⟨true, .strs x5.2.1⟩, some ⟨true, .ints .i64 x5.2.2.1⟩], .call [(8, false), (9, false), (2, false), (3, false)] [] (one (.bool x6)) [some ⟨false, .strs x5.2.1⟩, some ⟨false, .ints .i64 x5.2.2.1⟩, some ⟨false, .strs x3.2.1⟩, some ⟨false, .ints .i64 x3.2.2.1⟩], .br false, .br false, .br false, .br false, .br false, .call [] [(0, true)] (one (.sl 1 0 x7.length)) [some ⟨false, .strs a0⟩, some ⟨true, .strs x7⟩], .call [] [(0, true), (1, true)] (one (.bool x8)) [some ⟨false, .strs x4⟩, some ⟨false, .strs x7⟩], .br false, .call [(7, true)] [] (one (.int .i64 x9.1)) [some ⟨true, .strs x9.2⟩], .br false, .br false, .br false, .call [(8, false), (9, false), (2, false), (3, false)] [] (one (.bool x10)) [some ⟨false, .strs x5.2.1⟩, some ⟨false, .ints .i64 x5.2.2.1⟩, some ⟨false, .strs x3.2.1⟩, some ⟨false, .ints .i64 x3.2.2.1⟩], .br false, .br false, .br true, .br true, .br true, .br true, .br true] [] [0] (nd (laws.szStringS.spec K a0 1048576 _ e1) (nd (rfl : (0 : Nat) = 0) (nd (rfl : a0.length = a0.length) (nd c1 (nd (laws.toStringS.spec K a0 _ e2) (nd (rfl : (0 : Nat) = 0) (nd (rfl : a0.length = a0.length) (nd (spec.NodeAt.spec K x2 a1 _ e3) (nd (rfl : (0 : Nat) = 0) (nd (rfl : x2.length = x2.length) (nd (laws.toStringS.spec K a0 _ e4) (nd (rfl : (0 : Nat) = 0) (nd (rfl : a0.length = a0.length) (nd (impl.NodeAt.spec K x4 a1 _ e5) (nd (rfl : (0 : Nat) = 0) (nd (rfl : x4.length = x4.length) (nd (laws.eqNode.spec K x5.1 x5.2.1 x5.2.2.1 x5.2.2.2.1 x3.1 x3.2.1 x3.2.2.1 x3.2.2.2.1 _ e6) (nd (nf c2) (nd (nf c2) (nd (nf c2) (nd (nf c2) (nd (nf c3) (nd (laws.toStringS.spec K a0 _ e7) (nd (rfl : (0 : Nat) = 0) (nd (rfl : a0.length = a0.length) (nd (laws.eqStringS.spec K x4 x7 _ e8) (nd (rfl : (0 : Nat) = 0) (nd (rfl : x4.length = x4.length) (nd (rfl : (0 : Nat) = 0) (nd (rfl : x7.length = x7.length) (nd (nf c4) (nd (laws.markStringS.spec K x4 1 _ e9) (nd c5 (nd c5 (nd c5 (nd (laws.eqNode.spec K x5.1 x5.2.1 x5.2.2.1 x5.2.2.2.1 x3.1 x3.2.1 x3.2.2.1 x3.2.2.2.1 _ e10) (nd c5 (nd c5 (nd (nt c6) (nd (nt c6) (nd (nt c6) (nd (nt c6) (nd tt trivial))))))))))))))))))))))))))))))))))))))))))) (by kernel_rfl)
        · obtain rfl := Option.some.inj h
          exact Den.Spec.of_walk tab mixed Try.func10 (by kernel_rfl) [.call [] [(0, true)] (one (.int .i64 x1)) [some ⟨false, .strs a0⟩], .br false, .call [] [(0, true)] (one (.sl 1 0 x2.length)) [some ⟨false, .strs a0⟩, some ⟨true, .strs x2⟩], .call [] [(0, true)] (.tup [.agg [.bool x3.1, .sl 1 0 x3.2.1.length, .sl 2 0 x3.2.2.1.length, .str x3.2.2.2.1], .c (.bool x3.2.2.2.2)]) [some ⟨false, .strs x2⟩, some ⟨true, .strs x3.2.1⟩, some ⟨true, .ints .i64 x3.2.2.1⟩], .call [] [(0, true)] (one (.sl 1 0 x4.length)) [some ⟨false, .strs a0⟩, some ⟨true, .strs x4⟩], .call [] [(0, true)] (.tup [.agg [.bool x5.1, .sl 1 0 x5.2.1.length, .sl 2 0 x5.2.2.1.length, .str x5.2.2.2.1], .c (.bool x5.2.2.2.2)]) [some ⟨false, .strs x4⟩, some ⟨true, .strs x5.2.1⟩, some ⟨true, .ints .i64 x5.2.2.1⟩], .call [(8, false), (9, false), (2, false), (3, false)] [] (one (.bool x6)) [some ⟨false, .strs x5.2.1⟩, some ⟨false, .ints .i64 x5.2.2.1⟩, some ⟨false, .strs x3.2.1⟩, some ⟨false, .ints .i64 x3.2.2.1⟩], .br false, .br false, .br false, .br false, .br false, .call [] [(0, true)] (one (.sl 1 0 x7.length)) [some ⟨false, .strs a0⟩, some ⟨true, .strs x7⟩], .call [] [(0, true), (1, true)] (one (.bool x8)) [some ⟨false, .strs x4⟩, some ⟨false, .strs x7⟩], .br true] [] [0] (nd (laws.szStringS.spec K a0 1048576 _ e1) (nd (rfl : (0 : Nat) = 0) (nd (rfl : a0.length = a0.length) (nd c1 (nd (laws.toStringS.spec K a0 _ e2) (nd (rfl : (0 : Nat) = 0) (nd (rfl : a0.length = a0.length) (nd (spec.NodeAt.spec K x2 a1 _ e3) (nd (rfl : (0 : Nat) = 0) (nd (rfl : x2.length = x2.length) (nd (laws.toStringS.spec K a0 _ e4) (nd (rfl : (0 : Nat) = 0) (nd (rfl : a0.length = a0.length) (nd (impl.NodeAt.spec K x4 a1 _ e5) (nd (rfl : (0 : Nat) = 0) (nd (rfl : x4.length = x4.length) (nd (laws.eqNode.spec K x5.1 x5.2.1 x5.2.2.1 x5.2.2.2.1 x3.1 x3.2.1 x3.2.2.1 x3.2.2.2.1 _ e6) (nd (nf c2) (nd (nf c2) (nd (nf c2) (nd (nf c2) (nd (nf c3) (nd (laws.toStringS.spec K a0 _ e7) (nd (rfl : (0 : Nat) = 0) (nd (rfl : a0.length = a0.length) (nd (laws.eqStringS.spec K x4 x7 _ e8) (nd (rfl : (0 : Nat) = 0) (nd (rfl : x4.length = x4.length) (nd (rfl : (0 : Nat) = 0) (nd (rfl : x7.length = x7.length) (nd (nt c4) trivial))))))))))))))))))))))))))))))) (by kernel_rfl)
      · obtain rfl := Option.some.inj h
        exact Den.Spec.of_walk tab mixed Try.func10 (by kernel_rfl) [.call [] [(0, true)] (one (.int .i64 x1)) [some ⟨false, .strs a0⟩], .br false, .call [] [(0, true)] (one (.sl 1 0 x2.length)) [some ⟨false, .strs a0⟩, some ⟨true, .strs x2⟩], .call [] [(0, true)] (.tup [.agg [.bool x3.1, .sl 1 0 x3.2.1.length, .sl 2 0 x3.2.2.1.length, .str x3.2.2.2.1], .c (.bool x3.2.2.2.2)]) [some ⟨false, .strs x2⟩, some ⟨true, .strs x3.2.1⟩, some ⟨true, .ints .i64 x3.2.2.1⟩], .call [] [(0, true)] (one (.sl 1 0 x4.length)) [some ⟨false, .strs a0⟩, some ⟨true, .strs x4⟩], .call [] [(0, true)] (.tup [.agg [.bool x5.1, .sl 1 0 x5.2.1.length, .sl 2 0 x5.2.2.1.length, .str x5.2.2.2.1], .c (.bool x5.2.2.2.2)]) [some ⟨false, .strs x4⟩, some ⟨true, .strs x5.2.1⟩, some ⟨true, .ints .i64 x5.2.2.1⟩], .call [(8, false), (9, false), (2, false), (3, false)] [] (one (.bool x6)) [some ⟨false, .strs x5.2.1⟩, some ⟨false, .ints .i64 x5.2.2.1⟩, some ⟨false, .strs x3.2.1⟩, some ⟨false, .ints .i64 x3.2.2.1⟩], .br false, .br false, .br false, .br false, .br true] [] [0] (nd (laws.szStringS.spec K a0 1048576 _ e1) (nd (rfl : (0 : Nat) = 0) (nd (rfl : a0.length = a0.length) (nd c1 (nd (laws.toStringS.spec K a0 _ e2) (nd (rfl : (0 : Nat) = 0) (nd (rfl : a0.length = a0.length) (nd (spec.NodeAt.spec K x2 a1 _ e3) (nd (rfl : (0 : Nat) = 0) (nd (rfl : x2.length = x2.length) (nd (laws.toStringS.spec K a0 _ e4) (nd (rfl : (0 : Nat) = 0) (nd (rfl : a0.length = a0.length) (nd (impl.NodeAt.spec K x4 a1 _ e5) (nd (rfl : (0 : Nat) = 0) (nd (rfl : x4.length = x4.length) (nd (laws.eqNode.spec K x5.1 x5.2.1 x5.2.2.1 x5.2.2.2.1 x3.1 x3.2.1 x3.2.2.1 x3.2.2.2.1 _ e6) (nd (nf c2) (nd (nf c2) (nd (nf c2) (nd (nf c2) (nd (nt c3) trivial)))))))))))))))))))))) (by kernel_rfl)
    · obtain rfl := Option.some.inj h
      exact Den.Spec.of_walk tab mixed Try.func10 (by kernel_rfl) [.call [] [(0, true)] (one (.int .i64 x1)) [some ⟨false, .strs a0⟩], .br false, .call [] [(0, true)] (one (.sl 1 0 x2.length)) [some ⟨false, .strs a0⟩, some ⟨true, .strs x2⟩], .call [] [(0, true)] (.tup [.agg [.bool x3.1, .sl 1 0 x3.2.1.length, .sl 2 0 x3.2.2.1.length, .str x3.2.2.2.1], .c (.bool x3.2.2.2.2)]) [some ⟨false, .strs x2⟩, some ⟨true, .strs x3.2.1⟩, some ⟨true, .ints .i64 x3.2.2.1⟩], .call [] [(0, true)] (one (.sl 1 0 x4.length)) [some ⟨false, .strs a0⟩, some ⟨true, .strs x4⟩], .call [] [(0, true)] (.tup [.agg [.bool x5.1, .sl 1 0 x5.2.1.length, .sl 2 0 x5.2.2.1.length, .str x5.2.2.2.1], .c (.bool x5.2.2.2.2)]) [some ⟨false, .strs x4⟩, some ⟨true, .strs x5.2.1⟩, some ⟨true, .ints .i64 x5.2.2.1⟩], .call [(8, false), (9, false), (2, false), (3, false)] [] (one (.bool x6)) [some ⟨false, .strs x5.2.1⟩, some ⟨false, .ints .i64 x5.2.2.1⟩, some ⟨false, .strs x3.2.1⟩, some ⟨false, .ints .i64 x3.2.2.1⟩], .br true, .br true, .br true, .br true, .br true] [] [0] (nd (laws.szStringS.spec K a0 1048576 _ e1) (nd (rfl : (0 : Nat) = 0) (nd (rfl : a0.length = a0.length) (nd c1 (nd (laws.toStringS.spec K a0 _ e2) (nd (rfl : (0 : Nat) = 0) (nd (rfl : a0.length = a0.length) (nd (spec.NodeAt.spec K x2 a1 _ e3) (nd (rfl : (0 : Nat) = 0) (nd (rfl : x2.length = x2.length) (nd (laws.toStringS.spec K a0 _ e4) (nd (rfl : (0 : Nat) = 0) (nd (rfl : a0.length = a0.length) (nd (impl.NodeAt.spec K x4 a1 _ e5) (nd (rfl : (0 : Nat) = 0) (nd (rfl : x4.length = x4.length) (nd (laws.eqNode.spec K x5.1 x5.2.1 x5.2.2.1 x5.2.2.2.1 x3.1 x3.2.1 x3.2.2.1 x3.2.2.2.1 _ e6) (nd (nt c2) (nd (nt c2) (nd (nt c2) (nd (nt c2) (nd tt trivial)))))))))))))))))))))) (by kernel_rfl)
end Go.Proofs.Ythneilmhnbboeaa.GFnExactNodeAt
