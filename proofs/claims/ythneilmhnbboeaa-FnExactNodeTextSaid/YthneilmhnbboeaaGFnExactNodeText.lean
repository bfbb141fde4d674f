import Derived.Test.YthneilmhnbboeaaDenZ
import Derived.Test.YthneilmhnbboeaaProg
namespace Go.Proofs.Ythneilmhnbboeaa.GFnExactNodeText
open Go Go.RowKit Go.Proofs Go.Proofs.Ythneilmhnbboeaa.Den
set_option linter.unusedVariables false
def tyL : List (Nat × Ty) := [(3, ⟨1, 8, false, [.int .i64 0], .ints .i64, .int .i64, []⟩),
  (4, ⟨1, 1, false, [.bool false], .bools, .bool, []⟩),
  (5, ⟨1, 1, false, [.int .u8 0], .ints .u8, .int .u8, []⟩),
  (9, ⟨1, 16, false, [.str ⟨#[]⟩], .strs, .str, []⟩),
  (28, ⟨1, 24, false, [.nil], .refs, .sl 5, [.ints .u8]⟩),
  (42, ⟨1, 24, false, [.nil], .refs, .sl 9, [.strs]⟩),
  (43, ⟨1, 24, false, [.nil], .refs, .sl 3, [.ints .i64]⟩),
  (45, ⟨4, 72, true, [.bool false, .nil, .nil, .str ⟨#[]⟩], .none, .st [(0, 1), (1, 1), (2, 1), (3, 1)], [.none, .strs, .ints .i64, .none]⟩),
  (48, ⟨4, 72, true, [.bool false, .nil, .nil, .str ⟨#[]⟩], .none, .st [(0, 1), (1, 1), (2, 1), (3, 1)], [.none, .strs, .ints .i64, .none]⟩)]
def tb : TypeId → Option Ty := tbOf tyL
theorem tab : TabOk Try.prog tb := TabOk.of ⟨.of (by kernel_rfl) rfl rfl (by kernel_rfl) (by show _ = _; kernel_rfl),
  .of (by kernel_rfl) rfl rfl (by kernel_rfl) (by show _ = _; kernel_rfl),
  .of (by kernel_rfl) rfl rfl (by kernel_rfl) (by show _ = _; kernel_rfl),
  .of (by kernel_rfl) rfl rfl (by kernel_rfl) (by show _ = _; kernel_rfl),
  .of (by kernel_rfl) rfl rfl (by kernel_rfl) (by show _ = _; kernel_rfl),
  .of (by kernel_rfl) rfl rfl (by kernel_rfl) (by show _ = _; kernel_rfl),
  .of (by kernel_rfl) rfl rfl (by kernel_rfl) (by show _ = _; kernel_rfl),
  .of (by kernel_rfl) rfl rfl (by kernel_rfl) (by show _ = _; kernel_rfl),
  .of (by kernel_rfl) rfl rfl (by kernel_rfl) (by show _ = _; kernel_rfl), trivial⟩
theorem mixed : Try.prog.follows .mixedOrders = true := by kernel_rfl
def laws.szStringS.l0.f (a0 : List ByteArray) : Nat → Int → Int → Option (Unit ⊕ Int)
  | 0, _, _ => none
  | k + 1, v2_0, v2_1 =>
    cond (decide (v2_1 < (a0.length : Int))) (ck (0 ≤ v2_1) (cond (decide ((w64 (v2_0 - ((a0.getD v2_1.toNat noVal).size : Int))) < 0)) (some (.inl ())) (laws.szStringS.l0.f a0 k (w64 (v2_0 - ((a0.getD v2_1.toNat noVal).size : Int))) (w64 (v2_1 + 1))))) (some (.inr (v2_0)))
def laws.szStringS.l0.s (a0 : List ByteArray) (v2_0 : Int) (v2_1 : Int) : St := mkSt 28 [(0, one (.sl 0 0 a0.length)), (1, one (.int .i64 v2_0)), (5, one (.int .i64 v2_1))] [some ⟨false, .strs a0⟩]
def laws.szStringS.l0.e0 (a0 : List ByteArray) (o : Unit) : St := mkSt 28 [(4, one (.int .i64 (-1)))] [some ⟨false, .strs a0⟩]
def laws.szStringS.l0.e1 (a0 : List ByteArray) (o : Int) : St := mkSt 28 [(1, one (.int .i64 o))] [some ⟨false, .strs a0⟩]
def laws.szStringS.l0.x (a0 : List ByteArray) : (Unit ⊕ Int) → AExit × St := Sum.elim (fun o => (.ret, laws.szStringS.l0.e0 a0 o)) (fun o => (.exit 0, laws.szStringS.l0.e1 a0 o))
theorem laws.szStringS.l0.spec (a0 : List ByteArray) : ∀ (k : Nat) (v2_0 : Int) (v2_1 : Int) (o : Unit ⊕ Int), laws.szStringS.l0.f a0 k v2_0 v2_1 = some o → LoopSpec Try.prog 1 (loopN Try.f60 0) (laws.szStringS.l0.s a0 v2_0 v2_1) (laws.szStringS.l0.x a0 o).1 (laws.szStringS.l0.x a0 o).2
  | 0, _, _, _, h => by cases h
  | k + 1, v2_0, v2_1, o, h => by
    unfold laws.szStringS.l0.f at h
    rcases br_cases h with ⟨c1, h⟩ | ⟨c1, h⟩
    · obtain ⟨p1, h⟩ := ck_some h
      rcases br_cases h with ⟨c2, h⟩ | ⟨c2, h⟩
      · obtain rfl := Option.some.inj h
        exact .of_done tab mixed [.br true, .br true] [] [4] [0] rfl (nd c1 (nd p1 (nd (of_decide_eq_true c1) (nd (tn p1 (of_decide_eq_true c1)) (nd c2 trivial))))) (by kernel_rfl)
      · exact .of_step tab mixed [.br true, .br false] [] [0, 1, 5] [0] (s1 := laws.szStringS.l0.s a0 (w64 (v2_0 - ((a0.getD v2_1.toNat noVal).size : Int))) (w64 (v2_1 + 1))) (nd c1 (nd p1 (nd (of_decide_eq_true c1) (nd (tn p1 (of_decide_eq_true c1)) (nd c2 trivial))))) (by kernel_rfl) (laws.szStringS.l0.spec a0 k (w64 (v2_0 - ((a0.getD v2_1.toNat noVal).size : Int))) (w64 (v2_1 + 1)) _ h)
    · obtain rfl := Option.some.inj h
      exact .of_done tab mixed [.br false] [] [1] [0] rfl (nd c1 trivial) (by kernel_rfl)
def laws.szStringS.f (K : Nat) (a0 : List ByteArray) (a1 : Int) : Option (Int) :=
  cond (decide ((w64 (a1 - (a0.length : Int))) < 0)) (some (-1)) (Option.bind (laws.szStringS.l0.f a0 K (w64 (a1 - (a0.length : Int))) 0) fun x1 => (Sum.elim (fun x1 => some (-1)) (fun x1 => some x1)) x1)
theorem laws.szStringS.spec (K : Nat) (a0 : List ByteArray) (a1 : Int) (o : Int) (h : laws.szStringS.f K a0 a1 = some o) : Den.Spec Try.prog 60 [one (.sl 0 0 a0.length), one (.int .i64 a1)] [some ⟨false, .strs a0⟩] (one (.int .i64 o)) [some ⟨false, .strs a0⟩] := by
  unfold laws.szStringS.f at h
  rcases br_cases h with ⟨c1, h⟩ | ⟨c1, h⟩
  · obtain rfl := Option.some.inj h
    exact Den.Spec.of_walk tab mixed Try.func60 (by kernel_rfl) [.br true] [] [0] (nd c1 trivial) (by kernel_rfl)
  · obtain ⟨x1, e1, h⟩ := bind_some h
    rcases x1 with x1 | x1
    · obtain rfl := Option.some.inj h
      exact Den.Spec.of_walk tab mixed Try.func60 (by kernel_rfl) [.br false, .loop [] [0, 1, 5] [0] (.ret) (laws.szStringS.l0.e0 a0 x1)] [] [0] (nd c1 (nd (laws.szStringS.l0.spec a0 K (w64 (a1 - (a0.length : Int))) 0 _ e1) trivial)) (by kernel_rfl)
    · obtain rfl := Option.some.inj h
      exact Den.Spec.of_walk tab mixed Try.func60 (by kernel_rfl) [.br false, .loop [] [0, 1, 5] [0] (.exit 0) (laws.szStringS.l0.e1 a0 x1)] [] [0] (nd c1 (nd (laws.szStringS.l0.spec a0 K (w64 (a1 - (a0.length : Int))) 0 _ e1) trivial)) (by kernel_rfl)
def laws.szIntS.f (a0 : List Int) (a1 : Int) : Option (Int) :=
  cond (decide ((w64 (a1 - (a0.length : Int))) < 0)) (some (-1)) (some (w64 (a1 - (a0.length : Int))))
theorem laws.szIntS.spec (a0 : List Int) (a1 : Int) (o : Int) (h : laws.szIntS.f a0 a1 = some o) : Den.Spec Try.prog 93 [one (.sl 0 0 a0.length), one (.int .i64 a1)] [some ⟨false, .ints .i64 a0⟩] (one (.int .i64 o)) [some ⟨false, .ints .i64 a0⟩] := by
  unfold laws.szIntS.f at h
  rcases br_cases h with ⟨c1, h⟩ | ⟨c1, h⟩
  · obtain rfl := Option.some.inj h
    exact Den.Spec.of_walk tab mixed Try.func93 (by kernel_rfl) [.br true] [] [0] (nd c1 trivial) (by kernel_rfl)
  · obtain rfl := Option.some.inj h
    exact Den.Spec.of_walk tab mixed Try.func93 (by kernel_rfl) [.br false] [] [0] (nd c1 trivial) (by kernel_rfl)
def laws.szNode.f (K : Nat) (a0 : Bool) (a1 : List ByteArray) (a2 : List Int) (a3 : ByteArray) (a4 : Int) : Option (Int) :=
  Option.bind (laws.szStringS.f K a1 a4) fun x1 => cond (decide (x1 < 0)) (some (-1)) (Option.bind (laws.szIntS.f a2 x1) fun x2 => cond (decide (x2 < 0)) (some (-1)) (cond (decide ((w64 (x2 - (a3.size : Int))) < 0)) (some (-1)) (some (w64 (x2 - (a3.size : Int))))))
theorem laws.szNode.spec (K : Nat) (a0 : Bool) (a1 : List ByteArray) (a2 : List Int) (a3 : ByteArray) (a4 : Int) (o : Int) (h : laws.szNode.f K a0 a1 a2 a3 a4 = some o) : Den.Spec Try.prog 35 [.v (.agg [.bool a0, .sl 0 0 a1.length, .sl 1 0 a2.length, .str a3]), one (.int .i64 a4)] [some ⟨false, .strs a1⟩, some ⟨false, .ints .i64 a2⟩] (one (.int .i64 o)) [some ⟨false, .strs a1⟩, some ⟨false, .ints .i64 a2⟩] := by
  unfold laws.szNode.f at h
  obtain ⟨x1, e1, h⟩ := bind_some h
  rcases br_cases h with ⟨c1, h⟩ | ⟨c1, h⟩
  · obtain rfl := Option.some.inj h
    exact Den.Spec.of_walk tab mixed Try.func35 (by kernel_rfl) [.call [] [(0, true)] (one (.int .i64 x1)) [some ⟨false, .strs a1⟩], .br true] [] [0, 1] (nd (laws.szStringS.spec K a1 a4 _ e1) (nd (rfl : (0 : Nat) = 0) (nd (rfl : a1.length = a1.length) (nd c1 trivial)))) (by kernel_rfl)
  · obtain ⟨x2, e2, h⟩ := bind_some h
    rcases br_cases h with ⟨c2, h⟩ | ⟨c2, h⟩
    · obtain rfl := Option.some.inj h
      exact Den.Spec.of_walk tab mixed Try.func35 (by kernel_rfl) [.call [] [(0, true)] (one (.int .i64 x1)) [some ⟨false, .strs a1⟩], .br false, .call [] [(0, true)] (one (.int .i64 x2)) [some ⟨false, .ints .i64 a2⟩], .br true] [] [0, 1] (nd (laws.szStringS.spec K a1 a4 _ e1) (nd (rfl : (0 : Nat) = 0) (nd (rfl : a1.length = a1.length) (nd c1 (nd (laws.szIntS.spec a2 x1 _ e2) (nd (rfl : (0 : Nat) = 0) (nd (rfl : a2.length = a2.length) (nd c2 trivial)))))))) (by kernel_rfl)
    · rcases br_cases h with ⟨c3, h⟩ | ⟨c3, h⟩
      · obtain rfl := Option.some.inj h
        exact Den.Spec.of_walk tab mixed Try.func35 (by kernel_rfl) [.call [] [(0, true)] (one (.int .i64 x1)) [some ⟨false, .strs a1⟩], .br false, .call [] [(0, true)] (one (.int .i64 x2)) [some ⟨false, .ints .i64 a2⟩], .br false, .br true] [] [0, 1] (nd (laws.szStringS.spec K a1 a4 _ e1) (nd (rfl : (0 : Nat) = 0) (nd (rfl : a1.length = a1.length) (nd c1 (nd (laws.szIntS.spec a2 x1 _ e2) (nd (rfl : (0 : Nat) = 0) (nd (rfl : a2.length = a2.length) (nd c2 (nd c3 trivial))))))))) (by kernel_rfl)
      · obtain rfl := Option.some.inj h
        exact Den.Spec.of_walk tab mixed Try.func35 (by kernel_rfl) [.call [] [(0, true)] (one (.int .i64 x1)) [some ⟨false, .strs a1⟩], .br false, .call [] [(0, true)] (one (.int .i64 x2)) [some ⟨false, .ints .i64 a2⟩], .br false, .br false] [] [0, 1] (nd (laws.szStringS.spec K a1 a4 _ e1) (nd (rfl : (0 : Nat) = 0) (nd (rfl : a1.length = a1.length) (nd c1 (nd (laws.szIntS.spec a2 x1 _ e2) (nd (rfl : (0 : Nat) = 0) (nd (rfl : a2.length = a2.length) (nd c2 (nd c3 trivial))))))))) (by kernel_rfl)
def laws.toStringS.l0.f (a0 : List ByteArray) : Nat → (List ByteArray) → Int → Option ((List ByteArray))
  | 0, _, _ => none
  | k + 1, v7_0, v7_1 =>
    cond (decide (v7_1 < (a0.length : Int))) (ck (0 ≤ v7_1) (ck (v7_1 < (v7_0.length : Int)) (laws.toStringS.l0.f a0 k (v7_0.set v7_1.toNat (a0.getD v7_1.toNat noVal)) (w64 (v7_1 + 1))))) (some v7_0)
def laws.toStringS.l0.s (a0 : List ByteArray) (v7_0 : List ByteArray) (v7_1 : Int) : St := mkSt 22 [(0, one (.sl 0 0 a0.length)), (3, one (.sl 1 0 v7_0.length)), (4, one (.int .i64 v7_1))] [some ⟨false, .strs a0⟩, some ⟨true, .strs v7_0⟩]
def laws.toStringS.l0.e0 (a0 : List ByteArray) (o : (List ByteArray)) : St := mkSt 22 [(3, one (.sl 1 0 o.length))] [some ⟨false, .strs a0⟩, some ⟨true, .strs o⟩]
def laws.toStringS.l0.x (a0 : List ByteArray) : ((List ByteArray)) → AExit × St := fun o => (.exit 0, laws.toStringS.l0.e0 a0 o)
theorem laws.toStringS.l0.spec (a0 : List ByteArray) : ∀ (k : Nat) (v7_0 : List ByteArray) (v7_1 : Int) (o : (List ByteArray)), laws.toStringS.l0.f a0 k v7_0 v7_1 = some o → LoopSpec Try.prog 1 (loopN Try.f62 0) (laws.toStringS.l0.s a0 v7_0 v7_1) (laws.toStringS.l0.x a0 o).1 (laws.toStringS.l0.x a0 o).2
  | 0, _, _, _, h => by cases h
  | k + 1, v7_0, v7_1, o, h => by
    unfold laws.toStringS.l0.f at h
    rcases br_cases h with ⟨c1, h⟩ | ⟨c1, h⟩
    · obtain ⟨p1, h⟩ := ck_some h
      obtain ⟨p2, h⟩ := ck_some h
      exact .of_step tab mixed [.br true] [] [0, 3, 4] [0, 1] (s1 := mkSt 22 [(0, one (.sl 0 0 a0.length)), (3, one (.sl 1 0 v7_0.length)), (4, one (.int .i64 (w64 (v7_1 + 1))))] [some ⟨false, .strs a0⟩, some ⟨true, .strs (v7_0.set v7_1.toNat (a0.getD v7_1.toNat noVal))⟩]) (nd c1 (nd p1 (nd (of_decide_eq_true c1) (nd (tn p1 (of_decide_eq_true c1)) (nd p1 (nd p2 (nd (tn p1 p2) trivial))))))) (by kernel_rfl) (LoopSpec.eqs (laws.toStringS.l0.spec a0 k (v7_0.set v7_1.toNat (a0.getD v7_1.toNat noVal)) (w64 (v7_1 + 1)) _ h) (by simp only [laws.toStringS.l0.s, List.length_set] : laws.toStringS.l0.s a0 (v7_0.set v7_1.toNat (a0.getD v7_1.toNat noVal)) (w64 (v7_1 + 1)) = mkSt 22 [(0, one (.sl 0 0 a0.length)), (3, one (.sl 1 0 v7_0.length)), (4, one (.int .i64 (w64 (v7_1 + 1))))] [some ⟨false, .strs a0⟩, some ⟨true, .strs (v7_0.set v7_1.toNat (a0.getD v7_1.toNat noVal))⟩]))
    · obtain rfl := Option.some.inj h
      exact .of_done tab mixed [.br false] [] [3] [0, 1] rfl (nd c1 trivial) (by kernel_rfl)
def laws.toStringS.f (K : Nat) (a0 : List ByteArray) : Option ((List ByteArray)) :=
  ck (((a0.length : Int) * (16 : Int)) ≤ 70368744177664) (Option.bind (laws.toStringS.l0.f a0 K (List.replicate a0.length noVal) 0) fun x1 => some x1)
theorem laws.toStringS.spec (K : Nat) (a0 : List ByteArray) (o : (List ByteArray)) (h : laws.toStringS.f K a0 = some o) : Den.Spec Try.prog 62 [one (.sl 0 0 a0.length)] [some ⟨false, .strs a0⟩] (one (.sl 1 0 o.length)) [some ⟨false, .strs a0⟩, some ⟨true, .strs o⟩] := by
  unfold laws.toStringS.f at h
  obtain ⟨p1, h⟩ := ck_some h
  obtain ⟨x1, e1, h⟩ := bind_some h
  obtain rfl := Option.some.inj h
  exact Den.Spec.of_walk tab mixed Try.func62 (by kernel_rfl) [.loop [] [0, 3, 4] [0, 1] (.exit 0) (laws.toStringS.l0.e0 a0 x1)] [] [0, 1] (nd (Int.natCast_nonneg a0.length) (nd (rfl : (a0.length : Int) = (a0.length : Int)) (nd p1 (nd (laws.toStringS.l0.spec a0 K (List.replicate a0.length noVal) 0 _ e1) trivial)))) (by kernel_rfl)
def laws.toIntS.l0.f (a0 : List Int) : Nat → (List Int) → Int → Option ((List Int))
  | 0, _, _ => none
  | k + 1, v10_0, v10_1 =>
    cond (decide (v10_1 < (a0.length : Int))) (ck (0 ≤ v10_1) (ck (v10_1 < (v10_0.length : Int)) (laws.toIntS.l0.f a0 k (v10_0.set v10_1.toNat (a0.getD v10_1.toNat 0)) (w64 (v10_1 + 1))))) (some v10_0)
def laws.toIntS.l0.s (a0 : List Int) (v10_0 : List Int) (v10_1 : Int) : St := mkSt 22 [(0, one (.sl 0 0 a0.length)), (3, one (.sl 1 0 v10_0.length)), (4, one (.int .i64 v10_1))] [some ⟨false, .ints .i64 a0⟩, some ⟨true, .ints .i64 v10_0⟩]
def laws.toIntS.l0.e0 (a0 : List Int) (o : (List Int)) : St := mkSt 22 [(3, one (.sl 1 0 o.length))] [some ⟨false, .ints .i64 a0⟩, some ⟨true, .ints .i64 o⟩]
def laws.toIntS.l0.x (a0 : List Int) : ((List Int)) → AExit × St := fun o => (.exit 0, laws.toIntS.l0.e0 a0 o)
theorem laws.toIntS.l0.spec (a0 : List Int) : ∀ (k : Nat) (v10_0 : List Int) (v10_1 : Int) (o : (List Int)), laws.toIntS.l0.f a0 k v10_0 v10_1 = some o → LoopSpec Try.prog 1 (loopN Try.f95 0) (laws.toIntS.l0.s a0 v10_0 v10_1) (laws.toIntS.l0.x a0 o).1 (laws.toIntS.l0.x a0 o).2
  | 0, _, _, _, h => by cases h
  | k + 1, v10_0, v10_1, o, h => by
    unfold laws.toIntS.l0.f at h
    rcases br_cases h with ⟨c1, h⟩ | ⟨c1, h⟩
    · obtain ⟨p1, h⟩ := ck_some h
      obtain ⟨p2, h⟩ := ck_some h
      exact .of_step tab mixed [.br true] [] [0, 3, 4] [0, 1] (s1 := mkSt 22 [(0, one (.sl 0 0 a0.length)), (3, one (.sl 1 0 v10_0.length)), (4, one (.int .i64 (w64 (v10_1 + 1))))] [some ⟨false, .ints .i64 a0⟩, some ⟨true, .ints .i64 (v10_0.set v10_1.toNat (a0.getD v10_1.toNat 0))⟩]) (nd c1 (nd p1 (nd (of_decide_eq_true c1) (nd (tn p1 (of_decide_eq_true c1)) (nd p1 (nd p2 (nd (tn p1 p2) trivial))))))) (by kernel_rfl) (LoopSpec.eqs (laws.toIntS.l0.spec a0 k (v10_0.set v10_1.toNat (a0.getD v10_1.toNat 0)) (w64 (v10_1 + 1)) _ h) (by simp only [laws.toIntS.l0.s, List.length_set] : laws.toIntS.l0.s a0 (v10_0.set v10_1.toNat (a0.getD v10_1.toNat 0)) (w64 (v10_1 + 1)) = mkSt 22 [(0, one (.sl 0 0 a0.length)), (3, one (.sl 1 0 v10_0.length)), (4, one (.int .i64 (w64 (v10_1 + 1))))] [some ⟨false, .ints .i64 a0⟩, some ⟨true, .ints .i64 (v10_0.set v10_1.toNat (a0.getD v10_1.toNat 0))⟩]))
    · obtain rfl := Option.some.inj h
      exact .of_done tab mixed [.br false] [] [3] [0, 1] rfl (nd c1 trivial) (by kernel_rfl)
def laws.toIntS.f (K : Nat) (a0 : List Int) : Option ((List Int)) :=
  ck (((a0.length : Int) * (8 : Int)) ≤ 70368744177664) (Option.bind (laws.toIntS.l0.f a0 K (List.replicate a0.length (0 : Int)) 0) fun x1 => some x1)
theorem laws.toIntS.spec (K : Nat) (a0 : List Int) (o : (List Int)) (h : laws.toIntS.f K a0 = some o) : Den.Spec Try.prog 95 [one (.sl 0 0 a0.length)] [some ⟨false, .ints .i64 a0⟩] (one (.sl 1 0 o.length)) [some ⟨false, .ints .i64 a0⟩, some ⟨true, .ints .i64 o⟩] := by
  unfold laws.toIntS.f at h
  obtain ⟨p1, h⟩ := ck_some h
  obtain ⟨x1, e1, h⟩ := bind_some h
  obtain rfl := Option.some.inj h
  exact Den.Spec.of_walk tab mixed Try.func95 (by kernel_rfl) [.loop [] [0, 3, 4] [0, 1] (.exit 0) (laws.toIntS.l0.e0 a0 x1)] [] [0, 1] (nd (Int.natCast_nonneg a0.length) (nd (rfl : (a0.length : Int) = (a0.length : Int)) (nd p1 (nd (laws.toIntS.l0.spec a0 K (List.replicate a0.length (0 : Int)) 0 _ e1) trivial)))) (by kernel_rfl)
def laws.toNode.f (K : Nat) (a0 : Bool) (a1 : List ByteArray) (a2 : List Int) (a3 : ByteArray) : Option ((List ByteArray) × (List Int)) :=
  Option.bind (laws.toStringS.f K a1) fun x1 => Option.bind (laws.toIntS.f K a2) fun x2 => some (x1, x2)
theorem laws.toNode.spec (K : Nat) (a0 : Bool) (a1 : List ByteArray) (a2 : List Int) (a3 : ByteArray) (o : (List ByteArray) × (List Int)) (h : laws.toNode.f K a0 a1 a2 a3 = some o) : Den.Spec Try.prog 37 [.v (.agg [.bool a0, .sl 0 0 a1.length, .sl 1 0 a2.length, .str a3])] [some ⟨false, .strs a1⟩, some ⟨false, .ints .i64 a2⟩] (.v (.agg [.bool a0, .sl 2 0 o.1.length, .sl 3 0 o.2.length, .str a3])) [some ⟨false, .strs a1⟩, some ⟨false, .ints .i64 a2⟩, some ⟨true, .strs o.1⟩, some ⟨true, .ints .i64 o.2⟩] := by
  unfold laws.toNode.f at h
  obtain ⟨x1, e1, h⟩ := bind_some h
  obtain ⟨x2, e2, h⟩ := bind_some h
  obtain rfl := Option.some.inj h
  exact Den.Spec.of_walk tab mixed Try.func37 (by kernel_rfl) [.call [] [(0, true)] (one (.sl 1 0 x1.length)) [some ⟨false, .strs a1⟩, some ⟨true, .strs x1⟩], .call [] [(0, true)] (one (.sl 1 0 x2.length)) [some ⟨false, .ints .i64 a2⟩, some ⟨true, .ints .i64 x2⟩]] [] [0, 1, 9, 10] (nd (laws.toStringS.spec K a1 _ e1) (nd (rfl : (0 : Nat) = 0) (nd (rfl : a1.length = a1.length) (nd (laws.toIntS.spec K a2 _ e2) (nd (rfl : (0 : Nat) = 0) (nd (rfl : a2.length = a2.length) trivial)))))) (by kernel_rfl)
def spec.NameOk.l0.f (a0 : ByteArray) : Nat → Int → Option (Unit ⊕ Unit)
  | 0, _ => none
  | k + 1, v16_0 =>
    cond (decide (v16_0 < (a0.size : Int))) (ck (0 ≤ v16_0) (cond (decide ((byteAt a0 v16_0) < 97)) (some (.inl ())) (cond (decide ((byteAt a0 v16_0) > 122)) (some (.inl ())) (spec.NameOk.l0.f a0 k (w64 (v16_0 + 1)))))) (some (.inr (())))
def spec.NameOk.l0.s (a0 : ByteArray) (v16_0 : Int) : St := mkSt 23 [(0, one (.str a0)), (3, one (.int .i64 v16_0))] []
def spec.NameOk.l0.e0 (a0 : ByteArray) (o : Unit) : St := mkSt 23 [(2, one (.bool false))] []
def spec.NameOk.l0.e1 (a0 : ByteArray) (o : Unit) : St := mkSt 23 [(0, one (.str a0))] []
def spec.NameOk.l0.x (a0 : ByteArray) : (Unit ⊕ Unit) → AExit × St := Sum.elim (fun o => (.ret, spec.NameOk.l0.e0 a0 o)) (fun o => (.exit 0, spec.NameOk.l0.e1 a0 o))
theorem spec.NameOk.l0.spec (a0 : ByteArray) : ∀ (k : Nat) (v16_0 : Int) (o : Unit ⊕ Unit), spec.NameOk.l0.f a0 k v16_0 = some o → LoopSpec Try.prog 0 (loopN Try.f73 0) (spec.NameOk.l0.s a0 v16_0) (spec.NameOk.l0.x a0 o).1 (spec.NameOk.l0.x a0 o).2
  | 0, _, _, h => by cases h
  | k + 1, v16_0, o, h => by
    unfold spec.NameOk.l0.f at h
    rcases br_cases h with ⟨c1, h⟩ | ⟨c1, h⟩
    · obtain ⟨p1, h⟩ := ck_some h
      rcases br_cases h with ⟨c2, h⟩ | ⟨c2, h⟩
      · obtain rfl := Option.some.inj h
        exact .of_done tab mixed [.br true, .br true, .br true, .br true, .br true, .br true, .br true] [] [2] [] rfl (nd c1 (nd p1 (nd (of_decide_eq_true c1) (nd c2 (nd c2 (nd c2 (nd c2 (nd c2 (nd tt trivial))))))))) (by kernel_rfl)
      · rcases br_cases h with ⟨c3, h⟩ | ⟨c3, h⟩
        · obtain rfl := Option.some.inj h
          exact .of_done tab mixed [.br true, .br false, .br false, .br false, .br false, .br false, .br true] [] [2] [] rfl (nd c1 (nd p1 (nd (of_decide_eq_true c1) (nd c2 (nd c2 (nd c2 (nd p1 (nd (of_decide_eq_true c1) (nd c2 (nd c2 (nd c3 trivial))))))))))) (by kernel_rfl)
        · exact .of_step tab mixed [.br true, .br false, .br false, .br false, .br false, .br false, .br false] [] [0, 3] [] (s1 := spec.NameOk.l0.s a0 (w64 (v16_0 + 1))) (nd c1 (nd p1 (nd (of_decide_eq_true c1) (nd c2 (nd c2 (nd c2 (nd p1 (nd (of_decide_eq_true c1) (nd c2 (nd c2 (nd c3 trivial))))))))))) (by kernel_rfl) (spec.NameOk.l0.spec a0 k (w64 (v16_0 + 1)) _ h)
    · obtain rfl := Option.some.inj h
      exact .of_done tab mixed [.br false] [] [0] [] rfl (nd c1 trivial) (by kernel_rfl)
def spec.l1In.f (a0 : Int) (a1 : Int) (a2 : Int) : Option (Bool) :=
  cond (decide (a0 ≥ a1)) (some (decide (a0 ≤ a2))) (some false)
theorem spec.l1In.spec (a0 : Int) (a1 : Int) (a2 : Int) (o : Bool) (h : spec.l1In.f a0 a1 a2 = some o) : Den.Spec Try.prog 88 [one (.int .i64 a0), one (.int .i64 a1), one (.int .i64 a2)] [] (one (.bool o)) [] := by
  unfold spec.l1In.f at h
  rcases br_cases h with ⟨c1, h⟩ | ⟨c1, h⟩
  · obtain rfl := Option.some.inj h
    exact Den.Spec.of_walk tab mixed Try.func88 (by kernel_rfl) [.br true, .br true, .br true, .br true] [] [] (nd c1 (nd c1 (nd c1 (nd c1 trivial)))) (by kernel_rfl)
  · obtain rfl := Option.some.inj h
    exact Den.Spec.of_walk tab mixed Try.func88 (by kernel_rfl) [.br false, .br false, .br false, .br false] [] [] (nd c1 (nd c1 (nd c1 (nd c1 trivial)))) (by kernel_rfl)
def spec.NameOk.f (K : Nat) (a0 : ByteArray) : Option (Bool) :=
  Option.bind (spec.NameOk.l0.f a0 K 0) fun x1 => (Sum.elim (fun x1 => some false) (fun x1 => Option.bind (spec.l1In.f (a0.size : Int) 1 6) fun x2 => some x2)) x1
theorem spec.NameOk.spec (K : Nat) (a0 : ByteArray) (o : Bool) (h : spec.NameOk.f K a0 = some o) : Den.Spec Try.prog 73 [one (.str a0)] [] (one (.bool o)) [] := by
  unfold spec.NameOk.f at h
  obtain ⟨x1, e1, h⟩ := bind_some h
  rcases x1 with x1 | x1
  · obtain rfl := Option.some.inj h
    exact Den.Spec.of_walk tab mixed Try.func73 (by kernel_rfl) [.loop [] [0, 3] [] (.ret) (spec.NameOk.l0.e0 a0 x1)] [] [] (nd (spec.NameOk.l0.spec a0 K 0 _ e1) trivial) (by kernel_rfl)
  · obtain ⟨x2, e2, h⟩ := bind_some h
    obtain rfl := Option.some.inj h
    exact Den.Spec.of_walk tab mixed Try.func73 (by kernel_rfl) [.loop [] [0, 3] [] (.exit 0) (spec.NameOk.l0.e1 a0 x1), .call [] [] (one (.bool x2)) []] [] [] (nd (spec.NameOk.l0.spec a0 K 0 _ e1) (nd (spec.l1In.spec (a0.size : Int) 1 6 _ e2) trivial)) (by kernel_rfl)
def spec.NodeOk.l1.f (a0 : Bool) (a1 : List ByteArray) (a2 : List Int) (a3 : ByteArray) (v21_0 : Int) : Nat → Int → Bool → Bool → Option (Unit ⊕ (Bool × Bool))
  | 0, _, _, _ => none
  | k + 1, v23_0, v23_1, v23_2 =>
    cond (decide (v23_0 < v21_0)) (ck (0 ≤ v23_0) (ck (v23_0 < (a2.length : Int)) (ck (0 ≤ v21_0) (ck (v21_0 < (a2.length : Int)) (cond ((a2.getD v23_0.toNat 0) == (a2.getD v21_0.toNat 0)) (some (.inl ())) (spec.NodeOk.l1.f a0 a1 a2 a3 v21_0 k (w64 (v23_0 + 1)) v23_1 v23_2)))))) (some (.inr ((v23_1, v23_2))))
def spec.NodeOk.l1.s (a0 : Bool) (a1 : List ByteArray) (a2 : List Int) (a3 : ByteArray) (v21_0 : Int) (v23_0 : Int) (v23_1 : Bool) (v23_2 : Bool) : St := mkSt 91 [(1, one (.ptr 2 0 0)), (3, one (.int .i64 v21_0)), (4, one (.int .i64 v23_0)), (49, one (.ptr 2 0 2)), (50, one (.sl 1 0 a2.length)), (51, one (.int .i64 v21_0)), (52, one (.ptr 1 v21_0.toNat 0)), (53, one (.int .i64 (a2.getD v21_0.toNat 0))), (54, one (.bool v23_1)), (55, one (.bool v23_2)), (58, one (.int .i64 v21_0)), (59, one (.bool (decide (v21_0 > 0)))), (60, one (.bool (decide (v21_0 > 0)))), (61, one (.ptr 2 0 1)), (62, one (.sl 0 0 a1.length)), (63, one (.int .i64 v21_0)), (64, one (.int .i64 (w64 (v21_0 - 1)))), (65, one (.ptr 0 ((w64 (v21_0 - 1)).toNat) 0)), (66, one (.str (a1.getD ((w64 (v21_0 - 1)).toNat) noVal))), (67, one (.ptr 2 0 1)), (68, one (.sl 0 0 a1.length)), (69, one (.int .i64 v21_0)), (70, one (.ptr 0 v21_0.toNat 0)), (71, one (.str (a1.getD v21_0.toNat noVal))), (72, one (.bool (!(strLt (a1.getD ((w64 (v21_0 - 1)).toNat) noVal) (a1.getD v21_0.toNat noVal))))), (73, one (.bool (!(strLt (a1.getD ((w64 (v21_0 - 1)).toNat) noVal) (a1.getD v21_0.toNat noVal)))))] [some ⟨false, .strs a1⟩, some ⟨false, .ints .i64 a2⟩, some ⟨true, .cells [.bool a0, .sl 0 0 a1.length, .sl 1 0 a2.length, .str a3]⟩]
def spec.NodeOk.l1.e0 (a0 : Bool) (a1 : List ByteArray) (a2 : List Int) (a3 : ByteArray) (v21_0 : Int) (o : Unit) : St := mkSt 91 [(2, one (.bool false))] [some ⟨false, .strs a1⟩, some ⟨false, .ints .i64 a2⟩]
def spec.NodeOk.l1.e1 (a0 : Bool) (a1 : List ByteArray) (a2 : List Int) (a3 : ByteArray) (v21_0 : Int) (o : Bool × Bool) : St := mkSt 91 [(1, one (.ptr 2 0 0)), (3, one (.int .i64 v21_0)), (49, one (.ptr 2 0 2)), (50, one (.sl 1 0 a2.length)), (51, one (.int .i64 v21_0)), (52, one (.ptr 1 v21_0.toNat 0)), (53, one (.int .i64 (a2.getD v21_0.toNat 0))), (54, one (.bool o.1)), (55, one (.bool o.2)), (58, one (.int .i64 v21_0)), (59, one (.bool (decide (v21_0 > 0)))), (60, one (.bool (decide (v21_0 > 0)))), (61, one (.ptr 2 0 1)), (62, one (.sl 0 0 a1.length)), (63, one (.int .i64 v21_0)), (64, one (.int .i64 (w64 (v21_0 - 1)))), (65, one (.ptr 0 ((w64 (v21_0 - 1)).toNat) 0)), (66, one (.str (a1.getD ((w64 (v21_0 - 1)).toNat) noVal))), (67, one (.ptr 2 0 1)), (68, one (.sl 0 0 a1.length)), (69, one (.int .i64 v21_0)), (70, one (.ptr 0 v21_0.toNat 0)), (71, one (.str (a1.getD v21_0.toNat noVal))), (72, one (.bool (!(strLt (a1.getD ((w64 (v21_0 - 1)).toNat) noVal) (a1.getD v21_0.toNat noVal))))), (73, one (.bool (!(strLt (a1.getD ((w64 (v21_0 - 1)).toNat) noVal) (a1.getD v21_0.toNat noVal)))))] [some ⟨false, .strs a1⟩, some ⟨false, .ints .i64 a2⟩, some ⟨true, .cells [.bool a0, .sl 0 0 a1.length, .sl 1 0 a2.length, .str a3]⟩]
def spec.NodeOk.l1.x (a0 : Bool) (a1 : List ByteArray) (a2 : List Int) (a3 : ByteArray) (v21_0 : Int) : (Unit ⊕ (Bool × Bool)) → AExit × St := Sum.elim (fun o => (.ret, spec.NodeOk.l1.e0 a0 a1 a2 a3 v21_0 o)) (fun o => (.exit 2, spec.NodeOk.l1.e1 a0 a1 a2 a3 v21_0 o))
theorem spec.NodeOk.l1.spec (a0 : Bool) (a1 : List ByteArray) (a2 : List Int) (a3 : ByteArray) (v21_0 : Int) : ∀ (k : Nat) (v23_0 : Int) (v23_1 : Bool) (v23_2 : Bool) (o : Unit ⊕ (Bool × Bool)), spec.NodeOk.l1.f a0 a1 a2 a3 v21_0 k v23_0 v23_1 v23_2 = some o → LoopSpec Try.prog 2 (loopN Try.f94 1) (spec.NodeOk.l1.s a0 a1 a2 a3 v21_0 v23_0 v23_1 v23_2) (spec.NodeOk.l1.x a0 a1 a2 a3 v21_0 o).1 (spec.NodeOk.l1.x a0 a1 a2 a3 v21_0 o).2
  | 0, _, _, _, _, h => by cases h
  | k + 1, v23_0, v23_1, v23_2, o, h => by
    unfold spec.NodeOk.l1.f at h
    rcases br_cases h with ⟨c1, h⟩ | ⟨c1, h⟩
    · obtain ⟨p1, h⟩ := ck_some h
      obtain ⟨p2, h⟩ := ck_some h
      obtain ⟨p3, h⟩ := ck_some h
      obtain ⟨p4, h⟩ := ck_some h
      rcases br_cases h with ⟨c2, h⟩ | ⟨c2, h⟩
      · obtain rfl := Option.some.inj h
        exact .of_done tab mixed [.br true, .br true] [] [2] [0, 1] rfl (nd c1 (nd p1 (nd p2 (nd (tn p1 p2) (nd p3 (nd p4 (nd (tn p3 p4) (nd c2 trivial)))))))) (by kernel_rfl)
      · exact .of_step tab mixed [.br true, .br false] [] [1, 3, 4, 49, 50, 51, 52, 53, 54, 55, 58, 59, 60, 61, 62, 63, 64, 65, 66, 67, 68, 69, 70, 71, 72, 73] [0, 1, 2] (s1 := spec.NodeOk.l1.s a0 a1 a2 a3 v21_0 (w64 (v23_0 + 1)) v23_1 v23_2) (nd c1 (nd p1 (nd p2 (nd (tn p1 p2) (nd p3 (nd p4 (nd (tn p3 p4) (nd c2 trivial)))))))) (by kernel_rfl) (spec.NodeOk.l1.spec a0 a1 a2 a3 v21_0 k (w64 (v23_0 + 1)) v23_1 v23_2 _ h)
    · obtain rfl := Option.some.inj h
      exact .of_done tab mixed [.br false] [] [1, 3, 49, 50, 51, 52, 53, 54, 55, 58, 59, 60, 61, 62, 63, 64, 65, 66, 67, 68, 69, 70, 71, 72, 73] [0, 1, 2] rfl (nd c1 trivial) (by kernel_rfl)
def spec.NodeOk.l1_1.f (a0 : Bool) (a1 : List ByteArray) (a2 : List Int) (a3 : ByteArray) (v21_0 : Int) : Nat → Int → Bool → Bool → Option (Unit ⊕ (Bool × Bool))
  | 0, _, _, _ => none
  | k + 1, v24_0, v24_1, v24_2 =>
    cond (decide (v24_0 < v21_0)) (ck (0 ≤ v24_0) (ck (v24_0 < (a2.length : Int)) (ck (0 ≤ v21_0) (ck (v21_0 < (a2.length : Int)) (cond ((a2.getD v24_0.toNat 0) == (a2.getD v21_0.toNat 0)) (some (.inl ())) (spec.NodeOk.l1_1.f a0 a1 a2 a3 v21_0 k (w64 (v24_0 + 1)) v24_1 v24_2)))))) (some (.inr ((v24_1, v24_2))))
def spec.NodeOk.l1_1.s (a0 : Bool) (a1 : List ByteArray) (a2 : List Int) (a3 : ByteArray) (v21_0 : Int) (v24_0 : Int) (v24_1 : Bool) (v24_2 : Bool) : St := mkSt 91 [(1, one (.ptr 2 0 0)), (3, one (.int .i64 v21_0)), (4, one (.int .i64 v24_0)), (49, one (.ptr 2 0 2)), (50, one (.sl 1 0 a2.length)), (51, one (.int .i64 v21_0)), (52, one (.ptr 1 v21_0.toNat 0)), (53, one (.int .i64 (a2.getD v21_0.toNat 0))), (54, one (.bool v24_1)), (55, one (.bool v24_2)), (58, one (.int .i64 v21_0)), (59, one (.bool (decide (v21_0 > 0)))), (60, one (.bool (decide (v21_0 > 0)))), (61, .tup []), (62, .tup []), (63, .tup []), (64, .tup []), (65, .tup []), (66, .tup []), (67, .tup []), (68, .tup []), (69, .tup []), (70, .tup []), (71, .tup []), (72, .tup []), (73, one (.bool false))] [some ⟨false, .strs a1⟩, some ⟨false, .ints .i64 a2⟩, some ⟨true, .cells [.bool a0, .sl 0 0 a1.length, .sl 1 0 a2.length, .str a3]⟩]
def spec.NodeOk.l1_1.e0 (a0 : Bool) (a1 : List ByteArray) (a2 : List Int) (a3 : ByteArray) (v21_0 : Int) (o : Unit) : St := mkSt 91 [(2, one (.bool false))] [some ⟨false, .strs a1⟩, some ⟨false, .ints .i64 a2⟩]
def spec.NodeOk.l1_1.e1 (a0 : Bool) (a1 : List ByteArray) (a2 : List Int) (a3 : ByteArray) (v21_0 : Int) (o : Bool × Bool) : St := mkSt 91 [(1, one (.ptr 2 0 0)), (3, one (.int .i64 v21_0)), (49, one (.ptr 2 0 2)), (50, one (.sl 1 0 a2.length)), (51, one (.int .i64 v21_0)), (52, one (.ptr 1 v21_0.toNat 0)), (53, one (.int .i64 (a2.getD v21_0.toNat 0))), (54, one (.bool o.1)), (55, one (.bool o.2)), (58, one (.int .i64 v21_0)), (59, one (.bool (decide (v21_0 > 0)))), (60, one (.bool (decide (v21_0 > 0)))), (61, .tup []), (62, .tup []), (63, .tup []), (64, .tup []), (65, .tup []), (66, .tup []), (67, .tup []), (68, .tup []), (69, .tup []), (70, .tup []), (71, .tup []), (72, .tup []), (73, one (.bool false))] [some ⟨false, .strs a1⟩, some ⟨false, .ints .i64 a2⟩, some ⟨true, .cells [.bool a0, .sl 0 0 a1.length, .sl 1 0 a2.length, .str a3]⟩]
def spec.NodeOk.l1_1.x (a0 : Bool) (a1 : List ByteArray) (a2 : List Int) (a3 : ByteArray) (v21_0 : Int) : (Unit ⊕ (Bool × Bool)) → AExit × St := Sum.elim (fun o => (.ret, spec.NodeOk.l1_1.e0 a0 a1 a2 a3 v21_0 o)) (fun o => (.exit 2, spec.NodeOk.l1_1.e1 a0 a1 a2 a3 v21_0 o))
theorem spec.NodeOk.l1_1.spec (a0 : Bool) (a1 : List ByteArray) (a2 : List Int) (a3 : ByteArray) (v21_0 : Int) : ∀ (k : Nat) (v24_0 : Int) (v24_1 : Bool) (v24_2 : Bool) (o : Unit ⊕ (Bool × Bool)), spec.NodeOk.l1_1.f a0 a1 a2 a3 v21_0 k v24_0 v24_1 v24_2 = some o → LoopSpec Try.prog 2 (loopN Try.f94 1) (spec.NodeOk.l1_1.s a0 a1 a2 a3 v21_0 v24_0 v24_1 v24_2) (spec.NodeOk.l1_1.x a0 a1 a2 a3 v21_0 o).1 (spec.NodeOk.l1_1.x a0 a1 a2 a3 v21_0 o).2
  | 0, _, _, _, _, h => by cases h
  | k + 1, v24_0, v24_1, v24_2, o, h => by
    unfold spec.NodeOk.l1_1.f at h
    rcases br_cases h with ⟨c1, h⟩ | ⟨c1, h⟩
    · obtain ⟨p1, h⟩ := ck_some h
      obtain ⟨p2, h⟩ := ck_some h
      obtain ⟨p3, h⟩ := ck_some h
      obtain ⟨p4, h⟩ := ck_some h
      rcases br_cases h with ⟨c2, h⟩ | ⟨c2, h⟩
      · obtain rfl := Option.some.inj h
        exact .of_done tab mixed [.br true, .br true] [] [2] [0, 1] rfl (nd c1 (nd p1 (nd p2 (nd (tn p1 p2) (nd p3 (nd p4 (nd (tn p3 p4) (nd c2 trivial)))))))) (by kernel_rfl)
      · exact .of_step tab mixed [.br true, .br false] [] [1, 3, 4, 49, 50, 51, 52, 53, 54, 55, 58, 59, 60, 61, 62, 63, 64, 65, 66, 67, 68, 69, 70, 71, 72, 73] [0, 1, 2] (s1 := spec.NodeOk.l1_1.s a0 a1 a2 a3 v21_0 (w64 (v24_0 + 1)) v24_1 v24_2) (nd c1 (nd p1 (nd p2 (nd (tn p1 p2) (nd p3 (nd p4 (nd (tn p3 p4) (nd c2 trivial)))))))) (by kernel_rfl) (spec.NodeOk.l1_1.spec a0 a1 a2 a3 v21_0 k (w64 (v24_0 + 1)) v24_1 v24_2 _ h)
    · obtain rfl := Option.some.inj h
      exact .of_done tab mixed [.br false] [] [1, 3, 49, 50, 51, 52, 53, 54, 55, 58, 59, 60, 61, 62, 63, 64, 65, 66, 67, 68, 69, 70, 71, 72, 73] [0, 1, 2] rfl (nd c1 trivial) (by kernel_rfl)
def spec.NodeOk.l0.f (K : Nat) (a0 : Bool) (a1 : List ByteArray) (a2 : List Int) (a3 : ByteArray) : Nat → Int → Option (Unit ⊕ Unit)
  | 0, _ => none
  | k + 1, v21_0 =>
    cond (decide (v21_0 < (a1.length : Int))) (ck (0 ≤ v21_0) (Option.bind (spec.NameOk.f K (a1.getD v21_0.toNat noVal)) fun x1 => cond (x1) (ck (v21_0 < (a2.length : Int)) (Option.bind (spec.l1In.f (a2.getD v21_0.toNat 0) 1 11) fun x2 => cond (x2) (cond (decide (v21_0 > 0)) (ck (0 ≤ (w64 (v21_0 - 1))) (ck ((w64 (v21_0 - 1)) < (a1.length : Int)) (cond (strLt (a1.getD ((w64 (v21_0 - 1)).toNat) noVal) (a1.getD v21_0.toNat noVal)) (Option.bind (spec.NodeOk.l1.f a0 a1 a2 a3 v21_0 K 0 x2 (!x2)) fun x3 => (Sum.elim (fun x3 => some (.inl ())) (fun x3 => spec.NodeOk.l0.f K a0 a1 a2 a3 k (w64 (v21_0 + 1)))) x3) (some (.inl ()))))) (Option.bind (spec.NodeOk.l1_1.f a0 a1 a2 a3 v21_0 K 0 x2 (!x2)) fun x3 => (Sum.elim (fun x3 => some (.inl ())) (fun x3 => spec.NodeOk.l0.f K a0 a1 a2 a3 k (w64 (v21_0 + 1)))) x3)) (some (.inl ())))) (some (.inl ())))) (some (.inr (())))
def spec.NodeOk.l0.s (K : Nat) (a0 : Bool) (a1 : List ByteArray) (a2 : List Int) (a3 : ByteArray) (v21_0 : Int) : St := mkSt 91 [(1, one (.ptr 2 0 0)), (3, one (.int .i64 v21_0))] [some ⟨false, .strs a1⟩, some ⟨false, .ints .i64 a2⟩, some ⟨true, .cells [.bool a0, .sl 0 0 a1.length, .sl 1 0 a2.length, .str a3]⟩]
def spec.NodeOk.l0.e0 (K : Nat) (a0 : Bool) (a1 : List ByteArray) (a2 : List Int) (a3 : ByteArray) (o : Unit) : St := mkSt 91 [(2, one (.bool false))] [some ⟨false, .strs a1⟩, some ⟨false, .ints .i64 a2⟩]
def spec.NodeOk.l0.e1 (K : Nat) (a0 : Bool) (a1 : List ByteArray) (a2 : List Int) (a3 : ByteArray) (o : Unit) : St := mkSt 91 [] [some ⟨false, .strs a1⟩, some ⟨false, .ints .i64 a2⟩]
def spec.NodeOk.l0.x (K : Nat) (a0 : Bool) (a1 : List ByteArray) (a2 : List Int) (a3 : ByteArray) : (Unit ⊕ Unit) → AExit × St := Sum.elim (fun o => (.ret, spec.NodeOk.l0.e0 K a0 a1 a2 a3 o)) (fun o => (.exit 0, spec.NodeOk.l0.e1 K a0 a1 a2 a3 o))
theorem spec.NodeOk.l0.spec (K : Nat) (a0 : Bool) (a1 : List ByteArray) (a2 : List Int) (a3 : ByteArray) : ∀ (k : Nat) (v21_0 : Int) (o : Unit ⊕ Unit), spec.NodeOk.l0.f K a0 a1 a2 a3 k v21_0 = some o → LoopSpec Try.prog 2 (loopN Try.f94 0) (spec.NodeOk.l0.s K a0 a1 a2 a3 v21_0) (spec.NodeOk.l0.x K a0 a1 a2 a3 o).1 (spec.NodeOk.l0.x K a0 a1 a2 a3 o).2
  | 0, _, _, h => by cases h
  | k + 1, v21_0, o, h => by
    unfold spec.NodeOk.l0.f at h
    rcases br_cases h with ⟨c1, h⟩ | ⟨c1, h⟩
    · obtain ⟨p1, h⟩ := ck_some h
      obtain ⟨x1, e1, h⟩ := bind_some h
      rcases br_cases h with ⟨c2, h⟩ | ⟨c2, h⟩
      · obtain ⟨p2, h⟩ := ck_some h
        obtain ⟨x2, e2, h⟩ := bind_some h
        rcases br_cases h with ⟨c3, h⟩ | ⟨c3, h⟩
        · rcases br_cases h with ⟨c4, h⟩ | ⟨c4, h⟩
          · obtain ⟨p3, h⟩ := ck_some h
            obtain ⟨p4, h⟩ := ck_some h
            rcases br_cases h with ⟨c5, h⟩ | ⟨c5, h⟩
            · obtain ⟨x3, e3, h⟩ := bind_some h
              rcases x3 with x3 | x3
              · obtain rfl := Option.some.inj h
                exact .of_done tab mixed [.br true, .call [] [] (one (.bool x1)) [], .br false, .br false, .br false, .br false, .br false, .br false, .call [] [] (one (.bool x2)) [], .br false, .br false, .br false, .br false, .br false, .br true, .br true, .br true, .br true, .br true, .br true, .br true, .br true, .br true, .br true, .br true, .br true, .br false, .br true, .br false, .br false, .loop [] [1, 3, 4, 49, 50, 51, 52, 53, 54, 55, 58, 59, 60, 61, 62, 63, 64, 65, 66, 67, 68, 69, 70, 71, 72, 73] [0, 1, 2] (.ret) (spec.NodeOk.l1.e0 a0 a1 a2 a3 v21_0 x3)] [] [2] [0, 1] rfl (nd c1 (nd p1 (nd (of_decide_eq_true c1) (nd (tn p1 (of_decide_eq_true c1)) (nd (spec.NameOk.spec K (a1.getD v21_0.toNat noVal) _ e1) (nd (nf c2) (nd (nf c2) (nd (nf c2) (nd (nf c2) (nd p1 (nd p2 (nd (nf c2) (nd (tn p1 p2) (nd (nf c2) (nd (spec.l1In.spec (a2.getD v21_0.toNat 0) 1 11 _ e2) (nd (nf c2) (nd (nf c2) (nd (nf c3) (nd (nf c3) (nd (nf c3) (nd c4 (nd c4 (nd c4 (nd c4 (nd c4 (nd p3 (nd p4 (nd c4 (nd (tn p3 p4) (nd c4 (nd c4 (nd c4 (nd c4 (nd p1 (nd (of_decide_eq_true c1) (nd c4 (nd (tn p1 (of_decide_eq_true c1)) (nd c4 (nd (nf c3) (nd c4 (nd (nf c3) (nd (nf c5) (nd (spec.NodeOk.l1.spec a0 a1 a2 a3 v21_0 K 0 x2 (!x2) _ e3) trivial))))))))))))))))))))))))))))))))))))))))))) (by kernel_rfl)
              · exact .of_step tab mixed [.br true, .call [] [] (one (.bool x1)) [], .br false, .br false, .br false, .br false, .br false, .br false, .call [] [] (one (.bool x2)) [], .br false, .br false, .br false, .br false, .br false, .br true, .br true, .br true, .br true, .br true, .br true, .br true, .br true, .br true, .br true, .br true, .br true, .br false, .br true, .br false, .br false, .loop [] [1, 3, 4, 49, 50, 51, 52, 53, 54, 55, 58, 59, 60, 61, 62, 63, 64, 65, 66, 67, 68, 69, 70, 71, 72, 73] [0, 1, 2] (.exit 2) (spec.NodeOk.l1.e1 a0 a1 a2 a3 v21_0 x3)] [] [1, 3] [0, 1, 2] (s1 := spec.NodeOk.l0.s K a0 a1 a2 a3 (w64 (v21_0 + 1))) (nd c1 (nd p1 (nd (of_decide_eq_true c1) (nd (tn p1 (of_decide_eq_true c1)) (nd (spec.NameOk.spec K (a1.getD v21_0.toNat noVal) _ e1) (nd (nf c2) (nd (nf c2) (nd (nf c2) (nd (nf c2) (nd p1 (nd p2 (nd (nf c2) (nd (tn p1 p2) (nd (nf c2) (nd (spec.l1In.spec (a2.getD v21_0.toNat 0) 1 11 _ e2) (nd (nf c2) (nd (nf c2) (nd (nf c3) (nd (nf c3) (nd (nf c3) (nd c4 (nd c4 (nd c4 (nd c4 (nd c4 (nd p3 (nd p4 (nd c4 (nd (tn p3 p4) (nd c4 (nd c4 (nd c4 (nd c4 (nd p1 (nd (of_decide_eq_true c1) (nd c4 (nd (tn p1 (of_decide_eq_true c1)) (nd c4 (nd (nf c3) (nd c4 (nd (nf c3) (nd (nf c5) (nd (spec.NodeOk.l1.spec a0 a1 a2 a3 v21_0 K 0 x2 (!x2) _ e3) trivial))))))))))))))))))))))))))))))))))))))))))) (by kernel_rfl) (spec.NodeOk.l0.spec K a0 a1 a2 a3 k (w64 (v21_0 + 1)) _ h)
            · obtain rfl := Option.some.inj h
              exact .of_done tab mixed [.br true, .call [] [] (one (.bool x1)) [], .br false, .br false, .br false, .br false, .br false, .br false, .call [] [] (one (.bool x2)) [], .br false, .br false, .br false, .br false, .br false, .br true, .br true, .br true, .br true, .br true, .br true, .br true, .br true, .br true, .br true, .br true, .br true, .br false, .br true, .br false, .br true] [] [2] [0, 1] rfl (nd c1 (nd p1 (nd (of_decide_eq_true c1) (nd (tn p1 (of_decide_eq_true c1)) (nd (spec.NameOk.spec K (a1.getD v21_0.toNat noVal) _ e1) (nd (nf c2) (nd (nf c2) (nd (nf c2) (nd (nf c2) (nd p1 (nd p2 (nd (nf c2) (nd (tn p1 p2) (nd (nf c2) (nd (spec.l1In.spec (a2.getD v21_0.toNat 0) 1 11 _ e2) (nd (nf c2) (nd (nf c2) (nd (nf c3) (nd (nf c3) (nd (nf c3) (nd c4 (nd c4 (nd c4 (nd c4 (nd c4 (nd p3 (nd p4 (nd c4 (nd (tn p3 p4) (nd c4 (nd c4 (nd c4 (nd c4 (nd p1 (nd (of_decide_eq_true c1) (nd c4 (nd (tn p1 (of_decide_eq_true c1)) (nd c4 (nd (nf c3) (nd c4 (nd (nf c3) (nd (nt c5) trivial)))))))))))))))))))))))))))))))))))))))))) (by kernel_rfl)
          · obtain ⟨x3, e3, h⟩ := bind_some h
            rcases x3 with x3 | x3
            · obtain rfl := Option.some.inj h
              exact .of_done tab mixed [.br true, .call [] [] (one (.bool x1)) [], .br false, .br false, .br false, .br false, .br false, .br false, .call [] [] (one (.bool x2)) [], .br false, .br false, .br false, .br false, .br false, .br false, .br false, .br false, .br false, .br false, .br false, .br false, .br false, .br false, .br false, .br false, .br false, .br false, .br false, .br false, .br false, .loop [] [1, 3, 4, 49, 50, 51, 52, 53, 54, 55, 58, 59, 60, 61, 62, 63, 64, 65, 66, 67, 68, 69, 70, 71, 72, 73] [0, 1, 2] (.ret) (spec.NodeOk.l1_1.e0 a0 a1 a2 a3 v21_0 x3)] [] [2] [0, 1] rfl (nd c1 (nd p1 (nd (of_decide_eq_true c1) (nd (tn p1 (of_decide_eq_true c1)) (nd (spec.NameOk.spec K (a1.getD v21_0.toNat noVal) _ e1) (nd (nf c2) (nd (nf c2) (nd (nf c2) (nd (nf c2) (nd p1 (nd p2 (nd (nf c2) (nd (tn p1 p2) (nd (nf c2) (nd (spec.l1In.spec (a2.getD v21_0.toNat 0) 1 11 _ e2) (nd (nf c2) (nd (nf c2) (nd (nf c3) (nd (nf c3) (nd (nf c3) (nd c4 (nd c4 (nd c4 (nd c4 (nd c4 (nd c4 (nd c4 (nd c4 (nd c4 (nd c4 (nd c4 (nd c4 (nd (nf c3) (nd c4 (nd (nf c3) (nd ff (nd (spec.NodeOk.l1_1.spec a0 a1 a2 a3 v21_0 K 0 x2 (!x2) _ e3) trivial))))))))))))))))))))))))))))))))))))) (by kernel_rfl)
            · exact .of_step tab mixed [.br true, .call [] [] (one (.bool x1)) [], .br false, .br false, .br false, .br false, .br false, .br false, .call [] [] (one (.bool x2)) [], .br false, .br false, .br false, .br false, .br false, .br false, .br false, .br false, .br false, .br false, .br false, .br false, .br false, .br false, .br false, .br false, .br false, .br false, .br false, .br false, .br false, .loop [] [1, 3, 4, 49, 50, 51, 52, 53, 54, 55, 58, 59, 60, 61, 62, 63, 64, 65, 66, 67, 68, 69, 70, 71, 72, 73] [0, 1, 2] (.exit 2) (spec.NodeOk.l1_1.e1 a0 a1 a2 a3 v21_0 x3)] [] [1, 3] [0, 1, 2] (s1 := spec.NodeOk.l0.s K a0 a1 a2 a3 (w64 (v21_0 + 1))) (nd c1 (nd p1 (nd (of_decide_eq_true c1) (nd (tn p1 (of_decide_eq_true c1)) (nd (spec.NameOk.spec K (a1.getD v21_0.toNat noVal) _ e1) (nd (nf c2) (nd (nf c2) (nd (nf c2) (nd (nf c2) (nd p1 (nd p2 (nd (nf c2) (nd (tn p1 p2) (nd (nf c2) (nd (spec.l1In.spec (a2.getD v21_0.toNat 0) 1 11 _ e2) (nd (nf c2) (nd (nf c2) (nd (nf c3) (nd (nf c3) (nd (nf c3) (nd c4 (nd c4 (nd c4 (nd c4 (nd c4 (nd c4 (nd c4 (nd c4 (nd c4 (nd c4 (nd c4 (nd c4 (nd (nf c3) (nd c4 (nd (nf c3) (nd ff (nd (spec.NodeOk.l1_1.spec a0 a1 a2 a3 v21_0 K 0 x2 (!x2) _ e3) trivial))))))))))))))))))))))))))))))))))))) (by kernel_rfl) (spec.NodeOk.l0.spec K a0 a1 a2 a3 k (w64 (v21_0 + 1)) _ h)
        · obtain rfl := Option.some.inj h
          exact .of_done tab mixed [.br true, .call [] [] (one (.bool x1)) [], .br false, .br false, .br false, .br false, .br false, .br false, .call [] [] (one (.bool x2)) [], .br false, .br false, .br true, .br true, .br true, .br true, .br true, .br true] [] [2] [0, 1] rfl (nd c1 (nd p1 (nd (of_decide_eq_true c1) (nd (tn p1 (of_decide_eq_true c1)) (nd (spec.NameOk.spec K (a1.getD v21_0.toNat noVal) _ e1) (nd (nf c2) (nd (nf c2) (nd (nf c2) (nd (nf c2) (nd p1 (nd p2 (nd (nf c2) (nd (tn p1 p2) (nd (nf c2) (nd (spec.l1In.spec (a2.getD v21_0.toNat 0) 1 11 _ e2) (nd (nf c2) (nd (nf c2) (nd (nt c3) (nd (nt c3) (nd (nt c3) (nd (nt c3) (nd (nt c3) (nd tt trivial))))))))))))))))))))))) (by kernel_rfl)
      · obtain rfl := Option.some.inj h
        exact .of_done tab mixed [.br true, .call [] [] (one (.bool x1)) [], .br true, .br true, .br true, .br true, .br true, .br true, .br true, .br true, .br true, .br true, .br true, .br true, .br true, .br true] [] [2] [0, 1] rfl (nd c1 (nd p1 (nd (of_decide_eq_true c1) (nd (tn p1 (of_decide_eq_true c1)) (nd (spec.NameOk.spec K (a1.getD v21_0.toNat noVal) _ e1) (nd (nt c2) (nd (nt c2) (nd (nt c2) (nd (nt c2) (nd (nt c2) (nd (nt c2) (nd (nt c2) (nd (nt c2) (nd tt (nd tt (nd tt (nd tt (nd tt (nd tt trivial))))))))))))))))))) (by kernel_rfl)
    · obtain rfl := Option.some.inj h
      exact .of_done tab mixed [.br false] [] [] [0, 1] rfl (nd c1 trivial) (by kernel_rfl)
def spec.NodeOk.f (K : Nat) (a0 : Bool) (a1 : List ByteArray) (a2 : List Int) (a3 : ByteArray) : Option (Bool) :=
  cond (a0) (cond ((a1.length : Int) != (a2.length : Int)) (some false) (cond (strEq a3 noVal) (Option.bind (spec.NodeOk.l0.f K a0 a1 a2 a3 K 0) fun x1 => (Sum.elim (fun x1 => some false) (fun x1 => some true)) x1) (some false))) (cond ((w64 ((a1.length : Int) + (a2.length : Int))) == 0) (some (decide ((a3.size : Int) ≤ 60))) (some false))
theorem spec.NodeOk.spec (K : Nat) (a0 : Bool) (a1 : List ByteArray) (a2 : List Int) (a3 : ByteArray) (o : Bool) (h : spec.NodeOk.f K a0 a1 a2 a3 = some o) : Den.Spec Try.prog 94 [.v (.agg [.bool a0, .sl 0 0 a1.length, .sl 1 0 a2.length, .str a3])] [some ⟨false, .strs a1⟩, some ⟨false, .ints .i64 a2⟩] (one (.bool o)) [some ⟨false, .strs a1⟩, some ⟨false, .ints .i64 a2⟩] := by
  unfold spec.NodeOk.f at h
  rcases br_cases h with ⟨c1, h⟩ | ⟨c1, h⟩
  · rcases br_cases h with ⟨c2, h⟩ | ⟨c2, h⟩
    · obtain rfl := Option.some.inj h
      exact Den.Spec.of_walk tab mixed Try.func94 (by kernel_rfl) [.br false, .br true, .br true, .br true, .br true, .br true] [] [0, 1] (nd (nf c1) (nd c2 (nd c2 (nd c2 (nd c2 (nd tt trivial)))))) (by kernel_rfl)
    · rcases br_cases h with ⟨c3, h⟩ | ⟨c3, h⟩
      · obtain ⟨x1, e1, h⟩ := bind_some h
        rcases x1 with x1 | x1
        · obtain rfl := Option.some.inj h
          exact Den.Spec.of_walk tab mixed Try.func94 (by kernel_rfl) [.br false, .br false, .br false, .br false, .br false, .br false, .loop [] [1, 3] [0, 1, 2] (.ret) (spec.NodeOk.l0.e0 K a0 a1 a2 a3 x1)] [] [0, 1] (nd (nf c1) (nd c2 (nd c2 (nd c2 (nd c2 (nd (nf c3) (nd (spec.NodeOk.l0.spec K a0 a1 a2 a3 K 0 _ e1) trivial))))))) (by kernel_rfl)
        · obtain rfl := Option.some.inj h
          exact Den.Spec.of_walk tab mixed Try.func94 (by kernel_rfl) [.br false, .br false, .br false, .br false, .br false, .br false, .loop [] [1, 3] [0, 1, 2] (.exit 0) (spec.NodeOk.l0.e1 K a0 a1 a2 a3 x1)] [] [0, 1] (nd (nf c1) (nd c2 (nd c2 (nd c2 (nd c2 (nd (nf c3) (nd (spec.NodeOk.l0.spec K a0 a1 a2 a3 K 0 _ e1) trivial))))))) (by kernel_rfl)
      · obtain rfl := Option.some.inj h
        exact Den.Spec.of_walk tab mixed Try.func94 (by kernel_rfl) [.br false, .br false, .br false, .br false, .br false, .br true] [] [0, 1] (nd (nf c1) (nd c2 (nd c2 (nd c2 (nd c2 (nd (nt c3) trivial)))))) (by kernel_rfl)
  · rcases br_cases h with ⟨c2, h⟩ | ⟨c2, h⟩
    · obtain rfl := Option.some.inj h
      exact Den.Spec.of_walk tab mixed Try.func94 (by kernel_rfl) [.br true, .br true, .br true, .br true, .br true, .br true] [] [0, 1] (nd (nt c1) (nd c2 (nd c2 (nd c2 (nd c2 (nd c2 trivial)))))) (by kernel_rfl)
    · obtain rfl := Option.some.inj h
      exact Den.Spec.of_walk tab mixed Try.func94 (by kernel_rfl) [.br true, .br false, .br false, .br false, .br false, .br false] [] [0, 1] (nd (nt c1) (nd c2 (nd c2 (nd c2 (nd c2 (nd c2 trivial)))))) (by kernel_rfl)
def spec.NodeText.l0.f (a0 : Bool) (a1 : List ByteArray) (a2 : List Int) (a3 : ByteArray) : Nat → ByteArray → Int → Option (ByteArray)
  | 0, _, _ => none
  | k + 1, v27_0, v27_1 =>
    cond (decide (v27_1 < (a1.length : Int))) (ck (0 ≤ v27_1) (ck (((v27_0.size + (a1.getD v27_1.toNat noVal).size : Nat) : Int) ≤ 9223372036854775807) (ck ((((v27_0 ++ (a1.getD v27_1.toNat noVal)).size + (ByteArray.mk #[61]).size : Nat) : Int) ≤ 9223372036854775807) (ck (v27_1 < (a2.length : Int)) (ck (((((v27_0 ++ (a1.getD v27_1.toNat noVal)) ++ (ByteArray.mk #[61])).size + (ofBytes [IntKind.u8.wrap (w64 (48 + (a2.getD v27_1.toNat 0)))]).size : Nat) : Int) ≤ 9223372036854775807) (spec.NodeText.l0.f a0 a1 a2 a3 k (((v27_0 ++ (a1.getD v27_1.toNat noVal)) ++ (ByteArray.mk #[61])) ++ (ofBytes [IntKind.u8.wrap (w64 (48 + (a2.getD v27_1.toNat 0)))])) (w64 (v27_1 + 1)))))))) (some v27_0)
def spec.NodeText.l0.s (a0 : Bool) (a1 : List ByteArray) (a2 : List Int) (a3 : ByteArray) (v27_0 : ByteArray) (v27_1 : Int) : St := mkSt 40 [(1, one (.ptr 2 0 0)), (3, one (.str v27_0)), (4, one (.int .i64 v27_1))] [some ⟨false, .strs a1⟩, some ⟨false, .ints .i64 a2⟩, some ⟨true, .cells [.bool a0, .sl 0 0 a1.length, .sl 1 0 a2.length, .str a3]⟩]
def spec.NodeText.l0.e0 (a0 : Bool) (a1 : List ByteArray) (a2 : List Int) (a3 : ByteArray) (o : ByteArray) : St := mkSt 40 [(3, one (.str o))] [some ⟨false, .strs a1⟩, some ⟨false, .ints .i64 a2⟩]
def spec.NodeText.l0.x (a0 : Bool) (a1 : List ByteArray) (a2 : List Int) (a3 : ByteArray) : (ByteArray) → AExit × St := fun o => (.exit 0, spec.NodeText.l0.e0 a0 a1 a2 a3 o)
theorem spec.NodeText.l0.spec (a0 : Bool) (a1 : List ByteArray) (a2 : List Int) (a3 : ByteArray) : ∀ (k : Nat) (v27_0 : ByteArray) (v27_1 : Int) (o : ByteArray), spec.NodeText.l0.f a0 a1 a2 a3 k v27_0 v27_1 = some o → LoopSpec Try.prog 2 (loopN Try.f36 0) (spec.NodeText.l0.s a0 a1 a2 a3 v27_0 v27_1) (spec.NodeText.l0.x a0 a1 a2 a3 o).1 (spec.NodeText.l0.x a0 a1 a2 a3 o).2
  | 0, _, _, _, h => by cases h
  | k + 1, v27_0, v27_1, o, h => by
    unfold spec.NodeText.l0.f at h
    rcases br_cases h with ⟨c1, h⟩ | ⟨c1, h⟩
    · obtain ⟨p1, h⟩ := ck_some h
      obtain ⟨p2, h⟩ := ck_some h
      obtain ⟨p3, h⟩ := ck_some h
      obtain ⟨p4, h⟩ := ck_some h
      obtain ⟨p5, h⟩ := ck_some h
      exact .of_step tab mixed [.br true, .br true] [] [1, 3, 4] [0, 1, 2] (s1 := spec.NodeText.l0.s a0 a1 a2 a3 (((v27_0 ++ (a1.getD v27_1.toNat noVal)) ++ (ByteArray.mk #[61])) ++ (ofBytes [IntKind.u8.wrap (w64 (48 + (a2.getD v27_1.toNat 0)))])) (w64 (v27_1 + 1))) (nd c1 (nd p1 (nd (of_decide_eq_true c1) (nd (tn p1 (of_decide_eq_true c1)) (nd p2 (nd p3 (nd p1 (nd p4 (nd (tn p1 p4) (nd (rfl : (0 : Nat) = 0) (nd (rfl : 1 = 1) (nd p5 trivial)))))))))))) (by kernel_rfl) (spec.NodeText.l0.spec a0 a1 a2 a3 k (((v27_0 ++ (a1.getD v27_1.toNat noVal)) ++ (ByteArray.mk #[61])) ++ (ofBytes [IntKind.u8.wrap (w64 (48 + (a2.getD v27_1.toNat 0)))])) (w64 (v27_1 + 1)) _ h)
    · obtain rfl := Option.some.inj h
      exact .of_done tab mixed [.br false] [] [3] [0, 1] rfl (nd c1 trivial) (by kernel_rfl)
def spec.NodeText.f (K : Nat) (a0 : Bool) (a1 : List ByteArray) (a2 : List Int) (a3 : ByteArray) : Option (ByteArray) :=
  Option.bind (spec.NodeOk.f K a0 a1 a2 a3) fun x1 => cond (x1) (cond (a0) (Option.bind (spec.NodeText.l0.f a0 a1 a2 a3 K (ByteArray.mk #[100]) 0) fun x2 => some x2) (ck ((((ByteArray.mk #[102]).size + a3.size : Nat) : Int) ≤ 9223372036854775807) (some ((ByteArray.mk #[102]) ++ a3)))) (some noVal)
theorem spec.NodeText.spec (K : Nat) (a0 : Bool) (a1 : List ByteArray) (a2 : List Int) (a3 : ByteArray) (o : ByteArray) (h : spec.NodeText.f K a0 a1 a2 a3 = some o) : Den.Spec Try.prog 36 [.v (.agg [.bool a0, .sl 0 0 a1.length, .sl 1 0 a2.length, .str a3])] [some ⟨false, .strs a1⟩, some ⟨false, .ints .i64 a2⟩] (one (.str o)) [some ⟨false, .strs a1⟩, some ⟨false, .ints .i64 a2⟩] := by
  unfold spec.NodeText.f at h
  obtain ⟨x1, e1, h⟩ := bind_some h
  rcases br_cases h with ⟨c1, h⟩ | ⟨c1, h⟩
  · rcases br_cases h with ⟨c2, h⟩ | ⟨c2, h⟩
    · obtain ⟨x2, e2, h⟩ := bind_some h
      obtain rfl := Option.some.inj h
      exact Den.Spec.of_walk tab mixed Try.func36 (by kernel_rfl) [.call [(0, false), (1, false)] [] (one (.bool x1)) [some ⟨false, .strs a1⟩, some ⟨false, .ints .i64 a2⟩], .br false, .br false, .loop [] [1, 3, 4] [0, 1, 2] (.exit 0) (spec.NodeText.l0.e0 a0 a1 a2 a3 x2)] [] [0, 1] (nd (spec.NodeOk.spec K a0 a1 a2 a3 _ e1) (nd (nf c1) (nd (nf c2) (nd (spec.NodeText.l0.spec a0 a1 a2 a3 K (ByteArray.mk #[100]) 0 _ e2) trivial)))) (by kernel_rfl)
    · obtain ⟨p1, h⟩ := ck_some h
      obtain rfl := Option.some.inj h
      exact Den.Spec.of_walk tab mixed Try.func36 (by kernel_rfl) [.call [(0, false), (1, false)] [] (one (.bool x1)) [some ⟨false, .strs a1⟩, some ⟨false, .ints .i64 a2⟩], .br false, .br true] [] [0, 1] (nd (spec.NodeOk.spec K a0 a1 a2 a3 _ e1) (nd (nf c1) (nd (nt c2) (nd p1 trivial)))) (by kernel_rfl)
  · obtain rfl := Option.some.inj h
    exact Den.Spec.of_walk tab mixed Try.func36 (by kernel_rfl) [.call [(0, false), (1, false)] [] (one (.bool x1)) [some ⟨false, .strs a1⟩, some ⟨false, .ints .i64 a2⟩], .br true] [] [0, 1] (nd (spec.NodeOk.spec K a0 a1 a2 a3 _ e1) (nd (nt c1) trivial)) (by kernel_rfl)
def impl.NameOk.l0.f (a0 : ByteArray) : Nat → Int → Option (Unit ⊕ Unit)
  | 0, _ => none
  | k + 1, v32_0 =>
    cond (decide (v32_0 < (a0.size : Int))) (ck (0 ≤ v32_0) (cond (decide ((byteAt a0 v32_0) < 97)) (some (.inl ())) (cond (decide ((byteAt a0 v32_0) > 122)) (some (.inl ())) (impl.NameOk.l0.f a0 k (w64 (v32_0 + 1)))))) (some (.inr (())))
def impl.NameOk.l0.s (a0 : ByteArray) (v32_0 : Int) : St := mkSt 23 [(0, one (.str a0)), (5, one (.int .i64 (a0.size : Int))), (6, one (.int .i64 v32_0))] []
def impl.NameOk.l0.e0 (a0 : ByteArray) (o : Unit) : St := mkSt 23 [(2, one (.bool false))] []
def impl.NameOk.l0.e1 (a0 : ByteArray) (o : Unit) : St := mkSt 23 [(0, one (.str a0))] []
def impl.NameOk.l0.x (a0 : ByteArray) : (Unit ⊕ Unit) → AExit × St := Sum.elim (fun o => (.ret, impl.NameOk.l0.e0 a0 o)) (fun o => (.exit 0, impl.NameOk.l0.e1 a0 o))
theorem impl.NameOk.l0.spec (a0 : ByteArray) : ∀ (k : Nat) (v32_0 : Int) (o : Unit ⊕ Unit), impl.NameOk.l0.f a0 k v32_0 = some o → LoopSpec Try.prog 0 (loopN Try.f72 0) (impl.NameOk.l0.s a0 v32_0) (impl.NameOk.l0.x a0 o).1 (impl.NameOk.l0.x a0 o).2
  | 0, _, _, h => by cases h
  | k + 1, v32_0, o, h => by
    unfold impl.NameOk.l0.f at h
    rcases br_cases h with ⟨c1, h⟩ | ⟨c1, h⟩
    · obtain ⟨p1, h⟩ := ck_some h
      rcases br_cases h with ⟨c2, h⟩ | ⟨c2, h⟩
      · obtain rfl := Option.some.inj h
        exact .of_done tab mixed [.br true, .br true, .br true, .br true, .br true, .br true, .br true] [] [2] [] rfl (nd c1 (nd p1 (nd (of_decide_eq_true c1) (nd c2 (nd c2 (nd c2 (nd c2 (nd c2 (nd tt trivial))))))))) (by kernel_rfl)
      · rcases br_cases h with ⟨c3, h⟩ | ⟨c3, h⟩
        · obtain rfl := Option.some.inj h
          exact .of_done tab mixed [.br true, .br false, .br false, .br false, .br false, .br false, .br true] [] [2] [] rfl (nd c1 (nd p1 (nd (of_decide_eq_true c1) (nd c2 (nd c2 (nd c2 (nd p1 (nd (of_decide_eq_true c1) (nd c2 (nd c2 (nd c3 trivial))))))))))) (by kernel_rfl)
        · exact .of_step tab mixed [.br true, .br false, .br false, .br false, .br false, .br false, .br false] [] [0, 5, 6] [] (s1 := impl.NameOk.l0.s a0 (w64 (v32_0 + 1))) (nd c1 (nd p1 (nd (of_decide_eq_true c1) (nd c2 (nd c2 (nd c2 (nd p1 (nd (of_decide_eq_true c1) (nd c2 (nd c2 (nd c3 trivial))))))))))) (by kernel_rfl) (impl.NameOk.l0.spec a0 k (w64 (v32_0 + 1)) _ h)
    · obtain rfl := Option.some.inj h
      exact .of_done tab mixed [.br false] [] [0] [] rfl (nd c1 trivial) (by kernel_rfl)
def impl.in_.f (a0 : Int) (a1 : Int) (a2 : Int) : Option (Bool) :=
  cond (decide (a0 ≥ a1)) (some (decide (a0 ≤ a2))) (some false)
theorem impl.in_.spec (a0 : Int) (a1 : Int) (a2 : Int) (o : Bool) (h : impl.in_.f a0 a1 a2 = some o) : Den.Spec Try.prog 87 [one (.int .i64 a0), one (.int .i64 a1), one (.int .i64 a2)] [] (one (.bool o)) [] := by
  unfold impl.in_.f at h
  rcases br_cases h with ⟨c1, h⟩ | ⟨c1, h⟩
  · obtain rfl := Option.some.inj h
    exact Den.Spec.of_walk tab mixed Try.func87 (by kernel_rfl) [.br true, .br true, .br true, .br true] [] [] (nd c1 (nd c1 (nd c1 (nd c1 trivial)))) (by kernel_rfl)
  · obtain rfl := Option.some.inj h
    exact Den.Spec.of_walk tab mixed Try.func87 (by kernel_rfl) [.br false, .br false, .br false, .br false] [] [] (nd c1 (nd c1 (nd c1 (nd c1 trivial)))) (by kernel_rfl)
def impl.NameOk.f (K : Nat) (a0 : ByteArray) : Option (Bool) :=
  Option.bind (impl.NameOk.l0.f a0 K 0) fun x1 => (Sum.elim (fun x1 => some false) (fun x1 => Option.bind (impl.in_.f (a0.size : Int) 1 6) fun x2 => some x2)) x1
theorem impl.NameOk.spec (K : Nat) (a0 : ByteArray) (o : Bool) (h : impl.NameOk.f K a0 = some o) : Den.Spec Try.prog 72 [one (.str a0)] [] (one (.bool o)) [] := by
  unfold impl.NameOk.f at h
  obtain ⟨x1, e1, h⟩ := bind_some h
  rcases x1 with x1 | x1
  · obtain rfl := Option.some.inj h
    exact Den.Spec.of_walk tab mixed Try.func72 (by kernel_rfl) [.loop [] [0, 5, 6] [] (.ret) (impl.NameOk.l0.e0 a0 x1)] [] [] (nd (impl.NameOk.l0.spec a0 K 0 _ e1) trivial) (by kernel_rfl)
  · obtain ⟨x2, e2, h⟩ := bind_some h
    obtain rfl := Option.some.inj h
    exact Den.Spec.of_walk tab mixed Try.func72 (by kernel_rfl) [.loop [] [0, 5, 6] [] (.exit 0) (impl.NameOk.l0.e1 a0 x1), .call [] [] (one (.bool x2)) []] [] [] (nd (impl.NameOk.l0.spec a0 K 0 _ e1) (nd (impl.in_.spec (a0.size : Int) 1 6 _ e2) trivial)) (by kernel_rfl)
def impl.isKid.f (a0 : Int) : Option (Bool) :=
  Option.bind (impl.in_.f a0 1 11) fun x1 => some x1
theorem impl.isKid.spec (a0 : Int) (o : Bool) (h : impl.isKid.f a0 = some o) : Den.Spec Try.prog 111 [one (.int .i64 a0)] [] (one (.bool o)) [] := by
  unfold impl.isKid.f at h
  obtain ⟨x1, e1, h⟩ := bind_some h
  obtain rfl := Option.some.inj h
  exact Den.Spec.of_walk tab mixed Try.func111 (by kernel_rfl) [.call [] [] (one (.bool x1)) []] [] [] (nd (impl.in_.spec a0 1 11 _ e1) trivial) (by kernel_rfl)
def slices.Index_int_int.l0.f (a0 : List Int) (a1 : Int) : Nat → Int → Option (Int ⊕ Unit)
  | 0, _ => none
  | k + 1, v36_0 =>
    cond (decide (v36_0 < (a0.length : Int))) (ck (0 ≤ v36_0) (cond (a1 == (a0.getD v36_0.toNat 0)) (some (.inl v36_0)) (slices.Index_int_int.l0.f a0 a1 k (w64 (v36_0 + 1))))) (some (.inr (())))
def slices.Index_int_int.l0.s (a0 : List Int) (a1 : Int) (v36_0 : Int) : St := mkSt 19 [(0, one (.sl 0 0 a0.length)), (1, one (.int .i64 a1)), (7, one (.int .i64 (a0.length : Int))), (8, one (.int .i64 v36_0))] [some ⟨false, .ints .i64 a0⟩]
def slices.Index_int_int.l0.e0 (a0 : List Int) (a1 : Int) (o : Int) : St := mkSt 19 [(4, one (.int .i64 o))] [some ⟨false, .ints .i64 a0⟩]
def slices.Index_int_int.l0.e1 (a0 : List Int) (a1 : Int) (o : Unit) : St := mkSt 19 [] [some ⟨false, .ints .i64 a0⟩]
def slices.Index_int_int.l0.x (a0 : List Int) (a1 : Int) : (Int ⊕ Unit) → AExit × St := Sum.elim (fun o => (.ret, slices.Index_int_int.l0.e0 a0 a1 o)) (fun o => (.exit 0, slices.Index_int_int.l0.e1 a0 a1 o))
theorem slices.Index_int_int.l0.spec (a0 : List Int) (a1 : Int) : ∀ (k : Nat) (v36_0 : Int) (o : Int ⊕ Unit), slices.Index_int_int.l0.f a0 a1 k v36_0 = some o → LoopSpec Try.prog 1 (loopN Try.f112 0) (slices.Index_int_int.l0.s a0 a1 v36_0) (slices.Index_int_int.l0.x a0 a1 o).1 (slices.Index_int_int.l0.x a0 a1 o).2
  | 0, _, _, h => by cases h
  | k + 1, v36_0, o, h => by
    unfold slices.Index_int_int.l0.f at h
    rcases br_cases h with ⟨c1, h⟩ | ⟨c1, h⟩
    · obtain ⟨p1, h⟩ := ck_some h
      rcases br_cases h with ⟨c2, h⟩ | ⟨c2, h⟩
      · obtain rfl := Option.some.inj h
        exact .of_done tab mixed [.br true, .br true] [] [4] [0] rfl (nd c1 (nd p1 (nd (of_decide_eq_true c1) (nd (tn p1 (of_decide_eq_true c1)) (nd c2 trivial))))) (by kernel_rfl)
      · exact .of_step tab mixed [.br true, .br false] [] [0, 1, 7, 8] [0] (s1 := slices.Index_int_int.l0.s a0 a1 (w64 (v36_0 + 1))) (nd c1 (nd p1 (nd (of_decide_eq_true c1) (nd (tn p1 (of_decide_eq_true c1)) (nd c2 trivial))))) (by kernel_rfl) (slices.Index_int_int.l0.spec a0 a1 k (w64 (v36_0 + 1)) _ h)
    · obtain rfl := Option.some.inj h
      exact .of_done tab mixed [.br false] [] [] [0] rfl (nd c1 trivial) (by kernel_rfl)
def slices.Index_int_int.f (K : Nat) (a0 : List Int) (a1 : Int) : Option (Int) :=
  Option.bind (slices.Index_int_int.l0.f a0 a1 K 0) fun x1 => (Sum.elim (fun x1 => some x1) (fun x1 => some (-1))) x1
theorem slices.Index_int_int.spec (K : Nat) (a0 : List Int) (a1 : Int) (o : Int) (h : slices.Index_int_int.f K a0 a1 = some o) : Den.Spec Try.prog 112 [one (.sl 0 0 a0.length), one (.int .i64 a1)] [some ⟨false, .ints .i64 a0⟩] (one (.int .i64 o)) [some ⟨false, .ints .i64 a0⟩] := by
  unfold slices.Index_int_int.f at h
  obtain ⟨x1, e1, h⟩ := bind_some h
  rcases x1 with x1 | x1
  · obtain rfl := Option.some.inj h
    exact Den.Spec.of_walk tab mixed Try.func112 (by kernel_rfl) [.loop [] [0, 1, 7, 8] [0] (.ret) (slices.Index_int_int.l0.e0 a0 a1 x1)] [] [0] (nd (slices.Index_int_int.l0.spec a0 a1 K 0 _ e1) trivial) (by kernel_rfl)
  · obtain rfl := Option.some.inj h
    exact Den.Spec.of_walk tab mixed Try.func112 (by kernel_rfl) [.loop [] [0, 1, 7, 8] [0] (.exit 0) (slices.Index_int_int.l0.e1 a0 a1 x1)] [] [0] (nd (slices.Index_int_int.l0.spec a0 a1 K 0 _ e1) trivial) (by kernel_rfl)
def impl.NodeOk.l0.f (K : Nat) (a0 : Bool) (a1 : List ByteArray) (a2 : List Int) (a3 : ByteArray) : Nat → Int → Option (Unit ⊕ Unit)
  | 0, _ => none
  | k + 1, v38_0 =>
    cond (decide (v38_0 < (a1.length : Int))) (ck (0 ≤ v38_0) (Option.bind (impl.NameOk.f K (a1.getD v38_0.toNat noVal)) fun x1 => cond (x1) (cond (decide (v38_0 > 0)) (ck (0 ≤ (w64 (v38_0 - 1))) (ck ((w64 (v38_0 - 1)) < (a1.length : Int)) (cond (strLt (a1.getD ((w64 (v38_0 - 1)).toNat) noVal) (a1.getD v38_0.toNat noVal)) (ck (v38_0 < (a2.length : Int)) (Option.bind (impl.isKid.f (a2.getD v38_0.toNat 0)) fun x2 => cond (x2) (Option.bind (slices.Index_int_int.f K a2 (a2.getD v38_0.toNat 0)) fun x3 => cond (x3 != v38_0) (some (.inl ())) (impl.NodeOk.l0.f K a0 a1 a2 a3 k (w64 (v38_0 + 1)))) (some (.inl ())))) (some (.inl ()))))) (ck (v38_0 < (a2.length : Int)) (Option.bind (impl.isKid.f (a2.getD v38_0.toNat 0)) fun x2 => cond (x2) (Option.bind (slices.Index_int_int.f K a2 (a2.getD v38_0.toNat 0)) fun x3 => cond (x3 != v38_0) (some (.inl ())) (impl.NodeOk.l0.f K a0 a1 a2 a3 k (w64 (v38_0 + 1)))) (some (.inl ()))))) (some (.inl ())))) (some (.inr (())))
def impl.NodeOk.l0.s (K : Nat) (a0 : Bool) (a1 : List ByteArray) (a2 : List Int) (a3 : ByteArray) (v38_0 : Int) : St := mkSt 83 [(1, one (.ptr 2 0 0)), (37, one (.sl 0 0 a1.length)), (38, one (.int .i64 (a1.length : Int))), (39, one (.int .i64 v38_0))] [some ⟨false, .strs a1⟩, some ⟨false, .ints .i64 a2⟩, some ⟨true, .cells [.bool a0, .sl 0 0 a1.length, .sl 1 0 a2.length, .str a3]⟩]
def impl.NodeOk.l0.e0 (K : Nat) (a0 : Bool) (a1 : List ByteArray) (a2 : List Int) (a3 : ByteArray) (o : Unit) : St := mkSt 83 [(2, one (.bool false))] [some ⟨false, .strs a1⟩, some ⟨false, .ints .i64 a2⟩]
def impl.NodeOk.l0.e1 (K : Nat) (a0 : Bool) (a1 : List ByteArray) (a2 : List Int) (a3 : ByteArray) (o : Unit) : St := mkSt 83 [] [some ⟨false, .strs a1⟩, some ⟨false, .ints .i64 a2⟩]
def impl.NodeOk.l0.x (K : Nat) (a0 : Bool) (a1 : List ByteArray) (a2 : List Int) (a3 : ByteArray) : (Unit ⊕ Unit) → AExit × St := Sum.elim (fun o => (.ret, impl.NodeOk.l0.e0 K a0 a1 a2 a3 o)) (fun o => (.exit 0, impl.NodeOk.l0.e1 K a0 a1 a2 a3 o))
theorem impl.NodeOk.l0.spec (K : Nat) (a0 : Bool) (a1 : List ByteArray) (a2 : List Int) (a3 : ByteArray) : ∀ (k : Nat) (v38_0 : Int) (o : Unit ⊕ Unit), impl.NodeOk.l0.f K a0 a1 a2 a3 k v38_0 = some o → LoopSpec Try.prog 2 (loopN Try.f67 0) (impl.NodeOk.l0.s K a0 a1 a2 a3 v38_0) (impl.NodeOk.l0.x K a0 a1 a2 a3 o).1 (impl.NodeOk.l0.x K a0 a1 a2 a3 o).2
  | 0, _, _, h => by cases h
  | k + 1, v38_0, o, h => by
    unfold impl.NodeOk.l0.f at h
    rcases br_cases h with ⟨c1, h⟩ | ⟨c1, h⟩
    · obtain ⟨p1, h⟩ := ck_some h
      obtain ⟨x1, e1, h⟩ := bind_some h
      rcases br_cases h with ⟨c2, h⟩ | ⟨c2, h⟩
      · rcases br_cases h with ⟨c3, h⟩ | ⟨c3, h⟩
        · obtain ⟨p2, h⟩ := ck_some h
          obtain ⟨p3, h⟩ := ck_some h
          rcases br_cases h with ⟨c4, h⟩ | ⟨c4, h⟩
          · obtain ⟨p4, h⟩ := ck_some h
            obtain ⟨x2, e2, h⟩ := bind_some h
            rcases br_cases h with ⟨c5, h⟩ | ⟨c5, h⟩
            · obtain ⟨x3, e3, h⟩ := bind_some h
              rcases br_cases h with ⟨c6, h⟩ | ⟨c6, h⟩
              · obtain rfl := Option.some.inj h
                exact .of_done tab mixed [.br true, .call [] [] (one (.bool x1)) [], .br false, .br false, .br false, .br true, .br true, .br true, .br true, .br true, .br true, .br true, .br true, .br false, .br true, .br false, .br false, .br false, .br false, .br false, .br false, .br false, .call [] [] (one (.bool x2)) [], .br false, .br false, .br false, .br false, .br false, .br false, .br false, .br false, .br false, .br false, .call [] [(0, true)] (one (.int .i64 x3)) [some ⟨false, .ints .i64 a2⟩], .br false, .br false, .br false, .br true] [] [2] [0, 1] rfl (nd c1 (nd p1 (nd (of_decide_eq_true c1) (nd (tn p1 (of_decide_eq_true c1)) (nd (impl.NameOk.spec K (a1.getD v38_0.toNat noVal) _ e1) (nd (nf c2) (nd (nf c2) (nd (nf c2) (nd c3 (nd c3 (nd c3 (nd c3 (nd c3 (nd p2 (nd p3 (nd c3 (nd (tn p2 p3) (nd c3 (nd c3 (nd (nf c2) (nd c3 (nd (nf c2) (nd (nf c4) (nd (nf c4) (nd (nf c4) (nd (nf c4) (nd p1 (nd p4 (nd (nf c4) (nd (tn p1 p4) (nd (nf c4) (nd (impl.isKid.spec (a2.getD v38_0.toNat 0) _ e2) (nd (nf c4) (nd (nf c4) (nd (nf c5) (nd (nf c5) (nd (nf c5) (nd (nf c5) (nd (nf c5) (nd (nf c5) (nd p1 (nd p4 (nd (nf c5) (nd (tn p1 p4) (nd (nf c5) (nd (slices.Index_int_int.spec K a2 (a2.getD v38_0.toNat 0) _ e3) (nd (rfl : (0 : Nat) = 0) (nd (rfl : a2.length = a2.length) (nd (nf c5) (nd (nf c5) (nd (nf c5) (nd c6 trivial)))))))))))))))))))))))))))))))))))))))))))))))))))) (by kernel_rfl)
              · exact .of_step tab mixed [.br true, .call [] [] (one (.bool x1)) [], .br false, .br false, .br false, .br true, .br true, .br true, .br true, .br true, .br true, .br true, .br true, .br false, .br true, .br false, .br false, .br false, .br false, .br false, .br false, .br false, .call [] [] (one (.bool x2)) [], .br false, .br false, .br false, .br false, .br false, .br false, .br false, .br false, .br false, .br false, .call [] [(0, true)] (one (.int .i64 x3)) [some ⟨false, .ints .i64 a2⟩], .br false, .br false, .br false, .br false] [] [1, 37, 38, 39] [0, 1, 2] (s1 := impl.NodeOk.l0.s K a0 a1 a2 a3 (w64 (v38_0 + 1))) (nd c1 (nd p1 (nd (of_decide_eq_true c1) (nd (tn p1 (of_decide_eq_true c1)) (nd (impl.NameOk.spec K (a1.getD v38_0.toNat noVal) _ e1) (nd (nf c2) (nd (nf c2) (nd (nf c2) (nd c3 (nd c3 (nd c3 (nd c3 (nd c3 (nd p2 (nd p3 (nd c3 (nd (tn p2 p3) (nd c3 (nd c3 (nd (nf c2) (nd c3 (nd (nf c2) (nd (nf c4) (nd (nf c4) (nd (nf c4) (nd (nf c4) (nd p1 (nd p4 (nd (nf c4) (nd (tn p1 p4) (nd (nf c4) (nd (impl.isKid.spec (a2.getD v38_0.toNat 0) _ e2) (nd (nf c4) (nd (nf c4) (nd (nf c5) (nd (nf c5) (nd (nf c5) (nd (nf c5) (nd (nf c5) (nd (nf c5) (nd p1 (nd p4 (nd (nf c5) (nd (tn p1 p4) (nd (nf c5) (nd (slices.Index_int_int.spec K a2 (a2.getD v38_0.toNat 0) _ e3) (nd (rfl : (0 : Nat) = 0) (nd (rfl : a2.length = a2.length) (nd (nf c5) (nd (nf c5) (nd (nf c5) (nd c6 trivial)))))))))))))))))))))))))))))))))))))))))))))))))))) (by kernel_rfl) (impl.NodeOk.l0.spec K a0 a1 a2 a3 k (w64 (v38_0 + 1)) _ h)
            · obtain rfl := Option.some.inj h
              exact .of_done tab mixed [.br true, .call [] [] (one (.bool x1)) [], .br false, .br false, .br false, .br true, .br true, .br true, .br true, .br true, .br true, .br true, .br true, .br false, .br true, .br false, .br false, .br false, .br false, .br false, .br false, .br false, .call [] [] (one (.bool x2)) [], .br false, .br false, .br true, .br true, .br true, .br true, .br true, .br true, .br true, .br true, .br true, .br true, .br true, .br true] [] [2] [0, 1] rfl (nd c1 (nd p1 (nd (of_decide_eq_true c1) (nd (tn p1 (of_decide_eq_true c1)) (nd (impl.NameOk.spec K (a1.getD v38_0.toNat noVal) _ e1) (nd (nf c2) (nd (nf c2) (nd (nf c2) (nd c3 (nd c3 (nd c3 (nd c3 (nd c3 (nd p2 (nd p3 (nd c3 (nd (tn p2 p3) (nd c3 (nd c3 (nd (nf c2) (nd c3 (nd (nf c2) (nd (nf c4) (nd (nf c4) (nd (nf c4) (nd (nf c4) (nd p1 (nd p4 (nd (nf c4) (nd (tn p1 p4) (nd (nf c4) (nd (impl.isKid.spec (a2.getD v38_0.toNat 0) _ e2) (nd (nf c4) (nd (nf c4) (nd (nt c5) (nd (nt c5) (nd (nt c5) (nd (nt c5) (nd (nt c5) (nd (nt c5) (nd (nt c5) (nd (nt c5) (nd (nt c5) (nd (nt c5) (nd (nt c5) (nd tt trivial)))))))))))))))))))))))))))))))))))))))))))))) (by kernel_rfl)
          · obtain rfl := Option.some.inj h
            exact .of_done tab mixed [.br true, .call [] [] (one (.bool x1)) [], .br false, .br false, .br false, .br true, .br true, .br true, .br true, .br true, .br true, .br true, .br true, .br false, .br true, .br false, .br true, .br true, .br true, .br true, .br true, .br true, .br true, .br true, .br true, .br true, .br true, .br true, .br true, .br true, .br true, .br true, .br true, .br true, .br true, .br true] [] [2] [0, 1] rfl (nd c1 (nd p1 (nd (of_decide_eq_true c1) (nd (tn p1 (of_decide_eq_true c1)) (nd (impl.NameOk.spec K (a1.getD v38_0.toNat noVal) _ e1) (nd (nf c2) (nd (nf c2) (nd (nf c2) (nd c3 (nd c3 (nd c3 (nd c3 (nd c3 (nd p2 (nd p3 (nd c3 (nd (tn p2 p3) (nd c3 (nd c3 (nd (nf c2) (nd c3 (nd (nf c2) (nd (nt c4) (nd (nt c4) (nd (nt c4) (nd (nt c4) (nd (nt c4) (nd (nt c4) (nd (nt c4) (nd (nt c4) (nd tt (nd tt (nd tt (nd tt (nd tt (nd tt (nd tt (nd tt (nd tt (nd tt (nd tt (nd tt trivial)))))))))))))))))))))))))))))))))))))))))) (by kernel_rfl)
        · obtain ⟨p2, h⟩ := ck_some h
          obtain ⟨x2, e2, h⟩ := bind_some h
          rcases br_cases h with ⟨c4, h⟩ | ⟨c4, h⟩
          · obtain ⟨x3, e3, h⟩ := bind_some h
            rcases br_cases h with ⟨c5, h⟩ | ⟨c5, h⟩
            · obtain rfl := Option.some.inj h
              exact .of_done tab mixed [.br true, .call [] [] (one (.bool x1)) [], .br false, .br false, .br false, .br false, .br false, .br false, .br false, .br false, .br false, .br false, .br false, .br false, .br false, .br false, .br false, .br false, .br false, .br false, .br false, .br false, .call [] [] (one (.bool x2)) [], .br false, .br false, .br false, .br false, .br false, .br false, .br false, .br false, .br false, .br false, .call [] [(0, true)] (one (.int .i64 x3)) [some ⟨false, .ints .i64 a2⟩], .br false, .br false, .br false, .br true] [] [2] [0, 1] rfl (nd c1 (nd p1 (nd (of_decide_eq_true c1) (nd (tn p1 (of_decide_eq_true c1)) (nd (impl.NameOk.spec K (a1.getD v38_0.toNat noVal) _ e1) (nd (nf c2) (nd (nf c2) (nd (nf c2) (nd c3 (nd c3 (nd c3 (nd c3 (nd c3 (nd c3 (nd c3 (nd c3 (nd (nf c2) (nd c3 (nd (nf c2) (nd ff (nd ff (nd ff (nd ff (nd p1 (nd p2 (nd ff (nd (tn p1 p2) (nd ff (nd (impl.isKid.spec (a2.getD v38_0.toNat 0) _ e2) (nd ff (nd ff (nd (nf c4) (nd (nf c4) (nd (nf c4) (nd (nf c4) (nd (nf c4) (nd (nf c4) (nd p1 (nd p2 (nd (nf c4) (nd (tn p1 p2) (nd (nf c4) (nd (slices.Index_int_int.spec K a2 (a2.getD v38_0.toNat 0) _ e3) (nd (rfl : (0 : Nat) = 0) (nd (rfl : a2.length = a2.length) (nd (nf c4) (nd (nf c4) (nd (nf c4) (nd c5 trivial))))))))))))))))))))))))))))))))))))))))))))))))) (by kernel_rfl)
            · exact .of_step tab mixed [.br true, .call [] [] (one (.bool x1)) [], .br false, .br false, .br false, .br false, .br false, .br false, .br false, .br false, .br false, .br false, .br false, .br false, .br false, .br false, .br false, .br false, .br false, .br false, .br false, .br false, .call [] [] (one (.bool x2)) [], .br false, .br false, .br false, .br false, .br false, .br false, .br false, .br false, .br false, .br false, .call [] [(0, true)] (one (.int .i64 x3)) [some ⟨false, .ints .i64 a2⟩], .br false, .br false, .br false, .br false] [] [1, 37, 38, 39] [0, 1, 2] (s1 := impl.NodeOk.l0.s K a0 a1 a2 a3 (w64 (v38_0 + 1))) (nd c1 (nd p1 (nd (of_decide_eq_true c1) (nd (tn p1 (of_decide_eq_true c1)) (nd (impl.NameOk.spec K (a1.getD v38_0.toNat noVal) _ e1) (nd (nf c2) (nd (nf c2) (nd (nf c2) (nd c3 (nd c3 (nd c3 (nd c3 (nd c3 (nd c3 (nd c3 (nd c3 (nd (nf c2) (nd c3 (nd (nf c2) (nd ff (nd ff (nd ff (nd ff (nd p1 (nd p2 (nd ff (nd (tn p1 p2) (nd ff (nd (impl.isKid.spec (a2.getD v38_0.toNat 0) _ e2) (nd ff (nd ff (nd (nf c4) (nd (nf c4) (nd (nf c4) (nd (nf c4) (nd (nf c4) (nd (nf c4) (nd p1 (nd p2 (nd (nf c4) (nd (tn p1 p2) (nd (nf c4) (nd (slices.Index_int_int.spec K a2 (a2.getD v38_0.toNat 0) _ e3) (nd (rfl : (0 : Nat) = 0) (nd (rfl : a2.length = a2.length) (nd (nf c4) (nd (nf c4) (nd (nf c4) (nd c5 trivial))))))))))))))))))))))))))))))))))))))))))))))))) (by kernel_rfl) (impl.NodeOk.l0.spec K a0 a1 a2 a3 k (w64 (v38_0 + 1)) _ h)
          · obtain rfl := Option.some.inj h
            exact .of_done tab mixed [.br true, .call [] [] (one (.bool x1)) [], .br false, .br false, .br false, .br false, .br false, .br false, .br false, .br false, .br false, .br false, .br false, .br false, .br false, .br false, .br false, .br false, .br false, .br false, .br false, .br false, .call [] [] (one (.bool x2)) [], .br false, .br false, .br true, .br true, .br true, .br true, .br true, .br true, .br true, .br true, .br true, .br true, .br true, .br true] [] [2] [0, 1] rfl (nd c1 (nd p1 (nd (of_decide_eq_true c1) (nd (tn p1 (of_decide_eq_true c1)) (nd (impl.NameOk.spec K (a1.getD v38_0.toNat noVal) _ e1) (nd (nf c2) (nd (nf c2) (nd (nf c2) (nd c3 (nd c3 (nd c3 (nd c3 (nd c3 (nd c3 (nd c3 (nd c3 (nd (nf c2) (nd c3 (nd (nf c2) (nd ff (nd ff (nd ff (nd ff (nd p1 (nd p2 (nd ff (nd (tn p1 p2) (nd ff (nd (impl.isKid.spec (a2.getD v38_0.toNat 0) _ e2) (nd ff (nd ff (nd (nt c4) (nd (nt c4) (nd (nt c4) (nd (nt c4) (nd (nt c4) (nd (nt c4) (nd (nt c4) (nd (nt c4) (nd (nt c4) (nd (nt c4) (nd (nt c4) (nd tt trivial))))))))))))))))))))))))))))))))))))))))))) (by kernel_rfl)
      · obtain rfl := Option.some.inj h
        exact .of_done tab mixed [.br true, .call [] [] (one (.bool x1)) [], .br true, .br true, .br true, .br true, .br true, .br true, .br true, .br true, .br true, .br true, .br true, .br true, .br true, .br true, .br true, .br true, .br true, .br true, .br true, .br true, .br true, .br true, .br true, .br true, .br true] [] [2] [0, 1] rfl (nd c1 (nd p1 (nd (of_decide_eq_true c1) (nd (tn p1 (of_decide_eq_true c1)) (nd (impl.NameOk.spec K (a1.getD v38_0.toNat noVal) _ e1) (nd (nt c2) (nd (nt c2) (nd (nt c2) (nd (nt c2) (nd (nt c2) (nd tt (nd tt (nd tt (nd tt (nd tt (nd tt (nd tt (nd tt (nd tt (nd tt (nd tt (nd tt (nd tt (nd tt (nd tt (nd tt (nd tt (nd tt (nd tt (nd tt trivial)))))))))))))))))))))))))))))) (by kernel_rfl)
    · obtain rfl := Option.some.inj h
      exact .of_done tab mixed [.br false] [] [] [0, 1] rfl (nd c1 trivial) (by kernel_rfl)
def impl.NodeOk.f (K : Nat) (a0 : Bool) (a1 : List ByteArray) (a2 : List Int) (a3 : ByteArray) : Option (Bool) :=
  cond (a0) (cond ((a1.length : Int) != (a2.length : Int)) (some false) (cond (strEq a3 noVal) (Option.bind (impl.NodeOk.l0.f K a0 a1 a2 a3 K 0) fun x1 => (Sum.elim (fun x1 => some false) (fun x1 => some true)) x1) (some false))) (cond ((a1.length : Int) == 0) (cond ((a2.length : Int) == 0) (some (decide ((a3.size : Int) ≤ 60))) (some false)) (some false))
theorem impl.NodeOk.spec (K : Nat) (a0 : Bool) (a1 : List ByteArray) (a2 : List Int) (a3 : ByteArray) (o : Bool) (h : impl.NodeOk.f K a0 a1 a2 a3 = some o) : Den.Spec Try.prog 67 [.v (.agg [.bool a0, .sl 0 0 a1.length, .sl 1 0 a2.length, .str a3])] [some ⟨false, .strs a1⟩, some ⟨false, .ints .i64 a2⟩] (one (.bool o)) [some ⟨false, .strs a1⟩, some ⟨false, .ints .i64 a2⟩] := by
  unfold impl.NodeOk.f at h
  rcases br_cases h with ⟨c1, h⟩ | ⟨c1, h⟩
  · rcases br_cases h with ⟨c2, h⟩ | ⟨c2, h⟩
    · obtain rfl := Option.some.inj h
      exact Den.Spec.of_walk tab mixed Try.func67 (by kernel_rfl) [.br false, .br true, .br true, .br true, .br true, .br true] [] [0, 1] (nd (nf c1) (nd c2 (nd c2 (nd c2 (nd c2 (nd tt trivial)))))) (by kernel_rfl)
    · rcases br_cases h with ⟨c3, h⟩ | ⟨c3, h⟩
      · obtain ⟨x1, e1, h⟩ := bind_some h
        rcases x1 with x1 | x1
        · obtain rfl := Option.some.inj h
          exact Den.Spec.of_walk tab mixed Try.func67 (by kernel_rfl) [.br false, .br false, .br false, .br false, .br false, .br false, .loop [] [1, 37, 38, 39] [0, 1, 2] (.ret) (impl.NodeOk.l0.e0 K a0 a1 a2 a3 x1)] [] [0, 1] (nd (nf c1) (nd c2 (nd c2 (nd c2 (nd c2 (nd (nf c3) (nd (impl.NodeOk.l0.spec K a0 a1 a2 a3 K 0 _ e1) trivial))))))) (by kernel_rfl)
        · obtain rfl := Option.some.inj h
          exact Den.Spec.of_walk tab mixed Try.func67 (by kernel_rfl) [.br false, .br false, .br false, .br false, .br false, .br false, .loop [] [1, 37, 38, 39] [0, 1, 2] (.exit 0) (impl.NodeOk.l0.e1 K a0 a1 a2 a3 x1)] [] [0, 1] (nd (nf c1) (nd c2 (nd c2 (nd c2 (nd c2 (nd (nf c3) (nd (impl.NodeOk.l0.spec K a0 a1 a2 a3 K 0 _ e1) trivial))))))) (by kernel_rfl)
      · obtain rfl := Option.some.inj h
        exact Den.Spec.of_walk tab mixed Try.func67 (by kernel_rfl) [.br false, .br false, .br false, .br false, .br false, .br true] [] [0, 1] (nd (nf c1) (nd c2 (nd c2 (nd c2 (nd c2 (nd (nt c3) trivial)))))) (by kernel_rfl)
  · rcases br_cases h with ⟨c2, h⟩ | ⟨c2, h⟩
    · rcases br_cases h with ⟨c3, h⟩ | ⟨c3, h⟩
      · obtain rfl := Option.some.inj h
        exact Den.Spec.of_walk tab mixed Try.func67 (by kernel_rfl) [.br true, .br true, .br true, .br true, .br true, .br true, .br true, .br true, .br true, .br true, .br true] [] [0, 1] (nd (nt c1) (nd c2 (nd c2 (nd c2 (nd c2 (nd c2 (nd c3 (nd c3 (nd c3 (nd c3 (nd c3 trivial))))))))))) (by kernel_rfl)
      · obtain rfl := Option.some.inj h
        exact Den.Spec.of_walk tab mixed Try.func67 (by kernel_rfl) [.br true, .br true, .br true, .br true, .br true, .br true, .br false, .br false, .br false, .br false, .br false] [] [0, 1] (nd (nt c1) (nd c2 (nd c2 (nd c2 (nd c2 (nd c2 (nd c3 (nd c3 (nd c3 (nd c3 (nd c3 trivial))))))))))) (by kernel_rfl)
    · obtain rfl := Option.some.inj h
      exact Den.Spec.of_walk tab mixed Try.func67 (by kernel_rfl) [.br true, .br false, .br false, .br false, .br false, .br false, .br false, .br false, .br false, .br false, .br false] [] [0, 1] (nd (nt c1) (nd c2 (nd c2 (nd c2 (nd c2 (nd c2 (nd ff (nd ff (nd ff (nd ff (nd ff trivial))))))))))) (by kernel_rfl)
def impl.NodeText.l0.f (a0 : Bool) (a1 : List ByteArray) (a2 : List Int) (a3 : ByteArray) : Nat → (List Int) → Int → Option ((List Int))
  | 0, _, _ => none
  | k + 1, v41_0, v41_1 =>
    cond (decide (v41_1 < (a1.length : Int))) (ck (0 ≤ v41_1) (ck ((v41_0 ++ (bytesL (a1.getD v41_1.toNat noVal))).length * 1 ≤ 70368744177664) (ck (v41_1 < (a2.length : Int)) (ck (((v41_0 ++ (bytesL (a1.getD v41_1.toNat noVal))) ++ [61, IntKind.u8.wrap (w64 (48 + (a2.getD v41_1.toNat 0)))]).length * 1 ≤ 70368744177664) (impl.NodeText.l0.f a0 a1 a2 a3 k ((v41_0 ++ (bytesL (a1.getD v41_1.toNat noVal))) ++ [61, IntKind.u8.wrap (w64 (48 + (a2.getD v41_1.toNat 0)))]) (w64 (v41_1 + 1))))))) (some v41_0)
def impl.NodeText.l0.s (a0 : Bool) (a1 : List ByteArray) (a2 : List Int) (a3 : ByteArray) (v41_0 : List Int) (v41_1 : Int) : St := mkSt 40 [(1, one (.ptr 2 0 0)), (3, one (.sl 3 0 v41_0.length)), (18, one (.sl 0 0 a1.length)), (19, one (.int .i64 (a1.length : Int))), (20, one (.int .i64 v41_1))] [some ⟨false, .strs a1⟩, some ⟨false, .ints .i64 a2⟩, some ⟨true, .cells [.bool a0, .sl 0 0 a1.length, .sl 1 0 a2.length, .str a3]⟩, some ⟨true, .ints .u8 v41_0⟩]
def impl.NodeText.l0.e0 (a0 : Bool) (a1 : List ByteArray) (a2 : List Int) (a3 : ByteArray) (o : (List Int)) : St := mkSt 40 [(3, one (.sl 2 0 o.length))] [some ⟨false, .strs a1⟩, some ⟨false, .ints .i64 a2⟩, some ⟨true, .ints .u8 o⟩]
def impl.NodeText.l0.x (a0 : Bool) (a1 : List ByteArray) (a2 : List Int) (a3 : ByteArray) : ((List Int)) → AExit × St := fun o => (.exit 0, impl.NodeText.l0.e0 a0 a1 a2 a3 o)
theorem impl.NodeText.l0.spec (a0 : Bool) (a1 : List ByteArray) (a2 : List Int) (a3 : ByteArray) : ∀ (k : Nat) (v41_0 : List Int) (v41_1 : Int) (o : (List Int)), impl.NodeText.l0.f a0 a1 a2 a3 k v41_0 v41_1 = some o → LoopSpec Try.prog 2 (loopN Try.f38 0) (impl.NodeText.l0.s a0 a1 a2 a3 v41_0 v41_1) (impl.NodeText.l0.x a0 a1 a2 a3 o).1 (impl.NodeText.l0.x a0 a1 a2 a3 o).2
  | 0, _, _, _, h => by cases h
  | k + 1, v41_0, v41_1, o, h => by
    unfold impl.NodeText.l0.f at h
    rcases br_cases h with ⟨c1, h⟩ | ⟨c1, h⟩
    · obtain ⟨p1, h⟩ := ck_some h
      obtain ⟨p2, h⟩ := ck_some h
      obtain ⟨p3, h⟩ := ck_some h
      obtain ⟨p4, h⟩ := ck_some h
      exact .of_step tab mixed [.br true, .br true] [] [1, 3, 18, 19, 20] [0, 1, 2, 92] (s1 := impl.NodeText.l0.s a0 a1 a2 a3 ((v41_0 ++ (bytesL (a1.getD v41_1.toNat noVal))) ++ [61, IntKind.u8.wrap (w64 (48 + (a2.getD v41_1.toNat 0)))]) (w64 (v41_1 + 1))) (nd c1 (nd p1 (nd (of_decide_eq_true c1) (nd (tn p1 (of_decide_eq_true c1)) (nd (rfl : (0 : Nat) = 0) (nd (rfl : v41_0.length = v41_0.length) (nd p2 (nd p1 (nd p3 (nd (tn p1 p3) (nd (rfl : (0 : Nat) = 0) (nd (rfl : (v41_0 ++ (bytesL (a1.getD v41_1.toNat noVal))).length = (v41_0 ++ (bytesL (a1.getD v41_1.toNat noVal))).length) (nd p4 (nd (rfl : (0 : Nat) = 0) (nd (rfl : 2 = 2) trivial))))))))))))))) (by kernel_rfl) (impl.NodeText.l0.spec a0 a1 a2 a3 k ((v41_0 ++ (bytesL (a1.getD v41_1.toNat noVal))) ++ [61, IntKind.u8.wrap (w64 (48 + (a2.getD v41_1.toNat 0)))]) (w64 (v41_1 + 1)) _ h)
    · obtain rfl := Option.some.inj h
      exact .of_done tab mixed [.br false] [] [3] [0, 1, 3] rfl (nd c1 trivial) (by kernel_rfl)
def impl.NodeText.f (K : Nat) (a0 : Bool) (a1 : List ByteArray) (a2 : List Int) (a3 : ByteArray) : Option (ByteArray) :=
  Option.bind (impl.NodeOk.f K a0 a1 a2 a3) fun x1 => cond (x1) (cond (a0) (Option.bind (impl.NodeText.l0.f a0 a1 a2 a3 K [100] 0) fun x2 => some (ofBytes x2)) (ck ((((ByteArray.mk #[102]).size + a3.size : Nat) : Int) ≤ 9223372036854775807) (some ((ByteArray.mk #[102]) ++ a3)))) (some noVal)
theorem impl.NodeText.spec (K : Nat) (a0 : Bool) (a1 : List ByteArray) (a2 : List Int) (a3 : ByteArray) (o : ByteArray) (h : impl.NodeText.f K a0 a1 a2 a3 = some o) : Den.Spec Try.prog 38 [.v (.agg [.bool a0, .sl 0 0 a1.length, .sl 1 0 a2.length, .str a3])] [some ⟨false, .strs a1⟩, some ⟨false, .ints .i64 a2⟩] (one (.str o)) [some ⟨false, .strs a1⟩, some ⟨false, .ints .i64 a2⟩] := by
  unfold impl.NodeText.f at h
  obtain ⟨x1, e1, h⟩ := bind_some h
  rcases br_cases h with ⟨c1, h⟩ | ⟨c1, h⟩
  · rcases br_cases h with ⟨c2, h⟩ | ⟨c2, h⟩
    · obtain ⟨x2, e2, h⟩ := bind_some h
      obtain rfl := Option.some.inj h
      exact Den.Spec.of_walk tab mixed Try.func38 (by kernel_rfl) [.call [(0, false), (1, false)] [] (one (.bool x1)) [some ⟨false, .strs a1⟩, some ⟨false, .ints .i64 a2⟩], .br false, .br false, .loop [] [1, 3, 18, 19, 20] [0, 1, 2, 3] (.exit 0) (impl.NodeText.l0.e0 a0 a1 a2 a3 x2), .br true] [] [0, 1] (nd (impl.NodeOk.spec K a0 a1 a2 a3 _ e1) (nd (nf c1) (nd (nf c2) (nd (by decide : ((0 : Nat) < 1)) (nd (impl.NodeText.l0.spec a0 a1 a2 a3 K [100] 0 _ e2) (nd (rfl : (0 : Nat) = 0) (nd (rfl : x2.length = x2.length) trivial))))))) (by kernel_rfl)
    · obtain ⟨p1, h⟩ := ck_some h
      obtain rfl := Option.some.inj h
      exact Den.Spec.of_walk tab mixed Try.func38 (by kernel_rfl) [.call [(0, false), (1, false)] [] (one (.bool x1)) [some ⟨false, .strs a1⟩, some ⟨false, .ints .i64 a2⟩], .br false, .br true] [] [0, 1] (nd (impl.NodeOk.spec K a0 a1 a2 a3 _ e1) (nd (nf c1) (nd (nt c2) (nd p1 trivial)))) (by kernel_rfl)
  · obtain rfl := Option.some.inj h
    exact Den.Spec.of_walk tab mixed Try.func38 (by kernel_rfl) [.call [(0, false), (1, false)] [] (one (.bool x1)) [some ⟨false, .strs a1⟩, some ⟨false, .ints .i64 a2⟩], .br true] [] [0, 1] (nd (impl.NodeOk.spec K a0 a1 a2 a3 _ e1) (nd (nt c1) trivial)) (by kernel_rfl)
def laws.eqStringS.l0.f (a0 : List ByteArray) (a1 : List ByteArray) : Nat → Int → Option (Unit ⊕ Unit)
  | 0, _ => none
  | k + 1, v44_0 =>
    cond (decide (v44_0 < (a0.length : Int))) (ck (0 ≤ v44_0) (ck (v44_0 < (a1.length : Int)) (cond (strEq (a0.getD v44_0.toNat noVal) (a1.getD v44_0.toNat noVal)) (laws.eqStringS.l0.f a0 a1 k (w64 (v44_0 + 1))) (some (.inl ()))))) (some (.inr (())))
def laws.eqStringS.l0.s (a0 : List ByteArray) (a1 : List ByteArray) (v44_0 : Int) : St := mkSt 26 [(0, one (.sl 0 0 a0.length)), (1, one (.sl 1 0 a1.length)), (5, one (.int .i64 v44_0))] [some ⟨false, .strs a0⟩, some ⟨false, .strs a1⟩]
def laws.eqStringS.l0.e0 (a0 : List ByteArray) (a1 : List ByteArray) (o : Unit) : St := mkSt 26 [(4, one (.bool false))] [some ⟨false, .strs a0⟩, some ⟨false, .strs a1⟩]
def laws.eqStringS.l0.e1 (a0 : List ByteArray) (a1 : List ByteArray) (o : Unit) : St := mkSt 26 [] [some ⟨false, .strs a0⟩, some ⟨false, .strs a1⟩]
def laws.eqStringS.l0.x (a0 : List ByteArray) (a1 : List ByteArray) : (Unit ⊕ Unit) → AExit × St := Sum.elim (fun o => (.ret, laws.eqStringS.l0.e0 a0 a1 o)) (fun o => (.exit 0, laws.eqStringS.l0.e1 a0 a1 o))
theorem laws.eqStringS.l0.spec (a0 : List ByteArray) (a1 : List ByteArray) : ∀ (k : Nat) (v44_0 : Int) (o : Unit ⊕ Unit), laws.eqStringS.l0.f a0 a1 k v44_0 = some o → LoopSpec Try.prog 2 (loopN Try.f64 0) (laws.eqStringS.l0.s a0 a1 v44_0) (laws.eqStringS.l0.x a0 a1 o).1 (laws.eqStringS.l0.x a0 a1 o).2
  | 0, _, _, h => by cases h
  | k + 1, v44_0, o, h => by
    unfold laws.eqStringS.l0.f at h
    rcases br_cases h with ⟨c1, h⟩ | ⟨c1, h⟩
    · obtain ⟨p1, h⟩ := ck_some h
      obtain ⟨p2, h⟩ := ck_some h
      rcases br_cases h with ⟨c2, h⟩ | ⟨c2, h⟩
      · exact .of_step tab mixed [.br true, .br false] [] [0, 1, 5] [0, 1] (s1 := laws.eqStringS.l0.s a0 a1 (w64 (v44_0 + 1))) (nd c1 (nd p1 (nd (of_decide_eq_true c1) (nd (tn p1 (of_decide_eq_true c1)) (nd p1 (nd p2 (nd (tn p1 p2) (nd (nf c2) trivial)))))))) (by kernel_rfl) (laws.eqStringS.l0.spec a0 a1 k (w64 (v44_0 + 1)) _ h)
      · obtain rfl := Option.some.inj h
        exact .of_done tab mixed [.br true, .br true] [] [4] [0, 1] rfl (nd c1 (nd p1 (nd (of_decide_eq_true c1) (nd (tn p1 (of_decide_eq_true c1)) (nd p1 (nd p2 (nd (tn p1 p2) (nd (nt c2) trivial)))))))) (by kernel_rfl)
    · obtain rfl := Option.some.inj h
      exact .of_done tab mixed [.br false] [] [] [0, 1] rfl (nd c1 trivial) (by kernel_rfl)
def laws.eqStringS.f (K : Nat) (a0 : List ByteArray) (a1 : List ByteArray) : Option (Bool) :=
  cond ((a0.length : Int) != (a1.length : Int)) (some false) (Option.bind (laws.eqStringS.l0.f a0 a1 K 0) fun x1 => (Sum.elim (fun x1 => some false) (fun x1 => some true)) x1)
theorem laws.eqStringS.spec (K : Nat) (a0 : List ByteArray) (a1 : List ByteArray) (o : Bool) (h : laws.eqStringS.f K a0 a1 = some o) : Den.Spec Try.prog 64 [one (.sl 0 0 a0.length), one (.sl 1 0 a1.length)] [some ⟨false, .strs a0⟩, some ⟨false, .strs a1⟩] (one (.bool o)) [some ⟨false, .strs a0⟩, some ⟨false, .strs a1⟩] := by
  unfold laws.eqStringS.f at h
  rcases br_cases h with ⟨c1, h⟩ | ⟨c1, h⟩
  · obtain rfl := Option.some.inj h
    exact Den.Spec.of_walk tab mixed Try.func64 (by kernel_rfl) [.br true] [] [0, 1] (nd c1 trivial) (by kernel_rfl)
  · obtain ⟨x1, e1, h⟩ := bind_some h
    rcases x1 with x1 | x1
    · obtain rfl := Option.some.inj h
      exact Den.Spec.of_walk tab mixed Try.func64 (by kernel_rfl) [.br false, .loop [] [0, 1, 5] [0, 1] (.ret) (laws.eqStringS.l0.e0 a0 a1 x1)] [] [0, 1] (nd c1 (nd (laws.eqStringS.l0.spec a0 a1 K 0 _ e1) trivial)) (by kernel_rfl)
    · obtain rfl := Option.some.inj h
      exact Den.Spec.of_walk tab mixed Try.func64 (by kernel_rfl) [.br false, .loop [] [0, 1, 5] [0, 1] (.exit 0) (laws.eqStringS.l0.e1 a0 a1 x1)] [] [0, 1] (nd c1 (nd (laws.eqStringS.l0.spec a0 a1 K 0 _ e1) trivial)) (by kernel_rfl)
def laws.eqIntS.l0.f (a0 : List Int) (a1 : List Int) : Nat → Int → Option (Unit ⊕ Unit)
  | 0, _ => none
  | k + 1, v47_0 =>
    cond (decide (v47_0 < (a0.length : Int))) (ck (0 ≤ v47_0) (ck (v47_0 < (a1.length : Int)) (cond ((a0.getD v47_0.toNat 0) != (a1.getD v47_0.toNat 0)) (some (.inl ())) (laws.eqIntS.l0.f a0 a1 k (w64 (v47_0 + 1)))))) (some (.inr (())))
def laws.eqIntS.l0.s (a0 : List Int) (a1 : List Int) (v47_0 : Int) : St := mkSt 26 [(0, one (.sl 0 0 a0.length)), (1, one (.sl 1 0 a1.length)), (5, one (.int .i64 v47_0))] [some ⟨false, .ints .i64 a0⟩, some ⟨false, .ints .i64 a1⟩]
def laws.eqIntS.l0.e0 (a0 : List Int) (a1 : List Int) (o : Unit) : St := mkSt 26 [(4, one (.bool false))] [some ⟨false, .ints .i64 a0⟩, some ⟨false, .ints .i64 a1⟩]
def laws.eqIntS.l0.e1 (a0 : List Int) (a1 : List Int) (o : Unit) : St := mkSt 26 [] [some ⟨false, .ints .i64 a0⟩, some ⟨false, .ints .i64 a1⟩]
def laws.eqIntS.l0.x (a0 : List Int) (a1 : List Int) : (Unit ⊕ Unit) → AExit × St := Sum.elim (fun o => (.ret, laws.eqIntS.l0.e0 a0 a1 o)) (fun o => (.exit 0, laws.eqIntS.l0.e1 a0 a1 o))
theorem laws.eqIntS.l0.spec (a0 : List Int) (a1 : List Int) : ∀ (k : Nat) (v47_0 : Int) (o : Unit ⊕ Unit), laws.eqIntS.l0.f a0 a1 k v47_0 = some o → LoopSpec Try.prog 2 (loopN Try.f96 0) (laws.eqIntS.l0.s a0 a1 v47_0) (laws.eqIntS.l0.x a0 a1 o).1 (laws.eqIntS.l0.x a0 a1 o).2
  | 0, _, _, h => by cases h
  | k + 1, v47_0, o, h => by
    unfold laws.eqIntS.l0.f at h
    rcases br_cases h with ⟨c1, h⟩ | ⟨c1, h⟩
    · obtain ⟨p1, h⟩ := ck_some h
      obtain ⟨p2, h⟩ := ck_some h
      rcases br_cases h with ⟨c2, h⟩ | ⟨c2, h⟩
      · obtain rfl := Option.some.inj h
        exact .of_done tab mixed [.br true, .br true] [] [4] [0, 1] rfl (nd c1 (nd p1 (nd (of_decide_eq_true c1) (nd (tn p1 (of_decide_eq_true c1)) (nd p1 (nd p2 (nd (tn p1 p2) (nd c2 trivial)))))))) (by kernel_rfl)
      · exact .of_step tab mixed [.br true, .br false] [] [0, 1, 5] [0, 1] (s1 := laws.eqIntS.l0.s a0 a1 (w64 (v47_0 + 1))) (nd c1 (nd p1 (nd (of_decide_eq_true c1) (nd (tn p1 (of_decide_eq_true c1)) (nd p1 (nd p2 (nd (tn p1 p2) (nd c2 trivial)))))))) (by kernel_rfl) (laws.eqIntS.l0.spec a0 a1 k (w64 (v47_0 + 1)) _ h)
    · obtain rfl := Option.some.inj h
      exact .of_done tab mixed [.br false] [] [] [0, 1] rfl (nd c1 trivial) (by kernel_rfl)
def laws.eqIntS.f (K : Nat) (a0 : List Int) (a1 : List Int) : Option (Bool) :=
  cond ((a0.length : Int) != (a1.length : Int)) (some false) (Option.bind (laws.eqIntS.l0.f a0 a1 K 0) fun x1 => (Sum.elim (fun x1 => some false) (fun x1 => some true)) x1)
theorem laws.eqIntS.spec (K : Nat) (a0 : List Int) (a1 : List Int) (o : Bool) (h : laws.eqIntS.f K a0 a1 = some o) : Den.Spec Try.prog 96 [one (.sl 0 0 a0.length), one (.sl 1 0 a1.length)] [some ⟨false, .ints .i64 a0⟩, some ⟨false, .ints .i64 a1⟩] (one (.bool o)) [some ⟨false, .ints .i64 a0⟩, some ⟨false, .ints .i64 a1⟩] := by
  unfold laws.eqIntS.f at h
  rcases br_cases h with ⟨c1, h⟩ | ⟨c1, h⟩
  · obtain rfl := Option.some.inj h
    exact Den.Spec.of_walk tab mixed Try.func96 (by kernel_rfl) [.br true] [] [0, 1] (nd c1 trivial) (by kernel_rfl)
  · obtain ⟨x1, e1, h⟩ := bind_some h
    rcases x1 with x1 | x1
    · obtain rfl := Option.some.inj h
      exact Den.Spec.of_walk tab mixed Try.func96 (by kernel_rfl) [.br false, .loop [] [0, 1, 5] [0, 1] (.ret) (laws.eqIntS.l0.e0 a0 a1 x1)] [] [0, 1] (nd c1 (nd (laws.eqIntS.l0.spec a0 a1 K 0 _ e1) trivial)) (by kernel_rfl)
    · obtain rfl := Option.some.inj h
      exact Den.Spec.of_walk tab mixed Try.func96 (by kernel_rfl) [.br false, .loop [] [0, 1, 5] [0, 1] (.exit 0) (laws.eqIntS.l0.e1 a0 a1 x1)] [] [0, 1] (nd c1 (nd (laws.eqIntS.l0.spec a0 a1 K 0 _ e1) trivial)) (by kernel_rfl)
def laws.eqNode.f (K : Nat) (a0 : Bool) (a1 : List ByteArray) (a2 : List Int) (a3 : ByteArray) (a4 : Bool) (a5 : List ByteArray) (a6 : List Int) (a7 : ByteArray) : Option (Bool) :=
  cond (a0 == a4) (Option.bind (laws.eqStringS.f K a1 a5) fun x1 => cond (x1) (Option.bind (laws.eqIntS.f K a2 a6) fun x2 => cond (x2) (cond (strEq a3 a7) (some true) (some false)) (some false)) (some false)) (some false)
theorem laws.eqNode.spec (K : Nat) (a0 : Bool) (a1 : List ByteArray) (a2 : List Int) (a3 : ByteArray) (a4 : Bool) (a5 : List ByteArray) (a6 : List Int) (a7 : ByteArray) (o : Bool) (h : laws.eqNode.f K a0 a1 a2 a3 a4 a5 a6 a7 = some o) : Den.Spec Try.prog 39 [.v (.agg [.bool a0, .sl 0 0 a1.length, .sl 1 0 a2.length, .str a3]), .v (.agg [.bool a4, .sl 2 0 a5.length, .sl 3 0 a6.length, .str a7])] [some ⟨false, .strs a1⟩, some ⟨false, .ints .i64 a2⟩, some ⟨false, .strs a5⟩, some ⟨false, .ints .i64 a6⟩] (one (.bool o)) [some ⟨false, .strs a1⟩, some ⟨false, .ints .i64 a2⟩, some ⟨false, .strs a5⟩, some ⟨false, .ints .i64 a6⟩] := by
  unfold laws.eqNode.f at h
  rcases br_cases h with ⟨c1, h⟩ | ⟨c1, h⟩
  · obtain ⟨x1, e1, h⟩ := bind_some h
    rcases br_cases h with ⟨c2, h⟩ | ⟨c2, h⟩
    · obtain ⟨x2, e2, h⟩ := bind_some h
      rcases br_cases h with ⟨c3, h⟩ | ⟨c3, h⟩
      · rcases br_cases h with ⟨c4, h⟩ | ⟨c4, h⟩
        · obtain rfl := Option.some.inj h
          exact Den.Spec.of_walk tab mixed Try.func39 (by kernel_rfl) [.br false, .call [] [(0, true), (1, true)] (one (.bool x1)) [some ⟨false, .strs a1⟩, some ⟨false, .strs a5⟩], .br false, .call [] [(0, true), (1, true)] (one (.bool x2)) [some ⟨false, .ints .i64 a2⟩, some ⟨false, .ints .i64 a6⟩], .br false, .br false] [] [0, 1, 2, 3] (nd (nf c1) (nd (laws.eqStringS.spec K a1 a5 _ e1) (nd (rfl : (0 : Nat) = 0) (nd (rfl : a1.length = a1.length) (nd (rfl : (0 : Nat) = 0) (nd (rfl : a5.length = a5.length) (nd (nf c2) (nd (laws.eqIntS.spec K a2 a6 _ e2) (nd (rfl : (0 : Nat) = 0) (nd (rfl : a2.length = a2.length) (nd (rfl : (0 : Nat) = 0) (nd (rfl : a6.length = a6.length) (nd (nf c3) (nd (nf c4) trivial)))))))))))))) (by kernel_rfl)
        · obtain rfl := Option.some.inj h
          exact Den.Spec.of_walk tab mixed Try.func39 (by kernel_rfl) [.br false, .call [] [(0, true), (1, true)] (one (.bool x1)) [some ⟨false, .strs a1⟩, some ⟨false, .strs a5⟩], .br false, .call [] [(0, true), (1, true)] (one (.bool x2)) [some ⟨false, .ints .i64 a2⟩, some ⟨false, .ints .i64 a6⟩], .br false, .br true] [] [0, 1, 2, 3] (nd (nf c1) (nd (laws.eqStringS.spec K a1 a5 _ e1) (nd (rfl : (0 : Nat) = 0) (nd (rfl : a1.length = a1.length) (nd (rfl : (0 : Nat) = 0) (nd (rfl : a5.length = a5.length) (nd (nf c2) (nd (laws.eqIntS.spec K a2 a6 _ e2) (nd (rfl : (0 : Nat) = 0) (nd (rfl : a2.length = a2.length) (nd (rfl : (0 : Nat) = 0) (nd (rfl : a6.length = a6.length) (nd (nf c3) (nd (nt c4) trivial)))))))))))))) (by kernel_rfl)
      · obtain rfl := Option.some.inj h
        exact Den.Spec.of_walk tab mixed Try.func39 (by kernel_rfl) [.br false, .call [] [(0, true), (1, true)] (one (.bool x1)) [some ⟨false, .strs a1⟩, some ⟨false, .strs a5⟩], .br false, .call [] [(0, true), (1, true)] (one (.bool x2)) [some ⟨false, .ints .i64 a2⟩, some ⟨false, .ints .i64 a6⟩], .br true] [] [0, 1, 2, 3] (nd (nf c1) (nd (laws.eqStringS.spec K a1 a5 _ e1) (nd (rfl : (0 : Nat) = 0) (nd (rfl : a1.length = a1.length) (nd (rfl : (0 : Nat) = 0) (nd (rfl : a5.length = a5.length) (nd (nf c2) (nd (laws.eqIntS.spec K a2 a6 _ e2) (nd (rfl : (0 : Nat) = 0) (nd (rfl : a2.length = a2.length) (nd (rfl : (0 : Nat) = 0) (nd (rfl : a6.length = a6.length) (nd (nt c3) trivial))))))))))))) (by kernel_rfl)
    · obtain rfl := Option.some.inj h
      exact Den.Spec.of_walk tab mixed Try.func39 (by kernel_rfl) [.br false, .call [] [(0, true), (1, true)] (one (.bool x1)) [some ⟨false, .strs a1⟩, some ⟨false, .strs a5⟩], .br true] [] [0, 1, 2, 3] (nd (nf c1) (nd (laws.eqStringS.spec K a1 a5 _ e1) (nd (rfl : (0 : Nat) = 0) (nd (rfl : a1.length = a1.length) (nd (rfl : (0 : Nat) = 0) (nd (rfl : a5.length = a5.length) (nd (nt c2) trivial))))))) (by kernel_rfl)
  · obtain rfl := Option.some.inj h
    exact Den.Spec.of_walk tab mixed Try.func39 (by kernel_rfl) [.br true] [] [0, 1, 2, 3] (nd (nt c1) trivial) (by kernel_rfl)
def laws.FnExactNodeText.f (K : Nat) (a0 : Bool) (a1 : List ByteArray) (a2 : List Int) (a3 : ByteArray) : Option (Bool) :=
  Option.bind (laws.szNode.f K a0 a1 a2 a3 1048576) fun x1 => cond (decide (x1 < 0)) (some true) (Option.bind (laws.toNode.f K a0 a1 a2 a3) fun x2 => Option.bind (spec.NodeText.f K a0 x2.1 x2.2 a3) fun x3 => Option.bind (laws.toNode.f K a0 a1 a2 a3) fun x4 => Option.bind (impl.NodeText.f K a0 x4.1 x4.2 a3) fun x5 => cond (strEq x5 x3) (Option.bind (laws.toNode.f K a0 a1 a2 a3) fun x6 => Option.bind (laws.eqNode.f K a0 x4.1 x4.2 a3 a0 x6.1 x6.2 a3) fun x7 => cond (x7) (some true) (some false)) (some false))
theorem laws.FnExactNodeText.spec (K : Nat) (a0 : Bool) (a1 : List ByteArray) (a2 : List Int) (a3 : ByteArray) (o : Bool) (h : laws.FnExactNodeText.f K a0 a1 a2 a3 = some o) : Den.Spec Try.prog 5 [.v (.agg [.bool a0, .sl 0 0 a1.length, .sl 1 0 a2.length, .str a3])] [some ⟨false, .strs a1⟩, some ⟨false, .ints .i64 a2⟩] (one (.bool o)) [some ⟨false, .strs a1⟩, some ⟨false, .ints .i64 a2⟩] := by
  unfold laws.FnExactNodeText.f at h
  obtain ⟨x1, e1, h⟩ := bind_some h
  rcases br_cases h with ⟨c1, h⟩ | ⟨c1, h⟩
  · obtain rfl := Option.some.inj h
    exact Den.Spec.of_walk tab mixed Try.func5 (by kernel_rfl) [.call [(0, false), (1, false)] [] (one (.int .i64 x1)) [some ⟨false, .strs a1⟩, some ⟨false, .ints .i64 a2⟩], .br true] [] [0, 1] (nd (laws.szNode.spec K a0 a1 a2 a3 1048576 _ e1) (nd c1 trivial)) (by kernel_rfl)
  · obtain ⟨x2, e2, h⟩ := bind_some h
    obtain ⟨x3, e3, h⟩ := bind_some h
    obtain ⟨x4, e4, h⟩ := bind_some h
    obtain ⟨x5, e5, h⟩ := bind_some h
    rcases br_cases h with ⟨c2, h⟩ | ⟨c2, h⟩
    · obtain ⟨x6, e6, h⟩ := bind_some h
      obtain ⟨x7, e7, h⟩ := bind_some h
      rcases br_cases h with ⟨c3, h⟩ | ⟨c3, h⟩
      · obtain rfl := Option.some.inj h
        exact Den.Spec.of_walk tab mixed Try.func5 (by kernel_rfl) [.call [(0, false), (1, false)] [] (one (.int .i64 x1)) [some ⟨false, .strs a1⟩, some ⟨false, .ints .i64 a2⟩], .br false, .call [(0, false), (1, false)] [] (.v (.agg [.bool a0, .sl 2 0 x2.1.length, .sl 3 0 x2.2.length, .str a3])) [some ⟨false, .strs a1⟩, some ⟨false, .ints .i64 a2⟩, some ⟨true, .strs x2.1⟩, some ⟨true, .ints .i64 x2.2⟩], .call [(3, false), (4, false)] [] (one (.str x3)) [some ⟨false, .strs x2.1⟩, some ⟨false, .ints .i64 x2.2⟩], .call [(0, false), (1, false)] [] (.v (.agg [.bool a0, .sl 2 0 x4.1.length, .sl 3 0 x4.2.length, .str a3])) [some ⟨false, .strs a1⟩, some ⟨false, .ints .i64 a2⟩, some ⟨true, .strs x4.1⟩, some ⟨true, .ints .i64 x4.2⟩], .call [(5, false), (6, false)] [] (one (.str x5)) [some ⟨false, .strs x4.1⟩, some ⟨false, .ints .i64 x4.2⟩], .br false, .call [(0, false), (1, false)] [] (.v (.agg [.bool a0, .sl 2 0 x6.1.length, .sl 3 0 x6.2.length, .str a3])) [some ⟨false, .strs a1⟩, some ⟨false, .ints .i64 a2⟩, some ⟨true, .strs x6.1⟩, some ⟨true, .ints .i64 x6.2⟩], .call [(5, false), (6, false), (26, false), (27, false)] [] (one (.bool x7)) [some ⟨false, .strs x4.1⟩, some ⟨false, .ints .i64 x4.2⟩, some ⟨false, .strs x6.1⟩, some ⟨false, .ints .i64 x6.2⟩], .br false] [] [0, 1] (nd (laws.szNode.spec K a0 a1 a2 a3 1048576 _ e1) (nd c1 (nd (laws.toNode.spec K a0 a1 a2 a3 _ e2) (nd (spec.NodeText.spec K a0 x2.1 x2.2 a3 _ e3) (nd (laws.toNode.spec K a0 a1 a2 a3 _ e4) (nd (impl.NodeText.spec K a0 x4.1 x4.2 a3 _ e5) (nd (nf c2) (nd (laws.toNode.spec K a0 a1 a2 a3 _ e6) (nd (laws.eqNode.spec K a0 x4.1 x4.2 a3 a0 x6.1 x6.2 a3 _ e7) (nd (nf c3) trivial)))))))))) (by kernel_rfl)
      · obtain rfl := Option.some.inj h
        exact Den.Spec.of_walk tab mixed Try.func5 (by kernel_rfl) [.call [(0, false), (1, false)] [] (one (.int .i64 x1)) [some ⟨false, .strs a1⟩, some ⟨false, .ints .i64 a2⟩], .br false, .call [(0, false), (1, false)] [] (.v (.agg [.bool a0, .sl 2 0 x2.1.length, .sl 3 0 x2.2.length, .str a3])) [some ⟨false, .strs a1⟩, some ⟨false, .ints .i64 a2⟩, some ⟨true, .strs x2.1⟩, some ⟨true, .ints .i64 x2.2⟩], .call [(3, false), (4, false)] [] (one (.str x3)) [some ⟨false, .strs x2.1⟩, some ⟨false, .ints .i64 x2.2⟩], .call [(0, false), (1, false)] [] (.v (.agg [.bool a0, .sl 2 0 x4.1.length, .sl 3 0 x4.2.length, .str a3])) [some ⟨false, .strs a1⟩, some ⟨false, .ints .i64 a2⟩, some ⟨true, .strs x4.1⟩, some ⟨true, .ints .i64 x4.2⟩], .call [(5, false), (6, false)] [] (one (.str x5)) [some ⟨false, .strs x4.1⟩, some ⟨false, .ints .i64 x4.2⟩], .br false, .call [(0, false), (1, false)] [] (.v (.agg [.bool a0, .sl 2 0 x6.1.length, .sl 3 0 x6.2.length, .str a3])) [some ⟨false, .strs a1⟩, some ⟨false, .ints .i64 a2⟩, some ⟨true, .strs x6.1⟩, some ⟨true, .ints .i64 x6.2⟩], .call [(5, false), (6, false), (26, false), (27, false)] [] (one (.bool x7)) [some ⟨false, .strs x4.1⟩, some ⟨false, .ints .i64 x4.2⟩, some ⟨false, .strs x6.1⟩, some ⟨false, .ints .i64 x6.2⟩], .br true] [] [0, 1] (nd (laws.szNode.spec K a0 a1 a2 a3 1048576 _ e1) (nd c1 (nd (laws.toNode.spec K a0 a1 a2 a3 _ e2) (nd (spec.NodeText.spec K a0 x2.1 x2.2 a3 _ e3) (nd (laws.toNode.spec K a0 a1 a2 a3 _ e4) (nd (impl.NodeText.spec K a0 x4.1 x4.2 a3 _ e5) (nd (nf c2) (nd (laws.toNode.spec K a0 a1 a2 a3 _ e6) (nd (laws.eqNode.spec K a0 x4.1 x4.2 a3 a0 x6.1 x6.2 a3 _ e7) (nd (nt c3) trivial)))))))))) (by kernel_rfl)
    · obtain rfl := Option.some.inj h
      exact Den.Spec.of_walk tab mixed Try.func5 (by kernel_rfl) [.call [(0, false), (1, false)] [] (one (.int .i64 x1)) [some ⟨false, .strs a1⟩, some ⟨false, .ints .i64 a2⟩], .br false, .call [(0, false), (1, false)] [] (.v (.agg [.bool a0, .sl 2 0 x2.1.length, .sl 3 0 x2.2.length, .str a3])) [some ⟨false, .strs a1⟩, some ⟨false, .ints .i64 a2⟩, some ⟨true, .strs x2.1⟩, some ⟨true, .ints .i64 x2.2⟩], .call [(3, false), (4, false)] [] (one (.str x3)) [some ⟨false, .strs x2.1⟩, some ⟨false, .ints .i64 x2.2⟩], .call [(0, false), (1, false)] [] (.v (.agg [.bool a0, .sl 2 0 x4.1.length, .sl 3 0 x4.2.length, .str a3])) [some ⟨false, .strs a1⟩, some ⟨false, .ints .i64 a2⟩, some ⟨true, .strs x4.1⟩, some ⟨true, .ints .i64 x4.2⟩], .call [(5, false), (6, false)] [] (one (.str x5)) [some ⟨false, .strs x4.1⟩, some ⟨false, .ints .i64 x4.2⟩], .br true] [] [0, 1] (nd (laws.szNode.spec K a0 a1 a2 a3 1048576 _ e1) (nd c1 (nd (laws.toNode.spec K a0 a1 a2 a3 _ e2) (nd (spec.NodeText.spec K a0 x2.1 x2.2 a3 _ e3) (nd (laws.toNode.spec K a0 a1 a2 a3 _ e4) (nd (impl.NodeText.spec K a0 x4.1 x4.2 a3 _ e5) (nd (nt c2) trivial))))))) (by kernel_rfl)
end Go.Proofs.Ythneilmhnbboeaa.GFnExactNodeText
