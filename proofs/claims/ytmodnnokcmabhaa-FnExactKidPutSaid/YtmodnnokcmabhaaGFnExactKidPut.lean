import Derived.Test.YtmodnnokcmabhaaDenZ
import Derived.Test.YtmodnnokcmabhaaProg
import Derived.Test.YtmodnnokcmabhaaLibIns
namespace Go.Proofs.Ytmodnnokcmabhaa.GFnExactKidPut
open Go Go.RowKit Go.Proofs Go.Proofs.Ytmodnnokcmabhaa.Den
set_option linter.unusedVariables false
set_option linter.unusedSimpArgs false
def tyL : List (Nat × Ty) := [(3, ⟨[], 1, 8, false, [.int .i64 0], .ints .i64, .int .i64, []⟩),
  (4, ⟨[], 1, 1, false, [.bool false], .bools, .bool, []⟩),
  (5, ⟨[], 1, 1, false, [.int .u8 0], .ints .u8, .int .u8, []⟩),
  (9, ⟨[], 1, 16, false, [.str ⟨#[]⟩], .strs, .str, []⟩),
  (22, ⟨[], 1, 24, false, [.nil], .refs, .sl 9, [.strs]⟩),
  (23, ⟨[], 1, 24, false, [.nil], .refs, .sl 3, [.ints .i64]⟩),
  (25, ⟨[], 4, 72, true, [.bool false, .nil, .nil, .str ⟨#[]⟩], .none, .st [(0, 1), (1, 1), (2, 1), (3, 1)], [.none, .strs, .ints .i64, .none]⟩),
  (27, ⟨[], 4, 72, true, [.bool false, .nil, .nil, .str ⟨#[]⟩], .none, .st [(0, 1), (1, 1), (2, 1), (3, 1)], [.none, .strs, .ints .i64, .none]⟩),
  (35, ⟨[], 1, 24, false, [.nil], .refs, .sl 5, [.ints .u8]⟩)]
def tb : TypeId → Option Ty := tbOf tyL
theorem tab : TabOk Try.prog tb := TabOk.of ⟨.of (by kernel_rfl) rfl rfl (by kernel_rfl) (by show _ = _; kernel_rfl) trivial,
  .of (by kernel_rfl) rfl rfl (by kernel_rfl) (by show _ = _; kernel_rfl) trivial,
  .of (by kernel_rfl) rfl rfl (by kernel_rfl) (by show _ = _; kernel_rfl) trivial,
  .of (by kernel_rfl) rfl rfl (by kernel_rfl) (by show _ = _; kernel_rfl) trivial,
  .of (by kernel_rfl) rfl rfl (by kernel_rfl) (by show _ = _; kernel_rfl) trivial,
  .of (by kernel_rfl) rfl rfl (by kernel_rfl) (by show _ = _; kernel_rfl) trivial,
  .of (by kernel_rfl) rfl rfl (by kernel_rfl) (by show _ = _; kernel_rfl) trivial,
  .of (by kernel_rfl) rfl rfl (by kernel_rfl) (by show _ = _; kernel_rfl) trivial,
  .of (by kernel_rfl) rfl rfl (by kernel_rfl) (by show _ = _; kernel_rfl) trivial, trivial⟩
theorem mixed : Try.prog.follows .mixedOrders = true := by kernel_rfl
def laws.szStringS.l0.f (a0 : List ByteArray) : Nat → Int → Int → Option (Unit ⊕ Int)
  | 0, _, _ => none
  | k + 1, v2_0, v2_1 =>
    cond (decide (v2_1 < (a0.length : Int))) (ck (0 ≤ v2_1) (cond (decide ((w64 (v2_0 - ((a0.getD v2_1.toNat noVal).size : Int))) < 0)) (some (.inl ())) (laws.szStringS.l0.f a0 k (w64 (v2_0 - ((a0.getD v2_1.toNat noVal).size : Int))) (w64 (v2_1 + 1))))) (some (.inr (v2_0)))
def laws.szStringS.l0.s (a0 : List ByteArray) (v2_0 : Int) (v2_1 : Int) : St := mkSt 28 [(0, one (.sl 0 0 a0.length)), (1, one (.int .i64 v2_0)), (5, one (.int .i64 v2_1))] [some ⟨false, .strs a0⟩]
def laws.szStringS.l0.e0 (a0 : List ByteArray) (o : Unit) : St := mkSt 28 [(4, one (.int .i64 (-1)))] [some ⟨false, .strs a0⟩]
def laws.szStringS.l0.e1 (a0 : List ByteArray) (o : Int) : St := mkSt 28 [(1, one (.int .i64 o))] [some ⟨false, .strs a0⟩]
def laws.szStringS.l0.x (a0 : List ByteArray) : (Unit ⊕ Int) → AExit × St := Sum.elim (fun o => (.ret, laws.szStringS.l0.e0 a0 o)) (fun o => (.exit 0, laws.szStringS.l0.e1 a0 o))
theorem laws.szStringS.l0.spec (a0 : List ByteArray) : ∀ (k : Nat) (v2_0 : Int) (v2_1 : Int) (o : Unit ⊕ Int), laws.szStringS.l0.f a0 k v2_0 v2_1 = some o → LoopSpec Try.prog 1 (loopN Try.f50 0) (laws.szStringS.l0.s a0 v2_0 v2_1) (laws.szStringS.l0.x a0 o).1 (laws.szStringS.l0.x a0 o).2
  | 0, _, _, _, h => by cases h
  | k + 1, v2_0, v2_1, o, h => by
    unfold laws.szStringS.l0.f at h
    rcases br_cases h with ⟨c1, h⟩ | ⟨c1, h⟩
    · obtain ⟨p1, h⟩ := ck_some h
      rcases br_cases h with ⟨c2, h⟩ | ⟨c2, h⟩
      · obtain rfl := Option.some.inj h
        exact .of_done tab mixed [.br true, .br true] [] [4] [0] rfl (nd c1 (nd p1 (nd (of_decide_eq_true c1) (nd (tn p1 (of_decide_eq_true c1)) (nd c2 trivial))))) (by kernel_rfl)
      · exact .of_step tab mixed [.br true, .br false] [] [0, 1, 5] [0] (s1 := laws.szStringS.l0.s a0 (w64 (v2_0 - ((a0.getD v2_1.toNat noVal).size : Int))) (w64 (v2_1 + 1))) (nd c1 (nd p1 (nd (of_decide_eq_true c1) (nd (tn p1 (of_decide_eq_true c1)) (nd c2 trivial))))) (by kernel_rfl) (laws.szStringS.l0.spec a0 k (w64 (v2_0 - ((a0.getD v2_1.toNat noVal).size : Int))) (w64 (v2_1 + 1)) _ h)
    · obtain rfl := Option.some.inj h
      exact .of_done tab mixed [.br false] [] [1] [0] rfl (nd c1 trivial) (by kernel_rfl)
def laws.szStringS.f (K : Nat) (a0 : List ByteArray) (a1 : Int) : Option (Int) :=
  cond (decide ((w64 (a1 - (a0.length : Int))) < 0)) (some (-1)) (Option.bind (laws.szStringS.l0.f a0 K (w64 (a1 - (a0.length : Int))) 0) fun x1 => (Sum.elim (fun x1 => some (-1)) (fun x1 => some x1)) x1)
theorem laws.szStringS.spec (K : Nat) (a0 : List ByteArray) (a1 : Int) (o : Int) (h : laws.szStringS.f K a0 a1 = some o) : Den.Spec Try.prog 50 [one (.sl 0 0 a0.length), one (.int .i64 a1)] [some ⟨false, .strs a0⟩] (one (.int .i64 o)) [some ⟨false, .strs a0⟩] := by
  unfold laws.szStringS.f at h
  rcases br_cases h with ⟨c1, h⟩ | ⟨c1, h⟩
  · obtain rfl := Option.some.inj h
    exact Den.Spec.of_walk tab mixed Try.func50 (by kernel_rfl) [.br true] [] [0] (nd c1 trivial) (by kernel_rfl)
  · obtain ⟨x1, e1, h⟩ := bind_some h
    rcases x1 with x1 | x1
    · obtain rfl := Option.some.inj h
      exact Den.Spec.of_walk tab mixed Try.func50 (by kernel_rfl) [.br false, .loop [] [0, 1, 5] [0] (.ret) (laws.szStringS.l0.e0 a0 x1)] [] [0] (nd c1 (nd (laws.szStringS.l0.spec a0 K (w64 (a1 - (a0.length : Int))) 0 _ e1) trivial)) (by kernel_rfl)
    · obtain rfl := Option.some.inj h
      exact Den.Spec.of_walk tab mixed Try.func50 (by kernel_rfl) [.br false, .loop [] [0, 1, 5] [0] (.exit 0) (laws.szStringS.l0.e1 a0 x1)] [] [0] (nd c1 (nd (laws.szStringS.l0.spec a0 K (w64 (a1 - (a0.length : Int))) 0 _ e1) trivial)) (by kernel_rfl)
def laws.szIntS.f (a0 : List Int) (a1 : Int) : Option (Int) :=
  cond (decide ((w64 (a1 - (a0.length : Int))) < 0)) (some (-1)) (some (w64 (a1 - (a0.length : Int))))
theorem laws.szIntS.spec (a0 : List Int) (a1 : Int) (o : Int) (h : laws.szIntS.f a0 a1 = some o) : Den.Spec Try.prog 51 [one (.sl 0 0 a0.length), one (.int .i64 a1)] [some ⟨false, .ints .i64 a0⟩] (one (.int .i64 o)) [some ⟨false, .ints .i64 a0⟩] := by
  unfold laws.szIntS.f at h
  rcases br_cases h with ⟨c1, h⟩ | ⟨c1, h⟩
  · obtain rfl := Option.some.inj h
    exact Den.Spec.of_walk tab mixed Try.func51 (by kernel_rfl) [.br true] [] [0] (nd c1 trivial) (by kernel_rfl)
  · obtain rfl := Option.some.inj h
    exact Den.Spec.of_walk tab mixed Try.func51 (by kernel_rfl) [.br false] [] [0] (nd c1 trivial) (by kernel_rfl)
def laws.szNode.f (K : Nat) (a0 : Bool) (a1 : List ByteArray) (a2 : List Int) (a3 : ByteArray) (a4 : Int) : Option (Int) :=
  Option.bind (laws.szStringS.f K a1 a4) fun x1 => cond (decide (x1 < 0)) (some (-1)) (Option.bind (laws.szIntS.f a2 x1) fun x2 => cond (decide (x2 < 0)) (some (-1)) (cond (decide ((w64 (x2 - (a3.size : Int))) < 0)) (some (-1)) (some (w64 (x2 - (a3.size : Int))))))
theorem laws.szNode.spec (K : Nat) (a0 : Bool) (a1 : List ByteArray) (a2 : List Int) (a3 : ByteArray) (a4 : Int) (o : Int) (h : laws.szNode.f K a0 a1 a2 a3 a4 = some o) : Den.Spec Try.prog 9 [.v (.agg [.bool a0, .sl 0 0 a1.length, .sl 1 0 a2.length, .str a3]), one (.int .i64 a4)] [some ⟨false, .strs a1⟩, some ⟨false, .ints .i64 a2⟩] (one (.int .i64 o)) [some ⟨false, .strs a1⟩, some ⟨false, .ints .i64 a2⟩] := by
  unfold laws.szNode.f at h
  obtain ⟨x1, e1, h⟩ := bind_some h
  rcases br_cases h with ⟨c1, h⟩ | ⟨c1, h⟩
  · obtain rfl := Option.some.inj h
    exact Den.Spec.of_walk tab mixed Try.func9 (by kernel_rfl) [.call [] [(0, true)] (one (.int .i64 x1)) [some ⟨false, .strs a1⟩], .br true] [] [0, 1] (nd (laws.szStringS.spec K a1 a4 _ e1) (nd (rfl : (0 : Nat) = 0) (nd (rfl : a1.length = a1.length) (nd c1 trivial)))) (by kernel_rfl)
  · obtain ⟨x2, e2, h⟩ := bind_some h
    rcases br_cases h with ⟨c2, h⟩ | ⟨c2, h⟩
    · obtain rfl := Option.some.inj h
      exact Den.Spec.of_walk tab mixed Try.func9 (by kernel_rfl) [.call [] [(0, true)] (one (.int .i64 x1)) [some ⟨false, .strs a1⟩], .br false, .call [] [(0, true)] (one (.int .i64 x2)) [some ⟨false, .ints .i64 a2⟩], .br true] [] [0, 1] (nd (laws.szStringS.spec K a1 a4 _ e1) (nd (rfl : (0 : Nat) = 0) (nd (rfl : a1.length = a1.length) (nd c1 (nd (laws.szIntS.spec a2 x1 _ e2) (nd (rfl : (0 : Nat) = 0) (nd (rfl : a2.length = a2.length) (nd c2 trivial)))))))) (by kernel_rfl)
    · rcases br_cases h with ⟨c3, h⟩ | ⟨c3, h⟩
      · obtain rfl := Option.some.inj h
        exact Den.Spec.of_walk tab mixed Try.func9 (by kernel_rfl) [.call [] [(0, true)] (one (.int .i64 x1)) [some ⟨false, .strs a1⟩], .br false, .call [] [(0, true)] (one (.int .i64 x2)) [some ⟨false, .ints .i64 a2⟩], .br false, .br true] [] [0, 1] (nd (laws.szStringS.spec K a1 a4 _ e1) (nd (rfl : (0 : Nat) = 0) (nd (rfl : a1.length = a1.length) (nd c1 (nd (laws.szIntS.spec a2 x1 _ e2) (nd (rfl : (0 : Nat) = 0) (nd (rfl : a2.length = a2.length) (nd c2 (nd c3 trivial))))))))) (by kernel_rfl)
      · obtain rfl := Option.some.inj h
        exact Den.Spec.of_walk tab mixed Try.func9 (by kernel_rfl) [.call [] [(0, true)] (one (.int .i64 x1)) [some ⟨false, .strs a1⟩], .br false, .call [] [(0, true)] (one (.int .i64 x2)) [some ⟨false, .ints .i64 a2⟩], .br false, .br false] [] [0, 1] (nd (laws.szStringS.spec K a1 a4 _ e1) (nd (rfl : (0 : Nat) = 0) (nd (rfl : a1.length = a1.length) (nd c1 (nd (laws.szIntS.spec a2 x1 _ e2) (nd (rfl : (0 : Nat) = 0) (nd (rfl : a2.length = a2.length) (nd c2 (nd c3 trivial))))))))) (by kernel_rfl)
def laws.toStringS.l0.f (a0 : List ByteArray) : Nat → (List ByteArray) → Int → Option ((List ByteArray))
  | 0, _, _ => none
  | k + 1, v7_0, v7_1 =>
    cond (decide (v7_1 < (a0.length : Int))) (ck (0 ≤ v7_1) (ck (v7_1 < (v7_0.length : Int)) (laws.toStringS.l0.f a0 k (v7_0.set v7_1.toNat (a0.getD v7_1.toNat noVal)) (w64 (v7_1 + 1))))) (some v7_0)
def laws.toStringS.l0.s (a0 : List ByteArray) (v7_0 : List ByteArray) (v7_1 : Int) : St := mkSt 22 [(0, one (.sl 0 0 a0.length)), (3, one (.sl 1 0 v7_0.length)), (4, one (.int .i64 v7_1))] [some ⟨false, .strs a0⟩, some ⟨true, .strs v7_0⟩]
def laws.toStringS.l0.e0 (a0 : List ByteArray) (o : (List ByteArray)) : St := mkSt 22 [(3, one (.sl 1 0 o.length))] [some ⟨false, .strs a0⟩, some ⟨true, .strs o⟩]
def laws.toStringS.l0.x (a0 : List ByteArray) : ((List ByteArray)) → AExit × St := fun o => (.exit 0, laws.toStringS.l0.e0 a0 o)
theorem laws.toStringS.l0.spec (a0 : List ByteArray) : ∀ (k : Nat) (v7_0 : List ByteArray) (v7_1 : Int) (o : (List ByteArray)), laws.toStringS.l0.f a0 k v7_0 v7_1 = some o → LoopSpec Try.prog 1 (loopN Try.f53 0) (laws.toStringS.l0.s a0 v7_0 v7_1) (laws.toStringS.l0.x a0 o).1 (laws.toStringS.l0.x a0 o).2
  | 0, _, _, _, h => by cases h
  | k + 1, v7_0, v7_1, o, h => by
    unfold laws.toStringS.l0.f at h
    rcases br_cases h with ⟨c1, h⟩ | ⟨c1, h⟩
    · obtain ⟨p1, h⟩ := ck_some h
      obtain ⟨p2, h⟩ := ck_some h
      exact .of_step tab mixed [.br true] [] [0, 3, 4] [0, 1] (s1 := mkSt 22 [(0, one (.sl 0 0 a0.length)), (3, one (.sl 1 0 v7_0.length)), (4, one (.int .i64 (w64 (v7_1 + 1))))] [some ⟨false, .strs a0⟩, some ⟨true, .strs (v7_0.set v7_1.toNat (a0.getD v7_1.toNat noVal))⟩]) (nd c1 (nd p1 (nd (of_decide_eq_true c1) (nd (tn p1 (of_decide_eq_true c1)) (nd p1 (nd p2 (nd (tn p1 p2) trivial))))))) (by kernel_rfl) (LoopSpec.eqs (laws.toStringS.l0.spec a0 k (v7_0.set v7_1.toNat (a0.getD v7_1.toNat noVal)) (w64 (v7_1 + 1)) _ h) (by simp only [laws.toStringS.l0.s, List.length_set, overL_length] : laws.toStringS.l0.s a0 (v7_0.set v7_1.toNat (a0.getD v7_1.toNat noVal)) (w64 (v7_1 + 1)) = mkSt 22 [(0, one (.sl 0 0 a0.length)), (3, one (.sl 1 0 v7_0.length)), (4, one (.int .i64 (w64 (v7_1 + 1))))] [some ⟨false, .strs a0⟩, some ⟨true, .strs (v7_0.set v7_1.toNat (a0.getD v7_1.toNat noVal))⟩]))
    · obtain rfl := Option.some.inj h
      exact .of_done tab mixed [.br false] [] [3] [0, 1] rfl (nd c1 trivial) (by kernel_rfl)
def laws.toStringS.f (K : Nat) (a0 : List ByteArray) : Option ((List ByteArray)) :=
  ck (((a0.length : Int) * (16 : Int)) ≤ 70368744177664) (Option.bind (laws.toStringS.l0.f a0 K (List.replicate a0.length noVal) 0) fun x1 => some x1)
theorem laws.toStringS.spec (K : Nat) (a0 : List ByteArray) (o : (List ByteArray)) (h : laws.toStringS.f K a0 = some o) : Den.Spec Try.prog 53 [one (.sl 0 0 a0.length)] [some ⟨false, .strs a0⟩] (one (.sl 1 0 o.length)) [some ⟨false, .strs a0⟩, some ⟨true, .strs o⟩] := by
  unfold laws.toStringS.f at h
  obtain ⟨p1, h⟩ := ck_some h
  obtain ⟨x1, e1, h⟩ := bind_some h
  obtain rfl := Option.some.inj h
  exact Den.Spec.of_walk tab mixed Try.func53 (by kernel_rfl) [.loop [] [0, 3, 4] [0, 1] (.exit 0) (laws.toStringS.l0.e0 a0 x1)] [] [0, 1] (nd (Int.natCast_nonneg a0.length) (nd (rfl : (a0.length : Int) = (a0.length : Int)) (nd p1 (nd (laws.toStringS.l0.spec a0 K (List.replicate a0.length noVal) 0 _ e1) trivial)))) (by kernel_rfl)
def laws.toIntS.l0.f (a0 : List Int) : Nat → (List Int) → Int → Option ((List Int))
  | 0, _, _ => none
  | k + 1, v10_0, v10_1 =>
    cond (decide (v10_1 < (a0.length : Int))) (ck (0 ≤ v10_1) (ck (v10_1 < (v10_0.length : Int)) (laws.toIntS.l0.f a0 k (v10_0.set v10_1.toNat (a0.getD v10_1.toNat 0)) (w64 (v10_1 + 1))))) (some v10_0)
def laws.toIntS.l0.s (a0 : List Int) (v10_0 : List Int) (v10_1 : Int) : St := mkSt 22 [(0, one (.sl 0 0 a0.length)), (3, one (.sl 1 0 v10_0.length)), (4, one (.int .i64 v10_1))] [some ⟨false, .ints .i64 a0⟩, some ⟨true, .ints .i64 v10_0⟩]
def laws.toIntS.l0.e0 (a0 : List Int) (o : (List Int)) : St := mkSt 22 [(3, one (.sl 1 0 o.length))] [some ⟨false, .ints .i64 a0⟩, some ⟨true, .ints .i64 o⟩]
def laws.toIntS.l0.x (a0 : List Int) : ((List Int)) → AExit × St := fun o => (.exit 0, laws.toIntS.l0.e0 a0 o)
theorem laws.toIntS.l0.spec (a0 : List Int) : ∀ (k : Nat) (v10_0 : List Int) (v10_1 : Int) (o : (List Int)), laws.toIntS.l0.f a0 k v10_0 v10_1 = some o → LoopSpec Try.prog 1 (loopN Try.f54 0) (laws.toIntS.l0.s a0 v10_0 v10_1) (laws.toIntS.l0.x a0 o).1 (laws.toIntS.l0.x a0 o).2
  | 0, _, _, _, h => by cases h
  | k + 1, v10_0, v10_1, o, h => by
    unfold laws.toIntS.l0.f at h
    rcases br_cases h with ⟨c1, h⟩ | ⟨c1, h⟩
    · obtain ⟨p1, h⟩ := ck_some h
      obtain ⟨p2, h⟩ := ck_some h
      exact .of_step tab mixed [.br true] [] [0, 3, 4] [0, 1] (s1 := mkSt 22 [(0, one (.sl 0 0 a0.length)), (3, one (.sl 1 0 v10_0.length)), (4, one (.int .i64 (w64 (v10_1 + 1))))] [some ⟨false, .ints .i64 a0⟩, some ⟨true, .ints .i64 (v10_0.set v10_1.toNat (a0.getD v10_1.toNat 0))⟩]) (nd c1 (nd p1 (nd (of_decide_eq_true c1) (nd (tn p1 (of_decide_eq_true c1)) (nd p1 (nd p2 (nd (tn p1 p2) trivial))))))) (by kernel_rfl) (LoopSpec.eqs (laws.toIntS.l0.spec a0 k (v10_0.set v10_1.toNat (a0.getD v10_1.toNat 0)) (w64 (v10_1 + 1)) _ h) (by simp only [laws.toIntS.l0.s, List.length_set, overL_length] : laws.toIntS.l0.s a0 (v10_0.set v10_1.toNat (a0.getD v10_1.toNat 0)) (w64 (v10_1 + 1)) = mkSt 22 [(0, one (.sl 0 0 a0.length)), (3, one (.sl 1 0 v10_0.length)), (4, one (.int .i64 (w64 (v10_1 + 1))))] [some ⟨false, .ints .i64 a0⟩, some ⟨true, .ints .i64 (v10_0.set v10_1.toNat (a0.getD v10_1.toNat 0))⟩]))
    · obtain rfl := Option.some.inj h
      exact .of_done tab mixed [.br false] [] [3] [0, 1] rfl (nd c1 trivial) (by kernel_rfl)
def laws.toIntS.f (K : Nat) (a0 : List Int) : Option ((List Int)) :=
  ck (((a0.length : Int) * (8 : Int)) ≤ 70368744177664) (Option.bind (laws.toIntS.l0.f a0 K (List.replicate a0.length (0 : Int)) 0) fun x1 => some x1)
theorem laws.toIntS.spec (K : Nat) (a0 : List Int) (o : (List Int)) (h : laws.toIntS.f K a0 = some o) : Den.Spec Try.prog 54 [one (.sl 0 0 a0.length)] [some ⟨false, .ints .i64 a0⟩] (one (.sl 1 0 o.length)) [some ⟨false, .ints .i64 a0⟩, some ⟨true, .ints .i64 o⟩] := by
  unfold laws.toIntS.f at h
  obtain ⟨p1, h⟩ := ck_some h
  obtain ⟨x1, e1, h⟩ := bind_some h
  obtain rfl := Option.some.inj h
  exact Den.Spec.of_walk tab mixed Try.func54 (by kernel_rfl) [.loop [] [0, 3, 4] [0, 1] (.exit 0) (laws.toIntS.l0.e0 a0 x1)] [] [0, 1] (nd (Int.natCast_nonneg a0.length) (nd (rfl : (a0.length : Int) = (a0.length : Int)) (nd p1 (nd (laws.toIntS.l0.spec a0 K (List.replicate a0.length (0 : Int)) 0 _ e1) trivial)))) (by kernel_rfl)
def laws.toNode.f (K : Nat) (a0 : Bool) (a1 : List ByteArray) (a2 : List Int) (a3 : ByteArray) : Option ((List ByteArray) × (List Int)) :=
  Option.bind (laws.toStringS.f K a1) fun x1 => Option.bind (laws.toIntS.f K a2) fun x2 => some (x1, x2)
theorem laws.toNode.spec (K : Nat) (a0 : Bool) (a1 : List ByteArray) (a2 : List Int) (a3 : ByteArray) (o : (List ByteArray) × (List Int)) (h : laws.toNode.f K a0 a1 a2 a3 = some o) : Den.Spec Try.prog 11 [.v (.agg [.bool a0, .sl 0 0 a1.length, .sl 1 0 a2.length, .str a3])] [some ⟨false, .strs a1⟩, some ⟨false, .ints .i64 a2⟩] (.v (.agg [.bool a0, .sl 2 0 o.1.length, .sl 3 0 o.2.length, .str a3])) [some ⟨false, .strs a1⟩, some ⟨false, .ints .i64 a2⟩, some ⟨true, .strs o.1⟩, some ⟨true, .ints .i64 o.2⟩] := by
  unfold laws.toNode.f at h
  obtain ⟨x1, e1, h⟩ := bind_some h
  obtain ⟨x2, e2, h⟩ := bind_some h
  obtain rfl := Option.some.inj h
  exact Den.Spec.of_walk tab mixed Try.func11 (by kernel_rfl) [.call [] [(0, true)] (one (.sl 1 0 x1.length)) [some ⟨false, .strs a1⟩, some ⟨true, .strs x1⟩], .call [] [(0, true)] (one (.sl 1 0 x2.length)) [some ⟨false, .ints .i64 a2⟩, some ⟨true, .ints .i64 x2⟩]] [] [0, 1, 9, 10] (nd (laws.toStringS.spec K a1 _ e1) (nd (rfl : (0 : Nat) = 0) (nd (rfl : a1.length = a1.length) (nd (laws.toIntS.spec K a2 _ e2) (nd (rfl : (0 : Nat) = 0) (nd (rfl : a2.length = a2.length) trivial)))))) (by kernel_rfl)
def spec.l8At.l0.f (a0 : Bool) (a1 : List ByteArray) (a2 : List Int) (a3 : ByteArray) (a4 : ByteArray) : Nat → Int → Option (Int ⊕ Unit)
  | 0, _ => none
  | k + 1, v14_0 =>
    cond (decide (v14_0 < (a1.length : Int))) (cond (decide (v14_0 < (a2.length : Int))) (ck (0 ≤ v14_0) (cond (strEq (a1.getD v14_0.toNat noVal) a4) (some (.inl v14_0)) (spec.l8At.l0.f a0 a1 a2 a3 a4 k (w64 (v14_0 + 1))))) (some (.inr (())))) (some (.inr (())))
def spec.l8At.l0.s (a0 : Bool) (a1 : List ByteArray) (a2 : List Int) (a3 : ByteArray) (a4 : ByteArray) (v14_0 : Int) : St := mkSt 28 [(1, one (.str a4)), (2, one (.ptr 2 0 0)), (5, one (.int .i64 v14_0))] [some ⟨false, .strs a1⟩, some ⟨false, .ints .i64 a2⟩, some ⟨true, .cells [.bool a0, .sl 0 0 a1.length, .sl 1 0 a2.length, .str a3]⟩]
def spec.l8At.l0.e0 (a0 : Bool) (a1 : List ByteArray) (a2 : List Int) (a3 : ByteArray) (a4 : ByteArray) (o : Int) : St := mkSt 28 [(4, one (.int .i64 o))] [some ⟨false, .strs a1⟩, some ⟨false, .ints .i64 a2⟩]
def spec.l8At.l0.e1 (a0 : Bool) (a1 : List ByteArray) (a2 : List Int) (a3 : ByteArray) (a4 : ByteArray) (o : Unit) : St := mkSt 28 [] [some ⟨false, .strs a1⟩, some ⟨false, .ints .i64 a2⟩]
def spec.l8At.l0.x (a0 : Bool) (a1 : List ByteArray) (a2 : List Int) (a3 : ByteArray) (a4 : ByteArray) : (Int ⊕ Unit) → AExit × St := Sum.elim (fun o => (.ret, spec.l8At.l0.e0 a0 a1 a2 a3 a4 o)) (fun o => (.exit 0, spec.l8At.l0.e1 a0 a1 a2 a3 a4 o))
theorem spec.l8At.l0.spec (a0 : Bool) (a1 : List ByteArray) (a2 : List Int) (a3 : ByteArray) (a4 : ByteArray) : ∀ (k : Nat) (v14_0 : Int) (o : Int ⊕ Unit), spec.l8At.l0.f a0 a1 a2 a3 a4 k v14_0 = some o → LoopSpec Try.prog 2 (loopN Try.f52 0) (spec.l8At.l0.s a0 a1 a2 a3 a4 v14_0) (spec.l8At.l0.x a0 a1 a2 a3 a4 o).1 (spec.l8At.l0.x a0 a1 a2 a3 a4 o).2
  | 0, _, _, h => by cases h
  | k + 1, v14_0, o, h => by
    unfold spec.l8At.l0.f at h
    rcases br_cases h with ⟨c1, h⟩ | ⟨c1, h⟩
    · rcases br_cases h with ⟨c2, h⟩ | ⟨c2, h⟩
      · obtain ⟨p1, h⟩ := ck_some h
        rcases br_cases h with ⟨c3, h⟩ | ⟨c3, h⟩
        · obtain rfl := Option.some.inj h
          exact .of_done tab mixed [.br true, .br true, .br true, .br true, .br true, .br true, .br true, .br true] [] [4] [0, 1] rfl (nd c1 (nd c1 (nd c1 (nd c1 (nd c1 (nd c1 (nd c2 (nd p1 (nd (of_decide_eq_true c1) (nd (tn p1 (of_decide_eq_true c1)) (nd c3 trivial))))))))))) (by kernel_rfl)
        · exact .of_step tab mixed [.br true, .br true, .br true, .br true, .br true, .br true, .br true, .br false] [] [1, 2, 5] [0, 1, 2] (s1 := spec.l8At.l0.s a0 a1 a2 a3 a4 (w64 (v14_0 + 1))) (nd c1 (nd c1 (nd c1 (nd c1 (nd c1 (nd c1 (nd c2 (nd p1 (nd (of_decide_eq_true c1) (nd (tn p1 (of_decide_eq_true c1)) (nd c3 trivial))))))))))) (by kernel_rfl) (spec.l8At.l0.spec a0 a1 a2 a3 a4 k (w64 (v14_0 + 1)) _ h)
      · obtain rfl := Option.some.inj h
        exact .of_done tab mixed [.br true, .br true, .br true, .br true, .br true, .br true, .br false] [] [] [0, 1] rfl (nd c1 (nd c1 (nd c1 (nd c1 (nd c1 (nd c1 (nd c2 trivial))))))) (by kernel_rfl)
    · obtain rfl := Option.some.inj h
      exact .of_done tab mixed [.br false, .br false, .br false, .br false, .br false, .br false, .br false] [] [] [0, 1] rfl (nd c1 (nd c1 (nd c1 (nd c1 (nd c1 (nd c1 (nd ff trivial))))))) (by kernel_rfl)
def spec.l8At.f (K : Nat) (a0 : Bool) (a1 : List ByteArray) (a2 : List Int) (a3 : ByteArray) (a4 : ByteArray) : Option (Int) :=
  Option.bind (spec.l8At.l0.f a0 a1 a2 a3 a4 K 0) fun x1 => (Sum.elim (fun x1 => some x1) (fun x1 => some (-1))) x1
theorem spec.l8At.spec (K : Nat) (a0 : Bool) (a1 : List ByteArray) (a2 : List Int) (a3 : ByteArray) (a4 : ByteArray) (o : Int) (h : spec.l8At.f K a0 a1 a2 a3 a4 = some o) : Den.Spec Try.prog 52 [.v (.agg [.bool a0, .sl 0 0 a1.length, .sl 1 0 a2.length, .str a3]), one (.str a4)] [some ⟨false, .strs a1⟩, some ⟨false, .ints .i64 a2⟩] (one (.int .i64 o)) [some ⟨false, .strs a1⟩, some ⟨false, .ints .i64 a2⟩] := by
  unfold spec.l8At.f at h
  obtain ⟨x1, e1, h⟩ := bind_some h
  rcases x1 with x1 | x1
  · obtain rfl := Option.some.inj h
    exact Den.Spec.of_walk tab mixed Try.func52 (by kernel_rfl) [.loop [] [1, 2, 5] [0, 1, 2] (.ret) (spec.l8At.l0.e0 a0 a1 a2 a3 a4 x1)] [] [0, 1] (nd (spec.l8At.l0.spec a0 a1 a2 a3 a4 K 0 _ e1) trivial) (by kernel_rfl)
  · obtain rfl := Option.some.inj h
    exact Den.Spec.of_walk tab mixed Try.func52 (by kernel_rfl) [.loop [] [1, 2, 5] [0, 1, 2] (.exit 0) (spec.l8At.l0.e1 a0 a1 a2 a3 a4 x1)] [] [0, 1] (nd (spec.l8At.l0.spec a0 a1 a2 a3 a4 K 0 _ e1) trivial) (by kernel_rfl)
def spec.KidDrop.l0.f (a0 : Bool) (a1 : List ByteArray) (a2 : List Int) (a3 : ByteArray) : Nat → (List ByteArray) → (List Int) → Int → Int → Option ((List ByteArray) × (List Int))
  | 0, _, _, _, _ => none
  | k + 1, v17_0, v17_1, v17_2, v17_3 =>
    cond (decide (v17_3 < (a1.length : Int))) (cond (decide (v17_3 < (a2.length : Int))) (cond (v17_3 != v17_2) (ck (0 ≤ v17_3) (ck ((v17_0 ++ [a1.getD v17_3.toNat noVal]).length * 16 ≤ 70368744177664) (ck ((v17_1 ++ [a2.getD v17_3.toNat 0]).length * 8 ≤ 70368744177664) (spec.KidDrop.l0.f a0 a1 a2 a3 k (v17_0 ++ [a1.getD v17_3.toNat noVal]) (v17_1 ++ [a2.getD v17_3.toNat 0]) v17_2 (w64 (v17_3 + 1)))))) (spec.KidDrop.l0.f a0 a1 a2 a3 k v17_0 v17_1 v17_2 (w64 (v17_3 + 1)))) (some (v17_0, v17_1))) (some (v17_0, v17_1))
def spec.KidDrop.l0.s (a0 : Bool) (a1 : List ByteArray) (a2 : List Int) (a3 : ByteArray) (v17_0 : List ByteArray) (v17_1 : List Int) (v17_2 : Int) (v17_3 : Int) : St := mkSt 54 [(2, one (.ptr 2 0 0)), (4, one (.ptr 3 0 0)), (5, one (.ptr 6 0 0)), (6, one (.int .i64 v17_2)), (7, one (.int .i64 v17_3))] [some ⟨false, .strs a1⟩, some ⟨false, .ints .i64 a2⟩, some ⟨true, .cells [.bool a0, .sl 0 0 a1.length, .sl 1 0 a2.length, .str a3]⟩, some ⟨true, .cells [.bool false, .sl 4 0 0, .sl 5 0 0, .str noVal]⟩, some ⟨true, .strs []⟩, some ⟨true, .ints .i64 []⟩, some ⟨true, .cells [.bool a0, .sl 7 0 v17_0.length, .sl 8 0 v17_1.length, .str a3]⟩, some ⟨true, .strs v17_0⟩, some ⟨true, .ints .i64 v17_1⟩]
def spec.KidDrop.l0.e0 (a0 : Bool) (a1 : List ByteArray) (a2 : List Int) (a3 : ByteArray) (o : (List ByteArray) × (List Int)) : St := mkSt 54 [(4, one (.ptr 2 0 0)), (5, one (.ptr 5 0 0))] [some ⟨false, .strs a1⟩, some ⟨false, .ints .i64 a2⟩, some ⟨true, .cells [.bool false, .sl 3 0 0, .sl 4 0 0, .str noVal]⟩, some ⟨true, .strs []⟩, some ⟨true, .ints .i64 []⟩, some ⟨true, .cells [.bool a0, .sl 6 0 o.1.length, .sl 7 0 o.2.length, .str a3]⟩, some ⟨true, .strs o.1⟩, some ⟨true, .ints .i64 o.2⟩]
def spec.KidDrop.l0.x (a0 : Bool) (a1 : List ByteArray) (a2 : List Int) (a3 : ByteArray) : ((List ByteArray) × (List Int)) → AExit × St := fun o => (.exit 0, spec.KidDrop.l0.e0 a0 a1 a2 a3 o)
theorem spec.KidDrop.l0.spec (a0 : Bool) (a1 : List ByteArray) (a2 : List Int) (a3 : ByteArray) : ∀ (k : Nat) (v17_0 : List ByteArray) (v17_1 : List Int) (v17_2 : Int) (v17_3 : Int) (o : (List ByteArray) × (List Int)), spec.KidDrop.l0.f a0 a1 a2 a3 k v17_0 v17_1 v17_2 v17_3 = some o → LoopSpec Try.prog 2 (loopN Try.f10 0) (spec.KidDrop.l0.s a0 a1 a2 a3 v17_0 v17_1 v17_2 v17_3) (spec.KidDrop.l0.x a0 a1 a2 a3 o).1 (spec.KidDrop.l0.x a0 a1 a2 a3 o).2
  | 0, _, _, _, _, _, h => by cases h
  | k + 1, v17_0, v17_1, v17_2, v17_3, o, h => by
    unfold spec.KidDrop.l0.f at h
    rcases br_cases h with ⟨c1, h⟩ | ⟨c1, h⟩
    · rcases br_cases h with ⟨c2, h⟩ | ⟨c2, h⟩
      · rcases br_cases h with ⟨c3, h⟩ | ⟨c3, h⟩
        · obtain ⟨p1, h⟩ := ck_some h
          obtain ⟨p2, h⟩ := ck_some h
          obtain ⟨p3, h⟩ := ck_some h
          exact .of_step tab mixed [.br true, .br true, .br true, .br true, .br true, .br true, .br true, .br true, .br true, .br true] [] [2, 4, 5, 6, 7] [0, 1, 2, 3, 4, 5, 6, 73, 161] (s1 := spec.KidDrop.l0.s a0 a1 a2 a3 (v17_0 ++ [a1.getD v17_3.toNat noVal]) (v17_1 ++ [a2.getD v17_3.toNat 0]) v17_2 (w64 (v17_3 + 1))) (nd c1 (nd c1 (nd c1 (nd c1 (nd c1 (nd c1 (nd c2 (nd c3 (nd p1 (nd (of_decide_eq_true c1) (nd (tn p1 (of_decide_eq_true c1)) (nd (rfl : (0 : Nat) = 0) (nd (rfl : v17_0.length = v17_0.length) (nd p2 (nd (rfl : (0 : Nat) = 0) (nd (rfl : 1 = 1) (nd p1 (nd (of_decide_eq_true c2) (nd (tn p1 (of_decide_eq_true c2)) (nd (rfl : (0 : Nat) = 0) (nd (rfl : v17_1.length = v17_1.length) (nd p3 (nd (rfl : (0 : Nat) = 0) (nd (rfl : 1 = 1) trivial)))))))))))))))))))))))) (by kernel_rfl) (spec.KidDrop.l0.spec a0 a1 a2 a3 k (v17_0 ++ [a1.getD v17_3.toNat noVal]) (v17_1 ++ [a2.getD v17_3.toNat 0]) v17_2 (w64 (v17_3 + 1)) _ h)
        · exact .of_step tab mixed [.br true, .br true, .br true, .br true, .br true, .br true, .br true, .br false] [] [2, 4, 5, 6, 7] [0, 1, 2, 3, 4, 5, 6, 7, 8] (s1 := spec.KidDrop.l0.s a0 a1 a2 a3 v17_0 v17_1 v17_2 (w64 (v17_3 + 1))) (nd c1 (nd c1 (nd c1 (nd c1 (nd c1 (nd c1 (nd c2 (nd c3 trivial)))))))) (by kernel_rfl) (spec.KidDrop.l0.spec a0 a1 a2 a3 k v17_0 v17_1 v17_2 (w64 (v17_3 + 1)) _ h)
      · obtain rfl := Option.some.inj h
        exact .of_done tab mixed [.br true, .br true, .br true, .br true, .br true, .br true, .br false] [] [4, 5] [0, 1, 3, 4, 5, 6, 7, 8] rfl (nd c1 (nd c1 (nd c1 (nd c1 (nd c1 (nd c1 (nd c2 trivial))))))) (by kernel_rfl)
    · obtain rfl := Option.some.inj h
      exact .of_done tab mixed [.br false, .br false, .br false, .br false, .br false, .br false, .br false] [] [4, 5] [0, 1, 3, 4, 5, 6, 7, 8] rfl (nd c1 (nd c1 (nd c1 (nd c1 (nd c1 (nd c1 (nd ff trivial))))))) (by kernel_rfl)
def spec.KidDrop.f (K : Nat) (a0 : Bool) (a1 : List ByteArray) (a2 : List Int) (a3 : ByteArray) (a4 : ByteArray) : Option ((List ByteArray) × (List Int)) :=
  Option.bind (spec.l8At.f K a0 a1 a2 a3 a4) fun x1 => Option.bind (spec.KidDrop.l0.f a0 a1 a2 a3 K [] [] x1 0) fun x2 => some (x2.1, x2.2)
theorem spec.KidDrop.spec (K : Nat) (a0 : Bool) (a1 : List ByteArray) (a2 : List Int) (a3 : ByteArray) (a4 : ByteArray) (o : (List ByteArray) × (List Int)) (h : spec.KidDrop.f K a0 a1 a2 a3 a4 = some o) : Den.Spec Try.prog 10 [.v (.agg [.bool a0, .sl 0 0 a1.length, .sl 1 0 a2.length, .str a3]), one (.str a4)] [some ⟨false, .strs a1⟩, some ⟨false, .ints .i64 a2⟩] (.v (.agg [.bool a0, .sl 2 0 o.1.length, .sl 3 0 o.2.length, .str a3])) [some ⟨false, .strs a1⟩, some ⟨false, .ints .i64 a2⟩, some ⟨true, .strs o.1⟩, some ⟨true, .ints .i64 o.2⟩] := by
  unfold spec.KidDrop.f at h
  obtain ⟨x1, e1, h⟩ := bind_some h
  obtain ⟨x2, e2, h⟩ := bind_some h
  obtain rfl := Option.some.inj h
  exact Den.Spec.of_walk tab mixed Try.func10 (by kernel_rfl) [.call [(0, false), (1, false)] [] (one (.int .i64 x1)) [some ⟨false, .strs a1⟩, some ⟨false, .ints .i64 a2⟩], .loop [] [2, 4, 5, 6, 7] [0, 1, 2, 3, 4, 5, 6, 9, 10] (.exit 0) (spec.KidDrop.l0.e0 a0 a1 a2 a3 x2)] [] [0, 1, 6, 7] (nd (spec.l8At.spec K a0 a1 a2 a3 a4 _ e1) (nd (spec.KidDrop.l0.spec a0 a1 a2 a3 K [] [] x1 0 _ e2) trivial)) (by kernel_rfl)
def spec.KidPut.l0.f (a0 : Bool) (a1 : List ByteArray) (a2 : List Int) (a3 : ByteArray) (a4 : ByteArray) (a5 : Int) : Nat → (List ByteArray) → (List Int) → (List ByteArray) → (List Int) → Bool → Int → Option ((List ByteArray) × (List Int) × Bool)
  | 0, _, _, _, _, _, _ => none
  | k + 1, v20_0, v20_1, v20_2, v20_3, v20_4, v20_5 =>
    cond (decide (v20_5 < (v20_0.length : Int))) (cond (v20_4) (ck (0 ≤ v20_5) (ck ((v20_2 ++ [v20_0.getD v20_5.toNat noVal]).length * 16 ≤ 70368744177664) (ck (v20_5 < (v20_1.length : Int)) (ck ((v20_3 ++ [v20_1.getD v20_5.toNat 0]).length * 8 ≤ 70368744177664) (spec.KidPut.l0.f a0 a1 a2 a3 a4 a5 k v20_0 v20_1 (v20_2 ++ [v20_0.getD v20_5.toNat noVal]) (v20_3 ++ [v20_1.getD v20_5.toNat 0]) v20_4 (w64 (v20_5 + 1))))))) (ck (0 ≤ v20_5) (cond (strLt (v20_0.getD v20_5.toNat noVal) a4 || strEq (v20_0.getD v20_5.toNat noVal) a4) (ck ((v20_2 ++ [v20_0.getD v20_5.toNat noVal]).length * 16 ≤ 70368744177664) (ck (v20_5 < (v20_1.length : Int)) (ck ((v20_3 ++ [v20_1.getD v20_5.toNat 0]).length * 8 ≤ 70368744177664) (spec.KidPut.l0.f a0 a1 a2 a3 a4 a5 k v20_0 v20_1 (v20_2 ++ [v20_0.getD v20_5.toNat noVal]) (v20_3 ++ [v20_1.getD v20_5.toNat 0]) v20_4 (w64 (v20_5 + 1)))))) (ck ((v20_2 ++ [a4]).length * 16 ≤ 70368744177664) (ck ((v20_3 ++ [a5]).length * 8 ≤ 70368744177664) (ck (((v20_2 ++ [a4]) ++ [v20_0.getD v20_5.toNat noVal]).length * 16 ≤ 70368744177664) (ck (v20_5 < (v20_1.length : Int)) (ck (((v20_3 ++ [a5]) ++ [v20_1.getD v20_5.toNat 0]).length * 8 ≤ 70368744177664) (spec.KidPut.l0.f a0 a1 a2 a3 a4 a5 k v20_0 v20_1 ((v20_2 ++ [a4]) ++ [v20_0.getD v20_5.toNat noVal]) ((v20_3 ++ [a5]) ++ [v20_1.getD v20_5.toNat 0]) true (w64 (v20_5 + 1))))))))))) (some (v20_2, v20_3, v20_4))
def spec.KidPut.l0.s (a0 : Bool) (a1 : List ByteArray) (a2 : List Int) (a3 : ByteArray) (a4 : ByteArray) (a5 : Int) (v20_0 : List ByteArray) (v20_1 : List Int) (v20_2 : List ByteArray) (v20_3 : List Int) (v20_4 : Bool) (v20_5 : Int) : St := mkSt 84 [(1, one (.str a4)), (2, one (.int .i64 a5)), (6, one (.ptr 2 0 0)), (7, one (.ptr 5 0 0)), (8, one (.ptr 8 0 0)), (9, one (.bool v20_4)), (10, one (.int .i64 v20_5))] [some ⟨false, .strs a1⟩, some ⟨false, .ints .i64 a2⟩, some ⟨true, .cells [.bool false, .sl 3 0 0, .sl 4 0 0, .str noVal]⟩, some ⟨true, .strs []⟩, some ⟨true, .ints .i64 []⟩, some ⟨true, .cells [.bool a0, .sl 6 0 v20_0.length, .sl 7 0 v20_1.length, .str a3]⟩, some ⟨true, .strs v20_0⟩, some ⟨true, .ints .i64 v20_1⟩, some ⟨true, .cells [.bool a0, .sl 9 0 v20_2.length, .sl 10 0 v20_3.length, .str a3]⟩, some ⟨true, .strs v20_2⟩, some ⟨true, .ints .i64 v20_3⟩]
def spec.KidPut.l0.e0 (a0 : Bool) (a1 : List ByteArray) (a2 : List Int) (a3 : ByteArray) (a4 : ByteArray) (a5 : Int) (o : (List ByteArray) × (List Int) × Bool) : St := mkSt 84 [(1, one (.str a4)), (2, one (.int .i64 a5)), (6, one (.ptr 2 0 0)), (8, one (.ptr 5 0 0)), (9, one (.bool o.2.2))] [some ⟨false, .strs a1⟩, some ⟨false, .ints .i64 a2⟩, some ⟨true, .cells [.bool false, .sl 3 0 0, .sl 4 0 0, .str noVal]⟩, some ⟨true, .strs []⟩, some ⟨true, .ints .i64 []⟩, some ⟨true, .cells [.bool a0, .sl 6 0 o.1.length, .sl 7 0 o.2.1.length, .str a3]⟩, some ⟨true, .strs o.1⟩, some ⟨true, .ints .i64 o.2.1⟩]
def spec.KidPut.l0.x (a0 : Bool) (a1 : List ByteArray) (a2 : List Int) (a3 : ByteArray) (a4 : ByteArray) (a5 : Int) : ((List ByteArray) × (List Int) × Bool) → AExit × St := fun o => (.exit 0, spec.KidPut.l0.e0 a0 a1 a2 a3 a4 a5 o)
theorem spec.KidPut.l0.spec (a0 : Bool) (a1 : List ByteArray) (a2 : List Int) (a3 : ByteArray) (a4 : ByteArray) (a5 : Int) : ∀ (k : Nat) (v20_0 : List ByteArray) (v20_1 : List Int) (v20_2 : List ByteArray) (v20_3 : List Int) (v20_4 : Bool) (v20_5 : Int) (o : (List ByteArray) × (List Int) × Bool), spec.KidPut.l0.f a0 a1 a2 a3 a4 a5 k v20_0 v20_1 v20_2 v20_3 v20_4 v20_5 = some o → LoopSpec Try.prog 2 (loopN Try.f16 0) (spec.KidPut.l0.s a0 a1 a2 a3 a4 a5 v20_0 v20_1 v20_2 v20_3 v20_4 v20_5) (spec.KidPut.l0.x a0 a1 a2 a3 a4 a5 o).1 (spec.KidPut.l0.x a0 a1 a2 a3 a4 a5 o).2
  | 0, _, _, _, _, _, _, _, h => by cases h
  | k + 1, v20_0, v20_1, v20_2, v20_3, v20_4, v20_5, o, h => by
    unfold spec.KidPut.l0.f at h
    rcases br_cases h with ⟨c1, h⟩ | ⟨c1, h⟩
    · rcases br_cases h with ⟨c2, h⟩ | ⟨c2, h⟩
      · obtain ⟨p1, h⟩ := ck_some h
        obtain ⟨p2, h⟩ := ck_some h
        obtain ⟨p3, h⟩ := ck_some h
        obtain ⟨p4, h⟩ := ck_some h
        exact .of_step tab mixed [.br true, .br false, .br false, .br false, .br false, .br false, .br false, .br false, .br false, .br false, .br true, .br true] [] [1, 2, 6, 7, 8, 9, 10] [0, 1, 2, 3, 4, 5, 6, 7, 8, 75, 163] (s1 := spec.KidPut.l0.s a0 a1 a2 a3 a4 a5 v20_0 v20_1 (v20_2 ++ [v20_0.getD v20_5.toNat noVal]) (v20_3 ++ [v20_1.getD v20_5.toNat 0]) v20_4 (w64 (v20_5 + 1))) (nd c1 (nd (nf c2) (nd (nf c2) (nd (nf c2) (nd (nf c2) (nd (nf c2) (nd (nf c2) (nd (nf c2) (nd (nf c2) (nd ff (nd p1 (nd (of_decide_eq_true c1) (nd (tn p1 (of_decide_eq_true c1)) (nd (rfl : (0 : Nat) = 0) (nd (rfl : v20_2.length = v20_2.length) (nd p2 (nd (rfl : (0 : Nat) = 0) (nd (rfl : 1 = 1) (nd p1 (nd p3 (nd (tn p1 p3) (nd (rfl : (0 : Nat) = 0) (nd (rfl : v20_3.length = v20_3.length) (nd p4 (nd (rfl : (0 : Nat) = 0) (nd (rfl : 1 = 1) trivial)))))))))))))))))))))))))) (by kernel_rfl) (spec.KidPut.l0.spec a0 a1 a2 a3 a4 a5 k v20_0 v20_1 (v20_2 ++ [v20_0.getD v20_5.toNat noVal]) (v20_3 ++ [v20_1.getD v20_5.toNat 0]) v20_4 (w64 (v20_5 + 1)) _ h)
      · obtain ⟨p1, h⟩ := ck_some h
        rcases br_cases h with ⟨c3, h⟩ | ⟨c3, h⟩
        · obtain ⟨p2, h⟩ := ck_some h
          obtain ⟨p3, h⟩ := ck_some h
          obtain ⟨p4, h⟩ := ck_some h
          exact .of_step tab mixed [.br true, .br true, .br true, .br true, .br true, .br true, .br true, .br true, .br true, .br false, .br true, .br true] [] [1, 2, 6, 7, 8, 9, 10] [0, 1, 2, 3, 4, 5, 6, 7, 8, 75, 163] (s1 := spec.KidPut.l0.s a0 a1 a2 a3 a4 a5 v20_0 v20_1 (v20_2 ++ [v20_0.getD v20_5.toNat noVal]) (v20_3 ++ [v20_1.getD v20_5.toNat 0]) v20_4 (w64 (v20_5 + 1))) (nd c1 (nd (nt c2) (nd (nt c2) (nd (nt c2) (nd (nt c2) (nd p1 (nd (of_decide_eq_true c1) (nd (nt c2) (nd (tn p1 (of_decide_eq_true c1)) (nd (nt c2) (nd (nt c2) (nd (nt c2) (nd (nf c3) (nd p1 (nd (of_decide_eq_true c1) (nd (tn p1 (of_decide_eq_true c1)) (nd (rfl : (0 : Nat) = 0) (nd (rfl : v20_2.length = v20_2.length) (nd p2 (nd (rfl : (0 : Nat) = 0) (nd (rfl : 1 = 1) (nd p1 (nd p3 (nd (tn p1 p3) (nd (rfl : (0 : Nat) = 0) (nd (rfl : v20_3.length = v20_3.length) (nd p4 (nd (rfl : (0 : Nat) = 0) (nd (rfl : 1 = 1) trivial))))))))))))))))))))))))))))) (by kernel_rfl) (spec.KidPut.l0.spec a0 a1 a2 a3 a4 a5 k v20_0 v20_1 (v20_2 ++ [v20_0.getD v20_5.toNat noVal]) (v20_3 ++ [v20_1.getD v20_5.toNat 0]) v20_4 (w64 (v20_5 + 1)) _ h)
        · obtain ⟨p2, h⟩ := ck_some h
          obtain ⟨p3, h⟩ := ck_some h
          obtain ⟨p4, h⟩ := ck_some h
          obtain ⟨p5, h⟩ := ck_some h
          obtain ⟨p6, h⟩ := ck_some h
          exact .of_step tab mixed [.br true, .br true, .br true, .br true, .br true, .br true, .br true, .br true, .br true, .br true, .br true, .br true, .br true, .br true] [] [1, 2, 6, 7, 8, 9, 10] [0, 1, 2, 3, 4, 5, 6, 7, 8, 79, 167] (s1 := spec.KidPut.l0.s a0 a1 a2 a3 a4 a5 v20_0 v20_1 ((v20_2 ++ [a4]) ++ [v20_0.getD v20_5.toNat noVal]) ((v20_3 ++ [a5]) ++ [v20_1.getD v20_5.toNat 0]) true (w64 (v20_5 + 1))) (nd c1 (nd (nt c2) (nd (nt c2) (nd (nt c2) (nd (nt c2) (nd p1 (nd (of_decide_eq_true c1) (nd (nt c2) (nd (tn p1 (of_decide_eq_true c1)) (nd (nt c2) (nd (nt c2) (nd (nt c2) (nd (nt c3) (nd (rfl : (0 : Nat) = 0) (nd (rfl : v20_2.length = v20_2.length) (nd p2 (nd (rfl : (0 : Nat) = 0) (nd (rfl : 1 = 1) (nd (rfl : (0 : Nat) = 0) (nd (rfl : v20_3.length = v20_3.length) (nd p3 (nd (rfl : (0 : Nat) = 0) (nd (rfl : 1 = 1) (nd p1 (nd (of_decide_eq_true c1) (nd (tn p1 (of_decide_eq_true c1)) (nd (rfl : (0 : Nat) = 0) (nd (rfl : (v20_2 ++ [a4]).length = (v20_2 ++ [a4]).length) (nd p4 (nd (rfl : (0 : Nat) = 0) (nd (rfl : 1 = 1) (nd p1 (nd p5 (nd (tn p1 p5) (nd (rfl : (0 : Nat) = 0) (nd (rfl : (v20_3 ++ [a5]).length = (v20_3 ++ [a5]).length) (nd p6 (nd (rfl : (0 : Nat) = 0) (nd (rfl : 1 = 1) trivial))))))))))))))))))))))))))))))))))))))) (by kernel_rfl) (spec.KidPut.l0.spec a0 a1 a2 a3 a4 a5 k v20_0 v20_1 ((v20_2 ++ [a4]) ++ [v20_0.getD v20_5.toNat noVal]) ((v20_3 ++ [a5]) ++ [v20_1.getD v20_5.toNat 0]) true (w64 (v20_5 + 1)) _ h)
    · obtain rfl := Option.some.inj h
      exact .of_done tab mixed [.br false] [] [1, 2, 6, 8, 9] [0, 1, 2, 3, 4, 8, 9, 10] rfl (nd c1 trivial) (by kernel_rfl)
def spec.KidPut.f (K : Nat) (a0 : Bool) (a1 : List ByteArray) (a2 : List Int) (a3 : ByteArray) (a4 : ByteArray) (a5 : Int) : Option ((List ByteArray) × (List Int)) :=
  Option.bind (spec.KidDrop.f K a0 a1 a2 a3 a4) fun x1 => Option.bind (spec.KidPut.l0.f a0 a1 a2 a3 a4 a5 K x1.1 x1.2 [] [] false 0) fun x2 => cond (x2.2.2) (some (x2.1, x2.2.1)) (ck ((x2.1 ++ [a4]).length * 16 ≤ 70368744177664) (ck ((x2.2.1 ++ [a5]).length * 8 ≤ 70368744177664) (some (x2.1 ++ [a4], x2.2.1 ++ [a5]))))
theorem spec.KidPut.spec (K : Nat) (a0 : Bool) (a1 : List ByteArray) (a2 : List Int) (a3 : ByteArray) (a4 : ByteArray) (a5 : Int) (o : (List ByteArray) × (List Int)) (h : spec.KidPut.f K a0 a1 a2 a3 a4 a5 = some o) : Den.Spec Try.prog 16 [.v (.agg [.bool a0, .sl 0 0 a1.length, .sl 1 0 a2.length, .str a3]), one (.str a4), one (.int .i64 a5)] [some ⟨false, .strs a1⟩, some ⟨false, .ints .i64 a2⟩] (.v (.agg [.bool a0, .sl 2 0 o.1.length, .sl 3 0 o.2.length, .str a3])) [some ⟨false, .strs a1⟩, some ⟨false, .ints .i64 a2⟩, some ⟨true, .strs o.1⟩, some ⟨true, .ints .i64 o.2⟩] := by
  unfold spec.KidPut.f at h
  obtain ⟨x1, e1, h⟩ := bind_some h
  obtain ⟨x2, e2, h⟩ := bind_some h
  rcases br_cases h with ⟨c1, h⟩ | ⟨c1, h⟩
  · obtain rfl := Option.some.inj h
    exact Den.Spec.of_walk tab mixed Try.func16 (by kernel_rfl) [.call [(0, false), (1, false)] [] (.v (.agg [.bool a0, .sl 2 0 x1.1.length, .sl 3 0 x1.2.length, .str a3])) [some ⟨false, .strs a1⟩, some ⟨false, .ints .i64 a2⟩, some ⟨true, .strs x1.1⟩, some ⟨true, .ints .i64 x1.2⟩], .loop [] [1, 2, 6, 7, 8, 9, 10] [0, 1, 3, 4, 5, 8, 6, 7, 11, 14, 15] (.exit 0) (spec.KidPut.l0.e0 a0 a1 a2 a3 a4 a5 x2), .br false] [] [0, 1, 6, 7] (nd (spec.KidDrop.spec K a0 a1 a2 a3 a4 _ e1) (nd (spec.KidPut.l0.spec a0 a1 a2 a3 a4 a5 K x1.1 x1.2 [] [] false 0 _ e2) (nd (nf c1) trivial))) (by kernel_rfl)
  · obtain ⟨p1, h⟩ := ck_some h
    obtain ⟨p2, h⟩ := ck_some h
    obtain rfl := Option.some.inj h
    exact Den.Spec.of_walk tab mixed Try.func16 (by kernel_rfl) [.call [(0, false), (1, false)] [] (.v (.agg [.bool a0, .sl 2 0 x1.1.length, .sl 3 0 x1.2.length, .str a3])) [some ⟨false, .strs a1⟩, some ⟨false, .ints .i64 a2⟩, some ⟨true, .strs x1.1⟩, some ⟨true, .ints .i64 x1.2⟩], .loop [] [1, 2, 6, 7, 8, 9, 10] [0, 1, 3, 4, 5, 8, 6, 7, 11, 14, 15] (.exit 0) (spec.KidPut.l0.e0 a0 a1 a2 a3 a4 a5 x2), .br true, .br true, .br true] [] [0, 1, 9, 11] (nd (spec.KidDrop.spec K a0 a1 a2 a3 a4 _ e1) (nd (spec.KidPut.l0.spec a0 a1 a2 a3 a4 a5 K x1.1 x1.2 [] [] false 0 _ e2) (nd (nt c1) (nd (rfl : (0 : Nat) = 0) (nd (rfl : x2.1.length = x2.1.length) (nd p1 (nd (rfl : (0 : Nat) = 0) (nd (rfl : 1 = 1) (nd (rfl : (0 : Nat) = 0) (nd (rfl : x2.2.1.length = x2.2.1.length) (nd p2 (nd (rfl : (0 : Nat) = 0) (nd (rfl : 1 = 1) trivial))))))))))))) (by kernel_rfl)
def slices.Clone_string_string.f (a0 : List ByteArray) : Option (List ByteArray) := ck (a0.length * 16 ≤ 70368744177664) (some a0)
theorem slices.Clone_string_string.spec (a0 : List ByteArray) (o : List ByteArray) (h : slices.Clone_string_string.f a0 = some o) : Den.Spec Try.prog 99 [one (.sl 0 0 a0.length)] [some ⟨false, .strs a0⟩] (one (.sl 1 0 o.length)) [some ⟨false, .strs a0⟩, some ⟨true, .strs o⟩] := by
  unfold slices.Clone_string_string.f at h
  obtain ⟨p, h⟩ := ck_some h
  obtain rfl := Option.some.inj h
  refine Den.Spec.fork tab mixed Try.func99 (by kernel_rfl) 4 (by kernel_rfl) (n := a0.length) [.br true] [] [0, 2] (nd trivial (nd (rfl : (0 : Nat) = 0) (nd (rfl : (0 : Nat) = 0) (nd p (nd (rfl : (0 : Nat) = 0) (nd (rfl : a0.length = a0.length) trivial)))))) (by kernel_rfl) (fun h0 => ?_)
  obtain rfl := List.eq_nil_of_length_eq_zero h0
  exact ⟨[], [(2, [.strs])], [0, 1], True ∧ True, by kernel_rfl, trivial, trivial⟩
def slices.Clone_int_int.f (a0 : List Int) : Option (List Int) := ck (a0.length * 8 ≤ 70368744177664) (some a0)
theorem slices.Clone_int_int.spec (a0 : List Int) (o : List Int) (h : slices.Clone_int_int.f a0 = some o) : Den.Spec Try.prog 100 [one (.sl 0 0 a0.length)] [some ⟨false, .ints .i64 a0⟩] (one (.sl 1 0 o.length)) [some ⟨false, .ints .i64 a0⟩, some ⟨true, .ints .i64 o⟩] := by
  unfold slices.Clone_int_int.f at h
  obtain ⟨p, h⟩ := ck_some h
  obtain rfl := Option.some.inj h
  refine Den.Spec.fork tab mixed Try.func100 (by kernel_rfl) 4 (by kernel_rfl) (n := a0.length) [.br true] [] [0, 2] (nd trivial (nd (rfl : (0 : Nat) = 0) (nd (rfl : (0 : Nat) = 0) (nd p (nd (rfl : (0 : Nat) = 0) (nd (rfl : a0.length = a0.length) trivial)))))) (by kernel_rfl) (fun h0 => ?_)
  obtain rfl := List.eq_nil_of_length_eq_zero h0
  exact ⟨[], [(2, [.ints .i64])], [0, 1], True ∧ True, by kernel_rfl, trivial, trivial⟩
def impl.pairs.f (a0 : Bool) (a1 : List ByteArray) (a2 : List Int) (a3 : ByteArray) : Option ((List ByteArray) × (List Int)) :=
  ck (0 ≤ (minI (a1.length : Int) (a2.length : Int))) (ck ((minI (a1.length : Int) (a2.length : Int)) ≤ (a1.length : Int)) (Option.bind (slices.Clone_string_string.f ((a1.drop 0).take ((minI (a1.length : Int) (a2.length : Int)).toNat))) fun x1 => ck (0 + ((minI (a1.length : Int) (a2.length : Int)).toNat) ≤ a1.length) (ck ((minI (a1.length : Int) (a2.length : Int)) ≤ (a2.length : Int)) (Option.bind (slices.Clone_int_int.f ((a2.drop 0).take ((minI (a1.length : Int) (a2.length : Int)).toNat))) fun x2 => ck (0 + ((minI (a1.length : Int) (a2.length : Int)).toNat) ≤ a2.length) (some (x1, x2))))))
theorem impl.pairs.spec (a0 : Bool) (a1 : List ByteArray) (a2 : List Int) (a3 : ByteArray) (o : (List ByteArray) × (List Int)) (h : impl.pairs.f a0 a1 a2 a3 = some o) : Den.Spec Try.prog 55 [.v (.agg [.bool a0, .sl 0 0 a1.length, .sl 1 0 a2.length, .str a3])] [some ⟨false, .strs a1⟩, some ⟨false, .ints .i64 a2⟩] (.v (.agg [.bool a0, .sl 2 0 o.1.length, .sl 3 0 o.2.length, .str a3])) [some ⟨false, .strs a1⟩, some ⟨false, .ints .i64 a2⟩, some ⟨true, .strs o.1⟩, some ⟨true, .ints .i64 o.2⟩] := by
  unfold impl.pairs.f at h
  obtain ⟨p1, h⟩ := ck_some h
  obtain ⟨p2, h⟩ := ck_some h
  obtain ⟨x1, e1, h⟩ := bind_some h
  obtain ⟨p3, h⟩ := ck_some h
  obtain ⟨p4, h⟩ := ck_some h
  obtain ⟨x2, e2, h⟩ := bind_some h
  obtain ⟨p5, h⟩ := ck_some h
  obtain rfl := Option.some.inj h
  exact Den.Spec.of_walk tab mixed Try.func55 (by kernel_rfl) [.call [] [(0, false)] (one (.sl 1 0 x1.length)) [some ⟨false, .strs ((a1.drop 0).take ((minI (a1.length : Int) (a2.length : Int)).toNat))⟩, some ⟨true, .strs x1⟩], .call [] [(0, false)] (one (.sl 1 0 x2.length)) [some ⟨false, .ints .i64 ((a2.drop 0).take ((minI (a1.length : Int) (a2.length : Int)).toNat))⟩, some ⟨true, .ints .i64 x2⟩]] [] [0, 1, 54, 94] (nd (Int.le_refl 0) (nd p1 (nd p2 (nd ((slices.Clone_string_string.spec ((a1.drop 0).take ((minI (a1.length : Int) (a2.length : Int)).toNat)) _ e1).args (congrArg (fun n => ([one (.sl 0 0 n)] : List AV)) (win_len p3))) (nd (Int.le_refl 0) (nd p1 (nd p4 (nd ((slices.Clone_int_int.spec ((a2.drop 0).take ((minI (a1.length : Int) (a2.length : Int)).toNat)) _ e2).args (congrArg (fun n => ([one (.sl 0 0 n)] : List AV)) (win_len p5))) trivial)))))))) (by kernel_rfl)
def slices.Index_string_string.l0.f (a0 : List ByteArray) (a1 : ByteArray) : Nat → Int → Option (Int ⊕ Unit)
  | 0, _ => none
  | k + 1, v26_0 =>
    cond (decide (v26_0 < (a0.length : Int))) (ck (0 ≤ v26_0) (cond (strEq a1 (a0.getD v26_0.toNat noVal)) (some (.inl v26_0)) (slices.Index_string_string.l0.f a0 a1 k (w64 (v26_0 + 1))))) (some (.inr (())))
def slices.Index_string_string.l0.s (a0 : List ByteArray) (a1 : ByteArray) (v26_0 : Int) : St := mkSt 19 [(0, one (.sl 0 0 a0.length)), (1, one (.str a1)), (7, one (.int .i64 (a0.length : Int))), (8, one (.int .i64 v26_0))] [some ⟨false, .strs a0⟩]
def slices.Index_string_string.l0.e0 (a0 : List ByteArray) (a1 : ByteArray) (o : Int) : St := mkSt 19 [(4, one (.int .i64 o))] [some ⟨false, .strs a0⟩]
def slices.Index_string_string.l0.e1 (a0 : List ByteArray) (a1 : ByteArray) (o : Unit) : St := mkSt 19 [] [some ⟨false, .strs a0⟩]
def slices.Index_string_string.l0.x (a0 : List ByteArray) (a1 : ByteArray) : (Int ⊕ Unit) → AExit × St := Sum.elim (fun o => (.ret, slices.Index_string_string.l0.e0 a0 a1 o)) (fun o => (.exit 0, slices.Index_string_string.l0.e1 a0 a1 o))
theorem slices.Index_string_string.l0.spec (a0 : List ByteArray) (a1 : ByteArray) : ∀ (k : Nat) (v26_0 : Int) (o : Int ⊕ Unit), slices.Index_string_string.l0.f a0 a1 k v26_0 = some o → LoopSpec Try.prog 1 (loopN Try.f56 0) (slices.Index_string_string.l0.s a0 a1 v26_0) (slices.Index_string_string.l0.x a0 a1 o).1 (slices.Index_string_string.l0.x a0 a1 o).2
  | 0, _, _, h => by cases h
  | k + 1, v26_0, o, h => by
    unfold slices.Index_string_string.l0.f at h
    rcases br_cases h with ⟨c1, h⟩ | ⟨c1, h⟩
    · obtain ⟨p1, h⟩ := ck_some h
      rcases br_cases h with ⟨c2, h⟩ | ⟨c2, h⟩
      · obtain rfl := Option.some.inj h
        exact .of_done tab mixed [.br true, .br true] [] [4] [0] rfl (nd c1 (nd p1 (nd (of_decide_eq_true c1) (nd (tn p1 (of_decide_eq_true c1)) (nd c2 trivial))))) (by kernel_rfl)
      · exact .of_step tab mixed [.br true, .br false] [] [0, 1, 7, 8] [0] (s1 := slices.Index_string_string.l0.s a0 a1 (w64 (v26_0 + 1))) (nd c1 (nd p1 (nd (of_decide_eq_true c1) (nd (tn p1 (of_decide_eq_true c1)) (nd c2 trivial))))) (by kernel_rfl) (slices.Index_string_string.l0.spec a0 a1 k (w64 (v26_0 + 1)) _ h)
    · obtain rfl := Option.some.inj h
      exact .of_done tab mixed [.br false] [] [] [0] rfl (nd c1 trivial) (by kernel_rfl)
def slices.Index_string_string.f (K : Nat) (a0 : List ByteArray) (a1 : ByteArray) : Option (Int) :=
  Option.bind (slices.Index_string_string.l0.f a0 a1 K 0) fun x1 => (Sum.elim (fun x1 => some x1) (fun x1 => some (-1))) x1
theorem slices.Index_string_string.spec (K : Nat) (a0 : List ByteArray) (a1 : ByteArray) (o : Int) (h : slices.Index_string_string.f K a0 a1 = some o) : Den.Spec Try.prog 56 [one (.sl 0 0 a0.length), one (.str a1)] [some ⟨false, .strs a0⟩] (one (.int .i64 o)) [some ⟨false, .strs a0⟩] := by
  unfold slices.Index_string_string.f at h
  obtain ⟨x1, e1, h⟩ := bind_some h
  rcases x1 with x1 | x1
  · obtain rfl := Option.some.inj h
    exact Den.Spec.of_walk tab mixed Try.func56 (by kernel_rfl) [.loop [] [0, 1, 7, 8] [0] (.ret) (slices.Index_string_string.l0.e0 a0 a1 x1)] [] [0] (nd (slices.Index_string_string.l0.spec a0 a1 K 0 _ e1) trivial) (by kernel_rfl)
  · obtain rfl := Option.some.inj h
    exact Den.Spec.of_walk tab mixed Try.func56 (by kernel_rfl) [.loop [] [0, 1, 7, 8] [0] (.exit 0) (slices.Index_string_string.l0.e1 a0 a1 x1)] [] [0] (nd (slices.Index_string_string.l0.spec a0 a1 K 0 _ e1) trivial) (by kernel_rfl)
def slices.Delete_string_string.f (a0 : List ByteArray) (a1 : Int) (a2 : Int) : Option (List ByteArray) := ck (0 ≤ a1) (ck (a1 ≤ a2) (ck (a2 ≤ (a0.length : Int)) (ck (0 < a0.length) (some (a0.take a1.toNat ++ a0.drop a2.toNat)))))
theorem slices.Delete_string_string.spec (a0 : List ByteArray) (a1 : Int) (a2 : Int) (o : List ByteArray) (h : slices.Delete_string_string.f a0 a1 a2 = some o) : Den.Spec Try.prog 57 [one (.sl 0 0 a0.length), one (.int .i64 a1), one (.int .i64 a2)] [some ⟨true, .strs a0⟩] (one (.sl 0 0 o.length)) [some ⟨true, .strs o⟩] := by
  unfold slices.Delete_string_string.f at h
  obtain ⟨p0, h⟩ := ck_some h
  obtain ⟨p1, h⟩ := ck_some h
  obtain ⟨p2, h⟩ := ck_some h
  obtain ⟨p3, h⟩ := ck_some h
  obtain rfl := Option.some.inj h
  exact LibIns.delS a0 a1 a2 p0 p1 p2 p3

def slices.Delete_int_int.f (a0 : List Int) (a1 : Int) (a2 : Int) : Option (List Int) := ck (0 ≤ a1) (ck (a1 ≤ a2) (ck (a2 ≤ (a0.length : Int)) (ck (0 < a0.length) (some (a0.take a1.toNat ++ a0.drop a2.toNat)))))
theorem slices.Delete_int_int.spec (a0 : List Int) (a1 : Int) (a2 : Int) (o : List Int) (h : slices.Delete_int_int.f a0 a1 a2 = some o) : Den.Spec Try.prog 58 [one (.sl 0 0 a0.length), one (.int .i64 a1), one (.int .i64 a2)] [some ⟨true, .ints .i64 a0⟩] (one (.sl 0 0 o.length)) [some ⟨true, .ints .i64 o⟩] := by
  unfold slices.Delete_int_int.f at h
  obtain ⟨p0, h⟩ := ck_some h
  obtain ⟨p1, h⟩ := ck_some h
  obtain ⟨p2, h⟩ := ck_some h
  obtain ⟨p3, h⟩ := ck_some h
  obtain rfl := Option.some.inj h
  exact LibIns.delI a0 a1 a2 p0 p1 p2 p3

def impl.KidDrop.f (K : Nat) (a0 : Bool) (a1 : List ByteArray) (a2 : List Int) (a3 : ByteArray) (a4 : ByteArray) : Option ((List ByteArray) × (List Int)) :=
  Option.bind (impl.pairs.f a0 a1 a2 a3) fun x1 => Option.bind (slices.Index_string_string.f K x1.1 a4) fun x2 => cond (decide (x2 ≥ 0)) (Option.bind (slices.Delete_string_string.f x1.1 x2 (w64 (x2 + 1))) fun x3 => Option.bind (slices.Delete_int_int.f x1.2 x2 (w64 (x2 + 1))) fun x4 => some (x3, x4)) (some (x1.1, x1.2))
theorem impl.KidDrop.spec (K : Nat) (a0 : Bool) (a1 : List ByteArray) (a2 : List Int) (a3 : ByteArray) (a4 : ByteArray) (o : (List ByteArray) × (List Int)) (h : impl.KidDrop.f K a0 a1 a2 a3 a4 = some o) : Den.Spec Try.prog 12 [.v (.agg [.bool a0, .sl 0 0 a1.length, .sl 1 0 a2.length, .str a3]), one (.str a4)] [some ⟨false, .strs a1⟩, some ⟨false, .ints .i64 a2⟩] (.v (.agg [.bool a0, .sl 2 0 o.1.length, .sl 3 0 o.2.length, .str a3])) [some ⟨false, .strs a1⟩, some ⟨false, .ints .i64 a2⟩, some ⟨true, .strs o.1⟩, some ⟨true, .ints .i64 o.2⟩] := by
  unfold impl.KidDrop.f at h
  obtain ⟨x1, e1, h⟩ := bind_some h
  obtain ⟨x2, e2, h⟩ := bind_some h
  rcases br_cases h with ⟨c1, h⟩ | ⟨c1, h⟩
  · obtain ⟨x3, e3, h⟩ := bind_some h
    obtain ⟨x4, e4, h⟩ := bind_some h
    obtain rfl := Option.some.inj h
    exact Den.Spec.of_walk tab mixed Try.func12 (by kernel_rfl) [.call [(0, false), (1, false)] [] (.v (.agg [.bool a0, .sl 2 0 x1.1.length, .sl 3 0 x1.2.length, .str a3])) [some ⟨false, .strs a1⟩, some ⟨false, .ints .i64 a2⟩, some ⟨true, .strs x1.1⟩, some ⟨true, .ints .i64 x1.2⟩], .call [] [(0, true)] (one (.int .i64 x2)) [some ⟨false, .strs x1.1⟩], .br true, .call [(6, true)] [] (one (.sl 0 0 x3.length)) [some ⟨true, .strs x3⟩], .call [(7, true)] [] (one (.sl 0 0 x4.length)) [some ⟨true, .ints .i64 x4⟩]] [] [0, 1, 6, 7] (nd (impl.pairs.spec a0 a1 a2 a3 _ e1) (nd (slices.Index_string_string.spec K x1.1 a4 _ e2) (nd (rfl : (0 : Nat) = 0) (nd (rfl : x1.1.length = x1.1.length) (nd c1 (nd (slices.Delete_string_string.spec x1.1 x2 (w64 (x2 + 1)) _ e3) (nd (slices.Delete_int_int.spec x1.2 x2 (w64 (x2 + 1)) _ e4) trivial))))))) (by kernel_rfl)
  · obtain rfl := Option.some.inj h
    exact Den.Spec.of_walk tab mixed Try.func12 (by kernel_rfl) [.call [(0, false), (1, false)] [] (.v (.agg [.bool a0, .sl 2 0 x1.1.length, .sl 3 0 x1.2.length, .str a3])) [some ⟨false, .strs a1⟩, some ⟨false, .ints .i64 a2⟩, some ⟨true, .strs x1.1⟩, some ⟨true, .ints .i64 x1.2⟩], .call [] [(0, true)] (one (.int .i64 x2)) [some ⟨false, .strs x1.1⟩], .br false] [] [0, 1, 6, 7] (nd (impl.pairs.spec a0 a1 a2 a3 _ e1) (nd (slices.Index_string_string.spec K x1.1 a4 _ e2) (nd (rfl : (0 : Nat) = 0) (nd (rfl : x1.1.length = x1.1.length) (nd c1 trivial))))) (by kernel_rfl)
def impl.KidPut.l0.f (a0 : Bool) (a1 : List ByteArray) (a2 : List Int) (a3 : ByteArray) (a4 : ByteArray) (a5 : Int) : Nat → (List ByteArray) → (List Int) → Int → Option ((List ByteArray) × (List Int) × Int)
  | 0, _, _, _ => none
  | k + 1, v34_0, v34_1, v34_2 =>
    cond (decide (v34_2 < (v34_0.length : Int))) (ck (0 ≤ v34_2) (cond (strLt (v34_0.getD v34_2.toNat noVal) a4 || strEq (v34_0.getD v34_2.toNat noVal) a4) (impl.KidPut.l0.f a0 a1 a2 a3 a4 a5 k v34_0 v34_1 (w64 (v34_2 + 1))) (some (v34_0, v34_1, v34_2)))) (some (v34_0, v34_1, v34_2))
def impl.KidPut.l0.s (a0 : Bool) (a1 : List ByteArray) (a2 : List Int) (a3 : ByteArray) (a4 : ByteArray) (a5 : Int) (v34_0 : List ByteArray) (v34_1 : List Int) (v34_2 : Int) : St := mkSt 43 [(1, one (.str a4)), (2, one (.int .i64 a5)), (6, one (.ptr 2 0 0)), (7, one (.ptr 5 0 0)), (8, one (.int .i64 v34_2))] [some ⟨false, .strs a1⟩, some ⟨false, .ints .i64 a2⟩, some ⟨true, .cells [.bool false, .sl 3 0 0, .sl 4 0 0, .str noVal]⟩, some ⟨true, .strs []⟩, some ⟨true, .ints .i64 []⟩, some ⟨true, .cells [.bool a0, .sl 6 0 v34_0.length, .sl 7 0 v34_1.length, .str a3]⟩, some ⟨true, .strs v34_0⟩, some ⟨true, .ints .i64 v34_1⟩]
def impl.KidPut.l0.e0 (a0 : Bool) (a1 : List ByteArray) (a2 : List Int) (a3 : ByteArray) (a4 : ByteArray) (a5 : Int) (o : (List ByteArray) × (List Int) × Int) : St := mkSt 43 [(1, one (.str a4)), (2, one (.int .i64 a5)), (6, one (.ptr 2 0 0)), (7, one (.ptr 5 0 0)), (8, one (.int .i64 o.2.2))] [some ⟨false, .strs a1⟩, some ⟨false, .ints .i64 a2⟩, some ⟨true, .cells [.bool false, .sl 3 0 0, .sl 4 0 0, .str noVal]⟩, some ⟨true, .strs []⟩, some ⟨true, .ints .i64 []⟩, some ⟨true, .cells [.bool a0, .sl 6 0 o.1.length, .sl 7 0 o.2.1.length, .str a3]⟩, some ⟨true, .strs o.1⟩, some ⟨true, .ints .i64 o.2.1⟩]
def impl.KidPut.l0.x (a0 : Bool) (a1 : List ByteArray) (a2 : List Int) (a3 : ByteArray) (a4 : ByteArray) (a5 : Int) : ((List ByteArray) × (List Int) × Int) → AExit × St := fun o => (.exit 0, impl.KidPut.l0.e0 a0 a1 a2 a3 a4 a5 o)
theorem impl.KidPut.l0.spec (a0 : Bool) (a1 : List ByteArray) (a2 : List Int) (a3 : ByteArray) (a4 : ByteArray) (a5 : Int) : ∀ (k : Nat) (v34_0 : List ByteArray) (v34_1 : List Int) (v34_2 : Int) (o : (List ByteArray) × (List Int) × Int), impl.KidPut.l0.f a0 a1 a2 a3 a4 a5 k v34_0 v34_1 v34_2 = some o → LoopSpec Try.prog 2 (loopN Try.f17 0) (impl.KidPut.l0.s a0 a1 a2 a3 a4 a5 v34_0 v34_1 v34_2) (impl.KidPut.l0.x a0 a1 a2 a3 a4 a5 o).1 (impl.KidPut.l0.x a0 a1 a2 a3 a4 a5 o).2
  | 0, _, _, _, _, h => by cases h
  | k + 1, v34_0, v34_1, v34_2, o, h => by
    unfold impl.KidPut.l0.f at h
    rcases br_cases h with ⟨c1, h⟩ | ⟨c1, h⟩
    · obtain ⟨p1, h⟩ := ck_some h
      rcases br_cases h with ⟨c2, h⟩ | ⟨c2, h⟩
      · exact .of_step tab mixed [.br true, .br true, .br true, .br true, .br true, .br true, .br true, .br true, .br true] [] [1, 2, 6, 7, 8] [0, 1, 2, 3, 4, 5, 6, 7] (s1 := impl.KidPut.l0.s a0 a1 a2 a3 a4 a5 v34_0 v34_1 (w64 (v34_2 + 1))) (nd c1 (nd c1 (nd c1 (nd c1 (nd p1 (nd (of_decide_eq_true c1) (nd c1 (nd (tn p1 (of_decide_eq_true c1)) (nd c1 (nd c1 (nd c1 (nd c2 trivial)))))))))))) (by kernel_rfl) (impl.KidPut.l0.spec a0 a1 a2 a3 a4 a5 k v34_0 v34_1 (w64 (v34_2 + 1)) _ h)
      · obtain rfl := Option.some.inj h
        exact .of_done tab mixed [.br true, .br true, .br true, .br true, .br true, .br true, .br true, .br true, .br false] [] [1, 2, 6, 7, 8] [0, 1, 2, 3, 4, 5, 6, 7] rfl (nd c1 (nd c1 (nd c1 (nd c1 (nd p1 (nd (of_decide_eq_true c1) (nd c1 (nd (tn p1 (of_decide_eq_true c1)) (nd c1 (nd c1 (nd c1 (nd c2 trivial)))))))))))) (by kernel_rfl)
    · obtain rfl := Option.some.inj h
      exact .of_done tab mixed [.br false, .br false, .br false, .br false, .br false, .br false, .br false, .br false, .br false] [] [1, 2, 6, 7, 8] [0, 1, 2, 3, 4, 5, 6, 7] rfl (nd c1 (nd c1 (nd c1 (nd c1 (nd c1 (nd c1 (nd c1 (nd c1 (nd ff trivial))))))))) (by kernel_rfl)
def slices.Insert_string_string.f (a0 : List ByteArray) (a1 : Int) (a2 : List ByteArray) : Option (List ByteArray) := ck (0 ≤ a1) (ck (a1 ≤ (a0.length : Int)) (ck (0 < a2.length) (ck ((a0.length + a2.length) * 16 ≤ 140737488355328) (some (a0.take a1.toNat ++ (a2 ++ a0.drop a1.toNat))))))
theorem slices.Insert_string_string.spec (a0 : List ByteArray) (a1 : Int) (a2 : List ByteArray) (o : List ByteArray) (h : slices.Insert_string_string.f a0 a1 a2 = some o) : Den.Spec Try.prog 65 [one (.sl 0 0 a0.length), one (.int .i64 a1), one (.sl 1 0 a2.length)] [some ⟨true, .strs a0⟩, some ⟨true, .strs a2⟩] (one (.sl 2 0 o.length)) [none, some ⟨true, .strs a2⟩, some ⟨true, .strs o⟩] := by
  unfold slices.Insert_string_string.f at h
  obtain ⟨p0, h⟩ := ck_some h
  obtain ⟨p1, h⟩ := ck_some h
  obtain ⟨p2, h⟩ := ck_some h
  obtain ⟨p3, h⟩ := ck_some h
  obtain rfl := Option.some.inj h
  exact LibIns.insS a0 a1 a2 p0 p1 p2 p3

def slices.Insert_int_int.f (a0 : List Int) (a1 : Int) (a2 : List Int) : Option (List Int) := ck (0 ≤ a1) (ck (a1 ≤ (a0.length : Int)) (ck (0 < a2.length) (ck ((a0.length + a2.length) * 8 ≤ 140737488355328) (some (a0.take a1.toNat ++ (a2 ++ a0.drop a1.toNat))))))
theorem slices.Insert_int_int.spec (a0 : List Int) (a1 : Int) (a2 : List Int) (o : List Int) (h : slices.Insert_int_int.f a0 a1 a2 = some o) : Den.Spec Try.prog 66 [one (.sl 0 0 a0.length), one (.int .i64 a1), one (.sl 1 0 a2.length)] [some ⟨true, .ints .i64 a0⟩, some ⟨true, .ints .i64 a2⟩] (one (.sl 2 0 o.length)) [none, some ⟨true, .ints .i64 a2⟩, some ⟨true, .ints .i64 o⟩] := by
  unfold slices.Insert_int_int.f at h
  obtain ⟨p0, h⟩ := ck_some h
  obtain ⟨p1, h⟩ := ck_some h
  obtain ⟨p2, h⟩ := ck_some h
  obtain ⟨p3, h⟩ := ck_some h
  obtain rfl := Option.some.inj h
  exact LibIns.insI a0 a1 a2 p0 p1 p2 p3

def impl.KidPut.f (K : Nat) (a0 : Bool) (a1 : List ByteArray) (a2 : List Int) (a3 : ByteArray) (a4 : ByteArray) (a5 : Int) : Option ((List ByteArray) × (List Int)) :=
  Option.bind (impl.KidDrop.f K a0 a1 a2 a3 a4) fun x1 => Option.bind (impl.KidPut.l0.f a0 a1 a2 a3 a4 a5 K x1.1 x1.2 0) fun x2 => Option.bind (slices.Insert_string_string.f x2.1 x2.2.2 [a4]) fun x3 => Option.bind (slices.Insert_int_int.f x2.2.1 x2.2.2 [a5]) fun x4 => some (x3, x4)
theorem impl.KidPut.spec (K : Nat) (a0 : Bool) (a1 : List ByteArray) (a2 : List Int) (a3 : ByteArray) (a4 : ByteArray) (a5 : Int) (o : (List ByteArray) × (List Int)) (h : impl.KidPut.f K a0 a1 a2 a3 a4 a5 = some o) : Den.Spec Try.prog 17 [.v (.agg [.bool a0, .sl 0 0 a1.length, .sl 1 0 a2.length, .str a3]), one (.str a4), one (.int .i64 a5)] [some ⟨false, .strs a1⟩, some ⟨false, .ints .i64 a2⟩] (.v (.agg [.bool a0, .sl 2 0 o.1.length, .sl 3 0 o.2.length, .str a3])) [some ⟨false, .strs a1⟩, some ⟨false, .ints .i64 a2⟩, some ⟨true, .strs o.1⟩, some ⟨true, .ints .i64 o.2⟩] := by
  unfold impl.KidPut.f at h
  obtain ⟨x1, e1, h⟩ := bind_some h
  obtain ⟨x2, e2, h⟩ := bind_some h
  obtain ⟨x3, e3, h⟩ := bind_some h
  obtain ⟨x4, e4, h⟩ := bind_some h
  obtain rfl := Option.some.inj h
  exact Den.Spec.of_walk tab mixed Try.func17 (by kernel_rfl) [.call [(0, false), (1, false)] [] (.v (.agg [.bool a0, .sl 2 0 x1.1.length, .sl 3 0 x1.2.length, .str a3])) [some ⟨false, .strs a1⟩, some ⟨false, .ints .i64 a2⟩, some ⟨true, .strs x1.1⟩, some ⟨true, .ints .i64 x1.2⟩], .loop [] [1, 2, 6, 7, 8] [0, 1, 3, 4, 5, 8, 6, 7] (.exit 0) (impl.KidPut.l0.e0 a0 a1 a2 a3 a4 a5 x2), .call [(6, true), (8, true)] [] (one (.sl 2 0 x3.length)) [none, some ⟨true, .strs [a4]⟩, some ⟨true, .strs x3⟩], .call [(7, true), (10, true)] [] (one (.sl 2 0 x4.length)) [none, some ⟨true, .ints .i64 [a5]⟩, some ⟨true, .ints .i64 x4⟩]] [] [0, 1, 9, 11] (nd (impl.KidDrop.spec K a0 a1 a2 a3 a4 _ e1) (nd (impl.KidPut.l0.spec a0 a1 a2 a3 a4 a5 K x1.1 x1.2 0 _ e2) (nd (slices.Insert_string_string.spec x2.1 x2.2.2 [a4] _ e3) (nd (slices.Insert_int_int.spec x2.2.1 x2.2.2 [a5] _ e4) trivial)))) (by kernel_rfl)
def laws.eqStringS.l0.f (a0 : List ByteArray) (a1 : List ByteArray) : Nat → Int → Option (Unit ⊕ Unit)
  | 0, _ => none
  | k + 1, v37_0 =>
    cond (decide (v37_0 < (a0.length : Int))) (ck (0 ≤ v37_0) (ck (v37_0 < (a1.length : Int)) (cond (strEq (a0.getD v37_0.toNat noVal) (a1.getD v37_0.toNat noVal)) (laws.eqStringS.l0.f a0 a1 k (w64 (v37_0 + 1))) (some (.inl ()))))) (some (.inr (())))
def laws.eqStringS.l0.s (a0 : List ByteArray) (a1 : List ByteArray) (v37_0 : Int) : St := mkSt 26 [(0, one (.sl 0 0 a0.length)), (1, one (.sl 1 0 a1.length)), (5, one (.int .i64 v37_0))] [some ⟨false, .strs a0⟩, some ⟨false, .strs a1⟩]
def laws.eqStringS.l0.e0 (a0 : List ByteArray) (a1 : List ByteArray) (o : Unit) : St := mkSt 26 [(4, one (.bool false))] [some ⟨false, .strs a0⟩, some ⟨false, .strs a1⟩]
def laws.eqStringS.l0.e1 (a0 : List ByteArray) (a1 : List ByteArray) (o : Unit) : St := mkSt 26 [] [some ⟨false, .strs a0⟩, some ⟨false, .strs a1⟩]
def laws.eqStringS.l0.x (a0 : List ByteArray) (a1 : List ByteArray) : (Unit ⊕ Unit) → AExit × St := Sum.elim (fun o => (.ret, laws.eqStringS.l0.e0 a0 a1 o)) (fun o => (.exit 0, laws.eqStringS.l0.e1 a0 a1 o))
theorem laws.eqStringS.l0.spec (a0 : List ByteArray) (a1 : List ByteArray) : ∀ (k : Nat) (v37_0 : Int) (o : Unit ⊕ Unit), laws.eqStringS.l0.f a0 a1 k v37_0 = some o → LoopSpec Try.prog 2 (loopN Try.f59 0) (laws.eqStringS.l0.s a0 a1 v37_0) (laws.eqStringS.l0.x a0 a1 o).1 (laws.eqStringS.l0.x a0 a1 o).2
  | 0, _, _, h => by cases h
  | k + 1, v37_0, o, h => by
    unfold laws.eqStringS.l0.f at h
    rcases br_cases h with ⟨c1, h⟩ | ⟨c1, h⟩
    · obtain ⟨p1, h⟩ := ck_some h
      obtain ⟨p2, h⟩ := ck_some h
      rcases br_cases h with ⟨c2, h⟩ | ⟨c2, h⟩
      · exact .of_step tab mixed [.br true, .br false] [] [0, 1, 5] [0, 1] (s1 := laws.eqStringS.l0.s a0 a1 (w64 (v37_0 + 1))) (nd c1 (nd p1 (nd (of_decide_eq_true c1) (nd (tn p1 (of_decide_eq_true c1)) (nd p1 (nd p2 (nd (tn p1 p2) (nd (nf c2) trivial)))))))) (by kernel_rfl) (laws.eqStringS.l0.spec a0 a1 k (w64 (v37_0 + 1)) _ h)
      · obtain rfl := Option.some.inj h
        exact .of_done tab mixed [.br true, .br true] [] [4] [0, 1] rfl (nd c1 (nd p1 (nd (of_decide_eq_true c1) (nd (tn p1 (of_decide_eq_true c1)) (nd p1 (nd p2 (nd (tn p1 p2) (nd (nt c2) trivial)))))))) (by kernel_rfl)
    · obtain rfl := Option.some.inj h
      exact .of_done tab mixed [.br false] [] [] [0, 1] rfl (nd c1 trivial) (by kernel_rfl)
def laws.eqStringS.f (K : Nat) (a0 : List ByteArray) (a1 : List ByteArray) : Option (Bool) :=
  cond ((a0.length : Int) != (a1.length : Int)) (some false) (Option.bind (laws.eqStringS.l0.f a0 a1 K 0) fun x1 => (Sum.elim (fun x1 => some false) (fun x1 => some true)) x1)
theorem laws.eqStringS.spec (K : Nat) (a0 : List ByteArray) (a1 : List ByteArray) (o : Bool) (h : laws.eqStringS.f K a0 a1 = some o) : Den.Spec Try.prog 59 [one (.sl 0 0 a0.length), one (.sl 1 0 a1.length)] [some ⟨false, .strs a0⟩, some ⟨false, .strs a1⟩] (one (.bool o)) [some ⟨false, .strs a0⟩, some ⟨false, .strs a1⟩] := by
  unfold laws.eqStringS.f at h
  rcases br_cases h with ⟨c1, h⟩ | ⟨c1, h⟩
  · obtain rfl := Option.some.inj h
    exact Den.Spec.of_walk tab mixed Try.func59 (by kernel_rfl) [.br true] [] [0, 1] (nd c1 trivial) (by kernel_rfl)
  · obtain ⟨x1, e1, h⟩ := bind_some h
    rcases x1 with x1 | x1
    · obtain rfl := Option.some.inj h
      exact Den.Spec.of_walk tab mixed Try.func59 (by kernel_rfl) [.br false, .loop [] [0, 1, 5] [0, 1] (.ret) (laws.eqStringS.l0.e0 a0 a1 x1)] [] [0, 1] (nd c1 (nd (laws.eqStringS.l0.spec a0 a1 K 0 _ e1) trivial)) (by kernel_rfl)
    · obtain rfl := Option.some.inj h
      exact Den.Spec.of_walk tab mixed Try.func59 (by kernel_rfl) [.br false, .loop [] [0, 1, 5] [0, 1] (.exit 0) (laws.eqStringS.l0.e1 a0 a1 x1)] [] [0, 1] (nd c1 (nd (laws.eqStringS.l0.spec a0 a1 K 0 _ e1) trivial)) (by kernel_rfl)
def laws.eqIntS.l0.f (a0 : List Int) (a1 : List Int) : Nat → Int → Option (Unit ⊕ Unit)
  | 0, _ => none
  | k + 1, v40_0 =>
    cond (decide (v40_0 < (a0.length : Int))) (ck (0 ≤ v40_0) (ck (v40_0 < (a1.length : Int)) (cond ((a0.getD v40_0.toNat 0) != (a1.getD v40_0.toNat 0)) (some (.inl ())) (laws.eqIntS.l0.f a0 a1 k (w64 (v40_0 + 1)))))) (some (.inr (())))
def laws.eqIntS.l0.s (a0 : List Int) (a1 : List Int) (v40_0 : Int) : St := mkSt 26 [(0, one (.sl 0 0 a0.length)), (1, one (.sl 1 0 a1.length)), (5, one (.int .i64 v40_0))] [some ⟨false, .ints .i64 a0⟩, some ⟨false, .ints .i64 a1⟩]
def laws.eqIntS.l0.e0 (a0 : List Int) (a1 : List Int) (o : Unit) : St := mkSt 26 [(4, one (.bool false))] [some ⟨false, .ints .i64 a0⟩, some ⟨false, .ints .i64 a1⟩]
def laws.eqIntS.l0.e1 (a0 : List Int) (a1 : List Int) (o : Unit) : St := mkSt 26 [] [some ⟨false, .ints .i64 a0⟩, some ⟨false, .ints .i64 a1⟩]
def laws.eqIntS.l0.x (a0 : List Int) (a1 : List Int) : (Unit ⊕ Unit) → AExit × St := Sum.elim (fun o => (.ret, laws.eqIntS.l0.e0 a0 a1 o)) (fun o => (.exit 0, laws.eqIntS.l0.e1 a0 a1 o))
theorem laws.eqIntS.l0.spec (a0 : List Int) (a1 : List Int) : ∀ (k : Nat) (v40_0 : Int) (o : Unit ⊕ Unit), laws.eqIntS.l0.f a0 a1 k v40_0 = some o → LoopSpec Try.prog 2 (loopN Try.f60 0) (laws.eqIntS.l0.s a0 a1 v40_0) (laws.eqIntS.l0.x a0 a1 o).1 (laws.eqIntS.l0.x a0 a1 o).2
  | 0, _, _, h => by cases h
  | k + 1, v40_0, o, h => by
    unfold laws.eqIntS.l0.f at h
    rcases br_cases h with ⟨c1, h⟩ | ⟨c1, h⟩
    · obtain ⟨p1, h⟩ := ck_some h
      obtain ⟨p2, h⟩ := ck_some h
      rcases br_cases h with ⟨c2, h⟩ | ⟨c2, h⟩
      · obtain rfl := Option.some.inj h
        exact .of_done tab mixed [.br true, .br true] [] [4] [0, 1] rfl (nd c1 (nd p1 (nd (of_decide_eq_true c1) (nd (tn p1 (of_decide_eq_true c1)) (nd p1 (nd p2 (nd (tn p1 p2) (nd c2 trivial)))))))) (by kernel_rfl)
      · exact .of_step tab mixed [.br true, .br false] [] [0, 1, 5] [0, 1] (s1 := laws.eqIntS.l0.s a0 a1 (w64 (v40_0 + 1))) (nd c1 (nd p1 (nd (of_decide_eq_true c1) (nd (tn p1 (of_decide_eq_true c1)) (nd p1 (nd p2 (nd (tn p1 p2) (nd c2 trivial)))))))) (by kernel_rfl) (laws.eqIntS.l0.spec a0 a1 k (w64 (v40_0 + 1)) _ h)
    · obtain rfl := Option.some.inj h
      exact .of_done tab mixed [.br false] [] [] [0, 1] rfl (nd c1 trivial) (by kernel_rfl)
def laws.eqIntS.f (K : Nat) (a0 : List Int) (a1 : List Int) : Option (Bool) :=
  cond ((a0.length : Int) != (a1.length : Int)) (some false) (Option.bind (laws.eqIntS.l0.f a0 a1 K 0) fun x1 => (Sum.elim (fun x1 => some false) (fun x1 => some true)) x1)
theorem laws.eqIntS.spec (K : Nat) (a0 : List Int) (a1 : List Int) (o : Bool) (h : laws.eqIntS.f K a0 a1 = some o) : Den.Spec Try.prog 60 [one (.sl 0 0 a0.length), one (.sl 1 0 a1.length)] [some ⟨false, .ints .i64 a0⟩, some ⟨false, .ints .i64 a1⟩] (one (.bool o)) [some ⟨false, .ints .i64 a0⟩, some ⟨false, .ints .i64 a1⟩] := by
  unfold laws.eqIntS.f at h
  rcases br_cases h with ⟨c1, h⟩ | ⟨c1, h⟩
  · obtain rfl := Option.some.inj h
    exact Den.Spec.of_walk tab mixed Try.func60 (by kernel_rfl) [.br true] [] [0, 1] (nd c1 trivial) (by kernel_rfl)
  · obtain ⟨x1, e1, h⟩ := bind_some h
    rcases x1 with x1 | x1
    · obtain rfl := Option.some.inj h
      exact Den.Spec.of_walk tab mixed Try.func60 (by kernel_rfl) [.br false, .loop [] [0, 1, 5] [0, 1] (.ret) (laws.eqIntS.l0.e0 a0 a1 x1)] [] [0, 1] (nd c1 (nd (laws.eqIntS.l0.spec a0 a1 K 0 _ e1) trivial)) (by kernel_rfl)
    · obtain rfl := Option.some.inj h
      exact Den.Spec.of_walk tab mixed Try.func60 (by kernel_rfl) [.br false, .loop [] [0, 1, 5] [0, 1] (.exit 0) (laws.eqIntS.l0.e1 a0 a1 x1)] [] [0, 1] (nd c1 (nd (laws.eqIntS.l0.spec a0 a1 K 0 _ e1) trivial)) (by kernel_rfl)
def laws.eqNode.f (K : Nat) (a0 : Bool) (a1 : List ByteArray) (a2 : List Int) (a3 : ByteArray) (a4 : Bool) (a5 : List ByteArray) (a6 : List Int) (a7 : ByteArray) : Option (Bool) :=
  cond (a0 == a4) (Option.bind (laws.eqStringS.f K a1 a5) fun x1 => cond (x1) (Option.bind (laws.eqIntS.f K a2 a6) fun x2 => cond (x2) (cond (strEq a3 a7) (some true) (some false)) (some false)) (some false)) (some false)
theorem laws.eqNode.spec (K : Nat) (a0 : Bool) (a1 : List ByteArray) (a2 : List Int) (a3 : ByteArray) (a4 : Bool) (a5 : List ByteArray) (a6 : List Int) (a7 : ByteArray) (o : Bool) (h : laws.eqNode.f K a0 a1 a2 a3 a4 a5 a6 a7 = some o) : Den.Spec Try.prog 13 [.v (.agg [.bool a0, .sl 0 0 a1.length, .sl 1 0 a2.length, .str a3]), .v (.agg [.bool a4, .sl 2 0 a5.length, .sl 3 0 a6.length, .str a7])] [some ⟨false, .strs a1⟩, some ⟨false, .ints .i64 a2⟩, some ⟨false, .strs a5⟩, some ⟨false, .ints .i64 a6⟩] (one (.bool o)) [some ⟨false, .strs a1⟩, some ⟨false, .ints .i64 a2⟩, some ⟨false, .strs a5⟩, some ⟨false, .ints .i64 a6⟩] := by
  unfold laws.eqNode.f at h
  rcases br_cases h with ⟨c1, h⟩ | ⟨c1, h⟩
  · obtain ⟨x1, e1, h⟩ := bind_some h
    rcases br_cases h with ⟨c2, h⟩ | ⟨c2, h⟩
    · obtain ⟨x2, e2, h⟩ := bind_some h
      rcases br_cases h with ⟨c3, h⟩ | ⟨c3, h⟩
      · rcases br_cases h with ⟨c4, h⟩ | ⟨c4, h⟩
        · obtain rfl := Option.some.inj h
          exact Den.Spec.of_walk tab mixed Try.func13 (by kernel_rfl) [.br false, .call [] [(0, true), (1, true)] (one (.bool x1)) [some ⟨false, .strs a1⟩, some ⟨false, .strs a5⟩], .br false, .call [] [(0, true), (1, true)] (one (.bool x2)) [some ⟨false, .ints .i64 a2⟩, some ⟨false, .ints .i64 a6⟩], .br false, .br false] [] [0, 1, 2, 3] (nd (nf c1) (nd (laws.eqStringS.spec K a1 a5 _ e1) (nd (rfl : (0 : Nat) = 0) (nd (rfl : a1.length = a1.length) (nd (rfl : (0 : Nat) = 0) (nd (rfl : a5.length = a5.length) (nd (nf c2) (nd (laws.eqIntS.spec K a2 a6 _ e2) (nd (rfl : (0 : Nat) = 0) (nd (rfl : a2.length = a2.length) (nd (rfl : (0 : Nat) = 0) (nd (rfl : a6.length = a6.length) (nd (nf c3) (nd (nf c4) trivial)))))))))))))) (by kernel_rfl)
        · obtain rfl := Option.some.inj h
          exact Den.Spec.of_walk tab mixed Try.func13 (by kernel_rfl) [.br false, .call [] [(0, true), (1, true)] (one (.bool x1)) [some ⟨false, .strs a1⟩, some ⟨false, .strs a5⟩], .br false, .call [] [(0, true), (1, true)] (one (.bool x2)) [some ⟨false, .ints .i64 a2⟩, some ⟨false, .ints .i64 a6⟩], .br false, .br true] [] [0, 1, 2, 3] (nd (nf c1) (nd (laws.eqStringS.spec K a1 a5 _ e1) (nd (rfl : (0 : Nat) = 0) (nd (rfl : a1.length = a1.length) (nd (rfl : (0 : Nat) = 0) (nd (rfl : a5.length = a5.length) (nd (nf c2) (nd (laws.eqIntS.spec K a2 a6 _ e2) (nd (rfl : (0 : Nat) = 0) (nd (rfl : a2.length = a2.length) (nd (rfl : (0 : Nat) = 0) (nd (rfl : a6.length = a6.length) (nd (nf c3) (nd (nt c4) trivial)))))))))))))) (by kernel_rfl)
      · obtain rfl := Option.some.inj h
        exact Den.Spec.of_walk tab mixed Try.func13 (by kernel_rfl) [.br false, .call [] [(0, true), (1, true)] (one (.bool x1)) [some ⟨false, .strs a1⟩, some ⟨false, .strs a5⟩], .br false, .call [] [(0, true), (1, true)] (one (.bool x2)) [some ⟨false, .ints .i64 a2⟩, some ⟨false, .ints .i64 a6⟩], .br true] [] [0, 1, 2, 3] (nd (nf c1) (nd (laws.eqStringS.spec K a1 a5 _ e1) (nd (rfl : (0 : Nat) = 0) (nd (rfl : a1.length = a1.length) (nd (rfl : (0 : Nat) = 0) (nd (rfl : a5.length = a5.length) (nd (nf c2) (nd (laws.eqIntS.spec K a2 a6 _ e2) (nd (rfl : (0 : Nat) = 0) (nd (rfl : a2.length = a2.length) (nd (rfl : (0 : Nat) = 0) (nd (rfl : a6.length = a6.length) (nd (nt c3) trivial))))))))))))) (by kernel_rfl)
    · obtain rfl := Option.some.inj h
      exact Den.Spec.of_walk tab mixed Try.func13 (by kernel_rfl) [.br false, .call [] [(0, true), (1, true)] (one (.bool x1)) [some ⟨false, .strs a1⟩, some ⟨false, .strs a5⟩], .br true] [] [0, 1, 2, 3] (nd (nf c1) (nd (laws.eqStringS.spec K a1 a5 _ e1) (nd (rfl : (0 : Nat) = 0) (nd (rfl : a1.length = a1.length) (nd (rfl : (0 : Nat) = 0) (nd (rfl : a5.length = a5.length) (nd (nt c2) trivial))))))) (by kernel_rfl)
  · obtain rfl := Option.some.inj h
    exact Den.Spec.of_walk tab mixed Try.func13 (by kernel_rfl) [.br true] [] [0, 1, 2, 3] (nd (nt c1) trivial) (by kernel_rfl)
def laws.markText.l0.f : Nat → Int → ByteArray → Option (ByteArray)
  | 0, _, _ => none
  | k + 1, v45_0, v45_1 =>
    cond (decide (v45_0 > 0)) (ck ((((ofBytes [IntKind.u8.wrap (w64 (48 + (v45_0.tmod 10)))]).size + v45_1.size : Nat) : Int) ≤ 9223372036854775807) (laws.markText.l0.f k (w64 (v45_0.tdiv 10)) ((ofBytes [IntKind.u8.wrap (w64 (48 + (v45_0.tmod 10)))]) ++ v45_1))) (some v45_1)
def laws.markText.l0.s (v45_0 : Int) (v45_1 : ByteArray) : St := mkSt 20 [(0, one (.int .i64 v45_0)), (3, one (.str v45_1))] []
def laws.markText.l0.e0 (o : ByteArray) : St := mkSt 20 [(3, one (.str o))] []
def laws.markText.l0.x : (ByteArray) → AExit × St := fun o => (.exit 0, laws.markText.l0.e0 o)
theorem laws.markText.l0.spec : ∀ (k : Nat) (v45_0 : Int) (v45_1 : ByteArray) (o : ByteArray), laws.markText.l0.f k v45_0 v45_1 = some o → LoopSpec Try.prog 0 (loopN Try.f101 0) (laws.markText.l0.s v45_0 v45_1) (laws.markText.l0.x o).1 (laws.markText.l0.x o).2
  | 0, _, _, _, h => by cases h
  | k + 1, v45_0, v45_1, o, h => by
    unfold laws.markText.l0.f at h
    rcases br_cases h with ⟨c1, h⟩ | ⟨c1, h⟩
    · obtain ⟨p1, h⟩ := ck_some h
      exact .of_step tab mixed [.br true, .br true] [] [0, 3] [] (s1 := laws.markText.l0.s (w64 (v45_0.tdiv 10)) ((ofBytes [IntKind.u8.wrap (w64 (48 + (v45_0.tmod 10)))]) ++ v45_1)) (nd c1 (nd (by decide : (10 : Int) ≠ 0) (nd (rfl : (0 : Nat) = 0) (nd (rfl : 1 = 1) (nd p1 (nd (by decide : (10 : Int) ≠ 0) trivial)))))) (by kernel_rfl) (laws.markText.l0.spec k (w64 (v45_0.tdiv 10)) ((ofBytes [IntKind.u8.wrap (w64 (48 + (v45_0.tmod 10)))]) ++ v45_1) _ h)
    · obtain rfl := Option.some.inj h
      exact .of_done tab mixed [.br false] [] [3] [] rfl (nd c1 trivial) (by kernel_rfl)
def laws.markText.f (K : Nat) (a0 : Int) : Option (ByteArray) :=
  cond (decide (a0 ≤ 0)) (some (ByteArray.mk #[109, 48])) (Option.bind (laws.markText.l0.f K a0 noVal) fun x1 => ck ((((ByteArray.mk #[109]).size + x1.size : Nat) : Int) ≤ 9223372036854775807) (some ((ByteArray.mk #[109]) ++ x1)))
theorem laws.markText.spec (K : Nat) (a0 : Int) (o : ByteArray) (h : laws.markText.f K a0 = some o) : Den.Spec Try.prog 101 [one (.int .i64 a0)] [] (one (.str o)) [] := by
  unfold laws.markText.f at h
  rcases br_cases h with ⟨c1, h⟩ | ⟨c1, h⟩
  · obtain rfl := Option.some.inj h
    exact Den.Spec.of_walk tab mixed Try.func101 (by kernel_rfl) [.br true] [] [] (nd c1 trivial) (by kernel_rfl)
  · obtain ⟨x1, e1, h⟩ := bind_some h
    obtain ⟨p1, h⟩ := ck_some h
    obtain rfl := Option.some.inj h
    exact Den.Spec.of_walk tab mixed Try.func101 (by kernel_rfl) [.br false, .loop [] [0, 3] [] (.exit 0) (laws.markText.l0.e0 x1)] [] [] (nd c1 (nd (laws.markText.l0.spec K a0 noVal _ e1) (nd p1 trivial))) (by kernel_rfl)
def laws.markStringS.l0.f (K : Nat) : Nat → (List ByteArray) → Int → Int → Option (Int × (List ByteArray))
  | 0, _, _, _ => none
  | k + 1, v47_0, v47_1, v47_2 =>
    cond (decide (v47_2 < (v47_0.length : Int))) (Option.bind (laws.markText.f K v47_1) fun x1 => ck (0 ≤ v47_2) (laws.markStringS.l0.f K k (v47_0.set v47_2.toNat x1) (w64 (v47_1 + 1)) (w64 (v47_2 + 1)))) (some (v47_1, v47_0))
def laws.markStringS.l0.s (K : Nat) (v47_0 : List ByteArray) (v47_1 : Int) (v47_2 : Int) : St := mkSt 20 [(0, one (.sl 0 0 v47_0.length)), (1, one (.int .i64 v47_1)), (5, one (.int .i64 v47_2))] [some ⟨true, .strs v47_0⟩]
def laws.markStringS.l0.e0 (K : Nat) (o : Int × (List ByteArray)) : St := mkSt 20 [(1, one (.int .i64 o.1))] [some ⟨true, .strs o.2⟩]
def laws.markStringS.l0.x (K : Nat) : (Int × (List ByteArray)) → AExit × St := fun o => (.exit 0, laws.markStringS.l0.e0 K o)
theorem laws.markStringS.l0.spec (K : Nat) : ∀ (k : Nat) (v47_0 : List ByteArray) (v47_1 : Int) (v47_2 : Int) (o : Int × (List ByteArray)), laws.markStringS.l0.f K k v47_0 v47_1 v47_2 = some o → LoopSpec Try.prog 1 (loopN Try.f61 0) (laws.markStringS.l0.s K v47_0 v47_1 v47_2) (laws.markStringS.l0.x K o).1 (laws.markStringS.l0.x K o).2
  | 0, _, _, _, _, h => by cases h
  | k + 1, v47_0, v47_1, v47_2, o, h => by
    unfold laws.markStringS.l0.f at h
    rcases br_cases h with ⟨c1, h⟩ | ⟨c1, h⟩
    · obtain ⟨x1, e1, h⟩ := bind_some h
      obtain ⟨p1, h⟩ := ck_some h
      exact .of_step tab mixed [.br true, .call [] [] (one (.str x1)) []] [] [0, 1, 5] [0] (s1 := mkSt 20 [(0, one (.sl 0 0 v47_0.length)), (1, one (.int .i64 (w64 (v47_1 + 1)))), (5, one (.int .i64 (w64 (v47_2 + 1))))] [some ⟨true, .strs (v47_0.set v47_2.toNat x1)⟩]) (nd c1 (nd (laws.markText.spec K v47_1 _ e1) (nd p1 (nd (of_decide_eq_true c1) (nd (tn p1 (of_decide_eq_true c1)) trivial))))) (by kernel_rfl) (LoopSpec.eqs (laws.markStringS.l0.spec K k (v47_0.set v47_2.toNat x1) (w64 (v47_1 + 1)) (w64 (v47_2 + 1)) _ h) (by simp only [laws.markStringS.l0.s, List.length_set, overL_length] : laws.markStringS.l0.s K (v47_0.set v47_2.toNat x1) (w64 (v47_1 + 1)) (w64 (v47_2 + 1)) = mkSt 20 [(0, one (.sl 0 0 v47_0.length)), (1, one (.int .i64 (w64 (v47_1 + 1)))), (5, one (.int .i64 (w64 (v47_2 + 1))))] [some ⟨true, .strs (v47_0.set v47_2.toNat x1)⟩]))
    · obtain rfl := Option.some.inj h
      exact .of_done tab mixed [.br false] [] [1] [0] rfl (nd c1 trivial) (by kernel_rfl)
def laws.markStringS.f (K : Nat) (a0 : List ByteArray) (a1 : Int) : Option (Int × (List ByteArray)) :=
  Option.bind (laws.markStringS.l0.f K K a0 a1 0) fun x1 => some (x1.1, x1.2)
theorem laws.markStringS.spec (K : Nat) (a0 : List ByteArray) (a1 : Int) (o : Int × (List ByteArray)) (h : laws.markStringS.f K a0 a1 = some o) : Den.Spec Try.prog 61 [one (.sl 0 0 a0.length), one (.int .i64 a1)] [some ⟨true, .strs a0⟩] (one (.int .i64 o.1)) [some ⟨true, .strs o.2⟩] := by
  unfold laws.markStringS.f at h
  obtain ⟨x1, e1, h⟩ := bind_some h
  obtain rfl := Option.some.inj h
  exact Den.Spec.of_walk tab mixed Try.func61 (by kernel_rfl) [.loop [] [0, 1, 5] [0] (.exit 0) (laws.markStringS.l0.e0 K x1)] [] [0] (nd (laws.markStringS.l0.spec K K a0 a1 0 _ e1) trivial) (by kernel_rfl)
def laws.markIntS.l0.f : Nat → (List Int) → Int → Int → Option (Int × (List Int))
  | 0, _, _, _ => none
  | k + 1, v50_0, v50_1, v50_2 =>
    cond (decide (v50_2 < (v50_0.length : Int))) (ck (0 ≤ v50_2) (laws.markIntS.l0.f k (v50_0.set v50_2.toNat v50_1) (w64 (v50_1 + 1)) (w64 (v50_2 + 1)))) (some (v50_1, v50_0))
def laws.markIntS.l0.s (v50_0 : List Int) (v50_1 : Int) (v50_2 : Int) : St := mkSt 19 [(0, one (.sl 0 0 v50_0.length)), (1, one (.int .i64 v50_1)), (5, one (.int .i64 v50_2))] [some ⟨true, .ints .i64 v50_0⟩]
def laws.markIntS.l0.e0 (o : Int × (List Int)) : St := mkSt 19 [(1, one (.int .i64 o.1))] [some ⟨true, .ints .i64 o.2⟩]
def laws.markIntS.l0.x : (Int × (List Int)) → AExit × St := fun o => (.exit 0, laws.markIntS.l0.e0 o)
theorem laws.markIntS.l0.spec : ∀ (k : Nat) (v50_0 : List Int) (v50_1 : Int) (v50_2 : Int) (o : Int × (List Int)), laws.markIntS.l0.f k v50_0 v50_1 v50_2 = some o → LoopSpec Try.prog 1 (loopN Try.f62 0) (laws.markIntS.l0.s v50_0 v50_1 v50_2) (laws.markIntS.l0.x o).1 (laws.markIntS.l0.x o).2
  | 0, _, _, _, _, h => by cases h
  | k + 1, v50_0, v50_1, v50_2, o, h => by
    unfold laws.markIntS.l0.f at h
    rcases br_cases h with ⟨c1, h⟩ | ⟨c1, h⟩
    · obtain ⟨p1, h⟩ := ck_some h
      exact .of_step tab mixed [.br true] [] [0, 1, 5] [0] (s1 := mkSt 19 [(0, one (.sl 0 0 v50_0.length)), (1, one (.int .i64 (w64 (v50_1 + 1)))), (5, one (.int .i64 (w64 (v50_2 + 1))))] [some ⟨true, .ints .i64 (v50_0.set v50_2.toNat v50_1)⟩]) (nd c1 (nd p1 (nd (of_decide_eq_true c1) (nd (tn p1 (of_decide_eq_true c1)) trivial)))) (by kernel_rfl) (LoopSpec.eqs (laws.markIntS.l0.spec k (v50_0.set v50_2.toNat v50_1) (w64 (v50_1 + 1)) (w64 (v50_2 + 1)) _ h) (by simp only [laws.markIntS.l0.s, List.length_set, overL_length] : laws.markIntS.l0.s (v50_0.set v50_2.toNat v50_1) (w64 (v50_1 + 1)) (w64 (v50_2 + 1)) = mkSt 19 [(0, one (.sl 0 0 v50_0.length)), (1, one (.int .i64 (w64 (v50_1 + 1)))), (5, one (.int .i64 (w64 (v50_2 + 1))))] [some ⟨true, .ints .i64 (v50_0.set v50_2.toNat v50_1)⟩]))
    · obtain rfl := Option.some.inj h
      exact .of_done tab mixed [.br false] [] [1] [0] rfl (nd c1 trivial) (by kernel_rfl)
def laws.markIntS.f (K : Nat) (a0 : List Int) (a1 : Int) : Option (Int × (List Int)) :=
  Option.bind (laws.markIntS.l0.f K a0 a1 0) fun x1 => some (x1.1, x1.2)
theorem laws.markIntS.spec (K : Nat) (a0 : List Int) (a1 : Int) (o : Int × (List Int)) (h : laws.markIntS.f K a0 a1 = some o) : Den.Spec Try.prog 62 [one (.sl 0 0 a0.length), one (.int .i64 a1)] [some ⟨true, .ints .i64 a0⟩] (one (.int .i64 o.1)) [some ⟨true, .ints .i64 o.2⟩] := by
  unfold laws.markIntS.f at h
  obtain ⟨x1, e1, h⟩ := bind_some h
  obtain rfl := Option.some.inj h
  exact Den.Spec.of_walk tab mixed Try.func62 (by kernel_rfl) [.loop [] [0, 1, 5] [0] (.exit 0) (laws.markIntS.l0.e0 x1)] [] [0] (nd (laws.markIntS.l0.spec K a0 a1 0 _ e1) trivial) (by kernel_rfl)
def laws.markNode.f (K : Nat) (a0 : Bool) (a1 : List ByteArray) (a2 : List Int) (a3 : ByteArray) (a4 : Int) : Option (Int × (List ByteArray) × (List Int)) :=
  Option.bind (laws.markStringS.f K a1 a4) fun x1 => Option.bind (laws.markIntS.f K a2 x1.1) fun x2 => some (x2.1, x1.2, x2.2)
theorem laws.markNode.spec (K : Nat) (a0 : Bool) (a1 : List ByteArray) (a2 : List Int) (a3 : ByteArray) (a4 : Int) (o : Int × (List ByteArray) × (List Int)) (h : laws.markNode.f K a0 a1 a2 a3 a4 = some o) : Den.Spec Try.prog 14 [.v (.agg [.bool a0, .sl 0 0 a1.length, .sl 1 0 a2.length, .str a3]), one (.int .i64 a4)] [some ⟨true, .strs a1⟩, some ⟨true, .ints .i64 a2⟩] (one (.int .i64 o.1)) [some ⟨true, .strs o.2.1⟩, some ⟨true, .ints .i64 o.2.2⟩] := by
  unfold laws.markNode.f at h
  obtain ⟨x1, e1, h⟩ := bind_some h
  obtain ⟨x2, e2, h⟩ := bind_some h
  obtain rfl := Option.some.inj h
  exact Den.Spec.of_walk tab mixed Try.func14 (by kernel_rfl) [.call [(0, true)] [] (one (.int .i64 x1.1)) [some ⟨true, .strs x1.2⟩], .call [(1, true)] [] (one (.int .i64 x2.1)) [some ⟨true, .ints .i64 x2.2⟩]] [] [0, 1] (nd (laws.markStringS.spec K a1 a4 _ e1) (nd (laws.markIntS.spec K a2 x1.1 _ e2) trivial)) (by kernel_rfl)
def laws.heldStringS.l0.f (K : Nat) (a0 : List ByteArray) : Nat → Int → Int → Option (Unit ⊕ Int)
  | 0, _, _ => none
  | k + 1, v54_0, v54_1 =>
    cond (decide (v54_1 < (a0.length : Int))) (ck (0 ≤ v54_1) (Option.bind (laws.markText.f K v54_0) fun x1 => cond (strEq (a0.getD v54_1.toNat noVal) x1) (laws.heldStringS.l0.f K a0 k (w64 (v54_0 + 1)) (w64 (v54_1 + 1))) (some (.inl ())))) (some (.inr (v54_0)))
def laws.heldStringS.l0.s (K : Nat) (a0 : List ByteArray) (v54_0 : Int) (v54_1 : Int) : St := mkSt 22 [(0, one (.sl 0 0 a0.length)), (1, one (.int .i64 v54_0)), (5, one (.int .i64 v54_1))] [some ⟨false, .strs a0⟩]
def laws.heldStringS.l0.e0 (K : Nat) (a0 : List ByteArray) (o : Unit) : St := mkSt 22 [(4, one (.int .i64 (-1)))] [some ⟨false, .strs a0⟩]
def laws.heldStringS.l0.e1 (K : Nat) (a0 : List ByteArray) (o : Int) : St := mkSt 22 [(1, one (.int .i64 o))] [some ⟨false, .strs a0⟩]
def laws.heldStringS.l0.x (K : Nat) (a0 : List ByteArray) : (Unit ⊕ Int) → AExit × St := Sum.elim (fun o => (.ret, laws.heldStringS.l0.e0 K a0 o)) (fun o => (.exit 0, laws.heldStringS.l0.e1 K a0 o))
theorem laws.heldStringS.l0.spec (K : Nat) (a0 : List ByteArray) : ∀ (k : Nat) (v54_0 : Int) (v54_1 : Int) (o : Unit ⊕ Int), laws.heldStringS.l0.f K a0 k v54_0 v54_1 = some o → LoopSpec Try.prog 1 (loopN Try.f63 0) (laws.heldStringS.l0.s K a0 v54_0 v54_1) (laws.heldStringS.l0.x K a0 o).1 (laws.heldStringS.l0.x K a0 o).2
  | 0, _, _, _, h => by cases h
  | k + 1, v54_0, v54_1, o, h => by
    unfold laws.heldStringS.l0.f at h
    rcases br_cases h with ⟨c1, h⟩ | ⟨c1, h⟩
    · obtain ⟨p1, h⟩ := ck_some h
      obtain ⟨x1, e1, h⟩ := bind_some h
      rcases br_cases h with ⟨c2, h⟩ | ⟨c2, h⟩
      · exact .of_step tab mixed [.br true, .call [] [] (one (.str x1)) [], .br false] [] [0, 1, 5] [0] (s1 := laws.heldStringS.l0.s K a0 (w64 (v54_0 + 1)) (w64 (v54_1 + 1))) (nd c1 (nd p1 (nd (of_decide_eq_true c1) (nd (tn p1 (of_decide_eq_true c1)) (nd (laws.markText.spec K v54_0 _ e1) (nd (nf c2) trivial)))))) (by kernel_rfl) (laws.heldStringS.l0.spec K a0 k (w64 (v54_0 + 1)) (w64 (v54_1 + 1)) _ h)
      · obtain rfl := Option.some.inj h
        exact .of_done tab mixed [.br true, .call [] [] (one (.str x1)) [], .br true] [] [4] [0] rfl (nd c1 (nd p1 (nd (of_decide_eq_true c1) (nd (tn p1 (of_decide_eq_true c1)) (nd (laws.markText.spec K v54_0 _ e1) (nd (nt c2) trivial)))))) (by kernel_rfl)
    · obtain rfl := Option.some.inj h
      exact .of_done tab mixed [.br false] [] [1] [0] rfl (nd c1 trivial) (by kernel_rfl)
def laws.heldStringS.f (K : Nat) (a0 : List ByteArray) (a1 : Int) : Option (Int) :=
  Option.bind (laws.heldStringS.l0.f K a0 K a1 0) fun x1 => (Sum.elim (fun x1 => some (-1)) (fun x1 => some x1)) x1
theorem laws.heldStringS.spec (K : Nat) (a0 : List ByteArray) (a1 : Int) (o : Int) (h : laws.heldStringS.f K a0 a1 = some o) : Den.Spec Try.prog 63 [one (.sl 0 0 a0.length), one (.int .i64 a1)] [some ⟨false, .strs a0⟩] (one (.int .i64 o)) [some ⟨false, .strs a0⟩] := by
  unfold laws.heldStringS.f at h
  obtain ⟨x1, e1, h⟩ := bind_some h
  rcases x1 with x1 | x1
  · obtain rfl := Option.some.inj h
    exact Den.Spec.of_walk tab mixed Try.func63 (by kernel_rfl) [.loop [] [0, 1, 5] [0] (.ret) (laws.heldStringS.l0.e0 K a0 x1)] [] [0] (nd (laws.heldStringS.l0.spec K a0 K a1 0 _ e1) trivial) (by kernel_rfl)
  · obtain rfl := Option.some.inj h
    exact Den.Spec.of_walk tab mixed Try.func63 (by kernel_rfl) [.loop [] [0, 1, 5] [0] (.exit 0) (laws.heldStringS.l0.e1 K a0 x1)] [] [0] (nd (laws.heldStringS.l0.spec K a0 K a1 0 _ e1) trivial) (by kernel_rfl)
def laws.heldIntS.l0.f (a0 : List Int) : Nat → Int → Int → Option (Unit ⊕ Int)
  | 0, _, _ => none
  | k + 1, v57_0, v57_1 =>
    cond (decide (v57_1 < (a0.length : Int))) (ck (0 ≤ v57_1) (cond ((a0.getD v57_1.toNat 0) != v57_0) (some (.inl ())) (laws.heldIntS.l0.f a0 k (w64 (v57_0 + 1)) (w64 (v57_1 + 1))))) (some (.inr (v57_0)))
def laws.heldIntS.l0.s (a0 : List Int) (v57_0 : Int) (v57_1 : Int) : St := mkSt 21 [(0, one (.sl 0 0 a0.length)), (1, one (.int .i64 v57_0)), (5, one (.int .i64 v57_1))] [some ⟨false, .ints .i64 a0⟩]
def laws.heldIntS.l0.e0 (a0 : List Int) (o : Unit) : St := mkSt 21 [(4, one (.int .i64 (-1)))] [some ⟨false, .ints .i64 a0⟩]
def laws.heldIntS.l0.e1 (a0 : List Int) (o : Int) : St := mkSt 21 [(1, one (.int .i64 o))] [some ⟨false, .ints .i64 a0⟩]
def laws.heldIntS.l0.x (a0 : List Int) : (Unit ⊕ Int) → AExit × St := Sum.elim (fun o => (.ret, laws.heldIntS.l0.e0 a0 o)) (fun o => (.exit 0, laws.heldIntS.l0.e1 a0 o))
theorem laws.heldIntS.l0.spec (a0 : List Int) : ∀ (k : Nat) (v57_0 : Int) (v57_1 : Int) (o : Unit ⊕ Int), laws.heldIntS.l0.f a0 k v57_0 v57_1 = some o → LoopSpec Try.prog 1 (loopN Try.f64 0) (laws.heldIntS.l0.s a0 v57_0 v57_1) (laws.heldIntS.l0.x a0 o).1 (laws.heldIntS.l0.x a0 o).2
  | 0, _, _, _, h => by cases h
  | k + 1, v57_0, v57_1, o, h => by
    unfold laws.heldIntS.l0.f at h
    rcases br_cases h with ⟨c1, h⟩ | ⟨c1, h⟩
    · obtain ⟨p1, h⟩ := ck_some h
      rcases br_cases h with ⟨c2, h⟩ | ⟨c2, h⟩
      · obtain rfl := Option.some.inj h
        exact .of_done tab mixed [.br true, .br true] [] [4] [0] rfl (nd c1 (nd p1 (nd (of_decide_eq_true c1) (nd (tn p1 (of_decide_eq_true c1)) (nd c2 trivial))))) (by kernel_rfl)
      · exact .of_step tab mixed [.br true, .br false] [] [0, 1, 5] [0] (s1 := laws.heldIntS.l0.s a0 (w64 (v57_0 + 1)) (w64 (v57_1 + 1))) (nd c1 (nd p1 (nd (of_decide_eq_true c1) (nd (tn p1 (of_decide_eq_true c1)) (nd c2 trivial))))) (by kernel_rfl) (laws.heldIntS.l0.spec a0 k (w64 (v57_0 + 1)) (w64 (v57_1 + 1)) _ h)
    · obtain rfl := Option.some.inj h
      exact .of_done tab mixed [.br false] [] [1] [0] rfl (nd c1 trivial) (by kernel_rfl)
def laws.heldIntS.f (K : Nat) (a0 : List Int) (a1 : Int) : Option (Int) :=
  Option.bind (laws.heldIntS.l0.f a0 K a1 0) fun x1 => (Sum.elim (fun x1 => some (-1)) (fun x1 => some x1)) x1
theorem laws.heldIntS.spec (K : Nat) (a0 : List Int) (a1 : Int) (o : Int) (h : laws.heldIntS.f K a0 a1 = some o) : Den.Spec Try.prog 64 [one (.sl 0 0 a0.length), one (.int .i64 a1)] [some ⟨false, .ints .i64 a0⟩] (one (.int .i64 o)) [some ⟨false, .ints .i64 a0⟩] := by
  unfold laws.heldIntS.f at h
  obtain ⟨x1, e1, h⟩ := bind_some h
  rcases x1 with x1 | x1
  · obtain rfl := Option.some.inj h
    exact Den.Spec.of_walk tab mixed Try.func64 (by kernel_rfl) [.loop [] [0, 1, 5] [0] (.ret) (laws.heldIntS.l0.e0 a0 x1)] [] [0] (nd (laws.heldIntS.l0.spec a0 K a1 0 _ e1) trivial) (by kernel_rfl)
  · obtain rfl := Option.some.inj h
    exact Den.Spec.of_walk tab mixed Try.func64 (by kernel_rfl) [.loop [] [0, 1, 5] [0] (.exit 0) (laws.heldIntS.l0.e1 a0 x1)] [] [0] (nd (laws.heldIntS.l0.spec a0 K a1 0 _ e1) trivial) (by kernel_rfl)
def laws.heldNode.f (K : Nat) (a0 : Bool) (a1 : List ByteArray) (a2 : Nat) (a3 : List Int) (a4 : Nat) (a5 : ByteArray) (a6 : Int) : Option (Int) :=
  Option.bind (laws.heldStringS.f K ((a1.drop 0).take a2) a6) fun x1 => ck (0 + a2 ≤ a1.length) (cond (decide (x1 < 0)) (some (-1)) (Option.bind (laws.heldIntS.f K ((a3.drop 0).take a4) x1) fun x2 => ck (0 + a4 ≤ a3.length) (cond (decide (x2 < 0)) (some (-1)) (some x2))))
theorem laws.heldNode.spec (K : Nat) (a0 : Bool) (a1 : List ByteArray) (a2 : Nat) (a3 : List Int) (a4 : Nat) (a5 : ByteArray) (a6 : Int) (o : Int) (h : laws.heldNode.f K a0 a1 a2 a3 a4 a5 a6 = some o) : Den.Spec Try.prog 15 [.v (.agg [.bool a0, .sl 0 0 a2, .sl 1 0 a4, .str a5]), one (.int .i64 a6)] [some ⟨false, .strs a1⟩, some ⟨false, .ints .i64 a3⟩] (one (.int .i64 o)) [some ⟨false, .strs a1⟩, some ⟨false, .ints .i64 a3⟩] := by
  unfold laws.heldNode.f at h
  obtain ⟨x1, e1, h⟩ := bind_some h
  obtain ⟨p1, h⟩ := ck_some h
  rcases br_cases h with ⟨c1, h⟩ | ⟨c1, h⟩
  · obtain rfl := Option.some.inj h
    exact Den.Spec.of_walk tab mixed Try.func15 (by kernel_rfl) [.call [] [(0, false)] (one (.int .i64 x1)) [some ⟨false, .strs ((a1.drop 0).take a2)⟩], .br true] [] [0, 1] (nd ((laws.heldStringS.spec K ((a1.drop 0).take a2) a6 _ e1).args (congrArg (fun n => ([one (.sl 0 0 n), one (.int .i64 a6)] : List AV)) (win_len p1))) (nd c1 trivial)) (by kernel_rfl)
  · obtain ⟨x2, e2, h⟩ := bind_some h
    obtain ⟨p2, h⟩ := ck_some h
    rcases br_cases h with ⟨c2, h⟩ | ⟨c2, h⟩
    · obtain rfl := Option.some.inj h
      exact Den.Spec.of_walk tab mixed Try.func15 (by kernel_rfl) [.call [] [(0, false)] (one (.int .i64 x1)) [some ⟨false, .strs ((a1.drop 0).take a2)⟩], .br false, .call [] [(0, false)] (one (.int .i64 x2)) [some ⟨false, .ints .i64 ((a3.drop 0).take a4)⟩], .br true] [] [0, 1] (nd ((laws.heldStringS.spec K ((a1.drop 0).take a2) a6 _ e1).args (congrArg (fun n => ([one (.sl 0 0 n), one (.int .i64 a6)] : List AV)) (win_len p1))) (nd c1 (nd ((laws.heldIntS.spec K ((a3.drop 0).take a4) x1 _ e2).args (congrArg (fun n => ([one (.sl 0 0 n), one (.int .i64 x1)] : List AV)) (win_len p2))) (nd c2 trivial)))) (by kernel_rfl)
    · obtain rfl := Option.some.inj h
      exact Den.Spec.of_walk tab mixed Try.func15 (by kernel_rfl) [.call [] [(0, false)] (one (.int .i64 x1)) [some ⟨false, .strs ((a1.drop 0).take a2)⟩], .br false, .call [] [(0, false)] (one (.int .i64 x2)) [some ⟨false, .ints .i64 ((a3.drop 0).take a4)⟩], .br false] [] [0, 1] (nd ((laws.heldStringS.spec K ((a1.drop 0).take a2) a6 _ e1).args (congrArg (fun n => ([one (.sl 0 0 n), one (.int .i64 a6)] : List AV)) (win_len p1))) (nd c1 (nd ((laws.heldIntS.spec K ((a3.drop 0).take a4) x1 _ e2).args (congrArg (fun n => ([one (.sl 0 0 n), one (.int .i64 x1)] : List AV)) (win_len p2))) (nd c2 trivial)))) (by kernel_rfl)
def laws.FnExactKidPut.f (K : Nat) (a0 : Bool) (a1 : List ByteArray) (a2 : List Int) (a3 : ByteArray) (a4 : ByteArray) (a5 : Int) : Option (Bool) :=
  cond (decide ((a4.size : Int) > 1048576)) (some true) (Option.bind (laws.szNode.f K a0 a1 a2 a3 1048576) fun x1 => cond (decide (x1 < 0)) (some true) (Option.bind (laws.toNode.f K a0 a1 a2 a3) fun x2 => Option.bind (spec.KidPut.f K a0 x2.1 x2.2 a3 a4 a5) fun x3 => Option.bind (laws.toNode.f K a0 a1 a2 a3) fun x4 => Option.bind (impl.KidPut.f K a0 x4.1 x4.2 a3 a4 a5) fun x5 => Option.bind (laws.eqNode.f K a0 x5.1 x5.2 a3 a0 x3.1 x3.2 a3) fun x6 => cond (x6) (Option.bind (laws.toNode.f K a0 a1 a2 a3) fun x7 => Option.bind (laws.eqNode.f K a0 x4.1 x4.2 a3 a0 x7.1 x7.2 a3) fun x8 => cond (x8) (Option.bind (laws.markNode.f K a0 x4.1 x4.2 a3 1) fun x9 => cond (decide (x9.1 < 0)) (some false) (Option.bind (laws.eqNode.f K a0 x5.1 x5.2 a3 a0 x3.1 x3.2 a3) fun x10 => cond (x10) (Option.bind (laws.markNode.f K a0 x5.1 x5.2 a3 1) fun x11 => Option.bind (laws.heldNode.f K a0 x11.2.1 x5.1.length x11.2.2 x5.2.length a3 1) fun x12 => cond (decide (x12 < 0)) (some false) (cond (x12 != x11.1) (some false) (Option.bind (laws.toNode.f K a0 a1 a2 a3) fun x13 => Option.bind (impl.KidPut.f K a0 x13.1 x13.2 a3 a4 a5) fun x14 => Option.bind (laws.eqNode.f K a0 x14.1 x14.2 a3 a0 x3.1 x3.2 a3) fun x15 => cond (x15) (Option.bind (laws.heldNode.f K a0 x11.2.1 x5.1.length x11.2.2 x5.2.length a3 1) fun x16 => cond (decide (x16 < 0)) (some false) (cond (x16 != x11.1) (some false) (some true))) (some false)))) (some false))) (some false)) (some false)))
theorem laws.FnExactKidPut.spec (K : Nat) (a0 : Bool) (a1 : List ByteArray) (a2 : List Int) (a3 : ByteArray) (a4 : ByteArray) (a5 : Int) (o : Bool) (h : laws.FnExactKidPut.f K a0 a1 a2 a3 a4 a5 = some o) : Den.Spec Try.prog 4 [.v (.agg [.bool a0, .sl 0 0 a1.length, .sl 1 0 a2.length, .str a3]), one (.str a4), one (.int .i64 a5)] [some ⟨false, .strs a1⟩, some ⟨false, .ints .i64 a2⟩] (one (.bool o)) [some ⟨false, .strs a1⟩, some ⟨false, .ints .i64 a2⟩] := by
  unfold laws.FnExactKidPut.f at h
  rcases br_cases h with ⟨c1, h⟩ | ⟨c1, h⟩
  · obtain rfl := Option.some.inj h
    exact Den.Spec.of_walk tab mixed Try.func4 (by kernel_rfl) [.br true] [] [0, 1] (nd c1 trivial) (by kernel_rfl)
  · obtain ⟨x1, e1, h⟩ := bind_some h
    rcases br_cases h with ⟨c2, h⟩ | ⟨c2, h⟩
    · obtain rfl := Option.some.inj h
      exact Den.Spec.of_walk tab mixed Try.func4 (by kernel_rfl) [.br false, .call [(0, false), (1, false)] [] (one (.int .i64 x1)) [some ⟨false, .strs a1⟩, some ⟨false, .ints .i64 a2⟩], .br true] [] [0, 1] (nd c1 (nd (laws.szNode.spec K a0 a1 a2 a3 1048576 _ e1) (nd c2 trivial))) (by kernel_rfl)
    · obtain ⟨x2, e2, h⟩ := bind_some h
      obtain ⟨x3, e3, h⟩ := bind_some h
      obtain ⟨x4, e4, h⟩ := bind_some h
      obtain ⟨x5, e5, h⟩ := bind_some h
      obtain ⟨x6, e6, h⟩ := bind_some h
      rcases br_cases h with ⟨c3, h⟩ | ⟨c3, h⟩
      · obtain ⟨x7, e7, h⟩ := bind_some h
        obtain ⟨x8, e8, h⟩ := bind_some h
        rcases br_cases h with ⟨c4, h⟩ | ⟨c4, h⟩
        · obtain ⟨x9, e9, h⟩ := bind_some h
          rcases br_cases h with ⟨c5, h⟩ | ⟨c5, h⟩
          · obtain rfl := Option.some.inj h
            exact Den.Spec.of_walk tab mixed Try.func4 (by kernel_rfl) [.br false, .call [(0, false), (1, false)] [] (one (.int .i64 x1)) [some ⟨false, .strs a1⟩, some ⟨false, .ints .i64 a2⟩], .br false, .call [(0, false), (1, false)] [] (.v (.agg [.bool a0, .sl 2 0 x2.1.length, .sl 3 0 x2.2.length, .str a3])) [some ⟨false, .strs a1⟩, some ⟨false, .ints .i64 a2⟩, some ⟨true, .strs x2.1⟩, some ⟨true, .ints .i64 x2.2⟩], .call [(3, false), (4, false)] [] (.v (.agg [.bool a0, .sl 2 0 x3.1.length, .sl 3 0 x3.2.length, .str a3])) [some ⟨false, .strs x2.1⟩, some ⟨false, .ints .i64 x2.2⟩, some ⟨true, .strs x3.1⟩, some ⟨true, .ints .i64 x3.2⟩], .call [(0, false), (1, false)] [] (.v (.agg [.bool a0, .sl 2 0 x4.1.length, .sl 3 0 x4.2.length, .str a3])) [some ⟨false, .strs a1⟩, some ⟨false, .ints .i64 a2⟩, some ⟨true, .strs x4.1⟩, some ⟨true, .ints .i64 x4.2⟩], .call [(10, false), (11, false)] [] (.v (.agg [.bool a0, .sl 2 0 x5.1.length, .sl 3 0 x5.2.length, .str a3])) [some ⟨false, .strs x4.1⟩, some ⟨false, .ints .i64 x4.2⟩, some ⟨true, .strs x5.1⟩, some ⟨true, .ints .i64 x5.2⟩], .call [(15, false), (16, false), (5, false), (6, false)] [] (one (.bool x6)) [some ⟨false, .strs x5.1⟩, some ⟨false, .ints .i64 x5.2⟩, some ⟨false, .strs x3.1⟩, some ⟨false, .ints .i64 x3.2⟩], .br false, .call [(0, false), (1, false)] [] (.v (.agg [.bool a0, .sl 2 0 x7.1.length, .sl 3 0 x7.2.length, .str a3])) [some ⟨false, .strs a1⟩, some ⟨false, .ints .i64 a2⟩, some ⟨true, .strs x7.1⟩, some ⟨true, .ints .i64 x7.2⟩], .call [(10, false), (11, false), (36, false), (37, false)] [] (one (.bool x8)) [some ⟨false, .strs x4.1⟩, some ⟨false, .ints .i64 x4.2⟩, some ⟨false, .strs x7.1⟩, some ⟨false, .ints .i64 x7.2⟩], .br false, .call [(10, true), (11, true)] [] (one (.int .i64 x9.1)) [some ⟨true, .strs x9.2.1⟩, some ⟨true, .ints .i64 x9.2.2⟩], .br true, .br true, .br true, .br true, .br true, .br true] [] [0, 1] (nd c1 (nd (laws.szNode.spec K a0 a1 a2 a3 1048576 _ e1) (nd c2 (nd (laws.toNode.spec K a0 a1 a2 a3 _ e2) (nd (spec.KidPut.spec K a0 x2.1 x2.2 a3 a4 a5 _ e3) (nd (laws.toNode.spec K a0 a1 a2 a3 _ e4) (nd (impl.KidPut.spec K a0 x4.1 x4.2 a3 a4 a5 _ e5) (nd (laws.eqNode.spec K a0 x5.1 x5.2 a3 a0 x3.1 x3.2 a3 _ e6) (nd (nf c3) (nd (laws.toNode.spec K a0 a1 a2 a3 _ e7) (nd (laws.eqNode.spec K a0 x4.1 x4.2 a3 a0 x7.1 x7.2 a3 _ e8) (nd (nf c4) (nd (laws.markNode.spec K a0 x4.1 x4.2 a3 1 _ e9) (nd c5 (nd c5 (nd c5 (nd c5 (nd c5 (nd tt trivial))))))))))))))))))) (by kernel_rfl)
          · obtain ⟨x10, e10, h⟩ := bind_some h
            rcases br_cases h with ⟨c6, h⟩ | ⟨c6, h⟩
            · obtain ⟨x11, e11, h⟩ := bind_some h
              obtain ⟨x12, e12, h⟩ := bind_some h
              rcases br_cases h with ⟨c7, h⟩ | ⟨c7, h⟩
              · obtain rfl := Option.some.inj h
                exact Den.Spec.of_walk tab mixed Try.func4 (by kernel_rfl) [.br false, .call [(0, false), (1, false)] [] (one (.int .i64 x1)) [some ⟨false, .strs a1⟩, some ⟨false, .ints .i64 a2⟩], .br false, .call [(0, false), (1, false)] [] (.v (.agg [.bool a0, .sl 2 0 x2.1.length, .sl 3 0 x2.2.length, .str a3])) [some ⟨false, .strs a1⟩, some ⟨false, .ints .i64 a2⟩, some ⟨true, .strs x2.1⟩, some ⟨true, .ints .i64 x2.2⟩], .call [(3, false), (4, false)] [] (.v (.agg [.bool a0, .sl 2 0 x3.1.length, .sl 3 0 x3.2.length, .str a3])) [some ⟨false, .strs x2.1⟩, some ⟨false, .ints .i64 x2.2⟩, some ⟨true, .strs x3.1⟩, some ⟨true, .ints .i64 x3.2⟩], .call [(0, false), (1, false)] [] (.v (.agg [.bool a0, .sl 2 0 x4.1.length, .sl 3 0 x4.2.length, .str a3])) [some ⟨false, .strs a1⟩, some ⟨false, .ints .i64 a2⟩, some ⟨true, .strs x4.1⟩, some ⟨true, .ints .i64 x4.2⟩], .call [(10, false), (11, false)] [] (.v (.agg [.bool a0, .sl 2 0 x5.1.length, .sl 3 0 x5.2.length, .str a3])) [some ⟨false, .strs x4.1⟩, some ⟨false, .ints .i64 x4.2⟩, some ⟨true, .strs x5.1⟩, some ⟨true, .ints .i64 x5.2⟩], .call [(15, false), (16, false), (5, false), (6, false)] [] (one (.bool x6)) [some ⟨false, .strs x5.1⟩, some ⟨false, .ints .i64 x5.2⟩, some ⟨false, .strs x3.1⟩, some ⟨false, .ints .i64 x3.2⟩], .br false, .call [(0, false), (1, false)] [] (.v (.agg [.bool a0, .sl 2 0 x7.1.length, .sl 3 0 x7.2.length, .str a3])) [some ⟨false, .strs a1⟩, some ⟨false, .ints .i64 a2⟩, some ⟨true, .strs x7.1⟩, some ⟨true, .ints .i64 x7.2⟩], .call [(10, false), (11, false), (36, false), (37, false)] [] (one (.bool x8)) [some ⟨false, .strs x4.1⟩, some ⟨false, .ints .i64 x4.2⟩, some ⟨false, .strs x7.1⟩, some ⟨false, .ints .i64 x7.2⟩], .br false, .call [(10, true), (11, true)] [] (one (.int .i64 x9.1)) [some ⟨true, .strs x9.2.1⟩, some ⟨true, .ints .i64 x9.2.2⟩], .br false, .br false, .br false, .call [(15, false), (16, false), (5, false), (6, false)] [] (one (.bool x10)) [some ⟨false, .strs x5.1⟩, some ⟨false, .ints .i64 x5.2⟩, some ⟨false, .strs x3.1⟩, some ⟨false, .ints .i64 x3.2⟩], .br false, .br false, .br false, .call [(15, true), (16, true)] [] (one (.int .i64 x11.1)) [some ⟨true, .strs x11.2.1⟩, some ⟨true, .ints .i64 x11.2.2⟩], .call [(15, false), (16, false)] [] (one (.int .i64 x12)) [some ⟨false, .strs x11.2.1⟩, some ⟨false, .ints .i64 x11.2.2⟩], .br true] [] [0, 1] (nd c1 (nd (laws.szNode.spec K a0 a1 a2 a3 1048576 _ e1) (nd c2 (nd (laws.toNode.spec K a0 a1 a2 a3 _ e2) (nd (spec.KidPut.spec K a0 x2.1 x2.2 a3 a4 a5 _ e3) (nd (laws.toNode.spec K a0 a1 a2 a3 _ e4) (nd (impl.KidPut.spec K a0 x4.1 x4.2 a3 a4 a5 _ e5) (nd (laws.eqNode.spec K a0 x5.1 x5.2 a3 a0 x3.1 x3.2 a3 _ e6) (nd (nf c3) (nd (laws.toNode.spec K a0 a1 a2 a3 _ e7) (nd (laws.eqNode.spec K a0 x4.1 x4.2 a3 a0 x7.1 x7.2 a3 _ e8) (nd (nf c4) (nd (laws.markNode.spec K a0 x4.1 x4.2 a3 1 _ e9) (nd c5 (nd c5 (nd c5 (nd (laws.eqNode.spec K a0 x5.1 x5.2 a3 a0 x3.1 x3.2 a3 _ e10) (nd c5 (nd c5 (nd (nf c6) (nd (laws.markNode.spec K a0 x5.1 x5.2 a3 1 _ e11) (nd (laws.heldNode.spec K a0 x11.2.1 x5.1.length x11.2.2 x5.2.length a3 1 _ e12) (nd c7 trivial))))))))))))))))))))))) (by kernel_rfl)
              · rcases br_cases h with ⟨c8, h⟩ | ⟨c8, h⟩
                · obtain rfl := Option.some.inj h
                  exact Den.Spec.of_walk tab mixed Try.func4 (by kernel_rfl) [.br false, .call [(0, false), (1, false)] [] (one (.int .i64 x1)) [some ⟨false, .strs a1⟩, some ⟨false, .ints .i64 a2⟩], .br false, .call [(0, false), (1, false)] [] (.v (.agg [.bool a0, .sl 2 0 x2.1.length, .sl 3 0 x2.2.length, .str a3])) [some ⟨false, .strs a1⟩, some ⟨false, .ints .i64 a2⟩, some ⟨true, .strs x2.1⟩, some ⟨true, .ints .i64 x2.2⟩], .call [(3, false), (4, false)] [] (.v (.agg [.bool a0, .sl 2 0 x3.1.length, .sl 3 0 x3.2.length, .str a3])) [some ⟨false, .strs x2.1⟩, some ⟨false, .ints .i64 x2.2⟩, some ⟨true, .strs x3.1⟩, some ⟨true, .ints .i64 x3.2⟩], .call [(0, false), (1, false)] [] (.v (.agg [.bool a0, .sl 2 0 x4.1.length, .sl 3 0 x4.2.length, .str a3])) [some ⟨false, .strs a1⟩, some ⟨false, .ints .i64 a2⟩, some ⟨true, .strs x4.1⟩, some ⟨true, .ints .i64 x4.2⟩], .call [(10, false), (11, false)] [] (.v (.agg [.bool a0, .sl 2 0 x5.1.length, .sl 3 0 x5.2.length, .str a3])) [some ⟨false, .strs x4.1⟩, some ⟨false, .ints .i64 x4.2⟩, some ⟨true, .strs x5.1⟩, some ⟨true, .ints .i64 x5.2⟩], .call [(15, false), (16, false), (5, false), (6, false)] [] (one (.bool x6)) [some ⟨false, .strs x5.1⟩, some ⟨false, .ints .i64 x5.2⟩, some ⟨false, .strs x3.1⟩, some ⟨false, .ints .i64 x3.2⟩], .br false, .call [(0, false), (1, false)] [] (.v (.agg [.bool a0, .sl 2 0 x7.1.length, .sl 3 0 x7.2.length, .str a3])) [some ⟨false, .strs a1⟩, some ⟨false, .ints .i64 a2⟩, some ⟨true, .strs x7.1⟩, some ⟨true, .ints .i64 x7.2⟩], .call [(10, false), (11, false), (36, false), (37, false)] [] (one (.bool x8)) [some ⟨false, .strs x4.1⟩, some ⟨false, .ints .i64 x4.2⟩, some ⟨false, .strs x7.1⟩, some ⟨false, .ints .i64 x7.2⟩], .br false, .call [(10, true), (11, true)] [] (one (.int .i64 x9.1)) [some ⟨true, .strs x9.2.1⟩, some ⟨true, .ints .i64 x9.2.2⟩], .br false, .br false, .br false, .call [(15, false), (16, false), (5, false), (6, false)] [] (one (.bool x10)) [some ⟨false, .strs x5.1⟩, some ⟨false, .ints .i64 x5.2⟩, some ⟨false, .strs x3.1⟩, some ⟨false, .ints .i64 x3.2⟩], .br false, .br false, .br false, .call [(15, true), (16, true)] [] (one (.int .i64 x11.1)) [some ⟨true, .strs x11.2.1⟩, some ⟨true, .ints .i64 x11.2.2⟩], .call [(15, false), (16, false)] [] (one (.int .i64 x12)) [some ⟨false, .strs x11.2.1⟩, some ⟨false, .ints .i64 x11.2.2⟩], .br false, .br true] [] [0, 1] (nd c1 (nd (laws.szNode.spec K a0 a1 a2 a3 1048576 _ e1) (nd c2 (nd (laws.toNode.spec K a0 a1 a2 a3 _ e2) (nd (spec.KidPut.spec K a0 x2.1 x2.2 a3 a4 a5 _ e3) (nd (laws.toNode.spec K a0 a1 a2 a3 _ e4) (nd (impl.KidPut.spec K a0 x4.1 x4.2 a3 a4 a5 _ e5) (nd (laws.eqNode.spec K a0 x5.1 x5.2 a3 a0 x3.1 x3.2 a3 _ e6) (nd (nf c3) (nd (laws.toNode.spec K a0 a1 a2 a3 _ e7) (nd (laws.eqNode.spec K a0 x4.1 x4.2 a3 a0 x7.1 x7.2 a3 _ e8) (nd (nf c4) (nd (laws.markNode.spec K a0 x4.1 x4.2 a3 1 _ e9) (nd c5 (nd c5 (nd c5 (nd (laws.eqNode.spec K a0 x5.1 x5.2 a3 a0 x3.1 x3.2 a3 _ e10) (nd c5 (nd c5 (nd (nf c6) (nd (laws.markNode.spec K a0 x5.1 x5.2 a3 1 _ e11) (nd (laws.heldNode.spec K a0 x11.2.1 x5.1.length x11.2.2 x5.2.length a3 1 _ e12) (nd c7 (nd c8 trivial)))))))))))))))))))))))) (by kernel_rfl)
                · obtain ⟨x13, e13, h⟩ := bind_some h
                  obtain ⟨x14, e14, h⟩ := bind_some h
                  obtain ⟨x15, e15, h⟩ := bind_some h
                  rcases br_cases h with ⟨c9, h⟩ | ⟨c9, h⟩
                  · obtain ⟨x16, e16, h⟩ := bind_some h
                    rcases br_cases h with ⟨c10, h⟩ | ⟨c10, h⟩
                    · obtain rfl := Option.some.inj h
                      exact Den.Spec.of_walk tab mixed Try.func4 (by kernel_rfl) [.br false, .call [(0, false), (1, false)] [] (one (.int .i64 x1)) [some ⟨false, .strs a1⟩, some ⟨false, .ints .i64 a2⟩], .br false, .call [(0, false), (1, false)] [] (.v (.agg [.bool a0, .sl 2 0 x2.1.length, .sl 3 0 x2.2.length, .str a3])) [some ⟨false, .strs a1⟩, some ⟨false, .ints .i64 a2⟩, some ⟨true, .strs x2.1⟩, some ⟨true, .ints .i64 x2.2⟩], .call [(3, false), (4, false)] [] (.v (.agg [.bool a0, .sl 2 0 x3.1.length, .sl 3 0 x3.2.length, .str a3])) [some ⟨false, .strs x2.1⟩, some ⟨false, .ints .i64 x2.2⟩, some ⟨true, .strs x3.1⟩, some ⟨true, .ints .i64 x3.2⟩], .call [(0, false), (1, false)] [] (.v (.agg [.bool a0, .sl 2 0 x4.1.length, .sl 3 0 x4.2.length, .str a3])) [some ⟨false, .strs a1⟩, some ⟨false, .ints .i64 a2⟩, some ⟨true, .strs x4.1⟩, some ⟨true, .ints .i64 x4.2⟩], .call [(10, false), (11, false)] [] (.v (.agg [.bool a0, .sl 2 0 x5.1.length, .sl 3 0 x5.2.length, .str a3])) [some ⟨false, .strs x4.1⟩, some ⟨false, .ints .i64 x4.2⟩, some ⟨true, .strs x5.1⟩, some ⟨true, .ints .i64 x5.2⟩], .call [(15, false), (16, false), (5, false), (6, false)] [] (one (.bool x6)) [some ⟨false, .strs x5.1⟩, some ⟨false, .ints .i64 x5.2⟩, some ⟨false, .strs x3.1⟩, some ⟨false, .ints .i64 x3.2⟩], .br false, .call [(0, false), (1, false)] [] (.v (.agg [.bool a0, .sl 2 0 x7.1.length, .sl 3 0 x7.2.length, .str a3])) [some ⟨false, .strs a1⟩, some ⟨false, .ints .i64 a2⟩, some ⟨true, .strs x7.1⟩, some ⟨true, .ints .i64 x7.2⟩], .call [(10, false), (11, false), (36, false), (37, false)] [] (one (.bool x8)) [some ⟨false, .strs x4.1⟩, some ⟨false, .ints .i64 x4.2⟩, some ⟨false, .strs x7.1⟩, some ⟨false, .ints .i64 x7.2⟩], .br false, .call [(10, true), (11, true)] [] (one (.int .i64 x9.1)) [some ⟨true, .strs x9.2.1⟩, some ⟨true, .ints .i64 x9.2.2⟩], .br false, .br false, .br false, .call [(15, false), (16, false), (5, false), (6, false)] [] (one (.bool x10)) [some ⟨false, .strs x5.1⟩, some ⟨false, .ints .i64 x5.2⟩, some ⟨false, .strs x3.1⟩, some ⟨false, .ints .i64 x3.2⟩], .br false, .br false, .br false, .call [(15, true), (16, true)] [] (one (.int .i64 x11.1)) [some ⟨true, .strs x11.2.1⟩, some ⟨true, .ints .i64 x11.2.2⟩], .call [(15, false), (16, false)] [] (one (.int .i64 x12)) [some ⟨false, .strs x11.2.1⟩, some ⟨false, .ints .i64 x11.2.2⟩], .br false, .br false, .call [(0, false), (1, false)] [] (.v (.agg [.bool a0, .sl 2 0 x13.1.length, .sl 3 0 x13.2.length, .str a3])) [some ⟨false, .strs a1⟩, some ⟨false, .ints .i64 a2⟩, some ⟨true, .strs x13.1⟩, some ⟨true, .ints .i64 x13.2⟩], .call [(60, false), (61, false)] [] (.v (.agg [.bool a0, .sl 2 0 x14.1.length, .sl 3 0 x14.2.length, .str a3])) [some ⟨false, .strs x13.1⟩, some ⟨false, .ints .i64 x13.2⟩, some ⟨true, .strs x14.1⟩, some ⟨true, .ints .i64 x14.2⟩], .call [(62, false), (63, false), (5, false), (6, false)] [] (one (.bool x15)) [some ⟨false, .strs x14.1⟩, some ⟨false, .ints .i64 x14.2⟩, some ⟨false, .strs x3.1⟩, some ⟨false, .ints .i64 x3.2⟩], .br false, .call [(15, false), (16, false)] [] (one (.int .i64 x16)) [some ⟨false, .strs x11.2.1⟩, some ⟨false, .ints .i64 x11.2.2⟩], .br true] [] [0, 1] (nd c1 (nd (laws.szNode.spec K a0 a1 a2 a3 1048576 _ e1) (nd c2 (nd (laws.toNode.spec K a0 a1 a2 a3 _ e2) (nd (spec.KidPut.spec K a0 x2.1 x2.2 a3 a4 a5 _ e3) (nd (laws.toNode.spec K a0 a1 a2 a3 _ e4) (nd (impl.KidPut.spec K a0 x4.1 x4.2 a3 a4 a5 _ e5) (nd (laws.eqNode.spec K a0 x5.1 x5.2 a3 a0 x3.1 x3.2 a3 _ e6) (nd (nf c3) (nd (laws.toNode.spec K a0 a1 a2 a3 _ e7) (nd (laws.eqNode.spec K a0 x4.1 x4.2 a3 a0 x7.1 x7.2 a3 _ e8) (nd (nf c4) (nd (laws.markNode.spec K a0 x4.1 x4.2 a3 1 _ e9) (nd c5 (nd c5 (nd c5 (nd (laws.eqNode.spec K a0 x5.1 x5.2 a3 a0 x3.1 x3.2 a3 _ e10) (nd c5 (nd c5 (nd (nf c6) (nd (laws.markNode.spec K a0 x5.1 x5.2 a3 1 _ e11) (nd (laws.heldNode.spec K a0 x11.2.1 x5.1.length x11.2.2 x5.2.length a3 1 _ e12) (nd c7 (nd c8 (nd (laws.toNode.spec K a0 a1 a2 a3 _ e13) (nd (impl.KidPut.spec K a0 x13.1 x13.2 a3 a4 a5 _ e14) (nd (laws.eqNode.spec K a0 x14.1 x14.2 a3 a0 x3.1 x3.2 a3 _ e15) (nd (nf c9) (nd (laws.heldNode.spec K a0 x11.2.1 x5.1.length x11.2.2 x5.2.length a3 1 _ e16) (nd c10 trivial)))))))))))))))))))))))))))))) (by kernel_rfl)
                    · rcases br_cases h with ⟨c11, h⟩ | ⟨c11, h⟩
                      · obtain rfl := Option.some.inj h
                        exact Den.Spec.of_walk tab mixed Try.func4 (by kernel_rfl) [.br false, .call [(0, false), (1, false)] [] (one (.int .i64 x1)) [some ⟨false, .strs a1⟩, some ⟨false, .ints .i64 a2⟩], .br false, .call [(0, false), (1, false)] [] (.v (.agg [.bool a0, .sl 2 0 x2.1.length, .sl 3 0 x2.2.length, .str a3])) [some ⟨false, .strs a1⟩, some ⟨false, .ints .i64 a2⟩, some ⟨true, .strs x2.1⟩, some ⟨true, .ints .i64 x2.2⟩], .call [(3, false), (4, false)] [] (.v (.agg [.bool a0, .sl 2 0 x3.1.length, .sl 3 0 x3.2.length, .str a3])) [some ⟨false, .strs x2.1⟩, some ⟨false, .ints .i64 x2.2⟩, some ⟨true, .strs x3.1⟩, some ⟨true, .ints .i64 x3.2⟩], .call [(0, false), (1, false)] [] (.v (.agg [.bool a0, .sl 2 0 x4.1.length, .sl 3 0 x4.2.length, .str a3])) [some ⟨false, .strs a1⟩, some ⟨false, .ints .i64 a2⟩, some ⟨true, .strs x4.1⟩, some ⟨true, .ints .i64 x4.2⟩], .call [(10, false), (11, false)] [] (.v (.agg [.bool a0, .sl 2 0 x5.1.length, .sl 3 0 x5.2.length, .str a3])) [some ⟨false, .strs x4.1⟩, some ⟨false, .ints .i64 x4.2⟩, some ⟨true, .strs x5.1⟩, some ⟨true, .ints .i64 x5.2⟩], .call [(15, false), (16, false), (5, false), (6, false)] [] (one (.bool x6)) [some ⟨false, .strs x5.1⟩, some ⟨false, .ints .i64 x5.2⟩, some ⟨false, .strs x3.1⟩, some ⟨false, .ints .i64 x3.2⟩], .br false, .call [(0, false), (1, false)] [] (.v (.agg [.bool a0, .sl 2 0 x7.1.length, .sl 3 0 x7.2.length, .str a3])) [some ⟨false, .strs a1⟩, some ⟨false, .ints .i64 a2⟩, some ⟨true, .strs x7.1⟩, some ⟨true, .ints .i64 x7.2⟩], .call [(10, false), (11, false), (36, false), (37, false)] [] (one (.bool x8)) [some ⟨false, .strs x4.1⟩, some ⟨false, .ints .i64 x4.2⟩, some ⟨false, .strs x7.1⟩, some ⟨false, .ints .i64 x7.2⟩], .br false, .call [(10, true), (11, true)] [] (one (.int .i64 x9.1)) [some ⟨true, .strs x9.2.1⟩, some ⟨true, .ints .i64 x9.2.2⟩], .br false, .br false, .br false, .call [(15, false), (16, false), (5, false), (6, false)] [] (one (.bool x10)) [some ⟨false, .strs x5.1⟩, some ⟨false, .ints .i64 x5.2⟩, some ⟨false, .strs x3.1⟩, some ⟨false, .ints .i64 x3.2⟩], .br false, .br false, .br false, .call [(15, true), (16, true)] [] (one (.int .i64 x11.1)) [some ⟨true, .strs x11.2.1⟩, some ⟨true, .ints .i64 x11.2.2⟩], .call [(15, false), (16, false)] [] (one (.int .i64 x12)) [some ⟨false, .strs x11.2.1⟩, some ⟨false, .ints .i64 x11.2.2⟩], .br false, .br false, .call [(0, false), (1, false)] [] (.v (.agg [.bool a0, .sl 2 0 x13.1.length, .sl 3 0 x13.2.length, .str a3])) [some ⟨false, .strs a1⟩, some ⟨false, .ints .i64 a2⟩, some ⟨true, .strs x13.1⟩, some ⟨true, .ints .i64 x13.2⟩], .call [(60, false), (61, false)] [] (.v (.agg [.bool a0, .sl 2 0 x14.1.length, .sl 3 0 x14.2.length, .str a3])) [some ⟨false, .strs x13.1⟩, some ⟨false, .ints .i64 x13.2⟩, some ⟨true, .strs x14.1⟩, some ⟨true, .ints .i64 x14.2⟩], .call [(62, false), (63, false), (5, false), (6, false)] [] (one (.bool x15)) [some ⟨false, .strs x14.1⟩, some ⟨false, .ints .i64 x14.2⟩, some ⟨false, .strs x3.1⟩, some ⟨false, .ints .i64 x3.2⟩], .br false, .call [(15, false), (16, false)] [] (one (.int .i64 x16)) [some ⟨false, .strs x11.2.1⟩, some ⟨false, .ints .i64 x11.2.2⟩], .br false, .br true] [] [0, 1] (nd c1 (nd (laws.szNode.spec K a0 a1 a2 a3 1048576 _ e1) (nd c2 (nd (laws.toNode.spec K a0 a1 a2 a3 _ e2) (nd (spec.KidPut.spec K a0 x2.1 x2.2 a3 a4 a5 _ e3) (nd (laws.toNode.spec K a0 a1 a2 a3 _ e4) (nd (impl.KidPut.spec K a0 x4.1 x4.2 a3 a4 a5 _ e5) (nd (laws.eqNode.spec K a0 x5.1 x5.2 a3 a0 x3.1 x3.2 a3 _ e6) (nd (nf c3) (nd (laws.toNode.spec K a0 a1 a2 a3 _ e7) (nd (laws.eqNode.spec K a0 x4.1 x4.2 a3 a0 x7.1 x7.2 a3 _ e8) (nd (nf c4) (nd (laws.markNode.spec K a0 x4.1 x4.2 a3 1 _ e9) (nd c5 (nd c5 (nd c5 (nd (laws.eqNode.spec K a0 x5.1 x5.2 a3 a0 x3.1 x3.2 a3 _ e10) (nd c5 (nd c5 (nd (nf c6) (nd (laws.markNode.spec K a0 x5.1 x5.2 a3 1 _ e11) (nd (laws.heldNode.spec K a0 x11.2.1 x5.1.length x11.2.2 x5.2.length a3 1 _ e12) (nd c7 (nd c8 (nd (laws.toNode.spec K a0 a1 a2 a3 _ e13) (nd (impl.KidPut.spec K a0 x13.1 x13.2 a3 a4 a5 _ e14) (nd (laws.eqNode.spec K a0 x14.1 x14.2 a3 a0 x3.1 x3.2 a3 _ e15) (nd (nf c9) (nd (laws.heldNode.spec K a0 x11.2.1 x5.1.length x11.2.2 x5.2.length a3 1 _ e16) (nd c10 (nd c11 trivial))))))))))))))))))))))))))))))) (by kernel_rfl)
                      · obtain rfl := Option.some.inj h
                        exact Den.Spec.of_walk tab mixed Try.func4 (by kernel_rfl) [.br false, .call [(0, false), (1, false)] [] (one (.int .i64 x1)) [some ⟨false, .strs a1⟩, some ⟨false, .ints .i64 a2⟩], .br false, .call [(0, false), (1, false)] [] (.v (.agg [.bool a0, .sl 2 0 x2.1.length, .sl 3 0 x2.2.length, .str a3])) [some ⟨false, .strs a1⟩, some ⟨false, .ints .i64 a2⟩, some ⟨true, .strs x2.1⟩, some ⟨true, .ints .i64 x2.2⟩], .call [(3, false), (4, false)] [] (.v (.agg [.bool a0, .sl 2 0 x3.1.length, .sl 3 0 x3.2.length, .str a3])) [some ⟨false, .strs x2.1⟩, some ⟨false, .ints .i64 x2.2⟩, some ⟨true, .strs x3.1⟩, some ⟨true, .ints .i64 x3.2⟩], .call [(0, false), (1, false)] [] (.v (.agg [.bool a0, .sl 2 0 x4.1.length, .sl 3 0 x4.2.length, .str a3])) [some ⟨false, .strs a1⟩, some ⟨false, .ints .i64 a2⟩, some ⟨true, .strs x4.1⟩, some ⟨true, .ints .i64 x4.2⟩], .call [(10, false), (11, false)] [] (.v (.agg [.bool a0, .sl 2 0 x5.1.length, .sl 3 0 x5.2.length, .str a3])) [some ⟨false, .strs x4.1⟩, some ⟨false, .ints .i64 x4.2⟩, some ⟨true, .strs x5.1⟩, some ⟨true, .ints .i64 x5.2⟩], .call [(15, false), (16, false), (5, false), (6, false)] [] (one (.bool x6)) [some ⟨false, .strs x5.1⟩, some ⟨false, .ints .i64 x5.2⟩, some ⟨false, .strs x3.1⟩, some ⟨false, .ints .i64 x3.2⟩], .br false, .call [(0, false), (1, false)] [] (.v (.agg [.bool a0, .sl 2 0 x7.1.length, .sl 3 0 x7.2.length, .str a3])) [some ⟨false, .strs a1⟩, some ⟨false, .ints .i64 a2⟩, some ⟨true, .strs x7.1⟩, some ⟨true, .ints .i64 x7.2⟩], .call [(10, false), (11, false), (36, false), (37, false)] [] (one (.bool x8)) [some ⟨false, .strs x4.1⟩, some ⟨false, .ints .i64 x4.2⟩, some ⟨false, .strs x7.1⟩, some ⟨false, .ints .i64 x7.2⟩], .br false, .call [(10, true), (11, true)] [] (one (.int .i64 x9.1)) [some ⟨true, .strs x9.2.1⟩, some ⟨true, .ints .i64 x9.2.2⟩], .br false, .br false, .br false, .call [(15, false), (16, false), (5, false), (6, false)] [] (one (.bool x10)) [some ⟨false, .strs x5.1⟩, some ⟨false, .ints .i64 x5.2⟩, some ⟨false, .strs x3.1⟩, some ⟨false, .ints .i64 x3.2⟩], .br false, .br false, .br false, .call [(15, true), (16, true)] [] (one (.int .i64 x11.1)) [some ⟨true, .strs x11.2.1⟩, some ⟨true, .ints .i64 x11.2.2⟩], .call [(15, false), (16, false)] [] (one (.int .i64 x12)) [some ⟨false, .strs x11.2.1⟩, some ⟨false, .ints .i64 x11.2.2⟩], .br false, .br false, .call [(0, false), (1, false)] [] (.v (.agg [.bool a0, .sl 2 0 x13.1.length, .sl 3 0 x13.2.length, .str a3])) [some ⟨false, .strs a1⟩, some ⟨false, .ints .i64 a2⟩, some ⟨true, .strs x13.1⟩, some ⟨true, .ints .i64 x13.2⟩], .call [(60, false), (61, false)] [] (.v (.agg [.bool a0, .sl 2 0 x14.1.length, .sl 3 0 x14.2.length, .str a3])) [some ⟨false, .strs x13.1⟩, some ⟨false, .ints .i64 x13.2⟩, some ⟨true, .strs x14.1⟩, some ⟨true, .ints .i64 x14.2⟩], .call [(62, false), (63, false), (5, false), (6, false)] [] (one (.bool x15)) [some ⟨false, .strs x14.1⟩, some ⟨false, .ints .i64 x14.2⟩, some ⟨false, .strs x3.1⟩, some ⟨false, .ints .i64 x3.2⟩], .br false, .call [(15, false), (16, false)] [] (one (.int .i64 x16)) [some ⟨false, .strs x11.2.1⟩, some ⟨false, .ints .i64 x11.2.2⟩], .br false, .br false] [] [0, 1] (nd c1 (nd (laws.szNode.spec K a0 a1 a2 a3 1048576 _ e1) (nd c2 (nd (laws.toNode.spec K a0 a1 a2 a3 _ e2) (nd (spec.KidPut.spec K a0 x2.1 x2.2 a3 a4 a5 _ e3) (nd (laws.toNode.spec K a0 a1 a2 a3 _ e4) (nd (impl.KidPut.spec K a0 x4.1 x4.2 a3 a4 a5 _ e5) (nd (laws.eqNode.spec K a0 x5.1 x5.2 a3 a0 x3.1 x3.2 a3 _ e6) (nd (nf c3) (nd (laws.toNode.spec K a0 a1 a2 a3 _ e7) (nd (laws.eqNode.spec K a0 x4.1 x4.2 a3 a0 x7.1 x7.2 a3 _ e8) (nd (nf c4) (nd (laws.markNode.spec K a0 x4.1 x4.2 a3 1 _ e9) (nd c5 (nd c5 (nd c5 (nd (laws.eqNode.spec K a0 x5.1 x5.2 a3 a0 x3.1 x3.2 a3 _ e10) (nd c5 (nd c5 (nd (nf c6) (nd (laws.markNode.spec K a0 x5.1 x5.2 a3 1 _ e11) (nd (laws.heldNode.spec K a0 x11.2.1 x5.1.length x11.2.2 x5.2.length a3 1 _ e12) (nd c7 (nd c8 (nd (laws.toNode.spec K a0 a1 a2 a3 _ e13) (nd (impl.KidPut.spec K a0 x13.1 x13.2 a3 a4 a5 _ e14) (nd (laws.eqNode.spec K a0 x14.1 x14.2 a3 a0 x3.1 x3.2 a3 _ e15) (nd (nf c9) (nd (laws.heldNode.spec K a0 x11.2.1 x5.1.length x11.2.2 x5.2.length a3 1 _ e16) (nd c10 (nd c11 trivial))))))))))))))))))))))))))))))) (by kernel_rfl)
                  · obtain rfl := Option.some.inj h
                    exact Den.Spec.of_walk tab mixed Try.func4 (by kernel_rfl) [.br false, .call [(0, false), (1, false)] [] (one (.int .i64 x1)) [some ⟨false, .strs a1⟩, some ⟨false, .ints .i64 a2⟩], .br false, .call [(0, false), (1, false)] [] (.v (.agg [.bool a0, .sl 2 0 x2.1.length, .sl 3 0 x2.2.length, .str a3])) [some ⟨false, .strs a1⟩, some ⟨false, .ints .i64 a2⟩, some ⟨true, .strs x2.1⟩, some ⟨true, .ints .i64 x2.2⟩], .call [(3, false), (4, false)] [] (.v (.agg [.bool a0, .sl 2 0 x3.1.length, .sl 3 0 x3.2.length, .str a3])) [some ⟨false, .strs x2.1⟩, some ⟨false, .ints .i64 x2.2⟩, some ⟨true, .strs x3.1⟩, some ⟨true, .ints .i64 x3.2⟩], .call [(0, false), (1, false)] [] (.v (.agg [.bool a0, .sl 2 0 x4.1.length, .sl 3 0 x4.2.length, .str a3])) [some ⟨false, .strs a1⟩, some ⟨false, .ints .i64 a2⟩, some ⟨true, .strs x4.1⟩, some ⟨true, .ints .i64 x4.2⟩], .call [(10, false), (11, false)] [] (.v (.agg [.bool a0, .sl 2 0 x5.1.length, .sl 3 0 x5.2.length, .str a3])) [some ⟨false, .strs x4.1⟩, some ⟨false, .ints .i64 x4.2⟩, some ⟨true, .strs x5.1⟩, some ⟨true, .ints .i64 x5.2⟩], .call [(15, false), (16, false), (5, false), (6, false)] [] (one (.bool x6)) [some ⟨false, .strs x5.1⟩, some ⟨false, .ints .i64 x5.2⟩, some ⟨false, .strs x3.1⟩, some ⟨false, .ints .i64 x3.2⟩], .br false, .call [(0, false), (1, false)] [] (.v (.agg [.bool a0, .sl 2 0 x7.1.length, .sl 3 0 x7.2.length, .str a3])) [some ⟨false, .strs a1⟩, some ⟨false, .ints .i64 a2⟩, some ⟨true, .strs x7.1⟩, some ⟨true, .ints .i64 x7.2⟩], .call [(10, false), (11, false), (36, false), (37, false)] [] (one (.bool x8)) [some ⟨false, .strs x4.1⟩, some ⟨false, .ints .i64 x4.2⟩, some ⟨false, .strs x7.1⟩, some ⟨false, .ints .i64 x7.2⟩], .br false, .call [(10, true), (11, true)] [] (one (.int .i64 x9.1)) [some ⟨true, .strs x9.2.1⟩, some ⟨true, .ints .i64 x9.2.2⟩], .br false, .br false, .br false, .call [(15, false), (16, false), (5, false), (6, false)] [] (one (.bool x10)) [some ⟨false, .strs x5.1⟩, some ⟨false, .ints .i64 x5.2⟩, some ⟨false, .strs x3.1⟩, some ⟨false, .ints .i64 x3.2⟩], .br false, .br false, .br false, .call [(15, true), (16, true)] [] (one (.int .i64 x11.1)) [some ⟨true, .strs x11.2.1⟩, some ⟨true, .ints .i64 x11.2.2⟩], .call [(15, false), (16, false)] [] (one (.int .i64 x12)) [some ⟨false, .strs x11.2.1⟩, some ⟨false, .ints .i64 x11.2.2⟩], .br false, .br false, .call [(0, false), (1, false)] [] (.v (.agg [.bool a0, .sl 2 0 x13.1.length, .sl 3 0 x13.2.length, .str a3])) [some ⟨false, .strs a1⟩, some ⟨false, .ints .i64 a2⟩, some ⟨true, .strs x13.1⟩, some ⟨true, .ints .i64 x13.2⟩], .call [(60, false), (61, false)] [] (.v (.agg [.bool a0, .sl 2 0 x14.1.length, .sl 3 0 x14.2.length, .str a3])) [some ⟨false, .strs x13.1⟩, some ⟨false, .ints .i64 x13.2⟩, some ⟨true, .strs x14.1⟩, some ⟨true, .ints .i64 x14.2⟩], .call [(62, false), (63, false), (5, false), (6, false)] [] (one (.bool x15)) [some ⟨false, .strs x14.1⟩, some ⟨false, .ints .i64 x14.2⟩, some ⟨false, .strs x3.1⟩, some ⟨false, .ints .i64 x3.2⟩], .br true] [] [0, 1] (nd c1 (nd (laws.szNode.spec K a0 a1 a2 a3 1048576 _ e1) (nd c2 (nd (laws.toNode.spec K a0 a1 a2 a3 _ e2) (nd (spec.KidPut.spec K a0 x2.1 x2.2 a3 a4 a5 _ e3) (nd (laws.toNode.spec K a0 a1 a2 a3 _ e4) (nd (impl.KidPut.spec K a0 x4.1 x4.2 a3 a4 a5 _ e5) (nd (laws.eqNode.spec K a0 x5.1 x5.2 a3 a0 x3.1 x3.2 a3 _ e6) (nd (nf c3) (nd (laws.toNode.spec K a0 a1 a2 a3 _ e7) (nd (laws.eqNode.spec K a0 x4.1 x4.2 a3 a0 x7.1 x7.2 a3 _ e8) (nd (nf c4) (nd (laws.markNode.spec K a0 x4.1 x4.2 a3 1 _ e9) (nd c5 (nd c5 (nd c5 (nd (laws.eqNode.spec K a0 x5.1 x5.2 a3 a0 x3.1 x3.2 a3 _ e10) (nd c5 (nd c5 (nd (nf c6) (nd (laws.markNode.spec K a0 x5.1 x5.2 a3 1 _ e11) (nd (laws.heldNode.spec K a0 x11.2.1 x5.1.length x11.2.2 x5.2.length a3 1 _ e12) (nd c7 (nd c8 (nd (laws.toNode.spec K a0 a1 a2 a3 _ e13) (nd (impl.KidPut.spec K a0 x13.1 x13.2 a3 a4 a5 _ e14) (nd (laws.eqNode.spec K a0 x14.1 x14.2 a3 a0 x3.1 x3.2 a3 _ e15) (nd (nt c9) trivial)))))))))))))))))))))))))))) (by kernel_rfl)
            · obtain rfl := Option.some.inj h
              exact Den.Spec.of_walk tab mixed Try.func4 (by kernel_rfl) [.br false, .call [(0, false), (1, false)] [] (one (.int .i64 x1)) [some ⟨false, .strs a1⟩, some ⟨false, .ints .i64 a2⟩], .br false, .call [(0, false), (1, false)] [] (.v (.agg [.bool a0, .sl 2 0 x2.1.length, .sl 3 0 x2.2.length, .str a3])) [some ⟨false, .strs a1⟩, some ⟨false, .ints .i64 a2⟩, some ⟨true, .strs x2.1⟩, some ⟨true, .ints .i64 x2.2⟩], .call [(3, false), (4, false)] [] (.v (.agg [.bool a0, .sl 2 0 x3.1.length, .sl 3 0 x3.2.length, .str a3])) [some ⟨false, .strs x2.1⟩, some ⟨false, .ints .i64 x2.2⟩, some ⟨true, .strs x3.1⟩, some ⟨true, .ints .i64 x3.2⟩], .call [(0, false), (1, false)] [] (.v (.agg [.bool a0, .sl 2 0 x4.1.length, .sl 3 0 x4.2.length, .str a3])) [some ⟨false, .strs a1⟩, some ⟨false, .ints .i64 a2⟩, some ⟨true, .strs x4.1⟩, some ⟨true, .ints .i64 x4.2⟩], .call [(10, false), (11, false)] [] (.v (.agg [.bool a0, .sl 2 0 x5.1.length, .sl 3 0 x5.2.length, .str a3])) [some ⟨false, .strs x4.1⟩, some ⟨false, .ints .i64 x4.2⟩, some ⟨true, .strs x5.1⟩, some ⟨true, .ints .i64 x5.2⟩], .call [(15, false), (16, false), (5, false), (6, false)] [] (one (.bool x6)) [some ⟨false, .strs x5.1⟩, some ⟨false, .ints .i64 x5.2⟩, some ⟨false, .strs x3.1⟩, some ⟨false, .ints .i64 x3.2⟩], .br false, .call [(0, false), (1, false)] [] (.v (.agg [.bool a0, .sl 2 0 x7.1.length, .sl 3 0 x7.2.length, .str a3])) [some ⟨false, .strs a1⟩, some ⟨false, .ints .i64 a2⟩, some ⟨true, .strs x7.1⟩, some ⟨true, .ints .i64 x7.2⟩], .call [(10, false), (11, false), (36, false), (37, false)] [] (one (.bool x8)) [some ⟨false, .strs x4.1⟩, some ⟨false, .ints .i64 x4.2⟩, some ⟨false, .strs x7.1⟩, some ⟨false, .ints .i64 x7.2⟩], .br false, .call [(10, true), (11, true)] [] (one (.int .i64 x9.1)) [some ⟨true, .strs x9.2.1⟩, some ⟨true, .ints .i64 x9.2.2⟩], .br false, .br false, .br false, .call [(15, false), (16, false), (5, false), (6, false)] [] (one (.bool x10)) [some ⟨false, .strs x5.1⟩, some ⟨false, .ints .i64 x5.2⟩, some ⟨false, .strs x3.1⟩, some ⟨false, .ints .i64 x3.2⟩], .br false, .br false, .br true] [] [0, 1] (nd c1 (nd (laws.szNode.spec K a0 a1 a2 a3 1048576 _ e1) (nd c2 (nd (laws.toNode.spec K a0 a1 a2 a3 _ e2) (nd (spec.KidPut.spec K a0 x2.1 x2.2 a3 a4 a5 _ e3) (nd (laws.toNode.spec K a0 a1 a2 a3 _ e4) (nd (impl.KidPut.spec K a0 x4.1 x4.2 a3 a4 a5 _ e5) (nd (laws.eqNode.spec K a0 x5.1 x5.2 a3 a0 x3.1 x3.2 a3 _ e6) (nd (nf c3) (nd (laws.toNode.spec K a0 a1 a2 a3 _ e7) (nd (laws.eqNode.spec K a0 x4.1 x4.2 a3 a0 x7.1 x7.2 a3 _ e8) (nd (nf c4) (nd (laws.markNode.spec K a0 x4.1 x4.2 a3 1 _ e9) (nd c5 (nd c5 (nd c5 (nd (laws.eqNode.spec K a0 x5.1 x5.2 a3 a0 x3.1 x3.2 a3 _ e10) (nd c5 (nd c5 (nd (nt c6) trivial)))))))))))))))))))) (by kernel_rfl)
        · obtain rfl := Option.some.inj h
          exact Den.Spec.of_walk tab mixed Try.func4 (by kernel_rfl) [.br false, .call [(0, false), (1, false)] [] (one (.int .i64 x1)) [some ⟨false, .strs a1⟩, some ⟨false, .ints .i64 a2⟩], .br false, .call [(0, false), (1, false)] [] (.v (.agg [.bool a0, .sl 2 0 x2.1.length, .sl 3 0 x2.2.length, .str a3])) [some ⟨false, .strs a1⟩, some ⟨false, .ints .i64 a2⟩, some ⟨true, .strs x2.1⟩, some ⟨true, .ints .i64 x2.2⟩], .call [(3, false), (4, false)] [] (.v (.agg [.bool a0, .sl 2 0 x3.1.length, .sl 3 0 x3.2.length, .str a3])) [some ⟨false, .strs x2.1⟩, some ⟨false, .ints .i64 x2.2⟩, some ⟨true, .strs x3.1⟩, some ⟨true, .ints .i64 x3.2⟩], .call [(0, false), (1, false)] [] (.v (.agg [.bool a0, .sl 2 0 x4.1.length, .sl 3 0 x4.2.length, .str a3])) [some ⟨false, .strs a1⟩, some ⟨false, .ints .i64 a2⟩, some ⟨true, .strs x4.1⟩, some ⟨true, .ints .i64 x4.2⟩], .call [(10, false), (11, false)] [] (.v (.agg [.bool a0, .sl 2 0 x5.1.length, .sl 3 0 x5.2.length, .str a3])) [some ⟨false, .strs x4.1⟩, some ⟨false, .ints .i64 x4.2⟩, some ⟨true, .strs x5.1⟩, some ⟨true, .ints .i64 x5.2⟩], .call [(15, false), (16, false), (5, false), (6, false)] [] (one (.bool x6)) [some ⟨false, .strs x5.1⟩, some ⟨false, .ints .i64 x5.2⟩, some ⟨false, .strs x3.1⟩, some ⟨false, .ints .i64 x3.2⟩], .br false, .call [(0, false), (1, false)] [] (.v (.agg [.bool a0, .sl 2 0 x7.1.length, .sl 3 0 x7.2.length, .str a3])) [some ⟨false, .strs a1⟩, some ⟨false, .ints .i64 a2⟩, some ⟨true, .strs x7.1⟩, some ⟨true, .ints .i64 x7.2⟩], .call [(10, false), (11, false), (36, false), (37, false)] [] (one (.bool x8)) [some ⟨false, .strs x4.1⟩, some ⟨false, .ints .i64 x4.2⟩, some ⟨false, .strs x7.1⟩, some ⟨false, .ints .i64 x7.2⟩], .br true] [] [0, 1] (nd c1 (nd (laws.szNode.spec K a0 a1 a2 a3 1048576 _ e1) (nd c2 (nd (laws.toNode.spec K a0 a1 a2 a3 _ e2) (nd (spec.KidPut.spec K a0 x2.1 x2.2 a3 a4 a5 _ e3) (nd (laws.toNode.spec K a0 a1 a2 a3 _ e4) (nd (impl.KidPut.spec K a0 x4.1 x4.2 a3 a4 a5 _ e5) (nd (laws.eqNode.spec K a0 x5.1 x5.2 a3 a0 x3.1 x3.2 a3 _ e6) (nd (nf c3) (nd (laws.toNode.spec K a0 a1 a2 a3 _ e7) (nd (laws.eqNode.spec K a0 x4.1 x4.2 a3 a0 x7.1 x7.2 a3 _ e8) (nd (nt c4) trivial)))))))))))) (by kernel_rfl)
      · obtain rfl := Option.some.inj h
        exact Den.Spec.of_walk tab mixed Try.func4 (by kernel_rfl) [.br false, .call [(0, false), (1, false)] [] (one (.int .i64 x1)) [some ⟨false, .strs a1⟩, some ⟨false, .ints .i64 a2⟩], .br false, .call [(0, false), (1, false)] [] (.v (.agg [.bool a0, .sl 2 0 x2.1.length, .sl 3 0 x2.2.length, .str a3])) [some ⟨false, .strs a1⟩, some ⟨false, .ints .i64 a2⟩, some ⟨true, .strs x2.1⟩, some ⟨true, .ints .i64 x2.2⟩], .call [(3, false), (4, false)] [] (.v (.agg [.bool a0, .sl 2 0 x3.1.length, .sl 3 0 x3.2.length, .str a3])) [some ⟨false, .strs x2.1⟩, some ⟨false, .ints .i64 x2.2⟩, some ⟨true, .strs x3.1⟩, some ⟨true, .ints .i64 x3.2⟩], .call [(0, false), (1, false)] [] (.v (.agg [.bool a0, .sl 2 0 x4.1.length, .sl 3 0 x4.2.length, .str a3])) [some ⟨false, .strs a1⟩, some ⟨false, .ints .i64 a2⟩, some ⟨true, .strs x4.1⟩, some ⟨true, .ints .i64 x4.2⟩], .call [(10, false), (11, false)] [] (.v (.agg [.bool a0, .sl 2 0 x5.1.length, .sl 3 0 x5.2.length, .str a3])) [some ⟨false, .strs x4.1⟩, some ⟨false, .ints .i64 x4.2⟩, some ⟨true, .strs x5.1⟩, some ⟨true, .ints .i64 x5.2⟩], .call [(15, false), (16, false), (5, false), (6, false)] [] (one (.bool x6)) [some ⟨false, .strs x5.1⟩, some ⟨false, .ints .i64 x5.2⟩, some ⟨false, .strs x3.1⟩, some ⟨false, .ints .i64 x3.2⟩], .br true] [] [0, 1] (nd c1 (nd (laws.szNode.spec K a0 a1 a2 a3 1048576 _ e1) (nd c2 (nd (laws.toNode.spec K a0 a1 a2 a3 _ e2) (nd (spec.KidPut.spec K a0 x2.1 x2.2 a3 a4 a5 _ e3) (nd (laws.toNode.spec K a0 a1 a2 a3 _ e4) (nd (impl.KidPut.spec K a0 x4.1 x4.2 a3 a4 a5 _ e5) (nd (laws.eqNode.spec K a0 x5.1 x5.2 a3 a0 x3.1 x3.2 a3 _ e6) (nd (nt c3) trivial))))))))) (by kernel_rfl)
end Go.Proofs.Ytmodnnokcmabhaa.GFnExactKidPut
