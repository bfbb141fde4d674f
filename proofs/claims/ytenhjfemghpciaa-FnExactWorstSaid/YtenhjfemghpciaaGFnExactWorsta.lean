import Derived.Test.YtenhjfemghpciaaDenZ
import Derived.Test.YtenhjfemghpciaaProg
namespace Go.Proofs.Ytenhjfemghpciaa.GFnExactWorst
open Go Go.RowKit Go.Proofs Go.Proofs.Ytenhjfemghpciaa.Den
set_option linter.unusedVariables false
set_option linter.unusedSimpArgs false
def tyL : List (Nat × Ty) := [(3, ⟨1, 8, false, [.int .i64 0], .ints .i64, .int .i64, []⟩),
  (4, ⟨1, 1, false, [.bool false], .bools, .bool, []⟩),
  (5, ⟨1, 1, false, [.int .u8 0], .ints .u8, .int .u8, []⟩),
  (9, ⟨1, 16, false, [.str ⟨#[]⟩], .strs, .str, []⟩),
  (22, ⟨1, 24, false, [.nil], .refs, .sl 9, [.strs]⟩),
  (23, ⟨1, 24, false, [.nil], .refs, .sl 3, [.ints .i64]⟩),
  (33, ⟨1, 24, false, [.nil], .refs, .sl 5, [.ints .u8]⟩),
  (45, ⟨2, 48, true, [.nil, .nil], .none, .st [(0, 1), (1, 1)], [.strs, .ints .i64]⟩),
  (47, ⟨4, 80, true, [.nil, .nil, .nil, .int .i64 0], .none, .st [(0, 2), (2, 1), (3, 1)], [.strs, .ints .i64, .ints .i64, .none]⟩),
  (50, ⟨2, 48, true, [.nil, .nil], .none, .st [(0, 1), (1, 1)], [.strs, .ints .i64]⟩),
  (52, ⟨4, 80, true, [.nil, .nil, .nil, .int .i64 0], .none, .st [(0, 2), (2, 1), (3, 1)], [.strs, .ints .i64, .ints .i64, .none]⟩),
  (76, ⟨3, 32, true, [.int .i64 0, .int .i64 0, .str ⟨#[]⟩], .acts, .st [(0, 1), (1, 1), (2, 1)], []⟩),
  (127, ⟨3, 40, true, [.nil, .int .i64 0, .bool false], .none, .st [(0, 1), (1, 1), (2, 1)], [.ints .u8, .none, .none]⟩),
  (130, ⟨1, 8, false, [.int .u64 0], .ints .u64, .int .u64, []⟩),
  (146, ⟨1, 4, false, [.int .u32 0], .ints .u32, .int .u32, []⟩),
  (149, ⟨1, 8, false, [.int .u64 0], .ints .u64, .int .u64, []⟩),
  (153, ⟨1, 8, false, [.int .i64 0], .ints .i64, .int .i64, []⟩)]
def tb : TypeId → Option Ty := tbOf tyL
theorem tab : TabOk Try.prog tb := TabOk.of ⟨.of (by kernel_rfl) rfl rfl (by kernel_rfl) (by show _ = _; kernel_rfl),
  .of (by kernel_rfl) rfl rfl (by kernel_rfl) (by show _ = _; kernel_rfl),
  .of (by kernel_rfl) rfl rfl (by kernel_rfl) (by show _ = _; kernel_rfl),
  .of (by kernel_rfl) rfl rfl (by kernel_rfl) (by show _ = _; kernel_rfl),
  .of (by kernel_rfl) rfl rfl (by kernel_rfl) (by show _ = _; kernel_rfl),
  .of (by kernel_rfl) rfl rfl (by kernel_rfl) (by show _ = _; kernel_rfl),
  .of (by kernel_rfl) rfl rfl (by kernel_rfl) (by show _ = _; kernel_rfl),
  .of (by kernel_rfl) rfl rfl (by kernel_rfl) (by show _ = _; kernel_rfl),
  .of (by kernel_rfl) rfl rfl (by kernel_rfl) (by show _ = _; kernel_rfl),
  .of (by kernel_rfl) rfl rfl (by kernel_rfl) (by show _ = _; kernel_rfl),
  .of (by kernel_rfl) rfl rfl (by kernel_rfl) (by show _ = _; kernel_rfl),
  .of (by kernel_rfl) rfl rfl (by kernel_rfl) (by show _ = _; kernel_rfl),
  .of (by kernel_rfl) rfl rfl (by kernel_rfl) (by show _ = _; kernel_rfl),
  .of (by kernel_rfl) rfl rfl (by kernel_rfl) (by show _ = _; kernel_rfl),
  .of (by kernel_rfl) rfl rfl (by kernel_rfl) (by show _ = _; kernel_rfl),
  .of (by kernel_rfl) rfl rfl (by kernel_rfl) (by show _ = _; kernel_rfl),
  .of (by kernel_rfl) rfl rfl (by kernel_rfl) (by show _ = _; kernel_rfl), trivial⟩
theorem mixed : Try.prog.follows .mixedOrders = true := by kernel_rfl
def bytes0 : ByteArray := ByteArray.mk #[0, 1, 2, 2, 3, 3, 3, 3, 4, 4, 4, 4, 4, 4, 4, 4, 5, 5, 5, 5, 5, 5, 5, 5, 5, 5, 5, 5, 5, 5, 5, 5, 6, 6, 6, 6, 6, 6, 6, 6, 6, 6, 6, 6, 6, 6, 6, 6, 6, 6, 6, 6, 6, 6, 6, 6, 6, 6, 6, 6, 6, 6, 6, 6, 7, 7, 7, 7, 7, 7, 7, 7, 7, 7, 7, 7, 7, 7, 7, 7, 7, 7, 7, 7, 7, 7, 7, 7, 7, 7, 7, 7, 7, 7, 7, 7, 7, 7, 7, 7, 7, 7, 7, 7, 7, 7, 7, 7, 7, 7, 7, 7, 7, 7, 7, 7, 7, 7, 7, 7, 7, 7, 7, 7, 7, 7, 7, 7, 8, 8, 8, 8, 8, 8, 8, 8, 8, 8, 8, 8, 8, 8, 8, 8, 8, 8, 8, 8, 8, 8, 8, 8, 8, 8, 8, 8, 8, 8, 8, 8, 8, 8, 8, 8, 8, 8, 8, 8, 8, 8, 8, 8, 8, 8, 8, 8, 8, 8, 8, 8, 8, 8, 8, 8, 8, 8, 8, 8, 8, 8, 8, 8, 8, 8, 8, 8, 8, 8, 8, 8, 8, 8, 8, 8, 8, 8, 8, 8, 8, 8, 8, 8, 8, 8, 8, 8, 8, 8, 8, 8, 8, 8, 8, 8, 8, 8, 8, 8, 8, 8, 8, 8, 8, 8, 8, 8, 8, 8, 8, 8, 8, 8, 8, 8, 8, 8, 8, 8, 8, 8, 8, 8, 8, 8, 8, 8]
def laws.szStringS.l0.f (a0 : List ByteArray) : Nat → Int → Int → Option (Unit ⊕ Int)
  | 0, _, _ => none
  | k + 1, v2_0, v2_1 =>
    cond (decide (v2_1 < (a0.length : Int))) (ck (0 ≤ v2_1) (cond (decide ((w64 (v2_0 - ((a0.getD v2_1.toNat noVal).size : Int))) < 0)) (some (.inl ())) (laws.szStringS.l0.f a0 k (w64 (v2_0 - ((a0.getD v2_1.toNat noVal).size : Int))) (w64 (v2_1 + 1))))) (some (.inr (v2_0)))
def laws.szStringS.l0.s (a0 : List ByteArray) (v2_0 : Int) (v2_1 : Int) : St := mkSt 28 [(0, one (.sl 0 0 a0.length)), (1, one (.int .i64 v2_0)), (5, one (.int .i64 v2_1))] [some ⟨false, .strs a0⟩]
def laws.szStringS.l0.e0 (a0 : List ByteArray) (o : Unit) : St := mkSt 28 [(4, one (.int .i64 (-1)))] [some ⟨false, .strs a0⟩]
def laws.szStringS.l0.e1 (a0 : List ByteArray) (o : Int) : St := mkSt 28 [(1, one (.int .i64 o))] [some ⟨false, .strs a0⟩]
def laws.szStringS.l0.x (a0 : List ByteArray) : (Unit ⊕ Int) → AExit × St := Sum.elim (fun o => (.ret, laws.szStringS.l0.e0 a0 o)) (fun o => (.exit 0, laws.szStringS.l0.e1 a0 o))
theorem laws.szStringS.l0.spec (a0 : List ByteArray) : ∀ (k : Nat) (v2_0 : Int) (v2_1 : Int) (o : Unit ⊕ Int), laws.szStringS.l0.f a0 k v2_0 v2_1 = some o → LoopSpec Try.prog 1 (loopN Try.f67 0) (laws.szStringS.l0.s a0 v2_0 v2_1) (laws.szStringS.l0.x a0 o).1 (laws.szStringS.l0.x a0 o).2
  | 0, _, _, _, h => by cases h
  | k + 1, v2_0, v2_1, o, h => by
    unfold laws.szStringS.l0.f at h
    rcases br_cases h with ⟨c1, h⟩ | ⟨c1, h⟩
    · obtain ⟨p1, h⟩ := ck_some h
      rcases br_cases h with ⟨c2, h⟩ | ⟨c2, h⟩
      · obtain rfl := Option.some.inj h
        exact .of_done tab mixed [.br true, .br true] [] [4] [0] rfl (nd c1 (nd p1 (nd (of_decide_eq_true c1) (nd (tn p1 (of_decide_eq_true c1)) (nd c2 trivial))))) (by kernel_rfl)
      · exact .of_step tab mixed [.br true, .br false] [] [0, 1, 5] [0] (s1 := laws.szStringS.l0.s a0 (w64 (v2_0 - ((a0.getD v2_1.toNat noVal).size : Int))) (w64 (v2_1 + 1))) (nd c1 (nd p1 (nd (of_decide_eq_true c1) (nd (tn p1 (of_decide_eq_true c1)) (nd c2 trivial))))) (by kernel_rfl) (laws.szStringS.l0.spec a0 k (w64 (v2_0 - ((a0.getD v2_1.toNat noVal).size : Int))) (w64 (v2_1 + 1)) _ h)
    · obtain rfl := Option.some.inj h
      exact .of_done tab mixed [.br false] [] [1] [0] rfl (nd c1 trivial) (by kernel_rfl)
def laws.szStringS.f (K : Nat) (a0 : List ByteArray) (a1 : Int) : Option (Int) :=
  cond (decide ((w64 (a1 - (a0.length : Int))) < 0)) (some (-1)) (Option.bind (laws.szStringS.l0.f a0 K (w64 (a1 - (a0.length : Int))) 0) fun x1 => (Sum.elim (fun x1 => some (-1)) (fun x1 => some x1)) x1)
theorem laws.szStringS.spec (K : Nat) (a0 : List ByteArray) (a1 : Int) (o : Int) (h : laws.szStringS.f K a0 a1 = some o) : Den.Spec Try.prog 67 [one (.sl 0 0 a0.length), one (.int .i64 a1)] [some ⟨false, .strs a0⟩] (one (.int .i64 o)) [some ⟨false, .strs a0⟩] := by
  unfold laws.szStringS.f at h
  rcases br_cases h with ⟨c1, h⟩ | ⟨c1, h⟩
  · obtain rfl := Option.some.inj h
    exact Den.Spec.of_walk tab mixed Try.func67 (by kernel_rfl) [.br true] [] [0] (nd c1 trivial) (by kernel_rfl)
  · obtain ⟨x1, e1, h⟩ := bind_some h
    rcases x1 with x1 | x1
    · obtain rfl := Option.some.inj h
      exact Den.Spec.of_walk tab mixed Try.func67 (by kernel_rfl) [.br false, .loop [] [0, 1, 5] [0] (.ret) (laws.szStringS.l0.e0 a0 x1)] [] [0] (nd c1 (nd (laws.szStringS.l0.spec a0 K (w64 (a1 - (a0.length : Int))) 0 _ e1) trivial)) (by kernel_rfl)
    · obtain rfl := Option.some.inj h
      exact Den.Spec.of_walk tab mixed Try.func67 (by kernel_rfl) [.br false, .loop [] [0, 1, 5] [0] (.exit 0) (laws.szStringS.l0.e1 a0 x1)] [] [0] (nd c1 (nd (laws.szStringS.l0.spec a0 K (w64 (a1 - (a0.length : Int))) 0 _ e1) trivial)) (by kernel_rfl)
def laws.szIntS.f (a0 : List Int) (a1 : Int) : Option (Int) :=
  cond (decide ((w64 (a1 - (a0.length : Int))) < 0)) (some (-1)) (some (w64 (a1 - (a0.length : Int))))
theorem laws.szIntS.spec (a0 : List Int) (a1 : Int) (o : Int) (h : laws.szIntS.f a0 a1 = some o) : Den.Spec Try.prog 68 [one (.sl 0 0 a0.length), one (.int .i64 a1)] [some ⟨false, .ints .i64 a0⟩] (one (.int .i64 o)) [some ⟨false, .ints .i64 a0⟩] := by
  unfold laws.szIntS.f at h
  rcases br_cases h with ⟨c1, h⟩ | ⟨c1, h⟩
  · obtain rfl := Option.some.inj h
    exact Den.Spec.of_walk tab mixed Try.func68 (by kernel_rfl) [.br true] [] [0] (nd c1 trivial) (by kernel_rfl)
  · obtain rfl := Option.some.inj h
    exact Den.Spec.of_walk tab mixed Try.func68 (by kernel_rfl) [.br false] [] [0] (nd c1 trivial) (by kernel_rfl)
def laws.szChip.f (K : Nat) (a0 : List ByteArray) (a1 : List Int) (a2 : Int) : Option (Int) :=
  Option.bind (laws.szStringS.f K a0 a2) fun x1 => cond (decide (x1 < 0)) (some (-1)) (Option.bind (laws.szIntS.f a1 x1) fun x2 => cond (decide (x2 < 0)) (some (-1)) (some x2))
theorem laws.szChip.spec (K : Nat) (a0 : List ByteArray) (a1 : List Int) (a2 : Int) (o : Int) (h : laws.szChip.f K a0 a1 a2 = some o) : Den.Spec Try.prog 41 [.v (.agg [.sl 0 0 a0.length, .sl 1 0 a1.length]), one (.int .i64 a2)] [some ⟨false, .strs a0⟩, some ⟨false, .ints .i64 a1⟩] (one (.int .i64 o)) [some ⟨false, .strs a0⟩, some ⟨false, .ints .i64 a1⟩] := by
  unfold laws.szChip.f at h
  obtain ⟨x1, e1, h⟩ := bind_some h
  rcases br_cases h with ⟨c1, h⟩ | ⟨c1, h⟩
  · obtain rfl := Option.some.inj h
    exact Den.Spec.of_walk tab mixed Try.func41 (by kernel_rfl) [.call [] [(0, true)] (one (.int .i64 x1)) [some ⟨false, .strs a0⟩], .br true] [] [0, 1] (nd (laws.szStringS.spec K a0 a2 _ e1) (nd (rfl : (0 : Nat) = 0) (nd (rfl : a0.length = a0.length) (nd c1 trivial)))) (by kernel_rfl)
  · obtain ⟨x2, e2, h⟩ := bind_some h
    rcases br_cases h with ⟨c2, h⟩ | ⟨c2, h⟩
    · obtain rfl := Option.some.inj h
      exact Den.Spec.of_walk tab mixed Try.func41 (by kernel_rfl) [.call [] [(0, true)] (one (.int .i64 x1)) [some ⟨false, .strs a0⟩], .br false, .call [] [(0, true)] (one (.int .i64 x2)) [some ⟨false, .ints .i64 a1⟩], .br true] [] [0, 1] (nd (laws.szStringS.spec K a0 a2 _ e1) (nd (rfl : (0 : Nat) = 0) (nd (rfl : a0.length = a0.length) (nd c1 (nd (laws.szIntS.spec a1 x1 _ e2) (nd (rfl : (0 : Nat) = 0) (nd (rfl : a1.length = a1.length) (nd c2 trivial)))))))) (by kernel_rfl)
    · obtain rfl := Option.some.inj h
      exact Den.Spec.of_walk tab mixed Try.func41 (by kernel_rfl) [.call [] [(0, true)] (one (.int .i64 x1)) [some ⟨false, .strs a0⟩], .br false, .call [] [(0, true)] (one (.int .i64 x2)) [some ⟨false, .ints .i64 a1⟩], .br false] [] [0, 1] (nd (laws.szStringS.spec K a0 a2 _ e1) (nd (rfl : (0 : Nat) = 0) (nd (rfl : a0.length = a0.length) (nd c1 (nd (laws.szIntS.spec a1 x1 _ e2) (nd (rfl : (0 : Nat) = 0) (nd (rfl : a1.length = a1.length) (nd c2 trivial)))))))) (by kernel_rfl)
def laws.szFtl.f (K : Nat) (a0 : List ByteArray) (a1 : List Int) (a2 : List Int) (a3 : Int) (a4 : Int) : Option (Int) :=
  Option.bind (laws.szChip.f K a0 a1 a4) fun x1 => cond (decide (x1 < 0)) (some (-1)) (Option.bind (laws.szIntS.f a2 x1) fun x2 => cond (decide (x2 < 0)) (some (-1)) (some x2))
theorem laws.szFtl.spec (K : Nat) (a0 : List ByteArray) (a1 : List Int) (a2 : List Int) (a3 : Int) (a4 : Int) (o : Int) (h : laws.szFtl.f K a0 a1 a2 a3 a4 = some o) : Den.Spec Try.prog 32 [.v (.agg [.sl 0 0 a0.length, .sl 1 0 a1.length, .sl 2 0 a2.length, .int .i64 a3]), one (.int .i64 a4)] [some ⟨false, .strs a0⟩, some ⟨false, .ints .i64 a1⟩, some ⟨false, .ints .i64 a2⟩] (one (.int .i64 o)) [some ⟨false, .strs a0⟩, some ⟨false, .ints .i64 a1⟩, some ⟨false, .ints .i64 a2⟩] := by
  unfold laws.szFtl.f at h
  obtain ⟨x1, e1, h⟩ := bind_some h
  rcases br_cases h with ⟨c1, h⟩ | ⟨c1, h⟩
  · obtain rfl := Option.some.inj h
    exact Den.Spec.of_walk tab mixed Try.func32 (by kernel_rfl) [.call [(0, false), (1, false)] [] (one (.int .i64 x1)) [some ⟨false, .strs a0⟩, some ⟨false, .ints .i64 a1⟩], .br true] [] [0, 1, 2] (nd (laws.szChip.spec K a0 a1 a4 _ e1) (nd c1 trivial)) (by kernel_rfl)
  · obtain ⟨x2, e2, h⟩ := bind_some h
    rcases br_cases h with ⟨c2, h⟩ | ⟨c2, h⟩
    · obtain rfl := Option.some.inj h
      exact Den.Spec.of_walk tab mixed Try.func32 (by kernel_rfl) [.call [(0, false), (1, false)] [] (one (.int .i64 x1)) [some ⟨false, .strs a0⟩, some ⟨false, .ints .i64 a1⟩], .br false, .call [] [(0, true)] (one (.int .i64 x2)) [some ⟨false, .ints .i64 a2⟩], .br true] [] [0, 1, 2] (nd (laws.szChip.spec K a0 a1 a4 _ e1) (nd c1 (nd (laws.szIntS.spec a2 x1 _ e2) (nd (rfl : (0 : Nat) = 0) (nd (rfl : a2.length = a2.length) (nd c2 trivial)))))) (by kernel_rfl)
    · obtain rfl := Option.some.inj h
      exact Den.Spec.of_walk tab mixed Try.func32 (by kernel_rfl) [.call [(0, false), (1, false)] [] (one (.int .i64 x1)) [some ⟨false, .strs a0⟩, some ⟨false, .ints .i64 a1⟩], .br false, .call [] [(0, true)] (one (.int .i64 x2)) [some ⟨false, .ints .i64 a2⟩], .br false] [] [0, 1, 2] (nd (laws.szChip.spec K a0 a1 a4 _ e1) (nd c1 (nd (laws.szIntS.spec a2 x1 _ e2) (nd (rfl : (0 : Nat) = 0) (nd (rfl : a2.length = a2.length) (nd c2 trivial)))))) (by kernel_rfl)
def laws.toStringS.l0.f (a0 : List ByteArray) : Nat → (List ByteArray) → Int → Option ((List ByteArray))
  | 0, _, _ => none
  | k + 1, v8_0, v8_1 =>
    cond (decide (v8_1 < (a0.length : Int))) (ck (0 ≤ v8_1) (ck (v8_1 < (v8_0.length : Int)) (laws.toStringS.l0.f a0 k (v8_0.set v8_1.toNat (a0.getD v8_1.toNat noVal)) (w64 (v8_1 + 1))))) (some v8_0)
def laws.toStringS.l0.s (a0 : List ByteArray) (v8_0 : List ByteArray) (v8_1 : Int) : St := mkSt 22 [(0, one (.sl 0 0 a0.length)), (3, one (.sl 1 0 v8_0.length)), (4, one (.int .i64 v8_1))] [some ⟨false, .strs a0⟩, some ⟨true, .strs v8_0⟩]
def laws.toStringS.l0.e0 (a0 : List ByteArray) (o : (List ByteArray)) : St := mkSt 22 [(3, one (.sl 1 0 o.length))] [some ⟨false, .strs a0⟩, some ⟨true, .strs o⟩]
def laws.toStringS.l0.x (a0 : List ByteArray) : ((List ByteArray)) → AExit × St := fun o => (.exit 0, laws.toStringS.l0.e0 a0 o)
theorem laws.toStringS.l0.spec (a0 : List ByteArray) : ∀ (k : Nat) (v8_0 : List ByteArray) (v8_1 : Int) (o : (List ByteArray)), laws.toStringS.l0.f a0 k v8_0 v8_1 = some o → LoopSpec Try.prog 1 (loopN Try.f69 0) (laws.toStringS.l0.s a0 v8_0 v8_1) (laws.toStringS.l0.x a0 o).1 (laws.toStringS.l0.x a0 o).2
  | 0, _, _, _, h => by cases h
  | k + 1, v8_0, v8_1, o, h => by
    unfold laws.toStringS.l0.f at h
    rcases br_cases h with ⟨c1, h⟩ | ⟨c1, h⟩
    · obtain ⟨p1, h⟩ := ck_some h
      obtain ⟨p2, h⟩ := ck_some h
      exact .of_step tab mixed [.br true] [] [0, 3, 4] [0, 1] (s1 := mkSt 22 [(0, one (.sl 0 0 a0.length)), (3, one (.sl 1 0 v8_0.length)), (4, one (.int .i64 (w64 (v8_1 + 1))))] [some ⟨false, .strs a0⟩, some ⟨true, .strs (v8_0.set v8_1.toNat (a0.getD v8_1.toNat noVal))⟩]) (nd c1 (nd p1 (nd (of_decide_eq_true c1) (nd (tn p1 (of_decide_eq_true c1)) (nd p1 (nd p2 (nd (tn p1 p2) trivial))))))) (by kernel_rfl) (LoopSpec.eqs (laws.toStringS.l0.spec a0 k (v8_0.set v8_1.toNat (a0.getD v8_1.toNat noVal)) (w64 (v8_1 + 1)) _ h) (by simp only [laws.toStringS.l0.s, List.length_set, overL_length] : laws.toStringS.l0.s a0 (v8_0.set v8_1.toNat (a0.getD v8_1.toNat noVal)) (w64 (v8_1 + 1)) = mkSt 22 [(0, one (.sl 0 0 a0.length)), (3, one (.sl 1 0 v8_0.length)), (4, one (.int .i64 (w64 (v8_1 + 1))))] [some ⟨false, .strs a0⟩, some ⟨true, .strs (v8_0.set v8_1.toNat (a0.getD v8_1.toNat noVal))⟩]))
    · obtain rfl := Option.some.inj h
      exact .of_done tab mixed [.br false] [] [3] [0, 1] rfl (nd c1 trivial) (by kernel_rfl)
def laws.toStringS.f (K : Nat) (a0 : List ByteArray) : Option ((List ByteArray)) :=
  ck (((a0.length : Int) * (16 : Int)) ≤ 70368744177664) (Option.bind (laws.toStringS.l0.f a0 K (List.replicate a0.length noVal) 0) fun x1 => some x1)
theorem laws.toStringS.spec (K : Nat) (a0 : List ByteArray) (o : (List ByteArray)) (h : laws.toStringS.f K a0 = some o) : Den.Spec Try.prog 69 [one (.sl 0 0 a0.length)] [some ⟨false, .strs a0⟩] (one (.sl 1 0 o.length)) [some ⟨false, .strs a0⟩, some ⟨true, .strs o⟩] := by
  unfold laws.toStringS.f at h
  obtain ⟨p1, h⟩ := ck_some h
  obtain ⟨x1, e1, h⟩ := bind_some h
  obtain rfl := Option.some.inj h
  exact Den.Spec.of_walk tab mixed Try.func69 (by kernel_rfl) [.loop [] [0, 3, 4] [0, 1] (.exit 0) (laws.toStringS.l0.e0 a0 x1)] [] [0, 1] (nd (Int.natCast_nonneg a0.length) (nd (rfl : (a0.length : Int) = (a0.length : Int)) (nd p1 (nd (laws.toStringS.l0.spec a0 K (List.replicate a0.length noVal) 0 _ e1) trivial)))) (by kernel_rfl)
def laws.toIntS.l0.f (a0 : List Int) : Nat → (List Int) → Int → Option ((List Int))
  | 0, _, _ => none
  | k + 1, v11_0, v11_1 =>
    cond (decide (v11_1 < (a0.length : Int))) (ck (0 ≤ v11_1) (ck (v11_1 < (v11_0.length : Int)) (laws.toIntS.l0.f a0 k (v11_0.set v11_1.toNat (a0.getD v11_1.toNat 0)) (w64 (v11_1 + 1))))) (some v11_0)
def laws.toIntS.l0.s (a0 : List Int) (v11_0 : List Int) (v11_1 : Int) : St := mkSt 22 [(0, one (.sl 0 0 a0.length)), (3, one (.sl 1 0 v11_0.length)), (4, one (.int .i64 v11_1))] [some ⟨false, .ints .i64 a0⟩, some ⟨true, .ints .i64 v11_0⟩]
def laws.toIntS.l0.e0 (a0 : List Int) (o : (List Int)) : St := mkSt 22 [(3, one (.sl 1 0 o.length))] [some ⟨false, .ints .i64 a0⟩, some ⟨true, .ints .i64 o⟩]
def laws.toIntS.l0.x (a0 : List Int) : ((List Int)) → AExit × St := fun o => (.exit 0, laws.toIntS.l0.e0 a0 o)
theorem laws.toIntS.l0.spec (a0 : List Int) : ∀ (k : Nat) (v11_0 : List Int) (v11_1 : Int) (o : (List Int)), laws.toIntS.l0.f a0 k v11_0 v11_1 = some o → LoopSpec Try.prog 1 (loopN Try.f70 0) (laws.toIntS.l0.s a0 v11_0 v11_1) (laws.toIntS.l0.x a0 o).1 (laws.toIntS.l0.x a0 o).2
  | 0, _, _, _, h => by cases h
  | k + 1, v11_0, v11_1, o, h => by
    unfold laws.toIntS.l0.f at h
    rcases br_cases h with ⟨c1, h⟩ | ⟨c1, h⟩
    · obtain ⟨p1, h⟩ := ck_some h
      obtain ⟨p2, h⟩ := ck_some h
      exact .of_step tab mixed [.br true] [] [0, 3, 4] [0, 1] (s1 := mkSt 22 [(0, one (.sl 0 0 a0.length)), (3, one (.sl 1 0 v11_0.length)), (4, one (.int .i64 (w64 (v11_1 + 1))))] [some ⟨false, .ints .i64 a0⟩, some ⟨true, .ints .i64 (v11_0.set v11_1.toNat (a0.getD v11_1.toNat 0))⟩]) (nd c1 (nd p1 (nd (of_decide_eq_true c1) (nd (tn p1 (of_decide_eq_true c1)) (nd p1 (nd p2 (nd (tn p1 p2) trivial))))))) (by kernel_rfl) (LoopSpec.eqs (laws.toIntS.l0.spec a0 k (v11_0.set v11_1.toNat (a0.getD v11_1.toNat 0)) (w64 (v11_1 + 1)) _ h) (by simp only [laws.toIntS.l0.s, List.length_set, overL_length] : laws.toIntS.l0.s a0 (v11_0.set v11_1.toNat (a0.getD v11_1.toNat 0)) (w64 (v11_1 + 1)) = mkSt 22 [(0, one (.sl 0 0 a0.length)), (3, one (.sl 1 0 v11_0.length)), (4, one (.int .i64 (w64 (v11_1 + 1))))] [some ⟨false, .ints .i64 a0⟩, some ⟨true, .ints .i64 (v11_0.set v11_1.toNat (a0.getD v11_1.toNat 0))⟩]))
    · obtain rfl := Option.some.inj h
      exact .of_done tab mixed [.br false] [] [3] [0, 1] rfl (nd c1 trivial) (by kernel_rfl)
def laws.toIntS.f (K : Nat) (a0 : List Int) : Option ((List Int)) :=
  ck (((a0.length : Int) * (8 : Int)) ≤ 70368744177664) (Option.bind (laws.toIntS.l0.f a0 K (List.replicate a0.length (0 : Int)) 0) fun x1 => some x1)
theorem laws.toIntS.spec (K : Nat) (a0 : List Int) (o : (List Int)) (h : laws.toIntS.f K a0 = some o) : Den.Spec Try.prog 70 [one (.sl 0 0 a0.length)] [some ⟨false, .ints .i64 a0⟩] (one (.sl 1 0 o.length)) [some ⟨false, .ints .i64 a0⟩, some ⟨true, .ints .i64 o⟩] := by
  unfold laws.toIntS.f at h
  obtain ⟨p1, h⟩ := ck_some h
  obtain ⟨x1, e1, h⟩ := bind_some h
  obtain rfl := Option.some.inj h
  exact Den.Spec.of_walk tab mixed Try.func70 (by kernel_rfl) [.loop [] [0, 3, 4] [0, 1] (.exit 0) (laws.toIntS.l0.e0 a0 x1)] [] [0, 1] (nd (Int.natCast_nonneg a0.length) (nd (rfl : (a0.length : Int) = (a0.length : Int)) (nd p1 (nd (laws.toIntS.l0.spec a0 K (List.replicate a0.length (0 : Int)) 0 _ e1) trivial)))) (by kernel_rfl)
def laws.toChip.f (K : Nat) (a0 : List ByteArray) (a1 : List Int) : Option ((List ByteArray) × (List Int)) :=
  Option.bind (laws.toStringS.f K a0) fun x1 => Option.bind (laws.toIntS.f K a1) fun x2 => some (x1, x2)
theorem laws.toChip.spec (K : Nat) (a0 : List ByteArray) (a1 : List Int) (o : (List ByteArray) × (List Int)) (h : laws.toChip.f K a0 a1 = some o) : Den.Spec Try.prog 43 [.v (.agg [.sl 0 0 a0.length, .sl 1 0 a1.length])] [some ⟨false, .strs a0⟩, some ⟨false, .ints .i64 a1⟩] (.v (.agg [.sl 2 0 o.1.length, .sl 3 0 o.2.length])) [some ⟨false, .strs a0⟩, some ⟨false, .ints .i64 a1⟩, some ⟨true, .strs o.1⟩, some ⟨true, .ints .i64 o.2⟩] := by
  unfold laws.toChip.f at h
  obtain ⟨x1, e1, h⟩ := bind_some h
  obtain ⟨x2, e2, h⟩ := bind_some h
  obtain rfl := Option.some.inj h
  exact Den.Spec.of_walk tab mixed Try.func43 (by kernel_rfl) [.call [] [(0, true)] (one (.sl 1 0 x1.length)) [some ⟨false, .strs a0⟩, some ⟨true, .strs x1⟩], .call [] [(0, true)] (one (.sl 1 0 x2.length)) [some ⟨false, .ints .i64 a1⟩, some ⟨true, .ints .i64 x2⟩]] [] [0, 1, 9, 10] (nd (laws.toStringS.spec K a0 _ e1) (nd (rfl : (0 : Nat) = 0) (nd (rfl : a0.length = a0.length) (nd (laws.toIntS.spec K a1 _ e2) (nd (rfl : (0 : Nat) = 0) (nd (rfl : a1.length = a1.length) trivial)))))) (by kernel_rfl)
def laws.toFtl.f (K : Nat) (a0 : List ByteArray) (a1 : List Int) (a2 : List Int) (a3 : Int) : Option ((List ByteArray) × (List Int) × (List Int)) :=
  Option.bind (laws.toChip.f K a0 a1) fun x1 => Option.bind (laws.toIntS.f K a2) fun x2 => some (x1.1, x1.2, x2)
theorem laws.toFtl.spec (K : Nat) (a0 : List ByteArray) (a1 : List Int) (a2 : List Int) (a3 : Int) (o : (List ByteArray) × (List Int) × (List Int)) (h : laws.toFtl.f K a0 a1 a2 a3 = some o) : Den.Spec Try.prog 34 [.v (.agg [.sl 0 0 a0.length, .sl 1 0 a1.length, .sl 2 0 a2.length, .int .i64 a3])] [some ⟨false, .strs a0⟩, some ⟨false, .ints .i64 a1⟩, some ⟨false, .ints .i64 a2⟩] (.v (.agg [.sl 3 0 o.1.length, .sl 4 0 o.2.1.length, .sl 5 0 o.2.2.length, .int .i64 a3])) [some ⟨false, .strs a0⟩, some ⟨false, .ints .i64 a1⟩, some ⟨false, .ints .i64 a2⟩, some ⟨true, .strs o.1⟩, some ⟨true, .ints .i64 o.2.1⟩, some ⟨true, .ints .i64 o.2.2⟩] := by
  unfold laws.toFtl.f at h
  obtain ⟨x1, e1, h⟩ := bind_some h
  obtain ⟨x2, e2, h⟩ := bind_some h
  obtain rfl := Option.some.inj h
  exact Den.Spec.of_walk tab mixed Try.func34 (by kernel_rfl) [.call [(0, false), (1, false)] [] (.v (.agg [.sl 2 0 x1.1.length, .sl 3 0 x1.2.length])) [some ⟨false, .strs a0⟩, some ⟨false, .ints .i64 a1⟩, some ⟨true, .strs x1.1⟩, some ⟨true, .ints .i64 x1.2⟩], .call [] [(0, true)] (one (.sl 1 0 x2.length)) [some ⟨false, .ints .i64 a2⟩, some ⟨true, .ints .i64 x2⟩]] [] [0, 1, 2, 12, 13, 14] (nd (laws.toChip.spec K a0 a1 _ e1) (nd (laws.toIntS.spec K a2 _ e2) (nd (rfl : (0 : Nat) = 0) (nd (rfl : a2.length = a2.length) trivial)))) (by kernel_rfl)
def spec.ChipOk.l0.f (a0 : List ByteArray) (a1 : List Int) : Nat → Int → Option (Unit ⊕ Unit)
  | 0, _ => none
  | k + 1, v18_0 =>
    cond (decide (v18_0 < (a0.length : Int))) (ck (0 ≤ v18_0) (cond (decide (((a0.getD v18_0.toNat noVal).size : Int) > 800)) (some (.inl ())) (spec.ChipOk.l0.f a0 a1 k (w64 (v18_0 + 1))))) (some (.inr (())))
def spec.ChipOk.l0.s (a0 : List ByteArray) (a1 : List Int) (v18_0 : Int) : St := mkSt 43 [(1, one (.ptr 2 0 0)), (3, one (.int .i64 v18_0))] [some ⟨false, .strs a0⟩, some ⟨false, .ints .i64 a1⟩, some ⟨true, .cells [.sl 0 0 a0.length, .sl 1 0 a1.length]⟩]
def spec.ChipOk.l0.e0 (a0 : List ByteArray) (a1 : List Int) (o : Unit) : St := mkSt 43 [(2, one (.bool false))] [some ⟨false, .strs a0⟩, some ⟨false, .ints .i64 a1⟩]
def spec.ChipOk.l0.e1 (a0 : List ByteArray) (a1 : List Int) (o : Unit) : St := mkSt 43 [(1, one (.ptr 2 0 0))] [some ⟨false, .strs a0⟩, some ⟨false, .ints .i64 a1⟩, some ⟨true, .cells [.sl 0 0 a0.length, .sl 1 0 a1.length]⟩]
def spec.ChipOk.l0.x (a0 : List ByteArray) (a1 : List Int) : (Unit ⊕ Unit) → AExit × St := Sum.elim (fun o => (.ret, spec.ChipOk.l0.e0 a0 a1 o)) (fun o => (.exit 0, spec.ChipOk.l0.e1 a0 a1 o))
theorem spec.ChipOk.l0.spec (a0 : List ByteArray) (a1 : List Int) : ∀ (k : Nat) (v18_0 : Int) (o : Unit ⊕ Unit), spec.ChipOk.l0.f a0 a1 k v18_0 = some o → LoopSpec Try.prog 2 (loopN Try.f64 0) (spec.ChipOk.l0.s a0 a1 v18_0) (spec.ChipOk.l0.x a0 a1 o).1 (spec.ChipOk.l0.x a0 a1 o).2
  | 0, _, _, h => by cases h
  | k + 1, v18_0, o, h => by
    unfold spec.ChipOk.l0.f at h
    rcases br_cases h with ⟨c1, h⟩ | ⟨c1, h⟩
    · obtain ⟨p1, h⟩ := ck_some h
      rcases br_cases h with ⟨c2, h⟩ | ⟨c2, h⟩
      · obtain rfl := Option.some.inj h
        exact .of_done tab mixed [.br true, .br true] [] [2] [0, 1] rfl (nd c1 (nd p1 (nd (of_decide_eq_true c1) (nd (tn p1 (of_decide_eq_true c1)) (nd c2 trivial))))) (by kernel_rfl)
      · exact .of_step tab mixed [.br true, .br false] [] [1, 3] [0, 1, 2] (s1 := spec.ChipOk.l0.s a0 a1 (w64 (v18_0 + 1))) (nd c1 (nd p1 (nd (of_decide_eq_true c1) (nd (tn p1 (of_decide_eq_true c1)) (nd c2 trivial))))) (by kernel_rfl) (spec.ChipOk.l0.spec a0 a1 k (w64 (v18_0 + 1)) _ h)
    · obtain rfl := Option.some.inj h
      exact .of_done tab mixed [.br false] [] [1] [0, 1, 2] rfl (nd c1 trivial) (by kernel_rfl)
def spec.l1In.f (a0 : Int) (a1 : Int) (a2 : Int) : Option (Bool) :=
  cond (decide (a0 ≥ a1)) (some (decide (a0 ≤ a2))) (some false)
theorem spec.l1In.spec (a0 : Int) (a1 : Int) (a2 : Int) (o : Bool) (h : spec.l1In.f a0 a1 a2 = some o) : Den.Spec Try.prog 83 [one (.int .i64 a0), one (.int .i64 a1), one (.int .i64 a2)] [] (one (.bool o)) [] := by
  unfold spec.l1In.f at h
  rcases br_cases h with ⟨c1, h⟩ | ⟨c1, h⟩
  · obtain rfl := Option.some.inj h
    exact Den.Spec.of_walk tab mixed Try.func83 (by kernel_rfl) [.br true, .br true, .br true, .br true] [] [] (nd c1 (nd c1 (nd c1 (nd c1 trivial)))) (by kernel_rfl)
  · obtain rfl := Option.some.inj h
    exact Den.Spec.of_walk tab mixed Try.func83 (by kernel_rfl) [.br false, .br false, .br false, .br false] [] [] (nd c1 (nd c1 (nd c1 (nd c1 trivial)))) (by kernel_rfl)
def spec.ChipOk.l1.f (a0 : List ByteArray) (a1 : List Int) : Nat → Int → Option (Unit ⊕ Unit)
  | 0, _ => none
  | k + 1, v19_0 =>
    cond (decide (v19_0 < (a1.length : Int))) (ck (0 ≤ v19_0) (Option.bind (spec.l1In.f (a1.getD v19_0.toNat 0) 0 1000000000) fun x1 => cond (x1) (spec.ChipOk.l1.f a0 a1 k (w64 (v19_0 + 1))) (some (.inl ())))) (some (.inr (())))
def spec.ChipOk.l1.s (a0 : List ByteArray) (a1 : List Int) (v19_0 : Int) : St := mkSt 43 [(1, one (.ptr 2 0 0)), (4, one (.int .i64 v19_0))] [some ⟨false, .strs a0⟩, some ⟨false, .ints .i64 a1⟩, some ⟨true, .cells [.sl 0 0 a0.length, .sl 1 0 a1.length]⟩]
def spec.ChipOk.l1.e0 (a0 : List ByteArray) (a1 : List Int) (o : Unit) : St := mkSt 43 [(2, one (.bool false))] [some ⟨false, .strs a0⟩, some ⟨false, .ints .i64 a1⟩]
def spec.ChipOk.l1.e1 (a0 : List ByteArray) (a1 : List Int) (o : Unit) : St := mkSt 43 [] [some ⟨false, .strs a0⟩, some ⟨false, .ints .i64 a1⟩]
def spec.ChipOk.l1.x (a0 : List ByteArray) (a1 : List Int) : (Unit ⊕ Unit) → AExit × St := Sum.elim (fun o => (.ret, spec.ChipOk.l1.e0 a0 a1 o)) (fun o => (.exit 2, spec.ChipOk.l1.e1 a0 a1 o))
theorem spec.ChipOk.l1.spec (a0 : List ByteArray) (a1 : List Int) : ∀ (k : Nat) (v19_0 : Int) (o : Unit ⊕ Unit), spec.ChipOk.l1.f a0 a1 k v19_0 = some o → LoopSpec Try.prog 2 (loopN Try.f64 1) (spec.ChipOk.l1.s a0 a1 v19_0) (spec.ChipOk.l1.x a0 a1 o).1 (spec.ChipOk.l1.x a0 a1 o).2
  | 0, _, _, h => by cases h
  | k + 1, v19_0, o, h => by
    unfold spec.ChipOk.l1.f at h
    rcases br_cases h with ⟨c1, h⟩ | ⟨c1, h⟩
    · obtain ⟨p1, h⟩ := ck_some h
      obtain ⟨x1, e1, h⟩ := bind_some h
      rcases br_cases h with ⟨c2, h⟩ | ⟨c2, h⟩
      · exact .of_step tab mixed [.br true, .call [] [] (one (.bool x1)) [], .br false] [] [1, 4] [0, 1, 2] (s1 := spec.ChipOk.l1.s a0 a1 (w64 (v19_0 + 1))) (nd c1 (nd p1 (nd (of_decide_eq_true c1) (nd (tn p1 (of_decide_eq_true c1)) (nd (spec.l1In.spec (a1.getD v19_0.toNat 0) 0 1000000000 _ e1) (nd (nf c2) trivial)))))) (by kernel_rfl) (spec.ChipOk.l1.spec a0 a1 k (w64 (v19_0 + 1)) _ h)
      · obtain rfl := Option.some.inj h
        exact .of_done tab mixed [.br true, .call [] [] (one (.bool x1)) [], .br true] [] [2] [0, 1] rfl (nd c1 (nd p1 (nd (of_decide_eq_true c1) (nd (tn p1 (of_decide_eq_true c1)) (nd (spec.l1In.spec (a1.getD v19_0.toNat 0) 0 1000000000 _ e1) (nd (nt c2) trivial)))))) (by kernel_rfl)
    · obtain rfl := Option.some.inj h
      exact .of_done tab mixed [.br false] [] [] [0, 1] rfl (nd c1 trivial) (by kernel_rfl)
def spec.ChipOk.f (K : Nat) (a0 : List ByteArray) (a1 : List Int) : Option (Bool) :=
  cond ((a0.length : Int) != 60) (some false) (cond ((a1.length : Int) != 10) (some false) (Option.bind (spec.ChipOk.l0.f a0 a1 K 0) fun x1 => (Sum.elim (fun x1 => some false) (fun x1 => Option.bind (spec.ChipOk.l1.f a0 a1 K 0) fun x2 => (Sum.elim (fun x2 => some false) (fun x2 => some true)) x2)) x1))
theorem spec.ChipOk.spec (K : Nat) (a0 : List ByteArray) (a1 : List Int) (o : Bool) (h : spec.ChipOk.f K a0 a1 = some o) : Den.Spec Try.prog 64 [.v (.agg [.sl 0 0 a0.length, .sl 1 0 a1.length])] [some ⟨false, .strs a0⟩, some ⟨false, .ints .i64 a1⟩] (one (.bool o)) [some ⟨false, .strs a0⟩, some ⟨false, .ints .i64 a1⟩] := by
  unfold spec.ChipOk.f at h
  rcases br_cases h with ⟨c1, h⟩ | ⟨c1, h⟩
  · obtain rfl := Option.some.inj h
    exact Den.Spec.of_walk tab mixed Try.func64 (by kernel_rfl) [.br true, .br true, .br true, .br true, .br true, .br true] [] [0, 1] (nd c1 (nd c1 (nd c1 (nd c1 (nd c1 (nd tt trivial)))))) (by kernel_rfl)
  · rcases br_cases h with ⟨c2, h⟩ | ⟨c2, h⟩
    · obtain rfl := Option.some.inj h
      exact Den.Spec.of_walk tab mixed Try.func64 (by kernel_rfl) [.br false, .br false, .br false, .br false, .br false, .br true] [] [0, 1] (nd c1 (nd c1 (nd c1 (nd c1 (nd c1 (nd c2 trivial)))))) (by kernel_rfl)
    · obtain ⟨x1, e1, h⟩ := bind_some h
      rcases x1 with x1 | x1
      · obtain rfl := Option.some.inj h
        exact Den.Spec.of_walk tab mixed Try.func64 (by kernel_rfl) [.br false, .br false, .br false, .br false, .br false, .br false, .loop [] [1, 3] [0, 1, 2] (.ret) (spec.ChipOk.l0.e0 a0 a1 x1)] [] [0, 1] (nd c1 (nd c1 (nd c1 (nd c1 (nd c1 (nd c2 (nd (spec.ChipOk.l0.spec a0 a1 K 0 _ e1) trivial))))))) (by kernel_rfl)
      · obtain ⟨x2, e2, h⟩ := bind_some h
        rcases x2 with x2 | x2
        · obtain rfl := Option.some.inj h
          exact Den.Spec.of_walk tab mixed Try.func64 (by kernel_rfl) [.br false, .br false, .br false, .br false, .br false, .br false, .loop [] [1, 3] [0, 1, 2] (.exit 0) (spec.ChipOk.l0.e1 a0 a1 x1), .loop [] [1, 4] [0, 1, 2] (.ret) (spec.ChipOk.l1.e0 a0 a1 x2)] [] [0, 1] (nd c1 (nd c1 (nd c1 (nd c1 (nd c1 (nd c2 (nd (spec.ChipOk.l0.spec a0 a1 K 0 _ e1) (nd (spec.ChipOk.l1.spec a0 a1 K 0 _ e2) trivial)))))))) (by kernel_rfl)
        · obtain rfl := Option.some.inj h
          exact Den.Spec.of_walk tab mixed Try.func64 (by kernel_rfl) [.br false, .br false, .br false, .br false, .br false, .br false, .loop [] [1, 3] [0, 1, 2] (.exit 0) (spec.ChipOk.l0.e1 a0 a1 x1), .loop [] [1, 4] [0, 1, 2] (.exit 2) (spec.ChipOk.l1.e1 a0 a1 x2)] [] [0, 1] (nd c1 (nd c1 (nd c1 (nd c1 (nd c1 (nd c2 (nd (spec.ChipOk.l0.spec a0 a1 K 0 _ e1) (nd (spec.ChipOk.l1.spec a0 a1 K 0 _ e2) trivial)))))))) (by kernel_rfl)
def spec.l2Copy.f (a0 : List ByteArray) (a1 : List Int) : Option (Unit) :=
  ck (([] ++ a0).length * 16 ≤ 70368744177664) (ck (([] ++ a1).length * 8 ≤ 70368744177664) (some ()))
theorem spec.l2Copy.spec (a0 : List ByteArray) (a1 : List Int) (o : Unit) (h : spec.l2Copy.f a0 a1 = some o) : Den.Spec Try.prog 92 [.v (.agg [.sl 0 0 a0.length, .sl 1 0 a1.length])] [some ⟨false, .strs a0⟩, some ⟨false, .ints .i64 a1⟩] (.v (.agg [.sl 2 0 (([] ++ a0).length), .sl 3 0 (([] ++ a1).length)])) [some ⟨false, .strs a0⟩, some ⟨false, .ints .i64 a1⟩, some ⟨true, .strs ([] ++ a0)⟩, some ⟨true, .ints .i64 ([] ++ a1)⟩] := by
  unfold spec.l2Copy.f at h
  obtain ⟨p1, h⟩ := ck_some h
  obtain ⟨p2, h⟩ := ck_some h
  obtain rfl := Option.some.inj h
  exact Den.Spec.of_walk tab mixed Try.func92 (by kernel_rfl) [.br true, .br true] [] [0, 1, 30, 62] (nd (rfl : (0 : Nat) = 0) (nd (rfl : 0 = 0) (nd p1 (nd (rfl : (0 : Nat) = 0) (nd (rfl : a0.length = a0.length) (nd (rfl : (0 : Nat) = 0) (nd (rfl : 0 = 0) (nd p2 (nd (rfl : (0 : Nat) = 0) (nd (rfl : a1.length = a1.length) trivial)))))))))) (by kernel_rfl)
def spec.Mount.l0.f (a0 : List ByteArray) (a1 : List Int) : Nat → (List Int) → Int → Option ((List Int))
  | 0, _, _ => none
  | k + 1, v40_0, v40_1 =>
    cond (decide (v40_1 < 26)) (ck ((v40_0 ++ [(-1)]).length * 8 ≤ 70368744177664) (spec.Mount.l0.f a0 a1 k (v40_0 ++ [(-1)]) (w64 (v40_1 + 1)))) (some v40_0)
def spec.Mount.l0.s (a0 : List ByteArray) (a1 : List Int) (v40_0 : List Int) (v40_1 : Int) : St := mkSt 73 [(1, one (.ptr 2 0 0)), (2, one (.ptr 3 0 0)), (3, one (.ptr 7 0 0)), (4, one (.sl 11 0 ((List.replicate 26 (0 : Int)).length))), (5, one (.int .i64 v40_1))] [some ⟨false, .strs a0⟩, some ⟨false, .ints .i64 a1⟩, some ⟨true, .cells [.sl 0 0 a0.length, .sl 1 0 a1.length]⟩, some ⟨true, .cells [.sl 4 0 0, .sl 5 0 0, .sl 6 0 0, .int .i64 0]⟩, some ⟨true, .strs []⟩, some ⟨true, .ints .i64 []⟩, some ⟨true, .ints .i64 []⟩, some ⟨true, .cells [.sl 8 0 (([] ++ a0).length), .sl 9 0 (([] ++ a1).length), .sl 10 0 v40_0.length, .int .i64 1]⟩, some ⟨true, .strs ([] ++ a0)⟩, some ⟨true, .ints .i64 ([] ++ a1)⟩, some ⟨true, .ints .i64 v40_0⟩, some ⟨true, .ints .i64 (List.replicate 26 (0 : Int))⟩]
def spec.Mount.l0.e0 (a0 : List ByteArray) (a1 : List Int) (o : (List Int)) : St := mkSt 73 [(1, one (.ptr 2 0 0)), (2, one (.ptr 3 0 0)), (3, one (.ptr 7 0 0)), (4, one (.sl 11 0 ((List.replicate 26 (0 : Int)).length)))] [some ⟨false, .strs a0⟩, some ⟨false, .ints .i64 a1⟩, some ⟨true, .cells [.sl 0 0 a0.length, .sl 1 0 a1.length]⟩, some ⟨true, .cells [.sl 4 0 0, .sl 5 0 0, .sl 6 0 0, .int .i64 0]⟩, some ⟨true, .strs []⟩, some ⟨true, .ints .i64 []⟩, some ⟨true, .ints .i64 []⟩, some ⟨true, .cells [.sl 8 0 (([] ++ a0).length), .sl 9 0 (([] ++ a1).length), .sl 10 0 o.length, .int .i64 1]⟩, some ⟨true, .strs ([] ++ a0)⟩, some ⟨true, .ints .i64 ([] ++ a1)⟩, some ⟨true, .ints .i64 o⟩, some ⟨true, .ints .i64 (List.replicate 26 (0 : Int))⟩]
def spec.Mount.l0.x (a0 : List ByteArray) (a1 : List Int) : ((List Int)) → AExit × St := fun o => (.exit 0, spec.Mount.l0.e0 a0 a1 o)
theorem spec.Mount.l0.spec (a0 : List ByteArray) (a1 : List Int) : ∀ (k : Nat) (v40_0 : List Int) (v40_1 : Int) (o : (List Int)), spec.Mount.l0.f a0 a1 k v40_0 v40_1 = some o → LoopSpec Try.prog 2 (loopN Try.f42 0) (spec.Mount.l0.s a0 a1 v40_0 v40_1) (spec.Mount.l0.x a0 a1 o).1 (spec.Mount.l0.x a0 a1 o).2
  | 0, _, _, _, h => by cases h
  | k + 1, v40_0, v40_1, o, h => by
    unfold spec.Mount.l0.f at h
    rcases br_cases h with ⟨c1, h⟩ | ⟨c1, h⟩
    · obtain ⟨p1, h⟩ := ck_some h
      exact .of_step tab mixed [.br true, .br true] [] [1, 2, 3, 4, 5] [0, 1, 2, 3, 4, 5, 6, 7, 8, 9, 13, 11] (s1 := spec.Mount.l0.s a0 a1 (v40_0 ++ [(-1)]) (w64 (v40_1 + 1))) (nd c1 (nd (rfl : (0 : Nat) = 0) (nd (rfl : v40_0.length = v40_0.length) (nd p1 (nd (rfl : (0 : Nat) = 0) (nd (rfl : 1 = 1) trivial)))))) (by kernel_rfl) (spec.Mount.l0.spec a0 a1 k (v40_0 ++ [(-1)]) (w64 (v40_1 + 1)) _ h)
    · obtain rfl := Option.some.inj h
      exact .of_done tab mixed [.br false] [] [1, 2, 3, 4] [0, 1, 2, 3, 4, 5, 6, 7, 8, 9, 10, 11] rfl (nd c1 trivial) (by kernel_rfl)
def spec.GetNum.l0.f (a0 : List Int) (a1 : Int) : Nat → Int → Int → Option ((Int × Int × Bool) ⊕ Unit)
  | 0, _, _ => none
  | k + 1, v25_0, v25_1 =>
    cond (decide (v25_1 < 5)) (cond (decide (a1 < 0)) (some (.inl (0, 0, false))) (cond (decide (a1 ≥ (w64 ((a0.length : Int) - v25_1)))) (some (.inl (0, 0, false))) (ck (0 ≤ (w64 (a1 + v25_1))) (ck ((w64 (a1 + v25_1)) < (a0.length : Int)) (ck (0 ≤ (w64 (7 * v25_1))) (cond (decide ((w64 (a0.getD ((w64 (a1 + v25_1)).toNat) 0)) < 128)) (cond (decide (v25_1 > 0)) (cond ((w64 (a0.getD ((w64 (a1 + v25_1)).toNat) 0)) == 0) (some (.inl (0, 0, false))) (cond (decide ((bits2 .i64 (· ||| ·) v25_0 (w64 (((w64 (a0.getD ((w64 (a1 + v25_1)).toNat) 0)).tmod 128) * 2 ^ (min (w64 (7 * v25_1)).toNat 64)))) > 1000000000)) (some (.inl (0, 0, false))) (some (.inl (bits2 .i64 (· ||| ·) v25_0 (w64 (((w64 (a0.getD ((w64 (a1 + v25_1)).toNat) 0)).tmod 128) * 2 ^ (min (w64 (7 * v25_1)).toNat 64))), w64 ((w64 (a1 + v25_1)) + 1), true))))) (cond (decide ((bits2 .i64 (· ||| ·) v25_0 (w64 (((w64 (a0.getD ((w64 (a1 + v25_1)).toNat) 0)).tmod 128) * 2 ^ (min (w64 (7 * v25_1)).toNat 64)))) > 1000000000)) (some (.inl (0, 0, false))) (some (.inl (bits2 .i64 (· ||| ·) v25_0 (w64 (((w64 (a0.getD ((w64 (a1 + v25_1)).toNat) 0)).tmod 128) * 2 ^ (min (w64 (7 * v25_1)).toNat 64))), w64 ((w64 (a1 + v25_1)) + 1), true))))) (spec.GetNum.l0.f a0 a1 k (bits2 .i64 (· ||| ·) v25_0 (w64 (((w64 (a0.getD ((w64 (a1 + v25_1)).toNat) 0)).tmod 128) * 2 ^ (min (w64 (7 * v25_1)).toNat 64)))) (w64 (v25_1 + 1))))))))) (some (.inr (())))
def spec.GetNum.l0.s (a0 : List Int) (a1 : Int) (v25_0 : Int) (v25_1 : Int) : St := mkSt 55 [(0, one (.sl 0 0 a0.length)), (1, one (.int .i64 a1)), (7, one (.int .i64 v25_0)), (8, one (.int .i64 v25_1))] [some ⟨false, .ints .u8 a0⟩]
def spec.GetNum.l0.e0 (a0 : List Int) (a1 : Int) (o : Int × Int × Bool) : St := mkSt 55 [(4, one (.int .i64 o.1)), (5, one (.int .i64 o.2.1)), (6, one (.bool o.2.2))] [some ⟨false, .ints .u8 a0⟩]
def spec.GetNum.l0.e1 (a0 : List Int) (a1 : Int) (o : Unit) : St := mkSt 55 [] [some ⟨false, .ints .u8 a0⟩]
def spec.GetNum.l0.x (a0 : List Int) (a1 : Int) : ((Int × Int × Bool) ⊕ Unit) → AExit × St := Sum.elim (fun o => (.ret, spec.GetNum.l0.e0 a0 a1 o)) (fun o => (.exit 0, spec.GetNum.l0.e1 a0 a1 o))
theorem spec.GetNum.l0.spec (a0 : List Int) (a1 : Int) : ∀ (k : Nat) (v25_0 : Int) (v25_1 : Int) (o : (Int × Int × Bool) ⊕ Unit), spec.GetNum.l0.f a0 a1 k v25_0 v25_1 = some o → LoopSpec Try.prog 1 (loopN Try.f129 0) (spec.GetNum.l0.s a0 a1 v25_0 v25_1) (spec.GetNum.l0.x a0 a1 o).1 (spec.GetNum.l0.x a0 a1 o).2
  | 0, _, _, _, h => by cases h
  | k + 1, v25_0, v25_1, o, h => by
    unfold spec.GetNum.l0.f at h
    rcases br_cases h with ⟨c1, h⟩ | ⟨c1, h⟩
    · rcases br_cases h with ⟨c2, h⟩ | ⟨c2, h⟩
      · obtain rfl := Option.some.inj h
        exact .of_done tab mixed [.br true, .br true, .br true, .br true, .br true, .br true, .br true, .br true, .br true] [] [4, 5, 6] [0] rfl (nd c1 (nd c2 (nd c2 (nd c2 (nd c2 (nd c2 (nd c2 (nd c2 (nd tt trivial))))))))) (by kernel_rfl)
      · rcases br_cases h with ⟨c3, h⟩ | ⟨c3, h⟩
        · obtain rfl := Option.some.inj h
          exact .of_done tab mixed [.br true, .br false, .br false, .br false, .br false, .br false, .br false, .br false, .br true] [] [4, 5, 6] [0] rfl (nd c1 (nd c2 (nd c2 (nd c2 (nd c2 (nd c2 (nd c2 (nd c2 (nd c3 trivial))))))))) (by kernel_rfl)
        · obtain ⟨p1, h⟩ := ck_some h
          obtain ⟨p2, h⟩ := ck_some h
          obtain ⟨p3, h⟩ := ck_some h
          rcases br_cases h with ⟨c4, h⟩ | ⟨c4, h⟩
          · rcases br_cases h with ⟨c5, h⟩ | ⟨c5, h⟩
            · rcases br_cases h with ⟨c6, h⟩ | ⟨c6, h⟩
              · obtain rfl := Option.some.inj h
                exact .of_done tab mixed [.br true, .br false, .br false, .br false, .br false, .br false, .br false, .br false, .br false, .br true, .br true, .br true, .br true, .br true, .br true, .br true, .br true] [] [4, 5, 6] [0] rfl (nd c1 (nd c2 (nd c2 (nd c2 (nd c2 (nd c2 (nd c2 (nd c2 (nd c3 (nd p1 (nd p2 (nd (tn p1 p2) (nd (by decide : (128 : Int) ≠ 0) (nd p3 (nd c4 (nd c5 (nd c5 (nd c5 (nd c6 (nd c6 (nd c6 (nd tt trivial)))))))))))))))))))))) (by kernel_rfl)
              · rcases br_cases h with ⟨c7, h⟩ | ⟨c7, h⟩
                · obtain rfl := Option.some.inj h
                  exact .of_done tab mixed [.br true, .br false, .br false, .br false, .br false, .br false, .br false, .br false, .br false, .br true, .br true, .br true, .br true, .br false, .br false, .br false, .br true] [] [4, 5, 6] [0] rfl (nd c1 (nd c2 (nd c2 (nd c2 (nd c2 (nd c2 (nd c2 (nd c2 (nd c3 (nd p1 (nd p2 (nd (tn p1 p2) (nd (by decide : (128 : Int) ≠ 0) (nd p3 (nd c4 (nd c5 (nd c5 (nd c5 (nd c6 (nd c6 (nd c6 (nd c7 trivial)))))))))))))))))))))) (by kernel_rfl)
                · obtain rfl := Option.some.inj h
                  exact .of_done tab mixed [.br true, .br false, .br false, .br false, .br false, .br false, .br false, .br false, .br false, .br true, .br true, .br true, .br true, .br false, .br false, .br false, .br false] [] [4, 5, 6] [0] rfl (nd c1 (nd c2 (nd c2 (nd c2 (nd c2 (nd c2 (nd c2 (nd c2 (nd c3 (nd p1 (nd p2 (nd (tn p1 p2) (nd (by decide : (128 : Int) ≠ 0) (nd p3 (nd c4 (nd c5 (nd c5 (nd c5 (nd c6 (nd c6 (nd c6 (nd c7 trivial)))))))))))))))))))))) (by kernel_rfl)
            · rcases br_cases h with ⟨c6, h⟩ | ⟨c6, h⟩
              · obtain rfl := Option.some.inj h
                exact .of_done tab mixed [.br true, .br false, .br false, .br false, .br false, .br false, .br false, .br false, .br false, .br true, .br false, .br false, .br false, .br false, .br false, .br false, .br true] [] [4, 5, 6] [0] rfl (nd c1 (nd c2 (nd c2 (nd c2 (nd c2 (nd c2 (nd c2 (nd c2 (nd c3 (nd p1 (nd p2 (nd (tn p1 p2) (nd (by decide : (128 : Int) ≠ 0) (nd p3 (nd c4 (nd c5 (nd c5 (nd c5 (nd ff (nd ff (nd ff (nd c6 trivial)))))))))))))))))))))) (by kernel_rfl)
              · obtain rfl := Option.some.inj h
                exact .of_done tab mixed [.br true, .br false, .br false, .br false, .br false, .br false, .br false, .br false, .br false, .br true, .br false, .br false, .br false, .br false, .br false, .br false, .br false] [] [4, 5, 6] [0] rfl (nd c1 (nd c2 (nd c2 (nd c2 (nd c2 (nd c2 (nd c2 (nd c2 (nd c3 (nd p1 (nd p2 (nd (tn p1 p2) (nd (by decide : (128 : Int) ≠ 0) (nd p3 (nd c4 (nd c5 (nd c5 (nd c5 (nd ff (nd ff (nd ff (nd c6 trivial)))))))))))))))))))))) (by kernel_rfl)
          · exact .of_step tab mixed [.br true, .br false, .br false, .br false, .br false, .br false, .br false, .br false, .br false, .br false] [] [0, 1, 7, 8] [0] (s1 := spec.GetNum.l0.s a0 a1 (bits2 .i64 (· ||| ·) v25_0 (w64 (((w64 (a0.getD ((w64 (a1 + v25_1)).toNat) 0)).tmod 128) * 2 ^ (min (w64 (7 * v25_1)).toNat 64)))) (w64 (v25_1 + 1))) (nd c1 (nd c2 (nd c2 (nd c2 (nd c2 (nd c2 (nd c2 (nd c2 (nd c3 (nd p1 (nd p2 (nd (tn p1 p2) (nd (by decide : (128 : Int) ≠ 0) (nd p3 (nd c4 trivial))))))))))))))) (by kernel_rfl) (spec.GetNum.l0.spec a0 a1 k (bits2 .i64 (· ||| ·) v25_0 (w64 (((w64 (a0.getD ((w64 (a1 + v25_1)).toNat) 0)).tmod 128) * 2 ^ (min (w64 (7 * v25_1)).toNat 64)))) (w64 (v25_1 + 1)) _ h)
    · obtain rfl := Option.some.inj h
      exact .of_done tab mixed [.br false] [] [] [0] rfl (nd c1 trivial) (by kernel_rfl)
def spec.GetNum.f (K : Nat) (a0 : List Int) (a1 : Int) : Option (Int × Int × Bool) :=
  Option.bind (spec.GetNum.l0.f a0 a1 K 0 0) fun x1 => (Sum.elim (fun x1 => some (x1.1, x1.2.1, x1.2.2)) (fun x1 => some (0, 0, false))) x1
theorem spec.GetNum.spec (K : Nat) (a0 : List Int) (a1 : Int) (o : Int × Int × Bool) (h : spec.GetNum.f K a0 a1 = some o) : Den.Spec Try.prog 129 [one (.sl 0 0 a0.length), one (.int .i64 a1)] [some ⟨false, .ints .u8 a0⟩] (.tup [.c (.int .i64 o.1), .c (.int .i64 o.2.1), .c (.bool o.2.2)]) [some ⟨false, .ints .u8 a0⟩] := by
  unfold spec.GetNum.f at h
  obtain ⟨x1, e1, h⟩ := bind_some h
  rcases x1 with x1 | x1
  · obtain rfl := Option.some.inj h
    exact Den.Spec.of_walk tab mixed Try.func129 (by kernel_rfl) [.loop [] [0, 1, 7, 8] [0] (.ret) (spec.GetNum.l0.e0 a0 a1 x1)] [] [0] (nd (spec.GetNum.l0.spec a0 a1 K 0 0 _ e1) trivial) (by kernel_rfl)
  · obtain rfl := Option.some.inj h
    exact Den.Spec.of_walk tab mixed Try.func129 (by kernel_rfl) [.loop [] [0, 1, 7, 8] [0] (.exit 0) (spec.GetNum.l0.e1 a0 a1 x1)] [] [0] (nd (spec.GetNum.l0.spec a0 a1 K 0 0 _ e1) trivial) (by kernel_rfl)
def spec.GetText.f (K : Nat) (a0 : List Int) (a1 : Int) : Option (ByteArray × Int × Bool) :=
  Option.bind (spec.GetNum.f K a0 a1) fun x1 => cond (x1.2.2) (cond (decide (x1.1 > 400)) (some (noVal, 0, false)) (cond (decide (x1.1 > (w64 ((a0.length : Int) - x1.2.1)))) (some (noVal, 0, false)) (ck (0 ≤ x1.2.1) (ck (x1.2.1 ≤ (w64 (x1.2.1 + x1.1))) (ck ((w64 (x1.2.1 + x1.1)) ≤ (a0.length : Int)) (ck (x1.2.1.toNat + ((w64 (x1.2.1 + x1.1)).toNat - x1.2.1.toNat) ≤ a0.length) (some (ofBytes ((a0.drop x1.2.1.toNat).take ((w64 (x1.2.1 + x1.1)).toNat - x1.2.1.toNat)), w64 (x1.2.1 + x1.1), true)))))))) (some (noVal, 0, false))
theorem spec.GetText.spec (K : Nat) (a0 : List Int) (a1 : Int) (o : ByteArray × Int × Bool) (h : spec.GetText.f K a0 a1 = some o) : Den.Spec Try.prog 130 [one (.sl 0 0 a0.length), one (.int .i64 a1)] [some ⟨false, .ints .u8 a0⟩] (.tup [.c (.str o.1), .c (.int .i64 o.2.1), .c (.bool o.2.2)]) [some ⟨false, .ints .u8 a0⟩] := by
  unfold spec.GetText.f at h
  obtain ⟨x1, e1, h⟩ := bind_some h
  rcases br_cases h with ⟨c1, h⟩ | ⟨c1, h⟩
  · rcases br_cases h with ⟨c2, h⟩ | ⟨c2, h⟩
    · obtain rfl := Option.some.inj h
      exact Den.Spec.of_walk tab mixed Try.func130 (by kernel_rfl) [.call [] [(0, true)] (.tup [.c (.int .i64 x1.1), .c (.int .i64 x1.2.1), .c (.bool x1.2.2)]) [some ⟨false, .ints .u8 a0⟩], .br false, .br false, .br false, .br true, .br true, .br true, .br true, .br true, .br true, .br true, .br true] [] [0] (nd (spec.GetNum.spec K a0 a1 _ e1) (nd (rfl : (0 : Nat) = 0) (nd (rfl : a0.length = a0.length) (nd (nf c1) (nd (nf c1) (nd (nf c1) (nd c2 (nd c2 (nd c2 (nd c2 (nd c2 (nd c2 (nd c2 (nd tt trivial)))))))))))))) (by kernel_rfl)
    · rcases br_cases h with ⟨c3, h⟩ | ⟨c3, h⟩
      · obtain rfl := Option.some.inj h
        exact Den.Spec.of_walk tab mixed Try.func130 (by kernel_rfl) [.call [] [(0, true)] (.tup [.c (.int .i64 x1.1), .c (.int .i64 x1.2.1), .c (.bool x1.2.2)]) [some ⟨false, .ints .u8 a0⟩], .br false, .br false, .br false, .br false, .br false, .br false, .br false, .br false, .br false, .br false, .br true] [] [0] (nd (spec.GetNum.spec K a0 a1 _ e1) (nd (rfl : (0 : Nat) = 0) (nd (rfl : a0.length = a0.length) (nd (nf c1) (nd (nf c1) (nd (nf c1) (nd c2 (nd c2 (nd c2 (nd c2 (nd c2 (nd c2 (nd c2 (nd c3 trivial)))))))))))))) (by kernel_rfl)
      · obtain ⟨p1, h⟩ := ck_some h
        obtain ⟨p2, h⟩ := ck_some h
        obtain ⟨p3, h⟩ := ck_some h
        obtain ⟨p4, h⟩ := ck_some h
        obtain rfl := Option.some.inj h
        exact Den.Spec.of_walk tab mixed Try.func130 (by kernel_rfl) [.call [] [(0, true)] (.tup [.c (.int .i64 x1.1), .c (.int .i64 x1.2.1), .c (.bool x1.2.2)]) [some ⟨false, .ints .u8 a0⟩], .br false, .br false, .br false, .br false, .br false, .br false, .br false, .br false, .br false, .br false, .br false, .br false] [] [0] (nd (spec.GetNum.spec K a0 a1 _ e1) (nd (rfl : (0 : Nat) = 0) (nd (rfl : a0.length = a0.length) (nd (nf c1) (nd (nf c1) (nd (nf c1) (nd c2 (nd c2 (nd c2 (nd c2 (nd c2 (nd c2 (nd c2 (nd c3 (nd p1 (nd p2 (nd p3 (nd p4 trivial)))))))))))))))))) (by kernel_rfl)
  · obtain rfl := Option.some.inj h
    exact Den.Spec.of_walk tab mixed Try.func130 (by kernel_rfl) [.call [] [(0, true)] (.tup [.c (.int .i64 x1.1), .c (.int .i64 x1.2.1), .c (.bool x1.2.2)]) [some ⟨false, .ints .u8 a0⟩], .br true, .br true, .br true, .br true, .br true, .br true, .br true, .br true, .br true, .br true, .br true] [] [0] (nd (spec.GetNum.spec K a0 a1 _ e1) (nd (rfl : (0 : Nat) = 0) (nd (rfl : a0.length = a0.length) (nd (nt c1) (nd (nt c1) (nd (nt c1) (nd tt (nd tt (nd tt (nd tt (nd tt (nd tt (nd tt (nd tt trivial)))))))))))))) (by kernel_rfl)
def spec.RecOk.f (a0 : Int) (a1 : Int) (a2 : ByteArray) : Option (Bool) :=
  Option.bind (spec.l1In.f a0 0 25) fun x1 => cond (x1) (Option.bind (spec.l1In.f a1 1 1000000000) fun x2 => cond (x2) (some (decide ((a2.size : Int) ≤ 400))) (some false)) (some false)
theorem spec.RecOk.spec (a0 : Int) (a1 : Int) (a2 : ByteArray) (o : Bool) (h : spec.RecOk.f a0 a1 a2 = some o) : Den.Spec Try.prog 148 [.v (.agg [.int .i64 a0, .int .i64 a1, .str a2])] [] (one (.bool o)) [] := by
  unfold spec.RecOk.f at h
  obtain ⟨x1, e1, h⟩ := bind_some h
  rcases br_cases h with ⟨c1, h⟩ | ⟨c1, h⟩
  · obtain ⟨x2, e2, h⟩ := bind_some h
    rcases br_cases h with ⟨c2, h⟩ | ⟨c2, h⟩
    · obtain rfl := Option.some.inj h
      exact Den.Spec.of_walk tab mixed Try.func148 (by kernel_rfl) [.call [] [] (one (.bool x1)) [], .br true, .br true, .br true, .call [] [] (one (.bool x2)) [], .br true, .br true, .br true, .br true, .br true, .br true] [] [] (nd (spec.l1In.spec a0 0 25 _ e1) (nd c1 (nd c1 (nd c1 (nd (spec.l1In.spec a1 1 1000000000 _ e2) (nd c1 (nd c2 (nd c2 (nd c2 (nd c2 (nd c2 trivial))))))))))) (by kernel_rfl)
    · obtain rfl := Option.some.inj h
      exact Den.Spec.of_walk tab mixed Try.func148 (by kernel_rfl) [.call [] [] (one (.bool x1)) [], .br true, .br true, .br true, .call [] [] (one (.bool x2)) [], .br true, .br false, .br false, .br false, .br false, .br false] [] [] (nd (spec.l1In.spec a0 0 25 _ e1) (nd c1 (nd c1 (nd c1 (nd (spec.l1In.spec a1 1 1000000000 _ e2) (nd c1 (nd c2 (nd c2 (nd c2 (nd c2 (nd c2 trivial))))))))))) (by kernel_rfl)
  · obtain rfl := Option.some.inj h
    exact Den.Spec.of_walk tab mixed Try.func148 (by kernel_rfl) [.call [] [] (one (.bool x1)) [], .br false, .br false, .br false, .br false, .br false, .br false, .br false, .br false, .br false] [] [] (nd (spec.l1In.spec a0 0 25 _ e1) (nd c1 (nd c1 (nd c1 (nd c1 (nd ff (nd ff (nd ff (nd ff (nd ff trivial)))))))))) (by kernel_rfl)
def spec.PutNum.l0.f : Nat → Int → (List Int) → Option (Int × (List Int))
  | 0, _, _ => none
  | k + 1, v30_0, v30_1 =>
    cond (decide (v30_0 > 127)) (ck ((v30_1 ++ [IntKind.u8.wrap (w64 ((v30_0.tmod 128) + 128))]).length * 1 ≤ 70368744177664) (spec.PutNum.l0.f k (w64 (v30_0.tdiv 128)) (v30_1 ++ [IntKind.u8.wrap (w64 ((v30_0.tmod 128) + 128))]))) (some (v30_0, v30_1))
def spec.PutNum.l0.s (v30_0 : Int) (v30_1 : List Int) : St := mkSt 25 [(0, one (.int .i64 v30_0)), (3, one (.sl 0 0 v30_1.length))] [some ⟨true, .ints .u8 v30_1⟩]
def spec.PutNum.l0.e0 (o : Int × (List Int)) : St := mkSt 25 [(0, one (.int .i64 o.1)), (3, one (.sl 0 0 o.2.length))] [some ⟨true, .ints .u8 o.2⟩]
def spec.PutNum.l0.x : (Int × (List Int)) → AExit × St := fun o => (.exit 0, spec.PutNum.l0.e0 o)
theorem spec.PutNum.l0.spec : ∀ (k : Nat) (v30_0 : Int) (v30_1 : List Int) (o : Int × (List Int)), spec.PutNum.l0.f k v30_0 v30_1 = some o → LoopSpec Try.prog 0 (loopN Try.f149 0) (spec.PutNum.l0.s v30_0 v30_1) (spec.PutNum.l0.x o).1 (spec.PutNum.l0.x o).2
  | 0, _, _, _, h => by cases h
  | k + 1, v30_0, v30_1, o, h => by
    unfold spec.PutNum.l0.f at h
    rcases br_cases h with ⟨c1, h⟩ | ⟨c1, h⟩
    · obtain ⟨p1, h⟩ := ck_some h
      exact .of_step tab mixed [.br true, .br true] [] [0, 3] [2] (s1 := spec.PutNum.l0.s (w64 (v30_0.tdiv 128)) (v30_1 ++ [IntKind.u8.wrap (w64 ((v30_0.tmod 128) + 128))])) (nd c1 (nd (by decide : (128 : Int) ≠ 0) (nd (rfl : (0 : Nat) = 0) (nd (rfl : v30_1.length = v30_1.length) (nd p1 (nd (rfl : (0 : Nat) = 0) (nd (rfl : 1 = 1) (nd (by decide : (128 : Int) ≠ 0) trivial)))))))) (by kernel_rfl) (spec.PutNum.l0.spec k (w64 (v30_0.tdiv 128)) (v30_1 ++ [IntKind.u8.wrap (w64 ((v30_0.tmod 128) + 128))]) _ h)
    · obtain rfl := Option.some.inj h
      exact .of_done tab mixed [.br false] [] [0, 3] [0] rfl (nd c1 trivial) (by kernel_rfl)
def spec.PutNum.f (K : Nat) (a0 : Int) : Option ((List Int)) :=
  Option.bind (spec.l1In.f a0 0 1000000000) fun x1 => cond (x1) (Option.bind (spec.PutNum.l0.f K a0 []) fun x2 => ck ((x2.2 ++ [IntKind.u8.wrap x2.1]).length * 1 ≤ 70368744177664) (some (x2.2 ++ [IntKind.u8.wrap x2.1]))) (some [])
theorem spec.PutNum.spec (K : Nat) (a0 : Int) (o : (List Int)) (h : spec.PutNum.f K a0 = some o) : Den.Spec Try.prog 149 [one (.int .i64 a0)] [] (one (.sl 0 0 o.length)) [some ⟨true, .ints .u8 o⟩] := by
  unfold spec.PutNum.f at h
  obtain ⟨x1, e1, h⟩ := bind_some h
  rcases br_cases h with ⟨c1, h⟩ | ⟨c1, h⟩
  · obtain ⟨x2, e2, h⟩ := bind_some h
    obtain ⟨p1, h⟩ := ck_some h
    obtain rfl := Option.some.inj h
    exact Den.Spec.of_walk tab mixed Try.func149 (by kernel_rfl) [.call [] [] (one (.bool x1)) [], .br false, .loop [] [0, 3] [0] (.exit 0) (spec.PutNum.l0.e0 x2), .br true] [] [2] (nd (spec.l1In.spec a0 0 1000000000 _ e1) (nd (nf c1) (nd (spec.PutNum.l0.spec K a0 [] _ e2) (nd (rfl : (0 : Nat) = 0) (nd (rfl : x2.2.length = x2.2.length) (nd p1 (nd (rfl : (0 : Nat) = 0) (nd (rfl : 1 = 1) trivial)))))))) (by kernel_rfl)
  · obtain rfl := Option.some.inj h
    exact Den.Spec.of_walk tab mixed Try.func149 (by kernel_rfl) [.call [] [] (one (.bool x1)) [], .br true] [] [0] (nd (spec.l1In.spec a0 0 1000000000 _ e1) (nd (nt c1) trivial)) (by kernel_rfl)
def spec.PutText.f (K : Nat) (a0 : ByteArray) : Option ((List Int)) :=
  cond (decide ((a0.size : Int) > 400)) (some []) (Option.bind (spec.PutNum.f K (a0.size : Int)) fun x1 => ck ((x1 ++ (bytesL a0)).length * 1 ≤ 70368744177664) (some (x1 ++ (bytesL a0))))
theorem spec.PutText.spec (K : Nat) (a0 : ByteArray) (o : (List Int)) (h : spec.PutText.f K a0 = some o) : Den.Spec Try.prog 150 [one (.str a0)] [] (one (.sl 0 0 o.length)) [some ⟨true, .ints .u8 o⟩] := by
  unfold spec.PutText.f at h
  rcases br_cases h with ⟨c1, h⟩ | ⟨c1, h⟩
  · obtain rfl := Option.some.inj h
    exact Den.Spec.of_walk tab mixed Try.func150 (by kernel_rfl) [.br true] [] [0] (nd c1 trivial) (by kernel_rfl)
  · obtain ⟨x1, e1, h⟩ := bind_some h
    obtain ⟨p1, h⟩ := ck_some h
    obtain rfl := Option.some.inj h
    exact Den.Spec.of_walk tab mixed Try.func150 (by kernel_rfl) [.br false, .call [] [] (one (.sl 0 0 x1.length)) [some ⟨true, .ints .u8 x1⟩], .br true] [] [2] (nd c1 (nd (spec.PutNum.spec K (a0.size : Int) _ e1) (nd (rfl : (0 : Nat) = 0) (nd (rfl : x1.length = x1.length) (nd p1 (nd (rfl : (0 : Nat) = 0) (nd (rfl : (bytesL a0).length = (bytesL a0).length) trivial))))))) (by kernel_rfl)
def spec.Sum.l0.f (a0 : List Int) : Nat → Int → Int → Option (Int)
  | 0, _, _ => none
  | k + 1, v34_0, v34_1 =>
    cond (decide (v34_1 < (a0.length : Int))) (ck (0 ≤ v34_1) (spec.Sum.l0.f a0 k ((w64 ((w64 (31 * v34_0)) + (w64 (a0.getD v34_1.toNat 0)))).tmod 1000003) (w64 (v34_1 + 1)))) (some v34_0)
def spec.Sum.l0.s (a0 : List Int) (v34_0 : Int) (v34_1 : Int) : St := mkSt 21 [(0, one (.sl 0 0 a0.length)), (3, one (.int .i64 v34_0)), (4, one (.int .i64 v34_1))] [some ⟨false, .ints .u8 a0⟩]
def spec.Sum.l0.e0 (a0 : List Int) (o : Int) : St := mkSt 21 [(3, one (.int .i64 o))] [some ⟨false, .ints .u8 a0⟩]
def spec.Sum.l0.x (a0 : List Int) : (Int) → AExit × St := fun o => (.exit 0, spec.Sum.l0.e0 a0 o)
theorem spec.Sum.l0.spec (a0 : List Int) : ∀ (k : Nat) (v34_0 : Int) (v34_1 : Int) (o : Int), spec.Sum.l0.f a0 k v34_0 v34_1 = some o → LoopSpec Try.prog 1 (loopN Try.f151 0) (spec.Sum.l0.s a0 v34_0 v34_1) (spec.Sum.l0.x a0 o).1 (spec.Sum.l0.x a0 o).2
  | 0, _, _, _, h => by cases h
  | k + 1, v34_0, v34_1, o, h => by
    unfold spec.Sum.l0.f at h
    rcases br_cases h with ⟨c1, h⟩ | ⟨c1, h⟩
    · obtain ⟨p1, h⟩ := ck_some h
      exact .of_step tab mixed [.br true] [] [0, 3, 4] [0] (s1 := spec.Sum.l0.s a0 ((w64 ((w64 (31 * v34_0)) + (w64 (a0.getD v34_1.toNat 0)))).tmod 1000003) (w64 (v34_1 + 1))) (nd c1 (nd p1 (nd (of_decide_eq_true c1) (nd (tn p1 (of_decide_eq_true c1)) (nd (by decide : (1000003 : Int) ≠ 0) trivial))))) (by kernel_rfl) (spec.Sum.l0.spec a0 k ((w64 ((w64 (31 * v34_0)) + (w64 (a0.getD v34_1.toNat 0)))).tmod 1000003) (w64 (v34_1 + 1)) _ h)
    · obtain rfl := Option.some.inj h
      exact .of_done tab mixed [.br false] [] [3] [0] rfl (nd c1 trivial) (by kernel_rfl)
def spec.Sum.f (K : Nat) (a0 : List Int) : Option (Int) :=
  Option.bind (spec.Sum.l0.f a0 K 7 0) fun x1 => some x1
theorem spec.Sum.spec (K : Nat) (a0 : List Int) (o : Int) (h : spec.Sum.f K a0 = some o) : Den.Spec Try.prog 151 [one (.sl 0 0 a0.length)] [some ⟨false, .ints .u8 a0⟩] (one (.int .i64 o)) [some ⟨false, .ints .u8 a0⟩] := by
  unfold spec.Sum.f at h
  obtain ⟨x1, e1, h⟩ := bind_some h
  obtain rfl := Option.some.inj h
  exact Den.Spec.of_walk tab mixed Try.func151 (by kernel_rfl) [.loop [] [0, 3, 4] [0] (.exit 0) (spec.Sum.l0.e0 a0 x1)] [] [0] (nd (spec.Sum.l0.spec a0 K 7 0 _ e1) trivial) (by kernel_rfl)
def spec.RecText.f (K : Nat) (a0 : Int) (a1 : Int) (a2 : ByteArray) : Option (ByteArray) :=
  Option.bind (spec.RecOk.f a0 a1 a2) fun x1 => cond (x1) (Option.bind (spec.PutNum.f K a0) fun x2 => Option.bind (spec.PutNum.f K a1) fun x3 => ck ((x2 ++ x3).length * 1 ≤ 70368744177664) (Option.bind (spec.PutText.f K a2) fun x4 => ck (((x2 ++ x3) ++ x4).length * 1 ≤ 70368744177664) (Option.bind (spec.Sum.f K ((x2 ++ x3) ++ x4)) fun x5 => Option.bind (spec.PutNum.f K x5) fun x6 => ck ((x6 ++ ((x2 ++ x3) ++ x4)).length * 1 ≤ 70368744177664) (some (ofBytes (x6 ++ ((x2 ++ x3) ++ x4))))))) (some noVal)
theorem spec.RecText.spec (K : Nat) (a0 : Int) (a1 : Int) (a2 : ByteArray) (o : ByteArray) (h : spec.RecText.f K a0 a1 a2 = some o) : Den.Spec Try.prog 131 [.v (.agg [.int .i64 a0, .int .i64 a1, .str a2])] [] (one (.str o)) [] := by
  unfold spec.RecText.f at h
  obtain ⟨x1, e1, h⟩ := bind_some h
  rcases br_cases h with ⟨c1, h⟩ | ⟨c1, h⟩
  · obtain ⟨x2, e2, h⟩ := bind_some h
    obtain ⟨x3, e3, h⟩ := bind_some h
    obtain ⟨p1, h⟩ := ck_some h
    obtain ⟨x4, e4, h⟩ := bind_some h
    obtain ⟨p2, h⟩ := ck_some h
    obtain ⟨x5, e5, h⟩ := bind_some h
    obtain ⟨x6, e6, h⟩ := bind_some h
    obtain ⟨p3, h⟩ := ck_some h
    obtain rfl := Option.some.inj h
    exact Den.Spec.of_walk tab mixed Try.func131 (by kernel_rfl) [.call [] [] (one (.bool x1)) [], .br false, .call [] [] (one (.sl 0 0 x2.length)) [some ⟨true, .ints .u8 x2⟩], .call [] [] (one (.sl 0 0 x3.length)) [some ⟨true, .ints .u8 x3⟩], .br true, .call [] [] (one (.sl 0 0 x4.length)) [some ⟨true, .ints .u8 x4⟩], .br true, .call [] [(0, true)] (one (.int .i64 x5)) [some ⟨false, .ints .u8 ((x2 ++ x3) ++ x4)⟩], .call [] [] (one (.sl 0 0 x6.length)) [some ⟨true, .ints .u8 x6⟩], .br true, .br true] [] [] (nd (spec.RecOk.spec a0 a1 a2 _ e1) (nd (nf c1) (nd (spec.PutNum.spec K a0 _ e2) (nd (spec.PutNum.spec K a1 _ e3) (nd (rfl : (0 : Nat) = 0) (nd (rfl : x2.length = x2.length) (nd p1 (nd (rfl : (0 : Nat) = 0) (nd (rfl : x3.length = x3.length) (nd (spec.PutText.spec K a2 _ e4) (nd (rfl : (0 : Nat) = 0) (nd (rfl : (x2 ++ x3).length = (x2 ++ x3).length) (nd p2 (nd (rfl : (0 : Nat) = 0) (nd (rfl : x4.length = x4.length) (nd (spec.Sum.spec K ((x2 ++ x3) ++ x4) _ e5) (nd (rfl : (0 : Nat) = 0) (nd (rfl : ((x2 ++ x3) ++ x4).length = ((x2 ++ x3) ++ x4).length) (nd (spec.PutNum.spec K x5 _ e6) (nd (rfl : (0 : Nat) = 0) (nd (rfl : x6.length = x6.length) (nd p3 (nd (rfl : (0 : Nat) = 0) (nd (rfl : ((x2 ++ x3) ++ x4).length = ((x2 ++ x3) ++ x4).length) (nd (rfl : (0 : Nat) = 0) (nd (rfl : (x6 ++ ((x2 ++ x3) ++ x4)).length = (x6 ++ ((x2 ++ x3) ++ x4)).length) trivial)))))))))))))))))))))))))) (by kernel_rfl)
  · obtain rfl := Option.some.inj h
    exact Den.Spec.of_walk tab mixed Try.func131 (by kernel_rfl) [.call [] [] (one (.bool x1)) [], .br true] [] [] (nd (spec.RecOk.spec a0 a1 a2 _ e1) (nd (nt c1) trivial)) (by kernel_rfl)
def spec.RecRead.f (K : Nat) (a0 : ByteArray) : Option (Int × Int × ByteArray × Bool) :=
  Option.bind (spec.GetNum.f K (bytesL a0) 0) fun x1 => cond (x1.2.2) (Option.bind (spec.GetNum.f K (bytesL a0) x1.2.1) fun x2 => cond (x2.2.2) (Option.bind (spec.GetNum.f K (bytesL a0) x2.2.1) fun x3 => cond (x3.2.2) (Option.bind (spec.GetText.f K (bytesL a0) x3.2.1) fun x4 => cond (x4.2.2) (Option.bind (spec.RecText.f K x2.1 x3.1 x4.1) fun x5 => cond (strEq x5 a0) (some (x2.1, x3.1, x4.1, true)) (some (0, 0, noVal, false))) (some (0, 0, noVal, false))) (some (0, 0, noVal, false))) (some (0, 0, noVal, false))) (some (0, 0, noVal, false))
theorem spec.RecRead.spec (K : Nat) (a0 : ByteArray) (o : Int × Int × ByteArray × Bool) (h : spec.RecRead.f K a0 = some o) : Den.Spec Try.prog 93 [one (.str a0)] [] (.tup [.agg [.int .i64 o.1, .int .i64 o.2.1, .str o.2.2.1], .c (.bool o.2.2.2)]) [] := by
  unfold spec.RecRead.f at h
  obtain ⟨x1, e1, h⟩ := bind_some h
  rcases br_cases h with ⟨c1, h⟩ | ⟨c1, h⟩
  · obtain ⟨x2, e2, h⟩ := bind_some h
    rcases br_cases h with ⟨c2, h⟩ | ⟨c2, h⟩
    · obtain ⟨x3, e3, h⟩ := bind_some h
      rcases br_cases h with ⟨c3, h⟩ | ⟨c3, h⟩
      · obtain ⟨x4, e4, h⟩ := bind_some h
        rcases br_cases h with ⟨c4, h⟩ | ⟨c4, h⟩
        · obtain ⟨x5, e5, h⟩ := bind_some h
          rcases br_cases h with ⟨c5, h⟩ | ⟨c5, h⟩
          · obtain rfl := Option.some.inj h
            exact Den.Spec.of_walk tab mixed Try.func93 (by kernel_rfl) [.call [] [(0, true)] (.tup [.c (.int .i64 x1.1), .c (.int .i64 x1.2.1), .c (.bool x1.2.2)]) [some ⟨false, .ints .u8 (bytesL a0)⟩], .br false, .call [] [(0, true)] (.tup [.c (.int .i64 x2.1), .c (.int .i64 x2.2.1), .c (.bool x2.2.2)]) [some ⟨false, .ints .u8 (bytesL a0)⟩], .br false, .call [] [(0, true)] (.tup [.c (.int .i64 x3.1), .c (.int .i64 x3.2.1), .c (.bool x3.2.2)]) [some ⟨false, .ints .u8 (bytesL a0)⟩], .br false, .call [] [(0, true)] (.tup [.c (.str x4.1), .c (.int .i64 x4.2.1), .c (.bool x4.2.2)]) [some ⟨false, .ints .u8 (bytesL a0)⟩], .br false, .br false, .call [] [] (one (.str x5)) [], .br false, .br false, .br false, .br false] [] [] (nd (spec.GetNum.spec K (bytesL a0) 0 _ e1) (nd (rfl : (0 : Nat) = 0) (nd (rfl : (bytesL a0).length = (bytesL a0).length) (nd (nf c1) (nd (spec.GetNum.spec K (bytesL a0) x1.2.1 _ e2) (nd (rfl : (0 : Nat) = 0) (nd (rfl : (bytesL a0).length = (bytesL a0).length) (nd (nf c2) (nd (spec.GetNum.spec K (bytesL a0) x2.2.1 _ e3) (nd (rfl : (0 : Nat) = 0) (nd (rfl : (bytesL a0).length = (bytesL a0).length) (nd (nf c3) (nd (spec.GetText.spec K (bytesL a0) x3.2.1 _ e4) (nd (rfl : (0 : Nat) = 0) (nd (rfl : (bytesL a0).length = (bytesL a0).length) (nd (nf c4) (nd (nf c4) (nd (spec.RecText.spec K x2.1 x3.1 x4.1 _ e5) (nd (nf c4) (nd (nf c4) (nd (nf c4) (nd (nf c5) trivial)))))))))))))))))))))) (by kernel_rfl)
          · obtain rfl := Option.some.inj h
            exact Den.Spec.of_walk tab mixed Try.func93 (by kernel_rfl) [.call [] [(0, true)] (.tup [.c (.int .i64 x1.1), .c (.int .i64 x1.2.1), .c (.bool x1.2.2)]) [some ⟨false, .ints .u8 (bytesL a0)⟩], .br false, .call [] [(0, true)] (.tup [.c (.int .i64 x2.1), .c (.int .i64 x2.2.1), .c (.bool x2.2.2)]) [some ⟨false, .ints .u8 (bytesL a0)⟩], .br false, .call [] [(0, true)] (.tup [.c (.int .i64 x3.1), .c (.int .i64 x3.2.1), .c (.bool x3.2.2)]) [some ⟨false, .ints .u8 (bytesL a0)⟩], .br false, .call [] [(0, true)] (.tup [.c (.str x4.1), .c (.int .i64 x4.2.1), .c (.bool x4.2.2)]) [some ⟨false, .ints .u8 (bytesL a0)⟩], .br false, .br false, .call [] [] (one (.str x5)) [], .br false, .br false, .br false, .br true] [] [] (nd (spec.GetNum.spec K (bytesL a0) 0 _ e1) (nd (rfl : (0 : Nat) = 0) (nd (rfl : (bytesL a0).length = (bytesL a0).length) (nd (nf c1) (nd (spec.GetNum.spec K (bytesL a0) x1.2.1 _ e2) (nd (rfl : (0 : Nat) = 0) (nd (rfl : (bytesL a0).length = (bytesL a0).length) (nd (nf c2) (nd (spec.GetNum.spec K (bytesL a0) x2.2.1 _ e3) (nd (rfl : (0 : Nat) = 0) (nd (rfl : (bytesL a0).length = (bytesL a0).length) (nd (nf c3) (nd (spec.GetText.spec K (bytesL a0) x3.2.1 _ e4) (nd (rfl : (0 : Nat) = 0) (nd (rfl : (bytesL a0).length = (bytesL a0).length) (nd (nf c4) (nd (nf c4) (nd (spec.RecText.spec K x2.1 x3.1 x4.1 _ e5) (nd (nf c4) (nd (nf c4) (nd (nf c4) (nd (nt c5) trivial)))))))))))))))))))))) (by kernel_rfl)
        · obtain rfl := Option.some.inj h
          exact Den.Spec.of_walk tab mixed Try.func93 (by kernel_rfl) [.call [] [(0, true)] (.tup [.c (.int .i64 x1.1), .c (.int .i64 x1.2.1), .c (.bool x1.2.2)]) [some ⟨false, .ints .u8 (bytesL a0)⟩], .br false, .call [] [(0, true)] (.tup [.c (.int .i64 x2.1), .c (.int .i64 x2.2.1), .c (.bool x2.2.2)]) [some ⟨false, .ints .u8 (bytesL a0)⟩], .br false, .call [] [(0, true)] (.tup [.c (.int .i64 x3.1), .c (.int .i64 x3.2.1), .c (.bool x3.2.2)]) [some ⟨false, .ints .u8 (bytesL a0)⟩], .br false, .call [] [(0, true)] (.tup [.c (.str x4.1), .c (.int .i64 x4.2.1), .c (.bool x4.2.2)]) [some ⟨false, .ints .u8 (bytesL a0)⟩], .br true, .br true, .br true, .br true, .br true, .br true] [] [] (nd (spec.GetNum.spec K (bytesL a0) 0 _ e1) (nd (rfl : (0 : Nat) = 0) (nd (rfl : (bytesL a0).length = (bytesL a0).length) (nd (nf c1) (nd (spec.GetNum.spec K (bytesL a0) x1.2.1 _ e2) (nd (rfl : (0 : Nat) = 0) (nd (rfl : (bytesL a0).length = (bytesL a0).length) (nd (nf c2) (nd (spec.GetNum.spec K (bytesL a0) x2.2.1 _ e3) (nd (rfl : (0 : Nat) = 0) (nd (rfl : (bytesL a0).length = (bytesL a0).length) (nd (nf c3) (nd (spec.GetText.spec K (bytesL a0) x3.2.1 _ e4) (nd (rfl : (0 : Nat) = 0) (nd (rfl : (bytesL a0).length = (bytesL a0).length) (nd (nt c4) (nd (nt c4) (nd (nt c4) (nd (nt c4) (nd (nt c4) (nd tt trivial))))))))))))))))))))) (by kernel_rfl)
      · obtain rfl := Option.some.inj h
        exact Den.Spec.of_walk tab mixed Try.func93 (by kernel_rfl) [.call [] [(0, true)] (.tup [.c (.int .i64 x1.1), .c (.int .i64 x1.2.1), .c (.bool x1.2.2)]) [some ⟨false, .ints .u8 (bytesL a0)⟩], .br false, .call [] [(0, true)] (.tup [.c (.int .i64 x2.1), .c (.int .i64 x2.2.1), .c (.bool x2.2.2)]) [some ⟨false, .ints .u8 (bytesL a0)⟩], .br false, .call [] [(0, true)] (.tup [.c (.int .i64 x3.1), .c (.int .i64 x3.2.1), .c (.bool x3.2.2)]) [some ⟨false, .ints .u8 (bytesL a0)⟩], .br true] [] [] (nd (spec.GetNum.spec K (bytesL a0) 0 _ e1) (nd (rfl : (0 : Nat) = 0) (nd (rfl : (bytesL a0).length = (bytesL a0).length) (nd (nf c1) (nd (spec.GetNum.spec K (bytesL a0) x1.2.1 _ e2) (nd (rfl : (0 : Nat) = 0) (nd (rfl : (bytesL a0).length = (bytesL a0).length) (nd (nf c2) (nd (spec.GetNum.spec K (bytesL a0) x2.2.1 _ e3) (nd (rfl : (0 : Nat) = 0) (nd (rfl : (bytesL a0).length = (bytesL a0).length) (nd (nt c3) trivial)))))))))))) (by kernel_rfl)
    · obtain rfl := Option.some.inj h
      exact Den.Spec.of_walk tab mixed Try.func93 (by kernel_rfl) [.call [] [(0, true)] (.tup [.c (.int .i64 x1.1), .c (.int .i64 x1.2.1), .c (.bool x1.2.2)]) [some ⟨false, .ints .u8 (bytesL a0)⟩], .br false, .call [] [(0, true)] (.tup [.c (.int .i64 x2.1), .c (.int .i64 x2.2.1), .c (.bool x2.2.2)]) [some ⟨false, .ints .u8 (bytesL a0)⟩], .br true] [] [] (nd (spec.GetNum.spec K (bytesL a0) 0 _ e1) (nd (rfl : (0 : Nat) = 0) (nd (rfl : (bytesL a0).length = (bytesL a0).length) (nd (nf c1) (nd (spec.GetNum.spec K (bytesL a0) x1.2.1 _ e2) (nd (rfl : (0 : Nat) = 0) (nd (rfl : (bytesL a0).length = (bytesL a0).length) (nd (nt c2) trivial)))))))) (by kernel_rfl)
  · obtain rfl := Option.some.inj h
    exact Den.Spec.of_walk tab mixed Try.func93 (by kernel_rfl) [.call [] [(0, true)] (.tup [.c (.int .i64 x1.1), .c (.int .i64 x1.2.1), .c (.bool x1.2.2)]) [some ⟨false, .ints .u8 (bytesL a0)⟩], .br true] [] [] (nd (spec.GetNum.spec K (bytesL a0) 0 _ e1) (nd (rfl : (0 : Nat) = 0) (nd (rfl : (bytesL a0).length = (bytesL a0).length) (nd (nt c1) trivial)))) (by kernel_rfl)
def spec.l1Max.f (a0 : Int) (a1 : Int) : Option (Int) :=
  cond (decide (a0 > a1)) (some a0) (some a1)
theorem spec.l1Max.spec (a0 : Int) (a1 : Int) (o : Int) (h : spec.l1Max.f a0 a1 = some o) : Den.Spec Try.prog 89 [one (.int .i64 a0), one (.int .i64 a1)] [] (one (.int .i64 o)) [] := by
  unfold spec.l1Max.f at h
  rcases br_cases h with ⟨c1, h⟩ | ⟨c1, h⟩
  · obtain rfl := Option.some.inj h
    exact Den.Spec.of_walk tab mixed Try.func89 (by kernel_rfl) [.br true] [] [] (nd c1 trivial) (by kernel_rfl)
  · obtain rfl := Option.some.inj h
    exact Den.Spec.of_walk tab mixed Try.func89 (by kernel_rfl) [.br false] [] [] (nd c1 trivial) (by kernel_rfl)
def spec.l1Min.f (a0 : Int) (a1 : Int) : Option (Int) :=
  cond (decide (a0 < a1)) (some a0) (some a1)
theorem spec.l1Min.spec (a0 : Int) (a1 : Int) (o : Int) (h : spec.l1Min.f a0 a1 = some o) : Den.Spec Try.prog 88 [one (.int .i64 a0), one (.int .i64 a1)] [] (one (.int .i64 o)) [] := by
  unfold spec.l1Min.f at h
  rcases br_cases h with ⟨c1, h⟩ | ⟨c1, h⟩
  · obtain rfl := Option.some.inj h
    exact Den.Spec.of_walk tab mixed Try.func88 (by kernel_rfl) [.br true] [] [] (nd c1 trivial) (by kernel_rfl)
  · obtain rfl := Option.some.inj h
    exact Den.Spec.of_walk tab mixed Try.func88 (by kernel_rfl) [.br false] [] [] (nd c1 trivial) (by kernel_rfl)
def spec.Mount.l1.f (K : Nat) (a0 : List ByteArray) (a1 : List Int) : Nat → (List Int) → Int → (List Int) → Int → Option ((List Int) × Int)
  | 0, _, _, _, _ => none
  | k + 1, v41_0, v41_1, v41_2, v41_3 =>
    cond (decide (v41_3 < (a0.length : Int))) (ck (0 ≤ v41_3) (Option.bind (spec.RecRead.f K (a0.getD v41_3.toNat noVal)) fun x1 => cond (x1.2.2.2) (ck (0 ≤ x1.1) (ck (x1.1 < (v41_2.length : Int)) (cond (decide (x1.2.1 > (v41_2.getD x1.1.toNat 0))) (ck (x1.1 < (v41_0.length : Int)) (Option.bind (spec.l1Max.f v41_1 (w64 (x1.2.1 + 1))) fun x2 => Option.bind (spec.l1Min.f x2 1000000000) fun x3 => spec.Mount.l1.f K a0 a1 k (v41_0.set x1.1.toNat v41_3) x3 (v41_2.set x1.1.toNat x1.2.1) (w64 (v41_3 + 1)))) (Option.bind (spec.l1Max.f v41_1 (w64 (x1.2.1 + 1))) fun x2 => Option.bind (spec.l1Min.f x2 1000000000) fun x3 => spec.Mount.l1.f K a0 a1 k v41_0 x3 v41_2 (w64 (v41_3 + 1)))))) (spec.Mount.l1.f K a0 a1 k v41_0 v41_1 v41_2 (w64 (v41_3 + 1))))) (some (v41_0, v41_1))
def spec.Mount.l1.s (K : Nat) (a0 : List ByteArray) (a1 : List Int) (v41_0 : List Int) (v41_1 : Int) (v41_2 : List Int) (v41_3 : Int) : St := mkSt 73 [(1, one (.ptr 2 0 0)), (2, one (.ptr 3 0 0)), (3, one (.ptr 7 0 0)), (4, one (.sl 11 0 v41_2.length)), (6, one (.int .i64 v41_3))] [some ⟨false, .strs a0⟩, some ⟨false, .ints .i64 a1⟩, some ⟨true, .cells [.sl 0 0 a0.length, .sl 1 0 a1.length]⟩, some ⟨true, .cells [.sl 4 0 0, .sl 5 0 0, .sl 6 0 0, .int .i64 0]⟩, some ⟨true, .strs []⟩, some ⟨true, .ints .i64 []⟩, some ⟨true, .ints .i64 []⟩, some ⟨true, .cells [.sl 8 0 (([] ++ a0).length), .sl 9 0 (([] ++ a1).length), .sl 10 0 v41_0.length, .int .i64 v41_1]⟩, some ⟨true, .strs ([] ++ a0)⟩, some ⟨true, .ints .i64 ([] ++ a1)⟩, some ⟨true, .ints .i64 v41_0⟩, some ⟨true, .ints .i64 v41_2⟩]
def spec.Mount.l1.e0 (K : Nat) (a0 : List ByteArray) (a1 : List Int) (o : (List Int) × Int) : St := mkSt 73 [(2, one (.ptr 2 0 0)), (3, one (.ptr 6 0 0))] [some ⟨false, .strs a0⟩, some ⟨false, .ints .i64 a1⟩, some ⟨true, .cells [.sl 3 0 0, .sl 4 0 0, .sl 5 0 0, .int .i64 0]⟩, some ⟨true, .strs []⟩, some ⟨true, .ints .i64 []⟩, some ⟨true, .ints .i64 []⟩, some ⟨true, .cells [.sl 7 0 (([] ++ a0).length), .sl 8 0 (([] ++ a1).length), .sl 9 0 o.1.length, .int .i64 o.2]⟩, some ⟨true, .strs ([] ++ a0)⟩, some ⟨true, .ints .i64 ([] ++ a1)⟩, some ⟨true, .ints .i64 o.1⟩]
def spec.Mount.l1.x (K : Nat) (a0 : List ByteArray) (a1 : List Int) : ((List Int) × Int) → AExit × St := fun o => (.exit 2, spec.Mount.l1.e0 K a0 a1 o)
theorem spec.Mount.l1.spec (K : Nat) (a0 : List ByteArray) (a1 : List Int) : ∀ (k : Nat) (v41_0 : List Int) (v41_1 : Int) (v41_2 : List Int) (v41_3 : Int) (o : (List Int) × Int), spec.Mount.l1.f K a0 a1 k v41_0 v41_1 v41_2 v41_3 = some o → LoopSpec Try.prog 2 (loopN Try.f42 1) (spec.Mount.l1.s K a0 a1 v41_0 v41_1 v41_2 v41_3) (spec.Mount.l1.x K a0 a1 o).1 (spec.Mount.l1.x K a0 a1 o).2
  | 0, _, _, _, _, _, h => by cases h
  | k + 1, v41_0, v41_1, v41_2, v41_3, o, h => by
    unfold spec.Mount.l1.f at h
    rcases br_cases h with ⟨c1, h⟩ | ⟨c1, h⟩
    · obtain ⟨p1, h⟩ := ck_some h
      obtain ⟨x1, e1, h⟩ := bind_some h
      rcases br_cases h with ⟨c2, h⟩ | ⟨c2, h⟩
      · obtain ⟨p2, h⟩ := ck_some h
        obtain ⟨p3, h⟩ := ck_some h
        rcases br_cases h with ⟨c3, h⟩ | ⟨c3, h⟩
        · obtain ⟨p4, h⟩ := ck_some h
          obtain ⟨x2, e2, h⟩ := bind_some h
          obtain ⟨x3, e3, h⟩ := bind_some h
          exact .of_step tab mixed [.br true, .call [] [] (.tup [.agg [.int .i64 x1.1, .int .i64 x1.2.1, .str x1.2.2.1], .c (.bool x1.2.2.2)]) [], .br false, .br true, .call [] [] (one (.int .i64 x2)) [], .call [] [] (one (.int .i64 x3)) []] [] [1, 2, 3, 4, 6] [0, 1, 2, 3, 4, 5, 6, 7, 8, 9, 10, 11] (s1 := mkSt 73 [(1, one (.ptr 2 0 0)), (2, one (.ptr 3 0 0)), (3, one (.ptr 7 0 0)), (4, one (.sl 11 0 v41_2.length)), (6, one (.int .i64 (w64 (v41_3 + 1))))] [some ⟨false, .strs a0⟩, some ⟨false, .ints .i64 a1⟩, some ⟨true, .cells [.sl 0 0 a0.length, .sl 1 0 a1.length]⟩, some ⟨true, .cells [.sl 4 0 0, .sl 5 0 0, .sl 6 0 0, .int .i64 0]⟩, some ⟨true, .strs []⟩, some ⟨true, .ints .i64 []⟩, some ⟨true, .ints .i64 []⟩, some ⟨true, .cells [.sl 8 0 (([] ++ a0).length), .sl 9 0 (([] ++ a1).length), .sl 10 0 v41_0.length, .int .i64 x3]⟩, some ⟨true, .strs ([] ++ a0)⟩, some ⟨true, .ints .i64 ([] ++ a1)⟩, some ⟨true, .ints .i64 (v41_0.set x1.1.toNat v41_3)⟩, some ⟨true, .ints .i64 (v41_2.set x1.1.toNat x1.2.1)⟩]) (nd c1 (nd p1 (nd (of_decide_eq_true c1) (nd (tn p1 (of_decide_eq_true c1)) (nd (spec.RecRead.spec K (a0.getD v41_3.toNat noVal) _ e1) (nd (nf c2) (nd p2 (nd p3 (nd (tn p2 p3) (nd c3 (nd p2 (nd p3 (nd (tn p2 p3) (nd p2 (nd p4 (nd (tn p2 p4) (nd (spec.l1Max.spec v41_1 (w64 (x1.2.1 + 1)) _ e2) (nd (spec.l1Min.spec x2 1000000000 _ e3) trivial)))))))))))))))))) (by kernel_rfl) (LoopSpec.eqs (spec.Mount.l1.spec K a0 a1 k (v41_0.set x1.1.toNat v41_3) x3 (v41_2.set x1.1.toNat x1.2.1) (w64 (v41_3 + 1)) _ h) (by simp only [spec.Mount.l1.s, List.length_set, overL_length] : spec.Mount.l1.s K a0 a1 (v41_0.set x1.1.toNat v41_3) x3 (v41_2.set x1.1.toNat x1.2.1) (w64 (v41_3 + 1)) = mkSt 73 [(1, one (.ptr 2 0 0)), (2, one (.ptr 3 0 0)), (3, one (.ptr 7 0 0)), (4, one (.sl 11 0 v41_2.length)), (6, one (.int .i64 (w64 (v41_3 + 1))))] [some ⟨false, .strs a0⟩, some ⟨false, .ints .i64 a1⟩, some ⟨true, .cells [.sl 0 0 a0.length, .sl 1 0 a1.length]⟩, some ⟨true, .cells [.sl 4 0 0, .sl 5 0 0, .sl 6 0 0, .int .i64 0]⟩, some ⟨true, .strs []⟩, some ⟨true, .ints .i64 []⟩, some ⟨true, .ints .i64 []⟩, some ⟨true, .cells [.sl 8 0 (([] ++ a0).length), .sl 9 0 (([] ++ a1).length), .sl 10 0 v41_0.length, .int .i64 x3]⟩, some ⟨true, .strs ([] ++ a0)⟩, some ⟨true, .ints .i64 ([] ++ a1)⟩, some ⟨true, .ints .i64 (v41_0.set x1.1.toNat v41_3)⟩, some ⟨true, .ints .i64 (v41_2.set x1.1.toNat x1.2.1)⟩]))
        · obtain ⟨x2, e2, h⟩ := bind_some h
          obtain ⟨x3, e3, h⟩ := bind_some h
          exact .of_step tab mixed [.br true, .call [] [] (.tup [.agg [.int .i64 x1.1, .int .i64 x1.2.1, .str x1.2.2.1], .c (.bool x1.2.2.2)]) [], .br false, .br false, .call [] [] (one (.int .i64 x2)) [], .call [] [] (one (.int .i64 x3)) []] [] [1, 2, 3, 4, 6] [0, 1, 2, 3, 4, 5, 6, 7, 8, 9, 10, 11] (s1 := spec.Mount.l1.s K a0 a1 v41_0 x3 v41_2 (w64 (v41_3 + 1))) (nd c1 (nd p1 (nd (of_decide_eq_true c1) (nd (tn p1 (of_decide_eq_true c1)) (nd (spec.RecRead.spec K (a0.getD v41_3.toNat noVal) _ e1) (nd (nf c2) (nd p2 (nd p3 (nd (tn p2 p3) (nd c3 (nd (spec.l1Max.spec v41_1 (w64 (x1.2.1 + 1)) _ e2) (nd (spec.l1Min.spec x2 1000000000 _ e3) trivial)))))))))))) (by kernel_rfl) (spec.Mount.l1.spec K a0 a1 k v41_0 x3 v41_2 (w64 (v41_3 + 1)) _ h)
      · exact .of_step tab mixed [.br true, .call [] [] (.tup [.agg [.int .i64 x1.1, .int .i64 x1.2.1, .str x1.2.2.1], .c (.bool x1.2.2.2)]) [], .br true] [] [1, 2, 3, 4, 6] [0, 1, 2, 3, 4, 5, 6, 7, 8, 9, 10, 11] (s1 := spec.Mount.l1.s K a0 a1 v41_0 v41_1 v41_2 (w64 (v41_3 + 1))) (nd c1 (nd p1 (nd (of_decide_eq_true c1) (nd (tn p1 (of_decide_eq_true c1)) (nd (spec.RecRead.spec K (a0.getD v41_3.toNat noVal) _ e1) (nd (nt c2) trivial)))))) (by kernel_rfl) (spec.Mount.l1.spec K a0 a1 k v41_0 v41_1 v41_2 (w64 (v41_3 + 1)) _ h)
    · obtain rfl := Option.some.inj h
      exact .of_done tab mixed [.br false] [] [2, 3] [0, 1, 3, 4, 5, 6, 7, 8, 9, 10] rfl (nd c1 trivial) (by kernel_rfl)
def spec.Mount.f (K : Nat) (a0 : List ByteArray) (a1 : List Int) : Option ((List ByteArray) × (List Int) × (List Int) × Int) :=
  Option.bind (spec.ChipOk.f K a0 a1) fun x1 => cond (x1) (Option.bind (spec.l2Copy.f a0 a1) fun x2 => ck ((26 * (8 : Int)) ≤ 70368744177664) (Option.bind (spec.Mount.l0.f a0 a1 K [] 0) fun x3 => Option.bind (spec.Mount.l1.f K a0 a1 K x3 1 (List.replicate 26 (0 : Int)) 0) fun x4 => some ([] ++ a0, [] ++ a1, x4.1, x4.2))) (some ([], [], [], 0))
theorem spec.Mount.spec (K : Nat) (a0 : List ByteArray) (a1 : List Int) (o : (List ByteArray) × (List Int) × (List Int) × Int) (h : spec.Mount.f K a0 a1 = some o) : Den.Spec Try.prog 42 [.v (.agg [.sl 0 0 a0.length, .sl 1 0 a1.length])] [some ⟨false, .strs a0⟩, some ⟨false, .ints .i64 a1⟩] (.v (.agg [.sl 2 0 o.1.length, .sl 3 0 o.2.1.length, .sl 4 0 o.2.2.1.length, .int .i64 o.2.2.2])) [some ⟨false, .strs a0⟩, some ⟨false, .ints .i64 a1⟩, some ⟨true, .strs o.1⟩, some ⟨true, .ints .i64 o.2.1⟩, some ⟨true, .ints .i64 o.2.2.1⟩] := by
  unfold spec.Mount.f at h
  obtain ⟨x1, e1, h⟩ := bind_some h
  rcases br_cases h with ⟨c1, h⟩ | ⟨c1, h⟩
  · obtain ⟨x2, e2, h⟩ := bind_some h
    obtain ⟨p1, h⟩ := ck_some h
    obtain ⟨x3, e3, h⟩ := bind_some h
    obtain ⟨x4, e4, h⟩ := bind_some h
    obtain rfl := Option.some.inj h
    exact Den.Spec.of_walk tab mixed Try.func42 (by kernel_rfl) [.call [(0, false), (1, false)] [] (one (.bool x1)) [some ⟨false, .strs a0⟩, some ⟨false, .ints .i64 a1⟩], .br false, .call [(0, false), (1, false)] [] (.v (.agg [.sl 2 0 (([] ++ a0).length), .sl 3 0 (([] ++ a1).length)])) [some ⟨false, .strs a0⟩, some ⟨false, .ints .i64 a1⟩, some ⟨true, .strs ([] ++ a0)⟩, some ⟨true, .ints .i64 ([] ++ a1)⟩], .loop [] [1, 2, 3, 4, 5] [0, 1, 2, 3, 4, 5, 6, 9, 7, 8, 13, 14] (.exit 0) (spec.Mount.l0.e0 a0 a1 x3), .loop [] [1, 2, 3, 4, 6] [0, 1, 2, 3, 4, 5, 6, 7, 8, 9, 10, 11] (.exit 2) (spec.Mount.l1.e0 K a0 a1 x4)] [] [0, 1, 7, 8, 9] (nd (spec.ChipOk.spec K a0 a1 _ e1) (nd (nf c1) (nd (spec.l2Copy.spec a0 a1 _ e2) (nd (by decide : (0 : Int) ≤ 26) (nd (rfl : (26 : Int) = (26 : Int)) (nd p1 (nd (spec.Mount.l0.spec a0 a1 K [] 0 _ e3) (nd (spec.Mount.l1.spec K a0 a1 K x3 1 (List.replicate 26 (0 : Int)) 0 _ e4) trivial)))))))) (by kernel_rfl)
  · obtain rfl := Option.some.inj h
    exact Den.Spec.of_walk tab mixed Try.func42 (by kernel_rfl) [.call [(0, false), (1, false)] [] (one (.bool x1)) [some ⟨false, .strs a0⟩, some ⟨false, .ints .i64 a1⟩], .br true] [] [0, 1, 7, 8, 9] (nd (spec.ChipOk.spec K a0 a1 _ e1) (nd (nt c1) trivial)) (by kernel_rfl)
def spec.l4Ints.l0.f (a0 : List Int) (a1 : List Int) : Nat → Int → Option (Unit ⊕ Unit)
  | 0, _ => none
  | k + 1, v44_0 =>
    cond (decide (v44_0 < (a0.length : Int))) (cond (decide (v44_0 < (a1.length : Int))) (ck (0 ≤ v44_0) (cond ((a0.getD v44_0.toNat 0) != (a1.getD v44_0.toNat 0)) (some (.inl ())) (spec.l4Ints.l0.f a0 a1 k (w64 (v44_0 + 1))))) (some (.inr (())))) (some (.inr (())))
def spec.l4Ints.l0.s (a0 : List Int) (a1 : List Int) (v44_0 : Int) : St := mkSt 32 [(0, one (.sl 0 0 a0.length)), (1, one (.sl 1 0 a1.length)), (5, one (.int .i64 v44_0))] [some ⟨false, .ints .i64 a0⟩, some ⟨false, .ints .i64 a1⟩]
def spec.l4Ints.l0.e0 (a0 : List Int) (a1 : List Int) (o : Unit) : St := mkSt 32 [(4, one (.bool false))] [some ⟨false, .ints .i64 a0⟩, some ⟨false, .ints .i64 a1⟩]
def spec.l4Ints.l0.e1 (a0 : List Int) (a1 : List Int) (o : Unit) : St := mkSt 32 [(0, one (.sl 0 0 a0.length)), (1, one (.sl 1 0 a1.length))] [some ⟨false, .ints .i64 a0⟩, some ⟨false, .ints .i64 a1⟩]
def spec.l4Ints.l0.x (a0 : List Int) (a1 : List Int) : (Unit ⊕ Unit) → AExit × St := Sum.elim (fun o => (.ret, spec.l4Ints.l0.e0 a0 a1 o)) (fun o => (.exit 0, spec.l4Ints.l0.e1 a0 a1 o))
theorem spec.l4Ints.l0.spec (a0 : List Int) (a1 : List Int) : ∀ (k : Nat) (v44_0 : Int) (o : Unit ⊕ Unit), spec.l4Ints.l0.f a0 a1 k v44_0 = some o → LoopSpec Try.prog 2 (loopN Try.f84 0) (spec.l4Ints.l0.s a0 a1 v44_0) (spec.l4Ints.l0.x a0 a1 o).1 (spec.l4Ints.l0.x a0 a1 o).2
  | 0, _, _, h => by cases h
  | k + 1, v44_0, o, h => by
    unfold spec.l4Ints.l0.f at h
    rcases br_cases h with ⟨c1, h⟩ | ⟨c1, h⟩
    · rcases br_cases h with ⟨c2, h⟩ | ⟨c2, h⟩
      · obtain ⟨p1, h⟩ := ck_some h
        rcases br_cases h with ⟨c3, h⟩ | ⟨c3, h⟩
        · obtain rfl := Option.some.inj h
          exact .of_done tab mixed [.br true, .br true, .br true, .br true, .br true, .br true, .br true] [] [4] [0, 1] rfl (nd c1 (nd c1 (nd c1 (nd c1 (nd c1 (nd c2 (nd p1 (nd (of_decide_eq_true c1) (nd (tn p1 (of_decide_eq_true c1)) (nd p1 (nd (of_decide_eq_true c2) (nd (tn p1 (of_decide_eq_true c2)) (nd c3 trivial))))))))))))) (by kernel_rfl)
        · exact .of_step tab mixed [.br true, .br true, .br true, .br true, .br true, .br true, .br false] [] [0, 1, 5] [0, 1] (s1 := spec.l4Ints.l0.s a0 a1 (w64 (v44_0 + 1))) (nd c1 (nd c1 (nd c1 (nd c1 (nd c1 (nd c2 (nd p1 (nd (of_decide_eq_true c1) (nd (tn p1 (of_decide_eq_true c1)) (nd p1 (nd (of_decide_eq_true c2) (nd (tn p1 (of_decide_eq_true c2)) (nd c3 trivial))))))))))))) (by kernel_rfl) (spec.l4Ints.l0.spec a0 a1 k (w64 (v44_0 + 1)) _ h)
      · obtain rfl := Option.some.inj h
        exact .of_done tab mixed [.br true, .br true, .br true, .br true, .br true, .br false] [] [0, 1] [0, 1] rfl (nd c1 (nd c1 (nd c1 (nd c1 (nd c1 (nd c2 trivial)))))) (by kernel_rfl)
    · obtain rfl := Option.some.inj h
      exact .of_done tab mixed [.br false, .br false, .br false, .br false, .br false, .br false] [] [0, 1] [0, 1] rfl (nd c1 (nd c1 (nd c1 (nd c1 (nd c1 (nd ff trivial)))))) (by kernel_rfl)
def spec.l4Ints.f (K : Nat) (a0 : List Int) (a1 : List Int) : Option (Bool) :=
  Option.bind (spec.l4Ints.l0.f a0 a1 K 0) fun x1 => (Sum.elim (fun x1 => some false) (fun x1 => some ((a0.length : Int) == (a1.length : Int)))) x1
theorem spec.l4Ints.spec (K : Nat) (a0 : List Int) (a1 : List Int) (o : Bool) (h : spec.l4Ints.f K a0 a1 = some o) : Den.Spec Try.prog 84 [one (.sl 0 0 a0.length), one (.sl 1 0 a1.length)] [some ⟨false, .ints .i64 a0⟩, some ⟨false, .ints .i64 a1⟩] (one (.bool o)) [some ⟨false, .ints .i64 a0⟩, some ⟨false, .ints .i64 a1⟩] := by
  unfold spec.l4Ints.f at h
  obtain ⟨x1, e1, h⟩ := bind_some h
  rcases x1 with x1 | x1
  · obtain rfl := Option.some.inj h
    exact Den.Spec.of_walk tab mixed Try.func84 (by kernel_rfl) [.loop [] [0, 1, 5] [0, 1] (.ret) (spec.l4Ints.l0.e0 a0 a1 x1)] [] [0, 1] (nd (spec.l4Ints.l0.spec a0 a1 K 0 _ e1) trivial) (by kernel_rfl)
  · obtain rfl := Option.some.inj h
    exact Den.Spec.of_walk tab mixed Try.func84 (by kernel_rfl) [.loop [] [0, 1, 5] [0, 1] (.exit 0) (spec.l4Ints.l0.e1 a0 a1 x1)] [] [0, 1] (nd (spec.l4Ints.l0.spec a0 a1 K 0 _ e1) trivial) (by kernel_rfl)
def spec.FtlOk.f (K : Nat) (a0 : List ByteArray) (a1 : List Int) (a2 : List Int) (a3 : Int) : Option (Bool) :=
  Option.bind (spec.Mount.f K a0 a1) fun x1 => Option.bind (spec.ChipOk.f K a0 a1) fun x2 => cond (x2) (Option.bind (spec.l4Ints.f K x1.2.2.1 a2) fun x3 => cond (x3) (some (x1.2.2.2 == a3)) (some false)) (some false)
theorem spec.FtlOk.spec (K : Nat) (a0 : List ByteArray) (a1 : List Int) (a2 : List Int) (a3 : Int) (o : Bool) (h : spec.FtlOk.f K a0 a1 a2 a3 = some o) : Den.Spec Try.prog 33 [.v (.agg [.sl 0 0 a0.length, .sl 1 0 a1.length, .sl 2 0 a2.length, .int .i64 a3])] [some ⟨false, .strs a0⟩, some ⟨false, .ints .i64 a1⟩, some ⟨false, .ints .i64 a2⟩] (one (.bool o)) [some ⟨false, .strs a0⟩, some ⟨false, .ints .i64 a1⟩, some ⟨false, .ints .i64 a2⟩] := by
  unfold spec.FtlOk.f at h
  obtain ⟨x1, e1, h⟩ := bind_some h
  obtain ⟨x2, e2, h⟩ := bind_some h
  rcases br_cases h with ⟨c1, h⟩ | ⟨c1, h⟩
  · obtain ⟨x3, e3, h⟩ := bind_some h
    rcases br_cases h with ⟨c2, h⟩ | ⟨c2, h⟩
    · obtain rfl := Option.some.inj h
      exact Den.Spec.of_walk tab mixed Try.func33 (by kernel_rfl) [.call [(0, false), (1, false)] [] (.v (.agg [.sl 2 0 x1.1.length, .sl 3 0 x1.2.1.length, .sl 4 0 x1.2.2.1.length, .int .i64 x1.2.2.2])) [some ⟨false, .strs a0⟩, some ⟨false, .ints .i64 a1⟩, some ⟨true, .strs x1.1⟩, some ⟨true, .ints .i64 x1.2.1⟩, some ⟨true, .ints .i64 x1.2.2.1⟩], .call [(0, false), (1, false)] [] (one (.bool x2)) [some ⟨false, .strs a0⟩, some ⟨false, .ints .i64 a1⟩], .br true, .br true, .br true, .br true, .br true, .call [] [(0, true), (1, true)] (one (.bool x3)) [some ⟨false, .ints .i64 x1.2.2.1⟩, some ⟨false, .ints .i64 a2⟩], .br true, .br true, .br true, .br true, .br true, .br true, .br true] [] [0, 1, 2] (nd (spec.Mount.spec K a0 a1 _ e1) (nd (spec.ChipOk.spec K a0 a1 _ e2) (nd c1 (nd c1 (nd c1 (nd c1 (nd c1 (nd (spec.l4Ints.spec K x1.2.2.1 a2 _ e3) (nd (rfl : (0 : Nat) = 0) (nd (rfl : x1.2.2.1.length = x1.2.2.1.length) (nd (rfl : (0 : Nat) = 0) (nd (rfl : a2.length = a2.length) (nd c1 (nd c2 (nd c2 (nd c2 (nd c2 (nd c2 (nd c2 trivial))))))))))))))))))) (by kernel_rfl)
    · obtain rfl := Option.some.inj h
      exact Den.Spec.of_walk tab mixed Try.func33 (by kernel_rfl) [.call [(0, false), (1, false)] [] (.v (.agg [.sl 2 0 x1.1.length, .sl 3 0 x1.2.1.length, .sl 4 0 x1.2.2.1.length, .int .i64 x1.2.2.2])) [some ⟨false, .strs a0⟩, some ⟨false, .ints .i64 a1⟩, some ⟨true, .strs x1.1⟩, some ⟨true, .ints .i64 x1.2.1⟩, some ⟨true, .ints .i64 x1.2.2.1⟩], .call [(0, false), (1, false)] [] (one (.bool x2)) [some ⟨false, .strs a0⟩, some ⟨false, .ints .i64 a1⟩], .br true, .br true, .br true, .br true, .br true, .call [] [(0, true), (1, true)] (one (.bool x3)) [some ⟨false, .ints .i64 x1.2.2.1⟩, some ⟨false, .ints .i64 a2⟩], .br true, .br false, .br false, .br false, .br false, .br false, .br false] [] [0, 1, 2] (nd (spec.Mount.spec K a0 a1 _ e1) (nd (spec.ChipOk.spec K a0 a1 _ e2) (nd c1 (nd c1 (nd c1 (nd c1 (nd c1 (nd (spec.l4Ints.spec K x1.2.2.1 a2 _ e3) (nd (rfl : (0 : Nat) = 0) (nd (rfl : x1.2.2.1.length = x1.2.2.1.length) (nd (rfl : (0 : Nat) = 0) (nd (rfl : a2.length = a2.length) (nd c1 (nd c2 (nd c2 (nd c2 (nd c2 (nd c2 (nd c2 trivial))))))))))))))))))) (by kernel_rfl)
  · obtain rfl := Option.some.inj h
    exact Den.Spec.of_walk tab mixed Try.func33 (by kernel_rfl) [.call [(0, false), (1, false)] [] (.v (.agg [.sl 2 0 x1.1.length, .sl 3 0 x1.2.1.length, .sl 4 0 x1.2.2.1.length, .int .i64 x1.2.2.2])) [some ⟨false, .strs a0⟩, some ⟨false, .ints .i64 a1⟩, some ⟨true, .strs x1.1⟩, some ⟨true, .ints .i64 x1.2.1⟩, some ⟨true, .ints .i64 x1.2.2.1⟩], .call [(0, false), (1, false)] [] (one (.bool x2)) [some ⟨false, .strs a0⟩, some ⟨false, .ints .i64 a1⟩], .br false, .br false, .br false, .br false, .br false, .br false, .br false, .br false, .br false, .br false, .br false, .br false] [] [0, 1, 2] (nd (spec.Mount.spec K a0 a1 _ e1) (nd (spec.ChipOk.spec K a0 a1 _ e2) (nd c1 (nd c1 (nd c1 (nd c1 (nd c1 (nd c1 (nd ff (nd ff (nd ff (nd ff (nd ff (nd ff trivial)))))))))))))) (by kernel_rfl)
def spec.l4Clear.l0.f (a0 : List ByteArray) (a1 : List Int) (a2 : Int) : Nat → Int → Int → Int → Option (Int × Int)
  | 0, _, _, _ => none
  | k + 1, v49_0, v49_1, v49_2 =>
    cond (decide (v49_2 < 6)) (ck (0 ≤ (w64 ((w64 (a2 * 6)) + v49_2))) (ck ((w64 ((w64 (a2 * 6)) + v49_2)) < (a0.length : Int)) (cond (strEq (a0.getD ((w64 ((w64 (a2 * 6)) + v49_2)).toNat) noVal) noVal) (spec.l4Clear.l0.f a0 a1 a2 k (w64 (v49_0 + 1)) (w64 (v49_1 + 1)) (w64 (v49_2 + 1))) (spec.l4Clear.l0.f a0 a1 a2 k v49_0 0 (w64 (v49_2 + 1)))))) (some (v49_0, v49_1))
def spec.l4Clear.l0.s (a0 : List ByteArray) (a1 : List Int) (a2 : Int) (v49_0 : Int) (v49_1 : Int) (v49_2 : Int) : St := mkSt 28 [(1, one (.int .i64 a2)), (2, one (.ptr 2 0 0)), (6, one (.int .i64 v49_0)), (7, one (.int .i64 v49_1)), (8, one (.int .i64 v49_2))] [some ⟨false, .strs a0⟩, some ⟨false, .ints .i64 a1⟩, some ⟨true, .cells [.sl 0 0 a0.length, .sl 1 0 a1.length]⟩]
def spec.l4Clear.l0.e0 (a0 : List ByteArray) (a1 : List Int) (a2 : Int) (o : Int × Int) : St := mkSt 28 [(6, one (.int .i64 o.1)), (7, one (.int .i64 o.2))] [some ⟨false, .strs a0⟩, some ⟨false, .ints .i64 a1⟩]
def spec.l4Clear.l0.x (a0 : List ByteArray) (a1 : List Int) (a2 : Int) : (Int × Int) → AExit × St := fun o => (.exit 0, spec.l4Clear.l0.e0 a0 a1 a2 o)
theorem spec.l4Clear.l0.spec (a0 : List ByteArray) (a1 : List Int) (a2 : Int) : ∀ (k : Nat) (v49_0 : Int) (v49_1 : Int) (v49_2 : Int) (o : Int × Int), spec.l4Clear.l0.f a0 a1 a2 k v49_0 v49_1 v49_2 = some o → LoopSpec Try.prog 2 (loopN Try.f103 0) (spec.l4Clear.l0.s a0 a1 a2 v49_0 v49_1 v49_2) (spec.l4Clear.l0.x a0 a1 a2 o).1 (spec.l4Clear.l0.x a0 a1 a2 o).2
  | 0, _, _, _, _, h => by cases h
  | k + 1, v49_0, v49_1, v49_2, o, h => by
    unfold spec.l4Clear.l0.f at h
    rcases br_cases h with ⟨c1, h⟩ | ⟨c1, h⟩
    · obtain ⟨p1, h⟩ := ck_some h
      obtain ⟨p2, h⟩ := ck_some h
      rcases br_cases h with ⟨c2, h⟩ | ⟨c2, h⟩
      · exact .of_step tab mixed [.br true, .br true] [] [1, 2, 6, 7, 8] [0, 1, 2] (s1 := spec.l4Clear.l0.s a0 a1 a2 (w64 (v49_0 + 1)) (w64 (v49_1 + 1)) (w64 (v49_2 + 1))) (nd c1 (nd p1 (nd p2 (nd (tn p1 p2) (nd c2 trivial))))) (by kernel_rfl) (spec.l4Clear.l0.spec a0 a1 a2 k (w64 (v49_0 + 1)) (w64 (v49_1 + 1)) (w64 (v49_2 + 1)) _ h)
      · exact .of_step tab mixed [.br true, .br false] [] [1, 2, 6, 7, 8] [0, 1, 2] (s1 := spec.l4Clear.l0.s a0 a1 a2 v49_0 0 (w64 (v49_2 + 1))) (nd c1 (nd p1 (nd p2 (nd (tn p1 p2) (nd c2 trivial))))) (by kernel_rfl) (spec.l4Clear.l0.spec a0 a1 a2 k v49_0 0 (w64 (v49_2 + 1)) _ h)
    · obtain rfl := Option.some.inj h
      exact .of_done tab mixed [.br false] [] [6, 7] [0, 1] rfl (nd c1 trivial) (by kernel_rfl)
def spec.l4Clear.f (K : Nat) (a0 : List ByteArray) (a1 : List Int) (a2 : Int) : Option (Int × Int) :=
  Option.bind (spec.l4Clear.l0.f a0 a1 a2 K 0 0 0) fun x1 => some (x1.1, x1.2)
theorem spec.l4Clear.spec (K : Nat) (a0 : List ByteArray) (a1 : List Int) (a2 : Int) (o : Int × Int) (h : spec.l4Clear.f K a0 a1 a2 = some o) : Den.Spec Try.prog 103 [.v (.agg [.sl 0 0 a0.length, .sl 1 0 a1.length]), one (.int .i64 a2)] [some ⟨false, .strs a0⟩, some ⟨false, .ints .i64 a1⟩] (.tup [.c (.int .i64 o.1), .c (.int .i64 o.2)]) [some ⟨false, .strs a0⟩, some ⟨false, .ints .i64 a1⟩] := by
  unfold spec.l4Clear.f at h
  obtain ⟨x1, e1, h⟩ := bind_some h
  obtain rfl := Option.some.inj h
  exact Den.Spec.of_walk tab mixed Try.func103 (by kernel_rfl) [.loop [] [1, 2, 6, 7, 8] [0, 1, 2] (.exit 0) (spec.l4Clear.l0.e0 a0 a1 a2 x1)] [] [0, 1] (nd (spec.l4Clear.l0.spec a0 a1 a2 K 0 0 0 _ e1) trivial) (by kernel_rfl)
def spec.l4Next.l0.f (K : Nat) (a0 : List ByteArray) (a1 : List Int) : Nat → Int → Int → Option (Int ⊕ Int)
  | 0, _, _ => none
  | k + 1, v51_0, v51_1 =>
    cond (decide (v51_1 < 10)) (Option.bind (spec.l4Clear.f K a0 a1 v51_1) fun x1 => cond (decide (x1.1 > 0)) (cond (decide (x1.1 < 6)) (cond (x1.2 == x1.1) (some (.inl (w64 ((w64 ((w64 (v51_1 * 6)) + 6)) - x1.1)))) (cond (x1.1 == 6) (cond (decide (v51_0 < 0)) (spec.l4Next.l0.f K a0 a1 k v51_1 (w64 (v51_1 + 1))) (ck (0 ≤ v51_1) (ck (v51_1 < (a1.length : Int)) (ck (v51_0 < (a1.length : Int)) (cond (decide ((a1.getD v51_1.toNat 0) < (a1.getD v51_0.toNat 0))) (spec.l4Next.l0.f K a0 a1 k v51_1 (w64 (v51_1 + 1))) (spec.l4Next.l0.f K a0 a1 k v51_0 (w64 (v51_1 + 1)))))))) (spec.l4Next.l0.f K a0 a1 k v51_0 (w64 (v51_1 + 1))))) (cond (x1.1 == 6) (cond (decide (v51_0 < 0)) (spec.l4Next.l0.f K a0 a1 k v51_1 (w64 (v51_1 + 1))) (ck (0 ≤ v51_1) (ck (v51_1 < (a1.length : Int)) (ck (v51_0 < (a1.length : Int)) (cond (decide ((a1.getD v51_1.toNat 0) < (a1.getD v51_0.toNat 0))) (spec.l4Next.l0.f K a0 a1 k v51_1 (w64 (v51_1 + 1))) (spec.l4Next.l0.f K a0 a1 k v51_0 (w64 (v51_1 + 1)))))))) (spec.l4Next.l0.f K a0 a1 k v51_0 (w64 (v51_1 + 1))))) (cond (x1.1 == 6) (cond (decide (v51_0 < 0)) (spec.l4Next.l0.f K a0 a1 k v51_1 (w64 (v51_1 + 1))) (ck (0 ≤ v51_1) (ck (v51_1 < (a1.length : Int)) (ck (v51_0 < (a1.length : Int)) (cond (decide ((a1.getD v51_1.toNat 0) < (a1.getD v51_0.toNat 0))) (spec.l4Next.l0.f K a0 a1 k v51_1 (w64 (v51_1 + 1))) (spec.l4Next.l0.f K a0 a1 k v51_0 (w64 (v51_1 + 1)))))))) (spec.l4Next.l0.f K a0 a1 k v51_0 (w64 (v51_1 + 1))))) (some (.inr (v51_0)))
def spec.l4Next.l0.s (K : Nat) (a0 : List ByteArray) (a1 : List Int) (v51_0 : Int) (v51_1 : Int) : St := mkSt 57 [(1, one (.ptr 2 0 0)), (3, one (.int .i64 v51_0)), (4, one (.int .i64 v51_1))] [some ⟨false, .strs a0⟩, some ⟨false, .ints .i64 a1⟩, some ⟨true, .cells [.sl 0 0 a0.length, .sl 1 0 a1.length]⟩]
def spec.l4Next.l0.e0 (K : Nat) (a0 : List ByteArray) (a1 : List Int) (o : Int) : St := mkSt 57 [(2, one (.int .i64 o))] [some ⟨false, .strs a0⟩, some ⟨false, .ints .i64 a1⟩]
def spec.l4Next.l0.e1 (K : Nat) (a0 : List ByteArray) (a1 : List Int) (o : Int) : St := mkSt 57 [(3, one (.int .i64 o))] [some ⟨false, .strs a0⟩, some ⟨false, .ints .i64 a1⟩]
def spec.l4Next.l0.x (K : Nat) (a0 : List ByteArray) (a1 : List Int) : (Int ⊕ Int) → AExit × St := Sum.elim (fun o => (.ret, spec.l4Next.l0.e0 K a0 a1 o)) (fun o => (.exit 0, spec.l4Next.l0.e1 K a0 a1 o))
theorem spec.l4Next.l0.spec (K : Nat) (a0 : List ByteArray) (a1 : List Int) : ∀ (k : Nat) (v51_0 : Int) (v51_1 : Int) (o : Int ⊕ Int), spec.l4Next.l0.f K a0 a1 k v51_0 v51_1 = some o → LoopSpec Try.prog 2 (loopN Try.f133 0) (spec.l4Next.l0.s K a0 a1 v51_0 v51_1) (spec.l4Next.l0.x K a0 a1 o).1 (spec.l4Next.l0.x K a0 a1 o).2
  | 0, _, _, _, h => by cases h
  | k + 1, v51_0, v51_1, o, h => by
    unfold spec.l4Next.l0.f at h
    rcases br_cases h with ⟨c1, h⟩ | ⟨c1, h⟩
    · obtain ⟨x1, e1, h⟩ := bind_some h
      rcases br_cases h with ⟨c2, h⟩ | ⟨c2, h⟩
      · rcases br_cases h with ⟨c3, h⟩ | ⟨c3, h⟩
        · rcases br_cases h with ⟨c4, h⟩ | ⟨c4, h⟩
          · obtain rfl := Option.some.inj h
            exact .of_done tab mixed [.br true, .call [(0, false), (1, false)] [] (.tup [.c (.int .i64 x1.1), .c (.int .i64 x1.2)]) [some ⟨false, .strs a0⟩, some ⟨false, .ints .i64 a1⟩], .br true, .br true, .br true, .br true, .br true, .br true, .br true, .br true] [] [2] [0, 1] rfl (nd c1 (nd (spec.l4Clear.spec K a0 a1 v51_1 _ e1) (nd c2 (nd c2 (nd c2 (nd c3 (nd c3 (nd c3 (nd c3 (nd c4 trivial)))))))))) (by kernel_rfl)
          · rcases br_cases h with ⟨c5, h⟩ | ⟨c5, h⟩
            · rcases br_cases h with ⟨c6, h⟩ | ⟨c6, h⟩
              · exact .of_step tab mixed [.br true, .call [(0, false), (1, false)] [] (.tup [.c (.int .i64 x1.1), .c (.int .i64 x1.2)]) [some ⟨false, .strs a0⟩, some ⟨false, .ints .i64 a1⟩], .br true, .br true, .br true, .br true, .br true, .br true, .br true, .br false, .br true, .br true, .br true, .br true, .br true, .br true, .br true, .br true, .br true, .br true, .br true, .br true, .br true, .br true, .br true, .br true, .br true, .br true] [] [1, 3, 4] [0, 1, 2] (s1 := spec.l4Next.l0.s K a0 a1 v51_1 (w64 (v51_1 + 1))) (nd c1 (nd (spec.l4Clear.spec K a0 a1 v51_1 _ e1) (nd c2 (nd c2 (nd c2 (nd c3 (nd c3 (nd c3 (nd c3 (nd c4 (nd c5 (nd c5 (nd c5 (nd c6 (nd c6 (nd c6 (nd c6 (nd c6 (nd c6 (nd c6 (nd c6 (nd c6 (nd c6 (nd c6 (nd c5 (nd c6 (nd c5 (nd tt trivial)))))))))))))))))))))))))))) (by kernel_rfl) (spec.l4Next.l0.spec K a0 a1 k v51_1 (w64 (v51_1 + 1)) _ h)
              · obtain ⟨p1, h⟩ := ck_some h
                obtain ⟨p2, h⟩ := ck_some h
                obtain ⟨p3, h⟩ := ck_some h
                rcases br_cases h with ⟨c7, h⟩ | ⟨c7, h⟩
                · exact .of_step tab mixed [.br true, .call [(0, false), (1, false)] [] (.tup [.c (.int .i64 x1.1), .c (.int .i64 x1.2)]) [some ⟨false, .strs a0⟩, some ⟨false, .ints .i64 a1⟩], .br true, .br true, .br true, .br true, .br true, .br true, .br true, .br false, .br true, .br true, .br true, .br false, .br false, .br false, .br false, .br false, .br false, .br false, .br false, .br false, .br false, .br false, .br true, .br false, .br true, .br true] [] [1, 3, 4] [0, 1, 2] (s1 := spec.l4Next.l0.s K a0 a1 v51_1 (w64 (v51_1 + 1))) (nd c1 (nd (spec.l4Clear.spec K a0 a1 v51_1 _ e1) (nd c2 (nd c2 (nd c2 (nd c3 (nd c3 (nd c3 (nd c3 (nd c4 (nd c5 (nd c5 (nd c5 (nd c6 (nd c6 (nd c6 (nd c6 (nd p1 (nd p2 (nd c6 (nd (tn p1 p2) (nd c6 (nd c6 (nd c6 (nd c6 (nd (Int.not_lt.1 (of_decide_eq_false c6)) (nd p3 (nd c6 (nd (tn (Int.not_lt.1 (of_decide_eq_false c6)) p3) (nd c6 (nd c5 (nd c6 (nd c5 (nd c7 trivial)))))))))))))))))))))))))))))))))) (by kernel_rfl) (spec.l4Next.l0.spec K a0 a1 k v51_1 (w64 (v51_1 + 1)) _ h)
                · exact .of_step tab mixed [.br true, .call [(0, false), (1, false)] [] (.tup [.c (.int .i64 x1.1), .c (.int .i64 x1.2)]) [some ⟨false, .strs a0⟩, some ⟨false, .ints .i64 a1⟩], .br true, .br true, .br true, .br true, .br true, .br true, .br true, .br false, .br true, .br true, .br true, .br false, .br false, .br false, .br false, .br false, .br false, .br false, .br false, .br false, .br false, .br false, .br true, .br false, .br true, .br false] [] [1, 3, 4] [0, 1, 2] (s1 := spec.l4Next.l0.s K a0 a1 v51_0 (w64 (v51_1 + 1))) (nd c1 (nd (spec.l4Clear.spec K a0 a1 v51_1 _ e1) (nd c2 (nd c2 (nd c2 (nd c3 (nd c3 (nd c3 (nd c3 (nd c4 (nd c5 (nd c5 (nd c5 (nd c6 (nd c6 (nd c6 (nd c6 (nd p1 (nd p2 (nd c6 (nd (tn p1 p2) (nd c6 (nd c6 (nd c6 (nd c6 (nd (Int.not_lt.1 (of_decide_eq_false c6)) (nd p3 (nd c6 (nd (tn (Int.not_lt.1 (of_decide_eq_false c6)) p3) (nd c6 (nd c5 (nd c6 (nd c5 (nd c7 trivial)))))))))))))))))))))))))))))))))) (by kernel_rfl) (spec.l4Next.l0.spec K a0 a1 k v51_0 (w64 (v51_1 + 1)) _ h)
            · exact .of_step tab mixed [.br true, .call [(0, false), (1, false)] [] (.tup [.c (.int .i64 x1.1), .c (.int .i64 x1.2)]) [some ⟨false, .strs a0⟩, some ⟨false, .ints .i64 a1⟩], .br true, .br true, .br true, .br true, .br true, .br true, .br true, .br false, .br false, .br false, .br false, .br false, .br false, .br false] [] [1, 3, 4] [0, 1, 2] (s1 := spec.l4Next.l0.s K a0 a1 v51_0 (w64 (v51_1 + 1))) (nd c1 (nd (spec.l4Clear.spec K a0 a1 v51_1 _ e1) (nd c2 (nd c2 (nd c2 (nd c3 (nd c3 (nd c3 (nd c3 (nd c4 (nd c5 (nd c5 (nd c5 (nd c5 (nd c5 (nd ff trivial)))))))))))))))) (by kernel_rfl) (spec.l4Next.l0.spec K a0 a1 k v51_0 (w64 (v51_1 + 1)) _ h)
        · rcases br_cases h with ⟨c4, h⟩ | ⟨c4, h⟩
          · rcases br_cases h with ⟨c5, h⟩ | ⟨c5, h⟩
            · exact .of_step tab mixed [.br true, .call [(0, false), (1, false)] [] (.tup [.c (.int .i64 x1.1), .c (.int .i64 x1.2)]) [some ⟨false, .strs a0⟩, some ⟨false, .ints .i64 a1⟩], .br true, .br true, .br true, .br false, .br false, .br false, .br false, .br false, .br true, .br true, .br true, .br true, .br true, .br true, .br true, .br true, .br true, .br true, .br true, .br true, .br true, .br true, .br true, .br true, .br true, .br true] [] [1, 3, 4] [0, 1, 2] (s1 := spec.l4Next.l0.s K a0 a1 v51_1 (w64 (v51_1 + 1))) (nd c1 (nd (spec.l4Clear.spec K a0 a1 v51_1 _ e1) (nd c2 (nd c2 (nd c2 (nd c3 (nd c3 (nd c3 (nd c3 (nd ff (nd c4 (nd c4 (nd c4 (nd c5 (nd c5 (nd c5 (nd c5 (nd c5 (nd c5 (nd c5 (nd c5 (nd c5 (nd c5 (nd c5 (nd c4 (nd c5 (nd c4 (nd tt trivial)))))))))))))))))))))))))))) (by kernel_rfl) (spec.l4Next.l0.spec K a0 a1 k v51_1 (w64 (v51_1 + 1)) _ h)
            · obtain ⟨p1, h⟩ := ck_some h
              obtain ⟨p2, h⟩ := ck_some h
              obtain ⟨p3, h⟩ := ck_some h
              rcases br_cases h with ⟨c6, h⟩ | ⟨c6, h⟩
              · exact .of_step tab mixed [.br true, .call [(0, false), (1, false)] [] (.tup [.c (.int .i64 x1.1), .c (.int .i64 x1.2)]) [some ⟨false, .strs a0⟩, some ⟨false, .ints .i64 a1⟩], .br true, .br true, .br true, .br false, .br false, .br false, .br false, .br false, .br true, .br true, .br true, .br false, .br false, .br false, .br false, .br false, .br false, .br false, .br false, .br false, .br false, .br false, .br true, .br false, .br true, .br true] [] [1, 3, 4] [0, 1, 2] (s1 := spec.l4Next.l0.s K a0 a1 v51_1 (w64 (v51_1 + 1))) (nd c1 (nd (spec.l4Clear.spec K a0 a1 v51_1 _ e1) (nd c2 (nd c2 (nd c2 (nd c3 (nd c3 (nd c3 (nd c3 (nd ff (nd c4 (nd c4 (nd c4 (nd c5 (nd c5 (nd c5 (nd c5 (nd p1 (nd p2 (nd c5 (nd (tn p1 p2) (nd c5 (nd c5 (nd c5 (nd c5 (nd (Int.not_lt.1 (of_decide_eq_false c5)) (nd p3 (nd c5 (nd (tn (Int.not_lt.1 (of_decide_eq_false c5)) p3) (nd c5 (nd c4 (nd c5 (nd c4 (nd c6 trivial)))))))))))))))))))))))))))))))))) (by kernel_rfl) (spec.l4Next.l0.spec K a0 a1 k v51_1 (w64 (v51_1 + 1)) _ h)
              · exact .of_step tab mixed [.br true, .call [(0, false), (1, false)] [] (.tup [.c (.int .i64 x1.1), .c (.int .i64 x1.2)]) [some ⟨false, .strs a0⟩, some ⟨false, .ints .i64 a1⟩], .br true, .br true, .br true, .br false, .br false, .br false, .br false, .br false, .br true, .br true, .br true, .br false, .br false, .br false, .br false, .br false, .br false, .br false, .br false, .br false, .br false, .br false, .br true, .br false, .br true, .br false] [] [1, 3, 4] [0, 1, 2] (s1 := spec.l4Next.l0.s K a0 a1 v51_0 (w64 (v51_1 + 1))) (nd c1 (nd (spec.l4Clear.spec K a0 a1 v51_1 _ e1) (nd c2 (nd c2 (nd c2 (nd c3 (nd c3 (nd c3 (nd c3 (nd ff (nd c4 (nd c4 (nd c4 (nd c5 (nd c5 (nd c5 (nd c5 (nd p1 (nd p2 (nd c5 (nd (tn p1 p2) (nd c5 (nd c5 (nd c5 (nd c5 (nd (Int.not_lt.1 (of_decide_eq_false c5)) (nd p3 (nd c5 (nd (tn (Int.not_lt.1 (of_decide_eq_false c5)) p3) (nd c5 (nd c4 (nd c5 (nd c4 (nd c6 trivial)))))))))))))))))))))))))))))))))) (by kernel_rfl) (spec.l4Next.l0.spec K a0 a1 k v51_0 (w64 (v51_1 + 1)) _ h)
          · exact .of_step tab mixed [.br true, .call [(0, false), (1, false)] [] (.tup [.c (.int .i64 x1.1), .c (.int .i64 x1.2)]) [some ⟨false, .strs a0⟩, some ⟨false, .ints .i64 a1⟩], .br true, .br true, .br true, .br false, .br false, .br false, .br false, .br false, .br false, .br false, .br false, .br false, .br false, .br false] [] [1, 3, 4] [0, 1, 2] (s1 := spec.l4Next.l0.s K a0 a1 v51_0 (w64 (v51_1 + 1))) (nd c1 (nd (spec.l4Clear.spec K a0 a1 v51_1 _ e1) (nd c2 (nd c2 (nd c2 (nd c3 (nd c3 (nd c3 (nd c3 (nd ff (nd c4 (nd c4 (nd c4 (nd c4 (nd c4 (nd ff trivial)))))))))))))))) (by kernel_rfl) (spec.l4Next.l0.spec K a0 a1 k v51_0 (w64 (v51_1 + 1)) _ h)
      · rcases br_cases h with ⟨c3, h⟩ | ⟨c3, h⟩
        · rcases br_cases h with ⟨c4, h⟩ | ⟨c4, h⟩
          · exact .of_step tab mixed [.br true, .call [(0, false), (1, false)] [] (.tup [.c (.int .i64 x1.1), .c (.int .i64 x1.2)]) [some ⟨false, .strs a0⟩, some ⟨false, .ints .i64 a1⟩], .br false, .br false, .br false, .br false, .br false, .br false, .br false, .br false, .br true, .br true, .br true, .br true, .br true, .br true, .br true, .br true, .br true, .br true, .br true, .br true, .br true, .br true, .br true, .br true, .br true, .br true] [] [1, 3, 4] [0, 1, 2] (s1 := spec.l4Next.l0.s K a0 a1 v51_1 (w64 (v51_1 + 1))) (nd c1 (nd (spec.l4Clear.spec K a0 a1 v51_1 _ e1) (nd c2 (nd c2 (nd c2 (nd ff (nd ff (nd ff (nd ff (nd ff (nd c3 (nd c3 (nd c3 (nd c4 (nd c4 (nd c4 (nd c4 (nd c4 (nd c4 (nd c4 (nd c4 (nd c4 (nd c4 (nd c4 (nd c3 (nd c4 (nd c3 (nd tt trivial)))))))))))))))))))))))))))) (by kernel_rfl) (spec.l4Next.l0.spec K a0 a1 k v51_1 (w64 (v51_1 + 1)) _ h)
          · obtain ⟨p1, h⟩ := ck_some h
            obtain ⟨p2, h⟩ := ck_some h
            obtain ⟨p3, h⟩ := ck_some h
            rcases br_cases h with ⟨c5, h⟩ | ⟨c5, h⟩
            · exact .of_step tab mixed [.br true, .call [(0, false), (1, false)] [] (.tup [.c (.int .i64 x1.1), .c (.int .i64 x1.2)]) [some ⟨false, .strs a0⟩, some ⟨false, .ints .i64 a1⟩], .br false, .br false, .br false, .br false, .br false, .br false, .br false, .br false, .br true, .br true, .br true, .br false, .br false, .br false, .br false, .br false, .br false, .br false, .br false, .br false, .br false, .br false, .br true, .br false, .br true, .br true] [] [1, 3, 4] [0, 1, 2] (s1 := spec.l4Next.l0.s K a0 a1 v51_1 (w64 (v51_1 + 1))) (nd c1 (nd (spec.l4Clear.spec K a0 a1 v51_1 _ e1) (nd c2 (nd c2 (nd c2 (nd ff (nd ff (nd ff (nd ff (nd ff (nd c3 (nd c3 (nd c3 (nd c4 (nd c4 (nd c4 (nd c4 (nd p1 (nd p2 (nd c4 (nd (tn p1 p2) (nd c4 (nd c4 (nd c4 (nd c4 (nd (Int.not_lt.1 (of_decide_eq_false c4)) (nd p3 (nd c4 (nd (tn (Int.not_lt.1 (of_decide_eq_false c4)) p3) (nd c4 (nd c3 (nd c4 (nd c3 (nd c5 trivial)))))))))))))))))))))))))))))))))) (by kernel_rfl) (spec.l4Next.l0.spec K a0 a1 k v51_1 (w64 (v51_1 + 1)) _ h)
            · exact .of_step tab mixed [.br true, .call [(0, false), (1, false)] [] (.tup [.c (.int .i64 x1.1), .c (.int .i64 x1.2)]) [some ⟨false, .strs a0⟩, some ⟨false, .ints .i64 a1⟩], .br false, .br false, .br false, .br false, .br false, .br false, .br false, .br false, .br true, .br true, .br true, .br false, .br false, .br false, .br false, .br false, .br false, .br false, .br false, .br false, .br false, .br false, .br true, .br false, .br true, .br false] [] [1, 3, 4] [0, 1, 2] (s1 := spec.l4Next.l0.s K a0 a1 v51_0 (w64 (v51_1 + 1))) (nd c1 (nd (spec.l4Clear.spec K a0 a1 v51_1 _ e1) (nd c2 (nd c2 (nd c2 (nd ff (nd ff (nd ff (nd ff (nd ff (nd c3 (nd c3 (nd c3 (nd c4 (nd c4 (nd c4 (nd c4 (nd p1 (nd p2 (nd c4 (nd (tn p1 p2) (nd c4 (nd c4 (nd c4 (nd c4 (nd (Int.not_lt.1 (of_decide_eq_false c4)) (nd p3 (nd c4 (nd (tn (Int.not_lt.1 (of_decide_eq_false c4)) p3) (nd c4 (nd c3 (nd c4 (nd c3 (nd c5 trivial)))))))))))))))))))))))))))))))))) (by kernel_rfl) (spec.l4Next.l0.spec K a0 a1 k v51_0 (w64 (v51_1 + 1)) _ h)
        · exact .of_step tab mixed [.br true, .call [(0, false), (1, false)] [] (.tup [.c (.int .i64 x1.1), .c (.int .i64 x1.2)]) [some ⟨false, .strs a0⟩, some ⟨false, .ints .i64 a1⟩], .br false, .br false, .br false, .br false, .br false, .br false, .br false, .br false, .br false, .br false, .br false, .br false, .br false, .br false] [] [1, 3, 4] [0, 1, 2] (s1 := spec.l4Next.l0.s K a0 a1 v51_0 (w64 (v51_1 + 1))) (nd c1 (nd (spec.l4Clear.spec K a0 a1 v51_1 _ e1) (nd c2 (nd c2 (nd c2 (nd ff (nd ff (nd ff (nd ff (nd ff (nd c3 (nd c3 (nd c3 (nd c3 (nd c3 (nd ff trivial)))))))))))))))) (by kernel_rfl) (spec.l4Next.l0.spec K a0 a1 k v51_0 (w64 (v51_1 + 1)) _ h)
    · obtain rfl := Option.some.inj h
      exact .of_done tab mixed [.br false] [] [3] [0, 1] rfl (nd c1 trivial) (by kernel_rfl)
def spec.l4Next.f (K : Nat) (a0 : List ByteArray) (a1 : List Int) : Option (Int) :=
  Option.bind (spec.l4Next.l0.f K a0 a1 K (-1) 0) fun x1 => (Sum.elim (fun x1 => some x1) (fun x1 => cond (decide (x1 < 0)) (some (-1)) (some (w64 (x1 * 6))))) x1
theorem spec.l4Next.spec (K : Nat) (a0 : List ByteArray) (a1 : List Int) (o : Int) (h : spec.l4Next.f K a0 a1 = some o) : Den.Spec Try.prog 133 [.v (.agg [.sl 0 0 a0.length, .sl 1 0 a1.length])] [some ⟨false, .strs a0⟩, some ⟨false, .ints .i64 a1⟩] (one (.int .i64 o)) [some ⟨false, .strs a0⟩, some ⟨false, .ints .i64 a1⟩] := by
  unfold spec.l4Next.f at h
  obtain ⟨x1, e1, h⟩ := bind_some h
  rcases x1 with x1 | x1
  · obtain rfl := Option.some.inj h
    exact Den.Spec.of_walk tab mixed Try.func133 (by kernel_rfl) [.loop [] [1, 3, 4] [0, 1, 2] (.ret) (spec.l4Next.l0.e0 K a0 a1 x1)] [] [0, 1] (nd (spec.l4Next.l0.spec K a0 a1 K (-1) 0 _ e1) trivial) (by kernel_rfl)
  · rcases br_cases h with ⟨c1, h⟩ | ⟨c1, h⟩
    · obtain rfl := Option.some.inj h
      exact Den.Spec.of_walk tab mixed Try.func133 (by kernel_rfl) [.loop [] [1, 3, 4] [0, 1, 2] (.exit 0) (spec.l4Next.l0.e1 K a0 a1 x1), .br true] [] [0, 1] (nd (spec.l4Next.l0.spec K a0 a1 K (-1) 0 _ e1) (nd c1 trivial)) (by kernel_rfl)
    · obtain rfl := Option.some.inj h
      exact Den.Spec.of_walk tab mixed Try.func133 (by kernel_rfl) [.loop [] [1, 3, 4] [0, 1, 2] (.exit 0) (spec.l4Next.l0.e1 K a0 a1 x1), .br false] [] [0, 1] (nd (spec.l4Next.l0.spec K a0 a1 K (-1) 0 _ e1) (nd c1 trivial)) (by kernel_rfl)
def spec.l5Open.f (K : Nat) (a0 : List ByteArray) (a1 : List Int) : Option (Int) :=
  Option.bind (spec.l4Next.f K a0 a1) fun x1 => cond (decide (x1 < 0)) (some (-1)) (cond ((x1.tmod 6) == 0) (some (-1)) (some (w64 (x1.tdiv 6))))
theorem spec.l5Open.spec (K : Nat) (a0 : List ByteArray) (a1 : List Int) (o : Int) (h : spec.l5Open.f K a0 a1 = some o) : Den.Spec Try.prog 102 [.v (.agg [.sl 0 0 a0.length, .sl 1 0 a1.length])] [some ⟨false, .strs a0⟩, some ⟨false, .ints .i64 a1⟩] (one (.int .i64 o)) [some ⟨false, .strs a0⟩, some ⟨false, .ints .i64 a1⟩] := by
  unfold spec.l5Open.f at h
  obtain ⟨x1, e1, h⟩ := bind_some h
  rcases br_cases h with ⟨c1, h⟩ | ⟨c1, h⟩
  · obtain rfl := Option.some.inj h
    exact Den.Spec.of_walk tab mixed Try.func102 (by kernel_rfl) [.call [(0, false), (1, false)] [] (one (.int .i64 x1)) [some ⟨false, .strs a0⟩, some ⟨false, .ints .i64 a1⟩], .br true, .br true, .br true, .br true, .br true] [] [0, 1] (nd (spec.l4Next.spec K a0 a1 _ e1) (nd c1 (nd c1 (nd c1 (nd c1 (nd tt trivial)))))) (by kernel_rfl)
  · rcases br_cases h with ⟨c2, h⟩ | ⟨c2, h⟩
    · obtain rfl := Option.some.inj h
      exact Den.Spec.of_walk tab mixed Try.func102 (by kernel_rfl) [.call [(0, false), (1, false)] [] (one (.int .i64 x1)) [some ⟨false, .strs a0⟩, some ⟨false, .ints .i64 a1⟩], .br false, .br false, .br false, .br false, .br true] [] [0, 1] (nd (spec.l4Next.spec K a0 a1 _ e1) (nd c1 (nd c1 (nd (by decide : (6 : Int) ≠ 0) (nd c1 (nd c1 (nd c2 trivial))))))) (by kernel_rfl)
    · obtain rfl := Option.some.inj h
      exact Den.Spec.of_walk tab mixed Try.func102 (by kernel_rfl) [.call [(0, false), (1, false)] [] (one (.int .i64 x1)) [some ⟨false, .strs a0⟩, some ⟨false, .ints .i64 a1⟩], .br false, .br false, .br false, .br false, .br false] [] [0, 1] (nd (spec.l4Next.spec K a0 a1 _ e1) (nd c1 (nd c1 (nd (by decide : (6 : Int) ≠ 0) (nd c1 (nd c1 (nd c2 (nd (by decide : (6 : Int) ≠ 0) trivial)))))))) (by kernel_rfl)
def spec.l4Lives.l1.f (a0 : List ByteArray) (a1 : List Int) (a2 : List Int) (a3 : Int) (a4 : Int) (v58_1 : Int) : Nat → (List Int) → Int → Option ((List Int))
  | 0, _, _ => none
  | k + 1, v60_0, v60_1 =>
    cond (decide (v60_1 < (a2.length : Int))) (ck (0 ≤ v60_1) (cond ((a2.getD v60_1.toNat 0) == (w64 ((w64 (a4 * 6)) + v58_1))) (ck ((v60_0 ++ [w64 ((w64 (a4 * 6)) + v58_1)]).length * 8 ≤ 70368744177664) (spec.l4Lives.l1.f a0 a1 a2 a3 a4 v58_1 k (v60_0 ++ [w64 ((w64 (a4 * 6)) + v58_1)]) (w64 (v60_1 + 1)))) (spec.l4Lives.l1.f a0 a1 a2 a3 a4 v58_1 k v60_0 (w64 (v60_1 + 1))))) (some v60_0)
def spec.l4Lives.l1.s (a0 : List ByteArray) (a1 : List Int) (a2 : List Int) (a3 : Int) (a4 : Int) (v58_1 : Int) (v60_0 : List Int) (v60_1 : Int) : St := mkSt 38 [(1, one (.int .i64 a4)), (2, one (.ptr 3 0 0)), (5, one (.sl 4 0 v60_0.length)), (6, one (.int .i64 v58_1)), (7, one (.int .i64 v60_1))] [some ⟨false, .strs a0⟩, some ⟨false, .ints .i64 a1⟩, some ⟨false, .ints .i64 a2⟩, some ⟨true, .cells [.sl 0 0 a0.length, .sl 1 0 a1.length, .sl 2 0 a2.length, .int .i64 a3]⟩, some ⟨true, .ints .i64 v60_0⟩]
def spec.l4Lives.l1.e0 (a0 : List ByteArray) (a1 : List Int) (a2 : List Int) (a3 : Int) (a4 : Int) (v58_1 : Int) (o : (List Int)) : St := mkSt 38 [(1, one (.int .i64 a4)), (2, one (.ptr 3 0 0)), (5, one (.sl 4 0 o.length)), (6, one (.int .i64 v58_1))] [some ⟨false, .strs a0⟩, some ⟨false, .ints .i64 a1⟩, some ⟨false, .ints .i64 a2⟩, some ⟨true, .cells [.sl 0 0 a0.length, .sl 1 0 a1.length, .sl 2 0 a2.length, .int .i64 a3]⟩, some ⟨true, .ints .i64 o⟩]
def spec.l4Lives.l1.x (a0 : List ByteArray) (a1 : List Int) (a2 : List Int) (a3 : Int) (a4 : Int) (v58_1 : Int) : ((List Int)) → AExit × St := fun o => (.exit 2, spec.l4Lives.l1.e0 a0 a1 a2 a3 a4 v58_1 o)
theorem spec.l4Lives.l1.spec (a0 : List ByteArray) (a1 : List Int) (a2 : List Int) (a3 : Int) (a4 : Int) (v58_1 : Int) : ∀ (k : Nat) (v60_0 : List Int) (v60_1 : Int) (o : (List Int)), spec.l4Lives.l1.f a0 a1 a2 a3 a4 v58_1 k v60_0 v60_1 = some o → LoopSpec Try.prog 3 (loopN Try.f99 1) (spec.l4Lives.l1.s a0 a1 a2 a3 a4 v58_1 v60_0 v60_1) (spec.l4Lives.l1.x a0 a1 a2 a3 a4 v58_1 o).1 (spec.l4Lives.l1.x a0 a1 a2 a3 a4 v58_1 o).2
  | 0, _, _, _, h => by cases h
  | k + 1, v60_0, v60_1, o, h => by
    unfold spec.l4Lives.l1.f at h
    rcases br_cases h with ⟨c1, h⟩ | ⟨c1, h⟩
    · obtain ⟨p1, h⟩ := ck_some h
      rcases br_cases h with ⟨c2, h⟩ | ⟨c2, h⟩
      · obtain ⟨p2, h⟩ := ck_some h
        exact .of_step tab mixed [.br true, .br true, .br true] [] [1, 2, 5, 6, 7] [0, 1, 2, 3, 6] (s1 := spec.l4Lives.l1.s a0 a1 a2 a3 a4 v58_1 (v60_0 ++ [w64 ((w64 (a4 * 6)) + v58_1)]) (w64 (v60_1 + 1))) (nd c1 (nd p1 (nd (of_decide_eq_true c1) (nd (tn p1 (of_decide_eq_true c1)) (nd c2 (nd (rfl : (0 : Nat) = 0) (nd (rfl : v60_0.length = v60_0.length) (nd p2 (nd (rfl : (0 : Nat) = 0) (nd (rfl : 1 = 1) trivial)))))))))) (by kernel_rfl) (spec.l4Lives.l1.spec a0 a1 a2 a3 a4 v58_1 k (v60_0 ++ [w64 ((w64 (a4 * 6)) + v58_1)]) (w64 (v60_1 + 1)) _ h)
      · exact .of_step tab mixed [.br true, .br false] [] [1, 2, 5, 6, 7] [0, 1, 2, 3, 4] (s1 := spec.l4Lives.l1.s a0 a1 a2 a3 a4 v58_1 v60_0 (w64 (v60_1 + 1))) (nd c1 (nd p1 (nd (of_decide_eq_true c1) (nd (tn p1 (of_decide_eq_true c1)) (nd c2 trivial))))) (by kernel_rfl) (spec.l4Lives.l1.spec a0 a1 a2 a3 a4 v58_1 k v60_0 (w64 (v60_1 + 1)) _ h)
    · obtain rfl := Option.some.inj h
      exact .of_done tab mixed [.br false] [] [1, 2, 5, 6] [0, 1, 2, 3, 4] rfl (nd c1 trivial) (by kernel_rfl)
def spec.l4Lives.l0.f (K : Nat) (a0 : List ByteArray) (a1 : List Int) (a2 : List Int) (a3 : Int) (a4 : Int) : Nat → (List Int) → Int → Option ((List Int))
  | 0, _, _ => none
  | k + 1, v58_0, v58_1 =>
    cond (decide (v58_1 < 6)) (Option.bind (spec.l4Lives.l1.f a0 a1 a2 a3 a4 v58_1 K v58_0 0) fun x1 => spec.l4Lives.l0.f K a0 a1 a2 a3 a4 k x1 (w64 (v58_1 + 1))) (some v58_0)
def spec.l4Lives.l0.s (K : Nat) (a0 : List ByteArray) (a1 : List Int) (a2 : List Int) (a3 : Int) (a4 : Int) (v58_0 : List Int) (v58_1 : Int) : St := mkSt 38 [(1, one (.int .i64 a4)), (2, one (.ptr 3 0 0)), (5, one (.sl 4 0 v58_0.length)), (6, one (.int .i64 v58_1))] [some ⟨false, .strs a0⟩, some ⟨false, .ints .i64 a1⟩, some ⟨false, .ints .i64 a2⟩, some ⟨true, .cells [.sl 0 0 a0.length, .sl 1 0 a1.length, .sl 2 0 a2.length, .int .i64 a3]⟩, some ⟨true, .ints .i64 v58_0⟩]
def spec.l4Lives.l0.e0 (K : Nat) (a0 : List ByteArray) (a1 : List Int) (a2 : List Int) (a3 : Int) (a4 : Int) (o : (List Int)) : St := mkSt 38 [(5, one (.sl 3 0 o.length))] [some ⟨false, .strs a0⟩, some ⟨false, .ints .i64 a1⟩, some ⟨false, .ints .i64 a2⟩, some ⟨true, .ints .i64 o⟩]
def spec.l4Lives.l0.x (K : Nat) (a0 : List ByteArray) (a1 : List Int) (a2 : List Int) (a3 : Int) (a4 : Int) : ((List Int)) → AExit × St := fun o => (.exit 0, spec.l4Lives.l0.e0 K a0 a1 a2 a3 a4 o)
theorem spec.l4Lives.l0.spec (K : Nat) (a0 : List ByteArray) (a1 : List Int) (a2 : List Int) (a3 : Int) (a4 : Int) : ∀ (k : Nat) (v58_0 : List Int) (v58_1 : Int) (o : (List Int)), spec.l4Lives.l0.f K a0 a1 a2 a3 a4 k v58_0 v58_1 = some o → LoopSpec Try.prog 3 (loopN Try.f99 0) (spec.l4Lives.l0.s K a0 a1 a2 a3 a4 v58_0 v58_1) (spec.l4Lives.l0.x K a0 a1 a2 a3 a4 o).1 (spec.l4Lives.l0.x K a0 a1 a2 a3 a4 o).2
  | 0, _, _, _, h => by cases h
  | k + 1, v58_0, v58_1, o, h => by
    unfold spec.l4Lives.l0.f at h
    rcases br_cases h with ⟨c1, h⟩ | ⟨c1, h⟩
    · obtain ⟨x1, e1, h⟩ := bind_some h
      exact .of_step tab mixed [.br true, .loop [] [1, 2, 5, 6, 7] [0, 1, 2, 3, 4] (.exit 2) (spec.l4Lives.l1.e0 a0 a1 a2 a3 a4 v58_1 x1)] [] [1, 2, 5, 6] [0, 1, 2, 3, 4] (s1 := spec.l4Lives.l0.s K a0 a1 a2 a3 a4 x1 (w64 (v58_1 + 1))) (nd c1 (nd (spec.l4Lives.l1.spec a0 a1 a2 a3 a4 v58_1 K v58_0 0 _ e1) trivial)) (by kernel_rfl) (spec.l4Lives.l0.spec K a0 a1 a2 a3 a4 k x1 (w64 (v58_1 + 1)) _ h)
    · obtain rfl := Option.some.inj h
      exact .of_done tab mixed [.br false] [] [5] [0, 1, 2, 4] rfl (nd c1 trivial) (by kernel_rfl)
def spec.l4Lives.f (K : Nat) (a0 : List ByteArray) (a1 : List Int) (a2 : List Int) (a3 : Int) (a4 : Int) : Option ((List Int)) :=
  Option.bind (spec.l4Lives.l0.f K a0 a1 a2 a3 a4 K [] 0) fun x1 => some x1
theorem spec.l4Lives.spec (K : Nat) (a0 : List ByteArray) (a1 : List Int) (a2 : List Int) (a3 : Int) (a4 : Int) (o : (List Int)) (h : spec.l4Lives.f K a0 a1 a2 a3 a4 = some o) : Den.Spec Try.prog 99 [.v (.agg [.sl 0 0 a0.length, .sl 1 0 a1.length, .sl 2 0 a2.length, .int .i64 a3]), one (.int .i64 a4)] [some ⟨false, .strs a0⟩, some ⟨false, .ints .i64 a1⟩, some ⟨false, .ints .i64 a2⟩] (one (.sl 3 0 o.length)) [some ⟨false, .strs a0⟩, some ⟨false, .ints .i64 a1⟩, some ⟨false, .ints .i64 a2⟩, some ⟨true, .ints .i64 o⟩] := by
  unfold spec.l4Lives.f at h
  obtain ⟨x1, e1, h⟩ := bind_some h
  obtain rfl := Option.some.inj h
  exact Den.Spec.of_walk tab mixed Try.func99 (by kernel_rfl) [.loop [] [1, 2, 5, 6] [0, 1, 2, 3, 4] (.exit 0) (spec.l4Lives.l0.e0 K a0 a1 a2 a3 a4 x1)] [] [0, 1, 2, 3] (nd (spec.l4Lives.l0.spec K a0 a1 a2 a3 a4 K [] 0 _ e1) trivial) (by kernel_rfl)
def spec.Worst.l0.f (K : Nat) (a0 : List ByteArray) (a1 : List Int) (a2 : List Int) (a3 : Int) : Nat → Int → Int → Int → Int → Option (Int × Int)
  | 0, _, _, _, _ => none
  | k + 1, v62_0, v62_1, v62_2, v62_3 =>
    cond (decide (v62_3 < 10)) (Option.bind (spec.l4Clear.f K a0 a1 v62_3) fun x1 => Option.bind (spec.l4Lives.f K a0 a1 a2 a3 v62_3) fun x2 => cond (x1.1 == 6) (spec.Worst.l0.f K a0 a1 a2 a3 k v62_0 v62_1 v62_2 (w64 (v62_3 + 1))) (cond (v62_3 == v62_2) (spec.Worst.l0.f K a0 a1 a2 a3 k v62_0 v62_1 v62_2 (w64 (v62_3 + 1))) (cond (decide (v62_0 < 0)) (spec.Worst.l0.f K a0 a1 a2 a3 k v62_3 (x2.length : Int) v62_2 (w64 (v62_3 + 1))) (cond (decide ((x2.length : Int) < v62_1)) (spec.Worst.l0.f K a0 a1 a2 a3 k v62_3 (x2.length : Int) v62_2 (w64 (v62_3 + 1))) (cond ((x2.length : Int) == v62_1) (ck (0 ≤ v62_3) (ck (v62_3 < (a1.length : Int)) (ck (v62_0 < (a1.length : Int)) (cond (decide ((a1.getD v62_3.toNat 0) < (a1.getD v62_0.toNat 0))) (spec.Worst.l0.f K a0 a1 a2 a3 k v62_3 (x2.length : Int) v62_2 (w64 (v62_3 + 1))) (spec.Worst.l0.f K a0 a1 a2 a3 k v62_0 v62_1 v62_2 (w64 (v62_3 + 1))))))) (spec.Worst.l0.f K a0 a1 a2 a3 k v62_0 v62_1 v62_2 (w64 (v62_3 + 1)))))))) (some (v62_0, v62_1))
def spec.Worst.l0.s (K : Nat) (a0 : List ByteArray) (a1 : List Int) (a2 : List Int) (a3 : Int) (v62_0 : Int) (v62_1 : Int) (v62_2 : Int) (v62_3 : Int) : St := mkSt 70 [(1, one (.ptr 3 0 0)), (3, one (.int .i64 v62_0)), (4, one (.int .i64 v62_1)), (5, one (.int .i64 v62_2)), (6, one (.int .i64 v62_3))] [some ⟨false, .strs a0⟩, some ⟨false, .ints .i64 a1⟩, some ⟨false, .ints .i64 a2⟩, some ⟨true, .cells [.sl 0 0 a0.length, .sl 1 0 a1.length, .sl 2 0 a2.length, .int .i64 a3]⟩]
def spec.Worst.l0.e0 (K : Nat) (a0 : List ByteArray) (a1 : List Int) (a2 : List Int) (a3 : Int) (o : Int × Int) : St := mkSt 70 [(3, one (.int .i64 o.1)), (4, one (.int .i64 o.2))] [some ⟨false, .strs a0⟩, some ⟨false, .ints .i64 a1⟩, some ⟨false, .ints .i64 a2⟩]
def spec.Worst.l0.x (K : Nat) (a0 : List ByteArray) (a1 : List Int) (a2 : List Int) (a3 : Int) : (Int × Int) → AExit × St := fun o => (.exit 0, spec.Worst.l0.e0 K a0 a1 a2 a3 o)
theorem spec.Worst.l0.spec (K : Nat) (a0 : List ByteArray) (a1 : List Int) (a2 : List Int) (a3 : Int) : ∀ (k : Nat) (v62_0 : Int) (v62_1 : Int) (v62_2 : Int) (v62_3 : Int) (o : Int × Int), spec.Worst.l0.f K a0 a1 a2 a3 k v62_0 v62_1 v62_2 v62_3 = some o → LoopSpec Try.prog 3 (loopN Try.f61 0) (spec.Worst.l0.s K a0 a1 a2 a3 v62_0 v62_1 v62_2 v62_3) (spec.Worst.l0.x K a0 a1 a2 a3 o).1 (spec.Worst.l0.x K a0 a1 a2 a3 o).2
  | 0, _, _, _, _, _, h => by cases h
  | k + 1, v62_0, v62_1, v62_2, v62_3, o, h => by
    unfold spec.Worst.l0.f at h
    rcases br_cases h with ⟨c1, h⟩ | ⟨c1, h⟩
    · obtain ⟨x1, e1, h⟩ := bind_some h
      obtain ⟨x2, e2, h⟩ := bind_some h
      rcases br_cases h with ⟨c2, h⟩ | ⟨c2, h⟩
      · exact .of_step tab mixed [.br true, .call [(0, false), (1, false)] [] (.tup [.c (.int .i64 x1.1), .c (.int .i64 x1.2)]) [some ⟨false, .strs a0⟩, some ⟨false, .ints .i64 a1⟩], .call [(0, false), (1, false), (2, false)] [] (one (.sl 3 0 x2.length)) [some ⟨false, .strs a0⟩, some ⟨false, .ints .i64 a1⟩, some ⟨false, .ints .i64 a2⟩, some ⟨true, .ints .i64 x2⟩], .br true, .br true, .br true, .br true, .br true] [] [1, 3, 4, 5, 6] [0, 1, 2, 3] (s1 := spec.Worst.l0.s K a0 a1 a2 a3 v62_0 v62_1 v62_2 (w64 (v62_3 + 1))) (nd c1 (nd (spec.l4Clear.spec K a0 a1 v62_3 _ e1) (nd (spec.l4Lives.spec K a0 a1 a2 a3 v62_3 _ e2) (nd c2 (nd c2 (nd c2 (nd c2 (nd tt trivial)))))))) (by kernel_rfl) (spec.Worst.l0.spec K a0 a1 a2 a3 k v62_0 v62_1 v62_2 (w64 (v62_3 + 1)) _ h)
      · rcases br_cases h with ⟨c3, h⟩ | ⟨c3, h⟩
        · exact .of_step tab mixed [.br true, .call [(0, false), (1, false)] [] (.tup [.c (.int .i64 x1.1), .c (.int .i64 x1.2)]) [some ⟨false, .strs a0⟩, some ⟨false, .ints .i64 a1⟩], .call [(0, false), (1, false), (2, false)] [] (one (.sl 3 0 x2.length)) [some ⟨false, .strs a0⟩, some ⟨false, .ints .i64 a1⟩, some ⟨false, .ints .i64 a2⟩, some ⟨true, .ints .i64 x2⟩], .br false, .br false, .br false, .br false, .br true] [] [1, 3, 4, 5, 6] [0, 1, 2, 3] (s1 := spec.Worst.l0.s K a0 a1 a2 a3 v62_0 v62_1 v62_2 (w64 (v62_3 + 1))) (nd c1 (nd (spec.l4Clear.spec K a0 a1 v62_3 _ e1) (nd (spec.l4Lives.spec K a0 a1 a2 a3 v62_3 _ e2) (nd c2 (nd c2 (nd c2 (nd c2 (nd c3 trivial)))))))) (by kernel_rfl) (spec.Worst.l0.spec K a0 a1 a2 a3 k v62_0 v62_1 v62_2 (w64 (v62_3 + 1)) _ h)
        · rcases br_cases h with ⟨c4, h⟩ | ⟨c4, h⟩
          · exact .of_step tab mixed [.br true, .call [(0, false), (1, false)] [] (.tup [.c (.int .i64 x1.1), .c (.int .i64 x1.2)]) [some ⟨false, .strs a0⟩, some ⟨false, .ints .i64 a1⟩], .call [(0, false), (1, false), (2, false)] [] (one (.sl 3 0 x2.length)) [some ⟨false, .strs a0⟩, some ⟨false, .ints .i64 a1⟩, some ⟨false, .ints .i64 a2⟩, some ⟨true, .ints .i64 x2⟩], .br false, .br false, .br false, .br false, .br false, .br true, .br true, .br true, .br true, .br true, .br true, .br true, .br true, .br true, .br true, .br true] [] [1, 3, 4, 5, 6] [0, 1, 2, 3] (s1 := spec.Worst.l0.s K a0 a1 a2 a3 v62_3 (x2.length : Int) v62_2 (w64 (v62_3 + 1))) (nd c1 (nd (spec.l4Clear.spec K a0 a1 v62_3 _ e1) (nd (spec.l4Lives.spec K a0 a1 a2 a3 v62_3 _ e2) (nd c2 (nd c2 (nd c2 (nd c2 (nd c3 (nd c4 (nd c4 (nd c4 (nd c4 (nd tt (nd tt (nd tt (nd tt (nd tt (nd tt (nd tt trivial))))))))))))))))))) (by kernel_rfl) (spec.Worst.l0.spec K a0 a1 a2 a3 k v62_3 (x2.length : Int) v62_2 (w64 (v62_3 + 1)) _ h)
          · rcases br_cases h with ⟨c5, h⟩ | ⟨c5, h⟩
            · exact .of_step tab mixed [.br true, .call [(0, false), (1, false)] [] (.tup [.c (.int .i64 x1.1), .c (.int .i64 x1.2)]) [some ⟨false, .strs a0⟩, some ⟨false, .ints .i64 a1⟩], .call [(0, false), (1, false), (2, false)] [] (one (.sl 3 0 x2.length)) [some ⟨false, .strs a0⟩, some ⟨false, .ints .i64 a1⟩, some ⟨false, .ints .i64 a2⟩, some ⟨true, .ints .i64 x2⟩], .br false, .br false, .br false, .br false, .br false, .br false, .br false, .br false, .br false, .br true, .br true, .br true, .br true, .br true, .br true, .br true] [] [1, 3, 4, 5, 6] [0, 1, 2, 3] (s1 := spec.Worst.l0.s K a0 a1 a2 a3 v62_3 (x2.length : Int) v62_2 (w64 (v62_3 + 1))) (nd c1 (nd (spec.l4Clear.spec K a0 a1 v62_3 _ e1) (nd (spec.l4Lives.spec K a0 a1 a2 a3 v62_3 _ e2) (nd c2 (nd c2 (nd c2 (nd c2 (nd c3 (nd c4 (nd c4 (nd c4 (nd c4 (nd c5 (nd c5 (nd c5 (nd c5 (nd c5 (nd c5 (nd tt trivial))))))))))))))))))) (by kernel_rfl) (spec.Worst.l0.spec K a0 a1 a2 a3 k v62_3 (x2.length : Int) v62_2 (w64 (v62_3 + 1)) _ h)
            · rcases br_cases h with ⟨c6, h⟩ | ⟨c6, h⟩
              · obtain ⟨p1, h⟩ := ck_some h
                obtain ⟨p2, h⟩ := ck_some h
                obtain ⟨p3, h⟩ := ck_some h
                rcases br_cases h with ⟨c7, h⟩ | ⟨c7, h⟩
                · exact .of_step tab mixed [.br true, .call [(0, false), (1, false)] [] (.tup [.c (.int .i64 x1.1), .c (.int .i64 x1.2)]) [some ⟨false, .strs a0⟩, some ⟨false, .ints .i64 a1⟩], .call [(0, false), (1, false), (2, false)] [] (one (.sl 3 0 x2.length)) [some ⟨false, .strs a0⟩, some ⟨false, .ints .i64 a1⟩, some ⟨false, .ints .i64 a2⟩, some ⟨true, .ints .i64 x2⟩], .br false, .br false, .br false, .br false, .br false, .br false, .br false, .br false, .br false, .br false, .br false, .br false, .br false, .br true, .br true, .br true, .br true, .br true, .br true, .br true, .br true, .br true, .br true, .br true, .br true, .br true, .br false, .br true, .br false, .br true] [] [1, 3, 4, 5, 6] [0, 1, 2, 3] (s1 := spec.Worst.l0.s K a0 a1 a2 a3 v62_3 (x2.length : Int) v62_2 (w64 (v62_3 + 1))) (nd c1 (nd (spec.l4Clear.spec K a0 a1 v62_3 _ e1) (nd (spec.l4Lives.spec K a0 a1 a2 a3 v62_3 _ e2) (nd c2 (nd c2 (nd c2 (nd c2 (nd c3 (nd c4 (nd c4 (nd c4 (nd c4 (nd c5 (nd c5 (nd c5 (nd c5 (nd c6 (nd c6 (nd c6 (nd c6 (nd c6 (nd p1 (nd p2 (nd c6 (nd (tn p1 p2) (nd c6 (nd c6 (nd c6 (nd c6 (nd c6 (nd (Int.not_lt.1 (of_decide_eq_false c4)) (nd p3 (nd c6 (nd (tn (Int.not_lt.1 (of_decide_eq_false c4)) p3) (nd c6 (nd c5 (nd c6 (nd c5 (nd c7 trivial))))))))))))))))))))))))))))))))))))))) (by kernel_rfl) (spec.Worst.l0.spec K a0 a1 a2 a3 k v62_3 (x2.length : Int) v62_2 (w64 (v62_3 + 1)) _ h)
                · exact .of_step tab mixed [.br true, .call [(0, false), (1, false)] [] (.tup [.c (.int .i64 x1.1), .c (.int .i64 x1.2)]) [some ⟨false, .strs a0⟩, some ⟨false, .ints .i64 a1⟩], .call [(0, false), (1, false), (2, false)] [] (one (.sl 3 0 x2.length)) [some ⟨false, .strs a0⟩, some ⟨false, .ints .i64 a1⟩, some ⟨false, .ints .i64 a2⟩, some ⟨true, .ints .i64 x2⟩], .br false, .br false, .br false, .br false, .br false, .br false, .br false, .br false, .br false, .br false, .br false, .br false, .br false, .br true, .br true, .br true, .br true, .br true, .br true, .br true, .br true, .br true, .br true, .br true, .br true, .br true, .br false, .br true, .br false, .br false] [] [1, 3, 4, 5, 6] [0, 1, 2, 3] (s1 := spec.Worst.l0.s K a0 a1 a2 a3 v62_0 v62_1 v62_2 (w64 (v62_3 + 1))) (nd c1 (nd (spec.l4Clear.spec K a0 a1 v62_3 _ e1) (nd (spec.l4Lives.spec K a0 a1 a2 a3 v62_3 _ e2) (nd c2 (nd c2 (nd c2 (nd c2 (nd c3 (nd c4 (nd c4 (nd c4 (nd c4 (nd c5 (nd c5 (nd c5 (nd c5 (nd c6 (nd c6 (nd c6 (nd c6 (nd c6 (nd p1 (nd p2 (nd c6 (nd (tn p1 p2) (nd c6 (nd c6 (nd c6 (nd c6 (nd c6 (nd (Int.not_lt.1 (of_decide_eq_false c4)) (nd p3 (nd c6 (nd (tn (Int.not_lt.1 (of_decide_eq_false c4)) p3) (nd c6 (nd c5 (nd c6 (nd c5 (nd c7 trivial))))))))))))))))))))))))))))))))))))))) (by kernel_rfl) (spec.Worst.l0.spec K a0 a1 a2 a3 k v62_0 v62_1 v62_2 (w64 (v62_3 + 1)) _ h)
              · exact .of_step tab mixed [.br true, .call [(0, false), (1, false)] [] (.tup [.c (.int .i64 x1.1), .c (.int .i64 x1.2)]) [some ⟨false, .strs a0⟩, some ⟨false, .ints .i64 a1⟩], .call [(0, false), (1, false), (2, false)] [] (one (.sl 3 0 x2.length)) [some ⟨false, .strs a0⟩, some ⟨false, .ints .i64 a1⟩, some ⟨false, .ints .i64 a2⟩, some ⟨true, .ints .i64 x2⟩], .br false, .br false, .br false, .br false, .br false, .br false, .br false, .br false, .br false, .br false, .br false, .br false, .br false, .br false, .br false, .br false, .br false, .br false, .br false, .br false, .br false, .br false, .br false, .br false, .br false, .br false, .br false, .br false, .br false, .br false] [] [1, 3, 4, 5, 6] [0, 1, 2, 3] (s1 := spec.Worst.l0.s K a0 a1 a2 a3 v62_0 v62_1 v62_2 (w64 (v62_3 + 1))) (nd c1 (nd (spec.l4Clear.spec K a0 a1 v62_3 _ e1) (nd (spec.l4Lives.spec K a0 a1 a2 a3 v62_3 _ e2) (nd c2 (nd c2 (nd c2 (nd c2 (nd c3 (nd c4 (nd c4 (nd c4 (nd c4 (nd c5 (nd c5 (nd c5 (nd c5 (nd c6 (nd c6 (nd c6 (nd c6 (nd c6 (nd c6 (nd c6 (nd c6 (nd c6 (nd c6 (nd c6 (nd c6 (nd c6 (nd c5 (nd c6 (nd c5 (nd ff trivial))))))))))))))))))))))))))))))))) (by kernel_rfl) (spec.Worst.l0.spec K a0 a1 a2 a3 k v62_0 v62_1 v62_2 (w64 (v62_3 + 1)) _ h)
    · obtain rfl := Option.some.inj h
      exact .of_done tab mixed [.br false] [] [3, 4] [0, 1, 2] rfl (nd c1 trivial) (by kernel_rfl)
def spec.Worst.f (K : Nat) (a0 : List ByteArray) (a1 : List Int) (a2 : List Int) (a3 : Int) : Option (Int) :=
  Option.bind (spec.FtlOk.f K a0 a1 a2 a3) fun x1 => cond (x1) (Option.bind (spec.l5Open.f K a0 a1) fun x2 => Option.bind (spec.Worst.l0.f K a0 a1 a2 a3 K (-1) 0 x2 0) fun x3 => cond (x3.2 == 6) (some (-1)) (some x3.1)) (some (-1))
theorem spec.Worst.spec (K : Nat) (a0 : List ByteArray) (a1 : List Int) (a2 : List Int) (a3 : Int) (o : Int) (h : spec.Worst.f K a0 a1 a2 a3 = some o) : Den.Spec Try.prog 61 [.v (.agg [.sl 0 0 a0.length, .sl 1 0 a1.length, .sl 2 0 a2.length, .int .i64 a3])] [some ⟨false, .strs a0⟩, some ⟨false, .ints .i64 a1⟩, some ⟨false, .ints .i64 a2⟩] (one (.int .i64 o)) [some ⟨false, .strs a0⟩, some ⟨false, .ints .i64 a1⟩, some ⟨false, .ints .i64 a2⟩] := by
  unfold spec.Worst.f at h
  obtain ⟨x1, e1, h⟩ := bind_some h
  rcases br_cases h with ⟨c1, h⟩ | ⟨c1, h⟩
  · obtain ⟨x2, e2, h⟩ := bind_some h
    obtain ⟨x3, e3, h⟩ := bind_some h
    rcases br_cases h with ⟨c2, h⟩ | ⟨c2, h⟩
    · obtain rfl := Option.some.inj h
      exact Den.Spec.of_walk tab mixed Try.func61 (by kernel_rfl) [.call [(0, false), (1, false), (2, false)] [] (one (.bool x1)) [some ⟨false, .strs a0⟩, some ⟨false, .ints .i64 a1⟩, some ⟨false, .ints .i64 a2⟩], .br false, .call [(0, false), (1, false)] [] (one (.int .i64 x2)) [some ⟨false, .strs a0⟩, some ⟨false, .ints .i64 a1⟩], .loop [] [1, 3, 4, 5, 6] [0, 1, 2, 3] (.exit 0) (spec.Worst.l0.e0 K a0 a1 a2 a3 x3), .br true] [] [0, 1, 2] (nd (spec.FtlOk.spec K a0 a1 a2 a3 _ e1) (nd (nf c1) (nd (spec.l5Open.spec K a0 a1 _ e2) (nd (spec.Worst.l0.spec K a0 a1 a2 a3 K (-1) 0 x2 0 _ e3) (nd c2 trivial))))) (by kernel_rfl)
    · obtain rfl := Option.some.inj h
      exact Den.Spec.of_walk tab mixed Try.func61 (by kernel_rfl) [.call [(0, false), (1, false), (2, false)] [] (one (.bool x1)) [some ⟨false, .strs a0⟩, some ⟨false, .ints .i64 a1⟩, some ⟨false, .ints .i64 a2⟩], .br false, .call [(0, false), (1, false)] [] (one (.int .i64 x2)) [some ⟨false, .strs a0⟩, some ⟨false, .ints .i64 a1⟩], .loop [] [1, 3, 4, 5, 6] [0, 1, 2, 3] (.exit 0) (spec.Worst.l0.e0 K a0 a1 a2 a3 x3), .br false] [] [0, 1, 2] (nd (spec.FtlOk.spec K a0 a1 a2 a3 _ e1) (nd (nf c1) (nd (spec.l5Open.spec K a0 a1 _ e2) (nd (spec.Worst.l0.spec K a0 a1 a2 a3 K (-1) 0 x2 0 _ e3) (nd c2 trivial))))) (by kernel_rfl)
  · obtain rfl := Option.some.inj h
    exact Den.Spec.of_walk tab mixed Try.func61 (by kernel_rfl) [.call [(0, false), (1, false), (2, false)] [] (one (.bool x1)) [some ⟨false, .strs a0⟩, some ⟨false, .ints .i64 a1⟩, some ⟨false, .ints .i64 a2⟩], .br true] [] [0, 1, 2] (nd (spec.FtlOk.spec K a0 a1 a2 a3 _ e1) (nd (nt c1) trivial)) (by kernel_rfl)
def impl.ChipOk_1.f (a0 : ByteArray) : Option (Unit) :=
  some ()
theorem impl.ChipOk_1.spec (a0 : ByteArray) (o : Unit) (h : impl.ChipOk_1.f a0 = some o) : Den.Spec Try.prog 123 [one (.str a0)] [] (one (.bool (decide ((a0.size : Int) > 800)))) [] := by
  unfold impl.ChipOk_1.f at h
  obtain rfl := Option.some.inj h
  exact Den.Spec.of_walk tab mixed Try.func123 (by kernel_rfl) [] [] [] trivial (by kernel_rfl)
def slices.IndexFunc_string_string.l0.f (a0 : List ByteArray) : Nat → Int → Option (Int ⊕ Unit)
  | 0, _ => none
  | k + 1, v66_0 =>
    cond (decide (v66_0 < (a0.length : Int))) (ck (0 ≤ v66_0) (Option.bind (impl.ChipOk_1.f (a0.getD v66_0.toNat noVal)) fun x1 => cond (decide (((a0.getD v66_0.toNat noVal).size : Int) > 800)) (some (.inl v66_0)) (slices.IndexFunc_string_string.l0.f a0 k (w64 (v66_0 + 1))))) (some (.inr (())))
def slices.IndexFunc_string_string.l0.s (a0 : List ByteArray) (v66_0 : Int) : St := mkSt 19 [(0, one (.sl 0 0 a0.length)), (1, one (.fn 123 [])), (7, one (.int .i64 (a0.length : Int))), (8, one (.int .i64 v66_0))] [some ⟨false, .strs a0⟩]
def slices.IndexFunc_string_string.l0.e0 (a0 : List ByteArray) (o : Int) : St := mkSt 19 [(4, one (.int .i64 o))] [some ⟨false, .strs a0⟩]
def slices.IndexFunc_string_string.l0.e1 (a0 : List ByteArray) (o : Unit) : St := mkSt 19 [] [some ⟨false, .strs a0⟩]
def slices.IndexFunc_string_string.l0.x (a0 : List ByteArray) : (Int ⊕ Unit) → AExit × St := Sum.elim (fun o => (.ret, slices.IndexFunc_string_string.l0.e0 a0 o)) (fun o => (.exit 0, slices.IndexFunc_string_string.l0.e1 a0 o))
theorem slices.IndexFunc_string_string.l0.spec (a0 : List ByteArray) : ∀ (k : Nat) (v66_0 : Int) (o : Int ⊕ Unit), slices.IndexFunc_string_string.l0.f a0 k v66_0 = some o → LoopSpec Try.prog 1 (loopN Try.f145 0) (slices.IndexFunc_string_string.l0.s a0 v66_0) (slices.IndexFunc_string_string.l0.x a0 o).1 (slices.IndexFunc_string_string.l0.x a0 o).2
  | 0, _, _, h => by cases h
  | k + 1, v66_0, o, h => by
    unfold slices.IndexFunc_string_string.l0.f at h
    rcases br_cases h with ⟨c1, h⟩ | ⟨c1, h⟩
    · obtain ⟨p1, h⟩ := ck_some h
      obtain ⟨x1, e1, h⟩ := bind_some h
      rcases br_cases h with ⟨c2, h⟩ | ⟨c2, h⟩
      · obtain rfl := Option.some.inj h
        exact .of_done tab mixed [.br true, .call [] [] (one (.bool (decide (((a0.getD v66_0.toNat noVal).size : Int) > 800)))) [], .br true] [] [4] [0] rfl (nd c1 (nd p1 (nd (of_decide_eq_true c1) (nd (tn p1 (of_decide_eq_true c1)) (nd (impl.ChipOk_1.spec (a0.getD v66_0.toNat noVal) _ e1) (nd c2 trivial)))))) (by kernel_rfl)
      · exact .of_step tab mixed [.br true, .call [] [] (one (.bool (decide (((a0.getD v66_0.toNat noVal).size : Int) > 800)))) [], .br false] [] [0, 1, 7, 8] [0] (s1 := slices.IndexFunc_string_string.l0.s a0 (w64 (v66_0 + 1))) (nd c1 (nd p1 (nd (of_decide_eq_true c1) (nd (tn p1 (of_decide_eq_true c1)) (nd (impl.ChipOk_1.spec (a0.getD v66_0.toNat noVal) _ e1) (nd c2 trivial)))))) (by kernel_rfl) (slices.IndexFunc_string_string.l0.spec a0 k (w64 (v66_0 + 1)) _ h)
    · obtain rfl := Option.some.inj h
      exact .of_done tab mixed [.br false] [] [] [0] rfl (nd c1 trivial) (by kernel_rfl)
def slices.IndexFunc_string_string.f (K : Nat) (a0 : List ByteArray) : Option (Int) :=
  Option.bind (slices.IndexFunc_string_string.l0.f a0 K 0) fun x1 => (Sum.elim (fun x1 => some x1) (fun x1 => some (-1))) x1
theorem slices.IndexFunc_string_string.spec (K : Nat) (a0 : List ByteArray) (o : Int) (h : slices.IndexFunc_string_string.f K a0 = some o) : Den.Spec Try.prog 145 [one (.sl 0 0 a0.length), one (.fn 123 [])] [some ⟨false, .strs a0⟩] (one (.int .i64 o)) [some ⟨false, .strs a0⟩] := by
  unfold slices.IndexFunc_string_string.f at h
  obtain ⟨x1, e1, h⟩ := bind_some h
  rcases x1 with x1 | x1
  · obtain rfl := Option.some.inj h
    exact Den.Spec.of_walk tab mixed Try.func145 (by kernel_rfl) [.loop [] [0, 1, 7, 8] [0] (.ret) (slices.IndexFunc_string_string.l0.e0 a0 x1)] [] [0] (nd (slices.IndexFunc_string_string.l0.spec a0 K 0 _ e1) trivial) (by kernel_rfl)
  · obtain rfl := Option.some.inj h
    exact Den.Spec.of_walk tab mixed Try.func145 (by kernel_rfl) [.loop [] [0, 1, 7, 8] [0] (.exit 0) (slices.IndexFunc_string_string.l0.e1 a0 x1)] [] [0] (nd (slices.IndexFunc_string_string.l0.spec a0 K 0 _ e1) trivial) (by kernel_rfl)
def slices.ContainsFunc_string_string.f (K : Nat) (a0 : List ByteArray) : Option (Bool) :=
  Option.bind (slices.IndexFunc_string_string.f K a0) fun x1 => some (decide (x1 ≥ 0))
theorem slices.ContainsFunc_string_string.spec (K : Nat) (a0 : List ByteArray) (o : Bool) (h : slices.ContainsFunc_string_string.f K a0 = some o) : Den.Spec Try.prog 122 [one (.sl 0 0 a0.length), one (.fn 123 [])] [some ⟨false, .strs a0⟩] (one (.bool o)) [some ⟨false, .strs a0⟩] := by
  unfold slices.ContainsFunc_string_string.f at h
  obtain ⟨x1, e1, h⟩ := bind_some h
  obtain rfl := Option.some.inj h
  exact Den.Spec.of_walk tab mixed Try.func122 (by kernel_rfl) [.call [] [(0, true)] (one (.int .i64 x1)) [some ⟨false, .strs a0⟩]] [] [0] (nd (slices.IndexFunc_string_string.spec K a0 _ e1) (nd (rfl : (0 : Nat) = 0) (nd (rfl : a0.length = a0.length) trivial))) (by kernel_rfl)
def impl.in_.f (a0 : Int) (a1 : Int) (a2 : Int) : Option (Bool) :=
  cond (decide (a0 ≥ a1)) (some (decide (a0 ≤ a2))) (some false)
theorem impl.in_.spec (a0 : Int) (a1 : Int) (a2 : Int) (o : Bool) (h : impl.in_.f a0 a1 a2 = some o) : Den.Spec Try.prog 96 [one (.int .i64 a0), one (.int .i64 a1), one (.int .i64 a2)] [] (one (.bool o)) [] := by
  unfold impl.in_.f at h
  rcases br_cases h with ⟨c1, h⟩ | ⟨c1, h⟩
  · obtain rfl := Option.some.inj h
    exact Den.Spec.of_walk tab mixed Try.func96 (by kernel_rfl) [.br true, .br true, .br true, .br true] [] [] (nd c1 (nd c1 (nd c1 (nd c1 trivial)))) (by kernel_rfl)
  · obtain rfl := Option.some.inj h
    exact Den.Spec.of_walk tab mixed Try.func96 (by kernel_rfl) [.br false, .br false, .br false, .br false] [] [] (nd c1 (nd c1 (nd c1 (nd c1 trivial)))) (by kernel_rfl)
def impl.ChipOk_2.f (a0 : Int) : Option (Bool) :=
  Option.bind (impl.in_.f a0 0 1000000000) fun x1 => some (!x1)
theorem impl.ChipOk_2.spec (a0 : Int) (o : Bool) (h : impl.ChipOk_2.f a0 = some o) : Den.Spec Try.prog 125 [one (.int .i64 a0)] [] (one (.bool o)) [] := by
  unfold impl.ChipOk_2.f at h
  obtain ⟨x1, e1, h⟩ := bind_some h
  obtain rfl := Option.some.inj h
  exact Den.Spec.of_walk tab mixed Try.func125 (by kernel_rfl) [.call [] [] (one (.bool x1)) []] [] [] (nd (impl.in_.spec a0 0 1000000000 _ e1) trivial) (by kernel_rfl)
def slices.IndexFunc_int_int.l0.f (a0 : List Int) : Nat → Int → Option (Int ⊕ Unit)
  | 0, _ => none
  | k + 1, v72_0 =>
    cond (decide (v72_0 < (a0.length : Int))) (ck (0 ≤ v72_0) (Option.bind (impl.ChipOk_2.f (a0.getD v72_0.toNat 0)) fun x1 => cond (x1) (some (.inl v72_0)) (slices.IndexFunc_int_int.l0.f a0 k (w64 (v72_0 + 1))))) (some (.inr (())))
def slices.IndexFunc_int_int.l0.s (a0 : List Int) (v72_0 : Int) : St := mkSt 19 [(0, one (.sl 0 0 a0.length)), (1, one (.fn 125 [])), (7, one (.int .i64 (a0.length : Int))), (8, one (.int .i64 v72_0))] [some ⟨false, .ints .i64 a0⟩]
def slices.IndexFunc_int_int.l0.e0 (a0 : List Int) (o : Int) : St := mkSt 19 [(4, one (.int .i64 o))] [some ⟨false, .ints .i64 a0⟩]
def slices.IndexFunc_int_int.l0.e1 (a0 : List Int) (o : Unit) : St := mkSt 19 [] [some ⟨false, .ints .i64 a0⟩]
def slices.IndexFunc_int_int.l0.x (a0 : List Int) : (Int ⊕ Unit) → AExit × St := Sum.elim (fun o => (.ret, slices.IndexFunc_int_int.l0.e0 a0 o)) (fun o => (.exit 0, slices.IndexFunc_int_int.l0.e1 a0 o))
theorem slices.IndexFunc_int_int.l0.spec (a0 : List Int) : ∀ (k : Nat) (v72_0 : Int) (o : Int ⊕ Unit), slices.IndexFunc_int_int.l0.f a0 k v72_0 = some o → LoopSpec Try.prog 1 (loopN Try.f146 0) (slices.IndexFunc_int_int.l0.s a0 v72_0) (slices.IndexFunc_int_int.l0.x a0 o).1 (slices.IndexFunc_int_int.l0.x a0 o).2
  | 0, _, _, h => by cases h
  | k + 1, v72_0, o, h => by
    unfold slices.IndexFunc_int_int.l0.f at h
    rcases br_cases h with ⟨c1, h⟩ | ⟨c1, h⟩
    · obtain ⟨p1, h⟩ := ck_some h
      obtain ⟨x1, e1, h⟩ := bind_some h
      rcases br_cases h with ⟨c2, h⟩ | ⟨c2, h⟩
      · obtain rfl := Option.some.inj h
        exact .of_done tab mixed [.br true, .call [] [] (one (.bool x1)) [], .br true] [] [4] [0] rfl (nd c1 (nd p1 (nd (of_decide_eq_true c1) (nd (tn p1 (of_decide_eq_true c1)) (nd (impl.ChipOk_2.spec (a0.getD v72_0.toNat 0) _ e1) (nd c2 trivial)))))) (by kernel_rfl)
      · exact .of_step tab mixed [.br true, .call [] [] (one (.bool x1)) [], .br false] [] [0, 1, 7, 8] [0] (s1 := slices.IndexFunc_int_int.l0.s a0 (w64 (v72_0 + 1))) (nd c1 (nd p1 (nd (of_decide_eq_true c1) (nd (tn p1 (of_decide_eq_true c1)) (nd (impl.ChipOk_2.spec (a0.getD v72_0.toNat 0) _ e1) (nd c2 trivial)))))) (by kernel_rfl) (slices.IndexFunc_int_int.l0.spec a0 k (w64 (v72_0 + 1)) _ h)
    · obtain rfl := Option.some.inj h
      exact .of_done tab mixed [.br false] [] [] [0] rfl (nd c1 trivial) (by kernel_rfl)
def slices.IndexFunc_int_int.f (K : Nat) (a0 : List Int) : Option (Int) :=
  Option.bind (slices.IndexFunc_int_int.l0.f a0 K 0) fun x1 => (Sum.elim (fun x1 => some x1) (fun x1 => some (-1))) x1
theorem slices.IndexFunc_int_int.spec (K : Nat) (a0 : List Int) (o : Int) (h : slices.IndexFunc_int_int.f K a0 = some o) : Den.Spec Try.prog 146 [one (.sl 0 0 a0.length), one (.fn 125 [])] [some ⟨false, .ints .i64 a0⟩] (one (.int .i64 o)) [some ⟨false, .ints .i64 a0⟩] := by
  unfold slices.IndexFunc_int_int.f at h
  obtain ⟨x1, e1, h⟩ := bind_some h
  rcases x1 with x1 | x1
  · obtain rfl := Option.some.inj h
    exact Den.Spec.of_walk tab mixed Try.func146 (by kernel_rfl) [.loop [] [0, 1, 7, 8] [0] (.ret) (slices.IndexFunc_int_int.l0.e0 a0 x1)] [] [0] (nd (slices.IndexFunc_int_int.l0.spec a0 K 0 _ e1) trivial) (by kernel_rfl)
  · obtain rfl := Option.some.inj h
    exact Den.Spec.of_walk tab mixed Try.func146 (by kernel_rfl) [.loop [] [0, 1, 7, 8] [0] (.exit 0) (slices.IndexFunc_int_int.l0.e1 a0 x1)] [] [0] (nd (slices.IndexFunc_int_int.l0.spec a0 K 0 _ e1) trivial) (by kernel_rfl)
def slices.ContainsFunc_int_int.f (K : Nat) (a0 : List Int) : Option (Bool) :=
  Option.bind (slices.IndexFunc_int_int.f K a0) fun x1 => some (decide (x1 ≥ 0))
theorem slices.ContainsFunc_int_int.spec (K : Nat) (a0 : List Int) (o : Bool) (h : slices.ContainsFunc_int_int.f K a0 = some o) : Den.Spec Try.prog 124 [one (.sl 0 0 a0.length), one (.fn 125 [])] [some ⟨false, .ints .i64 a0⟩] (one (.bool o)) [some ⟨false, .ints .i64 a0⟩] := by
  unfold slices.ContainsFunc_int_int.f at h
  obtain ⟨x1, e1, h⟩ := bind_some h
  obtain rfl := Option.some.inj h
  exact Den.Spec.of_walk tab mixed Try.func124 (by kernel_rfl) [.call [] [(0, true)] (one (.int .i64 x1)) [some ⟨false, .ints .i64 a0⟩]] [] [0] (nd (slices.IndexFunc_int_int.spec K a0 _ e1) (nd (rfl : (0 : Nat) = 0) (nd (rfl : a0.length = a0.length) trivial))) (by kernel_rfl)
def impl.ChipOk.f (K : Nat) (a0 : List ByteArray) (a1 : List Int) : Option (Bool) :=
  cond ((a0.length : Int) == 60) (cond ((a1.length : Int) == 10) (Option.bind (slices.ContainsFunc_string_string.f K a0) fun x1 => cond (x1) (some false) (Option.bind (slices.ContainsFunc_int_int.f K a1) fun x2 => some (!x2))) (some false)) (some false)
theorem impl.ChipOk.spec (K : Nat) (a0 : List ByteArray) (a1 : List Int) (o : Bool) (h : impl.ChipOk.f K a0 a1 = some o) : Den.Spec Try.prog 85 [.v (.agg [.sl 0 0 a0.length, .sl 1 0 a1.length])] [some ⟨false, .strs a0⟩, some ⟨false, .ints .i64 a1⟩] (one (.bool o)) [some ⟨false, .strs a0⟩, some ⟨false, .ints .i64 a1⟩] := by
  unfold impl.ChipOk.f at h
  rcases br_cases h with ⟨c1, h⟩ | ⟨c1, h⟩
  · rcases br_cases h with ⟨c2, h⟩ | ⟨c2, h⟩
    · obtain ⟨x1, e1, h⟩ := bind_some h
      rcases br_cases h with ⟨c3, h⟩ | ⟨c3, h⟩
      · obtain rfl := Option.some.inj h
        exact Den.Spec.of_walk tab mixed Try.func85 (by kernel_rfl) [.br true, .br true, .br true, .br true, .br true, .br true, .br true, .br true, .call [] [(0, true)] (one (.bool x1)) [some ⟨false, .strs a0⟩], .br true, .br true, .br false, .br false, .br false, .br false, .br false] [] [0, 1] (nd c1 (nd c1 (nd c1 (nd c1 (nd c1 (nd c2 (nd c2 (nd c2 (nd (slices.ContainsFunc_string_string.spec K a0 _ e1) (nd (rfl : (0 : Nat) = 0) (nd (rfl : a0.length = a0.length) (nd c2 (nd c2 (nd (nf c3) (nd (nf c3) (nd (nf c3) (nd (nf c3) (nd (nf c3) trivial)))))))))))))))))) (by kernel_rfl)
      · obtain ⟨x2, e2, h⟩ := bind_some h
        obtain rfl := Option.some.inj h
        exact Den.Spec.of_walk tab mixed Try.func85 (by kernel_rfl) [.br true, .br true, .br true, .br true, .br true, .br true, .br true, .br true, .call [] [(0, true)] (one (.bool x1)) [some ⟨false, .strs a0⟩], .br true, .br true, .br true, .br true, .br true, .call [] [(0, true)] (one (.bool x2)) [some ⟨false, .ints .i64 a1⟩], .br true, .br true] [] [0, 1] (nd c1 (nd c1 (nd c1 (nd c1 (nd c1 (nd c2 (nd c2 (nd c2 (nd (slices.ContainsFunc_string_string.spec K a0 _ e1) (nd (rfl : (0 : Nat) = 0) (nd (rfl : a0.length = a0.length) (nd c2 (nd c2 (nd (nt c3) (nd (nt c3) (nd (nt c3) (nd (slices.ContainsFunc_int_int.spec K a1 _ e2) (nd (rfl : (0 : Nat) = 0) (nd (rfl : a1.length = a1.length) (nd (nt c3) (nd (nt c3) trivial))))))))))))))))))))) (by kernel_rfl)
    · obtain rfl := Option.some.inj h
      exact Den.Spec.of_walk tab mixed Try.func85 (by kernel_rfl) [.br true, .br true, .br true, .br true, .br true, .br false, .br false, .br false, .br false, .br false, .br false, .br false, .br false, .br false, .br false] [] [0, 1] (nd c1 (nd c1 (nd c1 (nd c1 (nd c1 (nd c2 (nd c2 (nd c2 (nd c2 (nd c2 (nd ff (nd ff (nd ff (nd ff (nd ff trivial))))))))))))))) (by kernel_rfl)
  · obtain rfl := Option.some.inj h
    exact Den.Spec.of_walk tab mixed Try.func85 (by kernel_rfl) [.br false, .br false, .br false, .br false, .br false, .br false, .br false, .br false, .br false, .br false, .br false, .br false, .br false, .br false, .br false] [] [0, 1] (nd c1 (nd c1 (nd c1 (nd c1 (nd c1 (nd ff (nd ff (nd ff (nd ff (nd ff (nd ff (nd ff (nd ff (nd ff (nd ff trivial))))))))))))))) (by kernel_rfl)
def slices.Clone_string_string.f (a0 : List ByteArray) : Option (List ByteArray) := ck (a0.length * 16 ≤ 70368744177664) (some a0)
theorem slices.Clone_string_string.spec (a0 : List ByteArray) (o : List ByteArray) (h : slices.Clone_string_string.f a0 = some o) : Den.Spec Try.prog 120 [one (.sl 0 0 a0.length)] [some ⟨false, .strs a0⟩] (one (.sl 1 0 o.length)) [some ⟨false, .strs a0⟩, some ⟨true, .strs o⟩] := by
  unfold slices.Clone_string_string.f at h
  obtain ⟨p, h⟩ := ck_some h
  obtain rfl := Option.some.inj h
  refine Den.Spec.fork tab mixed Try.func120 (by kernel_rfl) 4 (by kernel_rfl) (n := a0.length) [.br true] [] [0, 2] (nd trivial (nd (rfl : (0 : Nat) = 0) (nd (rfl : (0 : Nat) = 0) (nd p (nd (rfl : (0 : Nat) = 0) (nd (rfl : a0.length = a0.length) trivial)))))) (by kernel_rfl) (fun h0 => ?_)
  obtain rfl := List.eq_nil_of_length_eq_zero h0
  exact ⟨[], [(2, [.strs])], [0, 1], True ∧ True, by kernel_rfl, trivial, trivial⟩
def slices.Clone_int_int.f (a0 : List Int) : Option (List Int) := ck (a0.length * 8 ≤ 70368744177664) (some a0)
theorem slices.Clone_int_int.spec (a0 : List Int) (o : List Int) (h : slices.Clone_int_int.f a0 = some o) : Den.Spec Try.prog 121 [one (.sl 0 0 a0.length)] [some ⟨false, .ints .i64 a0⟩] (one (.sl 1 0 o.length)) [some ⟨false, .ints .i64 a0⟩, some ⟨true, .ints .i64 o⟩] := by
  unfold slices.Clone_int_int.f at h
  obtain ⟨p, h⟩ := ck_some h
  obtain rfl := Option.some.inj h
  refine Den.Spec.fork tab mixed Try.func121 (by kernel_rfl) 4 (by kernel_rfl) (n := a0.length) [.br true] [] [0, 2] (nd trivial (nd (rfl : (0 : Nat) = 0) (nd (rfl : (0 : Nat) = 0) (nd p (nd (rfl : (0 : Nat) = 0) (nd (rfl : a0.length = a0.length) trivial)))))) (by kernel_rfl) (fun h0 => ?_)
  obtain rfl := List.eq_nil_of_length_eq_zero h0
  exact ⟨[], [(2, [.ints .i64])], [0, 1], True ∧ True, by kernel_rfl, trivial, trivial⟩
def impl.cloneChip.f (a0 : List ByteArray) (a1 : List Int) : Option ((List ByteArray) × (List Int)) :=
  Option.bind (slices.Clone_string_string.f a0) fun x1 => Option.bind (slices.Clone_int_int.f a1) fun x2 => some (x1, x2)
theorem impl.cloneChip.spec (a0 : List ByteArray) (a1 : List Int) (o : (List ByteArray) × (List Int)) (h : impl.cloneChip.f a0 a1 = some o) : Den.Spec Try.prog 126 [.v (.agg [.sl 0 0 a0.length, .sl 1 0 a1.length])] [some ⟨false, .strs a0⟩, some ⟨false, .ints .i64 a1⟩] (.v (.agg [.sl 2 0 o.1.length, .sl 3 0 o.2.length])) [some ⟨false, .strs a0⟩, some ⟨false, .ints .i64 a1⟩, some ⟨true, .strs o.1⟩, some ⟨true, .ints .i64 o.2⟩] := by
  unfold impl.cloneChip.f at h
  obtain ⟨x1, e1, h⟩ := bind_some h
  obtain ⟨x2, e2, h⟩ := bind_some h
  obtain rfl := Option.some.inj h
  exact Den.Spec.of_walk tab mixed Try.func126 (by kernel_rfl) [.call [] [(0, true)] (one (.sl 1 0 x1.length)) [some ⟨false, .strs a0⟩, some ⟨true, .strs x1⟩], .call [] [(0, true)] (one (.sl 1 0 x2.length)) [some ⟨false, .ints .i64 a1⟩, some ⟨true, .ints .i64 x2⟩]] [] [0, 1, 22, 46] (nd (slices.Clone_string_string.spec a0 _ e1) (nd (rfl : (0 : Nat) = 0) (nd (rfl : a0.length = a0.length) (nd (slices.Clone_int_int.spec a1 _ e2) (nd (rfl : (0 : Nat) = 0) (nd (rfl : a1.length = a1.length) trivial)))))) (by kernel_rfl)
def math_bits.Mul64.f (a0 : Int) (a1 : Int) : Option (Unit) :=
  some ()
theorem math_bits.Mul64.spec (a0 : Int) (a1 : Int) (o : Unit) (h : math_bits.Mul64.f a0 a1 = some o) : Den.Spec Try.prog 162 [one (.int .u64 a0), one (.int .u64 a1)] [] (.tup [.c (.int .u64 (IntKind.u64.wrap ((IntKind.u64.wrap ((IntKind.u64.wrap ((a0.fdiv (2 ^ 32)) * (a1.fdiv (2 ^ 32)))) + ((IntKind.u64.wrap ((IntKind.u64.wrap ((a0.fdiv (2 ^ 32)) * (bits2 .u64 (· &&& ·) a1 4294967295))) + ((IntKind.u64.wrap ((bits2 .u64 (· &&& ·) a0 4294967295) * (bits2 .u64 (· &&& ·) a1 4294967295))).fdiv (2 ^ 32)))).fdiv (2 ^ 32)))) + ((IntKind.u64.wrap ((bits2 .u64 (· &&& ·) (IntKind.u64.wrap ((IntKind.u64.wrap ((a0.fdiv (2 ^ 32)) * (bits2 .u64 (· &&& ·) a1 4294967295))) + ((IntKind.u64.wrap ((bits2 .u64 (· &&& ·) a0 4294967295) * (bits2 .u64 (· &&& ·) a1 4294967295))).fdiv (2 ^ 32)))) 4294967295) + (IntKind.u64.wrap ((bits2 .u64 (· &&& ·) a0 4294967295) * (a1.fdiv (2 ^ 32)))))).fdiv (2 ^ 32))))), .c (.int .u64 (IntKind.u64.wrap (a0 * a1)))]) [] := by
  unfold math_bits.Mul64.f at h
  obtain rfl := Option.some.inj h
  exact Den.Spec.of_walk tab mixed Try.func162 (by kernel_rfl) [] [] [] (nd (by decide : (0 : Int) ≤ 32) (nd (by decide : (0 : Int) ≤ 32) (nd (by decide : (0 : Int) ≤ 32) (nd (by decide : (0 : Int) ≤ 32) (nd (by decide : (0 : Int) ≤ 32) trivial))))) (by kernel_rfl)
def math_bits.Mul.f (a0 : Int) (a1 : Int) : Option (Unit) :=
  Option.bind (math_bits.Mul64.f a0 a1) fun x1 => some ()
theorem math_bits.Mul.spec (a0 : Int) (a1 : Int) (o : Unit) (h : math_bits.Mul.f a0 a1 = some o) : Den.Spec Try.prog 147 [one (.int .u64 a0), one (.int .u64 a1)] [] (.tup [.c (.int .u64 (IntKind.u64.wrap ((IntKind.u64.wrap ((IntKind.u64.wrap ((a0.fdiv (2 ^ 32)) * (a1.fdiv (2 ^ 32)))) + ((IntKind.u64.wrap ((IntKind.u64.wrap ((a0.fdiv (2 ^ 32)) * (bits2 .u64 (· &&& ·) a1 4294967295))) + ((IntKind.u64.wrap ((bits2 .u64 (· &&& ·) a0 4294967295) * (bits2 .u64 (· &&& ·) a1 4294967295))).fdiv (2 ^ 32)))).fdiv (2 ^ 32)))) + ((IntKind.u64.wrap ((bits2 .u64 (· &&& ·) (IntKind.u64.wrap ((IntKind.u64.wrap ((a0.fdiv (2 ^ 32)) * (bits2 .u64 (· &&& ·) a1 4294967295))) + ((IntKind.u64.wrap ((bits2 .u64 (· &&& ·) a0 4294967295) * (bits2 .u64 (· &&& ·) a1 4294967295))).fdiv (2 ^ 32)))) 4294967295) + (IntKind.u64.wrap ((bits2 .u64 (· &&& ·) a0 4294967295) * (a1.fdiv (2 ^ 32)))))).fdiv (2 ^ 32))))), .c (.int .u64 (IntKind.u64.wrap (a0 * a1)))]) [] := by
  unfold math_bits.Mul.f at h
  obtain ⟨x1, e1, h⟩ := bind_some h
  obtain rfl := Option.some.inj h
  exact Den.Spec.of_walk tab mixed Try.func147 (by kernel_rfl) [.br false, .call [] [] (.tup [.c (.int .u64 (IntKind.u64.wrap ((IntKind.u64.wrap ((IntKind.u64.wrap ((a0.fdiv (2 ^ 32)) * (a1.fdiv (2 ^ 32)))) + ((IntKind.u64.wrap ((IntKind.u64.wrap ((a0.fdiv (2 ^ 32)) * (bits2 .u64 (· &&& ·) a1 4294967295))) + ((IntKind.u64.wrap ((bits2 .u64 (· &&& ·) a0 4294967295) * (bits2 .u64 (· &&& ·) a1 4294967295))).fdiv (2 ^ 32)))).fdiv (2 ^ 32)))) + ((IntKind.u64.wrap ((bits2 .u64 (· &&& ·) (IntKind.u64.wrap ((IntKind.u64.wrap ((a0.fdiv (2 ^ 32)) * (bits2 .u64 (· &&& ·) a1 4294967295))) + ((IntKind.u64.wrap ((bits2 .u64 (· &&& ·) a0 4294967295) * (bits2 .u64 (· &&& ·) a1 4294967295))).fdiv (2 ^ 32)))) 4294967295) + (IntKind.u64.wrap ((bits2 .u64 (· &&& ·) a0 4294967295) * (a1.fdiv (2 ^ 32)))))).fdiv (2 ^ 32))))), .c (.int .u64 (IntKind.u64.wrap (a0 * a1)))]) []] [] [] (nd ff (nd (math_bits.Mul64.spec a0 a1 _ e1) trivial)) (by kernel_rfl)
def slices.Repeat_int_int.l0.f (a0 : List Int) : Nat → (List Int) → Int → Option ((List Int))
  | 0, _, _ => none
  | k + 1, v83_0, v83_1 =>
    cond (decide (v83_1 < (v83_0.length : Int))) (ck (0 ≤ v83_1) (ck (v83_1 ≤ (v83_0.length : Int)) (cond (decide (v83_1.toNat ≤ v83_0.length - v83_1.toNat)) (ck (v83_1.toNat + (v83_0.length - v83_1.toNat) ≤ v83_0.length) (ck (0 + v83_1.toNat ≤ v83_0.length) (slices.Repeat_int_int.l0.f a0 k (overL v83_0 v83_1.toNat v83_0 0 v83_1.toNat) (w64 (v83_1 + (v83_1.toNat : Int)))))) (ck (v83_1.toNat + (v83_0.length - v83_1.toNat) ≤ v83_0.length) (ck (0 + v83_1.toNat ≤ v83_0.length) (slices.Repeat_int_int.l0.f a0 k (overL v83_0 v83_1.toNat v83_0 0 (v83_0.length - v83_1.toNat)) (w64 (v83_1 + ((v83_0.length - v83_1.toNat : Nat) : Int))))))))) (some v83_0)
def slices.Repeat_int_int.l0.s (a0 : List Int) (v83_0 : List Int) (v83_1 : Int) : St := mkSt 48 [(7, one (.sl 1 0 v83_0.length)), (8, one (.int .i64 v83_1))] [some ⟨false, .ints .i64 a0⟩, some ⟨true, .ints .i64 v83_0⟩]
def slices.Repeat_int_int.l0.e0 (a0 : List Int) (o : (List Int)) : St := mkSt 48 [(7, one (.sl 1 0 o.length))] [some ⟨false, .ints .i64 a0⟩, some ⟨true, .ints .i64 o⟩]
def slices.Repeat_int_int.l0.x (a0 : List Int) : ((List Int)) → AExit × St := fun o => (.exit 0, slices.Repeat_int_int.l0.e0 a0 o)
theorem slices.Repeat_int_int.l0.spec (a0 : List Int) : ∀ (k : Nat) (v83_0 : List Int) (v83_1 : Int) (o : (List Int)), slices.Repeat_int_int.l0.f a0 k v83_0 v83_1 = some o → LoopSpec Try.prog 1 (loopN Try.f127 0) (slices.Repeat_int_int.l0.s a0 v83_0 v83_1) (slices.Repeat_int_int.l0.x a0 o).1 (slices.Repeat_int_int.l0.x a0 o).2
  | 0, _, _, _, h => by cases h
  | k + 1, v83_0, v83_1, o, h => by
    unfold slices.Repeat_int_int.l0.f at h
    rcases br_cases h with ⟨c1, h⟩ | ⟨c1, h⟩
    · obtain ⟨p1, h⟩ := ck_some h
      obtain ⟨p2, h⟩ := ck_some h
      rcases br_cases h with ⟨c2, h⟩ | ⟨c2, h⟩
      · obtain ⟨p3, h⟩ := ck_some h
        obtain ⟨p4, h⟩ := ck_some h
        exact .of_step tab mixed [.br true, .br true] [] [7, 8] [0, 1] (s1 := mkSt 48 [(7, one (.sl 1 0 v83_0.length)), (8, one (.int .i64 (w64 (v83_1 + (v83_1.toNat : Int)))))] [some ⟨false, .ints .i64 a0⟩, some ⟨true, .ints .i64 (overL v83_0 v83_1.toNat v83_0 0 v83_1.toNat)⟩]) (nd c1 (nd p1 (nd p2 (nd (Int.le_refl (v83_0.length : Int)) (nd (Int.le_refl 0) (nd p1 (nd p2 (nd (of_decide_eq_true c2) (nd p3 (nd p4 trivial)))))))))) (by kernel_rfl) (LoopSpec.eqs (slices.Repeat_int_int.l0.spec a0 k (overL v83_0 v83_1.toNat v83_0 0 v83_1.toNat) (w64 (v83_1 + (v83_1.toNat : Int))) _ h) (by simp only [slices.Repeat_int_int.l0.s, List.length_set, overL_length] : slices.Repeat_int_int.l0.s a0 (overL v83_0 v83_1.toNat v83_0 0 v83_1.toNat) (w64 (v83_1 + (v83_1.toNat : Int))) = mkSt 48 [(7, one (.sl 1 0 v83_0.length)), (8, one (.int .i64 (w64 (v83_1 + (v83_1.toNat : Int)))))] [some ⟨false, .ints .i64 a0⟩, some ⟨true, .ints .i64 (overL v83_0 v83_1.toNat v83_0 0 v83_1.toNat)⟩]))
      · obtain ⟨p3, h⟩ := ck_some h
        obtain ⟨p4, h⟩ := ck_some h
        exact .of_step tab mixed [.br true, .br false] [] [7, 8] [0, 1] (s1 := mkSt 48 [(7, one (.sl 1 0 v83_0.length)), (8, one (.int .i64 (w64 (v83_1 + ((v83_0.length - v83_1.toNat : Nat) : Int)))))] [some ⟨false, .ints .i64 a0⟩, some ⟨true, .ints .i64 (overL v83_0 v83_1.toNat v83_0 0 (v83_0.length - v83_1.toNat))⟩]) (nd c1 (nd p1 (nd p2 (nd (Int.le_refl (v83_0.length : Int)) (nd (Int.le_refl 0) (nd p1 (nd p2 (nd (Nat.le_of_lt (Nat.lt_of_not_le (of_decide_eq_false c2))) (nd p3 (nd p4 trivial)))))))))) (by kernel_rfl) (LoopSpec.eqs (slices.Repeat_int_int.l0.spec a0 k (overL v83_0 v83_1.toNat v83_0 0 (v83_0.length - v83_1.toNat)) (w64 (v83_1 + ((v83_0.length - v83_1.toNat : Nat) : Int))) _ h) (by simp only [slices.Repeat_int_int.l0.s, List.length_set, overL_length] : slices.Repeat_int_int.l0.s a0 (overL v83_0 v83_1.toNat v83_0 0 (v83_0.length - v83_1.toNat)) (w64 (v83_1 + ((v83_0.length - v83_1.toNat : Nat) : Int))) = mkSt 48 [(7, one (.sl 1 0 v83_0.length)), (8, one (.int .i64 (w64 (v83_1 + ((v83_0.length - v83_1.toNat : Nat) : Int)))))] [some ⟨false, .ints .i64 a0⟩, some ⟨true, .ints .i64 (overL v83_0 v83_1.toNat v83_0 0 (v83_0.length - v83_1.toNat))⟩]))
    · obtain rfl := Option.some.inj h
      exact .of_done tab mixed [.br false] [] [7] [0, 1] rfl (nd c1 trivial) (by kernel_rfl)
def slices.Repeat_int_int.l0_1.f (a0 : List Int) : Nat → (List Int) → Int → Option ((List Int))
  | 0, _, _ => none
  | k + 1, v84_0, v84_1 =>
    cond (decide (v84_1 < (v84_0.length : Int))) (ck (0 ≤ v84_1) (ck (v84_1 ≤ (v84_0.length : Int)) (cond (decide (v84_1.toNat ≤ v84_0.length - v84_1.toNat)) (ck (v84_1.toNat + (v84_0.length - v84_1.toNat) ≤ v84_0.length) (ck (0 + v84_1.toNat ≤ v84_0.length) (slices.Repeat_int_int.l0_1.f a0 k (overL v84_0 v84_1.toNat v84_0 0 v84_1.toNat) (w64 (v84_1 + (v84_1.toNat : Int)))))) (ck (v84_1.toNat + (v84_0.length - v84_1.toNat) ≤ v84_0.length) (ck (0 + v84_1.toNat ≤ v84_0.length) (slices.Repeat_int_int.l0_1.f a0 k (overL v84_0 v84_1.toNat v84_0 0 (v84_0.length - v84_1.toNat)) (w64 (v84_1 + ((v84_0.length - v84_1.toNat : Nat) : Int))))))))) (some v84_0)
def slices.Repeat_int_int.l0_1.s (a0 : List Int) (v84_0 : List Int) (v84_1 : Int) : St := mkSt 48 [(7, one (.sl 1 0 v84_0.length)), (8, one (.int .i64 v84_1))] [some ⟨false, .ints .i64 a0⟩, some ⟨true, .ints .i64 v84_0⟩]
def slices.Repeat_int_int.l0_1.e0 (a0 : List Int) (o : (List Int)) : St := mkSt 48 [(7, one (.sl 1 0 o.length))] [some ⟨false, .ints .i64 a0⟩, some ⟨true, .ints .i64 o⟩]
def slices.Repeat_int_int.l0_1.x (a0 : List Int) : ((List Int)) → AExit × St := fun o => (.exit 0, slices.Repeat_int_int.l0_1.e0 a0 o)
theorem slices.Repeat_int_int.l0_1.spec (a0 : List Int) : ∀ (k : Nat) (v84_0 : List Int) (v84_1 : Int) (o : (List Int)), slices.Repeat_int_int.l0_1.f a0 k v84_0 v84_1 = some o → LoopSpec Try.prog 1 (loopN Try.f127 0) (slices.Repeat_int_int.l0_1.s a0 v84_0 v84_1) (slices.Repeat_int_int.l0_1.x a0 o).1 (slices.Repeat_int_int.l0_1.x a0 o).2
  | 0, _, _, _, h => by cases h
  | k + 1, v84_0, v84_1, o, h => by
    unfold slices.Repeat_int_int.l0_1.f at h
    rcases br_cases h with ⟨c1, h⟩ | ⟨c1, h⟩
    · obtain ⟨p1, h⟩ := ck_some h
      obtain ⟨p2, h⟩ := ck_some h
      rcases br_cases h with ⟨c2, h⟩ | ⟨c2, h⟩
      · obtain ⟨p3, h⟩ := ck_some h
        obtain ⟨p4, h⟩ := ck_some h
        exact .of_step tab mixed [.br true, .br true] [] [7, 8] [0, 1] (s1 := mkSt 48 [(7, one (.sl 1 0 v84_0.length)), (8, one (.int .i64 (w64 (v84_1 + (v84_1.toNat : Int)))))] [some ⟨false, .ints .i64 a0⟩, some ⟨true, .ints .i64 (overL v84_0 v84_1.toNat v84_0 0 v84_1.toNat)⟩]) (nd c1 (nd p1 (nd p2 (nd (Int.le_refl (v84_0.length : Int)) (nd (Int.le_refl 0) (nd p1 (nd p2 (nd (of_decide_eq_true c2) (nd p3 (nd p4 trivial)))))))))) (by kernel_rfl) (LoopSpec.eqs (slices.Repeat_int_int.l0_1.spec a0 k (overL v84_0 v84_1.toNat v84_0 0 v84_1.toNat) (w64 (v84_1 + (v84_1.toNat : Int))) _ h) (by simp only [slices.Repeat_int_int.l0_1.s, List.length_set, overL_length] : slices.Repeat_int_int.l0_1.s a0 (overL v84_0 v84_1.toNat v84_0 0 v84_1.toNat) (w64 (v84_1 + (v84_1.toNat : Int))) = mkSt 48 [(7, one (.sl 1 0 v84_0.length)), (8, one (.int .i64 (w64 (v84_1 + (v84_1.toNat : Int)))))] [some ⟨false, .ints .i64 a0⟩, some ⟨true, .ints .i64 (overL v84_0 v84_1.toNat v84_0 0 v84_1.toNat)⟩]))
      · obtain ⟨p3, h⟩ := ck_some h
        obtain ⟨p4, h⟩ := ck_some h
        exact .of_step tab mixed [.br true, .br false] [] [7, 8] [0, 1] (s1 := mkSt 48 [(7, one (.sl 1 0 v84_0.length)), (8, one (.int .i64 (w64 (v84_1 + ((v84_0.length - v84_1.toNat : Nat) : Int)))))] [some ⟨false, .ints .i64 a0⟩, some ⟨true, .ints .i64 (overL v84_0 v84_1.toNat v84_0 0 (v84_0.length - v84_1.toNat))⟩]) (nd c1 (nd p1 (nd p2 (nd (Int.le_refl (v84_0.length : Int)) (nd (Int.le_refl 0) (nd p1 (nd p2 (nd (Nat.le_of_lt (Nat.lt_of_not_le (of_decide_eq_false c2))) (nd p3 (nd p4 trivial)))))))))) (by kernel_rfl) (LoopSpec.eqs (slices.Repeat_int_int.l0_1.spec a0 k (overL v84_0 v84_1.toNat v84_0 0 (v84_0.length - v84_1.toNat)) (w64 (v84_1 + ((v84_0.length - v84_1.toNat : Nat) : Int))) _ h) (by simp only [slices.Repeat_int_int.l0_1.s, List.length_set, overL_length] : slices.Repeat_int_int.l0_1.s a0 (overL v84_0 v84_1.toNat v84_0 0 (v84_0.length - v84_1.toNat)) (w64 (v84_1 + ((v84_0.length - v84_1.toNat : Nat) : Int))) = mkSt 48 [(7, one (.sl 1 0 v84_0.length)), (8, one (.int .i64 (w64 (v84_1 + ((v84_0.length - v84_1.toNat : Nat) : Int)))))] [some ⟨false, .ints .i64 a0⟩, some ⟨true, .ints .i64 (overL v84_0 v84_1.toNat v84_0 0 (v84_0.length - v84_1.toNat))⟩]))
    · obtain rfl := Option.some.inj h
      exact .of_done tab mixed [.br false] [] [7] [0, 1] rfl (nd c1 trivial) (by kernel_rfl)
end Go.Proofs.Ytenhjfemghpciaa.GFnExactWorst
