import Derived.Test.YtenhjfemghpciaaDenZ
import Derived.Test.YtenhjfemghpciaaProg
namespace Go.Proofs.Ytenhjfemghpciaa.GFnExactLives
open Go Go.RowKit Go.Proofs Go.Proofs.Ytenhjfemghpciaa.Den
set_option linter.unusedVariables false
set_option linter.unusedSimpArgs false
def tyL : List (Nat × Ty) := [(3, ⟨1, 8, false, [.int .i64 0], .ints .i64, .int .i64, []⟩),
  (4, ⟨1, 1, false, [.bool false], .bools, .bool, []⟩),
  (5, ⟨1, 1, false, [.int .u8 0], .ints .u8, .int .u8, []⟩),
  (9, ⟨1, 16, false, [.str ⟨#[]⟩], .strs, .str, []⟩),
  (22, ⟨1, 24, false, [.nil], .refs, .sl 9, [.strs]⟩),
  (23, ⟨1, 24, false, [.nil], .refs, .sl 3, [.ints .i64]⟩),
  (33, ⟨1, 24, false, [.nil], .refs, .sl 5, [.ints .u8]⟩),
  (45, ⟨2, 48, true, [.nil, .nil], .none, .st [(0, 1), (1, 1)], [.strs, .ints .i64]⟩),
  (47, ⟨4, 80, true, [.nil, .nil, .nil, .int .i64 0], .none, .st [(0, 2), (2, 1), (3, 1)], [.strs, .ints .i64, .ints .i64, .none]⟩),
  (50, ⟨2, 48, true, [.nil, .nil], .none, .st [(0, 1), (1, 1)], [.strs, .ints .i64]⟩),
  (52, ⟨4, 80, true, [.nil, .nil, .nil, .int .i64 0], .none, .st [(0, 2), (2, 1), (3, 1)], [.strs, .ints .i64, .ints .i64, .none]⟩),
  (76, ⟨3, 32, true, [.int .i64 0, .int .i64 0, .str ⟨#[]⟩], .acts, .st [(0, 1), (1, 1), (2, 1)], []⟩),
  (127, ⟨3, 40, true, [.nil, .int .i64 0, .bool false], .none, .st [(0, 1), (1, 1), (2, 1)], [.ints .u8, .none, .none]⟩),
  (130, ⟨1, 8, false, [.int .u64 0], .ints .u64, .int .u64, []⟩),
  (146, ⟨1, 4, false, [.int .u32 0], .ints .u32, .int .u32, []⟩),
  (149, ⟨1, 8, false, [.int .u64 0], .ints .u64, .int .u64, []⟩),
  (153, ⟨1, 8, false, [.int .i64 0], .ints .i64, .int .i64, []⟩)]
def tb : TypeId → Option Ty := tbOf tyL
theorem tab : TabOk Try.prog tb := TabOk.of ⟨.of (by kernel_rfl) rfl rfl (by kernel_rfl) (by show _ = _; kernel_rfl),
  .of (by kernel_rfl) rfl rfl (by kernel_rfl) (by show _ = _; kernel_rfl),
  .of (by kernel_rfl) rfl rfl (by kernel_rfl) (by show _ = _; kernel_rfl),
  .of (by kernel_rfl) rfl rfl (by kernel_rfl) (by show _ = _; kernel_rfl),
  .of (by kernel_rfl) rfl rfl (by kernel_rfl) (by show _ = _; kernel_rfl),
  .of (by kernel_rfl) rfl rfl (by kernel_rfl) (by show _ = _; kernel_rfl),
  .of (by kernel_rfl) rfl rfl (by kernel_rfl) (by show _ = _; kernel_rfl),
  .of (by kernel_rfl) rfl rfl (by kernel_rfl) (by show _ = _; kernel_rfl),
  .of (by kernel_rfl) rfl rfl (by kernel_rfl) (by show _ = _; kernel_rfl),
  .of (by kernel_rfl) rfl rfl (by kernel_rfl) (by show _ = _; kernel_rfl),
  .of (by kernel_rfl) rfl rfl (by kernel_rfl) (by show _ = _; kernel_rfl),
  .of (by kernel_rfl) rfl rfl (by kernel_rfl) (by show _ = _; kernel_rfl),
  .of (by kernel_rfl) rfl rfl (by kernel_rfl) (by show _ = _; kernel_rfl),
  .of (by kernel_rfl) rfl rfl (by kernel_rfl) (by show _ = _; kernel_rfl),
  .of (by kernel_rfl) rfl rfl (by kernel_rfl) (by show _ = _; kernel_rfl),
  .of (by kernel_rfl) rfl rfl (by kernel_rfl) (by show _ = _; kernel_rfl),
  .of (by kernel_rfl) rfl rfl (by kernel_rfl) (by show _ = _; kernel_rfl), trivial⟩
theorem mixed : Try.prog.follows .mixedOrders = true := by kernel_rfl
def bytes0 : ByteArray := ByteArray.mk #[0, 1, 2, 2, 3, 3, 3, 3, 4, 4, 4, 4, 4, 4, 4, 4, 5, 5, 5, 5, 5, 5, 5, 5, 5, 5, 5, 5, 5, 5, 5, 5, 6, 6, 6, 6, 6, 6, 6, 6, 6, 6, 6, 6, 6, 6, 6, 6, 6, 6, 6, 6, 6, 6, 6, 6, 6, 6, 6, 6, 6, 6, 6, 6, 7, 7, 7, 7, 7, 7, 7, 7, 7, 7, 7, 7, 7, 7, 7, 7, 7, 7, 7, 7, 7, 7, 7, 7, 7, 7, 7, 7, 7, 7, 7, 7, 7, 7, 7, 7, 7, 7, 7, 7, 7, 7, 7, 7, 7, 7, 7, 7, 7, 7, 7, 7, 7, 7, 7, 7, 7, 7, 7, 7, 7, 7, 7, 7, 8, 8, 8, 8, 8, 8, 8, 8, 8, 8, 8, 8, 8, 8, 8, 8, 8, 8, 8, 8, 8, 8, 8, 8, 8, 8, 8, 8, 8, 8, 8, 8, 8, 8, 8, 8, 8, 8, 8, 8, 8, 8, 8, 8, 8, 8, 8, 8, 8, 8, 8, 8, 8, 8, 8, 8, 8, 8, 8, 8, 8, 8, 8, 8, 8, 8, 8, 8, 8, 8, 8, 8, 8, 8, 8, 8, 8, 8, 8, 8, 8, 8, 8, 8, 8, 8, 8, 8, 8, 8, 8, 8, 8, 8, 8, 8, 8, 8, 8, 8, 8, 8, 8, 8, 8, 8, 8, 8, 8, 8, 8, 8, 8, 8, 8, 8, 8, 8, 8, 8, 8, 8, 8, 8, 8, 8, 8, 8]
def laws.szStringS.l0.f (a0 : List ByteArray) : Nat → Int → Int → Option (Unit ⊕ Int)
  | 0, _, _ => none
  | k + 1, v2_0, v2_1 =>
    cond (decide (v2_1 < (a0.length : Int))) (ck (0 ≤ v2_1) (cond (decide ((w64 (v2_0 - ((a0.getD v2_1.toNat noVal).size : Int))) < 0)) (some (.inl ())) (laws.szStringS.l0.f a0 k (w64 (v2_0 - ((a0.getD v2_1.toNat noVal).size : Int))) (w64 (v2_1 + 1))))) (some (.inr (v2_0)))
def laws.szStringS.l0.s (a0 : List ByteArray) (v2_0 : Int) (v2_1 : Int) : St := mkSt 28 [(0, one (.sl 0 0 a0.length)), (1, one (.int .i64 v2_0)), (5, one (.int .i64 v2_1))] [some ⟨false, .strs a0⟩]
def laws.szStringS.l0.e0 (a0 : List ByteArray) (o : Unit) : St := mkSt 28 [(4, one (.int .i64 (-1)))] [some ⟨false, .strs a0⟩]
def laws.szStringS.l0.e1 (a0 : List ByteArray) (o : Int) : St := mkSt 28 [(1, one (.int .i64 o))] [some ⟨false, .strs a0⟩]
def laws.szStringS.l0.x (a0 : List ByteArray) : (Unit ⊕ Int) → AExit × St := Sum.elim (fun o => (.ret, laws.szStringS.l0.e0 a0 o)) (fun o => (.exit 0, laws.szStringS.l0.e1 a0 o))
theorem laws.szStringS.l0.spec (a0 : List ByteArray) : ∀ (k : Nat) (v2_0 : Int) (v2_1 : Int) (o : Unit ⊕ Int), laws.szStringS.l0.f a0 k v2_0 v2_1 = some o → LoopSpec Try.prog 1 (loopN Try.f67 0) (laws.szStringS.l0.s a0 v2_0 v2_1) (laws.szStringS.l0.x a0 o).1 (laws.szStringS.l0.x a0 o).2
  | 0, _, _, _, h => by cases h
  | k + 1, v2_0, v2_1, o, h => by
    unfold laws.szStringS.l0.f at h
    rcases br_cases h with ⟨c1, h⟩ | ⟨c1, h⟩
    · obtain ⟨p1, h⟩ := ck_some h
      rcases br_cases h with ⟨c2, h⟩ | ⟨c2, h⟩
      · obtain rfl := Option.some.inj h
        exact .of_done tab mixed [.br true, .br true] [] [4] [0] rfl (nd c1 (nd p1 (nd (of_decide_eq_true c1) (nd (tn p1 (of_decide_eq_true c1)) (nd c2 trivial))))) (by kernel_rfl)
      · exact .of_step tab mixed [.br true, .br false] [] [0, 1, 5] [0] (s1 := laws.szStringS.l0.s a0 (w64 (v2_0 - ((a0.getD v2_1.toNat noVal).size : Int))) (w64 (v2_1 + 1))) (nd c1 (nd p1 (nd (of_decide_eq_true c1) (nd (tn p1 (of_decide_eq_true c1)) (nd c2 trivial))))) (by kernel_rfl) (laws.szStringS.l0.spec a0 k (w64 (v2_0 - ((a0.getD v2_1.toNat noVal).size : Int))) (w64 (v2_1 + 1)) _ h)
    · obtain rfl := Option.some.inj h
      exact .of_done tab mixed [.br false] [] [1] [0] rfl (nd c1 trivial) (by kernel_rfl)
def laws.szStringS.f (K : Nat) (a0 : List ByteArray) (a1 : Int) : Option (Int) :=
  cond (decide ((w64 (a1 - (a0.length : Int))) < 0)) (some (-1)) (Option.bind (laws.szStringS.l0.f a0 K (w64 (a1 - (a0.length : Int))) 0) fun x1 => (Sum.elim (fun x1 => some (-1)) (fun x1 => some x1)) x1)
theorem laws.szStringS.spec (K : Nat) (a0 : List ByteArray) (a1 : Int) (o : Int) (h : laws.szStringS.f K a0 a1 = some o) : Den.Spec Try.prog 67 [one (.sl 0 0 a0.length), one (.int .i64 a1)] [some ⟨false, .strs a0⟩] (one (.int .i64 o)) [some ⟨false, .strs a0⟩] := by
  unfold laws.szStringS.f at h
  rcases br_cases h with ⟨c1, h⟩ | ⟨c1, h⟩
  · obtain rfl := Option.some.inj h
    exact Den.Spec.of_walk tab mixed Try.func67 (by kernel_rfl) [.br true] [] [0] (nd c1 trivial) (by kernel_rfl)
  · obtain ⟨x1, e1, h⟩ := bind_some h
    rcases x1 with x1 | x1
    · obtain rfl := Option.some.inj h
      exact Den.Spec.of_walk tab mixed Try.func67 (by kernel_rfl) [.br false, .loop [] [0, 1, 5] [0] (.ret) (laws.szStringS.l0.e0 a0 x1)] [] [0] (nd c1 (nd (laws.szStringS.l0.spec a0 K (w64 (a1 - (a0.length : Int))) 0 _ e1) trivial)) (by kernel_rfl)
    · obtain rfl := Option.some.inj h
      exact Den.Spec.of_walk tab mixed Try.func67 (by kernel_rfl) [.br false, .loop [] [0, 1, 5] [0] (.exit 0) (laws.szStringS.l0.e1 a0 x1)] [] [0] (nd c1 (nd (laws.szStringS.l0.spec a0 K (w64 (a1 - (a0.length : Int))) 0 _ e1) trivial)) (by kernel_rfl)
def laws.szIntS.f (a0 : List Int) (a1 : Int) : Option (Int) :=
  cond (decide ((w64 (a1 - (a0.length : Int))) < 0)) (some (-1)) (some (w64 (a1 - (a0.length : Int))))
theorem laws.szIntS.spec (a0 : List Int) (a1 : Int) (o : Int) (h : laws.szIntS.f a0 a1 = some o) : Den.Spec Try.prog 68 [one (.sl 0 0 a0.length), one (.int .i64 a1)] [some ⟨false, .ints .i64 a0⟩] (one (.int .i64 o)) [some ⟨false, .ints .i64 a0⟩] := by
  unfold laws.szIntS.f at h
  rcases br_cases h with ⟨c1, h⟩ | ⟨c1, h⟩
  · obtain rfl := Option.some.inj h
    exact Den.Spec.of_walk tab mixed Try.func68 (by kernel_rfl) [.br true] [] [0] (nd c1 trivial) (by kernel_rfl)
  · obtain rfl := Option.some.inj h
    exact Den.Spec.of_walk tab mixed Try.func68 (by kernel_rfl) [.br false] [] [0] (nd c1 trivial) (by kernel_rfl)
def laws.szChip.f (K : Nat) (a0 : List ByteArray) (a1 : List Int) (a2 : Int) : Option (Int) :=
  Option.bind (laws.szStringS.f K a0 a2) fun x1 => cond (decide (x1 < 0)) (some (-1)) (Option.bind (laws.szIntS.f a1 x1) fun x2 => cond (decide (x2 < 0)) (some (-1)) (some x2))
theorem laws.szChip.spec (K : Nat) (a0 : List ByteArray) (a1 : List Int) (a2 : Int) (o : Int) (h : laws.szChip.f K a0 a1 a2 = some o) : Den.Spec Try.prog 41 [.v (.agg [.sl 0 0 a0.length, .sl 1 0 a1.length]), one (.int .i64 a2)] [some ⟨false, .strs a0⟩, some ⟨false, .ints .i64 a1⟩] (one (.int .i64 o)) [some ⟨false, .strs a0⟩, some ⟨false, .ints .i64 a1⟩] := by
  unfold laws.szChip.f at h
  obtain ⟨x1, e1, h⟩ := bind_some h
  rcases br_cases h with ⟨c1, h⟩ | ⟨c1, h⟩
  · obtain rfl := Option.some.inj h
    exact Den.Spec.of_walk tab mixed Try.func41 (by kernel_rfl) [.call [] [(0, true)] (one (.int .i64 x1)) [some ⟨false, .strs a0⟩], .br true] [] [0, 1] (nd (laws.szStringS.spec K a0 a2 _ e1) (nd (rfl : (0 : Nat) = 0) (nd (rfl : a0.length = a0.length) (nd c1 trivial)))) (by kernel_rfl)
  · obtain ⟨x2, e2, h⟩ := bind_some h
    rcases br_cases h with ⟨c2, h⟩ | ⟨c2, h⟩
    · obtain rfl := Option.some.inj h
      exact Den.Spec.of_walk tab mixed Try.func41 (by kernel_rfl) [.call [] [(0, true)] (one (.int .i64 x1)) [some ⟨false, .strs a0⟩], .br false, .call [] [(0, true)] (one (.int .i64 x2)) [some ⟨false, .ints .i64 a1⟩], .br true] [] [0, 1] (nd (laws.szStringS.spec K a0 a2 _ e1) (nd (rfl : (0 : Nat) = 0) (nd (rfl : a0.length = a0.length) (nd c1 (nd (laws.szIntS.spec a1 x1 _ e2) (nd (rfl : (0 : Nat) = 0) (nd (rfl : a1.length = a1.length) (nd c2 trivial)))))))) (by kernel_rfl)
    · obtain rfl := Option.some.inj h
      exact Den.Spec.of_walk tab mixed Try.func41 (by kernel_rfl) [.call [] [(0, true)] (one (.int .i64 x1)) [some ⟨false, .strs a0⟩], .br false, .call [] [(0, true)] (one (.int .i64 x2)) [some ⟨false, .ints .i64 a1⟩], .br false] [] [0, 1] (nd (laws.szStringS.spec K a0 a2 _ e1) (nd (rfl : (0 : Nat) = 0) (nd (rfl : a0.length = a0.length) (nd c1 (nd (laws.szIntS.spec a1 x1 _ e2) (nd (rfl : (0 : Nat) = 0) (nd (rfl : a1.length = a1.length) (nd c2 trivial)))))))) (by kernel_rfl)
def laws.szFtl.f (K : Nat) (a0 : List ByteArray) (a1 : List Int) (a2 : List Int) (a3 : Int) (a4 : Int) : Option (Int) :=
  Option.bind (laws.szChip.f K a0 a1 a4) fun x1 => cond (decide (x1 < 0)) (some (-1)) (Option.bind (laws.szIntS.f a2 x1) fun x2 => cond (decide (x2 < 0)) (some (-1)) (some x2))
theorem laws.szFtl.spec (K : Nat) (a0 : List ByteArray) (a1 : List Int) (a2 : List Int) (a3 : Int) (a4 : Int) (o : Int) (h : laws.szFtl.f K a0 a1 a2 a3 a4 = some o) : Den.Spec Try.prog 32 [.v (.agg [.sl 0 0 a0.length, .sl 1 0 a1.length, .sl 2 0 a2.length, .int .i64 a3]), one (.int .i64 a4)] [some ⟨false, .strs a0⟩, some ⟨false, .ints .i64 a1⟩, some ⟨false, .ints .i64 a2⟩] (one (.int .i64 o)) [some ⟨false, .strs a0⟩, some ⟨false, .ints .i64 a1⟩, some ⟨false, .ints .i64 a2⟩] := by
  unfold laws.szFtl.f at h
  obtain ⟨x1, e1, h⟩ := bind_some h
  rcases br_cases h with ⟨c1, h⟩ | ⟨c1, h⟩
  · obtain rfl := Option.some.inj h
    exact Den.Spec.of_walk tab mixed Try.func32 (by kernel_rfl) [.call [(0, false), (1, false)] [] (one (.int .i64 x1)) [some ⟨false, .strs a0⟩, some ⟨false, .ints .i64 a1⟩], .br true] [] [0, 1, 2] (nd (laws.szChip.spec K a0 a1 a4 _ e1) (nd c1 trivial)) (by kernel_rfl)
  · obtain ⟨x2, e2, h⟩ := bind_some h
    rcases br_cases h with ⟨c2, h⟩ | ⟨c2, h⟩
    · obtain rfl := Option.some.inj h
      exact Den.Spec.of_walk tab mixed Try.func32 (by kernel_rfl) [.call [(0, false), (1, false)] [] (one (.int .i64 x1)) [some ⟨false, .strs a0⟩, some ⟨false, .ints .i64 a1⟩], .br false, .call [] [(0, true)] (one (.int .i64 x2)) [some ⟨false, .ints .i64 a2⟩], .br true] [] [0, 1, 2] (nd (laws.szChip.spec K a0 a1 a4 _ e1) (nd c1 (nd (laws.szIntS.spec a2 x1 _ e2) (nd (rfl : (0 : Nat) = 0) (nd (rfl : a2.length = a2.length) (nd c2 trivial)))))) (by kernel_rfl)
    · obtain rfl := Option.some.inj h
      exact Den.Spec.of_walk tab mixed Try.func32 (by kernel_rfl) [.call [(0, false), (1, false)] [] (one (.int .i64 x1)) [some ⟨false, .strs a0⟩, some ⟨false, .ints .i64 a1⟩], .br false, .call [] [(0, true)] (one (.int .i64 x2)) [some ⟨false, .ints .i64 a2⟩], .br false] [] [0, 1, 2] (nd (laws.szChip.spec K a0 a1 a4 _ e1) (nd c1 (nd (laws.szIntS.spec a2 x1 _ e2) (nd (rfl : (0 : Nat) = 0) (nd (rfl : a2.length = a2.length) (nd c2 trivial)))))) (by kernel_rfl)
def laws.toStringS.l0.f (a0 : List ByteArray) : Nat → (List ByteArray) → Int → Option ((List ByteArray))
  | 0, _, _ => none
  | k + 1, v8_0, v8_1 =>
    cond (decide (v8_1 < (a0.length : Int))) (ck (0 ≤ v8_1) (ck (v8_1 < (v8_0.length : Int)) (laws.toStringS.l0.f a0 k (v8_0.set v8_1.toNat (a0.getD v8_1.toNat noVal)) (w64 (v8_1 + 1))))) (some v8_0)
def laws.toStringS.l0.s (a0 : List ByteArray) (v8_0 : List ByteArray) (v8_1 : Int) : St := mkSt 22 [(0, one (.sl 0 0 a0.length)), (3, one (.sl 1 0 v8_0.length)), (4, one (.int .i64 v8_1))] [some ⟨false, .strs a0⟩, some ⟨true, .strs v8_0⟩]
def laws.toStringS.l0.e0 (a0 : List ByteArray) (o : (List ByteArray)) : St := mkSt 22 [(3, one (.sl 1 0 o.length))] [some ⟨false, .strs a0⟩, some ⟨true, .strs o⟩]
def laws.toStringS.l0.x (a0 : List ByteArray) : ((List ByteArray)) → AExit × St := fun o => (.exit 0, laws.toStringS.l0.e0 a0 o)
theorem laws.toStringS.l0.spec (a0 : List ByteArray) : ∀ (k : Nat) (v8_0 : List ByteArray) (v8_1 : Int) (o : (List ByteArray)), laws.toStringS.l0.f a0 k v8_0 v8_1 = some o → LoopSpec Try.prog 1 (loopN Try.f69 0) (laws.toStringS.l0.s a0 v8_0 v8_1) (laws.toStringS.l0.x a0 o).1 (laws.toStringS.l0.x a0 o).2
  | 0, _, _, _, h => by cases h
  | k + 1, v8_0, v8_1, o, h => by
    unfold laws.toStringS.l0.f at h
    rcases br_cases h with ⟨c1, h⟩ | ⟨c1, h⟩
    · obtain ⟨p1, h⟩ := ck_some h
      obtain ⟨p2, h⟩ := ck_some h
      exact .of_step tab mixed [.br true] [] [0, 3, 4] [0, 1] (s1 := mkSt 22 [(0, one (.sl 0 0 a0.length)), (3, one (.sl 1 0 v8_0.length)), (4, one (.int .i64 (w64 (v8_1 + 1))))] [some ⟨false, .strs a0⟩, some ⟨true, .strs (v8_0.set v8_1.toNat (a0.getD v8_1.toNat noVal))⟩]) (nd c1 (nd p1 (nd (of_decide_eq_true c1) (nd (tn p1 (of_decide_eq_true c1)) (nd p1 (nd p2 (nd (tn p1 p2) trivial))))))) (by kernel_rfl) (LoopSpec.eqs (laws.toStringS.l0.spec a0 k (v8_0.set v8_1.toNat (a0.getD v8_1.toNat noVal)) (w64 (v8_1 + 1)) _ h) (by simp only [laws.toStringS.l0.s, List.length_set, overL_length] : laws.toStringS.l0.s a0 (v8_0.set v8_1.toNat (a0.getD v8_1.toNat noVal)) (w64 (v8_1 + 1)) = mkSt 22 [(0, one (.sl 0 0 a0.length)), (3, one (.sl 1 0 v8_0.length)), (4, one (.int .i64 (w64 (v8_1 + 1))))] [some ⟨false, .strs a0⟩, some ⟨true, .strs (v8_0.set v8_1.toNat (a0.getD v8_1.toNat noVal))⟩]))
    · obtain rfl := Option.some.inj h
      exact .of_done tab mixed [.br false] [] [3] [0, 1] rfl (nd c1 trivial) (by kernel_rfl)
def laws.toStringS.f (K : Nat) (a0 : List ByteArray) : Option ((List ByteArray)) :=
  ck (((a0.length : Int) * (16 : Int)) ≤ 70368744177664) (Option.bind (laws.toStringS.l0.f a0 K (List.replicate a0.length noVal) 0) fun x1 => some x1)
theorem laws.toStringS.spec (K : Nat) (a0 : List ByteArray) (o : (List ByteArray)) (h : laws.toStringS.f K a0 = some o) : Den.Spec Try.prog 69 [one (.sl 0 0 a0.length)] [some ⟨false, .strs a0⟩] (one (.sl 1 0 o.length)) [some ⟨false, .strs a0⟩, some ⟨true, .strs o⟩] := by
  unfold laws.toStringS.f at h
  obtain ⟨p1, h⟩ := ck_some h
  obtain ⟨x1, e1, h⟩ := bind_some h
  obtain rfl := Option.some.inj h
  exact Den.Spec.of_walk tab mixed Try.func69 (by kernel_rfl) [.loop [] [0, 3, 4] [0, 1] (.exit 0) (laws.toStringS.l0.e0 a0 x1)] [] [0, 1] (nd (Int.natCast_nonneg a0.length) (nd (rfl : (a0.length : Int) = (a0.length : Int)) (nd p1 (nd (laws.toStringS.l0.spec a0 K (List.replicate a0.length noVal) 0 _ e1) trivial)))) (by kernel_rfl)
def laws.toIntS.l0.f (a0 : List Int) : Nat → (List Int) → Int → Option ((List Int))
  | 0, _, _ => none
  | k + 1, v11_0, v11_1 =>
    cond (decide (v11_1 < (a0.length : Int))) (ck (0 ≤ v11_1) (ck (v11_1 < (v11_0.length : Int)) (laws.toIntS.l0.f a0 k (v11_0.set v11_1.toNat (a0.getD v11_1.toNat 0)) (w64 (v11_1 + 1))))) (some v11_0)
def laws.toIntS.l0.s (a0 : List Int) (v11_0 : List Int) (v11_1 : Int) : St := mkSt 22 [(0, one (.sl 0 0 a0.length)), (3, one (.sl 1 0 v11_0.length)), (4, one (.int .i64 v11_1))] [some ⟨false, .ints .i64 a0⟩, some ⟨true, .ints .i64 v11_0⟩]
def laws.toIntS.l0.e0 (a0 : List Int) (o : (List Int)) : St := mkSt 22 [(3, one (.sl 1 0 o.length))] [some ⟨false, .ints .i64 a0⟩, some ⟨true, .ints .i64 o⟩]
def laws.toIntS.l0.x (a0 : List Int) : ((List Int)) → AExit × St := fun o => (.exit 0, laws.toIntS.l0.e0 a0 o)
theorem laws.toIntS.l0.spec (a0 : List Int) : ∀ (k : Nat) (v11_0 : List Int) (v11_1 : Int) (o : (List Int)), laws.toIntS.l0.f a0 k v11_0 v11_1 = some o → LoopSpec Try.prog 1 (loopN Try.f70 0) (laws.toIntS.l0.s a0 v11_0 v11_1) (laws.toIntS.l0.x a0 o).1 (laws.toIntS.l0.x a0 o).2
  | 0, _, _, _, h => by cases h
  | k + 1, v11_0, v11_1, o, h => by
    unfold laws.toIntS.l0.f at h
    rcases br_cases h with ⟨c1, h⟩ | ⟨c1, h⟩
    · obtain ⟨p1, h⟩ := ck_some h
      obtain ⟨p2, h⟩ := ck_some h
      exact .of_step tab mixed [.br true] [] [0, 3, 4] [0, 1] (s1 := mkSt 22 [(0, one (.sl 0 0 a0.length)), (3, one (.sl 1 0 v11_0.length)), (4, one (.int .i64 (w64 (v11_1 + 1))))] [some ⟨false, .ints .i64 a0⟩, some ⟨true, .ints .i64 (v11_0.set v11_1.toNat (a0.getD v11_1.toNat 0))⟩]) (nd c1 (nd p1 (nd (of_decide_eq_true c1) (nd (tn p1 (of_decide_eq_true c1)) (nd p1 (nd p2 (nd (tn p1 p2) trivial))))))) (by kernel_rfl) (LoopSpec.eqs (laws.toIntS.l0.spec a0 k (v11_0.set v11_1.toNat (a0.getD v11_1.toNat 0)) (w64 (v11_1 + 1)) _ h) (by simp only [laws.toIntS.l0.s, List.length_set, overL_length] : laws.toIntS.l0.s a0 (v11_0.set v11_1.toNat (a0.getD v11_1.toNat 0)) (w64 (v11_1 + 1)) = mkSt 22 [(0, one (.sl 0 0 a0.length)), (3, one (.sl 1 0 v11_0.length)), (4, one (.int .i64 (w64 (v11_1 + 1))))] [some ⟨false, .ints .i64 a0⟩, some ⟨true, .ints .i64 (v11_0.set v11_1.toNat (a0.getD v11_1.toNat 0))⟩]))
    · obtain rfl := Option.some.inj h
      exact .of_done tab mixed [.br false] [] [3] [0, 1] rfl (nd c1 trivial) (by kernel_rfl)
def laws.toIntS.f (K : Nat) (a0 : List Int) : Option ((List Int)) :=
  ck (((a0.length : Int) * (8 : Int)) ≤ 70368744177664) (Option.bind (laws.toIntS.l0.f a0 K (List.replicate a0.length (0 : Int)) 0) fun x1 => some x1)
theorem laws.toIntS.spec (K : Nat) (a0 : List Int) (o : (List Int)) (h : laws.toIntS.f K a0 = some o) : Den.Spec Try.prog 70 [one (.sl 0 0 a0.length)] [some ⟨false, .ints .i64 a0⟩] (one (.sl 1 0 o.length)) [some ⟨false, .ints .i64 a0⟩, some ⟨true, .ints .i64 o⟩] := by
  unfold laws.toIntS.f at h
  obtain ⟨p1, h⟩ := ck_some h
  obtain ⟨x1, e1, h⟩ := bind_some h
  obtain rfl := Option.some.inj h
  exact Den.Spec.of_walk tab mixed Try.func70 (by kernel_rfl) [.loop [] [0, 3, 4] [0, 1] (.exit 0) (laws.toIntS.l0.e0 a0 x1)] [] [0, 1] (nd (Int.natCast_nonneg a0.length) (nd (rfl : (a0.length : Int) = (a0.length : Int)) (nd p1 (nd (laws.toIntS.l0.spec a0 K (List.replicate a0.length (0 : Int)) 0 _ e1) trivial)))) (by kernel_rfl)
def laws.toChip.f (K : Nat) (a0 : List ByteArray) (a1 : List Int) : Option ((List ByteArray) × (List Int)) :=
  Option.bind (laws.toStringS.f K a0) fun x1 => Option.bind (laws.toIntS.f K a1) fun x2 => some (x1, x2)
theorem laws.toChip.spec (K : Nat) (a0 : List ByteArray) (a1 : List Int) (o : (List ByteArray) × (List Int)) (h : laws.toChip.f K a0 a1 = some o) : Den.Spec Try.prog 43 [.v (.agg [.sl 0 0 a0.length, .sl 1 0 a1.length])] [some ⟨false, .strs a0⟩, some ⟨false, .ints .i64 a1⟩] (.v (.agg [.sl 2 0 o.1.length, .sl 3 0 o.2.length])) [some ⟨false, .strs a0⟩, some ⟨false, .ints .i64 a1⟩, some ⟨true, .strs o.1⟩, some ⟨true, .ints .i64 o.2⟩] := by
  unfold laws.toChip.f at h
  obtain ⟨x1, e1, h⟩ := bind_some h
  obtain ⟨x2, e2, h⟩ := bind_some h
  obtain rfl := Option.some.inj h
  exact Den.Spec.of_walk tab mixed Try.func43 (by kernel_rfl) [.call [] [(0, true)] (one (.sl 1 0 x1.length)) [some ⟨false, .strs a0⟩, some ⟨true, .strs x1⟩], .call [] [(0, true)] (one (.sl 1 0 x2.length)) [some ⟨false, .ints .i64 a1⟩, some ⟨true, .ints .i64 x2⟩]] [] [0, 1, 9, 10] (nd (laws.toStringS.spec K a0 _ e1) (nd (rfl : (0 : Nat) = 0) (nd (rfl : a0.length = a0.length) (nd (laws.toIntS.spec K a1 _ e2) (nd (rfl : (0 : Nat) = 0) (nd (rfl : a1.length = a1.length) trivial)))))) (by kernel_rfl)
def laws.toFtl.f (K : Nat) (a0 : List ByteArray) (a1 : List Int) (a2 : List Int) (a3 : Int) : Option ((List ByteArray) × (List Int) × (List Int)) :=
  Option.bind (laws.toChip.f K a0 a1) fun x1 => Option.bind (laws.toIntS.f K a2) fun x2 => some (x1.1, x1.2, x2)
theorem laws.toFtl.spec (K : Nat) (a0 : List ByteArray) (a1 : List Int) (a2 : List Int) (a3 : Int) (o : (List ByteArray) × (List Int) × (List Int)) (h : laws.toFtl.f K a0 a1 a2 a3 = some o) : Den.Spec Try.prog 34 [.v (.agg [.sl 0 0 a0.length, .sl 1 0 a1.length, .sl 2 0 a2.length, .int .i64 a3])] [some ⟨false, .strs a0⟩, some ⟨false, .ints .i64 a1⟩, some ⟨false, .ints .i64 a2⟩] (.v (.agg [.sl 3 0 o.1.length, .sl 4 0 o.2.1.length, .sl 5 0 o.2.2.length, .int .i64 a3])) [some ⟨false, .strs a0⟩, some ⟨false, .ints .i64 a1⟩, some ⟨false, .ints .i64 a2⟩, some ⟨true, .strs o.1⟩, some ⟨true, .ints .i64 o.2.1⟩, some ⟨true, .ints .i64 o.2.2⟩] := by
  unfold laws.toFtl.f at h
  obtain ⟨x1, e1, h⟩ := bind_some h
  obtain ⟨x2, e2, h⟩ := bind_some h
  obtain rfl := Option.some.inj h
  exact Den.Spec.of_walk tab mixed Try.func34 (by kernel_rfl) [.call [(0, false), (1, false)] [] (.v (.agg [.sl 2 0 x1.1.length, .sl 3 0 x1.2.length])) [some ⟨false, .strs a0⟩, some ⟨false, .ints .i64 a1⟩, some ⟨true, .strs x1.1⟩, some ⟨true, .ints .i64 x1.2⟩], .call [] [(0, true)] (one (.sl 1 0 x2.length)) [some ⟨false, .ints .i64 a2⟩, some ⟨true, .ints .i64 x2⟩]] [] [0, 1, 2, 12, 13, 14] (nd (laws.toChip.spec K a0 a1 _ e1) (nd (laws.toIntS.spec K a2 _ e2) (nd (rfl : (0 : Nat) = 0) (nd (rfl : a2.length = a2.length) trivial)))) (by kernel_rfl)
def spec.l1In.f (a0 : Int) (a1 : Int) (a2 : Int) : Option (Bool) :=
  cond (decide (a0 ≥ a1)) (some (decide (a0 ≤ a2))) (some false)
theorem spec.l1In.spec (a0 : Int) (a1 : Int) (a2 : Int) (o : Bool) (h : spec.l1In.f a0 a1 a2 = some o) : Den.Spec Try.prog 83 [one (.int .i64 a0), one (.int .i64 a1), one (.int .i64 a2)] [] (one (.bool o)) [] := by
  unfold spec.l1In.f at h
  rcases br_cases h with ⟨c1, h⟩ | ⟨c1, h⟩
  · obtain rfl := Option.some.inj h
    exact Den.Spec.of_walk tab mixed Try.func83 (by kernel_rfl) [.br true, .br true, .br true, .br true] [] [] (nd c1 (nd c1 (nd c1 (nd c1 trivial)))) (by kernel_rfl)
  · obtain rfl := Option.some.inj h
    exact Den.Spec.of_walk tab mixed Try.func83 (by kernel_rfl) [.br false, .br false, .br false, .br false] [] [] (nd c1 (nd c1 (nd c1 (nd c1 trivial)))) (by kernel_rfl)
def spec.ChipOk.l0.f (a0 : List ByteArray) (a1 : List Int) : Nat → Int → Option (Unit ⊕ Unit)
  | 0, _ => none
  | k + 1, v18_0 =>
    cond (decide (v18_0 < (a0.length : Int))) (ck (0 ≤ v18_0) (cond (decide (((a0.getD v18_0.toNat noVal).size : Int) > 800)) (some (.inl ())) (spec.ChipOk.l0.f a0 a1 k (w64 (v18_0 + 1))))) (some (.inr (())))
def spec.ChipOk.l0.s (a0 : List ByteArray) (a1 : List Int) (v18_0 : Int) : St := mkSt 43 [(1, one (.ptr 2 0 0)), (3, one (.int .i64 v18_0))] [some ⟨false, .strs a0⟩, some ⟨false, .ints .i64 a1⟩, some ⟨true, .cells [.sl 0 0 a0.length, .sl 1 0 a1.length]⟩]
def spec.ChipOk.l0.e0 (a0 : List ByteArray) (a1 : List Int) (o : Unit) : St := mkSt 43 [(2, one (.bool false))] [some ⟨false, .strs a0⟩, some ⟨false, .ints .i64 a1⟩]
def spec.ChipOk.l0.e1 (a0 : List ByteArray) (a1 : List Int) (o : Unit) : St := mkSt 43 [(1, one (.ptr 2 0 0))] [some ⟨false, .strs a0⟩, some ⟨false, .ints .i64 a1⟩, some ⟨true, .cells [.sl 0 0 a0.length, .sl 1 0 a1.length]⟩]
def spec.ChipOk.l0.x (a0 : List ByteArray) (a1 : List Int) : (Unit ⊕ Unit) → AExit × St := Sum.elim (fun o => (.ret, spec.ChipOk.l0.e0 a0 a1 o)) (fun o => (.exit 0, spec.ChipOk.l0.e1 a0 a1 o))
theorem spec.ChipOk.l0.spec (a0 : List ByteArray) (a1 : List Int) : ∀ (k : Nat) (v18_0 : Int) (o : Unit ⊕ Unit), spec.ChipOk.l0.f a0 a1 k v18_0 = some o → LoopSpec Try.prog 2 (loopN Try.f64 0) (spec.ChipOk.l0.s a0 a1 v18_0) (spec.ChipOk.l0.x a0 a1 o).1 (spec.ChipOk.l0.x a0 a1 o).2
  | 0, _, _, h => by cases h
  | k + 1, v18_0, o, h => by
    unfold spec.ChipOk.l0.f at h
    rcases br_cases h with ⟨c1, h⟩ | ⟨c1, h⟩
    · obtain ⟨p1, h⟩ := ck_some h
      rcases br_cases h with ⟨c2, h⟩ | ⟨c2, h⟩
      · obtain rfl := Option.some.inj h
        exact .of_done tab mixed [.br true, .br true] [] [2] [0, 1] rfl (nd c1 (nd p1 (nd (of_decide_eq_true c1) (nd (tn p1 (of_decide_eq_true c1)) (nd c2 trivial))))) (by kernel_rfl)
      · exact .of_step tab mixed [.br true, .br false] [] [1, 3] [0, 1, 2] (s1 := spec.ChipOk.l0.s a0 a1 (w64 (v18_0 + 1))) (nd c1 (nd p1 (nd (of_decide_eq_true c1) (nd (tn p1 (of_decide_eq_true c1)) (nd c2 trivial))))) (by kernel_rfl) (spec.ChipOk.l0.spec a0 a1 k (w64 (v18_0 + 1)) _ h)
    · obtain rfl := Option.some.inj h
      exact .of_done tab mixed [.br false] [] [1] [0, 1, 2] rfl (nd c1 trivial) (by kernel_rfl)
def spec.ChipOk.l1.f (a0 : List ByteArray) (a1 : List Int) : Nat → Int → Option (Unit ⊕ Unit)
  | 0, _ => none
  | k + 1, v19_0 =>
    cond (decide (v19_0 < (a1.length : Int))) (ck (0 ≤ v19_0) (Option.bind (spec.l1In.f (a1.getD v19_0.toNat 0) 0 1000000000) fun x1 => cond (x1) (spec.ChipOk.l1.f a0 a1 k (w64 (v19_0 + 1))) (some (.inl ())))) (some (.inr (())))
def spec.ChipOk.l1.s (a0 : List ByteArray) (a1 : List Int) (v19_0 : Int) : St := mkSt 43 [(1, one (.ptr 2 0 0)), (4, one (.int .i64 v19_0))] [some ⟨false, .strs a0⟩, some ⟨false, .ints .i64 a1⟩, some ⟨true, .cells [.sl 0 0 a0.length, .sl 1 0 a1.length]⟩]
def spec.ChipOk.l1.e0 (a0 : List ByteArray) (a1 : List Int) (o : Unit) : St := mkSt 43 [(2, one (.bool false))] [some ⟨false, .strs a0⟩, some ⟨false, .ints .i64 a1⟩]
def spec.ChipOk.l1.e1 (a0 : List ByteArray) (a1 : List Int) (o : Unit) : St := mkSt 43 [] [some ⟨false, .strs a0⟩, some ⟨false, .ints .i64 a1⟩]
def spec.ChipOk.l1.x (a0 : List ByteArray) (a1 : List Int) : (Unit ⊕ Unit) → AExit × St := Sum.elim (fun o => (.ret, spec.ChipOk.l1.e0 a0 a1 o)) (fun o => (.exit 2, spec.ChipOk.l1.e1 a0 a1 o))
theorem spec.ChipOk.l1.spec (a0 : List ByteArray) (a1 : List Int) : ∀ (k : Nat) (v19_0 : Int) (o : Unit ⊕ Unit), spec.ChipOk.l1.f a0 a1 k v19_0 = some o → LoopSpec Try.prog 2 (loopN Try.f64 1) (spec.ChipOk.l1.s a0 a1 v19_0) (spec.ChipOk.l1.x a0 a1 o).1 (spec.ChipOk.l1.x a0 a1 o).2
  | 0, _, _, h => by cases h
  | k + 1, v19_0, o, h => by
    unfold spec.ChipOk.l1.f at h
    rcases br_cases h with ⟨c1, h⟩ | ⟨c1, h⟩
    · obtain ⟨p1, h⟩ := ck_some h
      obtain ⟨x1, e1, h⟩ := bind_some h
      rcases br_cases h with ⟨c2, h⟩ | ⟨c2, h⟩
      · exact .of_step tab mixed [.br true, .call [] [] (one (.bool x1)) [], .br false] [] [1, 4] [0, 1, 2] (s1 := spec.ChipOk.l1.s a0 a1 (w64 (v19_0 + 1))) (nd c1 (nd p1 (nd (of_decide_eq_true c1) (nd (tn p1 (of_decide_eq_true c1)) (nd (spec.l1In.spec (a1.getD v19_0.toNat 0) 0 1000000000 _ e1) (nd (nf c2) trivial)))))) (by kernel_rfl) (spec.ChipOk.l1.spec a0 a1 k (w64 (v19_0 + 1)) _ h)
      · obtain rfl := Option.some.inj h
        exact .of_done tab mixed [.br true, .call [] [] (one (.bool x1)) [], .br true] [] [2] [0, 1] rfl (nd c1 (nd p1 (nd (of_decide_eq_true c1) (nd (tn p1 (of_decide_eq_true c1)) (nd (spec.l1In.spec (a1.getD v19_0.toNat 0) 0 1000000000 _ e1) (nd (nt c2) trivial)))))) (by kernel_rfl)
    · obtain rfl := Option.some.inj h
      exact .of_done tab mixed [.br false] [] [] [0, 1] rfl (nd c1 trivial) (by kernel_rfl)
def spec.ChipOk.f (K : Nat) (a0 : List ByteArray) (a1 : List Int) : Option (Bool) :=
  cond ((a0.length : Int) != 60) (some false) (cond ((a1.length : Int) != 10) (some false) (Option.bind (spec.ChipOk.l0.f a0 a1 K 0) fun x1 => (Sum.elim (fun x1 => some false) (fun x1 => Option.bind (spec.ChipOk.l1.f a0 a1 K 0) fun x2 => (Sum.elim (fun x2 => some false) (fun x2 => some true)) x2)) x1))
theorem spec.ChipOk.spec (K : Nat) (a0 : List ByteArray) (a1 : List Int) (o : Bool) (h : spec.ChipOk.f K a0 a1 = some o) : Den.Spec Try.prog 64 [.v (.agg [.sl 0 0 a0.length, .sl 1 0 a1.length])] [some ⟨false, .strs a0⟩, some ⟨false, .ints .i64 a1⟩] (one (.bool o)) [some ⟨false, .strs a0⟩, some ⟨false, .ints .i64 a1⟩] := by
  unfold spec.ChipOk.f at h
  rcases br_cases h with ⟨c1, h⟩ | ⟨c1, h⟩
  · obtain rfl := Option.some.inj h
    exact Den.Spec.of_walk tab mixed Try.func64 (by kernel_rfl) [.br true, .br true, .br true, .br true, .br true, .br true] [] [0, 1] (nd c1 (nd c1 (nd c1 (nd c1 (nd c1 (nd tt trivial)))))) (by kernel_rfl)
  · rcases br_cases h with ⟨c2, h⟩ | ⟨c2, h⟩
    · obtain rfl := Option.some.inj h
      exact Den.Spec.of_walk tab mixed Try.func64 (by kernel_rfl) [.br false, .br false, .br false, .br false, .br false, .br true] [] [0, 1] (nd c1 (nd c1 (nd c1 (nd c1 (nd c1 (nd c2 trivial)))))) (by kernel_rfl)
    · obtain ⟨x1, e1, h⟩ := bind_some h
      rcases x1 with x1 | x1
      · obtain rfl := Option.some.inj h
        exact Den.Spec.of_walk tab mixed Try.func64 (by kernel_rfl) [.br false, .br false, .br false, .br false, .br false, .br false, .loop [] [1, 3] [0, 1, 2] (.ret) (spec.ChipOk.l0.e0 a0 a1 x1)] [] [0, 1] (nd c1 (nd c1 (nd c1 (nd c1 (nd c1 (nd c2 (nd (spec.ChipOk.l0.spec a0 a1 K 0 _ e1) trivial))))))) (by kernel_rfl)
      · obtain ⟨x2, e2, h⟩ := bind_some h
        rcases x2 with x2 | x2
        · obtain rfl := Option.some.inj h
          exact Den.Spec.of_walk tab mixed Try.func64 (by kernel_rfl) [.br false, .br false, .br false, .br false, .br false, .br false, .loop [] [1, 3] [0, 1, 2] (.exit 0) (spec.ChipOk.l0.e1 a0 a1 x1), .loop [] [1, 4] [0, 1, 2] (.ret) (spec.ChipOk.l1.e0 a0 a1 x2)] [] [0, 1] (nd c1 (nd c1 (nd c1 (nd c1 (nd c1 (nd c2 (nd (spec.ChipOk.l0.spec a0 a1 K 0 _ e1) (nd (spec.ChipOk.l1.spec a0 a1 K 0 _ e2) trivial)))))))) (by kernel_rfl)
        · obtain rfl := Option.some.inj h
          exact Den.Spec.of_walk tab mixed Try.func64 (by kernel_rfl) [.br false, .br false, .br false, .br false, .br false, .br false, .loop [] [1, 3] [0, 1, 2] (.exit 0) (spec.ChipOk.l0.e1 a0 a1 x1), .loop [] [1, 4] [0, 1, 2] (.exit 2) (spec.ChipOk.l1.e1 a0 a1 x2)] [] [0, 1] (nd c1 (nd c1 (nd c1 (nd c1 (nd c1 (nd c2 (nd (spec.ChipOk.l0.spec a0 a1 K 0 _ e1) (nd (spec.ChipOk.l1.spec a0 a1 K 0 _ e2) trivial)))))))) (by kernel_rfl)
def spec.l2Copy.f (a0 : List ByteArray) (a1 : List Int) : Option (Unit) :=
  ck (([] ++ a0).length * 16 ≤ 70368744177664) (ck (([] ++ a1).length * 8 ≤ 70368744177664) (some ()))
theorem spec.l2Copy.spec (a0 : List ByteArray) (a1 : List Int) (o : Unit) (h : spec.l2Copy.f a0 a1 = some o) : Den.Spec Try.prog 92 [.v (.agg [.sl 0 0 a0.length, .sl 1 0 a1.length])] [some ⟨false, .strs a0⟩, some ⟨false, .ints .i64 a1⟩] (.v (.agg [.sl 2 0 (([] ++ a0).length), .sl 3 0 (([] ++ a1).length)])) [some ⟨false, .strs a0⟩, some ⟨false, .ints .i64 a1⟩, some ⟨true, .strs ([] ++ a0)⟩, some ⟨true, .ints .i64 ([] ++ a1)⟩] := by
  unfold spec.l2Copy.f at h
  obtain ⟨p1, h⟩ := ck_some h
  obtain ⟨p2, h⟩ := ck_some h
  obtain rfl := Option.some.inj h
  exact Den.Spec.of_walk tab mixed Try.func92 (by kernel_rfl) [.br true, .br true] [] [0, 1, 30, 62] (nd (rfl : (0 : Nat) = 0) (nd (rfl : 0 = 0) (nd p1 (nd (rfl : (0 : Nat) = 0) (nd (rfl : a0.length = a0.length) (nd (rfl : (0 : Nat) = 0) (nd (rfl : 0 = 0) (nd p2 (nd (rfl : (0 : Nat) = 0) (nd (rfl : a1.length = a1.length) trivial)))))))))) (by kernel_rfl)
def spec.Mount.l0.f (a0 : List ByteArray) (a1 : List Int) : Nat → (List Int) → Int → Option ((List Int))
  | 0, _, _ => none
  | k + 1, v40_0, v40_1 =>
    cond (decide (v40_1 < 26)) (ck ((v40_0 ++ [(-1)]).length * 8 ≤ 70368744177664) (spec.Mount.l0.f a0 a1 k (v40_0 ++ [(-1)]) (w64 (v40_1 + 1)))) (some v40_0)
def spec.Mount.l0.s (a0 : List ByteArray) (a1 : List Int) (v40_0 : List Int) (v40_1 : Int) : St := mkSt 73 [(1, one (.ptr 2 0 0)), (2, one (.ptr 3 0 0)), (3, one (.ptr 7 0 0)), (4, one (.sl 11 0 ((List.replicate 26 (0 : Int)).length))), (5, one (.int .i64 v40_1))] [some ⟨false, .strs a0⟩, some ⟨false, .ints .i64 a1⟩, some ⟨true, .cells [.sl 0 0 a0.length, .sl 1 0 a1.length]⟩, some ⟨true, .cells [.sl 4 0 0, .sl 5 0 0, .sl 6 0 0, .int .i64 0]⟩, some ⟨true, .strs []⟩, some ⟨true, .ints .i64 []⟩, some ⟨true, .ints .i64 []⟩, some ⟨true, .cells [.sl 8 0 (([] ++ a0).length), .sl 9 0 (([] ++ a1).length), .sl 10 0 v40_0.length, .int .i64 1]⟩, some ⟨true, .strs ([] ++ a0)⟩, some ⟨true, .ints .i64 ([] ++ a1)⟩, some ⟨true, .ints .i64 v40_0⟩, some ⟨true, .ints .i64 (List.replicate 26 (0 : Int))⟩]
def spec.Mount.l0.e0 (a0 : List ByteArray) (a1 : List Int) (o : (List Int)) : St := mkSt 73 [(1, one (.ptr 2 0 0)), (2, one (.ptr 3 0 0)), (3, one (.ptr 7 0 0)), (4, one (.sl 11 0 ((List.replicate 26 (0 : Int)).length)))] [some ⟨false, .strs a0⟩, some ⟨false, .ints .i64 a1⟩, some ⟨true, .cells [.sl 0 0 a0.length, .sl 1 0 a1.length]⟩, some ⟨true, .cells [.sl 4 0 0, .sl 5 0 0, .sl 6 0 0, .int .i64 0]⟩, some ⟨true, .strs []⟩, some ⟨true, .ints .i64 []⟩, some ⟨true, .ints .i64 []⟩, some ⟨true, .cells [.sl 8 0 (([] ++ a0).length), .sl 9 0 (([] ++ a1).length), .sl 10 0 o.length, .int .i64 1]⟩, some ⟨true, .strs ([] ++ a0)⟩, some ⟨true, .ints .i64 ([] ++ a1)⟩, some ⟨true, .ints .i64 o⟩, some ⟨true, .ints .i64 (List.replicate 26 (0 : Int))⟩]
def spec.Mount.l0.x (a0 : List ByteArray) (a1 : List Int) : ((List Int)) → AExit × St := fun o => (.exit 0, spec.Mount.l0.e0 a0 a1 o)
theorem spec.Mount.l0.spec (a0 : List ByteArray) (a1 : List Int) : ∀ (k : Nat) (v40_0 : List Int) (v40_1 : Int) (o : (List Int)), spec.Mount.l0.f a0 a1 k v40_0 v40_1 = some o → LoopSpec Try.prog 2 (loopN Try.f42 0) (spec.Mount.l0.s a0 a1 v40_0 v40_1) (spec.Mount.l0.x a0 a1 o).1 (spec.Mount.l0.x a0 a1 o).2
  | 0, _, _, _, h => by cases h
  | k + 1, v40_0, v40_1, o, h => by
    unfold spec.Mount.l0.f at h
    rcases br_cases h with ⟨c1, h⟩ | ⟨c1, h⟩
    · obtain ⟨p1, h⟩ := ck_some h
      exact .of_step tab mixed [.br true, .br true] [] [1, 2, 3, 4, 5] [0, 1, 2, 3, 4, 5, 6, 7, 8, 9, 13, 11] (s1 := spec.Mount.l0.s a0 a1 (v40_0 ++ [(-1)]) (w64 (v40_1 + 1))) (nd c1 (nd (rfl : (0 : Nat) = 0) (nd (rfl : v40_0.length = v40_0.length) (nd p1 (nd (rfl : (0 : Nat) = 0) (nd (rfl : 1 = 1) trivial)))))) (by kernel_rfl) (spec.Mount.l0.spec a0 a1 k (v40_0 ++ [(-1)]) (w64 (v40_1 + 1)) _ h)
    · obtain rfl := Option.some.inj h
      exact .of_done tab mixed [.br false] [] [1, 2, 3, 4] [0, 1, 2, 3, 4, 5, 6, 7, 8, 9, 10, 11] rfl (nd c1 trivial) (by kernel_rfl)
def spec.GetNum.l0.f (a0 : List Int) (a1 : Int) : Nat → Int → Int → Option ((Int × Int × Bool) ⊕ Unit)
  | 0, _, _ => none
  | k + 1, v25_0, v25_1 =>
    cond (decide (v25_1 < 5)) (cond (decide (a1 < 0)) (some (.inl (0, 0, false))) (cond (decide (a1 ≥ (w64 ((a0.length : Int) - v25_1)))) (some (.inl (0, 0, false))) (ck (0 ≤ (w64 (a1 + v25_1))) (ck ((w64 (a1 + v25_1)) < (a0.length : Int)) (ck (0 ≤ (w64 (7 * v25_1))) (cond (decide ((w64 (a0.getD ((w64 (a1 + v25_1)).toNat) 0)) < 128)) (cond (decide (v25_1 > 0)) (cond ((w64 (a0.getD ((w64 (a1 + v25_1)).toNat) 0)) == 0) (some (.inl (0, 0, false))) (cond (decide ((bits2 .i64 (· ||| ·) v25_0 (w64 (((w64 (a0.getD ((w64 (a1 + v25_1)).toNat) 0)).tmod 128) * 2 ^ (min (w64 (7 * v25_1)).toNat 64)))) > 1000000000)) (some (.inl (0, 0, false))) (some (.inl (bits2 .i64 (· ||| ·) v25_0 (w64 (((w64 (a0.getD ((w64 (a1 + v25_1)).toNat) 0)).tmod 128) * 2 ^ (min (w64 (7 * v25_1)).toNat 64))), w64 ((w64 (a1 + v25_1)) + 1), true))))) (cond (decide ((bits2 .i64 (· ||| ·) v25_0 (w64 (((w64 (a0.getD ((w64 (a1 + v25_1)).toNat) 0)).tmod 128) * 2 ^ (min (w64 (7 * v25_1)).toNat 64)))) > 1000000000)) (some (.inl (0, 0, false))) (some (.inl (bits2 .i64 (· ||| ·) v25_0 (w64 (((w64 (a0.getD ((w64 (a1 + v25_1)).toNat) 0)).tmod 128) * 2 ^ (min (w64 (7 * v25_1)).toNat 64))), w64 ((w64 (a1 + v25_1)) + 1), true))))) (spec.GetNum.l0.f a0 a1 k (bits2 .i64 (· ||| ·) v25_0 (w64 (((w64 (a0.getD ((w64 (a1 + v25_1)).toNat) 0)).tmod 128) * 2 ^ (min (w64 (7 * v25_1)).toNat 64)))) (w64 (v25_1 + 1))))))))) (some (.inr (())))
def spec.GetNum.l0.s (a0 : List Int) (a1 : Int) (v25_0 : Int) (v25_1 : Int) : St := mkSt 55 [(0, one (.sl 0 0 a0.length)), (1, one (.int .i64 a1)), (7, one (.int .i64 v25_0)), (8, one (.int .i64 v25_1))] [some ⟨false, .ints .u8 a0⟩]
def spec.GetNum.l0.e0 (a0 : List Int) (a1 : Int) (o : Int × Int × Bool) : St := mkSt 55 [(4, one (.int .i64 o.1)), (5, one (.int .i64 o.2.1)), (6, one (.bool o.2.2))] [some ⟨false, .ints .u8 a0⟩]
def spec.GetNum.l0.e1 (a0 : List Int) (a1 : Int) (o : Unit) : St := mkSt 55 [] [some ⟨false, .ints .u8 a0⟩]
def spec.GetNum.l0.x (a0 : List Int) (a1 : Int) : ((Int × Int × Bool) ⊕ Unit) → AExit × St := Sum.elim (fun o => (.ret, spec.GetNum.l0.e0 a0 a1 o)) (fun o => (.exit 0, spec.GetNum.l0.e1 a0 a1 o))
theorem spec.GetNum.l0.spec (a0 : List Int) (a1 : Int) : ∀ (k : Nat) (v25_0 : Int) (v25_1 : Int) (o : (Int × Int × Bool) ⊕ Unit), spec.GetNum.l0.f a0 a1 k v25_0 v25_1 = some o → LoopSpec Try.prog 1 (loopN Try.f129 0) (spec.GetNum.l0.s a0 a1 v25_0 v25_1) (spec.GetNum.l0.x a0 a1 o).1 (spec.GetNum.l0.x a0 a1 o).2
  | 0, _, _, _, h => by cases h
  | k + 1, v25_0, v25_1, o, h => by
    unfold spec.GetNum.l0.f at h
    rcases br_cases h with ⟨c1, h⟩ | ⟨c1, h⟩
    · rcases br_cases h with ⟨c2, h⟩ | ⟨c2, h⟩
      · obtain rfl := Option.some.inj h
        exact .of_done tab mixed [.br true, .br true, .br true, .br true, .br true, .br true, .br true, .br true, .br true] [] [4, 5, 6] [0] rfl (nd c1 (nd c2 (nd c2 (nd c2 (nd c2 (nd c2 (nd c2 (nd c2 (nd tt trivial))))))))) (by kernel_rfl)
      · rcases br_cases h with ⟨c3, h⟩ | ⟨c3, h⟩
        · obtain rfl := Option.some.inj h
          exact .of_done tab mixed [.br true, .br false, .br false, .br false, .br false, .br false, .br false, .br false, .br true] [] [4, 5, 6] [0] rfl (nd c1 (nd c2 (nd c2 (nd c2 (nd c2 (nd c2 (nd c2 (nd c2 (nd c3 trivial))))))))) (by kernel_rfl)
        · obtain ⟨p1, h⟩ := ck_some h
          obtain ⟨p2, h⟩ := ck_some h
          obtain ⟨p3, h⟩ := ck_some h
          rcases br_cases h with ⟨c4, h⟩ | ⟨c4, h⟩
          · rcases br_cases h with ⟨c5, h⟩ | ⟨c5, h⟩
            · rcases br_cases h with ⟨c6, h⟩ | ⟨c6, h⟩
              · obtain rfl := Option.some.inj h
                exact .of_done tab mixed [.br true, .br false, .br false, .br false, .br false, .br false, .br false, .br false, .br false, .br true, .br true, .br true, .br true, .br true, .br true, .br true, .br true] [] [4, 5, 6] [0] rfl (nd c1 (nd c2 (nd c2 (nd c2 (nd c2 (nd c2 (nd c2 (nd c2 (nd c3 (nd p1 (nd p2 (nd (tn p1 p2) (nd (by decide : (128 : Int) ≠ 0) (nd p3 (nd c4 (nd c5 (nd c5 (nd c5 (nd c6 (nd c6 (nd c6 (nd tt trivial)))))))))))))))))))))) (by kernel_rfl)
              · rcases br_cases h with ⟨c7, h⟩ | ⟨c7, h⟩
                · obtain rfl := Option.some.inj h
                  exact .of_done tab mixed [.br true, .br false, .br false, .br false, .br false, .br false, .br false, .br false, .br false, .br true, .br true, .br true, .br true, .br false, .br false, .br false, .br true] [] [4, 5, 6] [0] rfl (nd c1 (nd c2 (nd c2 (nd c2 (nd c2 (nd c2 (nd c2 (nd c2 (nd c3 (nd p1 (nd p2 (nd (tn p1 p2) (nd (by decide : (128 : Int) ≠ 0) (nd p3 (nd c4 (nd c5 (nd c5 (nd c5 (nd c6 (nd c6 (nd c6 (nd c7 trivial)))))))))))))))))))))) (by kernel_rfl)
                · obtain rfl := Option.some.inj h
                  exact .of_done tab mixed [.br true, .br false, .br false, .br false, .br false, .br false, .br false, .br false, .br false, .br true, .br true, .br true, .br true, .br false, .br false, .br false, .br false] [] [4, 5, 6] [0] rfl (nd c1 (nd c2 (nd c2 (nd c2 (nd c2 (nd c2 (nd c2 (nd c2 (nd c3 (nd p1 (nd p2 (nd (tn p1 p2) (nd (by decide : (128 : Int) ≠ 0) (nd p3 (nd c4 (nd c5 (nd c5 (nd c5 (nd c6 (nd c6 (nd c6 (nd c7 trivial)))))))))))))))))))))) (by kernel_rfl)
            · rcases br_cases h with ⟨c6, h⟩ | ⟨c6, h⟩
              · obtain rfl := Option.some.inj h
                exact .of_done tab mixed [.br true, .br false, .br false, .br false, .br false, .br false, .br false, .br false, .br false, .br true, .br false, .br false, .br false, .br false, .br false, .br false, .br true] [] [4, 5, 6] [0] rfl (nd c1 (nd c2 (nd c2 (nd c2 (nd c2 (nd c2 (nd c2 (nd c2 (nd c3 (nd p1 (nd p2 (nd (tn p1 p2) (nd (by decide : (128 : Int) ≠ 0) (nd p3 (nd c4 (nd c5 (nd c5 (nd c5 (nd ff (nd ff (nd ff (nd c6 trivial)))))))))))))))))))))) (by kernel_rfl)
              · obtain rfl := Option.some.inj h
                exact .of_done tab mixed [.br true, .br false, .br false, .br false, .br false, .br false, .br false, .br false, .br false, .br true, .br false, .br false, .br false, .br false, .br false, .br false, .br false] [] [4, 5, 6] [0] rfl (nd c1 (nd c2 (nd c2 (nd c2 (nd c2 (nd c2 (nd c2 (nd c2 (nd c3 (nd p1 (nd p2 (nd (tn p1 p2) (nd (by decide : (128 : Int) ≠ 0) (nd p3 (nd c4 (nd c5 (nd c5 (nd c5 (nd ff (nd ff (nd ff (nd c6 trivial)))))))))))))))))))))) (by kernel_rfl)
          · exact .of_step tab mixed [.br true, .br false, .br false, .br false, .br false, .br false, .br false, .br false, .br false, .br false] [] [0, 1, 7, 8] [0] (s1 := spec.GetNum.l0.s a0 a1 (bits2 .i64 (· ||| ·) v25_0 (w64 (((w64 (a0.getD ((w64 (a1 + v25_1)).toNat) 0)).tmod 128) * 2 ^ (min (w64 (7 * v25_1)).toNat 64)))) (w64 (v25_1 + 1))) (nd c1 (nd c2 (nd c2 (nd c2 (nd c2 (nd c2 (nd c2 (nd c2 (nd c3 (nd p1 (nd p2 (nd (tn p1 p2) (nd (by decide : (128 : Int) ≠ 0) (nd p3 (nd c4 trivial))))))))))))))) (by kernel_rfl) (spec.GetNum.l0.spec a0 a1 k (bits2 .i64 (· ||| ·) v25_0 (w64 (((w64 (a0.getD ((w64 (a1 + v25_1)).toNat) 0)).tmod 128) * 2 ^ (min (w64 (7 * v25_1)).toNat 64)))) (w64 (v25_1 + 1)) _ h)
    · obtain rfl := Option.some.inj h
      exact .of_done tab mixed [.br false] [] [] [0] rfl (nd c1 trivial) (by kernel_rfl)
def spec.GetNum.f (K : Nat) (a0 : List Int) (a1 : Int) : Option (Int × Int × Bool) :=
  Option.bind (spec.GetNum.l0.f a0 a1 K 0 0) fun x1 => (Sum.elim (fun x1 => some (x1.1, x1.2.1, x1.2.2)) (fun x1 => some (0, 0, false))) x1
theorem spec.GetNum.spec (K : Nat) (a0 : List Int) (a1 : Int) (o : Int × Int × Bool) (h : spec.GetNum.f K a0 a1 = some o) : Den.Spec Try.prog 129 [one (.sl 0 0 a0.length), one (.int .i64 a1)] [some ⟨false, .ints .u8 a0⟩] (.tup [.c (.int .i64 o.1), .c (.int .i64 o.2.1), .c (.bool o.2.2)]) [some ⟨false, .ints .u8 a0⟩] := by
  unfold spec.GetNum.f at h
  obtain ⟨x1, e1, h⟩ := bind_some h
  rcases x1 with x1 | x1
  · obtain rfl := Option.some.inj h
    exact Den.Spec.of_walk tab mixed Try.func129 (by kernel_rfl) [.loop [] [0, 1, 7, 8] [0] (.ret) (spec.GetNum.l0.e0 a0 a1 x1)] [] [0] (nd (spec.GetNum.l0.spec a0 a1 K 0 0 _ e1) trivial) (by kernel_rfl)
  · obtain rfl := Option.some.inj h
    exact Den.Spec.of_walk tab mixed Try.func129 (by kernel_rfl) [.loop [] [0, 1, 7, 8] [0] (.exit 0) (spec.GetNum.l0.e1 a0 a1 x1)] [] [0] (nd (spec.GetNum.l0.spec a0 a1 K 0 0 _ e1) trivial) (by kernel_rfl)
def spec.GetText.f (K : Nat) (a0 : List Int) (a1 : Int) : Option (ByteArray × Int × Bool) :=
  Option.bind (spec.GetNum.f K a0 a1) fun x1 => cond (x1.2.2) (cond (decide (x1.1 > 400)) (some (noVal, 0, false)) (cond (decide (x1.1 > (w64 ((a0.length : Int) - x1.2.1)))) (some (noVal, 0, false)) (ck (0 ≤ x1.2.1) (ck (x1.2.1 ≤ (w64 (x1.2.1 + x1.1))) (ck ((w64 (x1.2.1 + x1.1)) ≤ (a0.length : Int)) (ck (x1.2.1.toNat + ((w64 (x1.2.1 + x1.1)).toNat - x1.2.1.toNat) ≤ a0.length) (some (ofBytes ((a0.drop x1.2.1.toNat).take ((w64 (x1.2.1 + x1.1)).toNat - x1.2.1.toNat)), w64 (x1.2.1 + x1.1), true)))))))) (some (noVal, 0, false))
theorem spec.GetText.spec (K : Nat) (a0 : List Int) (a1 : Int) (o : ByteArray × Int × Bool) (h : spec.GetText.f K a0 a1 = some o) : Den.Spec Try.prog 130 [one (.sl 0 0 a0.length), one (.int .i64 a1)] [some ⟨false, .ints .u8 a0⟩] (.tup [.c (.str o.1), .c (.int .i64 o.2.1), .c (.bool o.2.2)]) [some ⟨false, .ints .u8 a0⟩] := by
  unfold spec.GetText.f at h
  obtain ⟨x1, e1, h⟩ := bind_some h
  rcases br_cases h with ⟨c1, h⟩ | ⟨c1, h⟩
  · rcases br_cases h with ⟨c2, h⟩ | ⟨c2, h⟩
    · obtain rfl := Option.some.inj h
      exact Den.Spec.of_walk tab mixed Try.func130 (by kernel_rfl) [.call [] [(0, true)] (.tup [.c (.int .i64 x1.1), .c (.int .i64 x1.2.1), .c (.bool x1.2.2)]) [some ⟨false, .ints .u8 a0⟩], .br false, .br false, .br false, .br true, .br true, .br true, .br true, .br true, .br true, .br true, .br true] [] [0] (nd (spec.GetNum.spec K a0 a1 _ e1) (nd (rfl : (0 : Nat) = 0) (nd (rfl : a0.length = a0.length) (nd (nf c1) (nd (nf c1) (nd (nf c1) (nd c2 (nd c2 (nd c2 (nd c2 (nd c2 (nd c2 (nd c2 (nd tt trivial)))))))))))))) (by kernel_rfl)
    · rcases br_cases h with ⟨c3, h⟩ | ⟨c3, h⟩
      · obtain rfl := Option.some.inj h
        exact Den.Spec.of_walk tab mixed Try.func130 (by kernel_rfl) [.call [] [(0, true)] (.tup [.c (.int .i64 x1.1), .c (.int .i64 x1.2.1), .c (.bool x1.2.2)]) [some ⟨false, .ints .u8 a0⟩], .br false, .br false, .br false, .br false, .br false, .br false, .br false, .br false, .br false, .br false, .br true] [] [0] (nd (spec.GetNum.spec K a0 a1 _ e1) (nd (rfl : (0 : Nat) = 0) (nd (rfl : a0.length = a0.length) (nd (nf c1) (nd (nf c1) (nd (nf c1) (nd c2 (nd c2 (nd c2 (nd c2 (nd c2 (nd c2 (nd c2 (nd c3 trivial)))))))))))))) (by kernel_rfl)
      · obtain ⟨p1, h⟩ := ck_some h
        obtain ⟨p2, h⟩ := ck_some h
        obtain ⟨p3, h⟩ := ck_some h
        obtain ⟨p4, h⟩ := ck_some h
        obtain rfl := Option.some.inj h
        exact Den.Spec.of_walk tab mixed Try.func130 (by kernel_rfl) [.call [] [(0, true)] (.tup [.c (.int .i64 x1.1), .c (.int .i64 x1.2.1), .c (.bool x1.2.2)]) [some ⟨false, .ints .u8 a0⟩], .br false, .br false, .br false, .br false, .br false, .br false, .br false, .br false, .br false, .br false, .br false, .br false] [] [0] (nd (spec.GetNum.spec K a0 a1 _ e1) (nd (rfl : (0 : Nat) = 0) (nd (rfl : a0.length = a0.length) (nd (nf c1) (nd (nf c1) (nd (nf c1) (nd c2 (nd c2 (nd c2 (nd c2 (nd c2 (nd c2 (nd c2 (nd c3 (nd p1 (nd p2 (nd p3 (nd p4 trivial)))))))))))))))))) (by kernel_rfl)
  · obtain rfl := Option.some.inj h
    exact Den.Spec.of_walk tab mixed Try.func130 (by kernel_rfl) [.call [] [(0, true)] (.tup [.c (.int .i64 x1.1), .c (.int .i64 x1.2.1), .c (.bool x1.2.2)]) [some ⟨false, .ints .u8 a0⟩], .br true, .br true, .br true, .br true, .br true, .br true, .br true, .br true, .br true, .br true, .br true] [] [0] (nd (spec.GetNum.spec K a0 a1 _ e1) (nd (rfl : (0 : Nat) = 0) (nd (rfl : a0.length = a0.length) (nd (nt c1) (nd (nt c1) (nd (nt c1) (nd tt (nd tt (nd tt (nd tt (nd tt (nd tt (nd tt (nd tt trivial)))))))))))))) (by kernel_rfl)
def spec.RecOk.f (a0 : Int) (a1 : Int) (a2 : ByteArray) : Option (Bool) :=
  Option.bind (spec.l1In.f a0 0 25) fun x1 => cond (x1) (Option.bind (spec.l1In.f a1 1 1000000000) fun x2 => cond (x2) (some (decide ((a2.size : Int) ≤ 400))) (some false)) (some false)
theorem spec.RecOk.spec (a0 : Int) (a1 : Int) (a2 : ByteArray) (o : Bool) (h : spec.RecOk.f a0 a1 a2 = some o) : Den.Spec Try.prog 148 [.v (.agg [.int .i64 a0, .int .i64 a1, .str a2])] [] (one (.bool o)) [] := by
  unfold spec.RecOk.f at h
  obtain ⟨x1, e1, h⟩ := bind_some h
  rcases br_cases h with ⟨c1, h⟩ | ⟨c1, h⟩
  · obtain ⟨x2, e2, h⟩ := bind_some h
    rcases br_cases h with ⟨c2, h⟩ | ⟨c2, h⟩
    · obtain rfl := Option.some.inj h
      exact Den.Spec.of_walk tab mixed Try.func148 (by kernel_rfl) [.call [] [] (one (.bool x1)) [], .br true, .br true, .br true, .call [] [] (one (.bool x2)) [], .br true, .br true, .br true, .br true, .br true, .br true] [] [] (nd (spec.l1In.spec a0 0 25 _ e1) (nd c1 (nd c1 (nd c1 (nd (spec.l1In.spec a1 1 1000000000 _ e2) (nd c1 (nd c2 (nd c2 (nd c2 (nd c2 (nd c2 trivial))))))))))) (by kernel_rfl)
    · obtain rfl := Option.some.inj h
      exact Den.Spec.of_walk tab mixed Try.func148 (by kernel_rfl) [.call [] [] (one (.bool x1)) [], .br true, .br true, .br true, .call [] [] (one (.bool x2)) [], .br true, .br false, .br false, .br false, .br false, .br false] [] [] (nd (spec.l1In.spec a0 0 25 _ e1) (nd c1 (nd c1 (nd c1 (nd (spec.l1In.spec a1 1 1000000000 _ e2) (nd c1 (nd c2 (nd c2 (nd c2 (nd c2 (nd c2 trivial))))))))))) (by kernel_rfl)
  · obtain rfl := Option.some.inj h
    exact Den.Spec.of_walk tab mixed Try.func148 (by kernel_rfl) [.call [] [] (one (.bool x1)) [], .br false, .br false, .br false, .br false, .br false, .br false, .br false, .br false, .br false] [] [] (nd (spec.l1In.spec a0 0 25 _ e1) (nd c1 (nd c1 (nd c1 (nd c1 (nd ff (nd ff (nd ff (nd ff (nd ff trivial)))))))))) (by kernel_rfl)
def spec.PutNum.l0.f : Nat → Int → (List Int) → Option (Int × (List Int))
  | 0, _, _ => none
  | k + 1, v30_0, v30_1 =>
    cond (decide (v30_0 > 127)) (ck ((v30_1 ++ [IntKind.u8.wrap (w64 ((v30_0.tmod 128) + 128))]).length * 1 ≤ 70368744177664) (spec.PutNum.l0.f k (w64 (v30_0.tdiv 128)) (v30_1 ++ [IntKind.u8.wrap (w64 ((v30_0.tmod 128) + 128))]))) (some (v30_0, v30_1))
def spec.PutNum.l0.s (v30_0 : Int) (v30_1 : List Int) : St := mkSt 25 [(0, one (.int .i64 v30_0)), (3, one (.sl 0 0 v30_1.length))] [some ⟨true, .ints .u8 v30_1⟩]
def spec.PutNum.l0.e0 (o : Int × (List Int)) : St := mkSt 25 [(0, one (.int .i64 o.1)), (3, one (.sl 0 0 o.2.length))] [some ⟨true, .ints .u8 o.2⟩]
def spec.PutNum.l0.x : (Int × (List Int)) → AExit × St := fun o => (.exit 0, spec.PutNum.l0.e0 o)
theorem spec.PutNum.l0.spec : ∀ (k : Nat) (v30_0 : Int) (v30_1 : List Int) (o : Int × (List Int)), spec.PutNum.l0.f k v30_0 v30_1 = some o → LoopSpec Try.prog 0 (loopN Try.f149 0) (spec.PutNum.l0.s v30_0 v30_1) (spec.PutNum.l0.x o).1 (spec.PutNum.l0.x o).2
  | 0, _, _, _, h => by cases h
  | k + 1, v30_0, v30_1, o, h => by
    unfold spec.PutNum.l0.f at h
    rcases br_cases h with ⟨c1, h⟩ | ⟨c1, h⟩
    · obtain ⟨p1, h⟩ := ck_some h
      exact .of_step tab mixed [.br true, .br true] [] [0, 3] [2] (s1 := spec.PutNum.l0.s (w64 (v30_0.tdiv 128)) (v30_1 ++ [IntKind.u8.wrap (w64 ((v30_0.tmod 128) + 128))])) (nd c1 (nd (by decide : (128 : Int) ≠ 0) (nd (rfl : (0 : Nat) = 0) (nd (rfl : v30_1.length = v30_1.length) (nd p1 (nd (rfl : (0 : Nat) = 0) (nd (rfl : 1 = 1) (nd (by decide : (128 : Int) ≠ 0) trivial)))))))) (by kernel_rfl) (spec.PutNum.l0.spec k (w64 (v30_0.tdiv 128)) (v30_1 ++ [IntKind.u8.wrap (w64 ((v30_0.tmod 128) + 128))]) _ h)
    · obtain rfl := Option.some.inj h
      exact .of_done tab mixed [.br false] [] [0, 3] [0] rfl (nd c1 trivial) (by kernel_rfl)
def spec.PutNum.f (K : Nat) (a0 : Int) : Option ((List Int)) :=
  Option.bind (spec.l1In.f a0 0 1000000000) fun x1 => cond (x1) (Option.bind (spec.PutNum.l0.f K a0 []) fun x2 => ck ((x2.2 ++ [IntKind.u8.wrap x2.1]).length * 1 ≤ 70368744177664) (some (x2.2 ++ [IntKind.u8.wrap x2.1]))) (some [])
theorem spec.PutNum.spec (K : Nat) (a0 : Int) (o : (List Int)) (h : spec.PutNum.f K a0 = some o) : Den.Spec Try.prog 149 [one (.int .i64 a0)] [] (one (.sl 0 0 o.length)) [some ⟨true, .ints .u8 o⟩] := by
  unfold spec.PutNum.f at h
  obtain ⟨x1, e1, h⟩ := bind_some h
  rcases br_cases h with ⟨c1, h⟩ | ⟨c1, h⟩
  · obtain ⟨x2, e2, h⟩ := bind_some h
    obtain ⟨p1, h⟩ := ck_some h
    obtain rfl := Option.some.inj h
    exact Den.Spec.of_walk tab mixed Try.func149 (by kernel_rfl) [.call [] [] (one (.bool x1)) [], .br false, .loop [] [0, 3] [0] (.exit 0) (spec.PutNum.l0.e0 x2), .br true] [] [2] (nd (spec.l1In.spec a0 0 1000000000 _ e1) (nd (nf c1) (nd (spec.PutNum.l0.spec K a0 [] _ e2) (nd (rfl : (0 : Nat) = 0) (nd (rfl : x2.2.length = x2.2.length) (nd p1 (nd (rfl : (0 : Nat) = 0) (nd (rfl : 1 = 1) trivial)))))))) (by kernel_rfl)
  · obtain rfl := Option.some.inj h
    exact Den.Spec.of_walk tab mixed Try.func149 (by kernel_rfl) [.call [] [] (one (.bool x1)) [], .br true] [] [0] (nd (spec.l1In.spec a0 0 1000000000 _ e1) (nd (nt c1) trivial)) (by kernel_rfl)
def spec.PutText.f (K : Nat) (a0 : ByteArray) : Option ((List Int)) :=
  cond (decide ((a0.size : Int) > 400)) (some []) (Option.bind (spec.PutNum.f K (a0.size : Int)) fun x1 => ck ((x1 ++ (bytesL a0)).length * 1 ≤ 70368744177664) (some (x1 ++ (bytesL a0))))
theorem spec.PutText.spec (K : Nat) (a0 : ByteArray) (o : (List Int)) (h : spec.PutText.f K a0 = some o) : Den.Spec Try.prog 150 [one (.str a0)] [] (one (.sl 0 0 o.length)) [some ⟨true, .ints .u8 o⟩] := by
  unfold spec.PutText.f at h
  rcases br_cases h with ⟨c1, h⟩ | ⟨c1, h⟩
  · obtain rfl := Option.some.inj h
    exact Den.Spec.of_walk tab mixed Try.func150 (by kernel_rfl) [.br true] [] [0] (nd c1 trivial) (by kernel_rfl)
  · obtain ⟨x1, e1, h⟩ := bind_some h
    obtain ⟨p1, h⟩ := ck_some h
    obtain rfl := Option.some.inj h
    exact Den.Spec.of_walk tab mixed Try.func150 (by kernel_rfl) [.br false, .call [] [] (one (.sl 0 0 x1.length)) [some ⟨true, .ints .u8 x1⟩], .br true] [] [2] (nd c1 (nd (spec.PutNum.spec K (a0.size : Int) _ e1) (nd (rfl : (0 : Nat) = 0) (nd (rfl : x1.length = x1.length) (nd p1 (nd (rfl : (0 : Nat) = 0) (nd (rfl : (bytesL a0).length = (bytesL a0).length) trivial))))))) (by kernel_rfl)
def spec.Sum.l0.f (a0 : List Int) : Nat → Int → Int → Option (Int)
  | 0, _, _ => none
  | k + 1, v34_0, v34_1 =>
    cond (decide (v34_1 < (a0.length : Int))) (ck (0 ≤ v34_1) (spec.Sum.l0.f a0 k ((w64 ((w64 (31 * v34_0)) + (w64 (a0.getD v34_1.toNat 0)))).tmod 1000003) (w64 (v34_1 + 1)))) (some v34_0)
def spec.Sum.l0.s (a0 : List Int) (v34_0 : Int) (v34_1 : Int) : St := mkSt 21 [(0, one (.sl 0 0 a0.length)), (3, one (.int .i64 v34_0)), (4, one (.int .i64 v34_1))] [some ⟨false, .ints .u8 a0⟩]
def spec.Sum.l0.e0 (a0 : List Int) (o : Int) : St := mkSt 21 [(3, one (.int .i64 o))] [some ⟨false, .ints .u8 a0⟩]
def spec.Sum.l0.x (a0 : List Int) : (Int) → AExit × St := fun o => (.exit 0, spec.Sum.l0.e0 a0 o)
theorem spec.Sum.l0.spec (a0 : List Int) : ∀ (k : Nat) (v34_0 : Int) (v34_1 : Int) (o : Int), spec.Sum.l0.f a0 k v34_0 v34_1 = some o → LoopSpec Try.prog 1 (loopN Try.f151 0) (spec.Sum.l0.s a0 v34_0 v34_1) (spec.Sum.l0.x a0 o).1 (spec.Sum.l0.x a0 o).2
  | 0, _, _, _, h => by cases h
  | k + 1, v34_0, v34_1, o, h => by
    unfold spec.Sum.l0.f at h
    rcases br_cases h with ⟨c1, h⟩ | ⟨c1, h⟩
    · obtain ⟨p1, h⟩ := ck_some h
      exact .of_step tab mixed [.br true] [] [0, 3, 4] [0] (s1 := spec.Sum.l0.s a0 ((w64 ((w64 (31 * v34_0)) + (w64 (a0.getD v34_1.toNat 0)))).tmod 1000003) (w64 (v34_1 + 1))) (nd c1 (nd p1 (nd (of_decide_eq_true c1) (nd (tn p1 (of_decide_eq_true c1)) (nd (by decide : (1000003 : Int) ≠ 0) trivial))))) (by kernel_rfl) (spec.Sum.l0.spec a0 k ((w64 ((w64 (31 * v34_0)) + (w64 (a0.getD v34_1.toNat 0)))).tmod 1000003) (w64 (v34_1 + 1)) _ h)
    · obtain rfl := Option.some.inj h
      exact .of_done tab mixed [.br false] [] [3] [0] rfl (nd c1 trivial) (by kernel_rfl)
def spec.Sum.f (K : Nat) (a0 : List Int) : Option (Int) :=
  Option.bind (spec.Sum.l0.f a0 K 7 0) fun x1 => some x1
theorem spec.Sum.spec (K : Nat) (a0 : List Int) (o : Int) (h : spec.Sum.f K a0 = some o) : Den.Spec Try.prog 151 [one (.sl 0 0 a0.length)] [some ⟨false, .ints .u8 a0⟩] (one (.int .i64 o)) [some ⟨false, .ints .u8 a0⟩] := by
  unfold spec.Sum.f at h
  obtain ⟨x1, e1, h⟩ := bind_some h
  obtain rfl := Option.some.inj h
  exact Den.Spec.of_walk tab mixed Try.func151 (by kernel_rfl) [.loop [] [0, 3, 4] [0] (.exit 0) (spec.Sum.l0.e0 a0 x1)] [] [0] (nd (spec.Sum.l0.spec a0 K 7 0 _ e1) trivial) (by kernel_rfl)
def spec.RecText.f (K : Nat) (a0 : Int) (a1 : Int) (a2 : ByteArray) : Option (ByteArray) :=
  Option.bind (spec.RecOk.f a0 a1 a2) fun x1 => cond (x1) (Option.bind (spec.PutNum.f K a0) fun x2 => Option.bind (spec.PutNum.f K a1) fun x3 => ck ((x2 ++ x3).length * 1 ≤ 70368744177664) (Option.bind (spec.PutText.f K a2) fun x4 => ck (((x2 ++ x3) ++ x4).length * 1 ≤ 70368744177664) (Option.bind (spec.Sum.f K ((x2 ++ x3) ++ x4)) fun x5 => Option.bind (spec.PutNum.f K x5) fun x6 => ck ((x6 ++ ((x2 ++ x3) ++ x4)).length * 1 ≤ 70368744177664) (some (ofBytes (x6 ++ ((x2 ++ x3) ++ x4))))))) (some noVal)
theorem spec.RecText.spec (K : Nat) (a0 : Int) (a1 : Int) (a2 : ByteArray) (o : ByteArray) (h : spec.RecText.f K a0 a1 a2 = some o) : Den.Spec Try.prog 131 [.v (.agg [.int .i64 a0, .int .i64 a1, .str a2])] [] (one (.str o)) [] := by
  unfold spec.RecText.f at h
  obtain ⟨x1, e1, h⟩ := bind_some h
  rcases br_cases h with ⟨c1, h⟩ | ⟨c1, h⟩
  · obtain ⟨x2, e2, h⟩ := bind_some h
    obtain ⟨x3, e3, h⟩ := bind_some h
    obtain ⟨p1, h⟩ := ck_some h
    obtain ⟨x4, e4, h⟩ := bind_some h
    obtain ⟨p2, h⟩ := ck_some h
    obtain ⟨x5, e5, h⟩ := bind_some h
    obtain ⟨x6, e6, h⟩ := bind_some h
    obtain ⟨p3, h⟩ := ck_some h
    obtain rfl := Option.some.inj h
    exact Den.Spec.of_walk tab mixed Try.func131 (by kernel_rfl) [.call [] [] (one (.bool x1)) [], .br false, .call [] [] (one (.sl 0 0 x2.length)) [some ⟨true, .ints .u8 x2⟩], .call [] [] (one (.sl 0 0 x3.length)) [some ⟨true, .ints .u8 x3⟩], .br true, .call [] [] (one (.sl 0 0 x4.length)) [some ⟨true, .ints .u8 x4⟩], .br true, .call [] [(0, true)] (one (.int .i64 x5)) [some ⟨false, .ints .u8 ((x2 ++ x3) ++ x4)⟩], .call [] [] (one (.sl 0 0 x6.length)) [some ⟨true, .ints .u8 x6⟩], .br true, .br true] [] [] (nd (spec.RecOk.spec a0 a1 a2 _ e1) (nd (nf c1) (nd (spec.PutNum.spec K a0 _ e2) (nd (spec.PutNum.spec K a1 _ e3) (nd (rfl : (0 : Nat) = 0) (nd (rfl : x2.length = x2.length) (nd p1 (nd (rfl : (0 : Nat) = 0) (nd (rfl : x3.length = x3.length) (nd (spec.PutText.spec K a2 _ e4) (nd (rfl : (0 : Nat) = 0) (nd (rfl : (x2 ++ x3).length = (x2 ++ x3).length) (nd p2 (nd (rfl : (0 : Nat) = 0) (nd (rfl : x4.length = x4.length) (nd (spec.Sum.spec K ((x2 ++ x3) ++ x4) _ e5) (nd (rfl : (0 : Nat) = 0) (nd (rfl : ((x2 ++ x3) ++ x4).length = ((x2 ++ x3) ++ x4).length) (nd (spec.PutNum.spec K x5 _ e6) (nd (rfl : (0 : Nat) = 0) (nd (rfl : x6.length = x6.length) (nd p3 (nd (rfl : (0 : Nat) = 0) (nd (rfl : ((x2 ++ x3) ++ x4).length = ((x2 ++ x3) ++ x4).length) (nd (rfl : (0 : Nat) = 0) (nd (rfl : (x6 ++ ((x2 ++ x3) ++ x4)).length = (x6 ++ ((x2 ++ x3) ++ x4)).length) trivial)))))))))))))))))))))))))) (by kernel_rfl)
  · obtain rfl := Option.some.inj h
    exact Den.Spec.of_walk tab mixed Try.func131 (by kernel_rfl) [.call [] [] (one (.bool x1)) [], .br true] [] [] (nd (spec.RecOk.spec a0 a1 a2 _ e1) (nd (nt c1) trivial)) (by kernel_rfl)
def spec.RecRead.f (K : Nat) (a0 : ByteArray) : Option (Int × Int × ByteArray × Bool) :=
  Option.bind (spec.GetNum.f K (bytesL a0) 0) fun x1 => cond (x1.2.2) (Option.bind (spec.GetNum.f K (bytesL a0) x1.2.1) fun x2 => cond (x2.2.2) (Option.bind (spec.GetNum.f K (bytesL a0) x2.2.1) fun x3 => cond (x3.2.2) (Option.bind (spec.GetText.f K (bytesL a0) x3.2.1) fun x4 => cond (x4.2.2) (Option.bind (spec.RecText.f K x2.1 x3.1 x4.1) fun x5 => cond (strEq x5 a0) (some (x2.1, x3.1, x4.1, true)) (some (0, 0, noVal, false))) (some (0, 0, noVal, false))) (some (0, 0, noVal, false))) (some (0, 0, noVal, false))) (some (0, 0, noVal, false))
theorem spec.RecRead.spec (K : Nat) (a0 : ByteArray) (o : Int × Int × ByteArray × Bool) (h : spec.RecRead.f K a0 = some o) : Den.Spec Try.prog 93 [one (.str a0)] [] (.tup [.agg [.int .i64 o.1, .int .i64 o.2.1, .str o.2.2.1], .c (.bool o.2.2.2)]) [] := by
  unfold spec.RecRead.f at h
  obtain ⟨x1, e1, h⟩ := bind_some h
  rcases br_cases h with ⟨c1, h⟩ | ⟨c1, h⟩
  · obtain ⟨x2, e2, h⟩ := bind_some h
    rcases br_cases h with ⟨c2, h⟩ | ⟨c2, h⟩
    · obtain ⟨x3, e3, h⟩ := bind_some h
      rcases br_cases h with ⟨c3, h⟩ | ⟨c3, h⟩
      · obtain ⟨x4, e4, h⟩ := bind_some h
        rcases br_cases h with ⟨c4, h⟩ | ⟨c4, h⟩
        · obtain ⟨x5, e5, h⟩ := bind_some h
          rcases br_cases h with ⟨c5, h⟩ | ⟨c5, h⟩
          · obtain rfl := Option.some.inj h
            exact Den.Spec.of_walk tab mixed Try.func93 (by kernel_rfl) [.call [] [(0, true)] (.tup [.c (.int .i64 x1.1), .c (.int .i64 x1.2.1), .c (.bool x1.2.2)]) [some ⟨false, .ints .u8 (bytesL a0)⟩], .br false, .call [] [(0, true)] (.tup [.c (.int .i64 x2.1), .c (.int .i64 x2.2.1), .c (.bool x2.2.2)]) [some ⟨false, .ints .u8 (bytesL a0)⟩], .br false, .call [] [(0, true)] (.tup [.c (.int .i64 x3.1), .c (.int .i64 x3.2.1), .c (.bool x3.2.2)]) [some ⟨false, .ints .u8 (bytesL a0)⟩], .br false, .call [] [(0, true)] (.tup [.c (.str x4.1), .c (.int .i64 x4.2.1), .c (.bool x4.2.2)]) [some ⟨false, .ints .u8 (bytesL a0)⟩], .br false, .br false, .call [] [] (one (.str x5)) [], .br false, .br false, .br false, .br false] [] [] (nd (spec.GetNum.spec K (bytesL a0) 0 _ e1) (nd (rfl : (0 : Nat) = 0) (nd (rfl : (bytesL a0).length = (bytesL a0).length) (nd (nf c1) (nd (spec.GetNum.spec K (bytesL a0) x1.2.1 _ e2) (nd (rfl : (0 : Nat) = 0) (nd (rfl : (bytesL a0).length = (bytesL a0).length) (nd (nf c2) (nd (spec.GetNum.spec K (bytesL a0) x2.2.1 _ e3) (nd (rfl : (0 : Nat) = 0) (nd (rfl : (bytesL a0).length = (bytesL a0).length) (nd (nf c3) (nd (spec.GetText.spec K (bytesL a0) x3.2.1 _ e4) (nd (rfl : (0 : Nat) = 0) (nd (rfl : (bytesL a0).length = (bytesL a0).length) (nd (nf c4) (nd (nf c4) (nd (spec.RecText.spec K x2.1 x3.1 x4.1 _ e5) (nd (nf c4) (nd (nf c4) (nd (nf c4) (nd (nf c5) trivial)))))))))))))))))))))) (by kernel_rfl)
          · obtain rfl := Option.some.inj h
            exact Den.Spec.of_walk tab mixed Try.func93 (by kernel_rfl) [.call [] [(0, true)] (.tup [.c (.int .i64 x1.1), .c (.int .i64 x1.2.1), .c (.bool x1.2.2)]) [some ⟨false, .ints .u8 (bytesL a0)⟩], .br false, .call [] [(0, true)] (.tup [.c (.int .i64 x2.1), .c (.int .i64 x2.2.1), .c (.bool x2.2.2)]) [some ⟨false, .ints .u8 (bytesL a0)⟩], .br false, .call [] [(0, true)] (.tup [.c (.int .i64 x3.1), .c (.int .i64 x3.2.1), .c (.bool x3.2.2)]) [some ⟨false, .ints .u8 (bytesL a0)⟩], .br false, .call [] [(0, true)] (.tup [.c (.str x4.1), .c (.int .i64 x4.2.1), .c (.bool x4.2.2)]) [some ⟨false, .ints .u8 (bytesL a0)⟩], .br false, .br false, .call [] [] (one (.str x5)) [], .br false, .br false, .br false, .br true] [] [] (nd (spec.GetNum.spec K (bytesL a0) 0 _ e1) (nd (rfl : (0 : Nat) = 0) (nd (rfl : (bytesL a0).length = (bytesL a0).length) (nd (nf c1) (nd (spec.GetNum.spec K (bytesL a0) x1.2.1 _ e2) (nd (rfl : (0 : Nat) = 0) (nd (rfl : (bytesL a0).length = (bytesL a0).length) (nd (nf c2) (nd (spec.GetNum.spec K (bytesL a0) x2.2.1 _ e3) (nd (rfl : (0 : Nat) = 0) (nd (rfl : (bytesL a0).length = (bytesL a0).length) (nd (nf c3) (nd (spec.GetText.spec K (bytesL a0) x3.2.1 _ e4) (nd (rfl : (0 : Nat) = 0) (nd (rfl : (bytesL a0).length = (bytesL a0).length) (nd (nf c4) (nd (nf c4) (nd (spec.RecText.spec K x2.1 x3.1 x4.1 _ e5) (nd (nf c4) (nd (nf c4) (nd (nf c4) (nd (nt c5) trivial)))))))))))))))))))))) (by kernel_rfl)
        · obtain rfl := Option.some.inj h
          exact Den.Spec.of_walk tab mixed Try.func93 (by kernel_rfl) [.call [] [(0, true)] (.tup [.c (.int .i64 x1.1), .c (.int .i64 x1.2.1), .c (.bool x1.2.2)]) [some ⟨false, .ints .u8 (bytesL a0)⟩], .br false, .call [] [(0, true)] (.tup [.c (.int .i64 x2.1), .c (.int .i64 x2.2.1), .c (.bool x2.2.2)]) [some ⟨false, .ints .u8 (bytesL a0)⟩], .br false, .call [] [(0, true)] (.tup [.c (.int .i64 x3.1), .c (.int .i64 x3.2.1), .c (.bool x3.2.2)]) [some ⟨false, .ints .u8 (bytesL a0)⟩], .br false, .call [] [(0, true)] (.tup [.c (.str x4.1), .c (.int .i64 x4.2.1), .c (.bool x4.2.2)]) [some ⟨false, .ints .u8 (bytesL a0)⟩], .br true, .br true, .br true, .br true, .br true, .br true] [] [] (nd (spec.GetNum.spec K (bytesL a0) 0 _ e1) (nd (rfl : (0 : Nat) = 0) (nd (rfl : (bytesL a0).length = (bytesL a0).length) (nd (nf c1) (nd (spec.GetNum.spec K (bytesL a0) x1.2.1 _ e2) (nd (rfl : (0 : Nat) = 0) (nd (rfl : (bytesL a0).length = (bytesL a0).length) (nd (nf c2) (nd (spec.GetNum.spec K (bytesL a0) x2.2.1 _ e3) (nd (rfl : (0 : Nat) = 0) (nd (rfl : (bytesL a0).length = (bytesL a0).length) (nd (nf c3) (nd (spec.GetText.spec K (bytesL a0) x3.2.1 _ e4) (nd (rfl : (0 : Nat) = 0) (nd (rfl : (bytesL a0).length = (bytesL a0).length) (nd (nt c4) (nd (nt c4) (nd (nt c4) (nd (nt c4) (nd (nt c4) (nd tt trivial))))))))))))))))))))) (by kernel_rfl)
      · obtain rfl := Option.some.inj h
        exact Den.Spec.of_walk tab mixed Try.func93 (by kernel_rfl) [.call [] [(0, true)] (.tup [.c (.int .i64 x1.1), .c (.int .i64 x1.2.1), .c (.bool x1.2.2)]) [some ⟨false, .ints .u8 (bytesL a0)⟩], .br false, .call [] [(0, true)] (.tup [.c (.int .i64 x2.1), .c (.int .i64 x2.2.1), .c (.bool x2.2.2)]) [some ⟨false, .ints .u8 (bytesL a0)⟩], .br false, .call [] [(0, true)] (.tup [.c (.int .i64 x3.1), .c (.int .i64 x3.2.1), .c (.bool x3.2.2)]) [some ⟨false, .ints .u8 (bytesL a0)⟩], .br true] [] [] (nd (spec.GetNum.spec K (bytesL a0) 0 _ e1) (nd (rfl : (0 : Nat) = 0) (nd (rfl : (bytesL a0).length = (bytesL a0).length) (nd (nf c1) (nd (spec.GetNum.spec K (bytesL a0) x1.2.1 _ e2) (nd (rfl : (0 : Nat) = 0) (nd (rfl : (bytesL a0).length = (bytesL a0).length) (nd (nf c2) (nd (spec.GetNum.spec K (bytesL a0) x2.2.1 _ e3) (nd (rfl : (0 : Nat) = 0) (nd (rfl : (bytesL a0).length = (bytesL a0).length) (nd (nt c3) trivial)))))))))))) (by kernel_rfl)
    · obtain rfl := Option.some.inj h
      exact Den.Spec.of_walk tab mixed Try.func93 (by kernel_rfl) [.call [] [(0, true)] (.tup [.c (.int .i64 x1.1), .c (.int .i64 x1.2.1), .c (.bool x1.2.2)]) [some ⟨false, .ints .u8 (bytesL a0)⟩], .br false, .call [] [(0, true)] (.tup [.c (.int .i64 x2.1), .c (.int .i64 x2.2.1), .c (.bool x2.2.2)]) [some ⟨false, .ints .u8 (bytesL a0)⟩], .br true] [] [] (nd (spec.GetNum.spec K (bytesL a0) 0 _ e1) (nd (rfl : (0 : Nat) = 0) (nd (rfl : (bytesL a0).length = (bytesL a0).length) (nd (nf c1) (nd (spec.GetNum.spec K (bytesL a0) x1.2.1 _ e2) (nd (rfl : (0 : Nat) = 0) (nd (rfl : (bytesL a0).length = (bytesL a0).length) (nd (nt c2) trivial)))))))) (by kernel_rfl)
  · obtain rfl := Option.some.inj h
    exact Den.Spec.of_walk tab mixed Try.func93 (by kernel_rfl) [.call [] [(0, true)] (.tup [.c (.int .i64 x1.1), .c (.int .i64 x1.2.1), .c (.bool x1.2.2)]) [some ⟨false, .ints .u8 (bytesL a0)⟩], .br true] [] [] (nd (spec.GetNum.spec K (bytesL a0) 0 _ e1) (nd (rfl : (0 : Nat) = 0) (nd (rfl : (bytesL a0).length = (bytesL a0).length) (nd (nt c1) trivial)))) (by kernel_rfl)
def spec.l1Max.f (a0 : Int) (a1 : Int) : Option (Int) :=
  cond (decide (a0 > a1)) (some a0) (some a1)
theorem spec.l1Max.spec (a0 : Int) (a1 : Int) (o : Int) (h : spec.l1Max.f a0 a1 = some o) : Den.Spec Try.prog 89 [one (.int .i64 a0), one (.int .i64 a1)] [] (one (.int .i64 o)) [] := by
  unfold spec.l1Max.f at h
  rcases br_cases h with ⟨c1, h⟩ | ⟨c1, h⟩
  · obtain rfl := Option.some.inj h
    exact Den.Spec.of_walk tab mixed Try.func89 (by kernel_rfl) [.br true] [] [] (nd c1 trivial) (by kernel_rfl)
  · obtain rfl := Option.some.inj h
    exact Den.Spec.of_walk tab mixed Try.func89 (by kernel_rfl) [.br false] [] [] (nd c1 trivial) (by kernel_rfl)
def spec.l1Min.f (a0 : Int) (a1 : Int) : Option (Int) :=
  cond (decide (a0 < a1)) (some a0) (some a1)
theorem spec.l1Min.spec (a0 : Int) (a1 : Int) (o : Int) (h : spec.l1Min.f a0 a1 = some o) : Den.Spec Try.prog 88 [one (.int .i64 a0), one (.int .i64 a1)] [] (one (.int .i64 o)) [] := by
  unfold spec.l1Min.f at h
  rcases br_cases h with ⟨c1, h⟩ | ⟨c1, h⟩
  · obtain rfl := Option.some.inj h
    exact Den.Spec.of_walk tab mixed Try.func88 (by kernel_rfl) [.br true] [] [] (nd c1 trivial) (by kernel_rfl)
  · obtain rfl := Option.some.inj h
    exact Den.Spec.of_walk tab mixed Try.func88 (by kernel_rfl) [.br false] [] [] (nd c1 trivial) (by kernel_rfl)
def spec.Mount.l1.f (K : Nat) (a0 : List ByteArray) (a1 : List Int) : Nat → (List Int) → Int → (List Int) → Int → Option ((List Int) × Int)
  | 0, _, _, _, _ => none
  | k + 1, v41_0, v41_1, v41_2, v41_3 =>
    cond (decide (v41_3 < (a0.length : Int))) (ck (0 ≤ v41_3) (Option.bind (spec.RecRead.f K (a0.getD v41_3.toNat noVal)) fun x1 => cond (x1.2.2.2) (ck (0 ≤ x1.1) (ck (x1.1 < (v41_2.length : Int)) (cond (decide (x1.2.1 > (v41_2.getD x1.1.toNat 0))) (ck (x1.1 < (v41_0.length : Int)) (Option.bind (spec.l1Max.f v41_1 (w64 (x1.2.1 + 1))) fun x2 => Option.bind (spec.l1Min.f x2 1000000000) fun x3 => spec.Mount.l1.f K a0 a1 k (v41_0.set x1.1.toNat v41_3) x3 (v41_2.set x1.1.toNat x1.2.1) (w64 (v41_3 + 1)))) (Option.bind (spec.l1Max.f v41_1 (w64 (x1.2.1 + 1))) fun x2 => Option.bind (spec.l1Min.f x2 1000000000) fun x3 => spec.Mount.l1.f K a0 a1 k v41_0 x3 v41_2 (w64 (v41_3 + 1)))))) (spec.Mount.l1.f K a0 a1 k v41_0 v41_1 v41_2 (w64 (v41_3 + 1))))) (some (v41_0, v41_1))
def spec.Mount.l1.s (K : Nat) (a0 : List ByteArray) (a1 : List Int) (v41_0 : List Int) (v41_1 : Int) (v41_2 : List Int) (v41_3 : Int) : St := mkSt 73 [(1, one (.ptr 2 0 0)), (2, one (.ptr 3 0 0)), (3, one (.ptr 7 0 0)), (4, one (.sl 11 0 v41_2.length)), (6, one (.int .i64 v41_3))] [some ⟨false, .strs a0⟩, some ⟨false, .ints .i64 a1⟩, some ⟨true, .cells [.sl 0 0 a0.length, .sl 1 0 a1.length]⟩, some ⟨true, .cells [.sl 4 0 0, .sl 5 0 0, .sl 6 0 0, .int .i64 0]⟩, some ⟨true, .strs []⟩, some ⟨true, .ints .i64 []⟩, some ⟨true, .ints .i64 []⟩, some ⟨true, .cells [.sl 8 0 (([] ++ a0).length), .sl 9 0 (([] ++ a1).length), .sl 10 0 v41_0.length, .int .i64 v41_1]⟩, some ⟨true, .strs ([] ++ a0)⟩, some ⟨true, .ints .i64 ([] ++ a1)⟩, some ⟨true, .ints .i64 v41_0⟩, some ⟨true, .ints .i64 v41_2⟩]
def spec.Mount.l1.e0 (K : Nat) (a0 : List ByteArray) (a1 : List Int) (o : (List Int) × Int) : St := mkSt 73 [(2, one (.ptr 2 0 0)), (3, one (.ptr 6 0 0))] [some ⟨false, .strs a0⟩, some ⟨false, .ints .i64 a1⟩, some ⟨true, .cells [.sl 3 0 0, .sl 4 0 0, .sl 5 0 0, .int .i64 0]⟩, some ⟨true, .strs []⟩, some ⟨true, .ints .i64 []⟩, some ⟨true, .ints .i64 []⟩, some ⟨true, .cells [.sl 7 0 (([] ++ a0).length), .sl 8 0 (([] ++ a1).length), .sl 9 0 o.1.length, .int .i64 o.2]⟩, some ⟨true, .strs ([] ++ a0)⟩, some ⟨true, .ints .i64 ([] ++ a1)⟩, some ⟨true, .ints .i64 o.1⟩]
def spec.Mount.l1.x (K : Nat) (a0 : List ByteArray) (a1 : List Int) : ((List Int) × Int) → AExit × St := fun o => (.exit 2, spec.Mount.l1.e0 K a0 a1 o)
theorem spec.Mount.l1.spec (K : Nat) (a0 : List ByteArray) (a1 : List Int) : ∀ (k : Nat) (v41_0 : List Int) (v41_1 : Int) (v41_2 : List Int) (v41_3 : Int) (o : (List Int) × Int), spec.Mount.l1.f K a0 a1 k v41_0 v41_1 v41_2 v41_3 = some o → LoopSpec Try.prog 2 (loopN Try.f42 1) (spec.Mount.l1.s K a0 a1 v41_0 v41_1 v41_2 v41_3) (spec.Mount.l1.x K a0 a1 o).1 (spec.Mount.l1.x K a0 a1 o).2
  | 0, _, _, _, _, _, h => by cases h
  | k + 1, v41_0, v41_1, v41_2, v41_3, o, h => by
    unfold spec.Mount.l1.f at h
    rcases br_cases h with ⟨c1, h⟩ | ⟨c1, h⟩
    · obtain ⟨p1, h⟩ := ck_some h
      obtain ⟨x1, e1, h⟩ := bind_some h
      rcases br_cases h with ⟨c2, h⟩ | ⟨c2, h⟩
      · obtain ⟨p2, h⟩ := ck_some h
        obtain ⟨p3, h⟩ := ck_some h
        rcases br_cases h with ⟨c3, h⟩ | ⟨c3, h⟩
        · obtain ⟨p4, h⟩ := ck_some h
          obtain ⟨x2, e2, h⟩ := bind_some h
          obtain ⟨x3, e3, h⟩ := bind_some h
          exact .of_step tab mixed [.br true, .call [] [] (.tup [.agg [.int .i64 x1.1, .int .i64 x1.2.1, .str x1.2.2.1], .c (.bool x1.2.2.2)]) [], .br false, .br true, .call [] [] (one (.int .i64 x2)) [], .call [] [] (one (.int .i64 x3)) []] [] [1, 2, 3, 4, 6] [0, 1, 2, 3, 4, 5, 6, 7, 8, 9, 10, 11] (s1 := mkSt 73 [(1, one (.ptr 2 0 0)), (2, one (.ptr 3 0 0)), (3, one (.ptr 7 0 0)), (4, one (.sl 11 0 v41_2.length)), (6, one (.int .i64 (w64 (v41_3 + 1))))] [some ⟨false, .strs a0⟩, some ⟨false, .ints .i64 a1⟩, some ⟨true, .cells [.sl 0 0 a0.length, .sl 1 0 a1.length]⟩, some ⟨true, .cells [.sl 4 0 0, .sl 5 0 0, .sl 6 0 0, .int .i64 0]⟩, some ⟨true, .strs []⟩, some ⟨true, .ints .i64 []⟩, some ⟨true, .ints .i64 []⟩, some ⟨true, .cells [.sl 8 0 (([] ++ a0).length), .sl 9 0 (([] ++ a1).length), .sl 10 0 v41_0.length, .int .i64 x3]⟩, some ⟨true, .strs ([] ++ a0)⟩, some ⟨true, .ints .i64 ([] ++ a1)⟩, some ⟨true, .ints .i64 (v41_0.set x1.1.toNat v41_3)⟩, some ⟨true, .ints .i64 (v41_2.set x1.1.toNat x1.2.1)⟩]) (nd c1 (nd p1 (nd (of_decide_eq_true c1) (nd (tn p1 (of_decide_eq_true c1)) (nd (spec.RecRead.spec K (a0.getD v41_3.toNat noVal) _ e1) (nd (nf c2) (nd p2 (nd p3 (nd (tn p2 p3) (nd c3 (nd p2 (nd p3 (nd (tn p2 p3) (nd p2 (nd p4 (nd (tn p2 p4) (nd (spec.l1Max.spec v41_1 (w64 (x1.2.1 + 1)) _ e2) (nd (spec.l1Min.spec x2 1000000000 _ e3) trivial)))))))))))))))))) (by kernel_rfl) (LoopSpec.eqs (spec.Mount.l1.spec K a0 a1 k (v41_0.set x1.1.toNat v41_3) x3 (v41_2.set x1.1.toNat x1.2.1) (w64 (v41_3 + 1)) _ h) (by simp only [spec.Mount.l1.s, List.length_set, overL_length] : spec.Mount.l1.s K a0 a1 (v41_0.set x1.1.toNat v41_3) x3 (v41_2.set x1.1.toNat x1.2.1) (w64 (v41_3 + 1)) = mkSt 73 [(1, one (.ptr 2 0 0)), (2, one (.ptr 3 0 0)), (3, one (.ptr 7 0 0)), (4, one (.sl 11 0 v41_2.length)), (6, one (.int .i64 (w64 (v41_3 + 1))))] [some ⟨false, .strs a0⟩, some ⟨false, .ints .i64 a1⟩, some ⟨true, .cells [.sl 0 0 a0.length, .sl 1 0 a1.length]⟩, some ⟨true, .cells [.sl 4 0 0, .sl 5 0 0, .sl 6 0 0, .int .i64 0]⟩, some ⟨true, .strs []⟩, some ⟨true, .ints .i64 []⟩, some ⟨true, .ints .i64 []⟩, some ⟨true, .cells [.sl 8 0 (([] ++ a0).length), .sl 9 0 (([] ++ a1).length), .sl 10 0 v41_0.length, .int .i64 x3]⟩, some ⟨true, .strs ([] ++ a0)⟩, some ⟨true, .ints .i64 ([] ++ a1)⟩, some ⟨true, .ints .i64 (v41_0.set x1.1.toNat v41_3)⟩, some ⟨true, .ints .i64 (v41_2.set x1.1.toNat x1.2.1)⟩]))
        · obtain ⟨x2, e2, h⟩ := bind_some h
          obtain ⟨x3, e3, h⟩ := bind_some h
          exact .of_step tab mixed [.br true, .call [] [] (.tup [.agg [.int .i64 x1.1, .int .i64 x1.2.1, .str x1.2.2.1], .c (.bool x1.2.2.2)]) [], .br false, .br false, .call [] [] (one (.int .i64 x2)) [], .call [] [] (one (.int .i64 x3)) []] [] [1, 2, 3, 4, 6] [0, 1, 2, 3, 4, 5, 6, 7, 8, 9, 10, 11] (s1 := spec.Mount.l1.s K a0 a1 v41_0 x3 v41_2 (w64 (v41_3 + 1))) (nd c1 (nd p1 (nd (of_decide_eq_true c1) (nd (tn p1 (of_decide_eq_true c1)) (nd (spec.RecRead.spec K (a0.getD v41_3.toNat noVal) _ e1) (nd (nf c2) (nd p2 (nd p3 (nd (tn p2 p3) (nd c3 (nd (spec.l1Max.spec v41_1 (w64 (x1.2.1 + 1)) _ e2) (nd (spec.l1Min.spec x2 1000000000 _ e3) trivial)))))))))))) (by kernel_rfl) (spec.Mount.l1.spec K a0 a1 k v41_0 x3 v41_2 (w64 (v41_3 + 1)) _ h)
      · exact .of_step tab mixed [.br true, .call [] [] (.tup [.agg [.int .i64 x1.1, .int .i64 x1.2.1, .str x1.2.2.1], .c (.bool x1.2.2.2)]) [], .br true] [] [1, 2, 3, 4, 6] [0, 1, 2, 3, 4, 5, 6, 7, 8, 9, 10, 11] (s1 := spec.Mount.l1.s K a0 a1 v41_0 v41_1 v41_2 (w64 (v41_3 + 1))) (nd c1 (nd p1 (nd (of_decide_eq_true c1) (nd (tn p1 (of_decide_eq_true c1)) (nd (spec.RecRead.spec K (a0.getD v41_3.toNat noVal) _ e1) (nd (nt c2) trivial)))))) (by kernel_rfl) (spec.Mount.l1.spec K a0 a1 k v41_0 v41_1 v41_2 (w64 (v41_3 + 1)) _ h)
    · obtain rfl := Option.some.inj h
      exact .of_done tab mixed [.br false] [] [2, 3] [0, 1, 3, 4, 5, 6, 7, 8, 9, 10] rfl (nd c1 trivial) (by kernel_rfl)
def spec.Mount.f (K : Nat) (a0 : List ByteArray) (a1 : List Int) : Option ((List ByteArray) × (List Int) × (List Int) × Int) :=
  Option.bind (spec.ChipOk.f K a0 a1) fun x1 => cond (x1) (Option.bind (spec.l2Copy.f a0 a1) fun x2 => ck ((26 * (8 : Int)) ≤ 70368744177664) (Option.bind (spec.Mount.l0.f a0 a1 K [] 0) fun x3 => Option.bind (spec.Mount.l1.f K a0 a1 K x3 1 (List.replicate 26 (0 : Int)) 0) fun x4 => some ([] ++ a0, [] ++ a1, x4.1, x4.2))) (some ([], [], [], 0))
theorem spec.Mount.spec (K : Nat) (a0 : List ByteArray) (a1 : List Int) (o : (List ByteArray) × (List Int) × (List Int) × Int) (h : spec.Mount.f K a0 a1 = some o) : Den.Spec Try.prog 42 [.v (.agg [.sl 0 0 a0.length, .sl 1 0 a1.length])] [some ⟨false, .strs a0⟩, some ⟨false, .ints .i64 a1⟩] (.v (.agg [.sl 2 0 o.1.length, .sl 3 0 o.2.1.length, .sl 4 0 o.2.2.1.length, .int .i64 o.2.2.2])) [some ⟨false, .strs a0⟩, some ⟨false, .ints .i64 a1⟩, some ⟨true, .strs o.1⟩, some ⟨true, .ints .i64 o.2.1⟩, some ⟨true, .ints .i64 o.2.2.1⟩] := by
  unfold spec.Mount.f at h
  obtain ⟨x1, e1, h⟩ := bind_some h
  rcases br_cases h with ⟨c1, h⟩ | ⟨c1, h⟩
  · obtain ⟨x2, e2, h⟩ := bind_some h
    obtain ⟨p1, h⟩ := ck_some h
    obtain ⟨x3, e3, h⟩ := bind_some h
    obtain ⟨x4, e4, h⟩ := bind_some h
    obtain rfl := Option.some.inj h
    exact Den.Spec.of_walk tab mixed Try.func42 (by kernel_rfl) [.call [(0, false), (1, false)] [] (one (.bool x1)) [some ⟨false, .strs a0⟩, some ⟨false, .ints .i64 a1⟩], .br false, .call [(0, false), (1, false)] [] (.v (.agg [.sl 2 0 (([] ++ a0).length), .sl 3 0 (([] ++ a1).length)])) [some ⟨false, .strs a0⟩, some ⟨false, .ints .i64 a1⟩, some ⟨true, .strs ([] ++ a0)⟩, some ⟨true, .ints .i64 ([] ++ a1)⟩], .loop [] [1, 2, 3, 4, 5] [0, 1, 2, 3, 4, 5, 6, 9, 7, 8, 13, 14] (.exit 0) (spec.Mount.l0.e0 a0 a1 x3), .loop [] [1, 2, 3, 4, 6] [0, 1, 2, 3, 4, 5, 6, 7, 8, 9, 10, 11] (.exit 2) (spec.Mount.l1.e0 K a0 a1 x4)] [] [0, 1, 7, 8, 9] (nd (spec.ChipOk.spec K a0 a1 _ e1) (nd (nf c1) (nd (spec.l2Copy.spec a0 a1 _ e2) (nd (by decide : (0 : Int) ≤ 26) (nd (rfl : (26 : Int) = (26 : Int)) (nd p1 (nd (spec.Mount.l0.spec a0 a1 K [] 0 _ e3) (nd (spec.Mount.l1.spec K a0 a1 K x3 1 (List.replicate 26 (0 : Int)) 0 _ e4) trivial)))))))) (by kernel_rfl)
  · obtain rfl := Option.some.inj h
    exact Den.Spec.of_walk tab mixed Try.func42 (by kernel_rfl) [.call [(0, false), (1, false)] [] (one (.bool x1)) [some ⟨false, .strs a0⟩, some ⟨false, .ints .i64 a1⟩], .br true] [] [0, 1, 7, 8, 9] (nd (spec.ChipOk.spec K a0 a1 _ e1) (nd (nt c1) trivial)) (by kernel_rfl)
def spec.l4Ints.l0.f (a0 : List Int) (a1 : List Int) : Nat → Int → Option (Unit ⊕ Unit)
  | 0, _ => none
  | k + 1, v44_0 =>
    cond (decide (v44_0 < (a0.length : Int))) (cond (decide (v44_0 < (a1.length : Int))) (ck (0 ≤ v44_0) (cond ((a0.getD v44_0.toNat 0) != (a1.getD v44_0.toNat 0)) (some (.inl ())) (spec.l4Ints.l0.f a0 a1 k (w64 (v44_0 + 1))))) (some (.inr (())))) (some (.inr (())))
def spec.l4Ints.l0.s (a0 : List Int) (a1 : List Int) (v44_0 : Int) : St := mkSt 32 [(0, one (.sl 0 0 a0.length)), (1, one (.sl 1 0 a1.length)), (5, one (.int .i64 v44_0))] [some ⟨false, .ints .i64 a0⟩, some ⟨false, .ints .i64 a1⟩]
def spec.l4Ints.l0.e0 (a0 : List Int) (a1 : List Int) (o : Unit) : St := mkSt 32 [(4, one (.bool false))] [some ⟨false, .ints .i64 a0⟩, some ⟨false, .ints .i64 a1⟩]
def spec.l4Ints.l0.e1 (a0 : List Int) (a1 : List Int) (o : Unit) : St := mkSt 32 [(0, one (.sl 0 0 a0.length)), (1, one (.sl 1 0 a1.length))] [some ⟨false, .ints .i64 a0⟩, some ⟨false, .ints .i64 a1⟩]
def spec.l4Ints.l0.x (a0 : List Int) (a1 : List Int) : (Unit ⊕ Unit) → AExit × St := Sum.elim (fun o => (.ret, spec.l4Ints.l0.e0 a0 a1 o)) (fun o => (.exit 0, spec.l4Ints.l0.e1 a0 a1 o))
theorem spec.l4Ints.l0.spec (a0 : List Int) (a1 : List Int) : ∀ (k : Nat) (v44_0 : Int) (o : Unit ⊕ Unit), spec.l4Ints.l0.f a0 a1 k v44_0 = some o → LoopSpec Try.prog 2 (loopN Try.f84 0) (spec.l4Ints.l0.s a0 a1 v44_0) (spec.l4Ints.l0.x a0 a1 o).1 (spec.l4Ints.l0.x a0 a1 o).2
  | 0, _, _, h => by cases h
  | k + 1, v44_0, o, h => by
    unfold spec.l4Ints.l0.f at h
    rcases br_cases h with ⟨c1, h⟩ | ⟨c1, h⟩
    · rcases br_cases h with ⟨c2, h⟩ | ⟨c2, h⟩
      · obtain ⟨p1, h⟩ := ck_some h
        rcases br_cases h with ⟨c3, h⟩ | ⟨c3, h⟩
        · obtain rfl := Option.some.inj h
          exact .of_done tab mixed [.br true, .br true, .br true, .br true, .br true, .br true, .br true] [] [4] [0, 1] rfl (nd c1 (nd c1 (nd c1 (nd c1 (nd c1 (nd c2 (nd p1 (nd (of_decide_eq_true c1) (nd (tn p1 (of_decide_eq_true c1)) (nd p1 (nd (of_decide_eq_true c2) (nd (tn p1 (of_decide_eq_true c2)) (nd c3 trivial))))))))))))) (by kernel_rfl)
        · exact .of_step tab mixed [.br true, .br true, .br true, .br true, .br true, .br true, .br false] [] [0, 1, 5] [0, 1] (s1 := spec.l4Ints.l0.s a0 a1 (w64 (v44_0 + 1))) (nd c1 (nd c1 (nd c1 (nd c1 (nd c1 (nd c2 (nd p1 (nd (of_decide_eq_true c1) (nd (tn p1 (of_decide_eq_true c1)) (nd p1 (nd (of_decide_eq_true c2) (nd (tn p1 (of_decide_eq_true c2)) (nd c3 trivial))))))))))))) (by kernel_rfl) (spec.l4Ints.l0.spec a0 a1 k (w64 (v44_0 + 1)) _ h)
      · obtain rfl := Option.some.inj h
        exact .of_done tab mixed [.br true, .br true, .br true, .br true, .br true, .br false] [] [0, 1] [0, 1] rfl (nd c1 (nd c1 (nd c1 (nd c1 (nd c1 (nd c2 trivial)))))) (by kernel_rfl)
    · obtain rfl := Option.some.inj h
      exact .of_done tab mixed [.br false, .br false, .br false, .br false, .br false, .br false] [] [0, 1] [0, 1] rfl (nd c1 (nd c1 (nd c1 (nd c1 (nd c1 (nd ff trivial)))))) (by kernel_rfl)
def spec.l4Ints.f (K : Nat) (a0 : List Int) (a1 : List Int) : Option (Bool) :=
  Option.bind (spec.l4Ints.l0.f a0 a1 K 0) fun x1 => (Sum.elim (fun x1 => some false) (fun x1 => some ((a0.length : Int) == (a1.length : Int)))) x1
theorem spec.l4Ints.spec (K : Nat) (a0 : List Int) (a1 : List Int) (o : Bool) (h : spec.l4Ints.f K a0 a1 = some o) : Den.Spec Try.prog 84 [one (.sl 0 0 a0.length), one (.sl 1 0 a1.length)] [some ⟨false, .ints .i64 a0⟩, some ⟨false, .ints .i64 a1⟩] (one (.bool o)) [some ⟨false, .ints .i64 a0⟩, some ⟨false, .ints .i64 a1⟩] := by
  unfold spec.l4Ints.f at h
  obtain ⟨x1, e1, h⟩ := bind_some h
  rcases x1 with x1 | x1
  · obtain rfl := Option.some.inj h
    exact Den.Spec.of_walk tab mixed Try.func84 (by kernel_rfl) [.loop [] [0, 1, 5] [0, 1] (.ret) (spec.l4Ints.l0.e0 a0 a1 x1)] [] [0, 1] (nd (spec.l4Ints.l0.spec a0 a1 K 0 _ e1) trivial) (by kernel_rfl)
  · obtain rfl := Option.some.inj h
    exact Den.Spec.of_walk tab mixed Try.func84 (by kernel_rfl) [.loop [] [0, 1, 5] [0, 1] (.exit 0) (spec.l4Ints.l0.e1 a0 a1 x1)] [] [0, 1] (nd (spec.l4Ints.l0.spec a0 a1 K 0 _ e1) trivial) (by kernel_rfl)
def spec.FtlOk.f (K : Nat) (a0 : List ByteArray) (a1 : List Int) (a2 : List Int) (a3 : Int) : Option (Bool) :=
  Option.bind (spec.Mount.f K a0 a1) fun x1 => Option.bind (spec.ChipOk.f K a0 a1) fun x2 => cond (x2) (Option.bind (spec.l4Ints.f K x1.2.2.1 a2) fun x3 => cond (x3) (some (x1.2.2.2 == a3)) (some false)) (some false)
theorem spec.FtlOk.spec (K : Nat) (a0 : List ByteArray) (a1 : List Int) (a2 : List Int) (a3 : Int) (o : Bool) (h : spec.FtlOk.f K a0 a1 a2 a3 = some o) : Den.Spec Try.prog 33 [.v (.agg [.sl 0 0 a0.length, .sl 1 0 a1.length, .sl 2 0 a2.length, .int .i64 a3])] [some ⟨false, .strs a0⟩, some ⟨false, .ints .i64 a1⟩, some ⟨false, .ints .i64 a2⟩] (one (.bool o)) [some ⟨false, .strs a0⟩, some ⟨false, .ints .i64 a1⟩, some ⟨false, .ints .i64 a2⟩] := by
  unfold spec.FtlOk.f at h
  obtain ⟨x1, e1, h⟩ := bind_some h
  obtain ⟨x2, e2, h⟩ := bind_some h
  rcases br_cases h with ⟨c1, h⟩ | ⟨c1, h⟩
  · obtain ⟨x3, e3, h⟩ := bind_some h
    rcases br_cases h with ⟨c2, h⟩ | ⟨c2, h⟩
    · obtain rfl := Option.some.inj h
      exact Den.Spec.of_walk tab mixed Try.func33 (by kernel_rfl) [.call [(0, false), (1, false)] [] (.v (.agg [.sl 2 0 x1.1.length, .sl 3 0 x1.2.1.length, .sl 4 0 x1.2.2.1.length, .int .i64 x1.2.2.2])) [some ⟨false, .strs a0⟩, some ⟨false, .ints .i64 a1⟩, some ⟨true, .strs x1.1⟩, some ⟨true, .ints .i64 x1.2.1⟩, some ⟨true, .ints .i64 x1.2.2.1⟩], .call [(0, false), (1, false)] [] (one (.bool x2)) [some ⟨false, .strs a0⟩, some ⟨false, .ints .i64 a1⟩], .br true, .br true, .br true, .br true, .br true, .call [] [(0, true), (1, true)] (one (.bool x3)) [some ⟨false, .ints .i64 x1.2.2.1⟩, some ⟨false, .ints .i64 a2⟩], .br true, .br true, .br true, .br true, .br true, .br true, .br true] [] [0, 1, 2] (nd (spec.Mount.spec K a0 a1 _ e1) (nd (spec.ChipOk.spec K a0 a1 _ e2) (nd c1 (nd c1 (nd c1 (nd c1 (nd c1 (nd (spec.l4Ints.spec K x1.2.2.1 a2 _ e3) (nd (rfl : (0 : Nat) = 0) (nd (rfl : x1.2.2.1.length = x1.2.2.1.length) (nd (rfl : (0 : Nat) = 0) (nd (rfl : a2.length = a2.length) (nd c1 (nd c2 (nd c2 (nd c2 (nd c2 (nd c2 (nd c2 trivial))))))))))))))))))) (by kernel_rfl)
    · obtain rfl := Option.some.inj h
      exact Den.Spec.of_walk tab mixed Try.func33 (by kernel_rfl) [.call [(0, false), (1, false)] [] (.v (.agg [.sl 2 0 x1.1.length, .sl 3 0 x1.2.1.length, .sl 4 0 x1.2.2.1.length, .int .i64 x1.2.2.2])) [some ⟨false, .strs a0⟩, some ⟨false, .ints .i64 a1⟩, some ⟨true, .strs x1.1⟩, some ⟨true, .ints .i64 x1.2.1⟩, some ⟨true, .ints .i64 x1.2.2.1⟩], .call [(0, false), (1, false)] [] (one (.bool x2)) [some ⟨false, .strs a0⟩, some ⟨false, .ints .i64 a1⟩], .br true, .br true, .br true, .br true, .br true, .call [] [(0, true), (1, true)] (one (.bool x3)) [some ⟨false, .ints .i64 x1.2.2.1⟩, some ⟨false, .ints .i64 a2⟩], .br true, .br false, .br false, .br false, .br false, .br false, .br false] [] [0, 1, 2] (nd (spec.Mount.spec K a0 a1 _ e1) (nd (spec.ChipOk.spec K a0 a1 _ e2) (nd c1 (nd c1 (nd c1 (nd c1 (nd c1 (nd (spec.l4Ints.spec K x1.2.2.1 a2 _ e3) (nd (rfl : (0 : Nat) = 0) (nd (rfl : x1.2.2.1.length = x1.2.2.1.length) (nd (rfl : (0 : Nat) = 0) (nd (rfl : a2.length = a2.length) (nd c1 (nd c2 (nd c2 (nd c2 (nd c2 (nd c2 (nd c2 trivial))))))))))))))))))) (by kernel_rfl)
  · obtain rfl := Option.some.inj h
    exact Den.Spec.of_walk tab mixed Try.func33 (by kernel_rfl) [.call [(0, false), (1, false)] [] (.v (.agg [.sl 2 0 x1.1.length, .sl 3 0 x1.2.1.length, .sl 4 0 x1.2.2.1.length, .int .i64 x1.2.2.2])) [some ⟨false, .strs a0⟩, some ⟨false, .ints .i64 a1⟩, some ⟨true, .strs x1.1⟩, some ⟨true, .ints .i64 x1.2.1⟩, some ⟨true, .ints .i64 x1.2.2.1⟩], .call [(0, false), (1, false)] [] (one (.bool x2)) [some ⟨false, .strs a0⟩, some ⟨false, .ints .i64 a1⟩], .br false, .br false, .br false, .br false, .br false, .br false, .br false, .br false, .br false, .br false, .br false, .br false] [] [0, 1, 2] (nd (spec.Mount.spec K a0 a1 _ e1) (nd (spec.ChipOk.spec K a0 a1 _ e2) (nd c1 (nd c1 (nd c1 (nd c1 (nd c1 (nd c1 (nd ff (nd ff (nd ff (nd ff (nd ff (nd ff trivial)))))))))))))) (by kernel_rfl)
def spec.l4Lives.l1.f (a0 : List ByteArray) (a1 : List Int) (a2 : List Int) (a3 : Int) (a4 : Int) (v50_1 : Int) : Nat → (List Int) → Int → Option ((List Int))
  | 0, _, _ => none
  | k + 1, v52_0, v52_1 =>
    cond (decide (v52_1 < (a2.length : Int))) (ck (0 ≤ v52_1) (cond ((a2.getD v52_1.toNat 0) == (w64 ((w64 (a4 * 6)) + v50_1))) (ck ((v52_0 ++ [w64 ((w64 (a4 * 6)) + v50_1)]).length * 8 ≤ 70368744177664) (spec.l4Lives.l1.f a0 a1 a2 a3 a4 v50_1 k (v52_0 ++ [w64 ((w64 (a4 * 6)) + v50_1)]) (w64 (v52_1 + 1)))) (spec.l4Lives.l1.f a0 a1 a2 a3 a4 v50_1 k v52_0 (w64 (v52_1 + 1))))) (some v52_0)
def spec.l4Lives.l1.s (a0 : List ByteArray) (a1 : List Int) (a2 : List Int) (a3 : Int) (a4 : Int) (v50_1 : Int) (v52_0 : List Int) (v52_1 : Int) : St := mkSt 38 [(1, one (.int .i64 a4)), (2, one (.ptr 3 0 0)), (5, one (.sl 4 0 v52_0.length)), (6, one (.int .i64 v50_1)), (7, one (.int .i64 v52_1))] [some ⟨false, .strs a0⟩, some ⟨false, .ints .i64 a1⟩, some ⟨false, .ints .i64 a2⟩, some ⟨true, .cells [.sl 0 0 a0.length, .sl 1 0 a1.length, .sl 2 0 a2.length, .int .i64 a3]⟩, some ⟨true, .ints .i64 v52_0⟩]
def spec.l4Lives.l1.e0 (a0 : List ByteArray) (a1 : List Int) (a2 : List Int) (a3 : Int) (a4 : Int) (v50_1 : Int) (o : (List Int)) : St := mkSt 38 [(1, one (.int .i64 a4)), (2, one (.ptr 3 0 0)), (5, one (.sl 4 0 o.length)), (6, one (.int .i64 v50_1))] [some ⟨false, .strs a0⟩, some ⟨false, .ints .i64 a1⟩, some ⟨false, .ints .i64 a2⟩, some ⟨true, .cells [.sl 0 0 a0.length, .sl 1 0 a1.length, .sl 2 0 a2.length, .int .i64 a3]⟩, some ⟨true, .ints .i64 o⟩]
def spec.l4Lives.l1.x (a0 : List ByteArray) (a1 : List Int) (a2 : List Int) (a3 : Int) (a4 : Int) (v50_1 : Int) : ((List Int)) → AExit × St := fun o => (.exit 2, spec.l4Lives.l1.e0 a0 a1 a2 a3 a4 v50_1 o)
theorem spec.l4Lives.l1.spec (a0 : List ByteArray) (a1 : List Int) (a2 : List Int) (a3 : Int) (a4 : Int) (v50_1 : Int) : ∀ (k : Nat) (v52_0 : List Int) (v52_1 : Int) (o : (List Int)), spec.l4Lives.l1.f a0 a1 a2 a3 a4 v50_1 k v52_0 v52_1 = some o → LoopSpec Try.prog 3 (loopN Try.f99 1) (spec.l4Lives.l1.s a0 a1 a2 a3 a4 v50_1 v52_0 v52_1) (spec.l4Lives.l1.x a0 a1 a2 a3 a4 v50_1 o).1 (spec.l4Lives.l1.x a0 a1 a2 a3 a4 v50_1 o).2
  | 0, _, _, _, h => by cases h
  | k + 1, v52_0, v52_1, o, h => by
    unfold spec.l4Lives.l1.f at h
    rcases br_cases h with ⟨c1, h⟩ | ⟨c1, h⟩
    · obtain ⟨p1, h⟩ := ck_some h
      rcases br_cases h with ⟨c2, h⟩ | ⟨c2, h⟩
      · obtain ⟨p2, h⟩ := ck_some h
        exact .of_step tab mixed [.br true, .br true, .br true] [] [1, 2, 5, 6, 7] [0, 1, 2, 3, 6] (s1 := spec.l4Lives.l1.s a0 a1 a2 a3 a4 v50_1 (v52_0 ++ [w64 ((w64 (a4 * 6)) + v50_1)]) (w64 (v52_1 + 1))) (nd c1 (nd p1 (nd (of_decide_eq_true c1) (nd (tn p1 (of_decide_eq_true c1)) (nd c2 (nd (rfl : (0 : Nat) = 0) (nd (rfl : v52_0.length = v52_0.length) (nd p2 (nd (rfl : (0 : Nat) = 0) (nd (rfl : 1 = 1) trivial)))))))))) (by kernel_rfl) (spec.l4Lives.l1.spec a0 a1 a2 a3 a4 v50_1 k (v52_0 ++ [w64 ((w64 (a4 * 6)) + v50_1)]) (w64 (v52_1 + 1)) _ h)
      · exact .of_step tab mixed [.br true, .br false] [] [1, 2, 5, 6, 7] [0, 1, 2, 3, 4] (s1 := spec.l4Lives.l1.s a0 a1 a2 a3 a4 v50_1 v52_0 (w64 (v52_1 + 1))) (nd c1 (nd p1 (nd (of_decide_eq_true c1) (nd (tn p1 (of_decide_eq_true c1)) (nd c2 trivial))))) (by kernel_rfl) (spec.l4Lives.l1.spec a0 a1 a2 a3 a4 v50_1 k v52_0 (w64 (v52_1 + 1)) _ h)
    · obtain rfl := Option.some.inj h
      exact .of_done tab mixed [.br false] [] [1, 2, 5, 6] [0, 1, 2, 3, 4] rfl (nd c1 trivial) (by kernel_rfl)
def spec.l4Lives.l0.f (K : Nat) (a0 : List ByteArray) (a1 : List Int) (a2 : List Int) (a3 : Int) (a4 : Int) : Nat → (List Int) → Int → Option ((List Int))
  | 0, _, _ => none
  | k + 1, v50_0, v50_1 =>
    cond (decide (v50_1 < 6)) (Option.bind (spec.l4Lives.l1.f a0 a1 a2 a3 a4 v50_1 K v50_0 0) fun x1 => spec.l4Lives.l0.f K a0 a1 a2 a3 a4 k x1 (w64 (v50_1 + 1))) (some v50_0)
def spec.l4Lives.l0.s (K : Nat) (a0 : List ByteArray) (a1 : List Int) (a2 : List Int) (a3 : Int) (a4 : Int) (v50_0 : List Int) (v50_1 : Int) : St := mkSt 38 [(1, one (.int .i64 a4)), (2, one (.ptr 3 0 0)), (5, one (.sl 4 0 v50_0.length)), (6, one (.int .i64 v50_1))] [some ⟨false, .strs a0⟩, some ⟨false, .ints .i64 a1⟩, some ⟨false, .ints .i64 a2⟩, some ⟨true, .cells [.sl 0 0 a0.length, .sl 1 0 a1.length, .sl 2 0 a2.length, .int .i64 a3]⟩, some ⟨true, .ints .i64 v50_0⟩]
def spec.l4Lives.l0.e0 (K : Nat) (a0 : List ByteArray) (a1 : List Int) (a2 : List Int) (a3 : Int) (a4 : Int) (o : (List Int)) : St := mkSt 38 [(5, one (.sl 3 0 o.length))] [some ⟨false, .strs a0⟩, some ⟨false, .ints .i64 a1⟩, some ⟨false, .ints .i64 a2⟩, some ⟨true, .ints .i64 o⟩]
def spec.l4Lives.l0.x (K : Nat) (a0 : List ByteArray) (a1 : List Int) (a2 : List Int) (a3 : Int) (a4 : Int) : ((List Int)) → AExit × St := fun o => (.exit 0, spec.l4Lives.l0.e0 K a0 a1 a2 a3 a4 o)
theorem spec.l4Lives.l0.spec (K : Nat) (a0 : List ByteArray) (a1 : List Int) (a2 : List Int) (a3 : Int) (a4 : Int) : ∀ (k : Nat) (v50_0 : List Int) (v50_1 : Int) (o : (List Int)), spec.l4Lives.l0.f K a0 a1 a2 a3 a4 k v50_0 v50_1 = some o → LoopSpec Try.prog 3 (loopN Try.f99 0) (spec.l4Lives.l0.s K a0 a1 a2 a3 a4 v50_0 v50_1) (spec.l4Lives.l0.x K a0 a1 a2 a3 a4 o).1 (spec.l4Lives.l0.x K a0 a1 a2 a3 a4 o).2
  | 0, _, _, _, h => by cases h
  | k + 1, v50_0, v50_1, o, h => by
    unfold spec.l4Lives.l0.f at h
    rcases br_cases h with ⟨c1, h⟩ | ⟨c1, h⟩
    · obtain ⟨x1, e1, h⟩ := bind_some h
      exact .of_step tab mixed [.br true, .loop [] [1, 2, 5, 6, 7] [0, 1, 2, 3, 4] (.exit 2) (spec.l4Lives.l1.e0 a0 a1 a2 a3 a4 v50_1 x1)] [] [1, 2, 5, 6] [0, 1, 2, 3, 4] (s1 := spec.l4Lives.l0.s K a0 a1 a2 a3 a4 x1 (w64 (v50_1 + 1))) (nd c1 (nd (spec.l4Lives.l1.spec a0 a1 a2 a3 a4 v50_1 K v50_0 0 _ e1) trivial)) (by kernel_rfl) (spec.l4Lives.l0.spec K a0 a1 a2 a3 a4 k x1 (w64 (v50_1 + 1)) _ h)
    · obtain rfl := Option.some.inj h
      exact .of_done tab mixed [.br false] [] [5] [0, 1, 2, 4] rfl (nd c1 trivial) (by kernel_rfl)
def spec.l4Lives.f (K : Nat) (a0 : List ByteArray) (a1 : List Int) (a2 : List Int) (a3 : Int) (a4 : Int) : Option ((List Int)) :=
  Option.bind (spec.l4Lives.l0.f K a0 a1 a2 a3 a4 K [] 0) fun x1 => some x1
theorem spec.l4Lives.spec (K : Nat) (a0 : List ByteArray) (a1 : List Int) (a2 : List Int) (a3 : Int) (a4 : Int) (o : (List Int)) (h : spec.l4Lives.f K a0 a1 a2 a3 a4 = some o) : Den.Spec Try.prog 99 [.v (.agg [.sl 0 0 a0.length, .sl 1 0 a1.length, .sl 2 0 a2.length, .int .i64 a3]), one (.int .i64 a4)] [some ⟨false, .strs a0⟩, some ⟨false, .ints .i64 a1⟩, some ⟨false, .ints .i64 a2⟩] (one (.sl 3 0 o.length)) [some ⟨false, .strs a0⟩, some ⟨false, .ints .i64 a1⟩, some ⟨false, .ints .i64 a2⟩, some ⟨true, .ints .i64 o⟩] := by
  unfold spec.l4Lives.f at h
  obtain ⟨x1, e1, h⟩ := bind_some h
  obtain rfl := Option.some.inj h
  exact Den.Spec.of_walk tab mixed Try.func99 (by kernel_rfl) [.loop [] [1, 2, 5, 6] [0, 1, 2, 3, 4] (.exit 0) (spec.l4Lives.l0.e0 K a0 a1 a2 a3 a4 x1)] [] [0, 1, 2, 3] (nd (spec.l4Lives.l0.spec K a0 a1 a2 a3 a4 K [] 0 _ e1) trivial) (by kernel_rfl)
def spec.Lives.f (K : Nat) (a0 : List ByteArray) (a1 : List Int) (a2 : List Int) (a3 : Int) (a4 : Int) : Option ((List Int)) :=
  Option.bind (spec.l1In.f a4 0 9) fun x1 => cond (x1) (Option.bind (spec.FtlOk.f K a0 a1 a2 a3) fun x2 => cond (x2) (Option.bind (spec.l4Lives.f K a0 a1 a2 a3 a4) fun x3 => some x3) (some [])) (some [])
theorem spec.Lives.spec (K : Nat) (a0 : List ByteArray) (a1 : List Int) (a2 : List Int) (a3 : Int) (a4 : Int) (o : (List Int)) (h : spec.Lives.f K a0 a1 a2 a3 a4 = some o) : Den.Spec Try.prog 56 [.v (.agg [.sl 0 0 a0.length, .sl 1 0 a1.length, .sl 2 0 a2.length, .int .i64 a3]), one (.int .i64 a4)] [some ⟨false, .strs a0⟩, some ⟨false, .ints .i64 a1⟩, some ⟨false, .ints .i64 a2⟩] (one (.sl 3 0 o.length)) [some ⟨false, .strs a0⟩, some ⟨false, .ints .i64 a1⟩, some ⟨false, .ints .i64 a2⟩, some ⟨true, .ints .i64 o⟩] := by
  unfold spec.Lives.f at h
  obtain ⟨x1, e1, h⟩ := bind_some h
  rcases br_cases h with ⟨c1, h⟩ | ⟨c1, h⟩
  · obtain ⟨x2, e2, h⟩ := bind_some h
    rcases br_cases h with ⟨c2, h⟩ | ⟨c2, h⟩
    · obtain ⟨x3, e3, h⟩ := bind_some h
      obtain rfl := Option.some.inj h
      exact Den.Spec.of_walk tab mixed Try.func56 (by kernel_rfl) [.call [] [] (one (.bool x1)) [], .br false, .br false, .call [(0, false), (1, false), (2, false)] [] (one (.bool x2)) [some ⟨false, .strs a0⟩, some ⟨false, .ints .i64 a1⟩, some ⟨false, .ints .i64 a2⟩], .br false, .br false, .br false, .call [(0, false), (1, false), (2, false)] [] (one (.sl 3 0 x3.length)) [some ⟨false, .strs a0⟩, some ⟨false, .ints .i64 a1⟩, some ⟨false, .ints .i64 a2⟩, some ⟨true, .ints .i64 x3⟩]] [] [0, 1, 2, 4] (nd (spec.l1In.spec a4 0 9 _ e1) (nd (nf c1) (nd (nf c1) (nd (spec.FtlOk.spec K a0 a1 a2 a3 _ e2) (nd (nf c1) (nd (nf c1) (nd (nf c2) (nd (spec.l4Lives.spec K a0 a1 a2 a3 a4 _ e3) trivial)))))))) (by kernel_rfl)
    · obtain rfl := Option.some.inj h
      exact Den.Spec.of_walk tab mixed Try.func56 (by kernel_rfl) [.call [] [] (one (.bool x1)) [], .br false, .br false, .call [(0, false), (1, false), (2, false)] [] (one (.bool x2)) [some ⟨false, .strs a0⟩, some ⟨false, .ints .i64 a1⟩, some ⟨false, .ints .i64 a2⟩], .br false, .br false, .br true] [] [0, 1, 2, 4] (nd (spec.l1In.spec a4 0 9 _ e1) (nd (nf c1) (nd (nf c1) (nd (spec.FtlOk.spec K a0 a1 a2 a3 _ e2) (nd (nf c1) (nd (nf c1) (nd (nt c2) trivial))))))) (by kernel_rfl)
  · obtain rfl := Option.some.inj h
    exact Den.Spec.of_walk tab mixed Try.func56 (by kernel_rfl) [.call [] [] (one (.bool x1)) [], .br true, .br true, .br true, .br true, .br true] [] [0, 1, 2, 4] (nd (spec.l1In.spec a4 0 9 _ e1) (nd (nt c1) (nd (nt c1) (nd (nt c1) (nd (nt c1) (nd tt trivial)))))) (by kernel_rfl)
def impl.ChipOk_1.f (a0 : ByteArray) : Option (Unit) :=
  some ()
theorem impl.ChipOk_1.spec (a0 : ByteArray) (o : Unit) (h : impl.ChipOk_1.f a0 = some o) : Den.Spec Try.prog 123 [one (.str a0)] [] (one (.bool (decide ((a0.size : Int) > 800)))) [] := by
  unfold impl.ChipOk_1.f at h
  obtain rfl := Option.some.inj h
  exact Den.Spec.of_walk tab mixed Try.func123 (by kernel_rfl) [] [] [] trivial (by kernel_rfl)
def slices.IndexFunc_string_string.l0.f (a0 : List ByteArray) : Nat → Int → Option (Int ⊕ Unit)
  | 0, _ => none
  | k + 1, v57_0 =>
    cond (decide (v57_0 < (a0.length : Int))) (ck (0 ≤ v57_0) (Option.bind (impl.ChipOk_1.f (a0.getD v57_0.toNat noVal)) fun x1 => cond (decide (((a0.getD v57_0.toNat noVal).size : Int) > 800)) (some (.inl v57_0)) (slices.IndexFunc_string_string.l0.f a0 k (w64 (v57_0 + 1))))) (some (.inr (())))
def slices.IndexFunc_string_string.l0.s (a0 : List ByteArray) (v57_0 : Int) : St := mkSt 19 [(0, one (.sl 0 0 a0.length)), (1, one (.fn 123 [])), (7, one (.int .i64 (a0.length : Int))), (8, one (.int .i64 v57_0))] [some ⟨false, .strs a0⟩]
def slices.IndexFunc_string_string.l0.e0 (a0 : List ByteArray) (o : Int) : St := mkSt 19 [(4, one (.int .i64 o))] [some ⟨false, .strs a0⟩]
def slices.IndexFunc_string_string.l0.e1 (a0 : List ByteArray) (o : Unit) : St := mkSt 19 [] [some ⟨false, .strs a0⟩]
def slices.IndexFunc_string_string.l0.x (a0 : List ByteArray) : (Int ⊕ Unit) → AExit × St := Sum.elim (fun o => (.ret, slices.IndexFunc_string_string.l0.e0 a0 o)) (fun o => (.exit 0, slices.IndexFunc_string_string.l0.e1 a0 o))
theorem slices.IndexFunc_string_string.l0.spec (a0 : List ByteArray) : ∀ (k : Nat) (v57_0 : Int) (o : Int ⊕ Unit), slices.IndexFunc_string_string.l0.f a0 k v57_0 = some o → LoopSpec Try.prog 1 (loopN Try.f145 0) (slices.IndexFunc_string_string.l0.s a0 v57_0) (slices.IndexFunc_string_string.l0.x a0 o).1 (slices.IndexFunc_string_string.l0.x a0 o).2
  | 0, _, _, h => by cases h
  | k + 1, v57_0, o, h => by
    unfold slices.IndexFunc_string_string.l0.f at h
    rcases br_cases h with ⟨c1, h⟩ | ⟨c1, h⟩
    · obtain ⟨p1, h⟩ := ck_some h
      obtain ⟨x1, e1, h⟩ := bind_some h
      rcases br_cases h with ⟨c2, h⟩ | ⟨c2, h⟩
      · obtain rfl := Option.some.inj h
        exact .of_done tab mixed [.br true, .call [] [] (one (.bool (decide (((a0.getD v57_0.toNat noVal).size : Int) > 800)))) [], .br true] [] [4] [0] rfl (nd c1 (nd p1 (nd (of_decide_eq_true c1) (nd (tn p1 (of_decide_eq_true c1)) (nd (impl.ChipOk_1.spec (a0.getD v57_0.toNat noVal) _ e1) (nd c2 trivial)))))) (by kernel_rfl)
      · exact .of_step tab mixed [.br true, .call [] [] (one (.bool (decide (((a0.getD v57_0.toNat noVal).size : Int) > 800)))) [], .br false] [] [0, 1, 7, 8] [0] (s1 := slices.IndexFunc_string_string.l0.s a0 (w64 (v57_0 + 1))) (nd c1 (nd p1 (nd (of_decide_eq_true c1) (nd (tn p1 (of_decide_eq_true c1)) (nd (impl.ChipOk_1.spec (a0.getD v57_0.toNat noVal) _ e1) (nd c2 trivial)))))) (by kernel_rfl) (slices.IndexFunc_string_string.l0.spec a0 k (w64 (v57_0 + 1)) _ h)
    · obtain rfl := Option.some.inj h
      exact .of_done tab mixed [.br false] [] [] [0] rfl (nd c1 trivial) (by kernel_rfl)
def slices.IndexFunc_string_string.f (K : Nat) (a0 : List ByteArray) : Option (Int) :=
  Option.bind (slices.IndexFunc_string_string.l0.f a0 K 0) fun x1 => (Sum.elim (fun x1 => some x1) (fun x1 => some (-1))) x1
theorem slices.IndexFunc_string_string.spec (K : Nat) (a0 : List ByteArray) (o : Int) (h : slices.IndexFunc_string_string.f K a0 = some o) : Den.Spec Try.prog 145 [one (.sl 0 0 a0.length), one (.fn 123 [])] [some ⟨false, .strs a0⟩] (one (.int .i64 o)) [some ⟨false, .strs a0⟩] := by
  unfold slices.IndexFunc_string_string.f at h
  obtain ⟨x1, e1, h⟩ := bind_some h
  rcases x1 with x1 | x1
  · obtain rfl := Option.some.inj h
    exact Den.Spec.of_walk tab mixed Try.func145 (by kernel_rfl) [.loop [] [0, 1, 7, 8] [0] (.ret) (slices.IndexFunc_string_string.l0.e0 a0 x1)] [] [0] (nd (slices.IndexFunc_string_string.l0.spec a0 K 0 _ e1) trivial) (by kernel_rfl)
  · obtain rfl := Option.some.inj h
    exact Den.Spec.of_walk tab mixed Try.func145 (by kernel_rfl) [.loop [] [0, 1, 7, 8] [0] (.exit 0) (slices.IndexFunc_string_string.l0.e1 a0 x1)] [] [0] (nd (slices.IndexFunc_string_string.l0.spec a0 K 0 _ e1) trivial) (by kernel_rfl)
def slices.ContainsFunc_string_string.f (K : Nat) (a0 : List ByteArray) : Option (Bool) :=
  Option.bind (slices.IndexFunc_string_string.f K a0) fun x1 => some (decide (x1 ≥ 0))
theorem slices.ContainsFunc_string_string.spec (K : Nat) (a0 : List ByteArray) (o : Bool) (h : slices.ContainsFunc_string_string.f K a0 = some o) : Den.Spec Try.prog 122 [one (.sl 0 0 a0.length), one (.fn 123 [])] [some ⟨false, .strs a0⟩] (one (.bool o)) [some ⟨false, .strs a0⟩] := by
  unfold slices.ContainsFunc_string_string.f at h
  obtain ⟨x1, e1, h⟩ := bind_some h
  obtain rfl := Option.some.inj h
  exact Den.Spec.of_walk tab mixed Try.func122 (by kernel_rfl) [.call [] [(0, true)] (one (.int .i64 x1)) [some ⟨false, .strs a0⟩]] [] [0] (nd (slices.IndexFunc_string_string.spec K a0 _ e1) (nd (rfl : (0 : Nat) = 0) (nd (rfl : a0.length = a0.length) trivial))) (by kernel_rfl)
def impl.in_.f (a0 : Int) (a1 : Int) (a2 : Int) : Option (Bool) :=
  cond (decide (a0 ≥ a1)) (some (decide (a0 ≤ a2))) (some false)
theorem impl.in_.spec (a0 : Int) (a1 : Int) (a2 : Int) (o : Bool) (h : impl.in_.f a0 a1 a2 = some o) : Den.Spec Try.prog 96 [one (.int .i64 a0), one (.int .i64 a1), one (.int .i64 a2)] [] (one (.bool o)) [] := by
  unfold impl.in_.f at h
  rcases br_cases h with ⟨c1, h⟩ | ⟨c1, h⟩
  · obtain rfl := Option.some.inj h
    exact Den.Spec.of_walk tab mixed Try.func96 (by kernel_rfl) [.br true, .br true, .br true, .br true] [] [] (nd c1 (nd c1 (nd c1 (nd c1 trivial)))) (by kernel_rfl)
  · obtain rfl := Option.some.inj h
    exact Den.Spec.of_walk tab mixed Try.func96 (by kernel_rfl) [.br false, .br false, .br false, .br false] [] [] (nd c1 (nd c1 (nd c1 (nd c1 trivial)))) (by kernel_rfl)
def impl.ChipOk_2.f (a0 : Int) : Option (Bool) :=
  Option.bind (impl.in_.f a0 0 1000000000) fun x1 => some (!x1)
theorem impl.ChipOk_2.spec (a0 : Int) (o : Bool) (h : impl.ChipOk_2.f a0 = some o) : Den.Spec Try.prog 125 [one (.int .i64 a0)] [] (one (.bool o)) [] := by
  unfold impl.ChipOk_2.f at h
  obtain ⟨x1, e1, h⟩ := bind_some h
  obtain rfl := Option.some.inj h
  exact Den.Spec.of_walk tab mixed Try.func125 (by kernel_rfl) [.call [] [] (one (.bool x1)) []] [] [] (nd (impl.in_.spec a0 0 1000000000 _ e1) trivial) (by kernel_rfl)
def slices.IndexFunc_int_int.l0.f (a0 : List Int) : Nat → Int → Option (Int ⊕ Unit)
  | 0, _ => none
  | k + 1, v63_0 =>
    cond (decide (v63_0 < (a0.length : Int))) (ck (0 ≤ v63_0) (Option.bind (impl.ChipOk_2.f (a0.getD v63_0.toNat 0)) fun x1 => cond (x1) (some (.inl v63_0)) (slices.IndexFunc_int_int.l0.f a0 k (w64 (v63_0 + 1))))) (some (.inr (())))
def slices.IndexFunc_int_int.l0.s (a0 : List Int) (v63_0 : Int) : St := mkSt 19 [(0, one (.sl 0 0 a0.length)), (1, one (.fn 125 [])), (7, one (.int .i64 (a0.length : Int))), (8, one (.int .i64 v63_0))] [some ⟨false, .ints .i64 a0⟩]
def slices.IndexFunc_int_int.l0.e0 (a0 : List Int) (o : Int) : St := mkSt 19 [(4, one (.int .i64 o))] [some ⟨false, .ints .i64 a0⟩]
def slices.IndexFunc_int_int.l0.e1 (a0 : List Int) (o : Unit) : St := mkSt 19 [] [some ⟨false, .ints .i64 a0⟩]
def slices.IndexFunc_int_int.l0.x (a0 : List Int) : (Int ⊕ Unit) → AExit × St := Sum.elim (fun o => (.ret, slices.IndexFunc_int_int.l0.e0 a0 o)) (fun o => (.exit 0, slices.IndexFunc_int_int.l0.e1 a0 o))
theorem slices.IndexFunc_int_int.l0.spec (a0 : List Int) : ∀ (k : Nat) (v63_0 : Int) (o : Int ⊕ Unit), slices.IndexFunc_int_int.l0.f a0 k v63_0 = some o → LoopSpec Try.prog 1 (loopN Try.f146 0) (slices.IndexFunc_int_int.l0.s a0 v63_0) (slices.IndexFunc_int_int.l0.x a0 o).1 (slices.IndexFunc_int_int.l0.x a0 o).2
  | 0, _, _, h => by cases h
  | k + 1, v63_0, o, h => by
    unfold slices.IndexFunc_int_int.l0.f at h
    rcases br_cases h with ⟨c1, h⟩ | ⟨c1, h⟩
    · obtain ⟨p1, h⟩ := ck_some h
      obtain ⟨x1, e1, h⟩ := bind_some h
      rcases br_cases h with ⟨c2, h⟩ | ⟨c2, h⟩
      · obtain rfl := Option.some.inj h
        exact .of_done tab mixed [.br true, .call [] [] (one (.bool x1)) [], .br true] [] [4] [0] rfl (nd c1 (nd p1 (nd (of_decide_eq_true c1) (nd (tn p1 (of_decide_eq_true c1)) (nd (impl.ChipOk_2.spec (a0.getD v63_0.toNat 0) _ e1) (nd c2 trivial)))))) (by kernel_rfl)
      · exact .of_step tab mixed [.br true, .call [] [] (one (.bool x1)) [], .br false] [] [0, 1, 7, 8] [0] (s1 := slices.IndexFunc_int_int.l0.s a0 (w64 (v63_0 + 1))) (nd c1 (nd p1 (nd (of_decide_eq_true c1) (nd (tn p1 (of_decide_eq_true c1)) (nd (impl.ChipOk_2.spec (a0.getD v63_0.toNat 0) _ e1) (nd c2 trivial)))))) (by kernel_rfl) (slices.IndexFunc_int_int.l0.spec a0 k (w64 (v63_0 + 1)) _ h)
    · obtain rfl := Option.some.inj h
      exact .of_done tab mixed [.br false] [] [] [0] rfl (nd c1 trivial) (by kernel_rfl)
def slices.IndexFunc_int_int.f (K : Nat) (a0 : List Int) : Option (Int) :=
  Option.bind (slices.IndexFunc_int_int.l0.f a0 K 0) fun x1 => (Sum.elim (fun x1 => some x1) (fun x1 => some (-1))) x1
theorem slices.IndexFunc_int_int.spec (K : Nat) (a0 : List Int) (o : Int) (h : slices.IndexFunc_int_int.f K a0 = some o) : Den.Spec Try.prog 146 [one (.sl 0 0 a0.length), one (.fn 125 [])] [some ⟨false, .ints .i64 a0⟩] (one (.int .i64 o)) [some ⟨false, .ints .i64 a0⟩] := by
  unfold slices.IndexFunc_int_int.f at h
  obtain ⟨x1, e1, h⟩ := bind_some h
  rcases x1 with x1 | x1
  · obtain rfl := Option.some.inj h
    exact Den.Spec.of_walk tab mixed Try.func146 (by kernel_rfl) [.loop [] [0, 1, 7, 8] [0] (.ret) (slices.IndexFunc_int_int.l0.e0 a0 x1)] [] [0] (nd (slices.IndexFunc_int_int.l0.spec a0 K 0 _ e1) trivial) (by kernel_rfl)
  · obtain rfl := Option.some.inj h
    exact Den.Spec.of_walk tab mixed Try.func146 (by kernel_rfl) [.loop [] [0, 1, 7, 8] [0] (.exit 0) (slices.IndexFunc_int_int.l0.e1 a0 x1)] [] [0] (nd (slices.IndexFunc_int_int.l0.spec a0 K 0 _ e1) trivial) (by kernel_rfl)
def slices.ContainsFunc_int_int.f (K : Nat) (a0 : List Int) : Option (Bool) :=
  Option.bind (slices.IndexFunc_int_int.f K a0) fun x1 => some (decide (x1 ≥ 0))
theorem slices.ContainsFunc_int_int.spec (K : Nat) (a0 : List Int) (o : Bool) (h : slices.ContainsFunc_int_int.f K a0 = some o) : Den.Spec Try.prog 124 [one (.sl 0 0 a0.length), one (.fn 125 [])] [some ⟨false, .ints .i64 a0⟩] (one (.bool o)) [some ⟨false, .ints .i64 a0⟩] := by
  unfold slices.ContainsFunc_int_int.f at h
  obtain ⟨x1, e1, h⟩ := bind_some h
  obtain rfl := Option.some.inj h
  exact Den.Spec.of_walk tab mixed Try.func124 (by kernel_rfl) [.call [] [(0, true)] (one (.int .i64 x1)) [some ⟨false, .ints .i64 a0⟩]] [] [0] (nd (slices.IndexFunc_int_int.spec K a0 _ e1) (nd (rfl : (0 : Nat) = 0) (nd (rfl : a0.length = a0.length) trivial))) (by kernel_rfl)
def impl.ChipOk.f (K : Nat) (a0 : List ByteArray) (a1 : List Int) : Option (Bool) :=
  cond ((a0.length : Int) == 60) (cond ((a1.length : Int) == 10) (Option.bind (slices.ContainsFunc_string_string.f K a0) fun x1 => cond (x1) (some false) (Option.bind (slices.ContainsFunc_int_int.f K a1) fun x2 => some (!x2))) (some false)) (some false)
theorem impl.ChipOk.spec (K : Nat) (a0 : List ByteArray) (a1 : List Int) (o : Bool) (h : impl.ChipOk.f K a0 a1 = some o) : Den.Spec Try.prog 85 [.v (.agg [.sl 0 0 a0.length, .sl 1 0 a1.length])] [some ⟨false, .strs a0⟩, some ⟨false, .ints .i64 a1⟩] (one (.bool o)) [some ⟨false, .strs a0⟩, some ⟨false, .ints .i64 a1⟩] := by
  unfold impl.ChipOk.f at h
  rcases br_cases h with ⟨c1, h⟩ | ⟨c1, h⟩
  · rcases br_cases h with ⟨c2, h⟩ | ⟨c2, h⟩
    · obtain ⟨x1, e1, h⟩ := bind_some h
      rcases br_cases h with ⟨c3, h⟩ | ⟨c3, h⟩
      · obtain rfl := Option.some.inj h
        exact Den.Spec.of_walk tab mixed Try.func85 (by kernel_rfl) [.br true, .br true, .br true, .br true, .br true, .br true, .br true, .br true, .call [] [(0, true)] (one (.bool x1)) [some ⟨false, .strs a0⟩], .br true, .br true, .br false, .br false, .br false, .br false, .br false] [] [0, 1] (nd c1 (nd c1 (nd c1 (nd c1 (nd c1 (nd c2 (nd c2 (nd c2 (nd (slices.ContainsFunc_string_string.spec K a0 _ e1) (nd (rfl : (0 : Nat) = 0) (nd (rfl : a0.length = a0.length) (nd c2 (nd c2 (nd (nf c3) (nd (nf c3) (nd (nf c3) (nd (nf c3) (nd (nf c3) trivial)))))))))))))))))) (by kernel_rfl)
      · obtain ⟨x2, e2, h⟩ := bind_some h
        obtain rfl := Option.some.inj h
        exact Den.Spec.of_walk tab mixed Try.func85 (by kernel_rfl) [.br true, .br true, .br true, .br true, .br true, .br true, .br true, .br true, .call [] [(0, true)] (one (.bool x1)) [some ⟨false, .strs a0⟩], .br true, .br true, .br true, .br true, .br true, .call [] [(0, true)] (one (.bool x2)) [some ⟨false, .ints .i64 a1⟩], .br true, .br true] [] [0, 1] (nd c1 (nd c1 (nd c1 (nd c1 (nd c1 (nd c2 (nd c2 (nd c2 (nd (slices.ContainsFunc_string_string.spec K a0 _ e1) (nd (rfl : (0 : Nat) = 0) (nd (rfl : a0.length = a0.length) (nd c2 (nd c2 (nd (nt c3) (nd (nt c3) (nd (nt c3) (nd (slices.ContainsFunc_int_int.spec K a1 _ e2) (nd (rfl : (0 : Nat) = 0) (nd (rfl : a1.length = a1.length) (nd (nt c3) (nd (nt c3) trivial))))))))))))))))))))) (by kernel_rfl)
    · obtain rfl := Option.some.inj h
      exact Den.Spec.of_walk tab mixed Try.func85 (by kernel_rfl) [.br true, .br true, .br true, .br true, .br true, .br false, .br false, .br false, .br false, .br false, .br false, .br false, .br false, .br false, .br false] [] [0, 1] (nd c1 (nd c1 (nd c1 (nd c1 (nd c1 (nd c2 (nd c2 (nd c2 (nd c2 (nd c2 (nd ff (nd ff (nd ff (nd ff (nd ff trivial))))))))))))))) (by kernel_rfl)
  · obtain rfl := Option.some.inj h
    exact Den.Spec.of_walk tab mixed Try.func85 (by kernel_rfl) [.br false, .br false, .br false, .br false, .br false, .br false, .br false, .br false, .br false, .br false, .br false, .br false, .br false, .br false, .br false] [] [0, 1] (nd c1 (nd c1 (nd c1 (nd c1 (nd c1 (nd ff (nd ff (nd ff (nd ff (nd ff (nd ff (nd ff (nd ff (nd ff (nd ff trivial))))))))))))))) (by kernel_rfl)
def slices.Clone_string_string.f (a0 : List ByteArray) : Option (List ByteArray) := ck (a0.length * 16 ≤ 70368744177664) (some a0)
theorem slices.Clone_string_string.spec (a0 : List ByteArray) (o : List ByteArray) (h : slices.Clone_string_string.f a0 = some o) : Den.Spec Try.prog 120 [one (.sl 0 0 a0.length)] [some ⟨false, .strs a0⟩] (one (.sl 1 0 o.length)) [some ⟨false, .strs a0⟩, some ⟨true, .strs o⟩] := by
  unfold slices.Clone_string_string.f at h
  obtain ⟨p, h⟩ := ck_some h
  obtain rfl := Option.some.inj h
  refine Den.Spec.fork tab mixed Try.func120 (by kernel_rfl) 4 (by kernel_rfl) (n := a0.length) [.br true] [] [0, 2] (nd trivial (nd (rfl : (0 : Nat) = 0) (nd (rfl : (0 : Nat) = 0) (nd p (nd (rfl : (0 : Nat) = 0) (nd (rfl : a0.length = a0.length) trivial)))))) (by kernel_rfl) (fun h0 => ?_)
  obtain rfl := List.eq_nil_of_length_eq_zero h0
  exact ⟨[], [(2, [.strs])], [0, 1], True ∧ True, by kernel_rfl, trivial, trivial⟩
def slices.Clone_int_int.f (a0 : List Int) : Option (List Int) := ck (a0.length * 8 ≤ 70368744177664) (some a0)
theorem slices.Clone_int_int.spec (a0 : List Int) (o : List Int) (h : slices.Clone_int_int.f a0 = some o) : Den.Spec Try.prog 121 [one (.sl 0 0 a0.length)] [some ⟨false, .ints .i64 a0⟩] (one (.sl 1 0 o.length)) [some ⟨false, .ints .i64 a0⟩, some ⟨true, .ints .i64 o⟩] := by
  unfold slices.Clone_int_int.f at h
  obtain ⟨p, h⟩ := ck_some h
  obtain rfl := Option.some.inj h
  refine Den.Spec.fork tab mixed Try.func121 (by kernel_rfl) 4 (by kernel_rfl) (n := a0.length) [.br true] [] [0, 2] (nd trivial (nd (rfl : (0 : Nat) = 0) (nd (rfl : (0 : Nat) = 0) (nd p (nd (rfl : (0 : Nat) = 0) (nd (rfl : a0.length = a0.length) trivial)))))) (by kernel_rfl) (fun h0 => ?_)
  obtain rfl := List.eq_nil_of_length_eq_zero h0
  exact ⟨[], [(2, [.ints .i64])], [0, 1], True ∧ True, by kernel_rfl, trivial, trivial⟩
def impl.cloneChip.f (a0 : List ByteArray) (a1 : List Int) : Option ((List ByteArray) × (List Int)) :=
  Option.bind (slices.Clone_string_string.f a0) fun x1 => Option.bind (slices.Clone_int_int.f a1) fun x2 => some (x1, x2)
theorem impl.cloneChip.spec (a0 : List ByteArray) (a1 : List Int) (o : (List ByteArray) × (List Int)) (h : impl.cloneChip.f a0 a1 = some o) : Den.Spec Try.prog 126 [.v (.agg [.sl 0 0 a0.length, .sl 1 0 a1.length])] [some ⟨false, .strs a0⟩, some ⟨false, .ints .i64 a1⟩] (.v (.agg [.sl 2 0 o.1.length, .sl 3 0 o.2.length])) [some ⟨false, .strs a0⟩, some ⟨false, .ints .i64 a1⟩, some ⟨true, .strs o.1⟩, some ⟨true, .ints .i64 o.2⟩] := by
  unfold impl.cloneChip.f at h
  obtain ⟨x1, e1, h⟩ := bind_some h
  obtain ⟨x2, e2, h⟩ := bind_some h
  obtain rfl := Option.some.inj h
  exact Den.Spec.of_walk tab mixed Try.func126 (by kernel_rfl) [.call [] [(0, true)] (one (.sl 1 0 x1.length)) [some ⟨false, .strs a0⟩, some ⟨true, .strs x1⟩], .call [] [(0, true)] (one (.sl 1 0 x2.length)) [some ⟨false, .ints .i64 a1⟩, some ⟨true, .ints .i64 x2⟩]] [] [0, 1, 22, 46] (nd (slices.Clone_string_string.spec a0 _ e1) (nd (rfl : (0 : Nat) = 0) (nd (rfl : a0.length = a0.length) (nd (slices.Clone_int_int.spec a1 _ e2) (nd (rfl : (0 : Nat) = 0) (nd (rfl : a1.length = a1.length) trivial)))))) (by kernel_rfl)
def math_bits.Mul64.f (a0 : Int) (a1 : Int) : Option (Unit) :=
  some ()
theorem math_bits.Mul64.spec (a0 : Int) (a1 : Int) (o : Unit) (h : math_bits.Mul64.f a0 a1 = some o) : Den.Spec Try.prog 162 [one (.int .u64 a0), one (.int .u64 a1)] [] (.tup [.c (.int .u64 (IntKind.u64.wrap ((IntKind.u64.wrap ((IntKind.u64.wrap ((a0.fdiv (2 ^ 32)) * (a1.fdiv (2 ^ 32)))) + ((IntKind.u64.wrap ((IntKind.u64.wrap ((a0.fdiv (2 ^ 32)) * (bits2 .u64 (· &&& ·) a1 4294967295))) + ((IntKind.u64.wrap ((bits2 .u64 (· &&& ·) a0 4294967295) * (bits2 .u64 (· &&& ·) a1 4294967295))).fdiv (2 ^ 32)))).fdiv (2 ^ 32)))) + ((IntKind.u64.wrap ((bits2 .u64 (· &&& ·) (IntKind.u64.wrap ((IntKind.u64.wrap ((a0.fdiv (2 ^ 32)) * (bits2 .u64 (· &&& ·) a1 4294967295))) + ((IntKind.u64.wrap ((bits2 .u64 (· &&& ·) a0 4294967295) * (bits2 .u64 (· &&& ·) a1 4294967295))).fdiv (2 ^ 32)))) 4294967295) + (IntKind.u64.wrap ((bits2 .u64 (· &&& ·) a0 4294967295) * (a1.fdiv (2 ^ 32)))))).fdiv (2 ^ 32))))), .c (.int .u64 (IntKind.u64.wrap (a0 * a1)))]) [] := by
  unfold math_bits.Mul64.f at h
  obtain rfl := Option.some.inj h
  exact Den.Spec.of_walk tab mixed Try.func162 (by kernel_rfl) [] [] [] (nd (by decide : (0 : Int) ≤ 32) (nd (by decide : (0 : Int) ≤ 32) (nd (by decide : (0 : Int) ≤ 32) (nd (by decide : (0 : Int) ≤ 32) (nd (by decide : (0 : Int) ≤ 32) trivial))))) (by kernel_rfl)
def math_bits.Mul.f (a0 : Int) (a1 : Int) : Option (Unit) :=
  Option.bind (math_bits.Mul64.f a0 a1) fun x1 => some ()
theorem math_bits.Mul.spec (a0 : Int) (a1 : Int) (o : Unit) (h : math_bits.Mul.f a0 a1 = some o) : Den.Spec Try.prog 147 [one (.int .u64 a0), one (.int .u64 a1)] [] (.tup [.c (.int .u64 (IntKind.u64.wrap ((IntKind.u64.wrap ((IntKind.u64.wrap ((a0.fdiv (2 ^ 32)) * (a1.fdiv (2 ^ 32)))) + ((IntKind.u64.wrap ((IntKind.u64.wrap ((a0.fdiv (2 ^ 32)) * (bits2 .u64 (· &&& ·) a1 4294967295))) + ((IntKind.u64.wrap ((bits2 .u64 (· &&& ·) a0 4294967295) * (bits2 .u64 (· &&& ·) a1 4294967295))).fdiv (2 ^ 32)))).fdiv (2 ^ 32)))) + ((IntKind.u64.wrap ((bits2 .u64 (· &&& ·) (IntKind.u64.wrap ((IntKind.u64.wrap ((a0.fdiv (2 ^ 32)) * (bits2 .u64 (· &&& ·) a1 4294967295))) + ((IntKind.u64.wrap ((bits2 .u64 (· &&& ·) a0 4294967295) * (bits2 .u64 (· &&& ·) a1 4294967295))).fdiv (2 ^ 32)))) 4294967295) + (IntKind.u64.wrap ((bits2 .u64 (· &&& ·) a0 4294967295) * (a1.fdiv (2 ^ 32)))))).fdiv (2 ^ 32))))), .c (.int .u64 (IntKind.u64.wrap (a0 * a1)))]) [] := by
  unfold math_bits.Mul.f at h
  obtain ⟨x1, e1, h⟩ := bind_some h
  obtain rfl := Option.some.inj h
  exact Den.Spec.of_walk tab mixed Try.func147 (by kernel_rfl) [.br false, .call [] [] (.tup [.c (.int .u64 (IntKind.u64.wrap ((IntKind.u64.wrap ((IntKind.u64.wrap ((a0.fdiv (2 ^ 32)) * (a1.fdiv (2 ^ 32)))) + ((IntKind.u64.wrap ((IntKind.u64.wrap ((a0.fdiv (2 ^ 32)) * (bits2 .u64 (· &&& ·) a1 4294967295))) + ((IntKind.u64.wrap ((bits2 .u64 (· &&& ·) a0 4294967295) * (bits2 .u64 (· &&& ·) a1 4294967295))).fdiv (2 ^ 32)))).fdiv (2 ^ 32)))) + ((IntKind.u64.wrap ((bits2 .u64 (· &&& ·) (IntKind.u64.wrap ((IntKind.u64.wrap ((a0.fdiv (2 ^ 32)) * (bits2 .u64 (· &&& ·) a1 4294967295))) + ((IntKind.u64.wrap ((bits2 .u64 (· &&& ·) a0 4294967295) * (bits2 .u64 (· &&& ·) a1 4294967295))).fdiv (2 ^ 32)))) 4294967295) + (IntKind.u64.wrap ((bits2 .u64 (· &&& ·) a0 4294967295) * (a1.fdiv (2 ^ 32)))))).fdiv (2 ^ 32))))), .c (.int .u64 (IntKind.u64.wrap (a0 * a1)))]) []] [] [] (nd ff (nd (math_bits.Mul64.spec a0 a1 _ e1) trivial)) (by kernel_rfl)
def slices.Repeat_int_int.l0.f (a0 : List Int) : Nat → (List Int) → Int → Option ((List Int))
  | 0, _, _ => none
  | k + 1, v74_0, v74_1 =>
    cond (decide (v74_1 < (v74_0.length : Int))) (ck (0 ≤ v74_1) (ck (v74_1 ≤ (v74_0.length : Int)) (cond (decide (v74_1.toNat ≤ v74_0.length - v74_1.toNat)) (ck (v74_1.toNat + (v74_0.length - v74_1.toNat) ≤ v74_0.length) (ck (0 + v74_1.toNat ≤ v74_0.length) (slices.Repeat_int_int.l0.f a0 k (overL v74_0 v74_1.toNat v74_0 0 v74_1.toNat) (w64 (v74_1 + (v74_1.toNat : Int)))))) (ck (v74_1.toNat + (v74_0.length - v74_1.toNat) ≤ v74_0.length) (ck (0 + v74_1.toNat ≤ v74_0.length) (slices.Repeat_int_int.l0.f a0 k (overL v74_0 v74_1.toNat v74_0 0 (v74_0.length - v74_1.toNat)) (w64 (v74_1 + ((v74_0.length - v74_1.toNat : Nat) : Int))))))))) (some v74_0)
def slices.Repeat_int_int.l0.s (a0 : List Int) (v74_0 : List Int) (v74_1 : Int) : St := mkSt 48 [(7, one (.sl 1 0 v74_0.length)), (8, one (.int .i64 v74_1))] [some ⟨false, .ints .i64 a0⟩, some ⟨true, .ints .i64 v74_0⟩]
def slices.Repeat_int_int.l0.e0 (a0 : List Int) (o : (List Int)) : St := mkSt 48 [(7, one (.sl 1 0 o.length))] [some ⟨false, .ints .i64 a0⟩, some ⟨true, .ints .i64 o⟩]
def slices.Repeat_int_int.l0.x (a0 : List Int) : ((List Int)) → AExit × St := fun o => (.exit 0, slices.Repeat_int_int.l0.e0 a0 o)
theorem slices.Repeat_int_int.l0.spec (a0 : List Int) : ∀ (k : Nat) (v74_0 : List Int) (v74_1 : Int) (o : (List Int)), slices.Repeat_int_int.l0.f a0 k v74_0 v74_1 = some o → LoopSpec Try.prog 1 (loopN Try.f127 0) (slices.Repeat_int_int.l0.s a0 v74_0 v74_1) (slices.Repeat_int_int.l0.x a0 o).1 (slices.Repeat_int_int.l0.x a0 o).2
  | 0, _, _, _, h => by cases h
  | k + 1, v74_0, v74_1, o, h => by
    unfold slices.Repeat_int_int.l0.f at h
    rcases br_cases h with ⟨c1, h⟩ | ⟨c1, h⟩
    · obtain ⟨p1, h⟩ := ck_some h
      obtain ⟨p2, h⟩ := ck_some h
      rcases br_cases h with ⟨c2, h⟩ | ⟨c2, h⟩
      · obtain ⟨p3, h⟩ := ck_some h
        obtain ⟨p4, h⟩ := ck_some h
        exact .of_step tab mixed [.br true, .br true] [] [7, 8] [0, 1] (s1 := mkSt 48 [(7, one (.sl 1 0 v74_0.length)), (8, one (.int .i64 (w64 (v74_1 + (v74_1.toNat : Int)))))] [some ⟨false, .ints .i64 a0⟩, some ⟨true, .ints .i64 (overL v74_0 v74_1.toNat v74_0 0 v74_1.toNat)⟩]) (nd c1 (nd p1 (nd p2 (nd (Int.le_refl (v74_0.length : Int)) (nd (Int.le_refl 0) (nd p1 (nd p2 (nd (of_decide_eq_true c2) (nd p3 (nd p4 trivial)))))))))) (by kernel_rfl) (LoopSpec.eqs (slices.Repeat_int_int.l0.spec a0 k (overL v74_0 v74_1.toNat v74_0 0 v74_1.toNat) (w64 (v74_1 + (v74_1.toNat : Int))) _ h) (by simp only [slices.Repeat_int_int.l0.s, List.length_set, overL_length] : slices.Repeat_int_int.l0.s a0 (overL v74_0 v74_1.toNat v74_0 0 v74_1.toNat) (w64 (v74_1 + (v74_1.toNat : Int))) = mkSt 48 [(7, one (.sl 1 0 v74_0.length)), (8, one (.int .i64 (w64 (v74_1 + (v74_1.toNat : Int)))))] [some ⟨false, .ints .i64 a0⟩, some ⟨true, .ints .i64 (overL v74_0 v74_1.toNat v74_0 0 v74_1.toNat)⟩]))
      · obtain ⟨p3, h⟩ := ck_some h
        obtain ⟨p4, h⟩ := ck_some h
        exact .of_step tab mixed [.br true, .br false] [] [7, 8] [0, 1] (s1 := mkSt 48 [(7, one (.sl 1 0 v74_0.length)), (8, one (.int .i64 (w64 (v74_1 + ((v74_0.length - v74_1.toNat : Nat) : Int)))))] [some ⟨false, .ints .i64 a0⟩, some ⟨true, .ints .i64 (overL v74_0 v74_1.toNat v74_0 0 (v74_0.length - v74_1.toNat))⟩]) (nd c1 (nd p1 (nd p2 (nd (Int.le_refl (v74_0.length : Int)) (nd (Int.le_refl 0) (nd p1 (nd p2 (nd (Nat.le_of_lt (Nat.lt_of_not_le (of_decide_eq_false c2))) (nd p3 (nd p4 trivial)))))))))) (by kernel_rfl) (LoopSpec.eqs (slices.Repeat_int_int.l0.spec a0 k (overL v74_0 v74_1.toNat v74_0 0 (v74_0.length - v74_1.toNat)) (w64 (v74_1 + ((v74_0.length - v74_1.toNat : Nat) : Int))) _ h) (by simp only [slices.Repeat_int_int.l0.s, List.length_set, overL_length] : slices.Repeat_int_int.l0.s a0 (overL v74_0 v74_1.toNat v74_0 0 (v74_0.length - v74_1.toNat)) (w64 (v74_1 + ((v74_0.length - v74_1.toNat : Nat) : Int))) = mkSt 48 [(7, one (.sl 1 0 v74_0.length)), (8, one (.int .i64 (w64 (v74_1 + ((v74_0.length - v74_1.toNat : Nat) : Int)))))] [some ⟨false, .ints .i64 a0⟩, some ⟨true, .ints .i64 (overL v74_0 v74_1.toNat v74_0 0 (v74_0.length - v74_1.toNat))⟩]))
    · obtain rfl := Option.some.inj h
      exact .of_done tab mixed [.br false] [] [7] [0, 1] rfl (nd c1 trivial) (by kernel_rfl)
def slices.Repeat_int_int.l0_1.f (a0 : List Int) : Nat → (List Int) → Int → Option ((List Int))
  | 0, _, _ => none
  | k + 1, v75_0, v75_1 =>
    cond (decide (v75_1 < (v75_0.length : Int))) (ck (0 ≤ v75_1) (ck (v75_1 ≤ (v75_0.length : Int)) (cond (decide (v75_1.toNat ≤ v75_0.length - v75_1.toNat)) (ck (v75_1.toNat + (v75_0.length - v75_1.toNat) ≤ v75_0.length) (ck (0 + v75_1.toNat ≤ v75_0.length) (slices.Repeat_int_int.l0_1.f a0 k (overL v75_0 v75_1.toNat v75_0 0 v75_1.toNat) (w64 (v75_1 + (v75_1.toNat : Int)))))) (ck (v75_1.toNat + (v75_0.length - v75_1.toNat) ≤ v75_0.length) (ck (0 + v75_1.toNat ≤ v75_0.length) (slices.Repeat_int_int.l0_1.f a0 k (overL v75_0 v75_1.toNat v75_0 0 (v75_0.length - v75_1.toNat)) (w64 (v75_1 + ((v75_0.length - v75_1.toNat : Nat) : Int))))))))) (some v75_0)
def slices.Repeat_int_int.l0_1.s (a0 : List Int) (v75_0 : List Int) (v75_1 : Int) : St := mkSt 48 [(7, one (.sl 1 0 v75_0.length)), (8, one (.int .i64 v75_1))] [some ⟨false, .ints .i64 a0⟩, some ⟨true, .ints .i64 v75_0⟩]
def slices.Repeat_int_int.l0_1.e0 (a0 : List Int) (o : (List Int)) : St := mkSt 48 [(7, one (.sl 1 0 o.length))] [some ⟨false, .ints .i64 a0⟩, some ⟨true, .ints .i64 o⟩]
def slices.Repeat_int_int.l0_1.x (a0 : List Int) : ((List Int)) → AExit × St := fun o => (.exit 0, slices.Repeat_int_int.l0_1.e0 a0 o)
theorem slices.Repeat_int_int.l0_1.spec (a0 : List Int) : ∀ (k : Nat) (v75_0 : List Int) (v75_1 : Int) (o : (List Int)), slices.Repeat_int_int.l0_1.f a0 k v75_0 v75_1 = some o → LoopSpec Try.prog 1 (loopN Try.f127 0) (slices.Repeat_int_int.l0_1.s a0 v75_0 v75_1) (slices.Repeat_int_int.l0_1.x a0 o).1 (slices.Repeat_int_int.l0_1.x a0 o).2
  | 0, _, _, _, h => by cases h
  | k + 1, v75_0, v75_1, o, h => by
    unfold slices.Repeat_int_int.l0_1.f at h
    rcases br_cases h with ⟨c1, h⟩ | ⟨c1, h⟩
    · obtain ⟨p1, h⟩ := ck_some h
      obtain ⟨p2, h⟩ := ck_some h
      rcases br_cases h with ⟨c2, h⟩ | ⟨c2, h⟩
      · obtain ⟨p3, h⟩ := ck_some h
        obtain ⟨p4, h⟩ := ck_some h
        exact .of_step tab mixed [.br true, .br true] [] [7, 8] [0, 1] (s1 := mkSt 48 [(7, one (.sl 1 0 v75_0.length)), (8, one (.int .i64 (w64 (v75_1 + (v75_1.toNat : Int)))))] [some ⟨false, .ints .i64 a0⟩, some ⟨true, .ints .i64 (overL v75_0 v75_1.toNat v75_0 0 v75_1.toNat)⟩]) (nd c1 (nd p1 (nd p2 (nd (Int.le_refl (v75_0.length : Int)) (nd (Int.le_refl 0) (nd p1 (nd p2 (nd (of_decide_eq_true c2) (nd p3 (nd p4 trivial)))))))))) (by kernel_rfl) (LoopSpec.eqs (slices.Repeat_int_int.l0_1.spec a0 k (overL v75_0 v75_1.toNat v75_0 0 v75_1.toNat) (w64 (v75_1 + (v75_1.toNat : Int))) _ h) (by simp only [slices.Repeat_int_int.l0_1.s, List.length_set, overL_length] : slices.Repeat_int_int.l0_1.s a0 (overL v75_0 v75_1.toNat v75_0 0 v75_1.toNat) (w64 (v75_1 + (v75_1.toNat : Int))) = mkSt 48 [(7, one (.sl 1 0 v75_0.length)), (8, one (.int .i64 (w64 (v75_1 + (v75_1.toNat : Int)))))] [some ⟨false, .ints .i64 a0⟩, some ⟨true, .ints .i64 (overL v75_0 v75_1.toNat v75_0 0 v75_1.toNat)⟩]))
      · obtain ⟨p3, h⟩ := ck_some h
        obtain ⟨p4, h⟩ := ck_some h
        exact .of_step tab mixed [.br true, .br false] [] [7, 8] [0, 1] (s1 := mkSt 48 [(7, one (.sl 1 0 v75_0.length)), (8, one (.int .i64 (w64 (v75_1 + ((v75_0.length - v75_1.toNat : Nat) : Int)))))] [some ⟨false, .ints .i64 a0⟩, some ⟨true, .ints .i64 (overL v75_0 v75_1.toNat v75_0 0 (v75_0.length - v75_1.toNat))⟩]) (nd c1 (nd p1 (nd p2 (nd (Int.le_refl (v75_0.length : Int)) (nd (Int.le_refl 0) (nd p1 (nd p2 (nd (Nat.le_of_lt (Nat.lt_of_not_le (of_decide_eq_false c2))) (nd p3 (nd p4 trivial)))))))))) (by kernel_rfl) (LoopSpec.eqs (slices.Repeat_int_int.l0_1.spec a0 k (overL v75_0 v75_1.toNat v75_0 0 (v75_0.length - v75_1.toNat)) (w64 (v75_1 + ((v75_0.length - v75_1.toNat : Nat) : Int))) _ h) (by simp only [slices.Repeat_int_int.l0_1.s, List.length_set, overL_length] : slices.Repeat_int_int.l0_1.s a0 (overL v75_0 v75_1.toNat v75_0 0 (v75_0.length - v75_1.toNat)) (w64 (v75_1 + ((v75_0.length - v75_1.toNat : Nat) : Int))) = mkSt 48 [(7, one (.sl 1 0 v75_0.length)), (8, one (.int .i64 (w64 (v75_1 + ((v75_0.length - v75_1.toNat : Nat) : Int)))))] [some ⟨false, .ints .i64 a0⟩, some ⟨true, .ints .i64 (overL v75_0 v75_1.toNat v75_0 0 (v75_0.length - v75_1.toNat))⟩]))
    · obtain rfl := Option.some.inj h
      exact .of_done tab mixed [.br false] [] [7] [0, 1] rfl (nd c1 trivial) (by kernel_rfl)
def slices.Repeat_int_int.f (K : Nat) (a0 : List Int) (a1 : Int) : Option ((List Int)) :=
  cond (decide (a1 < 0)) (none) (Option.bind (math_bits.Mul.f (IntKind.u64.wrap (a0.length : Int)) (IntKind.u64.wrap a1)) fun x1 => cond (decide ((IntKind.u64.wrap ((IntKind.u64.wrap ((IntKind.u64.wrap (((IntKind.u64.wrap (a0.length : Int)).fdiv (2 ^ 32)) * ((IntKind.u64.wrap a1).fdiv (2 ^ 32)))) + ((IntKind.u64.wrap ((IntKind.u64.wrap (((IntKind.u64.wrap (a0.length : Int)).fdiv (2 ^ 32)) * (bits2 .u64 (· &&& ·) (IntKind.u64.wrap a1) 4294967295))) + ((IntKind.u64.wrap ((bits2 .u64 (· &&& ·) (IntKind.u64.wrap (a0.length : Int)) 4294967295) * (bits2 .u64 (· &&& ·) (IntKind.u64.wrap a1) 4294967295))).fdiv (2 ^ 32)))).fdiv (2 ^ 32)))) + ((IntKind.u64.wrap ((bits2 .u64 (· &&& ·) (IntKind.u64.wrap ((IntKind.u64.wrap (((IntKind.u64.wrap (a0.length : Int)).fdiv (2 ^ 32)) * (bits2 .u64 (· &&& ·) (IntKind.u64.wrap a1) 4294967295))) + ((IntKind.u64.wrap ((bits2 .u64 (· &&& ·) (IntKind.u64.wrap (a0.length : Int)) 4294967295) * (bits2 .u64 (· &&& ·) (IntKind.u64.wrap a1) 4294967295))).fdiv (2 ^ 32)))) 4294967295) + (IntKind.u64.wrap ((bits2 .u64 (· &&& ·) (IntKind.u64.wrap (a0.length : Int)) 4294967295) * ((IntKind.u64.wrap a1).fdiv (2 ^ 32)))))).fdiv (2 ^ 32)))) > 0)) (none) (cond (decide ((IntKind.u64.wrap ((IntKind.u64.wrap (a0.length : Int)) * (IntKind.u64.wrap a1))) > 9223372036854775807)) (none) (ck (0 ≤ (w64 (IntKind.u64.wrap ((IntKind.u64.wrap (a0.length : Int)) * (IntKind.u64.wrap a1))))) (ck (((w64 (IntKind.u64.wrap ((IntKind.u64.wrap (a0.length : Int)) * (IntKind.u64.wrap a1)))) * (8 : Int)) ≤ 70368744177664) (cond (decide (a0.length ≤ (List.replicate (w64 (IntKind.u64.wrap ((IntKind.u64.wrap (a0.length : Int)) * (IntKind.u64.wrap a1)))).toNat (0 : Int)).length)) (ck (0 + ((List.replicate (w64 (IntKind.u64.wrap ((IntKind.u64.wrap (a0.length : Int)) * (IntKind.u64.wrap a1)))).toNat (0 : Int)).length) ≤ (List.replicate (w64 (IntKind.u64.wrap ((IntKind.u64.wrap (a0.length : Int)) * (IntKind.u64.wrap a1)))).toNat (0 : Int)).length) (ck (0 + a0.length ≤ a0.length) (Option.bind (slices.Repeat_int_int.l0.f a0 K (overL (List.replicate (w64 (IntKind.u64.wrap ((IntKind.u64.wrap (a0.length : Int)) * (IntKind.u64.wrap a1)))).toNat (0 : Int)) 0 a0 0 a0.length) (a0.length : Int)) fun x2 => some x2))) (ck (0 + ((List.replicate (w64 (IntKind.u64.wrap ((IntKind.u64.wrap (a0.length : Int)) * (IntKind.u64.wrap a1)))).toNat (0 : Int)).length) ≤ (List.replicate (w64 (IntKind.u64.wrap ((IntKind.u64.wrap (a0.length : Int)) * (IntKind.u64.wrap a1)))).toNat (0 : Int)).length) (ck (0 + a0.length ≤ a0.length) (Option.bind (slices.Repeat_int_int.l0_1.f a0 K (overL (List.replicate (w64 (IntKind.u64.wrap ((IntKind.u64.wrap (a0.length : Int)) * (IntKind.u64.wrap a1)))).toNat (0 : Int)) 0 a0 0 ((List.replicate (w64 (IntKind.u64.wrap ((IntKind.u64.wrap (a0.length : Int)) * (IntKind.u64.wrap a1)))).toNat (0 : Int)).length)) ((List.replicate (w64 (IntKind.u64.wrap ((IntKind.u64.wrap (a0.length : Int)) * (IntKind.u64.wrap a1)))).toNat (0 : Int)).length : Int)) fun x2 => some x2))))))))
theorem slices.Repeat_int_int.spec (K : Nat) (a0 : List Int) (a1 : Int) (o : (List Int)) (h : slices.Repeat_int_int.f K a0 a1 = some o) : Den.Spec Try.prog 127 [one (.sl 0 0 a0.length), one (.int .i64 a1)] [some ⟨false, .ints .i64 a0⟩] (one (.sl 1 0 o.length)) [some ⟨false, .ints .i64 a0⟩, some ⟨true, .ints .i64 o⟩] := by
  unfold slices.Repeat_int_int.f at h
  rcases br_cases h with ⟨c1, h⟩ | ⟨c1, h⟩
  · cases h
  · obtain ⟨x1, e1, h⟩ := bind_some h
    rcases br_cases h with ⟨c2, h⟩ | ⟨c2, h⟩
    · cases h
    · rcases br_cases h with ⟨c3, h⟩ | ⟨c3, h⟩
      · cases h
      · obtain ⟨p1, h⟩ := ck_some h
        obtain ⟨p2, h⟩ := ck_some h
        rcases br_cases h with ⟨c4, h⟩ | ⟨c4, h⟩
        · obtain ⟨p3, h⟩ := ck_some h
          obtain ⟨p4, h⟩ := ck_some h
          obtain ⟨x2, e2, h⟩ := bind_some h
          obtain rfl := Option.some.inj h
          exact Den.Spec.of_walk tab mixed Try.func127 (by kernel_rfl) [.br false, .call [] [] (.tup [.c (.int .u64 (IntKind.u64.wrap ((IntKind.u64.wrap ((IntKind.u64.wrap (((IntKind.u64.wrap (a0.length : Int)).fdiv (2 ^ 32)) * ((IntKind.u64.wrap a1).fdiv (2 ^ 32)))) + ((IntKind.u64.wrap ((IntKind.u64.wrap (((IntKind.u64.wrap (a0.length : Int)).fdiv (2 ^ 32)) * (bits2 .u64 (· &&& ·) (IntKind.u64.wrap a1) 4294967295))) + ((IntKind.u64.wrap ((bits2 .u64 (· &&& ·) (IntKind.u64.wrap (a0.length : Int)) 4294967295) * (bits2 .u64 (· &&& ·) (IntKind.u64.wrap a1) 4294967295))).fdiv (2 ^ 32)))).fdiv (2 ^ 32)))) + ((IntKind.u64.wrap ((bits2 .u64 (· &&& ·) (IntKind.u64.wrap ((IntKind.u64.wrap (((IntKind.u64.wrap (a0.length : Int)).fdiv (2 ^ 32)) * (bits2 .u64 (· &&& ·) (IntKind.u64.wrap a1) 4294967295))) + ((IntKind.u64.wrap ((bits2 .u64 (· &&& ·) (IntKind.u64.wrap (a0.length : Int)) 4294967295) * (bits2 .u64 (· &&& ·) (IntKind.u64.wrap a1) 4294967295))).fdiv (2 ^ 32)))) 4294967295) + (IntKind.u64.wrap ((bits2 .u64 (· &&& ·) (IntKind.u64.wrap (a0.length : Int)) 4294967295) * ((IntKind.u64.wrap a1).fdiv (2 ^ 32)))))).fdiv (2 ^ 32))))), .c (.int .u64 (IntKind.u64.wrap ((IntKind.u64.wrap (a0.length : Int)) * (IntKind.u64.wrap a1))))]) [], .br false, .br false, .br false, .br false, .br true, .loop [] [7, 8] [0, 1] (.exit 0) (slices.Repeat_int_int.l0.e0 a0 x2)] [] [0, 1] (nd c1 (nd (math_bits.Mul.spec (IntKind.u64.wrap (a0.length : Int)) (IntKind.u64.wrap a1) _ e1) (nd c2 (nd c2 (nd c2 (nd c3 (nd p1 (nd (rfl : (w64 (IntKind.u64.wrap ((IntKind.u64.wrap (a0.length : Int)) * (IntKind.u64.wrap a1)))) = (w64 (IntKind.u64.wrap ((IntKind.u64.wrap (a0.length : Int)) * (IntKind.u64.wrap a1))))) (nd p2 (nd (of_decide_eq_true c4) (nd p3 (nd p4 (nd (LoopSpec.eqs (slices.Repeat_int_int.l0.spec a0 K (overL (List.replicate (w64 (IntKind.u64.wrap ((IntKind.u64.wrap (a0.length : Int)) * (IntKind.u64.wrap a1)))).toNat (0 : Int)) 0 a0 0 a0.length) (a0.length : Int) _ e2) (by simp only [slices.Repeat_int_int.l0.s, List.length_set, overL_length] : slices.Repeat_int_int.l0.s a0 (overL (List.replicate (w64 (IntKind.u64.wrap ((IntKind.u64.wrap (a0.length : Int)) * (IntKind.u64.wrap a1)))).toNat (0 : Int)) 0 a0 0 a0.length) (a0.length : Int) = mkSt 48 [(7, one (.sl 1 0 ((List.replicate (w64 (IntKind.u64.wrap ((IntKind.u64.wrap (a0.length : Int)) * (IntKind.u64.wrap a1)))).toNat (0 : Int)).length))), (8, one (.int .i64 (a0.length : Int)))] [some ⟨false, .ints .i64 a0⟩, some ⟨true, .ints .i64 (overL (List.replicate (w64 (IntKind.u64.wrap ((IntKind.u64.wrap (a0.length : Int)) * (IntKind.u64.wrap a1)))).toNat (0 : Int)) 0 a0 0 a0.length)⟩])) trivial))))))))))))) (by kernel_rfl)
        · obtain ⟨p3, h⟩ := ck_some h
          obtain ⟨p4, h⟩ := ck_some h
          obtain ⟨x2, e2, h⟩ := bind_some h
          obtain rfl := Option.some.inj h
          exact Den.Spec.of_walk tab mixed Try.func127 (by kernel_rfl) [.br false, .call [] [] (.tup [.c (.int .u64 (IntKind.u64.wrap ((IntKind.u64.wrap ((IntKind.u64.wrap (((IntKind.u64.wrap (a0.length : Int)).fdiv (2 ^ 32)) * ((IntKind.u64.wrap a1).fdiv (2 ^ 32)))) + ((IntKind.u64.wrap ((IntKind.u64.wrap (((IntKind.u64.wrap (a0.length : Int)).fdiv (2 ^ 32)) * (bits2 .u64 (· &&& ·) (IntKind.u64.wrap a1) 4294967295))) + ((IntKind.u64.wrap ((bits2 .u64 (· &&& ·) (IntKind.u64.wrap (a0.length : Int)) 4294967295) * (bits2 .u64 (· &&& ·) (IntKind.u64.wrap a1) 4294967295))).fdiv (2 ^ 32)))).fdiv (2 ^ 32)))) + ((IntKind.u64.wrap ((bits2 .u64 (· &&& ·) (IntKind.u64.wrap ((IntKind.u64.wrap (((IntKind.u64.wrap (a0.length : Int)).fdiv (2 ^ 32)) * (bits2 .u64 (· &&& ·) (IntKind.u64.wrap a1) 4294967295))) + ((IntKind.u64.wrap ((bits2 .u64 (· &&& ·) (IntKind.u64.wrap (a0.length : Int)) 4294967295) * (bits2 .u64 (· &&& ·) (IntKind.u64.wrap a1) 4294967295))).fdiv (2 ^ 32)))) 4294967295) + (IntKind.u64.wrap ((bits2 .u64 (· &&& ·) (IntKind.u64.wrap (a0.length : Int)) 4294967295) * ((IntKind.u64.wrap a1).fdiv (2 ^ 32)))))).fdiv (2 ^ 32))))), .c (.int .u64 (IntKind.u64.wrap ((IntKind.u64.wrap (a0.length : Int)) * (IntKind.u64.wrap a1))))]) [], .br false, .br false, .br false, .br false, .br false, .loop [] [7, 8] [0, 1] (.exit 0) (slices.Repeat_int_int.l0_1.e0 a0 x2)] [] [0, 1] (nd c1 (nd (math_bits.Mul.spec (IntKind.u64.wrap (a0.length : Int)) (IntKind.u64.wrap a1) _ e1) (nd c2 (nd c2 (nd c2 (nd c3 (nd p1 (nd (rfl : (w64 (IntKind.u64.wrap ((IntKind.u64.wrap (a0.length : Int)) * (IntKind.u64.wrap a1)))) = (w64 (IntKind.u64.wrap ((IntKind.u64.wrap (a0.length : Int)) * (IntKind.u64.wrap a1))))) (nd p2 (nd (Nat.le_of_lt (Nat.lt_of_not_le (of_decide_eq_false c4))) (nd p3 (nd p4 (nd (LoopSpec.eqs (slices.Repeat_int_int.l0_1.spec a0 K (overL (List.replicate (w64 (IntKind.u64.wrap ((IntKind.u64.wrap (a0.length : Int)) * (IntKind.u64.wrap a1)))).toNat (0 : Int)) 0 a0 0 ((List.replicate (w64 (IntKind.u64.wrap ((IntKind.u64.wrap (a0.length : Int)) * (IntKind.u64.wrap a1)))).toNat (0 : Int)).length)) ((List.replicate (w64 (IntKind.u64.wrap ((IntKind.u64.wrap (a0.length : Int)) * (IntKind.u64.wrap a1)))).toNat (0 : Int)).length : Int) _ e2) (by simp only [slices.Repeat_int_int.l0_1.s, List.length_set, overL_length] : slices.Repeat_int_int.l0_1.s a0 (overL (List.replicate (w64 (IntKind.u64.wrap ((IntKind.u64.wrap (a0.length : Int)) * (IntKind.u64.wrap a1)))).toNat (0 : Int)) 0 a0 0 ((List.replicate (w64 (IntKind.u64.wrap ((IntKind.u64.wrap (a0.length : Int)) * (IntKind.u64.wrap a1)))).toNat (0 : Int)).length)) ((List.replicate (w64 (IntKind.u64.wrap ((IntKind.u64.wrap (a0.length : Int)) * (IntKind.u64.wrap a1)))).toNat (0 : Int)).length : Int) = mkSt 48 [(7, one (.sl 1 0 ((List.replicate (w64 (IntKind.u64.wrap ((IntKind.u64.wrap (a0.length : Int)) * (IntKind.u64.wrap a1)))).toNat (0 : Int)).length))), (8, one (.int .i64 ((List.replicate (w64 (IntKind.u64.wrap ((IntKind.u64.wrap (a0.length : Int)) * (IntKind.u64.wrap a1)))).toNat (0 : Int)).length : Int)))] [some ⟨false, .ints .i64 a0⟩, some ⟨true, .ints .i64 (overL (List.replicate (w64 (IntKind.u64.wrap ((IntKind.u64.wrap (a0.length : Int)) * (IntKind.u64.wrap a1)))).toNat (0 : Int)) 0 a0 0 ((List.replicate (w64 (IntKind.u64.wrap ((IntKind.u64.wrap (a0.length : Int)) * (IntKind.u64.wrap a1)))).toNat (0 : Int)).length))⟩])) trivial))))))))))))) (by kernel_rfl)
def impl.GetNum.l0.f (a0 : List Int) (a1 : Int) : Nat → Int → Int → Option ((Int × Int × Bool) ⊕ Unit)
  | 0, _, _ => none
  | k + 1, v79_0, v79_1 =>
    cond (decide (v79_1 < 5)) (cond (decide ((w64 (a1 + v79_1)) < (a0.length : Int))) (ck (0 ≤ (w64 (a1 + v79_1))) (ck (0 ≤ (w64 (7 * v79_1))) (cond (decide ((w64 (a0.getD ((w64 (a1 + v79_1)).toNat) 0)) > 127)) (impl.GetNum.l0.f a0 a1 k (bits2 .i64 (· ||| ·) v79_0 (w64 ((bits2 .i64 (· &&& ·) (w64 (a0.getD ((w64 (a1 + v79_1)).toNat) 0)) 127) * 2 ^ (min (w64 (7 * v79_1)).toNat 64)))) (w64 (v79_1 + 1))) (cond ((w64 (a0.getD ((w64 (a1 + v79_1)).toNat) 0)) == 0) (cond (decide (v79_1 > 0)) (some (.inl (0, 0, false))) (cond (decide ((bits2 .i64 (· ||| ·) v79_0 (w64 ((bits2 .i64 (· &&& ·) (w64 (a0.getD ((w64 (a1 + v79_1)).toNat) 0)) 127) * 2 ^ (min (w64 (7 * v79_1)).toNat 64)))) > 1000000000)) (some (.inl (0, 0, false))) (some (.inl (bits2 .i64 (· ||| ·) v79_0 (w64 ((bits2 .i64 (· &&& ·) (w64 (a0.getD ((w64 (a1 + v79_1)).toNat) 0)) 127) * 2 ^ (min (w64 (7 * v79_1)).toNat 64))), w64 ((w64 (a1 + v79_1)) + 1), true))))) (cond (decide ((bits2 .i64 (· ||| ·) v79_0 (w64 ((bits2 .i64 (· &&& ·) (w64 (a0.getD ((w64 (a1 + v79_1)).toNat) 0)) 127) * 2 ^ (min (w64 (7 * v79_1)).toNat 64)))) > 1000000000)) (some (.inl (0, 0, false))) (some (.inl (bits2 .i64 (· ||| ·) v79_0 (w64 ((bits2 .i64 (· &&& ·) (w64 (a0.getD ((w64 (a1 + v79_1)).toNat) 0)) 127) * 2 ^ (min (w64 (7 * v79_1)).toNat 64))), w64 ((w64 (a1 + v79_1)) + 1), true)))))))) (some (.inr (())))) (some (.inr (())))
def impl.GetNum.l0.s (a0 : List Int) (a1 : Int) (v79_0 : Int) (v79_1 : Int) : St := mkSt 58 [(0, one (.sl 0 0 a0.length)), (1, one (.int .i64 a1)), (7, one (.int .i64 v79_0)), (8, one (.int .i64 v79_1))] [some ⟨false, .ints .u8 a0⟩]
def impl.GetNum.l0.e0 (a0 : List Int) (a1 : Int) (o : Int × Int × Bool) : St := mkSt 58 [(4, one (.int .i64 o.1)), (5, one (.int .i64 o.2.1)), (6, one (.bool o.2.2))] [some ⟨false, .ints .u8 a0⟩]
def impl.GetNum.l0.e1 (a0 : List Int) (a1 : Int) (o : Unit) : St := mkSt 58 [] [some ⟨false, .ints .u8 a0⟩]
def impl.GetNum.l0.x (a0 : List Int) (a1 : Int) : ((Int × Int × Bool) ⊕ Unit) → AExit × St := Sum.elim (fun o => (.ret, impl.GetNum.l0.e0 a0 a1 o)) (fun o => (.exit 0, impl.GetNum.l0.e1 a0 a1 o))
theorem impl.GetNum.l0.spec (a0 : List Int) (a1 : Int) : ∀ (k : Nat) (v79_0 : Int) (v79_1 : Int) (o : (Int × Int × Bool) ⊕ Unit), impl.GetNum.l0.f a0 a1 k v79_0 v79_1 = some o → LoopSpec Try.prog 1 (loopN Try.f139 0) (impl.GetNum.l0.s a0 a1 v79_0 v79_1) (impl.GetNum.l0.x a0 a1 o).1 (impl.GetNum.l0.x a0 a1 o).2
  | 0, _, _, _, h => by cases h
  | k + 1, v79_0, v79_1, o, h => by
    unfold impl.GetNum.l0.f at h
    rcases br_cases h with ⟨c1, h⟩ | ⟨c1, h⟩
    · rcases br_cases h with ⟨c2, h⟩ | ⟨c2, h⟩
      · obtain ⟨p1, h⟩ := ck_some h
        obtain ⟨p2, h⟩ := ck_some h
        rcases br_cases h with ⟨c3, h⟩ | ⟨c3, h⟩
        · exact .of_step tab mixed [.br true, .br true, .br true, .br true, .br true, .br true, .br true, .br true, .br true] [] [0, 1, 7, 8] [0] (s1 := impl.GetNum.l0.s a0 a1 (bits2 .i64 (· ||| ·) v79_0 (w64 ((bits2 .i64 (· &&& ·) (w64 (a0.getD ((w64 (a1 + v79_1)).toNat) 0)) 127) * 2 ^ (min (w64 (7 * v79_1)).toNat 64)))) (w64 (v79_1 + 1))) (nd c1 (nd c1 (nd c1 (nd c1 (nd c1 (nd c1 (nd c1 (nd c2 (nd p1 (nd (of_decide_eq_true c2) (nd (tn p1 (of_decide_eq_true c2)) (nd p2 (nd c3 trivial))))))))))))) (by kernel_rfl) (impl.GetNum.l0.spec a0 a1 k (bits2 .i64 (· ||| ·) v79_0 (w64 ((bits2 .i64 (· &&& ·) (w64 (a0.getD ((w64 (a1 + v79_1)).toNat) 0)) 127) * 2 ^ (min (w64 (7 * v79_1)).toNat 64)))) (w64 (v79_1 + 1)) _ h)
        · rcases br_cases h with ⟨c4, h⟩ | ⟨c4, h⟩
          · rcases br_cases h with ⟨c5, h⟩ | ⟨c5, h⟩
            · obtain rfl := Option.some.inj h
              exact .of_done tab mixed [.br true, .br true, .br true, .br true, .br true, .br true, .br true, .br true, .br false, .br true, .br true, .br true, .br true, .br true, .br true, .br true] [] [4, 5, 6] [0] rfl (nd c1 (nd c1 (nd c1 (nd c1 (nd c1 (nd c1 (nd c1 (nd c2 (nd p1 (nd (of_decide_eq_true c2) (nd (tn p1 (of_decide_eq_true c2)) (nd p2 (nd c3 (nd c4 (nd c4 (nd c4 (nd c5 (nd c5 (nd c5 (nd tt trivial)))))))))))))))))))) (by kernel_rfl)
            · rcases br_cases h with ⟨c6, h⟩ | ⟨c6, h⟩
              · obtain rfl := Option.some.inj h
                exact .of_done tab mixed [.br true, .br true, .br true, .br true, .br true, .br true, .br true, .br true, .br false, .br true, .br true, .br true, .br false, .br false, .br false, .br true] [] [4, 5, 6] [0] rfl (nd c1 (nd c1 (nd c1 (nd c1 (nd c1 (nd c1 (nd c1 (nd c2 (nd p1 (nd (of_decide_eq_true c2) (nd (tn p1 (of_decide_eq_true c2)) (nd p2 (nd c3 (nd c4 (nd c4 (nd c4 (nd c5 (nd c5 (nd c5 (nd c6 trivial)))))))))))))))))))) (by kernel_rfl)
              · obtain rfl := Option.some.inj h
                exact .of_done tab mixed [.br true, .br true, .br true, .br true, .br true, .br true, .br true, .br true, .br false, .br true, .br true, .br true, .br false, .br false, .br false, .br false] [] [4, 5, 6] [0] rfl (nd c1 (nd c1 (nd c1 (nd c1 (nd c1 (nd c1 (nd c1 (nd c2 (nd p1 (nd (of_decide_eq_true c2) (nd (tn p1 (of_decide_eq_true c2)) (nd p2 (nd c3 (nd c4 (nd c4 (nd c4 (nd c5 (nd c5 (nd c5 (nd c6 trivial)))))))))))))))))))) (by kernel_rfl)
          · rcases br_cases h with ⟨c5, h⟩ | ⟨c5, h⟩
            · obtain rfl := Option.some.inj h
              exact .of_done tab mixed [.br true, .br true, .br true, .br true, .br true, .br true, .br true, .br true, .br false, .br false, .br false, .br false, .br false, .br false, .br false, .br true] [] [4, 5, 6] [0] rfl (nd c1 (nd c1 (nd c1 (nd c1 (nd c1 (nd c1 (nd c1 (nd c2 (nd p1 (nd (of_decide_eq_true c2) (nd (tn p1 (of_decide_eq_true c2)) (nd p2 (nd c3 (nd c4 (nd c4 (nd c4 (nd ff (nd ff (nd ff (nd c5 trivial)))))))))))))))))))) (by kernel_rfl)
            · obtain rfl := Option.some.inj h
              exact .of_done tab mixed [.br true, .br true, .br true, .br true, .br true, .br true, .br true, .br true, .br false, .br false, .br false, .br false, .br false, .br false, .br false, .br false] [] [4, 5, 6] [0] rfl (nd c1 (nd c1 (nd c1 (nd c1 (nd c1 (nd c1 (nd c1 (nd c2 (nd p1 (nd (of_decide_eq_true c2) (nd (tn p1 (of_decide_eq_true c2)) (nd p2 (nd c3 (nd c4 (nd c4 (nd c4 (nd ff (nd ff (nd ff (nd c5 trivial)))))))))))))))))))) (by kernel_rfl)
      · obtain rfl := Option.some.inj h
        exact .of_done tab mixed [.br true, .br true, .br true, .br true, .br true, .br true, .br true, .br false] [] [] [0] rfl (nd c1 (nd c1 (nd c1 (nd c1 (nd c1 (nd c1 (nd c1 (nd c2 trivial)))))))) (by kernel_rfl)
    · obtain rfl := Option.some.inj h
      exact .of_done tab mixed [.br false, .br false, .br false, .br false, .br false, .br false, .br false, .br false] [] [] [0] rfl (nd c1 (nd c1 (nd c1 (nd c1 (nd c1 (nd c1 (nd c1 (nd ff trivial)))))))) (by kernel_rfl)
def impl.GetNum.f (K : Nat) (a0 : List Int) (a1 : Int) : Option (Int × Int × Bool) :=
  Option.bind (impl.in_.f a1 0 (a0.length : Int)) fun x1 => cond (x1) (Option.bind (impl.GetNum.l0.f a0 a1 K 0 0) fun x2 => (Sum.elim (fun x2 => some (x2.1, x2.2.1, x2.2.2)) (fun x2 => some (0, 0, false))) x2) (some (0, 0, false))
theorem impl.GetNum.spec (K : Nat) (a0 : List Int) (a1 : Int) (o : Int × Int × Bool) (h : impl.GetNum.f K a0 a1 = some o) : Den.Spec Try.prog 139 [one (.sl 0 0 a0.length), one (.int .i64 a1)] [some ⟨false, .ints .u8 a0⟩] (.tup [.c (.int .i64 o.1), .c (.int .i64 o.2.1), .c (.bool o.2.2)]) [some ⟨false, .ints .u8 a0⟩] := by
  unfold impl.GetNum.f at h
  obtain ⟨x1, e1, h⟩ := bind_some h
  rcases br_cases h with ⟨c1, h⟩ | ⟨c1, h⟩
  · obtain ⟨x2, e2, h⟩ := bind_some h
    rcases x2 with x2 | x2
    · obtain rfl := Option.some.inj h
      exact Den.Spec.of_walk tab mixed Try.func139 (by kernel_rfl) [.call [] [] (one (.bool x1)) [], .br false, .loop [] [0, 1, 7, 8] [0] (.ret) (impl.GetNum.l0.e0 a0 a1 x2)] [] [0] (nd (impl.in_.spec a1 0 (a0.length : Int) _ e1) (nd (nf c1) (nd (impl.GetNum.l0.spec a0 a1 K 0 0 _ e2) trivial))) (by kernel_rfl)
    · obtain rfl := Option.some.inj h
      exact Den.Spec.of_walk tab mixed Try.func139 (by kernel_rfl) [.call [] [] (one (.bool x1)) [], .br false, .loop [] [0, 1, 7, 8] [0] (.exit 0) (impl.GetNum.l0.e1 a0 a1 x2)] [] [0] (nd (impl.in_.spec a1 0 (a0.length : Int) _ e1) (nd (nf c1) (nd (impl.GetNum.l0.spec a0 a1 K 0 0 _ e2) trivial))) (by kernel_rfl)
  · obtain rfl := Option.some.inj h
    exact Den.Spec.of_walk tab mixed Try.func139 (by kernel_rfl) [.call [] [] (one (.bool x1)) [], .br true] [] [0] (nd (impl.in_.spec a1 0 (a0.length : Int) _ e1) (nd (nt c1) trivial)) (by kernel_rfl)
def impl.reader.number.f (K : Nat) (a0 : List Int) (a1 : Int) (a2 : Bool) : Option (Int × Int × Bool) :=
  Option.bind (impl.GetNum.f K a0 a1) fun x1 => cond (a2) (some (0, a1, true)) (cond (x1.2.2) (some (x1.1, x1.2.1, a2)) (some (0, a1, true)))
theorem impl.reader.number.spec (K : Nat) (a0 : List Int) (a1 : Int) (a2 : Bool) (o : Int × Int × Bool) (h : impl.reader.number.f K a0 a1 a2 = some o) : Den.Spec Try.prog 107 [one (.ptr 0 0 0)] [some ⟨true, .cells [.sl 1 0 a0.length, .int .i64 a1, .bool a2]⟩, some ⟨true, .ints .u8 a0⟩] (one (.int .i64 o.1)) [some ⟨true, .cells [.sl 1 0 a0.length, .int .i64 o.2.1, .bool o.2.2]⟩, some ⟨true, .ints .u8 a0⟩] := by
  unfold impl.reader.number.f at h
  obtain ⟨x1, e1, h⟩ := bind_some h
  rcases br_cases h with ⟨c1, h⟩ | ⟨c1, h⟩
  · obtain rfl := Option.some.inj h
    exact Den.Spec.of_walk tab mixed Try.func107 (by kernel_rfl) [.call [] [(0, true)] (.tup [.c (.int .i64 x1.1), .c (.int .i64 x1.2.1), .c (.bool x1.2.2)]) [some ⟨false, .ints .u8 a0⟩], .br true, .br true, .br true, .br true] [] [0, 1] (nd (impl.GetNum.spec K a0 a1 _ e1) (nd (rfl : (0 : Nat) = 0) (nd (rfl : a0.length = a0.length) (nd c1 (nd c1 (nd c1 (nd tt trivial))))))) (by kernel_rfl)
  · rcases br_cases h with ⟨c2, h⟩ | ⟨c2, h⟩
    · obtain rfl := Option.some.inj h
      exact Den.Spec.of_walk tab mixed Try.func107 (by kernel_rfl) [.call [] [(0, true)] (.tup [.c (.int .i64 x1.1), .c (.int .i64 x1.2.1), .c (.bool x1.2.2)]) [some ⟨false, .ints .u8 a0⟩], .br false, .br false, .br false, .br false] [] [0, 1] (nd (impl.GetNum.spec K a0 a1 _ e1) (nd (rfl : (0 : Nat) = 0) (nd (rfl : a0.length = a0.length) (nd c1 (nd c1 (nd c1 (nd (nf c2) trivial))))))) (by kernel_rfl)
    · obtain rfl := Option.some.inj h
      exact Den.Spec.of_walk tab mixed Try.func107 (by kernel_rfl) [.call [] [(0, true)] (.tup [.c (.int .i64 x1.1), .c (.int .i64 x1.2.1), .c (.bool x1.2.2)]) [some ⟨false, .ints .u8 a0⟩], .br false, .br false, .br false, .br true] [] [0, 1] (nd (impl.GetNum.spec K a0 a1 _ e1) (nd (rfl : (0 : Nat) = 0) (nd (rfl : a0.length = a0.length) (nd c1 (nd c1 (nd c1 (nd (nt c2) trivial))))))) (by kernel_rfl)
def impl.Sum.l0.f (a0 : List Int) : Nat → Int → Int → Option (Int)
  | 0, _, _ => none
  | k + 1, v83_0, v83_1 =>
    cond (decide (v83_1 < (a0.length : Int))) (ck (0 ≤ v83_1) (impl.Sum.l0.f a0 k ((w64 ((w64 (31 * v83_0)) + (w64 (a0.getD v83_1.toNat 0)))).tmod 1000003) (w64 (v83_1 + 1)))) (some v83_0)
def impl.Sum.l0.s (a0 : List Int) (v83_0 : Int) (v83_1 : Int) : St := mkSt 20 [(3, one (.int .i64 v83_0)), (6, one (.sl 0 0 a0.length)), (7, one (.int .i64 (a0.length : Int))), (8, one (.int .i64 v83_1))] [some ⟨false, .ints .u8 a0⟩]
def impl.Sum.l0.e0 (a0 : List Int) (o : Int) : St := mkSt 20 [(3, one (.int .i64 o))] [some ⟨false, .ints .u8 a0⟩]
def impl.Sum.l0.x (a0 : List Int) : (Int) → AExit × St := fun o => (.exit 0, impl.Sum.l0.e0 a0 o)
theorem impl.Sum.l0.spec (a0 : List Int) : ∀ (k : Nat) (v83_0 : Int) (v83_1 : Int) (o : Int), impl.Sum.l0.f a0 k v83_0 v83_1 = some o → LoopSpec Try.prog 1 (loopN Try.f138 0) (impl.Sum.l0.s a0 v83_0 v83_1) (impl.Sum.l0.x a0 o).1 (impl.Sum.l0.x a0 o).2
  | 0, _, _, _, h => by cases h
  | k + 1, v83_0, v83_1, o, h => by
    unfold impl.Sum.l0.f at h
    rcases br_cases h with ⟨c1, h⟩ | ⟨c1, h⟩
    · obtain ⟨p1, h⟩ := ck_some h
      exact .of_step tab mixed [.br true] [] [3, 6, 7, 8] [0] (s1 := impl.Sum.l0.s a0 ((w64 ((w64 (31 * v83_0)) + (w64 (a0.getD v83_1.toNat 0)))).tmod 1000003) (w64 (v83_1 + 1))) (nd c1 (nd p1 (nd (of_decide_eq_true c1) (nd (tn p1 (of_decide_eq_true c1)) (nd (by decide : (1000003 : Int) ≠ 0) trivial))))) (by kernel_rfl) (impl.Sum.l0.spec a0 k ((w64 ((w64 (31 * v83_0)) + (w64 (a0.getD v83_1.toNat 0)))).tmod 1000003) (w64 (v83_1 + 1)) _ h)
    · obtain rfl := Option.some.inj h
      exact .of_done tab mixed [.br false] [] [3] [0] rfl (nd c1 trivial) (by kernel_rfl)
def impl.Sum.f (K : Nat) (a0 : List Int) : Option (Int) :=
  Option.bind (impl.Sum.l0.f a0 K 7 0) fun x1 => some x1
theorem impl.Sum.spec (K : Nat) (a0 : List Int) (o : Int) (h : impl.Sum.f K a0 = some o) : Den.Spec Try.prog 138 [one (.sl 0 0 a0.length)] [some ⟨false, .ints .u8 a0⟩] (one (.int .i64 o)) [some ⟨false, .ints .u8 a0⟩] := by
  unfold impl.Sum.f at h
  obtain ⟨x1, e1, h⟩ := bind_some h
  obtain rfl := Option.some.inj h
  exact Den.Spec.of_walk tab mixed Try.func138 (by kernel_rfl) [.loop [] [3, 6, 7, 8] [0] (.exit 0) (impl.Sum.l0.e0 a0 x1)] [] [0] (nd (impl.Sum.l0.spec a0 K 7 0 _ e1) trivial) (by kernel_rfl)
def impl.unsummed.f (K : Nat) (a0 : ByteArray) : Option (Int × Bool) :=
  Option.bind (impl.reader.number.f K (bytesL a0) 0 false) fun x1 => cond (x1.2.2) (some (x1.2.1, true)) (ck (0 ≤ x1.2.1) (ck (x1.2.1 ≤ ((bytesL a0).length : Int)) (Option.bind (impl.Sum.f K (((bytesL a0).drop x1.2.1.toNat).take ((bytesL a0).length - x1.2.1.toNat))) fun x2 => ck (x1.2.1.toNat + ((bytesL a0).length - x1.2.1.toNat) ≤ (bytesL a0).length) (some (x1.2.1, x1.1 != x2)))))
theorem impl.unsummed.spec (K : Nat) (a0 : ByteArray) (o : Int × Bool) (h : impl.unsummed.f K a0 = some o) : Den.Spec Try.prog 106 [one (.str a0)] [] (one (.ptr 0 0 0)) [some ⟨true, .cells [.sl 1 0 ((bytesL a0).length), .int .i64 o.1, .bool o.2]⟩, some ⟨true, .ints .u8 (bytesL a0)⟩] := by
  unfold impl.unsummed.f at h
  obtain ⟨x1, e1, h⟩ := bind_some h
  rcases br_cases h with ⟨c1, h⟩ | ⟨c1, h⟩
  · obtain rfl := Option.some.inj h
    exact Den.Spec.of_walk tab mixed Try.func106 (by kernel_rfl) [.call [(1, true), (0, true)] [] (one (.int .i64 x1.1)) [some ⟨true, .cells [.sl 1 0 ((bytesL a0).length), .int .i64 x1.2.1, .bool x1.2.2]⟩, some ⟨true, .ints .u8 (bytesL a0)⟩], .br true, .br true, .br true, .br true, .br true, .br true, .br true, .br true, .br true, .br true, .br true, .br true, .br true] [] [1, 0] (nd (impl.reader.number.spec K (bytesL a0) 0 false _ e1) (nd c1 (nd c1 (nd c1 (nd c1 (nd c1 (nd c1 (nd c1 (nd c1 (nd c1 (nd c1 (nd c1 (nd c1 (nd c1 trivial)))))))))))))) (by kernel_rfl)
  · obtain ⟨p1, h⟩ := ck_some h
    obtain ⟨p2, h⟩ := ck_some h
    obtain ⟨x2, e2, h⟩ := bind_some h
    obtain ⟨p3, h⟩ := ck_some h
    obtain rfl := Option.some.inj h
    exact Den.Spec.of_walk tab mixed Try.func106 (by kernel_rfl) [.call [(1, true), (0, true)] [] (one (.int .i64 x1.1)) [some ⟨true, .cells [.sl 1 0 ((bytesL a0).length), .int .i64 x1.2.1, .bool x1.2.2]⟩, some ⟨true, .ints .u8 (bytesL a0)⟩], .br false, .br false, .br false, .br false, .br false, .br false, .br false, .br false, .br false, .br false, .br false, .call [] [(0, false)] (one (.int .i64 x2)) [some ⟨false, .ints .u8 (((bytesL a0).drop x1.2.1.toNat).take ((bytesL a0).length - x1.2.1.toNat))⟩], .br false, .br false] [] [1, 0] (nd (impl.reader.number.spec K (bytesL a0) 0 false _ e1) (nd c1 (nd c1 (nd c1 (nd c1 (nd c1 (nd c1 (nd c1 (nd c1 (nd c1 (nd c1 (nd p1 (nd p2 (nd (Int.le_refl ((bytesL a0).length : Int)) (nd c1 (nd ((impl.Sum.spec K (((bytesL a0).drop x1.2.1.toNat).take ((bytesL a0).length - x1.2.1.toNat)) _ e2).args (congrArg (fun n => ([one (.sl 0 0 n)] : List AV)) (win_len p3))) (nd c1 (nd c1 trivial)))))))))))))))))) (by kernel_rfl)
def impl.GetText.f (K : Nat) (a0 : List Int) (a1 : Int) : Option (ByteArray × Int × Bool) :=
  Option.bind (impl.GetNum.f K a0 a1) fun x1 => cond (x1.2.2) (cond (decide (x1.1 > 400)) (some (noVal, 0, false)) (cond (decide (x1.1 > (w64 ((a0.length : Int) - x1.2.1)))) (some (noVal, 0, false)) (ck (0 ≤ x1.2.1) (ck (x1.2.1 ≤ (w64 (x1.2.1 + x1.1))) (ck ((w64 (x1.2.1 + x1.1)) ≤ (a0.length : Int)) (ck (x1.2.1.toNat + ((w64 (x1.2.1 + x1.1)).toNat - x1.2.1.toNat) ≤ a0.length) (some (ofBytes ((a0.drop x1.2.1.toNat).take ((w64 (x1.2.1 + x1.1)).toNat - x1.2.1.toNat)), w64 (x1.2.1 + x1.1), true)))))))) (some (noVal, 0, false))
theorem impl.GetText.spec (K : Nat) (a0 : List Int) (a1 : Int) (o : ByteArray × Int × Bool) (h : impl.GetText.f K a0 a1 = some o) : Den.Spec Try.prog 140 [one (.sl 0 0 a0.length), one (.int .i64 a1)] [some ⟨false, .ints .u8 a0⟩] (.tup [.c (.str o.1), .c (.int .i64 o.2.1), .c (.bool o.2.2)]) [some ⟨false, .ints .u8 a0⟩] := by
  unfold impl.GetText.f at h
  obtain ⟨x1, e1, h⟩ := bind_some h
  rcases br_cases h with ⟨c1, h⟩ | ⟨c1, h⟩
  · rcases br_cases h with ⟨c2, h⟩ | ⟨c2, h⟩
    · obtain rfl := Option.some.inj h
      exact Den.Spec.of_walk tab mixed Try.func140 (by kernel_rfl) [.call [] [(0, true)] (.tup [.c (.int .i64 x1.1), .c (.int .i64 x1.2.1), .c (.bool x1.2.2)]) [some ⟨false, .ints .u8 a0⟩], .br false, .br false, .br false, .br true, .br true, .br true, .br true, .br true, .br true, .br true, .br true] [] [0] (nd (impl.GetNum.spec K a0 a1 _ e1) (nd (rfl : (0 : Nat) = 0) (nd (rfl : a0.length = a0.length) (nd (nf c1) (nd (nf c1) (nd (nf c1) (nd c2 (nd c2 (nd c2 (nd c2 (nd c2 (nd c2 (nd c2 (nd tt trivial)))))))))))))) (by kernel_rfl)
    · rcases br_cases h with ⟨c3, h⟩ | ⟨c3, h⟩
      · obtain rfl := Option.some.inj h
        exact Den.Spec.of_walk tab mixed Try.func140 (by kernel_rfl) [.call [] [(0, true)] (.tup [.c (.int .i64 x1.1), .c (.int .i64 x1.2.1), .c (.bool x1.2.2)]) [some ⟨false, .ints .u8 a0⟩], .br false, .br false, .br false, .br false, .br false, .br false, .br false, .br false, .br false, .br false, .br true] [] [0] (nd (impl.GetNum.spec K a0 a1 _ e1) (nd (rfl : (0 : Nat) = 0) (nd (rfl : a0.length = a0.length) (nd (nf c1) (nd (nf c1) (nd (nf c1) (nd c2 (nd c2 (nd c2 (nd c2 (nd c2 (nd c2 (nd c2 (nd c3 trivial)))))))))))))) (by kernel_rfl)
      · obtain ⟨p1, h⟩ := ck_some h
        obtain ⟨p2, h⟩ := ck_some h
        obtain ⟨p3, h⟩ := ck_some h
        obtain ⟨p4, h⟩ := ck_some h
        obtain rfl := Option.some.inj h
        exact Den.Spec.of_walk tab mixed Try.func140 (by kernel_rfl) [.call [] [(0, true)] (.tup [.c (.int .i64 x1.1), .c (.int .i64 x1.2.1), .c (.bool x1.2.2)]) [some ⟨false, .ints .u8 a0⟩], .br false, .br false, .br false, .br false, .br false, .br false, .br false, .br false, .br false, .br false, .br false, .br false] [] [0] (nd (impl.GetNum.spec K a0 a1 _ e1) (nd (rfl : (0 : Nat) = 0) (nd (rfl : a0.length = a0.length) (nd (nf c1) (nd (nf c1) (nd (nf c1) (nd c2 (nd c2 (nd c2 (nd c2 (nd c2 (nd c2 (nd c2 (nd c3 (nd p1 (nd p2 (nd p3 (nd p4 trivial)))))))))))))))))) (by kernel_rfl)
  · obtain rfl := Option.some.inj h
    exact Den.Spec.of_walk tab mixed Try.func140 (by kernel_rfl) [.call [] [(0, true)] (.tup [.c (.int .i64 x1.1), .c (.int .i64 x1.2.1), .c (.bool x1.2.2)]) [some ⟨false, .ints .u8 a0⟩], .br true, .br true, .br true, .br true, .br true, .br true, .br true, .br true, .br true, .br true, .br true] [] [0] (nd (impl.GetNum.spec K a0 a1 _ e1) (nd (rfl : (0 : Nat) = 0) (nd (rfl : a0.length = a0.length) (nd (nt c1) (nd (nt c1) (nd (nt c1) (nd tt (nd tt (nd tt (nd tt (nd tt (nd tt (nd tt (nd tt trivial)))))))))))))) (by kernel_rfl)
def impl.reader.text.f (K : Nat) (a0 : List Int) (a1 : Int) (a2 : Bool) : Option (ByteArray × Int × Bool) :=
  Option.bind (impl.GetText.f K a0 a1) fun x1 => cond (a2) (some (noVal, a1, true)) (cond (x1.2.2) (some (x1.1, x1.2.1, a2)) (some (noVal, a1, true)))
theorem impl.reader.text.spec (K : Nat) (a0 : List Int) (a1 : Int) (a2 : Bool) (o : ByteArray × Int × Bool) (h : impl.reader.text.f K a0 a1 a2 = some o) : Den.Spec Try.prog 108 [one (.ptr 0 0 0)] [some ⟨true, .cells [.sl 1 0 a0.length, .int .i64 a1, .bool a2]⟩, some ⟨true, .ints .u8 a0⟩] (one (.str o.1)) [some ⟨true, .cells [.sl 1 0 a0.length, .int .i64 o.2.1, .bool o.2.2]⟩, some ⟨true, .ints .u8 a0⟩] := by
  unfold impl.reader.text.f at h
  obtain ⟨x1, e1, h⟩ := bind_some h
  rcases br_cases h with ⟨c1, h⟩ | ⟨c1, h⟩
  · obtain rfl := Option.some.inj h
    exact Den.Spec.of_walk tab mixed Try.func108 (by kernel_rfl) [.call [] [(0, true)] (.tup [.c (.str x1.1), .c (.int .i64 x1.2.1), .c (.bool x1.2.2)]) [some ⟨false, .ints .u8 a0⟩], .br true, .br true, .br true, .br true] [] [0, 1] (nd (impl.GetText.spec K a0 a1 _ e1) (nd (rfl : (0 : Nat) = 0) (nd (rfl : a0.length = a0.length) (nd c1 (nd c1 (nd c1 (nd tt trivial))))))) (by kernel_rfl)
  · rcases br_cases h with ⟨c2, h⟩ | ⟨c2, h⟩
    · obtain rfl := Option.some.inj h
      exact Den.Spec.of_walk tab mixed Try.func108 (by kernel_rfl) [.call [] [(0, true)] (.tup [.c (.str x1.1), .c (.int .i64 x1.2.1), .c (.bool x1.2.2)]) [some ⟨false, .ints .u8 a0⟩], .br false, .br false, .br false, .br false] [] [0, 1] (nd (impl.GetText.spec K a0 a1 _ e1) (nd (rfl : (0 : Nat) = 0) (nd (rfl : a0.length = a0.length) (nd c1 (nd c1 (nd c1 (nd (nf c2) trivial))))))) (by kernel_rfl)
    · obtain rfl := Option.some.inj h
      exact Den.Spec.of_walk tab mixed Try.func108 (by kernel_rfl) [.call [] [(0, true)] (.tup [.c (.str x1.1), .c (.int .i64 x1.2.1), .c (.bool x1.2.2)]) [some ⟨false, .ints .u8 a0⟩], .br false, .br false, .br false, .br true] [] [0, 1] (nd (impl.GetText.spec K a0 a1 _ e1) (nd (rfl : (0 : Nat) = 0) (nd (rfl : a0.length = a0.length) (nd c1 (nd c1 (nd c1 (nd (nt c2) trivial))))))) (by kernel_rfl)
def impl.reader.done.f (a0 : List Int) (a1 : Int) (a2 : Bool) : Option (Bool) :=
  cond (a2) (some false) (some (a1 == (a0.length : Int)))
theorem impl.reader.done.spec (a0 : List Int) (a1 : Int) (a2 : Bool) (o : Bool) (h : impl.reader.done.f a0 a1 a2 = some o) : Den.Spec Try.prog 109 [one (.ptr 0 0 0)] [some ⟨false, .cells [.sl 1 0 a0.length, .int .i64 a1, .bool a2]⟩, some ⟨false, .ints .u8 a0⟩] (one (.bool o)) [some ⟨false, .cells [.sl 1 0 a0.length, .int .i64 a1, .bool a2]⟩, some ⟨false, .ints .u8 a0⟩] := by
  unfold impl.reader.done.f at h
  rcases br_cases h with ⟨c1, h⟩ | ⟨c1, h⟩
  · obtain rfl := Option.some.inj h
    exact Den.Spec.of_walk tab mixed Try.func109 (by kernel_rfl) [.br false, .br false, .br false, .br false, .br false, .br false, .br false, .br false, .br false, .br false, .br false] [] [0, 1] (nd (nf c1) (nd (nf c1) (nd (nf c1) (nd (nf c1) (nd (nf c1) (nd (nf c1) (nd (nf c1) (nd (nf c1) (nd (nf c1) (nd (nf c1) (nd (nf c1) trivial))))))))))) (by kernel_rfl)
  · obtain rfl := Option.some.inj h
    exact Den.Spec.of_walk tab mixed Try.func109 (by kernel_rfl) [.br true, .br true, .br true, .br true, .br true, .br true, .br true, .br true, .br true, .br true, .br true] [] [0, 1] (nd (nt c1) (nd (nt c1) (nd (nt c1) (nd (nt c1) (nd (nt c1) (nd (nt c1) (nd (nt c1) (nd (nt c1) (nd (nt c1) (nd (nt c1) (nd (nt c1) trivial))))))))))) (by kernel_rfl)
def impl.isSector.f (a0 : Int) : Option (Bool) :=
  Option.bind (impl.in_.f a0 0 25) fun x1 => some x1
theorem impl.isSector.spec (a0 : Int) (o : Bool) (h : impl.isSector.f a0 = some o) : Den.Spec Try.prog 128 [one (.int .i64 a0)] [] (one (.bool o)) [] := by
  unfold impl.isSector.f at h
  obtain ⟨x1, e1, h⟩ := bind_some h
  obtain rfl := Option.some.inj h
  exact Den.Spec.of_walk tab mixed Try.func128 (by kernel_rfl) [.call [] [] (one (.bool x1)) []] [] [] (nd (impl.in_.spec a0 0 25 _ e1) trivial) (by kernel_rfl)
def impl.RecOk.f (a0 : Int) (a1 : Int) (a2 : ByteArray) : Option (Bool) :=
  Option.bind (impl.isSector.f a0) fun x1 => cond (x1) (Option.bind (impl.in_.f a1 1 1000000000) fun x2 => cond (x2) (some (decide ((a2.size : Int) ≤ 400))) (some false)) (some false)
theorem impl.RecOk.spec (a0 : Int) (a1 : Int) (a2 : ByteArray) (o : Bool) (h : impl.RecOk.f a0 a1 a2 = some o) : Den.Spec Try.prog 110 [.v (.agg [.int .i64 a0, .int .i64 a1, .str a2])] [] (one (.bool o)) [] := by
  unfold impl.RecOk.f at h
  obtain ⟨x1, e1, h⟩ := bind_some h
  rcases br_cases h with ⟨c1, h⟩ | ⟨c1, h⟩
  · obtain ⟨x2, e2, h⟩ := bind_some h
    rcases br_cases h with ⟨c2, h⟩ | ⟨c2, h⟩
    · obtain rfl := Option.some.inj h
      exact Den.Spec.of_walk tab mixed Try.func110 (by kernel_rfl) [.call [] [] (one (.bool x1)) [], .br true, .br true, .br true, .call [] [] (one (.bool x2)) [], .br true, .br true, .br true, .br true, .br true, .br true] [] [] (nd (impl.isSector.spec a0 _ e1) (nd c1 (nd c1 (nd c1 (nd (impl.in_.spec a1 1 1000000000 _ e2) (nd c1 (nd c2 (nd c2 (nd c2 (nd c2 (nd c2 trivial))))))))))) (by kernel_rfl)
    · obtain rfl := Option.some.inj h
      exact Den.Spec.of_walk tab mixed Try.func110 (by kernel_rfl) [.call [] [] (one (.bool x1)) [], .br true, .br true, .br true, .call [] [] (one (.bool x2)) [], .br true, .br false, .br false, .br false, .br false, .br false] [] [] (nd (impl.isSector.spec a0 _ e1) (nd c1 (nd c1 (nd c1 (nd (impl.in_.spec a1 1 1000000000 _ e2) (nd c1 (nd c2 (nd c2 (nd c2 (nd c2 (nd c2 trivial))))))))))) (by kernel_rfl)
  · obtain rfl := Option.some.inj h
    exact Den.Spec.of_walk tab mixed Try.func110 (by kernel_rfl) [.call [] [] (one (.bool x1)) [], .br false, .br false, .br false, .br false, .br false, .br false, .br false, .br false, .br false] [] [] (nd (impl.isSector.spec a0 _ e1) (nd c1 (nd c1 (nd c1 (nd c1 (nd ff (nd ff (nd ff (nd ff (nd ff trivial)))))))))) (by kernel_rfl)
def impl.RecRead.f (K : Nat) (a0 : ByteArray) : Option (Int × Int × ByteArray × Bool) :=
  Option.bind (impl.unsummed.f K a0) fun x1 => Option.bind (impl.reader.number.f K (bytesL a0) x1.1 x1.2) fun x2 => Option.bind (impl.reader.number.f K (bytesL a0) x2.2.1 x2.2.2) fun x3 => Option.bind (impl.reader.text.f K (bytesL a0) x3.2.1 x3.2.2) fun x4 => Option.bind (impl.reader.done.f (bytesL a0) x4.2.1 x4.2.2) fun x5 => cond (x5) (Option.bind (impl.RecOk.f x2.1 x3.1 x4.1) fun x6 => cond (x6) (some (x2.1, x3.1, x4.1, true)) (some (0, 0, noVal, false))) (some (0, 0, noVal, false))
theorem impl.RecRead.spec (K : Nat) (a0 : ByteArray) (o : Int × Int × ByteArray × Bool) (h : impl.RecRead.f K a0 = some o) : Den.Spec Try.prog 65 [one (.str a0)] [] (.tup [.agg [.int .i64 o.1, .int .i64 o.2.1, .str o.2.2.1], .c (.bool o.2.2.2)]) [] := by
  unfold impl.RecRead.f at h
  obtain ⟨x1, e1, h⟩ := bind_some h
  obtain ⟨x2, e2, h⟩ := bind_some h
  obtain ⟨x3, e3, h⟩ := bind_some h
  obtain ⟨x4, e4, h⟩ := bind_some h
  obtain ⟨x5, e5, h⟩ := bind_some h
  rcases br_cases h with ⟨c1, h⟩ | ⟨c1, h⟩
  · obtain ⟨x6, e6, h⟩ := bind_some h
    rcases br_cases h with ⟨c2, h⟩ | ⟨c2, h⟩
    · obtain rfl := Option.some.inj h
      exact Den.Spec.of_walk tab mixed Try.func65 (by kernel_rfl) [.call [] [] (one (.ptr 0 0 0)) [some ⟨true, .cells [.sl 1 0 ((bytesL a0).length), .int .i64 x1.1, .bool x1.2]⟩, some ⟨true, .ints .u8 (bytesL a0)⟩], .call [(1, true), (2, true)] [] (one (.int .i64 x2.1)) [some ⟨true, .cells [.sl 1 0 ((bytesL a0).length), .int .i64 x2.2.1, .bool x2.2.2]⟩, some ⟨true, .ints .u8 (bytesL a0)⟩], .call [(1, true), (2, true)] [] (one (.int .i64 x3.1)) [some ⟨true, .cells [.sl 1 0 ((bytesL a0).length), .int .i64 x3.2.1, .bool x3.2.2]⟩, some ⟨true, .ints .u8 (bytesL a0)⟩], .call [(1, true), (2, true)] [] (one (.str x4.1)) [some ⟨true, .cells [.sl 1 0 ((bytesL a0).length), .int .i64 x4.2.1, .bool x4.2.2]⟩, some ⟨true, .ints .u8 (bytesL a0)⟩], .call [(1, false), (2, false)] [] (one (.bool x5)) [some ⟨false, .cells [.sl 1 0 ((bytesL a0).length), .int .i64 x4.2.1, .bool x4.2.2]⟩, some ⟨false, .ints .u8 (bytesL a0)⟩], .br false, .br false, .call [] [] (one (.bool x6)) [], .br false, .br false, .br false] [] [] (nd (impl.unsummed.spec K a0 _ e1) (nd (impl.reader.number.spec K (bytesL a0) x1.1 x1.2 _ e2) (nd (impl.reader.number.spec K (bytesL a0) x2.2.1 x2.2.2 _ e3) (nd (impl.reader.text.spec K (bytesL a0) x3.2.1 x3.2.2 _ e4) (nd (impl.reader.done.spec (bytesL a0) x4.2.1 x4.2.2 _ e5) (nd (nf c1) (nd (nf c1) (nd (impl.RecOk.spec x2.1 x3.1 x4.1 _ e6) (nd (nf c1) (nd (nf c1) (nd (nf c2) trivial))))))))))) (by kernel_rfl)
    · obtain rfl := Option.some.inj h
      exact Den.Spec.of_walk tab mixed Try.func65 (by kernel_rfl) [.call [] [] (one (.ptr 0 0 0)) [some ⟨true, .cells [.sl 1 0 ((bytesL a0).length), .int .i64 x1.1, .bool x1.2]⟩, some ⟨true, .ints .u8 (bytesL a0)⟩], .call [(1, true), (2, true)] [] (one (.int .i64 x2.1)) [some ⟨true, .cells [.sl 1 0 ((bytesL a0).length), .int .i64 x2.2.1, .bool x2.2.2]⟩, some ⟨true, .ints .u8 (bytesL a0)⟩], .call [(1, true), (2, true)] [] (one (.int .i64 x3.1)) [some ⟨true, .cells [.sl 1 0 ((bytesL a0).length), .int .i64 x3.2.1, .bool x3.2.2]⟩, some ⟨true, .ints .u8 (bytesL a0)⟩], .call [(1, true), (2, true)] [] (one (.str x4.1)) [some ⟨true, .cells [.sl 1 0 ((bytesL a0).length), .int .i64 x4.2.1, .bool x4.2.2]⟩, some ⟨true, .ints .u8 (bytesL a0)⟩], .call [(1, false), (2, false)] [] (one (.bool x5)) [some ⟨false, .cells [.sl 1 0 ((bytesL a0).length), .int .i64 x4.2.1, .bool x4.2.2]⟩, some ⟨false, .ints .u8 (bytesL a0)⟩], .br false, .br false, .call [] [] (one (.bool x6)) [], .br false, .br false, .br true] [] [] (nd (impl.unsummed.spec K a0 _ e1) (nd (impl.reader.number.spec K (bytesL a0) x1.1 x1.2 _ e2) (nd (impl.reader.number.spec K (bytesL a0) x2.2.1 x2.2.2 _ e3) (nd (impl.reader.text.spec K (bytesL a0) x3.2.1 x3.2.2 _ e4) (nd (impl.reader.done.spec (bytesL a0) x4.2.1 x4.2.2 _ e5) (nd (nf c1) (nd (nf c1) (nd (impl.RecOk.spec x2.1 x3.1 x4.1 _ e6) (nd (nf c1) (nd (nf c1) (nd (nt c2) trivial))))))))))) (by kernel_rfl)
  · obtain rfl := Option.some.inj h
    exact Den.Spec.of_walk tab mixed Try.func65 (by kernel_rfl) [.call [] [] (one (.ptr 0 0 0)) [some ⟨true, .cells [.sl 1 0 ((bytesL a0).length), .int .i64 x1.1, .bool x1.2]⟩, some ⟨true, .ints .u8 (bytesL a0)⟩], .call [(1, true), (2, true)] [] (one (.int .i64 x2.1)) [some ⟨true, .cells [.sl 1 0 ((bytesL a0).length), .int .i64 x2.2.1, .bool x2.2.2]⟩, some ⟨true, .ints .u8 (bytesL a0)⟩], .call [(1, true), (2, true)] [] (one (.int .i64 x3.1)) [some ⟨true, .cells [.sl 1 0 ((bytesL a0).length), .int .i64 x3.2.1, .bool x3.2.2]⟩, some ⟨true, .ints .u8 (bytesL a0)⟩], .call [(1, true), (2, true)] [] (one (.str x4.1)) [some ⟨true, .cells [.sl 1 0 ((bytesL a0).length), .int .i64 x4.2.1, .bool x4.2.2]⟩, some ⟨true, .ints .u8 (bytesL a0)⟩], .call [(1, false), (2, false)] [] (one (.bool x5)) [some ⟨false, .cells [.sl 1 0 ((bytesL a0).length), .int .i64 x4.2.1, .bool x4.2.2]⟩, some ⟨false, .ints .u8 (bytesL a0)⟩], .br true, .br true, .br true, .br true, .br true] [] [] (nd (impl.unsummed.spec K a0 _ e1) (nd (impl.reader.number.spec K (bytesL a0) x1.1 x1.2 _ e2) (nd (impl.reader.number.spec K (bytesL a0) x2.2.1 x2.2.2 _ e3) (nd (impl.reader.text.spec K (bytesL a0) x3.2.1 x3.2.2 _ e4) (nd (impl.reader.done.spec (bytesL a0) x4.2.1 x4.2.2 _ e5) (nd (nt c1) (nd (nt c1) (nd (nt c1) (nd (nt c1) (nd tt trivial)))))))))) (by kernel_rfl)
def impl.mount.l0.f (K : Nat) (a0 : List ByteArray) (a1 : List Int) : Nat → (List ByteArray) → (List Int) → (List Int) → Int → (List Int) → Int → Option ((List ByteArray) × (List Int) × (List Int) × Int)
  | 0, _, _, _, _, _, _ => none
  | k + 1, v92_0, v92_1, v92_2, v92_3, v92_4, v92_5 =>
    cond (decide (v92_5 < (a0.length : Int))) (ck (0 ≤ v92_5) (cond (strEq (a0.getD v92_5.toNat noVal) noVal) (impl.mount.l0.f K a0 a1 k v92_0 v92_1 v92_2 v92_3 v92_4 (w64 (v92_5 + 1))) (Option.bind (impl.RecRead.f K (a0.getD v92_5.toNat noVal)) fun x1 => cond (x1.2.2.2) (ck (0 ≤ x1.1) (ck (x1.1 < (v92_4.length : Int)) (cond (decide (x1.2.1 > (v92_4.getD x1.1.toNat 0))) (ck (x1.1 < (v92_2.length : Int)) (impl.mount.l0.f K a0 a1 k v92_0 v92_1 (v92_2.set x1.1.toNat v92_5) (minI 1000000000 (maxI v92_3 (w64 (x1.2.1 + 1)))) (v92_4.set x1.1.toNat x1.2.1) (w64 (v92_5 + 1)))) (impl.mount.l0.f K a0 a1 k v92_0 v92_1 v92_2 (minI 1000000000 (maxI v92_3 (w64 (x1.2.1 + 1)))) v92_4 (w64 (v92_5 + 1)))))) (impl.mount.l0.f K a0 a1 k v92_0 v92_1 v92_2 v92_3 v92_4 (w64 (v92_5 + 1)))))) (some (v92_0, v92_1, v92_2, v92_3))
def impl.mount.l0.s (K : Nat) (a0 : List ByteArray) (a1 : List Int) (v92_0 : List ByteArray) (v92_1 : List Int) (v92_2 : List Int) (v92_3 : Int) (v92_4 : List Int) (v92_5 : Int) : St := mkSt 62 [(2, one (.ptr 2 0 0)), (3, one (.ptr 6 0 0)), (4, one (.sl 10 0 v92_4.length)), (16, one (.sl 0 0 a0.length)), (17, one (.int .i64 (a0.length : Int))), (18, one (.int .i64 v92_5))] [some ⟨false, .strs a0⟩, some ⟨false, .ints .i64 a1⟩, some ⟨true, .cells [.sl 3 0 0, .sl 4 0 0, .sl 5 0 0, .int .i64 0]⟩, some ⟨true, .strs []⟩, some ⟨true, .ints .i64 []⟩, some ⟨true, .ints .i64 []⟩, some ⟨true, .cells [.sl 7 0 v92_0.length, .sl 8 0 v92_1.length, .sl 9 0 v92_2.length, .int .i64 v92_3]⟩, some ⟨true, .strs v92_0⟩, some ⟨true, .ints .i64 v92_1⟩, some ⟨true, .ints .i64 v92_2⟩, some ⟨true, .ints .i64 v92_4⟩]
def impl.mount.l0.e0 (K : Nat) (a0 : List ByteArray) (a1 : List Int) (o : (List ByteArray) × (List Int) × (List Int) × Int) : St := mkSt 62 [(2, one (.ptr 2 0 0)), (3, one (.ptr 6 0 0))] [some ⟨false, .strs a0⟩, some ⟨false, .ints .i64 a1⟩, some ⟨true, .cells [.sl 3 0 0, .sl 4 0 0, .sl 5 0 0, .int .i64 0]⟩, some ⟨true, .strs []⟩, some ⟨true, .ints .i64 []⟩, some ⟨true, .ints .i64 []⟩, some ⟨true, .cells [.sl 7 0 o.1.length, .sl 8 0 o.2.1.length, .sl 9 0 o.2.2.1.length, .int .i64 o.2.2.2]⟩, some ⟨true, .strs o.1⟩, some ⟨true, .ints .i64 o.2.1⟩, some ⟨true, .ints .i64 o.2.2.1⟩]
def impl.mount.l0.x (K : Nat) (a0 : List ByteArray) (a1 : List Int) : ((List ByteArray) × (List Int) × (List Int) × Int) → AExit × St := fun o => (.exit 0, impl.mount.l0.e0 K a0 a1 o)
theorem impl.mount.l0.spec (K : Nat) (a0 : List ByteArray) (a1 : List Int) : ∀ (k : Nat) (v92_0 : List ByteArray) (v92_1 : List Int) (v92_2 : List Int) (v92_3 : Int) (v92_4 : List Int) (v92_5 : Int) (o : (List ByteArray) × (List Int) × (List Int) × Int), impl.mount.l0.f K a0 a1 k v92_0 v92_1 v92_2 v92_3 v92_4 v92_5 = some o → LoopSpec Try.prog 2 (loopN Try.f86 0) (impl.mount.l0.s K a0 a1 v92_0 v92_1 v92_2 v92_3 v92_4 v92_5) (impl.mount.l0.x K a0 a1 o).1 (impl.mount.l0.x K a0 a1 o).2
  | 0, _, _, _, _, _, _, _, h => by cases h
  | k + 1, v92_0, v92_1, v92_2, v92_3, v92_4, v92_5, o, h => by
    unfold impl.mount.l0.f at h
    rcases br_cases h with ⟨c1, h⟩ | ⟨c1, h⟩
    · obtain ⟨p1, h⟩ := ck_some h
      rcases br_cases h with ⟨c2, h⟩ | ⟨c2, h⟩
      · exact .of_step tab mixed [.br true, .br true] [] [2, 3, 4, 16, 17, 18] [0, 1, 2, 3, 4, 5, 6, 7, 8, 9, 10] (s1 := impl.mount.l0.s K a0 a1 v92_0 v92_1 v92_2 v92_3 v92_4 (w64 (v92_5 + 1))) (nd c1 (nd p1 (nd (of_decide_eq_true c1) (nd (tn p1 (of_decide_eq_true c1)) (nd c2 trivial))))) (by kernel_rfl) (impl.mount.l0.spec K a0 a1 k v92_0 v92_1 v92_2 v92_3 v92_4 (w64 (v92_5 + 1)) _ h)
      · obtain ⟨x1, e1, h⟩ := bind_some h
        rcases br_cases h with ⟨c3, h⟩ | ⟨c3, h⟩
        · obtain ⟨p2, h⟩ := ck_some h
          obtain ⟨p3, h⟩ := ck_some h
          rcases br_cases h with ⟨c4, h⟩ | ⟨c4, h⟩
          · obtain ⟨p4, h⟩ := ck_some h
            exact .of_step tab mixed [.br true, .br false, .call [] [] (.tup [.agg [.int .i64 x1.1, .int .i64 x1.2.1, .str x1.2.2.1], .c (.bool x1.2.2.2)]) [], .br false, .br true] [] [2, 3, 4, 16, 17, 18] [0, 1, 2, 3, 4, 5, 6, 7, 8, 9, 10] (s1 := mkSt 62 [(2, one (.ptr 2 0 0)), (3, one (.ptr 6 0 0)), (4, one (.sl 10 0 v92_4.length)), (16, one (.sl 0 0 a0.length)), (17, one (.int .i64 (a0.length : Int))), (18, one (.int .i64 (w64 (v92_5 + 1))))] [some ⟨false, .strs a0⟩, some ⟨false, .ints .i64 a1⟩, some ⟨true, .cells [.sl 3 0 0, .sl 4 0 0, .sl 5 0 0, .int .i64 0]⟩, some ⟨true, .strs []⟩, some ⟨true, .ints .i64 []⟩, some ⟨true, .ints .i64 []⟩, some ⟨true, .cells [.sl 7 0 v92_0.length, .sl 8 0 v92_1.length, .sl 9 0 v92_2.length, .int .i64 (minI 1000000000 (maxI v92_3 (w64 (x1.2.1 + 1))))]⟩, some ⟨true, .strs v92_0⟩, some ⟨true, .ints .i64 v92_1⟩, some ⟨true, .ints .i64 (v92_2.set x1.1.toNat v92_5)⟩, some ⟨true, .ints .i64 (v92_4.set x1.1.toNat x1.2.1)⟩]) (nd c1 (nd p1 (nd (of_decide_eq_true c1) (nd (tn p1 (of_decide_eq_true c1)) (nd c2 (nd (impl.RecRead.spec K (a0.getD v92_5.toNat noVal) _ e1) (nd (nf c3) (nd p2 (nd p3 (nd (tn p2 p3) (nd c4 (nd p2 (nd p3 (nd (tn p2 p3) (nd p2 (nd p4 (nd (tn p2 p4) trivial))))))))))))))))) (by kernel_rfl) (LoopSpec.eqs (impl.mount.l0.spec K a0 a1 k v92_0 v92_1 (v92_2.set x1.1.toNat v92_5) (minI 1000000000 (maxI v92_3 (w64 (x1.2.1 + 1)))) (v92_4.set x1.1.toNat x1.2.1) (w64 (v92_5 + 1)) _ h) (by simp only [impl.mount.l0.s, List.length_set, overL_length] : impl.mount.l0.s K a0 a1 v92_0 v92_1 (v92_2.set x1.1.toNat v92_5) (minI 1000000000 (maxI v92_3 (w64 (x1.2.1 + 1)))) (v92_4.set x1.1.toNat x1.2.1) (w64 (v92_5 + 1)) = mkSt 62 [(2, one (.ptr 2 0 0)), (3, one (.ptr 6 0 0)), (4, one (.sl 10 0 v92_4.length)), (16, one (.sl 0 0 a0.length)), (17, one (.int .i64 (a0.length : Int))), (18, one (.int .i64 (w64 (v92_5 + 1))))] [some ⟨false, .strs a0⟩, some ⟨false, .ints .i64 a1⟩, some ⟨true, .cells [.sl 3 0 0, .sl 4 0 0, .sl 5 0 0, .int .i64 0]⟩, some ⟨true, .strs []⟩, some ⟨true, .ints .i64 []⟩, some ⟨true, .ints .i64 []⟩, some ⟨true, .cells [.sl 7 0 v92_0.length, .sl 8 0 v92_1.length, .sl 9 0 v92_2.length, .int .i64 (minI 1000000000 (maxI v92_3 (w64 (x1.2.1 + 1))))]⟩, some ⟨true, .strs v92_0⟩, some ⟨true, .ints .i64 v92_1⟩, some ⟨true, .ints .i64 (v92_2.set x1.1.toNat v92_5)⟩, some ⟨true, .ints .i64 (v92_4.set x1.1.toNat x1.2.1)⟩]))
          · exact .of_step tab mixed [.br true, .br false, .call [] [] (.tup [.agg [.int .i64 x1.1, .int .i64 x1.2.1, .str x1.2.2.1], .c (.bool x1.2.2.2)]) [], .br false, .br false] [] [2, 3, 4, 16, 17, 18] [0, 1, 2, 3, 4, 5, 6, 7, 8, 9, 10] (s1 := impl.mount.l0.s K a0 a1 v92_0 v92_1 v92_2 (minI 1000000000 (maxI v92_3 (w64 (x1.2.1 + 1)))) v92_4 (w64 (v92_5 + 1))) (nd c1 (nd p1 (nd (of_decide_eq_true c1) (nd (tn p1 (of_decide_eq_true c1)) (nd c2 (nd (impl.RecRead.spec K (a0.getD v92_5.toNat noVal) _ e1) (nd (nf c3) (nd p2 (nd p3 (nd (tn p2 p3) (nd c4 trivial))))))))))) (by kernel_rfl) (impl.mount.l0.spec K a0 a1 k v92_0 v92_1 v92_2 (minI 1000000000 (maxI v92_3 (w64 (x1.2.1 + 1)))) v92_4 (w64 (v92_5 + 1)) _ h)
        · exact .of_step tab mixed [.br true, .br false, .call [] [] (.tup [.agg [.int .i64 x1.1, .int .i64 x1.2.1, .str x1.2.2.1], .c (.bool x1.2.2.2)]) [], .br true] [] [2, 3, 4, 16, 17, 18] [0, 1, 2, 3, 4, 5, 6, 7, 8, 9, 10] (s1 := impl.mount.l0.s K a0 a1 v92_0 v92_1 v92_2 v92_3 v92_4 (w64 (v92_5 + 1))) (nd c1 (nd p1 (nd (of_decide_eq_true c1) (nd (tn p1 (of_decide_eq_true c1)) (nd c2 (nd (impl.RecRead.spec K (a0.getD v92_5.toNat noVal) _ e1) (nd (nt c3) trivial))))))) (by kernel_rfl) (impl.mount.l0.spec K a0 a1 k v92_0 v92_1 v92_2 v92_3 v92_4 (w64 (v92_5 + 1)) _ h)
    · obtain rfl := Option.some.inj h
      exact .of_done tab mixed [.br false] [] [2, 3] [0, 1, 2, 3, 4, 5, 6, 7, 8, 9] rfl (nd c1 trivial) (by kernel_rfl)
def impl.mount.f (K : Nat) (a0 : List ByteArray) (a1 : List Int) : Option ((List ByteArray) × (List Int) × (List Int) × Int) :=
  Option.bind (impl.cloneChip.f a0 a1) fun x1 => Option.bind (slices.Repeat_int_int.f K [(-1)] 26) fun x2 => ck ((26 * (8 : Int)) ≤ 70368744177664) (Option.bind (impl.mount.l0.f K a0 a1 K x1.1 x1.2 x2 1 (List.replicate 26 (0 : Int)) 0) fun x3 => some (x3.1, x3.2.1, x3.2.2.1, x3.2.2.2))
theorem impl.mount.spec (K : Nat) (a0 : List ByteArray) (a1 : List Int) (o : (List ByteArray) × (List Int) × (List Int) × Int) (h : impl.mount.f K a0 a1 = some o) : Den.Spec Try.prog 86 [.v (.agg [.sl 0 0 a0.length, .sl 1 0 a1.length])] [some ⟨false, .strs a0⟩, some ⟨false, .ints .i64 a1⟩] (.v (.agg [.sl 2 0 o.1.length, .sl 3 0 o.2.1.length, .sl 4 0 o.2.2.1.length, .int .i64 o.2.2.2])) [some ⟨false, .strs a0⟩, some ⟨false, .ints .i64 a1⟩, some ⟨true, .strs o.1⟩, some ⟨true, .ints .i64 o.2.1⟩, some ⟨true, .ints .i64 o.2.2.1⟩] := by
  unfold impl.mount.f at h
  obtain ⟨x1, e1, h⟩ := bind_some h
  obtain ⟨x2, e2, h⟩ := bind_some h
  obtain ⟨p1, h⟩ := ck_some h
  obtain ⟨x3, e3, h⟩ := bind_some h
  obtain rfl := Option.some.inj h
  exact Den.Spec.of_walk tab mixed Try.func86 (by kernel_rfl) [.call [(0, false), (1, false)] [] (.v (.agg [.sl 2 0 x1.1.length, .sl 3 0 x1.2.length])) [some ⟨false, .strs a0⟩, some ⟨false, .ints .i64 a1⟩, some ⟨true, .strs x1.1⟩, some ⟨true, .ints .i64 x1.2⟩], .call [] [(0, true)] (one (.sl 1 0 x2.length)) [some ⟨false, .ints .i64 [(-1)]⟩, some ⟨true, .ints .i64 x2⟩], .loop [] [2, 3, 4, 16, 17, 18] [0, 1, 3, 4, 5, 6, 11, 7, 8, 10, 15] (.exit 0) (impl.mount.l0.e0 K a0 a1 x3)] [] [0, 1, 7, 8, 9] (nd (impl.cloneChip.spec a0 a1 _ e1) (nd (slices.Repeat_int_int.spec K [(-1)] 26 _ e2) (nd (rfl : (0 : Nat) = 0) (nd (rfl : 1 = 1) (nd (by decide : (0 : Int) ≤ 26) (nd (rfl : (26 : Int) = (26 : Int)) (nd p1 (nd (impl.mount.l0.spec K a0 a1 K x1.1 x1.2 x2 1 (List.replicate 26 (0 : Int)) 0 _ e3) trivial)))))))) (by kernel_rfl)
def slices.Equal_int_int.l0.f (a0 : List Int) (a1 : List Int) : Nat → Int → Option (Unit ⊕ Unit)
  | 0, _ => none
  | k + 1, v95_0 =>
    cond (decide (v95_0 < (a0.length : Int))) (ck (0 ≤ v95_0) (ck (v95_0 < (a1.length : Int)) (cond ((a0.getD v95_0.toNat 0) != (a1.getD v95_0.toNat 0)) (some (.inl ())) (slices.Equal_int_int.l0.f a0 a1 k (w64 (v95_0 + 1)))))) (some (.inr (())))
def slices.Equal_int_int.l0.s (a0 : List Int) (a1 : List Int) (v95_0 : Int) : St := mkSt 26 [(0, one (.sl 0 0 a0.length)), (1, one (.sl 1 0 a1.length)), (12, one (.int .i64 (a0.length : Int))), (13, one (.int .i64 v95_0))] [some ⟨false, .ints .i64 a0⟩, some ⟨false, .ints .i64 a1⟩]
def slices.Equal_int_int.l0.e0 (a0 : List Int) (a1 : List Int) (o : Unit) : St := mkSt 26 [(4, one (.bool false))] [some ⟨false, .ints .i64 a0⟩, some ⟨false, .ints .i64 a1⟩]
def slices.Equal_int_int.l0.e1 (a0 : List Int) (a1 : List Int) (o : Unit) : St := mkSt 26 [] [some ⟨false, .ints .i64 a0⟩, some ⟨false, .ints .i64 a1⟩]
def slices.Equal_int_int.l0.x (a0 : List Int) (a1 : List Int) : (Unit ⊕ Unit) → AExit × St := Sum.elim (fun o => (.ret, slices.Equal_int_int.l0.e0 a0 a1 o)) (fun o => (.exit 0, slices.Equal_int_int.l0.e1 a0 a1 o))
theorem slices.Equal_int_int.l0.spec (a0 : List Int) (a1 : List Int) : ∀ (k : Nat) (v95_0 : Int) (o : Unit ⊕ Unit), slices.Equal_int_int.l0.f a0 a1 k v95_0 = some o → LoopSpec Try.prog 2 (loopN Try.f87 0) (slices.Equal_int_int.l0.s a0 a1 v95_0) (slices.Equal_int_int.l0.x a0 a1 o).1 (slices.Equal_int_int.l0.x a0 a1 o).2
  | 0, _, _, h => by cases h
  | k + 1, v95_0, o, h => by
    unfold slices.Equal_int_int.l0.f at h
    rcases br_cases h with ⟨c1, h⟩ | ⟨c1, h⟩
    · obtain ⟨p1, h⟩ := ck_some h
      obtain ⟨p2, h⟩ := ck_some h
      rcases br_cases h with ⟨c2, h⟩ | ⟨c2, h⟩
      · obtain rfl := Option.some.inj h
        exact .of_done tab mixed [.br true, .br true] [] [4] [0, 1] rfl (nd c1 (nd p1 (nd (of_decide_eq_true c1) (nd (tn p1 (of_decide_eq_true c1)) (nd p1 (nd p2 (nd (tn p1 p2) (nd c2 trivial)))))))) (by kernel_rfl)
      · exact .of_step tab mixed [.br true, .br false] [] [0, 1, 12, 13] [0, 1] (s1 := slices.Equal_int_int.l0.s a0 a1 (w64 (v95_0 + 1))) (nd c1 (nd p1 (nd (of_decide_eq_true c1) (nd (tn p1 (of_decide_eq_true c1)) (nd p1 (nd p2 (nd (tn p1 p2) (nd c2 trivial)))))))) (by kernel_rfl) (slices.Equal_int_int.l0.spec a0 a1 k (w64 (v95_0 + 1)) _ h)
    · obtain rfl := Option.some.inj h
      exact .of_done tab mixed [.br false] [] [] [0, 1] rfl (nd c1 trivial) (by kernel_rfl)
def slices.Equal_int_int.f (K : Nat) (a0 : List Int) (a1 : List Int) : Option (Bool) :=
  cond ((a0.length : Int) != (a1.length : Int)) (some false) (Option.bind (slices.Equal_int_int.l0.f a0 a1 K 0) fun x1 => (Sum.elim (fun x1 => some false) (fun x1 => some true)) x1)
theorem slices.Equal_int_int.spec (K : Nat) (a0 : List Int) (a1 : List Int) (o : Bool) (h : slices.Equal_int_int.f K a0 a1 = some o) : Den.Spec Try.prog 87 [one (.sl 0 0 a0.length), one (.sl 1 0 a1.length)] [some ⟨false, .ints .i64 a0⟩, some ⟨false, .ints .i64 a1⟩] (one (.bool o)) [some ⟨false, .ints .i64 a0⟩, some ⟨false, .ints .i64 a1⟩] := by
  unfold slices.Equal_int_int.f at h
  rcases br_cases h with ⟨c1, h⟩ | ⟨c1, h⟩
  · obtain rfl := Option.some.inj h
    exact Den.Spec.of_walk tab mixed Try.func87 (by kernel_rfl) [.br true] [] [0, 1] (nd c1 trivial) (by kernel_rfl)
  · obtain ⟨x1, e1, h⟩ := bind_some h
    rcases x1 with x1 | x1
    · obtain rfl := Option.some.inj h
      exact Den.Spec.of_walk tab mixed Try.func87 (by kernel_rfl) [.br false, .loop [] [0, 1, 12, 13] [0, 1] (.ret) (slices.Equal_int_int.l0.e0 a0 a1 x1)] [] [0, 1] (nd c1 (nd (slices.Equal_int_int.l0.spec a0 a1 K 0 _ e1) trivial)) (by kernel_rfl)
    · obtain rfl := Option.some.inj h
      exact Den.Spec.of_walk tab mixed Try.func87 (by kernel_rfl) [.br false, .loop [] [0, 1, 12, 13] [0, 1] (.exit 0) (slices.Equal_int_int.l0.e1 a0 a1 x1)] [] [0, 1] (nd c1 (nd (slices.Equal_int_int.l0.spec a0 a1 K 0 _ e1) trivial)) (by kernel_rfl)
def impl.FtlOk.f (K : Nat) (a0 : List ByteArray) (a1 : List Int) (a2 : List Int) (a3 : Int) : Option (Bool) :=
  Option.bind (impl.ChipOk.f K a0 a1) fun x1 => cond (x1) (Option.bind (impl.mount.f K a0 a1) fun x2 => Option.bind (slices.Equal_int_int.f K a2 x2.2.2.1) fun x3 => cond (x3) (some (a3 == x2.2.2.2)) (some false)) (some false)
theorem impl.FtlOk.spec (K : Nat) (a0 : List ByteArray) (a1 : List Int) (a2 : List Int) (a3 : Int) (o : Bool) (h : impl.FtlOk.f K a0 a1 a2 a3 = some o) : Den.Spec Try.prog 35 [.v (.agg [.sl 0 0 a0.length, .sl 1 0 a1.length, .sl 2 0 a2.length, .int .i64 a3])] [some ⟨false, .strs a0⟩, some ⟨false, .ints .i64 a1⟩, some ⟨false, .ints .i64 a2⟩] (one (.bool o)) [some ⟨false, .strs a0⟩, some ⟨false, .ints .i64 a1⟩, some ⟨false, .ints .i64 a2⟩] := by
  unfold impl.FtlOk.f at h
  obtain ⟨x1, e1, h⟩ := bind_some h
  rcases br_cases h with ⟨c1, h⟩ | ⟨c1, h⟩
  · obtain ⟨x2, e2, h⟩ := bind_some h
    obtain ⟨x3, e3, h⟩ := bind_some h
    rcases br_cases h with ⟨c2, h⟩ | ⟨c2, h⟩
    · obtain rfl := Option.some.inj h
      exact Den.Spec.of_walk tab mixed Try.func35 (by kernel_rfl) [.call [(0, false), (1, false)] [] (one (.bool x1)) [some ⟨false, .strs a0⟩, some ⟨false, .ints .i64 a1⟩], .br false, .call [(0, false), (1, false)] [] (.v (.agg [.sl 2 0 x2.1.length, .sl 3 0 x2.2.1.length, .sl 4 0 x2.2.2.1.length, .int .i64 x2.2.2.2])) [some ⟨false, .strs a0⟩, some ⟨false, .ints .i64 a1⟩, some ⟨true, .strs x2.1⟩, some ⟨true, .ints .i64 x2.2.1⟩, some ⟨true, .ints .i64 x2.2.2.1⟩], .call [] [(0, true), (1, true)] (one (.bool x3)) [some ⟨false, .ints .i64 a2⟩, some ⟨false, .ints .i64 x2.2.2.1⟩], .br true, .br true, .br true, .br true, .br true, .br true] [] [0, 1, 2] (nd (impl.ChipOk.spec K a0 a1 _ e1) (nd (nf c1) (nd (impl.mount.spec K a0 a1 _ e2) (nd (slices.Equal_int_int.spec K a2 x2.2.2.1 _ e3) (nd (rfl : (0 : Nat) = 0) (nd (rfl : a2.length = a2.length) (nd (rfl : (0 : Nat) = 0) (nd (rfl : x2.2.2.1.length = x2.2.2.1.length) (nd c2 (nd c2 (nd c2 (nd c2 (nd c2 (nd c2 trivial)))))))))))))) (by kernel_rfl)
    · obtain rfl := Option.some.inj h
      exact Den.Spec.of_walk tab mixed Try.func35 (by kernel_rfl) [.call [(0, false), (1, false)] [] (one (.bool x1)) [some ⟨false, .strs a0⟩, some ⟨false, .ints .i64 a1⟩], .br false, .call [(0, false), (1, false)] [] (.v (.agg [.sl 2 0 x2.1.length, .sl 3 0 x2.2.1.length, .sl 4 0 x2.2.2.1.length, .int .i64 x2.2.2.2])) [some ⟨false, .strs a0⟩, some ⟨false, .ints .i64 a1⟩, some ⟨true, .strs x2.1⟩, some ⟨true, .ints .i64 x2.2.1⟩, some ⟨true, .ints .i64 x2.2.2.1⟩], .call [] [(0, true), (1, true)] (one (.bool x3)) [some ⟨false, .ints .i64 a2⟩, some ⟨false, .ints .i64 x2.2.2.1⟩], .br false, .br false, .br false, .br false, .br false, .br false] [] [0, 1, 2] (nd (impl.ChipOk.spec K a0 a1 _ e1) (nd (nf c1) (nd (impl.mount.spec K a0 a1 _ e2) (nd (slices.Equal_int_int.spec K a2 x2.2.2.1 _ e3) (nd (rfl : (0 : Nat) = 0) (nd (rfl : a2.length = a2.length) (nd (rfl : (0 : Nat) = 0) (nd (rfl : x2.2.2.1.length = x2.2.2.1.length) (nd c2 (nd c2 (nd c2 (nd c2 (nd c2 (nd c2 trivial)))))))))))))) (by kernel_rfl)
  · obtain rfl := Option.some.inj h
    exact Den.Spec.of_walk tab mixed Try.func35 (by kernel_rfl) [.call [(0, false), (1, false)] [] (one (.bool x1)) [some ⟨false, .strs a0⟩, some ⟨false, .ints .i64 a1⟩], .br true] [] [0, 1, 2] (nd (impl.ChipOk.spec K a0 a1 _ e1) (nd (nt c1) trivial)) (by kernel_rfl)
def impl.lives.l0.f (a0 : List ByteArray) (a1 : List Int) (a2 : List Int) (a4 : Int) : Nat → (List Int) → Int → Option ((List Int))
  | 0, _, _ => none
  | k + 1, v114_0, v114_1 =>
    cond (decide (v114_1 < (a2.length : Int))) (ck (0 ≤ v114_1) (cond (decide ((a2.getD v114_1.toNat 0) ≥ 0)) (cond ((w64 ((a2.getD v114_1.toNat 0).tdiv 6)) == a4) (ck ((v114_0 ++ [a2.getD v114_1.toNat 0]).length * 8 ≤ 70368744177664) (impl.lives.l0.f a0 a1 a2 a4 k (v114_0 ++ [a2.getD v114_1.toNat 0]) (w64 (v114_1 + 1)))) (impl.lives.l0.f a0 a1 a2 a4 k v114_0 (w64 (v114_1 + 1)))) (impl.lives.l0.f a0 a1 a2 a4 k v114_0 (w64 (v114_1 + 1))))) (some v114_0)
def impl.lives.l0.s (a0 : List ByteArray) (a1 : List Int) (a2 : List Int) (a4 : Int) (v114_0 : List Int) (v114_1 : Int) : St := mkSt 32 [(1, one (.int .i64 a4)), (5, one (.sl 3 0 v114_0.length)), (10, one (.sl 2 0 a2.length)), (11, one (.int .i64 (a2.length : Int))), (12, one (.int .i64 v114_1))] [some ⟨false, .strs a0⟩, some ⟨false, .ints .i64 a1⟩, some ⟨false, .ints .i64 a2⟩, some ⟨true, .ints .i64 v114_0⟩]
def impl.lives.l0.e0 (a0 : List ByteArray) (a1 : List Int) (a2 : List Int) (a4 : Int) (o : (List Int)) : St := mkSt 32 [(5, one (.sl 3 0 o.length))] [some ⟨false, .strs a0⟩, some ⟨false, .ints .i64 a1⟩, some ⟨false, .ints .i64 a2⟩, some ⟨true, .ints .i64 o⟩]
def impl.lives.l0.x (a0 : List ByteArray) (a1 : List Int) (a2 : List Int) (a4 : Int) : ((List Int)) → AExit × St := fun o => (.exit 0, impl.lives.l0.e0 a0 a1 a2 a4 o)
theorem impl.lives.l0.spec (a0 : List ByteArray) (a1 : List Int) (a2 : List Int) (a4 : Int) : ∀ (k : Nat) (v114_0 : List Int) (v114_1 : Int) (o : (List Int)), impl.lives.l0.f a0 a1 a2 a4 k v114_0 v114_1 = some o → LoopSpec Try.prog 3 (loopN Try.f101 0) (impl.lives.l0.s a0 a1 a2 a4 v114_0 v114_1) (impl.lives.l0.x a0 a1 a2 a4 o).1 (impl.lives.l0.x a0 a1 a2 a4 o).2
  | 0, _, _, _, h => by cases h
  | k + 1, v114_0, v114_1, o, h => by
    unfold impl.lives.l0.f at h
    rcases br_cases h with ⟨c1, h⟩ | ⟨c1, h⟩
    · obtain ⟨p1, h⟩ := ck_some h
      rcases br_cases h with ⟨c2, h⟩ | ⟨c2, h⟩
      · rcases br_cases h with ⟨c3, h⟩ | ⟨c3, h⟩
        · obtain ⟨p2, h⟩ := ck_some h
          exact .of_step tab mixed [.br true, .br true, .br true, .br true, .br true, .br true, .br true, .br true] [] [1, 5, 10, 11, 12] [0, 1, 2, 5] (s1 := impl.lives.l0.s a0 a1 a2 a4 (v114_0 ++ [a2.getD v114_1.toNat 0]) (w64 (v114_1 + 1))) (nd c1 (nd p1 (nd (of_decide_eq_true c1) (nd (tn p1 (of_decide_eq_true c1)) (nd c2 (nd c2 (nd (by decide : (6 : Int) ≠ 0) (nd c2 (nd c2 (nd c2 (nd c3 (nd (rfl : (0 : Nat) = 0) (nd (rfl : v114_0.length = v114_0.length) (nd p2 (nd (rfl : (0 : Nat) = 0) (nd (rfl : 1 = 1) trivial)))))))))))))))) (by kernel_rfl) (impl.lives.l0.spec a0 a1 a2 a4 k (v114_0 ++ [a2.getD v114_1.toNat 0]) (w64 (v114_1 + 1)) _ h)
        · exact .of_step tab mixed [.br true, .br true, .br true, .br true, .br true, .br true, .br false] [] [1, 5, 10, 11, 12] [0, 1, 2, 3] (s1 := impl.lives.l0.s a0 a1 a2 a4 v114_0 (w64 (v114_1 + 1))) (nd c1 (nd p1 (nd (of_decide_eq_true c1) (nd (tn p1 (of_decide_eq_true c1)) (nd c2 (nd c2 (nd (by decide : (6 : Int) ≠ 0) (nd c2 (nd c2 (nd c2 (nd c3 trivial))))))))))) (by kernel_rfl) (impl.lives.l0.spec a0 a1 a2 a4 k v114_0 (w64 (v114_1 + 1)) _ h)
      · exact .of_step tab mixed [.br true, .br false, .br false, .br false, .br false, .br false, .br false] [] [1, 5, 10, 11, 12] [0, 1, 2, 3] (s1 := impl.lives.l0.s a0 a1 a2 a4 v114_0 (w64 (v114_1 + 1))) (nd c1 (nd p1 (nd (of_decide_eq_true c1) (nd (tn p1 (of_decide_eq_true c1)) (nd c2 (nd c2 (nd c2 (nd c2 (nd c2 (nd ff trivial)))))))))) (by kernel_rfl) (impl.lives.l0.spec a0 a1 a2 a4 k v114_0 (w64 (v114_1 + 1)) _ h)
    · obtain rfl := Option.some.inj h
      exact .of_done tab mixed [.br false] [] [5] [0, 1, 2, 3] rfl (nd c1 trivial) (by kernel_rfl)
def math_bits.Len64.f (a0 : Int) : Option (Int) :=
  cond (decide (a0 ≥ 4294967296)) (cond (decide ((a0.fdiv (2 ^ 32)) ≥ 65536)) (cond (decide (((a0.fdiv (2 ^ 32)).fdiv (2 ^ 16)) ≥ 256)) (ck (0 ≤ (IntKind.u8.wrap (((a0.fdiv (2 ^ 32)).fdiv (2 ^ 16)).fdiv (2 ^ 8)))) (ck ((IntKind.u8.wrap (((a0.fdiv (2 ^ 32)).fdiv (2 ^ 16)).fdiv (2 ^ 8))) < (bytes0.size : Int)) (some (w64 (56 + (w64 (byteAt bytes0 (IntKind.u8.wrap (((a0.fdiv (2 ^ 32)).fdiv (2 ^ 16)).fdiv (2 ^ 8)))))))))) (ck (0 ≤ (IntKind.u8.wrap ((a0.fdiv (2 ^ 32)).fdiv (2 ^ 16)))) (ck ((IntKind.u8.wrap ((a0.fdiv (2 ^ 32)).fdiv (2 ^ 16))) < (bytes0.size : Int)) (some (w64 (48 + (w64 (byteAt bytes0 (IntKind.u8.wrap ((a0.fdiv (2 ^ 32)).fdiv (2 ^ 16))))))))))) (cond (decide ((a0.fdiv (2 ^ 32)) ≥ 256)) (ck (0 ≤ (IntKind.u8.wrap ((a0.fdiv (2 ^ 32)).fdiv (2 ^ 8)))) (ck ((IntKind.u8.wrap ((a0.fdiv (2 ^ 32)).fdiv (2 ^ 8))) < (bytes0.size : Int)) (some (w64 (40 + (w64 (byteAt bytes0 (IntKind.u8.wrap ((a0.fdiv (2 ^ 32)).fdiv (2 ^ 8)))))))))) (ck (0 ≤ (IntKind.u8.wrap (a0.fdiv (2 ^ 32)))) (ck ((IntKind.u8.wrap (a0.fdiv (2 ^ 32))) < (bytes0.size : Int)) (some (w64 (32 + (w64 (byteAt bytes0 (IntKind.u8.wrap (a0.fdiv (2 ^ 32)))))))))))) (cond (decide (a0 ≥ 65536)) (cond (decide ((a0.fdiv (2 ^ 16)) ≥ 256)) (ck (0 ≤ (IntKind.u8.wrap ((a0.fdiv (2 ^ 16)).fdiv (2 ^ 8)))) (ck ((IntKind.u8.wrap ((a0.fdiv (2 ^ 16)).fdiv (2 ^ 8))) < (bytes0.size : Int)) (some (w64 (24 + (w64 (byteAt bytes0 (IntKind.u8.wrap ((a0.fdiv (2 ^ 16)).fdiv (2 ^ 8)))))))))) (ck (0 ≤ (IntKind.u8.wrap (a0.fdiv (2 ^ 16)))) (ck ((IntKind.u8.wrap (a0.fdiv (2 ^ 16))) < (bytes0.size : Int)) (some (w64 (16 + (w64 (byteAt bytes0 (IntKind.u8.wrap (a0.fdiv (2 ^ 16))))))))))) (cond (decide (a0 ≥ 256)) (ck (0 ≤ (IntKind.u8.wrap (a0.fdiv (2 ^ 8)))) (ck ((IntKind.u8.wrap (a0.fdiv (2 ^ 8))) < (bytes0.size : Int)) (some (w64 (8 + (w64 (byteAt bytes0 (IntKind.u8.wrap (a0.fdiv (2 ^ 8)))))))))) (ck (0 ≤ (IntKind.u8.wrap a0)) (ck ((IntKind.u8.wrap a0) < (bytes0.size : Int)) (some (w64 (0 + (w64 (byteAt bytes0 (IntKind.u8.wrap a0))))))))))
theorem math_bits.Len64.spec (a0 : Int) (o : Int) (h : math_bits.Len64.f a0 = some o) : Den.Spec Try.prog 173 [one (.int .u64 a0)] [] (one (.int .i64 o)) [] := by
  unfold math_bits.Len64.f at h
  rcases br_cases h with ⟨c1, h⟩ | ⟨c1, h⟩
  · rcases br_cases h with ⟨c2, h⟩ | ⟨c2, h⟩
    · rcases br_cases h with ⟨c3, h⟩ | ⟨c3, h⟩
      · obtain ⟨p1, h⟩ := ck_some h
        obtain ⟨p2, h⟩ := ck_some h
        obtain rfl := Option.some.inj h
        exact Den.Spec.of_walk tab mixed Try.func173 (by kernel_rfl) [.br true, .br true, .br true] [] [] (nd c1 (nd (by decide : (0 : Int) ≤ 32) (nd c2 (nd (by decide : (0 : Int) ≤ 16) (nd c3 (nd (by decide : (0 : Int) ≤ 8) (nd p1 (nd p2 trivial)))))))) (by kernel_rfl)
      · obtain ⟨p1, h⟩ := ck_some h
        obtain ⟨p2, h⟩ := ck_some h
        obtain rfl := Option.some.inj h
        exact Den.Spec.of_walk tab mixed Try.func173 (by kernel_rfl) [.br true, .br true, .br false] [] [] (nd c1 (nd (by decide : (0 : Int) ≤ 32) (nd c2 (nd (by decide : (0 : Int) ≤ 16) (nd c3 (nd p1 (nd p2 trivial))))))) (by kernel_rfl)
    · rcases br_cases h with ⟨c3, h⟩ | ⟨c3, h⟩
      · obtain ⟨p1, h⟩ := ck_some h
        obtain ⟨p2, h⟩ := ck_some h
        obtain rfl := Option.some.inj h
        exact Den.Spec.of_walk tab mixed Try.func173 (by kernel_rfl) [.br true, .br false, .br true] [] [] (nd c1 (nd (by decide : (0 : Int) ≤ 32) (nd c2 (nd c3 (nd (by decide : (0 : Int) ≤ 8) (nd p1 (nd p2 trivial))))))) (by kernel_rfl)
      · obtain ⟨p1, h⟩ := ck_some h
        obtain ⟨p2, h⟩ := ck_some h
        obtain rfl := Option.some.inj h
        exact Den.Spec.of_walk tab mixed Try.func173 (by kernel_rfl) [.br true, .br false, .br false] [] [] (nd c1 (nd (by decide : (0 : Int) ≤ 32) (nd c2 (nd c3 (nd p1 (nd p2 trivial)))))) (by kernel_rfl)
  · rcases br_cases h with ⟨c2, h⟩ | ⟨c2, h⟩
    · rcases br_cases h with ⟨c3, h⟩ | ⟨c3, h⟩
      · obtain ⟨p1, h⟩ := ck_some h
        obtain ⟨p2, h⟩ := ck_some h
        obtain rfl := Option.some.inj h
        exact Den.Spec.of_walk tab mixed Try.func173 (by kernel_rfl) [.br false, .br true, .br true] [] [] (nd c1 (nd c2 (nd (by decide : (0 : Int) ≤ 16) (nd c3 (nd (by decide : (0 : Int) ≤ 8) (nd p1 (nd p2 trivial))))))) (by kernel_rfl)
      · obtain ⟨p1, h⟩ := ck_some h
        obtain ⟨p2, h⟩ := ck_some h
        obtain rfl := Option.some.inj h
        exact Den.Spec.of_walk tab mixed Try.func173 (by kernel_rfl) [.br false, .br true, .br false] [] [] (nd c1 (nd c2 (nd (by decide : (0 : Int) ≤ 16) (nd c3 (nd p1 (nd p2 trivial)))))) (by kernel_rfl)
    · rcases br_cases h with ⟨c3, h⟩ | ⟨c3, h⟩
      · obtain ⟨p1, h⟩ := ck_some h
        obtain ⟨p2, h⟩ := ck_some h
        obtain rfl := Option.some.inj h
        exact Den.Spec.of_walk tab mixed Try.func173 (by kernel_rfl) [.br false, .br false, .br true] [] [] (nd c1 (nd c2 (nd c3 (nd (by decide : (0 : Int) ≤ 8) (nd p1 (nd p2 trivial)))))) (by kernel_rfl)
      · obtain ⟨p1, h⟩ := ck_some h
        obtain ⟨p2, h⟩ := ck_some h
        obtain rfl := Option.some.inj h
        exact Den.Spec.of_walk tab mixed Try.func173 (by kernel_rfl) [.br false, .br false, .br false] [] [] (nd c1 (nd c2 (nd c3 (nd p1 (nd p2 trivial))))) (by kernel_rfl)
def math_bits.Len.f (a0 : Int) : Option (Int) :=
  Option.bind (math_bits.Len64.f a0) fun x1 => some x1
theorem math_bits.Len.spec (a0 : Int) (o : Int) (h : math_bits.Len.f a0 = some o) : Den.Spec Try.prog 153 [one (.int .u64 a0)] [] (one (.int .i64 o)) [] := by
  unfold math_bits.Len.f at h
  obtain ⟨x1, e1, h⟩ := bind_some h
  obtain rfl := Option.some.inj h
  exact Den.Spec.of_walk tab mixed Try.func153 (by kernel_rfl) [.br false, .call [] [] (one (.int .i64 x1)) []] [] [] (nd ff (nd (math_bits.Len64.spec a0 _ e1) trivial)) (by kernel_rfl)
def cmp.isNaN_int.f (a0 : Int) : Option (Unit) :=
  some ()
theorem cmp.isNaN_int.spec (a0 : Int) (o : Unit) (h : cmp.isNaN_int.f a0 = some o) : Den.Spec Try.prog 187 [one (.int .i64 a0)] [] (one (.bool (a0 != a0))) [] := by
  unfold cmp.isNaN_int.f at h
  obtain rfl := Option.some.inj h
  exact Den.Spec.of_walk tab mixed Try.func187 (by kernel_rfl) [] [] [] trivial (by kernel_rfl)
def cmp.Less_int.f (a0 : Int) (a1 : Int) : Option (Bool) :=
  Option.bind (cmp.isNaN_int.f a0) fun x1 => cond (a0 != a0) (Option.bind (cmp.isNaN_int.f a1) fun x2 => cond (a1 != a1) (some (decide (a0 < a1))) (some true)) (some (decide (a0 < a1)))
theorem cmp.Less_int.spec (a0 : Int) (a1 : Int) (o : Bool) (h : cmp.Less_int.f a0 a1 = some o) : Den.Spec Try.prog 169 [one (.int .i64 a0), one (.int .i64 a1)] [] (one (.bool o)) [] := by
  unfold cmp.Less_int.f at h
  obtain ⟨x1, e1, h⟩ := bind_some h
  rcases br_cases h with ⟨c1, h⟩ | ⟨c1, h⟩
  · obtain ⟨x2, e2, h⟩ := bind_some h
    rcases br_cases h with ⟨c2, h⟩ | ⟨c2, h⟩
    · obtain rfl := Option.some.inj h
      exact Den.Spec.of_walk tab mixed Try.func169 (by kernel_rfl) [.call [] [] (one (.bool (a0 != a0))) [], .br true, .br true, .call [] [] (one (.bool (a1 != a1))) [], .br true, .br true, .br false, .br false, .br false, .br false] [] [] (nd (cmp.isNaN_int.spec a0 _ e1) (nd c1 (nd c1 (nd (cmp.isNaN_int.spec a1 _ e2) (nd c1 (nd c1 (nd (nf c2) (nd (nf c2) (nd (nf c2) (nd (nf c2) trivial)))))))))) (by kernel_rfl)
    · obtain rfl := Option.some.inj h
      exact Den.Spec.of_walk tab mixed Try.func169 (by kernel_rfl) [.call [] [] (one (.bool (a0 != a0))) [], .br true, .br true, .call [] [] (one (.bool (a1 != a1))) [], .br true, .br true, .br true, .br true, .br true, .br true] [] [] (nd (cmp.isNaN_int.spec a0 _ e1) (nd c1 (nd c1 (nd (cmp.isNaN_int.spec a1 _ e2) (nd c1 (nd c1 (nd (nt c2) (nd (nt c2) (nd (nt c2) (nd (nt c2) trivial)))))))))) (by kernel_rfl)
  · obtain rfl := Option.some.inj h
    exact Den.Spec.of_walk tab mixed Try.func169 (by kernel_rfl) [.call [] [] (one (.bool (a0 != a0))) [], .br false, .br false, .br false, .br false, .br false, .br false, .br false, .br false] [] [] (nd (cmp.isNaN_int.spec a0 _ e1) (nd c1 (nd c1 (nd c1 (nd c1 (nd ff (nd ff (nd ff (nd ff trivial))))))))) (by kernel_rfl)
def slices.insertionSortOrdered_int.l1.f (a1 : Int) (a2 : Int) (v107_1 : Int) : Nat → (List Int) → Int → Option ((List Int))
  | 0, _, _ => none
  | k + 1, v109_0, v109_1 =>
    cond (decide (v109_1 > a1)) (ck (0 ≤ v109_1) (ck (v109_1 < (v109_0.length : Int)) (ck (0 ≤ (w64 (v109_1 - 1))) (ck ((w64 (v109_1 - 1)) < (v109_0.length : Int)) (Option.bind (cmp.Less_int.f (v109_0.getD v109_1.toNat 0) (v109_0.getD ((w64 (v109_1 - 1)).toNat) 0)) fun x1 => cond (x1) (slices.insertionSortOrdered_int.l1.f a1 a2 v107_1 k ((v109_0.set v109_1.toNat (v109_0.getD ((w64 (v109_1 - 1)).toNat) 0)).set ((w64 (v109_1 - 1)).toNat) (v109_0.getD v109_1.toNat 0)) (w64 (v109_1 - 1))) (some v109_0)))))) (some v109_0)
def slices.insertionSortOrdered_int.l1.s (a1 : Int) (a2 : Int) (v107_1 : Int) (v109_0 : List Int) (v109_1 : Int) : St := mkSt 49 [(0, one (.sl 0 0 v109_0.length)), (1, one (.int .i64 a1)), (2, one (.int .i64 a2)), (6, one (.int .i64 v107_1)), (7, one (.int .i64 v109_1))] [some ⟨true, .ints .i64 v109_0⟩]
def slices.insertionSortOrdered_int.l1.e0 (a1 : Int) (a2 : Int) (v107_1 : Int) (o : (List Int)) : St := mkSt 49 [(0, one (.sl 0 0 o.length)), (1, one (.int .i64 a1)), (2, one (.int .i64 a2)), (6, one (.int .i64 v107_1))] [some ⟨true, .ints .i64 o⟩]
def slices.insertionSortOrdered_int.l1.x (a1 : Int) (a2 : Int) (v107_1 : Int) : ((List Int)) → AExit × St := fun o => (.exit 2, slices.insertionSortOrdered_int.l1.e0 a1 a2 v107_1 o)
theorem slices.insertionSortOrdered_int.l1.spec (a1 : Int) (a2 : Int) (v107_1 : Int) : ∀ (k : Nat) (v109_0 : List Int) (v109_1 : Int) (o : (List Int)), slices.insertionSortOrdered_int.l1.f a1 a2 v107_1 k v109_0 v109_1 = some o → LoopSpec Try.prog 1 (loopN Try.f163 1) (slices.insertionSortOrdered_int.l1.s a1 a2 v107_1 v109_0 v109_1) (slices.insertionSortOrdered_int.l1.x a1 a2 v107_1 o).1 (slices.insertionSortOrdered_int.l1.x a1 a2 v107_1 o).2
  | 0, _, _, _, h => by cases h
  | k + 1, v109_0, v109_1, o, h => by
    unfold slices.insertionSortOrdered_int.l1.f at h
    rcases br_cases h with ⟨c1, h⟩ | ⟨c1, h⟩
    · obtain ⟨p1, h⟩ := ck_some h
      obtain ⟨p2, h⟩ := ck_some h
      obtain ⟨p3, h⟩ := ck_some h
      obtain ⟨p4, h⟩ := ck_some h
      obtain ⟨x1, e1, h⟩ := bind_some h
      rcases br_cases h with ⟨c2, h⟩ | ⟨c2, h⟩
      · exact .of_step tab mixed [.br true, .br true, .br true, .br true, .br true, .br true, .br true, .br true, .br true, .br true, .call [] [] (one (.bool x1)) [], .br true, .br true] [] [0, 1, 2, 6, 7] [0] (s1 := mkSt 49 [(0, one (.sl 0 0 v109_0.length)), (1, one (.int .i64 a1)), (2, one (.int .i64 a2)), (6, one (.int .i64 v107_1)), (7, one (.int .i64 (w64 (v109_1 - 1))))] [some ⟨true, .ints .i64 ((v109_0.set v109_1.toNat (v109_0.getD ((w64 (v109_1 - 1)).toNat) 0)).set ((w64 (v109_1 - 1)).toNat) (v109_0.getD v109_1.toNat 0))⟩]) (nd c1 (nd c1 (nd c1 (nd p1 (nd p2 (nd c1 (nd (tn p1 p2) (nd c1 (nd c1 (nd c1 (nd c1 (nd p3 (nd p4 (nd c1 (nd (tn p3 p4) (nd c1 (nd (cmp.Less_int.spec (v109_0.getD v109_1.toNat 0) (v109_0.getD ((w64 (v109_1 - 1)).toNat) 0) _ e1) (nd c1 (nd c2 (nd p3 (nd p4 (nd (tn p3 p4) (nd p1 (nd p2 (nd (tn p1 p2) (nd p1 (nd p2 (nd (tn p1 p2) (nd p3 (nd p4 (nd (lt_set (tn p3 p4) : (w64 (v109_1 - 1)).toNat < (v109_0.set v109_1.toNat (v109_0.getD ((w64 (v109_1 - 1)).toNat) 0)).length) trivial))))))))))))))))))))))))))))))) (by kernel_rfl) (LoopSpec.eqs (slices.insertionSortOrdered_int.l1.spec a1 a2 v107_1 k ((v109_0.set v109_1.toNat (v109_0.getD ((w64 (v109_1 - 1)).toNat) 0)).set ((w64 (v109_1 - 1)).toNat) (v109_0.getD v109_1.toNat 0)) (w64 (v109_1 - 1)) _ h) (by simp only [slices.insertionSortOrdered_int.l1.s, List.length_set, overL_length] : slices.insertionSortOrdered_int.l1.s a1 a2 v107_1 ((v109_0.set v109_1.toNat (v109_0.getD ((w64 (v109_1 - 1)).toNat) 0)).set ((w64 (v109_1 - 1)).toNat) (v109_0.getD v109_1.toNat 0)) (w64 (v109_1 - 1)) = mkSt 49 [(0, one (.sl 0 0 v109_0.length)), (1, one (.int .i64 a1)), (2, one (.int .i64 a2)), (6, one (.int .i64 v107_1)), (7, one (.int .i64 (w64 (v109_1 - 1))))] [some ⟨true, .ints .i64 ((v109_0.set v109_1.toNat (v109_0.getD ((w64 (v109_1 - 1)).toNat) 0)).set ((w64 (v109_1 - 1)).toNat) (v109_0.getD v109_1.toNat 0))⟩]))
      · obtain rfl := Option.some.inj h
        exact .of_done tab mixed [.br true, .br true, .br true, .br true, .br true, .br true, .br true, .br true, .br true, .br true, .call [] [] (one (.bool x1)) [], .br true, .br false] [] [0, 1, 2, 6] [0] rfl (nd c1 (nd c1 (nd c1 (nd p1 (nd p2 (nd c1 (nd (tn p1 p2) (nd c1 (nd c1 (nd c1 (nd c1 (nd p3 (nd p4 (nd c1 (nd (tn p3 p4) (nd c1 (nd (cmp.Less_int.spec (v109_0.getD v109_1.toNat 0) (v109_0.getD ((w64 (v109_1 - 1)).toNat) 0) _ e1) (nd c1 (nd c2 trivial))))))))))))))))))) (by kernel_rfl)
    · obtain rfl := Option.some.inj h
      exact .of_done tab mixed [.br false, .br false, .br false, .br false, .br false, .br false, .br false, .br false, .br false, .br false, .br false, .br false] [] [0, 1, 2, 6] [0] rfl (nd c1 (nd c1 (nd c1 (nd c1 (nd c1 (nd c1 (nd c1 (nd c1 (nd c1 (nd c1 (nd c1 (nd ff trivial)))))))))))) (by kernel_rfl)
def slices.insertionSortOrdered_int.l0.f (K : Nat) (a1 : Int) (a2 : Int) : Nat → (List Int) → Int → Option ((List Int))
  | 0, _, _ => none
  | k + 1, v107_0, v107_1 =>
    cond (decide (v107_1 < a2)) (Option.bind (slices.insertionSortOrdered_int.l1.f a1 a2 v107_1 K v107_0 v107_1) fun x1 => slices.insertionSortOrdered_int.l0.f K a1 a2 k x1 (w64 (v107_1 + 1))) (some v107_0)
def slices.insertionSortOrdered_int.l0.s (K : Nat) (a1 : Int) (a2 : Int) (v107_0 : List Int) (v107_1 : Int) : St := mkSt 49 [(0, one (.sl 0 0 v107_0.length)), (1, one (.int .i64 a1)), (2, one (.int .i64 a2)), (6, one (.int .i64 v107_1))] [some ⟨true, .ints .i64 v107_0⟩]
def slices.insertionSortOrdered_int.l0.e0 (K : Nat) (a1 : Int) (a2 : Int) (o : (List Int)) : St := mkSt 49 [] [some ⟨true, .ints .i64 o⟩]
def slices.insertionSortOrdered_int.l0.x (K : Nat) (a1 : Int) (a2 : Int) : ((List Int)) → AExit × St := fun o => (.exit 0, slices.insertionSortOrdered_int.l0.e0 K a1 a2 o)
theorem slices.insertionSortOrdered_int.l0.spec (K : Nat) (a1 : Int) (a2 : Int) : ∀ (k : Nat) (v107_0 : List Int) (v107_1 : Int) (o : (List Int)), slices.insertionSortOrdered_int.l0.f K a1 a2 k v107_0 v107_1 = some o → LoopSpec Try.prog 1 (loopN Try.f163 0) (slices.insertionSortOrdered_int.l0.s K a1 a2 v107_0 v107_1) (slices.insertionSortOrdered_int.l0.x K a1 a2 o).1 (slices.insertionSortOrdered_int.l0.x K a1 a2 o).2
  | 0, _, _, _, h => by cases h
  | k + 1, v107_0, v107_1, o, h => by
    unfold slices.insertionSortOrdered_int.l0.f at h
    rcases br_cases h with ⟨c1, h⟩ | ⟨c1, h⟩
    · obtain ⟨x1, e1, h⟩ := bind_some h
      exact .of_step tab mixed [.br true, .loop [] [0, 1, 2, 6, 7] [0] (.exit 2) (slices.insertionSortOrdered_int.l1.e0 a1 a2 v107_1 x1)] [] [0, 1, 2, 6] [0] (s1 := slices.insertionSortOrdered_int.l0.s K a1 a2 x1 (w64 (v107_1 + 1))) (nd c1 (nd (slices.insertionSortOrdered_int.l1.spec a1 a2 v107_1 K v107_0 v107_1 _ e1) trivial)) (by kernel_rfl) (slices.insertionSortOrdered_int.l0.spec K a1 a2 k x1 (w64 (v107_1 + 1)) _ h)
    · obtain rfl := Option.some.inj h
      exact .of_done tab mixed [.br false] [] [] [0] rfl (nd c1 trivial) (by kernel_rfl)
def slices.insertionSortOrdered_int.f (K : Nat) (a0 : List Int) (a1 : Int) (a2 : Int) : Option ((List Int)) :=
  Option.bind (slices.insertionSortOrdered_int.l0.f K a1 a2 K a0 (w64 (a1 + 1))) fun x1 => some x1
theorem slices.insertionSortOrdered_int.spec (K : Nat) (a0 : List Int) (a1 : Int) (a2 : Int) (o : (List Int)) (h : slices.insertionSortOrdered_int.f K a0 a1 a2 = some o) : Den.Spec Try.prog 163 [one (.sl 0 0 a0.length), one (.int .i64 a1), one (.int .i64 a2)] [some ⟨true, .ints .i64 a0⟩] (.tup []) [some ⟨true, .ints .i64 o⟩] := by
  unfold slices.insertionSortOrdered_int.f at h
  obtain ⟨x1, e1, h⟩ := bind_some h
  obtain rfl := Option.some.inj h
  exact Den.Spec.of_walk tab mixed Try.func163 (by kernel_rfl) [.loop [] [0, 1, 2, 6] [0] (.exit 0) (slices.insertionSortOrdered_int.l0.e0 K a1 a2 x1)] [] [0] (nd (slices.insertionSortOrdered_int.l0.spec K a1 a2 K a0 (w64 (a1 + 1)) _ e1) trivial) (by kernel_rfl)
def slices.pdqsortOrdered_int.l0.f (K : Nat) (a0 : List Int) (a1 : Int) (a2 : Int) (a3 : Int) : Nat → Option ((List Int))
  | 0 => none
  | k + 1 =>
    cond (decide ((w64 (a2 - a1)) ≤ 12)) (Option.bind (slices.insertionSortOrdered_int.f K a0 a1 a2) fun x1 => some x1) (cond (a3 == 0) (none) (none))
def slices.pdqsortOrdered_int.l0.s (K : Nat) (a0 : List Int) (a1 : Int) (a2 : Int) (a3 : Int) : St := mkSt 134 [(0, one (.sl 0 0 a0.length)), (1, one (.int .i64 a1)), (2, one (.int .i64 a2)), (3, one (.int .i64 a3)), (8, one (.bool true)), (9, one (.bool true))] [some ⟨true, .ints .i64 a0⟩]
def slices.pdqsortOrdered_int.l0.e0 (K : Nat) (a0 : List Int) (a1 : Int) (a2 : Int) (a3 : Int) (o : (List Int)) : St := mkSt 134 [] [some ⟨true, .ints .i64 o⟩]
def slices.pdqsortOrdered_int.l0.x (K : Nat) (a0 : List Int) (a1 : Int) (a2 : Int) (a3 : Int) : ((List Int)) → AExit × St := fun o => (.ret, slices.pdqsortOrdered_int.l0.e0 K a0 a1 a2 a3 o)
theorem slices.pdqsortOrdered_int.l0.spec (K : Nat) (a0 : List Int) (a1 : Int) (a2 : Int) (a3 : Int) : ∀ (k : Nat) (o : (List Int)), slices.pdqsortOrdered_int.l0.f K a0 a1 a2 a3 k = some o → LoopSpec Try.prog 1 (loopN Try.f152 0) (slices.pdqsortOrdered_int.l0.s K a0 a1 a2 a3) (slices.pdqsortOrdered_int.l0.x K a0 a1 a2 a3 o).1 (slices.pdqsortOrdered_int.l0.x K a0 a1 a2 a3 o).2
  | 0, _, h => by cases h
  | k + 1, o, h => by
    unfold slices.pdqsortOrdered_int.l0.f at h
    rcases br_cases h with ⟨c1, h⟩ | ⟨c1, h⟩
    · obtain ⟨x1, e1, h⟩ := bind_some h
      obtain rfl := Option.some.inj h
      exact .of_done tab mixed [.br true, .call [(0, true)] [] (.tup []) [some ⟨true, .ints .i64 x1⟩]] [] [] [0] rfl (nd c1 (nd (slices.insertionSortOrdered_int.spec K a0 a1 a2 _ e1) trivial)) (by kernel_rfl)
    · rcases br_cases h with ⟨c2, h⟩ | ⟨c2, h⟩
      · cases h
      · cases h
def slices.pdqsortOrdered_int.f (K : Nat) (a0 : List Int) (a1 : Int) (a2 : Int) (a3 : Int) : Option ((List Int)) :=
  Option.bind (slices.pdqsortOrdered_int.l0.f K a0 a1 a2 a3 K) fun x1 => some x1
theorem slices.pdqsortOrdered_int.spec (K : Nat) (a0 : List Int) (a1 : Int) (a2 : Int) (a3 : Int) (o : (List Int)) (h : slices.pdqsortOrdered_int.f K a0 a1 a2 a3 = some o) : Den.Spec Try.prog 152 [one (.sl 0 0 a0.length), one (.int .i64 a1), one (.int .i64 a2), one (.int .i64 a3)] [some ⟨true, .ints .i64 a0⟩] (.tup []) [some ⟨true, .ints .i64 o⟩] := by
  unfold slices.pdqsortOrdered_int.f at h
  obtain ⟨x1, e1, h⟩ := bind_some h
  obtain rfl := Option.some.inj h
  exact Den.Spec.of_walk tab mixed Try.func152 (by kernel_rfl) [.loop [] [0, 1, 2, 3, 8, 9] [0] (.ret) (slices.pdqsortOrdered_int.l0.e0 K a0 a1 a2 a3 x1)] [] [0] (nd (slices.pdqsortOrdered_int.l0.spec K a0 a1 a2 a3 K _ e1) trivial) (by kernel_rfl)
def slices.Sort_int_int.f (K : Nat) (a0 : List Int) : Option ((List Int)) :=
  Option.bind (math_bits.Len.f (IntKind.u64.wrap (a0.length : Int))) fun x1 => Option.bind (slices.pdqsortOrdered_int.f K a0 0 (a0.length : Int) x1) fun x2 => some x2
theorem slices.Sort_int_int.spec (K : Nat) (a0 : List Int) (o : (List Int)) (h : slices.Sort_int_int.f K a0 = some o) : Den.Spec Try.prog 132 [one (.sl 0 0 a0.length)] [some ⟨true, .ints .i64 a0⟩] (.tup []) [some ⟨true, .ints .i64 o⟩] := by
  unfold slices.Sort_int_int.f at h
  obtain ⟨x1, e1, h⟩ := bind_some h
  obtain ⟨x2, e2, h⟩ := bind_some h
  obtain rfl := Option.some.inj h
  exact Den.Spec.of_walk tab mixed Try.func132 (by kernel_rfl) [.call [] [] (one (.int .i64 x1)) [], .call [(0, true)] [] (.tup []) [some ⟨true, .ints .i64 x2⟩]] [] [0] (nd (math_bits.Len.spec (IntKind.u64.wrap (a0.length : Int)) _ e1) (nd (slices.pdqsortOrdered_int.spec K a0 0 (a0.length : Int) x1 _ e2) trivial)) (by kernel_rfl)
def impl.lives.f (K : Nat) (a0 : List ByteArray) (a1 : List Int) (a2 : List Int) (a3 : Int) (a4 : Int) : Option ((List Int) × Nat) :=
  Option.bind (impl.lives.l0.f a0 a1 a2 a4 K [] 0) fun x1 => Option.bind (slices.Sort_int_int.f K x1) fun x2 => some (x2, x1.length)
theorem impl.lives.spec (K : Nat) (a0 : List ByteArray) (a1 : List Int) (a2 : List Int) (a3 : Int) (a4 : Int) (o : (List Int) × Nat) (h : impl.lives.f K a0 a1 a2 a3 a4 = some o) : Den.Spec Try.prog 101 [.v (.agg [.sl 0 0 a0.length, .sl 1 0 a1.length, .sl 2 0 a2.length, .int .i64 a3]), one (.int .i64 a4)] [some ⟨false, .strs a0⟩, some ⟨false, .ints .i64 a1⟩, some ⟨false, .ints .i64 a2⟩] (one (.sl 3 0 o.2)) [some ⟨false, .strs a0⟩, some ⟨false, .ints .i64 a1⟩, some ⟨false, .ints .i64 a2⟩, some ⟨true, .ints .i64 o.1⟩] := by
  unfold impl.lives.f at h
  obtain ⟨x1, e1, h⟩ := bind_some h
  obtain ⟨x2, e2, h⟩ := bind_some h
  obtain rfl := Option.some.inj h
  exact Den.Spec.of_walk tab mixed Try.func101 (by kernel_rfl) [.loop [] [1, 5, 10, 11, 12] [0, 1, 2, 4] (.exit 0) (impl.lives.l0.e0 a0 a1 a2 a4 x1), .call [(3, true)] [] (.tup []) [some ⟨true, .ints .i64 x2⟩]] [] [0, 1, 2, 3] (nd (impl.lives.l0.spec a0 a1 a2 a4 K [] 0 _ e1) (nd (slices.Sort_int_int.spec K x1 _ e2) trivial)) (by kernel_rfl)
def slices.Clip_int_int.f (a0 : List Int) : Option (Unit) :=
  some ()
theorem slices.Clip_int_int.spec (a0 : List Int) (o : Unit) (h : slices.Clip_int_int.f a0 = some o) : Den.Spec Try.prog 100 [one (.sl 0 0 a0.length)] [some ⟨true, .ints .i64 a0⟩] (one (.sl 0 0 a0.length)) [some ⟨true, .ints .i64 a0⟩] := by
  unfold slices.Clip_int_int.f at h
  obtain rfl := Option.some.inj h
  exact Den.Spec.of_walk tab mixed Try.func100 (by kernel_rfl) [.br false] [] [0] (nd (Int.le_refl 0) (nd (Int.natCast_nonneg a0.length) (nd (Int.le_refl (a0.length : Int)) (nd (Int.le_refl (a0.length : Int)) trivial)))) (by kernel_rfl)
def impl.Lives.f (K : Nat) (a0 : List ByteArray) (a1 : List Int) (a2 : List Int) (a3 : Int) (a4 : Int) : Option ((List Int)) :=
  Option.bind (impl.FtlOk.f K a0 a1 a2 a3) fun x1 => cond (x1) (Option.bind (impl.lives.f K a0 a1 a2 a3 a4) fun x2 => ck (x2.2 = x2.1.length) (Option.bind (slices.Clip_int_int.f x2.1) fun x3 => some x2.1)) (some [])
theorem impl.Lives.spec (K : Nat) (a0 : List ByteArray) (a1 : List Int) (a2 : List Int) (a3 : Int) (a4 : Int) (o : (List Int)) (h : impl.Lives.f K a0 a1 a2 a3 a4 = some o) : Den.Spec Try.prog 57 [.v (.agg [.sl 0 0 a0.length, .sl 1 0 a1.length, .sl 2 0 a2.length, .int .i64 a3]), one (.int .i64 a4)] [some ⟨false, .strs a0⟩, some ⟨false, .ints .i64 a1⟩, some ⟨false, .ints .i64 a2⟩] (one (.sl 3 0 o.length)) [some ⟨false, .strs a0⟩, some ⟨false, .ints .i64 a1⟩, some ⟨false, .ints .i64 a2⟩, some ⟨true, .ints .i64 o⟩] := by
  unfold impl.Lives.f at h
  obtain ⟨x1, e1, h⟩ := bind_some h
  rcases br_cases h with ⟨c1, h⟩ | ⟨c1, h⟩
  · obtain ⟨x2, e2, h⟩ := bind_some h
    obtain ⟨p1, h⟩ := ck_some h
    obtain ⟨x3, e3, h⟩ := bind_some h
    obtain rfl := Option.some.inj h
    exact Den.Spec.of_walk tab mixed Try.func57 (by kernel_rfl) [.call [(0, false), (1, false), (2, false)] [] (one (.bool x1)) [some ⟨false, .strs a0⟩, some ⟨false, .ints .i64 a1⟩, some ⟨false, .ints .i64 a2⟩], .br false, .call [(0, false), (1, false), (2, false)] [] (one (.sl 3 0 x2.2)) [some ⟨false, .strs a0⟩, some ⟨false, .ints .i64 a1⟩, some ⟨false, .ints .i64 a2⟩, some ⟨true, .ints .i64 x2.1⟩], .call [(4, true)] [] (one (.sl 0 0 x2.1.length)) [some ⟨true, .ints .i64 x2.1⟩]] [] [0, 1, 2, 4] (nd (impl.FtlOk.spec K a0 a1 a2 a3 _ e1) (nd (nf c1) (nd (impl.lives.spec K a0 a1 a2 a3 a4 _ e2) (nd ((slices.Clip_int_int.spec x2.1 _ e3).args (congrArg (fun n => ([one (.sl 0 0 n)] : List AV)) p1.symm)) trivial)))) (by kernel_rfl)
  · obtain rfl := Option.some.inj h
    exact Den.Spec.of_walk tab mixed Try.func57 (by kernel_rfl) [.call [(0, false), (1, false), (2, false)] [] (one (.bool x1)) [some ⟨false, .strs a0⟩, some ⟨false, .ints .i64 a1⟩, some ⟨false, .ints .i64 a2⟩], .br true] [(4, [.ints .i64])] [0, 1, 2, 4] (nd (impl.FtlOk.spec K a0 a1 a2 a3 _ e1) (nd (nt c1) trivial)) (by kernel_rfl)
def laws.eqIntS.l0.f (a0 : List Int) (a1 : List Int) : Nat → Int → Option (Unit ⊕ Unit)
  | 0, _ => none
  | k + 1, v119_0 =>
    cond (decide (v119_0 < (a0.length : Int))) (ck (0 ≤ v119_0) (ck (v119_0 < (a1.length : Int)) (cond ((a0.getD v119_0.toNat 0) != (a1.getD v119_0.toNat 0)) (some (.inl ())) (laws.eqIntS.l0.f a0 a1 k (w64 (v119_0 + 1)))))) (some (.inr (())))
def laws.eqIntS.l0.s (a0 : List Int) (a1 : List Int) (v119_0 : Int) : St := mkSt 26 [(0, one (.sl 0 0 a0.length)), (1, one (.sl 1 0 a1.length)), (5, one (.int .i64 v119_0))] [some ⟨false, .ints .i64 a0⟩, some ⟨false, .ints .i64 a1⟩]
def laws.eqIntS.l0.e0 (a0 : List Int) (a1 : List Int) (o : Unit) : St := mkSt 26 [(4, one (.bool false))] [some ⟨false, .ints .i64 a0⟩, some ⟨false, .ints .i64 a1⟩]
def laws.eqIntS.l0.e1 (a0 : List Int) (a1 : List Int) (o : Unit) : St := mkSt 26 [] [some ⟨false, .ints .i64 a0⟩, some ⟨false, .ints .i64 a1⟩]
def laws.eqIntS.l0.x (a0 : List Int) (a1 : List Int) : (Unit ⊕ Unit) → AExit × St := Sum.elim (fun o => (.ret, laws.eqIntS.l0.e0 a0 a1 o)) (fun o => (.exit 0, laws.eqIntS.l0.e1 a0 a1 o))
theorem laws.eqIntS.l0.spec (a0 : List Int) (a1 : List Int) : ∀ (k : Nat) (v119_0 : Int) (o : Unit ⊕ Unit), laws.eqIntS.l0.f a0 a1 k v119_0 = some o → LoopSpec Try.prog 2 (loopN Try.f58 0) (laws.eqIntS.l0.s a0 a1 v119_0) (laws.eqIntS.l0.x a0 a1 o).1 (laws.eqIntS.l0.x a0 a1 o).2
  | 0, _, _, h => by cases h
  | k + 1, v119_0, o, h => by
    unfold laws.eqIntS.l0.f at h
    rcases br_cases h with ⟨c1, h⟩ | ⟨c1, h⟩
    · obtain ⟨p1, h⟩ := ck_some h
      obtain ⟨p2, h⟩ := ck_some h
      rcases br_cases h with ⟨c2, h⟩ | ⟨c2, h⟩
      · obtain rfl := Option.some.inj h
        exact .of_done tab mixed [.br true, .br true] [] [4] [0, 1] rfl (nd c1 (nd p1 (nd (of_decide_eq_true c1) (nd (tn p1 (of_decide_eq_true c1)) (nd p1 (nd p2 (nd (tn p1 p2) (nd c2 trivial)))))))) (by kernel_rfl)
      · exact .of_step tab mixed [.br true, .br false] [] [0, 1, 5] [0, 1] (s1 := laws.eqIntS.l0.s a0 a1 (w64 (v119_0 + 1))) (nd c1 (nd p1 (nd (of_decide_eq_true c1) (nd (tn p1 (of_decide_eq_true c1)) (nd p1 (nd p2 (nd (tn p1 p2) (nd c2 trivial)))))))) (by kernel_rfl) (laws.eqIntS.l0.spec a0 a1 k (w64 (v119_0 + 1)) _ h)
    · obtain rfl := Option.some.inj h
      exact .of_done tab mixed [.br false] [] [] [0, 1] rfl (nd c1 trivial) (by kernel_rfl)
def laws.eqIntS.f (K : Nat) (a0 : List Int) (a1 : List Int) : Option (Bool) :=
  cond ((a0.length : Int) != (a1.length : Int)) (some false) (Option.bind (laws.eqIntS.l0.f a0 a1 K 0) fun x1 => (Sum.elim (fun x1 => some false) (fun x1 => some true)) x1)
theorem laws.eqIntS.spec (K : Nat) (a0 : List Int) (a1 : List Int) (o : Bool) (h : laws.eqIntS.f K a0 a1 = some o) : Den.Spec Try.prog 58 [one (.sl 0 0 a0.length), one (.sl 1 0 a1.length)] [some ⟨false, .ints .i64 a0⟩, some ⟨false, .ints .i64 a1⟩] (one (.bool o)) [some ⟨false, .ints .i64 a0⟩, some ⟨false, .ints .i64 a1⟩] := by
  unfold laws.eqIntS.f at h
  rcases br_cases h with ⟨c1, h⟩ | ⟨c1, h⟩
  · obtain rfl := Option.some.inj h
    exact Den.Spec.of_walk tab mixed Try.func58 (by kernel_rfl) [.br true] [] [0, 1] (nd c1 trivial) (by kernel_rfl)
  · obtain ⟨x1, e1, h⟩ := bind_some h
    rcases x1 with x1 | x1
    · obtain rfl := Option.some.inj h
      exact Den.Spec.of_walk tab mixed Try.func58 (by kernel_rfl) [.br false, .loop [] [0, 1, 5] [0, 1] (.ret) (laws.eqIntS.l0.e0 a0 a1 x1)] [] [0, 1] (nd c1 (nd (laws.eqIntS.l0.spec a0 a1 K 0 _ e1) trivial)) (by kernel_rfl)
    · obtain rfl := Option.some.inj h
      exact Den.Spec.of_walk tab mixed Try.func58 (by kernel_rfl) [.br false, .loop [] [0, 1, 5] [0, 1] (.exit 0) (laws.eqIntS.l0.e1 a0 a1 x1)] [] [0, 1] (nd c1 (nd (laws.eqIntS.l0.spec a0 a1 K 0 _ e1) trivial)) (by kernel_rfl)
def laws.eqStringS.l0.f (a0 : List ByteArray) (a1 : List ByteArray) : Nat → Int → Option (Unit ⊕ Unit)
  | 0, _ => none
  | k + 1, v122_0 =>
    cond (decide (v122_0 < (a0.length : Int))) (ck (0 ≤ v122_0) (ck (v122_0 < (a1.length : Int)) (cond (strEq (a0.getD v122_0.toNat noVal) (a1.getD v122_0.toNat noVal)) (laws.eqStringS.l0.f a0 a1 k (w64 (v122_0 + 1))) (some (.inl ()))))) (some (.inr (())))
def laws.eqStringS.l0.s (a0 : List ByteArray) (a1 : List ByteArray) (v122_0 : Int) : St := mkSt 26 [(0, one (.sl 0 0 a0.length)), (1, one (.sl 1 0 a1.length)), (5, one (.int .i64 v122_0))] [some ⟨false, .strs a0⟩, some ⟨false, .strs a1⟩]
def laws.eqStringS.l0.e0 (a0 : List ByteArray) (a1 : List ByteArray) (o : Unit) : St := mkSt 26 [(4, one (.bool false))] [some ⟨false, .strs a0⟩, some ⟨false, .strs a1⟩]
def laws.eqStringS.l0.e1 (a0 : List ByteArray) (a1 : List ByteArray) (o : Unit) : St := mkSt 26 [] [some ⟨false, .strs a0⟩, some ⟨false, .strs a1⟩]
def laws.eqStringS.l0.x (a0 : List ByteArray) (a1 : List ByteArray) : (Unit ⊕ Unit) → AExit × St := Sum.elim (fun o => (.ret, laws.eqStringS.l0.e0 a0 a1 o)) (fun o => (.exit 0, laws.eqStringS.l0.e1 a0 a1 o))
theorem laws.eqStringS.l0.spec (a0 : List ByteArray) (a1 : List ByteArray) : ∀ (k : Nat) (v122_0 : Int) (o : Unit ⊕ Unit), laws.eqStringS.l0.f a0 a1 k v122_0 = some o → LoopSpec Try.prog 2 (loopN Try.f51 0) (laws.eqStringS.l0.s a0 a1 v122_0) (laws.eqStringS.l0.x a0 a1 o).1 (laws.eqStringS.l0.x a0 a1 o).2
  | 0, _, _, h => by cases h
  | k + 1, v122_0, o, h => by
    unfold laws.eqStringS.l0.f at h
    rcases br_cases h with ⟨c1, h⟩ | ⟨c1, h⟩
    · obtain ⟨p1, h⟩ := ck_some h
      obtain ⟨p2, h⟩ := ck_some h
      rcases br_cases h with ⟨c2, h⟩ | ⟨c2, h⟩
      · exact .of_step tab mixed [.br true, .br false] [] [0, 1, 5] [0, 1] (s1 := laws.eqStringS.l0.s a0 a1 (w64 (v122_0 + 1))) (nd c1 (nd p1 (nd (of_decide_eq_true c1) (nd (tn p1 (of_decide_eq_true c1)) (nd p1 (nd p2 (nd (tn p1 p2) (nd (nf c2) trivial)))))))) (by kernel_rfl) (laws.eqStringS.l0.spec a0 a1 k (w64 (v122_0 + 1)) _ h)
      · obtain rfl := Option.some.inj h
        exact .of_done tab mixed [.br true, .br true] [] [4] [0, 1] rfl (nd c1 (nd p1 (nd (of_decide_eq_true c1) (nd (tn p1 (of_decide_eq_true c1)) (nd p1 (nd p2 (nd (tn p1 p2) (nd (nt c2) trivial)))))))) (by kernel_rfl)
    · obtain rfl := Option.some.inj h
      exact .of_done tab mixed [.br false] [] [] [0, 1] rfl (nd c1 trivial) (by kernel_rfl)
def laws.eqStringS.f (K : Nat) (a0 : List ByteArray) (a1 : List ByteArray) : Option (Bool) :=
  cond ((a0.length : Int) != (a1.length : Int)) (some false) (Option.bind (laws.eqStringS.l0.f a0 a1 K 0) fun x1 => (Sum.elim (fun x1 => some false) (fun x1 => some true)) x1)
theorem laws.eqStringS.spec (K : Nat) (a0 : List ByteArray) (a1 : List ByteArray) (o : Bool) (h : laws.eqStringS.f K a0 a1 = some o) : Den.Spec Try.prog 51 [one (.sl 0 0 a0.length), one (.sl 1 0 a1.length)] [some ⟨false, .strs a0⟩, some ⟨false, .strs a1⟩] (one (.bool o)) [some ⟨false, .strs a0⟩, some ⟨false, .strs a1⟩] := by
  unfold laws.eqStringS.f at h
  rcases br_cases h with ⟨c1, h⟩ | ⟨c1, h⟩
  · obtain rfl := Option.some.inj h
    exact Den.Spec.of_walk tab mixed Try.func51 (by kernel_rfl) [.br true] [] [0, 1] (nd c1 trivial) (by kernel_rfl)
  · obtain ⟨x1, e1, h⟩ := bind_some h
    rcases x1 with x1 | x1
    · obtain rfl := Option.some.inj h
      exact Den.Spec.of_walk tab mixed Try.func51 (by kernel_rfl) [.br false, .loop [] [0, 1, 5] [0, 1] (.ret) (laws.eqStringS.l0.e0 a0 a1 x1)] [] [0, 1] (nd c1 (nd (laws.eqStringS.l0.spec a0 a1 K 0 _ e1) trivial)) (by kernel_rfl)
    · obtain rfl := Option.some.inj h
      exact Den.Spec.of_walk tab mixed Try.func51 (by kernel_rfl) [.br false, .loop [] [0, 1, 5] [0, 1] (.exit 0) (laws.eqStringS.l0.e1 a0 a1 x1)] [] [0, 1] (nd c1 (nd (laws.eqStringS.l0.spec a0 a1 K 0 _ e1) trivial)) (by kernel_rfl)
def laws.eqChip.f (K : Nat) (a0 : List ByteArray) (a1 : List Int) (a2 : List ByteArray) (a3 : List Int) : Option (Bool) :=
  Option.bind (laws.eqStringS.f K a0 a2) fun x1 => cond (x1) (Option.bind (laws.eqIntS.f K a1 a3) fun x2 => cond (x2) (some true) (some false)) (some false)
theorem laws.eqChip.spec (K : Nat) (a0 : List ByteArray) (a1 : List Int) (a2 : List ByteArray) (a3 : List Int) (o : Bool) (h : laws.eqChip.f K a0 a1 a2 a3 = some o) : Den.Spec Try.prog 45 [.v (.agg [.sl 0 0 a0.length, .sl 1 0 a1.length]), .v (.agg [.sl 2 0 a2.length, .sl 3 0 a3.length])] [some ⟨false, .strs a0⟩, some ⟨false, .ints .i64 a1⟩, some ⟨false, .strs a2⟩, some ⟨false, .ints .i64 a3⟩] (one (.bool o)) [some ⟨false, .strs a0⟩, some ⟨false, .ints .i64 a1⟩, some ⟨false, .strs a2⟩, some ⟨false, .ints .i64 a3⟩] := by
  unfold laws.eqChip.f at h
  obtain ⟨x1, e1, h⟩ := bind_some h
  rcases br_cases h with ⟨c1, h⟩ | ⟨c1, h⟩
  · obtain ⟨x2, e2, h⟩ := bind_some h
    rcases br_cases h with ⟨c2, h⟩ | ⟨c2, h⟩
    · obtain rfl := Option.some.inj h
      exact Den.Spec.of_walk tab mixed Try.func45 (by kernel_rfl) [.call [] [(0, true), (1, true)] (one (.bool x1)) [some ⟨false, .strs a0⟩, some ⟨false, .strs a2⟩], .br false, .call [] [(0, true), (1, true)] (one (.bool x2)) [some ⟨false, .ints .i64 a1⟩, some ⟨false, .ints .i64 a3⟩], .br false] [] [0, 1, 2, 3] (nd (laws.eqStringS.spec K a0 a2 _ e1) (nd (rfl : (0 : Nat) = 0) (nd (rfl : a0.length = a0.length) (nd (rfl : (0 : Nat) = 0) (nd (rfl : a2.length = a2.length) (nd (nf c1) (nd (laws.eqIntS.spec K a1 a3 _ e2) (nd (rfl : (0 : Nat) = 0) (nd (rfl : a1.length = a1.length) (nd (rfl : (0 : Nat) = 0) (nd (rfl : a3.length = a3.length) (nd (nf c2) trivial)))))))))))) (by kernel_rfl)
    · obtain rfl := Option.some.inj h
      exact Den.Spec.of_walk tab mixed Try.func45 (by kernel_rfl) [.call [] [(0, true), (1, true)] (one (.bool x1)) [some ⟨false, .strs a0⟩, some ⟨false, .strs a2⟩], .br false, .call [] [(0, true), (1, true)] (one (.bool x2)) [some ⟨false, .ints .i64 a1⟩, some ⟨false, .ints .i64 a3⟩], .br true] [] [0, 1, 2, 3] (nd (laws.eqStringS.spec K a0 a2 _ e1) (nd (rfl : (0 : Nat) = 0) (nd (rfl : a0.length = a0.length) (nd (rfl : (0 : Nat) = 0) (nd (rfl : a2.length = a2.length) (nd (nf c1) (nd (laws.eqIntS.spec K a1 a3 _ e2) (nd (rfl : (0 : Nat) = 0) (nd (rfl : a1.length = a1.length) (nd (rfl : (0 : Nat) = 0) (nd (rfl : a3.length = a3.length) (nd (nt c2) trivial)))))))))))) (by kernel_rfl)
  · obtain rfl := Option.some.inj h
    exact Den.Spec.of_walk tab mixed Try.func45 (by kernel_rfl) [.call [] [(0, true), (1, true)] (one (.bool x1)) [some ⟨false, .strs a0⟩, some ⟨false, .strs a2⟩], .br true] [] [0, 1, 2, 3] (nd (laws.eqStringS.spec K a0 a2 _ e1) (nd (rfl : (0 : Nat) = 0) (nd (rfl : a0.length = a0.length) (nd (rfl : (0 : Nat) = 0) (nd (rfl : a2.length = a2.length) (nd (nt c1) trivial)))))) (by kernel_rfl)
def laws.eqFtl.f (K : Nat) (a0 : List ByteArray) (a1 : List Int) (a2 : List Int) (a3 : Int) (a4 : List ByteArray) (a5 : List Int) (a6 : List Int) (a7 : Int) : Option (Bool) :=
  Option.bind (laws.eqChip.f K a0 a1 a4 a5) fun x1 => cond (x1) (Option.bind (laws.eqIntS.f K a2 a6) fun x2 => cond (x2) (cond (a3 != a7) (some false) (some true)) (some false)) (some false)
theorem laws.eqFtl.spec (K : Nat) (a0 : List ByteArray) (a1 : List Int) (a2 : List Int) (a3 : Int) (a4 : List ByteArray) (a5 : List Int) (a6 : List Int) (a7 : Int) (o : Bool) (h : laws.eqFtl.f K a0 a1 a2 a3 a4 a5 a6 a7 = some o) : Den.Spec Try.prog 36 [.v (.agg [.sl 0 0 a0.length, .sl 1 0 a1.length, .sl 2 0 a2.length, .int .i64 a3]), .v (.agg [.sl 3 0 a4.length, .sl 4 0 a5.length, .sl 5 0 a6.length, .int .i64 a7])] [some ⟨false, .strs a0⟩, some ⟨false, .ints .i64 a1⟩, some ⟨false, .ints .i64 a2⟩, some ⟨false, .strs a4⟩, some ⟨false, .ints .i64 a5⟩, some ⟨false, .ints .i64 a6⟩] (one (.bool o)) [some ⟨false, .strs a0⟩, some ⟨false, .ints .i64 a1⟩, some ⟨false, .ints .i64 a2⟩, some ⟨false, .strs a4⟩, some ⟨false, .ints .i64 a5⟩, some ⟨false, .ints .i64 a6⟩] := by
  unfold laws.eqFtl.f at h
  obtain ⟨x1, e1, h⟩ := bind_some h
  rcases br_cases h with ⟨c1, h⟩ | ⟨c1, h⟩
  · obtain ⟨x2, e2, h⟩ := bind_some h
    rcases br_cases h with ⟨c2, h⟩ | ⟨c2, h⟩
    · rcases br_cases h with ⟨c3, h⟩ | ⟨c3, h⟩
      · obtain rfl := Option.some.inj h
        exact Den.Spec.of_walk tab mixed Try.func36 (by kernel_rfl) [.call [(0, false), (1, false), (3, false), (4, false)] [] (one (.bool x1)) [some ⟨false, .strs a0⟩, some ⟨false, .ints .i64 a1⟩, some ⟨false, .strs a4⟩, some ⟨false, .ints .i64 a5⟩], .br false, .call [] [(0, true), (1, true)] (one (.bool x2)) [some ⟨false, .ints .i64 a2⟩, some ⟨false, .ints .i64 a6⟩], .br false, .br true] [] [0, 1, 2, 3, 4, 5] (nd (laws.eqChip.spec K a0 a1 a4 a5 _ e1) (nd (nf c1) (nd (laws.eqIntS.spec K a2 a6 _ e2) (nd (rfl : (0 : Nat) = 0) (nd (rfl : a2.length = a2.length) (nd (rfl : (0 : Nat) = 0) (nd (rfl : a6.length = a6.length) (nd (nf c2) (nd c3 trivial))))))))) (by kernel_rfl)
      · obtain rfl := Option.some.inj h
        exact Den.Spec.of_walk tab mixed Try.func36 (by kernel_rfl) [.call [(0, false), (1, false), (3, false), (4, false)] [] (one (.bool x1)) [some ⟨false, .strs a0⟩, some ⟨false, .ints .i64 a1⟩, some ⟨false, .strs a4⟩, some ⟨false, .ints .i64 a5⟩], .br false, .call [] [(0, true), (1, true)] (one (.bool x2)) [some ⟨false, .ints .i64 a2⟩, some ⟨false, .ints .i64 a6⟩], .br false, .br false] [] [0, 1, 2, 3, 4, 5] (nd (laws.eqChip.spec K a0 a1 a4 a5 _ e1) (nd (nf c1) (nd (laws.eqIntS.spec K a2 a6 _ e2) (nd (rfl : (0 : Nat) = 0) (nd (rfl : a2.length = a2.length) (nd (rfl : (0 : Nat) = 0) (nd (rfl : a6.length = a6.length) (nd (nf c2) (nd c3 trivial))))))))) (by kernel_rfl)
    · obtain rfl := Option.some.inj h
      exact Den.Spec.of_walk tab mixed Try.func36 (by kernel_rfl) [.call [(0, false), (1, false), (3, false), (4, false)] [] (one (.bool x1)) [some ⟨false, .strs a0⟩, some ⟨false, .ints .i64 a1⟩, some ⟨false, .strs a4⟩, some ⟨false, .ints .i64 a5⟩], .br false, .call [] [(0, true), (1, true)] (one (.bool x2)) [some ⟨false, .ints .i64 a2⟩, some ⟨false, .ints .i64 a6⟩], .br true] [] [0, 1, 2, 3, 4, 5] (nd (laws.eqChip.spec K a0 a1 a4 a5 _ e1) (nd (nf c1) (nd (laws.eqIntS.spec K a2 a6 _ e2) (nd (rfl : (0 : Nat) = 0) (nd (rfl : a2.length = a2.length) (nd (rfl : (0 : Nat) = 0) (nd (rfl : a6.length = a6.length) (nd (nt c2) trivial)))))))) (by kernel_rfl)
  · obtain rfl := Option.some.inj h
    exact Den.Spec.of_walk tab mixed Try.func36 (by kernel_rfl) [.call [(0, false), (1, false), (3, false), (4, false)] [] (one (.bool x1)) [some ⟨false, .strs a0⟩, some ⟨false, .ints .i64 a1⟩, some ⟨false, .strs a4⟩, some ⟨false, .ints .i64 a5⟩], .br true] [] [0, 1, 2, 3, 4, 5] (nd (laws.eqChip.spec K a0 a1 a4 a5 _ e1) (nd (nt c1) trivial)) (by kernel_rfl)
def laws.markText.l0.f : Nat → Int → ByteArray → Option (ByteArray)
  | 0, _, _ => none
  | k + 1, v128_0, v128_1 =>
    cond (decide (v128_0 > 0)) (ck ((((ofBytes [IntKind.u8.wrap (w64 (48 + (v128_0.tmod 10)))]).size + v128_1.size : Nat) : Int) ≤ 9223372036854775807) (laws.markText.l0.f k (w64 (v128_0.tdiv 10)) ((ofBytes [IntKind.u8.wrap (w64 (48 + (v128_0.tmod 10)))]) ++ v128_1))) (some v128_1)
def laws.markText.l0.s (v128_0 : Int) (v128_1 : ByteArray) : St := mkSt 20 [(0, one (.int .i64 v128_0)), (3, one (.str v128_1))] []
def laws.markText.l0.e0 (o : ByteArray) : St := mkSt 20 [(3, one (.str o))] []
def laws.markText.l0.x : (ByteArray) → AExit × St := fun o => (.exit 0, laws.markText.l0.e0 o)
theorem laws.markText.l0.spec : ∀ (k : Nat) (v128_0 : Int) (v128_1 : ByteArray) (o : ByteArray), laws.markText.l0.f k v128_0 v128_1 = some o → LoopSpec Try.prog 0 (loopN Try.f95 0) (laws.markText.l0.s v128_0 v128_1) (laws.markText.l0.x o).1 (laws.markText.l0.x o).2
  | 0, _, _, _, h => by cases h
  | k + 1, v128_0, v128_1, o, h => by
    unfold laws.markText.l0.f at h
    rcases br_cases h with ⟨c1, h⟩ | ⟨c1, h⟩
    · obtain ⟨p1, h⟩ := ck_some h
      exact .of_step tab mixed [.br true, .br true] [] [0, 3] [] (s1 := laws.markText.l0.s (w64 (v128_0.tdiv 10)) ((ofBytes [IntKind.u8.wrap (w64 (48 + (v128_0.tmod 10)))]) ++ v128_1)) (nd c1 (nd (by decide : (10 : Int) ≠ 0) (nd (rfl : (0 : Nat) = 0) (nd (rfl : 1 = 1) (nd p1 (nd (by decide : (10 : Int) ≠ 0) trivial)))))) (by kernel_rfl) (laws.markText.l0.spec k (w64 (v128_0.tdiv 10)) ((ofBytes [IntKind.u8.wrap (w64 (48 + (v128_0.tmod 10)))]) ++ v128_1) _ h)
    · obtain rfl := Option.some.inj h
      exact .of_done tab mixed [.br false] [] [3] [] rfl (nd c1 trivial) (by kernel_rfl)
def laws.markText.f (K : Nat) (a0 : Int) : Option (ByteArray) :=
  cond (decide (a0 ≤ 0)) (some (ByteArray.mk #[109, 48])) (Option.bind (laws.markText.l0.f K a0 noVal) fun x1 => ck ((((ByteArray.mk #[109]).size + x1.size : Nat) : Int) ≤ 9223372036854775807) (some ((ByteArray.mk #[109]) ++ x1)))
theorem laws.markText.spec (K : Nat) (a0 : Int) (o : ByteArray) (h : laws.markText.f K a0 = some o) : Den.Spec Try.prog 95 [one (.int .i64 a0)] [] (one (.str o)) [] := by
  unfold laws.markText.f at h
  rcases br_cases h with ⟨c1, h⟩ | ⟨c1, h⟩
  · obtain rfl := Option.some.inj h
    exact Den.Spec.of_walk tab mixed Try.func95 (by kernel_rfl) [.br true] [] [] (nd c1 trivial) (by kernel_rfl)
  · obtain ⟨x1, e1, h⟩ := bind_some h
    obtain ⟨p1, h⟩ := ck_some h
    obtain rfl := Option.some.inj h
    exact Den.Spec.of_walk tab mixed Try.func95 (by kernel_rfl) [.br false, .loop [] [0, 3] [] (.exit 0) (laws.markText.l0.e0 x1)] [] [] (nd c1 (nd (laws.markText.l0.spec K a0 noVal _ e1) (nd p1 trivial))) (by kernel_rfl)
def laws.markStringS.l0.f (K : Nat) : Nat → (List ByteArray) → Int → Int → Option (Int × (List ByteArray))
  | 0, _, _, _ => none
  | k + 1, v130_0, v130_1, v130_2 =>
    cond (decide (v130_2 < (v130_0.length : Int))) (Option.bind (laws.markText.f K v130_1) fun x1 => ck (0 ≤ v130_2) (laws.markStringS.l0.f K k (v130_0.set v130_2.toNat x1) (w64 (v130_1 + 1)) (w64 (v130_2 + 1)))) (some (v130_1, v130_0))
def laws.markStringS.l0.s (K : Nat) (v130_0 : List ByteArray) (v130_1 : Int) (v130_2 : Int) : St := mkSt 20 [(0, one (.sl 0 0 v130_0.length)), (1, one (.int .i64 v130_1)), (5, one (.int .i64 v130_2))] [some ⟨true, .strs v130_0⟩]
def laws.markStringS.l0.e0 (K : Nat) (o : Int × (List ByteArray)) : St := mkSt 20 [(1, one (.int .i64 o.1))] [some ⟨true, .strs o.2⟩]
def laws.markStringS.l0.x (K : Nat) : (Int × (List ByteArray)) → AExit × St := fun o => (.exit 0, laws.markStringS.l0.e0 K o)
theorem laws.markStringS.l0.spec (K : Nat) : ∀ (k : Nat) (v130_0 : List ByteArray) (v130_1 : Int) (v130_2 : Int) (o : Int × (List ByteArray)), laws.markStringS.l0.f K k v130_0 v130_1 v130_2 = some o → LoopSpec Try.prog 1 (loopN Try.f52 0) (laws.markStringS.l0.s K v130_0 v130_1 v130_2) (laws.markStringS.l0.x K o).1 (laws.markStringS.l0.x K o).2
  | 0, _, _, _, _, h => by cases h
  | k + 1, v130_0, v130_1, v130_2, o, h => by
    unfold laws.markStringS.l0.f at h
    rcases br_cases h with ⟨c1, h⟩ | ⟨c1, h⟩
    · obtain ⟨x1, e1, h⟩ := bind_some h
      obtain ⟨p1, h⟩ := ck_some h
      exact .of_step tab mixed [.br true, .call [] [] (one (.str x1)) []] [] [0, 1, 5] [0] (s1 := mkSt 20 [(0, one (.sl 0 0 v130_0.length)), (1, one (.int .i64 (w64 (v130_1 + 1)))), (5, one (.int .i64 (w64 (v130_2 + 1))))] [some ⟨true, .strs (v130_0.set v130_2.toNat x1)⟩]) (nd c1 (nd (laws.markText.spec K v130_1 _ e1) (nd p1 (nd (of_decide_eq_true c1) (nd (tn p1 (of_decide_eq_true c1)) trivial))))) (by kernel_rfl) (LoopSpec.eqs (laws.markStringS.l0.spec K k (v130_0.set v130_2.toNat x1) (w64 (v130_1 + 1)) (w64 (v130_2 + 1)) _ h) (by simp only [laws.markStringS.l0.s, List.length_set, overL_length] : laws.markStringS.l0.s K (v130_0.set v130_2.toNat x1) (w64 (v130_1 + 1)) (w64 (v130_2 + 1)) = mkSt 20 [(0, one (.sl 0 0 v130_0.length)), (1, one (.int .i64 (w64 (v130_1 + 1)))), (5, one (.int .i64 (w64 (v130_2 + 1))))] [some ⟨true, .strs (v130_0.set v130_2.toNat x1)⟩]))
    · obtain rfl := Option.some.inj h
      exact .of_done tab mixed [.br false] [] [1] [0] rfl (nd c1 trivial) (by kernel_rfl)
def laws.markStringS.f (K : Nat) (a0 : List ByteArray) (a1 : Int) : Option (Int × (List ByteArray)) :=
  Option.bind (laws.markStringS.l0.f K K a0 a1 0) fun x1 => some (x1.1, x1.2)
theorem laws.markStringS.spec (K : Nat) (a0 : List ByteArray) (a1 : Int) (o : Int × (List ByteArray)) (h : laws.markStringS.f K a0 a1 = some o) : Den.Spec Try.prog 52 [one (.sl 0 0 a0.length), one (.int .i64 a1)] [some ⟨true, .strs a0⟩] (one (.int .i64 o.1)) [some ⟨true, .strs o.2⟩] := by
  unfold laws.markStringS.f at h
  obtain ⟨x1, e1, h⟩ := bind_some h
  obtain rfl := Option.some.inj h
  exact Den.Spec.of_walk tab mixed Try.func52 (by kernel_rfl) [.loop [] [0, 1, 5] [0] (.exit 0) (laws.markStringS.l0.e0 K x1)] [] [0] (nd (laws.markStringS.l0.spec K K a0 a1 0 _ e1) trivial) (by kernel_rfl)
def laws.markIntS.l0.f : Nat → (List Int) → Int → Int → Option (Int × (List Int))
  | 0, _, _, _ => none
  | k + 1, v133_0, v133_1, v133_2 =>
    cond (decide (v133_2 < (v133_0.length : Int))) (ck (0 ≤ v133_2) (laws.markIntS.l0.f k (v133_0.set v133_2.toNat v133_1) (w64 (v133_1 + 1)) (w64 (v133_2 + 1)))) (some (v133_1, v133_0))
def laws.markIntS.l0.s (v133_0 : List Int) (v133_1 : Int) (v133_2 : Int) : St := mkSt 19 [(0, one (.sl 0 0 v133_0.length)), (1, one (.int .i64 v133_1)), (5, one (.int .i64 v133_2))] [some ⟨true, .ints .i64 v133_0⟩]
def laws.markIntS.l0.e0 (o : Int × (List Int)) : St := mkSt 19 [(1, one (.int .i64 o.1))] [some ⟨true, .ints .i64 o.2⟩]
def laws.markIntS.l0.x : (Int × (List Int)) → AExit × St := fun o => (.exit 0, laws.markIntS.l0.e0 o)
theorem laws.markIntS.l0.spec : ∀ (k : Nat) (v133_0 : List Int) (v133_1 : Int) (v133_2 : Int) (o : Int × (List Int)), laws.markIntS.l0.f k v133_0 v133_1 v133_2 = some o → LoopSpec Try.prog 1 (loopN Try.f59 0) (laws.markIntS.l0.s v133_0 v133_1 v133_2) (laws.markIntS.l0.x o).1 (laws.markIntS.l0.x o).2
  | 0, _, _, _, _, h => by cases h
  | k + 1, v133_0, v133_1, v133_2, o, h => by
    unfold laws.markIntS.l0.f at h
    rcases br_cases h with ⟨c1, h⟩ | ⟨c1, h⟩
    · obtain ⟨p1, h⟩ := ck_some h
      exact .of_step tab mixed [.br true] [] [0, 1, 5] [0] (s1 := mkSt 19 [(0, one (.sl 0 0 v133_0.length)), (1, one (.int .i64 (w64 (v133_1 + 1)))), (5, one (.int .i64 (w64 (v133_2 + 1))))] [some ⟨true, .ints .i64 (v133_0.set v133_2.toNat v133_1)⟩]) (nd c1 (nd p1 (nd (of_decide_eq_true c1) (nd (tn p1 (of_decide_eq_true c1)) trivial)))) (by kernel_rfl) (LoopSpec.eqs (laws.markIntS.l0.spec k (v133_0.set v133_2.toNat v133_1) (w64 (v133_1 + 1)) (w64 (v133_2 + 1)) _ h) (by simp only [laws.markIntS.l0.s, List.length_set, overL_length] : laws.markIntS.l0.s (v133_0.set v133_2.toNat v133_1) (w64 (v133_1 + 1)) (w64 (v133_2 + 1)) = mkSt 19 [(0, one (.sl 0 0 v133_0.length)), (1, one (.int .i64 (w64 (v133_1 + 1)))), (5, one (.int .i64 (w64 (v133_2 + 1))))] [some ⟨true, .ints .i64 (v133_0.set v133_2.toNat v133_1)⟩]))
    · obtain rfl := Option.some.inj h
      exact .of_done tab mixed [.br false] [] [1] [0] rfl (nd c1 trivial) (by kernel_rfl)
def laws.markIntS.f (K : Nat) (a0 : List Int) (a1 : Int) : Option (Int × (List Int)) :=
  Option.bind (laws.markIntS.l0.f K a0 a1 0) fun x1 => some (x1.1, x1.2)
theorem laws.markIntS.spec (K : Nat) (a0 : List Int) (a1 : Int) (o : Int × (List Int)) (h : laws.markIntS.f K a0 a1 = some o) : Den.Spec Try.prog 59 [one (.sl 0 0 a0.length), one (.int .i64 a1)] [some ⟨true, .ints .i64 a0⟩] (one (.int .i64 o.1)) [some ⟨true, .ints .i64 o.2⟩] := by
  unfold laws.markIntS.f at h
  obtain ⟨x1, e1, h⟩ := bind_some h
  obtain rfl := Option.some.inj h
  exact Den.Spec.of_walk tab mixed Try.func59 (by kernel_rfl) [.loop [] [0, 1, 5] [0] (.exit 0) (laws.markIntS.l0.e0 x1)] [] [0] (nd (laws.markIntS.l0.spec K a0 a1 0 _ e1) trivial) (by kernel_rfl)
def laws.markChip.f (K : Nat) (a0 : List ByteArray) (a1 : List Int) (a2 : Int) : Option (Int × (List ByteArray) × (List Int)) :=
  Option.bind (laws.markStringS.f K a0 a2) fun x1 => Option.bind (laws.markIntS.f K a1 x1.1) fun x2 => some (x2.1, x1.2, x2.2)
theorem laws.markChip.spec (K : Nat) (a0 : List ByteArray) (a1 : List Int) (a2 : Int) (o : Int × (List ByteArray) × (List Int)) (h : laws.markChip.f K a0 a1 a2 = some o) : Den.Spec Try.prog 46 [.v (.agg [.sl 0 0 a0.length, .sl 1 0 a1.length]), one (.int .i64 a2)] [some ⟨true, .strs a0⟩, some ⟨true, .ints .i64 a1⟩] (one (.int .i64 o.1)) [some ⟨true, .strs o.2.1⟩, some ⟨true, .ints .i64 o.2.2⟩] := by
  unfold laws.markChip.f at h
  obtain ⟨x1, e1, h⟩ := bind_some h
  obtain ⟨x2, e2, h⟩ := bind_some h
  obtain rfl := Option.some.inj h
  exact Den.Spec.of_walk tab mixed Try.func46 (by kernel_rfl) [.call [(0, true)] [] (one (.int .i64 x1.1)) [some ⟨true, .strs x1.2⟩], .call [(1, true)] [] (one (.int .i64 x2.1)) [some ⟨true, .ints .i64 x2.2⟩]] [] [0, 1] (nd (laws.markStringS.spec K a0 a2 _ e1) (nd (laws.markIntS.spec K a1 x1.1 _ e2) trivial)) (by kernel_rfl)
def laws.markFtl.f (K : Nat) (a0 : List ByteArray) (a1 : List Int) (a2 : List Int) (a3 : Int) (a4 : Int) : Option (Int × (List ByteArray) × (List Int) × (List Int)) :=
  Option.bind (laws.markChip.f K a0 a1 a4) fun x1 => Option.bind (laws.markIntS.f K a2 x1.1) fun x2 => some (x2.1, x1.2.1, x1.2.2, x2.2)
theorem laws.markFtl.spec (K : Nat) (a0 : List ByteArray) (a1 : List Int) (a2 : List Int) (a3 : Int) (a4 : Int) (o : Int × (List ByteArray) × (List Int) × (List Int)) (h : laws.markFtl.f K a0 a1 a2 a3 a4 = some o) : Den.Spec Try.prog 47 [.v (.agg [.sl 0 0 a0.length, .sl 1 0 a1.length, .sl 2 0 a2.length, .int .i64 a3]), one (.int .i64 a4)] [some ⟨true, .strs a0⟩, some ⟨true, .ints .i64 a1⟩, some ⟨true, .ints .i64 a2⟩] (one (.int .i64 o.1)) [some ⟨true, .strs o.2.1⟩, some ⟨true, .ints .i64 o.2.2.1⟩, some ⟨true, .ints .i64 o.2.2.2⟩] := by
  unfold laws.markFtl.f at h
  obtain ⟨x1, e1, h⟩ := bind_some h
  obtain ⟨x2, e2, h⟩ := bind_some h
  obtain rfl := Option.some.inj h
  exact Den.Spec.of_walk tab mixed Try.func47 (by kernel_rfl) [.call [(0, true), (1, true)] [] (one (.int .i64 x1.1)) [some ⟨true, .strs x1.2.1⟩, some ⟨true, .ints .i64 x1.2.2⟩], .call [(2, true)] [] (one (.int .i64 x2.1)) [some ⟨true, .ints .i64 x2.2⟩]] [] [0, 1, 2] (nd (laws.markChip.spec K a0 a1 a4 _ e1) (nd (laws.markIntS.spec K a2 x1.1 _ e2) trivial)) (by kernel_rfl)
def laws.heldIntS.l0.f (a0 : List Int) : Nat → Int → Int → Option (Unit ⊕ Int)
  | 0, _, _ => none
  | k + 1, v138_0, v138_1 =>
    cond (decide (v138_1 < (a0.length : Int))) (ck (0 ≤ v138_1) (cond ((a0.getD v138_1.toNat 0) != v138_0) (some (.inl ())) (laws.heldIntS.l0.f a0 k (w64 (v138_0 + 1)) (w64 (v138_1 + 1))))) (some (.inr (v138_0)))
def laws.heldIntS.l0.s (a0 : List Int) (v138_0 : Int) (v138_1 : Int) : St := mkSt 21 [(0, one (.sl 0 0 a0.length)), (1, one (.int .i64 v138_0)), (5, one (.int .i64 v138_1))] [some ⟨false, .ints .i64 a0⟩]
def laws.heldIntS.l0.e0 (a0 : List Int) (o : Unit) : St := mkSt 21 [(4, one (.int .i64 (-1)))] [some ⟨false, .ints .i64 a0⟩]
def laws.heldIntS.l0.e1 (a0 : List Int) (o : Int) : St := mkSt 21 [(1, one (.int .i64 o))] [some ⟨false, .ints .i64 a0⟩]
def laws.heldIntS.l0.x (a0 : List Int) : (Unit ⊕ Int) → AExit × St := Sum.elim (fun o => (.ret, laws.heldIntS.l0.e0 a0 o)) (fun o => (.exit 0, laws.heldIntS.l0.e1 a0 o))
theorem laws.heldIntS.l0.spec (a0 : List Int) : ∀ (k : Nat) (v138_0 : Int) (v138_1 : Int) (o : Unit ⊕ Int), laws.heldIntS.l0.f a0 k v138_0 v138_1 = some o → LoopSpec Try.prog 1 (loopN Try.f60 0) (laws.heldIntS.l0.s a0 v138_0 v138_1) (laws.heldIntS.l0.x a0 o).1 (laws.heldIntS.l0.x a0 o).2
  | 0, _, _, _, h => by cases h
  | k + 1, v138_0, v138_1, o, h => by
    unfold laws.heldIntS.l0.f at h
    rcases br_cases h with ⟨c1, h⟩ | ⟨c1, h⟩
    · obtain ⟨p1, h⟩ := ck_some h
      rcases br_cases h with ⟨c2, h⟩ | ⟨c2, h⟩
      · obtain rfl := Option.some.inj h
        exact .of_done tab mixed [.br true, .br true] [] [4] [0] rfl (nd c1 (nd p1 (nd (of_decide_eq_true c1) (nd (tn p1 (of_decide_eq_true c1)) (nd c2 trivial))))) (by kernel_rfl)
      · exact .of_step tab mixed [.br true, .br false] [] [0, 1, 5] [0] (s1 := laws.heldIntS.l0.s a0 (w64 (v138_0 + 1)) (w64 (v138_1 + 1))) (nd c1 (nd p1 (nd (of_decide_eq_true c1) (nd (tn p1 (of_decide_eq_true c1)) (nd c2 trivial))))) (by kernel_rfl) (laws.heldIntS.l0.spec a0 k (w64 (v138_0 + 1)) (w64 (v138_1 + 1)) _ h)
    · obtain rfl := Option.some.inj h
      exact .of_done tab mixed [.br false] [] [1] [0] rfl (nd c1 trivial) (by kernel_rfl)
def laws.heldIntS.f (K : Nat) (a0 : List Int) (a1 : Int) : Option (Int) :=
  Option.bind (laws.heldIntS.l0.f a0 K a1 0) fun x1 => (Sum.elim (fun x1 => some (-1)) (fun x1 => some x1)) x1
theorem laws.heldIntS.spec (K : Nat) (a0 : List Int) (a1 : Int) (o : Int) (h : laws.heldIntS.f K a0 a1 = some o) : Den.Spec Try.prog 60 [one (.sl 0 0 a0.length), one (.int .i64 a1)] [some ⟨false, .ints .i64 a0⟩] (one (.int .i64 o)) [some ⟨false, .ints .i64 a0⟩] := by
  unfold laws.heldIntS.f at h
  obtain ⟨x1, e1, h⟩ := bind_some h
  rcases x1 with x1 | x1
  · obtain rfl := Option.some.inj h
    exact Den.Spec.of_walk tab mixed Try.func60 (by kernel_rfl) [.loop [] [0, 1, 5] [0] (.ret) (laws.heldIntS.l0.e0 a0 x1)] [] [0] (nd (laws.heldIntS.l0.spec a0 K a1 0 _ e1) trivial) (by kernel_rfl)
  · obtain rfl := Option.some.inj h
    exact Den.Spec.of_walk tab mixed Try.func60 (by kernel_rfl) [.loop [] [0, 1, 5] [0] (.exit 0) (laws.heldIntS.l0.e1 a0 x1)] [] [0] (nd (laws.heldIntS.l0.spec a0 K a1 0 _ e1) trivial) (by kernel_rfl)
def laws.FnExactLives.f (K : Nat) (a0 : List ByteArray) (a1 : List Int) (a2 : List Int) (a3 : Int) (a4 : Int) : Option (Bool) :=
  Option.bind (laws.szFtl.f K a0 a1 a2 a3 1048576) fun x1 => cond (decide (x1 < 0)) (some true) (Option.bind (laws.toFtl.f K a0 a1 a2 a3) fun x2 => Option.bind (spec.Lives.f K x2.1 x2.2.1 x2.2.2 a3 a4) fun x3 => Option.bind (laws.toFtl.f K a0 a1 a2 a3) fun x4 => Option.bind (impl.Lives.f K x4.1 x4.2.1 x4.2.2 a3 a4) fun x5 => Option.bind (laws.eqIntS.f K x5 x3) fun x6 => cond (x6) (Option.bind (laws.toFtl.f K a0 a1 a2 a3) fun x7 => Option.bind (laws.eqFtl.f K x4.1 x4.2.1 x4.2.2 a3 x7.1 x7.2.1 x7.2.2 a3) fun x8 => cond (x8) (Option.bind (laws.markFtl.f K x4.1 x4.2.1 x4.2.2 a3 1) fun x9 => cond (decide (x9.1 < 0)) (some false) (Option.bind (laws.eqIntS.f K x5 x3) fun x10 => cond (x10) (Option.bind (laws.markIntS.f K x5 1) fun x11 => Option.bind (laws.heldIntS.f K ((x11.2.drop 0).take x5.length) 1) fun x12 => ck (0 + x5.length ≤ x11.2.length) (cond (decide (x12 < 0)) (some false) (cond (x12 != x11.1) (some false) (Option.bind (laws.toFtl.f K a0 a1 a2 a3) fun x13 => Option.bind (impl.Lives.f K x13.1 x13.2.1 x13.2.2 a3 a4) fun x14 => Option.bind (laws.eqIntS.f K x14 x3) fun x15 => cond (x15) (Option.bind (laws.heldIntS.f K ((x11.2.drop 0).take x5.length) 1) fun x16 => cond (decide (x16 < 0)) (some false) (cond (x16 != x11.1) (some false) (some true))) (some false))))) (some false))) (some false)) (some false))
theorem laws.FnExactLives.spec (K : Nat) (a0 : List ByteArray) (a1 : List Int) (a2 : List Int) (a3 : Int) (a4 : Int) (o : Bool) (h : laws.FnExactLives.f K a0 a1 a2 a3 a4 = some o) : Den.Spec Try.prog 11 [.v (.agg [.sl 0 0 a0.length, .sl 1 0 a1.length, .sl 2 0 a2.length, .int .i64 a3]), one (.int .i64 a4)] [some ⟨false, .strs a0⟩, some ⟨false, .ints .i64 a1⟩, some ⟨false, .ints .i64 a2⟩] (one (.bool o)) [some ⟨false, .strs a0⟩, some ⟨false, .ints .i64 a1⟩, some ⟨false, .ints .i64 a2⟩] := by
  unfold laws.FnExactLives.f at h
  obtain ⟨x1, e1, h⟩ := bind_some h
  rcases br_cases h with ⟨c1, h⟩ | ⟨c1, h⟩
  · obtain rfl := Option.some.inj h
    exact Den.Spec.of_walk tab mixed Try.func11 (by kernel_rfl) [.call [(0, false), (1, false), (2, false)] [] (one (.int .i64 x1)) [some ⟨false, .strs a0⟩, some ⟨false, .ints .i64 a1⟩, some ⟨false, .ints .i64 a2⟩], .br true] [] [0, 1, 2] (nd (laws.szFtl.spec K a0 a1 a2 a3 1048576 _ e1) (nd c1 trivial)) (by kernel_rfl)
  · obtain ⟨x2, e2, h⟩ := bind_some h
    obtain ⟨x3, e3, h⟩ := bind_some h
    obtain ⟨x4, e4, h⟩ := bind_some h
    obtain ⟨x5, e5, h⟩ := bind_some h
    obtain ⟨x6, e6, h⟩ := bind_some h
    rcases br_cases h with ⟨c2, h⟩ | ⟨c2, h⟩
    · obtain ⟨x7, e7, h⟩ := bind_some h
      obtain ⟨x8, e8, h⟩ := bind_some h
      rcases br_cases h with ⟨c3, h⟩ | ⟨c3, h⟩
      · obtain ⟨x9, e9, h⟩ := bind_some h
        rcases br_cases h with ⟨c4, h⟩ | ⟨c4, h⟩
        · obtain rfl := Option.some.inj h
          exact Den.Spec.of_walk tab mixed Try.func11 (by kernel_rfl) [.call [(0, false), (1, false), (2, false)] [] (one (.int .i64 x1)) [some ⟨false, .strs a0⟩, some ⟨false, .ints .i64 a1⟩, some ⟨false, .ints .i64 a2⟩], .br false, .call [(0, false), (1, false), (2, false)] [] (.v (.agg [.sl 3 0 x2.1.length, .sl 4 0 x2.2.1.length, .sl 5 0 x2.2.2.length, .int .i64 a3])) [some ⟨false, .strs a0⟩, some ⟨false, .ints .i64 a1⟩, some ⟨false, .ints .i64 a2⟩, some ⟨true, .strs x2.1⟩, some ⟨true, .ints .i64 x2.2.1⟩, some ⟨true, .ints .i64 x2.2.2⟩], .call [(4, false), (5, false), (6, false)] [] (one (.sl 3 0 x3.length)) [some ⟨false, .strs x2.1⟩, some ⟨false, .ints .i64 x2.2.1⟩, some ⟨false, .ints .i64 x2.2.2⟩, some ⟨true, .ints .i64 x3⟩], .call [(0, false), (1, false), (2, false)] [] (.v (.agg [.sl 3 0 x4.1.length, .sl 4 0 x4.2.1.length, .sl 5 0 x4.2.2.length, .int .i64 a3])) [some ⟨false, .strs a0⟩, some ⟨false, .ints .i64 a1⟩, some ⟨false, .ints .i64 a2⟩, some ⟨true, .strs x4.1⟩, some ⟨true, .ints .i64 x4.2.1⟩, some ⟨true, .ints .i64 x4.2.2⟩], .call [(8, false), (9, false), (10, false)] [] (one (.sl 3 0 x5.length)) [some ⟨false, .strs x4.1⟩, some ⟨false, .ints .i64 x4.2.1⟩, some ⟨false, .ints .i64 x4.2.2⟩, some ⟨true, .ints .i64 x5⟩], .call [] [(0, true), (1, true)] (one (.bool x6)) [some ⟨false, .ints .i64 x5⟩, some ⟨false, .ints .i64 x3⟩], .br false, .call [(0, false), (1, false), (2, false)] [] (.v (.agg [.sl 3 0 x7.1.length, .sl 4 0 x7.2.1.length, .sl 5 0 x7.2.2.length, .int .i64 a3])) [some ⟨false, .strs a0⟩, some ⟨false, .ints .i64 a1⟩, some ⟨false, .ints .i64 a2⟩, some ⟨true, .strs x7.1⟩, some ⟨true, .ints .i64 x7.2.1⟩, some ⟨true, .ints .i64 x7.2.2⟩], .call [(8, false), (9, false), (10, false), (32, false), (33, false), (34, false)] [] (one (.bool x8)) [some ⟨false, .strs x4.1⟩, some ⟨false, .ints .i64 x4.2.1⟩, some ⟨false, .ints .i64 x4.2.2⟩, some ⟨false, .strs x7.1⟩, some ⟨false, .ints .i64 x7.2.1⟩, some ⟨false, .ints .i64 x7.2.2⟩], .br false, .call [(8, true), (9, true), (10, true)] [] (one (.int .i64 x9.1)) [some ⟨true, .strs x9.2.1⟩, some ⟨true, .ints .i64 x9.2.2.1⟩, some ⟨true, .ints .i64 x9.2.2.2⟩], .br true, .br true, .br true, .br true, .br true, .br true] [] [0, 1, 2] (nd (laws.szFtl.spec K a0 a1 a2 a3 1048576 _ e1) (nd c1 (nd (laws.toFtl.spec K a0 a1 a2 a3 _ e2) (nd (spec.Lives.spec K x2.1 x2.2.1 x2.2.2 a3 a4 _ e3) (nd (laws.toFtl.spec K a0 a1 a2 a3 _ e4) (nd (impl.Lives.spec K x4.1 x4.2.1 x4.2.2 a3 a4 _ e5) (nd (laws.eqIntS.spec K x5 x3 _ e6) (nd (rfl : (0 : Nat) = 0) (nd (rfl : x5.length = x5.length) (nd (rfl : (0 : Nat) = 0) (nd (rfl : x3.length = x3.length) (nd (nf c2) (nd (laws.toFtl.spec K a0 a1 a2 a3 _ e7) (nd (laws.eqFtl.spec K x4.1 x4.2.1 x4.2.2 a3 x7.1 x7.2.1 x7.2.2 a3 _ e8) (nd (nf c3) (nd (laws.markFtl.spec K x4.1 x4.2.1 x4.2.2 a3 1 _ e9) (nd c4 (nd c4 (nd c4 (nd c4 (nd c4 (nd tt trivial)))))))))))))))))))))) (by kernel_rfl)
        · obtain ⟨x10, e10, h⟩ := bind_some h
          rcases br_cases h with ⟨c5, h⟩ | ⟨c5, h⟩
          · obtain ⟨x11, e11, h⟩ := bind_some h
            obtain ⟨x12, e12, h⟩ := bind_some h
            obtain ⟨p1, h⟩ := ck_some h
            rcases br_cases h with ⟨c6, h⟩ | ⟨c6, h⟩
            · obtain rfl := Option.some.inj h
              exact Den.Spec.of_walk tab mixed Try.func11 (by kernel_rfl) [.call [(0, false), (1, false), (2, false)] [] (one (.int .i64 x1)) [some ⟨false, .strs a0⟩, some ⟨false, .ints .i64 a1⟩, some ⟨false, .ints .i64 a2⟩], .br false, .call [(0, false), (1, false), (2, false)] [] (.v (.agg [.sl 3 0 x2.1.length, .sl 4 0 x2.2.1.length, .sl 5 0 x2.2.2.length, .int .i64 a3])) [some ⟨false, .strs a0⟩, some ⟨false, .ints .i64 a1⟩, some ⟨false, .ints .i64 a2⟩, some ⟨true, .strs x2.1⟩, some ⟨true, .ints .i64 x2.2.1⟩, some ⟨true, .ints .i64 x2.2.2⟩], .call [(4, false), (5, false), (6, false)] [] (one (.sl 3 0 x3.length)) [some ⟨false, .strs x2.1⟩, some ⟨false, .ints .i64 x2.2.1⟩, some ⟨false, .ints .i64 x2.2.2⟩, some ⟨true, .ints .i64 x3⟩], .call [(0, false), (1, false), (2, false)] [] (.v (.agg [.sl 3 0 x4.1.length, .sl 4 0 x4.2.1.length, .sl 5 0 x4.2.2.length, .int .i64 a3])) [some ⟨false, .strs a0⟩, some ⟨false, .ints .i64 a1⟩, some ⟨false, .ints .i64 a2⟩, some ⟨true, .strs x4.1⟩, some ⟨true, .ints .i64 x4.2.1⟩, some ⟨true, .ints .i64 x4.2.2⟩], .call [(8, false), (9, false), (10, false)] [] (one (.sl 3 0 x5.length)) [some ⟨false, .strs x4.1⟩, some ⟨false, .ints .i64 x4.2.1⟩, some ⟨false, .ints .i64 x4.2.2⟩, some ⟨true, .ints .i64 x5⟩], .call [] [(0, true), (1, true)] (one (.bool x6)) [some ⟨false, .ints .i64 x5⟩, some ⟨false, .ints .i64 x3⟩], .br false, .call [(0, false), (1, false), (2, false)] [] (.v (.agg [.sl 3 0 x7.1.length, .sl 4 0 x7.2.1.length, .sl 5 0 x7.2.2.length, .int .i64 a3])) [some ⟨false, .strs a0⟩, some ⟨false, .ints .i64 a1⟩, some ⟨false, .ints .i64 a2⟩, some ⟨true, .strs x7.1⟩, some ⟨true, .ints .i64 x7.2.1⟩, some ⟨true, .ints .i64 x7.2.2⟩], .call [(8, false), (9, false), (10, false), (32, false), (33, false), (34, false)] [] (one (.bool x8)) [some ⟨false, .strs x4.1⟩, some ⟨false, .ints .i64 x4.2.1⟩, some ⟨false, .ints .i64 x4.2.2⟩, some ⟨false, .strs x7.1⟩, some ⟨false, .ints .i64 x7.2.1⟩, some ⟨false, .ints .i64 x7.2.2⟩], .br false, .call [(8, true), (9, true), (10, true)] [] (one (.int .i64 x9.1)) [some ⟨true, .strs x9.2.1⟩, some ⟨true, .ints .i64 x9.2.2.1⟩, some ⟨true, .ints .i64 x9.2.2.2⟩], .br false, .br false, .br false, .call [] [(0, true), (1, true)] (one (.bool x10)) [some ⟨false, .ints .i64 x5⟩, some ⟨false, .ints .i64 x3⟩], .br false, .br false, .br false, .call [(15, true)] [] (one (.int .i64 x11.1)) [some ⟨true, .ints .i64 x11.2⟩], .call [] [(0, false)] (one (.int .i64 x12)) [some ⟨false, .ints .i64 ((x11.2.drop 0).take x5.length)⟩], .br true] [] [0, 1, 2] (nd (laws.szFtl.spec K a0 a1 a2 a3 1048576 _ e1) (nd c1 (nd (laws.toFtl.spec K a0 a1 a2 a3 _ e2) (nd (spec.Lives.spec K x2.1 x2.2.1 x2.2.2 a3 a4 _ e3) (nd (laws.toFtl.spec K a0 a1 a2 a3 _ e4) (nd (impl.Lives.spec K x4.1 x4.2.1 x4.2.2 a3 a4 _ e5) (nd (laws.eqIntS.spec K x5 x3 _ e6) (nd (rfl : (0 : Nat) = 0) (nd (rfl : x5.length = x5.length) (nd (rfl : (0 : Nat) = 0) (nd (rfl : x3.length = x3.length) (nd (nf c2) (nd (laws.toFtl.spec K a0 a1 a2 a3 _ e7) (nd (laws.eqFtl.spec K x4.1 x4.2.1 x4.2.2 a3 x7.1 x7.2.1 x7.2.2 a3 _ e8) (nd (nf c3) (nd (laws.markFtl.spec K x4.1 x4.2.1 x4.2.2 a3 1 _ e9) (nd c4 (nd c4 (nd c4 (nd (laws.eqIntS.spec K x5 x3 _ e10) (nd (rfl : (0 : Nat) = 0) (nd (rfl : x5.length = x5.length) (nd (rfl : (0 : Nat) = 0) (nd (rfl : x3.length = x3.length) (nd c4 (nd c4 (nd (nf c5) (nd (laws.markIntS.spec K x5 1 _ e11) (nd ((laws.heldIntS.spec K ((x11.2.drop 0).take x5.length) 1 _ e12).args (congrArg (fun n => ([one (.sl 0 0 n), one (.int .i64 1)] : List AV)) (win_len p1))) (nd c6 trivial)))))))))))))))))))))))))))))) (by kernel_rfl)
            · rcases br_cases h with ⟨c7, h⟩ | ⟨c7, h⟩
              · obtain rfl := Option.some.inj h
                exact Den.Spec.of_walk tab mixed Try.func11 (by kernel_rfl) [.call [(0, false), (1, false), (2, false)] [] (one (.int .i64 x1)) [some ⟨false, .strs a0⟩, some ⟨false, .ints .i64 a1⟩, some ⟨false, .ints .i64 a2⟩], .br false, .call [(0, false), (1, false), (2, false)] [] (.v (.agg [.sl 3 0 x2.1.length, .sl 4 0 x2.2.1.length, .sl 5 0 x2.2.2.length, .int .i64 a3])) [some ⟨false, .strs a0⟩, some ⟨false, .ints .i64 a1⟩, some ⟨false, .ints .i64 a2⟩, some ⟨true, .strs x2.1⟩, some ⟨true, .ints .i64 x2.2.1⟩, some ⟨true, .ints .i64 x2.2.2⟩], .call [(4, false), (5, false), (6, false)] [] (one (.sl 3 0 x3.length)) [some ⟨false, .strs x2.1⟩, some ⟨false, .ints .i64 x2.2.1⟩, some ⟨false, .ints .i64 x2.2.2⟩, some ⟨true, .ints .i64 x3⟩], .call [(0, false), (1, false), (2, false)] [] (.v (.agg [.sl 3 0 x4.1.length, .sl 4 0 x4.2.1.length, .sl 5 0 x4.2.2.length, .int .i64 a3])) [some ⟨false, .strs a0⟩, some ⟨false, .ints .i64 a1⟩, some ⟨false, .ints .i64 a2⟩, some ⟨true, .strs x4.1⟩, some ⟨true, .ints .i64 x4.2.1⟩, some ⟨true, .ints .i64 x4.2.2⟩], .call [(8, false), (9, false), (10, false)] [] (one (.sl 3 0 x5.length)) [some ⟨false, .strs x4.1⟩, some ⟨false, .ints .i64 x4.2.1⟩, some ⟨false, .ints .i64 x4.2.2⟩, some ⟨true, .ints .i64 x5⟩], .call [] [(0, true), (1, true)] (one (.bool x6)) [some ⟨false, .ints .i64 x5⟩, some ⟨false, .ints .i64 x3⟩], .br false, .call [(0, false), (1, false), (2, false)] [] (.v (.agg [.sl 3 0 x7.1.length, .sl 4 0 x7.2.1.length, .sl 5 0 x7.2.2.length, .int .i64 a3])) [some ⟨false, .strs a0⟩, some ⟨false, .ints .i64 a1⟩, some ⟨false, .ints .i64 a2⟩, some ⟨true, .strs x7.1⟩, some ⟨true, .ints .i64 x7.2.1⟩, some ⟨true, .ints .i64 x7.2.2⟩], .call [(8, false), (9, false), (10, false), (32, false), (33, false), (34, false)] [] (one (.bool x8)) [some ⟨false, .strs x4.1⟩, some ⟨false, .ints .i64 x4.2.1⟩, some ⟨false, .ints .i64 x4.2.2⟩, some ⟨false, .strs x7.1⟩, some ⟨false, .ints .i64 x7.2.1⟩, some ⟨false, .ints .i64 x7.2.2⟩], .br false, .call [(8, true), (9, true), (10, true)] [] (one (.int .i64 x9.1)) [some ⟨true, .strs x9.2.1⟩, some ⟨true, .ints .i64 x9.2.2.1⟩, some ⟨true, .ints .i64 x9.2.2.2⟩], .br false, .br false, .br false, .call [] [(0, true), (1, true)] (one (.bool x10)) [some ⟨false, .ints .i64 x5⟩, some ⟨false, .ints .i64 x3⟩], .br false, .br false, .br false, .call [(15, true)] [] (one (.int .i64 x11.1)) [some ⟨true, .ints .i64 x11.2⟩], .call [] [(0, false)] (one (.int .i64 x12)) [some ⟨false, .ints .i64 ((x11.2.drop 0).take x5.length)⟩], .br false, .br true] [] [0, 1, 2] (nd (laws.szFtl.spec K a0 a1 a2 a3 1048576 _ e1) (nd c1 (nd (laws.toFtl.spec K a0 a1 a2 a3 _ e2) (nd (spec.Lives.spec K x2.1 x2.2.1 x2.2.2 a3 a4 _ e3) (nd (laws.toFtl.spec K a0 a1 a2 a3 _ e4) (nd (impl.Lives.spec K x4.1 x4.2.1 x4.2.2 a3 a4 _ e5) (nd (laws.eqIntS.spec K x5 x3 _ e6) (nd (rfl : (0 : Nat) = 0) (nd (rfl : x5.length = x5.length) (nd (rfl : (0 : Nat) = 0) (nd (rfl : x3.length = x3.length) (nd (nf c2) (nd (laws.toFtl.spec K a0 a1 a2 a3 _ e7) (nd (laws.eqFtl.spec K x4.1 x4.2.1 x4.2.2 a3 x7.1 x7.2.1 x7.2.2 a3 _ e8) (nd (nf c3) (nd (laws.markFtl.spec K x4.1 x4.2.1 x4.2.2 a3 1 _ e9) (nd c4 (nd c4 (nd c4 (nd (laws.eqIntS.spec K x5 x3 _ e10) (nd (rfl : (0 : Nat) = 0) (nd (rfl : x5.length = x5.length) (nd (rfl : (0 : Nat) = 0) (nd (rfl : x3.length = x3.length) (nd c4 (nd c4 (nd (nf c5) (nd (laws.markIntS.spec K x5 1 _ e11) (nd ((laws.heldIntS.spec K ((x11.2.drop 0).take x5.length) 1 _ e12).args (congrArg (fun n => ([one (.sl 0 0 n), one (.int .i64 1)] : List AV)) (win_len p1))) (nd c6 (nd c7 trivial))))))))))))))))))))))))))))))) (by kernel_rfl)
              · obtain ⟨x13, e13, h⟩ := bind_some h
                obtain ⟨x14, e14, h⟩ := bind_some h
                obtain ⟨x15, e15, h⟩ := bind_some h
                rcases br_cases h with ⟨c8, h⟩ | ⟨c8, h⟩
                · obtain ⟨x16, e16, h⟩ := bind_some h
                  rcases br_cases h with ⟨c9, h⟩ | ⟨c9, h⟩
                  · obtain rfl := Option.some.inj h
                    exact Den.Spec.of_walk tab mixed Try.func11 (by kernel_rfl) [.call [(0, false), (1, false), (2, false)] [] (one (.int .i64 x1)) [some ⟨false, .strs a0⟩, some ⟨false, .ints .i64 a1⟩, some ⟨false, .ints .i64 a2⟩], .br false, .call [(0, false), (1, false), (2, false)] [] (.v (.agg [.sl 3 0 x2.1.length, .sl 4 0 x2.2.1.length, .sl 5 0 x2.2.2.length, .int .i64 a3])) [some ⟨false, .strs a0⟩, some ⟨false, .ints .i64 a1⟩, some ⟨false, .ints .i64 a2⟩, some ⟨true, .strs x2.1⟩, some ⟨true, .ints .i64 x2.2.1⟩, some ⟨true, .ints .i64 x2.2.2⟩], .call [(4, false), (5, false), (6, false)] [] (one (.sl 3 0 x3.length)) [some ⟨false, .strs x2.1⟩, some ⟨false, .ints .i64 x2.2.1⟩, some ⟨false, .ints .i64 x2.2.2⟩, some ⟨true, .ints .i64 x3⟩], .call [(0, false), (1, false), (2, false)] [] (.v (.agg [.sl 3 0 x4.1.length, .sl 4 0 x4.2.1.length, .sl 5 0 x4.2.2.length, .int .i64 a3])) [some ⟨false, .strs a0⟩, some ⟨false, .ints .i64 a1⟩, some ⟨false, .ints .i64 a2⟩, some ⟨true, .strs x4.1⟩, some ⟨true, .ints .i64 x4.2.1⟩, some ⟨true, .ints .i64 x4.2.2⟩], .call [(8, false), (9, false), (10, false)] [] (one (.sl 3 0 x5.length)) [some ⟨false, .strs x4.1⟩, some ⟨false, .ints .i64 x4.2.1⟩, some ⟨false, .ints .i64 x4.2.2⟩, some ⟨true, .ints .i64 x5⟩], .call [] [(0, true), (1, true)] (one (.bool x6)) [some ⟨false, .ints .i64 x5⟩, some ⟨false, .ints .i64 x3⟩], .br false, .call [(0, false), (1, false), (2, false)] [] (.v (.agg [.sl 3 0 x7.1.length, .sl 4 0 x7.2.1.length, .sl 5 0 x7.2.2.length, .int .i64 a3])) [some ⟨false, .strs a0⟩, some ⟨false, .ints .i64 a1⟩, some ⟨false, .ints .i64 a2⟩, some ⟨true, .strs x7.1⟩, some ⟨true, .ints .i64 x7.2.1⟩, some ⟨true, .ints .i64 x7.2.2⟩], .call [(8, false), (9, false), (10, false), (32, false), (33, false), (34, false)] [] (one (.bool x8)) [some ⟨false, .strs x4.1⟩, some ⟨false, .ints .i64 x4.2.1⟩, some ⟨false, .ints .i64 x4.2.2⟩, some ⟨false, .strs x7.1⟩, some ⟨false, .ints .i64 x7.2.1⟩, some ⟨false, .ints .i64 x7.2.2⟩], .br false, .call [(8, true), (9, true), (10, true)] [] (one (.int .i64 x9.1)) [some ⟨true, .strs x9.2.1⟩, some ⟨true, .ints .i64 x9.2.2.1⟩, some ⟨true, .ints .i64 x9.2.2.2⟩], .br false, .br false, .br false, .call [] [(0, true), (1, true)] (one (.bool x10)) [some ⟨false, .ints .i64 x5⟩, some ⟨false, .ints .i64 x3⟩], .br false, .br false, .br false, .call [(15, true)] [] (one (.int .i64 x11.1)) [some ⟨true, .ints .i64 x11.2⟩], .call [] [(0, false)] (one (.int .i64 x12)) [some ⟨false, .ints .i64 ((x11.2.drop 0).take x5.length)⟩], .br false, .br false, .call [(0, false), (1, false), (2, false)] [] (.v (.agg [.sl 3 0 x13.1.length, .sl 4 0 x13.2.1.length, .sl 5 0 x13.2.2.length, .int .i64 a3])) [some ⟨false, .strs a0⟩, some ⟨false, .ints .i64 a1⟩, some ⟨false, .ints .i64 a2⟩, some ⟨true, .strs x13.1⟩, some ⟨true, .ints .i64 x13.2.1⟩, some ⟨true, .ints .i64 x13.2.2⟩], .call [(56, false), (57, false), (58, false)] [] (one (.sl 3 0 x14.length)) [some ⟨false, .strs x13.1⟩, some ⟨false, .ints .i64 x13.2.1⟩, some ⟨false, .ints .i64 x13.2.2⟩, some ⟨true, .ints .i64 x14⟩], .call [] [(0, true), (1, true)] (one (.bool x15)) [some ⟨false, .ints .i64 x14⟩, some ⟨false, .ints .i64 x3⟩], .br false, .call [] [(0, false)] (one (.int .i64 x16)) [some ⟨false, .ints .i64 ((x11.2.drop 0).take x5.length)⟩], .br true] [] [0, 1, 2] (nd (laws.szFtl.spec K a0 a1 a2 a3 1048576 _ e1) (nd c1 (nd (laws.toFtl.spec K a0 a1 a2 a3 _ e2) (nd (spec.Lives.spec K x2.1 x2.2.1 x2.2.2 a3 a4 _ e3) (nd (laws.toFtl.spec K a0 a1 a2 a3 _ e4) (nd (impl.Lives.spec K x4.1 x4.2.1 x4.2.2 a3 a4 _ e5) (nd (laws.eqIntS.spec K x5 x3 _ e6) (nd (rfl : (0 : Nat) = 0) (nd (rfl : x5.length = x5.length) (nd (rfl : (0 : Nat) = 0) (nd (rfl : x3.length = x3.length) (nd (nf c2) (nd (laws.toFtl.spec K a0 a1 a2 a3 _ e7) (nd (laws.eqFtl.spec K x4.1 x4.2.1 x4.2.2 a3 x7.1 x7.2.1 x7.2.2 a3 _ e8) (nd (nf c3) (nd (laws.markFtl.spec K x4.1 x4.2.1 x4.2.2 a3 1 _ e9) (nd c4 (nd c4 (nd c4 (nd (laws.eqIntS.spec K x5 x3 _ e10) (nd (rfl : (0 : Nat) = 0) (nd (rfl : x5.length = x5.length) (nd (rfl : (0 : Nat) = 0) (nd (rfl : x3.length = x3.length) (nd c4 (nd c4 (nd (nf c5) (nd (laws.markIntS.spec K x5 1 _ e11) (nd ((laws.heldIntS.spec K ((x11.2.drop 0).take x5.length) 1 _ e12).args (congrArg (fun n => ([one (.sl 0 0 n), one (.int .i64 1)] : List AV)) (win_len p1))) (nd c6 (nd c7 (nd (laws.toFtl.spec K a0 a1 a2 a3 _ e13) (nd (impl.Lives.spec K x13.1 x13.2.1 x13.2.2 a3 a4 _ e14) (nd (laws.eqIntS.spec K x14 x3 _ e15) (nd (rfl : (0 : Nat) = 0) (nd (rfl : x14.length = x14.length) (nd (rfl : (0 : Nat) = 0) (nd (rfl : x3.length = x3.length) (nd (nf c8) (nd ((laws.heldIntS.spec K ((x11.2.drop 0).take x5.length) 1 _ e16).args (congrArg (fun n => ([one (.sl 0 0 n), one (.int .i64 1)] : List AV)) (win_len p1))) (nd c9 trivial))))))))))))))))))))))))))))))))))))))))) (by kernel_rfl)
                  · rcases br_cases h with ⟨c10, h⟩ | ⟨c10, h⟩
                    · obtain rfl := Option.some.inj h
                      exact Den.Spec.of_walk tab mixed Try.func11 (by kernel_rfl) [.call [(0, false), (1, false), (2, false)] [] (one (.int .i64 x1)) [some ⟨false, .strs a0⟩, some ⟨false, .ints .i64 a1⟩, some ⟨false, .ints .i64 a2⟩], .br false, .call [(0, false), (1, false), (2, false)] [] (.v (.agg [.sl 3 0 x2.1.length, .sl 4 0 x2.2.1.length, .sl 5 0 x2.2.2.length, .int .i64 a3])) [some ⟨false, .strs a0⟩, some ⟨false, .ints .i64 a1⟩, some ⟨false, .ints .i64 a2⟩, some ⟨true, .strs x2.1⟩, some ⟨true, .ints .i64 x2.2.1⟩, some ⟨true, .ints .i64 x2.2.2⟩], .call [(4, false), (5, false), (6, false)] [] (one (.sl 3 0 x3.length)) [some ⟨false, .strs x2.1⟩, some ⟨false, .ints .i64 x2.2.1⟩, some ⟨false, .ints .i64 x2.2.2⟩, some ⟨true, .ints .i64 x3⟩], .call [(0, false), (1, false), (2, false)] [] (.v (.agg [.sl 3 0 x4.1.length, .sl 4 0 x4.2.1.length, .sl 5 0 x4.2.2.length, .int .i64 a3])) [some ⟨false, .strs a0⟩, some ⟨false, .ints .i64 a1⟩, some ⟨false, .ints .i64 a2⟩, some ⟨true, .strs x4.1⟩, some ⟨true, .ints .i64 x4.2.1⟩, some ⟨true, .ints .i64 x4.2.2⟩], .call [(8, false), (9, false), (10, false)] [] (one (.sl 3 0 x5.length)) [some ⟨false, .strs x4.1⟩, some ⟨false, .ints .i64 x4.2.1⟩, some ⟨false, .ints .i64 x4.2.2⟩, some ⟨true, .ints .i64 x5⟩], .call [] [(0, true), (1, true)] (one (.bool x6)) [some ⟨false, .ints .i64 x5⟩, some ⟨false, .ints .i64 x3⟩], .br false, .call [(0, false), (1, false), (2, false)] [] (.v (.agg [.sl 3 0 x7.1.length, .sl 4 0 x7.2.1.length, .sl 5 0 x7.2.2.length, .int .i64 a3])) [some ⟨false, .strs a0⟩, some ⟨false, .ints .i64 a1⟩, some ⟨false, .ints .i64 a2⟩, some ⟨true, .strs x7.1⟩, some ⟨true, .ints .i64 x7.2.1⟩, some ⟨true, .ints .i64 x7.2.2⟩], .call [(8, false), (9, false), (10, false), (32, false), (33, false), (34, false)] [] (one (.bool x8)) [some ⟨false, .strs x4.1⟩, some ⟨false, .ints .i64 x4.2.1⟩, some ⟨false, .ints .i64 x4.2.2⟩, some ⟨false, .strs x7.1⟩, some ⟨false, .ints .i64 x7.2.1⟩, some ⟨false, .ints .i64 x7.2.2⟩], .br false, .call [(8, true), (9, true), (10, true)] [] (one (.int .i64 x9.1)) [some ⟨true, .strs x9.2.1⟩, some ⟨true, .ints .i64 x9.2.2.1⟩, some ⟨true, .ints .i64 x9.2.2.2⟩], .br false, .br false, .br false, .call [] [(0, true), (1, true)] (one (.bool x10)) [some ⟨false, .ints .i64 x5⟩, some ⟨false, .ints .i64 x3⟩], .br false, .br false, .br false, .call [(15, true)] [] (one (.int .i64 x11.1)) [some ⟨true, .ints .i64 x11.2⟩], .call [] [(0, false)] (one (.int .i64 x12)) [some ⟨false, .ints .i64 ((x11.2.drop 0).take x5.length)⟩], .br false, .br false, .call [(0, false), (1, false), (2, false)] [] (.v (.agg [.sl 3 0 x13.1.length, .sl 4 0 x13.2.1.length, .sl 5 0 x13.2.2.length, .int .i64 a3])) [some ⟨false, .strs a0⟩, some ⟨false, .ints .i64 a1⟩, some ⟨false, .ints .i64 a2⟩, some ⟨true, .strs x13.1⟩, some ⟨true, .ints .i64 x13.2.1⟩, some ⟨true, .ints .i64 x13.2.2⟩], .call [(56, false), (57, false), (58, false)] [] (one (.sl 3 0 x14.length)) [some ⟨false, .strs x13.1⟩, some ⟨false, .ints .i64 x13.2.1⟩, some ⟨false, .ints .i64 x13.2.2⟩, some ⟨true, .ints .i64 x14⟩], .call [] [(0, true), (1, true)] (one (.bool x15)) [some ⟨false, .ints .i64 x14⟩, some ⟨false, .ints .i64 x3⟩], .br false, .call [] [(0, false)] (one (.int .i64 x16)) [some ⟨false, .ints .i64 ((x11.2.drop 0).take x5.length)⟩], .br false, .br true] [] [0, 1, 2] (nd (laws.szFtl.spec K a0 a1 a2 a3 1048576 _ e1) (nd c1 (nd (laws.toFtl.spec K a0 a1 a2 a3 _ e2) (nd (spec.Lives.spec K x2.1 x2.2.1 x2.2.2 a3 a4 _ e3) (nd (laws.toFtl.spec K a0 a1 a2 a3 _ e4) (nd (impl.Lives.spec K x4.1 x4.2.1 x4.2.2 a3 a4 _ e5) (nd (laws.eqIntS.spec K x5 x3 _ e6) (nd (rfl : (0 : Nat) = 0) (nd (rfl : x5.length = x5.length) (nd (rfl : (0 : Nat) = 0) (nd (rfl : x3.length = x3.length) (nd (nf c2) (nd (laws.toFtl.spec K a0 a1 a2 a3 _ e7) (nd (laws.eqFtl.spec K x4.1 x4.2.1 x4.2.2 a3 x7.1 x7.2.1 x7.2.2 a3 _ e8) (nd (nf c3) (nd (laws.markFtl.spec K x4.1 x4.2.1 x4.2.2 a3 1 _ e9) (nd c4 (nd c4 (nd c4 (nd (laws.eqIntS.spec K x5 x3 _ e10) (nd (rfl : (0 : Nat) = 0) (nd (rfl : x5.length = x5.length) (nd (rfl : (0 : Nat) = 0) (nd (rfl : x3.length = x3.length) (nd c4 (nd c4 (nd (nf c5) (nd (laws.markIntS.spec K x5 1 _ e11) (nd ((laws.heldIntS.spec K ((x11.2.drop 0).take x5.length) 1 _ e12).args (congrArg (fun n => ([one (.sl 0 0 n), one (.int .i64 1)] : List AV)) (win_len p1))) (nd c6 (nd c7 (nd (laws.toFtl.spec K a0 a1 a2 a3 _ e13) (nd (impl.Lives.spec K x13.1 x13.2.1 x13.2.2 a3 a4 _ e14) (nd (laws.eqIntS.spec K x14 x3 _ e15) (nd (rfl : (0 : Nat) = 0) (nd (rfl : x14.length = x14.length) (nd (rfl : (0 : Nat) = 0) (nd (rfl : x3.length = x3.length) (nd (nf c8) (nd ((laws.heldIntS.spec K ((x11.2.drop 0).take x5.length) 1 _ e16).args (congrArg (fun n => ([one (.sl 0 0 n), one (.int .i64 1)] : List AV)) (win_len p1))) (nd c9 (nd c10 trivial)))))))))))))))))))))))))))))))))))))))))) (by kernel_rfl)
                    · obtain rfl := Option.some.inj h
                      exact Den.Spec.of_walk tab mixed Try.func11 (by kernel_rfl) [.call [(0, false), (1, false), (2, false)] [] (one (.int .i64 x1)) [some ⟨false, .strs a0⟩, some ⟨false, .ints .i64 a1⟩, some ⟨false, .ints .i64 a2⟩], .br false, .call [(0, false), (1, false), (2, false)] [] (.v (.agg [.sl 3 0 x2.1.length, .sl 4 0 x2.2.1.length, .sl 5 0 x2.2.2.length, .int .i64 a3])) [some ⟨false, .strs a0⟩, some ⟨false, .ints .i64 a1⟩, some ⟨false, .ints .i64 a2⟩, some ⟨true, .strs x2.1⟩, some ⟨true, .ints .i64 x2.2.1⟩, some ⟨true, .ints .i64 x2.2.2⟩], .call [(4, false), (5, false), (6, false)] [] (one (.sl 3 0 x3.length)) [some ⟨false, .strs x2.1⟩, some ⟨false, .ints .i64 x2.2.1⟩, some ⟨false, .ints .i64 x2.2.2⟩, some ⟨true, .ints .i64 x3⟩], .call [(0, false), (1, false), (2, false)] [] (.v (.agg [.sl 3 0 x4.1.length, .sl 4 0 x4.2.1.length, .sl 5 0 x4.2.2.length, .int .i64 a3])) [some ⟨false, .strs a0⟩, some ⟨false, .ints .i64 a1⟩, some ⟨false, .ints .i64 a2⟩, some ⟨true, .strs x4.1⟩, some ⟨true, .ints .i64 x4.2.1⟩, some ⟨true, .ints .i64 x4.2.2⟩], .call [(8, false), (9, false), (10, false)] [] (one (.sl 3 0 x5.length)) [some ⟨false, .strs x4.1⟩, some ⟨false, .ints .i64 x4.2.1⟩, some ⟨false, .ints .i64 x4.2.2⟩, some ⟨true, .ints .i64 x5⟩], .call [] [(0, true), (1, true)] (one (.bool x6)) [some ⟨false, .ints .i64 x5⟩, some ⟨false, .ints .i64 x3⟩], .br false, .call [(0, false), (1, false), (2, false)] [] (.v (.agg [.sl 3 0 x7.1.length, .sl 4 0 x7.2.1.length, .sl 5 0 x7.2.2.length, .int .i64 a3])) [some ⟨false, .strs a0⟩, some ⟨false, .ints .i64 a1⟩, some ⟨false, .ints .i64 a2⟩, some ⟨true, .strs x7.1⟩, some ⟨true, .ints .i64 x7.2.1⟩, some ⟨true, .ints .i64 x7.2.2⟩], .call [(8, false), (9, false), (10, false), (32, false), (33, false), (34, false)] [] (one (.bool x8)) [some ⟨false, .strs x4.1⟩, some ⟨false, .ints .i64 x4.2.1⟩, some ⟨false, .ints .i64 x4.2.2⟩, some ⟨false, .strs x7.1⟩, some ⟨false, .ints .i64 x7.2.1⟩, some ⟨false, .ints .i64 x7.2.2⟩], .br false, .call [(8, true), (9, true), (10, true)] [] (one (.int .i64 x9.1)) [some ⟨true, .strs x9.2.1⟩, some ⟨true, .ints .i64 x9.2.2.1⟩, some ⟨true, .ints .i64 x9.2.2.2⟩], .br false, .br false, .br false, .call [] [(0, true), (1, true)] (one (.bool x10)) [some ⟨false, .ints .i64 x5⟩, some ⟨false, .ints .i64 x3⟩], .br false, .br false, .br false, .call [(15, true)] [] (one (.int .i64 x11.1)) [some ⟨true, .ints .i64 x11.2⟩], .call [] [(0, false)] (one (.int .i64 x12)) [some ⟨false, .ints .i64 ((x11.2.drop 0).take x5.length)⟩], .br false, .br false, .call [(0, false), (1, false), (2, false)] [] (.v (.agg [.sl 3 0 x13.1.length, .sl 4 0 x13.2.1.length, .sl 5 0 x13.2.2.length, .int .i64 a3])) [some ⟨false, .strs a0⟩, some ⟨false, .ints .i64 a1⟩, some ⟨false, .ints .i64 a2⟩, some ⟨true, .strs x13.1⟩, some ⟨true, .ints .i64 x13.2.1⟩, some ⟨true, .ints .i64 x13.2.2⟩], .call [(56, false), (57, false), (58, false)] [] (one (.sl 3 0 x14.length)) [some ⟨false, .strs x13.1⟩, some ⟨false, .ints .i64 x13.2.1⟩, some ⟨false, .ints .i64 x13.2.2⟩, some ⟨true, .ints .i64 x14⟩], .call [] [(0, true), (1, true)] (one (.bool x15)) [some ⟨false, .ints .i64 x14⟩, some ⟨false, .ints .i64 x3⟩], .br false, .call [] [(0, false)] (one (.int .i64 x16)) [some ⟨false, .ints .i64 ((x11.2.drop 0).take x5.length)⟩], .br false, .br false] [] [0, 1, 2] (nd (laws.szFtl.spec K a0 a1 a2 a3 1048576 _ e1) (nd c1 (nd (laws.toFtl.spec K a0 a1 a2 a3 _ e2) (nd (spec.Lives.spec K x2.1 x2.2.1 x2.2.2 a3 a4 _ e3) (nd (laws.toFtl.spec K a0 a1 a2 a3 _ e4) (nd (impl.Lives.spec K x4.1 x4.2.1 x4.2.2 a3 a4 _ e5) (nd (laws.eqIntS.spec K x5 x3 _ e6) (nd (rfl : (0 : Nat) = 0) (nd (rfl : x5.length = x5.length) (nd (rfl : (0 : Nat) = 0) (nd (rfl : x3.length = x3.length) (nd (nf c2) (nd (laws.toFtl.spec K a0 a1 a2 a3 _ e7) (nd (laws.eqFtl.spec K x4.1 x4.2.1 x4.2.2 a3 x7.1 x7.2.1 x7.2.2 a3 _ e8) (nd (nf c3) (nd (laws.markFtl.spec K x4.1 x4.2.1 x4.2.2 a3 1 _ e9) (nd c4 (nd c4 (nd c4 (nd (laws.eqIntS.spec K x5 x3 _ e10) (nd (rfl : (0 : Nat) = 0) (nd (rfl : x5.length = x5.length) (nd (rfl : (0 : Nat) = 0) (nd (rfl : x3.length = x3.length) (nd c4 (nd c4 (nd (nf c5) (nd (laws.markIntS.spec K x5 1 _ e11) (nd ((laws.heldIntS.spec K ((x11.2.drop 0).take x5.length) 1 _ e12).args (congrArg (fun n => ([one (.sl 0 0 n), one (.int .i64 1)] : List AV)) (win_len p1))) (nd c6 (nd c7 (nd (laws.toFtl.spec K a0 a1 a2 a3 _ e13) (nd (impl.Lives.spec K x13.1 x13.2.1 x13.2.2 a3 a4 _ e14) (nd (laws.eqIntS.spec K x14 x3 _ e15) (nd (rfl : (0 : Nat) = 0) (nd (rfl : x14.length = x14.length) (nd (rfl : (0 : Nat) = 0) (nd (rfl : x3.length = x3.length) (nd (nf c8) (nd ((laws.heldIntS.spec K ((x11.2.drop 0).take x5.length) 1 _ e16).args (congrArg (fun n => ([one (.sl 0 0 n), one (.int .i64 1)] : List AV)) (win_len p1))) (nd c9 (nd c10 trivial)))))))))))))))))))))))))))))))))))))))))) (by kernel_rfl)
                · obtain rfl := Option.some.inj h
                  exact Den.Spec.of_walk tab mixed Try.func11 (by kernel_rfl) [.call [(0, false), (1, false), (2, false)] [] (one (.int .i64 x1)) [some ⟨false, .strs a0⟩, some ⟨false, .ints .i64 a1⟩, some ⟨false, .ints .i64 a2⟩], .br false, .call [(0, false), (1, false), (2, false)] [] (.v (.agg [.sl 3 0 x2.1.length, .sl 4 0 x2.2.1.length, .sl 5 0 x2.2.2.length, .int .i64 a3])) [some ⟨false, .strs a0⟩, some ⟨false, .ints .i64 a1⟩, some ⟨false, .ints .i64 a2⟩, some ⟨true, .strs x2.1⟩, some ⟨true, .ints .i64 x2.2.1⟩, some ⟨true, .ints .i64 x2.2.2⟩], .call [(4, false), (5, false), (6, false)] [] (one (.sl 3 0 x3.length)) [some ⟨false, .strs x2.1⟩, some ⟨false, .ints .i64 x2.2.1⟩, some ⟨false, .ints .i64 x2.2.2⟩, some ⟨true, .ints .i64 x3⟩], .call [(0, false), (1, false), (2, false)] [] (.v (.agg [.sl 3 0 x4.1.length, .sl 4 0 x4.2.1.length, .sl 5 0 x4.2.2.length, .int .i64 a3])) [some ⟨false, .strs a0⟩, some ⟨false, .ints .i64 a1⟩, some ⟨false, .ints .i64 a2⟩, some ⟨true, .strs x4.1⟩, some ⟨true, .ints .i64 x4.2.1⟩, some ⟨true, .ints .i64 x4.2.2⟩], .call [(8, false), (9, false), (10, false)] [] (one (.sl 3 0 x5.length)) [some ⟨false, .strs x4.1⟩, some ⟨false, .ints .i64 x4.2.1⟩, some ⟨false, .ints .i64 x4.2.2⟩, some ⟨true, .ints .i64 x5⟩], .call [] [(0, true), (1, true)] (one (.bool x6)) [some ⟨false, .ints .i64 x5⟩, some ⟨false, .ints .i64 x3⟩], .br false, .call [(0, false), (1, false), (2, false)] [] (.v (.agg [.sl 3 0 x7.1.length, .sl 4 0 x7.2.1.length, .sl 5 0 x7.2.2.length, .int .i64 a3])) [some ⟨false, .strs a0⟩, some ⟨false, .ints .i64 a1⟩, some ⟨false, .ints .i64 a2⟩, some ⟨true, .strs x7.1⟩, some ⟨true, .ints .i64 x7.2.1⟩, some ⟨true, .ints .i64 x7.2.2⟩], .call [(8, false), (9, false), (10, false), (32, false), (33, false), (34, false)] [] (one (.bool x8)) [some ⟨false, .strs x4.1⟩, some ⟨false, .ints .i64 x4.2.1⟩, some ⟨false, .ints .i64 x4.2.2⟩, some ⟨false, .strs x7.1⟩, some ⟨false, .ints .i64 x7.2.1⟩, some ⟨false, .ints .i64 x7.2.2⟩], .br false, .call [(8, true), (9, true), (10, true)] [] (one (.int .i64 x9.1)) [some ⟨true, .strs x9.2.1⟩, some ⟨true, .ints .i64 x9.2.2.1⟩, some ⟨true, .ints .i64 x9.2.2.2⟩], .br false, .br false, .br false, .call [] [(0, true), (1, true)] (one (.bool x10)) [some ⟨false, .ints .i64 x5⟩, some ⟨false, .ints .i64 x3⟩], .br false, .br false, .br false, .call [(15, true)] [] (one (.int .i64 x11.1)) [some ⟨true, .ints .i64 x11.2⟩], .call [] [(0, false)] (one (.int .i64 x12)) [some ⟨false, .ints .i64 ((x11.2.drop 0).take x5.length)⟩], .br false, .br false, .call [(0, false), (1, false), (2, false)] [] (.v (.agg [.sl 3 0 x13.1.length, .sl 4 0 x13.2.1.length, .sl 5 0 x13.2.2.length, .int .i64 a3])) [some ⟨false, .strs a0⟩, some ⟨false, .ints .i64 a1⟩, some ⟨false, .ints .i64 a2⟩, some ⟨true, .strs x13.1⟩, some ⟨true, .ints .i64 x13.2.1⟩, some ⟨true, .ints .i64 x13.2.2⟩], .call [(56, false), (57, false), (58, false)] [] (one (.sl 3 0 x14.length)) [some ⟨false, .strs x13.1⟩, some ⟨false, .ints .i64 x13.2.1⟩, some ⟨false, .ints .i64 x13.2.2⟩, some ⟨true, .ints .i64 x14⟩], .call [] [(0, true), (1, true)] (one (.bool x15)) [some ⟨false, .ints .i64 x14⟩, some ⟨false, .ints .i64 x3⟩], .br true] [] [0, 1, 2] (nd (laws.szFtl.spec K a0 a1 a2 a3 1048576 _ e1) (nd c1 (nd (laws.toFtl.spec K a0 a1 a2 a3 _ e2) (nd (spec.Lives.spec K x2.1 x2.2.1 x2.2.2 a3 a4 _ e3) (nd (laws.toFtl.spec K a0 a1 a2 a3 _ e4) (nd (impl.Lives.spec K x4.1 x4.2.1 x4.2.2 a3 a4 _ e5) (nd (laws.eqIntS.spec K x5 x3 _ e6) (nd (rfl : (0 : Nat) = 0) (nd (rfl : x5.length = x5.length) (nd (rfl : (0 : Nat) = 0) (nd (rfl : x3.length = x3.length) (nd (nf c2) (nd (laws.toFtl.spec K a0 a1 a2 a3 _ e7) (nd (laws.eqFtl.spec K x4.1 x4.2.1 x4.2.2 a3 x7.1 x7.2.1 x7.2.2 a3 _ e8) (nd (nf c3) (nd (laws.markFtl.spec K x4.1 x4.2.1 x4.2.2 a3 1 _ e9) (nd c4 (nd c4 (nd c4 (nd (laws.eqIntS.spec K x5 x3 _ e10) (nd (rfl : (0 : Nat) = 0) (nd (rfl : x5.length = x5.length) (nd (rfl : (0 : Nat) = 0) (nd (rfl : x3.length = x3.length) (nd c4 (nd c4 (nd (nf c5) (nd (laws.markIntS.spec K x5 1 _ e11) (nd ((laws.heldIntS.spec K ((x11.2.drop 0).take x5.length) 1 _ e12).args (congrArg (fun n => ([one (.sl 0 0 n), one (.int .i64 1)] : List AV)) (win_len p1))) (nd c6 (nd c7 (nd (laws.toFtl.spec K a0 a1 a2 a3 _ e13) (nd (impl.Lives.spec K x13.1 x13.2.1 x13.2.2 a3 a4 _ e14) (nd (laws.eqIntS.spec K x14 x3 _ e15) (nd (rfl : (0 : Nat) = 0) (nd (rfl : x14.length = x14.length) (nd (rfl : (0 : Nat) = 0) (nd (rfl : x3.length = x3.length) (nd (nt c8) trivial))))))))))))))))))))))))))))))))))))))) (by kernel_rfl)
          · obtain rfl := Option.some.inj h
            exact Den.Spec.of_walk tab mixed Try.func11 (by kernel_rfl) [.call [(0, false), (1, false), (2, false)] [] (one (.int .i64 x1)) [some ⟨false, .strs a0⟩, some ⟨false, .ints .i64 a1⟩, some ⟨false, .ints .i64 a2⟩], .br false, .call [(0, false), (1, false), (2, false)] [] (.v (.agg [.sl 3 0 x2.1.length, .sl 4 0 x2.2.1.length, .sl 5 0 x2.2.2.length, .int .i64 a3])) [some ⟨false, .strs a0⟩, some ⟨false, .ints .i64 a1⟩, some ⟨false, .ints .i64 a2⟩, some ⟨true, .strs x2.1⟩, some ⟨true, .ints .i64 x2.2.1⟩, some ⟨true, .ints .i64 x2.2.2⟩], .call [(4, false), (5, false), (6, false)] [] (one (.sl 3 0 x3.length)) [some ⟨false, .strs x2.1⟩, some ⟨false, .ints .i64 x2.2.1⟩, some ⟨false, .ints .i64 x2.2.2⟩, some ⟨true, .ints .i64 x3⟩], .call [(0, false), (1, false), (2, false)] [] (.v (.agg [.sl 3 0 x4.1.length, .sl 4 0 x4.2.1.length, .sl 5 0 x4.2.2.length, .int .i64 a3])) [some ⟨false, .strs a0⟩, some ⟨false, .ints .i64 a1⟩, some ⟨false, .ints .i64 a2⟩, some ⟨true, .strs x4.1⟩, some ⟨true, .ints .i64 x4.2.1⟩, some ⟨true, .ints .i64 x4.2.2⟩], .call [(8, false), (9, false), (10, false)] [] (one (.sl 3 0 x5.length)) [some ⟨false, .strs x4.1⟩, some ⟨false, .ints .i64 x4.2.1⟩, some ⟨false, .ints .i64 x4.2.2⟩, some ⟨true, .ints .i64 x5⟩], .call [] [(0, true), (1, true)] (one (.bool x6)) [some ⟨false, .ints .i64 x5⟩, some ⟨false, .ints .i64 x3⟩], .br false, .call [(0, false), (1, false), (2, false)] [] (.v (.agg [.sl 3 0 x7.1.length, .sl 4 0 x7.2.1.length, .sl 5 0 x7.2.2.length, .int .i64 a3])) [some ⟨false, .strs a0⟩, some ⟨false, .ints .i64 a1⟩, some ⟨false, .ints .i64 a2⟩, some ⟨true, .strs x7.1⟩, some ⟨true, .ints .i64 x7.2.1⟩, some ⟨true, .ints .i64 x7.2.2⟩], .call [(8, false), (9, false), (10, false), (32, false), (33, false), (34, false)] [] (one (.bool x8)) [some ⟨false, .strs x4.1⟩, some ⟨false, .ints .i64 x4.2.1⟩, some ⟨false, .ints .i64 x4.2.2⟩, some ⟨false, .strs x7.1⟩, some ⟨false, .ints .i64 x7.2.1⟩, some ⟨false, .ints .i64 x7.2.2⟩], .br false, .call [(8, true), (9, true), (10, true)] [] (one (.int .i64 x9.1)) [some ⟨true, .strs x9.2.1⟩, some ⟨true, .ints .i64 x9.2.2.1⟩, some ⟨true, .ints .i64 x9.2.2.2⟩], .br false, .br false, .br false, .call [] [(0, true), (1, true)] (one (.bool x10)) [some ⟨false, .ints .i64 x5⟩, some ⟨false, .ints .i64 x3⟩], .br false, .br false, .br true] [] [0, 1, 2] (nd (laws.szFtl.spec K a0 a1 a2 a3 1048576 _ e1) (nd c1 (nd (laws.toFtl.spec K a0 a1 a2 a3 _ e2) (nd (spec.Lives.spec K x2.1 x2.2.1 x2.2.2 a3 a4 _ e3) (nd (laws.toFtl.spec K a0 a1 a2 a3 _ e4) (nd (impl.Lives.spec K x4.1 x4.2.1 x4.2.2 a3 a4 _ e5) (nd (laws.eqIntS.spec K x5 x3 _ e6) (nd (rfl : (0 : Nat) = 0) (nd (rfl : x5.length = x5.length) (nd (rfl : (0 : Nat) = 0) (nd (rfl : x3.length = x3.length) (nd (nf c2) (nd (laws.toFtl.spec K a0 a1 a2 a3 _ e7) (nd (laws.eqFtl.spec K x4.1 x4.2.1 x4.2.2 a3 x7.1 x7.2.1 x7.2.2 a3 _ e8) (nd (nf c3) (nd (laws.markFtl.spec K x4.1 x4.2.1 x4.2.2 a3 1 _ e9) (nd c4 (nd c4 (nd c4 (nd (laws.eqIntS.spec K x5 x3 _ e10) (nd (rfl : (0 : Nat) = 0) (nd (rfl : x5.length = x5.length) (nd (rfl : (0 : Nat) = 0) (nd (rfl : x3.length = x3.length) (nd c4 (nd c4 (nd (nt c5) trivial))))))))))))))))))))))))))) (by kernel_rfl)
      · obtain rfl := Option.some.inj h
        exact Den.Spec.of_walk tab mixed Try.func11 (by kernel_rfl) [.call [(0, false), (1, false), (2, false)] [] (one (.int .i64 x1)) [some ⟨false, .strs a0⟩, some ⟨false, .ints .i64 a1⟩, some ⟨false, .ints .i64 a2⟩], .br false, .call [(0, false), (1, false), (2, false)] [] (.v (.agg [.sl 3 0 x2.1.length, .sl 4 0 x2.2.1.length, .sl 5 0 x2.2.2.length, .int .i64 a3])) [some ⟨false, .strs a0⟩, some ⟨false, .ints .i64 a1⟩, some ⟨false, .ints .i64 a2⟩, some ⟨true, .strs x2.1⟩, some ⟨true, .ints .i64 x2.2.1⟩, some ⟨true, .ints .i64 x2.2.2⟩], .call [(4, false), (5, false), (6, false)] [] (one (.sl 3 0 x3.length)) [some ⟨false, .strs x2.1⟩, some ⟨false, .ints .i64 x2.2.1⟩, some ⟨false, .ints .i64 x2.2.2⟩, some ⟨true, .ints .i64 x3⟩], .call [(0, false), (1, false), (2, false)] [] (.v (.agg [.sl 3 0 x4.1.length, .sl 4 0 x4.2.1.length, .sl 5 0 x4.2.2.length, .int .i64 a3])) [some ⟨false, .strs a0⟩, some ⟨false, .ints .i64 a1⟩, some ⟨false, .ints .i64 a2⟩, some ⟨true, .strs x4.1⟩, some ⟨true, .ints .i64 x4.2.1⟩, some ⟨true, .ints .i64 x4.2.2⟩], .call [(8, false), (9, false), (10, false)] [] (one (.sl 3 0 x5.length)) [some ⟨false, .strs x4.1⟩, some ⟨false, .ints .i64 x4.2.1⟩, some ⟨false, .ints .i64 x4.2.2⟩, some ⟨true, .ints .i64 x5⟩], .call [] [(0, true), (1, true)] (one (.bool x6)) [some ⟨false, .ints .i64 x5⟩, some ⟨false, .ints .i64 x3⟩], .br false, .call [(0, false), (1, false), (2, false)] [] (.v (.agg [.sl 3 0 x7.1.length, .sl 4 0 x7.2.1.length, .sl 5 0 x7.2.2.length, .int .i64 a3])) [some ⟨false, .strs a0⟩, some ⟨false, .ints .i64 a1⟩, some ⟨false, .ints .i64 a2⟩, some ⟨true, .strs x7.1⟩, some ⟨true, .ints .i64 x7.2.1⟩, some ⟨true, .ints .i64 x7.2.2⟩], .call [(8, false), (9, false), (10, false), (32, false), (33, false), (34, false)] [] (one (.bool x8)) [some ⟨false, .strs x4.1⟩, some ⟨false, .ints .i64 x4.2.1⟩, some ⟨false, .ints .i64 x4.2.2⟩, some ⟨false, .strs x7.1⟩, some ⟨false, .ints .i64 x7.2.1⟩, some ⟨false, .ints .i64 x7.2.2⟩], .br true] [] [0, 1, 2] (nd (laws.szFtl.spec K a0 a1 a2 a3 1048576 _ e1) (nd c1 (nd (laws.toFtl.spec K a0 a1 a2 a3 _ e2) (nd (spec.Lives.spec K x2.1 x2.2.1 x2.2.2 a3 a4 _ e3) (nd (laws.toFtl.spec K a0 a1 a2 a3 _ e4) (nd (impl.Lives.spec K x4.1 x4.2.1 x4.2.2 a3 a4 _ e5) (nd (laws.eqIntS.spec K x5 x3 _ e6) (nd (rfl : (0 : Nat) = 0) (nd (rfl : x5.length = x5.length) (nd (rfl : (0 : Nat) = 0) (nd (rfl : x3.length = x3.length) (nd (nf c2) (nd (laws.toFtl.spec K a0 a1 a2 a3 _ e7) (nd (laws.eqFtl.spec K x4.1 x4.2.1 x4.2.2 a3 x7.1 x7.2.1 x7.2.2 a3 _ e8) (nd (nt c3) trivial))))))))))))))) (by kernel_rfl)
    · obtain rfl := Option.some.inj h
      exact Den.Spec.of_walk tab mixed Try.func11 (by kernel_rfl) [.call [(0, false), (1, false), (2, false)] [] (one (.int .i64 x1)) [some ⟨false, .strs a0⟩, some ⟨false, .ints .i64 a1⟩, some ⟨false, .ints .i64 a2⟩], .br false, .call [(0, false), (1, false), (2, false)] [] (.v (.agg [.sl 3 0 x2.1.length, .sl 4 0 x2.2.1.length, .sl 5 0 x2.2.2.length, .int .i64 a3])) [some ⟨false, .strs a0⟩, some ⟨false, .ints .i64 a1⟩, some ⟨false, .ints .i64 a2⟩, some ⟨true, .strs x2.1⟩, some ⟨true, .ints .i64 x2.2.1⟩, some ⟨true, .ints .i64 x2.2.2⟩], .call [(4, false), (5, false), (6, false)] [] (one (.sl 3 0 x3.length)) [some ⟨false, .strs x2.1⟩, some ⟨false, .ints .i64 x2.2.1⟩, some ⟨false, .ints .i64 x2.2.2⟩, some ⟨true, .ints .i64 x3⟩], .call [(0, false), (1, false), (2, false)] [] (.v (.agg [.sl 3 0 x4.1.length, .sl 4 0 x4.2.1.length, .sl 5 0 x4.2.2.length, .int .i64 a3])) [some ⟨false, .strs a0⟩, some ⟨false, .ints .i64 a1⟩, some ⟨false, .ints .i64 a2⟩, some ⟨true, .strs x4.1⟩, some ⟨true, .ints .i64 x4.2.1⟩, some ⟨true, .ints .i64 x4.2.2⟩], .call [(8, false), (9, false), (10, false)] [] (one (.sl 3 0 x5.length)) [some ⟨false, .strs x4.1⟩, some ⟨false, .ints .i64 x4.2.1⟩, some ⟨false, .ints .i64 x4.2.2⟩, some ⟨true, .ints .i64 x5⟩], .call [] [(0, true), (1, true)] (one (.bool x6)) [some ⟨false, .ints .i64 x5⟩, some ⟨false, .ints .i64 x3⟩], .br true] [] [0, 1, 2] (nd (laws.szFtl.spec K a0 a1 a2 a3 1048576 _ e1) (nd c1 (nd (laws.toFtl.spec K a0 a1 a2 a3 _ e2) (nd (spec.Lives.spec K x2.1 x2.2.1 x2.2.2 a3 a4 _ e3) (nd (laws.toFtl.spec K a0 a1 a2 a3 _ e4) (nd (impl.Lives.spec K x4.1 x4.2.1 x4.2.2 a3 a4 _ e5) (nd (laws.eqIntS.spec K x5 x3 _ e6) (nd (rfl : (0 : Nat) = 0) (nd (rfl : x5.length = x5.length) (nd (rfl : (0 : Nat) = 0) (nd (rfl : x3.length = x3.length) (nd (nt c2) trivial)))))))))))) (by kernel_rfl)
end Go.Proofs.Ytenhjfemghpciaa.GFnExactLives
