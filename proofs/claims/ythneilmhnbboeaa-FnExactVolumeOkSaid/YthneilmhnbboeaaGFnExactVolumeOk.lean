import Derived.Test.YthneilmhnbboeaaDenZ
import Derived.Test.YthneilmhnbboeaaProg
namespace Go.Proofs.Ythneilmhnbboeaa.GFnExactVolumeOk
open Go Go.RowKit Go.Proofs Go.Proofs.Ythneilmhnbboeaa.Den
set_option linter.unusedVariables false
set_option linter.unusedSimpArgs false
def tyL : List (Nat × Ty) := [(3, ⟨[], 1, 8, false, [.int .i64 0], .ints .i64, .int .i64, []⟩),
  (4, ⟨[], 1, 1, false, [.bool false], .bools, .bool, []⟩),
  (5, ⟨[], 1, 1, false, [.int .u8 0], .ints .u8, .int .u8, []⟩),
  (9, ⟨[], 1, 16, false, [.str ⟨#[]⟩], .strs, .str, []⟩),
  (28, ⟨[], 1, 24, false, [.nil], .refs, .sl 5, [.ints .u8]⟩),
  (42, ⟨[], 1, 24, false, [.nil], .refs, .sl 9, [.strs]⟩),
  (43, ⟨[], 1, 24, false, [.nil], .refs, .sl 3, [.ints .i64]⟩),
  (48, ⟨[], 4, 72, true, [.bool false, .nil, .nil, .str ⟨#[]⟩], .none, .st [(0, 1), (1, 1), (2, 1), (3, 1)], [.none, .strs, .ints .i64, .none]⟩),
  (111, ⟨[], 1, 24, false, [.nil], .refs, .sl 4, [.bools]⟩),
  (115, ⟨[], 2, 48, true, [.nil, .nil], .none, .st [(0, 1), (1, 1)], [.strs, .bools]⟩)]
def tb : TypeId → Option Ty := tbOf tyL
theorem tab : TabOk Try.prog tb := TabOk.of ⟨.of (by kernel_rfl) rfl rfl (by kernel_rfl) (by show _ = _; kernel_rfl) trivial,
  .of (by kernel_rfl) rfl rfl (by kernel_rfl) (by show _ = _; kernel_rfl) trivial,
  .of (by kernel_rfl) rfl rfl (by kernel_rfl) (by show _ = _; kernel_rfl) trivial,
  .of (by kernel_rfl) rfl rfl (by kernel_rfl) (by show _ = _; kernel_rfl) trivial,
  .of (by kernel_rfl) rfl rfl (by kernel_rfl) (by show _ = _; kernel_rfl) trivial,
  .of (by kernel_rfl) rfl rfl (by kernel_rfl) (by show _ = _; kernel_rfl) trivial,
  .of (by kernel_rfl) rfl rfl (by kernel_rfl) (by show _ = _; kernel_rfl) trivial,
  .of (by kernel_rfl) rfl rfl (by kernel_rfl) (by show _ = _; kernel_rfl) trivial,
  .of (by kernel_rfl) rfl rfl (by kernel_rfl) (by show _ = _; kernel_rfl) trivial,
  .of (by kernel_rfl) rfl rfl (by kernel_rfl) (by show _ = _; kernel_rfl) trivial, trivial⟩
theorem mixed : Try.prog.follows .mixedOrders = true := by kernel_rfl
def laws.szStringS.l0.f (a0 : List ByteArray) : Nat → Int → Int → Option (Unit ⊕ Int)
  | 0, _, _ => none
  | k + 1, v2_0, v2_1 =>
    cond (decide (v2_1 < (a0.length : Int))) (ck (0 ≤ v2_1) (cond (decide ((w64 (v2_0 - ((a0.getD v2_1.toNat noVal).size : Int))) < 0)) (some (.inl ())) (laws.szStringS.l0.f a0 k (w64 (v2_0 - ((a0.getD v2_1.toNat noVal).size : Int))) (w64 (v2_1 + 1))))) (some (.inr (v2_0)))
def laws.szStringS.l0.s (a0 : List ByteArray) (v2_0 : Int) (v2_1 : Int) : St := mkSt 28 [(0, one (.sl 0 0 a0.length)), (1, one (.int .i64 v2_0)), (5, one (.int .i64 v2_1))] [some ⟨false, .strs a0⟩]
def laws.szStringS.l0.e0 (a0 : List ByteArray) (o : Unit) : St := mkSt 28 [(4, one (.int .i64 (-1)))] [some ⟨false, .strs a0⟩]
def laws.szStringS.l0.e1 (a0 : List ByteArray) (o : Int) : St := mkSt 28 [(1, one (.int .i64 o))] [some ⟨false, .strs a0⟩]
def laws.szStringS.l0.x (a0 : List ByteArray) : (Unit ⊕ Int) → AExit × St := Sum.elim (fun o => (.ret, laws.szStringS.l0.e0 a0 o)) (fun o => (.exit 0, laws.szStringS.l0.e1 a0 o))
theorem laws.szStringS.l0.spec (a0 : List ByteArray) : ∀ (k : Nat) (v2_0 : Int) (v2_1 : Int) (o : Unit ⊕ Int), laws.szStringS.l0.f a0 k v2_0 v2_1 = some o → LoopSpec Try.prog 1 (loopN Try.f60 0) (laws.szStringS.l0.s a0 v2_0 v2_1) (laws.szStringS.l0.x a0 o).1 (laws.szStringS.l0.x a0 o).2
  | 0, _, _, _, h => by cases h
  | k + 1, v2_0, v2_1, o, h => by
    unfold laws.szStringS.l0.f at h
    rcases br_cases h with ⟨c1, h⟩ | ⟨c1, h⟩
    · obtain ⟨p1, h⟩ := ck_some h
      rcases br_cases h with ⟨c2, h⟩ | ⟨c2, h⟩
      · obtain rfl := Option.some.inj h
        exact .of_done tab mixed [.br true, .br true] [] [4] [0] rfl (nd c1 (nd p1 (nd (of_decide_eq_true c1) (nd (tn p1 (of_decide_eq_true c1)) (nd c2 trivial))))) (by kernel_rfl)
      · exact .of_step tab mixed [.br true, .br false] [] [0, 1, 5] [0] (s1 := laws.szStringS.l0.s a0 (w64 (v2_0 - ((a0.getD v2_1.toNat noVal).size : Int))) (w64 (v2_1 + 1))) (nd c1 (nd p1 (nd (of_decide_eq_true c1) (nd (tn p1 (of_decide_eq_true c1)) (nd c2 trivial))))) (by kernel_rfl) (laws.szStringS.l0.spec a0 k (w64 (v2_0 - ((a0.getD v2_1.toNat noVal).size : Int))) (w64 (v2_1 + 1)) _ h)
    · obtain rfl := Option.some.inj h
      exact .of_done tab mixed [.br false] [] [1] [0] rfl (nd c1 trivial) (by kernel_rfl)
def laws.szStringS.f (K : Nat) (a0 : List ByteArray) (a1 : Int) : Option (Int) :=
  cond (decide ((w64 (a1 - (a0.length : Int))) < 0)) (some (-1)) (Option.bind (laws.szStringS.l0.f a0 K (w64 (a1 - (a0.length : Int))) 0) fun x1 => (Sum.elim (fun x1 => some (-1)) (fun x1 => some x1)) x1)
theorem laws.szStringS.spec (K : Nat) (a0 : List ByteArray) (a1 : Int) (o : Int) (h : laws.szStringS.f K a0 a1 = some o) : Den.Spec Try.prog 60 [one (.sl 0 0 a0.length), one (.int .i64 a1)] [some ⟨false, .strs a0⟩] (one (.int .i64 o)) [some ⟨false, .strs a0⟩] := by
  unfold laws.szStringS.f at h
  rcases br_cases h with ⟨c1, h⟩ | ⟨c1, h⟩
  · obtain rfl := Option.some.inj h
    exact Den.Spec.of_walk tab mixed Try.func60 (by kernel_rfl) [.br true] [] [0] (nd c1 trivial) (by kernel_rfl)
  · obtain ⟨x1, e1, h⟩ := bind_some h
    rcases x1 with x1 | x1
    · obtain rfl := Option.some.inj h
      exact Den.Spec.of_walk tab mixed Try.func60 (by kernel_rfl) [.br false, .loop [] [0, 1, 5] [0] (.ret) (laws.szStringS.l0.e0 a0 x1)] [] [0] (nd c1 (nd (laws.szStringS.l0.spec a0 K (w64 (a1 - (a0.length : Int))) 0 _ e1) trivial)) (by kernel_rfl)
    · obtain rfl := Option.some.inj h
      exact Den.Spec.of_walk tab mixed Try.func60 (by kernel_rfl) [.br false, .loop [] [0, 1, 5] [0] (.exit 0) (laws.szStringS.l0.e1 a0 x1)] [] [0] (nd c1 (nd (laws.szStringS.l0.spec a0 K (w64 (a1 - (a0.length : Int))) 0 _ e1) trivial)) (by kernel_rfl)
def laws.toStringS.l0.f (a0 : List ByteArray) : Nat → (List ByteArray) → Int → Option ((List ByteArray))
  | 0, _, _ => none
  | k + 1, v5_0, v5_1 =>
    cond (decide (v5_1 < (a0.length : Int))) (ck (0 ≤ v5_1) (ck (v5_1 < (v5_0.length : Int)) (laws.toStringS.l0.f a0 k (v5_0.set v5_1.toNat (a0.getD v5_1.toNat noVal)) (w64 (v5_1 + 1))))) (some v5_0)
def laws.toStringS.l0.s (a0 : List ByteArray) (v5_0 : List ByteArray) (v5_1 : Int) : St := mkSt 22 [(0, one (.sl 0 0 a0.length)), (3, one (.sl 1 0 v5_0.length)), (4, one (.int .i64 v5_1))] [some ⟨false, .strs a0⟩, some ⟨true, .strs v5_0⟩]
def laws.toStringS.l0.e0 (a0 : List ByteArray) (o : (List ByteArray)) : St := mkSt 22 [(3, one (.sl 1 0 o.length))] [some ⟨false, .strs a0⟩, some ⟨true, .strs o⟩]
def laws.toStringS.l0.x (a0 : List ByteArray) : ((List ByteArray)) → AExit × St := fun o => (.exit 0, laws.toStringS.l0.e0 a0 o)
theorem laws.toStringS.l0.spec (a0 : List ByteArray) : ∀ (k : Nat) (v5_0 : List ByteArray) (v5_1 : Int) (o : (List ByteArray)), laws.toStringS.l0.f a0 k v5_0 v5_1 = some o → LoopSpec Try.prog 1 (loopN Try.f62 0) (laws.toStringS.l0.s a0 v5_0 v5_1) (laws.toStringS.l0.x a0 o).1 (laws.toStringS.l0.x a0 o).2
  | 0, _, _, _, h => by cases h
  | k + 1, v5_0, v5_1, o, h => by
    unfold laws.toStringS.l0.f at h
    rcases br_cases h with ⟨c1, h⟩ | ⟨c1, h⟩
    · obtain ⟨p1, h⟩ := ck_some h
      obtain ⟨p2, h⟩ := ck_some h
      exact .of_step tab mixed [.br true] [] [0, 3, 4] [0, 1] (s1 := mkSt 22 [(0, one (.sl 0 0 a0.length)), (3, one (.sl 1 0 v5_0.length)), (4, one (.int .i64 (w64 (v5_1 + 1))))] [some ⟨false, .strs a0⟩, some ⟨true, .strs (v5_0.set v5_1.toNat (a0.getD v5_1.toNat noVal))⟩]) (nd c1 (nd p1 (nd (of_decide_eq_true c1) (nd (tn p1 (of_decide_eq_true c1)) (nd p1 (nd p2 (nd (tn p1 p2) trivial))))))) (by kernel_rfl) (LoopSpec.eqs (laws.toStringS.l0.spec a0 k (v5_0.set v5_1.toNat (a0.getD v5_1.toNat noVal)) (w64 (v5_1 + 1)) _ h) (by simp only [laws.toStringS.l0.s, List.length_set, overL_length] : laws.toStringS.l0.s a0 (v5_0.set v5_1.toNat (a0.getD v5_1.toNat noVal)) (w64 (v5_1 + 1)) = mkSt 22 [(0, one (.sl 0 0 a0.length)), (3, one (.sl 1 0 v5_0.length)), (4, one (.int .i64 (w64 (v5_1 + 1))))] [some ⟨false, .strs a0⟩, some ⟨true, .strs (v5_0.set v5_1.toNat (a0.getD v5_1.toNat noVal))⟩]))
    · obtain rfl := Option.some.inj h
      exact .of_done tab mixed [.br false] [] [3] [0, 1] rfl (nd c1 trivial) (by kernel_rfl)
def laws.toStringS.f (K : Nat) (a0 : List ByteArray) : Option ((List ByteArray)) :=
  ck (((a0.length : Int) * (16 : Int)) ≤ 70368744177664) (Option.bind (laws.toStringS.l0.f a0 K (List.replicate a0.length noVal) 0) fun x1 => some x1)
theorem laws.toStringS.spec (K : Nat) (a0 : List ByteArray) (o : (List ByteArray)) (h : laws.toStringS.f K a0 = some o) : Den.Spec Try.prog 62 [one (.sl 0 0 a0.length)] [some ⟨false, .strs a0⟩] (one (.sl 1 0 o.length)) [some ⟨false, .strs a0⟩, some ⟨true, .strs o⟩] := by
  unfold laws.toStringS.f at h
  obtain ⟨p1, h⟩ := ck_some h
  obtain ⟨x1, e1, h⟩ := bind_some h
  obtain rfl := Option.some.inj h
  exact Den.Spec.of_walk tab mixed Try.func62 (by kernel_rfl) [.loop [] [0, 3, 4] [0, 1] (.exit 0) (laws.toStringS.l0.e0 a0 x1)] [] [0, 1] (nd (Int.natCast_nonneg a0.length) (nd (rfl : (a0.length : Int) = (a0.length : Int)) (nd p1 (nd (laws.toStringS.l0.spec a0 K (List.replicate a0.length noVal) 0 _ e1) trivial)))) (by kernel_rfl)
def spec.NameOk.l0.f (a0 : ByteArray) : Nat → Int → Option (Unit ⊕ Unit)
  | 0, _ => none
  | k + 1, v10_0 =>
    cond (decide (v10_0 < (a0.size : Int))) (ck (0 ≤ v10_0) (cond (decide ((byteAt a0 v10_0) < 97)) (some (.inl ())) (cond (decide ((byteAt a0 v10_0) > 122)) (some (.inl ())) (spec.NameOk.l0.f a0 k (w64 (v10_0 + 1)))))) (some (.inr (())))
def spec.NameOk.l0.s (a0 : ByteArray) (v10_0 : Int) : St := mkSt 23 [(0, one (.str a0)), (3, one (.int .i64 v10_0))] []
def spec.NameOk.l0.e0 (a0 : ByteArray) (o : Unit) : St := mkSt 23 [(2, one (.bool false))] []
def spec.NameOk.l0.e1 (a0 : ByteArray) (o : Unit) : St := mkSt 23 [(0, one (.str a0))] []
def spec.NameOk.l0.x (a0 : ByteArray) : (Unit ⊕ Unit) → AExit × St := Sum.elim (fun o => (.ret, spec.NameOk.l0.e0 a0 o)) (fun o => (.exit 0, spec.NameOk.l0.e1 a0 o))
theorem spec.NameOk.l0.spec (a0 : ByteArray) : ∀ (k : Nat) (v10_0 : Int) (o : Unit ⊕ Unit), spec.NameOk.l0.f a0 k v10_0 = some o → LoopSpec Try.prog 0 (loopN Try.f73 0) (spec.NameOk.l0.s a0 v10_0) (spec.NameOk.l0.x a0 o).1 (spec.NameOk.l0.x a0 o).2
  | 0, _, _, h => by cases h
  | k + 1, v10_0, o, h => by
    unfold spec.NameOk.l0.f at h
    rcases br_cases h with ⟨c1, h⟩ | ⟨c1, h⟩
    · obtain ⟨p1, h⟩ := ck_some h
      rcases br_cases h with ⟨c2, h⟩ | ⟨c2, h⟩
      · obtain rfl := Option.some.inj h
        exact .of_done tab mixed [.br true, .br true, .br true, .br true, .br true, .br true, .br true] [] [2] [] rfl (nd c1 (nd p1 (nd (of_decide_eq_true c1) (nd c2 (nd c2 (nd c2 (nd c2 (nd c2 (nd tt trivial))))))))) (by kernel_rfl)
      · rcases br_cases h with ⟨c3, h⟩ | ⟨c3, h⟩
        · obtain rfl := Option.some.inj h
          exact .of_done tab mixed [.br true, .br false, .br false, .br false, .br false, .br false, .br true] [] [2] [] rfl (nd c1 (nd p1 (nd (of_decide_eq_true c1) (nd c2 (nd c2 (nd c2 (nd p1 (nd (of_decide_eq_true c1) (nd c2 (nd c2 (nd c3 trivial))))))))))) (by kernel_rfl)
        · exact .of_step tab mixed [.br true, .br false, .br false, .br false, .br false, .br false, .br false] [] [0, 3] [] (s1 := spec.NameOk.l0.s a0 (w64 (v10_0 + 1))) (nd c1 (nd p1 (nd (of_decide_eq_true c1) (nd c2 (nd c2 (nd c2 (nd p1 (nd (of_decide_eq_true c1) (nd c2 (nd c2 (nd c3 trivial))))))))))) (by kernel_rfl) (spec.NameOk.l0.spec a0 k (w64 (v10_0 + 1)) _ h)
    · obtain rfl := Option.some.inj h
      exact .of_done tab mixed [.br false] [] [0] [] rfl (nd c1 trivial) (by kernel_rfl)
def spec.l1In.f (a0 : Int) (a1 : Int) (a2 : Int) : Option (Bool) :=
  cond (decide (a0 ≥ a1)) (some (decide (a0 ≤ a2))) (some false)
theorem spec.l1In.spec (a0 : Int) (a1 : Int) (a2 : Int) (o : Bool) (h : spec.l1In.f a0 a1 a2 = some o) : Den.Spec Try.prog 88 [one (.int .i64 a0), one (.int .i64 a1), one (.int .i64 a2)] [] (one (.bool o)) [] := by
  unfold spec.l1In.f at h
  rcases br_cases h with ⟨c1, h⟩ | ⟨c1, h⟩
  · obtain rfl := Option.some.inj h
    exact Den.Spec.of_walk tab mixed Try.func88 (by kernel_rfl) [.br true, .br true, .br true, .br true] [] [] (nd c1 (nd c1 (nd c1 (nd c1 trivial)))) (by kernel_rfl)
  · obtain rfl := Option.some.inj h
    exact Den.Spec.of_walk tab mixed Try.func88 (by kernel_rfl) [.br false, .br false, .br false, .br false] [] [] (nd c1 (nd c1 (nd c1 (nd c1 trivial)))) (by kernel_rfl)
def spec.NameOk.f (K : Nat) (a0 : ByteArray) : Option (Bool) :=
  Option.bind (spec.NameOk.l0.f a0 K 0) fun x1 => (Sum.elim (fun x1 => some false) (fun x1 => Option.bind (spec.l1In.f (a0.size : Int) 1 6) fun x2 => some x2)) x1
theorem spec.NameOk.spec (K : Nat) (a0 : ByteArray) (o : Bool) (h : spec.NameOk.f K a0 = some o) : Den.Spec Try.prog 73 [one (.str a0)] [] (one (.bool o)) [] := by
  unfold spec.NameOk.f at h
  obtain ⟨x1, e1, h⟩ := bind_some h
  rcases x1 with x1 | x1
  · obtain rfl := Option.some.inj h
    exact Den.Spec.of_walk tab mixed Try.func73 (by kernel_rfl) [.loop [] [0, 3] [] (.ret) (spec.NameOk.l0.e0 a0 x1)] [] [] (nd (spec.NameOk.l0.spec a0 K 0 _ e1) trivial) (by kernel_rfl)
  · obtain ⟨x2, e2, h⟩ := bind_some h
    obtain rfl := Option.some.inj h
    exact Den.Spec.of_walk tab mixed Try.func73 (by kernel_rfl) [.loop [] [0, 3] [] (.exit 0) (spec.NameOk.l0.e1 a0 x1), .call [] [] (one (.bool x2)) []] [] [] (nd (spec.NameOk.l0.spec a0 K 0 _ e1) (nd (spec.l1In.spec (a0.size : Int) 1 6 _ e2) trivial)) (by kernel_rfl)
def spec.NodeOk.l1.f (a0 : Bool) (a1 : List ByteArray) (a2 : List Int) (a3 : ByteArray) (v15_0 : Int) : Nat → Int → Bool → Bool → Option (Unit ⊕ (Bool × Bool))
  | 0, _, _, _ => none
  | k + 1, v17_0, v17_1, v17_2 =>
    cond (decide (v17_0 < v15_0)) (ck (0 ≤ v17_0) (ck (v17_0 < (a2.length : Int)) (ck (0 ≤ v15_0) (ck (v15_0 < (a2.length : Int)) (cond ((a2.getD v17_0.toNat 0) == (a2.getD v15_0.toNat 0)) (some (.inl ())) (spec.NodeOk.l1.f a0 a1 a2 a3 v15_0 k (w64 (v17_0 + 1)) v17_1 v17_2)))))) (some (.inr ((v17_1, v17_2))))
def spec.NodeOk.l1.s (a0 : Bool) (a1 : List ByteArray) (a2 : List Int) (a3 : ByteArray) (v15_0 : Int) (v17_0 : Int) (v17_1 : Bool) (v17_2 : Bool) : St := mkSt 91 [(1, one (.ptr 2 0 0)), (3, one (.int .i64 v15_0)), (4, one (.int .i64 v17_0)), (49, one (.ptr 2 0 2)), (50, one (.sl 1 0 a2.length)), (51, one (.int .i64 v15_0)), (52, one (.ptr 1 v15_0.toNat 0)), (53, one (.int .i64 (a2.getD v15_0.toNat 0))), (54, one (.bool v17_1)), (55, one (.bool v17_2)), (58, one (.int .i64 v15_0)), (59, one (.bool (decide (v15_0 > 0)))), (60, one (.bool (decide (v15_0 > 0)))), (61, one (.ptr 2 0 1)), (62, one (.sl 0 0 a1.length)), (63, one (.int .i64 v15_0)), (64, one (.int .i64 (w64 (v15_0 - 1)))), (65, one (.ptr 0 ((w64 (v15_0 - 1)).toNat) 0)), (66, one (.str (a1.getD ((w64 (v15_0 - 1)).toNat) noVal))), (67, one (.ptr 2 0 1)), (68, one (.sl 0 0 a1.length)), (69, one (.int .i64 v15_0)), (70, one (.ptr 0 v15_0.toNat 0)), (71, one (.str (a1.getD v15_0.toNat noVal))), (72, one (.bool (!(strLt (a1.getD ((w64 (v15_0 - 1)).toNat) noVal) (a1.getD v15_0.toNat noVal))))), (73, one (.bool (!(strLt (a1.getD ((w64 (v15_0 - 1)).toNat) noVal) (a1.getD v15_0.toNat noVal)))))] [some ⟨false, .strs a1⟩, some ⟨false, .ints .i64 a2⟩, some ⟨true, .cells [.bool a0, .sl 0 0 a1.length, .sl 1 0 a2.length, .str a3]⟩]
def spec.NodeOk.l1.e0 (a0 : Bool) (a1 : List ByteArray) (a2 : List Int) (a3 : ByteArray) (v15_0 : Int) (o : Unit) : St := mkSt 91 [(2, one (.bool false))] [some ⟨false, .strs a1⟩, some ⟨false, .ints .i64 a2⟩]
def spec.NodeOk.l1.e1 (a0 : Bool) (a1 : List ByteArray) (a2 : List Int) (a3 : ByteArray) (v15_0 : Int) (o : Bool × Bool) : St := mkSt 91 [(1, one (.ptr 2 0 0)), (3, one (.int .i64 v15_0)), (49, one (.ptr 2 0 2)), (50, one (.sl 1 0 a2.length)), (51, one (.int .i64 v15_0)), (52, one (.ptr 1 v15_0.toNat 0)), (53, one (.int .i64 (a2.getD v15_0.toNat 0))), (54, one (.bool o.1)), (55, one (.bool o.2)), (58, one (.int .i64 v15_0)), (59, one (.bool (decide (v15_0 > 0)))), (60, one (.bool (decide (v15_0 > 0)))), (61, one (.ptr 2 0 1)), (62, one (.sl 0 0 a1.length)), (63, one (.int .i64 v15_0)), (64, one (.int .i64 (w64 (v15_0 - 1)))), (65, one (.ptr 0 ((w64 (v15_0 - 1)).toNat) 0)), (66, one (.str (a1.getD ((w64 (v15_0 - 1)).toNat) noVal))), (67, one (.ptr 2 0 1)), (68, one (.sl 0 0 a1.length)), (69, one (.int .i64 v15_0)), (70, one (.ptr 0 v15_0.toNat 0)), (71, one (.str (a1.getD v15_0.toNat noVal))), (72, one (.bool (!(strLt (a1.getD ((w64 (v15_0 - 1)).toNat) noVal) (a1.getD v15_0.toNat noVal))))), (73, one (.bool (!(strLt (a1.getD ((w64 (v15_0 - 1)).toNat) noVal) (a1.getD v15_0.toNat noVal)))))] [some ⟨false, .strs a1⟩, some ⟨false, .ints .i64 a2⟩, some ⟨true, .cells [.bool a0, .sl 0 0 a1.length, .sl 1 0 a2.length, .str a3]⟩]
def spec.NodeOk.l1.x (a0 : Bool) (a1 : List ByteArray) (a2 : List Int) (a3 : ByteArray) (v15_0 : Int) : (Unit ⊕ (Bool × Bool)) → AExit × St := Sum.elim (fun o => (.ret, spec.NodeOk.l1.e0 a0 a1 a2 a3 v15_0 o)) (fun o => (.exit 2, spec.NodeOk.l1.e1 a0 a1 a2 a3 v15_0 o))
theorem spec.NodeOk.l1.spec (a0 : Bool) (a1 : List ByteArray) (a2 : List Int) (a3 : ByteArray) (v15_0 : Int) : ∀ (k : Nat) (v17_0 : Int) (v17_1 : Bool) (v17_2 : Bool) (o : Unit ⊕ (Bool × Bool)), spec.NodeOk.l1.f a0 a1 a2 a3 v15_0 k v17_0 v17_1 v17_2 = some o → LoopSpec Try.prog 2 (loopN Try.f94 1) (spec.NodeOk.l1.s a0 a1 a2 a3 v15_0 v17_0 v17_1 v17_2) (spec.NodeOk.l1.x a0 a1 a2 a3 v15_0 o).1 (spec.NodeOk.l1.x a0 a1 a2 a3 v15_0 o).2
  | 0, _, _, _, _, h => by cases h
  | k + 1, v17_0, v17_1, v17_2, o, h => by
    unfold spec.NodeOk.l1.f at h
    rcases br_cases h with ⟨c1, h⟩ | ⟨c1, h⟩
    · obtain ⟨p1, h⟩ := ck_some h
      obtain ⟨p2, h⟩ := ck_some h
      obtain ⟨p3, h⟩ := ck_some h
      obtain ⟨p4, h⟩ := ck_some h
      rcases br_cases h with ⟨c2, h⟩ | ⟨c2, h⟩
      · obtain rfl := Option.some.inj h
        exact .of_done tab mixed [.br true, .br true] [] [2] [0, 1] rfl (nd c1 (nd p1 (nd p2 (nd (tn p1 p2) (nd p3 (nd p4 (nd (tn p3 p4) (nd c2 trivial)))))))) (by kernel_rfl)
      · exact .of_step tab mixed [.br true, .br false] [] [1, 3, 4, 49, 50, 51, 52, 53, 54, 55, 58, 59, 60, 61, 62, 63, 64, 65, 66, 67, 68, 69, 70, 71, 72, 73] [0, 1, 2] (s1 := spec.NodeOk.l1.s a0 a1 a2 a3 v15_0 (w64 (v17_0 + 1)) v17_1 v17_2) (nd c1 (nd p1 (nd p2 (nd (tn p1 p2) (nd p3 (nd p4 (nd (tn p3 p4) (nd c2 trivial)))))))) (by kernel_rfl) (spec.NodeOk.l1.spec a0 a1 a2 a3 v15_0 k (w64 (v17_0 + 1)) v17_1 v17_2 _ h)
    · obtain rfl := Option.some.inj h
      exact .of_done tab mixed [.br false] [] [1, 3, 49, 50, 51, 52, 53, 54, 55, 58, 59, 60, 61, 62, 63, 64, 65, 66, 67, 68, 69, 70, 71, 72, 73] [0, 1, 2] rfl (nd c1 trivial) (by kernel_rfl)
def spec.NodeOk.l1_1.f (a0 : Bool) (a1 : List ByteArray) (a2 : List Int) (a3 : ByteArray) (v15_0 : Int) : Nat → Int → Bool → Bool → Option (Unit ⊕ (Bool × Bool))
  | 0, _, _, _ => none
  | k + 1, v18_0, v18_1, v18_2 =>
    cond (decide (v18_0 < v15_0)) (ck (0 ≤ v18_0) (ck (v18_0 < (a2.length : Int)) (ck (0 ≤ v15_0) (ck (v15_0 < (a2.length : Int)) (cond ((a2.getD v18_0.toNat 0) == (a2.getD v15_0.toNat 0)) (some (.inl ())) (spec.NodeOk.l1_1.f a0 a1 a2 a3 v15_0 k (w64 (v18_0 + 1)) v18_1 v18_2)))))) (some (.inr ((v18_1, v18_2))))
def spec.NodeOk.l1_1.s (a0 : Bool) (a1 : List ByteArray) (a2 : List Int) (a3 : ByteArray) (v15_0 : Int) (v18_0 : Int) (v18_1 : Bool) (v18_2 : Bool) : St := mkSt 91 [(1, one (.ptr 2 0 0)), (3, one (.int .i64 v15_0)), (4, one (.int .i64 v18_0)), (49, one (.ptr 2 0 2)), (50, one (.sl 1 0 a2.length)), (51, one (.int .i64 v15_0)), (52, one (.ptr 1 v15_0.toNat 0)), (53, one (.int .i64 (a2.getD v15_0.toNat 0))), (54, one (.bool v18_1)), (55, one (.bool v18_2)), (58, one (.int .i64 v15_0)), (59, one (.bool (decide (v15_0 > 0)))), (60, one (.bool (decide (v15_0 > 0)))), (73, one (.bool false))] [some ⟨false, .strs a1⟩, some ⟨false, .ints .i64 a2⟩, some ⟨true, .cells [.bool a0, .sl 0 0 a1.length, .sl 1 0 a2.length, .str a3]⟩]
def spec.NodeOk.l1_1.e0 (a0 : Bool) (a1 : List ByteArray) (a2 : List Int) (a3 : ByteArray) (v15_0 : Int) (o : Unit) : St := mkSt 91 [(2, one (.bool false))] [some ⟨false, .strs a1⟩, some ⟨false, .ints .i64 a2⟩]
def spec.NodeOk.l1_1.e1 (a0 : Bool) (a1 : List ByteArray) (a2 : List Int) (a3 : ByteArray) (v15_0 : Int) (o : Bool × Bool) : St := mkSt 91 [(1, one (.ptr 2 0 0)), (3, one (.int .i64 v15_0)), (49, one (.ptr 2 0 2)), (50, one (.sl 1 0 a2.length)), (51, one (.int .i64 v15_0)), (52, one (.ptr 1 v15_0.toNat 0)), (53, one (.int .i64 (a2.getD v15_0.toNat 0))), (54, one (.bool o.1)), (55, one (.bool o.2)), (58, one (.int .i64 v15_0)), (59, one (.bool (decide (v15_0 > 0)))), (60, one (.bool (decide (v15_0 > 0)))), (73, one (.bool false))] [some ⟨false, .strs a1⟩, some ⟨false, .ints .i64 a2⟩, some ⟨true, .cells [.bool a0, .sl 0 0 a1.length, .sl 1 0 a2.length, .str a3]⟩]
def spec.NodeOk.l1_1.x (a0 : Bool) (a1 : List ByteArray) (a2 : List Int) (a3 : ByteArray) (v15_0 : Int) : (Unit ⊕ (Bool × Bool)) → AExit × St := Sum.elim (fun o => (.ret, spec.NodeOk.l1_1.e0 a0 a1 a2 a3 v15_0 o)) (fun o => (.exit 2, spec.NodeOk.l1_1.e1 a0 a1 a2 a3 v15_0 o))
theorem spec.NodeOk.l1_1.spec (a0 : Bool) (a1 : List ByteArray) (a2 : List Int) (a3 : ByteArray) (v15_0 : Int) : ∀ (k : Nat) (v18_0 : Int) (v18_1 : Bool) (v18_2 : Bool) (o : Unit ⊕ (Bool × Bool)), spec.NodeOk.l1_1.f a0 a1 a2 a3 v15_0 k v18_0 v18_1 v18_2 = some o → LoopSpec Try.prog 2 (loopN Try.f94 1) (spec.NodeOk.l1_1.s a0 a1 a2 a3 v15_0 v18_0 v18_1 v18_2) (spec.NodeOk.l1_1.x a0 a1 a2 a3 v15_0 o).1 (spec.NodeOk.l1_1.x a0 a1 a2 a3 v15_0 o).2
  | 0, _, _, _, _, h => by cases h
  | k + 1, v18_0, v18_1, v18_2, o, h => by
    unfold spec.NodeOk.l1_1.f at h
    rcases br_cases h with ⟨c1, h⟩ | ⟨c1, h⟩
    · obtain ⟨p1, h⟩ := ck_some h
      obtain ⟨p2, h⟩ := ck_some h
      obtain ⟨p3, h⟩ := ck_some h
      obtain ⟨p4, h⟩ := ck_some h
      rcases br_cases h with ⟨c2, h⟩ | ⟨c2, h⟩
      · obtain rfl := Option.some.inj h
        exact .of_done tab mixed [.br true, .br true] [] [2] [0, 1] rfl (nd c1 (nd p1 (nd p2 (nd (tn p1 p2) (nd p3 (nd p4 (nd (tn p3 p4) (nd c2 trivial)))))))) (by kernel_rfl)
      · exact .of_step tab mixed [.br true, .br false] [] [1, 3, 4, 49, 50, 51, 52, 53, 54, 55, 58, 59, 60, 73] [0, 1, 2] (s1 := spec.NodeOk.l1_1.s a0 a1 a2 a3 v15_0 (w64 (v18_0 + 1)) v18_1 v18_2) (nd c1 (nd p1 (nd p2 (nd (tn p1 p2) (nd p3 (nd p4 (nd (tn p3 p4) (nd c2 trivial)))))))) (by kernel_rfl) (spec.NodeOk.l1_1.spec a0 a1 a2 a3 v15_0 k (w64 (v18_0 + 1)) v18_1 v18_2 _ h)
    · obtain rfl := Option.some.inj h
      exact .of_done tab mixed [.br false] [] [1, 3, 49, 50, 51, 52, 53, 54, 55, 58, 59, 60, 73] [0, 1, 2] rfl (nd c1 trivial) (by kernel_rfl)
def spec.NodeOk.l0.f (K : Nat) (a0 : Bool) (a1 : List ByteArray) (a2 : List Int) (a3 : ByteArray) : Nat → Int → Option (Unit ⊕ Unit)
  | 0, _ => none
  | k + 1, v15_0 =>
    cond (decide (v15_0 < (a1.length : Int))) (ck (0 ≤ v15_0) (Option.bind (spec.NameOk.f K (a1.getD v15_0.toNat noVal)) fun x1 => cond (x1) (ck (v15_0 < (a2.length : Int)) (Option.bind (spec.l1In.f (a2.getD v15_0.toNat 0) 1 11) fun x2 => cond (x2) (cond (decide (v15_0 > 0)) (ck (0 ≤ (w64 (v15_0 - 1))) (ck ((w64 (v15_0 - 1)) < (a1.length : Int)) (cond (strLt (a1.getD ((w64 (v15_0 - 1)).toNat) noVal) (a1.getD v15_0.toNat noVal)) (Option.bind (spec.NodeOk.l1.f a0 a1 a2 a3 v15_0 K 0 x2 (!x2)) fun x3 => (Sum.elim (fun x3 => some (.inl ())) (fun x3 => spec.NodeOk.l0.f K a0 a1 a2 a3 k (w64 (v15_0 + 1)))) x3) (some (.inl ()))))) (Option.bind (spec.NodeOk.l1_1.f a0 a1 a2 a3 v15_0 K 0 x2 (!x2)) fun x3 => (Sum.elim (fun x3 => some (.inl ())) (fun x3 => spec.NodeOk.l0.f K a0 a1 a2 a3 k (w64 (v15_0 + 1)))) x3)) (some (.inl ())))) (some (.inl ())))) (some (.inr (())))
def spec.NodeOk.l0.s (K : Nat) (a0 : Bool) (a1 : List ByteArray) (a2 : List Int) (a3 : ByteArray) (v15_0 : Int) : St := mkSt 91 [(1, one (.ptr 2 0 0)), (3, one (.int .i64 v15_0))] [some ⟨false, .strs a1⟩, some ⟨false, .ints .i64 a2⟩, some ⟨true, .cells [.bool a0, .sl 0 0 a1.length, .sl 1 0 a2.length, .str a3]⟩]
def spec.NodeOk.l0.e0 (K : Nat) (a0 : Bool) (a1 : List ByteArray) (a2 : List Int) (a3 : ByteArray) (o : Unit) : St := mkSt 91 [(2, one (.bool false))] [some ⟨false, .strs a1⟩, some ⟨false, .ints .i64 a2⟩]
def spec.NodeOk.l0.e1 (K : Nat) (a0 : Bool) (a1 : List ByteArray) (a2 : List Int) (a3 : ByteArray) (o : Unit) : St := mkSt 91 [] [some ⟨false, .strs a1⟩, some ⟨false, .ints .i64 a2⟩]
def spec.NodeOk.l0.x (K : Nat) (a0 : Bool) (a1 : List ByteArray) (a2 : List Int) (a3 : ByteArray) : (Unit ⊕ Unit) → AExit × St := Sum.elim (fun o => (.ret, spec.NodeOk.l0.e0 K a0 a1 a2 a3 o)) (fun o => (.exit 0, spec.NodeOk.l0.e1 K a0 a1 a2 a3 o))
theorem spec.NodeOk.l0.spec (K : Nat) (a0 : Bool) (a1 : List ByteArray) (a2 : List Int) (a3 : ByteArray) : ∀ (k : Nat) (v15_0 : Int) (o : Unit ⊕ Unit), spec.NodeOk.l0.f K a0 a1 a2 a3 k v15_0 = some o → LoopSpec Try.prog 2 (loopN Try.f94 0) (spec.NodeOk.l0.s K a0 a1 a2 a3 v15_0) (spec.NodeOk.l0.x K a0 a1 a2 a3 o).1 (spec.NodeOk.l0.x K a0 a1 a2 a3 o).2
  | 0, _, _, h => by cases h
  | k + 1, v15_0, o, h => by
    unfold spec.NodeOk.l0.f at h
    rcases br_cases h with ⟨c1, h⟩ | ⟨c1, h⟩
    · obtain ⟨p1, h⟩ := ck_some h
      obtain ⟨x1, e1, h⟩ := bind_some h
      rcases br_cases h with ⟨c2, h⟩ | ⟨c2, h⟩
      · obtain ⟨p2, h⟩ := ck_some h
        obtain ⟨x2, e2, h⟩ := bind_some h
        rcases br_cases h with ⟨c3, h⟩ | ⟨c3, h⟩
        · rcases br_cases h with ⟨c4, h⟩ | ⟨c4, h⟩
          · obtain ⟨p3, h⟩ := ck_some h
            obtain ⟨p4, h⟩ := ck_some h
            rcases br_cases h with ⟨c5, h⟩ | ⟨c5, h⟩
            · obtain ⟨x3, e3, h⟩ := bind_some h
              rcases x3 with x3 | x3
              · obtain rfl := Option.some.inj h
                exact .of_done tab mixed [.br true, .call [] [] (one (.bool x1)) [], .br false, .br false, .br false, .br false, .br false, .br false, .call [] [] (one (.bool x2)) [], .br false, .br false, .br false, .br false, .br false, .br true, .br true, .br true, .br true, .br true, .br true, .br true, .br true, .br true, .br true, .br true, .br true, .br false, .br true, .br false, .br false, .loop [] [1, 3, 4, 49, 50, 51, 52, 53, 54, 55, 58, 59, 60, 61, 62, 63, 64, 65, 66, 67, 68, 69, 70, 71, 72, 73] [0, 1, 2] (.ret) (spec.NodeOk.l1.e0 a0 a1 a2 a3 v15_0 x3)] [] [2] [0, 1] rfl (nd c1 (nd p1 (nd (of_decide_eq_true c1) (nd (tn p1 (of_decide_eq_true c1)) (nd (spec.NameOk.spec K (a1.getD v15_0.toNat noVal) _ e1) (nd (nf c2) (nd (nf c2) (nd (nf c2) (nd (nf c2) (nd p1 (nd p2 (nd (nf c2) (nd (tn p1 p2) (nd (nf c2) (nd (spec.l1In.spec (a2.getD v15_0.toNat 0) 1 11 _ e2) (nd (nf c2) (nd (nf c2) (nd (nf c3) (nd (nf c3) (nd (nf c3) (nd c4 (nd c4 (nd c4 (nd c4 (nd c4 (nd p3 (nd p4 (nd c4 (nd (tn p3 p4) (nd c4 (nd c4 (nd c4 (nd c4 (nd p1 (nd (of_decide_eq_true c1) (nd c4 (nd (tn p1 (of_decide_eq_true c1)) (nd c4 (nd (nf c3) (nd c4 (nd (nf c3) (nd (nf c5) (nd (spec.NodeOk.l1.spec a0 a1 a2 a3 v15_0 K 0 x2 (!x2) _ e3) trivial))))))))))))))))))))))))))))))))))))))))))) (by kernel_rfl)
              · exact .of_step tab mixed [.br true, .call [] [] (one (.bool x1)) [], .br false, .br false, .br false, .br false, .br false, .br false, .call [] [] (one (.bool x2)) [], .br false, .br false, .br false, .br false, .br false, .br true, .br true, .br true, .br true, .br true, .br true, .br true, .br true, .br true, .br true, .br true, .br true, .br false, .br true, .br false, .br false, .loop [] [1, 3, 4, 49, 50, 51, 52, 53, 54, 55, 58, 59, 60, 61, 62, 63, 64, 65, 66, 67, 68, 69, 70, 71, 72, 73] [0, 1, 2] (.exit 2) (spec.NodeOk.l1.e1 a0 a1 a2 a3 v15_0 x3)] [] [1, 3] [0, 1, 2] (s1 := spec.NodeOk.l0.s K a0 a1 a2 a3 (w64 (v15_0 + 1))) (nd c1 (nd p1 (nd (of_decide_eq_true c1) (nd (tn p1 (of_decide_eq_true c1)) (nd (spec.NameOk.spec K (a1.getD v15_0.toNat noVal) _ e1) (nd (nf c2) (nd (nf c2) (nd (nf c2) (nd (nf c2) (nd p1 (nd p2 (nd (nf c2) (nd (tn p1 p2) (nd (nf c2) (nd (spec.l1In.spec (a2.getD v15_0.toNat 0) 1 11 _ e2) (nd (nf c2) (nd (nf c2) (nd (nf c3) (nd (nf c3) (nd (nf c3) (nd c4 (nd c4 (nd c4 (nd c4 (nd c4 (nd p3 (nd p4 (nd c4 (nd (tn p3 p4) (nd c4 (nd c4 (nd c4 (nd c4 (nd p1 (nd (of_decide_eq_true c1) (nd c4 (nd (tn p1 (of_decide_eq_true c1)) (nd c4 (nd (nf c3) (nd c4 (nd (nf c3) (nd (nf c5) (nd (spec.NodeOk.l1.spec a0 a1 a2 a3 v15_0 K 0 x2 (!x2) _ e3) trivial))))))))))))))))))))))))))))))))))))))))))) (by kernel_rfl) (spec.NodeOk.l0.spec K a0 a1 a2 a3 k (w64 (v15_0 + 1)) _ h)
            · obtain rfl := Option.some.inj h
              exact .of_done tab mixed [.br true, .call [] [] (one (.bool x1)) [], .br false, .br false, .br false, .br false, .br false, .br false, .call [] [] (one (.bool x2)) [], .br false, .br false, .br false, .br false, .br false, .br true, .br true, .br true, .br true, .br true, .br true, .br true, .br true, .br true, .br true, .br true, .br true, .br false, .br true, .br false, .br true] [] [2] [0, 1] rfl (nd c1 (nd p1 (nd (of_decide_eq_true c1) (nd (tn p1 (of_decide_eq_true c1)) (nd (spec.NameOk.spec K (a1.getD v15_0.toNat noVal) _ e1) (nd (nf c2) (nd (nf c2) (nd (nf c2) (nd (nf c2) (nd p1 (nd p2 (nd (nf c2) (nd (tn p1 p2) (nd (nf c2) (nd (spec.l1In.spec (a2.getD v15_0.toNat 0) 1 11 _ e2) (nd (nf c2) (nd (nf c2) (nd (nf c3) (nd (nf c3) (nd (nf c3) (nd c4 (nd c4 (nd c4 (nd c4 (nd c4 (nd p3 (nd p4 (nd c4 (nd (tn p3 p4) (nd c4 (nd c4 (nd c4 (nd c4 (nd p1 (nd (of_decide_eq_true c1) (nd c4 (nd (tn p1 (of_decide_eq_true c1)) (nd c4 (nd (nf c3) (nd c4 (nd (nf c3) (nd (nt c5) trivial)))))))))))))))))))))))))))))))))))))))))) (by kernel_rfl)
          · obtain ⟨x3, e3, h⟩ := bind_some h
            rcases x3 with x3 | x3
            · obtain rfl := Option.some.inj h
              exact .of_done tab mixed [.br true, .call [] [] (one (.bool x1)) [], .br false, .br false, .br false, .br false, .br false, .br false, .call [] [] (one (.bool x2)) [], .br false, .br false, .br false, .br false, .br false, .br false, .br false, .br false, .br false, .br false, .br false, .br false, .br false, .br false, .br false, .br false, .br false, .br false, .br false, .br false, .br false, .loop [] [1, 3, 4, 49, 50, 51, 52, 53, 54, 55, 58, 59, 60, 73] [0, 1, 2] (.ret) (spec.NodeOk.l1_1.e0 a0 a1 a2 a3 v15_0 x3)] [] [2] [0, 1] rfl (nd c1 (nd p1 (nd (of_decide_eq_true c1) (nd (tn p1 (of_decide_eq_true c1)) (nd (spec.NameOk.spec K (a1.getD v15_0.toNat noVal) _ e1) (nd (nf c2) (nd (nf c2) (nd (nf c2) (nd (nf c2) (nd p1 (nd p2 (nd (nf c2) (nd (tn p1 p2) (nd (nf c2) (nd (spec.l1In.spec (a2.getD v15_0.toNat 0) 1 11 _ e2) (nd (nf c2) (nd (nf c2) (nd (nf c3) (nd (nf c3) (nd (nf c3) (nd c4 (nd c4 (nd c4 (nd c4 (nd c4 (nd c4 (nd c4 (nd c4 (nd c4 (nd c4 (nd c4 (nd c4 (nd (nf c3) (nd c4 (nd (nf c3) (nd ff (nd (spec.NodeOk.l1_1.spec a0 a1 a2 a3 v15_0 K 0 x2 (!x2) _ e3) trivial))))))))))))))))))))))))))))))))))))) (by kernel_rfl)
            · exact .of_step tab mixed [.br true, .call [] [] (one (.bool x1)) [], .br false, .br false, .br false, .br false, .br false, .br false, .call [] [] (one (.bool x2)) [], .br false, .br false, .br false, .br false, .br false, .br false, .br false, .br false, .br false, .br false, .br false, .br false, .br false, .br false, .br false, .br false, .br false, .br false, .br false, .br false, .br false, .loop [] [1, 3, 4, 49, 50, 51, 52, 53, 54, 55, 58, 59, 60, 73] [0, 1, 2] (.exit 2) (spec.NodeOk.l1_1.e1 a0 a1 a2 a3 v15_0 x3)] [] [1, 3] [0, 1, 2] (s1 := spec.NodeOk.l0.s K a0 a1 a2 a3 (w64 (v15_0 + 1))) (nd c1 (nd p1 (nd (of_decide_eq_true c1) (nd (tn p1 (of_decide_eq_true c1)) (nd (spec.NameOk.spec K (a1.getD v15_0.toNat noVal) _ e1) (nd (nf c2) (nd (nf c2) (nd (nf c2) (nd (nf c2) (nd p1 (nd p2 (nd (nf c2) (nd (tn p1 p2) (nd (nf c2) (nd (spec.l1In.spec (a2.getD v15_0.toNat 0) 1 11 _ e2) (nd (nf c2) (nd (nf c2) (nd (nf c3) (nd (nf c3) (nd (nf c3) (nd c4 (nd c4 (nd c4 (nd c4 (nd c4 (nd c4 (nd c4 (nd c4 (nd c4 (nd c4 (nd c4 (nd c4 (nd (nf c3) (nd c4 (nd (nf c3) (nd ff (nd (spec.NodeOk.l1_1.spec a0 a1 a2 a3 v15_0 K 0 x2 (!x2) _ e3) trivial))))))))))))))))))))))))))))))))))))) (by kernel_rfl) (spec.NodeOk.l0.spec K a0 a1 a2 a3 k (w64 (v15_0 + 1)) _ h)
        · obtain rfl := Option.some.inj h
          exact .of_done tab mixed [.br true, .call [] [] (one (.bool x1)) [], .br false, .br false, .br false, .br false, .br false, .br false, .call [] [] (one (.bool x2)) [], .br false, .br false, .br true, .br true, .br true, .br true, .br true, .br true] [] [2] [0, 1] rfl (nd c1 (nd p1 (nd (of_decide_eq_true c1) (nd (tn p1 (of_decide_eq_true c1)) (nd (spec.NameOk.spec K (a1.getD v15_0.toNat noVal) _ e1) (nd (nf c2) (nd (nf c2) (nd (nf c2) (nd (nf c2) (nd p1 (nd p2 (nd (nf c2) (nd (tn p1 p2) (nd (nf c2) (nd (spec.l1In.spec (a2.getD v15_0.toNat 0) 1 11 _ e2) (nd (nf c2) (nd (nf c2) (nd (nt c3) (nd (nt c3) (nd (nt c3) (nd (nt c3) (nd (nt c3) (nd tt trivial))))))))))))))))))))))) (by kernel_rfl)
      · obtain rfl := Option.some.inj h
        exact .of_done tab mixed [.br true, .call [] [] (one (.bool x1)) [], .br true, .br true, .br true, .br true, .br true, .br true, .br true, .br true, .br true, .br true, .br true, .br true, .br true, .br true] [] [2] [0, 1] rfl (nd c1 (nd p1 (nd (of_decide_eq_true c1) (nd (tn p1 (of_decide_eq_true c1)) (nd (spec.NameOk.spec K (a1.getD v15_0.toNat noVal) _ e1) (nd (nt c2) (nd (nt c2) (nd (nt c2) (nd (nt c2) (nd (nt c2) (nd (nt c2) (nd (nt c2) (nd (nt c2) (nd tt (nd tt (nd tt (nd tt (nd tt (nd tt trivial))))))))))))))))))) (by kernel_rfl)
    · obtain rfl := Option.some.inj h
      exact .of_done tab mixed [.br false] [] [] [0, 1] rfl (nd c1 trivial) (by kernel_rfl)
def spec.NodeOk.f (K : Nat) (a0 : Bool) (a1 : List ByteArray) (a2 : List Int) (a3 : ByteArray) : Option (Bool) :=
  cond (a0) (cond ((a1.length : Int) != (a2.length : Int)) (some false) (cond (strEq a3 noVal) (Option.bind (spec.NodeOk.l0.f K a0 a1 a2 a3 K 0) fun x1 => (Sum.elim (fun x1 => some false) (fun x1 => some true)) x1) (some false))) (cond ((w64 ((a1.length : Int) + (a2.length : Int))) == 0) (some (decide ((a3.size : Int) ≤ 60))) (some false))
theorem spec.NodeOk.spec (K : Nat) (a0 : Bool) (a1 : List ByteArray) (a2 : List Int) (a3 : ByteArray) (o : Bool) (h : spec.NodeOk.f K a0 a1 a2 a3 = some o) : Den.Spec Try.prog 94 [.v (.agg [.bool a0, .sl 0 0 a1.length, .sl 1 0 a2.length, .str a3])] [some ⟨false, .strs a1⟩, some ⟨false, .ints .i64 a2⟩] (one (.bool o)) [some ⟨false, .strs a1⟩, some ⟨false, .ints .i64 a2⟩] := by
  unfold spec.NodeOk.f at h
  rcases br_cases h with ⟨c1, h⟩ | ⟨c1, h⟩
  · rcases br_cases h with ⟨c2, h⟩ | ⟨c2, h⟩
    · obtain rfl := Option.some.inj h
      exact Den.Spec.of_walk tab mixed Try.func94 (by kernel_rfl) [.br false, .br true, .br true, .br true, .br true, .br true] [] [0, 1] (nd (nf c1) (nd c2 (nd c2 (nd c2 (nd c2 (nd tt trivial)))))) (by kernel_rfl)
    · rcases br_cases h with ⟨c3, h⟩ | ⟨c3, h⟩
      · obtain ⟨x1, e1, h⟩ := bind_some h
        rcases x1 with x1 | x1
        · obtain rfl := Option.some.inj h
          exact Den.Spec.of_walk tab mixed Try.func94 (by kernel_rfl) [.br false, .br false, .br false, .br false, .br false, .br false, .loop [] [1, 3] [0, 1, 2] (.ret) (spec.NodeOk.l0.e0 K a0 a1 a2 a3 x1)] [] [0, 1] (nd (nf c1) (nd c2 (nd c2 (nd c2 (nd c2 (nd (nf c3) (nd (spec.NodeOk.l0.spec K a0 a1 a2 a3 K 0 _ e1) trivial))))))) (by kernel_rfl)
        · obtain rfl := Option.some.inj h
          exact Den.Spec.of_walk tab mixed Try.func94 (by kernel_rfl) [.br false, .br false, .br false, .br false, .br false, .br false, .loop [] [1, 3] [0, 1, 2] (.exit 0) (spec.NodeOk.l0.e1 K a0 a1 a2 a3 x1)] [] [0, 1] (nd (nf c1) (nd c2 (nd c2 (nd c2 (nd c2 (nd (nf c3) (nd (spec.NodeOk.l0.spec K a0 a1 a2 a3 K 0 _ e1) trivial))))))) (by kernel_rfl)
      · obtain rfl := Option.some.inj h
        exact Den.Spec.of_walk tab mixed Try.func94 (by kernel_rfl) [.br false, .br false, .br false, .br false, .br false, .br true] [] [0, 1] (nd (nf c1) (nd c2 (nd c2 (nd c2 (nd c2 (nd (nt c3) trivial)))))) (by kernel_rfl)
  · rcases br_cases h with ⟨c2, h⟩ | ⟨c2, h⟩
    · obtain rfl := Option.some.inj h
      exact Den.Spec.of_walk tab mixed Try.func94 (by kernel_rfl) [.br true, .br true, .br true, .br true, .br true, .br true] [] [0, 1] (nd (nt c1) (nd c2 (nd c2 (nd c2 (nd c2 (nd c2 trivial)))))) (by kernel_rfl)
    · obtain rfl := Option.some.inj h
      exact Den.Spec.of_walk tab mixed Try.func94 (by kernel_rfl) [.br true, .br false, .br false, .br false, .br false, .br false] [] [0, 1] (nd (nt c1) (nd c2 (nd c2 (nd c2 (nd c2 (nd c2 trivial)))))) (by kernel_rfl)
def spec.NodeText.l0.f (a0 : Bool) (a1 : List ByteArray) (a2 : List Int) (a3 : ByteArray) : Nat → ByteArray → Int → Option (ByteArray)
  | 0, _, _ => none
  | k + 1, v21_0, v21_1 =>
    cond (decide (v21_1 < (a1.length : Int))) (ck (0 ≤ v21_1) (ck (((v21_0.size + (a1.getD v21_1.toNat noVal).size : Nat) : Int) ≤ 9223372036854775807) (ck ((((v21_0 ++ (a1.getD v21_1.toNat noVal)).size + (ByteArray.mk #[61]).size : Nat) : Int) ≤ 9223372036854775807) (ck (v21_1 < (a2.length : Int)) (ck (((((v21_0 ++ (a1.getD v21_1.toNat noVal)) ++ (ByteArray.mk #[61])).size + (ofBytes [IntKind.u8.wrap (w64 (48 + (a2.getD v21_1.toNat 0)))]).size : Nat) : Int) ≤ 9223372036854775807) (spec.NodeText.l0.f a0 a1 a2 a3 k (((v21_0 ++ (a1.getD v21_1.toNat noVal)) ++ (ByteArray.mk #[61])) ++ (ofBytes [IntKind.u8.wrap (w64 (48 + (a2.getD v21_1.toNat 0)))])) (w64 (v21_1 + 1)))))))) (some v21_0)
def spec.NodeText.l0.s (a0 : Bool) (a1 : List ByteArray) (a2 : List Int) (a3 : ByteArray) (v21_0 : ByteArray) (v21_1 : Int) : St := mkSt 40 [(1, one (.ptr 2 0 0)), (3, one (.str v21_0)), (4, one (.int .i64 v21_1))] [some ⟨false, .strs a1⟩, some ⟨false, .ints .i64 a2⟩, some ⟨true, .cells [.bool a0, .sl 0 0 a1.length, .sl 1 0 a2.length, .str a3]⟩]
def spec.NodeText.l0.e0 (a0 : Bool) (a1 : List ByteArray) (a2 : List Int) (a3 : ByteArray) (o : ByteArray) : St := mkSt 40 [(3, one (.str o))] [some ⟨false, .strs a1⟩, some ⟨false, .ints .i64 a2⟩]
def spec.NodeText.l0.x (a0 : Bool) (a1 : List ByteArray) (a2 : List Int) (a3 : ByteArray) : (ByteArray) → AExit × St := fun o => (.exit 0, spec.NodeText.l0.e0 a0 a1 a2 a3 o)
theorem spec.NodeText.l0.spec (a0 : Bool) (a1 : List ByteArray) (a2 : List Int) (a3 : ByteArray) : ∀ (k : Nat) (v21_0 : ByteArray) (v21_1 : Int) (o : ByteArray), spec.NodeText.l0.f a0 a1 a2 a3 k v21_0 v21_1 = some o → LoopSpec Try.prog 2 (loopN Try.f36 0) (spec.NodeText.l0.s a0 a1 a2 a3 v21_0 v21_1) (spec.NodeText.l0.x a0 a1 a2 a3 o).1 (spec.NodeText.l0.x a0 a1 a2 a3 o).2
  | 0, _, _, _, h => by cases h
  | k + 1, v21_0, v21_1, o, h => by
    unfold spec.NodeText.l0.f at h
    rcases br_cases h with ⟨c1, h⟩ | ⟨c1, h⟩
    · obtain ⟨p1, h⟩ := ck_some h
      obtain ⟨p2, h⟩ := ck_some h
      obtain ⟨p3, h⟩ := ck_some h
      obtain ⟨p4, h⟩ := ck_some h
      obtain ⟨p5, h⟩ := ck_some h
      exact .of_step tab mixed [.br true, .br true] [] [1, 3, 4] [0, 1, 2] (s1 := spec.NodeText.l0.s a0 a1 a2 a3 (((v21_0 ++ (a1.getD v21_1.toNat noVal)) ++ (ByteArray.mk #[61])) ++ (ofBytes [IntKind.u8.wrap (w64 (48 + (a2.getD v21_1.toNat 0)))])) (w64 (v21_1 + 1))) (nd c1 (nd p1 (nd (of_decide_eq_true c1) (nd (tn p1 (of_decide_eq_true c1)) (nd p2 (nd p3 (nd p1 (nd p4 (nd (tn p1 p4) (nd (rfl : (0 : Nat) = 0) (nd (rfl : 1 = 1) (nd p5 trivial)))))))))))) (by kernel_rfl) (spec.NodeText.l0.spec a0 a1 a2 a3 k (((v21_0 ++ (a1.getD v21_1.toNat noVal)) ++ (ByteArray.mk #[61])) ++ (ofBytes [IntKind.u8.wrap (w64 (48 + (a2.getD v21_1.toNat 0)))])) (w64 (v21_1 + 1)) _ h)
    · obtain rfl := Option.some.inj h
      exact .of_done tab mixed [.br false] [] [3] [0, 1] rfl (nd c1 trivial) (by kernel_rfl)
def spec.NodeText.f (K : Nat) (a0 : Bool) (a1 : List ByteArray) (a2 : List Int) (a3 : ByteArray) : Option (ByteArray) :=
  Option.bind (spec.NodeOk.f K a0 a1 a2 a3) fun x1 => cond (x1) (cond (a0) (Option.bind (spec.NodeText.l0.f a0 a1 a2 a3 K (ByteArray.mk #[100]) 0) fun x2 => some x2) (ck ((((ByteArray.mk #[102]).size + a3.size : Nat) : Int) ≤ 9223372036854775807) (some ((ByteArray.mk #[102]) ++ a3)))) (some noVal)
theorem spec.NodeText.spec (K : Nat) (a0 : Bool) (a1 : List ByteArray) (a2 : List Int) (a3 : ByteArray) (o : ByteArray) (h : spec.NodeText.f K a0 a1 a2 a3 = some o) : Den.Spec Try.prog 36 [.v (.agg [.bool a0, .sl 0 0 a1.length, .sl 1 0 a2.length, .str a3])] [some ⟨false, .strs a1⟩, some ⟨false, .ints .i64 a2⟩] (one (.str o)) [some ⟨false, .strs a1⟩, some ⟨false, .ints .i64 a2⟩] := by
  unfold spec.NodeText.f at h
  obtain ⟨x1, e1, h⟩ := bind_some h
  rcases br_cases h with ⟨c1, h⟩ | ⟨c1, h⟩
  · rcases br_cases h with ⟨c2, h⟩ | ⟨c2, h⟩
    · obtain ⟨x2, e2, h⟩ := bind_some h
      obtain rfl := Option.some.inj h
      exact Den.Spec.of_walk tab mixed Try.func36 (by kernel_rfl) [.call [(0, false), (1, false)] [] (one (.bool x1)) [some ⟨false, .strs a1⟩, some ⟨false, .ints .i64 a2⟩], .br false, .br false, .loop [] [1, 3, 4] [0, 1, 2] (.exit 0) (spec.NodeText.l0.e0 a0 a1 a2 a3 x2)] [] [0, 1] (nd (spec.NodeOk.spec K a0 a1 a2 a3 _ e1) (nd (nf c1) (nd (nf c2) (nd (spec.NodeText.l0.spec a0 a1 a2 a3 K (ByteArray.mk #[100]) 0 _ e2) trivial)))) (by kernel_rfl)
    · obtain ⟨p1, h⟩ := ck_some h
      obtain rfl := Option.some.inj h
      exact Den.Spec.of_walk tab mixed Try.func36 (by kernel_rfl) [.call [(0, false), (1, false)] [] (one (.bool x1)) [some ⟨false, .strs a1⟩, some ⟨false, .ints .i64 a2⟩], .br false, .br true] [] [0, 1] (nd (spec.NodeOk.spec K a0 a1 a2 a3 _ e1) (nd (nf c1) (nd (nt c2) (nd p1 trivial)))) (by kernel_rfl)
  · obtain rfl := Option.some.inj h
    exact Den.Spec.of_walk tab mixed Try.func36 (by kernel_rfl) [.call [(0, false), (1, false)] [] (one (.bool x1)) [some ⟨false, .strs a1⟩, some ⟨false, .ints .i64 a2⟩], .br true] [] [0, 1] (nd (spec.NodeOk.spec K a0 a1 a2 a3 _ e1) (nd (nt c1) trivial)) (by kernel_rfl)
def spec.NodeRead.l0.f (a0 : ByteArray) : Nat → (List ByteArray) → (List Int) → Int → Int → Option ((List ByteArray) × (List Int))
  | 0, _, _, _, _ => none
  | k + 1, v24_0, v24_1, v24_2, v24_3 =>
    cond (decide ((w64 (v24_3 + 1)) < (a0.size : Int))) (ck (0 ≤ v24_3) (ck (v24_3 < (a0.size : Int)) (cond ((byteAt a0 v24_3) == 61) (ck (0 ≤ v24_2) (ck (v24_2 ≤ v24_3) (ck (v24_3 ≤ (a0.size : Int)) (ck ((v24_0 ++ [a0.extract v24_2.toNat v24_3.toNat]).length * 16 ≤ 70368744177664) (ck (0 ≤ (w64 (v24_3 + 1))) (ck ((v24_1 ++ [w64 ((w64 (byteAt a0 (w64 (v24_3 + 1)))) - 48)]).length * 8 ≤ 70368744177664) (spec.NodeRead.l0.f a0 k (v24_0 ++ [a0.extract v24_2.toNat v24_3.toNat]) (v24_1 ++ [w64 ((w64 (byteAt a0 (w64 (v24_3 + 1)))) - 48)]) (w64 (v24_3 + 2)) (w64 ((w64 (v24_3 + 1)) + 1))))))))) (spec.NodeRead.l0.f a0 k v24_0 v24_1 v24_2 (w64 (v24_3 + 1)))))) (some (v24_0, v24_1))
def spec.NodeRead.l0.s (a0 : ByteArray) (v24_0 : List ByteArray) (v24_1 : List Int) (v24_2 : Int) (v24_3 : Int) : St := mkSt 59 [(0, one (.str a0)), (2, one (.ptr 0 0 0)), (4, one (.ptr 3 0 0)), (5, one (.int .i64 v24_2)), (6, one (.int .i64 v24_3))] [some ⟨true, .cells [.bool false, .sl 1 0 0, .sl 2 0 0, .str noVal]⟩, some ⟨true, .strs []⟩, some ⟨true, .ints .i64 []⟩, some ⟨true, .cells [.bool true, .sl 4 0 v24_0.length, .sl 5 0 v24_1.length, .str noVal]⟩, some ⟨true, .strs v24_0⟩, some ⟨true, .ints .i64 v24_1⟩]
def spec.NodeRead.l0.e0 (a0 : ByteArray) (o : (List ByteArray) × (List Int)) : St := mkSt 59 [(0, one (.str a0)), (2, one (.ptr 0 0 0)), (4, one (.ptr 3 0 0))] [some ⟨true, .cells [.bool false, .sl 1 0 0, .sl 2 0 0, .str noVal]⟩, some ⟨true, .strs []⟩, some ⟨true, .ints .i64 []⟩, some ⟨true, .cells [.bool true, .sl 4 0 o.1.length, .sl 5 0 o.2.length, .str noVal]⟩, some ⟨true, .strs o.1⟩, some ⟨true, .ints .i64 o.2⟩]
def spec.NodeRead.l0.x (a0 : ByteArray) : ((List ByteArray) × (List Int)) → AExit × St := fun o => (.exit 0, spec.NodeRead.l0.e0 a0 o)
theorem spec.NodeRead.l0.spec (a0 : ByteArray) : ∀ (k : Nat) (v24_0 : List ByteArray) (v24_1 : List Int) (v24_2 : Int) (v24_3 : Int) (o : (List ByteArray) × (List Int)), spec.NodeRead.l0.f a0 k v24_0 v24_1 v24_2 v24_3 = some o → LoopSpec Try.prog 0 (loopN Try.f56 0) (spec.NodeRead.l0.s a0 v24_0 v24_1 v24_2 v24_3) (spec.NodeRead.l0.x a0 o).1 (spec.NodeRead.l0.x a0 o).2
  | 0, _, _, _, _, _, h => by cases h
  | k + 1, v24_0, v24_1, v24_2, v24_3, o, h => by
    unfold spec.NodeRead.l0.f at h
    rcases br_cases h with ⟨c1, h⟩ | ⟨c1, h⟩
    · obtain ⟨p1, h⟩ := ck_some h
      obtain ⟨p2, h⟩ := ck_some h
      rcases br_cases h with ⟨c2, h⟩ | ⟨c2, h⟩
      · obtain ⟨p3, h⟩ := ck_some h
        obtain ⟨p4, h⟩ := ck_some h
        obtain ⟨p5, h⟩ := ck_some h
        obtain ⟨p6, h⟩ := ck_some h
        obtain ⟨p7, h⟩ := ck_some h
        obtain ⟨p8, h⟩ := ck_some h
        exact .of_step tab mixed [.br true, .br true, .br true, .br true] [] [0, 2, 4, 5, 6] [0, 1, 2, 3, 62, 158] (s1 := spec.NodeRead.l0.s a0 (v24_0 ++ [a0.extract v24_2.toNat v24_3.toNat]) (v24_1 ++ [w64 ((w64 (byteAt a0 (w64 (v24_3 + 1)))) - 48)]) (w64 (v24_3 + 2)) (w64 ((w64 (v24_3 + 1)) + 1))) (nd c1 (nd p1 (nd p2 (nd c2 (nd p3 (nd p4 (nd p5 (nd (rfl : (0 : Nat) = 0) (nd (rfl : v24_0.length = v24_0.length) (nd p6 (nd (rfl : (0 : Nat) = 0) (nd (rfl : 1 = 1) (nd p7 (nd (of_decide_eq_true c1) (nd (rfl : (0 : Nat) = 0) (nd (rfl : v24_1.length = v24_1.length) (nd p8 (nd (rfl : (0 : Nat) = 0) (nd (rfl : 1 = 1) trivial))))))))))))))))))) (by kernel_rfl) (spec.NodeRead.l0.spec a0 k (v24_0 ++ [a0.extract v24_2.toNat v24_3.toNat]) (v24_1 ++ [w64 ((w64 (byteAt a0 (w64 (v24_3 + 1)))) - 48)]) (w64 (v24_3 + 2)) (w64 ((w64 (v24_3 + 1)) + 1)) _ h)
      · exact .of_step tab mixed [.br true, .br false] [] [0, 2, 4, 5, 6] [0, 1, 2, 3, 4, 5] (s1 := spec.NodeRead.l0.s a0 v24_0 v24_1 v24_2 (w64 (v24_3 + 1))) (nd c1 (nd p1 (nd p2 (nd c2 trivial)))) (by kernel_rfl) (spec.NodeRead.l0.spec a0 k v24_0 v24_1 v24_2 (w64 (v24_3 + 1)) _ h)
    · obtain rfl := Option.some.inj h
      exact .of_done tab mixed [.br false] [] [0, 2, 4] [0, 1, 2, 3, 4, 5] rfl (nd c1 trivial) (by kernel_rfl)
def spec.NodeRead.f (K : Nat) (a0 : ByteArray) : Option (Bool × (List ByteArray) × (List Int) × ByteArray × Bool) :=
  cond (strEq a0 noVal) (some (false, [], [], noVal, false)) (ck (0 < (a0.size : Int)) (cond ((byteAt a0 0) == 102) (ck (1 ≤ (a0.size : Int)) (Option.bind (spec.NodeText.f K false [] [] (a0.extract 1 a0.size)) fun x1 => cond (strEq x1 a0) (some (false, [], [], a0.extract 1 a0.size, true)) (some (false, [], [], noVal, false)))) (Option.bind (spec.NodeRead.l0.f a0 K [] [] 1 1) fun x1 => Option.bind (spec.NodeText.f K true x1.1 x1.2 noVal) fun x2 => cond (strEq x2 a0) (some (true, x1.1, x1.2, noVal, true)) (some (false, [], [], noVal, false)))))
theorem spec.NodeRead.spec (K : Nat) (a0 : ByteArray) (o : Bool × (List ByteArray) × (List Int) × ByteArray × Bool) (h : spec.NodeRead.f K a0 = some o) : Den.Spec Try.prog 56 [one (.str a0)] [] (.tup [.agg [.bool o.1, .sl 0 0 o.2.1.length, .sl 1 0 o.2.2.1.length, .str o.2.2.2.1], .c (.bool o.2.2.2.2)]) [some ⟨true, .strs o.2.1⟩, some ⟨true, .ints .i64 o.2.2.1⟩] := by
  unfold spec.NodeRead.f at h
  rcases br_cases h with ⟨c1, h⟩ | ⟨c1, h⟩
  · obtain rfl := Option.some.inj h
    exact Den.Spec.of_walk tab mixed Try.func56 (by kernel_rfl) [.br true] [] [6, 7] (nd c1 trivial) (by kernel_rfl)
  · obtain ⟨p1, h⟩ := ck_some h
    rcases br_cases h with ⟨c2, h⟩ | ⟨c2, h⟩
    · obtain ⟨p2, h⟩ := ck_some h
      obtain ⟨x1, e1, h⟩ := bind_some h
      rcases br_cases h with ⟨c3, h⟩ | ⟨c3, h⟩
      · obtain rfl := Option.some.inj h
        exact Den.Spec.of_walk tab mixed Try.func56 (by kernel_rfl) [.br false, .br true, .call [(6, false), (7, false)] [] (one (.str x1)) [some ⟨false, .strs []⟩, some ⟨false, .ints .i64 []⟩], .br false] [] [6, 7] (nd c1 (nd (Int.le_refl 0) (nd p1 (nd c2 (nd (by decide : (0 : Int) ≤ 1) (nd p2 (nd (Int.le_refl (a0.size : Int)) (nd (spec.NodeText.spec K false [] [] (a0.extract 1 a0.size) _ e1) (nd (nf c3) trivial))))))))) (by kernel_rfl)
      · obtain rfl := Option.some.inj h
        exact Den.Spec.of_walk tab mixed Try.func56 (by kernel_rfl) [.br false, .br true, .call [(6, false), (7, false)] [] (one (.str x1)) [some ⟨false, .strs []⟩, some ⟨false, .ints .i64 []⟩], .br true] [] [8, 9] (nd c1 (nd (Int.le_refl 0) (nd p1 (nd c2 (nd (by decide : (0 : Int) ≤ 1) (nd p2 (nd (Int.le_refl (a0.size : Int)) (nd (spec.NodeText.spec K false [] [] (a0.extract 1 a0.size) _ e1) (nd (nt c3) trivial))))))))) (by kernel_rfl)
    · obtain ⟨x1, e1, h⟩ := bind_some h
      obtain ⟨x2, e2, h⟩ := bind_some h
      rcases br_cases h with ⟨c3, h⟩ | ⟨c3, h⟩
      · obtain rfl := Option.some.inj h
        exact Den.Spec.of_walk tab mixed Try.func56 (by kernel_rfl) [.br false, .br false, .loop [] [0, 2, 4, 5, 6] [0, 1, 2, 3, 6, 7] (.exit 0) (spec.NodeRead.l0.e0 a0 x1), .call [(4, false), (5, false)] [] (one (.str x2)) [some ⟨false, .strs x1.1⟩, some ⟨false, .ints .i64 x1.2⟩], .br false] [] [4, 5] (nd c1 (nd (Int.le_refl 0) (nd p1 (nd c2 (nd (spec.NodeRead.l0.spec a0 K [] [] 1 1 _ e1) (nd (spec.NodeText.spec K true x1.1 x1.2 noVal _ e2) (nd (nf c3) trivial))))))) (by kernel_rfl)
      · obtain rfl := Option.some.inj h
        exact Den.Spec.of_walk tab mixed Try.func56 (by kernel_rfl) [.br false, .br false, .loop [] [0, 2, 4, 5, 6] [0, 1, 2, 3, 6, 7] (.exit 0) (spec.NodeRead.l0.e0 a0 x1), .call [(4, false), (5, false)] [] (one (.str x2)) [some ⟨false, .strs x1.1⟩, some ⟨false, .ints .i64 x1.2⟩], .br true] [] [6, 7] (nd c1 (nd (Int.le_refl 0) (nd p1 (nd c2 (nd (spec.NodeRead.l0.spec a0 K [] [] 1 1 _ e1) (nd (spec.NodeText.spec K true x1.1 x1.2 noVal _ e2) (nd (nt c3) trivial))))))) (by kernel_rfl)
def spec.l9Go.f (a0 : List ByteArray) (a1 : List Bool) (a2 : Int) : Option (Unit) :=
  ck (0 ≤ a2) (ck (a2 < (a1.length : Int)) (cond (a1.getD a2.toNat false) (some ()) (some ())))
theorem spec.l9Go.spec (a0 : List ByteArray) (a1 : List Bool) (a2 : Int) (o : Unit) (h : spec.l9Go.f a0 a1 a2 = some o) : Den.Spec Try.prog 114 [one (.sl 0 0 a0.length), one (.sl 1 0 a1.length), one (.int .i64 a2), one (.int .i64 5)] [some ⟨false, .strs a0⟩, some ⟨false, .bools a1⟩] (one (.bool false)) [some ⟨false, .strs a0⟩, some ⟨false, .bools a1⟩] := by
  unfold spec.l9Go.f at h
  obtain ⟨p1, h⟩ := ck_some h
  obtain ⟨p2, h⟩ := ck_some h
  rcases br_cases h with ⟨c1, h⟩ | ⟨c1, h⟩
  · obtain rfl := Option.some.inj h
    exact Den.Spec.of_walk tab mixed Try.func114 (by kernel_rfl) [.br true, .br true, .br true, .br true] [] [0, 1] (nd p1 (nd p2 (nd (tn p1 p2) (nd c1 (nd c1 (nd c1 (nd tt trivial))))))) (by kernel_rfl)
  · obtain rfl := Option.some.inj h
    exact Den.Spec.of_walk tab mixed Try.func114 (by kernel_rfl) [.br false, .br false, .br false, .br true] [] [0, 1] (nd p1 (nd p2 (nd (tn p1 p2) (nd c1 (nd c1 (nd c1 (nd tt trivial))))))) (by kernel_rfl)
def spec.l9Go_1.l0.f (a0 : List ByteArray) (a1 : List Bool) (a2 : Int) : Nat → Bool → (List ByteArray) → (List Int) → ByteArray → Option (Unit ⊕ Unit)
  | 0, _, _, _, _ => none
  | k + 1, v32_0, v32_1, v32_2, v32_3 =>
    cond (decide (0 < (v32_2.length : Int))) (ck (0 < v32_2.length) (Option.bind (spec.l9Go.f a0 (a1.set a2.toNat true) (v32_2.getD 0 0)) fun x1 => some (.inl ()))) (some (.inr (())))
def spec.l9Go_1.l0.s (a0 : List ByteArray) (a1 : List Bool) (a2 : Int) (v32_0 : Bool) (v32_1 : List ByteArray) (v32_2 : List Int) (v32_3 : ByteArray) : St := mkSt 51 [(0, one (.sl 1 0 a0.length)), (1, one (.sl 0 0 ((a1.set a2.toNat true).length))), (3, one (.int .i64 4)), (9, one (.ptr 2 0 0)), (11, one (.int .i64 0))] [some ⟨true, .bools (a1.set a2.toNat true)⟩, some ⟨false, .strs a0⟩, some ⟨true, .cells [.bool v32_0, .sl 3 0 v32_1.length, .sl 4 0 v32_2.length, .str v32_3]⟩, some ⟨true, .strs v32_1⟩, some ⟨true, .ints .i64 v32_2⟩]
def spec.l9Go_1.l0.e0 (a0 : List ByteArray) (a1 : List Bool) (a2 : Int) (o : Unit) : St := mkSt 51 [(8, one (.bool false))] [some ⟨true, .bools (a1.set a2.toNat true)⟩, some ⟨false, .strs a0⟩]
def spec.l9Go_1.l0.e1 (a0 : List ByteArray) (a1 : List Bool) (a2 : Int) (o : Unit) : St := mkSt 51 [] [some ⟨true, .bools (a1.set a2.toNat true)⟩, some ⟨false, .strs a0⟩]
def spec.l9Go_1.l0.x (a0 : List ByteArray) (a1 : List Bool) (a2 : Int) : (Unit ⊕ Unit) → AExit × St := Sum.elim (fun o => (.ret, spec.l9Go_1.l0.e0 a0 a1 a2 o)) (fun o => (.exit 0, spec.l9Go_1.l0.e1 a0 a1 a2 o))
theorem spec.l9Go_1.l0.spec (a0 : List ByteArray) (a1 : List Bool) (a2 : Int) : ∀ (k : Nat) (v32_0 : Bool) (v32_1 : List ByteArray) (v32_2 : List Int) (v32_3 : ByteArray) (o : Unit ⊕ Unit), spec.l9Go_1.l0.f a0 a1 a2 k v32_0 v32_1 v32_2 v32_3 = some o → LoopSpec Try.prog 2 (loopN Try.f114 0) (spec.l9Go_1.l0.s a0 a1 a2 v32_0 v32_1 v32_2 v32_3) (spec.l9Go_1.l0.x a0 a1 a2 o).1 (spec.l9Go_1.l0.x a0 a1 a2 o).2
  | 0, _, _, _, _, _, h => by cases h
  | k + 1, v32_0, v32_1, v32_2, v32_3, o, h => by
    unfold spec.l9Go_1.l0.f at h
    rcases br_cases h with ⟨c1, h⟩ | ⟨c1, h⟩
    · obtain ⟨p1, h⟩ := ck_some h
      obtain ⟨x1, e1, h⟩ := bind_some h
      obtain rfl := Option.some.inj h
      exact .of_done tab mixed [.br true, .call [] [(0, true), (1, true)] (one (.bool false)) [some ⟨false, .strs a0⟩, some ⟨false, .bools (a1.set a2.toNat true)⟩], .br true] [] [8] [0, 1] rfl (nd c1 (nd (Int.le_refl 0) (nd (of_decide_eq_true c1) (nd p1 (nd (spec.l9Go.spec a0 (a1.set a2.toNat true) (v32_2.getD 0 0) _ e1) (nd (rfl : (0 : Nat) = 0) (nd (rfl : a0.length = a0.length) (nd (rfl : (0 : Nat) = 0) (nd (rfl : (a1.set a2.toNat true).length = (a1.set a2.toNat true).length) (nd tt trivial)))))))))) (by kernel_rfl)
    · obtain rfl := Option.some.inj h
      exact .of_done tab mixed [.br false] [] [] [0, 1] rfl (nd c1 trivial) (by kernel_rfl)
def spec.l9Go_1.f (K : Nat) (a0 : List ByteArray) (a1 : List Bool) (a2 : Int) : Option (Bool × (List Bool)) :=
  ck (0 ≤ a2) (ck (a2 < (a1.length : Int)) (cond (a1.getD a2.toNat false) (some (false, a1)) (ck (a2 < (a0.length : Int)) (Option.bind (spec.NodeRead.f K (a0.getD a2.toNat noVal)) fun x1 => cond (x1.2.2.2.2) (Option.bind (spec.l9Go_1.l0.f a0 a1 a2 K x1.1 x1.2.1 x1.2.2.1 x1.2.2.2.1) fun x2 => (Sum.elim (fun x2 => some (false, a1.set a2.toNat true)) (fun x2 => some (true, a1.set a2.toNat true))) x2) (some (false, a1.set a2.toNat true))))))
theorem spec.l9Go_1.spec (K : Nat) (a0 : List ByteArray) (a1 : List Bool) (a2 : Int) (o : Bool × (List Bool)) (h : spec.l9Go_1.f K a0 a1 a2 = some o) : Den.Spec Try.prog 114 [one (.sl 1 0 a0.length), one (.sl 0 0 a1.length), one (.int .i64 a2), one (.int .i64 4)] [some ⟨true, .bools a1⟩, some ⟨false, .strs a0⟩] (one (.bool o.1)) [some ⟨true, .bools o.2⟩, some ⟨false, .strs a0⟩] := by
  unfold spec.l9Go_1.f at h
  obtain ⟨p1, h⟩ := ck_some h
  obtain ⟨p2, h⟩ := ck_some h
  rcases br_cases h with ⟨c1, h⟩ | ⟨c1, h⟩
  · obtain rfl := Option.some.inj h
    exact Den.Spec.of_walk tab mixed Try.func114 (by kernel_rfl) [.br true, .br true, .br true, .br true] [] [0, 1] (nd p1 (nd p2 (nd (tn p1 p2) (nd c1 (nd c1 (nd c1 (nd tt trivial))))))) (by kernel_rfl)
  · obtain ⟨p3, h⟩ := ck_some h
    obtain ⟨x1, e1, h⟩ := bind_some h
    rcases br_cases h with ⟨c2, h⟩ | ⟨c2, h⟩
    · obtain ⟨x2, e2, h⟩ := bind_some h
      rcases x2 with x2 | x2
      · obtain rfl := Option.some.inj h
        exact Den.Spec.of_walk tab mixed Try.func114 (by kernel_rfl) [.br false, .br false, .br false, .br false, .call [] [] (.tup [.agg [.bool x1.1, .sl 0 0 x1.2.1.length, .sl 1 0 x1.2.2.1.length, .str x1.2.2.2.1], .c (.bool x1.2.2.2.2)]) [some ⟨true, .strs x1.2.1⟩, some ⟨true, .ints .i64 x1.2.2.1⟩], .br false, .loop [] [0, 1, 3, 9, 11] [0, 1, 4, 2, 3] (.ret) (spec.l9Go_1.l0.e0 a0 a1 a2 x2)] [] [0, 1] (nd p1 (nd p2 (nd (tn p1 p2) (nd c1 (nd c1 (nd c1 (nd ff (nd p1 (nd p2 (nd (tn p1 p2) (nd p1 (nd p3 (nd (tn p1 p3) (nd (spec.NodeRead.spec K (a0.getD a2.toNat noVal) _ e1) (nd (nf c2) (nd (LoopSpec.eqs (spec.l9Go_1.l0.spec a0 a1 a2 K x1.1 x1.2.1 x1.2.2.1 x1.2.2.2.1 _ e2) (by simp only [spec.l9Go_1.l0.s, List.length_set, overL_length] : spec.l9Go_1.l0.s a0 a1 a2 x1.1 x1.2.1 x1.2.2.1 x1.2.2.2.1 = mkSt 51 [(0, one (.sl 1 0 a0.length)), (1, one (.sl 0 0 a1.length)), (3, one (.int .i64 4)), (9, one (.ptr 2 0 0)), (11, one (.int .i64 0))] [some ⟨true, .bools (a1.set a2.toNat true)⟩, some ⟨false, .strs a0⟩, some ⟨true, .cells [.bool x1.1, .sl 3 0 x1.2.1.length, .sl 4 0 x1.2.2.1.length, .str x1.2.2.2.1]⟩, some ⟨true, .strs x1.2.1⟩, some ⟨true, .ints .i64 x1.2.2.1⟩])) trivial)))))))))))))))) (by kernel_rfl)
      · obtain rfl := Option.some.inj h
        exact Den.Spec.of_walk tab mixed Try.func114 (by kernel_rfl) [.br false, .br false, .br false, .br false, .call [] [] (.tup [.agg [.bool x1.1, .sl 0 0 x1.2.1.length, .sl 1 0 x1.2.2.1.length, .str x1.2.2.2.1], .c (.bool x1.2.2.2.2)]) [some ⟨true, .strs x1.2.1⟩, some ⟨true, .ints .i64 x1.2.2.1⟩], .br false, .loop [] [0, 1, 3, 9, 11] [0, 1, 4, 2, 3] (.exit 0) (spec.l9Go_1.l0.e1 a0 a1 a2 x2)] [] [0, 1] (nd p1 (nd p2 (nd (tn p1 p2) (nd c1 (nd c1 (nd c1 (nd ff (nd p1 (nd p2 (nd (tn p1 p2) (nd p1 (nd p3 (nd (tn p1 p3) (nd (spec.NodeRead.spec K (a0.getD a2.toNat noVal) _ e1) (nd (nf c2) (nd (LoopSpec.eqs (spec.l9Go_1.l0.spec a0 a1 a2 K x1.1 x1.2.1 x1.2.2.1 x1.2.2.2.1 _ e2) (by simp only [spec.l9Go_1.l0.s, List.length_set, overL_length] : spec.l9Go_1.l0.s a0 a1 a2 x1.1 x1.2.1 x1.2.2.1 x1.2.2.2.1 = mkSt 51 [(0, one (.sl 1 0 a0.length)), (1, one (.sl 0 0 a1.length)), (3, one (.int .i64 4)), (9, one (.ptr 2 0 0)), (11, one (.int .i64 0))] [some ⟨true, .bools (a1.set a2.toNat true)⟩, some ⟨false, .strs a0⟩, some ⟨true, .cells [.bool x1.1, .sl 3 0 x1.2.1.length, .sl 4 0 x1.2.2.1.length, .str x1.2.2.2.1]⟩, some ⟨true, .strs x1.2.1⟩, some ⟨true, .ints .i64 x1.2.2.1⟩])) trivial)))))))))))))))) (by kernel_rfl)
    · obtain rfl := Option.some.inj h
      exact Den.Spec.of_walk tab mixed Try.func114 (by kernel_rfl) [.br false, .br false, .br false, .br false, .call [] [] (.tup [.agg [.bool x1.1, .sl 0 0 x1.2.1.length, .sl 1 0 x1.2.2.1.length, .str x1.2.2.2.1], .c (.bool x1.2.2.2.2)]) [some ⟨true, .strs x1.2.1⟩, some ⟨true, .ints .i64 x1.2.2.1⟩], .br true] [] [0, 1] (nd p1 (nd p2 (nd (tn p1 p2) (nd c1 (nd c1 (nd c1 (nd ff (nd p1 (nd p2 (nd (tn p1 p2) (nd p1 (nd p3 (nd (tn p1 p3) (nd (spec.NodeRead.spec K (a0.getD a2.toNat noVal) _ e1) (nd (nt c2) trivial))))))))))))))) (by kernel_rfl)
def spec.l9Go_2.l0.f (K : Nat) (a0 : List ByteArray) : Nat → (List Bool) → Nat → Bool → (List ByteArray) → (List Int) → ByteArray → Int → Option ((List Bool) ⊕ (List Bool))
  | 0, _, _, _, _, _, _, _ => none
  | k + 1, v34_0, v34_1, v34_2, v34_3, v34_4, v34_5, v34_6 =>
    cond (decide (v34_6 < (v34_4.length : Int))) (ck (0 ≤ v34_6) (ck (v34_1 = v34_0.length) (Option.bind (spec.l9Go_1.f K a0 v34_0 (v34_4.getD v34_6.toNat 0)) fun x1 => cond (x1.1) (spec.l9Go_2.l0.f K a0 k x1.2 v34_1 v34_2 v34_3 v34_4 v34_5 (w64 (v34_6 + 1))) (some (.inl x1.2))))) (some (.inr (v34_0)))
def spec.l9Go_2.l0.s (K : Nat) (a0 : List ByteArray) (v34_0 : List Bool) (v34_1 : Nat) (v34_2 : Bool) (v34_3 : List ByteArray) (v34_4 : List Int) (v34_5 : ByteArray) (v34_6 : Int) : St := mkSt 51 [(0, one (.sl 1 0 a0.length)), (1, one (.sl 0 0 v34_1)), (3, one (.int .i64 3)), (9, one (.ptr 2 0 0)), (11, one (.int .i64 v34_6))] [some ⟨true, .bools v34_0⟩, some ⟨false, .strs a0⟩, some ⟨true, .cells [.bool v34_2, .sl 3 0 v34_3.length, .sl 4 0 v34_4.length, .str v34_5]⟩, some ⟨true, .strs v34_3⟩, some ⟨true, .ints .i64 v34_4⟩]
def spec.l9Go_2.l0.e0 (K : Nat) (a0 : List ByteArray) (o : (List Bool)) : St := mkSt 51 [(8, one (.bool false))] [some ⟨true, .bools o⟩, some ⟨false, .strs a0⟩]
def spec.l9Go_2.l0.e1 (K : Nat) (a0 : List ByteArray) (o : (List Bool)) : St := mkSt 51 [] [some ⟨true, .bools o⟩, some ⟨false, .strs a0⟩]
def spec.l9Go_2.l0.x (K : Nat) (a0 : List ByteArray) : ((List Bool) ⊕ (List Bool)) → AExit × St := Sum.elim (fun o => (.ret, spec.l9Go_2.l0.e0 K a0 o)) (fun o => (.exit 0, spec.l9Go_2.l0.e1 K a0 o))
theorem spec.l9Go_2.l0.spec (K : Nat) (a0 : List ByteArray) : ∀ (k : Nat) (v34_0 : List Bool) (v34_1 : Nat) (v34_2 : Bool) (v34_3 : List ByteArray) (v34_4 : List Int) (v34_5 : ByteArray) (v34_6 : Int) (o : (List Bool) ⊕ (List Bool)), spec.l9Go_2.l0.f K a0 k v34_0 v34_1 v34_2 v34_3 v34_4 v34_5 v34_6 = some o → LoopSpec Try.prog 2 (loopN Try.f114 0) (spec.l9Go_2.l0.s K a0 v34_0 v34_1 v34_2 v34_3 v34_4 v34_5 v34_6) (spec.l9Go_2.l0.x K a0 o).1 (spec.l9Go_2.l0.x K a0 o).2
  | 0, _, _, _, _, _, _, _, _, h => by cases h
  | k + 1, v34_0, v34_1, v34_2, v34_3, v34_4, v34_5, v34_6, o, h => by
    unfold spec.l9Go_2.l0.f at h
    rcases br_cases h with ⟨c1, h⟩ | ⟨c1, h⟩
    · obtain ⟨p1, h⟩ := ck_some h
      obtain ⟨p2, h⟩ := ck_some h
      obtain ⟨x1, e1, h⟩ := bind_some h
      rcases br_cases h with ⟨c2, h⟩ | ⟨c2, h⟩
      · exact .of_step tab mixed [.br true, .call [(0, true)] [(0, true)] (one (.bool x1.1)) [some ⟨true, .bools x1.2⟩, some ⟨false, .strs a0⟩], .br false] [] [0, 1, 3, 9, 11] [0, 1, 2, 3, 4] (s1 := spec.l9Go_2.l0.s K a0 x1.2 v34_1 v34_2 v34_3 v34_4 v34_5 (w64 (v34_6 + 1))) (nd c1 (nd p1 (nd (of_decide_eq_true c1) (nd (tn p1 (of_decide_eq_true c1)) (nd ((spec.l9Go_1.spec K a0 v34_0 (v34_4.getD v34_6.toNat 0) _ e1).args (congrArg (fun n => ([one (.sl 1 0 a0.length), one (.sl 0 0 n), one (.int .i64 (v34_4.getD v34_6.toNat 0)), one (.int .i64 4)] : List AV)) p2.symm)) (nd (rfl : (0 : Nat) = 0) (nd (rfl : a0.length = a0.length) (nd (nf c2) trivial)))))))) (by kernel_rfl) (spec.l9Go_2.l0.spec K a0 k x1.2 v34_1 v34_2 v34_3 v34_4 v34_5 (w64 (v34_6 + 1)) _ h)
      · obtain rfl := Option.some.inj h
        exact .of_done tab mixed [.br true, .call [(0, true)] [(0, true)] (one (.bool x1.1)) [some ⟨true, .bools x1.2⟩, some ⟨false, .strs a0⟩], .br true] [] [8] [0, 1] rfl (nd c1 (nd p1 (nd (of_decide_eq_true c1) (nd (tn p1 (of_decide_eq_true c1)) (nd ((spec.l9Go_1.spec K a0 v34_0 (v34_4.getD v34_6.toNat 0) _ e1).args (congrArg (fun n => ([one (.sl 1 0 a0.length), one (.sl 0 0 n), one (.int .i64 (v34_4.getD v34_6.toNat 0)), one (.int .i64 4)] : List AV)) p2.symm)) (nd (rfl : (0 : Nat) = 0) (nd (rfl : a0.length = a0.length) (nd (nt c2) trivial)))))))) (by kernel_rfl)
    · obtain rfl := Option.some.inj h
      exact .of_done tab mixed [.br false] [] [] [0, 1] rfl (nd c1 trivial) (by kernel_rfl)
def spec.l9Go_2.f (K : Nat) (a0 : List ByteArray) (a1 : List Bool) (a2 : Int) : Option (Bool × (List Bool)) :=
  ck (0 ≤ a2) (ck (a2 < (a1.length : Int)) (cond (a1.getD a2.toNat false) (some (false, a1)) (ck (a2 < (a0.length : Int)) (Option.bind (spec.NodeRead.f K (a0.getD a2.toNat noVal)) fun x1 => cond (x1.2.2.2.2) (Option.bind (spec.l9Go_2.l0.f K a0 K (a1.set a2.toNat true) ((a1.set a2.toNat true).length) x1.1 x1.2.1 x1.2.2.1 x1.2.2.2.1 0) fun x2 => (Sum.elim (fun x2 => some (false, x2)) (fun x2 => some (true, x2))) x2) (some (false, a1.set a2.toNat true))))))
theorem spec.l9Go_2.spec (K : Nat) (a0 : List ByteArray) (a1 : List Bool) (a2 : Int) (o : Bool × (List Bool)) (h : spec.l9Go_2.f K a0 a1 a2 = some o) : Den.Spec Try.prog 114 [one (.sl 1 0 a0.length), one (.sl 0 0 a1.length), one (.int .i64 a2), one (.int .i64 3)] [some ⟨true, .bools a1⟩, some ⟨false, .strs a0⟩] (one (.bool o.1)) [some ⟨true, .bools o.2⟩, some ⟨false, .strs a0⟩] := by
  unfold spec.l9Go_2.f at h
  obtain ⟨p1, h⟩ := ck_some h
  obtain ⟨p2, h⟩ := ck_some h
  rcases br_cases h with ⟨c1, h⟩ | ⟨c1, h⟩
  · obtain rfl := Option.some.inj h
    exact Den.Spec.of_walk tab mixed Try.func114 (by kernel_rfl) [.br true, .br true, .br true, .br true] [] [0, 1] (nd p1 (nd p2 (nd (tn p1 p2) (nd c1 (nd c1 (nd c1 (nd tt trivial))))))) (by kernel_rfl)
  · obtain ⟨p3, h⟩ := ck_some h
    obtain ⟨x1, e1, h⟩ := bind_some h
    rcases br_cases h with ⟨c2, h⟩ | ⟨c2, h⟩
    · obtain ⟨x2, e2, h⟩ := bind_some h
      rcases x2 with x2 | x2
      · obtain rfl := Option.some.inj h
        exact Den.Spec.of_walk tab mixed Try.func114 (by kernel_rfl) [.br false, .br false, .br false, .br false, .call [] [] (.tup [.agg [.bool x1.1, .sl 0 0 x1.2.1.length, .sl 1 0 x1.2.2.1.length, .str x1.2.2.2.1], .c (.bool x1.2.2.2.2)]) [some ⟨true, .strs x1.2.1⟩, some ⟨true, .ints .i64 x1.2.2.1⟩], .br false, .loop [] [0, 1, 3, 9, 11] [0, 1, 4, 2, 3] (.ret) (spec.l9Go_2.l0.e0 K a0 x2)] [] [0, 1] (nd p1 (nd p2 (nd (tn p1 p2) (nd c1 (nd c1 (nd c1 (nd ff (nd p1 (nd p2 (nd (tn p1 p2) (nd p1 (nd p3 (nd (tn p1 p3) (nd (spec.NodeRead.spec K (a0.getD a2.toNat noVal) _ e1) (nd (nf c2) (nd (LoopSpec.eqs (spec.l9Go_2.l0.spec K a0 K (a1.set a2.toNat true) ((a1.set a2.toNat true).length) x1.1 x1.2.1 x1.2.2.1 x1.2.2.2.1 0 _ e2) (by simp only [spec.l9Go_2.l0.s, List.length_set, overL_length] : spec.l9Go_2.l0.s K a0 (a1.set a2.toNat true) ((a1.set a2.toNat true).length) x1.1 x1.2.1 x1.2.2.1 x1.2.2.2.1 0 = mkSt 51 [(0, one (.sl 1 0 a0.length)), (1, one (.sl 0 0 a1.length)), (3, one (.int .i64 3)), (9, one (.ptr 2 0 0)), (11, one (.int .i64 0))] [some ⟨true, .bools (a1.set a2.toNat true)⟩, some ⟨false, .strs a0⟩, some ⟨true, .cells [.bool x1.1, .sl 3 0 x1.2.1.length, .sl 4 0 x1.2.2.1.length, .str x1.2.2.2.1]⟩, some ⟨true, .strs x1.2.1⟩, some ⟨true, .ints .i64 x1.2.2.1⟩])) trivial)))))))))))))))) (by kernel_rfl)
      · obtain rfl := Option.some.inj h
        exact Den.Spec.of_walk tab mixed Try.func114 (by kernel_rfl) [.br false, .br false, .br false, .br false, .call [] [] (.tup [.agg [.bool x1.1, .sl 0 0 x1.2.1.length, .sl 1 0 x1.2.2.1.length, .str x1.2.2.2.1], .c (.bool x1.2.2.2.2)]) [some ⟨true, .strs x1.2.1⟩, some ⟨true, .ints .i64 x1.2.2.1⟩], .br false, .loop [] [0, 1, 3, 9, 11] [0, 1, 4, 2, 3] (.exit 0) (spec.l9Go_2.l0.e1 K a0 x2)] [] [0, 1] (nd p1 (nd p2 (nd (tn p1 p2) (nd c1 (nd c1 (nd c1 (nd ff (nd p1 (nd p2 (nd (tn p1 p2) (nd p1 (nd p3 (nd (tn p1 p3) (nd (spec.NodeRead.spec K (a0.getD a2.toNat noVal) _ e1) (nd (nf c2) (nd (LoopSpec.eqs (spec.l9Go_2.l0.spec K a0 K (a1.set a2.toNat true) ((a1.set a2.toNat true).length) x1.1 x1.2.1 x1.2.2.1 x1.2.2.2.1 0 _ e2) (by simp only [spec.l9Go_2.l0.s, List.length_set, overL_length] : spec.l9Go_2.l0.s K a0 (a1.set a2.toNat true) ((a1.set a2.toNat true).length) x1.1 x1.2.1 x1.2.2.1 x1.2.2.2.1 0 = mkSt 51 [(0, one (.sl 1 0 a0.length)), (1, one (.sl 0 0 a1.length)), (3, one (.int .i64 3)), (9, one (.ptr 2 0 0)), (11, one (.int .i64 0))] [some ⟨true, .bools (a1.set a2.toNat true)⟩, some ⟨false, .strs a0⟩, some ⟨true, .cells [.bool x1.1, .sl 3 0 x1.2.1.length, .sl 4 0 x1.2.2.1.length, .str x1.2.2.2.1]⟩, some ⟨true, .strs x1.2.1⟩, some ⟨true, .ints .i64 x1.2.2.1⟩])) trivial)))))))))))))))) (by kernel_rfl)
    · obtain rfl := Option.some.inj h
      exact Den.Spec.of_walk tab mixed Try.func114 (by kernel_rfl) [.br false, .br false, .br false, .br false, .call [] [] (.tup [.agg [.bool x1.1, .sl 0 0 x1.2.1.length, .sl 1 0 x1.2.2.1.length, .str x1.2.2.2.1], .c (.bool x1.2.2.2.2)]) [some ⟨true, .strs x1.2.1⟩, some ⟨true, .ints .i64 x1.2.2.1⟩], .br true] [] [0, 1] (nd p1 (nd p2 (nd (tn p1 p2) (nd c1 (nd c1 (nd c1 (nd ff (nd p1 (nd p2 (nd (tn p1 p2) (nd p1 (nd p3 (nd (tn p1 p3) (nd (spec.NodeRead.spec K (a0.getD a2.toNat noVal) _ e1) (nd (nt c2) trivial))))))))))))))) (by kernel_rfl)
def spec.l9Go_3.l0.f (K : Nat) (a0 : List ByteArray) : Nat → (List Bool) → Nat → Bool → (List ByteArray) → (List Int) → ByteArray → Int → Option ((List Bool) ⊕ (List Bool))
  | 0, _, _, _, _, _, _, _ => none
  | k + 1, v36_0, v36_1, v36_2, v36_3, v36_4, v36_5, v36_6 =>
    cond (decide (v36_6 < (v36_4.length : Int))) (ck (0 ≤ v36_6) (ck (v36_1 = v36_0.length) (Option.bind (spec.l9Go_2.f K a0 v36_0 (v36_4.getD v36_6.toNat 0)) fun x1 => cond (x1.1) (spec.l9Go_3.l0.f K a0 k x1.2 v36_1 v36_2 v36_3 v36_4 v36_5 (w64 (v36_6 + 1))) (some (.inl x1.2))))) (some (.inr (v36_0)))
def spec.l9Go_3.l0.s (K : Nat) (a0 : List ByteArray) (v36_0 : List Bool) (v36_1 : Nat) (v36_2 : Bool) (v36_3 : List ByteArray) (v36_4 : List Int) (v36_5 : ByteArray) (v36_6 : Int) : St := mkSt 51 [(0, one (.sl 1 0 a0.length)), (1, one (.sl 0 0 v36_1)), (3, one (.int .i64 2)), (9, one (.ptr 2 0 0)), (11, one (.int .i64 v36_6))] [some ⟨true, .bools v36_0⟩, some ⟨false, .strs a0⟩, some ⟨true, .cells [.bool v36_2, .sl 3 0 v36_3.length, .sl 4 0 v36_4.length, .str v36_5]⟩, some ⟨true, .strs v36_3⟩, some ⟨true, .ints .i64 v36_4⟩]
def spec.l9Go_3.l0.e0 (K : Nat) (a0 : List ByteArray) (o : (List Bool)) : St := mkSt 51 [(8, one (.bool false))] [some ⟨true, .bools o⟩, some ⟨false, .strs a0⟩]
def spec.l9Go_3.l0.e1 (K : Nat) (a0 : List ByteArray) (o : (List Bool)) : St := mkSt 51 [] [some ⟨true, .bools o⟩, some ⟨false, .strs a0⟩]
def spec.l9Go_3.l0.x (K : Nat) (a0 : List ByteArray) : ((List Bool) ⊕ (List Bool)) → AExit × St := Sum.elim (fun o => (.ret, spec.l9Go_3.l0.e0 K a0 o)) (fun o => (.exit 0, spec.l9Go_3.l0.e1 K a0 o))
theorem spec.l9Go_3.l0.spec (K : Nat) (a0 : List ByteArray) : ∀ (k : Nat) (v36_0 : List Bool) (v36_1 : Nat) (v36_2 : Bool) (v36_3 : List ByteArray) (v36_4 : List Int) (v36_5 : ByteArray) (v36_6 : Int) (o : (List Bool) ⊕ (List Bool)), spec.l9Go_3.l0.f K a0 k v36_0 v36_1 v36_2 v36_3 v36_4 v36_5 v36_6 = some o → LoopSpec Try.prog 2 (loopN Try.f114 0) (spec.l9Go_3.l0.s K a0 v36_0 v36_1 v36_2 v36_3 v36_4 v36_5 v36_6) (spec.l9Go_3.l0.x K a0 o).1 (spec.l9Go_3.l0.x K a0 o).2
  | 0, _, _, _, _, _, _, _, _, h => by cases h
  | k + 1, v36_0, v36_1, v36_2, v36_3, v36_4, v36_5, v36_6, o, h => by
    unfold spec.l9Go_3.l0.f at h
    rcases br_cases h with ⟨c1, h⟩ | ⟨c1, h⟩
    · obtain ⟨p1, h⟩ := ck_some h
      obtain ⟨p2, h⟩ := ck_some h
      obtain ⟨x1, e1, h⟩ := bind_some h
      rcases br_cases h with ⟨c2, h⟩ | ⟨c2, h⟩
      · exact .of_step tab mixed [.br true, .call [(0, true)] [(0, true)] (one (.bool x1.1)) [some ⟨true, .bools x1.2⟩, some ⟨false, .strs a0⟩], .br false] [] [0, 1, 3, 9, 11] [0, 1, 2, 3, 4] (s1 := spec.l9Go_3.l0.s K a0 x1.2 v36_1 v36_2 v36_3 v36_4 v36_5 (w64 (v36_6 + 1))) (nd c1 (nd p1 (nd (of_decide_eq_true c1) (nd (tn p1 (of_decide_eq_true c1)) (nd ((spec.l9Go_2.spec K a0 v36_0 (v36_4.getD v36_6.toNat 0) _ e1).args (congrArg (fun n => ([one (.sl 1 0 a0.length), one (.sl 0 0 n), one (.int .i64 (v36_4.getD v36_6.toNat 0)), one (.int .i64 3)] : List AV)) p2.symm)) (nd (rfl : (0 : Nat) = 0) (nd (rfl : a0.length = a0.length) (nd (nf c2) trivial)))))))) (by kernel_rfl) (spec.l9Go_3.l0.spec K a0 k x1.2 v36_1 v36_2 v36_3 v36_4 v36_5 (w64 (v36_6 + 1)) _ h)
      · obtain rfl := Option.some.inj h
        exact .of_done tab mixed [.br true, .call [(0, true)] [(0, true)] (one (.bool x1.1)) [some ⟨true, .bools x1.2⟩, some ⟨false, .strs a0⟩], .br true] [] [8] [0, 1] rfl (nd c1 (nd p1 (nd (of_decide_eq_true c1) (nd (tn p1 (of_decide_eq_true c1)) (nd ((spec.l9Go_2.spec K a0 v36_0 (v36_4.getD v36_6.toNat 0) _ e1).args (congrArg (fun n => ([one (.sl 1 0 a0.length), one (.sl 0 0 n), one (.int .i64 (v36_4.getD v36_6.toNat 0)), one (.int .i64 3)] : List AV)) p2.symm)) (nd (rfl : (0 : Nat) = 0) (nd (rfl : a0.length = a0.length) (nd (nt c2) trivial)))))))) (by kernel_rfl)
    · obtain rfl := Option.some.inj h
      exact .of_done tab mixed [.br false] [] [] [0, 1] rfl (nd c1 trivial) (by kernel_rfl)
def spec.l9Go_3.f (K : Nat) (a0 : List ByteArray) (a1 : List Bool) (a2 : Int) : Option (Bool × (List Bool)) :=
  ck (0 ≤ a2) (ck (a2 < (a1.length : Int)) (cond (a1.getD a2.toNat false) (some (false, a1)) (ck (a2 < (a0.length : Int)) (Option.bind (spec.NodeRead.f K (a0.getD a2.toNat noVal)) fun x1 => cond (x1.2.2.2.2) (Option.bind (spec.l9Go_3.l0.f K a0 K (a1.set a2.toNat true) ((a1.set a2.toNat true).length) x1.1 x1.2.1 x1.2.2.1 x1.2.2.2.1 0) fun x2 => (Sum.elim (fun x2 => some (false, x2)) (fun x2 => some (true, x2))) x2) (some (false, a1.set a2.toNat true))))))
theorem spec.l9Go_3.spec (K : Nat) (a0 : List ByteArray) (a1 : List Bool) (a2 : Int) (o : Bool × (List Bool)) (h : spec.l9Go_3.f K a0 a1 a2 = some o) : Den.Spec Try.prog 114 [one (.sl 1 0 a0.length), one (.sl 0 0 a1.length), one (.int .i64 a2), one (.int .i64 2)] [some ⟨true, .bools a1⟩, some ⟨false, .strs a0⟩] (one (.bool o.1)) [some ⟨true, .bools o.2⟩, some ⟨false, .strs a0⟩] := by
  unfold spec.l9Go_3.f at h
  obtain ⟨p1, h⟩ := ck_some h
  obtain ⟨p2, h⟩ := ck_some h
  rcases br_cases h with ⟨c1, h⟩ | ⟨c1, h⟩
  · obtain rfl := Option.some.inj h
    exact Den.Spec.of_walk tab mixed Try.func114 (by kernel_rfl) [.br true, .br true, .br true, .br true] [] [0, 1] (nd p1 (nd p2 (nd (tn p1 p2) (nd c1 (nd c1 (nd c1 (nd tt trivial))))))) (by kernel_rfl)
  · obtain ⟨p3, h⟩ := ck_some h
    obtain ⟨x1, e1, h⟩ := bind_some h
    rcases br_cases h with ⟨c2, h⟩ | ⟨c2, h⟩
    · obtain ⟨x2, e2, h⟩ := bind_some h
      rcases x2 with x2 | x2
      · obtain rfl := Option.some.inj h
        exact Den.Spec.of_walk tab mixed Try.func114 (by kernel_rfl) [.br false, .br false, .br false, .br false, .call [] [] (.tup [.agg [.bool x1.1, .sl 0 0 x1.2.1.length, .sl 1 0 x1.2.2.1.length, .str x1.2.2.2.1], .c (.bool x1.2.2.2.2)]) [some ⟨true, .strs x1.2.1⟩, some ⟨true, .ints .i64 x1.2.2.1⟩], .br false, .loop [] [0, 1, 3, 9, 11] [0, 1, 4, 2, 3] (.ret) (spec.l9Go_3.l0.e0 K a0 x2)] [] [0, 1] (nd p1 (nd p2 (nd (tn p1 p2) (nd c1 (nd c1 (nd c1 (nd ff (nd p1 (nd p2 (nd (tn p1 p2) (nd p1 (nd p3 (nd (tn p1 p3) (nd (spec.NodeRead.spec K (a0.getD a2.toNat noVal) _ e1) (nd (nf c2) (nd (LoopSpec.eqs (spec.l9Go_3.l0.spec K a0 K (a1.set a2.toNat true) ((a1.set a2.toNat true).length) x1.1 x1.2.1 x1.2.2.1 x1.2.2.2.1 0 _ e2) (by simp only [spec.l9Go_3.l0.s, List.length_set, overL_length] : spec.l9Go_3.l0.s K a0 (a1.set a2.toNat true) ((a1.set a2.toNat true).length) x1.1 x1.2.1 x1.2.2.1 x1.2.2.2.1 0 = mkSt 51 [(0, one (.sl 1 0 a0.length)), (1, one (.sl 0 0 a1.length)), (3, one (.int .i64 2)), (9, one (.ptr 2 0 0)), (11, one (.int .i64 0))] [some ⟨true, .bools (a1.set a2.toNat true)⟩, some ⟨false, .strs a0⟩, some ⟨true, .cells [.bool x1.1, .sl 3 0 x1.2.1.length, .sl 4 0 x1.2.2.1.length, .str x1.2.2.2.1]⟩, some ⟨true, .strs x1.2.1⟩, some ⟨true, .ints .i64 x1.2.2.1⟩])) trivial)))))))))))))))) (by kernel_rfl)
      · obtain rfl := Option.some.inj h
        exact Den.Spec.of_walk tab mixed Try.func114 (by kernel_rfl) [.br false, .br false, .br false, .br false, .call [] [] (.tup [.agg [.bool x1.1, .sl 0 0 x1.2.1.length, .sl 1 0 x1.2.2.1.length, .str x1.2.2.2.1], .c (.bool x1.2.2.2.2)]) [some ⟨true, .strs x1.2.1⟩, some ⟨true, .ints .i64 x1.2.2.1⟩], .br false, .loop [] [0, 1, 3, 9, 11] [0, 1, 4, 2, 3] (.exit 0) (spec.l9Go_3.l0.e1 K a0 x2)] [] [0, 1] (nd p1 (nd p2 (nd (tn p1 p2) (nd c1 (nd c1 (nd c1 (nd ff (nd p1 (nd p2 (nd (tn p1 p2) (nd p1 (nd p3 (nd (tn p1 p3) (nd (spec.NodeRead.spec K (a0.getD a2.toNat noVal) _ e1) (nd (nf c2) (nd (LoopSpec.eqs (spec.l9Go_3.l0.spec K a0 K (a1.set a2.toNat true) ((a1.set a2.toNat true).length) x1.1 x1.2.1 x1.2.2.1 x1.2.2.2.1 0 _ e2) (by simp only [spec.l9Go_3.l0.s, List.length_set, overL_length] : spec.l9Go_3.l0.s K a0 (a1.set a2.toNat true) ((a1.set a2.toNat true).length) x1.1 x1.2.1 x1.2.2.1 x1.2.2.2.1 0 = mkSt 51 [(0, one (.sl 1 0 a0.length)), (1, one (.sl 0 0 a1.length)), (3, one (.int .i64 2)), (9, one (.ptr 2 0 0)), (11, one (.int .i64 0))] [some ⟨true, .bools (a1.set a2.toNat true)⟩, some ⟨false, .strs a0⟩, some ⟨true, .cells [.bool x1.1, .sl 3 0 x1.2.1.length, .sl 4 0 x1.2.2.1.length, .str x1.2.2.2.1]⟩, some ⟨true, .strs x1.2.1⟩, some ⟨true, .ints .i64 x1.2.2.1⟩])) trivial)))))))))))))))) (by kernel_rfl)
    · obtain rfl := Option.some.inj h
      exact Den.Spec.of_walk tab mixed Try.func114 (by kernel_rfl) [.br false, .br false, .br false, .br false, .call [] [] (.tup [.agg [.bool x1.1, .sl 0 0 x1.2.1.length, .sl 1 0 x1.2.2.1.length, .str x1.2.2.2.1], .c (.bool x1.2.2.2.2)]) [some ⟨true, .strs x1.2.1⟩, some ⟨true, .ints .i64 x1.2.2.1⟩], .br true] [] [0, 1] (nd p1 (nd p2 (nd (tn p1 p2) (nd c1 (nd c1 (nd c1 (nd ff (nd p1 (nd p2 (nd (tn p1 p2) (nd p1 (nd p3 (nd (tn p1 p3) (nd (spec.NodeRead.spec K (a0.getD a2.toNat noVal) _ e1) (nd (nt c2) trivial))))))))))))))) (by kernel_rfl)
def spec.l9Go_4.l0.f (K : Nat) (a0 : List ByteArray) : Nat → (List Bool) → Nat → Bool → (List ByteArray) → (List Int) → ByteArray → Int → Option ((List Bool) ⊕ (List Bool))
  | 0, _, _, _, _, _, _, _ => none
  | k + 1, v41_0, v41_1, v41_2, v41_3, v41_4, v41_5, v41_6 =>
    cond (decide (v41_6 < (v41_4.length : Int))) (ck (0 ≤ v41_6) (ck (v41_1 = v41_0.length) (Option.bind (spec.l9Go_3.f K a0 v41_0 (v41_4.getD v41_6.toNat 0)) fun x1 => cond (x1.1) (spec.l9Go_4.l0.f K a0 k x1.2 v41_1 v41_2 v41_3 v41_4 v41_5 (w64 (v41_6 + 1))) (some (.inl x1.2))))) (some (.inr (v41_0)))
def spec.l9Go_4.l0.s (K : Nat) (a0 : List ByteArray) (v41_0 : List Bool) (v41_1 : Nat) (v41_2 : Bool) (v41_3 : List ByteArray) (v41_4 : List Int) (v41_5 : ByteArray) (v41_6 : Int) : St := mkSt 51 [(0, one (.sl 1 0 a0.length)), (1, one (.sl 0 0 v41_1)), (3, one (.int .i64 1)), (9, one (.ptr 2 0 0)), (11, one (.int .i64 v41_6))] [some ⟨true, .bools v41_0⟩, some ⟨false, .strs a0⟩, some ⟨true, .cells [.bool v41_2, .sl 3 0 v41_3.length, .sl 4 0 v41_4.length, .str v41_5]⟩, some ⟨true, .strs v41_3⟩, some ⟨true, .ints .i64 v41_4⟩]
def spec.l9Go_4.l0.e0 (K : Nat) (a0 : List ByteArray) (o : (List Bool)) : St := mkSt 51 [(8, one (.bool false))] [some ⟨true, .bools o⟩, some ⟨false, .strs a0⟩]
def spec.l9Go_4.l0.e1 (K : Nat) (a0 : List ByteArray) (o : (List Bool)) : St := mkSt 51 [] [some ⟨true, .bools o⟩, some ⟨false, .strs a0⟩]
def spec.l9Go_4.l0.x (K : Nat) (a0 : List ByteArray) : ((List Bool) ⊕ (List Bool)) → AExit × St := Sum.elim (fun o => (.ret, spec.l9Go_4.l0.e0 K a0 o)) (fun o => (.exit 0, spec.l9Go_4.l0.e1 K a0 o))
theorem spec.l9Go_4.l0.spec (K : Nat) (a0 : List ByteArray) : ∀ (k : Nat) (v41_0 : List Bool) (v41_1 : Nat) (v41_2 : Bool) (v41_3 : List ByteArray) (v41_4 : List Int) (v41_5 : ByteArray) (v41_6 : Int) (o : (List Bool) ⊕ (List Bool)), spec.l9Go_4.l0.f K a0 k v41_0 v41_1 v41_2 v41_3 v41_4 v41_5 v41_6 = some o → LoopSpec Try.prog 2 (loopN Try.f114 0) (spec.l9Go_4.l0.s K a0 v41_0 v41_1 v41_2 v41_3 v41_4 v41_5 v41_6) (spec.l9Go_4.l0.x K a0 o).1 (spec.l9Go_4.l0.x K a0 o).2
  | 0, _, _, _, _, _, _, _, _, h => by cases h
  | k + 1, v41_0, v41_1, v41_2, v41_3, v41_4, v41_5, v41_6, o, h => by
    unfold spec.l9Go_4.l0.f at h
    rcases br_cases h with ⟨c1, h⟩ | ⟨c1, h⟩
    · obtain ⟨p1, h⟩ := ck_some h
      obtain ⟨p2, h⟩ := ck_some h
      obtain ⟨x1, e1, h⟩ := bind_some h
      rcases br_cases h with ⟨c2, h⟩ | ⟨c2, h⟩
      · exact .of_step tab mixed [.br true, .call [(0, true)] [(0, true)] (one (.bool x1.1)) [some ⟨true, .bools x1.2⟩, some ⟨false, .strs a0⟩], .br false] [] [0, 1, 3, 9, 11] [0, 1, 2, 3, 4] (s1 := spec.l9Go_4.l0.s K a0 x1.2 v41_1 v41_2 v41_3 v41_4 v41_5 (w64 (v41_6 + 1))) (nd c1 (nd p1 (nd (of_decide_eq_true c1) (nd (tn p1 (of_decide_eq_true c1)) (nd ((spec.l9Go_3.spec K a0 v41_0 (v41_4.getD v41_6.toNat 0) _ e1).args (congrArg (fun n => ([one (.sl 1 0 a0.length), one (.sl 0 0 n), one (.int .i64 (v41_4.getD v41_6.toNat 0)), one (.int .i64 2)] : List AV)) p2.symm)) (nd (rfl : (0 : Nat) = 0) (nd (rfl : a0.length = a0.length) (nd (nf c2) trivial)))))))) (by kernel_rfl) (spec.l9Go_4.l0.spec K a0 k x1.2 v41_1 v41_2 v41_3 v41_4 v41_5 (w64 (v41_6 + 1)) _ h)
      · obtain rfl := Option.some.inj h
        exact .of_done tab mixed [.br true, .call [(0, true)] [(0, true)] (one (.bool x1.1)) [some ⟨true, .bools x1.2⟩, some ⟨false, .strs a0⟩], .br true] [] [8] [0, 1] rfl (nd c1 (nd p1 (nd (of_decide_eq_true c1) (nd (tn p1 (of_decide_eq_true c1)) (nd ((spec.l9Go_3.spec K a0 v41_0 (v41_4.getD v41_6.toNat 0) _ e1).args (congrArg (fun n => ([one (.sl 1 0 a0.length), one (.sl 0 0 n), one (.int .i64 (v41_4.getD v41_6.toNat 0)), one (.int .i64 2)] : List AV)) p2.symm)) (nd (rfl : (0 : Nat) = 0) (nd (rfl : a0.length = a0.length) (nd (nt c2) trivial)))))))) (by kernel_rfl)
    · obtain rfl := Option.some.inj h
      exact .of_done tab mixed [.br false] [] [] [0, 1] rfl (nd c1 trivial) (by kernel_rfl)
def spec.l9Go_4.f (K : Nat) (a0 : List ByteArray) (a1 : List Bool) (a2 : Int) : Option (Bool × (List Bool)) :=
  ck (0 ≤ a2) (ck (a2 < (a1.length : Int)) (cond (a1.getD a2.toNat false) (some (false, a1)) (ck (a2 < (a0.length : Int)) (Option.bind (spec.NodeRead.f K (a0.getD a2.toNat noVal)) fun x1 => cond (x1.2.2.2.2) (Option.bind (spec.l9Go_4.l0.f K a0 K (a1.set a2.toNat true) ((a1.set a2.toNat true).length) x1.1 x1.2.1 x1.2.2.1 x1.2.2.2.1 0) fun x2 => (Sum.elim (fun x2 => some (false, x2)) (fun x2 => some (true, x2))) x2) (some (false, a1.set a2.toNat true))))))
theorem spec.l9Go_4.spec (K : Nat) (a0 : List ByteArray) (a1 : List Bool) (a2 : Int) (o : Bool × (List Bool)) (h : spec.l9Go_4.f K a0 a1 a2 = some o) : Den.Spec Try.prog 114 [one (.sl 1 0 a0.length), one (.sl 0 0 a1.length), one (.int .i64 a2), one (.int .i64 1)] [some ⟨true, .bools a1⟩, some ⟨false, .strs a0⟩] (one (.bool o.1)) [some ⟨true, .bools o.2⟩, some ⟨false, .strs a0⟩] := by
  unfold spec.l9Go_4.f at h
  obtain ⟨p1, h⟩ := ck_some h
  obtain ⟨p2, h⟩ := ck_some h
  rcases br_cases h with ⟨c1, h⟩ | ⟨c1, h⟩
  · obtain rfl := Option.some.inj h
    exact Den.Spec.of_walk tab mixed Try.func114 (by kernel_rfl) [.br true, .br true, .br true, .br true] [] [0, 1] (nd p1 (nd p2 (nd (tn p1 p2) (nd c1 (nd c1 (nd c1 (nd tt trivial))))))) (by kernel_rfl)
  · obtain ⟨p3, h⟩ := ck_some h
    obtain ⟨x1, e1, h⟩ := bind_some h
    rcases br_cases h with ⟨c2, h⟩ | ⟨c2, h⟩
    · obtain ⟨x2, e2, h⟩ := bind_some h
      rcases x2 with x2 | x2
      · obtain rfl := Option.some.inj h
        exact Den.Spec.of_walk tab mixed Try.func114 (by kernel_rfl) [.br false, .br false, .br false, .br false, .call [] [] (.tup [.agg [.bool x1.1, .sl 0 0 x1.2.1.length, .sl 1 0 x1.2.2.1.length, .str x1.2.2.2.1], .c (.bool x1.2.2.2.2)]) [some ⟨true, .strs x1.2.1⟩, some ⟨true, .ints .i64 x1.2.2.1⟩], .br false, .loop [] [0, 1, 3, 9, 11] [0, 1, 4, 2, 3] (.ret) (spec.l9Go_4.l0.e0 K a0 x2)] [] [0, 1] (nd p1 (nd p2 (nd (tn p1 p2) (nd c1 (nd c1 (nd c1 (nd ff (nd p1 (nd p2 (nd (tn p1 p2) (nd p1 (nd p3 (nd (tn p1 p3) (nd (spec.NodeRead.spec K (a0.getD a2.toNat noVal) _ e1) (nd (nf c2) (nd (LoopSpec.eqs (spec.l9Go_4.l0.spec K a0 K (a1.set a2.toNat true) ((a1.set a2.toNat true).length) x1.1 x1.2.1 x1.2.2.1 x1.2.2.2.1 0 _ e2) (by simp only [spec.l9Go_4.l0.s, List.length_set, overL_length] : spec.l9Go_4.l0.s K a0 (a1.set a2.toNat true) ((a1.set a2.toNat true).length) x1.1 x1.2.1 x1.2.2.1 x1.2.2.2.1 0 = mkSt 51 [(0, one (.sl 1 0 a0.length)), (1, one (.sl 0 0 a1.length)), (3, one (.int .i64 1)), (9, one (.ptr 2 0 0)), (11, one (.int .i64 0))] [some ⟨true, .bools (a1.set a2.toNat true)⟩, some ⟨false, .strs a0⟩, some ⟨true, .cells [.bool x1.1, .sl 3 0 x1.2.1.length, .sl 4 0 x1.2.2.1.length, .str x1.2.2.2.1]⟩, some ⟨true, .strs x1.2.1⟩, some ⟨true, .ints .i64 x1.2.2.1⟩])) trivial)))))))))))))))) (by kernel_rfl)
      · obtain rfl := Option.some.inj h
        exact Den.Spec.of_walk tab mixed Try.func114 (by kernel_rfl) [.br false, .br false, .br false, .br false, .call [] [] (.tup [.agg [.bool x1.1, .sl 0 0 x1.2.1.length, .sl 1 0 x1.2.2.1.length, .str x1.2.2.2.1], .c (.bool x1.2.2.2.2)]) [some ⟨true, .strs x1.2.1⟩, some ⟨true, .ints .i64 x1.2.2.1⟩], .br false, .loop [] [0, 1, 3, 9, 11] [0, 1, 4, 2, 3] (.exit 0) (spec.l9Go_4.l0.e1 K a0 x2)] [] [0, 1] (nd p1 (nd p2 (nd (tn p1 p2) (nd c1 (nd c1 (nd c1 (nd ff (nd p1 (nd p2 (nd (tn p1 p2) (nd p1 (nd p3 (nd (tn p1 p3) (nd (spec.NodeRead.spec K (a0.getD a2.toNat noVal) _ e1) (nd (nf c2) (nd (LoopSpec.eqs (spec.l9Go_4.l0.spec K a0 K (a1.set a2.toNat true) ((a1.set a2.toNat true).length) x1.1 x1.2.1 x1.2.2.1 x1.2.2.2.1 0 _ e2) (by simp only [spec.l9Go_4.l0.s, List.length_set, overL_length] : spec.l9Go_4.l0.s K a0 (a1.set a2.toNat true) ((a1.set a2.toNat true).length) x1.1 x1.2.1 x1.2.2.1 x1.2.2.2.1 0 = mkSt 51 [(0, one (.sl 1 0 a0.length)), (1, one (.sl 0 0 a1.length)), (3, one (.int .i64 1)), (9, one (.ptr 2 0 0)), (11, one (.int .i64 0))] [some ⟨true, .bools (a1.set a2.toNat true)⟩, some ⟨false, .strs a0⟩, some ⟨true, .cells [.bool x1.1, .sl 3 0 x1.2.1.length, .sl 4 0 x1.2.2.1.length, .str x1.2.2.2.1]⟩, some ⟨true, .strs x1.2.1⟩, some ⟨true, .ints .i64 x1.2.2.1⟩])) trivial)))))))))))))))) (by kernel_rfl)
    · obtain rfl := Option.some.inj h
      exact Den.Spec.of_walk tab mixed Try.func114 (by kernel_rfl) [.br false, .br false, .br false, .br false, .call [] [] (.tup [.agg [.bool x1.1, .sl 0 0 x1.2.1.length, .sl 1 0 x1.2.2.1.length, .str x1.2.2.2.1], .c (.bool x1.2.2.2.2)]) [some ⟨true, .strs x1.2.1⟩, some ⟨true, .ints .i64 x1.2.2.1⟩], .br true] [] [0, 1] (nd p1 (nd p2 (nd (tn p1 p2) (nd c1 (nd c1 (nd c1 (nd ff (nd p1 (nd p2 (nd (tn p1 p2) (nd p1 (nd p3 (nd (tn p1 p3) (nd (spec.NodeRead.spec K (a0.getD a2.toNat noVal) _ e1) (nd (nt c2) trivial))))))))))))))) (by kernel_rfl)
def spec.l9Go_5.l0.f (K : Nat) (a0 : List ByteArray) : Nat → (List Bool) → Nat → Bool → (List ByteArray) → (List Int) → ByteArray → Int → Option ((List Bool) ⊕ (List Bool))
  | 0, _, _, _, _, _, _, _ => none
  | k + 1, v43_0, v43_1, v43_2, v43_3, v43_4, v43_5, v43_6 =>
    cond (decide (v43_6 < (v43_4.length : Int))) (ck (0 ≤ v43_6) (ck (v43_1 = v43_0.length) (Option.bind (spec.l9Go_4.f K a0 v43_0 (v43_4.getD v43_6.toNat 0)) fun x1 => cond (x1.1) (spec.l9Go_5.l0.f K a0 k x1.2 v43_1 v43_2 v43_3 v43_4 v43_5 (w64 (v43_6 + 1))) (some (.inl x1.2))))) (some (.inr (v43_0)))
def spec.l9Go_5.l0.s (K : Nat) (a0 : List ByteArray) (v43_0 : List Bool) (v43_1 : Nat) (v43_2 : Bool) (v43_3 : List ByteArray) (v43_4 : List Int) (v43_5 : ByteArray) (v43_6 : Int) : St := mkSt 51 [(0, one (.sl 1 0 a0.length)), (1, one (.sl 0 0 v43_1)), (3, one (.int .i64 0)), (9, one (.ptr 2 0 0)), (11, one (.int .i64 v43_6))] [some ⟨true, .bools v43_0⟩, some ⟨false, .strs a0⟩, some ⟨true, .cells [.bool v43_2, .sl 3 0 v43_3.length, .sl 4 0 v43_4.length, .str v43_5]⟩, some ⟨true, .strs v43_3⟩, some ⟨true, .ints .i64 v43_4⟩]
def spec.l9Go_5.l0.e0 (K : Nat) (a0 : List ByteArray) (o : (List Bool)) : St := mkSt 51 [(8, one (.bool false))] [some ⟨true, .bools o⟩, some ⟨false, .strs a0⟩]
def spec.l9Go_5.l0.e1 (K : Nat) (a0 : List ByteArray) (o : (List Bool)) : St := mkSt 51 [] [some ⟨true, .bools o⟩, some ⟨false, .strs a0⟩]
def spec.l9Go_5.l0.x (K : Nat) (a0 : List ByteArray) : ((List Bool) ⊕ (List Bool)) → AExit × St := Sum.elim (fun o => (.ret, spec.l9Go_5.l0.e0 K a0 o)) (fun o => (.exit 0, spec.l9Go_5.l0.e1 K a0 o))
theorem spec.l9Go_5.l0.spec (K : Nat) (a0 : List ByteArray) : ∀ (k : Nat) (v43_0 : List Bool) (v43_1 : Nat) (v43_2 : Bool) (v43_3 : List ByteArray) (v43_4 : List Int) (v43_5 : ByteArray) (v43_6 : Int) (o : (List Bool) ⊕ (List Bool)), spec.l9Go_5.l0.f K a0 k v43_0 v43_1 v43_2 v43_3 v43_4 v43_5 v43_6 = some o → LoopSpec Try.prog 2 (loopN Try.f114 0) (spec.l9Go_5.l0.s K a0 v43_0 v43_1 v43_2 v43_3 v43_4 v43_5 v43_6) (spec.l9Go_5.l0.x K a0 o).1 (spec.l9Go_5.l0.x K a0 o).2
  | 0, _, _, _, _, _, _, _, _, h => by cases h
  | k + 1, v43_0, v43_1, v43_2, v43_3, v43_4, v43_5, v43_6, o, h => by
    unfold spec.l9Go_5.l0.f at h
    rcases br_cases h with ⟨c1, h⟩ | ⟨c1, h⟩
    · obtain ⟨p1, h⟩ := ck_some h
      obtain ⟨p2, h⟩ := ck_some h
      obtain ⟨x1, e1, h⟩ := bind_some h
      rcases br_cases h with ⟨c2, h⟩ | ⟨c2, h⟩
      · exact .of_step tab mixed [.br true, .call [(0, true)] [(0, true)] (one (.bool x1.1)) [some ⟨true, .bools x1.2⟩, some ⟨false, .strs a0⟩], .br false] [] [0, 1, 3, 9, 11] [0, 1, 2, 3, 4] (s1 := spec.l9Go_5.l0.s K a0 x1.2 v43_1 v43_2 v43_3 v43_4 v43_5 (w64 (v43_6 + 1))) (nd c1 (nd p1 (nd (of_decide_eq_true c1) (nd (tn p1 (of_decide_eq_true c1)) (nd ((spec.l9Go_4.spec K a0 v43_0 (v43_4.getD v43_6.toNat 0) _ e1).args (congrArg (fun n => ([one (.sl 1 0 a0.length), one (.sl 0 0 n), one (.int .i64 (v43_4.getD v43_6.toNat 0)), one (.int .i64 1)] : List AV)) p2.symm)) (nd (rfl : (0 : Nat) = 0) (nd (rfl : a0.length = a0.length) (nd (nf c2) trivial)))))))) (by kernel_rfl) (spec.l9Go_5.l0.spec K a0 k x1.2 v43_1 v43_2 v43_3 v43_4 v43_5 (w64 (v43_6 + 1)) _ h)
      · obtain rfl := Option.some.inj h
        exact .of_done tab mixed [.br true, .call [(0, true)] [(0, true)] (one (.bool x1.1)) [some ⟨true, .bools x1.2⟩, some ⟨false, .strs a0⟩], .br true] [] [8] [0, 1] rfl (nd c1 (nd p1 (nd (of_decide_eq_true c1) (nd (tn p1 (of_decide_eq_true c1)) (nd ((spec.l9Go_4.spec K a0 v43_0 (v43_4.getD v43_6.toNat 0) _ e1).args (congrArg (fun n => ([one (.sl 1 0 a0.length), one (.sl 0 0 n), one (.int .i64 (v43_4.getD v43_6.toNat 0)), one (.int .i64 1)] : List AV)) p2.symm)) (nd (rfl : (0 : Nat) = 0) (nd (rfl : a0.length = a0.length) (nd (nt c2) trivial)))))))) (by kernel_rfl)
    · obtain rfl := Option.some.inj h
      exact .of_done tab mixed [.br false] [] [] [0, 1] rfl (nd c1 trivial) (by kernel_rfl)
def spec.l9Go_5.f (K : Nat) (a0 : List ByteArray) : Option (Bool × (List Bool)) :=
  ck (0 < ((List.replicate 12 false).length : Int)) (ck (0 < (List.replicate 12 false).length) (cond ((List.replicate 12 false).getD 0 false) (some (false, List.replicate 12 false)) (ck (0 < (a0.length : Int)) (ck (0 < a0.length) (Option.bind (spec.NodeRead.f K (a0.getD 0 noVal)) fun x1 => cond (x1.2.2.2.2) (Option.bind (spec.l9Go_5.l0.f K a0 K ((List.replicate 12 false).set 0 true) (((List.replicate 12 false).set 0 true).length) x1.1 x1.2.1 x1.2.2.1 x1.2.2.2.1 0) fun x2 => (Sum.elim (fun x2 => some (false, x2)) (fun x2 => some (true, x2))) x2) (some (false, (List.replicate 12 false).set 0 true)))))))
theorem spec.l9Go_5.spec (K : Nat) (a0 : List ByteArray) (o : Bool × (List Bool)) (h : spec.l9Go_5.f K a0 = some o) : Den.Spec Try.prog 114 [one (.sl 1 0 a0.length), one (.sl 0 0 ((List.replicate 12 false).length)), one (.int .i64 0), one (.int .i64 0)] [some ⟨true, .bools (List.replicate 12 false)⟩, some ⟨false, .strs a0⟩] (one (.bool o.1)) [some ⟨true, .bools o.2⟩, some ⟨false, .strs a0⟩] := by
  unfold spec.l9Go_5.f at h
  obtain ⟨p1, h⟩ := ck_some h
  obtain ⟨p2, h⟩ := ck_some h
  rcases br_cases h with ⟨c1, h⟩ | ⟨c1, h⟩
  · obtain rfl := Option.some.inj h
    exact Den.Spec.of_walk tab mixed Try.func114 (by kernel_rfl) [.br true, .br true, .br true, .br true] [] [0, 1] (nd (Int.le_refl 0) (nd p1 (nd p2 (nd c1 (nd c1 (nd c1 (nd tt trivial))))))) (by kernel_rfl)
  · obtain ⟨p3, h⟩ := ck_some h
    obtain ⟨p4, h⟩ := ck_some h
    obtain ⟨x1, e1, h⟩ := bind_some h
    rcases br_cases h with ⟨c2, h⟩ | ⟨c2, h⟩
    · obtain ⟨x2, e2, h⟩ := bind_some h
      rcases x2 with x2 | x2
      · obtain rfl := Option.some.inj h
        exact Den.Spec.of_walk tab mixed Try.func114 (by kernel_rfl) [.br false, .br false, .br false, .br false, .call [] [] (.tup [.agg [.bool x1.1, .sl 0 0 x1.2.1.length, .sl 1 0 x1.2.2.1.length, .str x1.2.2.2.1], .c (.bool x1.2.2.2.2)]) [some ⟨true, .strs x1.2.1⟩, some ⟨true, .ints .i64 x1.2.2.1⟩], .br false, .loop [] [0, 1, 3, 9, 11] [0, 1, 4, 2, 3] (.ret) (spec.l9Go_5.l0.e0 K a0 x2)] [] [0, 1] (nd (Int.le_refl 0) (nd p1 (nd p2 (nd c1 (nd c1 (nd c1 (nd ff (nd (Int.le_refl 0) (nd p1 (nd p2 (nd (Int.le_refl 0) (nd p3 (nd p4 (nd (spec.NodeRead.spec K (a0.getD 0 noVal) _ e1) (nd (nf c2) (nd (LoopSpec.eqs (spec.l9Go_5.l0.spec K a0 K ((List.replicate 12 false).set 0 true) (((List.replicate 12 false).set 0 true).length) x1.1 x1.2.1 x1.2.2.1 x1.2.2.2.1 0 _ e2) (by simp only [spec.l9Go_5.l0.s, List.length_set, overL_length] : spec.l9Go_5.l0.s K a0 ((List.replicate 12 false).set 0 true) (((List.replicate 12 false).set 0 true).length) x1.1 x1.2.1 x1.2.2.1 x1.2.2.2.1 0 = mkSt 51 [(0, one (.sl 1 0 a0.length)), (1, one (.sl 0 0 ((List.replicate 12 false).length))), (3, one (.int .i64 0)), (9, one (.ptr 2 0 0)), (11, one (.int .i64 0))] [some ⟨true, .bools ((List.replicate 12 false).set 0 true)⟩, some ⟨false, .strs a0⟩, some ⟨true, .cells [.bool x1.1, .sl 3 0 x1.2.1.length, .sl 4 0 x1.2.2.1.length, .str x1.2.2.2.1]⟩, some ⟨true, .strs x1.2.1⟩, some ⟨true, .ints .i64 x1.2.2.1⟩])) trivial)))))))))))))))) (by kernel_rfl)
      · obtain rfl := Option.some.inj h
        exact Den.Spec.of_walk tab mixed Try.func114 (by kernel_rfl) [.br false, .br false, .br false, .br false, .call [] [] (.tup [.agg [.bool x1.1, .sl 0 0 x1.2.1.length, .sl 1 0 x1.2.2.1.length, .str x1.2.2.2.1], .c (.bool x1.2.2.2.2)]) [some ⟨true, .strs x1.2.1⟩, some ⟨true, .ints .i64 x1.2.2.1⟩], .br false, .loop [] [0, 1, 3, 9, 11] [0, 1, 4, 2, 3] (.exit 0) (spec.l9Go_5.l0.e1 K a0 x2)] [] [0, 1] (nd (Int.le_refl 0) (nd p1 (nd p2 (nd c1 (nd c1 (nd c1 (nd ff (nd (Int.le_refl 0) (nd p1 (nd p2 (nd (Int.le_refl 0) (nd p3 (nd p4 (nd (spec.NodeRead.spec K (a0.getD 0 noVal) _ e1) (nd (nf c2) (nd (LoopSpec.eqs (spec.l9Go_5.l0.spec K a0 K ((List.replicate 12 false).set 0 true) (((List.replicate 12 false).set 0 true).length) x1.1 x1.2.1 x1.2.2.1 x1.2.2.2.1 0 _ e2) (by simp only [spec.l9Go_5.l0.s, List.length_set, overL_length] : spec.l9Go_5.l0.s K a0 ((List.replicate 12 false).set 0 true) (((List.replicate 12 false).set 0 true).length) x1.1 x1.2.1 x1.2.2.1 x1.2.2.2.1 0 = mkSt 51 [(0, one (.sl 1 0 a0.length)), (1, one (.sl 0 0 ((List.replicate 12 false).length))), (3, one (.int .i64 0)), (9, one (.ptr 2 0 0)), (11, one (.int .i64 0))] [some ⟨true, .bools ((List.replicate 12 false).set 0 true)⟩, some ⟨false, .strs a0⟩, some ⟨true, .cells [.bool x1.1, .sl 3 0 x1.2.1.length, .sl 4 0 x1.2.2.1.length, .str x1.2.2.2.1]⟩, some ⟨true, .strs x1.2.1⟩, some ⟨true, .ints .i64 x1.2.2.1⟩])) trivial)))))))))))))))) (by kernel_rfl)
    · obtain rfl := Option.some.inj h
      exact Den.Spec.of_walk tab mixed Try.func114 (by kernel_rfl) [.br false, .br false, .br false, .br false, .call [] [] (.tup [.agg [.bool x1.1, .sl 0 0 x1.2.1.length, .sl 1 0 x1.2.2.1.length, .str x1.2.2.2.1], .c (.bool x1.2.2.2.2)]) [some ⟨true, .strs x1.2.1⟩, some ⟨true, .ints .i64 x1.2.2.1⟩], .br true] [] [0, 1] (nd (Int.le_refl 0) (nd p1 (nd p2 (nd c1 (nd c1 (nd c1 (nd ff (nd (Int.le_refl 0) (nd p1 (nd p2 (nd (Int.le_refl 0) (nd p3 (nd p4 (nd (spec.NodeRead.spec K (a0.getD 0 noVal) _ e1) (nd (nt c2) trivial))))))))))))))) (by kernel_rfl)
def spec.VolumeOk.l0.f (a0 : List ByteArray) : Nat → (List Bool) → Int → Option (Unit ⊕ Unit)
  | 0, _, _ => none
  | k + 1, v46_0, v46_1 =>
    cond (decide (v46_1 < 12)) (ck (0 ≤ v46_1) (ck (v46_1 < ((List.replicate 12 false).length : Int)) (ck (v46_1.toNat < v46_0.length) (cond (v46_0.getD v46_1.toNat false) (spec.VolumeOk.l0.f a0 k v46_0 (w64 (v46_1 + 1))) (ck (v46_1 < (a0.length : Int)) (cond (strEq (a0.getD v46_1.toNat noVal) noVal) (spec.VolumeOk.l0.f a0 k v46_0 (w64 (v46_1 + 1))) (some (.inl ())))))))) (some (.inr (())))
def spec.VolumeOk.l0.s (a0 : List ByteArray) (v46_0 : List Bool) (v46_1 : Int) : St := mkSt 47 [(0, one (.sl 0 0 a0.length)), (5, one (.sl 1 0 ((List.replicate 12 false).length))), (6, one (.int .i64 v46_1))] [some ⟨false, .strs a0⟩, some ⟨true, .bools v46_0⟩]
def spec.VolumeOk.l0.e0 (a0 : List ByteArray) (o : Unit) : St := mkSt 47 [(2, one (.bool false))] [some ⟨false, .strs a0⟩]
def spec.VolumeOk.l0.e1 (a0 : List ByteArray) (o : Unit) : St := mkSt 47 [] [some ⟨false, .strs a0⟩]
def spec.VolumeOk.l0.x (a0 : List ByteArray) : (Unit ⊕ Unit) → AExit × St := Sum.elim (fun o => (.ret, spec.VolumeOk.l0.e0 a0 o)) (fun o => (.exit 0, spec.VolumeOk.l0.e1 a0 o))
theorem spec.VolumeOk.l0.spec (a0 : List ByteArray) : ∀ (k : Nat) (v46_0 : List Bool) (v46_1 : Int) (o : Unit ⊕ Unit), spec.VolumeOk.l0.f a0 k v46_0 v46_1 = some o → LoopSpec Try.prog 1 (loopN Try.f74 0) (spec.VolumeOk.l0.s a0 v46_0 v46_1) (spec.VolumeOk.l0.x a0 o).1 (spec.VolumeOk.l0.x a0 o).2
  | 0, _, _, _, h => by cases h
  | k + 1, v46_0, v46_1, o, h => by
    unfold spec.VolumeOk.l0.f at h
    rcases br_cases h with ⟨c1, h⟩ | ⟨c1, h⟩
    · obtain ⟨p1, h⟩ := ck_some h
      obtain ⟨p2, h⟩ := ck_some h
      obtain ⟨p3, h⟩ := ck_some h
      rcases br_cases h with ⟨c2, h⟩ | ⟨c2, h⟩
      · exact .of_step tab mixed [.br true, .br false, .br false, .br false, .br false, .br false, .br false, .br false] [] [0, 5, 6] [0, 1] (s1 := spec.VolumeOk.l0.s a0 v46_0 (w64 (v46_1 + 1))) (nd c1 (nd p1 (nd p2 (nd p3 (nd (nf c2) (nd (nf c2) (nd (nf c2) (nd (nf c2) (nd (nf c2) (nd (nf c2) (nd ff trivial))))))))))) (by kernel_rfl) (spec.VolumeOk.l0.spec a0 k v46_0 (w64 (v46_1 + 1)) _ h)
      · obtain ⟨p4, h⟩ := ck_some h
        rcases br_cases h with ⟨c3, h⟩ | ⟨c3, h⟩
        · exact .of_step tab mixed [.br true, .br true, .br true, .br true, .br true, .br true, .br true, .br false] [] [0, 5, 6] [0, 1] (s1 := spec.VolumeOk.l0.s a0 v46_0 (w64 (v46_1 + 1))) (nd c1 (nd p1 (nd p2 (nd p3 (nd (nt c2) (nd (nt c2) (nd (nt c2) (nd p1 (nd p4 (nd (nt c2) (nd (tn p1 p4) (nd (nt c2) (nd (nt c2) (nd (nf c3) trivial)))))))))))))) (by kernel_rfl) (spec.VolumeOk.l0.spec a0 k v46_0 (w64 (v46_1 + 1)) _ h)
        · obtain rfl := Option.some.inj h
          exact .of_done tab mixed [.br true, .br true, .br true, .br true, .br true, .br true, .br true, .br true] [] [2] [0] rfl (nd c1 (nd p1 (nd p2 (nd p3 (nd (nt c2) (nd (nt c2) (nd (nt c2) (nd p1 (nd p4 (nd (nt c2) (nd (tn p1 p4) (nd (nt c2) (nd (nt c2) (nd (nt c3) trivial)))))))))))))) (by kernel_rfl)
    · obtain rfl := Option.some.inj h
      exact .of_done tab mixed [.br false] [] [] [0] rfl (nd c1 trivial) (by kernel_rfl)
def spec.VolumeOk.f (K : Nat) (a0 : List ByteArray) : Option (Bool) :=
  cond ((a0.length : Int) != 12) (some false) (ck (0 < (a0.length : Int)) (ck (0 < a0.length) (Option.bind (spec.NodeRead.f K (a0.getD 0 noVal)) fun x1 => ck ((12 * (1 : Int)) ≤ 70368744177664) (cond (x1.2.2.2.2) (cond (x1.1) (Option.bind (spec.l9Go_5.f K a0) fun x2 => cond (x2.1) (Option.bind (spec.VolumeOk.l0.f a0 K x2.2 0) fun x3 => (Sum.elim (fun x3 => some false) (fun x3 => some true)) x3) (some false)) (some false)) (some false)))))
theorem spec.VolumeOk.spec (K : Nat) (a0 : List ByteArray) (o : Bool) (h : spec.VolumeOk.f K a0 = some o) : Den.Spec Try.prog 74 [one (.sl 0 0 a0.length)] [some ⟨false, .strs a0⟩] (one (.bool o)) [some ⟨false, .strs a0⟩] := by
  unfold spec.VolumeOk.f at h
  rcases br_cases h with ⟨c1, h⟩ | ⟨c1, h⟩
  · obtain rfl := Option.some.inj h
    exact Den.Spec.of_walk tab mixed Try.func74 (by kernel_rfl) [.br true] [] [0] (nd c1 trivial) (by kernel_rfl)
  · obtain ⟨p1, h⟩ := ck_some h
    obtain ⟨p2, h⟩ := ck_some h
    obtain ⟨x1, e1, h⟩ := bind_some h
    obtain ⟨p3, h⟩ := ck_some h
    rcases br_cases h with ⟨c2, h⟩ | ⟨c2, h⟩
    · rcases br_cases h with ⟨c3, h⟩ | ⟨c3, h⟩
      · obtain ⟨x2, e2, h⟩ := bind_some h
        rcases br_cases h with ⟨c4, h⟩ | ⟨c4, h⟩
        · obtain ⟨x3, e3, h⟩ := bind_some h
          rcases x3 with x3 | x3
          · obtain rfl := Option.some.inj h
            exact Den.Spec.of_walk tab mixed Try.func74 (by kernel_rfl) [.br false, .call [] [] (.tup [.agg [.bool x1.1, .sl 0 0 x1.2.1.length, .sl 1 0 x1.2.2.1.length, .str x1.2.2.2.1], .c (.bool x1.2.2.2.2)]) [some ⟨true, .strs x1.2.1⟩, some ⟨true, .ints .i64 x1.2.2.1⟩], .br false, .br false, .br false, .br false, .br false, .br false, .br false, .call [(6, true)] [(0, true)] (one (.bool x2.1)) [some ⟨true, .bools x2.2⟩, some ⟨false, .strs a0⟩], .br false, .br false, .br false, .loop [] [0, 5, 6] [0, 6] (.ret) (spec.VolumeOk.l0.e0 a0 x3)] [] [0] (nd c1 (nd (Int.le_refl 0) (nd p1 (nd p2 (nd (spec.NodeRead.spec K (a0.getD 0 noVal) _ e1) (nd (by decide : (0 : Int) ≤ 12) (nd (rfl : (12 : Int) = (12 : Int)) (nd p3 (nd (nf c2) (nd (nf c2) (nd (nf c2) (nd (nf c2) (nd (nf c3) (nd (nf c3) (nd (nf c3) (nd (spec.l9Go_5.spec K a0 _ e2) (nd (rfl : (0 : Nat) = 0) (nd (rfl : a0.length = a0.length) (nd (nf c3) (nd (nf c3) (nd (nf c4) (nd (spec.VolumeOk.l0.spec a0 K x2.2 0 _ e3) trivial)))))))))))))))))))))) (by kernel_rfl)
          · obtain rfl := Option.some.inj h
            exact Den.Spec.of_walk tab mixed Try.func74 (by kernel_rfl) [.br false, .call [] [] (.tup [.agg [.bool x1.1, .sl 0 0 x1.2.1.length, .sl 1 0 x1.2.2.1.length, .str x1.2.2.2.1], .c (.bool x1.2.2.2.2)]) [some ⟨true, .strs x1.2.1⟩, some ⟨true, .ints .i64 x1.2.2.1⟩], .br false, .br false, .br false, .br false, .br false, .br false, .br false, .call [(6, true)] [(0, true)] (one (.bool x2.1)) [some ⟨true, .bools x2.2⟩, some ⟨false, .strs a0⟩], .br false, .br false, .br false, .loop [] [0, 5, 6] [0, 6] (.exit 0) (spec.VolumeOk.l0.e1 a0 x3)] [] [0] (nd c1 (nd (Int.le_refl 0) (nd p1 (nd p2 (nd (spec.NodeRead.spec K (a0.getD 0 noVal) _ e1) (nd (by decide : (0 : Int) ≤ 12) (nd (rfl : (12 : Int) = (12 : Int)) (nd p3 (nd (nf c2) (nd (nf c2) (nd (nf c2) (nd (nf c2) (nd (nf c3) (nd (nf c3) (nd (nf c3) (nd (spec.l9Go_5.spec K a0 _ e2) (nd (rfl : (0 : Nat) = 0) (nd (rfl : a0.length = a0.length) (nd (nf c3) (nd (nf c3) (nd (nf c4) (nd (spec.VolumeOk.l0.spec a0 K x2.2 0 _ e3) trivial)))))))))))))))))))))) (by kernel_rfl)
        · obtain rfl := Option.some.inj h
          exact Den.Spec.of_walk tab mixed Try.func74 (by kernel_rfl) [.br false, .call [] [] (.tup [.agg [.bool x1.1, .sl 0 0 x1.2.1.length, .sl 1 0 x1.2.2.1.length, .str x1.2.2.2.1], .c (.bool x1.2.2.2.2)]) [some ⟨true, .strs x1.2.1⟩, some ⟨true, .ints .i64 x1.2.2.1⟩], .br false, .br false, .br false, .br false, .br false, .br false, .br false, .call [(6, true)] [(0, true)] (one (.bool x2.1)) [some ⟨true, .bools x2.2⟩, some ⟨false, .strs a0⟩], .br false, .br false, .br true] [] [0] (nd c1 (nd (Int.le_refl 0) (nd p1 (nd p2 (nd (spec.NodeRead.spec K (a0.getD 0 noVal) _ e1) (nd (by decide : (0 : Int) ≤ 12) (nd (rfl : (12 : Int) = (12 : Int)) (nd p3 (nd (nf c2) (nd (nf c2) (nd (nf c2) (nd (nf c2) (nd (nf c3) (nd (nf c3) (nd (nf c3) (nd (spec.l9Go_5.spec K a0 _ e2) (nd (rfl : (0 : Nat) = 0) (nd (rfl : a0.length = a0.length) (nd (nf c3) (nd (nf c3) (nd (nt c4) trivial))))))))))))))))))))) (by kernel_rfl)
      · obtain rfl := Option.some.inj h
        exact Den.Spec.of_walk tab mixed Try.func74 (by kernel_rfl) [.br false, .call [] [] (.tup [.agg [.bool x1.1, .sl 0 0 x1.2.1.length, .sl 1 0 x1.2.2.1.length, .str x1.2.2.2.1], .c (.bool x1.2.2.2.2)]) [some ⟨true, .strs x1.2.1⟩, some ⟨true, .ints .i64 x1.2.2.1⟩], .br false, .br false, .br false, .br false, .br true, .br true, .br true, .br true, .br true, .br true] [] [0] (nd c1 (nd (Int.le_refl 0) (nd p1 (nd p2 (nd (spec.NodeRead.spec K (a0.getD 0 noVal) _ e1) (nd (by decide : (0 : Int) ≤ 12) (nd (rfl : (12 : Int) = (12 : Int)) (nd p3 (nd (nf c2) (nd (nf c2) (nd (nf c2) (nd (nf c2) (nd (nt c3) (nd (nt c3) (nd (nt c3) (nd (nt c3) (nd (nt c3) (nd tt trivial)))))))))))))))))) (by kernel_rfl)
    · obtain rfl := Option.some.inj h
      exact Den.Spec.of_walk tab mixed Try.func74 (by kernel_rfl) [.br false, .call [] [] (.tup [.agg [.bool x1.1, .sl 0 0 x1.2.1.length, .sl 1 0 x1.2.2.1.length, .str x1.2.2.2.1], .c (.bool x1.2.2.2.2)]) [some ⟨true, .strs x1.2.1⟩, some ⟨true, .ints .i64 x1.2.2.1⟩], .br true, .br true, .br true, .br true, .br true, .br true, .br true, .br true, .br true, .br true] [] [0] (nd c1 (nd (Int.le_refl 0) (nd p1 (nd p2 (nd (spec.NodeRead.spec K (a0.getD 0 noVal) _ e1) (nd (by decide : (0 : Int) ≤ 12) (nd (rfl : (12 : Int) = (12 : Int)) (nd p3 (nd (nt c2) (nd (nt c2) (nd (nt c2) (nd (nt c2) (nd tt (nd tt (nd tt (nd tt (nd tt (nd tt trivial)))))))))))))))))) (by kernel_rfl)
def impl.NameOk.l0.f (a0 : ByteArray) : Nat → Int → Option (Unit ⊕ Unit)
  | 0, _ => none
  | k + 1, v51_0 =>
    cond (decide (v51_0 < (a0.size : Int))) (ck (0 ≤ v51_0) (cond (decide ((byteAt a0 v51_0) < 97)) (some (.inl ())) (cond (decide ((byteAt a0 v51_0) > 122)) (some (.inl ())) (impl.NameOk.l0.f a0 k (w64 (v51_0 + 1)))))) (some (.inr (())))
def impl.NameOk.l0.s (a0 : ByteArray) (v51_0 : Int) : St := mkSt 23 [(0, one (.str a0)), (5, one (.int .i64 (a0.size : Int))), (6, one (.int .i64 v51_0))] []
def impl.NameOk.l0.e0 (a0 : ByteArray) (o : Unit) : St := mkSt 23 [(2, one (.bool false))] []
def impl.NameOk.l0.e1 (a0 : ByteArray) (o : Unit) : St := mkSt 23 [(0, one (.str a0))] []
def impl.NameOk.l0.x (a0 : ByteArray) : (Unit ⊕ Unit) → AExit × St := Sum.elim (fun o => (.ret, impl.NameOk.l0.e0 a0 o)) (fun o => (.exit 0, impl.NameOk.l0.e1 a0 o))
theorem impl.NameOk.l0.spec (a0 : ByteArray) : ∀ (k : Nat) (v51_0 : Int) (o : Unit ⊕ Unit), impl.NameOk.l0.f a0 k v51_0 = some o → LoopSpec Try.prog 0 (loopN Try.f72 0) (impl.NameOk.l0.s a0 v51_0) (impl.NameOk.l0.x a0 o).1 (impl.NameOk.l0.x a0 o).2
  | 0, _, _, h => by cases h
  | k + 1, v51_0, o, h => by
    unfold impl.NameOk.l0.f at h
    rcases br_cases h with ⟨c1, h⟩ | ⟨c1, h⟩
    · obtain ⟨p1, h⟩ := ck_some h
      rcases br_cases h with ⟨c2, h⟩ | ⟨c2, h⟩
      · obtain rfl := Option.some.inj h
        exact .of_done tab mixed [.br true, .br true, .br true, .br true, .br true, .br true, .br true] [] [2] [] rfl (nd c1 (nd p1 (nd (of_decide_eq_true c1) (nd c2 (nd c2 (nd c2 (nd c2 (nd c2 (nd tt trivial))))))))) (by kernel_rfl)
      · rcases br_cases h with ⟨c3, h⟩ | ⟨c3, h⟩
        · obtain rfl := Option.some.inj h
          exact .of_done tab mixed [.br true, .br false, .br false, .br false, .br false, .br false, .br true] [] [2] [] rfl (nd c1 (nd p1 (nd (of_decide_eq_true c1) (nd c2 (nd c2 (nd c2 (nd p1 (nd (of_decide_eq_true c1) (nd c2 (nd c2 (nd c3 trivial))))))))))) (by kernel_rfl)
        · exact .of_step tab mixed [.br true, .br false, .br false, .br false, .br false, .br false, .br false] [] [0, 5, 6] [] (s1 := impl.NameOk.l0.s a0 (w64 (v51_0 + 1))) (nd c1 (nd p1 (nd (of_decide_eq_true c1) (nd c2 (nd c2 (nd c2 (nd p1 (nd (of_decide_eq_true c1) (nd c2 (nd c2 (nd c3 trivial))))))))))) (by kernel_rfl) (impl.NameOk.l0.spec a0 k (w64 (v51_0 + 1)) _ h)
    · obtain rfl := Option.some.inj h
      exact .of_done tab mixed [.br false] [] [0] [] rfl (nd c1 trivial) (by kernel_rfl)
def impl.in_.f (a0 : Int) (a1 : Int) (a2 : Int) : Option (Bool) :=
  cond (decide (a0 ≥ a1)) (some (decide (a0 ≤ a2))) (some false)
theorem impl.in_.spec (a0 : Int) (a1 : Int) (a2 : Int) (o : Bool) (h : impl.in_.f a0 a1 a2 = some o) : Den.Spec Try.prog 87 [one (.int .i64 a0), one (.int .i64 a1), one (.int .i64 a2)] [] (one (.bool o)) [] := by
  unfold impl.in_.f at h
  rcases br_cases h with ⟨c1, h⟩ | ⟨c1, h⟩
  · obtain rfl := Option.some.inj h
    exact Den.Spec.of_walk tab mixed Try.func87 (by kernel_rfl) [.br true, .br true, .br true, .br true] [] [] (nd c1 (nd c1 (nd c1 (nd c1 trivial)))) (by kernel_rfl)
  · obtain rfl := Option.some.inj h
    exact Den.Spec.of_walk tab mixed Try.func87 (by kernel_rfl) [.br false, .br false, .br false, .br false] [] [] (nd c1 (nd c1 (nd c1 (nd c1 trivial)))) (by kernel_rfl)
def impl.NameOk.f (K : Nat) (a0 : ByteArray) : Option (Bool) :=
  Option.bind (impl.NameOk.l0.f a0 K 0) fun x1 => (Sum.elim (fun x1 => some false) (fun x1 => Option.bind (impl.in_.f (a0.size : Int) 1 6) fun x2 => some x2)) x1
theorem impl.NameOk.spec (K : Nat) (a0 : ByteArray) (o : Bool) (h : impl.NameOk.f K a0 = some o) : Den.Spec Try.prog 72 [one (.str a0)] [] (one (.bool o)) [] := by
  unfold impl.NameOk.f at h
  obtain ⟨x1, e1, h⟩ := bind_some h
  rcases x1 with x1 | x1
  · obtain rfl := Option.some.inj h
    exact Den.Spec.of_walk tab mixed Try.func72 (by kernel_rfl) [.loop [] [0, 5, 6] [] (.ret) (impl.NameOk.l0.e0 a0 x1)] [] [] (nd (impl.NameOk.l0.spec a0 K 0 _ e1) trivial) (by kernel_rfl)
  · obtain ⟨x2, e2, h⟩ := bind_some h
    obtain rfl := Option.some.inj h
    exact Den.Spec.of_walk tab mixed Try.func72 (by kernel_rfl) [.loop [] [0, 5, 6] [] (.exit 0) (impl.NameOk.l0.e1 a0 x1), .call [] [] (one (.bool x2)) []] [] [] (nd (impl.NameOk.l0.spec a0 K 0 _ e1) (nd (impl.in_.spec (a0.size : Int) 1 6 _ e2) trivial)) (by kernel_rfl)
def impl.isKid.f (a0 : Int) : Option (Bool) :=
  Option.bind (impl.in_.f a0 1 11) fun x1 => some x1
theorem impl.isKid.spec (a0 : Int) (o : Bool) (h : impl.isKid.f a0 = some o) : Den.Spec Try.prog 111 [one (.int .i64 a0)] [] (one (.bool o)) [] := by
  unfold impl.isKid.f at h
  obtain ⟨x1, e1, h⟩ := bind_some h
  obtain rfl := Option.some.inj h
  exact Den.Spec.of_walk tab mixed Try.func111 (by kernel_rfl) [.call [] [] (one (.bool x1)) []] [] [] (nd (impl.in_.spec a0 1 11 _ e1) trivial) (by kernel_rfl)
def slices.Index_int_int.l0.f (a0 : List Int) (a1 : Int) : Nat → Int → Option (Int ⊕ Unit)
  | 0, _ => none
  | k + 1, v55_0 =>
    cond (decide (v55_0 < (a0.length : Int))) (ck (0 ≤ v55_0) (cond (a1 == (a0.getD v55_0.toNat 0)) (some (.inl v55_0)) (slices.Index_int_int.l0.f a0 a1 k (w64 (v55_0 + 1))))) (some (.inr (())))
def slices.Index_int_int.l0.s (a0 : List Int) (a1 : Int) (v55_0 : Int) : St := mkSt 19 [(0, one (.sl 0 0 a0.length)), (1, one (.int .i64 a1)), (7, one (.int .i64 (a0.length : Int))), (8, one (.int .i64 v55_0))] [some ⟨false, .ints .i64 a0⟩]
def slices.Index_int_int.l0.e0 (a0 : List Int) (a1 : Int) (o : Int) : St := mkSt 19 [(4, one (.int .i64 o))] [some ⟨false, .ints .i64 a0⟩]
def slices.Index_int_int.l0.e1 (a0 : List Int) (a1 : Int) (o : Unit) : St := mkSt 19 [] [some ⟨false, .ints .i64 a0⟩]
def slices.Index_int_int.l0.x (a0 : List Int) (a1 : Int) : (Int ⊕ Unit) → AExit × St := Sum.elim (fun o => (.ret, slices.Index_int_int.l0.e0 a0 a1 o)) (fun o => (.exit 0, slices.Index_int_int.l0.e1 a0 a1 o))
theorem slices.Index_int_int.l0.spec (a0 : List Int) (a1 : Int) : ∀ (k : Nat) (v55_0 : Int) (o : Int ⊕ Unit), slices.Index_int_int.l0.f a0 a1 k v55_0 = some o → LoopSpec Try.prog 1 (loopN Try.f112 0) (slices.Index_int_int.l0.s a0 a1 v55_0) (slices.Index_int_int.l0.x a0 a1 o).1 (slices.Index_int_int.l0.x a0 a1 o).2
  | 0, _, _, h => by cases h
  | k + 1, v55_0, o, h => by
    unfold slices.Index_int_int.l0.f at h
    rcases br_cases h with ⟨c1, h⟩ | ⟨c1, h⟩
    · obtain ⟨p1, h⟩ := ck_some h
      rcases br_cases h with ⟨c2, h⟩ | ⟨c2, h⟩
      · obtain rfl := Option.some.inj h
        exact .of_done tab mixed [.br true, .br true] [] [4] [0] rfl (nd c1 (nd p1 (nd (of_decide_eq_true c1) (nd (tn p1 (of_decide_eq_true c1)) (nd c2 trivial))))) (by kernel_rfl)
      · exact .of_step tab mixed [.br true, .br false] [] [0, 1, 7, 8] [0] (s1 := slices.Index_int_int.l0.s a0 a1 (w64 (v55_0 + 1))) (nd c1 (nd p1 (nd (of_decide_eq_true c1) (nd (tn p1 (of_decide_eq_true c1)) (nd c2 trivial))))) (by kernel_rfl) (slices.Index_int_int.l0.spec a0 a1 k (w64 (v55_0 + 1)) _ h)
    · obtain rfl := Option.some.inj h
      exact .of_done tab mixed [.br false] [] [] [0] rfl (nd c1 trivial) (by kernel_rfl)
def slices.Index_int_int.f (K : Nat) (a0 : List Int) (a1 : Int) : Option (Int) :=
  Option.bind (slices.Index_int_int.l0.f a0 a1 K 0) fun x1 => (Sum.elim (fun x1 => some x1) (fun x1 => some (-1))) x1
theorem slices.Index_int_int.spec (K : Nat) (a0 : List Int) (a1 : Int) (o : Int) (h : slices.Index_int_int.f K a0 a1 = some o) : Den.Spec Try.prog 112 [one (.sl 0 0 a0.length), one (.int .i64 a1)] [some ⟨false, .ints .i64 a0⟩] (one (.int .i64 o)) [some ⟨false, .ints .i64 a0⟩] := by
  unfold slices.Index_int_int.f at h
  obtain ⟨x1, e1, h⟩ := bind_some h
  rcases x1 with x1 | x1
  · obtain rfl := Option.some.inj h
    exact Den.Spec.of_walk tab mixed Try.func112 (by kernel_rfl) [.loop [] [0, 1, 7, 8] [0] (.ret) (slices.Index_int_int.l0.e0 a0 a1 x1)] [] [0] (nd (slices.Index_int_int.l0.spec a0 a1 K 0 _ e1) trivial) (by kernel_rfl)
  · obtain rfl := Option.some.inj h
    exact Den.Spec.of_walk tab mixed Try.func112 (by kernel_rfl) [.loop [] [0, 1, 7, 8] [0] (.exit 0) (slices.Index_int_int.l0.e1 a0 a1 x1)] [] [0] (nd (slices.Index_int_int.l0.spec a0 a1 K 0 _ e1) trivial) (by kernel_rfl)
def impl.NodeOk.l0.f (K : Nat) (a0 : Bool) (a1 : List ByteArray) (a2 : List Int) (a3 : ByteArray) : Nat → Int → Option (Unit ⊕ Unit)
  | 0, _ => none
  | k + 1, v57_0 =>
    cond (decide (v57_0 < (a1.length : Int))) (ck (0 ≤ v57_0) (Option.bind (impl.NameOk.f K (a1.getD v57_0.toNat noVal)) fun x1 => cond (x1) (cond (decide (v57_0 > 0)) (ck (0 ≤ (w64 (v57_0 - 1))) (ck ((w64 (v57_0 - 1)) < (a1.length : Int)) (cond (strLt (a1.getD ((w64 (v57_0 - 1)).toNat) noVal) (a1.getD v57_0.toNat noVal)) (ck (v57_0 < (a2.length : Int)) (Option.bind (impl.isKid.f (a2.getD v57_0.toNat 0)) fun x2 => cond (x2) (Option.bind (slices.Index_int_int.f K a2 (a2.getD v57_0.toNat 0)) fun x3 => cond (x3 != v57_0) (some (.inl ())) (impl.NodeOk.l0.f K a0 a1 a2 a3 k (w64 (v57_0 + 1)))) (some (.inl ())))) (some (.inl ()))))) (ck (v57_0 < (a2.length : Int)) (Option.bind (impl.isKid.f (a2.getD v57_0.toNat 0)) fun x2 => cond (x2) (Option.bind (slices.Index_int_int.f K a2 (a2.getD v57_0.toNat 0)) fun x3 => cond (x3 != v57_0) (some (.inl ())) (impl.NodeOk.l0.f K a0 a1 a2 a3 k (w64 (v57_0 + 1)))) (some (.inl ()))))) (some (.inl ())))) (some (.inr (())))
def impl.NodeOk.l0.s (K : Nat) (a0 : Bool) (a1 : List ByteArray) (a2 : List Int) (a3 : ByteArray) (v57_0 : Int) : St := mkSt 83 [(1, one (.ptr 2 0 0)), (37, one (.sl 0 0 a1.length)), (38, one (.int .i64 (a1.length : Int))), (39, one (.int .i64 v57_0))] [some ⟨false, .strs a1⟩, some ⟨false, .ints .i64 a2⟩, some ⟨true, .cells [.bool a0, .sl 0 0 a1.length, .sl 1 0 a2.length, .str a3]⟩]
def impl.NodeOk.l0.e0 (K : Nat) (a0 : Bool) (a1 : List ByteArray) (a2 : List Int) (a3 : ByteArray) (o : Unit) : St := mkSt 83 [(2, one (.bool false))] [some ⟨false, .strs a1⟩, some ⟨false, .ints .i64 a2⟩]
def impl.NodeOk.l0.e1 (K : Nat) (a0 : Bool) (a1 : List ByteArray) (a2 : List Int) (a3 : ByteArray) (o : Unit) : St := mkSt 83 [] [some ⟨false, .strs a1⟩, some ⟨false, .ints .i64 a2⟩]
def impl.NodeOk.l0.x (K : Nat) (a0 : Bool) (a1 : List ByteArray) (a2 : List Int) (a3 : ByteArray) : (Unit ⊕ Unit) → AExit × St := Sum.elim (fun o => (.ret, impl.NodeOk.l0.e0 K a0 a1 a2 a3 o)) (fun o => (.exit 0, impl.NodeOk.l0.e1 K a0 a1 a2 a3 o))
theorem impl.NodeOk.l0.spec (K : Nat) (a0 : Bool) (a1 : List ByteArray) (a2 : List Int) (a3 : ByteArray) : ∀ (k : Nat) (v57_0 : Int) (o : Unit ⊕ Unit), impl.NodeOk.l0.f K a0 a1 a2 a3 k v57_0 = some o → LoopSpec Try.prog 2 (loopN Try.f67 0) (impl.NodeOk.l0.s K a0 a1 a2 a3 v57_0) (impl.NodeOk.l0.x K a0 a1 a2 a3 o).1 (impl.NodeOk.l0.x K a0 a1 a2 a3 o).2
  | 0, _, _, h => by cases h
  | k + 1, v57_0, o, h => by
    unfold impl.NodeOk.l0.f at h
    rcases br_cases h with ⟨c1, h⟩ | ⟨c1, h⟩
    · obtain ⟨p1, h⟩ := ck_some h
      obtain ⟨x1, e1, h⟩ := bind_some h
      rcases br_cases h with ⟨c2, h⟩ | ⟨c2, h⟩
      · rcases br_cases h with ⟨c3, h⟩ | ⟨c3, h⟩
        · obtain ⟨p2, h⟩ := ck_some h
          obtain ⟨p3, h⟩ := ck_some h
          rcases br_cases h with ⟨c4, h⟩ | ⟨c4, h⟩
          · obtain ⟨p4, h⟩ := ck_some h
            obtain ⟨x2, e2, h⟩ := bind_some h
            rcases br_cases h with ⟨c5, h⟩ | ⟨c5, h⟩
            · obtain ⟨x3, e3, h⟩ := bind_some h
              rcases br_cases h with ⟨c6, h⟩ | ⟨c6, h⟩
              · obtain rfl := Option.some.inj h
                exact .of_done tab mixed [.br true, .call [] [] (one (.bool x1)) [], .br false, .br false, .br false, .br true, .br true, .br true, .br true, .br true, .br true, .br true, .br true, .br false, .br true, .br false, .br false, .br false, .br false, .br false, .br false, .br false, .call [] [] (one (.bool x2)) [], .br false, .br false, .br false, .br false, .br false, .br false, .br false, .br false, .br false, .br false, .call [] [(0, true)] (one (.int .i64 x3)) [some ⟨false, .ints .i64 a2⟩], .br false, .br false, .br false, .br true] [] [2] [0, 1] rfl (nd c1 (nd p1 (nd (of_decide_eq_true c1) (nd (tn p1 (of_decide_eq_true c1)) (nd (impl.NameOk.spec K (a1.getD v57_0.toNat noVal) _ e1) (nd (nf c2) (nd (nf c2) (nd (nf c2) (nd c3 (nd c3 (nd c3 (nd c3 (nd c3 (nd p2 (nd p3 (nd c3 (nd (tn p2 p3) (nd c3 (nd c3 (nd (nf c2) (nd c3 (nd (nf c2) (nd (nf c4) (nd (nf c4) (nd (nf c4) (nd (nf c4) (nd p1 (nd p4 (nd (nf c4) (nd (tn p1 p4) (nd (nf c4) (nd (impl.isKid.spec (a2.getD v57_0.toNat 0) _ e2) (nd (nf c4) (nd (nf c4) (nd (nf c5) (nd (nf c5) (nd (nf c5) (nd (nf c5) (nd (nf c5) (nd (nf c5) (nd p1 (nd p4 (nd (nf c5) (nd (tn p1 p4) (nd (nf c5) (nd (slices.Index_int_int.spec K a2 (a2.getD v57_0.toNat 0) _ e3) (nd (rfl : (0 : Nat) = 0) (nd (rfl : a2.length = a2.length) (nd (nf c5) (nd (nf c5) (nd (nf c5) (nd c6 trivial)))))))))))))))))))))))))))))))))))))))))))))))))))) (by kernel_rfl)
              · exact .of_step tab mixed [.br true, .call [] [] (one (.bool x1)) [], .br false, .br false, .br false, .br true, .br true, .br true, .br true, .br true, .br true, .br true, .br true, .br false, .br true, .br false, .br false, .br false, .br false, .br false, .br false, .br false, .call [] [] (one (.bool x2)) [], .br false, .br false, .br false, .br false, .br false, .br false, .br false, .br false, .br false, .br false, .call [] [(0, true)] (one (.int .i64 x3)) [some ⟨false, .ints .i64 a2⟩], .br false, .br false, .br false, .br false] [] [1, 37, 38, 39] [0, 1, 2] (s1 := impl.NodeOk.l0.s K a0 a1 a2 a3 (w64 (v57_0 + 1))) (nd c1 (nd p1 (nd (of_decide_eq_true c1) (nd (tn p1 (of_decide_eq_true c1)) (nd (impl.NameOk.spec K (a1.getD v57_0.toNat noVal) _ e1) (nd (nf c2) (nd (nf c2) (nd (nf c2) (nd c3 (nd c3 (nd c3 (nd c3 (nd c3 (nd p2 (nd p3 (nd c3 (nd (tn p2 p3) (nd c3 (nd c3 (nd (nf c2) (nd c3 (nd (nf c2) (nd (nf c4) (nd (nf c4) (nd (nf c4) (nd (nf c4) (nd p1 (nd p4 (nd (nf c4) (nd (tn p1 p4) (nd (nf c4) (nd (impl.isKid.spec (a2.getD v57_0.toNat 0) _ e2) (nd (nf c4) (nd (nf c4) (nd (nf c5) (nd (nf c5) (nd (nf c5) (nd (nf c5) (nd (nf c5) (nd (nf c5) (nd p1 (nd p4 (nd (nf c5) (nd (tn p1 p4) (nd (nf c5) (nd (slices.Index_int_int.spec K a2 (a2.getD v57_0.toNat 0) _ e3) (nd (rfl : (0 : Nat) = 0) (nd (rfl : a2.length = a2.length) (nd (nf c5) (nd (nf c5) (nd (nf c5) (nd c6 trivial)))))))))))))))))))))))))))))))))))))))))))))))))))) (by kernel_rfl) (impl.NodeOk.l0.spec K a0 a1 a2 a3 k (w64 (v57_0 + 1)) _ h)
            · obtain rfl := Option.some.inj h
              exact .of_done tab mixed [.br true, .call [] [] (one (.bool x1)) [], .br false, .br false, .br false, .br true, .br true, .br true, .br true, .br true, .br true, .br true, .br true, .br false, .br true, .br false, .br false, .br false, .br false, .br false, .br false, .br false, .call [] [] (one (.bool x2)) [], .br false, .br false, .br true, .br true, .br true, .br true, .br true, .br true, .br true, .br true, .br true, .br true, .br true, .br true] [] [2] [0, 1] rfl (nd c1 (nd p1 (nd (of_decide_eq_true c1) (nd (tn p1 (of_decide_eq_true c1)) (nd (impl.NameOk.spec K (a1.getD v57_0.toNat noVal) _ e1) (nd (nf c2) (nd (nf c2) (nd (nf c2) (nd c3 (nd c3 (nd c3 (nd c3 (nd c3 (nd p2 (nd p3 (nd c3 (nd (tn p2 p3) (nd c3 (nd c3 (nd (nf c2) (nd c3 (nd (nf c2) (nd (nf c4) (nd (nf c4) (nd (nf c4) (nd (nf c4) (nd p1 (nd p4 (nd (nf c4) (nd (tn p1 p4) (nd (nf c4) (nd (impl.isKid.spec (a2.getD v57_0.toNat 0) _ e2) (nd (nf c4) (nd (nf c4) (nd (nt c5) (nd (nt c5) (nd (nt c5) (nd (nt c5) (nd (nt c5) (nd (nt c5) (nd (nt c5) (nd (nt c5) (nd (nt c5) (nd (nt c5) (nd (nt c5) (nd tt trivial)))))))))))))))))))))))))))))))))))))))))))))) (by kernel_rfl)
          · obtain rfl := Option.some.inj h
            exact .of_done tab mixed [.br true, .call [] [] (one (.bool x1)) [], .br false, .br false, .br false, .br true, .br true, .br true, .br true, .br true, .br true, .br true, .br true, .br false, .br true, .br false, .br true, .br true, .br true, .br true, .br true, .br true, .br true, .br true, .br true, .br true, .br true, .br true, .br true, .br true, .br true, .br true, .br true, .br true, .br true, .br true] [] [2] [0, 1] rfl (nd c1 (nd p1 (nd (of_decide_eq_true c1) (nd (tn p1 (of_decide_eq_true c1)) (nd (impl.NameOk.spec K (a1.getD v57_0.toNat noVal) _ e1) (nd (nf c2) (nd (nf c2) (nd (nf c2) (nd c3 (nd c3 (nd c3 (nd c3 (nd c3 (nd p2 (nd p3 (nd c3 (nd (tn p2 p3) (nd c3 (nd c3 (nd (nf c2) (nd c3 (nd (nf c2) (nd (nt c4) (nd (nt c4) (nd (nt c4) (nd (nt c4) (nd (nt c4) (nd (nt c4) (nd (nt c4) (nd (nt c4) (nd tt (nd tt (nd tt (nd tt (nd tt (nd tt (nd tt (nd tt (nd tt (nd tt (nd tt (nd tt trivial)))))))))))))))))))))))))))))))))))))))))) (by kernel_rfl)
        · obtain ⟨p2, h⟩ := ck_some h
          obtain ⟨x2, e2, h⟩ := bind_some h
          rcases br_cases h with ⟨c4, h⟩ | ⟨c4, h⟩
          · obtain ⟨x3, e3, h⟩ := bind_some h
            rcases br_cases h with ⟨c5, h⟩ | ⟨c5, h⟩
            · obtain rfl := Option.some.inj h
              exact .of_done tab mixed [.br true, .call [] [] (one (.bool x1)) [], .br false, .br false, .br false, .br false, .br false, .br false, .br false, .br false, .br false, .br false, .br false, .br false, .br false, .br false, .br false, .br false, .br false, .br false, .br false, .br false, .call [] [] (one (.bool x2)) [], .br false, .br false, .br false, .br false, .br false, .br false, .br false, .br false, .br false, .br false, .call [] [(0, true)] (one (.int .i64 x3)) [some ⟨false, .ints .i64 a2⟩], .br false, .br false, .br false, .br true] [] [2] [0, 1] rfl (nd c1 (nd p1 (nd (of_decide_eq_true c1) (nd (tn p1 (of_decide_eq_true c1)) (nd (impl.NameOk.spec K (a1.getD v57_0.toNat noVal) _ e1) (nd (nf c2) (nd (nf c2) (nd (nf c2) (nd c3 (nd c3 (nd c3 (nd c3 (nd c3 (nd c3 (nd c3 (nd c3 (nd (nf c2) (nd c3 (nd (nf c2) (nd ff (nd ff (nd ff (nd ff (nd p1 (nd p2 (nd ff (nd (tn p1 p2) (nd ff (nd (impl.isKid.spec (a2.getD v57_0.toNat 0) _ e2) (nd ff (nd ff (nd (nf c4) (nd (nf c4) (nd (nf c4) (nd (nf c4) (nd (nf c4) (nd (nf c4) (nd p1 (nd p2 (nd (nf c4) (nd (tn p1 p2) (nd (nf c4) (nd (slices.Index_int_int.spec K a2 (a2.getD v57_0.toNat 0) _ e3) (nd (rfl : (0 : Nat) = 0) (nd (rfl : a2.length = a2.length) (nd (nf c4) (nd (nf c4) (nd (nf c4) (nd c5 trivial))))))))))))))))))))))))))))))))))))))))))))))))) (by kernel_rfl)
            · exact .of_step tab mixed [.br true, .call [] [] (one (.bool x1)) [], .br false, .br false, .br false, .br false, .br false, .br false, .br false, .br false, .br false, .br false, .br false, .br false, .br false, .br false, .br false, .br false, .br false, .br false, .br false, .br false, .call [] [] (one (.bool x2)) [], .br false, .br false, .br false, .br false, .br false, .br false, .br false, .br false, .br false, .br false, .call [] [(0, true)] (one (.int .i64 x3)) [some ⟨false, .ints .i64 a2⟩], .br false, .br false, .br false, .br false] [] [1, 37, 38, 39] [0, 1, 2] (s1 := impl.NodeOk.l0.s K a0 a1 a2 a3 (w64 (v57_0 + 1))) (nd c1 (nd p1 (nd (of_decide_eq_true c1) (nd (tn p1 (of_decide_eq_true c1)) (nd (impl.NameOk.spec K (a1.getD v57_0.toNat noVal) _ e1) (nd (nf c2) (nd (nf c2) (nd (nf c2) (nd c3 (nd c3 (nd c3 (nd c3 (nd c3 (nd c3 (nd c3 (nd c3 (nd (nf c2) (nd c3 (nd (nf c2) (nd ff (nd ff (nd ff (nd ff (nd p1 (nd p2 (nd ff (nd (tn p1 p2) (nd ff (nd (impl.isKid.spec (a2.getD v57_0.toNat 0) _ e2) (nd ff (nd ff (nd (nf c4) (nd (nf c4) (nd (nf c4) (nd (nf c4) (nd (nf c4) (nd (nf c4) (nd p1 (nd p2 (nd (nf c4) (nd (tn p1 p2) (nd (nf c4) (nd (slices.Index_int_int.spec K a2 (a2.getD v57_0.toNat 0) _ e3) (nd (rfl : (0 : Nat) = 0) (nd (rfl : a2.length = a2.length) (nd (nf c4) (nd (nf c4) (nd (nf c4) (nd c5 trivial))))))))))))))))))))))))))))))))))))))))))))))))) (by kernel_rfl) (impl.NodeOk.l0.spec K a0 a1 a2 a3 k (w64 (v57_0 + 1)) _ h)
          · obtain rfl := Option.some.inj h
            exact .of_done tab mixed [.br true, .call [] [] (one (.bool x1)) [], .br false, .br false, .br false, .br false, .br false, .br false, .br false, .br false, .br false, .br false, .br false, .br false, .br false, .br false, .br false, .br false, .br false, .br false, .br false, .br false, .call [] [] (one (.bool x2)) [], .br false, .br false, .br true, .br true, .br true, .br true, .br true, .br true, .br true, .br true, .br true, .br true, .br true, .br true] [] [2] [0, 1] rfl (nd c1 (nd p1 (nd (of_decide_eq_true c1) (nd (tn p1 (of_decide_eq_true c1)) (nd (impl.NameOk.spec K (a1.getD v57_0.toNat noVal) _ e1) (nd (nf c2) (nd (nf c2) (nd (nf c2) (nd c3 (nd c3 (nd c3 (nd c3 (nd c3 (nd c3 (nd c3 (nd c3 (nd (nf c2) (nd c3 (nd (nf c2) (nd ff (nd ff (nd ff (nd ff (nd p1 (nd p2 (nd ff (nd (tn p1 p2) (nd ff (nd (impl.isKid.spec (a2.getD v57_0.toNat 0) _ e2) (nd ff (nd ff (nd (nt c4) (nd (nt c4) (nd (nt c4) (nd (nt c4) (nd (nt c4) (nd (nt c4) (nd (nt c4) (nd (nt c4) (nd (nt c4) (nd (nt c4) (nd (nt c4) (nd tt trivial))))))))))))))))))))))))))))))))))))))))))) (by kernel_rfl)
      · obtain rfl := Option.some.inj h
        exact .of_done tab mixed [.br true, .call [] [] (one (.bool x1)) [], .br true, .br true, .br true, .br true, .br true, .br true, .br true, .br true, .br true, .br true, .br true, .br true, .br true, .br true, .br true, .br true, .br true, .br true, .br true, .br true, .br true, .br true, .br true, .br true, .br true] [] [2] [0, 1] rfl (nd c1 (nd p1 (nd (of_decide_eq_true c1) (nd (tn p1 (of_decide_eq_true c1)) (nd (impl.NameOk.spec K (a1.getD v57_0.toNat noVal) _ e1) (nd (nt c2) (nd (nt c2) (nd (nt c2) (nd (nt c2) (nd (nt c2) (nd tt (nd tt (nd tt (nd tt (nd tt (nd tt (nd tt (nd tt (nd tt (nd tt (nd tt (nd tt (nd tt (nd tt (nd tt (nd tt (nd tt (nd tt (nd tt (nd tt trivial)))))))))))))))))))))))))))))) (by kernel_rfl)
    · obtain rfl := Option.some.inj h
      exact .of_done tab mixed [.br false] [] [] [0, 1] rfl (nd c1 trivial) (by kernel_rfl)
def impl.NodeOk.f (K : Nat) (a0 : Bool) (a1 : List ByteArray) (a2 : List Int) (a3 : ByteArray) : Option (Bool) :=
  cond (a0) (cond ((a1.length : Int) != (a2.length : Int)) (some false) (cond (strEq a3 noVal) (Option.bind (impl.NodeOk.l0.f K a0 a1 a2 a3 K 0) fun x1 => (Sum.elim (fun x1 => some false) (fun x1 => some true)) x1) (some false))) (cond ((a1.length : Int) == 0) (cond ((a2.length : Int) == 0) (some (decide ((a3.size : Int) ≤ 60))) (some false)) (some false))
theorem impl.NodeOk.spec (K : Nat) (a0 : Bool) (a1 : List ByteArray) (a2 : List Int) (a3 : ByteArray) (o : Bool) (h : impl.NodeOk.f K a0 a1 a2 a3 = some o) : Den.Spec Try.prog 67 [.v (.agg [.bool a0, .sl 0 0 a1.length, .sl 1 0 a2.length, .str a3])] [some ⟨false, .strs a1⟩, some ⟨false, .ints .i64 a2⟩] (one (.bool o)) [some ⟨false, .strs a1⟩, some ⟨false, .ints .i64 a2⟩] := by
  unfold impl.NodeOk.f at h
  rcases br_cases h with ⟨c1, h⟩ | ⟨c1, h⟩
  · rcases br_cases h with ⟨c2, h⟩ | ⟨c2, h⟩
    · obtain rfl := Option.some.inj h
      exact Den.Spec.of_walk tab mixed Try.func67 (by kernel_rfl) [.br false, .br true, .br true, .br true, .br true, .br true] [] [0, 1] (nd (nf c1) (nd c2 (nd c2 (nd c2 (nd c2 (nd tt trivial)))))) (by kernel_rfl)
    · rcases br_cases h with ⟨c3, h⟩ | ⟨c3, h⟩
      · obtain ⟨x1, e1, h⟩ := bind_some h
        rcases x1 with x1 | x1
        · obtain rfl := Option.some.inj h
          exact Den.Spec.of_walk tab mixed Try.func67 (by kernel_rfl) [.br false, .br false, .br false, .br false, .br false, .br false, .loop [] [1, 37, 38, 39] [0, 1, 2] (.ret) (impl.NodeOk.l0.e0 K a0 a1 a2 a3 x1)] [] [0, 1] (nd (nf c1) (nd c2 (nd c2 (nd c2 (nd c2 (nd (nf c3) (nd (impl.NodeOk.l0.spec K a0 a1 a2 a3 K 0 _ e1) trivial))))))) (by kernel_rfl)
        · obtain rfl := Option.some.inj h
          exact Den.Spec.of_walk tab mixed Try.func67 (by kernel_rfl) [.br false, .br false, .br false, .br false, .br false, .br false, .loop [] [1, 37, 38, 39] [0, 1, 2] (.exit 0) (impl.NodeOk.l0.e1 K a0 a1 a2 a3 x1)] [] [0, 1] (nd (nf c1) (nd c2 (nd c2 (nd c2 (nd c2 (nd (nf c3) (nd (impl.NodeOk.l0.spec K a0 a1 a2 a3 K 0 _ e1) trivial))))))) (by kernel_rfl)
      · obtain rfl := Option.some.inj h
        exact Den.Spec.of_walk tab mixed Try.func67 (by kernel_rfl) [.br false, .br false, .br false, .br false, .br false, .br true] [] [0, 1] (nd (nf c1) (nd c2 (nd c2 (nd c2 (nd c2 (nd (nt c3) trivial)))))) (by kernel_rfl)
  · rcases br_cases h with ⟨c2, h⟩ | ⟨c2, h⟩
    · rcases br_cases h with ⟨c3, h⟩ | ⟨c3, h⟩
      · obtain rfl := Option.some.inj h
        exact Den.Spec.of_walk tab mixed Try.func67 (by kernel_rfl) [.br true, .br true, .br true, .br true, .br true, .br true, .br true, .br true, .br true, .br true, .br true] [] [0, 1] (nd (nt c1) (nd c2 (nd c2 (nd c2 (nd c2 (nd c2 (nd c3 (nd c3 (nd c3 (nd c3 (nd c3 trivial))))))))))) (by kernel_rfl)
      · obtain rfl := Option.some.inj h
        exact Den.Spec.of_walk tab mixed Try.func67 (by kernel_rfl) [.br true, .br true, .br true, .br true, .br true, .br true, .br false, .br false, .br false, .br false, .br false] [] [0, 1] (nd (nt c1) (nd c2 (nd c2 (nd c2 (nd c2 (nd c2 (nd c3 (nd c3 (nd c3 (nd c3 (nd c3 trivial))))))))))) (by kernel_rfl)
    · obtain rfl := Option.some.inj h
      exact Den.Spec.of_walk tab mixed Try.func67 (by kernel_rfl) [.br true, .br false, .br false, .br false, .br false, .br false, .br false, .br false, .br false, .br false, .br false] [] [0, 1] (nd (nt c1) (nd c2 (nd c2 (nd c2 (nd c2 (nd c2 (nd ff (nd ff (nd ff (nd ff (nd ff trivial))))))))))) (by kernel_rfl)
def impl.NodeText.l0.f (a0 : Bool) (a1 : List ByteArray) (a2 : List Int) (a3 : ByteArray) : Nat → (List Int) → Int → Option ((List Int))
  | 0, _, _ => none
  | k + 1, v60_0, v60_1 =>
    cond (decide (v60_1 < (a1.length : Int))) (ck (0 ≤ v60_1) (ck ((v60_0 ++ (bytesL (a1.getD v60_1.toNat noVal))).length * 1 ≤ 70368744177664) (ck (v60_1 < (a2.length : Int)) (ck (((v60_0 ++ (bytesL (a1.getD v60_1.toNat noVal))) ++ [61, IntKind.u8.wrap (w64 (48 + (a2.getD v60_1.toNat 0)))]).length * 1 ≤ 70368744177664) (impl.NodeText.l0.f a0 a1 a2 a3 k ((v60_0 ++ (bytesL (a1.getD v60_1.toNat noVal))) ++ [61, IntKind.u8.wrap (w64 (48 + (a2.getD v60_1.toNat 0)))]) (w64 (v60_1 + 1))))))) (some v60_0)
def impl.NodeText.l0.s (a0 : Bool) (a1 : List ByteArray) (a2 : List Int) (a3 : ByteArray) (v60_0 : List Int) (v60_1 : Int) : St := mkSt 40 [(1, one (.ptr 2 0 0)), (3, one (.sl 3 0 v60_0.length)), (18, one (.sl 0 0 a1.length)), (19, one (.int .i64 (a1.length : Int))), (20, one (.int .i64 v60_1))] [some ⟨false, .strs a1⟩, some ⟨false, .ints .i64 a2⟩, some ⟨true, .cells [.bool a0, .sl 0 0 a1.length, .sl 1 0 a2.length, .str a3]⟩, some ⟨true, .ints .u8 v60_0⟩]
def impl.NodeText.l0.e0 (a0 : Bool) (a1 : List ByteArray) (a2 : List Int) (a3 : ByteArray) (o : (List Int)) : St := mkSt 40 [(3, one (.sl 2 0 o.length))] [some ⟨false, .strs a1⟩, some ⟨false, .ints .i64 a2⟩, some ⟨true, .ints .u8 o⟩]
def impl.NodeText.l0.x (a0 : Bool) (a1 : List ByteArray) (a2 : List Int) (a3 : ByteArray) : ((List Int)) → AExit × St := fun o => (.exit 0, impl.NodeText.l0.e0 a0 a1 a2 a3 o)
theorem impl.NodeText.l0.spec (a0 : Bool) (a1 : List ByteArray) (a2 : List Int) (a3 : ByteArray) : ∀ (k : Nat) (v60_0 : List Int) (v60_1 : Int) (o : (List Int)), impl.NodeText.l0.f a0 a1 a2 a3 k v60_0 v60_1 = some o → LoopSpec Try.prog 2 (loopN Try.f38 0) (impl.NodeText.l0.s a0 a1 a2 a3 v60_0 v60_1) (impl.NodeText.l0.x a0 a1 a2 a3 o).1 (impl.NodeText.l0.x a0 a1 a2 a3 o).2
  | 0, _, _, _, h => by cases h
  | k + 1, v60_0, v60_1, o, h => by
    unfold impl.NodeText.l0.f at h
    rcases br_cases h with ⟨c1, h⟩ | ⟨c1, h⟩
    · obtain ⟨p1, h⟩ := ck_some h
      obtain ⟨p2, h⟩ := ck_some h
      obtain ⟨p3, h⟩ := ck_some h
      obtain ⟨p4, h⟩ := ck_some h
      exact .of_step tab mixed [.br true, .br true] [] [1, 3, 18, 19, 20] [0, 1, 2, 92] (s1 := impl.NodeText.l0.s a0 a1 a2 a3 ((v60_0 ++ (bytesL (a1.getD v60_1.toNat noVal))) ++ [61, IntKind.u8.wrap (w64 (48 + (a2.getD v60_1.toNat 0)))]) (w64 (v60_1 + 1))) (nd c1 (nd p1 (nd (of_decide_eq_true c1) (nd (tn p1 (of_decide_eq_true c1)) (nd (rfl : (0 : Nat) = 0) (nd (rfl : v60_0.length = v60_0.length) (nd p2 (nd p1 (nd p3 (nd (tn p1 p3) (nd (rfl : (0 : Nat) = 0) (nd (rfl : (v60_0 ++ (bytesL (a1.getD v60_1.toNat noVal))).length = (v60_0 ++ (bytesL (a1.getD v60_1.toNat noVal))).length) (nd p4 (nd (rfl : (0 : Nat) = 0) (nd (rfl : 2 = 2) trivial))))))))))))))) (by kernel_rfl) (impl.NodeText.l0.spec a0 a1 a2 a3 k ((v60_0 ++ (bytesL (a1.getD v60_1.toNat noVal))) ++ [61, IntKind.u8.wrap (w64 (48 + (a2.getD v60_1.toNat 0)))]) (w64 (v60_1 + 1)) _ h)
    · obtain rfl := Option.some.inj h
      exact .of_done tab mixed [.br false] [] [3] [0, 1, 3] rfl (nd c1 trivial) (by kernel_rfl)
def impl.NodeText.f (K : Nat) (a0 : Bool) (a1 : List ByteArray) (a2 : List Int) (a3 : ByteArray) : Option (ByteArray) :=
  Option.bind (impl.NodeOk.f K a0 a1 a2 a3) fun x1 => cond (x1) (cond (a0) (Option.bind (impl.NodeText.l0.f a0 a1 a2 a3 K [100] 0) fun x2 => some (ofBytes x2)) (ck ((((ByteArray.mk #[102]).size + a3.size : Nat) : Int) ≤ 9223372036854775807) (some ((ByteArray.mk #[102]) ++ a3)))) (some noVal)
theorem impl.NodeText.spec (K : Nat) (a0 : Bool) (a1 : List ByteArray) (a2 : List Int) (a3 : ByteArray) (o : ByteArray) (h : impl.NodeText.f K a0 a1 a2 a3 = some o) : Den.Spec Try.prog 38 [.v (.agg [.bool a0, .sl 0 0 a1.length, .sl 1 0 a2.length, .str a3])] [some ⟨false, .strs a1⟩, some ⟨false, .ints .i64 a2⟩] (one (.str o)) [some ⟨false, .strs a1⟩, some ⟨false, .ints .i64 a2⟩] := by
  unfold impl.NodeText.f at h
  obtain ⟨x1, e1, h⟩ := bind_some h
  rcases br_cases h with ⟨c1, h⟩ | ⟨c1, h⟩
  · rcases br_cases h with ⟨c2, h⟩ | ⟨c2, h⟩
    · obtain ⟨x2, e2, h⟩ := bind_some h
      obtain rfl := Option.some.inj h
      exact Den.Spec.of_walk tab mixed Try.func38 (by kernel_rfl) [.call [(0, false), (1, false)] [] (one (.bool x1)) [some ⟨false, .strs a1⟩, some ⟨false, .ints .i64 a2⟩], .br false, .br false, .loop [] [1, 3, 18, 19, 20] [0, 1, 2, 3] (.exit 0) (impl.NodeText.l0.e0 a0 a1 a2 a3 x2), .br true] [] [0, 1] (nd (impl.NodeOk.spec K a0 a1 a2 a3 _ e1) (nd (nf c1) (nd (nf c2) (nd (by decide : ((0 : Nat) < 1)) (nd (impl.NodeText.l0.spec a0 a1 a2 a3 K [100] 0 _ e2) (nd (rfl : (0 : Nat) = 0) (nd (rfl : x2.length = x2.length) trivial))))))) (by kernel_rfl)
    · obtain ⟨p1, h⟩ := ck_some h
      obtain rfl := Option.some.inj h
      exact Den.Spec.of_walk tab mixed Try.func38 (by kernel_rfl) [.call [(0, false), (1, false)] [] (one (.bool x1)) [some ⟨false, .strs a1⟩, some ⟨false, .ints .i64 a2⟩], .br false, .br true] [] [0, 1] (nd (impl.NodeOk.spec K a0 a1 a2 a3 _ e1) (nd (nf c1) (nd (nt c2) (nd p1 trivial)))) (by kernel_rfl)
  · obtain rfl := Option.some.inj h
    exact Den.Spec.of_walk tab mixed Try.func38 (by kernel_rfl) [.call [(0, false), (1, false)] [] (one (.bool x1)) [some ⟨false, .strs a1⟩, some ⟨false, .ints .i64 a2⟩], .br true] [] [0, 1] (nd (impl.NodeOk.spec K a0 a1 a2 a3 _ e1) (nd (nt c1) trivial)) (by kernel_rfl)
def impl.NodeRead.l0.f (a0 : ByteArray) : Nat → (List ByteArray) → (List Int) → Int → Int → Option ((List ByteArray) × (List Int))
  | 0, _, _, _, _ => none
  | k + 1, v63_0, v63_1, v63_2, v63_3 =>
    cond (decide (v63_3 < (a0.size : Int))) (ck (0 ≤ v63_3) (cond ((byteAt a0 v63_3) == 61) (cond (decide ((w64 (v63_3 + 1)) < (a0.size : Int))) (ck (0 ≤ v63_2) (ck (v63_2 ≤ v63_3) (ck (v63_3 ≤ (a0.size : Int)) (ck ((v63_0 ++ [a0.extract v63_2.toNat v63_3.toNat]).length * 16 ≤ 70368744177664) (ck (0 ≤ (w64 (v63_3 + 1))) (ck ((v63_1 ++ [w64 ((w64 (byteAt a0 (w64 (v63_3 + 1)))) - 48)]).length * 8 ≤ 70368744177664) (impl.NodeRead.l0.f a0 k (v63_0 ++ [a0.extract v63_2.toNat v63_3.toNat]) (v63_1 ++ [w64 ((w64 (byteAt a0 (w64 (v63_3 + 1)))) - 48)]) (w64 (v63_3 + 2)) (w64 ((w64 (v63_3 + 1)) + 1))))))))) (impl.NodeRead.l0.f a0 k v63_0 v63_1 v63_2 (w64 (v63_3 + 1)))) (impl.NodeRead.l0.f a0 k v63_0 v63_1 v63_2 (w64 (v63_3 + 1))))) (some (v63_0, v63_1))
def impl.NodeRead.l0.s (a0 : ByteArray) (v63_0 : List ByteArray) (v63_1 : List Int) (v63_2 : Int) (v63_3 : Int) : St := mkSt 71 [(0, one (.str a0)), (2, one (.ptr 0 0 0)), (4, one (.ptr 3 0 0)), (5, one (.int .i64 v63_2)), (6, one (.int .i64 v63_3))] [some ⟨true, .cells [.bool false, .sl 1 0 0, .sl 2 0 0, .str noVal]⟩, some ⟨true, .strs []⟩, some ⟨true, .ints .i64 []⟩, some ⟨true, .cells [.bool true, .sl 4 0 v63_0.length, .sl 5 0 v63_1.length, .str noVal]⟩, some ⟨true, .strs v63_0⟩, some ⟨true, .ints .i64 v63_1⟩]
def impl.NodeRead.l0.e0 (a0 : ByteArray) (o : (List ByteArray) × (List Int)) : St := mkSt 71 [(0, one (.str a0)), (2, one (.ptr 0 0 0)), (4, one (.ptr 3 0 0))] [some ⟨true, .cells [.bool false, .sl 1 0 0, .sl 2 0 0, .str noVal]⟩, some ⟨true, .strs []⟩, some ⟨true, .ints .i64 []⟩, some ⟨true, .cells [.bool true, .sl 4 0 o.1.length, .sl 5 0 o.2.length, .str noVal]⟩, some ⟨true, .strs o.1⟩, some ⟨true, .ints .i64 o.2⟩]
def impl.NodeRead.l0.x (a0 : ByteArray) : ((List ByteArray) × (List Int)) → AExit × St := fun o => (.exit 1, impl.NodeRead.l0.e0 a0 o)
theorem impl.NodeRead.l0.spec (a0 : ByteArray) : ∀ (k : Nat) (v63_0 : List ByteArray) (v63_1 : List Int) (v63_2 : Int) (v63_3 : Int) (o : (List ByteArray) × (List Int)), impl.NodeRead.l0.f a0 k v63_0 v63_1 v63_2 v63_3 = some o → LoopSpec Try.prog 0 (loopN Try.f57 0) (impl.NodeRead.l0.s a0 v63_0 v63_1 v63_2 v63_3) (impl.NodeRead.l0.x a0 o).1 (impl.NodeRead.l0.x a0 o).2
  | 0, _, _, _, _, _, h => by cases h
  | k + 1, v63_0, v63_1, v63_2, v63_3, o, h => by
    unfold impl.NodeRead.l0.f at h
    rcases br_cases h with ⟨c1, h⟩ | ⟨c1, h⟩
    · obtain ⟨p1, h⟩ := ck_some h
      rcases br_cases h with ⟨c2, h⟩ | ⟨c2, h⟩
      · rcases br_cases h with ⟨c3, h⟩ | ⟨c3, h⟩
        · obtain ⟨p2, h⟩ := ck_some h
          obtain ⟨p3, h⟩ := ck_some h
          obtain ⟨p4, h⟩ := ck_some h
          obtain ⟨p5, h⟩ := ck_some h
          obtain ⟨p6, h⟩ := ck_some h
          obtain ⟨p7, h⟩ := ck_some h
          exact .of_step tab mixed [.br true, .br true, .br true, .br true, .br true, .br true, .br true, .br true, .br true, .br true] [] [0, 2, 4, 5, 6] [0, 1, 2, 3, 62, 158] (s1 := impl.NodeRead.l0.s a0 (v63_0 ++ [a0.extract v63_2.toNat v63_3.toNat]) (v63_1 ++ [w64 ((w64 (byteAt a0 (w64 (v63_3 + 1)))) - 48)]) (w64 (v63_3 + 2)) (w64 ((w64 (v63_3 + 1)) + 1))) (nd c1 (nd p1 (nd (of_decide_eq_true c1) (nd c2 (nd c2 (nd c2 (nd c2 (nd c2 (nd c2 (nd c3 (nd p2 (nd p3 (nd p4 (nd (rfl : (0 : Nat) = 0) (nd (rfl : v63_0.length = v63_0.length) (nd p5 (nd (rfl : (0 : Nat) = 0) (nd (rfl : 1 = 1) (nd p6 (nd (of_decide_eq_true c3) (nd (rfl : (0 : Nat) = 0) (nd (rfl : v63_1.length = v63_1.length) (nd p7 (nd (rfl : (0 : Nat) = 0) (nd (rfl : 1 = 1) trivial))))))))))))))))))))))))) (by kernel_rfl) (impl.NodeRead.l0.spec a0 k (v63_0 ++ [a0.extract v63_2.toNat v63_3.toNat]) (v63_1 ++ [w64 ((w64 (byteAt a0 (w64 (v63_3 + 1)))) - 48)]) (w64 (v63_3 + 2)) (w64 ((w64 (v63_3 + 1)) + 1)) _ h)
        · exact .of_step tab mixed [.br true, .br true, .br true, .br true, .br true, .br true, .br true, .br false] [] [0, 2, 4, 5, 6] [0, 1, 2, 3, 4, 5] (s1 := impl.NodeRead.l0.s a0 v63_0 v63_1 v63_2 (w64 (v63_3 + 1))) (nd c1 (nd p1 (nd (of_decide_eq_true c1) (nd c2 (nd c2 (nd c2 (nd c2 (nd c2 (nd c2 (nd c3 trivial)))))))))) (by kernel_rfl) (impl.NodeRead.l0.spec a0 k v63_0 v63_1 v63_2 (w64 (v63_3 + 1)) _ h)
      · exact .of_step tab mixed [.br true, .br false, .br false, .br false, .br false, .br false, .br false, .br false] [] [0, 2, 4, 5, 6] [0, 1, 2, 3, 4, 5] (s1 := impl.NodeRead.l0.s a0 v63_0 v63_1 v63_2 (w64 (v63_3 + 1))) (nd c1 (nd p1 (nd (of_decide_eq_true c1) (nd c2 (nd c2 (nd c2 (nd c2 (nd c2 (nd c2 (nd ff trivial)))))))))) (by kernel_rfl) (impl.NodeRead.l0.spec a0 k v63_0 v63_1 v63_2 (w64 (v63_3 + 1)) _ h)
    · obtain rfl := Option.some.inj h
      exact .of_done tab mixed [.br false] [] [0, 2, 4] [0, 1, 2, 3, 4, 5] rfl (nd c1 trivial) (by kernel_rfl)
def impl.NodeRead.f (K : Nat) (a0 : ByteArray) : Option (Bool × (List ByteArray) × (List Int) × ByteArray × Bool) :=
  cond (strEq a0 noVal) (some (false, [], [], noVal, false)) (ck (0 < (a0.size : Int)) (cond ((byteAt a0 0) == 102) (ck (1 ≤ (a0.size : Int)) (Option.bind (impl.NodeText.f K false [] [] (a0.extract 1 a0.size)) fun x1 => cond (strEq x1 a0) (some (false, [], [], a0.extract 1 a0.size, true)) (some (false, [], [], noVal, false)))) (cond ((byteAt a0 0) == 100) (Option.bind (impl.NodeRead.l0.f a0 K [] [] 1 1) fun x1 => Option.bind (impl.NodeText.f K true x1.1 x1.2 noVal) fun x2 => cond (strEq x2 a0) (some (true, x1.1, x1.2, noVal, true)) (some (false, [], [], noVal, false))) (Option.bind (impl.NodeText.f K false [] [] noVal) fun x1 => cond (strEq x1 a0) (some (false, [], [], noVal, true)) (some (false, [], [], noVal, false))))))
theorem impl.NodeRead.spec (K : Nat) (a0 : ByteArray) (o : Bool × (List ByteArray) × (List Int) × ByteArray × Bool) (h : impl.NodeRead.f K a0 = some o) : Den.Spec Try.prog 57 [one (.str a0)] [] (.tup [.agg [.bool o.1, .sl 0 0 o.2.1.length, .sl 1 0 o.2.2.1.length, .str o.2.2.2.1], .c (.bool o.2.2.2.2)]) [some ⟨true, .strs o.2.1⟩, some ⟨true, .ints .i64 o.2.2.1⟩] := by
  unfold impl.NodeRead.f at h
  rcases br_cases h with ⟨c1, h⟩ | ⟨c1, h⟩
  · obtain rfl := Option.some.inj h
    exact Den.Spec.of_walk tab mixed Try.func57 (by kernel_rfl) [.br true] [] [8, 9] (nd c1 trivial) (by kernel_rfl)
  · obtain ⟨p1, h⟩ := ck_some h
    rcases br_cases h with ⟨c2, h⟩ | ⟨c2, h⟩
    · obtain ⟨p2, h⟩ := ck_some h
      obtain ⟨x1, e1, h⟩ := bind_some h
      rcases br_cases h with ⟨c3, h⟩ | ⟨c3, h⟩
      · obtain rfl := Option.some.inj h
        exact Den.Spec.of_walk tab mixed Try.func57 (by kernel_rfl) [.br false, .br true, .call [(6, false), (7, false)] [] (one (.str x1)) [some ⟨false, .strs []⟩, some ⟨false, .ints .i64 []⟩], .br false] [] [6, 7] (nd c1 (nd (Int.le_refl 0) (nd p1 (nd c2 (nd (by decide : (0 : Int) ≤ 1) (nd p2 (nd (Int.le_refl (a0.size : Int)) (nd (impl.NodeText.spec K false [] [] (a0.extract 1 a0.size) _ e1) (nd (nf c3) trivial))))))))) (by kernel_rfl)
      · obtain rfl := Option.some.inj h
        exact Den.Spec.of_walk tab mixed Try.func57 (by kernel_rfl) [.br false, .br true, .call [(6, false), (7, false)] [] (one (.str x1)) [some ⟨false, .strs []⟩, some ⟨false, .ints .i64 []⟩], .br true] [] [8, 9] (nd c1 (nd (Int.le_refl 0) (nd p1 (nd c2 (nd (by decide : (0 : Int) ≤ 1) (nd p2 (nd (Int.le_refl (a0.size : Int)) (nd (impl.NodeText.spec K false [] [] (a0.extract 1 a0.size) _ e1) (nd (nt c3) trivial))))))))) (by kernel_rfl)
    · rcases br_cases h with ⟨c3, h⟩ | ⟨c3, h⟩
      · obtain ⟨x1, e1, h⟩ := bind_some h
        obtain ⟨x2, e2, h⟩ := bind_some h
        rcases br_cases h with ⟨c4, h⟩ | ⟨c4, h⟩
        · obtain rfl := Option.some.inj h
          exact Den.Spec.of_walk tab mixed Try.func57 (by kernel_rfl) [.br false, .br false, .br true, .loop [] [0, 2, 4, 5, 6] [0, 1, 2, 3, 6, 7] (.exit 1) (impl.NodeRead.l0.e0 a0 x1), .call [(4, false), (5, false)] [] (one (.str x2)) [some ⟨false, .strs x1.1⟩, some ⟨false, .ints .i64 x1.2⟩], .br false] [] [4, 5] (nd c1 (nd (Int.le_refl 0) (nd p1 (nd c2 (nd (Int.le_refl 0) (nd p1 (nd c3 (nd (impl.NodeRead.l0.spec a0 K [] [] 1 1 _ e1) (nd (impl.NodeText.spec K true x1.1 x1.2 noVal _ e2) (nd (nf c4) trivial)))))))))) (by kernel_rfl)
        · obtain rfl := Option.some.inj h
          exact Den.Spec.of_walk tab mixed Try.func57 (by kernel_rfl) [.br false, .br false, .br true, .loop [] [0, 2, 4, 5, 6] [0, 1, 2, 3, 6, 7] (.exit 1) (impl.NodeRead.l0.e0 a0 x1), .call [(4, false), (5, false)] [] (one (.str x2)) [some ⟨false, .strs x1.1⟩, some ⟨false, .ints .i64 x1.2⟩], .br true] [] [6, 7] (nd c1 (nd (Int.le_refl 0) (nd p1 (nd c2 (nd (Int.le_refl 0) (nd p1 (nd c3 (nd (impl.NodeRead.l0.spec a0 K [] [] 1 1 _ e1) (nd (impl.NodeText.spec K true x1.1 x1.2 noVal _ e2) (nd (nt c4) trivial)))))))))) (by kernel_rfl)
      · obtain ⟨x1, e1, h⟩ := bind_some h
        rcases br_cases h with ⟨c4, h⟩ | ⟨c4, h⟩
        · obtain rfl := Option.some.inj h
          exact Den.Spec.of_walk tab mixed Try.func57 (by kernel_rfl) [.br false, .br false, .br false, .call [(6, false), (7, false)] [] (one (.str x1)) [some ⟨false, .strs []⟩, some ⟨false, .ints .i64 []⟩], .br false] [] [6, 7] (nd c1 (nd (Int.le_refl 0) (nd p1 (nd c2 (nd (Int.le_refl 0) (nd p1 (nd c3 (nd (impl.NodeText.spec K false [] [] noVal _ e1) (nd (nf c4) trivial))))))))) (by kernel_rfl)
        · obtain rfl := Option.some.inj h
          exact Den.Spec.of_walk tab mixed Try.func57 (by kernel_rfl) [.br false, .br false, .br false, .call [(6, false), (7, false)] [] (one (.str x1)) [some ⟨false, .strs []⟩, some ⟨false, .ints .i64 []⟩], .br true] [] [8, 9] (nd c1 (nd (Int.le_refl 0) (nd p1 (nd c2 (nd (Int.le_refl 0) (nd p1 (nd c3 (nd (impl.NodeText.spec K false [] [] noVal _ e1) (nd (nt c4) trivial))))))))) (by kernel_rfl)
def impl.goer.from_.f (K : Nat) (a0 : List ByteArray) (a1 : List Bool) (a2 : Nat) (a3 : Int) : Option (Unit) :=
  ck (0 ≤ a3) (ck (a3 < (a0.length : Int)) (Option.bind (impl.NodeRead.f K (a0.getD a3.toNat noVal)) fun x1 => cond (x1.2.2.2.2) (ck (a3 < (a2 : Int)) (ck (a3.toNat < a1.length) (cond (a1.getD a3.toNat false) (some ()) (some ())))) (some ())))
theorem impl.goer.from_.spec (K : Nat) (a0 : List ByteArray) (a1 : List Bool) (a2 : Nat) (a3 : Int) (o : Unit) (h : impl.goer.from_.f K a0 a1 a2 a3 = some o) : Den.Spec Try.prog 115 [one (.ptr 0 0 0), one (.int .i64 a3), one (.int .i64 5)] [some ⟨false, .cells [.sl 1 0 a0.length, .sl 2 0 a2]⟩, some ⟨false, .strs a0⟩, some ⟨false, .bools a1⟩] (one (.bool false)) [some ⟨false, .cells [.sl 1 0 a0.length, .sl 2 0 a2]⟩, some ⟨false, .strs a0⟩, some ⟨false, .bools a1⟩] := by
  unfold impl.goer.from_.f at h
  obtain ⟨p1, h⟩ := ck_some h
  obtain ⟨p2, h⟩ := ck_some h
  obtain ⟨x1, e1, h⟩ := bind_some h
  rcases br_cases h with ⟨c1, h⟩ | ⟨c1, h⟩
  · obtain ⟨p3, h⟩ := ck_some h
    obtain ⟨p4, h⟩ := ck_some h
    rcases br_cases h with ⟨c2, h⟩ | ⟨c2, h⟩
    · obtain rfl := Option.some.inj h
      exact Den.Spec.of_walk tab mixed Try.func115 (by kernel_rfl) [.call [] [] (.tup [.agg [.bool x1.1, .sl 0 0 x1.2.1.length, .sl 1 0 x1.2.2.1.length, .str x1.2.2.2.1], .c (.bool x1.2.2.2.2)]) [some ⟨true, .strs x1.2.1⟩, some ⟨true, .ints .i64 x1.2.2.1⟩], .br false, .br false, .br false, .br false, .br false, .br false, .br false, .br false, .br true, .br true, .br true, .br true, .br true, .br true, .br true, .br true, .br true] [] [0, 1, 2] (nd p1 (nd p2 (nd (tn p1 p2) (nd (impl.NodeRead.spec K (a0.getD a3.toNat noVal) _ e1) (nd (nf c1) (nd (nf c1) (nd (nf c1) (nd (nf c1) (nd (nf c1) (nd (nf c1) (nd p1 (nd p3 (nd (nf c1) (nd p4 (nd (nf c1) (nd c2 (nd c2 (nd c2 (nd tt (nd tt (nd tt (nd tt (nd tt (nd tt trivial)))))))))))))))))))))))) (by kernel_rfl)
    · obtain rfl := Option.some.inj h
      exact Den.Spec.of_walk tab mixed Try.func115 (by kernel_rfl) [.call [] [] (.tup [.agg [.bool x1.1, .sl 0 0 x1.2.1.length, .sl 1 0 x1.2.2.1.length, .str x1.2.2.2.1], .c (.bool x1.2.2.2.2)]) [some ⟨true, .strs x1.2.1⟩, some ⟨true, .ints .i64 x1.2.2.1⟩], .br false, .br false, .br false, .br false, .br false, .br false, .br false, .br false, .br false, .br false, .br false, .br true, .br true, .br true, .br true, .br true, .br true] [] [0, 1, 2] (nd p1 (nd p2 (nd (tn p1 p2) (nd (impl.NodeRead.spec K (a0.getD a3.toNat noVal) _ e1) (nd (nf c1) (nd (nf c1) (nd (nf c1) (nd (nf c1) (nd (nf c1) (nd (nf c1) (nd p1 (nd p3 (nd (nf c1) (nd p4 (nd (nf c1) (nd c2 (nd c2 (nd c2 (nd tt (nd tt (nd tt (nd tt (nd tt (nd tt trivial)))))))))))))))))))))))) (by kernel_rfl)
  · obtain rfl := Option.some.inj h
    exact Den.Spec.of_walk tab mixed Try.func115 (by kernel_rfl) [.call [] [] (.tup [.agg [.bool x1.1, .sl 0 0 x1.2.1.length, .sl 1 0 x1.2.2.1.length, .str x1.2.2.2.1], .c (.bool x1.2.2.2.2)]) [some ⟨true, .strs x1.2.1⟩, some ⟨true, .ints .i64 x1.2.2.1⟩], .br true, .br true, .br true, .br true, .br true, .br true, .br true, .br true, .br true, .br true, .br true, .br true, .br true, .br true, .br true, .br true, .br true] [] [0, 1, 2] (nd p1 (nd p2 (nd (tn p1 p2) (nd (impl.NodeRead.spec K (a0.getD a3.toNat noVal) _ e1) (nd (nt c1) (nd (nt c1) (nd (nt c1) (nd (nt c1) (nd (nt c1) (nd (nt c1) (nd (nt c1) (nd (nt c1) (nd tt (nd tt (nd tt (nd tt (nd tt (nd tt (nd tt (nd tt (nd tt trivial))))))))))))))))))))) (by kernel_rfl)
def impl.goer.from__1.l0.f (K : Nat) (a0 : List ByteArray) (a1 : List Bool) (a2 : Nat) (a3 : Int) : Nat → (List Int) → Int → Option (Unit ⊕ Unit)
  | 0, _, _ => none
  | k + 1, v75_0, v75_1 =>
    cond (decide (0 < v75_1)) (ck (0 < (v75_0.length : Int)) (ck (0 < v75_0.length) (Option.bind (impl.goer.from_.f K a0 (a1.set a3.toNat true) a2 (v75_0.getD 0 0)) fun x1 => some (.inl ())))) (some (.inr (())))
def impl.goer.from__1.l0.s (K : Nat) (a0 : List ByteArray) (a1 : List Bool) (a2 : Nat) (a3 : Int) (v75_0 : List Int) (v75_1 : Int) : St := mkSt 66 [(0, one (.ptr 0 0 0)), (2, one (.int .i64 4)), (53, one (.sl 3 0 v75_0.length)), (54, one (.int .i64 v75_1)), (55, one (.int .i64 0))] [some ⟨false, .cells [.sl 1 0 a0.length, .sl 2 0 a2]⟩, some ⟨false, .strs a0⟩, some ⟨true, .bools (a1.set a3.toNat true)⟩, some ⟨true, .ints .i64 v75_0⟩]
def impl.goer.from__1.l0.e0 (K : Nat) (a0 : List ByteArray) (a1 : List Bool) (a2 : Nat) (a3 : Int) (o : Unit) : St := mkSt 66 [(6, one (.bool false))] [some ⟨false, .cells [.sl 1 0 a0.length, .sl 2 0 a2]⟩, some ⟨false, .strs a0⟩, some ⟨true, .bools (a1.set a3.toNat true)⟩]
def impl.goer.from__1.l0.e1 (K : Nat) (a0 : List ByteArray) (a1 : List Bool) (a2 : Nat) (a3 : Int) (o : Unit) : St := mkSt 66 [] [some ⟨false, .cells [.sl 1 0 a0.length, .sl 2 0 a2]⟩, some ⟨false, .strs a0⟩, some ⟨true, .bools (a1.set a3.toNat true)⟩]
def impl.goer.from__1.l0.x (K : Nat) (a0 : List ByteArray) (a1 : List Bool) (a2 : Nat) (a3 : Int) : (Unit ⊕ Unit) → AExit × St := Sum.elim (fun o => (.ret, impl.goer.from__1.l0.e0 K a0 a1 a2 a3 o)) (fun o => (.exit 0, impl.goer.from__1.l0.e1 K a0 a1 a2 a3 o))
theorem impl.goer.from__1.l0.spec (K : Nat) (a0 : List ByteArray) (a1 : List Bool) (a2 : Nat) (a3 : Int) : ∀ (k : Nat) (v75_0 : List Int) (v75_1 : Int) (o : Unit ⊕ Unit), impl.goer.from__1.l0.f K a0 a1 a2 a3 k v75_0 v75_1 = some o → LoopSpec Try.prog 3 (loopN Try.f115 0) (impl.goer.from__1.l0.s K a0 a1 a2 a3 v75_0 v75_1) (impl.goer.from__1.l0.x K a0 a1 a2 a3 o).1 (impl.goer.from__1.l0.x K a0 a1 a2 a3 o).2
  | 0, _, _, _, h => by cases h
  | k + 1, v75_0, v75_1, o, h => by
    unfold impl.goer.from__1.l0.f at h
    rcases br_cases h with ⟨c1, h⟩ | ⟨c1, h⟩
    · obtain ⟨p1, h⟩ := ck_some h
      obtain ⟨p2, h⟩ := ck_some h
      obtain ⟨x1, e1, h⟩ := bind_some h
      obtain rfl := Option.some.inj h
      exact .of_done tab mixed [.br true, .call [(0, false), (1, false), (2, false)] [] (one (.bool false)) [some ⟨false, .cells [.sl 1 0 a0.length, .sl 2 0 a2]⟩, some ⟨false, .strs a0⟩, some ⟨false, .bools (a1.set a3.toNat true)⟩], .br true] [] [6] [0, 1, 2] rfl (nd c1 (nd (Int.le_refl 0) (nd p1 (nd p2 (nd (impl.goer.from_.spec K a0 (a1.set a3.toNat true) a2 (v75_0.getD 0 0) _ e1) (nd tt trivial)))))) (by kernel_rfl)
    · obtain rfl := Option.some.inj h
      exact .of_done tab mixed [.br false] [] [] [0, 1, 2] rfl (nd c1 trivial) (by kernel_rfl)
def impl.goer.from__1.f (K : Nat) (a0 : List ByteArray) (a1 : List Bool) (a2 : Nat) (a3 : Int) : Option (Bool × (List Bool)) :=
  ck (0 ≤ a3) (ck (a3 < (a0.length : Int)) (Option.bind (impl.NodeRead.f K (a0.getD a3.toNat noVal)) fun x1 => cond (x1.2.2.2.2) (ck (a3 < (a2 : Int)) (ck (a3.toNat < a1.length) (cond (a1.getD a3.toNat false) (some (false, a1)) (cond (a3 == 0) (cond (x1.1) (Option.bind (impl.goer.from__1.l0.f K a0 a1 a2 a3 K x1.2.2.1 (x1.2.2.1.length : Int)) fun x2 => (Sum.elim (fun x2 => some (false, a1.set a3.toNat true)) (fun x2 => some (true, a1.set a3.toNat true))) x2) (some (false, a1))) (Option.bind (impl.goer.from__1.l0.f K a0 a1 a2 a3 K x1.2.2.1 (x1.2.2.1.length : Int)) fun x2 => (Sum.elim (fun x2 => some (false, a1.set a3.toNat true)) (fun x2 => some (true, a1.set a3.toNat true))) x2))))) (some (false, a1))))
theorem impl.goer.from__1.spec (K : Nat) (a0 : List ByteArray) (a1 : List Bool) (a2 : Nat) (a3 : Int) (o : Bool × (List Bool)) (h : impl.goer.from__1.f K a0 a1 a2 a3 = some o) : Den.Spec Try.prog 115 [one (.ptr 0 0 0), one (.int .i64 a3), one (.int .i64 4)] [some ⟨false, .cells [.sl 1 0 a0.length, .sl 2 0 a2]⟩, some ⟨false, .strs a0⟩, some ⟨true, .bools a1⟩] (one (.bool o.1)) [some ⟨false, .cells [.sl 1 0 a0.length, .sl 2 0 a2]⟩, some ⟨false, .strs a0⟩, some ⟨true, .bools o.2⟩] := by
  unfold impl.goer.from__1.f at h
  obtain ⟨p1, h⟩ := ck_some h
  obtain ⟨p2, h⟩ := ck_some h
  obtain ⟨x1, e1, h⟩ := bind_some h
  rcases br_cases h with ⟨c1, h⟩ | ⟨c1, h⟩
  · obtain ⟨p3, h⟩ := ck_some h
    obtain ⟨p4, h⟩ := ck_some h
    rcases br_cases h with ⟨c2, h⟩ | ⟨c2, h⟩
    · obtain rfl := Option.some.inj h
      exact Den.Spec.of_walk tab mixed Try.func115 (by kernel_rfl) [.call [] [] (.tup [.agg [.bool x1.1, .sl 0 0 x1.2.1.length, .sl 1 0 x1.2.2.1.length, .str x1.2.2.2.1], .c (.bool x1.2.2.2.2)]) [some ⟨true, .strs x1.2.1⟩, some ⟨true, .ints .i64 x1.2.2.1⟩], .br false, .br false, .br false, .br false, .br false, .br false, .br false, .br false, .br true, .br true, .br true, .br true, .br true, .br true, .br true, .br true, .br true] [] [0, 1, 2] (nd p1 (nd p2 (nd (tn p1 p2) (nd (impl.NodeRead.spec K (a0.getD a3.toNat noVal) _ e1) (nd (nf c1) (nd (nf c1) (nd (nf c1) (nd (nf c1) (nd (nf c1) (nd (nf c1) (nd p1 (nd p3 (nd (nf c1) (nd p4 (nd (nf c1) (nd c2 (nd c2 (nd c2 (nd tt (nd tt (nd tt (nd tt (nd tt (nd tt trivial)))))))))))))))))))))))) (by kernel_rfl)
    · rcases br_cases h with ⟨c3, h⟩ | ⟨c3, h⟩
      · rcases br_cases h with ⟨c4, h⟩ | ⟨c4, h⟩
        · obtain ⟨x2, e2, h⟩ := bind_some h
          rcases x2 with x2 | x2
          · obtain rfl := Option.some.inj h
            exact Den.Spec.of_walk tab mixed Try.func115 (by kernel_rfl) [.call [] [] (.tup [.agg [.bool x1.1, .sl 0 0 x1.2.1.length, .sl 1 0 x1.2.2.1.length, .str x1.2.2.2.1], .c (.bool x1.2.2.2.2)]) [some ⟨true, .strs x1.2.1⟩, some ⟨true, .ints .i64 x1.2.2.1⟩], .br false, .br false, .br false, .br false, .br false, .br false, .br false, .br false, .br false, .br false, .br false, .br false, .br false, .br false, .br true, .br true, .br true, .br false, .br true, .br false, .br false, .loop [] [0, 2, 53, 54, 55] [0, 1, 2, 4] (.ret) (impl.goer.from__1.l0.e0 K a0 a1 a2 a3 x2)] [] [0, 1, 2] (nd p1 (nd p2 (nd (tn p1 p2) (nd (impl.NodeRead.spec K (a0.getD a3.toNat noVal) _ e1) (nd (nf c1) (nd (nf c1) (nd (nf c1) (nd (nf c1) (nd (nf c1) (nd (nf c1) (nd p1 (nd p3 (nd (nf c1) (nd p4 (nd (nf c1) (nd c2 (nd c2 (nd c2 (nd ff (nd ff (nd ff (nd c3 (nd c3 (nd c3 (nd ff (nd c3 (nd ff (nd (nf c4) (nd p1 (nd p3 (nd p4 (nd (impl.goer.from__1.l0.spec K a0 a1 a2 a3 K x1.2.2.1 (x1.2.2.1.length : Int) _ e2) trivial)))))))))))))))))))))))))))))))) (by kernel_rfl)
          · obtain rfl := Option.some.inj h
            exact Den.Spec.of_walk tab mixed Try.func115 (by kernel_rfl) [.call [] [] (.tup [.agg [.bool x1.1, .sl 0 0 x1.2.1.length, .sl 1 0 x1.2.2.1.length, .str x1.2.2.2.1], .c (.bool x1.2.2.2.2)]) [some ⟨true, .strs x1.2.1⟩, some ⟨true, .ints .i64 x1.2.2.1⟩], .br false, .br false, .br false, .br false, .br false, .br false, .br false, .br false, .br false, .br false, .br false, .br false, .br false, .br false, .br true, .br true, .br true, .br false, .br true, .br false, .br false, .loop [] [0, 2, 53, 54, 55] [0, 1, 2, 4] (.exit 0) (impl.goer.from__1.l0.e1 K a0 a1 a2 a3 x2)] [] [0, 1, 2] (nd p1 (nd p2 (nd (tn p1 p2) (nd (impl.NodeRead.spec K (a0.getD a3.toNat noVal) _ e1) (nd (nf c1) (nd (nf c1) (nd (nf c1) (nd (nf c1) (nd (nf c1) (nd (nf c1) (nd p1 (nd p3 (nd (nf c1) (nd p4 (nd (nf c1) (nd c2 (nd c2 (nd c2 (nd ff (nd ff (nd ff (nd c3 (nd c3 (nd c3 (nd ff (nd c3 (nd ff (nd (nf c4) (nd p1 (nd p3 (nd p4 (nd (impl.goer.from__1.l0.spec K a0 a1 a2 a3 K x1.2.2.1 (x1.2.2.1.length : Int) _ e2) trivial)))))))))))))))))))))))))))))))) (by kernel_rfl)
        · obtain rfl := Option.some.inj h
          exact Den.Spec.of_walk tab mixed Try.func115 (by kernel_rfl) [.call [] [] (.tup [.agg [.bool x1.1, .sl 0 0 x1.2.1.length, .sl 1 0 x1.2.2.1.length, .str x1.2.2.2.1], .c (.bool x1.2.2.2.2)]) [some ⟨true, .strs x1.2.1⟩, some ⟨true, .ints .i64 x1.2.2.1⟩], .br false, .br false, .br false, .br false, .br false, .br false, .br false, .br false, .br false, .br false, .br false, .br false, .br false, .br false, .br true, .br true, .br true, .br false, .br true, .br false, .br true] [] [0, 1, 2] (nd p1 (nd p2 (nd (tn p1 p2) (nd (impl.NodeRead.spec K (a0.getD a3.toNat noVal) _ e1) (nd (nf c1) (nd (nf c1) (nd (nf c1) (nd (nf c1) (nd (nf c1) (nd (nf c1) (nd p1 (nd p3 (nd (nf c1) (nd p4 (nd (nf c1) (nd c2 (nd c2 (nd c2 (nd ff (nd ff (nd ff (nd c3 (nd c3 (nd c3 (nd ff (nd c3 (nd ff (nd (nt c4) trivial)))))))))))))))))))))))))))) (by kernel_rfl)
      · obtain ⟨x2, e2, h⟩ := bind_some h
        rcases x2 with x2 | x2
        · obtain rfl := Option.some.inj h
          exact Den.Spec.of_walk tab mixed Try.func115 (by kernel_rfl) [.call [] [] (.tup [.agg [.bool x1.1, .sl 0 0 x1.2.1.length, .sl 1 0 x1.2.2.1.length, .str x1.2.2.2.1], .c (.bool x1.2.2.2.2)]) [some ⟨true, .strs x1.2.1⟩, some ⟨true, .ints .i64 x1.2.2.1⟩], .br false, .br false, .br false, .br false, .br false, .br false, .br false, .br false, .br false, .br false, .br false, .br false, .br false, .br false, .br false, .br false, .br false, .br false, .br false, .br false, .br false, .loop [] [0, 2, 53, 54, 55] [0, 1, 2, 4] (.ret) (impl.goer.from__1.l0.e0 K a0 a1 a2 a3 x2)] [] [0, 1, 2] (nd p1 (nd p2 (nd (tn p1 p2) (nd (impl.NodeRead.spec K (a0.getD a3.toNat noVal) _ e1) (nd (nf c1) (nd (nf c1) (nd (nf c1) (nd (nf c1) (nd (nf c1) (nd (nf c1) (nd p1 (nd p3 (nd (nf c1) (nd p4 (nd (nf c1) (nd c2 (nd c2 (nd c2 (nd ff (nd ff (nd ff (nd c3 (nd c3 (nd c3 (nd ff (nd c3 (nd ff (nd ff (nd p1 (nd p3 (nd p4 (nd (impl.goer.from__1.l0.spec K a0 a1 a2 a3 K x1.2.2.1 (x1.2.2.1.length : Int) _ e2) trivial)))))))))))))))))))))))))))))))) (by kernel_rfl)
        · obtain rfl := Option.some.inj h
          exact Den.Spec.of_walk tab mixed Try.func115 (by kernel_rfl) [.call [] [] (.tup [.agg [.bool x1.1, .sl 0 0 x1.2.1.length, .sl 1 0 x1.2.2.1.length, .str x1.2.2.2.1], .c (.bool x1.2.2.2.2)]) [some ⟨true, .strs x1.2.1⟩, some ⟨true, .ints .i64 x1.2.2.1⟩], .br false, .br false, .br false, .br false, .br false, .br false, .br false, .br false, .br false, .br false, .br false, .br false, .br false, .br false, .br false, .br false, .br false, .br false, .br false, .br false, .br false, .loop [] [0, 2, 53, 54, 55] [0, 1, 2, 4] (.exit 0) (impl.goer.from__1.l0.e1 K a0 a1 a2 a3 x2)] [] [0, 1, 2] (nd p1 (nd p2 (nd (tn p1 p2) (nd (impl.NodeRead.spec K (a0.getD a3.toNat noVal) _ e1) (nd (nf c1) (nd (nf c1) (nd (nf c1) (nd (nf c1) (nd (nf c1) (nd (nf c1) (nd p1 (nd p3 (nd (nf c1) (nd p4 (nd (nf c1) (nd c2 (nd c2 (nd c2 (nd ff (nd ff (nd ff (nd c3 (nd c3 (nd c3 (nd ff (nd c3 (nd ff (nd ff (nd p1 (nd p3 (nd p4 (nd (impl.goer.from__1.l0.spec K a0 a1 a2 a3 K x1.2.2.1 (x1.2.2.1.length : Int) _ e2) trivial)))))))))))))))))))))))))))))))) (by kernel_rfl)
  · obtain rfl := Option.some.inj h
    exact Den.Spec.of_walk tab mixed Try.func115 (by kernel_rfl) [.call [] [] (.tup [.agg [.bool x1.1, .sl 0 0 x1.2.1.length, .sl 1 0 x1.2.2.1.length, .str x1.2.2.2.1], .c (.bool x1.2.2.2.2)]) [some ⟨true, .strs x1.2.1⟩, some ⟨true, .ints .i64 x1.2.2.1⟩], .br true, .br true, .br true, .br true, .br true, .br true, .br true, .br true, .br true, .br true, .br true, .br true, .br true, .br true, .br true, .br true, .br true] [] [0, 1, 2] (nd p1 (nd p2 (nd (tn p1 p2) (nd (impl.NodeRead.spec K (a0.getD a3.toNat noVal) _ e1) (nd (nt c1) (nd (nt c1) (nd (nt c1) (nd (nt c1) (nd (nt c1) (nd (nt c1) (nd (nt c1) (nd (nt c1) (nd tt (nd tt (nd tt (nd tt (nd tt (nd tt (nd tt (nd tt (nd tt trivial))))))))))))))))))))) (by kernel_rfl)
def impl.goer.from__2.l0.f (K : Nat) (a0 : List ByteArray) (a2 : Nat) : Nat → (List Bool) → (List Int) → Int → Int → Option ((List Bool) ⊕ (List Bool))
  | 0, _, _, _, _ => none
  | k + 1, v80_0, v80_1, v80_2, v80_3 =>
    cond (decide (v80_3 < v80_2)) (ck (0 ≤ v80_3) (ck (v80_3 < (v80_1.length : Int)) (Option.bind (impl.goer.from__1.f K a0 v80_0 a2 (v80_1.getD v80_3.toNat 0)) fun x1 => cond (x1.1) (impl.goer.from__2.l0.f K a0 a2 k x1.2 v80_1 v80_2 (w64 (v80_3 + 1))) (some (.inl x1.2))))) (some (.inr (v80_0)))
def impl.goer.from__2.l0.s (K : Nat) (a0 : List ByteArray) (a2 : Nat) (v80_0 : List Bool) (v80_1 : List Int) (v80_2 : Int) (v80_3 : Int) : St := mkSt 66 [(0, one (.ptr 0 0 0)), (2, one (.int .i64 3)), (53, one (.sl 3 0 v80_1.length)), (54, one (.int .i64 v80_2)), (55, one (.int .i64 v80_3))] [some ⟨false, .cells [.sl 1 0 a0.length, .sl 2 0 a2]⟩, some ⟨false, .strs a0⟩, some ⟨true, .bools v80_0⟩, some ⟨true, .ints .i64 v80_1⟩]
def impl.goer.from__2.l0.e0 (K : Nat) (a0 : List ByteArray) (a2 : Nat) (o : (List Bool)) : St := mkSt 66 [(6, one (.bool false))] [some ⟨false, .cells [.sl 1 0 a0.length, .sl 2 0 a2]⟩, some ⟨false, .strs a0⟩, some ⟨true, .bools o⟩]
def impl.goer.from__2.l0.e1 (K : Nat) (a0 : List ByteArray) (a2 : Nat) (o : (List Bool)) : St := mkSt 66 [] [some ⟨false, .cells [.sl 1 0 a0.length, .sl 2 0 a2]⟩, some ⟨false, .strs a0⟩, some ⟨true, .bools o⟩]
def impl.goer.from__2.l0.x (K : Nat) (a0 : List ByteArray) (a2 : Nat) : ((List Bool) ⊕ (List Bool)) → AExit × St := Sum.elim (fun o => (.ret, impl.goer.from__2.l0.e0 K a0 a2 o)) (fun o => (.exit 0, impl.goer.from__2.l0.e1 K a0 a2 o))
theorem impl.goer.from__2.l0.spec (K : Nat) (a0 : List ByteArray) (a2 : Nat) : ∀ (k : Nat) (v80_0 : List Bool) (v80_1 : List Int) (v80_2 : Int) (v80_3 : Int) (o : (List Bool) ⊕ (List Bool)), impl.goer.from__2.l0.f K a0 a2 k v80_0 v80_1 v80_2 v80_3 = some o → LoopSpec Try.prog 3 (loopN Try.f115 0) (impl.goer.from__2.l0.s K a0 a2 v80_0 v80_1 v80_2 v80_3) (impl.goer.from__2.l0.x K a0 a2 o).1 (impl.goer.from__2.l0.x K a0 a2 o).2
  | 0, _, _, _, _, _, h => by cases h
  | k + 1, v80_0, v80_1, v80_2, v80_3, o, h => by
    unfold impl.goer.from__2.l0.f at h
    rcases br_cases h with ⟨c1, h⟩ | ⟨c1, h⟩
    · obtain ⟨p1, h⟩ := ck_some h
      obtain ⟨p2, h⟩ := ck_some h
      obtain ⟨x1, e1, h⟩ := bind_some h
      rcases br_cases h with ⟨c2, h⟩ | ⟨c2, h⟩
      · exact .of_step tab mixed [.br true, .call [(0, false), (1, false), (2, true)] [] (one (.bool x1.1)) [some ⟨false, .cells [.sl 1 0 a0.length, .sl 2 0 a2]⟩, some ⟨false, .strs a0⟩, some ⟨true, .bools x1.2⟩], .br false] [] [0, 2, 53, 54, 55] [0, 1, 2, 3] (s1 := impl.goer.from__2.l0.s K a0 a2 x1.2 v80_1 v80_2 (w64 (v80_3 + 1))) (nd c1 (nd p1 (nd p2 (nd (tn p1 p2) (nd (impl.goer.from__1.spec K a0 v80_0 a2 (v80_1.getD v80_3.toNat 0) _ e1) (nd (nf c2) trivial)))))) (by kernel_rfl) (impl.goer.from__2.l0.spec K a0 a2 k x1.2 v80_1 v80_2 (w64 (v80_3 + 1)) _ h)
      · obtain rfl := Option.some.inj h
        exact .of_done tab mixed [.br true, .call [(0, false), (1, false), (2, true)] [] (one (.bool x1.1)) [some ⟨false, .cells [.sl 1 0 a0.length, .sl 2 0 a2]⟩, some ⟨false, .strs a0⟩, some ⟨true, .bools x1.2⟩], .br true] [] [6] [0, 1, 2] rfl (nd c1 (nd p1 (nd p2 (nd (tn p1 p2) (nd (impl.goer.from__1.spec K a0 v80_0 a2 (v80_1.getD v80_3.toNat 0) _ e1) (nd (nt c2) trivial)))))) (by kernel_rfl)
    · obtain rfl := Option.some.inj h
      exact .of_done tab mixed [.br false] [] [] [0, 1, 2] rfl (nd c1 trivial) (by kernel_rfl)
def impl.goer.from__2.f (K : Nat) (a0 : List ByteArray) (a1 : List Bool) (a2 : Nat) (a3 : Int) : Option (Bool × (List Bool)) :=
  ck (0 ≤ a3) (ck (a3 < (a0.length : Int)) (Option.bind (impl.NodeRead.f K (a0.getD a3.toNat noVal)) fun x1 => cond (x1.2.2.2.2) (ck (a3 < (a2 : Int)) (ck (a3.toNat < a1.length) (cond (a1.getD a3.toNat false) (some (false, a1)) (cond (a3 == 0) (cond (x1.1) (Option.bind (impl.goer.from__2.l0.f K a0 a2 K (a1.set a3.toNat true) x1.2.2.1 (x1.2.2.1.length : Int) 0) fun x2 => (Sum.elim (fun x2 => some (false, x2)) (fun x2 => some (true, x2))) x2) (some (false, a1))) (Option.bind (impl.goer.from__2.l0.f K a0 a2 K (a1.set a3.toNat true) x1.2.2.1 (x1.2.2.1.length : Int) 0) fun x2 => (Sum.elim (fun x2 => some (false, x2)) (fun x2 => some (true, x2))) x2))))) (some (false, a1))))
theorem impl.goer.from__2.spec (K : Nat) (a0 : List ByteArray) (a1 : List Bool) (a2 : Nat) (a3 : Int) (o : Bool × (List Bool)) (h : impl.goer.from__2.f K a0 a1 a2 a3 = some o) : Den.Spec Try.prog 115 [one (.ptr 0 0 0), one (.int .i64 a3), one (.int .i64 3)] [some ⟨false, .cells [.sl 1 0 a0.length, .sl 2 0 a2]⟩, some ⟨false, .strs a0⟩, some ⟨true, .bools a1⟩] (one (.bool o.1)) [some ⟨false, .cells [.sl 1 0 a0.length, .sl 2 0 a2]⟩, some ⟨false, .strs a0⟩, some ⟨true, .bools o.2⟩] := by
  unfold impl.goer.from__2.f at h
  obtain ⟨p1, h⟩ := ck_some h
  obtain ⟨p2, h⟩ := ck_some h
  obtain ⟨x1, e1, h⟩ := bind_some h
  rcases br_cases h with ⟨c1, h⟩ | ⟨c1, h⟩
  · obtain ⟨p3, h⟩ := ck_some h
    obtain ⟨p4, h⟩ := ck_some h
    rcases br_cases h with ⟨c2, h⟩ | ⟨c2, h⟩
    · obtain rfl := Option.some.inj h
      exact Den.Spec.of_walk tab mixed Try.func115 (by kernel_rfl) [.call [] [] (.tup [.agg [.bool x1.1, .sl 0 0 x1.2.1.length, .sl 1 0 x1.2.2.1.length, .str x1.2.2.2.1], .c (.bool x1.2.2.2.2)]) [some ⟨true, .strs x1.2.1⟩, some ⟨true, .ints .i64 x1.2.2.1⟩], .br false, .br false, .br false, .br false, .br false, .br false, .br false, .br false, .br true, .br true, .br true, .br true, .br true, .br true, .br true, .br true, .br true] [] [0, 1, 2] (nd p1 (nd p2 (nd (tn p1 p2) (nd (impl.NodeRead.spec K (a0.getD a3.toNat noVal) _ e1) (nd (nf c1) (nd (nf c1) (nd (nf c1) (nd (nf c1) (nd (nf c1) (nd (nf c1) (nd p1 (nd p3 (nd (nf c1) (nd p4 (nd (nf c1) (nd c2 (nd c2 (nd c2 (nd tt (nd tt (nd tt (nd tt (nd tt (nd tt trivial)))))))))))))))))))))))) (by kernel_rfl)
    · rcases br_cases h with ⟨c3, h⟩ | ⟨c3, h⟩
      · rcases br_cases h with ⟨c4, h⟩ | ⟨c4, h⟩
        · obtain ⟨x2, e2, h⟩ := bind_some h
          rcases x2 with x2 | x2
          · obtain rfl := Option.some.inj h
            exact Den.Spec.of_walk tab mixed Try.func115 (by kernel_rfl) [.call [] [] (.tup [.agg [.bool x1.1, .sl 0 0 x1.2.1.length, .sl 1 0 x1.2.2.1.length, .str x1.2.2.2.1], .c (.bool x1.2.2.2.2)]) [some ⟨true, .strs x1.2.1⟩, some ⟨true, .ints .i64 x1.2.2.1⟩], .br false, .br false, .br false, .br false, .br false, .br false, .br false, .br false, .br false, .br false, .br false, .br false, .br false, .br false, .br true, .br true, .br true, .br false, .br true, .br false, .br false, .loop [] [0, 2, 53, 54, 55] [0, 1, 2, 4] (.ret) (impl.goer.from__2.l0.e0 K a0 a2 x2)] [] [0, 1, 2] (nd p1 (nd p2 (nd (tn p1 p2) (nd (impl.NodeRead.spec K (a0.getD a3.toNat noVal) _ e1) (nd (nf c1) (nd (nf c1) (nd (nf c1) (nd (nf c1) (nd (nf c1) (nd (nf c1) (nd p1 (nd p3 (nd (nf c1) (nd p4 (nd (nf c1) (nd c2 (nd c2 (nd c2 (nd ff (nd ff (nd ff (nd c3 (nd c3 (nd c3 (nd ff (nd c3 (nd ff (nd (nf c4) (nd p1 (nd p3 (nd p4 (nd (impl.goer.from__2.l0.spec K a0 a2 K (a1.set a3.toNat true) x1.2.2.1 (x1.2.2.1.length : Int) 0 _ e2) trivial)))))))))))))))))))))))))))))))) (by kernel_rfl)
          · obtain rfl := Option.some.inj h
            exact Den.Spec.of_walk tab mixed Try.func115 (by kernel_rfl) [.call [] [] (.tup [.agg [.bool x1.1, .sl 0 0 x1.2.1.length, .sl 1 0 x1.2.2.1.length, .str x1.2.2.2.1], .c (.bool x1.2.2.2.2)]) [some ⟨true, .strs x1.2.1⟩, some ⟨true, .ints .i64 x1.2.2.1⟩], .br false, .br false, .br false, .br false, .br false, .br false, .br false, .br false, .br false, .br false, .br false, .br false, .br false, .br false, .br true, .br true, .br true, .br false, .br true, .br false, .br false, .loop [] [0, 2, 53, 54, 55] [0, 1, 2, 4] (.exit 0) (impl.goer.from__2.l0.e1 K a0 a2 x2)] [] [0, 1, 2] (nd p1 (nd p2 (nd (tn p1 p2) (nd (impl.NodeRead.spec K (a0.getD a3.toNat noVal) _ e1) (nd (nf c1) (nd (nf c1) (nd (nf c1) (nd (nf c1) (nd (nf c1) (nd (nf c1) (nd p1 (nd p3 (nd (nf c1) (nd p4 (nd (nf c1) (nd c2 (nd c2 (nd c2 (nd ff (nd ff (nd ff (nd c3 (nd c3 (nd c3 (nd ff (nd c3 (nd ff (nd (nf c4) (nd p1 (nd p3 (nd p4 (nd (impl.goer.from__2.l0.spec K a0 a2 K (a1.set a3.toNat true) x1.2.2.1 (x1.2.2.1.length : Int) 0 _ e2) trivial)))))))))))))))))))))))))))))))) (by kernel_rfl)
        · obtain rfl := Option.some.inj h
          exact Den.Spec.of_walk tab mixed Try.func115 (by kernel_rfl) [.call [] [] (.tup [.agg [.bool x1.1, .sl 0 0 x1.2.1.length, .sl 1 0 x1.2.2.1.length, .str x1.2.2.2.1], .c (.bool x1.2.2.2.2)]) [some ⟨true, .strs x1.2.1⟩, some ⟨true, .ints .i64 x1.2.2.1⟩], .br false, .br false, .br false, .br false, .br false, .br false, .br false, .br false, .br false, .br false, .br false, .br false, .br false, .br false, .br true, .br true, .br true, .br false, .br true, .br false, .br true] [] [0, 1, 2] (nd p1 (nd p2 (nd (tn p1 p2) (nd (impl.NodeRead.spec K (a0.getD a3.toNat noVal) _ e1) (nd (nf c1) (nd (nf c1) (nd (nf c1) (nd (nf c1) (nd (nf c1) (nd (nf c1) (nd p1 (nd p3 (nd (nf c1) (nd p4 (nd (nf c1) (nd c2 (nd c2 (nd c2 (nd ff (nd ff (nd ff (nd c3 (nd c3 (nd c3 (nd ff (nd c3 (nd ff (nd (nt c4) trivial)))))))))))))))))))))))))))) (by kernel_rfl)
      · obtain ⟨x2, e2, h⟩ := bind_some h
        rcases x2 with x2 | x2
        · obtain rfl := Option.some.inj h
          exact Den.Spec.of_walk tab mixed Try.func115 (by kernel_rfl) [.call [] [] (.tup [.agg [.bool x1.1, .sl 0 0 x1.2.1.length, .sl 1 0 x1.2.2.1.length, .str x1.2.2.2.1], .c (.bool x1.2.2.2.2)]) [some ⟨true, .strs x1.2.1⟩, some ⟨true, .ints .i64 x1.2.2.1⟩], .br false, .br false, .br false, .br false, .br false, .br false, .br false, .br false, .br false, .br false, .br false, .br false, .br false, .br false, .br false, .br false, .br false, .br false, .br false, .br false, .br false, .loop [] [0, 2, 53, 54, 55] [0, 1, 2, 4] (.ret) (impl.goer.from__2.l0.e0 K a0 a2 x2)] [] [0, 1, 2] (nd p1 (nd p2 (nd (tn p1 p2) (nd (impl.NodeRead.spec K (a0.getD a3.toNat noVal) _ e1) (nd (nf c1) (nd (nf c1) (nd (nf c1) (nd (nf c1) (nd (nf c1) (nd (nf c1) (nd p1 (nd p3 (nd (nf c1) (nd p4 (nd (nf c1) (nd c2 (nd c2 (nd c2 (nd ff (nd ff (nd ff (nd c3 (nd c3 (nd c3 (nd ff (nd c3 (nd ff (nd ff (nd p1 (nd p3 (nd p4 (nd (impl.goer.from__2.l0.spec K a0 a2 K (a1.set a3.toNat true) x1.2.2.1 (x1.2.2.1.length : Int) 0 _ e2) trivial)))))))))))))))))))))))))))))))) (by kernel_rfl)
        · obtain rfl := Option.some.inj h
          exact Den.Spec.of_walk tab mixed Try.func115 (by kernel_rfl) [.call [] [] (.tup [.agg [.bool x1.1, .sl 0 0 x1.2.1.length, .sl 1 0 x1.2.2.1.length, .str x1.2.2.2.1], .c (.bool x1.2.2.2.2)]) [some ⟨true, .strs x1.2.1⟩, some ⟨true, .ints .i64 x1.2.2.1⟩], .br false, .br false, .br false, .br false, .br false, .br false, .br false, .br false, .br false, .br false, .br false, .br false, .br false, .br false, .br false, .br false, .br false, .br false, .br false, .br false, .br false, .loop [] [0, 2, 53, 54, 55] [0, 1, 2, 4] (.exit 0) (impl.goer.from__2.l0.e1 K a0 a2 x2)] [] [0, 1, 2] (nd p1 (nd p2 (nd (tn p1 p2) (nd (impl.NodeRead.spec K (a0.getD a3.toNat noVal) _ e1) (nd (nf c1) (nd (nf c1) (nd (nf c1) (nd (nf c1) (nd (nf c1) (nd (nf c1) (nd p1 (nd p3 (nd (nf c1) (nd p4 (nd (nf c1) (nd c2 (nd c2 (nd c2 (nd ff (nd ff (nd ff (nd c3 (nd c3 (nd c3 (nd ff (nd c3 (nd ff (nd ff (nd p1 (nd p3 (nd p4 (nd (impl.goer.from__2.l0.spec K a0 a2 K (a1.set a3.toNat true) x1.2.2.1 (x1.2.2.1.length : Int) 0 _ e2) trivial)))))))))))))))))))))))))))))))) (by kernel_rfl)
  · obtain rfl := Option.some.inj h
    exact Den.Spec.of_walk tab mixed Try.func115 (by kernel_rfl) [.call [] [] (.tup [.agg [.bool x1.1, .sl 0 0 x1.2.1.length, .sl 1 0 x1.2.2.1.length, .str x1.2.2.2.1], .c (.bool x1.2.2.2.2)]) [some ⟨true, .strs x1.2.1⟩, some ⟨true, .ints .i64 x1.2.2.1⟩], .br true, .br true, .br true, .br true, .br true, .br true, .br true, .br true, .br true, .br true, .br true, .br true, .br true, .br true, .br true, .br true, .br true] [] [0, 1, 2] (nd p1 (nd p2 (nd (tn p1 p2) (nd (impl.NodeRead.spec K (a0.getD a3.toNat noVal) _ e1) (nd (nt c1) (nd (nt c1) (nd (nt c1) (nd (nt c1) (nd (nt c1) (nd (nt c1) (nd (nt c1) (nd (nt c1) (nd tt (nd tt (nd tt (nd tt (nd tt (nd tt (nd tt (nd tt (nd tt trivial))))))))))))))))))))) (by kernel_rfl)
def impl.goer.from__3.l0.f (K : Nat) (a0 : List ByteArray) (a2 : Nat) : Nat → (List Bool) → (List Int) → Int → Int → Option ((List Bool) ⊕ (List Bool))
  | 0, _, _, _, _ => none
  | k + 1, v85_0, v85_1, v85_2, v85_3 =>
    cond (decide (v85_3 < v85_2)) (ck (0 ≤ v85_3) (ck (v85_3 < (v85_1.length : Int)) (Option.bind (impl.goer.from__2.f K a0 v85_0 a2 (v85_1.getD v85_3.toNat 0)) fun x1 => cond (x1.1) (impl.goer.from__3.l0.f K a0 a2 k x1.2 v85_1 v85_2 (w64 (v85_3 + 1))) (some (.inl x1.2))))) (some (.inr (v85_0)))
def impl.goer.from__3.l0.s (K : Nat) (a0 : List ByteArray) (a2 : Nat) (v85_0 : List Bool) (v85_1 : List Int) (v85_2 : Int) (v85_3 : Int) : St := mkSt 66 [(0, one (.ptr 0 0 0)), (2, one (.int .i64 2)), (53, one (.sl 3 0 v85_1.length)), (54, one (.int .i64 v85_2)), (55, one (.int .i64 v85_3))] [some ⟨false, .cells [.sl 1 0 a0.length, .sl 2 0 a2]⟩, some ⟨false, .strs a0⟩, some ⟨true, .bools v85_0⟩, some ⟨true, .ints .i64 v85_1⟩]
def impl.goer.from__3.l0.e0 (K : Nat) (a0 : List ByteArray) (a2 : Nat) (o : (List Bool)) : St := mkSt 66 [(6, one (.bool false))] [some ⟨false, .cells [.sl 1 0 a0.length, .sl 2 0 a2]⟩, some ⟨false, .strs a0⟩, some ⟨true, .bools o⟩]
def impl.goer.from__3.l0.e1 (K : Nat) (a0 : List ByteArray) (a2 : Nat) (o : (List Bool)) : St := mkSt 66 [] [some ⟨false, .cells [.sl 1 0 a0.length, .sl 2 0 a2]⟩, some ⟨false, .strs a0⟩, some ⟨true, .bools o⟩]
def impl.goer.from__3.l0.x (K : Nat) (a0 : List ByteArray) (a2 : Nat) : ((List Bool) ⊕ (List Bool)) → AExit × St := Sum.elim (fun o => (.ret, impl.goer.from__3.l0.e0 K a0 a2 o)) (fun o => (.exit 0, impl.goer.from__3.l0.e1 K a0 a2 o))
theorem impl.goer.from__3.l0.spec (K : Nat) (a0 : List ByteArray) (a2 : Nat) : ∀ (k : Nat) (v85_0 : List Bool) (v85_1 : List Int) (v85_2 : Int) (v85_3 : Int) (o : (List Bool) ⊕ (List Bool)), impl.goer.from__3.l0.f K a0 a2 k v85_0 v85_1 v85_2 v85_3 = some o → LoopSpec Try.prog 3 (loopN Try.f115 0) (impl.goer.from__3.l0.s K a0 a2 v85_0 v85_1 v85_2 v85_3) (impl.goer.from__3.l0.x K a0 a2 o).1 (impl.goer.from__3.l0.x K a0 a2 o).2
  | 0, _, _, _, _, _, h => by cases h
  | k + 1, v85_0, v85_1, v85_2, v85_3, o, h => by
    unfold impl.goer.from__3.l0.f at h
    rcases br_cases h with ⟨c1, h⟩ | ⟨c1, h⟩
    · obtain ⟨p1, h⟩ := ck_some h
      obtain ⟨p2, h⟩ := ck_some h
      obtain ⟨x1, e1, h⟩ := bind_some h
      rcases br_cases h with ⟨c2, h⟩ | ⟨c2, h⟩
      · exact .of_step tab mixed [.br true, .call [(0, false), (1, false), (2, true)] [] (one (.bool x1.1)) [some ⟨false, .cells [.sl 1 0 a0.length, .sl 2 0 a2]⟩, some ⟨false, .strs a0⟩, some ⟨true, .bools x1.2⟩], .br false] [] [0, 2, 53, 54, 55] [0, 1, 2, 3] (s1 := impl.goer.from__3.l0.s K a0 a2 x1.2 v85_1 v85_2 (w64 (v85_3 + 1))) (nd c1 (nd p1 (nd p2 (nd (tn p1 p2) (nd (impl.goer.from__2.spec K a0 v85_0 a2 (v85_1.getD v85_3.toNat 0) _ e1) (nd (nf c2) trivial)))))) (by kernel_rfl) (impl.goer.from__3.l0.spec K a0 a2 k x1.2 v85_1 v85_2 (w64 (v85_3 + 1)) _ h)
      · obtain rfl := Option.some.inj h
        exact .of_done tab mixed [.br true, .call [(0, false), (1, false), (2, true)] [] (one (.bool x1.1)) [some ⟨false, .cells [.sl 1 0 a0.length, .sl 2 0 a2]⟩, some ⟨false, .strs a0⟩, some ⟨true, .bools x1.2⟩], .br true] [] [6] [0, 1, 2] rfl (nd c1 (nd p1 (nd p2 (nd (tn p1 p2) (nd (impl.goer.from__2.spec K a0 v85_0 a2 (v85_1.getD v85_3.toNat 0) _ e1) (nd (nt c2) trivial)))))) (by kernel_rfl)
    · obtain rfl := Option.some.inj h
      exact .of_done tab mixed [.br false] [] [] [0, 1, 2] rfl (nd c1 trivial) (by kernel_rfl)
def impl.goer.from__3.f (K : Nat) (a0 : List ByteArray) (a1 : List Bool) (a2 : Nat) (a3 : Int) : Option (Bool × (List Bool)) :=
  ck (0 ≤ a3) (ck (a3 < (a0.length : Int)) (Option.bind (impl.NodeRead.f K (a0.getD a3.toNat noVal)) fun x1 => cond (x1.2.2.2.2) (ck (a3 < (a2 : Int)) (ck (a3.toNat < a1.length) (cond (a1.getD a3.toNat false) (some (false, a1)) (cond (a3 == 0) (cond (x1.1) (Option.bind (impl.goer.from__3.l0.f K a0 a2 K (a1.set a3.toNat true) x1.2.2.1 (x1.2.2.1.length : Int) 0) fun x2 => (Sum.elim (fun x2 => some (false, x2)) (fun x2 => some (true, x2))) x2) (some (false, a1))) (Option.bind (impl.goer.from__3.l0.f K a0 a2 K (a1.set a3.toNat true) x1.2.2.1 (x1.2.2.1.length : Int) 0) fun x2 => (Sum.elim (fun x2 => some (false, x2)) (fun x2 => some (true, x2))) x2))))) (some (false, a1))))
theorem impl.goer.from__3.spec (K : Nat) (a0 : List ByteArray) (a1 : List Bool) (a2 : Nat) (a3 : Int) (o : Bool × (List Bool)) (h : impl.goer.from__3.f K a0 a1 a2 a3 = some o) : Den.Spec Try.prog 115 [one (.ptr 0 0 0), one (.int .i64 a3), one (.int .i64 2)] [some ⟨false, .cells [.sl 1 0 a0.length, .sl 2 0 a2]⟩, some ⟨false, .strs a0⟩, some ⟨true, .bools a1⟩] (one (.bool o.1)) [some ⟨false, .cells [.sl 1 0 a0.length, .sl 2 0 a2]⟩, some ⟨false, .strs a0⟩, some ⟨true, .bools o.2⟩] := by
  unfold impl.goer.from__3.f at h
  obtain ⟨p1, h⟩ := ck_some h
  obtain ⟨p2, h⟩ := ck_some h
  obtain ⟨x1, e1, h⟩ := bind_some h
  rcases br_cases h with ⟨c1, h⟩ | ⟨c1, h⟩
  · obtain ⟨p3, h⟩ := ck_some h
    obtain ⟨p4, h⟩ := ck_some h
    rcases br_cases h with ⟨c2, h⟩ | ⟨c2, h⟩
    · obtain rfl := Option.some.inj h
      exact Den.Spec.of_walk tab mixed Try.func115 (by kernel_rfl) [.call [] [] (.tup [.agg [.bool x1.1, .sl 0 0 x1.2.1.length, .sl 1 0 x1.2.2.1.length, .str x1.2.2.2.1], .c (.bool x1.2.2.2.2)]) [some ⟨true, .strs x1.2.1⟩, some ⟨true, .ints .i64 x1.2.2.1⟩], .br false, .br false, .br false, .br false, .br false, .br false, .br false, .br false, .br true, .br true, .br true, .br true, .br true, .br true, .br true, .br true, .br true] [] [0, 1, 2] (nd p1 (nd p2 (nd (tn p1 p2) (nd (impl.NodeRead.spec K (a0.getD a3.toNat noVal) _ e1) (nd (nf c1) (nd (nf c1) (nd (nf c1) (nd (nf c1) (nd (nf c1) (nd (nf c1) (nd p1 (nd p3 (nd (nf c1) (nd p4 (nd (nf c1) (nd c2 (nd c2 (nd c2 (nd tt (nd tt (nd tt (nd tt (nd tt (nd tt trivial)))))))))))))))))))))))) (by kernel_rfl)
    · rcases br_cases h with ⟨c3, h⟩ | ⟨c3, h⟩
      · rcases br_cases h with ⟨c4, h⟩ | ⟨c4, h⟩
        · obtain ⟨x2, e2, h⟩ := bind_some h
          rcases x2 with x2 | x2
          · obtain rfl := Option.some.inj h
            exact Den.Spec.of_walk tab mixed Try.func115 (by kernel_rfl) [.call [] [] (.tup [.agg [.bool x1.1, .sl 0 0 x1.2.1.length, .sl 1 0 x1.2.2.1.length, .str x1.2.2.2.1], .c (.bool x1.2.2.2.2)]) [some ⟨true, .strs x1.2.1⟩, some ⟨true, .ints .i64 x1.2.2.1⟩], .br false, .br false, .br false, .br false, .br false, .br false, .br false, .br false, .br false, .br false, .br false, .br false, .br false, .br false, .br true, .br true, .br true, .br false, .br true, .br false, .br false, .loop [] [0, 2, 53, 54, 55] [0, 1, 2, 4] (.ret) (impl.goer.from__3.l0.e0 K a0 a2 x2)] [] [0, 1, 2] (nd p1 (nd p2 (nd (tn p1 p2) (nd (impl.NodeRead.spec K (a0.getD a3.toNat noVal) _ e1) (nd (nf c1) (nd (nf c1) (nd (nf c1) (nd (nf c1) (nd (nf c1) (nd (nf c1) (nd p1 (nd p3 (nd (nf c1) (nd p4 (nd (nf c1) (nd c2 (nd c2 (nd c2 (nd ff (nd ff (nd ff (nd c3 (nd c3 (nd c3 (nd ff (nd c3 (nd ff (nd (nf c4) (nd p1 (nd p3 (nd p4 (nd (impl.goer.from__3.l0.spec K a0 a2 K (a1.set a3.toNat true) x1.2.2.1 (x1.2.2.1.length : Int) 0 _ e2) trivial)))))))))))))))))))))))))))))))) (by kernel_rfl)
          · obtain rfl := Option.some.inj h
            exact Den.Spec.of_walk tab mixed Try.func115 (by kernel_rfl) [.call [] [] (.tup [.agg [.bool x1.1, .sl 0 0 x1.2.1.length, .sl 1 0 x1.2.2.1.length, .str x1.2.2.2.1], .c (.bool x1.2.2.2.2)]) [some ⟨true, .strs x1.2.1⟩, some ⟨true, .ints .i64 x1.2.2.1⟩], .br false, .br false, .br false, .br false, .br false, .br false, .br false, .br false, .br false, .br false, .br false, .br false, .br false, .br false, .br true, .br true, .br true, .br false, .br true, .br false, .br false, .loop [] [0, 2, 53, 54, 55] [0, 1, 2, 4] (.exit 0) (impl.goer.from__3.l0.e1 K a0 a2 x2)] [] [0, 1, 2] (nd p1 (nd p2 (nd (tn p1 p2) (nd (impl.NodeRead.spec K (a0.getD a3.toNat noVal) _ e1) (nd (nf c1) (nd (nf c1) (nd (nf c1) (nd (nf c1) (nd (nf c1) (nd (nf c1) (nd p1 (nd p3 (nd (nf c1) (nd p4 (nd (nf c1) (nd c2 (nd c2 (nd c2 (nd ff (nd ff (nd ff (nd c3 (nd c3 (nd c3 (nd ff (nd c3 (nd ff (nd (nf c4) (nd p1 (nd p3 (nd p4 (nd (impl.goer.from__3.l0.spec K a0 a2 K (a1.set a3.toNat true) x1.2.2.1 (x1.2.2.1.length : Int) 0 _ e2) trivial)))))))))))))))))))))))))))))))) (by kernel_rfl)
        · obtain rfl := Option.some.inj h
          exact Den.Spec.of_walk tab mixed Try.func115 (by kernel_rfl) [.call [] [] (.tup [.agg [.bool x1.1, .sl 0 0 x1.2.1.length, .sl 1 0 x1.2.2.1.length, .str x1.2.2.2.1], .c (.bool x1.2.2.2.2)]) [some ⟨true, .strs x1.2.1⟩, some ⟨true, .ints .i64 x1.2.2.1⟩], .br false, .br false, .br false, .br false, .br false, .br false, .br false, .br false, .br false, .br false, .br false, .br false, .br false, .br false, .br true, .br true, .br true, .br false, .br true, .br false, .br true] [] [0, 1, 2] (nd p1 (nd p2 (nd (tn p1 p2) (nd (impl.NodeRead.spec K (a0.getD a3.toNat noVal) _ e1) (nd (nf c1) (nd (nf c1) (nd (nf c1) (nd (nf c1) (nd (nf c1) (nd (nf c1) (nd p1 (nd p3 (nd (nf c1) (nd p4 (nd (nf c1) (nd c2 (nd c2 (nd c2 (nd ff (nd ff (nd ff (nd c3 (nd c3 (nd c3 (nd ff (nd c3 (nd ff (nd (nt c4) trivial)))))))))))))))))))))))))))) (by kernel_rfl)
      · obtain ⟨x2, e2, h⟩ := bind_some h
        rcases x2 with x2 | x2
        · obtain rfl := Option.some.inj h
          exact Den.Spec.of_walk tab mixed Try.func115 (by kernel_rfl) [.call [] [] (.tup [.agg [.bool x1.1, .sl 0 0 x1.2.1.length, .sl 1 0 x1.2.2.1.length, .str x1.2.2.2.1], .c (.bool x1.2.2.2.2)]) [some ⟨true, .strs x1.2.1⟩, some ⟨true, .ints .i64 x1.2.2.1⟩], .br false, .br false, .br false, .br false, .br false, .br false, .br false, .br false, .br false, .br false, .br false, .br false, .br false, .br false, .br false, .br false, .br false, .br false, .br false, .br false, .br false, .loop [] [0, 2, 53, 54, 55] [0, 1, 2, 4] (.ret) (impl.goer.from__3.l0.e0 K a0 a2 x2)] [] [0, 1, 2] (nd p1 (nd p2 (nd (tn p1 p2) (nd (impl.NodeRead.spec K (a0.getD a3.toNat noVal) _ e1) (nd (nf c1) (nd (nf c1) (nd (nf c1) (nd (nf c1) (nd (nf c1) (nd (nf c1) (nd p1 (nd p3 (nd (nf c1) (nd p4 (nd (nf c1) (nd c2 (nd c2 (nd c2 (nd ff (nd ff (nd ff (nd c3 (nd c3 (nd c3 (nd ff (nd c3 (nd ff (nd ff (nd p1 (nd p3 (nd p4 (nd (impl.goer.from__3.l0.spec K a0 a2 K (a1.set a3.toNat true) x1.2.2.1 (x1.2.2.1.length : Int) 0 _ e2) trivial)))))))))))))))))))))))))))))))) (by kernel_rfl)
        · obtain rfl := Option.some.inj h
          exact Den.Spec.of_walk tab mixed Try.func115 (by kernel_rfl) [.call [] [] (.tup [.agg [.bool x1.1, .sl 0 0 x1.2.1.length, .sl 1 0 x1.2.2.1.length, .str x1.2.2.2.1], .c (.bool x1.2.2.2.2)]) [some ⟨true, .strs x1.2.1⟩, some ⟨true, .ints .i64 x1.2.2.1⟩], .br false, .br false, .br false, .br false, .br false, .br false, .br false, .br false, .br false, .br false, .br false, .br false, .br false, .br false, .br false, .br false, .br false, .br false, .br false, .br false, .br false, .loop [] [0, 2, 53, 54, 55] [0, 1, 2, 4] (.exit 0) (impl.goer.from__3.l0.e1 K a0 a2 x2)] [] [0, 1, 2] (nd p1 (nd p2 (nd (tn p1 p2) (nd (impl.NodeRead.spec K (a0.getD a3.toNat noVal) _ e1) (nd (nf c1) (nd (nf c1) (nd (nf c1) (nd (nf c1) (nd (nf c1) (nd (nf c1) (nd p1 (nd p3 (nd (nf c1) (nd p4 (nd (nf c1) (nd c2 (nd c2 (nd c2 (nd ff (nd ff (nd ff (nd c3 (nd c3 (nd c3 (nd ff (nd c3 (nd ff (nd ff (nd p1 (nd p3 (nd p4 (nd (impl.goer.from__3.l0.spec K a0 a2 K (a1.set a3.toNat true) x1.2.2.1 (x1.2.2.1.length : Int) 0 _ e2) trivial)))))))))))))))))))))))))))))))) (by kernel_rfl)
  · obtain rfl := Option.some.inj h
    exact Den.Spec.of_walk tab mixed Try.func115 (by kernel_rfl) [.call [] [] (.tup [.agg [.bool x1.1, .sl 0 0 x1.2.1.length, .sl 1 0 x1.2.2.1.length, .str x1.2.2.2.1], .c (.bool x1.2.2.2.2)]) [some ⟨true, .strs x1.2.1⟩, some ⟨true, .ints .i64 x1.2.2.1⟩], .br true, .br true, .br true, .br true, .br true, .br true, .br true, .br true, .br true, .br true, .br true, .br true, .br true, .br true, .br true, .br true, .br true] [] [0, 1, 2] (nd p1 (nd p2 (nd (tn p1 p2) (nd (impl.NodeRead.spec K (a0.getD a3.toNat noVal) _ e1) (nd (nt c1) (nd (nt c1) (nd (nt c1) (nd (nt c1) (nd (nt c1) (nd (nt c1) (nd (nt c1) (nd (nt c1) (nd tt (nd tt (nd tt (nd tt (nd tt (nd tt (nd tt (nd tt (nd tt trivial))))))))))))))))))))) (by kernel_rfl)
def impl.goer.from__4.l0.f (K : Nat) (a0 : List ByteArray) (a2 : Nat) : Nat → (List Bool) → (List Int) → Int → Int → Option ((List Bool) ⊕ (List Bool))
  | 0, _, _, _, _ => none
  | k + 1, v90_0, v90_1, v90_2, v90_3 =>
    cond (decide (v90_3 < v90_2)) (ck (0 ≤ v90_3) (ck (v90_3 < (v90_1.length : Int)) (Option.bind (impl.goer.from__3.f K a0 v90_0 a2 (v90_1.getD v90_3.toNat 0)) fun x1 => cond (x1.1) (impl.goer.from__4.l0.f K a0 a2 k x1.2 v90_1 v90_2 (w64 (v90_3 + 1))) (some (.inl x1.2))))) (some (.inr (v90_0)))
def impl.goer.from__4.l0.s (K : Nat) (a0 : List ByteArray) (a2 : Nat) (v90_0 : List Bool) (v90_1 : List Int) (v90_2 : Int) (v90_3 : Int) : St := mkSt 66 [(0, one (.ptr 0 0 0)), (2, one (.int .i64 1)), (53, one (.sl 3 0 v90_1.length)), (54, one (.int .i64 v90_2)), (55, one (.int .i64 v90_3))] [some ⟨false, .cells [.sl 1 0 a0.length, .sl 2 0 a2]⟩, some ⟨false, .strs a0⟩, some ⟨true, .bools v90_0⟩, some ⟨true, .ints .i64 v90_1⟩]
def impl.goer.from__4.l0.e0 (K : Nat) (a0 : List ByteArray) (a2 : Nat) (o : (List Bool)) : St := mkSt 66 [(6, one (.bool false))] [some ⟨false, .cells [.sl 1 0 a0.length, .sl 2 0 a2]⟩, some ⟨false, .strs a0⟩, some ⟨true, .bools o⟩]
def impl.goer.from__4.l0.e1 (K : Nat) (a0 : List ByteArray) (a2 : Nat) (o : (List Bool)) : St := mkSt 66 [] [some ⟨false, .cells [.sl 1 0 a0.length, .sl 2 0 a2]⟩, some ⟨false, .strs a0⟩, some ⟨true, .bools o⟩]
def impl.goer.from__4.l0.x (K : Nat) (a0 : List ByteArray) (a2 : Nat) : ((List Bool) ⊕ (List Bool)) → AExit × St := Sum.elim (fun o => (.ret, impl.goer.from__4.l0.e0 K a0 a2 o)) (fun o => (.exit 0, impl.goer.from__4.l0.e1 K a0 a2 o))
theorem impl.goer.from__4.l0.spec (K : Nat) (a0 : List ByteArray) (a2 : Nat) : ∀ (k : Nat) (v90_0 : List Bool) (v90_1 : List Int) (v90_2 : Int) (v90_3 : Int) (o : (List Bool) ⊕ (List Bool)), impl.goer.from__4.l0.f K a0 a2 k v90_0 v90_1 v90_2 v90_3 = some o → LoopSpec Try.prog 3 (loopN Try.f115 0) (impl.goer.from__4.l0.s K a0 a2 v90_0 v90_1 v90_2 v90_3) (impl.goer.from__4.l0.x K a0 a2 o).1 (impl.goer.from__4.l0.x K a0 a2 o).2
  | 0, _, _, _, _, _, h => by cases h
  | k + 1, v90_0, v90_1, v90_2, v90_3, o, h => by
    unfold impl.goer.from__4.l0.f at h
    rcases br_cases h with ⟨c1, h⟩ | ⟨c1, h⟩
    · obtain ⟨p1, h⟩ := ck_some h
      obtain ⟨p2, h⟩ := ck_some h
      obtain ⟨x1, e1, h⟩ := bind_some h
      rcases br_cases h with ⟨c2, h⟩ | ⟨c2, h⟩
      · exact .of_step tab mixed [.br true, .call [(0, false), (1, false), (2, true)] [] (one (.bool x1.1)) [some ⟨false, .cells [.sl 1 0 a0.length, .sl 2 0 a2]⟩, some ⟨false, .strs a0⟩, some ⟨true, .bools x1.2⟩], .br false] [] [0, 2, 53, 54, 55] [0, 1, 2, 3] (s1 := impl.goer.from__4.l0.s K a0 a2 x1.2 v90_1 v90_2 (w64 (v90_3 + 1))) (nd c1 (nd p1 (nd p2 (nd (tn p1 p2) (nd (impl.goer.from__3.spec K a0 v90_0 a2 (v90_1.getD v90_3.toNat 0) _ e1) (nd (nf c2) trivial)))))) (by kernel_rfl) (impl.goer.from__4.l0.spec K a0 a2 k x1.2 v90_1 v90_2 (w64 (v90_3 + 1)) _ h)
      · obtain rfl := Option.some.inj h
        exact .of_done tab mixed [.br true, .call [(0, false), (1, false), (2, true)] [] (one (.bool x1.1)) [some ⟨false, .cells [.sl 1 0 a0.length, .sl 2 0 a2]⟩, some ⟨false, .strs a0⟩, some ⟨true, .bools x1.2⟩], .br true] [] [6] [0, 1, 2] rfl (nd c1 (nd p1 (nd p2 (nd (tn p1 p2) (nd (impl.goer.from__3.spec K a0 v90_0 a2 (v90_1.getD v90_3.toNat 0) _ e1) (nd (nt c2) trivial)))))) (by kernel_rfl)
    · obtain rfl := Option.some.inj h
      exact .of_done tab mixed [.br false] [] [] [0, 1, 2] rfl (nd c1 trivial) (by kernel_rfl)
def impl.goer.from__4.f (K : Nat) (a0 : List ByteArray) (a1 : List Bool) (a2 : Nat) (a3 : Int) : Option (Bool × (List Bool)) :=
  ck (0 ≤ a3) (ck (a3 < (a0.length : Int)) (Option.bind (impl.NodeRead.f K (a0.getD a3.toNat noVal)) fun x1 => cond (x1.2.2.2.2) (ck (a3 < (a2 : Int)) (ck (a3.toNat < a1.length) (cond (a1.getD a3.toNat false) (some (false, a1)) (cond (a3 == 0) (cond (x1.1) (Option.bind (impl.goer.from__4.l0.f K a0 a2 K (a1.set a3.toNat true) x1.2.2.1 (x1.2.2.1.length : Int) 0) fun x2 => (Sum.elim (fun x2 => some (false, x2)) (fun x2 => some (true, x2))) x2) (some (false, a1))) (Option.bind (impl.goer.from__4.l0.f K a0 a2 K (a1.set a3.toNat true) x1.2.2.1 (x1.2.2.1.length : Int) 0) fun x2 => (Sum.elim (fun x2 => some (false, x2)) (fun x2 => some (true, x2))) x2))))) (some (false, a1))))
theorem impl.goer.from__4.spec (K : Nat) (a0 : List ByteArray) (a1 : List Bool) (a2 : Nat) (a3 : Int) (o : Bool × (List Bool)) (h : impl.goer.from__4.f K a0 a1 a2 a3 = some o) : Den.Spec Try.prog 115 [one (.ptr 0 0 0), one (.int .i64 a3), one (.int .i64 1)] [some ⟨false, .cells [.sl 1 0 a0.length, .sl 2 0 a2]⟩, some ⟨false, .strs a0⟩, some ⟨true, .bools a1⟩] (one (.bool o.1)) [some ⟨false, .cells [.sl 1 0 a0.length, .sl 2 0 a2]⟩, some ⟨false, .strs a0⟩, some ⟨true, .bools o.2⟩] := by
  unfold impl.goer.from__4.f at h
  obtain ⟨p1, h⟩ := ck_some h
  obtain ⟨p2, h⟩ := ck_some h
  obtain ⟨x1, e1, h⟩ := bind_some h
  rcases br_cases h with ⟨c1, h⟩ | ⟨c1, h⟩
  · obtain ⟨p3, h⟩ := ck_some h
    obtain ⟨p4, h⟩ := ck_some h
    rcases br_cases h with ⟨c2, h⟩ | ⟨c2, h⟩
    · obtain rfl := Option.some.inj h
      exact Den.Spec.of_walk tab mixed Try.func115 (by kernel_rfl) [.call [] [] (.tup [.agg [.bool x1.1, .sl 0 0 x1.2.1.length, .sl 1 0 x1.2.2.1.length, .str x1.2.2.2.1], .c (.bool x1.2.2.2.2)]) [some ⟨true, .strs x1.2.1⟩, some ⟨true, .ints .i64 x1.2.2.1⟩], .br false, .br false, .br false, .br false, .br false, .br false, .br false, .br false, .br true, .br true, .br true, .br true, .br true, .br true, .br true, .br true, .br true] [] [0, 1, 2] (nd p1 (nd p2 (nd (tn p1 p2) (nd (impl.NodeRead.spec K (a0.getD a3.toNat noVal) _ e1) (nd (nf c1) (nd (nf c1) (nd (nf c1) (nd (nf c1) (nd (nf c1) (nd (nf c1) (nd p1 (nd p3 (nd (nf c1) (nd p4 (nd (nf c1) (nd c2 (nd c2 (nd c2 (nd tt (nd tt (nd tt (nd tt (nd tt (nd tt trivial)))))))))))))))))))))))) (by kernel_rfl)
    · rcases br_cases h with ⟨c3, h⟩ | ⟨c3, h⟩
      · rcases br_cases h with ⟨c4, h⟩ | ⟨c4, h⟩
        · obtain ⟨x2, e2, h⟩ := bind_some h
          rcases x2 with x2 | x2
          · obtain rfl := Option.some.inj h
            exact Den.Spec.of_walk tab mixed Try.func115 (by kernel_rfl) [.call [] [] (.tup [.agg [.bool x1.1, .sl 0 0 x1.2.1.length, .sl 1 0 x1.2.2.1.length, .str x1.2.2.2.1], .c (.bool x1.2.2.2.2)]) [some ⟨true, .strs x1.2.1⟩, some ⟨true, .ints .i64 x1.2.2.1⟩], .br false, .br false, .br false, .br false, .br false, .br false, .br false, .br false, .br false, .br false, .br false, .br false, .br false, .br false, .br true, .br true, .br true, .br false, .br true, .br false, .br false, .loop [] [0, 2, 53, 54, 55] [0, 1, 2, 4] (.ret) (impl.goer.from__4.l0.e0 K a0 a2 x2)] [] [0, 1, 2] (nd p1 (nd p2 (nd (tn p1 p2) (nd (impl.NodeRead.spec K (a0.getD a3.toNat noVal) _ e1) (nd (nf c1) (nd (nf c1) (nd (nf c1) (nd (nf c1) (nd (nf c1) (nd (nf c1) (nd p1 (nd p3 (nd (nf c1) (nd p4 (nd (nf c1) (nd c2 (nd c2 (nd c2 (nd ff (nd ff (nd ff (nd c3 (nd c3 (nd c3 (nd ff (nd c3 (nd ff (nd (nf c4) (nd p1 (nd p3 (nd p4 (nd (impl.goer.from__4.l0.spec K a0 a2 K (a1.set a3.toNat true) x1.2.2.1 (x1.2.2.1.length : Int) 0 _ e2) trivial)))))))))))))))))))))))))))))))) (by kernel_rfl)
          · obtain rfl := Option.some.inj h
            exact Den.Spec.of_walk tab mixed Try.func115 (by kernel_rfl) [.call [] [] (.tup [.agg [.bool x1.1, .sl 0 0 x1.2.1.length, .sl 1 0 x1.2.2.1.length, .str x1.2.2.2.1], .c (.bool x1.2.2.2.2)]) [some ⟨true, .strs x1.2.1⟩, some ⟨true, .ints .i64 x1.2.2.1⟩], .br false, .br false, .br false, .br false, .br false, .br false, .br false, .br false, .br false, .br false, .br false, .br false, .br false, .br false, .br true, .br true, .br true, .br false, .br true, .br false, .br false, .loop [] [0, 2, 53, 54, 55] [0, 1, 2, 4] (.exit 0) (impl.goer.from__4.l0.e1 K a0 a2 x2)] [] [0, 1, 2] (nd p1 (nd p2 (nd (tn p1 p2) (nd (impl.NodeRead.spec K (a0.getD a3.toNat noVal) _ e1) (nd (nf c1) (nd (nf c1) (nd (nf c1) (nd (nf c1) (nd (nf c1) (nd (nf c1) (nd p1 (nd p3 (nd (nf c1) (nd p4 (nd (nf c1) (nd c2 (nd c2 (nd c2 (nd ff (nd ff (nd ff (nd c3 (nd c3 (nd c3 (nd ff (nd c3 (nd ff (nd (nf c4) (nd p1 (nd p3 (nd p4 (nd (impl.goer.from__4.l0.spec K a0 a2 K (a1.set a3.toNat true) x1.2.2.1 (x1.2.2.1.length : Int) 0 _ e2) trivial)))))))))))))))))))))))))))))))) (by kernel_rfl)
        · obtain rfl := Option.some.inj h
          exact Den.Spec.of_walk tab mixed Try.func115 (by kernel_rfl) [.call [] [] (.tup [.agg [.bool x1.1, .sl 0 0 x1.2.1.length, .sl 1 0 x1.2.2.1.length, .str x1.2.2.2.1], .c (.bool x1.2.2.2.2)]) [some ⟨true, .strs x1.2.1⟩, some ⟨true, .ints .i64 x1.2.2.1⟩], .br false, .br false, .br false, .br false, .br false, .br false, .br false, .br false, .br false, .br false, .br false, .br false, .br false, .br false, .br true, .br true, .br true, .br false, .br true, .br false, .br true] [] [0, 1, 2] (nd p1 (nd p2 (nd (tn p1 p2) (nd (impl.NodeRead.spec K (a0.getD a3.toNat noVal) _ e1) (nd (nf c1) (nd (nf c1) (nd (nf c1) (nd (nf c1) (nd (nf c1) (nd (nf c1) (nd p1 (nd p3 (nd (nf c1) (nd p4 (nd (nf c1) (nd c2 (nd c2 (nd c2 (nd ff (nd ff (nd ff (nd c3 (nd c3 (nd c3 (nd ff (nd c3 (nd ff (nd (nt c4) trivial)))))))))))))))))))))))))))) (by kernel_rfl)
      · obtain ⟨x2, e2, h⟩ := bind_some h
        rcases x2 with x2 | x2
        · obtain rfl := Option.some.inj h
          exact Den.Spec.of_walk tab mixed Try.func115 (by kernel_rfl) [.call [] [] (.tup [.agg [.bool x1.1, .sl 0 0 x1.2.1.length, .sl 1 0 x1.2.2.1.length, .str x1.2.2.2.1], .c (.bool x1.2.2.2.2)]) [some ⟨true, .strs x1.2.1⟩, some ⟨true, .ints .i64 x1.2.2.1⟩], .br false, .br false, .br false, .br false, .br false, .br false, .br false, .br false, .br false, .br false, .br false, .br false, .br false, .br false, .br false, .br false, .br false, .br false, .br false, .br false, .br false, .loop [] [0, 2, 53, 54, 55] [0, 1, 2, 4] (.ret) (impl.goer.from__4.l0.e0 K a0 a2 x2)] [] [0, 1, 2] (nd p1 (nd p2 (nd (tn p1 p2) (nd (impl.NodeRead.spec K (a0.getD a3.toNat noVal) _ e1) (nd (nf c1) (nd (nf c1) (nd (nf c1) (nd (nf c1) (nd (nf c1) (nd (nf c1) (nd p1 (nd p3 (nd (nf c1) (nd p4 (nd (nf c1) (nd c2 (nd c2 (nd c2 (nd ff (nd ff (nd ff (nd c3 (nd c3 (nd c3 (nd ff (nd c3 (nd ff (nd ff (nd p1 (nd p3 (nd p4 (nd (impl.goer.from__4.l0.spec K a0 a2 K (a1.set a3.toNat true) x1.2.2.1 (x1.2.2.1.length : Int) 0 _ e2) trivial)))))))))))))))))))))))))))))))) (by kernel_rfl)
        · obtain rfl := Option.some.inj h
          exact Den.Spec.of_walk tab mixed Try.func115 (by kernel_rfl) [.call [] [] (.tup [.agg [.bool x1.1, .sl 0 0 x1.2.1.length, .sl 1 0 x1.2.2.1.length, .str x1.2.2.2.1], .c (.bool x1.2.2.2.2)]) [some ⟨true, .strs x1.2.1⟩, some ⟨true, .ints .i64 x1.2.2.1⟩], .br false, .br false, .br false, .br false, .br false, .br false, .br false, .br false, .br false, .br false, .br false, .br false, .br false, .br false, .br false, .br false, .br false, .br false, .br false, .br false, .br false, .loop [] [0, 2, 53, 54, 55] [0, 1, 2, 4] (.exit 0) (impl.goer.from__4.l0.e1 K a0 a2 x2)] [] [0, 1, 2] (nd p1 (nd p2 (nd (tn p1 p2) (nd (impl.NodeRead.spec K (a0.getD a3.toNat noVal) _ e1) (nd (nf c1) (nd (nf c1) (nd (nf c1) (nd (nf c1) (nd (nf c1) (nd (nf c1) (nd p1 (nd p3 (nd (nf c1) (nd p4 (nd (nf c1) (nd c2 (nd c2 (nd c2 (nd ff (nd ff (nd ff (nd c3 (nd c3 (nd c3 (nd ff (nd c3 (nd ff (nd ff (nd p1 (nd p3 (nd p4 (nd (impl.goer.from__4.l0.spec K a0 a2 K (a1.set a3.toNat true) x1.2.2.1 (x1.2.2.1.length : Int) 0 _ e2) trivial)))))))))))))))))))))))))))))))) (by kernel_rfl)
  · obtain rfl := Option.some.inj h
    exact Den.Spec.of_walk tab mixed Try.func115 (by kernel_rfl) [.call [] [] (.tup [.agg [.bool x1.1, .sl 0 0 x1.2.1.length, .sl 1 0 x1.2.2.1.length, .str x1.2.2.2.1], .c (.bool x1.2.2.2.2)]) [some ⟨true, .strs x1.2.1⟩, some ⟨true, .ints .i64 x1.2.2.1⟩], .br true, .br true, .br true, .br true, .br true, .br true, .br true, .br true, .br true, .br true, .br true, .br true, .br true, .br true, .br true, .br true, .br true] [] [0, 1, 2] (nd p1 (nd p2 (nd (tn p1 p2) (nd (impl.NodeRead.spec K (a0.getD a3.toNat noVal) _ e1) (nd (nt c1) (nd (nt c1) (nd (nt c1) (nd (nt c1) (nd (nt c1) (nd (nt c1) (nd (nt c1) (nd (nt c1) (nd tt (nd tt (nd tt (nd tt (nd tt (nd tt (nd tt (nd tt (nd tt trivial))))))))))))))))))))) (by kernel_rfl)
def impl.goer.from__5.l0.f (K : Nat) (a0 : List ByteArray) : Nat → (List Bool) → Nat → (List Int) → Int → Int → Option (((List Bool) × Nat) ⊕ ((List Bool) × Nat))
  | 0, _, _, _, _, _ => none
  | k + 1, v92_0, v92_1, v92_2, v92_3, v92_4 =>
    cond (decide (v92_4 < v92_3)) (ck (0 ≤ v92_4) (ck (v92_4 < (v92_2.length : Int)) (Option.bind (impl.goer.from__4.f K a0 v92_0 v92_1 (v92_2.getD v92_4.toNat 0)) fun x1 => cond (x1.1) (impl.goer.from__5.l0.f K a0 k x1.2 v92_1 v92_2 v92_3 (w64 (v92_4 + 1))) (some (.inl (x1.2, v92_1)))))) (some (.inr ((v92_0, v92_1))))
def impl.goer.from__5.l0.s (K : Nat) (a0 : List ByteArray) (v92_0 : List Bool) (v92_1 : Nat) (v92_2 : List Int) (v92_3 : Int) (v92_4 : Int) : St := mkSt 66 [(0, one (.ptr 0 0 0)), (2, one (.int .i64 0)), (53, one (.sl 3 0 v92_2.length)), (54, one (.int .i64 v92_3)), (55, one (.int .i64 v92_4))] [some ⟨false, .cells [.sl 1 0 a0.length, .sl 2 0 v92_1]⟩, some ⟨false, .strs a0⟩, some ⟨true, .bools v92_0⟩, some ⟨true, .ints .i64 v92_2⟩]
def impl.goer.from__5.l0.e0 (K : Nat) (a0 : List ByteArray) (o : (List Bool) × Nat) : St := mkSt 66 [(6, one (.bool false))] [some ⟨false, .cells [.sl 1 0 a0.length, .sl 2 0 o.2]⟩, some ⟨false, .strs a0⟩, some ⟨true, .bools o.1⟩]
def impl.goer.from__5.l0.e1 (K : Nat) (a0 : List ByteArray) (o : (List Bool) × Nat) : St := mkSt 66 [] [some ⟨false, .cells [.sl 1 0 a0.length, .sl 2 0 o.2]⟩, some ⟨false, .strs a0⟩, some ⟨true, .bools o.1⟩]
def impl.goer.from__5.l0.x (K : Nat) (a0 : List ByteArray) : (((List Bool) × Nat) ⊕ ((List Bool) × Nat)) → AExit × St := Sum.elim (fun o => (.ret, impl.goer.from__5.l0.e0 K a0 o)) (fun o => (.exit 0, impl.goer.from__5.l0.e1 K a0 o))
theorem impl.goer.from__5.l0.spec (K : Nat) (a0 : List ByteArray) : ∀ (k : Nat) (v92_0 : List Bool) (v92_1 : Nat) (v92_2 : List Int) (v92_3 : Int) (v92_4 : Int) (o : ((List Bool) × Nat) ⊕ ((List Bool) × Nat)), impl.goer.from__5.l0.f K a0 k v92_0 v92_1 v92_2 v92_3 v92_4 = some o → LoopSpec Try.prog 3 (loopN Try.f115 0) (impl.goer.from__5.l0.s K a0 v92_0 v92_1 v92_2 v92_3 v92_4) (impl.goer.from__5.l0.x K a0 o).1 (impl.goer.from__5.l0.x K a0 o).2
  | 0, _, _, _, _, _, _, h => by cases h
  | k + 1, v92_0, v92_1, v92_2, v92_3, v92_4, o, h => by
    unfold impl.goer.from__5.l0.f at h
    rcases br_cases h with ⟨c1, h⟩ | ⟨c1, h⟩
    · obtain ⟨p1, h⟩ := ck_some h
      obtain ⟨p2, h⟩ := ck_some h
      obtain ⟨x1, e1, h⟩ := bind_some h
      rcases br_cases h with ⟨c2, h⟩ | ⟨c2, h⟩
      · exact .of_step tab mixed [.br true, .call [(0, false), (1, false), (2, true)] [] (one (.bool x1.1)) [some ⟨false, .cells [.sl 1 0 a0.length, .sl 2 0 v92_1]⟩, some ⟨false, .strs a0⟩, some ⟨true, .bools x1.2⟩], .br false] [] [0, 2, 53, 54, 55] [0, 1, 2, 3] (s1 := impl.goer.from__5.l0.s K a0 x1.2 v92_1 v92_2 v92_3 (w64 (v92_4 + 1))) (nd c1 (nd p1 (nd p2 (nd (tn p1 p2) (nd (impl.goer.from__4.spec K a0 v92_0 v92_1 (v92_2.getD v92_4.toNat 0) _ e1) (nd (nf c2) trivial)))))) (by kernel_rfl) (impl.goer.from__5.l0.spec K a0 k x1.2 v92_1 v92_2 v92_3 (w64 (v92_4 + 1)) _ h)
      · obtain rfl := Option.some.inj h
        exact .of_done tab mixed [.br true, .call [(0, false), (1, false), (2, true)] [] (one (.bool x1.1)) [some ⟨false, .cells [.sl 1 0 a0.length, .sl 2 0 v92_1]⟩, some ⟨false, .strs a0⟩, some ⟨true, .bools x1.2⟩], .br true] [] [6] [0, 1, 2] rfl (nd c1 (nd p1 (nd p2 (nd (tn p1 p2) (nd (impl.goer.from__4.spec K a0 v92_0 v92_1 (v92_2.getD v92_4.toNat 0) _ e1) (nd (nt c2) trivial)))))) (by kernel_rfl)
    · obtain rfl := Option.some.inj h
      exact .of_done tab mixed [.br false] [] [] [0, 1, 2] rfl (nd c1 trivial) (by kernel_rfl)
def impl.goer.from__5.f (K : Nat) (a0 : List ByteArray) : Option (Bool × (List Bool) × Nat) :=
  ck (0 < (a0.length : Int)) (ck (0 < a0.length) (Option.bind (impl.NodeRead.f K (a0.getD 0 noVal)) fun x1 => cond (x1.2.2.2.2) (ck (0 < ((List.replicate 12 false).length : Int)) (ck (0 < (List.replicate 12 false).length) (cond ((List.replicate 12 false).getD 0 false) (some (false, List.replicate 12 false, (List.replicate 12 false).length)) (cond (x1.1) (Option.bind (impl.goer.from__5.l0.f K a0 K ((List.replicate 12 false).set 0 true) (((List.replicate 12 false).set 0 true).length) x1.2.2.1 (x1.2.2.1.length : Int) 0) fun x2 => (Sum.elim (fun x2 => some (false, x2.1, x2.2)) (fun x2 => some (true, x2.1, x2.2))) x2) (some (false, List.replicate 12 false, (List.replicate 12 false).length)))))) (some (false, List.replicate 12 false, (List.replicate 12 false).length))))
theorem impl.goer.from__5.spec (K : Nat) (a0 : List ByteArray) (o : Bool × (List Bool) × Nat) (h : impl.goer.from__5.f K a0 = some o) : Den.Spec Try.prog 115 [one (.ptr 0 0 0), one (.int .i64 0), one (.int .i64 0)] [some ⟨false, .cells [.sl 1 0 a0.length, .sl 2 0 ((List.replicate 12 false).length)]⟩, some ⟨false, .strs a0⟩, some ⟨true, .bools (List.replicate 12 false)⟩] (one (.bool o.1)) [some ⟨false, .cells [.sl 1 0 a0.length, .sl 2 0 o.2.2]⟩, some ⟨false, .strs a0⟩, some ⟨true, .bools o.2.1⟩] := by
  unfold impl.goer.from__5.f at h
  obtain ⟨p1, h⟩ := ck_some h
  obtain ⟨p2, h⟩ := ck_some h
  obtain ⟨x1, e1, h⟩ := bind_some h
  rcases br_cases h with ⟨c1, h⟩ | ⟨c1, h⟩
  · obtain ⟨p3, h⟩ := ck_some h
    obtain ⟨p4, h⟩ := ck_some h
    rcases br_cases h with ⟨c2, h⟩ | ⟨c2, h⟩
    · obtain rfl := Option.some.inj h
      exact Den.Spec.of_walk tab mixed Try.func115 (by kernel_rfl) [.call [] [] (.tup [.agg [.bool x1.1, .sl 0 0 x1.2.1.length, .sl 1 0 x1.2.2.1.length, .str x1.2.2.2.1], .c (.bool x1.2.2.2.2)]) [some ⟨true, .strs x1.2.1⟩, some ⟨true, .ints .i64 x1.2.2.1⟩], .br false, .br false, .br false, .br false, .br false, .br false, .br false, .br false, .br true, .br true, .br true, .br true, .br true, .br true, .br true, .br true, .br true] [] [0, 1, 2] (nd (Int.le_refl 0) (nd p1 (nd p2 (nd (impl.NodeRead.spec K (a0.getD 0 noVal) _ e1) (nd (nf c1) (nd (nf c1) (nd (nf c1) (nd (nf c1) (nd (nf c1) (nd (nf c1) (nd (Int.le_refl 0) (nd p3 (nd (nf c1) (nd p4 (nd (nf c1) (nd c2 (nd c2 (nd c2 (nd tt (nd tt (nd tt (nd tt (nd tt (nd tt trivial)))))))))))))))))))))))) (by kernel_rfl)
    · rcases br_cases h with ⟨c3, h⟩ | ⟨c3, h⟩
      · obtain ⟨x2, e2, h⟩ := bind_some h
        rcases x2 with x2 | x2
        · obtain rfl := Option.some.inj h
          exact Den.Spec.of_walk tab mixed Try.func115 (by kernel_rfl) [.call [] [] (.tup [.agg [.bool x1.1, .sl 0 0 x1.2.1.length, .sl 1 0 x1.2.2.1.length, .str x1.2.2.2.1], .c (.bool x1.2.2.2.2)]) [some ⟨true, .strs x1.2.1⟩, some ⟨true, .ints .i64 x1.2.2.1⟩], .br false, .br false, .br false, .br false, .br false, .br false, .br false, .br false, .br false, .br false, .br false, .br false, .br false, .br false, .br true, .br true, .br true, .br false, .br true, .br false, .br false, .loop [] [0, 2, 53, 54, 55] [0, 1, 2, 4] (.ret) (impl.goer.from__5.l0.e0 K a0 x2)] [] [0, 1, 2] (nd (Int.le_refl 0) (nd p1 (nd p2 (nd (impl.NodeRead.spec K (a0.getD 0 noVal) _ e1) (nd (nf c1) (nd (nf c1) (nd (nf c1) (nd (nf c1) (nd (nf c1) (nd (nf c1) (nd (Int.le_refl 0) (nd p3 (nd (nf c1) (nd p4 (nd (nf c1) (nd c2 (nd c2 (nd c2 (nd ff (nd ff (nd ff (nd tt (nd tt (nd tt (nd ff (nd tt (nd ff (nd (nf c3) (nd (Int.le_refl 0) (nd p3 (nd p4 (nd (LoopSpec.eqs (impl.goer.from__5.l0.spec K a0 K ((List.replicate 12 false).set 0 true) (((List.replicate 12 false).set 0 true).length) x1.2.2.1 (x1.2.2.1.length : Int) 0 _ e2) (by simp only [impl.goer.from__5.l0.s, List.length_set, overL_length] : impl.goer.from__5.l0.s K a0 ((List.replicate 12 false).set 0 true) (((List.replicate 12 false).set 0 true).length) x1.2.2.1 (x1.2.2.1.length : Int) 0 = mkSt 66 [(0, one (.ptr 0 0 0)), (2, one (.int .i64 0)), (53, one (.sl 3 0 x1.2.2.1.length)), (54, one (.int .i64 (x1.2.2.1.length : Int))), (55, one (.int .i64 0))] [some ⟨false, .cells [.sl 1 0 a0.length, .sl 2 0 ((List.replicate 12 false).length)]⟩, some ⟨false, .strs a0⟩, some ⟨true, .bools ((List.replicate 12 false).set 0 true)⟩, some ⟨true, .ints .i64 x1.2.2.1⟩])) trivial)))))))))))))))))))))))))))))))) (by kernel_rfl)
        · obtain rfl := Option.some.inj h
          exact Den.Spec.of_walk tab mixed Try.func115 (by kernel_rfl) [.call [] [] (.tup [.agg [.bool x1.1, .sl 0 0 x1.2.1.length, .sl 1 0 x1.2.2.1.length, .str x1.2.2.2.1], .c (.bool x1.2.2.2.2)]) [some ⟨true, .strs x1.2.1⟩, some ⟨true, .ints .i64 x1.2.2.1⟩], .br false, .br false, .br false, .br false, .br false, .br false, .br false, .br false, .br false, .br false, .br false, .br false, .br false, .br false, .br true, .br true, .br true, .br false, .br true, .br false, .br false, .loop [] [0, 2, 53, 54, 55] [0, 1, 2, 4] (.exit 0) (impl.goer.from__5.l0.e1 K a0 x2)] [] [0, 1, 2] (nd (Int.le_refl 0) (nd p1 (nd p2 (nd (impl.NodeRead.spec K (a0.getD 0 noVal) _ e1) (nd (nf c1) (nd (nf c1) (nd (nf c1) (nd (nf c1) (nd (nf c1) (nd (nf c1) (nd (Int.le_refl 0) (nd p3 (nd (nf c1) (nd p4 (nd (nf c1) (nd c2 (nd c2 (nd c2 (nd ff (nd ff (nd ff (nd tt (nd tt (nd tt (nd ff (nd tt (nd ff (nd (nf c3) (nd (Int.le_refl 0) (nd p3 (nd p4 (nd (LoopSpec.eqs (impl.goer.from__5.l0.spec K a0 K ((List.replicate 12 false).set 0 true) (((List.replicate 12 false).set 0 true).length) x1.2.2.1 (x1.2.2.1.length : Int) 0 _ e2) (by simp only [impl.goer.from__5.l0.s, List.length_set, overL_length] : impl.goer.from__5.l0.s K a0 ((List.replicate 12 false).set 0 true) (((List.replicate 12 false).set 0 true).length) x1.2.2.1 (x1.2.2.1.length : Int) 0 = mkSt 66 [(0, one (.ptr 0 0 0)), (2, one (.int .i64 0)), (53, one (.sl 3 0 x1.2.2.1.length)), (54, one (.int .i64 (x1.2.2.1.length : Int))), (55, one (.int .i64 0))] [some ⟨false, .cells [.sl 1 0 a0.length, .sl 2 0 ((List.replicate 12 false).length)]⟩, some ⟨false, .strs a0⟩, some ⟨true, .bools ((List.replicate 12 false).set 0 true)⟩, some ⟨true, .ints .i64 x1.2.2.1⟩])) trivial)))))))))))))))))))))))))))))))) (by kernel_rfl)
      · obtain rfl := Option.some.inj h
        exact Den.Spec.of_walk tab mixed Try.func115 (by kernel_rfl) [.call [] [] (.tup [.agg [.bool x1.1, .sl 0 0 x1.2.1.length, .sl 1 0 x1.2.2.1.length, .str x1.2.2.2.1], .c (.bool x1.2.2.2.2)]) [some ⟨true, .strs x1.2.1⟩, some ⟨true, .ints .i64 x1.2.2.1⟩], .br false, .br false, .br false, .br false, .br false, .br false, .br false, .br false, .br false, .br false, .br false, .br false, .br false, .br false, .br true, .br true, .br true, .br false, .br true, .br false, .br true] [] [0, 1, 2] (nd (Int.le_refl 0) (nd p1 (nd p2 (nd (impl.NodeRead.spec K (a0.getD 0 noVal) _ e1) (nd (nf c1) (nd (nf c1) (nd (nf c1) (nd (nf c1) (nd (nf c1) (nd (nf c1) (nd (Int.le_refl 0) (nd p3 (nd (nf c1) (nd p4 (nd (nf c1) (nd c2 (nd c2 (nd c2 (nd ff (nd ff (nd ff (nd tt (nd tt (nd tt (nd ff (nd tt (nd ff (nd (nt c3) trivial)))))))))))))))))))))))))))) (by kernel_rfl)
  · obtain rfl := Option.some.inj h
    exact Den.Spec.of_walk tab mixed Try.func115 (by kernel_rfl) [.call [] [] (.tup [.agg [.bool x1.1, .sl 0 0 x1.2.1.length, .sl 1 0 x1.2.2.1.length, .str x1.2.2.2.1], .c (.bool x1.2.2.2.2)]) [some ⟨true, .strs x1.2.1⟩, some ⟨true, .ints .i64 x1.2.2.1⟩], .br true, .br true, .br true, .br true, .br true, .br true, .br true, .br true, .br true, .br true, .br true, .br true, .br true, .br true, .br true, .br true, .br true] [] [0, 1, 2] (nd (Int.le_refl 0) (nd p1 (nd p2 (nd (impl.NodeRead.spec K (a0.getD 0 noVal) _ e1) (nd (nt c1) (nd (nt c1) (nd (nt c1) (nd (nt c1) (nd (nt c1) (nd (nt c1) (nd (nt c1) (nd (nt c1) (nd tt (nd tt (nd tt (nd tt (nd tt (nd tt (nd tt (nd tt (nd tt trivial))))))))))))))))))))) (by kernel_rfl)
def impl.VolumeOk.l0.f (a0 : List ByteArray) : Nat → (List Bool) → Int → Option (Unit ⊕ Unit)
  | 0, _, _ => none
  | k + 1, v95_0, v95_1 =>
    cond (decide (v95_1 < (a0.length : Int))) (ck (0 ≤ v95_1) (cond (strEq (a0.getD v95_1.toNat noVal) noVal) (impl.VolumeOk.l0.f a0 k v95_0 (w64 (v95_1 + 1))) (ck (v95_1 < ((List.replicate 12 false).length : Int)) (ck (v95_1.toNat < v95_0.length) (cond (v95_0.getD v95_1.toNat false) (impl.VolumeOk.l0.f a0 k v95_0 (w64 (v95_1 + 1))) (some (.inl ()))))))) (some (.inr (())))
def impl.VolumeOk.l0.s (a0 : List ByteArray) (v95_0 : List Bool) (v95_1 : Int) : St := mkSt 36 [(3, one (.ptr 1 0 0)), (16, one (.sl 0 0 a0.length)), (17, one (.int .i64 (a0.length : Int))), (18, one (.int .i64 v95_1))] [some ⟨false, .strs a0⟩, some ⟨true, .cells [.sl 0 0 a0.length, .sl 2 0 ((List.replicate 12 false).length)]⟩, some ⟨true, .bools v95_0⟩]
def impl.VolumeOk.l0.e0 (a0 : List ByteArray) (o : Unit) : St := mkSt 36 [(2, one (.bool false))] [some ⟨false, .strs a0⟩]
def impl.VolumeOk.l0.e1 (a0 : List ByteArray) (o : Unit) : St := mkSt 36 [] [some ⟨false, .strs a0⟩]
def impl.VolumeOk.l0.x (a0 : List ByteArray) : (Unit ⊕ Unit) → AExit × St := Sum.elim (fun o => (.ret, impl.VolumeOk.l0.e0 a0 o)) (fun o => (.exit 0, impl.VolumeOk.l0.e1 a0 o))
theorem impl.VolumeOk.l0.spec (a0 : List ByteArray) : ∀ (k : Nat) (v95_0 : List Bool) (v95_1 : Int) (o : Unit ⊕ Unit), impl.VolumeOk.l0.f a0 k v95_0 v95_1 = some o → LoopSpec Try.prog 1 (loopN Try.f75 0) (impl.VolumeOk.l0.s a0 v95_0 v95_1) (impl.VolumeOk.l0.x a0 o).1 (impl.VolumeOk.l0.x a0 o).2
  | 0, _, _, _, h => by cases h
  | k + 1, v95_0, v95_1, o, h => by
    unfold impl.VolumeOk.l0.f at h
    rcases br_cases h with ⟨c1, h⟩ | ⟨c1, h⟩
    · obtain ⟨p1, h⟩ := ck_some h
      rcases br_cases h with ⟨c2, h⟩ | ⟨c2, h⟩
      · exact .of_step tab mixed [.br true, .br false, .br false, .br false, .br false, .br false, .br false, .br false, .br false, .br false, .br false] [] [3, 16, 17, 18] [0, 1, 2] (s1 := impl.VolumeOk.l0.s a0 v95_0 (w64 (v95_1 + 1))) (nd c1 (nd p1 (nd (of_decide_eq_true c1) (nd (tn p1 (of_decide_eq_true c1)) (nd (nf c2) (nd (nf c2) (nd (nf c2) (nd (nf c2) (nd (nf c2) (nd (nf c2) (nd (nf c2) (nd (nf c2) (nd (nf c2) (nd ff trivial)))))))))))))) (by kernel_rfl) (impl.VolumeOk.l0.spec a0 k v95_0 (w64 (v95_1 + 1)) _ h)
      · obtain ⟨p2, h⟩ := ck_some h
        obtain ⟨p3, h⟩ := ck_some h
        rcases br_cases h with ⟨c3, h⟩ | ⟨c3, h⟩
        · exact .of_step tab mixed [.br true, .br true, .br true, .br true, .br true, .br true, .br true, .br true, .br true, .br true, .br false] [] [3, 16, 17, 18] [0, 1, 2] (s1 := impl.VolumeOk.l0.s a0 v95_0 (w64 (v95_1 + 1))) (nd c1 (nd p1 (nd (of_decide_eq_true c1) (nd (tn p1 (of_decide_eq_true c1)) (nd (nt c2) (nd (nt c2) (nd (nt c2) (nd (nt c2) (nd (nt c2) (nd (nt c2) (nd p1 (nd p2 (nd (nt c2) (nd p3 (nd (nt c2) (nd (nt c2) (nd (nf c3) trivial))))))))))))))))) (by kernel_rfl) (impl.VolumeOk.l0.spec a0 k v95_0 (w64 (v95_1 + 1)) _ h)
        · obtain rfl := Option.some.inj h
          exact .of_done tab mixed [.br true, .br true, .br true, .br true, .br true, .br true, .br true, .br true, .br true, .br true, .br true] [] [2] [0] rfl (nd c1 (nd p1 (nd (of_decide_eq_true c1) (nd (tn p1 (of_decide_eq_true c1)) (nd (nt c2) (nd (nt c2) (nd (nt c2) (nd (nt c2) (nd (nt c2) (nd (nt c2) (nd p1 (nd p2 (nd (nt c2) (nd p3 (nd (nt c2) (nd (nt c2) (nd (nt c3) trivial))))))))))))))))) (by kernel_rfl)
    · obtain rfl := Option.some.inj h
      exact .of_done tab mixed [.br false] [] [] [0] rfl (nd c1 trivial) (by kernel_rfl)
def impl.VolumeOk.f (K : Nat) (a0 : List ByteArray) : Option (Bool) :=
  cond ((a0.length : Int) != 12) (some false) (ck ((12 * (1 : Int)) ≤ 70368744177664) (Option.bind (impl.goer.from__5.f K a0) fun x1 => cond (x1.1) (Option.bind (impl.VolumeOk.l0.f a0 K x1.2.1 0) fun x2 => (Sum.elim (fun x2 => some false) (fun x2 => some true)) x2) (some false)))
theorem impl.VolumeOk.spec (K : Nat) (a0 : List ByteArray) (o : Bool) (h : impl.VolumeOk.f K a0 = some o) : Den.Spec Try.prog 75 [one (.sl 0 0 a0.length)] [some ⟨false, .strs a0⟩] (one (.bool o)) [some ⟨false, .strs a0⟩] := by
  unfold impl.VolumeOk.f at h
  rcases br_cases h with ⟨c1, h⟩ | ⟨c1, h⟩
  · obtain rfl := Option.some.inj h
    exact Den.Spec.of_walk tab mixed Try.func75 (by kernel_rfl) [.br true] [] [0] (nd c1 trivial) (by kernel_rfl)
  · obtain ⟨p1, h⟩ := ck_some h
    obtain ⟨x1, e1, h⟩ := bind_some h
    rcases br_cases h with ⟨c2, h⟩ | ⟨c2, h⟩
    · obtain ⟨x2, e2, h⟩ := bind_some h
      rcases x2 with x2 | x2
      · obtain rfl := Option.some.inj h
        exact Den.Spec.of_walk tab mixed Try.func75 (by kernel_rfl) [.br false, .call [(2, false), (0, false), (1, true)] [] (one (.bool x1.1)) [some ⟨false, .cells [.sl 1 0 a0.length, .sl 2 0 x1.2.2]⟩, some ⟨false, .strs a0⟩, some ⟨true, .bools x1.2.1⟩], .br false, .loop [] [3, 16, 17, 18] [0, 2, 1] (.ret) (impl.VolumeOk.l0.e0 a0 x2)] [] [0] (nd c1 (nd (by decide : (0 : Int) ≤ 12) (nd (rfl : (12 : Int) = (12 : Int)) (nd p1 (nd (impl.goer.from__5.spec K a0 _ e1) (nd (nf c2) (nd (impl.VolumeOk.l0.spec a0 K x1.2.1 0 _ e2) trivial))))))) (by kernel_rfl)
      · obtain rfl := Option.some.inj h
        exact Den.Spec.of_walk tab mixed Try.func75 (by kernel_rfl) [.br false, .call [(2, false), (0, false), (1, true)] [] (one (.bool x1.1)) [some ⟨false, .cells [.sl 1 0 a0.length, .sl 2 0 x1.2.2]⟩, some ⟨false, .strs a0⟩, some ⟨true, .bools x1.2.1⟩], .br false, .loop [] [3, 16, 17, 18] [0, 2, 1] (.exit 0) (impl.VolumeOk.l0.e1 a0 x2)] [] [0] (nd c1 (nd (by decide : (0 : Int) ≤ 12) (nd (rfl : (12 : Int) = (12 : Int)) (nd p1 (nd (impl.goer.from__5.spec K a0 _ e1) (nd (nf c2) (nd (impl.VolumeOk.l0.spec a0 K x1.2.1 0 _ e2) trivial))))))) (by kernel_rfl)
    · obtain rfl := Option.some.inj h
      exact Den.Spec.of_walk tab mixed Try.func75 (by kernel_rfl) [.br false, .call [(2, false), (0, false), (1, true)] [] (one (.bool x1.1)) [some ⟨false, .cells [.sl 1 0 a0.length, .sl 2 0 x1.2.2]⟩, some ⟨false, .strs a0⟩, some ⟨true, .bools x1.2.1⟩], .br true] [] [0] (nd c1 (nd (by decide : (0 : Int) ≤ 12) (nd (rfl : (12 : Int) = (12 : Int)) (nd p1 (nd (impl.goer.from__5.spec K a0 _ e1) (nd (nt c2) trivial)))))) (by kernel_rfl)
def laws.eqStringS.l0.f (a0 : List ByteArray) (a1 : List ByteArray) : Nat → Int → Option (Unit ⊕ Unit)
  | 0, _ => none
  | k + 1, v98_0 =>
    cond (decide (v98_0 < (a0.length : Int))) (ck (0 ≤ v98_0) (ck (v98_0 < (a1.length : Int)) (cond (strEq (a0.getD v98_0.toNat noVal) (a1.getD v98_0.toNat noVal)) (laws.eqStringS.l0.f a0 a1 k (w64 (v98_0 + 1))) (some (.inl ()))))) (some (.inr (())))
def laws.eqStringS.l0.s (a0 : List ByteArray) (a1 : List ByteArray) (v98_0 : Int) : St := mkSt 26 [(0, one (.sl 0 0 a0.length)), (1, one (.sl 1 0 a1.length)), (5, one (.int .i64 v98_0))] [some ⟨false, .strs a0⟩, some ⟨false, .strs a1⟩]
def laws.eqStringS.l0.e0 (a0 : List ByteArray) (a1 : List ByteArray) (o : Unit) : St := mkSt 26 [(4, one (.bool false))] [some ⟨false, .strs a0⟩, some ⟨false, .strs a1⟩]
def laws.eqStringS.l0.e1 (a0 : List ByteArray) (a1 : List ByteArray) (o : Unit) : St := mkSt 26 [] [some ⟨false, .strs a0⟩, some ⟨false, .strs a1⟩]
def laws.eqStringS.l0.x (a0 : List ByteArray) (a1 : List ByteArray) : (Unit ⊕ Unit) → AExit × St := Sum.elim (fun o => (.ret, laws.eqStringS.l0.e0 a0 a1 o)) (fun o => (.exit 0, laws.eqStringS.l0.e1 a0 a1 o))
theorem laws.eqStringS.l0.spec (a0 : List ByteArray) (a1 : List ByteArray) : ∀ (k : Nat) (v98_0 : Int) (o : Unit ⊕ Unit), laws.eqStringS.l0.f a0 a1 k v98_0 = some o → LoopSpec Try.prog 2 (loopN Try.f64 0) (laws.eqStringS.l0.s a0 a1 v98_0) (laws.eqStringS.l0.x a0 a1 o).1 (laws.eqStringS.l0.x a0 a1 o).2
  | 0, _, _, h => by cases h
  | k + 1, v98_0, o, h => by
    unfold laws.eqStringS.l0.f at h
    rcases br_cases h with ⟨c1, h⟩ | ⟨c1, h⟩
    · obtain ⟨p1, h⟩ := ck_some h
      obtain ⟨p2, h⟩ := ck_some h
      rcases br_cases h with ⟨c2, h⟩ | ⟨c2, h⟩
      · exact .of_step tab mixed [.br true, .br false] [] [0, 1, 5] [0, 1] (s1 := laws.eqStringS.l0.s a0 a1 (w64 (v98_0 + 1))) (nd c1 (nd p1 (nd (of_decide_eq_true c1) (nd (tn p1 (of_decide_eq_true c1)) (nd p1 (nd p2 (nd (tn p1 p2) (nd (nf c2) trivial)))))))) (by kernel_rfl) (laws.eqStringS.l0.spec a0 a1 k (w64 (v98_0 + 1)) _ h)
      · obtain rfl := Option.some.inj h
        exact .of_done tab mixed [.br true, .br true] [] [4] [0, 1] rfl (nd c1 (nd p1 (nd (of_decide_eq_true c1) (nd (tn p1 (of_decide_eq_true c1)) (nd p1 (nd p2 (nd (tn p1 p2) (nd (nt c2) trivial)))))))) (by kernel_rfl)
    · obtain rfl := Option.some.inj h
      exact .of_done tab mixed [.br false] [] [] [0, 1] rfl (nd c1 trivial) (by kernel_rfl)
def laws.eqStringS.f (K : Nat) (a0 : List ByteArray) (a1 : List ByteArray) : Option (Bool) :=
  cond ((a0.length : Int) != (a1.length : Int)) (some false) (Option.bind (laws.eqStringS.l0.f a0 a1 K 0) fun x1 => (Sum.elim (fun x1 => some false) (fun x1 => some true)) x1)
theorem laws.eqStringS.spec (K : Nat) (a0 : List ByteArray) (a1 : List ByteArray) (o : Bool) (h : laws.eqStringS.f K a0 a1 = some o) : Den.Spec Try.prog 64 [one (.sl 0 0 a0.length), one (.sl 1 0 a1.length)] [some ⟨false, .strs a0⟩, some ⟨false, .strs a1⟩] (one (.bool o)) [some ⟨false, .strs a0⟩, some ⟨false, .strs a1⟩] := by
  unfold laws.eqStringS.f at h
  rcases br_cases h with ⟨c1, h⟩ | ⟨c1, h⟩
  · obtain rfl := Option.some.inj h
    exact Den.Spec.of_walk tab mixed Try.func64 (by kernel_rfl) [.br true] [] [0, 1] (nd c1 trivial) (by kernel_rfl)
  · obtain ⟨x1, e1, h⟩ := bind_some h
    rcases x1 with x1 | x1
    · obtain rfl := Option.some.inj h
      exact Den.Spec.of_walk tab mixed Try.func64 (by kernel_rfl) [.br false, .loop [] [0, 1, 5] [0, 1] (.ret) (laws.eqStringS.l0.e0 a0 a1 x1)] [] [0, 1] (nd c1 (nd (laws.eqStringS.l0.spec a0 a1 K 0 _ e1) trivial)) (by kernel_rfl)
    · obtain rfl := Option.some.inj h
      exact Den.Spec.of_walk tab mixed Try.func64 (by kernel_rfl) [.br false, .loop [] [0, 1, 5] [0, 1] (.exit 0) (laws.eqStringS.l0.e1 a0 a1 x1)] [] [0, 1] (nd c1 (nd (laws.eqStringS.l0.spec a0 a1 K 0 _ e1) trivial)) (by kernel_rfl)
def laws.FnExactVolumeOk.f (K : Nat) (a0 : List ByteArray) : Option (Bool) :=
  Option.bind (laws.szStringS.f K a0 1048576) fun x1 => cond (decide (x1 < 0)) (some true) (Option.bind (laws.toStringS.f K a0) fun x2 => Option.bind (spec.VolumeOk.f K x2) fun x3 => Option.bind (laws.toStringS.f K a0) fun x4 => Option.bind (impl.VolumeOk.f K x4) fun x5 => cond (x5 == x3) (Option.bind (laws.toStringS.f K a0) fun x6 => Option.bind (laws.eqStringS.f K x4 x6) fun x7 => cond (x7) (some true) (some false)) (some false))
theorem laws.FnExactVolumeOk.spec (K : Nat) (a0 : List ByteArray) (o : Bool) (h : laws.FnExactVolumeOk.f K a0 = some o) : Den.Spec Try.prog 12 [one (.sl 0 0 a0.length)] [some ⟨false, .strs a0⟩] (one (.bool o)) [some ⟨false, .strs a0⟩] := by
  unfold laws.FnExactVolumeOk.f at h
  obtain ⟨x1, e1, h⟩ := bind_some h
  rcases br_cases h with ⟨c1, h⟩ | ⟨c1, h⟩
  · obtain rfl := Option.some.inj h
    exact Den.Spec.of_walk tab mixed Try.func12 (by kernel_rfl) [.call [] [(0, true)] (one (.int .i64 x1)) [some ⟨false, .strs a0⟩], .br true] [] [0] (nd (laws.szStringS.spec K a0 1048576 _ e1) (nd (rfl : (0 : Nat) = 0) (nd (rfl : a0.length = a0.length) (nd c1 trivial)))) (by kernel_rfl)
  · obtain ⟨x2, e2, h⟩ := bind_some h
    obtain ⟨x3, e3, h⟩ := bind_some h
    obtain ⟨x4, e4, h⟩ := bind_some h
    obtain ⟨x5, e5, h⟩ := bind_some h
    rcases br_cases h with ⟨c2, h⟩ | ⟨c2, h⟩
    · obtain ⟨x6, e6, h⟩ := bind_some h
      obtain ⟨x7, e7, h⟩ := bind_some h
      rcases br_cases h with ⟨c3, h⟩ | ⟨c3, h⟩
      · obtain rfl := Option.some.inj h
        exact Den.Spec.of_walk tab mixed Try.func12 (by kernel_rfl) [.call [] [(0, true)] (one (.int .i64 x1)) [some ⟨false, .strs a0⟩], .br false, .call [] [(0, true)] (one (.sl 1 0 x2.length)) [some ⟨false, .strs a0⟩, some ⟨true, .strs x2⟩], .call [] [(0, true)] (one (.bool x3)) [some ⟨false, .strs x2⟩], .call [] [(0, true)] (one (.sl 1 0 x4.length)) [some ⟨false, .strs a0⟩, some ⟨true, .strs x4⟩], .call [] [(0, true)] (one (.bool x5)) [some ⟨false, .strs x4⟩], .br false, .call [] [(0, true)] (one (.sl 1 0 x6.length)) [some ⟨false, .strs a0⟩, some ⟨true, .strs x6⟩], .call [] [(0, true), (1, true)] (one (.bool x7)) [some ⟨false, .strs x4⟩, some ⟨false, .strs x6⟩], .br false] [] [0] (nd (laws.szStringS.spec K a0 1048576 _ e1) (nd (rfl : (0 : Nat) = 0) (nd (rfl : a0.length = a0.length) (nd c1 (nd (laws.toStringS.spec K a0 _ e2) (nd (rfl : (0 : Nat) = 0) (nd (rfl : a0.length = a0.length) (nd (spec.VolumeOk.spec K x2 _ e3) (nd (rfl : (0 : Nat) = 0) (nd (rfl : x2.length = x2.length) (nd (laws.toStringS.spec K a0 _ e4) (nd (rfl : (0 : Nat) = 0) (nd (rfl : a0.length = a0.length) (nd (impl.VolumeOk.spec K x4 _ e5) (nd (rfl : (0 : Nat) = 0) (nd (rfl : x4.length = x4.length) (nd (nf c2) (nd (laws.toStringS.spec K a0 _ e6) (nd (rfl : (0 : Nat) = 0) (nd (rfl : a0.length = a0.length) (nd (laws.eqStringS.spec K x4 x6 _ e7) (nd (rfl : (0 : Nat) = 0) (nd (rfl : x4.length = x4.length) (nd (rfl : (0 : Nat) = 0) (nd (rfl : x6.length = x6.length) (nd (nf c3) trivial)))))))))))))))))))))))))) (by kernel_rfl)
      · obtain rfl := Option.some.inj h
        exact Den.Spec.of_walk tab mixed Try.func12 (by kernel_rfl) [.call [] [(0, true)] (one (.int .i64 x1)) [some ⟨false, .strs a0⟩], .br false, .call [] [(0, true)] (one (.sl 1 0 x2.length)) [some ⟨false, .strs a0⟩, some ⟨true, .strs x2⟩], .call [] [(0, true)] (one (.bool x3)) [some ⟨false, .strs x2⟩], .call [] [(0, true)] (one (.sl 1 0 x4.length)) [some ⟨false, .strs a0⟩, some ⟨true, .strs x4⟩], .call [] [(0, true)] (one (.bool x5)) [some ⟨false, .strs x4⟩], .br false, .call [] [(0, true)] (one (.sl 1 0 x6.length)) [some ⟨false, .strs a0⟩, some ⟨true, .strs x6⟩], .call [] [(0, true), (1, true)] (one (.bool x7)) [some ⟨false, .strs x4⟩, some ⟨false, .strs x6⟩], .br true] [] [0] (nd (laws.szStringS.spec K a0 1048576 _ e1) (nd (rfl : (0 : Nat) = 0) (nd (rfl : a0.length = a0.length) (nd c1 (nd (laws.toStringS.spec K a0 _ e2) (nd (rfl : (0 : Nat) = 0) (nd (rfl : a0.length = a0.length) (nd (spec.VolumeOk.spec K x2 _ e3) (nd (rfl : (0 : Nat) = 0) (nd (rfl : x2.length = x2.length) (nd (laws.toStringS.spec K a0 _ e4) (nd (rfl : (0 : Nat) = 0) (nd (rfl : a0.length = a0.length) (nd (impl.VolumeOk.spec K x4 _ e5) (nd (rfl : (0 : Nat) = 0) (nd (rfl : x4.length = x4.length) (nd (nf c2) (nd (laws.toStringS.spec K a0 _ e6) (nd (rfl : (0 : Nat) = 0) (nd (rfl : a0.length = a0.length) (nd (laws.eqStringS.spec K x4 x6 _ e7) (nd (rfl : (0 : Nat) = 0) (nd (rfl : x4.length = x4.length) (nd (rfl : (0 : Nat) = 0) (nd (rfl : x6.length = x6.length) (nd (nt c3) trivial)))))))))))))))))))))))))) (by kernel_rfl)
    · obtain rfl := Option.some.inj h
      exact Den.Spec.of_walk tab mixed Try.func12 (by kernel_rfl) [.call [] [(0, true)] (one (.int .i64 x1)) [some ⟨false, .strs a0⟩], .br false, .call [] [(0, true)] (one (.sl 1 0 x2.length)) [some ⟨false, .strs a0⟩, some ⟨true, .strs x2⟩], .call [] [(0, true)] (one (.bool x3)) [some ⟨false, .strs x2⟩], .call [] [(0, true)] (one (.sl 1 0 x4.length)) [some ⟨false, .strs a0⟩, some ⟨true, .strs x4⟩], .call [] [(0, true)] (one (.bool x5)) [some ⟨false, .strs x4⟩], .br true] [] [0] (nd (laws.szStringS.spec K a0 1048576 _ e1) (nd (rfl : (0 : Nat) = 0) (nd (rfl : a0.length = a0.length) (nd c1 (nd (laws.toStringS.spec K a0 _ e2) (nd (rfl : (0 : Nat) = 0) (nd (rfl : a0.length = a0.length) (nd (spec.VolumeOk.spec K x2 _ e3) (nd (rfl : (0 : Nat) = 0) (nd (rfl : x2.length = x2.length) (nd (laws.toStringS.spec K a0 _ e4) (nd (rfl : (0 : Nat) = 0) (nd (rfl : a0.length = a0.length) (nd (impl.VolumeOk.spec K x4 _ e5) (nd (rfl : (0 : Nat) = 0) (nd (rfl : x4.length = x4.length) (nd (nt c2) trivial))))))))))))))))) (by kernel_rfl)
end Go.Proofs.Ythneilmhnbboeaa.GFnExactVolumeOk
