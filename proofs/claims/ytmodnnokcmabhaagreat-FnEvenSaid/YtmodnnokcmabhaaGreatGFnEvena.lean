import Derived.Test.YtmodnnokcmabhaaGreatDenZ
import Derived.Test.YtmodnnokcmabhaaGreatProg
namespace Go.Proofs.YtmodnnokcmabhaaGreat.GFnEven
open Go Go.RowKit Go.Proofs Go.Proofs.YtmodnnokcmabhaaGreat.Den
set_option linter.unusedVariables false
set_option linter.unusedSimpArgs false
def tyL : List (Nat × Ty) := [(3, ⟨[], 1, 8, false, [.int .i64 0], .ints .i64, .int .i64, []⟩),
  (4, ⟨[], 1, 1, false, [.bool false], .bools, .bool, []⟩),
  (5, ⟨[], 1, 1, false, [.int .u8 0], .ints .u8, .int .u8, []⟩),
  (9, ⟨[], 1, 16, false, [.str ⟨#[]⟩], .strs, .str, []⟩),
  (22, ⟨[], 1, 24, false, [.nil], .refs, .sl 5, [.ints .u8]⟩),
  (31, ⟨[], 1, 24, false, [.nil], .refs, .sl 9, [.strs]⟩),
  (32, ⟨[], 1, 24, false, [.nil], .refs, .sl 3, [.ints .i64]⟩),
  (34, ⟨[], 2, 48, true, [.nil, .nil], .none, .st [(0, 1), (1, 1)], [.strs, .ints .i64]⟩),
  (36, ⟨[], 4, 80, true, [.nil, .nil, .nil, .int .i64 0], .none, .st [(0, 2), (2, 1), (3, 1)], [.strs, .ints .i64, .ints .i64, .none]⟩),
  (45, ⟨[], 1, 24, false, [.nil], .refs, .sl 99, [.acts]⟩),
  (71, ⟨[], 3, 40, true, [.nil, .int .i64 0, .bool false], .none, .st [(0, 1), (1, 1), (2, 1)], [.ints .u8, .none, .none]⟩),
  (86, ⟨[], 3, 32, true, [.int .i64 0, .int .i64 0, .str ⟨#[]⟩], .acts, .st [(0, 1), (1, 1), (2, 1)], []⟩),
  (93, ⟨[], 6, 112, true, [.nil, .nil, .nil, .int .i64 0, .nil, .bool false], .none, .st [(0, 4), (4, 1), (5, 1)], [.strs, .ints .i64, .ints .i64, .none, .acts, .none]⟩),
  (99, ⟨[], 3, 32, true, [.int .i64 0, .int .i64 0, .str ⟨#[]⟩], .acts, .st [(0, 1), (1, 1), (2, 1)], []⟩),
  (107, ⟨[], 1, 8, false, [.int .u64 0], .ints .u64, .int .u64, []⟩),
  (108, ⟨[], 1, 24, false, [.nil], .none, .sl 22, []⟩),
  (147, ⟨[], 1, 4, false, [.int .u32 0], .ints .u32, .int .u32, []⟩),
  (150, ⟨[], 1, 8, false, [.int .u64 0], .ints .u64, .int .u64, []⟩),
  (161, ⟨[], 1, 8, false, [.int .i64 0], .ints .i64, .int .i64, []⟩)]
def tb : TypeId → Option Ty := tbOf tyL
theorem tab : TabOk Tryz.prog tb := TabOk.of ⟨.of (by kernel_rfl) rfl rfl (by kernel_rfl) (by show _ = _; kernel_rfl) trivial,
  .of (by kernel_rfl) rfl rfl (by kernel_rfl) (by show _ = _; kernel_rfl) trivial,
  .of (by kernel_rfl) rfl rfl (by kernel_rfl) (by show _ = _; kernel_rfl) trivial,
  .of (by kernel_rfl) rfl rfl (by kernel_rfl) (by show _ = _; kernel_rfl) trivial,
  .of (by kernel_rfl) rfl rfl (by kernel_rfl) (by show _ = _; kernel_rfl) trivial,
  .of (by kernel_rfl) rfl rfl (by kernel_rfl) (by show _ = _; kernel_rfl) trivial,
  .of (by kernel_rfl) rfl rfl (by kernel_rfl) (by show _ = _; kernel_rfl) trivial,
  .of (by kernel_rfl) rfl rfl (by kernel_rfl) (by show _ = _; kernel_rfl) trivial,
  .of (by kernel_rfl) rfl rfl (by kernel_rfl) (by show _ = _; kernel_rfl) trivial,
  .of (by kernel_rfl) rfl rfl (by kernel_rfl) (by show _ = _; kernel_rfl) trivial,
  .of (by kernel_rfl) rfl rfl (by kernel_rfl) (by show _ = _; kernel_rfl) trivial,
  .of (by kernel_rfl) rfl rfl (by kernel_rfl) (by show _ = _; kernel_rfl) trivial,
  .of (by kernel_rfl) rfl rfl (by kernel_rfl) (by show _ = _; kernel_rfl) trivial,
  .of (by kernel_rfl) rfl rfl (by kernel_rfl) (by show _ = _; kernel_rfl) trivial,
  .of (by kernel_rfl) rfl rfl (by kernel_rfl) (by show _ = _; kernel_rfl) trivial,
  .of (by kernel_rfl) rfl rfl (by kernel_rfl) (by show _ = _; kernel_rfl) trivial,
  .of (by kernel_rfl) rfl rfl (by kernel_rfl) (by show _ = _; kernel_rfl) trivial,
  .of (by kernel_rfl) rfl rfl (by kernel_rfl) (by show _ = _; kernel_rfl) trivial,
  .of (by kernel_rfl) rfl rfl (by kernel_rfl) (by show _ = _; kernel_rfl) trivial, trivial⟩
theorem n0 {q : Prop} (b : q) : (0 : Nat) = 0 ∧ q := ⟨rfl, b⟩
theorem nn (n : Nat) {q : Prop} (b : q) : n = n ∧ q := ⟨rfl, b⟩
theorem nl {α : Type} (l : List α) {q : Prop} (b : q) : l.length = l.length ∧ q := ⟨rfl, b⟩
def bT : Ans := .br true
def bF : Ans := .br false
abbrev iT (l : List Int) : List (Option Row) := [some ⟨true, .ints .u8 l⟩]
abbrev iF (l : List Int) : List (Option Row) := [some ⟨false, .ints .u8 l⟩]
theorem mixed : Tryz.prog.follows .mixedOrders = true := by kernel_rfl
def bytes0 : ByteArray := ByteArray.mk #[0, 1, 2, 2, 3, 3, 3, 3, 4, 4, 4, 4, 4, 4, 4, 4, 5, 5, 5, 5, 5, 5, 5, 5, 5, 5, 5, 5, 5, 5, 5, 5, 6, 6, 6, 6, 6, 6, 6, 6, 6, 6, 6, 6, 6, 6, 6, 6, 6, 6, 6, 6, 6, 6, 6, 6, 6, 6, 6, 6, 6, 6, 6, 6, 7, 7, 7, 7, 7, 7, 7, 7, 7, 7, 7, 7, 7, 7, 7, 7, 7, 7, 7, 7, 7, 7, 7, 7, 7, 7, 7, 7, 7, 7, 7, 7, 7, 7, 7, 7, 7, 7, 7, 7, 7, 7, 7, 7, 7, 7, 7, 7, 7, 7, 7, 7, 7, 7, 7, 7, 7, 7, 7, 7, 7, 7, 7, 7, 8, 8, 8, 8, 8, 8, 8, 8, 8, 8, 8, 8, 8, 8, 8, 8, 8, 8, 8, 8, 8, 8, 8, 8, 8, 8, 8, 8, 8, 8, 8, 8, 8, 8, 8, 8, 8, 8, 8, 8, 8, 8, 8, 8, 8, 8, 8, 8, 8, 8, 8, 8, 8, 8, 8, 8, 8, 8, 8, 8, 8, 8, 8, 8, 8, 8, 8, 8, 8, 8, 8, 8, 8, 8, 8, 8, 8, 8, 8, 8, 8, 8, 8, 8, 8, 8, 8, 8, 8, 8, 8, 8, 8, 8, 8, 8, 8, 8, 8, 8, 8, 8, 8, 8, 8, 8, 8, 8, 8, 8, 8, 8, 8, 8, 8, 8, 8, 8, 8, 8, 8, 8, 8, 8, 8, 8, 8, 8]
def laws.big.f (a0 : List Int) : Option (Unit) :=
  some ()
theorem laws.big.spec (a0 : List Int) (o : Unit) (h : laws.big.f a0 = some o) : Den.Spec Tryz.prog 6 [one (.sl 0 0 a0.length)] [some ⟨false, .ints .u8 a0⟩] (one (.bool (decide ((a0.length : Int) > 1048576)))) [some ⟨false, .ints .u8 a0⟩] := by
  unfold laws.big.f at h
  obtain rfl := Option.some.inj h
  exact Den.Spec.of_walk tab mixed Tryz.func6 (by kernel_rfl) [] [] [0] trivial (by kernel_rfl)
def impl.ChipNew.f : Option (Unit) :=
  ck ((60 * (16 : Int)) ≤ 70368744177664) (ck ((10 * (8 : Int)) ≤ 70368744177664) (some ()))
theorem impl.ChipNew.spec (o : Unit) (h : impl.ChipNew.f = some o) : Den.Spec Tryz.prog 19 [] [] (.v (.agg [.sl 0 0 ((List.replicate 60 noVal).length), .sl 1 0 ((List.replicate 10 (0 : Int)).length)])) [some ⟨true, .strs (List.replicate 60 noVal)⟩, some ⟨true, .ints .i64 (List.replicate 10 (0 : Int))⟩] := by
  unfold impl.ChipNew.f at h
  obtain ⟨p1, h⟩ := ck_some h
  obtain ⟨p2, h⟩ := ck_some h
  obtain rfl := Option.some.inj h
  exact Den.Spec.of_walk tab mixed Tryz.func19 (by kernel_rfl) [] [] [3, 11] (nd (by decide : (0 : Int) ≤ 60) (nd (rfl : (60 : Int) = (60 : Int)) (nd p1 (nd (by decide : (0 : Int) ≤ 10) (nd (rfl : (10 : Int) = (10 : Int)) (nd p2 trivial)))))) (by kernel_rfl)
def impl.ChipOk_1.f (a0 : ByteArray) : Option (Unit) :=
  some ()
theorem impl.ChipOk_1.spec (a0 : ByteArray) (o : Unit) (h : impl.ChipOk_1.f a0 = some o) : Den.Spec Tryz.prog 90 [one (.str a0)] [] (one (.bool (decide ((a0.size : Int) > 800)))) [] := by
  unfold impl.ChipOk_1.f at h
  obtain rfl := Option.some.inj h
  exact Den.Spec.of_walk tab mixed Tryz.func90 (by kernel_rfl) [] [] [] trivial (by kernel_rfl)
def slices.IndexFunc_string_string.l0.f (a0 : List ByteArray) : Nat → Int → Option (Int ⊕ Unit)
  | 0, _ => none
  | k + 1, v5_0 =>
    cond (decide (v5_0 < (a0.length : Int))) (ck (0 ≤ v5_0) (Option.bind (impl.ChipOk_1.f (a0.getD v5_0.toNat noVal)) fun x1 => cond (decide (((a0.getD v5_0.toNat noVal).size : Int) > 800)) (some (.inl v5_0)) (slices.IndexFunc_string_string.l0.f a0 k (w64 (v5_0 + 1))))) (some (.inr (())))
def slices.IndexFunc_string_string.l0.s (a0 : List ByteArray) (v5_0 : Int) : St := mkSt 19 [(0, one (.sl 0 0 a0.length)), (1, one (.fn 90 [])), (7, one (.int .i64 (a0.length : Int))), (8, one (.int .i64 v5_0))] [some ⟨false, .strs a0⟩]
def slices.IndexFunc_string_string.l0.e0 (a0 : List ByteArray) (o : Int) : St := mkSt 19 [(4, one (.int .i64 o))] [some ⟨false, .strs a0⟩]
def slices.IndexFunc_string_string.l0.e1 (a0 : List ByteArray) (o : Unit) : St := mkSt 19 [] [some ⟨false, .strs a0⟩]
def slices.IndexFunc_string_string.l0.x (a0 : List ByteArray) : (Int ⊕ Unit) → AExit × St := Sum.elim (fun o => (.ret, slices.IndexFunc_string_string.l0.e0 a0 o)) (fun o => (.exit 0, slices.IndexFunc_string_string.l0.e1 a0 o))
theorem slices.IndexFunc_string_string.l0.spec (a0 : List ByteArray) : ∀ (k : Nat) (v5_0 : Int) (o : Int ⊕ Unit), slices.IndexFunc_string_string.l0.f a0 k v5_0 = some o → LoopSpec Tryz.prog 1 (loopN Tryz.f115 0) (slices.IndexFunc_string_string.l0.s a0 v5_0) (slices.IndexFunc_string_string.l0.x a0 o).1 (slices.IndexFunc_string_string.l0.x a0 o).2
  | 0, _, _, h => by cases h
  | k + 1, v5_0, o, h => by
    unfold slices.IndexFunc_string_string.l0.f at h
    rcases br_cases h with ⟨c1, h⟩ | ⟨c1, h⟩
    · obtain ⟨p1, h⟩ := ck_some h
      obtain ⟨x1, e1, h⟩ := bind_some h
      rcases br_cases h with ⟨c2, h⟩ | ⟨c2, h⟩
      · obtain rfl := Option.some.inj h
        exact .of_done tab mixed [bT, .call [] [] (one (.bool (decide (((a0.getD v5_0.toNat noVal).size : Int) > 800)))) [], bT] [] [4] [0] rfl (nd c1 (nd p1 (nd (of_decide_eq_true c1) (nd (tn p1 (of_decide_eq_true c1)) (nd (impl.ChipOk_1.spec (a0.getD v5_0.toNat noVal) _ e1) (nd c2 trivial)))))) (by kernel_rfl)
      · exact .of_step tab mixed [bT, .call [] [] (one (.bool (decide (((a0.getD v5_0.toNat noVal).size : Int) > 800)))) [], bF] [] [0, 1, 7, 8] [0] (s1 := slices.IndexFunc_string_string.l0.s a0 (w64 (v5_0 + 1))) (nd c1 (nd p1 (nd (of_decide_eq_true c1) (nd (tn p1 (of_decide_eq_true c1)) (nd (impl.ChipOk_1.spec (a0.getD v5_0.toNat noVal) _ e1) (nd c2 trivial)))))) (by kernel_rfl) (slices.IndexFunc_string_string.l0.spec a0 k (w64 (v5_0 + 1)) _ h)
    · obtain rfl := Option.some.inj h
      exact .of_done tab mixed [bF] [] [] [0] rfl (nd c1 trivial) (by kernel_rfl)
def slices.IndexFunc_string_string.f (K : Nat) (a0 : List ByteArray) : Option (Int) :=
  Option.bind (slices.IndexFunc_string_string.l0.f a0 K 0) fun x1 => (Sum.elim (fun x1 => some x1) (fun x1 => some (-1))) x1
theorem slices.IndexFunc_string_string.spec (K : Nat) (a0 : List ByteArray) (o : Int) (h : slices.IndexFunc_string_string.f K a0 = some o) : Den.Spec Tryz.prog 115 [one (.sl 0 0 a0.length), one (.fn 90 [])] [some ⟨false, .strs a0⟩] (one (.int .i64 o)) [some ⟨false, .strs a0⟩] := by
  unfold slices.IndexFunc_string_string.f at h
  obtain ⟨x1, e1, h⟩ := bind_some h
  rcases x1 with x1 | x1
  · obtain rfl := Option.some.inj h
    exact Den.Spec.of_walk tab mixed Tryz.func115 (by kernel_rfl) [.loop [] [0, 1, 7, 8] [0] (.ret) (slices.IndexFunc_string_string.l0.e0 a0 x1)] [] [0] (nd (slices.IndexFunc_string_string.l0.spec a0 K 0 _ e1) trivial) (by kernel_rfl)
  · obtain rfl := Option.some.inj h
    exact Den.Spec.of_walk tab mixed Tryz.func115 (by kernel_rfl) [.loop [] [0, 1, 7, 8] [0] (.exit 0) (slices.IndexFunc_string_string.l0.e1 a0 x1)] [] [0] (nd (slices.IndexFunc_string_string.l0.spec a0 K 0 _ e1) trivial) (by kernel_rfl)
def slices.ContainsFunc_string_string.f (K : Nat) (a0 : List ByteArray) : Option (Bool) :=
  Option.bind (slices.IndexFunc_string_string.f K a0) fun x1 => some (decide (x1 ≥ 0))
theorem slices.ContainsFunc_string_string.spec (K : Nat) (a0 : List ByteArray) (o : Bool) (h : slices.ContainsFunc_string_string.f K a0 = some o) : Den.Spec Tryz.prog 89 [one (.sl 0 0 a0.length), one (.fn 90 [])] [some ⟨false, .strs a0⟩] (one (.bool o)) [some ⟨false, .strs a0⟩] := by
  unfold slices.ContainsFunc_string_string.f at h
  obtain ⟨x1, e1, h⟩ := bind_some h
  obtain rfl := Option.some.inj h
  exact Den.Spec.of_walk tab mixed Tryz.func89 (by kernel_rfl) [.call [] [(0, true)] (one (.int .i64 x1)) [some ⟨false, .strs a0⟩]] [] [0] (nd (slices.IndexFunc_string_string.spec K a0 _ e1) (n0 (nl a0 trivial))) (by kernel_rfl)
def impl.in_.f (a0 : Int) (a1 : Int) (a2 : Int) : Option (Bool) :=
  cond (decide (a0 ≥ a1)) (some (decide (a0 ≤ a2))) (some false)
theorem impl.in_.spec (a0 : Int) (a1 : Int) (a2 : Int) (o : Bool) (h : impl.in_.f a0 a1 a2 = some o) : Den.Spec Tryz.prog 54 [one (.int .i64 a0), one (.int .i64 a1), one (.int .i64 a2)] [] (one (.bool o)) [] := by
  unfold impl.in_.f at h
  rcases br_cases h with ⟨c1, h⟩ | ⟨c1, h⟩
  · obtain rfl := Option.some.inj h
    exact Den.Spec.of_walk tab mixed Tryz.func54 (by kernel_rfl) [bT, bT, bT, bT] [] [] (nd c1 (nd c1 (nd c1 (nd c1 trivial)))) (by kernel_rfl)
  · obtain rfl := Option.some.inj h
    exact Den.Spec.of_walk tab mixed Tryz.func54 (by kernel_rfl) [bF, bF, bF, bF] [] [] (nd c1 (nd c1 (nd c1 (nd c1 trivial)))) (by kernel_rfl)
def impl.ChipOk_2.f (a0 : Int) : Option (Bool) :=
  Option.bind (impl.in_.f a0 0 1000000000) fun x1 => some (!x1)
theorem impl.ChipOk_2.spec (a0 : Int) (o : Bool) (h : impl.ChipOk_2.f a0 = some o) : Den.Spec Tryz.prog 92 [one (.int .i64 a0)] [] (one (.bool o)) [] := by
  unfold impl.ChipOk_2.f at h
  obtain ⟨x1, e1, h⟩ := bind_some h
  obtain rfl := Option.some.inj h
  exact Den.Spec.of_walk tab mixed Tryz.func92 (by kernel_rfl) [.call [] [] (one (.bool x1)) []] [] [] (nd (impl.in_.spec a0 0 1000000000 _ e1) trivial) (by kernel_rfl)
def slices.IndexFunc_int_int.l0.f (a0 : List Int) : Nat → Int → Option (Int ⊕ Unit)
  | 0, _ => none
  | k + 1, v11_0 =>
    cond (decide (v11_0 < (a0.length : Int))) (ck (0 ≤ v11_0) (Option.bind (impl.ChipOk_2.f (a0.getD v11_0.toNat 0)) fun x1 => cond (x1) (some (.inl v11_0)) (slices.IndexFunc_int_int.l0.f a0 k (w64 (v11_0 + 1))))) (some (.inr (())))
def slices.IndexFunc_int_int.l0.s (a0 : List Int) (v11_0 : Int) : St := mkSt 19 [(0, one (.sl 0 0 a0.length)), (1, one (.fn 92 [])), (7, one (.int .i64 (a0.length : Int))), (8, one (.int .i64 v11_0))] [some ⟨false, .ints .i64 a0⟩]
def slices.IndexFunc_int_int.l0.e0 (a0 : List Int) (o : Int) : St := mkSt 19 [(4, one (.int .i64 o))] [some ⟨false, .ints .i64 a0⟩]
def slices.IndexFunc_int_int.l0.e1 (a0 : List Int) (o : Unit) : St := mkSt 19 [] [some ⟨false, .ints .i64 a0⟩]
def slices.IndexFunc_int_int.l0.x (a0 : List Int) : (Int ⊕ Unit) → AExit × St := Sum.elim (fun o => (.ret, slices.IndexFunc_int_int.l0.e0 a0 o)) (fun o => (.exit 0, slices.IndexFunc_int_int.l0.e1 a0 o))
theorem slices.IndexFunc_int_int.l0.spec (a0 : List Int) : ∀ (k : Nat) (v11_0 : Int) (o : Int ⊕ Unit), slices.IndexFunc_int_int.l0.f a0 k v11_0 = some o → LoopSpec Tryz.prog 1 (loopN Tryz.f116 0) (slices.IndexFunc_int_int.l0.s a0 v11_0) (slices.IndexFunc_int_int.l0.x a0 o).1 (slices.IndexFunc_int_int.l0.x a0 o).2
  | 0, _, _, h => by cases h
  | k + 1, v11_0, o, h => by
    unfold slices.IndexFunc_int_int.l0.f at h
    rcases br_cases h with ⟨c1, h⟩ | ⟨c1, h⟩
    · obtain ⟨p1, h⟩ := ck_some h
      obtain ⟨x1, e1, h⟩ := bind_some h
      rcases br_cases h with ⟨c2, h⟩ | ⟨c2, h⟩
      · obtain rfl := Option.some.inj h
        exact .of_done tab mixed [bT, .call [] [] (one (.bool x1)) [], bT] [] [4] [0] rfl (nd c1 (nd p1 (nd (of_decide_eq_true c1) (nd (tn p1 (of_decide_eq_true c1)) (nd (impl.ChipOk_2.spec (a0.getD v11_0.toNat 0) _ e1) (nd c2 trivial)))))) (by kernel_rfl)
      · exact .of_step tab mixed [bT, .call [] [] (one (.bool x1)) [], bF] [] [0, 1, 7, 8] [0] (s1 := slices.IndexFunc_int_int.l0.s a0 (w64 (v11_0 + 1))) (nd c1 (nd p1 (nd (of_decide_eq_true c1) (nd (tn p1 (of_decide_eq_true c1)) (nd (impl.ChipOk_2.spec (a0.getD v11_0.toNat 0) _ e1) (nd c2 trivial)))))) (by kernel_rfl) (slices.IndexFunc_int_int.l0.spec a0 k (w64 (v11_0 + 1)) _ h)
    · obtain rfl := Option.some.inj h
      exact .of_done tab mixed [bF] [] [] [0] rfl (nd c1 trivial) (by kernel_rfl)
def slices.IndexFunc_int_int.f (K : Nat) (a0 : List Int) : Option (Int) :=
  Option.bind (slices.IndexFunc_int_int.l0.f a0 K 0) fun x1 => (Sum.elim (fun x1 => some x1) (fun x1 => some (-1))) x1
theorem slices.IndexFunc_int_int.spec (K : Nat) (a0 : List Int) (o : Int) (h : slices.IndexFunc_int_int.f K a0 = some o) : Den.Spec Tryz.prog 116 [one (.sl 0 0 a0.length), one (.fn 92 [])] [some ⟨false, .ints .i64 a0⟩] (one (.int .i64 o)) [some ⟨false, .ints .i64 a0⟩] := by
  unfold slices.IndexFunc_int_int.f at h
  obtain ⟨x1, e1, h⟩ := bind_some h
  rcases x1 with x1 | x1
  · obtain rfl := Option.some.inj h
    exact Den.Spec.of_walk tab mixed Tryz.func116 (by kernel_rfl) [.loop [] [0, 1, 7, 8] [0] (.ret) (slices.IndexFunc_int_int.l0.e0 a0 x1)] [] [0] (nd (slices.IndexFunc_int_int.l0.spec a0 K 0 _ e1) trivial) (by kernel_rfl)
  · obtain rfl := Option.some.inj h
    exact Den.Spec.of_walk tab mixed Tryz.func116 (by kernel_rfl) [.loop [] [0, 1, 7, 8] [0] (.exit 0) (slices.IndexFunc_int_int.l0.e1 a0 x1)] [] [0] (nd (slices.IndexFunc_int_int.l0.spec a0 K 0 _ e1) trivial) (by kernel_rfl)
def slices.ContainsFunc_int_int.f (K : Nat) (a0 : List Int) : Option (Bool) :=
  Option.bind (slices.IndexFunc_int_int.f K a0) fun x1 => some (decide (x1 ≥ 0))
theorem slices.ContainsFunc_int_int.spec (K : Nat) (a0 : List Int) (o : Bool) (h : slices.ContainsFunc_int_int.f K a0 = some o) : Den.Spec Tryz.prog 91 [one (.sl 0 0 a0.length), one (.fn 92 [])] [some ⟨false, .ints .i64 a0⟩] (one (.bool o)) [some ⟨false, .ints .i64 a0⟩] := by
  unfold slices.ContainsFunc_int_int.f at h
  obtain ⟨x1, e1, h⟩ := bind_some h
  obtain rfl := Option.some.inj h
  exact Den.Spec.of_walk tab mixed Tryz.func91 (by kernel_rfl) [.call [] [(0, true)] (one (.int .i64 x1)) [some ⟨false, .ints .i64 a0⟩]] [] [0] (nd (slices.IndexFunc_int_int.spec K a0 _ e1) (n0 (nl a0 trivial))) (by kernel_rfl)
def impl.ChipOk.f (K : Nat) (a0 : List ByteArray) (a1 : List Int) : Option (Bool) :=
  cond ((a0.length : Int) == 60) (cond ((a1.length : Int) == 10) (Option.bind (slices.ContainsFunc_string_string.f K a0) fun x1 => cond (x1) (some false) (Option.bind (slices.ContainsFunc_int_int.f K a1) fun x2 => some (!x2))) (some false)) (some false)
theorem impl.ChipOk.spec (K : Nat) (a0 : List ByteArray) (a1 : List Int) (o : Bool) (h : impl.ChipOk.f K a0 a1 = some o) : Den.Spec Tryz.prog 60 [.v (.agg [.sl 0 0 a0.length, .sl 1 0 a1.length])] [some ⟨false, .strs a0⟩, some ⟨false, .ints .i64 a1⟩] (one (.bool o)) [some ⟨false, .strs a0⟩, some ⟨false, .ints .i64 a1⟩] := by
  unfold impl.ChipOk.f at h
  rcases br_cases h with ⟨c1, h⟩ | ⟨c1, h⟩
  · rcases br_cases h with ⟨c2, h⟩ | ⟨c2, h⟩
    · obtain ⟨x1, e1, h⟩ := bind_some h
      rcases br_cases h with ⟨c3, h⟩ | ⟨c3, h⟩
      · obtain rfl := Option.some.inj h
        exact Den.Spec.of_walk tab mixed Tryz.func60 (by kernel_rfl) [bT, bT, bT, bT, bT, bT, bT, bT, .call [] [(0, true)] (one (.bool x1)) [some ⟨false, .strs a0⟩], bT, bT, bF, bF, bF, bF, bF] [] [0, 1] (nd c1 (nd c1 (nd c1 (nd c1 (nd c1 (nd c2 (nd c2 (nd c2 (nd (slices.ContainsFunc_string_string.spec K a0 _ e1) (n0 (nl a0 (nd c2 (nd c2 (nd (nf c3) (nd (nf c3) (nd (nf c3) (nd (nf c3) (nd (nf c3) trivial)))))))))))))))))) (by kernel_rfl)
      · obtain ⟨x2, e2, h⟩ := bind_some h
        obtain rfl := Option.some.inj h
        exact Den.Spec.of_walk tab mixed Tryz.func60 (by kernel_rfl) [bT, bT, bT, bT, bT, bT, bT, bT, .call [] [(0, true)] (one (.bool x1)) [some ⟨false, .strs a0⟩], bT, bT, bT, bT, bT, .call [] [(0, true)] (one (.bool x2)) [some ⟨false, .ints .i64 a1⟩], bT, bT] [] [0, 1] (nd c1 (nd c1 (nd c1 (nd c1 (nd c1 (nd c2 (nd c2 (nd c2 (nd (slices.ContainsFunc_string_string.spec K a0 _ e1) (n0 (nl a0 (nd c2 (nd c2 (nd (nt c3) (nd (nt c3) (nd (nt c3) (nd (slices.ContainsFunc_int_int.spec K a1 _ e2) (n0 (nl a1 (nd (nt c3) (nd (nt c3) trivial))))))))))))))))))))) (by kernel_rfl)
    · obtain rfl := Option.some.inj h
      exact Den.Spec.of_walk tab mixed Tryz.func60 (by kernel_rfl) [bT, bT, bT, bT, bT, bF, bF, bF, bF, bF, bF, bF, bF, bF, bF] [] [0, 1] (nd c1 (nd c1 (nd c1 (nd c1 (nd c1 (nd c2 (nd c2 (nd c2 (nd c2 (nd c2 (nd ff (nd ff (nd ff (nd ff (nd ff trivial))))))))))))))) (by kernel_rfl)
  · obtain rfl := Option.some.inj h
    exact Den.Spec.of_walk tab mixed Tryz.func60 (by kernel_rfl) [bF, bF, bF, bF, bF, bF, bF, bF, bF, bF, bF, bF, bF, bF, bF] [] [0, 1] (nd c1 (nd c1 (nd c1 (nd c1 (nd c1 (nd ff (nd ff (nd ff (nd ff (nd ff (nd ff (nd ff (nd ff (nd ff (nd ff trivial))))))))))))))) (by kernel_rfl)
def slices.Clone_string_string.f (a0 : List ByteArray) : Option (List ByteArray) := ck (a0.length * 16 ≤ 70368744177664) (some a0)
theorem slices.Clone_string_string.spec (a0 : List ByteArray) (o : List ByteArray) (h : slices.Clone_string_string.f a0 = some o) : Den.Spec Tryz.prog 117 [one (.sl 0 0 a0.length)] [some ⟨false, .strs a0⟩] (one (.sl 1 0 o.length)) [some ⟨false, .strs a0⟩, some ⟨true, .strs o⟩] := by
  unfold slices.Clone_string_string.f at h
  obtain ⟨p, h⟩ := ck_some h
  obtain rfl := Option.some.inj h
  refine Den.Spec.fork tab mixed Tryz.func117 (by kernel_rfl) 4 (by kernel_rfl) (n := a0.length) [bT] [] [0, 2] (nd trivial (n0 (n0 (nd p (n0 (nl a0 trivial)))))) (by kernel_rfl) (fun h0 => ?_)
  obtain rfl := List.eq_nil_of_length_eq_zero h0
  exact ⟨[], [(2, [.strs])], [0, 1], True ∧ True, by kernel_rfl, trivial, trivial⟩
def slices.Clone_int_int.f (a0 : List Int) : Option (List Int) := ck (a0.length * 8 ≤ 70368744177664) (some a0)
theorem slices.Clone_int_int.spec (a0 : List Int) (o : List Int) (h : slices.Clone_int_int.f a0 = some o) : Den.Spec Tryz.prog 97 [one (.sl 0 0 a0.length)] [some ⟨false, .ints .i64 a0⟩] (one (.sl 1 0 o.length)) [some ⟨false, .ints .i64 a0⟩, some ⟨true, .ints .i64 o⟩] := by
  unfold slices.Clone_int_int.f at h
  obtain ⟨p, h⟩ := ck_some h
  obtain rfl := Option.some.inj h
  refine Den.Spec.fork tab mixed Tryz.func97 (by kernel_rfl) 4 (by kernel_rfl) (n := a0.length) [bT] [] [0, 2] (nd trivial (n0 (n0 (nd p (n0 (nl a0 trivial)))))) (by kernel_rfl) (fun h0 => ?_)
  obtain rfl := List.eq_nil_of_length_eq_zero h0
  exact ⟨[], [(2, [.ints .i64])], [0, 1], True ∧ True, by kernel_rfl, trivial, trivial⟩
def impl.cloneChip.f (a0 : List ByteArray) (a1 : List Int) : Option ((List ByteArray) × (List Int)) :=
  Option.bind (slices.Clone_string_string.f a0) fun x1 => Option.bind (slices.Clone_int_int.f a1) fun x2 => some (x1, x2)
theorem impl.cloneChip.spec (a0 : List ByteArray) (a1 : List Int) (o : (List ByteArray) × (List Int)) (h : impl.cloneChip.f a0 a1 = some o) : Den.Spec Tryz.prog 93 [.v (.agg [.sl 0 0 a0.length, .sl 1 0 a1.length])] [some ⟨false, .strs a0⟩, some ⟨false, .ints .i64 a1⟩] (.v (.agg [.sl 2 0 o.1.length, .sl 3 0 o.2.length])) [some ⟨false, .strs a0⟩, some ⟨false, .ints .i64 a1⟩, some ⟨true, .strs o.1⟩, some ⟨true, .ints .i64 o.2⟩] := by
  unfold impl.cloneChip.f at h
  obtain ⟨x1, e1, h⟩ := bind_some h
  obtain ⟨x2, e2, h⟩ := bind_some h
  obtain rfl := Option.some.inj h
  exact Den.Spec.of_walk tab mixed Tryz.func93 (by kernel_rfl) [.call [] [(0, true)] (one (.sl 1 0 x1.length)) [some ⟨false, .strs a0⟩, some ⟨true, .strs x1⟩], .call [] [(0, true)] (one (.sl 1 0 x2.length)) [some ⟨false, .ints .i64 a1⟩, some ⟨true, .ints .i64 x2⟩]] [] [0, 1, 22, 46] (nd (slices.Clone_string_string.spec a0 _ e1) (n0 (nl a0 (nd (slices.Clone_int_int.spec a1 _ e2) (n0 (nl a1 trivial)))))) (by kernel_rfl)
def math_bits.Mul64.f (a0 : Int) (a1 : Int) : Option (Unit) :=
  some ()
theorem math_bits.Mul64.spec (a0 : Int) (a1 : Int) (o : Unit) (h : math_bits.Mul64.f a0 a1 = some o) : Den.Spec Tryz.prog 137 [one (.int .u64 a0), one (.int .u64 a1)] [] (.tup [.c (.int .u64 (IntKind.u64.wrap ((IntKind.u64.wrap ((IntKind.u64.wrap ((a0.fdiv (2 ^ 32)) * (a1.fdiv (2 ^ 32)))) + ((IntKind.u64.wrap ((IntKind.u64.wrap ((a0.fdiv (2 ^ 32)) * (bits2 .u64 (· &&& ·) a1 4294967295))) + ((IntKind.u64.wrap ((bits2 .u64 (· &&& ·) a0 4294967295) * (bits2 .u64 (· &&& ·) a1 4294967295))).fdiv (2 ^ 32)))).fdiv (2 ^ 32)))) + ((IntKind.u64.wrap ((bits2 .u64 (· &&& ·) (IntKind.u64.wrap ((IntKind.u64.wrap ((a0.fdiv (2 ^ 32)) * (bits2 .u64 (· &&& ·) a1 4294967295))) + ((IntKind.u64.wrap ((bits2 .u64 (· &&& ·) a0 4294967295) * (bits2 .u64 (· &&& ·) a1 4294967295))).fdiv (2 ^ 32)))) 4294967295) + (IntKind.u64.wrap ((bits2 .u64 (· &&& ·) a0 4294967295) * (a1.fdiv (2 ^ 32)))))).fdiv (2 ^ 32))))), .c (.int .u64 (IntKind.u64.wrap (a0 * a1)))]) [] := by
  unfold math_bits.Mul64.f at h
  obtain rfl := Option.some.inj h
  exact Den.Spec.of_walk tab mixed Tryz.func137 (by kernel_rfl) [] [] [] (nd (by decide : (0 : Int) ≤ 32) (nd (by decide : (0 : Int) ≤ 32) (nd (by decide : (0 : Int) ≤ 32) (nd (by decide : (0 : Int) ≤ 32) (nd (by decide : (0 : Int) ≤ 32) trivial))))) (by kernel_rfl)
def math_bits.Mul.f (a0 : Int) (a1 : Int) : Option (Unit) :=
  Option.bind (math_bits.Mul64.f a0 a1) fun x1 => some ()
theorem math_bits.Mul.spec (a0 : Int) (a1 : Int) (o : Unit) (h : math_bits.Mul.f a0 a1 = some o) : Den.Spec Tryz.prog 118 [one (.int .u64 a0), one (.int .u64 a1)] [] (.tup [.c (.int .u64 (IntKind.u64.wrap ((IntKind.u64.wrap ((IntKind.u64.wrap ((a0.fdiv (2 ^ 32)) * (a1.fdiv (2 ^ 32)))) + ((IntKind.u64.wrap ((IntKind.u64.wrap ((a0.fdiv (2 ^ 32)) * (bits2 .u64 (· &&& ·) a1 4294967295))) + ((IntKind.u64.wrap ((bits2 .u64 (· &&& ·) a0 4294967295) * (bits2 .u64 (· &&& ·) a1 4294967295))).fdiv (2 ^ 32)))).fdiv (2 ^ 32)))) + ((IntKind.u64.wrap ((bits2 .u64 (· &&& ·) (IntKind.u64.wrap ((IntKind.u64.wrap ((a0.fdiv (2 ^ 32)) * (bits2 .u64 (· &&& ·) a1 4294967295))) + ((IntKind.u64.wrap ((bits2 .u64 (· &&& ·) a0 4294967295) * (bits2 .u64 (· &&& ·) a1 4294967295))).fdiv (2 ^ 32)))) 4294967295) + (IntKind.u64.wrap ((bits2 .u64 (· &&& ·) a0 4294967295) * (a1.fdiv (2 ^ 32)))))).fdiv (2 ^ 32))))), .c (.int .u64 (IntKind.u64.wrap (a0 * a1)))]) [] := by
  unfold math_bits.Mul.f at h
  obtain ⟨x1, e1, h⟩ := bind_some h
  obtain rfl := Option.some.inj h
  exact Den.Spec.of_walk tab mixed Tryz.func118 (by kernel_rfl) [bF, .call [] [] (.tup [.c (.int .u64 (IntKind.u64.wrap ((IntKind.u64.wrap ((IntKind.u64.wrap ((a0.fdiv (2 ^ 32)) * (a1.fdiv (2 ^ 32)))) + ((IntKind.u64.wrap ((IntKind.u64.wrap ((a0.fdiv (2 ^ 32)) * (bits2 .u64 (· &&& ·) a1 4294967295))) + ((IntKind.u64.wrap ((bits2 .u64 (· &&& ·) a0 4294967295) * (bits2 .u64 (· &&& ·) a1 4294967295))).fdiv (2 ^ 32)))).fdiv (2 ^ 32)))) + ((IntKind.u64.wrap ((bits2 .u64 (· &&& ·) (IntKind.u64.wrap ((IntKind.u64.wrap ((a0.fdiv (2 ^ 32)) * (bits2 .u64 (· &&& ·) a1 4294967295))) + ((IntKind.u64.wrap ((bits2 .u64 (· &&& ·) a0 4294967295) * (bits2 .u64 (· &&& ·) a1 4294967295))).fdiv (2 ^ 32)))) 4294967295) + (IntKind.u64.wrap ((bits2 .u64 (· &&& ·) a0 4294967295) * (a1.fdiv (2 ^ 32)))))).fdiv (2 ^ 32))))), .c (.int .u64 (IntKind.u64.wrap (a0 * a1)))]) []] [] [] (nd ff (nd (math_bits.Mul64.spec a0 a1 _ e1) trivial)) (by kernel_rfl)
def slices.Repeat_int_int.l0.f (a0 : List Int) : Nat → (List Int) → Int → Option ((List Int))
  | 0, _, _ => none
  | k + 1, v22_0, v22_1 =>
    cond (decide (v22_1 < (v22_0.length : Int))) (ck (0 ≤ v22_1) (ck (v22_1 ≤ (v22_0.length : Int)) (cond (decide (v22_1.toNat ≤ v22_0.length - v22_1.toNat)) (ck (v22_1.toNat + (v22_0.length - v22_1.toNat) ≤ v22_0.length) (ck (0 + v22_1.toNat ≤ v22_0.length) (slices.Repeat_int_int.l0.f a0 k (overL v22_0 v22_1.toNat v22_0 0 v22_1.toNat) (w64 (v22_1 + (v22_1.toNat : Int)))))) (ck (v22_1.toNat + (v22_0.length - v22_1.toNat) ≤ v22_0.length) (ck (0 + v22_1.toNat ≤ v22_0.length) (slices.Repeat_int_int.l0.f a0 k (overL v22_0 v22_1.toNat v22_0 0 (v22_0.length - v22_1.toNat)) (w64 (v22_1 + ((v22_0.length - v22_1.toNat : Nat) : Int))))))))) (some v22_0)
def slices.Repeat_int_int.l0.s (a0 : List Int) (v22_0 : List Int) (v22_1 : Int) : St := mkSt 48 [(7, one (.sl 1 0 v22_0.length)), (8, one (.int .i64 v22_1))] [some ⟨false, .ints .i64 a0⟩, some ⟨true, .ints .i64 v22_0⟩]
def slices.Repeat_int_int.l0.e0 (a0 : List Int) (o : (List Int)) : St := mkSt 48 [(7, one (.sl 1 0 o.length))] [some ⟨false, .ints .i64 a0⟩, some ⟨true, .ints .i64 o⟩]
def slices.Repeat_int_int.l0.x (a0 : List Int) : ((List Int)) → AExit × St := fun o => (.exit 0, slices.Repeat_int_int.l0.e0 a0 o)
theorem slices.Repeat_int_int.l0.spec (a0 : List Int) : ∀ (k : Nat) (v22_0 : List Int) (v22_1 : Int) (o : (List Int)), slices.Repeat_int_int.l0.f a0 k v22_0 v22_1 = some o → LoopSpec Tryz.prog 1 (loopN Tryz.f94 0) (slices.Repeat_int_int.l0.s a0 v22_0 v22_1) (slices.Repeat_int_int.l0.x a0 o).1 (slices.Repeat_int_int.l0.x a0 o).2
  | 0, _, _, _, h => by cases h
  | k + 1, v22_0, v22_1, o, h => by
    unfold slices.Repeat_int_int.l0.f at h
    rcases br_cases h with ⟨c1, h⟩ | ⟨c1, h⟩
    · obtain ⟨p1, h⟩ := ck_some h
      obtain ⟨p2, h⟩ := ck_some h
      rcases br_cases h with ⟨c2, h⟩ | ⟨c2, h⟩
      · obtain ⟨p3, h⟩ := ck_some h
        obtain ⟨p4, h⟩ := ck_some h
        exact .of_step tab mixed [bT, bT] [] [7, 8] [0, 1] (s1 := mkSt 48 [(7, one (.sl 1 0 v22_0.length)), (8, one (.int .i64 (w64 (v22_1 + (v22_1.toNat : Int)))))] [some ⟨false, .ints .i64 a0⟩, some ⟨true, .ints .i64 (overL v22_0 v22_1.toNat v22_0 0 v22_1.toNat)⟩]) (nd c1 (nd p1 (nd p2 (nd (Int.le_refl (v22_0.length : Int)) (nd (Int.le_refl 0) (nd p1 (nd p2 (nd (of_decide_eq_true c2) (nd p3 (nd p4 trivial)))))))))) (by kernel_rfl) (LoopSpec.eqs (slices.Repeat_int_int.l0.spec a0 k (overL v22_0 v22_1.toNat v22_0 0 v22_1.toNat) (w64 (v22_1 + (v22_1.toNat : Int))) _ h) (by simp only [slices.Repeat_int_int.l0.s, List.length_set, overL_length] : slices.Repeat_int_int.l0.s a0 (overL v22_0 v22_1.toNat v22_0 0 v22_1.toNat) (w64 (v22_1 + (v22_1.toNat : Int))) = mkSt 48 [(7, one (.sl 1 0 v22_0.length)), (8, one (.int .i64 (w64 (v22_1 + (v22_1.toNat : Int)))))] [some ⟨false, .ints .i64 a0⟩, some ⟨true, .ints .i64 (overL v22_0 v22_1.toNat v22_0 0 v22_1.toNat)⟩]))
      · obtain ⟨p3, h⟩ := ck_some h
        obtain ⟨p4, h⟩ := ck_some h
        exact .of_step tab mixed [bT, bF] [] [7, 8] [0, 1] (s1 := mkSt 48 [(7, one (.sl 1 0 v22_0.length)), (8, one (.int .i64 (w64 (v22_1 + ((v22_0.length - v22_1.toNat : Nat) : Int)))))] [some ⟨false, .ints .i64 a0⟩, some ⟨true, .ints .i64 (overL v22_0 v22_1.toNat v22_0 0 (v22_0.length - v22_1.toNat))⟩]) (nd c1 (nd p1 (nd p2 (nd (Int.le_refl (v22_0.length : Int)) (nd (Int.le_refl 0) (nd p1 (nd p2 (nd (Nat.le_of_lt (Nat.lt_of_not_le (of_decide_eq_false c2))) (nd p3 (nd p4 trivial)))))))))) (by kernel_rfl) (LoopSpec.eqs (slices.Repeat_int_int.l0.spec a0 k (overL v22_0 v22_1.toNat v22_0 0 (v22_0.length - v22_1.toNat)) (w64 (v22_1 + ((v22_0.length - v22_1.toNat : Nat) : Int))) _ h) (by simp only [slices.Repeat_int_int.l0.s, List.length_set, overL_length] : slices.Repeat_int_int.l0.s a0 (overL v22_0 v22_1.toNat v22_0 0 (v22_0.length - v22_1.toNat)) (w64 (v22_1 + ((v22_0.length - v22_1.toNat : Nat) : Int))) = mkSt 48 [(7, one (.sl 1 0 v22_0.length)), (8, one (.int .i64 (w64 (v22_1 + ((v22_0.length - v22_1.toNat : Nat) : Int)))))] [some ⟨false, .ints .i64 a0⟩, some ⟨true, .ints .i64 (overL v22_0 v22_1.toNat v22_0 0 (v22_0.length - v22_1.toNat))⟩]))
    · obtain rfl := Option.some.inj h
      exact .of_done tab mixed [bF] [] [7] [0, 1] rfl (nd c1 trivial) (by kernel_rfl)
def slices.Repeat_int_int.l0_1.f (a0 : List Int) : Nat → (List Int) → Int → Option ((List Int))
  | 0, _, _ => none
  | k + 1, v23_0, v23_1 =>
    cond (decide (v23_1 < (v23_0.length : Int))) (ck (0 ≤ v23_1) (ck (v23_1 ≤ (v23_0.length : Int)) (cond (decide (v23_1.toNat ≤ v23_0.length - v23_1.toNat)) (ck (v23_1.toNat + (v23_0.length - v23_1.toNat) ≤ v23_0.length) (ck (0 + v23_1.toNat ≤ v23_0.length) (slices.Repeat_int_int.l0_1.f a0 k (overL v23_0 v23_1.toNat v23_0 0 v23_1.toNat) (w64 (v23_1 + (v23_1.toNat : Int)))))) (ck (v23_1.toNat + (v23_0.length - v23_1.toNat) ≤ v23_0.length) (ck (0 + v23_1.toNat ≤ v23_0.length) (slices.Repeat_int_int.l0_1.f a0 k (overL v23_0 v23_1.toNat v23_0 0 (v23_0.length - v23_1.toNat)) (w64 (v23_1 + ((v23_0.length - v23_1.toNat : Nat) : Int))))))))) (some v23_0)
def slices.Repeat_int_int.l0_1.s (a0 : List Int) (v23_0 : List Int) (v23_1 : Int) : St := mkSt 48 [(7, one (.sl 1 0 v23_0.length)), (8, one (.int .i64 v23_1))] [some ⟨false, .ints .i64 a0⟩, some ⟨true, .ints .i64 v23_0⟩]
def slices.Repeat_int_int.l0_1.e0 (a0 : List Int) (o : (List Int)) : St := mkSt 48 [(7, one (.sl 1 0 o.length))] [some ⟨false, .ints .i64 a0⟩, some ⟨true, .ints .i64 o⟩]
def slices.Repeat_int_int.l0_1.x (a0 : List Int) : ((List Int)) → AExit × St := fun o => (.exit 0, slices.Repeat_int_int.l0_1.e0 a0 o)
theorem slices.Repeat_int_int.l0_1.spec (a0 : List Int) : ∀ (k : Nat) (v23_0 : List Int) (v23_1 : Int) (o : (List Int)), slices.Repeat_int_int.l0_1.f a0 k v23_0 v23_1 = some o → LoopSpec Tryz.prog 1 (loopN Tryz.f94 0) (slices.Repeat_int_int.l0_1.s a0 v23_0 v23_1) (slices.Repeat_int_int.l0_1.x a0 o).1 (slices.Repeat_int_int.l0_1.x a0 o).2
  | 0, _, _, _, h => by cases h
  | k + 1, v23_0, v23_1, o, h => by
    unfold slices.Repeat_int_int.l0_1.f at h
    rcases br_cases h with ⟨c1, h⟩ | ⟨c1, h⟩
    · obtain ⟨p1, h⟩ := ck_some h
      obtain ⟨p2, h⟩ := ck_some h
      rcases br_cases h with ⟨c2, h⟩ | ⟨c2, h⟩
      · obtain ⟨p3, h⟩ := ck_some h
        obtain ⟨p4, h⟩ := ck_some h
        exact .of_step tab mixed [bT, bT] [] [7, 8] [0, 1] (s1 := mkSt 48 [(7, one (.sl 1 0 v23_0.length)), (8, one (.int .i64 (w64 (v23_1 + (v23_1.toNat : Int)))))] [some ⟨false, .ints .i64 a0⟩, some ⟨true, .ints .i64 (overL v23_0 v23_1.toNat v23_0 0 v23_1.toNat)⟩]) (nd c1 (nd p1 (nd p2 (nd (Int.le_refl (v23_0.length : Int)) (nd (Int.le_refl 0) (nd p1 (nd p2 (nd (of_decide_eq_true c2) (nd p3 (nd p4 trivial)))))))))) (by kernel_rfl) (LoopSpec.eqs (slices.Repeat_int_int.l0_1.spec a0 k (overL v23_0 v23_1.toNat v23_0 0 v23_1.toNat) (w64 (v23_1 + (v23_1.toNat : Int))) _ h) (by simp only [slices.Repeat_int_int.l0_1.s, List.length_set, overL_length] : slices.Repeat_int_int.l0_1.s a0 (overL v23_0 v23_1.toNat v23_0 0 v23_1.toNat) (w64 (v23_1 + (v23_1.toNat : Int))) = mkSt 48 [(7, one (.sl 1 0 v23_0.length)), (8, one (.int .i64 (w64 (v23_1 + (v23_1.toNat : Int)))))] [some ⟨false, .ints .i64 a0⟩, some ⟨true, .ints .i64 (overL v23_0 v23_1.toNat v23_0 0 v23_1.toNat)⟩]))
      · obtain ⟨p3, h⟩ := ck_some h
        obtain ⟨p4, h⟩ := ck_some h
        exact .of_step tab mixed [bT, bF] [] [7, 8] [0, 1] (s1 := mkSt 48 [(7, one (.sl 1 0 v23_0.length)), (8, one (.int .i64 (w64 (v23_1 + ((v23_0.length - v23_1.toNat : Nat) : Int)))))] [some ⟨false, .ints .i64 a0⟩, some ⟨true, .ints .i64 (overL v23_0 v23_1.toNat v23_0 0 (v23_0.length - v23_1.toNat))⟩]) (nd c1 (nd p1 (nd p2 (nd (Int.le_refl (v23_0.length : Int)) (nd (Int.le_refl 0) (nd p1 (nd p2 (nd (Nat.le_of_lt (Nat.lt_of_not_le (of_decide_eq_false c2))) (nd p3 (nd p4 trivial)))))))))) (by kernel_rfl) (LoopSpec.eqs (slices.Repeat_int_int.l0_1.spec a0 k (overL v23_0 v23_1.toNat v23_0 0 (v23_0.length - v23_1.toNat)) (w64 (v23_1 + ((v23_0.length - v23_1.toNat : Nat) : Int))) _ h) (by simp only [slices.Repeat_int_int.l0_1.s, List.length_set, overL_length] : slices.Repeat_int_int.l0_1.s a0 (overL v23_0 v23_1.toNat v23_0 0 (v23_0.length - v23_1.toNat)) (w64 (v23_1 + ((v23_0.length - v23_1.toNat : Nat) : Int))) = mkSt 48 [(7, one (.sl 1 0 v23_0.length)), (8, one (.int .i64 (w64 (v23_1 + ((v23_0.length - v23_1.toNat : Nat) : Int)))))] [some ⟨false, .ints .i64 a0⟩, some ⟨true, .ints .i64 (overL v23_0 v23_1.toNat v23_0 0 (v23_0.length - v23_1.toNat))⟩]))
    · obtain rfl := Option.some.inj h
      exact .of_done tab mixed [bF] [] [7] [0, 1] rfl (nd c1 trivial) (by kernel_rfl)
def slices.Repeat_int_int.f (K : Nat) (a0 : List Int) (a1 : Int) : Option ((List Int)) :=
  cond (decide (a1 < 0)) (none) (Option.bind (math_bits.Mul.f (IntKind.u64.wrap (a0.length : Int)) (IntKind.u64.wrap a1)) fun x1 => cond (decide ((IntKind.u64.wrap ((IntKind.u64.wrap ((IntKind.u64.wrap (((IntKind.u64.wrap (a0.length : Int)).fdiv (2 ^ 32)) * ((IntKind.u64.wrap a1).fdiv (2 ^ 32)))) + ((IntKind.u64.wrap ((IntKind.u64.wrap (((IntKind.u64.wrap (a0.length : Int)).fdiv (2 ^ 32)) * (bits2 .u64 (· &&& ·) (IntKind.u64.wrap a1) 4294967295))) + ((IntKind.u64.wrap ((bits2 .u64 (· &&& ·) (IntKind.u64.wrap (a0.length : Int)) 4294967295) * (bits2 .u64 (· &&& ·) (IntKind.u64.wrap a1) 4294967295))).fdiv (2 ^ 32)))).fdiv (2 ^ 32)))) + ((IntKind.u64.wrap ((bits2 .u64 (· &&& ·) (IntKind.u64.wrap ((IntKind.u64.wrap (((IntKind.u64.wrap (a0.length : Int)).fdiv (2 ^ 32)) * (bits2 .u64 (· &&& ·) (IntKind.u64.wrap a1) 4294967295))) + ((IntKind.u64.wrap ((bits2 .u64 (· &&& ·) (IntKind.u64.wrap (a0.length : Int)) 4294967295) * (bits2 .u64 (· &&& ·) (IntKind.u64.wrap a1) 4294967295))).fdiv (2 ^ 32)))) 4294967295) + (IntKind.u64.wrap ((bits2 .u64 (· &&& ·) (IntKind.u64.wrap (a0.length : Int)) 4294967295) * ((IntKind.u64.wrap a1).fdiv (2 ^ 32)))))).fdiv (2 ^ 32)))) > 0)) (none) (cond (decide ((IntKind.u64.wrap ((IntKind.u64.wrap (a0.length : Int)) * (IntKind.u64.wrap a1))) > 9223372036854775807)) (none) (ck (0 ≤ (w64 (IntKind.u64.wrap ((IntKind.u64.wrap (a0.length : Int)) * (IntKind.u64.wrap a1))))) (ck (((w64 (IntKind.u64.wrap ((IntKind.u64.wrap (a0.length : Int)) * (IntKind.u64.wrap a1)))) * (8 : Int)) ≤ 70368744177664) (cond (decide (a0.length ≤ (List.replicate (w64 (IntKind.u64.wrap ((IntKind.u64.wrap (a0.length : Int)) * (IntKind.u64.wrap a1)))).toNat (0 : Int)).length)) (ck (0 + ((List.replicate (w64 (IntKind.u64.wrap ((IntKind.u64.wrap (a0.length : Int)) * (IntKind.u64.wrap a1)))).toNat (0 : Int)).length) ≤ (List.replicate (w64 (IntKind.u64.wrap ((IntKind.u64.wrap (a0.length : Int)) * (IntKind.u64.wrap a1)))).toNat (0 : Int)).length) (ck (0 + a0.length ≤ a0.length) (Option.bind (slices.Repeat_int_int.l0.f a0 K (overL (List.replicate (w64 (IntKind.u64.wrap ((IntKind.u64.wrap (a0.length : Int)) * (IntKind.u64.wrap a1)))).toNat (0 : Int)) 0 a0 0 a0.length) (a0.length : Int)) fun x2 => some x2))) (ck (0 + ((List.replicate (w64 (IntKind.u64.wrap ((IntKind.u64.wrap (a0.length : Int)) * (IntKind.u64.wrap a1)))).toNat (0 : Int)).length) ≤ (List.replicate (w64 (IntKind.u64.wrap ((IntKind.u64.wrap (a0.length : Int)) * (IntKind.u64.wrap a1)))).toNat (0 : Int)).length) (ck (0 + a0.length ≤ a0.length) (Option.bind (slices.Repeat_int_int.l0_1.f a0 K (overL (List.replicate (w64 (IntKind.u64.wrap ((IntKind.u64.wrap (a0.length : Int)) * (IntKind.u64.wrap a1)))).toNat (0 : Int)) 0 a0 0 ((List.replicate (w64 (IntKind.u64.wrap ((IntKind.u64.wrap (a0.length : Int)) * (IntKind.u64.wrap a1)))).toNat (0 : Int)).length)) ((List.replicate (w64 (IntKind.u64.wrap ((IntKind.u64.wrap (a0.length : Int)) * (IntKind.u64.wrap a1)))).toNat (0 : Int)).length : Int)) fun x2 => some x2))))))))
theorem slices.Repeat_int_int.spec (K : Nat) (a0 : List Int) (a1 : Int) (o : (List Int)) (h : slices.Repeat_int_int.f K a0 a1 = some o) : Den.Spec Tryz.prog 94 [one (.sl 0 0 a0.length), one (.int .i64 a1)] [some ⟨false, .ints .i64 a0⟩] (one (.sl 1 0 o.length)) [some ⟨false, .ints .i64 a0⟩, some ⟨true, .ints .i64 o⟩] := by
  unfold slices.Repeat_int_int.f at h
  rcases br_cases h with ⟨c1, h⟩ | ⟨c1, h⟩
  · cases h
  · obtain ⟨x1, e1, h⟩ := bind_some h
    rcases br_cases h with ⟨c2, h⟩ | ⟨c2, h⟩
    · cases h
    · rcases br_cases h with ⟨c3, h⟩ | ⟨c3, h⟩
      · cases h
      · obtain ⟨p1, h⟩ := ck_some h
        obtain ⟨p2, h⟩ := ck_some h
        rcases br_cases h with ⟨c4, h⟩ | ⟨c4, h⟩
        · obtain ⟨p3, h⟩ := ck_some h
          obtain ⟨p4, h⟩ := ck_some h
          obtain ⟨x2, e2, h⟩ := bind_some h
          obtain rfl := Option.some.inj h
          exact Den.Spec.of_walk tab mixed Tryz.func94 (by kernel_rfl) [bF, .call [] [] (.tup [.c (.int .u64 (IntKind.u64.wrap ((IntKind.u64.wrap ((IntKind.u64.wrap (((IntKind.u64.wrap (a0.length : Int)).fdiv (2 ^ 32)) * ((IntKind.u64.wrap a1).fdiv (2 ^ 32)))) + ((IntKind.u64.wrap ((IntKind.u64.wrap (((IntKind.u64.wrap (a0.length : Int)).fdiv (2 ^ 32)) * (bits2 .u64 (· &&& ·) (IntKind.u64.wrap a1) 4294967295))) + ((IntKind.u64.wrap ((bits2 .u64 (· &&& ·) (IntKind.u64.wrap (a0.length : Int)) 4294967295) * (bits2 .u64 (· &&& ·) (IntKind.u64.wrap a1) 4294967295))).fdiv (2 ^ 32)))).fdiv (2 ^ 32)))) + ((IntKind.u64.wrap ((bits2 .u64 (· &&& ·) (IntKind.u64.wrap ((IntKind.u64.wrap (((IntKind.u64.wrap (a0.length : Int)).fdiv (2 ^ 32)) * (bits2 .u64 (· &&& ·) (IntKind.u64.wrap a1) 4294967295))) + ((IntKind.u64.wrap ((bits2 .u64 (· &&& ·) (IntKind.u64.wrap (a0.length : Int)) 4294967295) * (bits2 .u64 (· &&& ·) (IntKind.u64.wrap a1) 4294967295))).fdiv (2 ^ 32)))) 4294967295) + (IntKind.u64.wrap ((bits2 .u64 (· &&& ·) (IntKind.u64.wrap (a0.length : Int)) 4294967295) * ((IntKind.u64.wrap a1).fdiv (2 ^ 32)))))).fdiv (2 ^ 32))))), .c (.int .u64 (IntKind.u64.wrap ((IntKind.u64.wrap (a0.length : Int)) * (IntKind.u64.wrap a1))))]) [], bF, bF, bF, bF, bT, .loop [] [7, 8] [0, 1] (.exit 0) (slices.Repeat_int_int.l0.e0 a0 x2)] [] [0, 1] (nd c1 (nd (math_bits.Mul.spec (IntKind.u64.wrap (a0.length : Int)) (IntKind.u64.wrap a1) _ e1) (nd c2 (nd c2 (nd c2 (nd c3 (nd p1 (nd (rfl : (w64 (IntKind.u64.wrap ((IntKind.u64.wrap (a0.length : Int)) * (IntKind.u64.wrap a1)))) = (w64 (IntKind.u64.wrap ((IntKind.u64.wrap (a0.length : Int)) * (IntKind.u64.wrap a1))))) (nd p2 (nd (of_decide_eq_true c4) (nd p3 (nd p4 (nd (LoopSpec.eqs (slices.Repeat_int_int.l0.spec a0 K (overL (List.replicate (w64 (IntKind.u64.wrap ((IntKind.u64.wrap (a0.length : Int)) * (IntKind.u64.wrap a1)))).toNat (0 : Int)) 0 a0 0 a0.length) (a0.length : Int) _ e2) (by simp only [slices.Repeat_int_int.l0.s, List.length_set, overL_length] : slices.Repeat_int_int.l0.s a0 (overL (List.replicate (w64 (IntKind.u64.wrap ((IntKind.u64.wrap (a0.length : Int)) * (IntKind.u64.wrap a1)))).toNat (0 : Int)) 0 a0 0 a0.length) (a0.length : Int) = mkSt 48 [(7, one (.sl 1 0 ((List.replicate (w64 (IntKind.u64.wrap ((IntKind.u64.wrap (a0.length : Int)) * (IntKind.u64.wrap a1)))).toNat (0 : Int)).length))), (8, one (.int .i64 (a0.length : Int)))] [some ⟨false, .ints .i64 a0⟩, some ⟨true, .ints .i64 (overL (List.replicate (w64 (IntKind.u64.wrap ((IntKind.u64.wrap (a0.length : Int)) * (IntKind.u64.wrap a1)))).toNat (0 : Int)) 0 a0 0 a0.length)⟩])) trivial))))))))))))) (by kernel_rfl)
        · obtain ⟨p3, h⟩ := ck_some h
          obtain ⟨p4, h⟩ := ck_some h
          obtain ⟨x2, e2, h⟩ := bind_some h
          obtain rfl := Option.some.inj h
          exact Den.Spec.of_walk tab mixed Tryz.func94 (by kernel_rfl) [bF, .call [] [] (.tup [.c (.int .u64 (IntKind.u64.wrap ((IntKind.u64.wrap ((IntKind.u64.wrap (((IntKind.u64.wrap (a0.length : Int)).fdiv (2 ^ 32)) * ((IntKind.u64.wrap a1).fdiv (2 ^ 32)))) + ((IntKind.u64.wrap ((IntKind.u64.wrap (((IntKind.u64.wrap (a0.length : Int)).fdiv (2 ^ 32)) * (bits2 .u64 (· &&& ·) (IntKind.u64.wrap a1) 4294967295))) + ((IntKind.u64.wrap ((bits2 .u64 (· &&& ·) (IntKind.u64.wrap (a0.length : Int)) 4294967295) * (bits2 .u64 (· &&& ·) (IntKind.u64.wrap a1) 4294967295))).fdiv (2 ^ 32)))).fdiv (2 ^ 32)))) + ((IntKind.u64.wrap ((bits2 .u64 (· &&& ·) (IntKind.u64.wrap ((IntKind.u64.wrap (((IntKind.u64.wrap (a0.length : Int)).fdiv (2 ^ 32)) * (bits2 .u64 (· &&& ·) (IntKind.u64.wrap a1) 4294967295))) + ((IntKind.u64.wrap ((bits2 .u64 (· &&& ·) (IntKind.u64.wrap (a0.length : Int)) 4294967295) * (bits2 .u64 (· &&& ·) (IntKind.u64.wrap a1) 4294967295))).fdiv (2 ^ 32)))) 4294967295) + (IntKind.u64.wrap ((bits2 .u64 (· &&& ·) (IntKind.u64.wrap (a0.length : Int)) 4294967295) * ((IntKind.u64.wrap a1).fdiv (2 ^ 32)))))).fdiv (2 ^ 32))))), .c (.int .u64 (IntKind.u64.wrap ((IntKind.u64.wrap (a0.length : Int)) * (IntKind.u64.wrap a1))))]) [], bF, bF, bF, bF, bF, .loop [] [7, 8] [0, 1] (.exit 0) (slices.Repeat_int_int.l0_1.e0 a0 x2)] [] [0, 1] (nd c1 (nd (math_bits.Mul.spec (IntKind.u64.wrap (a0.length : Int)) (IntKind.u64.wrap a1) _ e1) (nd c2 (nd c2 (nd c2 (nd c3 (nd p1 (nd (rfl : (w64 (IntKind.u64.wrap ((IntKind.u64.wrap (a0.length : Int)) * (IntKind.u64.wrap a1)))) = (w64 (IntKind.u64.wrap ((IntKind.u64.wrap (a0.length : Int)) * (IntKind.u64.wrap a1))))) (nd p2 (nd (Nat.le_of_lt (Nat.lt_of_not_le (of_decide_eq_false c4))) (nd p3 (nd p4 (nd (LoopSpec.eqs (slices.Repeat_int_int.l0_1.spec a0 K (overL (List.replicate (w64 (IntKind.u64.wrap ((IntKind.u64.wrap (a0.length : Int)) * (IntKind.u64.wrap a1)))).toNat (0 : Int)) 0 a0 0 ((List.replicate (w64 (IntKind.u64.wrap ((IntKind.u64.wrap (a0.length : Int)) * (IntKind.u64.wrap a1)))).toNat (0 : Int)).length)) ((List.replicate (w64 (IntKind.u64.wrap ((IntKind.u64.wrap (a0.length : Int)) * (IntKind.u64.wrap a1)))).toNat (0 : Int)).length : Int) _ e2) (by simp only [slices.Repeat_int_int.l0_1.s, List.length_set, overL_length] : slices.Repeat_int_int.l0_1.s a0 (overL (List.replicate (w64 (IntKind.u64.wrap ((IntKind.u64.wrap (a0.length : Int)) * (IntKind.u64.wrap a1)))).toNat (0 : Int)) 0 a0 0 ((List.replicate (w64 (IntKind.u64.wrap ((IntKind.u64.wrap (a0.length : Int)) * (IntKind.u64.wrap a1)))).toNat (0 : Int)).length)) ((List.replicate (w64 (IntKind.u64.wrap ((IntKind.u64.wrap (a0.length : Int)) * (IntKind.u64.wrap a1)))).toNat (0 : Int)).length : Int) = mkSt 48 [(7, one (.sl 1 0 ((List.replicate (w64 (IntKind.u64.wrap ((IntKind.u64.wrap (a0.length : Int)) * (IntKind.u64.wrap a1)))).toNat (0 : Int)).length))), (8, one (.int .i64 ((List.replicate (w64 (IntKind.u64.wrap ((IntKind.u64.wrap (a0.length : Int)) * (IntKind.u64.wrap a1)))).toNat (0 : Int)).length : Int)))] [some ⟨false, .ints .i64 a0⟩, some ⟨true, .ints .i64 (overL (List.replicate (w64 (IntKind.u64.wrap ((IntKind.u64.wrap (a0.length : Int)) * (IntKind.u64.wrap a1)))).toNat (0 : Int)) 0 a0 0 ((List.replicate (w64 (IntKind.u64.wrap ((IntKind.u64.wrap (a0.length : Int)) * (IntKind.u64.wrap a1)))).toNat (0 : Int)).length))⟩])) trivial))))))))))))) (by kernel_rfl)
def impl.GetNum.l0.f (a0 : List Int) (a1 : Int) : Nat → Int → Int → Option ((Int × Int × Bool) ⊕ Unit)
  | 0, _, _ => none
  | k + 1, v27_0, v27_1 =>
    cond (decide (v27_1 < 5)) (cond (decide ((w64 (a1 + v27_1)) < (a0.length : Int))) (ck (0 ≤ (w64 (a1 + v27_1))) (ck (0 ≤ (w64 (7 * v27_1))) (cond (decide ((w64 (a0.getD ((w64 (a1 + v27_1)).toNat) 0)) > 127)) (impl.GetNum.l0.f a0 a1 k (bits2 .i64 (· ||| ·) v27_0 (w64 ((bits2 .i64 (· &&& ·) (w64 (a0.getD ((w64 (a1 + v27_1)).toNat) 0)) 127) * 2 ^ (min (w64 (7 * v27_1)).toNat 64)))) (w64 (v27_1 + 1))) (cond ((w64 (a0.getD ((w64 (a1 + v27_1)).toNat) 0)) == 0) (cond (decide (v27_1 > 0)) (some (.inl (0, 0, false))) (cond (decide ((bits2 .i64 (· ||| ·) v27_0 (w64 ((bits2 .i64 (· &&& ·) (w64 (a0.getD ((w64 (a1 + v27_1)).toNat) 0)) 127) * 2 ^ (min (w64 (7 * v27_1)).toNat 64)))) > 1000000000)) (some (.inl (0, 0, false))) (some (.inl (bits2 .i64 (· ||| ·) v27_0 (w64 ((bits2 .i64 (· &&& ·) (w64 (a0.getD ((w64 (a1 + v27_1)).toNat) 0)) 127) * 2 ^ (min (w64 (7 * v27_1)).toNat 64))), w64 ((w64 (a1 + v27_1)) + 1), true))))) (cond (decide ((bits2 .i64 (· ||| ·) v27_0 (w64 ((bits2 .i64 (· &&& ·) (w64 (a0.getD ((w64 (a1 + v27_1)).toNat) 0)) 127) * 2 ^ (min (w64 (7 * v27_1)).toNat 64)))) > 1000000000)) (some (.inl (0, 0, false))) (some (.inl (bits2 .i64 (· ||| ·) v27_0 (w64 ((bits2 .i64 (· &&& ·) (w64 (a0.getD ((w64 (a1 + v27_1)).toNat) 0)) 127) * 2 ^ (min (w64 (7 * v27_1)).toNat 64))), w64 ((w64 (a1 + v27_1)) + 1), true)))))))) (some (.inr (())))) (some (.inr (())))
def impl.GetNum.l0.s (a0 : List Int) (a1 : Int) (v27_0 : Int) (v27_1 : Int) : St := mkSt 58 [(0, one (.sl 0 0 a0.length)), (1, one (.int .i64 a1)), (7, one (.int .i64 v27_0)), (8, one (.int .i64 v27_1))] [some ⟨false, .ints .u8 a0⟩]
def impl.GetNum.l0.e0 (a0 : List Int) (a1 : Int) (o : Int × Int × Bool) : St := mkSt 58 [(4, one (.int .i64 o.1)), (5, one (.int .i64 o.2.1)), (6, one (.bool o.2.2))] [some ⟨false, .ints .u8 a0⟩]
def impl.GetNum.l0.e1 (a0 : List Int) (a1 : Int) (o : Unit) : St := mkSt 58 [] [some ⟨false, .ints .u8 a0⟩]
def impl.GetNum.l0.x (a0 : List Int) (a1 : Int) : ((Int × Int × Bool) ⊕ Unit) → AExit × St := Sum.elim (fun o => (.ret, impl.GetNum.l0.e0 a0 a1 o)) (fun o => (.exit 0, impl.GetNum.l0.e1 a0 a1 o))
theorem impl.GetNum.l0.spec (a0 : List Int) (a1 : Int) : ∀ (k : Nat) (v27_0 : Int) (v27_1 : Int) (o : (Int × Int × Bool) ⊕ Unit), impl.GetNum.l0.f a0 a1 k v27_0 v27_1 = some o → LoopSpec Tryz.prog 1 (loopN Tryz.f84 0) (impl.GetNum.l0.s a0 a1 v27_0 v27_1) (impl.GetNum.l0.x a0 a1 o).1 (impl.GetNum.l0.x a0 a1 o).2
  | 0, _, _, _, h => by cases h
  | k + 1, v27_0, v27_1, o, h => by
    unfold impl.GetNum.l0.f at h
    rcases br_cases h with ⟨c1, h⟩ | ⟨c1, h⟩
    · rcases br_cases h with ⟨c2, h⟩ | ⟨c2, h⟩
      · obtain ⟨p1, h⟩ := ck_some h
        obtain ⟨p2, h⟩ := ck_some h
        rcases br_cases h with ⟨c3, h⟩ | ⟨c3, h⟩
        · exact .of_step tab mixed [bT, bT, bT, bT, bT, bT, bT, bT, bT] [] [0, 1, 7, 8] [0] (s1 := impl.GetNum.l0.s a0 a1 (bits2 .i64 (· ||| ·) v27_0 (w64 ((bits2 .i64 (· &&& ·) (w64 (a0.getD ((w64 (a1 + v27_1)).toNat) 0)) 127) * 2 ^ (min (w64 (7 * v27_1)).toNat 64)))) (w64 (v27_1 + 1))) (nd c1 (nd c1 (nd c1 (nd c1 (nd c1 (nd c1 (nd c1 (nd c2 (nd p1 (nd (of_decide_eq_true c2) (nd (tn p1 (of_decide_eq_true c2)) (nd p2 (nd c3 trivial))))))))))))) (by kernel_rfl) (impl.GetNum.l0.spec a0 a1 k (bits2 .i64 (· ||| ·) v27_0 (w64 ((bits2 .i64 (· &&& ·) (w64 (a0.getD ((w64 (a1 + v27_1)).toNat) 0)) 127) * 2 ^ (min (w64 (7 * v27_1)).toNat 64)))) (w64 (v27_1 + 1)) _ h)
        · rcases br_cases h with ⟨c4, h⟩ | ⟨c4, h⟩
          · rcases br_cases h with ⟨c5, h⟩ | ⟨c5, h⟩
            · obtain rfl := Option.some.inj h
              exact .of_done tab mixed [bT, bT, bT, bT, bT, bT, bT, bT, bF, bT, bT, bT, bT, bT, bT, bT] [] [4, 5, 6] [0] rfl (nd c1 (nd c1 (nd c1 (nd c1 (nd c1 (nd c1 (nd c1 (nd c2 (nd p1 (nd (of_decide_eq_true c2) (nd (tn p1 (of_decide_eq_true c2)) (nd p2 (nd c3 (nd c4 (nd c4 (nd c4 (nd c5 (nd c5 (nd c5 (nd tt trivial)))))))))))))))))))) (by kernel_rfl)
            · rcases br_cases h with ⟨c6, h⟩ | ⟨c6, h⟩
              · obtain rfl := Option.some.inj h
                exact .of_done tab mixed [bT, bT, bT, bT, bT, bT, bT, bT, bF, bT, bT, bT, bF, bF, bF, bT] [] [4, 5, 6] [0] rfl (nd c1 (nd c1 (nd c1 (nd c1 (nd c1 (nd c1 (nd c1 (nd c2 (nd p1 (nd (of_decide_eq_true c2) (nd (tn p1 (of_decide_eq_true c2)) (nd p2 (nd c3 (nd c4 (nd c4 (nd c4 (nd c5 (nd c5 (nd c5 (nd c6 trivial)))))))))))))))))))) (by kernel_rfl)
              · obtain rfl := Option.some.inj h
                exact .of_done tab mixed [bT, bT, bT, bT, bT, bT, bT, bT, bF, bT, bT, bT, bF, bF, bF, bF] [] [4, 5, 6] [0] rfl (nd c1 (nd c1 (nd c1 (nd c1 (nd c1 (nd c1 (nd c1 (nd c2 (nd p1 (nd (of_decide_eq_true c2) (nd (tn p1 (of_decide_eq_true c2)) (nd p2 (nd c3 (nd c4 (nd c4 (nd c4 (nd c5 (nd c5 (nd c5 (nd c6 trivial)))))))))))))))))))) (by kernel_rfl)
          · rcases br_cases h with ⟨c5, h⟩ | ⟨c5, h⟩
            · obtain rfl := Option.some.inj h
              exact .of_done tab mixed [bT, bT, bT, bT, bT, bT, bT, bT, bF, bF, bF, bF, bF, bF, bF, bT] [] [4, 5, 6] [0] rfl (nd c1 (nd c1 (nd c1 (nd c1 (nd c1 (nd c1 (nd c1 (nd c2 (nd p1 (nd (of_decide_eq_true c2) (nd (tn p1 (of_decide_eq_true c2)) (nd p2 (nd c3 (nd c4 (nd c4 (nd c4 (nd ff (nd ff (nd ff (nd c5 trivial)))))))))))))))))))) (by kernel_rfl)
            · obtain rfl := Option.some.inj h
              exact .of_done tab mixed [bT, bT, bT, bT, bT, bT, bT, bT, bF, bF, bF, bF, bF, bF, bF, bF] [] [4, 5, 6] [0] rfl (nd c1 (nd c1 (nd c1 (nd c1 (nd c1 (nd c1 (nd c1 (nd c2 (nd p1 (nd (of_decide_eq_true c2) (nd (tn p1 (of_decide_eq_true c2)) (nd p2 (nd c3 (nd c4 (nd c4 (nd c4 (nd ff (nd ff (nd ff (nd c5 trivial)))))))))))))))))))) (by kernel_rfl)
      · obtain rfl := Option.some.inj h
        exact .of_done tab mixed [bT, bT, bT, bT, bT, bT, bT, bF] [] [] [0] rfl (nd c1 (nd c1 (nd c1 (nd c1 (nd c1 (nd c1 (nd c1 (nd c2 trivial)))))))) (by kernel_rfl)
    · obtain rfl := Option.some.inj h
      exact .of_done tab mixed [bF, bF, bF, bF, bF, bF, bF, bF] [] [] [0] rfl (nd c1 (nd c1 (nd c1 (nd c1 (nd c1 (nd c1 (nd c1 (nd ff trivial)))))))) (by kernel_rfl)
def impl.GetNum.f (K : Nat) (a0 : List Int) (a1 : Int) : Option (Int × Int × Bool) :=
  Option.bind (impl.in_.f a1 0 (a0.length : Int)) fun x1 => cond (x1) (Option.bind (impl.GetNum.l0.f a0 a1 K 0 0) fun x2 => (Sum.elim (fun x2 => some (x2.1, x2.2.1, x2.2.2)) (fun x2 => some (0, 0, false))) x2) (some (0, 0, false))
theorem impl.GetNum.spec (K : Nat) (a0 : List Int) (a1 : Int) (o : Int × Int × Bool) (h : impl.GetNum.f K a0 a1 = some o) : Den.Spec Tryz.prog 84 [one (.sl 0 0 a0.length), one (.int .i64 a1)] [some ⟨false, .ints .u8 a0⟩] (.tup [.c (.int .i64 o.1), .c (.int .i64 o.2.1), .c (.bool o.2.2)]) [some ⟨false, .ints .u8 a0⟩] := by
  unfold impl.GetNum.f at h
  obtain ⟨x1, e1, h⟩ := bind_some h
  rcases br_cases h with ⟨c1, h⟩ | ⟨c1, h⟩
  · obtain ⟨x2, e2, h⟩ := bind_some h
    rcases x2 with x2 | x2
    · obtain rfl := Option.some.inj h
      exact Den.Spec.of_walk tab mixed Tryz.func84 (by kernel_rfl) [.call [] [] (one (.bool x1)) [], bF, .loop [] [0, 1, 7, 8] [0] (.ret) (impl.GetNum.l0.e0 a0 a1 x2)] [] [0] (nd (impl.in_.spec a1 0 (a0.length : Int) _ e1) (nd (nf c1) (nd (impl.GetNum.l0.spec a0 a1 K 0 0 _ e2) trivial))) (by kernel_rfl)
    · obtain rfl := Option.some.inj h
      exact Den.Spec.of_walk tab mixed Tryz.func84 (by kernel_rfl) [.call [] [] (one (.bool x1)) [], bF, .loop [] [0, 1, 7, 8] [0] (.exit 0) (impl.GetNum.l0.e1 a0 a1 x2)] [] [0] (nd (impl.in_.spec a1 0 (a0.length : Int) _ e1) (nd (nf c1) (nd (impl.GetNum.l0.spec a0 a1 K 0 0 _ e2) trivial))) (by kernel_rfl)
  · obtain rfl := Option.some.inj h
    exact Den.Spec.of_walk tab mixed Tryz.func84 (by kernel_rfl) [.call [] [] (one (.bool x1)) [], bT] [] [0] (nd (impl.in_.spec a1 0 (a0.length : Int) _ e1) (nd (nt c1) trivial)) (by kernel_rfl)
def impl.reader.number.f (K : Nat) (a0 : List Int) (a1 : Int) (a2 : Bool) : Option (Int × Int × Bool) :=
  Option.bind (impl.GetNum.f K a0 a1) fun x1 => cond (a2) (some (0, a1, true)) (cond (x1.2.2) (some (x1.1, x1.2.1, a2)) (some (0, a1, true)))
theorem impl.reader.number.spec (K : Nat) (a0 : List Int) (a1 : Int) (a2 : Bool) (o : Int × Int × Bool) (h : impl.reader.number.f K a0 a1 a2 = some o) : Den.Spec Tryz.prog 46 [one (.ptr 0 0 0)] [some ⟨true, .cells [.sl 1 0 a0.length, .int .i64 a1, .bool a2]⟩, some ⟨true, .ints .u8 a0⟩] (one (.int .i64 o.1)) [some ⟨true, .cells [.sl 1 0 a0.length, .int .i64 o.2.1, .bool o.2.2]⟩, some ⟨true, .ints .u8 a0⟩] := by
  unfold impl.reader.number.f at h
  obtain ⟨x1, e1, h⟩ := bind_some h
  rcases br_cases h with ⟨c1, h⟩ | ⟨c1, h⟩
  · obtain rfl := Option.some.inj h
    exact Den.Spec.of_walk tab mixed Tryz.func46 (by kernel_rfl) [.call [] [(0, true)] (.tup [.c (.int .i64 x1.1), .c (.int .i64 x1.2.1), .c (.bool x1.2.2)]) (iF a0), bT, bT, bT, bT] [] [0, 1] (nd (impl.GetNum.spec K a0 a1 _ e1) (n0 (nl a0 (nd c1 (nd c1 (nd c1 (nd tt trivial))))))) (by kernel_rfl)
  · rcases br_cases h with ⟨c2, h⟩ | ⟨c2, h⟩
    · obtain rfl := Option.some.inj h
      exact Den.Spec.of_walk tab mixed Tryz.func46 (by kernel_rfl) [.call [] [(0, true)] (.tup [.c (.int .i64 x1.1), .c (.int .i64 x1.2.1), .c (.bool x1.2.2)]) (iF a0), bF, bF, bF, bF] [] [0, 1] (nd (impl.GetNum.spec K a0 a1 _ e1) (n0 (nl a0 (nd c1 (nd c1 (nd c1 (nd (nf c2) trivial))))))) (by kernel_rfl)
    · obtain rfl := Option.some.inj h
      exact Den.Spec.of_walk tab mixed Tryz.func46 (by kernel_rfl) [.call [] [(0, true)] (.tup [.c (.int .i64 x1.1), .c (.int .i64 x1.2.1), .c (.bool x1.2.2)]) (iF a0), bF, bF, bF, bT] [] [0, 1] (nd (impl.GetNum.spec K a0 a1 _ e1) (n0 (nl a0 (nd c1 (nd c1 (nd c1 (nd (nt c2) trivial))))))) (by kernel_rfl)
def impl.Sum.l0.f (a0 : List Int) : Nat → Int → Int → Option (Int)
  | 0, _, _ => none
  | k + 1, v31_0, v31_1 =>
    cond (decide (v31_1 < (a0.length : Int))) (ck (0 ≤ v31_1) (impl.Sum.l0.f a0 k ((w64 ((w64 (31 * v31_0)) + (w64 (a0.getD v31_1.toNat 0)))).tmod 1000003) (w64 (v31_1 + 1)))) (some v31_0)
def impl.Sum.l0.s (a0 : List Int) (v31_0 : Int) (v31_1 : Int) : St := mkSt 20 [(3, one (.int .i64 v31_0)), (6, one (.sl 0 0 a0.length)), (7, one (.int .i64 (a0.length : Int))), (8, one (.int .i64 v31_1))] [some ⟨false, .ints .u8 a0⟩]
def impl.Sum.l0.e0 (a0 : List Int) (o : Int) : St := mkSt 20 [(3, one (.int .i64 o))] [some ⟨false, .ints .u8 a0⟩]
def impl.Sum.l0.x (a0 : List Int) : (Int) → AExit × St := fun o => (.exit 0, impl.Sum.l0.e0 a0 o)
theorem impl.Sum.l0.spec (a0 : List Int) : ∀ (k : Nat) (v31_0 : Int) (v31_1 : Int) (o : Int), impl.Sum.l0.f a0 k v31_0 v31_1 = some o → LoopSpec Tryz.prog 1 (loopN Tryz.f83 0) (impl.Sum.l0.s a0 v31_0 v31_1) (impl.Sum.l0.x a0 o).1 (impl.Sum.l0.x a0 o).2
  | 0, _, _, _, h => by cases h
  | k + 1, v31_0, v31_1, o, h => by
    unfold impl.Sum.l0.f at h
    rcases br_cases h with ⟨c1, h⟩ | ⟨c1, h⟩
    · obtain ⟨p1, h⟩ := ck_some h
      exact .of_step tab mixed [bT] [] [3, 6, 7, 8] [0] (s1 := impl.Sum.l0.s a0 ((w64 ((w64 (31 * v31_0)) + (w64 (a0.getD v31_1.toNat 0)))).tmod 1000003) (w64 (v31_1 + 1))) (nd c1 (nd p1 (nd (of_decide_eq_true c1) (nd (tn p1 (of_decide_eq_true c1)) (nd (by decide : (1000003 : Int) ≠ 0) trivial))))) (by kernel_rfl) (impl.Sum.l0.spec a0 k ((w64 ((w64 (31 * v31_0)) + (w64 (a0.getD v31_1.toNat 0)))).tmod 1000003) (w64 (v31_1 + 1)) _ h)
    · obtain rfl := Option.some.inj h
      exact .of_done tab mixed [bF] [] [3] [0] rfl (nd c1 trivial) (by kernel_rfl)
def impl.Sum.f (K : Nat) (a0 : List Int) : Option (Int) :=
  Option.bind (impl.Sum.l0.f a0 K 7 0) fun x1 => some x1
theorem impl.Sum.spec (K : Nat) (a0 : List Int) (o : Int) (h : impl.Sum.f K a0 = some o) : Den.Spec Tryz.prog 83 [one (.sl 0 0 a0.length)] [some ⟨false, .ints .u8 a0⟩] (one (.int .i64 o)) [some ⟨false, .ints .u8 a0⟩] := by
  unfold impl.Sum.f at h
  obtain ⟨x1, e1, h⟩ := bind_some h
  obtain rfl := Option.some.inj h
  exact Den.Spec.of_walk tab mixed Tryz.func83 (by kernel_rfl) [.loop [] [3, 6, 7, 8] [0] (.exit 0) (impl.Sum.l0.e0 a0 x1)] [] [0] (nd (impl.Sum.l0.spec a0 K 7 0 _ e1) trivial) (by kernel_rfl)
def impl.unsummed.f (K : Nat) (a0 : ByteArray) : Option (Int × Bool) :=
  Option.bind (impl.reader.number.f K (bytesL a0) 0 false) fun x1 => cond (x1.2.2) (some (x1.2.1, true)) (ck (0 ≤ x1.2.1) (ck (x1.2.1 ≤ ((bytesL a0).length : Int)) (Option.bind (impl.Sum.f K (((bytesL a0).drop x1.2.1.toNat).take ((bytesL a0).length - x1.2.1.toNat))) fun x2 => ck (x1.2.1.toNat + ((bytesL a0).length - x1.2.1.toNat) ≤ (bytesL a0).length) (some (x1.2.1, x1.1 != x2)))))
theorem impl.unsummed.spec (K : Nat) (a0 : ByteArray) (o : Int × Bool) (h : impl.unsummed.f K a0 = some o) : Den.Spec Tryz.prog 45 [one (.str a0)] [] (one (.ptr 0 0 0)) [some ⟨true, .cells [.sl 1 0 ((bytesL a0).length), .int .i64 o.1, .bool o.2]⟩, some ⟨true, .ints .u8 (bytesL a0)⟩] := by
  unfold impl.unsummed.f at h
  obtain ⟨x1, e1, h⟩ := bind_some h
  rcases br_cases h with ⟨c1, h⟩ | ⟨c1, h⟩
  · obtain rfl := Option.some.inj h
    exact Den.Spec.of_walk tab mixed Tryz.func45 (by kernel_rfl) [.call [(1, true), (0, true)] [] (one (.int .i64 x1.1)) [some ⟨true, .cells [.sl 1 0 ((bytesL a0).length), .int .i64 x1.2.1, .bool x1.2.2]⟩, some ⟨true, .ints .u8 (bytesL a0)⟩], bT, bT, bT, bT, bT, bT, bT, bT, bT, bT, bT, bT, bT] [] [1, 0] (nd (impl.reader.number.spec K (bytesL a0) 0 false _ e1) (nd c1 (nd c1 (nd c1 (nd c1 (nd c1 (nd c1 (nd c1 (nd c1 (nd c1 (nd c1 (nd c1 (nd c1 (nd c1 trivial)))))))))))))) (by kernel_rfl)
  · obtain ⟨p1, h⟩ := ck_some h
    obtain ⟨p2, h⟩ := ck_some h
    obtain ⟨x2, e2, h⟩ := bind_some h
    obtain ⟨p3, h⟩ := ck_some h
    obtain rfl := Option.some.inj h
    exact Den.Spec.of_walk tab mixed Tryz.func45 (by kernel_rfl) [.call [(1, true), (0, true)] [] (one (.int .i64 x1.1)) [some ⟨true, .cells [.sl 1 0 ((bytesL a0).length), .int .i64 x1.2.1, .bool x1.2.2]⟩, some ⟨true, .ints .u8 (bytesL a0)⟩], bF, bF, bF, bF, bF, bF, bF, bF, bF, bF, bF, .call [] [(0, false)] (one (.int .i64 x2)) [some ⟨false, .ints .u8 (((bytesL a0).drop x1.2.1.toNat).take ((bytesL a0).length - x1.2.1.toNat))⟩], bF, bF] [] [1, 0] (nd (impl.reader.number.spec K (bytesL a0) 0 false _ e1) (nd c1 (nd c1 (nd c1 (nd c1 (nd c1 (nd c1 (nd c1 (nd c1 (nd c1 (nd c1 (nd p1 (nd p2 (nd (Int.le_refl ((bytesL a0).length : Int)) (nd c1 (nd ((impl.Sum.spec K (((bytesL a0).drop x1.2.1.toNat).take ((bytesL a0).length - x1.2.1.toNat)) _ e2).args (congrArg (fun n => ([one (.sl 0 0 n)] : List AV)) (win_len p3))) (nd c1 (nd c1 trivial)))))))))))))))))) (by kernel_rfl)
def impl.GetText.f (K : Nat) (a0 : List Int) (a1 : Int) : Option (ByteArray × Int × Bool) :=
  Option.bind (impl.GetNum.f K a0 a1) fun x1 => cond (x1.2.2) (cond (decide (x1.1 > 400)) (some (noVal, 0, false)) (cond (decide (x1.1 > (w64 ((a0.length : Int) - x1.2.1)))) (some (noVal, 0, false)) (ck (0 ≤ x1.2.1) (ck (x1.2.1 ≤ (w64 (x1.2.1 + x1.1))) (ck ((w64 (x1.2.1 + x1.1)) ≤ (a0.length : Int)) (ck (x1.2.1.toNat + ((w64 (x1.2.1 + x1.1)).toNat - x1.2.1.toNat) ≤ a0.length) (some (ofBytes ((a0.drop x1.2.1.toNat).take ((w64 (x1.2.1 + x1.1)).toNat - x1.2.1.toNat)), w64 (x1.2.1 + x1.1), true)))))))) (some (noVal, 0, false))
theorem impl.GetText.spec (K : Nat) (a0 : List Int) (a1 : Int) (o : ByteArray × Int × Bool) (h : impl.GetText.f K a0 a1 = some o) : Den.Spec Tryz.prog 85 [one (.sl 0 0 a0.length), one (.int .i64 a1)] [some ⟨false, .ints .u8 a0⟩] (.tup [.c (.str o.1), .c (.int .i64 o.2.1), .c (.bool o.2.2)]) [some ⟨false, .ints .u8 a0⟩] := by
  unfold impl.GetText.f at h
  obtain ⟨x1, e1, h⟩ := bind_some h
  rcases br_cases h with ⟨c1, h⟩ | ⟨c1, h⟩
  · rcases br_cases h with ⟨c2, h⟩ | ⟨c2, h⟩
    · obtain rfl := Option.some.inj h
      exact Den.Spec.of_walk tab mixed Tryz.func85 (by kernel_rfl) [.call [] [(0, true)] (.tup [.c (.int .i64 x1.1), .c (.int .i64 x1.2.1), .c (.bool x1.2.2)]) (iF a0), bF, bF, bF, bT, bT, bT, bT, bT, bT, bT, bT] [] [0] (nd (impl.GetNum.spec K a0 a1 _ e1) (n0 (nl a0 (nd (nf c1) (nd (nf c1) (nd (nf c1) (nd c2 (nd c2 (nd c2 (nd c2 (nd c2 (nd c2 (nd c2 (nd tt trivial)))))))))))))) (by kernel_rfl)
    · rcases br_cases h with ⟨c3, h⟩ | ⟨c3, h⟩
      · obtain rfl := Option.some.inj h
        exact Den.Spec.of_walk tab mixed Tryz.func85 (by kernel_rfl) [.call [] [(0, true)] (.tup [.c (.int .i64 x1.1), .c (.int .i64 x1.2.1), .c (.bool x1.2.2)]) (iF a0), bF, bF, bF, bF, bF, bF, bF, bF, bF, bF, bT] [] [0] (nd (impl.GetNum.spec K a0 a1 _ e1) (n0 (nl a0 (nd (nf c1) (nd (nf c1) (nd (nf c1) (nd c2 (nd c2 (nd c2 (nd c2 (nd c2 (nd c2 (nd c2 (nd c3 trivial)))))))))))))) (by kernel_rfl)
      · obtain ⟨p1, h⟩ := ck_some h
        obtain ⟨p2, h⟩ := ck_some h
        obtain ⟨p3, h⟩ := ck_some h
        obtain ⟨p4, h⟩ := ck_some h
        obtain rfl := Option.some.inj h
        exact Den.Spec.of_walk tab mixed Tryz.func85 (by kernel_rfl) [.call [] [(0, true)] (.tup [.c (.int .i64 x1.1), .c (.int .i64 x1.2.1), .c (.bool x1.2.2)]) (iF a0), bF, bF, bF, bF, bF, bF, bF, bF, bF, bF, bF, bF] [] [0] (nd (impl.GetNum.spec K a0 a1 _ e1) (n0 (nl a0 (nd (nf c1) (nd (nf c1) (nd (nf c1) (nd c2 (nd c2 (nd c2 (nd c2 (nd c2 (nd c2 (nd c2 (nd c3 (nd p1 (nd p2 (nd p3 (nd p4 trivial)))))))))))))))))) (by kernel_rfl)
  · obtain rfl := Option.some.inj h
    exact Den.Spec.of_walk tab mixed Tryz.func85 (by kernel_rfl) [.call [] [(0, true)] (.tup [.c (.int .i64 x1.1), .c (.int .i64 x1.2.1), .c (.bool x1.2.2)]) (iF a0), bT, bT, bT, bT, bT, bT, bT, bT, bT, bT, bT] [] [0] (nd (impl.GetNum.spec K a0 a1 _ e1) (n0 (nl a0 (nd (nt c1) (nd (nt c1) (nd (nt c1) (nd tt (nd tt (nd tt (nd tt (nd tt (nd tt (nd tt (nd tt trivial)))))))))))))) (by kernel_rfl)
def impl.reader.text.f (K : Nat) (a0 : List Int) (a1 : Int) (a2 : Bool) : Option (ByteArray × Int × Bool) :=
  Option.bind (impl.GetText.f K a0 a1) fun x1 => cond (a2) (some (noVal, a1, true)) (cond (x1.2.2) (some (x1.1, x1.2.1, a2)) (some (noVal, a1, true)))
theorem impl.reader.text.spec (K : Nat) (a0 : List Int) (a1 : Int) (a2 : Bool) (o : ByteArray × Int × Bool) (h : impl.reader.text.f K a0 a1 a2 = some o) : Den.Spec Tryz.prog 47 [one (.ptr 0 0 0)] [some ⟨true, .cells [.sl 1 0 a0.length, .int .i64 a1, .bool a2]⟩, some ⟨true, .ints .u8 a0⟩] (one (.str o.1)) [some ⟨true, .cells [.sl 1 0 a0.length, .int .i64 o.2.1, .bool o.2.2]⟩, some ⟨true, .ints .u8 a0⟩] := by
  unfold impl.reader.text.f at h
  obtain ⟨x1, e1, h⟩ := bind_some h
  rcases br_cases h with ⟨c1, h⟩ | ⟨c1, h⟩
  · obtain rfl := Option.some.inj h
    exact Den.Spec.of_walk tab mixed Tryz.func47 (by kernel_rfl) [.call [] [(0, true)] (.tup [.c (.str x1.1), .c (.int .i64 x1.2.1), .c (.bool x1.2.2)]) (iF a0), bT, bT, bT, bT] [] [0, 1] (nd (impl.GetText.spec K a0 a1 _ e1) (n0 (nl a0 (nd c1 (nd c1 (nd c1 (nd tt trivial))))))) (by kernel_rfl)
  · rcases br_cases h with ⟨c2, h⟩ | ⟨c2, h⟩
    · obtain rfl := Option.some.inj h
      exact Den.Spec.of_walk tab mixed Tryz.func47 (by kernel_rfl) [.call [] [(0, true)] (.tup [.c (.str x1.1), .c (.int .i64 x1.2.1), .c (.bool x1.2.2)]) (iF a0), bF, bF, bF, bF] [] [0, 1] (nd (impl.GetText.spec K a0 a1 _ e1) (n0 (nl a0 (nd c1 (nd c1 (nd c1 (nd (nf c2) trivial))))))) (by kernel_rfl)
    · obtain rfl := Option.some.inj h
      exact Den.Spec.of_walk tab mixed Tryz.func47 (by kernel_rfl) [.call [] [(0, true)] (.tup [.c (.str x1.1), .c (.int .i64 x1.2.1), .c (.bool x1.2.2)]) (iF a0), bF, bF, bF, bT] [] [0, 1] (nd (impl.GetText.spec K a0 a1 _ e1) (n0 (nl a0 (nd c1 (nd c1 (nd c1 (nd (nt c2) trivial))))))) (by kernel_rfl)
def impl.reader.done.f (a0 : List Int) (a1 : Int) (a2 : Bool) : Option (Bool) :=
  cond (a2) (some false) (some (a1 == (a0.length : Int)))
theorem impl.reader.done.spec (a0 : List Int) (a1 : Int) (a2 : Bool) (o : Bool) (h : impl.reader.done.f a0 a1 a2 = some o) : Den.Spec Tryz.prog 48 [one (.ptr 0 0 0)] [some ⟨false, .cells [.sl 1 0 a0.length, .int .i64 a1, .bool a2]⟩, some ⟨false, .ints .u8 a0⟩] (one (.bool o)) [some ⟨false, .cells [.sl 1 0 a0.length, .int .i64 a1, .bool a2]⟩, some ⟨false, .ints .u8 a0⟩] := by
  unfold impl.reader.done.f at h
  rcases br_cases h with ⟨c1, h⟩ | ⟨c1, h⟩
  · obtain rfl := Option.some.inj h
    exact Den.Spec.of_walk tab mixed Tryz.func48 (by kernel_rfl) [bF, bF, bF, bF, bF, bF, bF, bF, bF, bF, bF] [] [0, 1] (nd (nf c1) (nd (nf c1) (nd (nf c1) (nd (nf c1) (nd (nf c1) (nd (nf c1) (nd (nf c1) (nd (nf c1) (nd (nf c1) (nd (nf c1) (nd (nf c1) trivial))))))))))) (by kernel_rfl)
  · obtain rfl := Option.some.inj h
    exact Den.Spec.of_walk tab mixed Tryz.func48 (by kernel_rfl) [bT, bT, bT, bT, bT, bT, bT, bT, bT, bT, bT] [] [0, 1] (nd (nt c1) (nd (nt c1) (nd (nt c1) (nd (nt c1) (nd (nt c1) (nd (nt c1) (nd (nt c1) (nd (nt c1) (nd (nt c1) (nd (nt c1) (nd (nt c1) trivial))))))))))) (by kernel_rfl)
def impl.isSector.f (a0 : Int) : Option (Bool) :=
  Option.bind (impl.in_.f a0 0 25) fun x1 => some x1
theorem impl.isSector.spec (a0 : Int) (o : Bool) (h : impl.isSector.f a0 = some o) : Den.Spec Tryz.prog 102 [one (.int .i64 a0)] [] (one (.bool o)) [] := by
  unfold impl.isSector.f at h
  obtain ⟨x1, e1, h⟩ := bind_some h
  obtain rfl := Option.some.inj h
  exact Den.Spec.of_walk tab mixed Tryz.func102 (by kernel_rfl) [.call [] [] (one (.bool x1)) []] [] [] (nd (impl.in_.spec a0 0 25 _ e1) trivial) (by kernel_rfl)
def impl.RecOk.f (a0 : Int) (a1 : Int) (a2 : ByteArray) : Option (Bool) :=
  Option.bind (impl.isSector.f a0) fun x1 => cond (x1) (Option.bind (impl.in_.f a1 1 1000000000) fun x2 => cond (x2) (some (decide ((a2.size : Int) ≤ 400))) (some false)) (some false)
theorem impl.RecOk.spec (a0 : Int) (a1 : Int) (a2 : ByteArray) (o : Bool) (h : impl.RecOk.f a0 a1 a2 = some o) : Den.Spec Tryz.prog 119 [.v (.agg [.int .i64 a0, .int .i64 a1, .str a2])] [] (one (.bool o)) [] := by
  unfold impl.RecOk.f at h
  obtain ⟨x1, e1, h⟩ := bind_some h
  rcases br_cases h with ⟨c1, h⟩ | ⟨c1, h⟩
  · obtain ⟨x2, e2, h⟩ := bind_some h
    rcases br_cases h with ⟨c2, h⟩ | ⟨c2, h⟩
    · obtain rfl := Option.some.inj h
      exact Den.Spec.of_walk tab mixed Tryz.func119 (by kernel_rfl) [.call [] [] (one (.bool x1)) [], bT, bT, bT, .call [] [] (one (.bool x2)) [], bT, bT, bT, bT, bT, bT] [] [] (nd (impl.isSector.spec a0 _ e1) (nd c1 (nd c1 (nd c1 (nd (impl.in_.spec a1 1 1000000000 _ e2) (nd c1 (nd c2 (nd c2 (nd c2 (nd c2 (nd c2 trivial))))))))))) (by kernel_rfl)
    · obtain rfl := Option.some.inj h
      exact Den.Spec.of_walk tab mixed Tryz.func119 (by kernel_rfl) [.call [] [] (one (.bool x1)) [], bT, bT, bT, .call [] [] (one (.bool x2)) [], bT, bF, bF, bF, bF, bF] [] [] (nd (impl.isSector.spec a0 _ e1) (nd c1 (nd c1 (nd c1 (nd (impl.in_.spec a1 1 1000000000 _ e2) (nd c1 (nd c2 (nd c2 (nd c2 (nd c2 (nd c2 trivial))))))))))) (by kernel_rfl)
  · obtain rfl := Option.some.inj h
    exact Den.Spec.of_walk tab mixed Tryz.func119 (by kernel_rfl) [.call [] [] (one (.bool x1)) [], bF, bF, bF, bF, bF, bF, bF, bF, bF] [] [] (nd (impl.isSector.spec a0 _ e1) (nd c1 (nd c1 (nd c1 (nd c1 (nd ff (nd ff (nd ff (nd ff (nd ff trivial)))))))))) (by kernel_rfl)
def impl.RecRead.f (K : Nat) (a0 : ByteArray) : Option (Int × Int × ByteArray × Bool) :=
  Option.bind (impl.unsummed.f K a0) fun x1 => Option.bind (impl.reader.number.f K (bytesL a0) x1.1 x1.2) fun x2 => Option.bind (impl.reader.number.f K (bytesL a0) x2.2.1 x2.2.2) fun x3 => Option.bind (impl.reader.text.f K (bytesL a0) x3.2.1 x3.2.2) fun x4 => Option.bind (impl.reader.done.f (bytesL a0) x4.2.1 x4.2.2) fun x5 => cond (x5) (Option.bind (impl.RecOk.f x2.1 x3.1 x4.1) fun x6 => cond (x6) (some (x2.1, x3.1, x4.1, true)) (some (0, 0, noVal, false))) (some (0, 0, noVal, false))
theorem impl.RecRead.spec (K : Nat) (a0 : ByteArray) (o : Int × Int × ByteArray × Bool) (h : impl.RecRead.f K a0 = some o) : Den.Spec Tryz.prog 95 [one (.str a0)] [] (.tup [.agg [.int .i64 o.1, .int .i64 o.2.1, .str o.2.2.1], .c (.bool o.2.2.2)]) [] := by
  unfold impl.RecRead.f at h
  obtain ⟨x1, e1, h⟩ := bind_some h
  obtain ⟨x2, e2, h⟩ := bind_some h
  obtain ⟨x3, e3, h⟩ := bind_some h
  obtain ⟨x4, e4, h⟩ := bind_some h
  obtain ⟨x5, e5, h⟩ := bind_some h
  rcases br_cases h with ⟨c1, h⟩ | ⟨c1, h⟩
  · obtain ⟨x6, e6, h⟩ := bind_some h
    rcases br_cases h with ⟨c2, h⟩ | ⟨c2, h⟩
    · obtain rfl := Option.some.inj h
      exact Den.Spec.of_walk tab mixed Tryz.func95 (by kernel_rfl) [.call [] [] (one (.ptr 0 0 0)) [some ⟨true, .cells [.sl 1 0 ((bytesL a0).length), .int .i64 x1.1, .bool x1.2]⟩, some ⟨true, .ints .u8 (bytesL a0)⟩], .call [(1, true), (2, true)] [] (one (.int .i64 x2.1)) [some ⟨true, .cells [.sl 1 0 ((bytesL a0).length), .int .i64 x2.2.1, .bool x2.2.2]⟩, some ⟨true, .ints .u8 (bytesL a0)⟩], .call [(1, true), (2, true)] [] (one (.int .i64 x3.1)) [some ⟨true, .cells [.sl 1 0 ((bytesL a0).length), .int .i64 x3.2.1, .bool x3.2.2]⟩, some ⟨true, .ints .u8 (bytesL a0)⟩], .call [(1, true), (2, true)] [] (one (.str x4.1)) [some ⟨true, .cells [.sl 1 0 ((bytesL a0).length), .int .i64 x4.2.1, .bool x4.2.2]⟩, some ⟨true, .ints .u8 (bytesL a0)⟩], .call [(1, false), (2, false)] [] (one (.bool x5)) [some ⟨false, .cells [.sl 1 0 ((bytesL a0).length), .int .i64 x4.2.1, .bool x4.2.2]⟩, some ⟨false, .ints .u8 (bytesL a0)⟩], bF, bF, .call [] [] (one (.bool x6)) [], bF, bF, bF] [] [] (nd (impl.unsummed.spec K a0 _ e1) (nd (impl.reader.number.spec K (bytesL a0) x1.1 x1.2 _ e2) (nd (impl.reader.number.spec K (bytesL a0) x2.2.1 x2.2.2 _ e3) (nd (impl.reader.text.spec K (bytesL a0) x3.2.1 x3.2.2 _ e4) (nd (impl.reader.done.spec (bytesL a0) x4.2.1 x4.2.2 _ e5) (nd (nf c1) (nd (nf c1) (nd (impl.RecOk.spec x2.1 x3.1 x4.1 _ e6) (nd (nf c1) (nd (nf c1) (nd (nf c2) trivial))))))))))) (by kernel_rfl)
    · obtain rfl := Option.some.inj h
      exact Den.Spec.of_walk tab mixed Tryz.func95 (by kernel_rfl) [.call [] [] (one (.ptr 0 0 0)) [some ⟨true, .cells [.sl 1 0 ((bytesL a0).length), .int .i64 x1.1, .bool x1.2]⟩, some ⟨true, .ints .u8 (bytesL a0)⟩], .call [(1, true), (2, true)] [] (one (.int .i64 x2.1)) [some ⟨true, .cells [.sl 1 0 ((bytesL a0).length), .int .i64 x2.2.1, .bool x2.2.2]⟩, some ⟨true, .ints .u8 (bytesL a0)⟩], .call [(1, true), (2, true)] [] (one (.int .i64 x3.1)) [some ⟨true, .cells [.sl 1 0 ((bytesL a0).length), .int .i64 x3.2.1, .bool x3.2.2]⟩, some ⟨true, .ints .u8 (bytesL a0)⟩], .call [(1, true), (2, true)] [] (one (.str x4.1)) [some ⟨true, .cells [.sl 1 0 ((bytesL a0).length), .int .i64 x4.2.1, .bool x4.2.2]⟩, some ⟨true, .ints .u8 (bytesL a0)⟩], .call [(1, false), (2, false)] [] (one (.bool x5)) [some ⟨false, .cells [.sl 1 0 ((bytesL a0).length), .int .i64 x4.2.1, .bool x4.2.2]⟩, some ⟨false, .ints .u8 (bytesL a0)⟩], bF, bF, .call [] [] (one (.bool x6)) [], bF, bF, bT] [] [] (nd (impl.unsummed.spec K a0 _ e1) (nd (impl.reader.number.spec K (bytesL a0) x1.1 x1.2 _ e2) (nd (impl.reader.number.spec K (bytesL a0) x2.2.1 x2.2.2 _ e3) (nd (impl.reader.text.spec K (bytesL a0) x3.2.1 x3.2.2 _ e4) (nd (impl.reader.done.spec (bytesL a0) x4.2.1 x4.2.2 _ e5) (nd (nf c1) (nd (nf c1) (nd (impl.RecOk.spec x2.1 x3.1 x4.1 _ e6) (nd (nf c1) (nd (nf c1) (nd (nt c2) trivial))))))))))) (by kernel_rfl)
  · obtain rfl := Option.some.inj h
    exact Den.Spec.of_walk tab mixed Tryz.func95 (by kernel_rfl) [.call [] [] (one (.ptr 0 0 0)) [some ⟨true, .cells [.sl 1 0 ((bytesL a0).length), .int .i64 x1.1, .bool x1.2]⟩, some ⟨true, .ints .u8 (bytesL a0)⟩], .call [(1, true), (2, true)] [] (one (.int .i64 x2.1)) [some ⟨true, .cells [.sl 1 0 ((bytesL a0).length), .int .i64 x2.2.1, .bool x2.2.2]⟩, some ⟨true, .ints .u8 (bytesL a0)⟩], .call [(1, true), (2, true)] [] (one (.int .i64 x3.1)) [some ⟨true, .cells [.sl 1 0 ((bytesL a0).length), .int .i64 x3.2.1, .bool x3.2.2]⟩, some ⟨true, .ints .u8 (bytesL a0)⟩], .call [(1, true), (2, true)] [] (one (.str x4.1)) [some ⟨true, .cells [.sl 1 0 ((bytesL a0).length), .int .i64 x4.2.1, .bool x4.2.2]⟩, some ⟨true, .ints .u8 (bytesL a0)⟩], .call [(1, false), (2, false)] [] (one (.bool x5)) [some ⟨false, .cells [.sl 1 0 ((bytesL a0).length), .int .i64 x4.2.1, .bool x4.2.2]⟩, some ⟨false, .ints .u8 (bytesL a0)⟩], bT, bT, bT, bT, bT] [] [] (nd (impl.unsummed.spec K a0 _ e1) (nd (impl.reader.number.spec K (bytesL a0) x1.1 x1.2 _ e2) (nd (impl.reader.number.spec K (bytesL a0) x2.2.1 x2.2.2 _ e3) (nd (impl.reader.text.spec K (bytesL a0) x3.2.1 x3.2.2 _ e4) (nd (impl.reader.done.spec (bytesL a0) x4.2.1 x4.2.2 _ e5) (nd (nt c1) (nd (nt c1) (nd (nt c1) (nd (nt c1) (nd tt trivial)))))))))) (by kernel_rfl)
def impl.mount.l0.f (K : Nat) (a0 : List ByteArray) (a1 : List Int) : Nat → (List ByteArray) → (List Int) → (List Int) → Int → (List Int) → Int → Option ((List ByteArray) × (List Int) × (List Int) × Int)
  | 0, _, _, _, _, _, _ => none
  | k + 1, v40_0, v40_1, v40_2, v40_3, v40_4, v40_5 =>
    cond (decide (v40_5 < (a0.length : Int))) (ck (0 ≤ v40_5) (cond (strEq (a0.getD v40_5.toNat noVal) noVal) (impl.mount.l0.f K a0 a1 k v40_0 v40_1 v40_2 v40_3 v40_4 (w64 (v40_5 + 1))) (Option.bind (impl.RecRead.f K (a0.getD v40_5.toNat noVal)) fun x1 => cond (x1.2.2.2) (ck (0 ≤ x1.1) (ck (x1.1 < (v40_4.length : Int)) (cond (decide (x1.2.1 > (v40_4.getD x1.1.toNat 0))) (ck (x1.1 < (v40_2.length : Int)) (impl.mount.l0.f K a0 a1 k v40_0 v40_1 (v40_2.set x1.1.toNat v40_5) (minI 1000000000 (maxI v40_3 (w64 (x1.2.1 + 1)))) (v40_4.set x1.1.toNat x1.2.1) (w64 (v40_5 + 1)))) (impl.mount.l0.f K a0 a1 k v40_0 v40_1 v40_2 (minI 1000000000 (maxI v40_3 (w64 (x1.2.1 + 1)))) v40_4 (w64 (v40_5 + 1)))))) (impl.mount.l0.f K a0 a1 k v40_0 v40_1 v40_2 v40_3 v40_4 (w64 (v40_5 + 1)))))) (some (v40_0, v40_1, v40_2, v40_3))
def impl.mount.l0.s (K : Nat) (a0 : List ByteArray) (a1 : List Int) (v40_0 : List ByteArray) (v40_1 : List Int) (v40_2 : List Int) (v40_3 : Int) (v40_4 : List Int) (v40_5 : Int) : St := mkSt 62 [(2, one (.ptr 2 0 0)), (3, one (.ptr 6 0 0)), (4, one (.sl 10 0 v40_4.length)), (16, one (.sl 0 0 a0.length)), (17, one (.int .i64 (a0.length : Int))), (18, one (.int .i64 v40_5))] [some ⟨false, .strs a0⟩, some ⟨false, .ints .i64 a1⟩, some ⟨true, .cells [.sl 3 0 0, .sl 4 0 0, .sl 5 0 0, .int .i64 0]⟩, some ⟨true, .strs []⟩, some ⟨true, .ints .i64 []⟩, some ⟨true, .ints .i64 []⟩, some ⟨true, .cells [.sl 7 0 v40_0.length, .sl 8 0 v40_1.length, .sl 9 0 v40_2.length, .int .i64 v40_3]⟩, some ⟨true, .strs v40_0⟩, some ⟨true, .ints .i64 v40_1⟩, some ⟨true, .ints .i64 v40_2⟩, some ⟨true, .ints .i64 v40_4⟩]
def impl.mount.l0.e0 (K : Nat) (a0 : List ByteArray) (a1 : List Int) (o : (List ByteArray) × (List Int) × (List Int) × Int) : St := mkSt 62 [(2, one (.ptr 2 0 0)), (3, one (.ptr 6 0 0))] [some ⟨false, .strs a0⟩, some ⟨false, .ints .i64 a1⟩, some ⟨true, .cells [.sl 3 0 0, .sl 4 0 0, .sl 5 0 0, .int .i64 0]⟩, some ⟨true, .strs []⟩, some ⟨true, .ints .i64 []⟩, some ⟨true, .ints .i64 []⟩, some ⟨true, .cells [.sl 7 0 o.1.length, .sl 8 0 o.2.1.length, .sl 9 0 o.2.2.1.length, .int .i64 o.2.2.2]⟩, some ⟨true, .strs o.1⟩, some ⟨true, .ints .i64 o.2.1⟩, some ⟨true, .ints .i64 o.2.2.1⟩]
def impl.mount.l0.x (K : Nat) (a0 : List ByteArray) (a1 : List Int) : ((List ByteArray) × (List Int) × (List Int) × Int) → AExit × St := fun o => (.exit 0, impl.mount.l0.e0 K a0 a1 o)
theorem impl.mount.l0.spec (K : Nat) (a0 : List ByteArray) (a1 : List Int) : ∀ (k : Nat) (v40_0 : List ByteArray) (v40_1 : List Int) (v40_2 : List Int) (v40_3 : Int) (v40_4 : List Int) (v40_5 : Int) (o : (List ByteArray) × (List Int) × (List Int) × Int), impl.mount.l0.f K a0 a1 k v40_0 v40_1 v40_2 v40_3 v40_4 v40_5 = some o → LoopSpec Tryz.prog 2 (loopN Tryz.f61 0) (impl.mount.l0.s K a0 a1 v40_0 v40_1 v40_2 v40_3 v40_4 v40_5) (impl.mount.l0.x K a0 a1 o).1 (impl.mount.l0.x K a0 a1 o).2
  | 0, _, _, _, _, _, _, _, h => by cases h
  | k + 1, v40_0, v40_1, v40_2, v40_3, v40_4, v40_5, o, h => by
    unfold impl.mount.l0.f at h
    rcases br_cases h with ⟨c1, h⟩ | ⟨c1, h⟩
    · obtain ⟨p1, h⟩ := ck_some h
      rcases br_cases h with ⟨c2, h⟩ | ⟨c2, h⟩
      · exact .of_step tab mixed [bT, bT] [] [2, 3, 4, 16, 17, 18] [0, 1, 2, 3, 4, 5, 6, 7, 8, 9, 10] (s1 := impl.mount.l0.s K a0 a1 v40_0 v40_1 v40_2 v40_3 v40_4 (w64 (v40_5 + 1))) (nd c1 (nd p1 (nd (of_decide_eq_true c1) (nd (tn p1 (of_decide_eq_true c1)) (nd c2 trivial))))) (by kernel_rfl) (impl.mount.l0.spec K a0 a1 k v40_0 v40_1 v40_2 v40_3 v40_4 (w64 (v40_5 + 1)) _ h)
      · obtain ⟨x1, e1, h⟩ := bind_some h
        rcases br_cases h with ⟨c3, h⟩ | ⟨c3, h⟩
        · obtain ⟨p2, h⟩ := ck_some h
          obtain ⟨p3, h⟩ := ck_some h
          rcases br_cases h with ⟨c4, h⟩ | ⟨c4, h⟩
          · obtain ⟨p4, h⟩ := ck_some h
            exact .of_step tab mixed [bT, bF, .call [] [] (.tup [.agg [.int .i64 x1.1, .int .i64 x1.2.1, .str x1.2.2.1], .c (.bool x1.2.2.2)]) [], bF, bT] [] [2, 3, 4, 16, 17, 18] [0, 1, 2, 3, 4, 5, 6, 7, 8, 9, 10] (s1 := mkSt 62 [(2, one (.ptr 2 0 0)), (3, one (.ptr 6 0 0)), (4, one (.sl 10 0 v40_4.length)), (16, one (.sl 0 0 a0.length)), (17, one (.int .i64 (a0.length : Int))), (18, one (.int .i64 (w64 (v40_5 + 1))))] [some ⟨false, .strs a0⟩, some ⟨false, .ints .i64 a1⟩, some ⟨true, .cells [.sl 3 0 0, .sl 4 0 0, .sl 5 0 0, .int .i64 0]⟩, some ⟨true, .strs []⟩, some ⟨true, .ints .i64 []⟩, some ⟨true, .ints .i64 []⟩, some ⟨true, .cells [.sl 7 0 v40_0.length, .sl 8 0 v40_1.length, .sl 9 0 v40_2.length, .int .i64 (minI 1000000000 (maxI v40_3 (w64 (x1.2.1 + 1))))]⟩, some ⟨true, .strs v40_0⟩, some ⟨true, .ints .i64 v40_1⟩, some ⟨true, .ints .i64 (v40_2.set x1.1.toNat v40_5)⟩, some ⟨true, .ints .i64 (v40_4.set x1.1.toNat x1.2.1)⟩]) (nd c1 (nd p1 (nd (of_decide_eq_true c1) (nd (tn p1 (of_decide_eq_true c1)) (nd c2 (nd (impl.RecRead.spec K (a0.getD v40_5.toNat noVal) _ e1) (nd (nf c3) (nd p2 (nd p3 (nd (tn p2 p3) (nd c4 (nd p2 (nd p3 (nd (tn p2 p3) (nd p2 (nd p4 (nd (tn p2 p4) trivial))))))))))))))))) (by kernel_rfl) (LoopSpec.eqs (impl.mount.l0.spec K a0 a1 k v40_0 v40_1 (v40_2.set x1.1.toNat v40_5) (minI 1000000000 (maxI v40_3 (w64 (x1.2.1 + 1)))) (v40_4.set x1.1.toNat x1.2.1) (w64 (v40_5 + 1)) _ h) (by simp only [impl.mount.l0.s, List.length_set, overL_length] : impl.mount.l0.s K a0 a1 v40_0 v40_1 (v40_2.set x1.1.toNat v40_5) (minI 1000000000 (maxI v40_3 (w64 (x1.2.1 + 1)))) (v40_4.set x1.1.toNat x1.2.1) (w64 (v40_5 + 1)) = mkSt 62 [(2, one (.ptr 2 0 0)), (3, one (.ptr 6 0 0)), (4, one (.sl 10 0 v40_4.length)), (16, one (.sl 0 0 a0.length)), (17, one (.int .i64 (a0.length : Int))), (18, one (.int .i64 (w64 (v40_5 + 1))))] [some ⟨false, .strs a0⟩, some ⟨false, .ints .i64 a1⟩, some ⟨true, .cells [.sl 3 0 0, .sl 4 0 0, .sl 5 0 0, .int .i64 0]⟩, some ⟨true, .strs []⟩, some ⟨true, .ints .i64 []⟩, some ⟨true, .ints .i64 []⟩, some ⟨true, .cells [.sl 7 0 v40_0.length, .sl 8 0 v40_1.length, .sl 9 0 v40_2.length, .int .i64 (minI 1000000000 (maxI v40_3 (w64 (x1.2.1 + 1))))]⟩, some ⟨true, .strs v40_0⟩, some ⟨true, .ints .i64 v40_1⟩, some ⟨true, .ints .i64 (v40_2.set x1.1.toNat v40_5)⟩, some ⟨true, .ints .i64 (v40_4.set x1.1.toNat x1.2.1)⟩]))
          · exact .of_step tab mixed [bT, bF, .call [] [] (.tup [.agg [.int .i64 x1.1, .int .i64 x1.2.1, .str x1.2.2.1], .c (.bool x1.2.2.2)]) [], bF, bF] [] [2, 3, 4, 16, 17, 18] [0, 1, 2, 3, 4, 5, 6, 7, 8, 9, 10] (s1 := impl.mount.l0.s K a0 a1 v40_0 v40_1 v40_2 (minI 1000000000 (maxI v40_3 (w64 (x1.2.1 + 1)))) v40_4 (w64 (v40_5 + 1))) (nd c1 (nd p1 (nd (of_decide_eq_true c1) (nd (tn p1 (of_decide_eq_true c1)) (nd c2 (nd (impl.RecRead.spec K (a0.getD v40_5.toNat noVal) _ e1) (nd (nf c3) (nd p2 (nd p3 (nd (tn p2 p3) (nd c4 trivial))))))))))) (by kernel_rfl) (impl.mount.l0.spec K a0 a1 k v40_0 v40_1 v40_2 (minI 1000000000 (maxI v40_3 (w64 (x1.2.1 + 1)))) v40_4 (w64 (v40_5 + 1)) _ h)
        · exact .of_step tab mixed [bT, bF, .call [] [] (.tup [.agg [.int .i64 x1.1, .int .i64 x1.2.1, .str x1.2.2.1], .c (.bool x1.2.2.2)]) [], bT] [] [2, 3, 4, 16, 17, 18] [0, 1, 2, 3, 4, 5, 6, 7, 8, 9, 10] (s1 := impl.mount.l0.s K a0 a1 v40_0 v40_1 v40_2 v40_3 v40_4 (w64 (v40_5 + 1))) (nd c1 (nd p1 (nd (of_decide_eq_true c1) (nd (tn p1 (of_decide_eq_true c1)) (nd c2 (nd (impl.RecRead.spec K (a0.getD v40_5.toNat noVal) _ e1) (nd (nt c3) trivial))))))) (by kernel_rfl) (impl.mount.l0.spec K a0 a1 k v40_0 v40_1 v40_2 v40_3 v40_4 (w64 (v40_5 + 1)) _ h)
    · obtain rfl := Option.some.inj h
      exact .of_done tab mixed [bF] [] [2, 3] [0, 1, 2, 3, 4, 5, 6, 7, 8, 9] rfl (nd c1 trivial) (by kernel_rfl)
def impl.mount.f (K : Nat) (a0 : List ByteArray) (a1 : List Int) : Option ((List ByteArray) × (List Int) × (List Int) × Int) :=
  Option.bind (impl.cloneChip.f a0 a1) fun x1 => Option.bind (slices.Repeat_int_int.f K [(-1)] 26) fun x2 => ck ((26 * (8 : Int)) ≤ 70368744177664) (Option.bind (impl.mount.l0.f K a0 a1 K x1.1 x1.2 x2 1 (List.replicate 26 (0 : Int)) 0) fun x3 => some (x3.1, x3.2.1, x3.2.2.1, x3.2.2.2))
theorem impl.mount.spec (K : Nat) (a0 : List ByteArray) (a1 : List Int) (o : (List ByteArray) × (List Int) × (List Int) × Int) (h : impl.mount.f K a0 a1 = some o) : Den.Spec Tryz.prog 61 [.v (.agg [.sl 0 0 a0.length, .sl 1 0 a1.length])] [some ⟨false, .strs a0⟩, some ⟨false, .ints .i64 a1⟩] (.v (.agg [.sl 2 0 o.1.length, .sl 3 0 o.2.1.length, .sl 4 0 o.2.2.1.length, .int .i64 o.2.2.2])) [some ⟨false, .strs a0⟩, some ⟨false, .ints .i64 a1⟩, some ⟨true, .strs o.1⟩, some ⟨true, .ints .i64 o.2.1⟩, some ⟨true, .ints .i64 o.2.2.1⟩] := by
  unfold impl.mount.f at h
  obtain ⟨x1, e1, h⟩ := bind_some h
  obtain ⟨x2, e2, h⟩ := bind_some h
  obtain ⟨p1, h⟩ := ck_some h
  obtain ⟨x3, e3, h⟩ := bind_some h
  obtain rfl := Option.some.inj h
  exact Den.Spec.of_walk tab mixed Tryz.func61 (by kernel_rfl) [.call [(0, false), (1, false)] [] (.v (.agg [.sl 2 0 x1.1.length, .sl 3 0 x1.2.length])) [some ⟨false, .strs a0⟩, some ⟨false, .ints .i64 a1⟩, some ⟨true, .strs x1.1⟩, some ⟨true, .ints .i64 x1.2⟩], .call [] [(0, true)] (one (.sl 1 0 x2.length)) [some ⟨false, .ints .i64 [(-1)]⟩, some ⟨true, .ints .i64 x2⟩], .loop [] [2, 3, 4, 16, 17, 18] [0, 1, 3, 4, 5, 6, 11, 7, 8, 10, 15] (.exit 0) (impl.mount.l0.e0 K a0 a1 x3)] [] [0, 1, 7, 8, 9] (nd (impl.cloneChip.spec a0 a1 _ e1) (nd (slices.Repeat_int_int.spec K [(-1)] 26 _ e2) (n0 (nn 1 (nd (by decide : (0 : Int) ≤ 26) (nd (rfl : (26 : Int) = (26 : Int)) (nd p1 (nd (impl.mount.l0.spec K a0 a1 K x1.1 x1.2 x2 1 (List.replicate 26 (0 : Int)) 0 _ e3) trivial)))))))) (by kernel_rfl)
def impl.Mount.f (K : Nat) (a0 : List ByteArray) (a1 : List Int) : Option ((List ByteArray) × (List Int) × (List Int) × Int) :=
  Option.bind (impl.ChipOk.f K a0 a1) fun x1 => cond (x1) (Option.bind (impl.mount.f K a0 a1) fun x2 => some (x2.1, x2.2.1, x2.2.2.1, x2.2.2.2)) (some ([], [], [], 0))
theorem impl.Mount.spec (K : Nat) (a0 : List ByteArray) (a1 : List Int) (o : (List ByteArray) × (List Int) × (List Int) × Int) (h : impl.Mount.f K a0 a1 = some o) : Den.Spec Tryz.prog 18 [.v (.agg [.sl 0 0 a0.length, .sl 1 0 a1.length])] [some ⟨false, .strs a0⟩, some ⟨false, .ints .i64 a1⟩] (.v (.agg [.sl 2 0 o.1.length, .sl 3 0 o.2.1.length, .sl 4 0 o.2.2.1.length, .int .i64 o.2.2.2])) [some ⟨false, .strs a0⟩, some ⟨false, .ints .i64 a1⟩, some ⟨true, .strs o.1⟩, some ⟨true, .ints .i64 o.2.1⟩, some ⟨true, .ints .i64 o.2.2.1⟩] := by
  unfold impl.Mount.f at h
  obtain ⟨x1, e1, h⟩ := bind_some h
  rcases br_cases h with ⟨c1, h⟩ | ⟨c1, h⟩
  · obtain ⟨x2, e2, h⟩ := bind_some h
    obtain rfl := Option.some.inj h
    exact Den.Spec.of_walk tab mixed Tryz.func18 (by kernel_rfl) [.call [(0, false), (1, false)] [] (one (.bool x1)) [some ⟨false, .strs a0⟩, some ⟨false, .ints .i64 a1⟩], bF, .call [(0, false), (1, false)] [] (.v (.agg [.sl 2 0 x2.1.length, .sl 3 0 x2.2.1.length, .sl 4 0 x2.2.2.1.length, .int .i64 x2.2.2.2])) [some ⟨false, .strs a0⟩, some ⟨false, .ints .i64 a1⟩, some ⟨true, .strs x2.1⟩, some ⟨true, .ints .i64 x2.2.1⟩, some ⟨true, .ints .i64 x2.2.2.1⟩]] [] [0, 1, 7, 8, 9] (nd (impl.ChipOk.spec K a0 a1 _ e1) (nd (nf c1) (nd (impl.mount.spec K a0 a1 _ e2) trivial))) (by kernel_rfl)
  · obtain rfl := Option.some.inj h
    exact Den.Spec.of_walk tab mixed Tryz.func18 (by kernel_rfl) [.call [(0, false), (1, false)] [] (one (.bool x1)) [some ⟨false, .strs a0⟩, some ⟨false, .ints .i64 a1⟩], bT] [] [0, 1, 7, 8, 9] (nd (impl.ChipOk.spec K a0 a1 _ e1) (nd (nt c1) trivial)) (by kernel_rfl)
def spec.ChipNew.f : Option (Unit) :=
  ck ((60 * (16 : Int)) ≤ 70368744177664) (ck ((10 * (8 : Int)) ≤ 70368744177664) (some ()))
theorem spec.ChipNew.spec (o : Unit) (h : spec.ChipNew.f = some o) : Den.Spec Tryz.prog 21 [] [] (.v (.agg [.sl 0 0 ((List.replicate 60 noVal).length), .sl 1 0 ((List.replicate 10 (0 : Int)).length)])) [some ⟨true, .strs (List.replicate 60 noVal)⟩, some ⟨true, .ints .i64 (List.replicate 10 (0 : Int))⟩] := by
  unfold spec.ChipNew.f at h
  obtain ⟨p1, h⟩ := ck_some h
  obtain ⟨p2, h⟩ := ck_some h
  obtain rfl := Option.some.inj h
  exact Den.Spec.of_walk tab mixed Tryz.func21 (by kernel_rfl) [] [] [3, 11] (nd (by decide : (0 : Int) ≤ 60) (nd (rfl : (60 : Int) = (60 : Int)) (nd p1 (nd (by decide : (0 : Int) ≤ 10) (nd (rfl : (10 : Int) = (10 : Int)) (nd p2 trivial)))))) (by kernel_rfl)
def spec.ChipOk.l0.f (a0 : List ByteArray) (a1 : List Int) : Nat → Int → Option (Unit ⊕ Unit)
  | 0, _ => none
  | k + 1, v47_0 =>
    cond (decide (v47_0 < (a0.length : Int))) (ck (0 ≤ v47_0) (cond (decide (((a0.getD v47_0.toNat noVal).size : Int) > 800)) (some (.inl ())) (spec.ChipOk.l0.f a0 a1 k (w64 (v47_0 + 1))))) (some (.inr (())))
def spec.ChipOk.l0.s (a0 : List ByteArray) (a1 : List Int) (v47_0 : Int) : St := mkSt 43 [(1, one (.ptr 2 0 0)), (3, one (.int .i64 v47_0))] [some ⟨false, .strs a0⟩, some ⟨false, .ints .i64 a1⟩, some ⟨true, .cells [.sl 0 0 a0.length, .sl 1 0 a1.length]⟩]
def spec.ChipOk.l0.e0 (a0 : List ByteArray) (a1 : List Int) (o : Unit) : St := mkSt 43 [(2, one (.bool false))] [some ⟨false, .strs a0⟩, some ⟨false, .ints .i64 a1⟩]
def spec.ChipOk.l0.e1 (a0 : List ByteArray) (a1 : List Int) (o : Unit) : St := mkSt 43 [(1, one (.ptr 2 0 0))] [some ⟨false, .strs a0⟩, some ⟨false, .ints .i64 a1⟩, some ⟨true, .cells [.sl 0 0 a0.length, .sl 1 0 a1.length]⟩]
def spec.ChipOk.l0.x (a0 : List ByteArray) (a1 : List Int) : (Unit ⊕ Unit) → AExit × St := Sum.elim (fun o => (.ret, spec.ChipOk.l0.e0 a0 a1 o)) (fun o => (.exit 0, spec.ChipOk.l0.e1 a0 a1 o))
theorem spec.ChipOk.l0.spec (a0 : List ByteArray) (a1 : List Int) : ∀ (k : Nat) (v47_0 : Int) (o : Unit ⊕ Unit), spec.ChipOk.l0.f a0 a1 k v47_0 = some o → LoopSpec Tryz.prog 2 (loopN Tryz.f62 0) (spec.ChipOk.l0.s a0 a1 v47_0) (spec.ChipOk.l0.x a0 a1 o).1 (spec.ChipOk.l0.x a0 a1 o).2
  | 0, _, _, h => by cases h
  | k + 1, v47_0, o, h => by
    unfold spec.ChipOk.l0.f at h
    rcases br_cases h with ⟨c1, h⟩ | ⟨c1, h⟩
    · obtain ⟨p1, h⟩ := ck_some h
      rcases br_cases h with ⟨c2, h⟩ | ⟨c2, h⟩
      · obtain rfl := Option.some.inj h
        exact .of_done tab mixed [bT, bT] [] [2] [0, 1] rfl (nd c1 (nd p1 (nd (of_decide_eq_true c1) (nd (tn p1 (of_decide_eq_true c1)) (nd c2 trivial))))) (by kernel_rfl)
      · exact .of_step tab mixed [bT, bF] [] [1, 3] [0, 1, 2] (s1 := spec.ChipOk.l0.s a0 a1 (w64 (v47_0 + 1))) (nd c1 (nd p1 (nd (of_decide_eq_true c1) (nd (tn p1 (of_decide_eq_true c1)) (nd c2 trivial))))) (by kernel_rfl) (spec.ChipOk.l0.spec a0 a1 k (w64 (v47_0 + 1)) _ h)
    · obtain rfl := Option.some.inj h
      exact .of_done tab mixed [bF] [] [1] [0, 1, 2] rfl (nd c1 trivial) (by kernel_rfl)
def spec.l1In.f (a0 : Int) (a1 : Int) (a2 : Int) : Option (Bool) :=
  cond (decide (a0 ≥ a1)) (some (decide (a0 ≤ a2))) (some false)
theorem spec.l1In.spec (a0 : Int) (a1 : Int) (a2 : Int) (o : Bool) (h : spec.l1In.f a0 a1 a2 = some o) : Den.Spec Tryz.prog 57 [one (.int .i64 a0), one (.int .i64 a1), one (.int .i64 a2)] [] (one (.bool o)) [] := by
  unfold spec.l1In.f at h
  rcases br_cases h with ⟨c1, h⟩ | ⟨c1, h⟩
  · obtain rfl := Option.some.inj h
    exact Den.Spec.of_walk tab mixed Tryz.func57 (by kernel_rfl) [bT, bT, bT, bT] [] [] (nd c1 (nd c1 (nd c1 (nd c1 trivial)))) (by kernel_rfl)
  · obtain rfl := Option.some.inj h
    exact Den.Spec.of_walk tab mixed Tryz.func57 (by kernel_rfl) [bF, bF, bF, bF] [] [] (nd c1 (nd c1 (nd c1 (nd c1 trivial)))) (by kernel_rfl)
def spec.ChipOk.l1.f (a0 : List ByteArray) (a1 : List Int) : Nat → Int → Option (Unit ⊕ Unit)
  | 0, _ => none
  | k + 1, v48_0 =>
    cond (decide (v48_0 < (a1.length : Int))) (ck (0 ≤ v48_0) (Option.bind (spec.l1In.f (a1.getD v48_0.toNat 0) 0 1000000000) fun x1 => cond (x1) (spec.ChipOk.l1.f a0 a1 k (w64 (v48_0 + 1))) (some (.inl ())))) (some (.inr (())))
def spec.ChipOk.l1.s (a0 : List ByteArray) (a1 : List Int) (v48_0 : Int) : St := mkSt 43 [(1, one (.ptr 2 0 0)), (4, one (.int .i64 v48_0))] [some ⟨false, .strs a0⟩, some ⟨false, .ints .i64 a1⟩, some ⟨true, .cells [.sl 0 0 a0.length, .sl 1 0 a1.length]⟩]
def spec.ChipOk.l1.e0 (a0 : List ByteArray) (a1 : List Int) (o : Unit) : St := mkSt 43 [(2, one (.bool false))] [some ⟨false, .strs a0⟩, some ⟨false, .ints .i64 a1⟩]
def spec.ChipOk.l1.e1 (a0 : List ByteArray) (a1 : List Int) (o : Unit) : St := mkSt 43 [] [some ⟨false, .strs a0⟩, some ⟨false, .ints .i64 a1⟩]
def spec.ChipOk.l1.x (a0 : List ByteArray) (a1 : List Int) : (Unit ⊕ Unit) → AExit × St := Sum.elim (fun o => (.ret, spec.ChipOk.l1.e0 a0 a1 o)) (fun o => (.exit 2, spec.ChipOk.l1.e1 a0 a1 o))
theorem spec.ChipOk.l1.spec (a0 : List ByteArray) (a1 : List Int) : ∀ (k : Nat) (v48_0 : Int) (o : Unit ⊕ Unit), spec.ChipOk.l1.f a0 a1 k v48_0 = some o → LoopSpec Tryz.prog 2 (loopN Tryz.f62 1) (spec.ChipOk.l1.s a0 a1 v48_0) (spec.ChipOk.l1.x a0 a1 o).1 (spec.ChipOk.l1.x a0 a1 o).2
  | 0, _, _, h => by cases h
  | k + 1, v48_0, o, h => by
    unfold spec.ChipOk.l1.f at h
    rcases br_cases h with ⟨c1, h⟩ | ⟨c1, h⟩
    · obtain ⟨p1, h⟩ := ck_some h
      obtain ⟨x1, e1, h⟩ := bind_some h
      rcases br_cases h with ⟨c2, h⟩ | ⟨c2, h⟩
      · exact .of_step tab mixed [bT, .call [] [] (one (.bool x1)) [], bF] [] [1, 4] [0, 1, 2] (s1 := spec.ChipOk.l1.s a0 a1 (w64 (v48_0 + 1))) (nd c1 (nd p1 (nd (of_decide_eq_true c1) (nd (tn p1 (of_decide_eq_true c1)) (nd (spec.l1In.spec (a1.getD v48_0.toNat 0) 0 1000000000 _ e1) (nd (nf c2) trivial)))))) (by kernel_rfl) (spec.ChipOk.l1.spec a0 a1 k (w64 (v48_0 + 1)) _ h)
      · obtain rfl := Option.some.inj h
        exact .of_done tab mixed [bT, .call [] [] (one (.bool x1)) [], bT] [] [2] [0, 1] rfl (nd c1 (nd p1 (nd (of_decide_eq_true c1) (nd (tn p1 (of_decide_eq_true c1)) (nd (spec.l1In.spec (a1.getD v48_0.toNat 0) 0 1000000000 _ e1) (nd (nt c2) trivial)))))) (by kernel_rfl)
    · obtain rfl := Option.some.inj h
      exact .of_done tab mixed [bF] [] [] [0, 1] rfl (nd c1 trivial) (by kernel_rfl)
def spec.ChipOk.f (K : Nat) (a0 : List ByteArray) (a1 : List Int) : Option (Bool) :=
  cond ((a0.length : Int) != 60) (some false) (cond ((a1.length : Int) != 10) (some false) (Option.bind (spec.ChipOk.l0.f a0 a1 K 0) fun x1 => (Sum.elim (fun x1 => some false) (fun x1 => Option.bind (spec.ChipOk.l1.f a0 a1 K 0) fun x2 => (Sum.elim (fun x2 => some false) (fun x2 => some true)) x2)) x1))
theorem spec.ChipOk.spec (K : Nat) (a0 : List ByteArray) (a1 : List Int) (o : Bool) (h : spec.ChipOk.f K a0 a1 = some o) : Den.Spec Tryz.prog 62 [.v (.agg [.sl 0 0 a0.length, .sl 1 0 a1.length])] [some ⟨false, .strs a0⟩, some ⟨false, .ints .i64 a1⟩] (one (.bool o)) [some ⟨false, .strs a0⟩, some ⟨false, .ints .i64 a1⟩] := by
  unfold spec.ChipOk.f at h
  rcases br_cases h with ⟨c1, h⟩ | ⟨c1, h⟩
  · obtain rfl := Option.some.inj h
    exact Den.Spec.of_walk tab mixed Tryz.func62 (by kernel_rfl) [bT, bT, bT, bT, bT, bT] [] [0, 1] (nd c1 (nd c1 (nd c1 (nd c1 (nd c1 (nd tt trivial)))))) (by kernel_rfl)
  · rcases br_cases h with ⟨c2, h⟩ | ⟨c2, h⟩
    · obtain rfl := Option.some.inj h
      exact Den.Spec.of_walk tab mixed Tryz.func62 (by kernel_rfl) [bF, bF, bF, bF, bF, bT] [] [0, 1] (nd c1 (nd c1 (nd c1 (nd c1 (nd c1 (nd c2 trivial)))))) (by kernel_rfl)
    · obtain ⟨x1, e1, h⟩ := bind_some h
      rcases x1 with x1 | x1
      · obtain rfl := Option.some.inj h
        exact Den.Spec.of_walk tab mixed Tryz.func62 (by kernel_rfl) [bF, bF, bF, bF, bF, bF, .loop [] [1, 3] [0, 1, 2] (.ret) (spec.ChipOk.l0.e0 a0 a1 x1)] [] [0, 1] (nd c1 (nd c1 (nd c1 (nd c1 (nd c1 (nd c2 (nd (spec.ChipOk.l0.spec a0 a1 K 0 _ e1) trivial))))))) (by kernel_rfl)
      · obtain ⟨x2, e2, h⟩ := bind_some h
        rcases x2 with x2 | x2
        · obtain rfl := Option.some.inj h
          exact Den.Spec.of_walk tab mixed Tryz.func62 (by kernel_rfl) [bF, bF, bF, bF, bF, bF, .loop [] [1, 3] [0, 1, 2] (.exit 0) (spec.ChipOk.l0.e1 a0 a1 x1), .loop [] [1, 4] [0, 1, 2] (.ret) (spec.ChipOk.l1.e0 a0 a1 x2)] [] [0, 1] (nd c1 (nd c1 (nd c1 (nd c1 (nd c1 (nd c2 (nd (spec.ChipOk.l0.spec a0 a1 K 0 _ e1) (nd (spec.ChipOk.l1.spec a0 a1 K 0 _ e2) trivial)))))))) (by kernel_rfl)
        · obtain rfl := Option.some.inj h
          exact Den.Spec.of_walk tab mixed Tryz.func62 (by kernel_rfl) [bF, bF, bF, bF, bF, bF, .loop [] [1, 3] [0, 1, 2] (.exit 0) (spec.ChipOk.l0.e1 a0 a1 x1), .loop [] [1, 4] [0, 1, 2] (.exit 2) (spec.ChipOk.l1.e1 a0 a1 x2)] [] [0, 1] (nd c1 (nd c1 (nd c1 (nd c1 (nd c1 (nd c2 (nd (spec.ChipOk.l0.spec a0 a1 K 0 _ e1) (nd (spec.ChipOk.l1.spec a0 a1 K 0 _ e2) trivial)))))))) (by kernel_rfl)
def spec.l2Copy.f (a0 : List ByteArray) (a1 : List Int) : Option (Unit) :=
  ck (([] ++ a0).length * 16 ≤ 70368744177664) (ck (([] ++ a1).length * 8 ≤ 70368744177664) (some ()))
theorem spec.l2Copy.spec (a0 : List ByteArray) (a1 : List Int) (o : Unit) (h : spec.l2Copy.f a0 a1 = some o) : Den.Spec Tryz.prog 63 [.v (.agg [.sl 0 0 a0.length, .sl 1 0 a1.length])] [some ⟨false, .strs a0⟩, some ⟨false, .ints .i64 a1⟩] (.v (.agg [.sl 2 0 (([] ++ a0).length), .sl 3 0 (([] ++ a1).length)])) [some ⟨false, .strs a0⟩, some ⟨false, .ints .i64 a1⟩, some ⟨true, .strs ([] ++ a0)⟩, some ⟨true, .ints .i64 ([] ++ a1)⟩] := by
  unfold spec.l2Copy.f at h
  obtain ⟨p1, h⟩ := ck_some h
  obtain ⟨p2, h⟩ := ck_some h
  obtain rfl := Option.some.inj h
  exact Den.Spec.of_walk tab mixed Tryz.func63 (by kernel_rfl) [bT, bT] [] [0, 1, 30, 62] (n0 (nn 0 (nd p1 (n0 (nl a0 (n0 (nn 0 (nd p2 (n0 (nl a1 trivial)))))))))) (by kernel_rfl)
def spec.Mount.l0.f (a0 : List ByteArray) (a1 : List Int) : Nat → (List Int) → Int → Option ((List Int))
  | 0, _, _ => none
  | k + 1, v69_0, v69_1 =>
    cond (decide (v69_1 < 26)) (ck ((v69_0 ++ [(-1)]).length * 8 ≤ 70368744177664) (spec.Mount.l0.f a0 a1 k (v69_0 ++ [(-1)]) (w64 (v69_1 + 1)))) (some v69_0)
def spec.Mount.l0.s (a0 : List ByteArray) (a1 : List Int) (v69_0 : List Int) (v69_1 : Int) : St := mkSt 73 [(1, one (.ptr 2 0 0)), (2, one (.ptr 3 0 0)), (3, one (.ptr 7 0 0)), (4, one (.sl 11 0 ((List.replicate 26 (0 : Int)).length))), (5, one (.int .i64 v69_1))] [some ⟨false, .strs a0⟩, some ⟨false, .ints .i64 a1⟩, some ⟨true, .cells [.sl 0 0 a0.length, .sl 1 0 a1.length]⟩, some ⟨true, .cells [.sl 4 0 0, .sl 5 0 0, .sl 6 0 0, .int .i64 0]⟩, some ⟨true, .strs []⟩, some ⟨true, .ints .i64 []⟩, some ⟨true, .ints .i64 []⟩, some ⟨true, .cells [.sl 8 0 (([] ++ a0).length), .sl 9 0 (([] ++ a1).length), .sl 10 0 v69_0.length, .int .i64 1]⟩, some ⟨true, .strs ([] ++ a0)⟩, some ⟨true, .ints .i64 ([] ++ a1)⟩, some ⟨true, .ints .i64 v69_0⟩, some ⟨true, .ints .i64 (List.replicate 26 (0 : Int))⟩]
def spec.Mount.l0.e0 (a0 : List ByteArray) (a1 : List Int) (o : (List Int)) : St := mkSt 73 [(1, one (.ptr 2 0 0)), (2, one (.ptr 3 0 0)), (3, one (.ptr 7 0 0)), (4, one (.sl 11 0 ((List.replicate 26 (0 : Int)).length)))] [some ⟨false, .strs a0⟩, some ⟨false, .ints .i64 a1⟩, some ⟨true, .cells [.sl 0 0 a0.length, .sl 1 0 a1.length]⟩, some ⟨true, .cells [.sl 4 0 0, .sl 5 0 0, .sl 6 0 0, .int .i64 0]⟩, some ⟨true, .strs []⟩, some ⟨true, .ints .i64 []⟩, some ⟨true, .ints .i64 []⟩, some ⟨true, .cells [.sl 8 0 (([] ++ a0).length), .sl 9 0 (([] ++ a1).length), .sl 10 0 o.length, .int .i64 1]⟩, some ⟨true, .strs ([] ++ a0)⟩, some ⟨true, .ints .i64 ([] ++ a1)⟩, some ⟨true, .ints .i64 o⟩, some ⟨true, .ints .i64 (List.replicate 26 (0 : Int))⟩]
def spec.Mount.l0.x (a0 : List ByteArray) (a1 : List Int) : ((List Int)) → AExit × St := fun o => (.exit 0, spec.Mount.l0.e0 a0 a1 o)
theorem spec.Mount.l0.spec (a0 : List ByteArray) (a1 : List Int) : ∀ (k : Nat) (v69_0 : List Int) (v69_1 : Int) (o : (List Int)), spec.Mount.l0.f a0 a1 k v69_0 v69_1 = some o → LoopSpec Tryz.prog 2 (loopN Tryz.f20 0) (spec.Mount.l0.s a0 a1 v69_0 v69_1) (spec.Mount.l0.x a0 a1 o).1 (spec.Mount.l0.x a0 a1 o).2
  | 0, _, _, _, h => by cases h
  | k + 1, v69_0, v69_1, o, h => by
    unfold spec.Mount.l0.f at h
    rcases br_cases h with ⟨c1, h⟩ | ⟨c1, h⟩
    · obtain ⟨p1, h⟩ := ck_some h
      exact .of_step tab mixed [bT, bT] [] [1, 2, 3, 4, 5] [0, 1, 2, 3, 4, 5, 6, 7, 8, 9, 13, 11] (s1 := spec.Mount.l0.s a0 a1 (v69_0 ++ [(-1)]) (w64 (v69_1 + 1))) (nd c1 (n0 (nl v69_0 (nd p1 (n0 (nn 1 trivial)))))) (by kernel_rfl) (spec.Mount.l0.spec a0 a1 k (v69_0 ++ [(-1)]) (w64 (v69_1 + 1)) _ h)
    · obtain rfl := Option.some.inj h
      exact .of_done tab mixed [bF] [] [1, 2, 3, 4] [0, 1, 2, 3, 4, 5, 6, 7, 8, 9, 10, 11] rfl (nd c1 trivial) (by kernel_rfl)
def spec.GetNum.l0.f (a0 : List Int) (a1 : Int) : Nat → Int → Int → Option ((Int × Int × Bool) ⊕ Unit)
  | 0, _, _ => none
  | k + 1, v54_0, v54_1 =>
    cond (decide (v54_1 < 5)) (cond (decide (a1 < 0)) (some (.inl (0, 0, false))) (cond (decide (a1 ≥ (w64 ((a0.length : Int) - v54_1)))) (some (.inl (0, 0, false))) (ck (0 ≤ (w64 (a1 + v54_1))) (ck ((w64 (a1 + v54_1)) < (a0.length : Int)) (ck (0 ≤ (w64 (7 * v54_1))) (cond (decide ((w64 (a0.getD ((w64 (a1 + v54_1)).toNat) 0)) < 128)) (cond (decide (v54_1 > 0)) (cond ((w64 (a0.getD ((w64 (a1 + v54_1)).toNat) 0)) == 0) (some (.inl (0, 0, false))) (cond (decide ((bits2 .i64 (· ||| ·) v54_0 (w64 (((w64 (a0.getD ((w64 (a1 + v54_1)).toNat) 0)).tmod 128) * 2 ^ (min (w64 (7 * v54_1)).toNat 64)))) > 1000000000)) (some (.inl (0, 0, false))) (some (.inl (bits2 .i64 (· ||| ·) v54_0 (w64 (((w64 (a0.getD ((w64 (a1 + v54_1)).toNat) 0)).tmod 128) * 2 ^ (min (w64 (7 * v54_1)).toNat 64))), w64 ((w64 (a1 + v54_1)) + 1), true))))) (cond (decide ((bits2 .i64 (· ||| ·) v54_0 (w64 (((w64 (a0.getD ((w64 (a1 + v54_1)).toNat) 0)).tmod 128) * 2 ^ (min (w64 (7 * v54_1)).toNat 64)))) > 1000000000)) (some (.inl (0, 0, false))) (some (.inl (bits2 .i64 (· ||| ·) v54_0 (w64 (((w64 (a0.getD ((w64 (a1 + v54_1)).toNat) 0)).tmod 128) * 2 ^ (min (w64 (7 * v54_1)).toNat 64))), w64 ((w64 (a1 + v54_1)) + 1), true))))) (spec.GetNum.l0.f a0 a1 k (bits2 .i64 (· ||| ·) v54_0 (w64 (((w64 (a0.getD ((w64 (a1 + v54_1)).toNat) 0)).tmod 128) * 2 ^ (min (w64 (7 * v54_1)).toNat 64)))) (w64 (v54_1 + 1))))))))) (some (.inr (())))
def spec.GetNum.l0.s (a0 : List Int) (a1 : Int) (v54_0 : Int) (v54_1 : Int) : St := mkSt 55 [(0, one (.sl 0 0 a0.length)), (1, one (.int .i64 a1)), (7, one (.int .i64 v54_0)), (8, one (.int .i64 v54_1))] [some ⟨false, .ints .u8 a0⟩]
def spec.GetNum.l0.e0 (a0 : List Int) (a1 : Int) (o : Int × Int × Bool) : St := mkSt 55 [(4, one (.int .i64 o.1)), (5, one (.int .i64 o.2.1)), (6, one (.bool o.2.2))] [some ⟨false, .ints .u8 a0⟩]
def spec.GetNum.l0.e1 (a0 : List Int) (a1 : Int) (o : Unit) : St := mkSt 55 [] [some ⟨false, .ints .u8 a0⟩]
def spec.GetNum.l0.x (a0 : List Int) (a1 : Int) : ((Int × Int × Bool) ⊕ Unit) → AExit × St := Sum.elim (fun o => (.ret, spec.GetNum.l0.e0 a0 a1 o)) (fun o => (.exit 0, spec.GetNum.l0.e1 a0 a1 o))
theorem spec.GetNum.l0.spec (a0 : List Int) (a1 : Int) : ∀ (k : Nat) (v54_0 : Int) (v54_1 : Int) (o : (Int × Int × Bool) ⊕ Unit), spec.GetNum.l0.f a0 a1 k v54_0 v54_1 = some o → LoopSpec Tryz.prog 1 (loopN Tryz.f51 0) (spec.GetNum.l0.s a0 a1 v54_0 v54_1) (spec.GetNum.l0.x a0 a1 o).1 (spec.GetNum.l0.x a0 a1 o).2
  | 0, _, _, _, h => by cases h
  | k + 1, v54_0, v54_1, o, h => by
    unfold spec.GetNum.l0.f at h
    rcases br_cases h with ⟨c1, h⟩ | ⟨c1, h⟩
    · rcases br_cases h with ⟨c2, h⟩ | ⟨c2, h⟩
      · obtain rfl := Option.some.inj h
        exact .of_done tab mixed [bT, bT, bT, bT, bT, bT, bT, bT, bT] [] [4, 5, 6] [0] rfl (nd c1 (nd c2 (nd c2 (nd c2 (nd c2 (nd c2 (nd c2 (nd c2 (nd tt trivial))))))))) (by kernel_rfl)
      · rcases br_cases h with ⟨c3, h⟩ | ⟨c3, h⟩
        · obtain rfl := Option.some.inj h
          exact .of_done tab mixed [bT, bF, bF, bF, bF, bF, bF, bF, bT] [] [4, 5, 6] [0] rfl (nd c1 (nd c2 (nd c2 (nd c2 (nd c2 (nd c2 (nd c2 (nd c2 (nd c3 trivial))))))))) (by kernel_rfl)
        · obtain ⟨p1, h⟩ := ck_some h
          obtain ⟨p2, h⟩ := ck_some h
          obtain ⟨p3, h⟩ := ck_some h
          rcases br_cases h with ⟨c4, h⟩ | ⟨c4, h⟩
          · rcases br_cases h with ⟨c5, h⟩ | ⟨c5, h⟩
            · rcases br_cases h with ⟨c6, h⟩ | ⟨c6, h⟩
              · obtain rfl := Option.some.inj h
                exact .of_done tab mixed [bT, bF, bF, bF, bF, bF, bF, bF, bF, bT, bT, bT, bT, bT, bT, bT, bT] [] [4, 5, 6] [0] rfl (nd c1 (nd c2 (nd c2 (nd c2 (nd c2 (nd c2 (nd c2 (nd c2 (nd c3 (nd p1 (nd p2 (nd (tn p1 p2) (nd (by decide : (128 : Int) ≠ 0) (nd p3 (nd c4 (nd c5 (nd c5 (nd c5 (nd c6 (nd c6 (nd c6 (nd tt trivial)))))))))))))))))))))) (by kernel_rfl)
              · rcases br_cases h with ⟨c7, h⟩ | ⟨c7, h⟩
                · obtain rfl := Option.some.inj h
                  exact .of_done tab mixed [bT, bF, bF, bF, bF, bF, bF, bF, bF, bT, bT, bT, bT, bF, bF, bF, bT] [] [4, 5, 6] [0] rfl (nd c1 (nd c2 (nd c2 (nd c2 (nd c2 (nd c2 (nd c2 (nd c2 (nd c3 (nd p1 (nd p2 (nd (tn p1 p2) (nd (by decide : (128 : Int) ≠ 0) (nd p3 (nd c4 (nd c5 (nd c5 (nd c5 (nd c6 (nd c6 (nd c6 (nd c7 trivial)))))))))))))))))))))) (by kernel_rfl)
                · obtain rfl := Option.some.inj h
                  exact .of_done tab mixed [bT, bF, bF, bF, bF, bF, bF, bF, bF, bT, bT, bT, bT, bF, bF, bF, bF] [] [4, 5, 6] [0] rfl (nd c1 (nd c2 (nd c2 (nd c2 (nd c2 (nd c2 (nd c2 (nd c2 (nd c3 (nd p1 (nd p2 (nd (tn p1 p2) (nd (by decide : (128 : Int) ≠ 0) (nd p3 (nd c4 (nd c5 (nd c5 (nd c5 (nd c6 (nd c6 (nd c6 (nd c7 trivial)))))))))))))))))))))) (by kernel_rfl)
            · rcases br_cases h with ⟨c6, h⟩ | ⟨c6, h⟩
              · obtain rfl := Option.some.inj h
                exact .of_done tab mixed [bT, bF, bF, bF, bF, bF, bF, bF, bF, bT, bF, bF, bF, bF, bF, bF, bT] [] [4, 5, 6] [0] rfl (nd c1 (nd c2 (nd c2 (nd c2 (nd c2 (nd c2 (nd c2 (nd c2 (nd c3 (nd p1 (nd p2 (nd (tn p1 p2) (nd (by decide : (128 : Int) ≠ 0) (nd p3 (nd c4 (nd c5 (nd c5 (nd c5 (nd ff (nd ff (nd ff (nd c6 trivial)))))))))))))))))))))) (by kernel_rfl)
              · obtain rfl := Option.some.inj h
                exact .of_done tab mixed [bT, bF, bF, bF, bF, bF, bF, bF, bF, bT, bF, bF, bF, bF, bF, bF, bF] [] [4, 5, 6] [0] rfl (nd c1 (nd c2 (nd c2 (nd c2 (nd c2 (nd c2 (nd c2 (nd c2 (nd c3 (nd p1 (nd p2 (nd (tn p1 p2) (nd (by decide : (128 : Int) ≠ 0) (nd p3 (nd c4 (nd c5 (nd c5 (nd c5 (nd ff (nd ff (nd ff (nd c6 trivial)))))))))))))))))))))) (by kernel_rfl)
          · exact .of_step tab mixed [bT, bF, bF, bF, bF, bF, bF, bF, bF, bF] [] [0, 1, 7, 8] [0] (s1 := spec.GetNum.l0.s a0 a1 (bits2 .i64 (· ||| ·) v54_0 (w64 (((w64 (a0.getD ((w64 (a1 + v54_1)).toNat) 0)).tmod 128) * 2 ^ (min (w64 (7 * v54_1)).toNat 64)))) (w64 (v54_1 + 1))) (nd c1 (nd c2 (nd c2 (nd c2 (nd c2 (nd c2 (nd c2 (nd c2 (nd c3 (nd p1 (nd p2 (nd (tn p1 p2) (nd (by decide : (128 : Int) ≠ 0) (nd p3 (nd c4 trivial))))))))))))))) (by kernel_rfl) (spec.GetNum.l0.spec a0 a1 k (bits2 .i64 (· ||| ·) v54_0 (w64 (((w64 (a0.getD ((w64 (a1 + v54_1)).toNat) 0)).tmod 128) * 2 ^ (min (w64 (7 * v54_1)).toNat 64)))) (w64 (v54_1 + 1)) _ h)
    · obtain rfl := Option.some.inj h
      exact .of_done tab mixed [bF] [] [] [0] rfl (nd c1 trivial) (by kernel_rfl)
def spec.GetNum.f (K : Nat) (a0 : List Int) (a1 : Int) : Option (Int × Int × Bool) :=
  Option.bind (spec.GetNum.l0.f a0 a1 K 0 0) fun x1 => (Sum.elim (fun x1 => some (x1.1, x1.2.1, x1.2.2)) (fun x1 => some (0, 0, false))) x1
theorem spec.GetNum.spec (K : Nat) (a0 : List Int) (a1 : Int) (o : Int × Int × Bool) (h : spec.GetNum.f K a0 a1 = some o) : Den.Spec Tryz.prog 51 [one (.sl 0 0 a0.length), one (.int .i64 a1)] [some ⟨false, .ints .u8 a0⟩] (.tup [.c (.int .i64 o.1), .c (.int .i64 o.2.1), .c (.bool o.2.2)]) [some ⟨false, .ints .u8 a0⟩] := by
  unfold spec.GetNum.f at h
  obtain ⟨x1, e1, h⟩ := bind_some h
  rcases x1 with x1 | x1
  · obtain rfl := Option.some.inj h
    exact Den.Spec.of_walk tab mixed Tryz.func51 (by kernel_rfl) [.loop [] [0, 1, 7, 8] [0] (.ret) (spec.GetNum.l0.e0 a0 a1 x1)] [] [0] (nd (spec.GetNum.l0.spec a0 a1 K 0 0 _ e1) trivial) (by kernel_rfl)
  · obtain rfl := Option.some.inj h
    exact Den.Spec.of_walk tab mixed Tryz.func51 (by kernel_rfl) [.loop [] [0, 1, 7, 8] [0] (.exit 0) (spec.GetNum.l0.e1 a0 a1 x1)] [] [0] (nd (spec.GetNum.l0.spec a0 a1 K 0 0 _ e1) trivial) (by kernel_rfl)
def spec.GetText.f (K : Nat) (a0 : List Int) (a1 : Int) : Option (ByteArray × Int × Bool) :=
  Option.bind (spec.GetNum.f K a0 a1) fun x1 => cond (x1.2.2) (cond (decide (x1.1 > 400)) (some (noVal, 0, false)) (cond (decide (x1.1 > (w64 ((a0.length : Int) - x1.2.1)))) (some (noVal, 0, false)) (ck (0 ≤ x1.2.1) (ck (x1.2.1 ≤ (w64 (x1.2.1 + x1.1))) (ck ((w64 (x1.2.1 + x1.1)) ≤ (a0.length : Int)) (ck (x1.2.1.toNat + ((w64 (x1.2.1 + x1.1)).toNat - x1.2.1.toNat) ≤ a0.length) (some (ofBytes ((a0.drop x1.2.1.toNat).take ((w64 (x1.2.1 + x1.1)).toNat - x1.2.1.toNat)), w64 (x1.2.1 + x1.1), true)))))))) (some (noVal, 0, false))
theorem spec.GetText.spec (K : Nat) (a0 : List Int) (a1 : Int) (o : ByteArray × Int × Bool) (h : spec.GetText.f K a0 a1 = some o) : Den.Spec Tryz.prog 52 [one (.sl 0 0 a0.length), one (.int .i64 a1)] [some ⟨false, .ints .u8 a0⟩] (.tup [.c (.str o.1), .c (.int .i64 o.2.1), .c (.bool o.2.2)]) [some ⟨false, .ints .u8 a0⟩] := by
  unfold spec.GetText.f at h
  obtain ⟨x1, e1, h⟩ := bind_some h
  rcases br_cases h with ⟨c1, h⟩ | ⟨c1, h⟩
  · rcases br_cases h with ⟨c2, h⟩ | ⟨c2, h⟩
    · obtain rfl := Option.some.inj h
      exact Den.Spec.of_walk tab mixed Tryz.func52 (by kernel_rfl) [.call [] [(0, true)] (.tup [.c (.int .i64 x1.1), .c (.int .i64 x1.2.1), .c (.bool x1.2.2)]) (iF a0), bF, bF, bF, bT, bT, bT, bT, bT, bT, bT, bT] [] [0] (nd (spec.GetNum.spec K a0 a1 _ e1) (n0 (nl a0 (nd (nf c1) (nd (nf c1) (nd (nf c1) (nd c2 (nd c2 (nd c2 (nd c2 (nd c2 (nd c2 (nd c2 (nd tt trivial)))))))))))))) (by kernel_rfl)
    · rcases br_cases h with ⟨c3, h⟩ | ⟨c3, h⟩
      · obtain rfl := Option.some.inj h
        exact Den.Spec.of_walk tab mixed Tryz.func52 (by kernel_rfl) [.call [] [(0, true)] (.tup [.c (.int .i64 x1.1), .c (.int .i64 x1.2.1), .c (.bool x1.2.2)]) (iF a0), bF, bF, bF, bF, bF, bF, bF, bF, bF, bF, bT] [] [0] (nd (spec.GetNum.spec K a0 a1 _ e1) (n0 (nl a0 (nd (nf c1) (nd (nf c1) (nd (nf c1) (nd c2 (nd c2 (nd c2 (nd c2 (nd c2 (nd c2 (nd c2 (nd c3 trivial)))))))))))))) (by kernel_rfl)
      · obtain ⟨p1, h⟩ := ck_some h
        obtain ⟨p2, h⟩ := ck_some h
        obtain ⟨p3, h⟩ := ck_some h
        obtain ⟨p4, h⟩ := ck_some h
        obtain rfl := Option.some.inj h
        exact Den.Spec.of_walk tab mixed Tryz.func52 (by kernel_rfl) [.call [] [(0, true)] (.tup [.c (.int .i64 x1.1), .c (.int .i64 x1.2.1), .c (.bool x1.2.2)]) (iF a0), bF, bF, bF, bF, bF, bF, bF, bF, bF, bF, bF, bF] [] [0] (nd (spec.GetNum.spec K a0 a1 _ e1) (n0 (nl a0 (nd (nf c1) (nd (nf c1) (nd (nf c1) (nd c2 (nd c2 (nd c2 (nd c2 (nd c2 (nd c2 (nd c2 (nd c3 (nd p1 (nd p2 (nd p3 (nd p4 trivial)))))))))))))))))) (by kernel_rfl)
  · obtain rfl := Option.some.inj h
    exact Den.Spec.of_walk tab mixed Tryz.func52 (by kernel_rfl) [.call [] [(0, true)] (.tup [.c (.int .i64 x1.1), .c (.int .i64 x1.2.1), .c (.bool x1.2.2)]) (iF a0), bT, bT, bT, bT, bT, bT, bT, bT, bT, bT, bT] [] [0] (nd (spec.GetNum.spec K a0 a1 _ e1) (n0 (nl a0 (nd (nt c1) (nd (nt c1) (nd (nt c1) (nd tt (nd tt (nd tt (nd tt (nd tt (nd tt (nd tt (nd tt trivial)))))))))))))) (by kernel_rfl)
def spec.RecOk.f (a0 : Int) (a1 : Int) (a2 : ByteArray) : Option (Bool) :=
  Option.bind (spec.l1In.f a0 0 25) fun x1 => cond (x1) (Option.bind (spec.l1In.f a1 1 1000000000) fun x2 => cond (x2) (some (decide ((a2.size : Int) ≤ 400))) (some false)) (some false)
theorem spec.RecOk.spec (a0 : Int) (a1 : Int) (a2 : ByteArray) (o : Bool) (h : spec.RecOk.f a0 a1 a2 = some o) : Den.Spec Tryz.prog 105 [.v (.agg [.int .i64 a0, .int .i64 a1, .str a2])] [] (one (.bool o)) [] := by
  unfold spec.RecOk.f at h
  obtain ⟨x1, e1, h⟩ := bind_some h
  rcases br_cases h with ⟨c1, h⟩ | ⟨c1, h⟩
  · obtain ⟨x2, e2, h⟩ := bind_some h
    rcases br_cases h with ⟨c2, h⟩ | ⟨c2, h⟩
    · obtain rfl := Option.some.inj h
      exact Den.Spec.of_walk tab mixed Tryz.func105 (by kernel_rfl) [.call [] [] (one (.bool x1)) [], bT, bT, bT, .call [] [] (one (.bool x2)) [], bT, bT, bT, bT, bT, bT] [] [] (nd (spec.l1In.spec a0 0 25 _ e1) (nd c1 (nd c1 (nd c1 (nd (spec.l1In.spec a1 1 1000000000 _ e2) (nd c1 (nd c2 (nd c2 (nd c2 (nd c2 (nd c2 trivial))))))))))) (by kernel_rfl)
    · obtain rfl := Option.some.inj h
      exact Den.Spec.of_walk tab mixed Tryz.func105 (by kernel_rfl) [.call [] [] (one (.bool x1)) [], bT, bT, bT, .call [] [] (one (.bool x2)) [], bT, bF, bF, bF, bF, bF] [] [] (nd (spec.l1In.spec a0 0 25 _ e1) (nd c1 (nd c1 (nd c1 (nd (spec.l1In.spec a1 1 1000000000 _ e2) (nd c1 (nd c2 (nd c2 (nd c2 (nd c2 (nd c2 trivial))))))))))) (by kernel_rfl)
  · obtain rfl := Option.some.inj h
    exact Den.Spec.of_walk tab mixed Tryz.func105 (by kernel_rfl) [.call [] [] (one (.bool x1)) [], bF, bF, bF, bF, bF, bF, bF, bF, bF] [] [] (nd (spec.l1In.spec a0 0 25 _ e1) (nd c1 (nd c1 (nd c1 (nd c1 (nd ff (nd ff (nd ff (nd ff (nd ff trivial)))))))))) (by kernel_rfl)
def spec.PutNum.l0.f : Nat → Int → (List Int) → Option (Int × (List Int))
  | 0, _, _ => none
  | k + 1, v59_0, v59_1 =>
    cond (decide (v59_0 > 127)) (ck ((v59_1 ++ [IntKind.u8.wrap (w64 ((v59_0.tmod 128) + 128))]).length * 1 ≤ 70368744177664) (spec.PutNum.l0.f k (w64 (v59_0.tdiv 128)) (v59_1 ++ [IntKind.u8.wrap (w64 ((v59_0.tmod 128) + 128))]))) (some (v59_0, v59_1))
def spec.PutNum.l0.s (v59_0 : Int) (v59_1 : List Int) : St := mkSt 25 [(0, one (.int .i64 v59_0)), (3, one (.sl 0 0 v59_1.length))] [some ⟨true, .ints .u8 v59_1⟩]
def spec.PutNum.l0.e0 (o : Int × (List Int)) : St := mkSt 25 [(0, one (.int .i64 o.1)), (3, one (.sl 0 0 o.2.length))] [some ⟨true, .ints .u8 o.2⟩]
def spec.PutNum.l0.x : (Int × (List Int)) → AExit × St := fun o => (.exit 0, spec.PutNum.l0.e0 o)
theorem spec.PutNum.l0.spec : ∀ (k : Nat) (v59_0 : Int) (v59_1 : List Int) (o : Int × (List Int)), spec.PutNum.l0.f k v59_0 v59_1 = some o → LoopSpec Tryz.prog 0 (loopN Tryz.f42 0) (spec.PutNum.l0.s v59_0 v59_1) (spec.PutNum.l0.x o).1 (spec.PutNum.l0.x o).2
  | 0, _, _, _, h => by cases h
  | k + 1, v59_0, v59_1, o, h => by
    unfold spec.PutNum.l0.f at h
    rcases br_cases h with ⟨c1, h⟩ | ⟨c1, h⟩
    · obtain ⟨p1, h⟩ := ck_some h
      exact .of_step tab mixed [bT, bT] [] [0, 3] [2] (s1 := spec.PutNum.l0.s (w64 (v59_0.tdiv 128)) (v59_1 ++ [IntKind.u8.wrap (w64 ((v59_0.tmod 128) + 128))])) (nd c1 (nd (by decide : (128 : Int) ≠ 0) (n0 (nl v59_1 (nd p1 (n0 (nn 1 (nd (by decide : (128 : Int) ≠ 0) trivial)))))))) (by kernel_rfl) (spec.PutNum.l0.spec k (w64 (v59_0.tdiv 128)) (v59_1 ++ [IntKind.u8.wrap (w64 ((v59_0.tmod 128) + 128))]) _ h)
    · obtain rfl := Option.some.inj h
      exact .of_done tab mixed [bF] [] [0, 3] [0] rfl (nd c1 trivial) (by kernel_rfl)
def spec.PutNum.f (K : Nat) (a0 : Int) : Option ((List Int)) :=
  Option.bind (spec.l1In.f a0 0 1000000000) fun x1 => cond (x1) (Option.bind (spec.PutNum.l0.f K a0 []) fun x2 => ck ((x2.2 ++ [IntKind.u8.wrap x2.1]).length * 1 ≤ 70368744177664) (some (x2.2 ++ [IntKind.u8.wrap x2.1]))) (some [])
theorem spec.PutNum.spec (K : Nat) (a0 : Int) (o : (List Int)) (h : spec.PutNum.f K a0 = some o) : Den.Spec Tryz.prog 42 [one (.int .i64 a0)] [] (one (.sl 0 0 o.length)) [some ⟨true, .ints .u8 o⟩] := by
  unfold spec.PutNum.f at h
  obtain ⟨x1, e1, h⟩ := bind_some h
  rcases br_cases h with ⟨c1, h⟩ | ⟨c1, h⟩
  · obtain ⟨x2, e2, h⟩ := bind_some h
    obtain ⟨p1, h⟩ := ck_some h
    obtain rfl := Option.some.inj h
    exact Den.Spec.of_walk tab mixed Tryz.func42 (by kernel_rfl) [.call [] [] (one (.bool x1)) [], bF, .loop [] [0, 3] [0] (.exit 0) (spec.PutNum.l0.e0 x2), bT] [] [2] (nd (spec.l1In.spec a0 0 1000000000 _ e1) (nd (nf c1) (nd (spec.PutNum.l0.spec K a0 [] _ e2) (n0 (nl x2.2 (nd p1 (n0 (nn 1 trivial)))))))) (by kernel_rfl)
  · obtain rfl := Option.some.inj h
    exact Den.Spec.of_walk tab mixed Tryz.func42 (by kernel_rfl) [.call [] [] (one (.bool x1)) [], bT] [] [0] (nd (spec.l1In.spec a0 0 1000000000 _ e1) (nd (nt c1) trivial)) (by kernel_rfl)
def spec.PutText.f (K : Nat) (a0 : ByteArray) : Option ((List Int)) :=
  cond (decide ((a0.size : Int) > 400)) (some []) (Option.bind (spec.PutNum.f K (a0.size : Int)) fun x1 => ck ((x1 ++ (bytesL a0)).length * 1 ≤ 70368744177664) (some (x1 ++ (bytesL a0))))
theorem spec.PutText.spec (K : Nat) (a0 : ByteArray) (o : (List Int)) (h : spec.PutText.f K a0 = some o) : Den.Spec Tryz.prog 43 [one (.str a0)] [] (one (.sl 0 0 o.length)) [some ⟨true, .ints .u8 o⟩] := by
  unfold spec.PutText.f at h
  rcases br_cases h with ⟨c1, h⟩ | ⟨c1, h⟩
  · obtain rfl := Option.some.inj h
    exact Den.Spec.of_walk tab mixed Tryz.func43 (by kernel_rfl) [bT] [] [0] (nd c1 trivial) (by kernel_rfl)
  · obtain ⟨x1, e1, h⟩ := bind_some h
    obtain ⟨p1, h⟩ := ck_some h
    obtain rfl := Option.some.inj h
    exact Den.Spec.of_walk tab mixed Tryz.func43 (by kernel_rfl) [bF, .call [] [] (one (.sl 0 0 x1.length)) (iT x1), bT] [] [2] (nd c1 (nd (spec.PutNum.spec K (a0.size : Int) _ e1) (n0 (nl x1 (nd p1 (n0 (nd (rfl : (bytesL a0).length = (bytesL a0).length) trivial))))))) (by kernel_rfl)
def spec.Sum.l0.f (a0 : List Int) : Nat → Int → Int → Option (Int)
  | 0, _, _ => none
  | k + 1, v63_0, v63_1 =>
    cond (decide (v63_1 < (a0.length : Int))) (ck (0 ≤ v63_1) (spec.Sum.l0.f a0 k ((w64 ((w64 (31 * v63_0)) + (w64 (a0.getD v63_1.toNat 0)))).tmod 1000003) (w64 (v63_1 + 1)))) (some v63_0)
def spec.Sum.l0.s (a0 : List Int) (v63_0 : Int) (v63_1 : Int) : St := mkSt 21 [(0, one (.sl 0 0 a0.length)), (3, one (.int .i64 v63_0)), (4, one (.int .i64 v63_1))] [some ⟨false, .ints .u8 a0⟩]
def spec.Sum.l0.e0 (a0 : List Int) (o : Int) : St := mkSt 21 [(3, one (.int .i64 o))] [some ⟨false, .ints .u8 a0⟩]
def spec.Sum.l0.x (a0 : List Int) : (Int) → AExit × St := fun o => (.exit 0, spec.Sum.l0.e0 a0 o)
theorem spec.Sum.l0.spec (a0 : List Int) : ∀ (k : Nat) (v63_0 : Int) (v63_1 : Int) (o : Int), spec.Sum.l0.f a0 k v63_0 v63_1 = some o → LoopSpec Tryz.prog 1 (loopN Tryz.f44 0) (spec.Sum.l0.s a0 v63_0 v63_1) (spec.Sum.l0.x a0 o).1 (spec.Sum.l0.x a0 o).2
  | 0, _, _, _, h => by cases h
  | k + 1, v63_0, v63_1, o, h => by
    unfold spec.Sum.l0.f at h
    rcases br_cases h with ⟨c1, h⟩ | ⟨c1, h⟩
    · obtain ⟨p1, h⟩ := ck_some h
      exact .of_step tab mixed [bT] [] [0, 3, 4] [0] (s1 := spec.Sum.l0.s a0 ((w64 ((w64 (31 * v63_0)) + (w64 (a0.getD v63_1.toNat 0)))).tmod 1000003) (w64 (v63_1 + 1))) (nd c1 (nd p1 (nd (of_decide_eq_true c1) (nd (tn p1 (of_decide_eq_true c1)) (nd (by decide : (1000003 : Int) ≠ 0) trivial))))) (by kernel_rfl) (spec.Sum.l0.spec a0 k ((w64 ((w64 (31 * v63_0)) + (w64 (a0.getD v63_1.toNat 0)))).tmod 1000003) (w64 (v63_1 + 1)) _ h)
    · obtain rfl := Option.some.inj h
      exact .of_done tab mixed [bF] [] [3] [0] rfl (nd c1 trivial) (by kernel_rfl)
def spec.Sum.f (K : Nat) (a0 : List Int) : Option (Int) :=
  Option.bind (spec.Sum.l0.f a0 K 7 0) fun x1 => some x1
theorem spec.Sum.spec (K : Nat) (a0 : List Int) (o : Int) (h : spec.Sum.f K a0 = some o) : Den.Spec Tryz.prog 44 [one (.sl 0 0 a0.length)] [some ⟨false, .ints .u8 a0⟩] (one (.int .i64 o)) [some ⟨false, .ints .u8 a0⟩] := by
  unfold spec.Sum.f at h
  obtain ⟨x1, e1, h⟩ := bind_some h
  obtain rfl := Option.some.inj h
  exact Den.Spec.of_walk tab mixed Tryz.func44 (by kernel_rfl) [.loop [] [0, 3, 4] [0] (.exit 0) (spec.Sum.l0.e0 a0 x1)] [] [0] (nd (spec.Sum.l0.spec a0 K 7 0 _ e1) trivial) (by kernel_rfl)
def spec.RecText.f (K : Nat) (a0 : Int) (a1 : Int) (a2 : ByteArray) : Option (ByteArray) :=
  Option.bind (spec.RecOk.f a0 a1 a2) fun x1 => cond (x1) (Option.bind (spec.PutNum.f K a0) fun x2 => Option.bind (spec.PutNum.f K a1) fun x3 => ck ((x2 ++ x3).length * 1 ≤ 70368744177664) (Option.bind (spec.PutText.f K a2) fun x4 => ck (((x2 ++ x3) ++ x4).length * 1 ≤ 70368744177664) (Option.bind (spec.Sum.f K ((x2 ++ x3) ++ x4)) fun x5 => Option.bind (spec.PutNum.f K x5) fun x6 => ck ((x6 ++ ((x2 ++ x3) ++ x4)).length * 1 ≤ 70368744177664) (some (ofBytes (x6 ++ ((x2 ++ x3) ++ x4))))))) (some noVal)
theorem spec.RecText.spec (K : Nat) (a0 : Int) (a1 : Int) (a2 : ByteArray) (o : ByteArray) (h : spec.RecText.f K a0 a1 a2 = some o) : Den.Spec Tryz.prog 96 [.v (.agg [.int .i64 a0, .int .i64 a1, .str a2])] [] (one (.str o)) [] := by
  unfold spec.RecText.f at h
  obtain ⟨x1, e1, h⟩ := bind_some h
  rcases br_cases h with ⟨c1, h⟩ | ⟨c1, h⟩
  · obtain ⟨x2, e2, h⟩ := bind_some h
    obtain ⟨x3, e3, h⟩ := bind_some h
    obtain ⟨p1, h⟩ := ck_some h
    obtain ⟨x4, e4, h⟩ := bind_some h
    obtain ⟨p2, h⟩ := ck_some h
    obtain ⟨x5, e5, h⟩ := bind_some h
    obtain ⟨x6, e6, h⟩ := bind_some h
    obtain ⟨p3, h⟩ := ck_some h
    obtain rfl := Option.some.inj h
    exact Den.Spec.of_walk tab mixed Tryz.func96 (by kernel_rfl) [.call [] [] (one (.bool x1)) [], bF, .call [] [] (one (.sl 0 0 x2.length)) (iT x2), .call [] [] (one (.sl 0 0 x3.length)) (iT x3), bT, .call [] [] (one (.sl 0 0 x4.length)) (iT x4), bT, .call [] [(0, true)] (one (.int .i64 x5)) [some ⟨false, .ints .u8 ((x2 ++ x3) ++ x4)⟩], .call [] [] (one (.sl 0 0 x6.length)) (iT x6), bT, bT] [] [] (nd (spec.RecOk.spec a0 a1 a2 _ e1) (nd (nf c1) (nd (spec.PutNum.spec K a0 _ e2) (nd (spec.PutNum.spec K a1 _ e3) (n0 (nl x2 (nd p1 (n0 (nl x3 (nd (spec.PutText.spec K a2 _ e4) (n0 (nd (rfl : (x2 ++ x3).length = (x2 ++ x3).length) (nd p2 (n0 (nl x4 (nd (spec.Sum.spec K ((x2 ++ x3) ++ x4) _ e5) (n0 (nd (rfl : ((x2 ++ x3) ++ x4).length = ((x2 ++ x3) ++ x4).length) (nd (spec.PutNum.spec K x5 _ e6) (n0 (nl x6 (nd p3 (n0 (nd (rfl : ((x2 ++ x3) ++ x4).length = ((x2 ++ x3) ++ x4).length) (n0 (nd (rfl : (x6 ++ ((x2 ++ x3) ++ x4)).length = (x6 ++ ((x2 ++ x3) ++ x4)).length) trivial)))))))))))))))))))))))))) (by kernel_rfl)
  · obtain rfl := Option.some.inj h
    exact Den.Spec.of_walk tab mixed Tryz.func96 (by kernel_rfl) [.call [] [] (one (.bool x1)) [], bT] [] [] (nd (spec.RecOk.spec a0 a1 a2 _ e1) (nd (nt c1) trivial)) (by kernel_rfl)
def spec.RecRead.f (K : Nat) (a0 : ByteArray) : Option (Int × Int × ByteArray × Bool) :=
  Option.bind (spec.GetNum.f K (bytesL a0) 0) fun x1 => cond (x1.2.2) (Option.bind (spec.GetNum.f K (bytesL a0) x1.2.1) fun x2 => cond (x2.2.2) (Option.bind (spec.GetNum.f K (bytesL a0) x2.2.1) fun x3 => cond (x3.2.2) (Option.bind (spec.GetText.f K (bytesL a0) x3.2.1) fun x4 => cond (x4.2.2) (Option.bind (spec.RecText.f K x2.1 x3.1 x4.1) fun x5 => cond (strEq x5 a0) (some (x2.1, x3.1, x4.1, true)) (some (0, 0, noVal, false))) (some (0, 0, noVal, false))) (some (0, 0, noVal, false))) (some (0, 0, noVal, false))) (some (0, 0, noVal, false))
theorem spec.RecRead.spec (K : Nat) (a0 : ByteArray) (o : Int × Int × ByteArray × Bool) (h : spec.RecRead.f K a0 = some o) : Den.Spec Tryz.prog 64 [one (.str a0)] [] (.tup [.agg [.int .i64 o.1, .int .i64 o.2.1, .str o.2.2.1], .c (.bool o.2.2.2)]) [] := by
  unfold spec.RecRead.f at h
  obtain ⟨x1, e1, h⟩ := bind_some h
  rcases br_cases h with ⟨c1, h⟩ | ⟨c1, h⟩
  · obtain ⟨x2, e2, h⟩ := bind_some h
    rcases br_cases h with ⟨c2, h⟩ | ⟨c2, h⟩
    · obtain ⟨x3, e3, h⟩ := bind_some h
      rcases br_cases h with ⟨c3, h⟩ | ⟨c3, h⟩
      · obtain ⟨x4, e4, h⟩ := bind_some h
        rcases br_cases h with ⟨c4, h⟩ | ⟨c4, h⟩
        · obtain ⟨x5, e5, h⟩ := bind_some h
          rcases br_cases h with ⟨c5, h⟩ | ⟨c5, h⟩
          · obtain rfl := Option.some.inj h
            exact Den.Spec.of_walk tab mixed Tryz.func64 (by kernel_rfl) [.call [] [(0, true)] (.tup [.c (.int .i64 x1.1), .c (.int .i64 x1.2.1), .c (.bool x1.2.2)]) [some ⟨false, .ints .u8 (bytesL a0)⟩], bF, .call [] [(0, true)] (.tup [.c (.int .i64 x2.1), .c (.int .i64 x2.2.1), .c (.bool x2.2.2)]) [some ⟨false, .ints .u8 (bytesL a0)⟩], bF, .call [] [(0, true)] (.tup [.c (.int .i64 x3.1), .c (.int .i64 x3.2.1), .c (.bool x3.2.2)]) [some ⟨false, .ints .u8 (bytesL a0)⟩], bF, .call [] [(0, true)] (.tup [.c (.str x4.1), .c (.int .i64 x4.2.1), .c (.bool x4.2.2)]) [some ⟨false, .ints .u8 (bytesL a0)⟩], bF, bF, .call [] [] (one (.str x5)) [], bF, bF, bF, bF] [] [] (nd (spec.GetNum.spec K (bytesL a0) 0 _ e1) (n0 (nd (rfl : (bytesL a0).length = (bytesL a0).length) (nd (nf c1) (nd (spec.GetNum.spec K (bytesL a0) x1.2.1 _ e2) (n0 (nd (rfl : (bytesL a0).length = (bytesL a0).length) (nd (nf c2) (nd (spec.GetNum.spec K (bytesL a0) x2.2.1 _ e3) (n0 (nd (rfl : (bytesL a0).length = (bytesL a0).length) (nd (nf c3) (nd (spec.GetText.spec K (bytesL a0) x3.2.1 _ e4) (n0 (nd (rfl : (bytesL a0).length = (bytesL a0).length) (nd (nf c4) (nd (nf c4) (nd (spec.RecText.spec K x2.1 x3.1 x4.1 _ e5) (nd (nf c4) (nd (nf c4) (nd (nf c4) (nd (nf c5) trivial)))))))))))))))))))))) (by kernel_rfl)
          · obtain rfl := Option.some.inj h
            exact Den.Spec.of_walk tab mixed Tryz.func64 (by kernel_rfl) [.call [] [(0, true)] (.tup [.c (.int .i64 x1.1), .c (.int .i64 x1.2.1), .c (.bool x1.2.2)]) [some ⟨false, .ints .u8 (bytesL a0)⟩], bF, .call [] [(0, true)] (.tup [.c (.int .i64 x2.1), .c (.int .i64 x2.2.1), .c (.bool x2.2.2)]) [some ⟨false, .ints .u8 (bytesL a0)⟩], bF, .call [] [(0, true)] (.tup [.c (.int .i64 x3.1), .c (.int .i64 x3.2.1), .c (.bool x3.2.2)]) [some ⟨false, .ints .u8 (bytesL a0)⟩], bF, .call [] [(0, true)] (.tup [.c (.str x4.1), .c (.int .i64 x4.2.1), .c (.bool x4.2.2)]) [some ⟨false, .ints .u8 (bytesL a0)⟩], bF, bF, .call [] [] (one (.str x5)) [], bF, bF, bF, bT] [] [] (nd (spec.GetNum.spec K (bytesL a0) 0 _ e1) (n0 (nd (rfl : (bytesL a0).length = (bytesL a0).length) (nd (nf c1) (nd (spec.GetNum.spec K (bytesL a0) x1.2.1 _ e2) (n0 (nd (rfl : (bytesL a0).length = (bytesL a0).length) (nd (nf c2) (nd (spec.GetNum.spec K (bytesL a0) x2.2.1 _ e3) (n0 (nd (rfl : (bytesL a0).length = (bytesL a0).length) (nd (nf c3) (nd (spec.GetText.spec K (bytesL a0) x3.2.1 _ e4) (n0 (nd (rfl : (bytesL a0).length = (bytesL a0).length) (nd (nf c4) (nd (nf c4) (nd (spec.RecText.spec K x2.1 x3.1 x4.1 _ e5) (nd (nf c4) (nd (nf c4) (nd (nf c4) (nd (nt c5) trivial)))))))))))))))))))))) (by kernel_rfl)
        · obtain rfl := Option.some.inj h
          exact Den.Spec.of_walk tab mixed Tryz.func64 (by kernel_rfl) [.call [] [(0, true)] (.tup [.c (.int .i64 x1.1), .c (.int .i64 x1.2.1), .c (.bool x1.2.2)]) [some ⟨false, .ints .u8 (bytesL a0)⟩], bF, .call [] [(0, true)] (.tup [.c (.int .i64 x2.1), .c (.int .i64 x2.2.1), .c (.bool x2.2.2)]) [some ⟨false, .ints .u8 (bytesL a0)⟩], bF, .call [] [(0, true)] (.tup [.c (.int .i64 x3.1), .c (.int .i64 x3.2.1), .c (.bool x3.2.2)]) [some ⟨false, .ints .u8 (bytesL a0)⟩], bF, .call [] [(0, true)] (.tup [.c (.str x4.1), .c (.int .i64 x4.2.1), .c (.bool x4.2.2)]) [some ⟨false, .ints .u8 (bytesL a0)⟩], bT, bT, bT, bT, bT, bT] [] [] (nd (spec.GetNum.spec K (bytesL a0) 0 _ e1) (n0 (nd (rfl : (bytesL a0).length = (bytesL a0).length) (nd (nf c1) (nd (spec.GetNum.spec K (bytesL a0) x1.2.1 _ e2) (n0 (nd (rfl : (bytesL a0).length = (bytesL a0).length) (nd (nf c2) (nd (spec.GetNum.spec K (bytesL a0) x2.2.1 _ e3) (n0 (nd (rfl : (bytesL a0).length = (bytesL a0).length) (nd (nf c3) (nd (spec.GetText.spec K (bytesL a0) x3.2.1 _ e4) (n0 (nd (rfl : (bytesL a0).length = (bytesL a0).length) (nd (nt c4) (nd (nt c4) (nd (nt c4) (nd (nt c4) (nd (nt c4) (nd tt trivial))))))))))))))))))))) (by kernel_rfl)
      · obtain rfl := Option.some.inj h
        exact Den.Spec.of_walk tab mixed Tryz.func64 (by kernel_rfl) [.call [] [(0, true)] (.tup [.c (.int .i64 x1.1), .c (.int .i64 x1.2.1), .c (.bool x1.2.2)]) [some ⟨false, .ints .u8 (bytesL a0)⟩], bF, .call [] [(0, true)] (.tup [.c (.int .i64 x2.1), .c (.int .i64 x2.2.1), .c (.bool x2.2.2)]) [some ⟨false, .ints .u8 (bytesL a0)⟩], bF, .call [] [(0, true)] (.tup [.c (.int .i64 x3.1), .c (.int .i64 x3.2.1), .c (.bool x3.2.2)]) [some ⟨false, .ints .u8 (bytesL a0)⟩], bT] [] [] (nd (spec.GetNum.spec K (bytesL a0) 0 _ e1) (n0 (nd (rfl : (bytesL a0).length = (bytesL a0).length) (nd (nf c1) (nd (spec.GetNum.spec K (bytesL a0) x1.2.1 _ e2) (n0 (nd (rfl : (bytesL a0).length = (bytesL a0).length) (nd (nf c2) (nd (spec.GetNum.spec K (bytesL a0) x2.2.1 _ e3) (n0 (nd (rfl : (bytesL a0).length = (bytesL a0).length) (nd (nt c3) trivial)))))))))))) (by kernel_rfl)
    · obtain rfl := Option.some.inj h
      exact Den.Spec.of_walk tab mixed Tryz.func64 (by kernel_rfl) [.call [] [(0, true)] (.tup [.c (.int .i64 x1.1), .c (.int .i64 x1.2.1), .c (.bool x1.2.2)]) [some ⟨false, .ints .u8 (bytesL a0)⟩], bF, .call [] [(0, true)] (.tup [.c (.int .i64 x2.1), .c (.int .i64 x2.2.1), .c (.bool x2.2.2)]) [some ⟨false, .ints .u8 (bytesL a0)⟩], bT] [] [] (nd (spec.GetNum.spec K (bytesL a0) 0 _ e1) (n0 (nd (rfl : (bytesL a0).length = (bytesL a0).length) (nd (nf c1) (nd (spec.GetNum.spec K (bytesL a0) x1.2.1 _ e2) (n0 (nd (rfl : (bytesL a0).length = (bytesL a0).length) (nd (nt c2) trivial)))))))) (by kernel_rfl)
  · obtain rfl := Option.some.inj h
    exact Den.Spec.of_walk tab mixed Tryz.func64 (by kernel_rfl) [.call [] [(0, true)] (.tup [.c (.int .i64 x1.1), .c (.int .i64 x1.2.1), .c (.bool x1.2.2)]) [some ⟨false, .ints .u8 (bytesL a0)⟩], bT] [] [] (nd (spec.GetNum.spec K (bytesL a0) 0 _ e1) (n0 (nd (rfl : (bytesL a0).length = (bytesL a0).length) (nd (nt c1) trivial)))) (by kernel_rfl)
def spec.l1Max.f (a0 : Int) (a1 : Int) : Option (Int) :=
  cond (decide (a0 > a1)) (some a0) (some a1)
theorem spec.l1Max.spec (a0 : Int) (a1 : Int) (o : Int) (h : spec.l1Max.f a0 a1 = some o) : Den.Spec Tryz.prog 66 [one (.int .i64 a0), one (.int .i64 a1)] [] (one (.int .i64 o)) [] := by
  unfold spec.l1Max.f at h
  rcases br_cases h with ⟨c1, h⟩ | ⟨c1, h⟩
  · obtain rfl := Option.some.inj h
    exact Den.Spec.of_walk tab mixed Tryz.func66 (by kernel_rfl) [bT] [] [] (nd c1 trivial) (by kernel_rfl)
  · obtain rfl := Option.some.inj h
    exact Den.Spec.of_walk tab mixed Tryz.func66 (by kernel_rfl) [bF] [] [] (nd c1 trivial) (by kernel_rfl)
def spec.l1Min.f (a0 : Int) (a1 : Int) : Option (Int) :=
  cond (decide (a0 < a1)) (some a0) (some a1)
theorem spec.l1Min.spec (a0 : Int) (a1 : Int) (o : Int) (h : spec.l1Min.f a0 a1 = some o) : Den.Spec Tryz.prog 65 [one (.int .i64 a0), one (.int .i64 a1)] [] (one (.int .i64 o)) [] := by
  unfold spec.l1Min.f at h
  rcases br_cases h with ⟨c1, h⟩ | ⟨c1, h⟩
  · obtain rfl := Option.some.inj h
    exact Den.Spec.of_walk tab mixed Tryz.func65 (by kernel_rfl) [bT] [] [] (nd c1 trivial) (by kernel_rfl)
  · obtain rfl := Option.some.inj h
    exact Den.Spec.of_walk tab mixed Tryz.func65 (by kernel_rfl) [bF] [] [] (nd c1 trivial) (by kernel_rfl)
def spec.Mount.l1.f (K : Nat) (a0 : List ByteArray) (a1 : List Int) : Nat → (List Int) → Int → (List Int) → Int → Option ((List Int) × Int)
  | 0, _, _, _, _ => none
  | k + 1, v70_0, v70_1, v70_2, v70_3 =>
    cond (decide (v70_3 < (a0.length : Int))) (ck (0 ≤ v70_3) (Option.bind (spec.RecRead.f K (a0.getD v70_3.toNat noVal)) fun x1 => cond (x1.2.2.2) (ck (0 ≤ x1.1) (ck (x1.1 < (v70_2.length : Int)) (cond (decide (x1.2.1 > (v70_2.getD x1.1.toNat 0))) (ck (x1.1 < (v70_0.length : Int)) (Option.bind (spec.l1Max.f v70_1 (w64 (x1.2.1 + 1))) fun x2 => Option.bind (spec.l1Min.f x2 1000000000) fun x3 => spec.Mount.l1.f K a0 a1 k (v70_0.set x1.1.toNat v70_3) x3 (v70_2.set x1.1.toNat x1.2.1) (w64 (v70_3 + 1)))) (Option.bind (spec.l1Max.f v70_1 (w64 (x1.2.1 + 1))) fun x2 => Option.bind (spec.l1Min.f x2 1000000000) fun x3 => spec.Mount.l1.f K a0 a1 k v70_0 x3 v70_2 (w64 (v70_3 + 1)))))) (spec.Mount.l1.f K a0 a1 k v70_0 v70_1 v70_2 (w64 (v70_3 + 1))))) (some (v70_0, v70_1))
def spec.Mount.l1.s (K : Nat) (a0 : List ByteArray) (a1 : List Int) (v70_0 : List Int) (v70_1 : Int) (v70_2 : List Int) (v70_3 : Int) : St := mkSt 73 [(1, one (.ptr 2 0 0)), (2, one (.ptr 3 0 0)), (3, one (.ptr 7 0 0)), (4, one (.sl 11 0 v70_2.length)), (6, one (.int .i64 v70_3))] [some ⟨false, .strs a0⟩, some ⟨false, .ints .i64 a1⟩, some ⟨true, .cells [.sl 0 0 a0.length, .sl 1 0 a1.length]⟩, some ⟨true, .cells [.sl 4 0 0, .sl 5 0 0, .sl 6 0 0, .int .i64 0]⟩, some ⟨true, .strs []⟩, some ⟨true, .ints .i64 []⟩, some ⟨true, .ints .i64 []⟩, some ⟨true, .cells [.sl 8 0 (([] ++ a0).length), .sl 9 0 (([] ++ a1).length), .sl 10 0 v70_0.length, .int .i64 v70_1]⟩, some ⟨true, .strs ([] ++ a0)⟩, some ⟨true, .ints .i64 ([] ++ a1)⟩, some ⟨true, .ints .i64 v70_0⟩, some ⟨true, .ints .i64 v70_2⟩]
def spec.Mount.l1.e0 (K : Nat) (a0 : List ByteArray) (a1 : List Int) (o : (List Int) × Int) : St := mkSt 73 [(2, one (.ptr 2 0 0)), (3, one (.ptr 6 0 0))] [some ⟨false, .strs a0⟩, some ⟨false, .ints .i64 a1⟩, some ⟨true, .cells [.sl 3 0 0, .sl 4 0 0, .sl 5 0 0, .int .i64 0]⟩, some ⟨true, .strs []⟩, some ⟨true, .ints .i64 []⟩, some ⟨true, .ints .i64 []⟩, some ⟨true, .cells [.sl 7 0 (([] ++ a0).length), .sl 8 0 (([] ++ a1).length), .sl 9 0 o.1.length, .int .i64 o.2]⟩, some ⟨true, .strs ([] ++ a0)⟩, some ⟨true, .ints .i64 ([] ++ a1)⟩, some ⟨true, .ints .i64 o.1⟩]
def spec.Mount.l1.x (K : Nat) (a0 : List ByteArray) (a1 : List Int) : ((List Int) × Int) → AExit × St := fun o => (.exit 2, spec.Mount.l1.e0 K a0 a1 o)
theorem spec.Mount.l1.spec (K : Nat) (a0 : List ByteArray) (a1 : List Int) : ∀ (k : Nat) (v70_0 : List Int) (v70_1 : Int) (v70_2 : List Int) (v70_3 : Int) (o : (List Int) × Int), spec.Mount.l1.f K a0 a1 k v70_0 v70_1 v70_2 v70_3 = some o → LoopSpec Tryz.prog 2 (loopN Tryz.f20 1) (spec.Mount.l1.s K a0 a1 v70_0 v70_1 v70_2 v70_3) (spec.Mount.l1.x K a0 a1 o).1 (spec.Mount.l1.x K a0 a1 o).2
  | 0, _, _, _, _, _, h => by cases h
  | k + 1, v70_0, v70_1, v70_2, v70_3, o, h => by
    unfold spec.Mount.l1.f at h
    rcases br_cases h with ⟨c1, h⟩ | ⟨c1, h⟩
    · obtain ⟨p1, h⟩ := ck_some h
      obtain ⟨x1, e1, h⟩ := bind_some h
      rcases br_cases h with ⟨c2, h⟩ | ⟨c2, h⟩
      · obtain ⟨p2, h⟩ := ck_some h
        obtain ⟨p3, h⟩ := ck_some h
        rcases br_cases h with ⟨c3, h⟩ | ⟨c3, h⟩
        · obtain ⟨p4, h⟩ := ck_some h
          obtain ⟨x2, e2, h⟩ := bind_some h
          obtain ⟨x3, e3, h⟩ := bind_some h
          exact .of_step tab mixed [bT, .call [] [] (.tup [.agg [.int .i64 x1.1, .int .i64 x1.2.1, .str x1.2.2.1], .c (.bool x1.2.2.2)]) [], bF, bT, .call [] [] (one (.int .i64 x2)) [], .call [] [] (one (.int .i64 x3)) []] [] [1, 2, 3, 4, 6] [0, 1, 2, 3, 4, 5, 6, 7, 8, 9, 10, 11] (s1 := mkSt 73 [(1, one (.ptr 2 0 0)), (2, one (.ptr 3 0 0)), (3, one (.ptr 7 0 0)), (4, one (.sl 11 0 v70_2.length)), (6, one (.int .i64 (w64 (v70_3 + 1))))] [some ⟨false, .strs a0⟩, some ⟨false, .ints .i64 a1⟩, some ⟨true, .cells [.sl 0 0 a0.length, .sl 1 0 a1.length]⟩, some ⟨true, .cells [.sl 4 0 0, .sl 5 0 0, .sl 6 0 0, .int .i64 0]⟩, some ⟨true, .strs []⟩, some ⟨true, .ints .i64 []⟩, some ⟨true, .ints .i64 []⟩, some ⟨true, .cells [.sl 8 0 (([] ++ a0).length), .sl 9 0 (([] ++ a1).length), .sl 10 0 v70_0.length, .int .i64 x3]⟩, some ⟨true, .strs ([] ++ a0)⟩, some ⟨true, .ints .i64 ([] ++ a1)⟩, some ⟨true, .ints .i64 (v70_0.set x1.1.toNat v70_3)⟩, some ⟨true, .ints .i64 (v70_2.set x1.1.toNat x1.2.1)⟩]) (nd c1 (nd p1 (nd (of_decide_eq_true c1) (nd (tn p1 (of_decide_eq_true c1)) (nd (spec.RecRead.spec K (a0.getD v70_3.toNat noVal) _ e1) (nd (nf c2) (nd p2 (nd p3 (nd (tn p2 p3) (nd c3 (nd p2 (nd p3 (nd (tn p2 p3) (nd p2 (nd p4 (nd (tn p2 p4) (nd (spec.l1Max.spec v70_1 (w64 (x1.2.1 + 1)) _ e2) (nd (spec.l1Min.spec x2 1000000000 _ e3) trivial)))))))))))))))))) (by kernel_rfl) (LoopSpec.eqs (spec.Mount.l1.spec K a0 a1 k (v70_0.set x1.1.toNat v70_3) x3 (v70_2.set x1.1.toNat x1.2.1) (w64 (v70_3 + 1)) _ h) (by simp only [spec.Mount.l1.s, List.length_set, overL_length] : spec.Mount.l1.s K a0 a1 (v70_0.set x1.1.toNat v70_3) x3 (v70_2.set x1.1.toNat x1.2.1) (w64 (v70_3 + 1)) = mkSt 73 [(1, one (.ptr 2 0 0)), (2, one (.ptr 3 0 0)), (3, one (.ptr 7 0 0)), (4, one (.sl 11 0 v70_2.length)), (6, one (.int .i64 (w64 (v70_3 + 1))))] [some ⟨false, .strs a0⟩, some ⟨false, .ints .i64 a1⟩, some ⟨true, .cells [.sl 0 0 a0.length, .sl 1 0 a1.length]⟩, some ⟨true, .cells [.sl 4 0 0, .sl 5 0 0, .sl 6 0 0, .int .i64 0]⟩, some ⟨true, .strs []⟩, some ⟨true, .ints .i64 []⟩, some ⟨true, .ints .i64 []⟩, some ⟨true, .cells [.sl 8 0 (([] ++ a0).length), .sl 9 0 (([] ++ a1).length), .sl 10 0 v70_0.length, .int .i64 x3]⟩, some ⟨true, .strs ([] ++ a0)⟩, some ⟨true, .ints .i64 ([] ++ a1)⟩, some ⟨true, .ints .i64 (v70_0.set x1.1.toNat v70_3)⟩, some ⟨true, .ints .i64 (v70_2.set x1.1.toNat x1.2.1)⟩]))
        · obtain ⟨x2, e2, h⟩ := bind_some h
          obtain ⟨x3, e3, h⟩ := bind_some h
          exact .of_step tab mixed [bT, .call [] [] (.tup [.agg [.int .i64 x1.1, .int .i64 x1.2.1, .str x1.2.2.1], .c (.bool x1.2.2.2)]) [], bF, bF, .call [] [] (one (.int .i64 x2)) [], .call [] [] (one (.int .i64 x3)) []] [] [1, 2, 3, 4, 6] [0, 1, 2, 3, 4, 5, 6, 7, 8, 9, 10, 11] (s1 := spec.Mount.l1.s K a0 a1 v70_0 x3 v70_2 (w64 (v70_3 + 1))) (nd c1 (nd p1 (nd (of_decide_eq_true c1) (nd (tn p1 (of_decide_eq_true c1)) (nd (spec.RecRead.spec K (a0.getD v70_3.toNat noVal) _ e1) (nd (nf c2) (nd p2 (nd p3 (nd (tn p2 p3) (nd c3 (nd (spec.l1Max.spec v70_1 (w64 (x1.2.1 + 1)) _ e2) (nd (spec.l1Min.spec x2 1000000000 _ e3) trivial)))))))))))) (by kernel_rfl) (spec.Mount.l1.spec K a0 a1 k v70_0 x3 v70_2 (w64 (v70_3 + 1)) _ h)
      · exact .of_step tab mixed [bT, .call [] [] (.tup [.agg [.int .i64 x1.1, .int .i64 x1.2.1, .str x1.2.2.1], .c (.bool x1.2.2.2)]) [], bT] [] [1, 2, 3, 4, 6] [0, 1, 2, 3, 4, 5, 6, 7, 8, 9, 10, 11] (s1 := spec.Mount.l1.s K a0 a1 v70_0 v70_1 v70_2 (w64 (v70_3 + 1))) (nd c1 (nd p1 (nd (of_decide_eq_true c1) (nd (tn p1 (of_decide_eq_true c1)) (nd (spec.RecRead.spec K (a0.getD v70_3.toNat noVal) _ e1) (nd (nt c2) trivial)))))) (by kernel_rfl) (spec.Mount.l1.spec K a0 a1 k v70_0 v70_1 v70_2 (w64 (v70_3 + 1)) _ h)
    · obtain rfl := Option.some.inj h
      exact .of_done tab mixed [bF] [] [2, 3] [0, 1, 3, 4, 5, 6, 7, 8, 9, 10] rfl (nd c1 trivial) (by kernel_rfl)
def spec.Mount.f (K : Nat) (a0 : List ByteArray) (a1 : List Int) : Option ((List ByteArray) × (List Int) × (List Int) × Int) :=
  Option.bind (spec.ChipOk.f K a0 a1) fun x1 => cond (x1) (Option.bind (spec.l2Copy.f a0 a1) fun x2 => ck ((26 * (8 : Int)) ≤ 70368744177664) (Option.bind (spec.Mount.l0.f a0 a1 K [] 0) fun x3 => Option.bind (spec.Mount.l1.f K a0 a1 K x3 1 (List.replicate 26 (0 : Int)) 0) fun x4 => some ([] ++ a0, [] ++ a1, x4.1, x4.2))) (some ([], [], [], 0))
theorem spec.Mount.spec (K : Nat) (a0 : List ByteArray) (a1 : List Int) (o : (List ByteArray) × (List Int) × (List Int) × Int) (h : spec.Mount.f K a0 a1 = some o) : Den.Spec Tryz.prog 20 [.v (.agg [.sl 0 0 a0.length, .sl 1 0 a1.length])] [some ⟨false, .strs a0⟩, some ⟨false, .ints .i64 a1⟩] (.v (.agg [.sl 2 0 o.1.length, .sl 3 0 o.2.1.length, .sl 4 0 o.2.2.1.length, .int .i64 o.2.2.2])) [some ⟨false, .strs a0⟩, some ⟨false, .ints .i64 a1⟩, some ⟨true, .strs o.1⟩, some ⟨true, .ints .i64 o.2.1⟩, some ⟨true, .ints .i64 o.2.2.1⟩] := by
  unfold spec.Mount.f at h
  obtain ⟨x1, e1, h⟩ := bind_some h
  rcases br_cases h with ⟨c1, h⟩ | ⟨c1, h⟩
  · obtain ⟨x2, e2, h⟩ := bind_some h
    obtain ⟨p1, h⟩ := ck_some h
    obtain ⟨x3, e3, h⟩ := bind_some h
    obtain ⟨x4, e4, h⟩ := bind_some h
    obtain rfl := Option.some.inj h
    exact Den.Spec.of_walk tab mixed Tryz.func20 (by kernel_rfl) [.call [(0, false), (1, false)] [] (one (.bool x1)) [some ⟨false, .strs a0⟩, some ⟨false, .ints .i64 a1⟩], bF, .call [(0, false), (1, false)] [] (.v (.agg [.sl 2 0 (([] ++ a0).length), .sl 3 0 (([] ++ a1).length)])) [some ⟨false, .strs a0⟩, some ⟨false, .ints .i64 a1⟩, some ⟨true, .strs ([] ++ a0)⟩, some ⟨true, .ints .i64 ([] ++ a1)⟩], .loop [] [1, 2, 3, 4, 5] [0, 1, 2, 3, 4, 5, 6, 9, 7, 8, 13, 14] (.exit 0) (spec.Mount.l0.e0 a0 a1 x3), .loop [] [1, 2, 3, 4, 6] [0, 1, 2, 3, 4, 5, 6, 7, 8, 9, 10, 11] (.exit 2) (spec.Mount.l1.e0 K a0 a1 x4)] [] [0, 1, 7, 8, 9] (nd (spec.ChipOk.spec K a0 a1 _ e1) (nd (nf c1) (nd (spec.l2Copy.spec a0 a1 _ e2) (nd (by decide : (0 : Int) ≤ 26) (nd (rfl : (26 : Int) = (26 : Int)) (nd p1 (nd (spec.Mount.l0.spec a0 a1 K [] 0 _ e3) (nd (spec.Mount.l1.spec K a0 a1 K x3 1 (List.replicate 26 (0 : Int)) 0 _ e4) trivial)))))))) (by kernel_rfl)
  · obtain rfl := Option.some.inj h
    exact Den.Spec.of_walk tab mixed Tryz.func20 (by kernel_rfl) [.call [(0, false), (1, false)] [] (one (.bool x1)) [some ⟨false, .strs a0⟩, some ⟨false, .ints .i64 a1⟩], bT] [] [0, 1, 7, 8, 9] (nd (spec.ChipOk.spec K a0 a1 _ e1) (nd (nt c1) trivial)) (by kernel_rfl)
def laws.sameInts.l0.f (a0 : List Int) (a1 : List Int) : Nat → Int → Option (Unit ⊕ Unit)
  | 0, _ => none
  | k + 1, v73_0 =>
    cond (decide (v73_0 < (a0.length : Int))) (ck (0 ≤ v73_0) (ck (v73_0 < (a1.length : Int)) (cond ((a0.getD v73_0.toNat 0) != (a1.getD v73_0.toNat 0)) (some (.inl ())) (laws.sameInts.l0.f a0 a1 k (w64 (v73_0 + 1)))))) (some (.inr (())))
def laws.sameInts.l0.s (a0 : List Int) (a1 : List Int) (v73_0 : Int) : St := mkSt 26 [(0, one (.sl 0 0 a0.length)), (1, one (.sl 1 0 a1.length)), (5, one (.int .i64 v73_0))] [some ⟨false, .ints .i64 a0⟩, some ⟨false, .ints .i64 a1⟩]
def laws.sameInts.l0.e0 (a0 : List Int) (a1 : List Int) (o : Unit) : St := mkSt 26 [(4, one (.bool false))] [some ⟨false, .ints .i64 a0⟩, some ⟨false, .ints .i64 a1⟩]
def laws.sameInts.l0.e1 (a0 : List Int) (a1 : List Int) (o : Unit) : St := mkSt 26 [] [some ⟨false, .ints .i64 a0⟩, some ⟨false, .ints .i64 a1⟩]
def laws.sameInts.l0.x (a0 : List Int) (a1 : List Int) : (Unit ⊕ Unit) → AExit × St := Sum.elim (fun o => (.ret, laws.sameInts.l0.e0 a0 a1 o)) (fun o => (.exit 0, laws.sameInts.l0.e1 a0 a1 o))
theorem laws.sameInts.l0.spec (a0 : List Int) (a1 : List Int) : ∀ (k : Nat) (v73_0 : Int) (o : Unit ⊕ Unit), laws.sameInts.l0.f a0 a1 k v73_0 = some o → LoopSpec Tryz.prog 2 (loopN Tryz.f22 0) (laws.sameInts.l0.s a0 a1 v73_0) (laws.sameInts.l0.x a0 a1 o).1 (laws.sameInts.l0.x a0 a1 o).2
  | 0, _, _, h => by cases h
  | k + 1, v73_0, o, h => by
    unfold laws.sameInts.l0.f at h
    rcases br_cases h with ⟨c1, h⟩ | ⟨c1, h⟩
    · obtain ⟨p1, h⟩ := ck_some h
      obtain ⟨p2, h⟩ := ck_some h
      rcases br_cases h with ⟨c2, h⟩ | ⟨c2, h⟩
      · obtain rfl := Option.some.inj h
        exact .of_done tab mixed [bT, bT] [] [4] [0, 1] rfl (nd c1 (nd p1 (nd (of_decide_eq_true c1) (nd (tn p1 (of_decide_eq_true c1)) (nd p1 (nd p2 (nd (tn p1 p2) (nd c2 trivial)))))))) (by kernel_rfl)
      · exact .of_step tab mixed [bT, bF] [] [0, 1, 5] [0, 1] (s1 := laws.sameInts.l0.s a0 a1 (w64 (v73_0 + 1))) (nd c1 (nd p1 (nd (of_decide_eq_true c1) (nd (tn p1 (of_decide_eq_true c1)) (nd p1 (nd p2 (nd (tn p1 p2) (nd c2 trivial)))))))) (by kernel_rfl) (laws.sameInts.l0.spec a0 a1 k (w64 (v73_0 + 1)) _ h)
    · obtain rfl := Option.some.inj h
      exact .of_done tab mixed [bF] [] [] [0, 1] rfl (nd c1 trivial) (by kernel_rfl)
def laws.sameInts.f (K : Nat) (a0 : List Int) (a1 : List Int) : Option (Bool) :=
  cond ((a0.length : Int) != (a1.length : Int)) (some false) (Option.bind (laws.sameInts.l0.f a0 a1 K 0) fun x1 => (Sum.elim (fun x1 => some false) (fun x1 => some true)) x1)
theorem laws.sameInts.spec (K : Nat) (a0 : List Int) (a1 : List Int) (o : Bool) (h : laws.sameInts.f K a0 a1 = some o) : Den.Spec Tryz.prog 22 [one (.sl 0 0 a0.length), one (.sl 1 0 a1.length)] [some ⟨false, .ints .i64 a0⟩, some ⟨false, .ints .i64 a1⟩] (one (.bool o)) [some ⟨false, .ints .i64 a0⟩, some ⟨false, .ints .i64 a1⟩] := by
  unfold laws.sameInts.f at h
  rcases br_cases h with ⟨c1, h⟩ | ⟨c1, h⟩
  · obtain rfl := Option.some.inj h
    exact Den.Spec.of_walk tab mixed Tryz.func22 (by kernel_rfl) [bT] [] [0, 1] (nd c1 trivial) (by kernel_rfl)
  · obtain ⟨x1, e1, h⟩ := bind_some h
    rcases x1 with x1 | x1
    · obtain rfl := Option.some.inj h
      exact Den.Spec.of_walk tab mixed Tryz.func22 (by kernel_rfl) [bF, .loop [] [0, 1, 5] [0, 1] (.ret) (laws.sameInts.l0.e0 a0 a1 x1)] [] [0, 1] (nd c1 (nd (laws.sameInts.l0.spec a0 a1 K 0 _ e1) trivial)) (by kernel_rfl)
    · obtain rfl := Option.some.inj h
      exact Den.Spec.of_walk tab mixed Tryz.func22 (by kernel_rfl) [bF, .loop [] [0, 1, 5] [0, 1] (.exit 0) (laws.sameInts.l0.e1 a0 a1 x1)] [] [0, 1] (nd c1 (nd (laws.sameInts.l0.spec a0 a1 K 0 _ e1) trivial)) (by kernel_rfl)
def laws.at_.f (a0 : List Int) (a1 : Int) : Option (Int) :=
  cond (decide (a1 < (a0.length : Int))) (ck (0 ≤ a1) (some (w64 (a0.getD a1.toNat 0)))) (some ((w64 ((w64 (a1 * 7)) + (a0.length : Int))).tmod 256))
theorem laws.at_.spec (a0 : List Int) (a1 : Int) (o : Int) (h : laws.at_.f a0 a1 = some o) : Den.Spec Tryz.prog 23 [one (.sl 0 0 a0.length), one (.int .i64 a1)] [some ⟨false, .ints .u8 a0⟩] (one (.int .i64 o)) [some ⟨false, .ints .u8 a0⟩] := by
  unfold laws.at_.f at h
  rcases br_cases h with ⟨c1, h⟩ | ⟨c1, h⟩
  · obtain ⟨p1, h⟩ := ck_some h
    obtain rfl := Option.some.inj h
    exact Den.Spec.of_walk tab mixed Tryz.func23 (by kernel_rfl) [bT] [] [0] (nd c1 (nd p1 (nd (of_decide_eq_true c1) (nd (tn p1 (of_decide_eq_true c1)) trivial)))) (by kernel_rfl)
  · obtain rfl := Option.some.inj h
    exact Den.Spec.of_walk tab mixed Tryz.func23 (by kernel_rfl) [bF] [] [0] (nd c1 (nd (by decide : (256 : Int) ≠ 0) trivial)) (by kernel_rfl)
def slices.Equal_int_int.l0.f (a0 : List Int) (a1 : List Int) : Nat → Int → Option (Unit ⊕ Unit)
  | 0, _ => none
  | k + 1, v78_0 =>
    cond (decide (v78_0 < (a0.length : Int))) (ck (0 ≤ v78_0) (ck (v78_0 < (a1.length : Int)) (cond ((a0.getD v78_0.toNat 0) != (a1.getD v78_0.toNat 0)) (some (.inl ())) (slices.Equal_int_int.l0.f a0 a1 k (w64 (v78_0 + 1)))))) (some (.inr (())))
def slices.Equal_int_int.l0.s (a0 : List Int) (a1 : List Int) (v78_0 : Int) : St := mkSt 26 [(0, one (.sl 0 0 a0.length)), (1, one (.sl 1 0 a1.length)), (12, one (.int .i64 (a0.length : Int))), (13, one (.int .i64 v78_0))] [some ⟨false, .ints .i64 a0⟩, some ⟨false, .ints .i64 a1⟩]
def slices.Equal_int_int.l0.e0 (a0 : List Int) (a1 : List Int) (o : Unit) : St := mkSt 26 [(4, one (.bool false))] [some ⟨false, .ints .i64 a0⟩, some ⟨false, .ints .i64 a1⟩]
def slices.Equal_int_int.l0.e1 (a0 : List Int) (a1 : List Int) (o : Unit) : St := mkSt 26 [] [some ⟨false, .ints .i64 a0⟩, some ⟨false, .ints .i64 a1⟩]
def slices.Equal_int_int.l0.x (a0 : List Int) (a1 : List Int) : (Unit ⊕ Unit) → AExit × St := Sum.elim (fun o => (.ret, slices.Equal_int_int.l0.e0 a0 a1 o)) (fun o => (.exit 0, slices.Equal_int_int.l0.e1 a0 a1 o))
theorem slices.Equal_int_int.l0.spec (a0 : List Int) (a1 : List Int) : ∀ (k : Nat) (v78_0 : Int) (o : Unit ⊕ Unit), slices.Equal_int_int.l0.f a0 a1 k v78_0 = some o → LoopSpec Tryz.prog 2 (loopN Tryz.f71 0) (slices.Equal_int_int.l0.s a0 a1 v78_0) (slices.Equal_int_int.l0.x a0 a1 o).1 (slices.Equal_int_int.l0.x a0 a1 o).2
  | 0, _, _, h => by cases h
  | k + 1, v78_0, o, h => by
    unfold slices.Equal_int_int.l0.f at h
    rcases br_cases h with ⟨c1, h⟩ | ⟨c1, h⟩
    · obtain ⟨p1, h⟩ := ck_some h
      obtain ⟨p2, h⟩ := ck_some h
      rcases br_cases h with ⟨c2, h⟩ | ⟨c2, h⟩
      · obtain rfl := Option.some.inj h
        exact .of_done tab mixed [bT, bT] [] [4] [0, 1] rfl (nd c1 (nd p1 (nd (of_decide_eq_true c1) (nd (tn p1 (of_decide_eq_true c1)) (nd p1 (nd p2 (nd (tn p1 p2) (nd c2 trivial)))))))) (by kernel_rfl)
      · exact .of_step tab mixed [bT, bF] [] [0, 1, 12, 13] [0, 1] (s1 := slices.Equal_int_int.l0.s a0 a1 (w64 (v78_0 + 1))) (nd c1 (nd p1 (nd (of_decide_eq_true c1) (nd (tn p1 (of_decide_eq_true c1)) (nd p1 (nd p2 (nd (tn p1 p2) (nd c2 trivial)))))))) (by kernel_rfl) (slices.Equal_int_int.l0.spec a0 a1 k (w64 (v78_0 + 1)) _ h)
    · obtain rfl := Option.some.inj h
      exact .of_done tab mixed [bF] [] [] [0, 1] rfl (nd c1 trivial) (by kernel_rfl)
def slices.Equal_int_int.f (K : Nat) (a0 : List Int) (a1 : List Int) : Option (Bool) :=
  cond ((a0.length : Int) != (a1.length : Int)) (some false) (Option.bind (slices.Equal_int_int.l0.f a0 a1 K 0) fun x1 => (Sum.elim (fun x1 => some false) (fun x1 => some true)) x1)
theorem slices.Equal_int_int.spec (K : Nat) (a0 : List Int) (a1 : List Int) (o : Bool) (h : slices.Equal_int_int.f K a0 a1 = some o) : Den.Spec Tryz.prog 71 [one (.sl 0 0 a0.length), one (.sl 1 0 a1.length)] [some ⟨false, .ints .i64 a0⟩, some ⟨false, .ints .i64 a1⟩] (one (.bool o)) [some ⟨false, .ints .i64 a0⟩, some ⟨false, .ints .i64 a1⟩] := by
  unfold slices.Equal_int_int.f at h
  rcases br_cases h with ⟨c1, h⟩ | ⟨c1, h⟩
  · obtain rfl := Option.some.inj h
    exact Den.Spec.of_walk tab mixed Tryz.func71 (by kernel_rfl) [bT] [] [0, 1] (nd c1 trivial) (by kernel_rfl)
  · obtain ⟨x1, e1, h⟩ := bind_some h
    rcases x1 with x1 | x1
    · obtain rfl := Option.some.inj h
      exact Den.Spec.of_walk tab mixed Tryz.func71 (by kernel_rfl) [bF, .loop [] [0, 1, 12, 13] [0, 1] (.ret) (slices.Equal_int_int.l0.e0 a0 a1 x1)] [] [0, 1] (nd c1 (nd (slices.Equal_int_int.l0.spec a0 a1 K 0 _ e1) trivial)) (by kernel_rfl)
    · obtain rfl := Option.some.inj h
      exact Den.Spec.of_walk tab mixed Tryz.func71 (by kernel_rfl) [bF, .loop [] [0, 1, 12, 13] [0, 1] (.exit 0) (slices.Equal_int_int.l0.e1 a0 a1 x1)] [] [0, 1] (nd c1 (nd (slices.Equal_int_int.l0.spec a0 a1 K 0 _ e1) trivial)) (by kernel_rfl)
def impl.FtlOk.f (K : Nat) (a0 : List ByteArray) (a1 : List Int) (a2 : List Int) (a3 : Int) : Option (Bool) :=
  Option.bind (impl.ChipOk.f K a0 a1) fun x1 => cond (x1) (Option.bind (impl.mount.f K a0 a1) fun x2 => Option.bind (slices.Equal_int_int.f K a2 x2.2.2.1) fun x3 => cond (x3) (some (a3 == x2.2.2.2)) (some false)) (some false)
theorem impl.FtlOk.spec (K : Nat) (a0 : List ByteArray) (a1 : List Int) (a2 : List Int) (a3 : Int) (o : Bool) (h : impl.FtlOk.f K a0 a1 a2 a3 = some o) : Den.Spec Tryz.prog 28 [.v (.agg [.sl 0 0 a0.length, .sl 1 0 a1.length, .sl 2 0 a2.length, .int .i64 a3])] [some ⟨false, .strs a0⟩, some ⟨false, .ints .i64 a1⟩, some ⟨false, .ints .i64 a2⟩] (one (.bool o)) [some ⟨false, .strs a0⟩, some ⟨false, .ints .i64 a1⟩, some ⟨false, .ints .i64 a2⟩] := by
  unfold impl.FtlOk.f at h
  obtain ⟨x1, e1, h⟩ := bind_some h
  rcases br_cases h with ⟨c1, h⟩ | ⟨c1, h⟩
  · obtain ⟨x2, e2, h⟩ := bind_some h
    obtain ⟨x3, e3, h⟩ := bind_some h
    rcases br_cases h with ⟨c2, h⟩ | ⟨c2, h⟩
    · obtain rfl := Option.some.inj h
      exact Den.Spec.of_walk tab mixed Tryz.func28 (by kernel_rfl) [.call [(0, false), (1, false)] [] (one (.bool x1)) [some ⟨false, .strs a0⟩, some ⟨false, .ints .i64 a1⟩], bF, .call [(0, false), (1, false)] [] (.v (.agg [.sl 2 0 x2.1.length, .sl 3 0 x2.2.1.length, .sl 4 0 x2.2.2.1.length, .int .i64 x2.2.2.2])) [some ⟨false, .strs a0⟩, some ⟨false, .ints .i64 a1⟩, some ⟨true, .strs x2.1⟩, some ⟨true, .ints .i64 x2.2.1⟩, some ⟨true, .ints .i64 x2.2.2.1⟩], .call [] [(0, true), (1, true)] (one (.bool x3)) [some ⟨false, .ints .i64 a2⟩, some ⟨false, .ints .i64 x2.2.2.1⟩], bT, bT, bT, bT, bT, bT] [] [0, 1, 2] (nd (impl.ChipOk.spec K a0 a1 _ e1) (nd (nf c1) (nd (impl.mount.spec K a0 a1 _ e2) (nd (slices.Equal_int_int.spec K a2 x2.2.2.1 _ e3) (n0 (nl a2 (n0 (nl x2.2.2.1 (nd c2 (nd c2 (nd c2 (nd c2 (nd c2 (nd c2 trivial)))))))))))))) (by kernel_rfl)
    · obtain rfl := Option.some.inj h
      exact Den.Spec.of_walk tab mixed Tryz.func28 (by kernel_rfl) [.call [(0, false), (1, false)] [] (one (.bool x1)) [some ⟨false, .strs a0⟩, some ⟨false, .ints .i64 a1⟩], bF, .call [(0, false), (1, false)] [] (.v (.agg [.sl 2 0 x2.1.length, .sl 3 0 x2.2.1.length, .sl 4 0 x2.2.2.1.length, .int .i64 x2.2.2.2])) [some ⟨false, .strs a0⟩, some ⟨false, .ints .i64 a1⟩, some ⟨true, .strs x2.1⟩, some ⟨true, .ints .i64 x2.2.1⟩, some ⟨true, .ints .i64 x2.2.2.1⟩], .call [] [(0, true), (1, true)] (one (.bool x3)) [some ⟨false, .ints .i64 a2⟩, some ⟨false, .ints .i64 x2.2.2.1⟩], bF, bF, bF, bF, bF, bF] [] [0, 1, 2] (nd (impl.ChipOk.spec K a0 a1 _ e1) (nd (nf c1) (nd (impl.mount.spec K a0 a1 _ e2) (nd (slices.Equal_int_int.spec K a2 x2.2.2.1 _ e3) (n0 (nl a2 (n0 (nl x2.2.2.1 (nd c2 (nd c2 (nd c2 (nd c2 (nd c2 (nd c2 trivial)))))))))))))) (by kernel_rfl)
  · obtain rfl := Option.some.inj h
    exact Den.Spec.of_walk tab mixed Tryz.func28 (by kernel_rfl) [.call [(0, false), (1, false)] [] (one (.bool x1)) [some ⟨false, .strs a0⟩, some ⟨false, .ints .i64 a1⟩], bT] [] [0, 1, 2] (nd (impl.ChipOk.spec K a0 a1 _ e1) (nd (nt c1) trivial)) (by kernel_rfl)
def impl.cloneFtl.f (a0 : List ByteArray) (a1 : List Int) (a2 : List Int) (a3 : Int) : Option ((List ByteArray) × (List Int) × (List Int)) :=
  Option.bind (impl.cloneChip.f a0 a1) fun x1 => Option.bind (slices.Clone_int_int.f a2) fun x2 => some (x1.1, x1.2, x2)
theorem impl.cloneFtl.spec (a0 : List ByteArray) (a1 : List Int) (a2 : List Int) (a3 : Int) (o : (List ByteArray) × (List Int) × (List Int)) (h : impl.cloneFtl.f a0 a1 a2 a3 = some o) : Den.Spec Tryz.prog 67 [.v (.agg [.sl 0 0 a0.length, .sl 1 0 a1.length, .sl 2 0 a2.length, .int .i64 a3])] [some ⟨false, .strs a0⟩, some ⟨false, .ints .i64 a1⟩, some ⟨false, .ints .i64 a2⟩] (.v (.agg [.sl 3 0 o.1.length, .sl 4 0 o.2.1.length, .sl 5 0 o.2.2.length, .int .i64 a3])) [some ⟨false, .strs a0⟩, some ⟨false, .ints .i64 a1⟩, some ⟨false, .ints .i64 a2⟩, some ⟨true, .strs o.1⟩, some ⟨true, .ints .i64 o.2.1⟩, some ⟨true, .ints .i64 o.2.2⟩] := by
  unfold impl.cloneFtl.f at h
  obtain ⟨x1, e1, h⟩ := bind_some h
  obtain ⟨x2, e2, h⟩ := bind_some h
  obtain rfl := Option.some.inj h
  exact Den.Spec.of_walk tab mixed Tryz.func67 (by kernel_rfl) [.call [(0, false), (1, false)] [] (.v (.agg [.sl 2 0 x1.1.length, .sl 3 0 x1.2.length])) [some ⟨false, .strs a0⟩, some ⟨false, .ints .i64 a1⟩, some ⟨true, .strs x1.1⟩, some ⟨true, .ints .i64 x1.2⟩], .call [] [(0, true)] (one (.sl 1 0 x2.length)) [some ⟨false, .ints .i64 a2⟩, some ⟨true, .ints .i64 x2⟩]] [] [0, 1, 2, 24, 25, 48] (nd (impl.cloneChip.spec a0 a1 _ e1) (nd (slices.Clone_int_int.spec a2 _ e2) (n0 (nl a2 trivial)))) (by kernel_rfl)
def slices.Index_string_string.l0.f (a0 : List ByteArray) (a1 : ByteArray) : Nat → Int → Option (Int ⊕ Unit)
  | 0, _ => none
  | k + 1, v85_0 =>
    cond (decide (v85_0 < (a0.length : Int))) (ck (0 ≤ v85_0) (cond (strEq a1 (a0.getD v85_0.toNat noVal)) (some (.inl v85_0)) (slices.Index_string_string.l0.f a0 a1 k (w64 (v85_0 + 1))))) (some (.inr (())))
def slices.Index_string_string.l0.s (a0 : List ByteArray) (a1 : ByteArray) (v85_0 : Int) : St := mkSt 19 [(0, one (.sl 0 0 a0.length)), (1, one (.str a1)), (7, one (.int .i64 (a0.length : Int))), (8, one (.int .i64 v85_0))] [some ⟨false, .strs a0⟩]
def slices.Index_string_string.l0.e0 (a0 : List ByteArray) (a1 : ByteArray) (o : Int) : St := mkSt 19 [(4, one (.int .i64 o))] [some ⟨false, .strs a0⟩]
def slices.Index_string_string.l0.e1 (a0 : List ByteArray) (a1 : ByteArray) (o : Unit) : St := mkSt 19 [] [some ⟨false, .strs a0⟩]
def slices.Index_string_string.l0.x (a0 : List ByteArray) (a1 : ByteArray) : (Int ⊕ Unit) → AExit × St := Sum.elim (fun o => (.ret, slices.Index_string_string.l0.e0 a0 a1 o)) (fun o => (.exit 0, slices.Index_string_string.l0.e1 a0 a1 o))
theorem slices.Index_string_string.l0.spec (a0 : List ByteArray) (a1 : ByteArray) : ∀ (k : Nat) (v85_0 : Int) (o : Int ⊕ Unit), slices.Index_string_string.l0.f a0 a1 k v85_0 = some o → LoopSpec Tryz.prog 1 (loopN Tryz.f147 0) (slices.Index_string_string.l0.s a0 a1 v85_0) (slices.Index_string_string.l0.x a0 a1 o).1 (slices.Index_string_string.l0.x a0 a1 o).2
  | 0, _, _, h => by cases h
  | k + 1, v85_0, o, h => by
    unfold slices.Index_string_string.l0.f at h
    rcases br_cases h with ⟨c1, h⟩ | ⟨c1, h⟩
    · obtain ⟨p1, h⟩ := ck_some h
      rcases br_cases h with ⟨c2, h⟩ | ⟨c2, h⟩
      · obtain rfl := Option.some.inj h
        exact .of_done tab mixed [bT, bT] [] [4] [0] rfl (nd c1 (nd p1 (nd (of_decide_eq_true c1) (nd (tn p1 (of_decide_eq_true c1)) (nd c2 trivial))))) (by kernel_rfl)
      · exact .of_step tab mixed [bT, bF] [] [0, 1, 7, 8] [0] (s1 := slices.Index_string_string.l0.s a0 a1 (w64 (v85_0 + 1))) (nd c1 (nd p1 (nd (of_decide_eq_true c1) (nd (tn p1 (of_decide_eq_true c1)) (nd c2 trivial))))) (by kernel_rfl) (slices.Index_string_string.l0.spec a0 a1 k (w64 (v85_0 + 1)) _ h)
    · obtain rfl := Option.some.inj h
      exact .of_done tab mixed [bF] [] [] [0] rfl (nd c1 trivial) (by kernel_rfl)
def slices.Index_string_string.f (K : Nat) (a0 : List ByteArray) (a1 : ByteArray) : Option (Int) :=
  Option.bind (slices.Index_string_string.l0.f a0 a1 K 0) fun x1 => (Sum.elim (fun x1 => some x1) (fun x1 => some (-1))) x1
theorem slices.Index_string_string.spec (K : Nat) (a0 : List ByteArray) (a1 : ByteArray) (o : Int) (h : slices.Index_string_string.f K a0 a1 = some o) : Den.Spec Tryz.prog 147 [one (.sl 0 0 a0.length), one (.str a1)] [some ⟨false, .strs a0⟩] (one (.int .i64 o)) [some ⟨false, .strs a0⟩] := by
  unfold slices.Index_string_string.f at h
  obtain ⟨x1, e1, h⟩ := bind_some h
  rcases x1 with x1 | x1
  · obtain rfl := Option.some.inj h
    exact Den.Spec.of_walk tab mixed Tryz.func147 (by kernel_rfl) [.loop [] [0, 1, 7, 8] [0] (.ret) (slices.Index_string_string.l0.e0 a0 a1 x1)] [] [0] (nd (slices.Index_string_string.l0.spec a0 a1 K 0 _ e1) trivial) (by kernel_rfl)
  · obtain rfl := Option.some.inj h
    exact Den.Spec.of_walk tab mixed Tryz.func147 (by kernel_rfl) [.loop [] [0, 1, 7, 8] [0] (.exit 0) (slices.Index_string_string.l0.e1 a0 a1 x1)] [] [0] (nd (slices.Index_string_string.l0.spec a0 a1 K 0 _ e1) trivial) (by kernel_rfl)
def impl.firstClear_1.f (a0 : ByteArray) : Option (Unit) :=
  some ()
theorem impl.firstClear_1.spec (a0 : ByteArray) (o : Unit) (h : impl.firstClear_1.f a0 = some o) : Den.Spec Tryz.prog 148 [one (.str a0)] [] (one (.bool (!(strEq a0 noVal)))) [] := by
  unfold impl.firstClear_1.f at h
  obtain rfl := Option.some.inj h
  exact Den.Spec.of_walk tab mixed Tryz.func148 (by kernel_rfl) [] [] [] trivial (by kernel_rfl)
def slices.IndexFunc_string_string_1.l0.f (a0 : List ByteArray) : Nat → Int → Option (Int ⊕ Unit)
  | 0, _ => none
  | k + 1, v89_0 =>
    cond (decide (v89_0 < (a0.length : Int))) (ck (0 ≤ v89_0) (Option.bind (impl.firstClear_1.f (a0.getD v89_0.toNat noVal)) fun x1 => cond (strEq (a0.getD v89_0.toNat noVal) noVal) (slices.IndexFunc_string_string_1.l0.f a0 k (w64 (v89_0 + 1))) (some (.inl v89_0)))) (some (.inr (())))
def slices.IndexFunc_string_string_1.l0.s (a0 : List ByteArray) (v89_0 : Int) : St := mkSt 19 [(0, one (.sl 0 0 a0.length)), (1, one (.fn 148 [])), (7, one (.int .i64 (a0.length : Int))), (8, one (.int .i64 v89_0))] [some ⟨false, .strs a0⟩]
def slices.IndexFunc_string_string_1.l0.e0 (a0 : List ByteArray) (o : Int) : St := mkSt 19 [(4, one (.int .i64 o))] [some ⟨false, .strs a0⟩]
def slices.IndexFunc_string_string_1.l0.e1 (a0 : List ByteArray) (o : Unit) : St := mkSt 19 [] [some ⟨false, .strs a0⟩]
def slices.IndexFunc_string_string_1.l0.x (a0 : List ByteArray) : (Int ⊕ Unit) → AExit × St := Sum.elim (fun o => (.ret, slices.IndexFunc_string_string_1.l0.e0 a0 o)) (fun o => (.exit 0, slices.IndexFunc_string_string_1.l0.e1 a0 o))
theorem slices.IndexFunc_string_string_1.l0.spec (a0 : List ByteArray) : ∀ (k : Nat) (v89_0 : Int) (o : Int ⊕ Unit), slices.IndexFunc_string_string_1.l0.f a0 k v89_0 = some o → LoopSpec Tryz.prog 1 (loopN Tryz.f115 0) (slices.IndexFunc_string_string_1.l0.s a0 v89_0) (slices.IndexFunc_string_string_1.l0.x a0 o).1 (slices.IndexFunc_string_string_1.l0.x a0 o).2
  | 0, _, _, h => by cases h
  | k + 1, v89_0, o, h => by
    unfold slices.IndexFunc_string_string_1.l0.f at h
    rcases br_cases h with ⟨c1, h⟩ | ⟨c1, h⟩
    · obtain ⟨p1, h⟩ := ck_some h
      obtain ⟨x1, e1, h⟩ := bind_some h
      rcases br_cases h with ⟨c2, h⟩ | ⟨c2, h⟩
      · exact .of_step tab mixed [bT, .call [] [] (one (.bool (!(strEq (a0.getD v89_0.toNat noVal) noVal)))) [], bF] [] [0, 1, 7, 8] [0] (s1 := slices.IndexFunc_string_string_1.l0.s a0 (w64 (v89_0 + 1))) (nd c1 (nd p1 (nd (of_decide_eq_true c1) (nd (tn p1 (of_decide_eq_true c1)) (nd (impl.firstClear_1.spec (a0.getD v89_0.toNat noVal) _ e1) (nd (nf c2) trivial)))))) (by kernel_rfl) (slices.IndexFunc_string_string_1.l0.spec a0 k (w64 (v89_0 + 1)) _ h)
      · obtain rfl := Option.some.inj h
        exact .of_done tab mixed [bT, .call [] [] (one (.bool (!(strEq (a0.getD v89_0.toNat noVal) noVal)))) [], bT] [] [4] [0] rfl (nd c1 (nd p1 (nd (of_decide_eq_true c1) (nd (tn p1 (of_decide_eq_true c1)) (nd (impl.firstClear_1.spec (a0.getD v89_0.toNat noVal) _ e1) (nd (nt c2) trivial)))))) (by kernel_rfl)
    · obtain rfl := Option.some.inj h
      exact .of_done tab mixed [bF] [] [] [0] rfl (nd c1 trivial) (by kernel_rfl)
def slices.IndexFunc_string_string_1.f (K : Nat) (a0 : List ByteArray) : Option (Int) :=
  Option.bind (slices.IndexFunc_string_string_1.l0.f a0 K 0) fun x1 => (Sum.elim (fun x1 => some x1) (fun x1 => some (-1))) x1
theorem slices.IndexFunc_string_string_1.spec (K : Nat) (a0 : List ByteArray) (o : Int) (h : slices.IndexFunc_string_string_1.f K a0 = some o) : Den.Spec Tryz.prog 115 [one (.sl 0 0 a0.length), one (.fn 148 [])] [some ⟨false, .strs a0⟩] (one (.int .i64 o)) [some ⟨false, .strs a0⟩] := by
  unfold slices.IndexFunc_string_string_1.f at h
  obtain ⟨x1, e1, h⟩ := bind_some h
  rcases x1 with x1 | x1
  · obtain rfl := Option.some.inj h
    exact Den.Spec.of_walk tab mixed Tryz.func115 (by kernel_rfl) [.loop [] [0, 1, 7, 8] [0] (.ret) (slices.IndexFunc_string_string_1.l0.e0 a0 x1)] [] [0] (nd (slices.IndexFunc_string_string_1.l0.spec a0 K 0 _ e1) trivial) (by kernel_rfl)
  · obtain rfl := Option.some.inj h
    exact Den.Spec.of_walk tab mixed Tryz.func115 (by kernel_rfl) [.loop [] [0, 1, 7, 8] [0] (.exit 0) (slices.IndexFunc_string_string_1.l0.e1 a0 x1)] [] [0] (nd (slices.IndexFunc_string_string_1.l0.spec a0 K 0 _ e1) trivial) (by kernel_rfl)
def slices.ContainsFunc_string_string_1.f (K : Nat) (a0 : List ByteArray) : Option (Bool) :=
  Option.bind (slices.IndexFunc_string_string_1.f K a0) fun x1 => some (decide (x1 ≥ 0))
theorem slices.ContainsFunc_string_string_1.spec (K : Nat) (a0 : List ByteArray) (o : Bool) (h : slices.ContainsFunc_string_string_1.f K a0 = some o) : Den.Spec Tryz.prog 89 [one (.sl 0 0 a0.length), one (.fn 148 [])] [some ⟨false, .strs a0⟩] (one (.bool o)) [some ⟨false, .strs a0⟩] := by
  unfold slices.ContainsFunc_string_string_1.f at h
  obtain ⟨x1, e1, h⟩ := bind_some h
  obtain rfl := Option.some.inj h
  exact Den.Spec.of_walk tab mixed Tryz.func89 (by kernel_rfl) [.call [] [(0, true)] (one (.int .i64 x1)) [some ⟨false, .strs a0⟩]] [] [0] (nd (slices.IndexFunc_string_string_1.spec K a0 _ e1) (n0 (nl a0 trivial))) (by kernel_rfl)
def impl.firstClear.f (K : Nat) (a0 : List ByteArray) (a1 : List Int) (a2 : Int) : Option (Int) :=
  ck (0 ≤ (w64 (a2 * 6))) (ck ((w64 (a2 * 6)) ≤ (w64 ((w64 (a2 + 1)) * 6))) (ck ((w64 ((w64 (a2 + 1)) * 6)) ≤ (a0.length : Int)) (Option.bind (slices.Index_string_string.f K ((a0.drop ((w64 (a2 * 6)).toNat)).take ((w64 ((w64 (a2 + 1)) * 6)).toNat - (w64 (a2 * 6)).toNat)) noVal) fun x1 => ck (((w64 (a2 * 6)).toNat) + ((w64 ((w64 (a2 + 1)) * 6)).toNat - (w64 (a2 * 6)).toNat) ≤ a0.length) (cond (decide (x1 < 0)) (some (-1)) (ck (x1 ≤ (((w64 ((w64 (a2 + 1)) * 6)).toNat - (w64 (a2 * 6)).toNat : Nat) : Int)) (Option.bind (slices.ContainsFunc_string_string_1.f K ((a0.drop (addO ((w64 (a2 * 6)).toNat) x1.toNat)).take ((w64 ((w64 (a2 + 1)) * 6)).toNat - (w64 (a2 * 6)).toNat - x1.toNat))) fun x2 => ck ((addO ((w64 (a2 * 6)).toNat) x1.toNat) + ((w64 ((w64 (a2 + 1)) * 6)).toNat - (w64 (a2 * 6)).toNat - x1.toNat) ≤ a0.length) (cond (x2) (some (-1)) (some x1))))))))
theorem impl.firstClear.spec (K : Nat) (a0 : List ByteArray) (a1 : List Int) (a2 : Int) (o : Int) (h : impl.firstClear.f K a0 a1 a2 = some o) : Den.Spec Tryz.prog 139 [.v (.agg [.sl 0 0 a0.length, .sl 1 0 a1.length]), one (.int .i64 a2)] [some ⟨false, .strs a0⟩, some ⟨false, .ints .i64 a1⟩] (one (.int .i64 o)) [some ⟨false, .strs a0⟩, some ⟨false, .ints .i64 a1⟩] := by
  unfold impl.firstClear.f at h
  obtain ⟨p1, h⟩ := ck_some h
  obtain ⟨p2, h⟩ := ck_some h
  obtain ⟨p3, h⟩ := ck_some h
  obtain ⟨x1, e1, h⟩ := bind_some h
  obtain ⟨p4, h⟩ := ck_some h
  rcases br_cases h with ⟨c1, h⟩ | ⟨c1, h⟩
  · obtain rfl := Option.some.inj h
    exact Den.Spec.of_walk tab mixed Tryz.func139 (by kernel_rfl) [.call [] [(0, false)] (one (.int .i64 x1)) [some ⟨false, .strs ((a0.drop ((w64 (a2 * 6)).toNat)).take ((w64 ((w64 (a2 + 1)) * 6)).toNat - (w64 (a2 * 6)).toNat))⟩], bT, bT, bT, bT, bT, bT] [] [0, 1] (nd p1 (nd p2 (nd p3 (nd ((slices.Index_string_string.spec K ((a0.drop ((w64 (a2 * 6)).toNat)).take ((w64 ((w64 (a2 + 1)) * 6)).toNat - (w64 (a2 * 6)).toNat)) noVal _ e1).args (congrArg (fun n => ([one (.sl 0 0 n), one (.str noVal)] : List AV)) (win_len p4))) (nd c1 (nd c1 (nd c1 (nd c1 (nd c1 (nd tt trivial)))))))))) (by kernel_rfl)
  · obtain ⟨p5, h⟩ := ck_some h
    obtain ⟨x2, e2, h⟩ := bind_some h
    obtain ⟨p6, h⟩ := ck_some h
    rcases br_cases h with ⟨c2, h⟩ | ⟨c2, h⟩
    · obtain rfl := Option.some.inj h
      exact Den.Spec.of_walk tab mixed Tryz.func139 (by kernel_rfl) [.call [] [(0, false)] (one (.int .i64 x1)) [some ⟨false, .strs ((a0.drop ((w64 (a2 * 6)).toNat)).take ((w64 ((w64 (a2 + 1)) * 6)).toNat - (w64 (a2 * 6)).toNat))⟩], bF, bF, bF, bF, .call [] [(0, false)] (one (.bool x2)) [some ⟨false, .strs ((a0.drop (addO ((w64 (a2 * 6)).toNat) x1.toNat)).take ((w64 ((w64 (a2 + 1)) * 6)).toNat - (w64 (a2 * 6)).toNat - x1.toNat))⟩], bF, bT] [] [0, 1] (nd p1 (nd p2 (nd p3 (nd ((slices.Index_string_string.spec K ((a0.drop ((w64 (a2 * 6)).toNat)).take ((w64 ((w64 (a2 + 1)) * 6)).toNat - (w64 (a2 * 6)).toNat)) noVal _ e1).args (congrArg (fun n => ([one (.sl 0 0 n), one (.str noVal)] : List AV)) (win_len p4))) (nd c1 (nd c1 (nd c1 (nd (Int.not_lt.1 (of_decide_eq_false c1)) (nd p5 (nd (Int.le_refl (((w64 ((w64 (a2 + 1)) * 6)).toNat - (w64 (a2 * 6)).toNat : Nat) : Int)) (nd c1 (nd ((slices.ContainsFunc_string_string_1.spec K ((a0.drop (addO ((w64 (a2 * 6)).toNat) x1.toNat)).take ((w64 ((w64 (a2 + 1)) * 6)).toNat - (w64 (a2 * 6)).toNat - x1.toNat)) _ e2).args (congrArg (fun n => ([one (.sl 0 0 n), one (.fn 148 [])] : List AV)) (win_len p6))) (nd c1 (nd c2 trivial)))))))))))))) (by kernel_rfl)
    · obtain rfl := Option.some.inj h
      exact Den.Spec.of_walk tab mixed Tryz.func139 (by kernel_rfl) [.call [] [(0, false)] (one (.int .i64 x1)) [some ⟨false, .strs ((a0.drop ((w64 (a2 * 6)).toNat)).take ((w64 ((w64 (a2 + 1)) * 6)).toNat - (w64 (a2 * 6)).toNat))⟩], bF, bF, bF, bF, .call [] [(0, false)] (one (.bool x2)) [some ⟨false, .strs ((a0.drop (addO ((w64 (a2 * 6)).toNat) x1.toNat)).take ((w64 ((w64 (a2 + 1)) * 6)).toNat - (w64 (a2 * 6)).toNat - x1.toNat))⟩], bF, bF] [] [0, 1] (nd p1 (nd p2 (nd p3 (nd ((slices.Index_string_string.spec K ((a0.drop ((w64 (a2 * 6)).toNat)).take ((w64 ((w64 (a2 + 1)) * 6)).toNat - (w64 (a2 * 6)).toNat)) noVal _ e1).args (congrArg (fun n => ([one (.sl 0 0 n), one (.str noVal)] : List AV)) (win_len p4))) (nd c1 (nd c1 (nd c1 (nd (Int.not_lt.1 (of_decide_eq_false c1)) (nd p5 (nd (Int.le_refl (((w64 ((w64 (a2 + 1)) * 6)).toNat - (w64 (a2 * 6)).toNat : Nat) : Int)) (nd c1 (nd ((slices.ContainsFunc_string_string_1.spec K ((a0.drop (addO ((w64 (a2 * 6)).toNat) x1.toNat)).take ((w64 ((w64 (a2 + 1)) * 6)).toNat - (w64 (a2 * 6)).toNat - x1.toNat)) _ e2).args (congrArg (fun n => ([one (.sl 0 0 n), one (.fn 148 [])] : List AV)) (win_len p6))) (nd c1 (nd c2 trivial)))))))))))))) (by kernel_rfl)
def impl.isFree.f (K : Nat) (a0 : List ByteArray) (a1 : List Int) (a2 : Int) : Option (Bool) :=
  Option.bind (impl.firstClear.f K a0 a1 a2) fun x1 => some (x1 == 0)
theorem impl.isFree.spec (K : Nat) (a0 : List ByteArray) (a1 : List Int) (a2 : Int) (o : Bool) (h : impl.isFree.f K a0 a1 a2 = some o) : Den.Spec Tryz.prog 123 [.v (.agg [.sl 0 0 a0.length, .sl 1 0 a1.length]), one (.int .i64 a2)] [some ⟨false, .strs a0⟩, some ⟨false, .ints .i64 a1⟩] (one (.bool o)) [some ⟨false, .strs a0⟩, some ⟨false, .ints .i64 a1⟩] := by
  unfold impl.isFree.f at h
  obtain ⟨x1, e1, h⟩ := bind_some h
  obtain rfl := Option.some.inj h
  exact Den.Spec.of_walk tab mixed Tryz.func123 (by kernel_rfl) [.call [(0, false), (1, false)] [] (one (.int .i64 x1)) [some ⟨false, .strs a0⟩, some ⟨false, .ints .i64 a1⟩]] [] [0, 1] (nd (impl.firstClear.spec K a0 a1 a2 _ e1) trivial) (by kernel_rfl)
def impl.freeBlocks.l0.f (K : Nat) (a0 : List ByteArray) (a1 : List Int) : Nat → (List Int) → Int → Option ((List Int))
  | 0, _, _ => none
  | k + 1, v94_0, v94_1 =>
    cond (decide (v94_1 < 10)) (Option.bind (impl.isFree.f K a0 a1 v94_1) fun x1 => cond (x1) (ck ((v94_0 ++ [v94_1]).length * 8 ≤ 70368744177664) (impl.freeBlocks.l0.f K a0 a1 k (v94_0 ++ [v94_1]) (w64 (v94_1 + 1)))) (impl.freeBlocks.l0.f K a0 a1 k v94_0 (w64 (v94_1 + 1)))) (some v94_0)
def impl.freeBlocks.l0.s (K : Nat) (a0 : List ByteArray) (a1 : List Int) (v94_0 : List Int) (v94_1 : Int) : St := mkSt 18 [(1, one (.ptr 2 0 0)), (3, one (.sl 3 0 v94_0.length)), (6, one (.int .i64 v94_1))] [some ⟨false, .strs a0⟩, some ⟨false, .ints .i64 a1⟩, some ⟨true, .cells [.sl 0 0 a0.length, .sl 1 0 a1.length]⟩, some ⟨true, .ints .i64 v94_0⟩]
def impl.freeBlocks.l0.e0 (K : Nat) (a0 : List ByteArray) (a1 : List Int) (o : (List Int)) : St := mkSt 18 [(3, one (.sl 2 0 o.length))] [some ⟨false, .strs a0⟩, some ⟨false, .ints .i64 a1⟩, some ⟨true, .ints .i64 o⟩]
def impl.freeBlocks.l0.x (K : Nat) (a0 : List ByteArray) (a1 : List Int) : ((List Int)) → AExit × St := fun o => (.exit 0, impl.freeBlocks.l0.e0 K a0 a1 o)
theorem impl.freeBlocks.l0.spec (K : Nat) (a0 : List ByteArray) (a1 : List Int) : ∀ (k : Nat) (v94_0 : List Int) (v94_1 : Int) (o : (List Int)), impl.freeBlocks.l0.f K a0 a1 k v94_0 v94_1 = some o → LoopSpec Tryz.prog 2 (loopN Tryz.f120 0) (impl.freeBlocks.l0.s K a0 a1 v94_0 v94_1) (impl.freeBlocks.l0.x K a0 a1 o).1 (impl.freeBlocks.l0.x K a0 a1 o).2
  | 0, _, _, _, h => by cases h
  | k + 1, v94_0, v94_1, o, h => by
    unfold impl.freeBlocks.l0.f at h
    rcases br_cases h with ⟨c1, h⟩ | ⟨c1, h⟩
    · obtain ⟨x1, e1, h⟩ := bind_some h
      rcases br_cases h with ⟨c2, h⟩ | ⟨c2, h⟩
      · obtain ⟨p1, h⟩ := ck_some h
        exact .of_step tab mixed [bT, .call [(0, false), (1, false)] [] (one (.bool x1)) [some ⟨false, .strs a0⟩, some ⟨false, .ints .i64 a1⟩], bT, bT] [] [1, 3, 6] [0, 1, 2, 5] (s1 := impl.freeBlocks.l0.s K a0 a1 (v94_0 ++ [v94_1]) (w64 (v94_1 + 1))) (nd c1 (nd (impl.isFree.spec K a0 a1 v94_1 _ e1) (nd c2 (n0 (nl v94_0 (nd p1 (n0 (nn 1 trivial)))))))) (by kernel_rfl) (impl.freeBlocks.l0.spec K a0 a1 k (v94_0 ++ [v94_1]) (w64 (v94_1 + 1)) _ h)
      · exact .of_step tab mixed [bT, .call [(0, false), (1, false)] [] (one (.bool x1)) [some ⟨false, .strs a0⟩, some ⟨false, .ints .i64 a1⟩], bF] [] [1, 3, 6] [0, 1, 2, 3] (s1 := impl.freeBlocks.l0.s K a0 a1 v94_0 (w64 (v94_1 + 1))) (nd c1 (nd (impl.isFree.spec K a0 a1 v94_1 _ e1) (nd c2 trivial))) (by kernel_rfl) (impl.freeBlocks.l0.spec K a0 a1 k v94_0 (w64 (v94_1 + 1)) _ h)
    · obtain rfl := Option.some.inj h
      exact .of_done tab mixed [bF] [] [3] [0, 1, 3] rfl (nd c1 trivial) (by kernel_rfl)
def impl.freeBlocks.f (K : Nat) (a0 : List ByteArray) (a1 : List Int) : Option ((List Int)) :=
  Option.bind (impl.freeBlocks.l0.f K a0 a1 K [] 0) fun x1 => some x1
theorem impl.freeBlocks.spec (K : Nat) (a0 : List ByteArray) (a1 : List Int) (o : (List Int)) (h : impl.freeBlocks.f K a0 a1 = some o) : Den.Spec Tryz.prog 120 [.v (.agg [.sl 0 0 a0.length, .sl 1 0 a1.length])] [some ⟨false, .strs a0⟩, some ⟨false, .ints .i64 a1⟩] (one (.sl 2 0 o.length)) [some ⟨false, .strs a0⟩, some ⟨false, .ints .i64 a1⟩, some ⟨true, .ints .i64 o⟩] := by
  unfold impl.freeBlocks.f at h
  obtain ⟨x1, e1, h⟩ := bind_some h
  obtain rfl := Option.some.inj h
  exact Den.Spec.of_walk tab mixed Tryz.func120 (by kernel_rfl) [.loop [] [1, 3, 6] [0, 1, 2, 3] (.exit 0) (impl.freeBlocks.l0.e0 K a0 a1 x1)] [] [0, 1, 2] (nd (impl.freeBlocks.l0.spec K a0 a1 K [] 0 _ e1) trivial) (by kernel_rfl)
def impl.nextPage.l0.f (K : Nat) (a0 : List ByteArray) (a1 : List Int) (a2 : Int) : Nat → Int → Option (Int ⊕ Unit)
  | 0, _ => none
  | k + 1, v98_0 =>
    cond (decide (v98_0 < 10)) (Option.bind (impl.firstClear.f K a0 a1 v98_0) fun x1 => cond (decide (x1 > 0)) (cond (v98_0 != a2) (some (.inl (w64 ((w64 (v98_0 * 6)) + x1)))) (impl.nextPage.l0.f K a0 a1 a2 k (w64 (v98_0 + 1)))) (impl.nextPage.l0.f K a0 a1 a2 k (w64 (v98_0 + 1)))) (some (.inr (())))
def impl.nextPage.l0.s (K : Nat) (a0 : List ByteArray) (a1 : List Int) (a2 : Int) (v98_0 : Int) : St := mkSt 61 [(1, one (.int .i64 a2)), (2, one (.ptr 2 0 0)), (10, one (.int .i64 v98_0))] [some ⟨false, .strs a0⟩, some ⟨false, .ints .i64 a1⟩, some ⟨true, .cells [.sl 0 0 a0.length, .sl 1 0 a1.length]⟩]
def impl.nextPage.l0.e0 (K : Nat) (a0 : List ByteArray) (a1 : List Int) (a2 : Int) (o : Int) : St := mkSt 61 [(4, one (.int .i64 o))] [some ⟨false, .strs a0⟩, some ⟨false, .ints .i64 a1⟩]
def impl.nextPage.l0.e1 (K : Nat) (a0 : List ByteArray) (a1 : List Int) (a2 : Int) (o : Unit) : St := mkSt 61 [(1, one (.int .i64 a2)), (2, one (.ptr 2 0 0))] [some ⟨false, .strs a0⟩, some ⟨false, .ints .i64 a1⟩, some ⟨true, .cells [.sl 0 0 a0.length, .sl 1 0 a1.length]⟩]
def impl.nextPage.l0.x (K : Nat) (a0 : List ByteArray) (a1 : List Int) (a2 : Int) : (Int ⊕ Unit) → AExit × St := Sum.elim (fun o => (.ret, impl.nextPage.l0.e0 K a0 a1 a2 o)) (fun o => (.exit 0, impl.nextPage.l0.e1 K a0 a1 a2 o))
theorem impl.nextPage.l0.spec (K : Nat) (a0 : List ByteArray) (a1 : List Int) (a2 : Int) : ∀ (k : Nat) (v98_0 : Int) (o : Int ⊕ Unit), impl.nextPage.l0.f K a0 a1 a2 k v98_0 = some o → LoopSpec Tryz.prog 2 (loopN Tryz.f122 0) (impl.nextPage.l0.s K a0 a1 a2 v98_0) (impl.nextPage.l0.x K a0 a1 a2 o).1 (impl.nextPage.l0.x K a0 a1 a2 o).2
  | 0, _, _, h => by cases h
  | k + 1, v98_0, o, h => by
    unfold impl.nextPage.l0.f at h
    rcases br_cases h with ⟨c1, h⟩ | ⟨c1, h⟩
    · obtain ⟨x1, e1, h⟩ := bind_some h
      rcases br_cases h with ⟨c2, h⟩ | ⟨c2, h⟩
      · rcases br_cases h with ⟨c3, h⟩ | ⟨c3, h⟩
        · obtain rfl := Option.some.inj h
          exact .of_done tab mixed [bT, .call [(0, false), (1, false)] [] (one (.int .i64 x1)) [some ⟨false, .strs a0⟩, some ⟨false, .ints .i64 a1⟩], bT, bT, bT, bT, bT] [] [4] [0, 1] rfl (nd c1 (nd (impl.firstClear.spec K a0 a1 v98_0 _ e1) (nd c2 (nd c2 (nd c2 (nd c2 (nd c3 trivial))))))) (by kernel_rfl)
        · exact .of_step tab mixed [bT, .call [(0, false), (1, false)] [] (one (.int .i64 x1)) [some ⟨false, .strs a0⟩, some ⟨false, .ints .i64 a1⟩], bT, bT, bT, bT, bF] [] [1, 2, 10] [0, 1, 2] (s1 := impl.nextPage.l0.s K a0 a1 a2 (w64 (v98_0 + 1))) (nd c1 (nd (impl.firstClear.spec K a0 a1 v98_0 _ e1) (nd c2 (nd c2 (nd c2 (nd c2 (nd c3 trivial))))))) (by kernel_rfl) (impl.nextPage.l0.spec K a0 a1 a2 k (w64 (v98_0 + 1)) _ h)
      · exact .of_step tab mixed [bT, .call [(0, false), (1, false)] [] (one (.int .i64 x1)) [some ⟨false, .strs a0⟩, some ⟨false, .ints .i64 a1⟩], bF, bF, bF, bF, bF] [] [1, 2, 10] [0, 1, 2] (s1 := impl.nextPage.l0.s K a0 a1 a2 (w64 (v98_0 + 1))) (nd c1 (nd (impl.firstClear.spec K a0 a1 v98_0 _ e1) (nd c2 (nd c2 (nd c2 (nd c2 (nd ff trivial))))))) (by kernel_rfl) (impl.nextPage.l0.spec K a0 a1 a2 k (w64 (v98_0 + 1)) _ h)
    · obtain rfl := Option.some.inj h
      exact .of_done tab mixed [bF] [] [1, 2] [0, 1, 2] rfl (nd c1 trivial) (by kernel_rfl)
def impl.nextPage.l1.f (a0 : List ByteArray) (a1 : List Int) (a2 : Int) : Nat → Int → (List Int) → Int → Int → Option (Int)
  | 0, _, _, _, _ => none
  | k + 1, v99_0, v99_1, v99_2, v99_3 =>
    cond (decide (v99_3 < v99_2)) (ck (0 ≤ v99_3) (ck (v99_3 < (v99_1.length : Int)) (cond ((v99_1.getD v99_3.toNat 0) != a2) (cond (decide (v99_0 < 0)) (impl.nextPage.l1.f a0 a1 a2 k (v99_1.getD v99_3.toNat 0) v99_1 v99_2 (w64 (v99_3 + 1))) (ck (0 ≤ (v99_1.getD v99_3.toNat 0)) (ck ((v99_1.getD v99_3.toNat 0) < (a1.length : Int)) (ck (v99_0 < (a1.length : Int)) (cond (decide ((a1.getD ((v99_1.getD v99_3.toNat 0).toNat) 0) < (a1.getD v99_0.toNat 0))) (impl.nextPage.l1.f a0 a1 a2 k (v99_1.getD v99_3.toNat 0) v99_1 v99_2 (w64 (v99_3 + 1))) (impl.nextPage.l1.f a0 a1 a2 k v99_0 v99_1 v99_2 (w64 (v99_3 + 1)))))))) (impl.nextPage.l1.f a0 a1 a2 k v99_0 v99_1 v99_2 (w64 (v99_3 + 1)))))) (some v99_0)
def impl.nextPage.l1.s (a0 : List ByteArray) (a1 : List Int) (a2 : Int) (v99_0 : Int) (v99_1 : List Int) (v99_2 : Int) (v99_3 : Int) : St := mkSt 61 [(1, one (.int .i64 a2)), (2, one (.ptr 2 0 0)), (7, one (.int .i64 v99_0)), (29, one (.sl 3 0 v99_1.length)), (30, one (.int .i64 v99_2)), (31, one (.int .i64 v99_3))] [some ⟨false, .strs a0⟩, some ⟨false, .ints .i64 a1⟩, some ⟨true, .cells [.sl 0 0 a0.length, .sl 1 0 a1.length]⟩, some ⟨true, .ints .i64 v99_1⟩]
def impl.nextPage.l1.e0 (a0 : List ByteArray) (a1 : List Int) (a2 : Int) (o : Int) : St := mkSt 61 [(7, one (.int .i64 o))] [some ⟨false, .strs a0⟩, some ⟨false, .ints .i64 a1⟩]
def impl.nextPage.l1.x (a0 : List ByteArray) (a1 : List Int) (a2 : Int) : (Int) → AExit × St := fun o => (.exit 2, impl.nextPage.l1.e0 a0 a1 a2 o)
theorem impl.nextPage.l1.spec (a0 : List ByteArray) (a1 : List Int) (a2 : Int) : ∀ (k : Nat) (v99_0 : Int) (v99_1 : List Int) (v99_2 : Int) (v99_3 : Int) (o : Int), impl.nextPage.l1.f a0 a1 a2 k v99_0 v99_1 v99_2 v99_3 = some o → LoopSpec Tryz.prog 2 (loopN Tryz.f122 1) (impl.nextPage.l1.s a0 a1 a2 v99_0 v99_1 v99_2 v99_3) (impl.nextPage.l1.x a0 a1 a2 o).1 (impl.nextPage.l1.x a0 a1 a2 o).2
  | 0, _, _, _, _, _, h => by cases h
  | k + 1, v99_0, v99_1, v99_2, v99_3, o, h => by
    unfold impl.nextPage.l1.f at h
    rcases br_cases h with ⟨c1, h⟩ | ⟨c1, h⟩
    · obtain ⟨p1, h⟩ := ck_some h
      obtain ⟨p2, h⟩ := ck_some h
      rcases br_cases h with ⟨c2, h⟩ | ⟨c2, h⟩
      · rcases br_cases h with ⟨c3, h⟩ | ⟨c3, h⟩
        · exact .of_step tab mixed [bT, bT, bT, bT, bT, bT, bT, bT, bT, bT, bT, bT, bT, bT, bT, bT, bT, bT, bT] [] [1, 2, 7, 29, 30, 31] [0, 1, 2, 3] (s1 := impl.nextPage.l1.s a0 a1 a2 (v99_1.getD v99_3.toNat 0) v99_1 v99_2 (w64 (v99_3 + 1))) (nd c1 (nd p1 (nd p2 (nd (tn p1 p2) (nd c2 (nd c2 (nd c2 (nd c3 (nd c3 (nd c3 (nd c3 (nd c3 (nd c3 (nd c3 (nd c3 (nd c3 (nd c3 (nd c3 (nd c2 (nd c3 (nd c2 (nd tt trivial)))))))))))))))))))))) (by kernel_rfl) (impl.nextPage.l1.spec a0 a1 a2 k (v99_1.getD v99_3.toNat 0) v99_1 v99_2 (w64 (v99_3 + 1)) _ h)
        · obtain ⟨p3, h⟩ := ck_some h
          obtain ⟨p4, h⟩ := ck_some h
          obtain ⟨p5, h⟩ := ck_some h
          rcases br_cases h with ⟨c4, h⟩ | ⟨c4, h⟩
          · exact .of_step tab mixed [bT, bT, bT, bT, bF, bF, bF, bF, bF, bF, bF, bF, bF, bF, bF, bT, bF, bT, bT] [] [1, 2, 7, 29, 30, 31] [0, 1, 2, 3] (s1 := impl.nextPage.l1.s a0 a1 a2 (v99_1.getD v99_3.toNat 0) v99_1 v99_2 (w64 (v99_3 + 1))) (nd c1 (nd p1 (nd p2 (nd (tn p1 p2) (nd c2 (nd c2 (nd c2 (nd c3 (nd c3 (nd c3 (nd c3 (nd p3 (nd p4 (nd c3 (nd (tn p3 p4) (nd c3 (nd c3 (nd c3 (nd c3 (nd (Int.not_lt.1 (of_decide_eq_false c3)) (nd p5 (nd c3 (nd (tn (Int.not_lt.1 (of_decide_eq_false c3)) p5) (nd c3 (nd c2 (nd c3 (nd c2 (nd c4 trivial)))))))))))))))))))))))))))) (by kernel_rfl) (impl.nextPage.l1.spec a0 a1 a2 k (v99_1.getD v99_3.toNat 0) v99_1 v99_2 (w64 (v99_3 + 1)) _ h)
          · exact .of_step tab mixed [bT, bT, bT, bT, bF, bF, bF, bF, bF, bF, bF, bF, bF, bF, bF, bT, bF, bT, bF] [] [1, 2, 7, 29, 30, 31] [0, 1, 2, 3] (s1 := impl.nextPage.l1.s a0 a1 a2 v99_0 v99_1 v99_2 (w64 (v99_3 + 1))) (nd c1 (nd p1 (nd p2 (nd (tn p1 p2) (nd c2 (nd c2 (nd c2 (nd c3 (nd c3 (nd c3 (nd c3 (nd p3 (nd p4 (nd c3 (nd (tn p3 p4) (nd c3 (nd c3 (nd c3 (nd c3 (nd (Int.not_lt.1 (of_decide_eq_false c3)) (nd p5 (nd c3 (nd (tn (Int.not_lt.1 (of_decide_eq_false c3)) p5) (nd c3 (nd c2 (nd c3 (nd c2 (nd c4 trivial)))))))))))))))))))))))))))) (by kernel_rfl) (impl.nextPage.l1.spec a0 a1 a2 k v99_0 v99_1 v99_2 (w64 (v99_3 + 1)) _ h)
      · exact .of_step tab mixed [bT, bF, bF, bF, bF, bF, bF] [] [1, 2, 7, 29, 30, 31] [0, 1, 2, 3] (s1 := impl.nextPage.l1.s a0 a1 a2 v99_0 v99_1 v99_2 (w64 (v99_3 + 1))) (nd c1 (nd p1 (nd p2 (nd (tn p1 p2) (nd c2 (nd c2 (nd c2 (nd c2 (nd c2 (nd ff trivial)))))))))) (by kernel_rfl) (impl.nextPage.l1.spec a0 a1 a2 k v99_0 v99_1 v99_2 (w64 (v99_3 + 1)) _ h)
    · obtain rfl := Option.some.inj h
      exact .of_done tab mixed [bF] [] [7] [0, 1] rfl (nd c1 trivial) (by kernel_rfl)
def impl.nextPage.f (K : Nat) (a0 : List ByteArray) (a1 : List Int) (a2 : Int) : Option (Int) :=
  Option.bind (impl.nextPage.l0.f K a0 a1 a2 K 0) fun x1 => (Sum.elim (fun x1 => some x1) (fun x1 => Option.bind (impl.freeBlocks.f K a0 a1) fun x2 => Option.bind (impl.nextPage.l1.f a0 a1 a2 K (-1) x2 (x2.length : Int) 0) fun x3 => cond (decide (x3 < 0)) (some (-1)) (some (w64 (x3 * 6))))) x1
theorem impl.nextPage.spec (K : Nat) (a0 : List ByteArray) (a1 : List Int) (a2 : Int) (o : Int) (h : impl.nextPage.f K a0 a1 a2 = some o) : Den.Spec Tryz.prog 122 [.v (.agg [.sl 0 0 a0.length, .sl 1 0 a1.length]), one (.int .i64 a2)] [some ⟨false, .strs a0⟩, some ⟨false, .ints .i64 a1⟩] (one (.int .i64 o)) [some ⟨false, .strs a0⟩, some ⟨false, .ints .i64 a1⟩] := by
  unfold impl.nextPage.f at h
  obtain ⟨x1, e1, h⟩ := bind_some h
  rcases x1 with x1 | x1
  · obtain rfl := Option.some.inj h
    exact Den.Spec.of_walk tab mixed Tryz.func122 (by kernel_rfl) [.loop [] [1, 2, 10] [0, 1, 2] (.ret) (impl.nextPage.l0.e0 K a0 a1 a2 x1)] [] [0, 1] (nd (impl.nextPage.l0.spec K a0 a1 a2 K 0 _ e1) trivial) (by kernel_rfl)
  · obtain ⟨x2, e2, h⟩ := bind_some h
    obtain ⟨x3, e3, h⟩ := bind_some h
    rcases br_cases h with ⟨c1, h⟩ | ⟨c1, h⟩
    · obtain rfl := Option.some.inj h
      exact Den.Spec.of_walk tab mixed Tryz.func122 (by kernel_rfl) [.loop [] [1, 2, 10] [0, 1, 2] (.exit 0) (impl.nextPage.l0.e1 K a0 a1 a2 x1), .call [(0, false), (1, false)] [] (one (.sl 2 0 x2.length)) [some ⟨false, .strs a0⟩, some ⟨false, .ints .i64 a1⟩, some ⟨true, .ints .i64 x2⟩], .loop [] [1, 2, 7, 29, 30, 31] [0, 1, 2, 3] (.exit 2) (impl.nextPage.l1.e0 a0 a1 a2 x3), bT] [] [0, 1] (nd (impl.nextPage.l0.spec K a0 a1 a2 K 0 _ e1) (nd (impl.freeBlocks.spec K a0 a1 _ e2) (nd (impl.nextPage.l1.spec a0 a1 a2 K (-1) x2 (x2.length : Int) 0 _ e3) (nd c1 trivial)))) (by kernel_rfl)
    · obtain rfl := Option.some.inj h
      exact Den.Spec.of_walk tab mixed Tryz.func122 (by kernel_rfl) [.loop [] [1, 2, 10] [0, 1, 2] (.exit 0) (impl.nextPage.l0.e1 K a0 a1 a2 x1), .call [(0, false), (1, false)] [] (one (.sl 2 0 x2.length)) [some ⟨false, .strs a0⟩, some ⟨false, .ints .i64 a1⟩, some ⟨true, .ints .i64 x2⟩], .loop [] [1, 2, 7, 29, 30, 31] [0, 1, 2, 3] (.exit 2) (impl.nextPage.l1.e0 a0 a1 a2 x3), bF] [] [0, 1] (nd (impl.nextPage.l0.spec K a0 a1 a2 K 0 _ e1) (nd (impl.freeBlocks.spec K a0 a1 _ e2) (nd (impl.nextPage.l1.spec a0 a1 a2 K (-1) x2 (x2.length : Int) 0 _ e3) (nd c1 trivial)))) (by kernel_rfl)
def slices.Index_int_int.l0.f (a0 : List Int) (a1 : Int) : Nat → Int → Option (Int ⊕ Unit)
  | 0, _ => none
  | k + 1, v102_0 =>
    cond (decide (v102_0 < (a0.length : Int))) (ck (0 ≤ v102_0) (cond (a1 == (a0.getD v102_0.toNat 0)) (some (.inl v102_0)) (slices.Index_int_int.l0.f a0 a1 k (w64 (v102_0 + 1))))) (some (.inr (())))
def slices.Index_int_int.l0.s (a0 : List Int) (a1 : Int) (v102_0 : Int) : St := mkSt 19 [(0, one (.sl 0 0 a0.length)), (1, one (.int .i64 a1)), (7, one (.int .i64 (a0.length : Int))), (8, one (.int .i64 v102_0))] [some ⟨false, .ints .i64 a0⟩]
def slices.Index_int_int.l0.e0 (a0 : List Int) (a1 : Int) (o : Int) : St := mkSt 19 [(4, one (.int .i64 o))] [some ⟨false, .ints .i64 a0⟩]
def slices.Index_int_int.l0.e1 (a0 : List Int) (a1 : Int) (o : Unit) : St := mkSt 19 [] [some ⟨false, .ints .i64 a0⟩]
def slices.Index_int_int.l0.x (a0 : List Int) (a1 : Int) : (Int ⊕ Unit) → AExit × St := Sum.elim (fun o => (.ret, slices.Index_int_int.l0.e0 a0 a1 o)) (fun o => (.exit 0, slices.Index_int_int.l0.e1 a0 a1 o))
theorem slices.Index_int_int.l0.spec (a0 : List Int) (a1 : Int) : ∀ (k : Nat) (v102_0 : Int) (o : Int ⊕ Unit), slices.Index_int_int.l0.f a0 a1 k v102_0 = some o → LoopSpec Tryz.prog 1 (loopN Tryz.f138 0) (slices.Index_int_int.l0.s a0 a1 v102_0) (slices.Index_int_int.l0.x a0 a1 o).1 (slices.Index_int_int.l0.x a0 a1 o).2
  | 0, _, _, h => by cases h
  | k + 1, v102_0, o, h => by
    unfold slices.Index_int_int.l0.f at h
    rcases br_cases h with ⟨c1, h⟩ | ⟨c1, h⟩
    · obtain ⟨p1, h⟩ := ck_some h
      rcases br_cases h with ⟨c2, h⟩ | ⟨c2, h⟩
      · obtain rfl := Option.some.inj h
        exact .of_done tab mixed [bT, bT] [] [4] [0] rfl (nd c1 (nd p1 (nd (of_decide_eq_true c1) (nd (tn p1 (of_decide_eq_true c1)) (nd c2 trivial))))) (by kernel_rfl)
      · exact .of_step tab mixed [bT, bF] [] [0, 1, 7, 8] [0] (s1 := slices.Index_int_int.l0.s a0 a1 (w64 (v102_0 + 1))) (nd c1 (nd p1 (nd (of_decide_eq_true c1) (nd (tn p1 (of_decide_eq_true c1)) (nd c2 trivial))))) (by kernel_rfl) (slices.Index_int_int.l0.spec a0 a1 k (w64 (v102_0 + 1)) _ h)
    · obtain rfl := Option.some.inj h
      exact .of_done tab mixed [bF] [] [] [0] rfl (nd c1 trivial) (by kernel_rfl)
end Go.Proofs.YtmodnnokcmabhaaGreat.GFnEven
