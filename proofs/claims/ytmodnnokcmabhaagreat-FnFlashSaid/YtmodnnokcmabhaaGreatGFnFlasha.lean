import Derived.Test.YtmodnnokcmabhaaGreatDenZ
import Derived.Test.YtmodnnokcmabhaaGreatProg
namespace Go.Proofs.YtmodnnokcmabhaaGreat.GFnFlash
open Go Go.RowKit Go.Proofs Go.Proofs.YtmodnnokcmabhaaGreat.Den
set_option linter.unusedVariables false
set_option linter.unusedSimpArgs false
def tyL : List (Nat × Ty) := [(3, ⟨[], 1, 8, false, [.int .i64 0], .ints .i64, .int .i64, []⟩),
  (4, ⟨[], 1, 1, false, [.bool false], .bools, .bool, []⟩),
  (5, ⟨[], 1, 1, false, [.int .u8 0], .ints .u8, .int .u8, []⟩),
  (9, ⟨[], 1, 16, false, [.str ⟨#[]⟩], .strs, .str, []⟩),
  (22, ⟨[], 1, 24, false, [.nil], .refs, .sl 5, [.ints .u8]⟩),
  (24, ⟨[], 1, 24, false, [.nil], .refs, .sl 58, [.puts]⟩),
  (31, ⟨[], 1, 24, false, [.nil], .refs, .sl 9, [.strs]⟩),
  (32, ⟨[], 1, 24, false, [.nil], .refs, .sl 3, [.ints .i64]⟩),
  (34, ⟨[], 2, 48, true, [.nil, .nil], .none, .st [(0, 1), (1, 1)], [.strs, .ints .i64]⟩),
  (36, ⟨[], 4, 80, true, [.nil, .nil, .nil, .int .i64 0], .none, .st [(0, 2), (2, 1), (3, 1)], [.strs, .ints .i64, .ints .i64, .none]⟩),
  (45, ⟨[], 1, 24, false, [.nil], .refs, .sl 99, [.acts]⟩),
  (58, ⟨[], 2, 24, true, [.int .i64 0, .str ⟨#[]⟩], .puts, .st [(0, 1), (1, 1)], []⟩),
  (71, ⟨[], 3, 40, true, [.nil, .int .i64 0, .bool false], .none, .st [(0, 1), (1, 1), (2, 1)], [.ints .u8, .none, .none]⟩),
  (86, ⟨[], 3, 32, true, [.int .i64 0, .int .i64 0, .str ⟨#[]⟩], .acts, .st [(0, 1), (1, 1), (2, 1)], []⟩),
  (93, ⟨[], 6, 112, true, [.nil, .nil, .nil, .int .i64 0, .nil, .bool false], .none, .st [(0, 4), (4, 1), (5, 1)], [.strs, .ints .i64, .ints .i64, .none, .acts, .none]⟩),
  (99, ⟨[], 3, 32, true, [.int .i64 0, .int .i64 0, .str ⟨#[]⟩], .acts, .st [(0, 1), (1, 1), (2, 1)], []⟩),
  (104, ⟨[], 3, 40, true, [.nil, .int .i64 0, .int .i64 0], .none, .st [(0, 1), (1, 1), (2, 1)], [.ints .u8, .none, .none]⟩),
  (107, ⟨[], 1, 8, false, [.int .u64 0], .ints .u64, .int .u64, []⟩),
  (108, ⟨[], 1, 24, false, [.nil], .none, .sl 22, []⟩),
  (126, ⟨[], 6, 112, true, [.nil, .nil, .nil, .int .i64 0, .nil, .bool false], .none, .st [(0, 4), (4, 1), (5, 1)], [.strs, .ints .i64, .ints .i64, .none, .acts, .none]⟩),
  (147, ⟨[], 1, 4, false, [.int .u32 0], .ints .u32, .int .u32, []⟩),
  (150, ⟨[], 1, 8, false, [.int .u64 0], .ints .u64, .int .u64, []⟩),
  (161, ⟨[], 1, 8, false, [.int .i64 0], .ints .i64, .int .i64, []⟩)]
def tb : TypeId → Option Ty := tbOf tyL
theorem tab : TabOk Tryz.prog tb := TabOk.of ⟨.of (by kernel_rfl) rfl rfl (by kernel_rfl) (by show _ = _; kernel_rfl) trivial,
  .of (by kernel_rfl) rfl rfl (by kernel_rfl) (by show _ = _; kernel_rfl) trivial,
  .of (by kernel_rfl) rfl rfl (by kernel_rfl) (by show _ = _; kernel_rfl) trivial,
  .of (by kernel_rfl) rfl rfl (by kernel_rfl) (by show _ = _; kernel_rfl) trivial,
  .of (by kernel_rfl) rfl rfl (by kernel_rfl) (by show _ = _; kernel_rfl) trivial,
  .of (by kernel_rfl) rfl rfl (by kernel_rfl) (by show _ = _; kernel_rfl) trivial,
  .of (by kernel_rfl) rfl rfl (by kernel_rfl) (by show _ = _; kernel_rfl) trivial,
  .of (by kernel_rfl) rfl rfl (by kernel_rfl) (by show _ = _; kernel_rfl) trivial,
  .of (by kernel_rfl) rfl rfl (by kernel_rfl) (by show _ = _; kernel_rfl) trivial,
  .of (by kernel_rfl) rfl rfl (by kernel_rfl) (by show _ = _; kernel_rfl) trivial,
  .of (by kernel_rfl) rfl rfl (by kernel_rfl) (by show _ = _; kernel_rfl) trivial,
  .of (by kernel_rfl) rfl rfl (by kernel_rfl) (by show _ = _; kernel_rfl) trivial,
  .of (by kernel_rfl) rfl rfl (by kernel_rfl) (by show _ = _; kernel_rfl) trivial,
  .of (by kernel_rfl) rfl rfl (by kernel_rfl) (by show _ = _; kernel_rfl) trivial,
  .of (by kernel_rfl) rfl rfl (by kernel_rfl) (by show _ = _; kernel_rfl) trivial,
  .of (by kernel_rfl) rfl rfl (by kernel_rfl) (by show _ = _; kernel_rfl) trivial,
  .of (by kernel_rfl) rfl rfl (by kernel_rfl) (by show _ = _; kernel_rfl) trivial,
  .of (by kernel_rfl) rfl rfl (by kernel_rfl) (by show _ = _; kernel_rfl) trivial,
  .of (by kernel_rfl) rfl rfl (by kernel_rfl) (by show _ = _; kernel_rfl) trivial,
  .of (by kernel_rfl) rfl rfl (by kernel_rfl) (by show _ = _; kernel_rfl) trivial,
  .of (by kernel_rfl) rfl rfl (by kernel_rfl) (by show _ = _; kernel_rfl) trivial,
  .of (by kernel_rfl) rfl rfl (by kernel_rfl) (by show _ = _; kernel_rfl) trivial,
  .of (by kernel_rfl) rfl rfl (by kernel_rfl) (by show _ = _; kernel_rfl) trivial, trivial⟩
theorem n0 {q : Prop} (b : q) : (0 : Nat) = 0 ∧ q := ⟨rfl, b⟩
theorem nn (n : Nat) {q : Prop} (b : q) : n = n ∧ q := ⟨rfl, b⟩
theorem nl {α : Type} (l : List α) {q : Prop} (b : q) : l.length = l.length ∧ q := ⟨rfl, b⟩
def bT : Ans := .br true
def bF : Ans := .br false
abbrev iT (l : List Int) : List (Option Row) := [some ⟨true, .ints .u8 l⟩]
abbrev iF (l : List Int) : List (Option Row) := [some ⟨false, .ints .u8 l⟩]
theorem mixed : Tryz.prog.follows .mixedOrders = true := by kernel_rfl
def bytes0 : ByteArray := ByteArray.mk #[0, 1, 2, 2, 3, 3, 3, 3, 4, 4, 4, 4, 4, 4, 4, 4, 5, 5, 5, 5, 5, 5, 5, 5, 5, 5, 5, 5, 5, 5, 5, 5, 6, 6, 6, 6, 6, 6, 6, 6, 6, 6, 6, 6, 6, 6, 6, 6, 6, 6, 6, 6, 6, 6, 6, 6, 6, 6, 6, 6, 6, 6, 6, 6, 7, 7, 7, 7, 7, 7, 7, 7, 7, 7, 7, 7, 7, 7, 7, 7, 7, 7, 7, 7, 7, 7, 7, 7, 7, 7, 7, 7, 7, 7, 7, 7, 7, 7, 7, 7, 7, 7, 7, 7, 7, 7, 7, 7, 7, 7, 7, 7, 7, 7, 7, 7, 7, 7, 7, 7, 7, 7, 7, 7, 7, 7, 7, 7, 8, 8, 8, 8, 8, 8, 8, 8, 8, 8, 8, 8, 8, 8, 8, 8, 8, 8, 8, 8, 8, 8, 8, 8, 8, 8, 8, 8, 8, 8, 8, 8, 8, 8, 8, 8, 8, 8, 8, 8, 8, 8, 8, 8, 8, 8, 8, 8, 8, 8, 8, 8, 8, 8, 8, 8, 8, 8, 8, 8, 8, 8, 8, 8, 8, 8, 8, 8, 8, 8, 8, 8, 8, 8, 8, 8, 8, 8, 8, 8, 8, 8, 8, 8, 8, 8, 8, 8, 8, 8, 8, 8, 8, 8, 8, 8, 8, 8, 8, 8, 8, 8, 8, 8, 8, 8, 8, 8, 8, 8, 8, 8, 8, 8, 8, 8, 8, 8, 8, 8, 8, 8, 8, 8, 8, 8, 8, 8]
def laws.big.f (a0 : List Int) : Option (Unit) :=
  some ()
theorem laws.big.spec (a0 : List Int) (o : Unit) (h : laws.big.f a0 = some o) : Den.Spec Tryz.prog 6 [one (.sl 0 0 a0.length)] [some ⟨false, .ints .u8 a0⟩] (one (.bool (decide ((a0.length : Int) > 1048576)))) [some ⟨false, .ints .u8 a0⟩] := by
  unfold laws.big.f at h
  obtain rfl := Option.some.inj h
  exact Den.Spec.of_walk tab mixed Tryz.func6 (by kernel_rfl) [] [] [0] trivial (by kernel_rfl)
def spec.l1New.l0.f (a0 : List Int) : Nat → Int → Int → Option (Int)
  | 0, _, _ => none
  | k + 1, v97_0, v97_1 =>
    cond (decide (v97_1 < (a0.length : Int))) (cond (decide (v97_1 < 4000)) (ck (0 ≤ v97_1) (spec.l1New.l0.f a0 k (bits2 .i64 (· &&& ·) (w64 ((w64 ((w64 (v97_0 * 131)) + (w64 (a0.getD v97_1.toNat 0)))) + 7)) 1073741823) (w64 (v97_1 + 1)))) (some v97_0)) (some v97_0)
def spec.l1New.l0.s (a0 : List Int) (v97_0 : Int) (v97_1 : Int) : St := mkSt 32 [(0, one (.sl 0 0 a0.length)), (3, one (.int .i64 v97_0)), (4, one (.int .i64 v97_1))] [some ⟨false, .ints .u8 a0⟩]
def spec.l1New.l0.e0 (a0 : List Int) (o : Int) : St := mkSt 32 [(0, one (.sl 0 0 a0.length)), (3, one (.int .i64 o))] [some ⟨false, .ints .u8 a0⟩]
def spec.l1New.l0.x (a0 : List Int) : (Int) → AExit × St := fun o => (.exit 0, spec.l1New.l0.e0 a0 o)
theorem spec.l1New.l0.spec (a0 : List Int) : ∀ (k : Nat) (v97_0 : Int) (v97_1 : Int) (o : Int), spec.l1New.l0.f a0 k v97_0 v97_1 = some o → LoopSpec Tryz.prog 1 (loopN Tryz.f35 0) (spec.l1New.l0.s a0 v97_0 v97_1) (spec.l1New.l0.x a0 o).1 (spec.l1New.l0.x a0 o).2
  | 0, _, _, _, h => by cases h
  | k + 1, v97_0, v97_1, o, h => by
    unfold spec.l1New.l0.f at h
    rcases br_cases h with ⟨c1, h⟩ | ⟨c1, h⟩
    · rcases br_cases h with ⟨c2, h⟩ | ⟨c2, h⟩
      · obtain ⟨p1, h⟩ := ck_some h
        exact .of_step tab mixed [bT, bT, bT, bT] [] [0, 3, 4] [0] (s1 := spec.l1New.l0.s a0 (bits2 .i64 (· &&& ·) (w64 ((w64 ((w64 (v97_0 * 131)) + (w64 (a0.getD v97_1.toNat 0)))) + 7)) 1073741823) (w64 (v97_1 + 1))) (nd c1 (nd c1 (nd c1 (nd c2 (nd p1 (nd (of_decide_eq_true c1) (nd (tn p1 (of_decide_eq_true c1)) trivial))))))) (by kernel_rfl) (spec.l1New.l0.spec a0 k (bits2 .i64 (· &&& ·) (w64 ((w64 ((w64 (v97_0 * 131)) + (w64 (a0.getD v97_1.toNat 0)))) + 7)) 1073741823) (w64 (v97_1 + 1)) _ h)
      · obtain rfl := Option.some.inj h
        exact .of_done tab mixed [bT, bT, bT, bF] [] [0, 3] [0] rfl (nd c1 (nd c1 (nd c1 (nd c2 trivial)))) (by kernel_rfl)
    · obtain rfl := Option.some.inj h
      exact .of_done tab mixed [bF, bF, bF, bF] [] [0, 3] [0] rfl (nd c1 (nd c1 (nd c1 (nd ff trivial)))) (by kernel_rfl)
def spec.l1New.f (K : Nat) (a0 : List Int) : Option (Int) :=
  Option.bind (spec.l1New.l0.f a0 K (w64 (19109 + (a0.length : Int))) 0) fun x1 => some x1
theorem spec.l1New.spec (K : Nat) (a0 : List Int) (o : Int) (h : spec.l1New.f K a0 = some o) : Den.Spec Tryz.prog 35 [one (.sl 0 0 a0.length)] [some ⟨false, .ints .u8 a0⟩] (one (.ptr 1 0 0)) [some ⟨false, .ints .u8 a0⟩, some ⟨true, .cells [.sl 0 0 a0.length, .int .i64 0, .int .i64 o]⟩] := by
  unfold spec.l1New.f at h
  obtain ⟨x1, e1, h⟩ := bind_some h
  obtain rfl := Option.some.inj h
  exact Den.Spec.of_walk tab mixed Tryz.func35 (by kernel_rfl) [.loop [] [0, 3, 4] [0] (.exit 0) (spec.l1New.l0.e0 a0 x1)] [] [0, 1] (nd (spec.l1New.l0.spec a0 K (w64 (19109 + (a0.length : Int))) 0 _ e1) trivial) (by kernel_rfl)
def spec.ChipNew.f : Option (Unit) :=
  ck ((60 * (16 : Int)) ≤ 70368744177664) (ck ((10 * (8 : Int)) ≤ 70368744177664) (some ()))
theorem spec.ChipNew.spec (o : Unit) (h : spec.ChipNew.f = some o) : Den.Spec Tryz.prog 21 [] [] (.v (.agg [.sl 0 0 ((List.replicate 60 noVal).length), .sl 1 0 ((List.replicate 10 (0 : Int)).length)])) [some ⟨true, .strs (List.replicate 60 noVal)⟩, some ⟨true, .ints .i64 (List.replicate 10 (0 : Int))⟩] := by
  unfold spec.ChipNew.f at h
  obtain ⟨p1, h⟩ := ck_some h
  obtain ⟨p2, h⟩ := ck_some h
  obtain rfl := Option.some.inj h
  exact Den.Spec.of_walk tab mixed Tryz.func21 (by kernel_rfl) [] [] [3, 11] (nd (by decide : (0 : Int) ≤ 60) (nd (rfl : (60 : Int) = (60 : Int)) (nd p1 (nd (by decide : (0 : Int) ≤ 10) (nd (rfl : (10 : Int) = (10 : Int)) (nd p2 trivial)))))) (by kernel_rfl)
def spec.ChipOk.l0.f (a0 : List ByteArray) (a1 : List Int) : Nat → Int → Option (Unit ⊕ Unit)
  | 0, _ => none
  | k + 1, v9_0 =>
    cond (decide (v9_0 < (a0.length : Int))) (ck (0 ≤ v9_0) (cond (decide (((a0.getD v9_0.toNat noVal).size : Int) > 800)) (some (.inl ())) (spec.ChipOk.l0.f a0 a1 k (w64 (v9_0 + 1))))) (some (.inr (())))
def spec.ChipOk.l0.s (a0 : List ByteArray) (a1 : List Int) (v9_0 : Int) : St := mkSt 43 [(1, one (.ptr 2 0 0)), (3, one (.int .i64 v9_0))] [some ⟨false, .strs a0⟩, some ⟨false, .ints .i64 a1⟩, some ⟨true, .cells [.sl 0 0 a0.length, .sl 1 0 a1.length]⟩]
def spec.ChipOk.l0.e0 (a0 : List ByteArray) (a1 : List Int) (o : Unit) : St := mkSt 43 [(2, one (.bool false))] [some ⟨false, .strs a0⟩, some ⟨false, .ints .i64 a1⟩]
def spec.ChipOk.l0.e1 (a0 : List ByteArray) (a1 : List Int) (o : Unit) : St := mkSt 43 [(1, one (.ptr 2 0 0))] [some ⟨false, .strs a0⟩, some ⟨false, .ints .i64 a1⟩, some ⟨true, .cells [.sl 0 0 a0.length, .sl 1 0 a1.length]⟩]
def spec.ChipOk.l0.x (a0 : List ByteArray) (a1 : List Int) : (Unit ⊕ Unit) → AExit × St := Sum.elim (fun o => (.ret, spec.ChipOk.l0.e0 a0 a1 o)) (fun o => (.exit 0, spec.ChipOk.l0.e1 a0 a1 o))
theorem spec.ChipOk.l0.spec (a0 : List ByteArray) (a1 : List Int) : ∀ (k : Nat) (v9_0 : Int) (o : Unit ⊕ Unit), spec.ChipOk.l0.f a0 a1 k v9_0 = some o → LoopSpec Tryz.prog 2 (loopN Tryz.f62 0) (spec.ChipOk.l0.s a0 a1 v9_0) (spec.ChipOk.l0.x a0 a1 o).1 (spec.ChipOk.l0.x a0 a1 o).2
  | 0, _, _, h => by cases h
  | k + 1, v9_0, o, h => by
    unfold spec.ChipOk.l0.f at h
    rcases br_cases h with ⟨c1, h⟩ | ⟨c1, h⟩
    · obtain ⟨p1, h⟩ := ck_some h
      rcases br_cases h with ⟨c2, h⟩ | ⟨c2, h⟩
      · obtain rfl := Option.some.inj h
        exact .of_done tab mixed [bT, bT] [] [2] [0, 1] rfl (nd c1 (nd p1 (nd (of_decide_eq_true c1) (nd (tn p1 (of_decide_eq_true c1)) (nd c2 trivial))))) (by kernel_rfl)
      · exact .of_step tab mixed [bT, bF] [] [1, 3] [0, 1, 2] (s1 := spec.ChipOk.l0.s a0 a1 (w64 (v9_0 + 1))) (nd c1 (nd p1 (nd (of_decide_eq_true c1) (nd (tn p1 (of_decide_eq_true c1)) (nd c2 trivial))))) (by kernel_rfl) (spec.ChipOk.l0.spec a0 a1 k (w64 (v9_0 + 1)) _ h)
    · obtain rfl := Option.some.inj h
      exact .of_done tab mixed [bF] [] [1] [0, 1, 2] rfl (nd c1 trivial) (by kernel_rfl)
def spec.l1In.f (a0 : Int) (a1 : Int) (a2 : Int) : Option (Bool) :=
  cond (decide (a0 ≥ a1)) (some (decide (a0 ≤ a2))) (some false)
theorem spec.l1In.spec (a0 : Int) (a1 : Int) (a2 : Int) (o : Bool) (h : spec.l1In.f a0 a1 a2 = some o) : Den.Spec Tryz.prog 57 [one (.int .i64 a0), one (.int .i64 a1), one (.int .i64 a2)] [] (one (.bool o)) [] := by
  unfold spec.l1In.f at h
  rcases br_cases h with ⟨c1, h⟩ | ⟨c1, h⟩
  · obtain rfl := Option.some.inj h
    exact Den.Spec.of_walk tab mixed Tryz.func57 (by kernel_rfl) [bT, bT, bT, bT] [] [] (nd c1 (nd c1 (nd c1 (nd c1 trivial)))) (by kernel_rfl)
  · obtain rfl := Option.some.inj h
    exact Den.Spec.of_walk tab mixed Tryz.func57 (by kernel_rfl) [bF, bF, bF, bF] [] [] (nd c1 (nd c1 (nd c1 (nd c1 trivial)))) (by kernel_rfl)
def spec.ChipOk.l1.f (a0 : List ByteArray) (a1 : List Int) : Nat → Int → Option (Unit ⊕ Unit)
  | 0, _ => none
  | k + 1, v10_0 =>
    cond (decide (v10_0 < (a1.length : Int))) (ck (0 ≤ v10_0) (Option.bind (spec.l1In.f (a1.getD v10_0.toNat 0) 0 1000000000) fun x1 => cond (x1) (spec.ChipOk.l1.f a0 a1 k (w64 (v10_0 + 1))) (some (.inl ())))) (some (.inr (())))
def spec.ChipOk.l1.s (a0 : List ByteArray) (a1 : List Int) (v10_0 : Int) : St := mkSt 43 [(1, one (.ptr 2 0 0)), (4, one (.int .i64 v10_0))] [some ⟨false, .strs a0⟩, some ⟨false, .ints .i64 a1⟩, some ⟨true, .cells [.sl 0 0 a0.length, .sl 1 0 a1.length]⟩]
def spec.ChipOk.l1.e0 (a0 : List ByteArray) (a1 : List Int) (o : Unit) : St := mkSt 43 [(2, one (.bool false))] [some ⟨false, .strs a0⟩, some ⟨false, .ints .i64 a1⟩]
def spec.ChipOk.l1.e1 (a0 : List ByteArray) (a1 : List Int) (o : Unit) : St := mkSt 43 [] [some ⟨false, .strs a0⟩, some ⟨false, .ints .i64 a1⟩]
def spec.ChipOk.l1.x (a0 : List ByteArray) (a1 : List Int) : (Unit ⊕ Unit) → AExit × St := Sum.elim (fun o => (.ret, spec.ChipOk.l1.e0 a0 a1 o)) (fun o => (.exit 2, spec.ChipOk.l1.e1 a0 a1 o))
theorem spec.ChipOk.l1.spec (a0 : List ByteArray) (a1 : List Int) : ∀ (k : Nat) (v10_0 : Int) (o : Unit ⊕ Unit), spec.ChipOk.l1.f a0 a1 k v10_0 = some o → LoopSpec Tryz.prog 2 (loopN Tryz.f62 1) (spec.ChipOk.l1.s a0 a1 v10_0) (spec.ChipOk.l1.x a0 a1 o).1 (spec.ChipOk.l1.x a0 a1 o).2
  | 0, _, _, h => by cases h
  | k + 1, v10_0, o, h => by
    unfold spec.ChipOk.l1.f at h
    rcases br_cases h with ⟨c1, h⟩ | ⟨c1, h⟩
    · obtain ⟨p1, h⟩ := ck_some h
      obtain ⟨x1, e1, h⟩ := bind_some h
      rcases br_cases h with ⟨c2, h⟩ | ⟨c2, h⟩
      · exact .of_step tab mixed [bT, .call [] [] (one (.bool x1)) [], bF] [] [1, 4] [0, 1, 2] (s1 := spec.ChipOk.l1.s a0 a1 (w64 (v10_0 + 1))) (nd c1 (nd p1 (nd (of_decide_eq_true c1) (nd (tn p1 (of_decide_eq_true c1)) (nd (spec.l1In.spec (a1.getD v10_0.toNat 0) 0 1000000000 _ e1) (nd (nf c2) trivial)))))) (by kernel_rfl) (spec.ChipOk.l1.spec a0 a1 k (w64 (v10_0 + 1)) _ h)
      · obtain rfl := Option.some.inj h
        exact .of_done tab mixed [bT, .call [] [] (one (.bool x1)) [], bT] [] [2] [0, 1] rfl (nd c1 (nd p1 (nd (of_decide_eq_true c1) (nd (tn p1 (of_decide_eq_true c1)) (nd (spec.l1In.spec (a1.getD v10_0.toNat 0) 0 1000000000 _ e1) (nd (nt c2) trivial)))))) (by kernel_rfl)
    · obtain rfl := Option.some.inj h
      exact .of_done tab mixed [bF] [] [] [0, 1] rfl (nd c1 trivial) (by kernel_rfl)
def spec.ChipOk.f (K : Nat) (a0 : List ByteArray) (a1 : List Int) : Option (Bool) :=
  cond ((a0.length : Int) != 60) (some false) (cond ((a1.length : Int) != 10) (some false) (Option.bind (spec.ChipOk.l0.f a0 a1 K 0) fun x1 => (Sum.elim (fun x1 => some false) (fun x1 => Option.bind (spec.ChipOk.l1.f a0 a1 K 0) fun x2 => (Sum.elim (fun x2 => some false) (fun x2 => some true)) x2)) x1))
theorem spec.ChipOk.spec (K : Nat) (a0 : List ByteArray) (a1 : List Int) (o : Bool) (h : spec.ChipOk.f K a0 a1 = some o) : Den.Spec Tryz.prog 62 [.v (.agg [.sl 0 0 a0.length, .sl 1 0 a1.length])] [some ⟨false, .strs a0⟩, some ⟨false, .ints .i64 a1⟩] (one (.bool o)) [some ⟨false, .strs a0⟩, some ⟨false, .ints .i64 a1⟩] := by
  unfold spec.ChipOk.f at h
  rcases br_cases h with ⟨c1, h⟩ | ⟨c1, h⟩
  · obtain rfl := Option.some.inj h
    exact Den.Spec.of_walk tab mixed Tryz.func62 (by kernel_rfl) [bT, bT, bT, bT, bT, bT] [] [0, 1] (nd c1 (nd c1 (nd c1 (nd c1 (nd c1 (nd tt trivial)))))) (by kernel_rfl)
  · rcases br_cases h with ⟨c2, h⟩ | ⟨c2, h⟩
    · obtain rfl := Option.some.inj h
      exact Den.Spec.of_walk tab mixed Tryz.func62 (by kernel_rfl) [bF, bF, bF, bF, bF, bT] [] [0, 1] (nd c1 (nd c1 (nd c1 (nd c1 (nd c1 (nd c2 trivial)))))) (by kernel_rfl)
    · obtain ⟨x1, e1, h⟩ := bind_some h
      rcases x1 with x1 | x1
      · obtain rfl := Option.some.inj h
        exact Den.Spec.of_walk tab mixed Tryz.func62 (by kernel_rfl) [bF, bF, bF, bF, bF, bF, .loop [] [1, 3] [0, 1, 2] (.ret) (spec.ChipOk.l0.e0 a0 a1 x1)] [] [0, 1] (nd c1 (nd c1 (nd c1 (nd c1 (nd c1 (nd c2 (nd (spec.ChipOk.l0.spec a0 a1 K 0 _ e1) trivial))))))) (by kernel_rfl)
      · obtain ⟨x2, e2, h⟩ := bind_some h
        rcases x2 with x2 | x2
        · obtain rfl := Option.some.inj h
          exact Den.Spec.of_walk tab mixed Tryz.func62 (by kernel_rfl) [bF, bF, bF, bF, bF, bF, .loop [] [1, 3] [0, 1, 2] (.exit 0) (spec.ChipOk.l0.e1 a0 a1 x1), .loop [] [1, 4] [0, 1, 2] (.ret) (spec.ChipOk.l1.e0 a0 a1 x2)] [] [0, 1] (nd c1 (nd c1 (nd c1 (nd c1 (nd c1 (nd c2 (nd (spec.ChipOk.l0.spec a0 a1 K 0 _ e1) (nd (spec.ChipOk.l1.spec a0 a1 K 0 _ e2) trivial)))))))) (by kernel_rfl)
        · obtain rfl := Option.some.inj h
          exact Den.Spec.of_walk tab mixed Tryz.func62 (by kernel_rfl) [bF, bF, bF, bF, bF, bF, .loop [] [1, 3] [0, 1, 2] (.exit 0) (spec.ChipOk.l0.e1 a0 a1 x1), .loop [] [1, 4] [0, 1, 2] (.exit 2) (spec.ChipOk.l1.e1 a0 a1 x2)] [] [0, 1] (nd c1 (nd c1 (nd c1 (nd c1 (nd c1 (nd c2 (nd (spec.ChipOk.l0.spec a0 a1 K 0 _ e1) (nd (spec.ChipOk.l1.spec a0 a1 K 0 _ e2) trivial)))))))) (by kernel_rfl)
def spec.l2Copy.f (a0 : List ByteArray) (a1 : List Int) : Option (Unit) :=
  ck (([] ++ a0).length * 16 ≤ 70368744177664) (ck (([] ++ a1).length * 8 ≤ 70368744177664) (some ()))
theorem spec.l2Copy.spec (a0 : List ByteArray) (a1 : List Int) (o : Unit) (h : spec.l2Copy.f a0 a1 = some o) : Den.Spec Tryz.prog 63 [.v (.agg [.sl 0 0 a0.length, .sl 1 0 a1.length])] [some ⟨false, .strs a0⟩, some ⟨false, .ints .i64 a1⟩] (.v (.agg [.sl 2 0 (([] ++ a0).length), .sl 3 0 (([] ++ a1).length)])) [some ⟨false, .strs a0⟩, some ⟨false, .ints .i64 a1⟩, some ⟨true, .strs ([] ++ a0)⟩, some ⟨true, .ints .i64 ([] ++ a1)⟩] := by
  unfold spec.l2Copy.f at h
  obtain ⟨p1, h⟩ := ck_some h
  obtain ⟨p2, h⟩ := ck_some h
  obtain rfl := Option.some.inj h
  exact Den.Spec.of_walk tab mixed Tryz.func63 (by kernel_rfl) [bT, bT] [] [0, 1, 30, 62] (n0 (nn 0 (nd p1 (n0 (nl a0 (n0 (nn 0 (nd p2 (n0 (nl a1 trivial)))))))))) (by kernel_rfl)
def spec.Mount.l0.f (a0 : List ByteArray) (a1 : List Int) : Nat → (List Int) → Int → Option ((List Int))
  | 0, _, _ => none
  | k + 1, v31_0, v31_1 =>
    cond (decide (v31_1 < 26)) (ck ((v31_0 ++ [(-1)]).length * 8 ≤ 70368744177664) (spec.Mount.l0.f a0 a1 k (v31_0 ++ [(-1)]) (w64 (v31_1 + 1)))) (some v31_0)
def spec.Mount.l0.s (a0 : List ByteArray) (a1 : List Int) (v31_0 : List Int) (v31_1 : Int) : St := mkSt 73 [(1, one (.ptr 2 0 0)), (2, one (.ptr 3 0 0)), (3, one (.ptr 7 0 0)), (4, one (.sl 11 0 ((List.replicate 26 (0 : Int)).length))), (5, one (.int .i64 v31_1))] [some ⟨false, .strs a0⟩, some ⟨false, .ints .i64 a1⟩, some ⟨true, .cells [.sl 0 0 a0.length, .sl 1 0 a1.length]⟩, some ⟨true, .cells [.sl 4 0 0, .sl 5 0 0, .sl 6 0 0, .int .i64 0]⟩, some ⟨true, .strs []⟩, some ⟨true, .ints .i64 []⟩, some ⟨true, .ints .i64 []⟩, some ⟨true, .cells [.sl 8 0 (([] ++ a0).length), .sl 9 0 (([] ++ a1).length), .sl 10 0 v31_0.length, .int .i64 1]⟩, some ⟨true, .strs ([] ++ a0)⟩, some ⟨true, .ints .i64 ([] ++ a1)⟩, some ⟨true, .ints .i64 v31_0⟩, some ⟨true, .ints .i64 (List.replicate 26 (0 : Int))⟩]
def spec.Mount.l0.e0 (a0 : List ByteArray) (a1 : List Int) (o : (List Int)) : St := mkSt 73 [(1, one (.ptr 2 0 0)), (2, one (.ptr 3 0 0)), (3, one (.ptr 7 0 0)), (4, one (.sl 11 0 ((List.replicate 26 (0 : Int)).length)))] [some ⟨false, .strs a0⟩, some ⟨false, .ints .i64 a1⟩, some ⟨true, .cells [.sl 0 0 a0.length, .sl 1 0 a1.length]⟩, some ⟨true, .cells [.sl 4 0 0, .sl 5 0 0, .sl 6 0 0, .int .i64 0]⟩, some ⟨true, .strs []⟩, some ⟨true, .ints .i64 []⟩, some ⟨true, .ints .i64 []⟩, some ⟨true, .cells [.sl 8 0 (([] ++ a0).length), .sl 9 0 (([] ++ a1).length), .sl 10 0 o.length, .int .i64 1]⟩, some ⟨true, .strs ([] ++ a0)⟩, some ⟨true, .ints .i64 ([] ++ a1)⟩, some ⟨true, .ints .i64 o⟩, some ⟨true, .ints .i64 (List.replicate 26 (0 : Int))⟩]
def spec.Mount.l0.x (a0 : List ByteArray) (a1 : List Int) : ((List Int)) → AExit × St := fun o => (.exit 0, spec.Mount.l0.e0 a0 a1 o)
theorem spec.Mount.l0.spec (a0 : List ByteArray) (a1 : List Int) : ∀ (k : Nat) (v31_0 : List Int) (v31_1 : Int) (o : (List Int)), spec.Mount.l0.f a0 a1 k v31_0 v31_1 = some o → LoopSpec Tryz.prog 2 (loopN Tryz.f20 0) (spec.Mount.l0.s a0 a1 v31_0 v31_1) (spec.Mount.l0.x a0 a1 o).1 (spec.Mount.l0.x a0 a1 o).2
  | 0, _, _, _, h => by cases h
  | k + 1, v31_0, v31_1, o, h => by
    unfold spec.Mount.l0.f at h
    rcases br_cases h with ⟨c1, h⟩ | ⟨c1, h⟩
    · obtain ⟨p1, h⟩ := ck_some h
      exact .of_step tab mixed [bT, bT] [] [1, 2, 3, 4, 5] [0, 1, 2, 3, 4, 5, 6, 7, 8, 9, 13, 11] (s1 := spec.Mount.l0.s a0 a1 (v31_0 ++ [(-1)]) (w64 (v31_1 + 1))) (nd c1 (n0 (nl v31_0 (nd p1 (n0 (nn 1 trivial)))))) (by kernel_rfl) (spec.Mount.l0.spec a0 a1 k (v31_0 ++ [(-1)]) (w64 (v31_1 + 1)) _ h)
    · obtain rfl := Option.some.inj h
      exact .of_done tab mixed [bF] [] [1, 2, 3, 4] [0, 1, 2, 3, 4, 5, 6, 7, 8, 9, 10, 11] rfl (nd c1 trivial) (by kernel_rfl)
def spec.GetNum.l0.f (a0 : List Int) (a1 : Int) : Nat → Int → Int → Option ((Int × Int × Bool) ⊕ Unit)
  | 0, _, _ => none
  | k + 1, v16_0, v16_1 =>
    cond (decide (v16_1 < 5)) (cond (decide (a1 < 0)) (some (.inl (0, 0, false))) (cond (decide (a1 ≥ (w64 ((a0.length : Int) - v16_1)))) (some (.inl (0, 0, false))) (ck (0 ≤ (w64 (a1 + v16_1))) (ck ((w64 (a1 + v16_1)) < (a0.length : Int)) (ck (0 ≤ (w64 (7 * v16_1))) (cond (decide ((w64 (a0.getD ((w64 (a1 + v16_1)).toNat) 0)) < 128)) (cond (decide (v16_1 > 0)) (cond ((w64 (a0.getD ((w64 (a1 + v16_1)).toNat) 0)) == 0) (some (.inl (0, 0, false))) (cond (decide ((bits2 .i64 (· ||| ·) v16_0 (w64 (((w64 (a0.getD ((w64 (a1 + v16_1)).toNat) 0)).tmod 128) * 2 ^ (min (w64 (7 * v16_1)).toNat 64)))) > 1000000000)) (some (.inl (0, 0, false))) (some (.inl (bits2 .i64 (· ||| ·) v16_0 (w64 (((w64 (a0.getD ((w64 (a1 + v16_1)).toNat) 0)).tmod 128) * 2 ^ (min (w64 (7 * v16_1)).toNat 64))), w64 ((w64 (a1 + v16_1)) + 1), true))))) (cond (decide ((bits2 .i64 (· ||| ·) v16_0 (w64 (((w64 (a0.getD ((w64 (a1 + v16_1)).toNat) 0)).tmod 128) * 2 ^ (min (w64 (7 * v16_1)).toNat 64)))) > 1000000000)) (some (.inl (0, 0, false))) (some (.inl (bits2 .i64 (· ||| ·) v16_0 (w64 (((w64 (a0.getD ((w64 (a1 + v16_1)).toNat) 0)).tmod 128) * 2 ^ (min (w64 (7 * v16_1)).toNat 64))), w64 ((w64 (a1 + v16_1)) + 1), true))))) (spec.GetNum.l0.f a0 a1 k (bits2 .i64 (· ||| ·) v16_0 (w64 (((w64 (a0.getD ((w64 (a1 + v16_1)).toNat) 0)).tmod 128) * 2 ^ (min (w64 (7 * v16_1)).toNat 64)))) (w64 (v16_1 + 1))))))))) (some (.inr (())))
def spec.GetNum.l0.s (a0 : List Int) (a1 : Int) (v16_0 : Int) (v16_1 : Int) : St := mkSt 55 [(0, one (.sl 0 0 a0.length)), (1, one (.int .i64 a1)), (7, one (.int .i64 v16_0)), (8, one (.int .i64 v16_1))] [some ⟨false, .ints .u8 a0⟩]
def spec.GetNum.l0.e0 (a0 : List Int) (a1 : Int) (o : Int × Int × Bool) : St := mkSt 55 [(4, one (.int .i64 o.1)), (5, one (.int .i64 o.2.1)), (6, one (.bool o.2.2))] [some ⟨false, .ints .u8 a0⟩]
def spec.GetNum.l0.e1 (a0 : List Int) (a1 : Int) (o : Unit) : St := mkSt 55 [] [some ⟨false, .ints .u8 a0⟩]
def spec.GetNum.l0.x (a0 : List Int) (a1 : Int) : ((Int × Int × Bool) ⊕ Unit) → AExit × St := Sum.elim (fun o => (.ret, spec.GetNum.l0.e0 a0 a1 o)) (fun o => (.exit 0, spec.GetNum.l0.e1 a0 a1 o))
theorem spec.GetNum.l0.spec (a0 : List Int) (a1 : Int) : ∀ (k : Nat) (v16_0 : Int) (v16_1 : Int) (o : (Int × Int × Bool) ⊕ Unit), spec.GetNum.l0.f a0 a1 k v16_0 v16_1 = some o → LoopSpec Tryz.prog 1 (loopN Tryz.f51 0) (spec.GetNum.l0.s a0 a1 v16_0 v16_1) (spec.GetNum.l0.x a0 a1 o).1 (spec.GetNum.l0.x a0 a1 o).2
  | 0, _, _, _, h => by cases h
  | k + 1, v16_0, v16_1, o, h => by
    unfold spec.GetNum.l0.f at h
    rcases br_cases h with ⟨c1, h⟩ | ⟨c1, h⟩
    · rcases br_cases h with ⟨c2, h⟩ | ⟨c2, h⟩
      · obtain rfl := Option.some.inj h
        exact .of_done tab mixed [bT, bT, bT, bT, bT, bT, bT, bT, bT] [] [4, 5, 6] [0] rfl (nd c1 (nd c2 (nd c2 (nd c2 (nd c2 (nd c2 (nd c2 (nd c2 (nd tt trivial))))))))) (by kernel_rfl)
      · rcases br_cases h with ⟨c3, h⟩ | ⟨c3, h⟩
        · obtain rfl := Option.some.inj h
          exact .of_done tab mixed [bT, bF, bF, bF, bF, bF, bF, bF, bT] [] [4, 5, 6] [0] rfl (nd c1 (nd c2 (nd c2 (nd c2 (nd c2 (nd c2 (nd c2 (nd c2 (nd c3 trivial))))))))) (by kernel_rfl)
        · obtain ⟨p1, h⟩ := ck_some h
          obtain ⟨p2, h⟩ := ck_some h
          obtain ⟨p3, h⟩ := ck_some h
          rcases br_cases h with ⟨c4, h⟩ | ⟨c4, h⟩
          · rcases br_cases h with ⟨c5, h⟩ | ⟨c5, h⟩
            · rcases br_cases h with ⟨c6, h⟩ | ⟨c6, h⟩
              · obtain rfl := Option.some.inj h
                exact .of_done tab mixed [bT, bF, bF, bF, bF, bF, bF, bF, bF, bT, bT, bT, bT, bT, bT, bT, bT] [] [4, 5, 6] [0] rfl (nd c1 (nd c2 (nd c2 (nd c2 (nd c2 (nd c2 (nd c2 (nd c2 (nd c3 (nd p1 (nd p2 (nd (tn p1 p2) (nd (by decide : (128 : Int) ≠ 0) (nd p3 (nd c4 (nd c5 (nd c5 (nd c5 (nd c6 (nd c6 (nd c6 (nd tt trivial)))))))))))))))))))))) (by kernel_rfl)
              · rcases br_cases h with ⟨c7, h⟩ | ⟨c7, h⟩
                · obtain rfl := Option.some.inj h
                  exact .of_done tab mixed [bT, bF, bF, bF, bF, bF, bF, bF, bF, bT, bT, bT, bT, bF, bF, bF, bT] [] [4, 5, 6] [0] rfl (nd c1 (nd c2 (nd c2 (nd c2 (nd c2 (nd c2 (nd c2 (nd c2 (nd c3 (nd p1 (nd p2 (nd (tn p1 p2) (nd (by decide : (128 : Int) ≠ 0) (nd p3 (nd c4 (nd c5 (nd c5 (nd c5 (nd c6 (nd c6 (nd c6 (nd c7 trivial)))))))))))))))))))))) (by kernel_rfl)
                · obtain rfl := Option.some.inj h
                  exact .of_done tab mixed [bT, bF, bF, bF, bF, bF, bF, bF, bF, bT, bT, bT, bT, bF, bF, bF, bF] [] [4, 5, 6] [0] rfl (nd c1 (nd c2 (nd c2 (nd c2 (nd c2 (nd c2 (nd c2 (nd c2 (nd c3 (nd p1 (nd p2 (nd (tn p1 p2) (nd (by decide : (128 : Int) ≠ 0) (nd p3 (nd c4 (nd c5 (nd c5 (nd c5 (nd c6 (nd c6 (nd c6 (nd c7 trivial)))))))))))))))))))))) (by kernel_rfl)
            · rcases br_cases h with ⟨c6, h⟩ | ⟨c6, h⟩
              · obtain rfl := Option.some.inj h
                exact .of_done tab mixed [bT, bF, bF, bF, bF, bF, bF, bF, bF, bT, bF, bF, bF, bF, bF, bF, bT] [] [4, 5, 6] [0] rfl (nd c1 (nd c2 (nd c2 (nd c2 (nd c2 (nd c2 (nd c2 (nd c2 (nd c3 (nd p1 (nd p2 (nd (tn p1 p2) (nd (by decide : (128 : Int) ≠ 0) (nd p3 (nd c4 (nd c5 (nd c5 (nd c5 (nd ff (nd ff (nd ff (nd c6 trivial)))))))))))))))))))))) (by kernel_rfl)
              · obtain rfl := Option.some.inj h
                exact .of_done tab mixed [bT, bF, bF, bF, bF, bF, bF, bF, bF, bT, bF, bF, bF, bF, bF, bF, bF] [] [4, 5, 6] [0] rfl (nd c1 (nd c2 (nd c2 (nd c2 (nd c2 (nd c2 (nd c2 (nd c2 (nd c3 (nd p1 (nd p2 (nd (tn p1 p2) (nd (by decide : (128 : Int) ≠ 0) (nd p3 (nd c4 (nd c5 (nd c5 (nd c5 (nd ff (nd ff (nd ff (nd c6 trivial)))))))))))))))))))))) (by kernel_rfl)
          · exact .of_step tab mixed [bT, bF, bF, bF, bF, bF, bF, bF, bF, bF] [] [0, 1, 7, 8] [0] (s1 := spec.GetNum.l0.s a0 a1 (bits2 .i64 (· ||| ·) v16_0 (w64 (((w64 (a0.getD ((w64 (a1 + v16_1)).toNat) 0)).tmod 128) * 2 ^ (min (w64 (7 * v16_1)).toNat 64)))) (w64 (v16_1 + 1))) (nd c1 (nd c2 (nd c2 (nd c2 (nd c2 (nd c2 (nd c2 (nd c2 (nd c3 (nd p1 (nd p2 (nd (tn p1 p2) (nd (by decide : (128 : Int) ≠ 0) (nd p3 (nd c4 trivial))))))))))))))) (by kernel_rfl) (spec.GetNum.l0.spec a0 a1 k (bits2 .i64 (· ||| ·) v16_0 (w64 (((w64 (a0.getD ((w64 (a1 + v16_1)).toNat) 0)).tmod 128) * 2 ^ (min (w64 (7 * v16_1)).toNat 64)))) (w64 (v16_1 + 1)) _ h)
    · obtain rfl := Option.some.inj h
      exact .of_done tab mixed [bF] [] [] [0] rfl (nd c1 trivial) (by kernel_rfl)
def spec.GetNum.f (K : Nat) (a0 : List Int) (a1 : Int) : Option (Int × Int × Bool) :=
  Option.bind (spec.GetNum.l0.f a0 a1 K 0 0) fun x1 => (Sum.elim (fun x1 => some (x1.1, x1.2.1, x1.2.2)) (fun x1 => some (0, 0, false))) x1
theorem spec.GetNum.spec (K : Nat) (a0 : List Int) (a1 : Int) (o : Int × Int × Bool) (h : spec.GetNum.f K a0 a1 = some o) : Den.Spec Tryz.prog 51 [one (.sl 0 0 a0.length), one (.int .i64 a1)] [some ⟨false, .ints .u8 a0⟩] (.tup [.c (.int .i64 o.1), .c (.int .i64 o.2.1), .c (.bool o.2.2)]) [some ⟨false, .ints .u8 a0⟩] := by
  unfold spec.GetNum.f at h
  obtain ⟨x1, e1, h⟩ := bind_some h
  rcases x1 with x1 | x1
  · obtain rfl := Option.some.inj h
    exact Den.Spec.of_walk tab mixed Tryz.func51 (by kernel_rfl) [.loop [] [0, 1, 7, 8] [0] (.ret) (spec.GetNum.l0.e0 a0 a1 x1)] [] [0] (nd (spec.GetNum.l0.spec a0 a1 K 0 0 _ e1) trivial) (by kernel_rfl)
  · obtain rfl := Option.some.inj h
    exact Den.Spec.of_walk tab mixed Tryz.func51 (by kernel_rfl) [.loop [] [0, 1, 7, 8] [0] (.exit 0) (spec.GetNum.l0.e1 a0 a1 x1)] [] [0] (nd (spec.GetNum.l0.spec a0 a1 K 0 0 _ e1) trivial) (by kernel_rfl)
def spec.GetText.f (K : Nat) (a0 : List Int) (a1 : Int) : Option (ByteArray × Int × Bool) :=
  Option.bind (spec.GetNum.f K a0 a1) fun x1 => cond (x1.2.2) (cond (decide (x1.1 > 400)) (some (noVal, 0, false)) (cond (decide (x1.1 > (w64 ((a0.length : Int) - x1.2.1)))) (some (noVal, 0, false)) (ck (0 ≤ x1.2.1) (ck (x1.2.1 ≤ (w64 (x1.2.1 + x1.1))) (ck ((w64 (x1.2.1 + x1.1)) ≤ (a0.length : Int)) (ck (x1.2.1.toNat + ((w64 (x1.2.1 + x1.1)).toNat - x1.2.1.toNat) ≤ a0.length) (some (ofBytes ((a0.drop x1.2.1.toNat).take ((w64 (x1.2.1 + x1.1)).toNat - x1.2.1.toNat)), w64 (x1.2.1 + x1.1), true)))))))) (some (noVal, 0, false))
theorem spec.GetText.spec (K : Nat) (a0 : List Int) (a1 : Int) (o : ByteArray × Int × Bool) (h : spec.GetText.f K a0 a1 = some o) : Den.Spec Tryz.prog 52 [one (.sl 0 0 a0.length), one (.int .i64 a1)] [some ⟨false, .ints .u8 a0⟩] (.tup [.c (.str o.1), .c (.int .i64 o.2.1), .c (.bool o.2.2)]) [some ⟨false, .ints .u8 a0⟩] := by
  unfold spec.GetText.f at h
  obtain ⟨x1, e1, h⟩ := bind_some h
  rcases br_cases h with ⟨c1, h⟩ | ⟨c1, h⟩
  · rcases br_cases h with ⟨c2, h⟩ | ⟨c2, h⟩
    · obtain rfl := Option.some.inj h
      exact Den.Spec.of_walk tab mixed Tryz.func52 (by kernel_rfl) [.call [] [(0, true)] (.tup [.c (.int .i64 x1.1), .c (.int .i64 x1.2.1), .c (.bool x1.2.2)]) (iF a0), bF, bF, bF, bT, bT, bT, bT, bT, bT, bT, bT] [] [0] (nd (spec.GetNum.spec K a0 a1 _ e1) (n0 (nl a0 (nd (nf c1) (nd (nf c1) (nd (nf c1) (nd c2 (nd c2 (nd c2 (nd c2 (nd c2 (nd c2 (nd c2 (nd tt trivial)))))))))))))) (by kernel_rfl)
    · rcases br_cases h with ⟨c3, h⟩ | ⟨c3, h⟩
      · obtain rfl := Option.some.inj h
        exact Den.Spec.of_walk tab mixed Tryz.func52 (by kernel_rfl) [.call [] [(0, true)] (.tup [.c (.int .i64 x1.1), .c (.int .i64 x1.2.1), .c (.bool x1.2.2)]) (iF a0), bF, bF, bF, bF, bF, bF, bF, bF, bF, bF, bT] [] [0] (nd (spec.GetNum.spec K a0 a1 _ e1) (n0 (nl a0 (nd (nf c1) (nd (nf c1) (nd (nf c1) (nd c2 (nd c2 (nd c2 (nd c2 (nd c2 (nd c2 (nd c2 (nd c3 trivial)))))))))))))) (by kernel_rfl)
      · obtain ⟨p1, h⟩ := ck_some h
        obtain ⟨p2, h⟩ := ck_some h
        obtain ⟨p3, h⟩ := ck_some h
        obtain ⟨p4, h⟩ := ck_some h
        obtain rfl := Option.some.inj h
        exact Den.Spec.of_walk tab mixed Tryz.func52 (by kernel_rfl) [.call [] [(0, true)] (.tup [.c (.int .i64 x1.1), .c (.int .i64 x1.2.1), .c (.bool x1.2.2)]) (iF a0), bF, bF, bF, bF, bF, bF, bF, bF, bF, bF, bF, bF] [] [0] (nd (spec.GetNum.spec K a0 a1 _ e1) (n0 (nl a0 (nd (nf c1) (nd (nf c1) (nd (nf c1) (nd c2 (nd c2 (nd c2 (nd c2 (nd c2 (nd c2 (nd c2 (nd c3 (nd p1 (nd p2 (nd p3 (nd p4 trivial)))))))))))))))))) (by kernel_rfl)
  · obtain rfl := Option.some.inj h
    exact Den.Spec.of_walk tab mixed Tryz.func52 (by kernel_rfl) [.call [] [(0, true)] (.tup [.c (.int .i64 x1.1), .c (.int .i64 x1.2.1), .c (.bool x1.2.2)]) (iF a0), bT, bT, bT, bT, bT, bT, bT, bT, bT, bT, bT] [] [0] (nd (spec.GetNum.spec K a0 a1 _ e1) (n0 (nl a0 (nd (nt c1) (nd (nt c1) (nd (nt c1) (nd tt (nd tt (nd tt (nd tt (nd tt (nd tt (nd tt (nd tt trivial)))))))))))))) (by kernel_rfl)
def spec.RecOk.f (a0 : Int) (a1 : Int) (a2 : ByteArray) : Option (Bool) :=
  Option.bind (spec.l1In.f a0 0 25) fun x1 => cond (x1) (Option.bind (spec.l1In.f a1 1 1000000000) fun x2 => cond (x2) (some (decide ((a2.size : Int) ≤ 400))) (some false)) (some false)
theorem spec.RecOk.spec (a0 : Int) (a1 : Int) (a2 : ByteArray) (o : Bool) (h : spec.RecOk.f a0 a1 a2 = some o) : Den.Spec Tryz.prog 105 [.v (.agg [.int .i64 a0, .int .i64 a1, .str a2])] [] (one (.bool o)) [] := by
  unfold spec.RecOk.f at h
  obtain ⟨x1, e1, h⟩ := bind_some h
  rcases br_cases h with ⟨c1, h⟩ | ⟨c1, h⟩
  · obtain ⟨x2, e2, h⟩ := bind_some h
    rcases br_cases h with ⟨c2, h⟩ | ⟨c2, h⟩
    · obtain rfl := Option.some.inj h
      exact Den.Spec.of_walk tab mixed Tryz.func105 (by kernel_rfl) [.call [] [] (one (.bool x1)) [], bT, bT, bT, .call [] [] (one (.bool x2)) [], bT, bT, bT, bT, bT, bT] [] [] (nd (spec.l1In.spec a0 0 25 _ e1) (nd c1 (nd c1 (nd c1 (nd (spec.l1In.spec a1 1 1000000000 _ e2) (nd c1 (nd c2 (nd c2 (nd c2 (nd c2 (nd c2 trivial))))))))))) (by kernel_rfl)
    · obtain rfl := Option.some.inj h
      exact Den.Spec.of_walk tab mixed Tryz.func105 (by kernel_rfl) [.call [] [] (one (.bool x1)) [], bT, bT, bT, .call [] [] (one (.bool x2)) [], bT, bF, bF, bF, bF, bF] [] [] (nd (spec.l1In.spec a0 0 25 _ e1) (nd c1 (nd c1 (nd c1 (nd (spec.l1In.spec a1 1 1000000000 _ e2) (nd c1 (nd c2 (nd c2 (nd c2 (nd c2 (nd c2 trivial))))))))))) (by kernel_rfl)
  · obtain rfl := Option.some.inj h
    exact Den.Spec.of_walk tab mixed Tryz.func105 (by kernel_rfl) [.call [] [] (one (.bool x1)) [], bF, bF, bF, bF, bF, bF, bF, bF, bF] [] [] (nd (spec.l1In.spec a0 0 25 _ e1) (nd c1 (nd c1 (nd c1 (nd c1 (nd ff (nd ff (nd ff (nd ff (nd ff trivial)))))))))) (by kernel_rfl)
def spec.PutNum.l0.f : Nat → Int → (List Int) → Option (Int × (List Int))
  | 0, _, _ => none
  | k + 1, v21_0, v21_1 =>
    cond (decide (v21_0 > 127)) (ck ((v21_1 ++ [IntKind.u8.wrap (w64 ((v21_0.tmod 128) + 128))]).length * 1 ≤ 70368744177664) (spec.PutNum.l0.f k (w64 (v21_0.tdiv 128)) (v21_1 ++ [IntKind.u8.wrap (w64 ((v21_0.tmod 128) + 128))]))) (some (v21_0, v21_1))
def spec.PutNum.l0.s (v21_0 : Int) (v21_1 : List Int) : St := mkSt 25 [(0, one (.int .i64 v21_0)), (3, one (.sl 0 0 v21_1.length))] [some ⟨true, .ints .u8 v21_1⟩]
def spec.PutNum.l0.e0 (o : Int × (List Int)) : St := mkSt 25 [(0, one (.int .i64 o.1)), (3, one (.sl 0 0 o.2.length))] [some ⟨true, .ints .u8 o.2⟩]
def spec.PutNum.l0.x : (Int × (List Int)) → AExit × St := fun o => (.exit 0, spec.PutNum.l0.e0 o)
theorem spec.PutNum.l0.spec : ∀ (k : Nat) (v21_0 : Int) (v21_1 : List Int) (o : Int × (List Int)), spec.PutNum.l0.f k v21_0 v21_1 = some o → LoopSpec Tryz.prog 0 (loopN Tryz.f42 0) (spec.PutNum.l0.s v21_0 v21_1) (spec.PutNum.l0.x o).1 (spec.PutNum.l0.x o).2
  | 0, _, _, _, h => by cases h
  | k + 1, v21_0, v21_1, o, h => by
    unfold spec.PutNum.l0.f at h
    rcases br_cases h with ⟨c1, h⟩ | ⟨c1, h⟩
    · obtain ⟨p1, h⟩ := ck_some h
      exact .of_step tab mixed [bT, bT] [] [0, 3] [2] (s1 := spec.PutNum.l0.s (w64 (v21_0.tdiv 128)) (v21_1 ++ [IntKind.u8.wrap (w64 ((v21_0.tmod 128) + 128))])) (nd c1 (nd (by decide : (128 : Int) ≠ 0) (n0 (nl v21_1 (nd p1 (n0 (nn 1 (nd (by decide : (128 : Int) ≠ 0) trivial)))))))) (by kernel_rfl) (spec.PutNum.l0.spec k (w64 (v21_0.tdiv 128)) (v21_1 ++ [IntKind.u8.wrap (w64 ((v21_0.tmod 128) + 128))]) _ h)
    · obtain rfl := Option.some.inj h
      exact .of_done tab mixed [bF] [] [0, 3] [0] rfl (nd c1 trivial) (by kernel_rfl)
def spec.PutNum.f (K : Nat) (a0 : Int) : Option ((List Int)) :=
  Option.bind (spec.l1In.f a0 0 1000000000) fun x1 => cond (x1) (Option.bind (spec.PutNum.l0.f K a0 []) fun x2 => ck ((x2.2 ++ [IntKind.u8.wrap x2.1]).length * 1 ≤ 70368744177664) (some (x2.2 ++ [IntKind.u8.wrap x2.1]))) (some [])
theorem spec.PutNum.spec (K : Nat) (a0 : Int) (o : (List Int)) (h : spec.PutNum.f K a0 = some o) : Den.Spec Tryz.prog 42 [one (.int .i64 a0)] [] (one (.sl 0 0 o.length)) [some ⟨true, .ints .u8 o⟩] := by
  unfold spec.PutNum.f at h
  obtain ⟨x1, e1, h⟩ := bind_some h
  rcases br_cases h with ⟨c1, h⟩ | ⟨c1, h⟩
  · obtain ⟨x2, e2, h⟩ := bind_some h
    obtain ⟨p1, h⟩ := ck_some h
    obtain rfl := Option.some.inj h
    exact Den.Spec.of_walk tab mixed Tryz.func42 (by kernel_rfl) [.call [] [] (one (.bool x1)) [], bF, .loop [] [0, 3] [0] (.exit 0) (spec.PutNum.l0.e0 x2), bT] [] [2] (nd (spec.l1In.spec a0 0 1000000000 _ e1) (nd (nf c1) (nd (spec.PutNum.l0.spec K a0 [] _ e2) (n0 (nl x2.2 (nd p1 (n0 (nn 1 trivial)))))))) (by kernel_rfl)
  · obtain rfl := Option.some.inj h
    exact Den.Spec.of_walk tab mixed Tryz.func42 (by kernel_rfl) [.call [] [] (one (.bool x1)) [], bT] [] [0] (nd (spec.l1In.spec a0 0 1000000000 _ e1) (nd (nt c1) trivial)) (by kernel_rfl)
def spec.PutText.f (K : Nat) (a0 : ByteArray) : Option ((List Int)) :=
  cond (decide ((a0.size : Int) > 400)) (some []) (Option.bind (spec.PutNum.f K (a0.size : Int)) fun x1 => ck ((x1 ++ (bytesL a0)).length * 1 ≤ 70368744177664) (some (x1 ++ (bytesL a0))))
theorem spec.PutText.spec (K : Nat) (a0 : ByteArray) (o : (List Int)) (h : spec.PutText.f K a0 = some o) : Den.Spec Tryz.prog 43 [one (.str a0)] [] (one (.sl 0 0 o.length)) [some ⟨true, .ints .u8 o⟩] := by
  unfold spec.PutText.f at h
  rcases br_cases h with ⟨c1, h⟩ | ⟨c1, h⟩
  · obtain rfl := Option.some.inj h
    exact Den.Spec.of_walk tab mixed Tryz.func43 (by kernel_rfl) [bT] [] [0] (nd c1 trivial) (by kernel_rfl)
  · obtain ⟨x1, e1, h⟩ := bind_some h
    obtain ⟨p1, h⟩ := ck_some h
    obtain rfl := Option.some.inj h
    exact Den.Spec.of_walk tab mixed Tryz.func43 (by kernel_rfl) [bF, .call [] [] (one (.sl 0 0 x1.length)) (iT x1), bT] [] [2] (nd c1 (nd (spec.PutNum.spec K (a0.size : Int) _ e1) (n0 (nl x1 (nd p1 (n0 (nd (rfl : (bytesL a0).length = (bytesL a0).length) trivial))))))) (by kernel_rfl)
def spec.Sum.l0.f (a0 : List Int) : Nat → Int → Int → Option (Int)
  | 0, _, _ => none
  | k + 1, v25_0, v25_1 =>
    cond (decide (v25_1 < (a0.length : Int))) (ck (0 ≤ v25_1) (spec.Sum.l0.f a0 k ((w64 ((w64 (31 * v25_0)) + (w64 (a0.getD v25_1.toNat 0)))).tmod 1000003) (w64 (v25_1 + 1)))) (some v25_0)
def spec.Sum.l0.s (a0 : List Int) (v25_0 : Int) (v25_1 : Int) : St := mkSt 21 [(0, one (.sl 0 0 a0.length)), (3, one (.int .i64 v25_0)), (4, one (.int .i64 v25_1))] [some ⟨false, .ints .u8 a0⟩]
def spec.Sum.l0.e0 (a0 : List Int) (o : Int) : St := mkSt 21 [(3, one (.int .i64 o))] [some ⟨false, .ints .u8 a0⟩]
def spec.Sum.l0.x (a0 : List Int) : (Int) → AExit × St := fun o => (.exit 0, spec.Sum.l0.e0 a0 o)
theorem spec.Sum.l0.spec (a0 : List Int) : ∀ (k : Nat) (v25_0 : Int) (v25_1 : Int) (o : Int), spec.Sum.l0.f a0 k v25_0 v25_1 = some o → LoopSpec Tryz.prog 1 (loopN Tryz.f44 0) (spec.Sum.l0.s a0 v25_0 v25_1) (spec.Sum.l0.x a0 o).1 (spec.Sum.l0.x a0 o).2
  | 0, _, _, _, h => by cases h
  | k + 1, v25_0, v25_1, o, h => by
    unfold spec.Sum.l0.f at h
    rcases br_cases h with ⟨c1, h⟩ | ⟨c1, h⟩
    · obtain ⟨p1, h⟩ := ck_some h
      exact .of_step tab mixed [bT] [] [0, 3, 4] [0] (s1 := spec.Sum.l0.s a0 ((w64 ((w64 (31 * v25_0)) + (w64 (a0.getD v25_1.toNat 0)))).tmod 1000003) (w64 (v25_1 + 1))) (nd c1 (nd p1 (nd (of_decide_eq_true c1) (nd (tn p1 (of_decide_eq_true c1)) (nd (by decide : (1000003 : Int) ≠ 0) trivial))))) (by kernel_rfl) (spec.Sum.l0.spec a0 k ((w64 ((w64 (31 * v25_0)) + (w64 (a0.getD v25_1.toNat 0)))).tmod 1000003) (w64 (v25_1 + 1)) _ h)
    · obtain rfl := Option.some.inj h
      exact .of_done tab mixed [bF] [] [3] [0] rfl (nd c1 trivial) (by kernel_rfl)
def spec.Sum.f (K : Nat) (a0 : List Int) : Option (Int) :=
  Option.bind (spec.Sum.l0.f a0 K 7 0) fun x1 => some x1
theorem spec.Sum.spec (K : Nat) (a0 : List Int) (o : Int) (h : spec.Sum.f K a0 = some o) : Den.Spec Tryz.prog 44 [one (.sl 0 0 a0.length)] [some ⟨false, .ints .u8 a0⟩] (one (.int .i64 o)) [some ⟨false, .ints .u8 a0⟩] := by
  unfold spec.Sum.f at h
  obtain ⟨x1, e1, h⟩ := bind_some h
  obtain rfl := Option.some.inj h
  exact Den.Spec.of_walk tab mixed Tryz.func44 (by kernel_rfl) [.loop [] [0, 3, 4] [0] (.exit 0) (spec.Sum.l0.e0 a0 x1)] [] [0] (nd (spec.Sum.l0.spec a0 K 7 0 _ e1) trivial) (by kernel_rfl)
def spec.RecText.f (K : Nat) (a0 : Int) (a1 : Int) (a2 : ByteArray) : Option (ByteArray) :=
  Option.bind (spec.RecOk.f a0 a1 a2) fun x1 => cond (x1) (Option.bind (spec.PutNum.f K a0) fun x2 => Option.bind (spec.PutNum.f K a1) fun x3 => ck ((x2 ++ x3).length * 1 ≤ 70368744177664) (Option.bind (spec.PutText.f K a2) fun x4 => ck (((x2 ++ x3) ++ x4).length * 1 ≤ 70368744177664) (Option.bind (spec.Sum.f K ((x2 ++ x3) ++ x4)) fun x5 => Option.bind (spec.PutNum.f K x5) fun x6 => ck ((x6 ++ ((x2 ++ x3) ++ x4)).length * 1 ≤ 70368744177664) (some (ofBytes (x6 ++ ((x2 ++ x3) ++ x4))))))) (some noVal)
theorem spec.RecText.spec (K : Nat) (a0 : Int) (a1 : Int) (a2 : ByteArray) (o : ByteArray) (h : spec.RecText.f K a0 a1 a2 = some o) : Den.Spec Tryz.prog 96 [.v (.agg [.int .i64 a0, .int .i64 a1, .str a2])] [] (one (.str o)) [] := by
  unfold spec.RecText.f at h
  obtain ⟨x1, e1, h⟩ := bind_some h
  rcases br_cases h with ⟨c1, h⟩ | ⟨c1, h⟩
  · obtain ⟨x2, e2, h⟩ := bind_some h
    obtain ⟨x3, e3, h⟩ := bind_some h
    obtain ⟨p1, h⟩ := ck_some h
    obtain ⟨x4, e4, h⟩ := bind_some h
    obtain ⟨p2, h⟩ := ck_some h
    obtain ⟨x5, e5, h⟩ := bind_some h
    obtain ⟨x6, e6, h⟩ := bind_some h
    obtain ⟨p3, h⟩ := ck_some h
    obtain rfl := Option.some.inj h
    exact Den.Spec.of_walk tab mixed Tryz.func96 (by kernel_rfl) [.call [] [] (one (.bool x1)) [], bF, .call [] [] (one (.sl 0 0 x2.length)) (iT x2), .call [] [] (one (.sl 0 0 x3.length)) (iT x3), bT, .call [] [] (one (.sl 0 0 x4.length)) (iT x4), bT, .call [] [(0, true)] (one (.int .i64 x5)) [some ⟨false, .ints .u8 ((x2 ++ x3) ++ x4)⟩], .call [] [] (one (.sl 0 0 x6.length)) (iT x6), bT, bT] [] [] (nd (spec.RecOk.spec a0 a1 a2 _ e1) (nd (nf c1) (nd (spec.PutNum.spec K a0 _ e2) (nd (spec.PutNum.spec K a1 _ e3) (n0 (nl x2 (nd p1 (n0 (nl x3 (nd (spec.PutText.spec K a2 _ e4) (n0 (nd (rfl : (x2 ++ x3).length = (x2 ++ x3).length) (nd p2 (n0 (nl x4 (nd (spec.Sum.spec K ((x2 ++ x3) ++ x4) _ e5) (n0 (nd (rfl : ((x2 ++ x3) ++ x4).length = ((x2 ++ x3) ++ x4).length) (nd (spec.PutNum.spec K x5 _ e6) (n0 (nl x6 (nd p3 (n0 (nd (rfl : ((x2 ++ x3) ++ x4).length = ((x2 ++ x3) ++ x4).length) (n0 (nd (rfl : (x6 ++ ((x2 ++ x3) ++ x4)).length = (x6 ++ ((x2 ++ x3) ++ x4)).length) trivial)))))))))))))))))))))))))) (by kernel_rfl)
  · obtain rfl := Option.some.inj h
    exact Den.Spec.of_walk tab mixed Tryz.func96 (by kernel_rfl) [.call [] [] (one (.bool x1)) [], bT] [] [] (nd (spec.RecOk.spec a0 a1 a2 _ e1) (nd (nt c1) trivial)) (by kernel_rfl)
def spec.RecRead.f (K : Nat) (a0 : ByteArray) : Option (Int × Int × ByteArray × Bool) :=
  Option.bind (spec.GetNum.f K (bytesL a0) 0) fun x1 => cond (x1.2.2) (Option.bind (spec.GetNum.f K (bytesL a0) x1.2.1) fun x2 => cond (x2.2.2) (Option.bind (spec.GetNum.f K (bytesL a0) x2.2.1) fun x3 => cond (x3.2.2) (Option.bind (spec.GetText.f K (bytesL a0) x3.2.1) fun x4 => cond (x4.2.2) (Option.bind (spec.RecText.f K x2.1 x3.1 x4.1) fun x5 => cond (strEq x5 a0) (some (x2.1, x3.1, x4.1, true)) (some (0, 0, noVal, false))) (some (0, 0, noVal, false))) (some (0, 0, noVal, false))) (some (0, 0, noVal, false))) (some (0, 0, noVal, false))
theorem spec.RecRead.spec (K : Nat) (a0 : ByteArray) (o : Int × Int × ByteArray × Bool) (h : spec.RecRead.f K a0 = some o) : Den.Spec Tryz.prog 64 [one (.str a0)] [] (.tup [.agg [.int .i64 o.1, .int .i64 o.2.1, .str o.2.2.1], .c (.bool o.2.2.2)]) [] := by
  unfold spec.RecRead.f at h
  obtain ⟨x1, e1, h⟩ := bind_some h
  rcases br_cases h with ⟨c1, h⟩ | ⟨c1, h⟩
  · obtain ⟨x2, e2, h⟩ := bind_some h
    rcases br_cases h with ⟨c2, h⟩ | ⟨c2, h⟩
    · obtain ⟨x3, e3, h⟩ := bind_some h
      rcases br_cases h with ⟨c3, h⟩ | ⟨c3, h⟩
      · obtain ⟨x4, e4, h⟩ := bind_some h
        rcases br_cases h with ⟨c4, h⟩ | ⟨c4, h⟩
        · obtain ⟨x5, e5, h⟩ := bind_some h
          rcases br_cases h with ⟨c5, h⟩ | ⟨c5, h⟩
          · obtain rfl := Option.some.inj h
            exact Den.Spec.of_walk tab mixed Tryz.func64 (by kernel_rfl) [.call [] [(0, true)] (.tup [.c (.int .i64 x1.1), .c (.int .i64 x1.2.1), .c (.bool x1.2.2)]) [some ⟨false, .ints .u8 (bytesL a0)⟩], bF, .call [] [(0, true)] (.tup [.c (.int .i64 x2.1), .c (.int .i64 x2.2.1), .c (.bool x2.2.2)]) [some ⟨false, .ints .u8 (bytesL a0)⟩], bF, .call [] [(0, true)] (.tup [.c (.int .i64 x3.1), .c (.int .i64 x3.2.1), .c (.bool x3.2.2)]) [some ⟨false, .ints .u8 (bytesL a0)⟩], bF, .call [] [(0, true)] (.tup [.c (.str x4.1), .c (.int .i64 x4.2.1), .c (.bool x4.2.2)]) [some ⟨false, .ints .u8 (bytesL a0)⟩], bF, bF, .call [] [] (one (.str x5)) [], bF, bF, bF, bF] [] [] (nd (spec.GetNum.spec K (bytesL a0) 0 _ e1) (n0 (nd (rfl : (bytesL a0).length = (bytesL a0).length) (nd (nf c1) (nd (spec.GetNum.spec K (bytesL a0) x1.2.1 _ e2) (n0 (nd (rfl : (bytesL a0).length = (bytesL a0).length) (nd (nf c2) (nd (spec.GetNum.spec K (bytesL a0) x2.2.1 _ e3) (n0 (nd (rfl : (bytesL a0).length = (bytesL a0).length) (nd (nf c3) (nd (spec.GetText.spec K (bytesL a0) x3.2.1 _ e4) (n0 (nd (rfl : (bytesL a0).length = (bytesL a0).length) (nd (nf c4) (nd (nf c4) (nd (spec.RecText.spec K x2.1 x3.1 x4.1 _ e5) (nd (nf c4) (nd (nf c4) (nd (nf c4) (nd (nf c5) trivial)))))))))))))))))))))) (by kernel_rfl)
          · obtain rfl := Option.some.inj h
            exact Den.Spec.of_walk tab mixed Tryz.func64 (by kernel_rfl) [.call [] [(0, true)] (.tup [.c (.int .i64 x1.1), .c (.int .i64 x1.2.1), .c (.bool x1.2.2)]) [some ⟨false, .ints .u8 (bytesL a0)⟩], bF, .call [] [(0, true)] (.tup [.c (.int .i64 x2.1), .c (.int .i64 x2.2.1), .c (.bool x2.2.2)]) [some ⟨false, .ints .u8 (bytesL a0)⟩], bF, .call [] [(0, true)] (.tup [.c (.int .i64 x3.1), .c (.int .i64 x3.2.1), .c (.bool x3.2.2)]) [some ⟨false, .ints .u8 (bytesL a0)⟩], bF, .call [] [(0, true)] (.tup [.c (.str x4.1), .c (.int .i64 x4.2.1), .c (.bool x4.2.2)]) [some ⟨false, .ints .u8 (bytesL a0)⟩], bF, bF, .call [] [] (one (.str x5)) [], bF, bF, bF, bT] [] [] (nd (spec.GetNum.spec K (bytesL a0) 0 _ e1) (n0 (nd (rfl : (bytesL a0).length = (bytesL a0).length) (nd (nf c1) (nd (spec.GetNum.spec K (bytesL a0) x1.2.1 _ e2) (n0 (nd (rfl : (bytesL a0).length = (bytesL a0).length) (nd (nf c2) (nd (spec.GetNum.spec K (bytesL a0) x2.2.1 _ e3) (n0 (nd (rfl : (bytesL a0).length = (bytesL a0).length) (nd (nf c3) (nd (spec.GetText.spec K (bytesL a0) x3.2.1 _ e4) (n0 (nd (rfl : (bytesL a0).length = (bytesL a0).length) (nd (nf c4) (nd (nf c4) (nd (spec.RecText.spec K x2.1 x3.1 x4.1 _ e5) (nd (nf c4) (nd (nf c4) (nd (nf c4) (nd (nt c5) trivial)))))))))))))))))))))) (by kernel_rfl)
        · obtain rfl := Option.some.inj h
          exact Den.Spec.of_walk tab mixed Tryz.func64 (by kernel_rfl) [.call [] [(0, true)] (.tup [.c (.int .i64 x1.1), .c (.int .i64 x1.2.1), .c (.bool x1.2.2)]) [some ⟨false, .ints .u8 (bytesL a0)⟩], bF, .call [] [(0, true)] (.tup [.c (.int .i64 x2.1), .c (.int .i64 x2.2.1), .c (.bool x2.2.2)]) [some ⟨false, .ints .u8 (bytesL a0)⟩], bF, .call [] [(0, true)] (.tup [.c (.int .i64 x3.1), .c (.int .i64 x3.2.1), .c (.bool x3.2.2)]) [some ⟨false, .ints .u8 (bytesL a0)⟩], bF, .call [] [(0, true)] (.tup [.c (.str x4.1), .c (.int .i64 x4.2.1), .c (.bool x4.2.2)]) [some ⟨false, .ints .u8 (bytesL a0)⟩], bT, bT, bT, bT, bT, bT] [] [] (nd (spec.GetNum.spec K (bytesL a0) 0 _ e1) (n0 (nd (rfl : (bytesL a0).length = (bytesL a0).length) (nd (nf c1) (nd (spec.GetNum.spec K (bytesL a0) x1.2.1 _ e2) (n0 (nd (rfl : (bytesL a0).length = (bytesL a0).length) (nd (nf c2) (nd (spec.GetNum.spec K (bytesL a0) x2.2.1 _ e3) (n0 (nd (rfl : (bytesL a0).length = (bytesL a0).length) (nd (nf c3) (nd (spec.GetText.spec K (bytesL a0) x3.2.1 _ e4) (n0 (nd (rfl : (bytesL a0).length = (bytesL a0).length) (nd (nt c4) (nd (nt c4) (nd (nt c4) (nd (nt c4) (nd (nt c4) (nd tt trivial))))))))))))))))))))) (by kernel_rfl)
      · obtain rfl := Option.some.inj h
        exact Den.Spec.of_walk tab mixed Tryz.func64 (by kernel_rfl) [.call [] [(0, true)] (.tup [.c (.int .i64 x1.1), .c (.int .i64 x1.2.1), .c (.bool x1.2.2)]) [some ⟨false, .ints .u8 (bytesL a0)⟩], bF, .call [] [(0, true)] (.tup [.c (.int .i64 x2.1), .c (.int .i64 x2.2.1), .c (.bool x2.2.2)]) [some ⟨false, .ints .u8 (bytesL a0)⟩], bF, .call [] [(0, true)] (.tup [.c (.int .i64 x3.1), .c (.int .i64 x3.2.1), .c (.bool x3.2.2)]) [some ⟨false, .ints .u8 (bytesL a0)⟩], bT] [] [] (nd (spec.GetNum.spec K (bytesL a0) 0 _ e1) (n0 (nd (rfl : (bytesL a0).length = (bytesL a0).length) (nd (nf c1) (nd (spec.GetNum.spec K (bytesL a0) x1.2.1 _ e2) (n0 (nd (rfl : (bytesL a0).length = (bytesL a0).length) (nd (nf c2) (nd (spec.GetNum.spec K (bytesL a0) x2.2.1 _ e3) (n0 (nd (rfl : (bytesL a0).length = (bytesL a0).length) (nd (nt c3) trivial)))))))))))) (by kernel_rfl)
    · obtain rfl := Option.some.inj h
      exact Den.Spec.of_walk tab mixed Tryz.func64 (by kernel_rfl) [.call [] [(0, true)] (.tup [.c (.int .i64 x1.1), .c (.int .i64 x1.2.1), .c (.bool x1.2.2)]) [some ⟨false, .ints .u8 (bytesL a0)⟩], bF, .call [] [(0, true)] (.tup [.c (.int .i64 x2.1), .c (.int .i64 x2.2.1), .c (.bool x2.2.2)]) [some ⟨false, .ints .u8 (bytesL a0)⟩], bT] [] [] (nd (spec.GetNum.spec K (bytesL a0) 0 _ e1) (n0 (nd (rfl : (bytesL a0).length = (bytesL a0).length) (nd (nf c1) (nd (spec.GetNum.spec K (bytesL a0) x1.2.1 _ e2) (n0 (nd (rfl : (bytesL a0).length = (bytesL a0).length) (nd (nt c2) trivial)))))))) (by kernel_rfl)
  · obtain rfl := Option.some.inj h
    exact Den.Spec.of_walk tab mixed Tryz.func64 (by kernel_rfl) [.call [] [(0, true)] (.tup [.c (.int .i64 x1.1), .c (.int .i64 x1.2.1), .c (.bool x1.2.2)]) [some ⟨false, .ints .u8 (bytesL a0)⟩], bT] [] [] (nd (spec.GetNum.spec K (bytesL a0) 0 _ e1) (n0 (nd (rfl : (bytesL a0).length = (bytesL a0).length) (nd (nt c1) trivial)))) (by kernel_rfl)
def spec.l1Max.f (a0 : Int) (a1 : Int) : Option (Int) :=
  cond (decide (a0 > a1)) (some a0) (some a1)
theorem spec.l1Max.spec (a0 : Int) (a1 : Int) (o : Int) (h : spec.l1Max.f a0 a1 = some o) : Den.Spec Tryz.prog 66 [one (.int .i64 a0), one (.int .i64 a1)] [] (one (.int .i64 o)) [] := by
  unfold spec.l1Max.f at h
  rcases br_cases h with ⟨c1, h⟩ | ⟨c1, h⟩
  · obtain rfl := Option.some.inj h
    exact Den.Spec.of_walk tab mixed Tryz.func66 (by kernel_rfl) [bT] [] [] (nd c1 trivial) (by kernel_rfl)
  · obtain rfl := Option.some.inj h
    exact Den.Spec.of_walk tab mixed Tryz.func66 (by kernel_rfl) [bF] [] [] (nd c1 trivial) (by kernel_rfl)
def spec.l1Min.f (a0 : Int) (a1 : Int) : Option (Int) :=
  cond (decide (a0 < a1)) (some a0) (some a1)
theorem spec.l1Min.spec (a0 : Int) (a1 : Int) (o : Int) (h : spec.l1Min.f a0 a1 = some o) : Den.Spec Tryz.prog 65 [one (.int .i64 a0), one (.int .i64 a1)] [] (one (.int .i64 o)) [] := by
  unfold spec.l1Min.f at h
  rcases br_cases h with ⟨c1, h⟩ | ⟨c1, h⟩
  · obtain rfl := Option.some.inj h
    exact Den.Spec.of_walk tab mixed Tryz.func65 (by kernel_rfl) [bT] [] [] (nd c1 trivial) (by kernel_rfl)
  · obtain rfl := Option.some.inj h
    exact Den.Spec.of_walk tab mixed Tryz.func65 (by kernel_rfl) [bF] [] [] (nd c1 trivial) (by kernel_rfl)
def spec.Mount.l1.f (K : Nat) (a0 : List ByteArray) (a1 : List Int) : Nat → (List Int) → Int → (List Int) → Int → Option ((List Int) × Int)
  | 0, _, _, _, _ => none
  | k + 1, v32_0, v32_1, v32_2, v32_3 =>
    cond (decide (v32_3 < (a0.length : Int))) (ck (0 ≤ v32_3) (Option.bind (spec.RecRead.f K (a0.getD v32_3.toNat noVal)) fun x1 => cond (x1.2.2.2) (ck (0 ≤ x1.1) (ck (x1.1 < (v32_2.length : Int)) (cond (decide (x1.2.1 > (v32_2.getD x1.1.toNat 0))) (ck (x1.1 < (v32_0.length : Int)) (Option.bind (spec.l1Max.f v32_1 (w64 (x1.2.1 + 1))) fun x2 => Option.bind (spec.l1Min.f x2 1000000000) fun x3 => spec.Mount.l1.f K a0 a1 k (v32_0.set x1.1.toNat v32_3) x3 (v32_2.set x1.1.toNat x1.2.1) (w64 (v32_3 + 1)))) (Option.bind (spec.l1Max.f v32_1 (w64 (x1.2.1 + 1))) fun x2 => Option.bind (spec.l1Min.f x2 1000000000) fun x3 => spec.Mount.l1.f K a0 a1 k v32_0 x3 v32_2 (w64 (v32_3 + 1)))))) (spec.Mount.l1.f K a0 a1 k v32_0 v32_1 v32_2 (w64 (v32_3 + 1))))) (some (v32_0, v32_1))
def spec.Mount.l1.s (K : Nat) (a0 : List ByteArray) (a1 : List Int) (v32_0 : List Int) (v32_1 : Int) (v32_2 : List Int) (v32_3 : Int) : St := mkSt 73 [(1, one (.ptr 2 0 0)), (2, one (.ptr 3 0 0)), (3, one (.ptr 7 0 0)), (4, one (.sl 11 0 v32_2.length)), (6, one (.int .i64 v32_3))] [some ⟨false, .strs a0⟩, some ⟨false, .ints .i64 a1⟩, some ⟨true, .cells [.sl 0 0 a0.length, .sl 1 0 a1.length]⟩, some ⟨true, .cells [.sl 4 0 0, .sl 5 0 0, .sl 6 0 0, .int .i64 0]⟩, some ⟨true, .strs []⟩, some ⟨true, .ints .i64 []⟩, some ⟨true, .ints .i64 []⟩, some ⟨true, .cells [.sl 8 0 (([] ++ a0).length), .sl 9 0 (([] ++ a1).length), .sl 10 0 v32_0.length, .int .i64 v32_1]⟩, some ⟨true, .strs ([] ++ a0)⟩, some ⟨true, .ints .i64 ([] ++ a1)⟩, some ⟨true, .ints .i64 v32_0⟩, some ⟨true, .ints .i64 v32_2⟩]
def spec.Mount.l1.e0 (K : Nat) (a0 : List ByteArray) (a1 : List Int) (o : (List Int) × Int) : St := mkSt 73 [(2, one (.ptr 2 0 0)), (3, one (.ptr 6 0 0))] [some ⟨false, .strs a0⟩, some ⟨false, .ints .i64 a1⟩, some ⟨true, .cells [.sl 3 0 0, .sl 4 0 0, .sl 5 0 0, .int .i64 0]⟩, some ⟨true, .strs []⟩, some ⟨true, .ints .i64 []⟩, some ⟨true, .ints .i64 []⟩, some ⟨true, .cells [.sl 7 0 (([] ++ a0).length), .sl 8 0 (([] ++ a1).length), .sl 9 0 o.1.length, .int .i64 o.2]⟩, some ⟨true, .strs ([] ++ a0)⟩, some ⟨true, .ints .i64 ([] ++ a1)⟩, some ⟨true, .ints .i64 o.1⟩]
def spec.Mount.l1.x (K : Nat) (a0 : List ByteArray) (a1 : List Int) : ((List Int) × Int) → AExit × St := fun o => (.exit 2, spec.Mount.l1.e0 K a0 a1 o)
theorem spec.Mount.l1.spec (K : Nat) (a0 : List ByteArray) (a1 : List Int) : ∀ (k : Nat) (v32_0 : List Int) (v32_1 : Int) (v32_2 : List Int) (v32_3 : Int) (o : (List Int) × Int), spec.Mount.l1.f K a0 a1 k v32_0 v32_1 v32_2 v32_3 = some o → LoopSpec Tryz.prog 2 (loopN Tryz.f20 1) (spec.Mount.l1.s K a0 a1 v32_0 v32_1 v32_2 v32_3) (spec.Mount.l1.x K a0 a1 o).1 (spec.Mount.l1.x K a0 a1 o).2
  | 0, _, _, _, _, _, h => by cases h
  | k + 1, v32_0, v32_1, v32_2, v32_3, o, h => by
    unfold spec.Mount.l1.f at h
    rcases br_cases h with ⟨c1, h⟩ | ⟨c1, h⟩
    · obtain ⟨p1, h⟩ := ck_some h
      obtain ⟨x1, e1, h⟩ := bind_some h
      rcases br_cases h with ⟨c2, h⟩ | ⟨c2, h⟩
      · obtain ⟨p2, h⟩ := ck_some h
        obtain ⟨p3, h⟩ := ck_some h
        rcases br_cases h with ⟨c3, h⟩ | ⟨c3, h⟩
        · obtain ⟨p4, h⟩ := ck_some h
          obtain ⟨x2, e2, h⟩ := bind_some h
          obtain ⟨x3, e3, h⟩ := bind_some h
          exact .of_step tab mixed [bT, .call [] [] (.tup [.agg [.int .i64 x1.1, .int .i64 x1.2.1, .str x1.2.2.1], .c (.bool x1.2.2.2)]) [], bF, bT, .call [] [] (one (.int .i64 x2)) [], .call [] [] (one (.int .i64 x3)) []] [] [1, 2, 3, 4, 6] [0, 1, 2, 3, 4, 5, 6, 7, 8, 9, 10, 11] (s1 := mkSt 73 [(1, one (.ptr 2 0 0)), (2, one (.ptr 3 0 0)), (3, one (.ptr 7 0 0)), (4, one (.sl 11 0 v32_2.length)), (6, one (.int .i64 (w64 (v32_3 + 1))))] [some ⟨false, .strs a0⟩, some ⟨false, .ints .i64 a1⟩, some ⟨true, .cells [.sl 0 0 a0.length, .sl 1 0 a1.length]⟩, some ⟨true, .cells [.sl 4 0 0, .sl 5 0 0, .sl 6 0 0, .int .i64 0]⟩, some ⟨true, .strs []⟩, some ⟨true, .ints .i64 []⟩, some ⟨true, .ints .i64 []⟩, some ⟨true, .cells [.sl 8 0 (([] ++ a0).length), .sl 9 0 (([] ++ a1).length), .sl 10 0 v32_0.length, .int .i64 x3]⟩, some ⟨true, .strs ([] ++ a0)⟩, some ⟨true, .ints .i64 ([] ++ a1)⟩, some ⟨true, .ints .i64 (v32_0.set x1.1.toNat v32_3)⟩, some ⟨true, .ints .i64 (v32_2.set x1.1.toNat x1.2.1)⟩]) (nd c1 (nd p1 (nd (of_decide_eq_true c1) (nd (tn p1 (of_decide_eq_true c1)) (nd (spec.RecRead.spec K (a0.getD v32_3.toNat noVal) _ e1) (nd (nf c2) (nd p2 (nd p3 (nd (tn p2 p3) (nd c3 (nd p2 (nd p3 (nd (tn p2 p3) (nd p2 (nd p4 (nd (tn p2 p4) (nd (spec.l1Max.spec v32_1 (w64 (x1.2.1 + 1)) _ e2) (nd (spec.l1Min.spec x2 1000000000 _ e3) trivial)))))))))))))))))) (by kernel_rfl) (LoopSpec.eqs (spec.Mount.l1.spec K a0 a1 k (v32_0.set x1.1.toNat v32_3) x3 (v32_2.set x1.1.toNat x1.2.1) (w64 (v32_3 + 1)) _ h) (by simp only [spec.Mount.l1.s, List.length_set, overL_length] : spec.Mount.l1.s K a0 a1 (v32_0.set x1.1.toNat v32_3) x3 (v32_2.set x1.1.toNat x1.2.1) (w64 (v32_3 + 1)) = mkSt 73 [(1, one (.ptr 2 0 0)), (2, one (.ptr 3 0 0)), (3, one (.ptr 7 0 0)), (4, one (.sl 11 0 v32_2.length)), (6, one (.int .i64 (w64 (v32_3 + 1))))] [some ⟨false, .strs a0⟩, some ⟨false, .ints .i64 a1⟩, some ⟨true, .cells [.sl 0 0 a0.length, .sl 1 0 a1.length]⟩, some ⟨true, .cells [.sl 4 0 0, .sl 5 0 0, .sl 6 0 0, .int .i64 0]⟩, some ⟨true, .strs []⟩, some ⟨true, .ints .i64 []⟩, some ⟨true, .ints .i64 []⟩, some ⟨true, .cells [.sl 8 0 (([] ++ a0).length), .sl 9 0 (([] ++ a1).length), .sl 10 0 v32_0.length, .int .i64 x3]⟩, some ⟨true, .strs ([] ++ a0)⟩, some ⟨true, .ints .i64 ([] ++ a1)⟩, some ⟨true, .ints .i64 (v32_0.set x1.1.toNat v32_3)⟩, some ⟨true, .ints .i64 (v32_2.set x1.1.toNat x1.2.1)⟩]))
        · obtain ⟨x2, e2, h⟩ := bind_some h
          obtain ⟨x3, e3, h⟩ := bind_some h
          exact .of_step tab mixed [bT, .call [] [] (.tup [.agg [.int .i64 x1.1, .int .i64 x1.2.1, .str x1.2.2.1], .c (.bool x1.2.2.2)]) [], bF, bF, .call [] [] (one (.int .i64 x2)) [], .call [] [] (one (.int .i64 x3)) []] [] [1, 2, 3, 4, 6] [0, 1, 2, 3, 4, 5, 6, 7, 8, 9, 10, 11] (s1 := spec.Mount.l1.s K a0 a1 v32_0 x3 v32_2 (w64 (v32_3 + 1))) (nd c1 (nd p1 (nd (of_decide_eq_true c1) (nd (tn p1 (of_decide_eq_true c1)) (nd (spec.RecRead.spec K (a0.getD v32_3.toNat noVal) _ e1) (nd (nf c2) (nd p2 (nd p3 (nd (tn p2 p3) (nd c3 (nd (spec.l1Max.spec v32_1 (w64 (x1.2.1 + 1)) _ e2) (nd (spec.l1Min.spec x2 1000000000 _ e3) trivial)))))))))))) (by kernel_rfl) (spec.Mount.l1.spec K a0 a1 k v32_0 x3 v32_2 (w64 (v32_3 + 1)) _ h)
      · exact .of_step tab mixed [bT, .call [] [] (.tup [.agg [.int .i64 x1.1, .int .i64 x1.2.1, .str x1.2.2.1], .c (.bool x1.2.2.2)]) [], bT] [] [1, 2, 3, 4, 6] [0, 1, 2, 3, 4, 5, 6, 7, 8, 9, 10, 11] (s1 := spec.Mount.l1.s K a0 a1 v32_0 v32_1 v32_2 (w64 (v32_3 + 1))) (nd c1 (nd p1 (nd (of_decide_eq_true c1) (nd (tn p1 (of_decide_eq_true c1)) (nd (spec.RecRead.spec K (a0.getD v32_3.toNat noVal) _ e1) (nd (nt c2) trivial)))))) (by kernel_rfl) (spec.Mount.l1.spec K a0 a1 k v32_0 v32_1 v32_2 (w64 (v32_3 + 1)) _ h)
    · obtain rfl := Option.some.inj h
      exact .of_done tab mixed [bF] [] [2, 3] [0, 1, 3, 4, 5, 6, 7, 8, 9, 10] rfl (nd c1 trivial) (by kernel_rfl)
def spec.Mount.f (K : Nat) (a0 : List ByteArray) (a1 : List Int) : Option ((List ByteArray) × (List Int) × (List Int) × Int) :=
  Option.bind (spec.ChipOk.f K a0 a1) fun x1 => cond (x1) (Option.bind (spec.l2Copy.f a0 a1) fun x2 => ck ((26 * (8 : Int)) ≤ 70368744177664) (Option.bind (spec.Mount.l0.f a0 a1 K [] 0) fun x3 => Option.bind (spec.Mount.l1.f K a0 a1 K x3 1 (List.replicate 26 (0 : Int)) 0) fun x4 => some ([] ++ a0, [] ++ a1, x4.1, x4.2))) (some ([], [], [], 0))
theorem spec.Mount.spec (K : Nat) (a0 : List ByteArray) (a1 : List Int) (o : (List ByteArray) × (List Int) × (List Int) × Int) (h : spec.Mount.f K a0 a1 = some o) : Den.Spec Tryz.prog 20 [.v (.agg [.sl 0 0 a0.length, .sl 1 0 a1.length])] [some ⟨false, .strs a0⟩, some ⟨false, .ints .i64 a1⟩] (.v (.agg [.sl 2 0 o.1.length, .sl 3 0 o.2.1.length, .sl 4 0 o.2.2.1.length, .int .i64 o.2.2.2])) [some ⟨false, .strs a0⟩, some ⟨false, .ints .i64 a1⟩, some ⟨true, .strs o.1⟩, some ⟨true, .ints .i64 o.2.1⟩, some ⟨true, .ints .i64 o.2.2.1⟩] := by
  unfold spec.Mount.f at h
  obtain ⟨x1, e1, h⟩ := bind_some h
  rcases br_cases h with ⟨c1, h⟩ | ⟨c1, h⟩
  · obtain ⟨x2, e2, h⟩ := bind_some h
    obtain ⟨p1, h⟩ := ck_some h
    obtain ⟨x3, e3, h⟩ := bind_some h
    obtain ⟨x4, e4, h⟩ := bind_some h
    obtain rfl := Option.some.inj h
    exact Den.Spec.of_walk tab mixed Tryz.func20 (by kernel_rfl) [.call [(0, false), (1, false)] [] (one (.bool x1)) [some ⟨false, .strs a0⟩, some ⟨false, .ints .i64 a1⟩], bF, .call [(0, false), (1, false)] [] (.v (.agg [.sl 2 0 (([] ++ a0).length), .sl 3 0 (([] ++ a1).length)])) [some ⟨false, .strs a0⟩, some ⟨false, .ints .i64 a1⟩, some ⟨true, .strs ([] ++ a0)⟩, some ⟨true, .ints .i64 ([] ++ a1)⟩], .loop [] [1, 2, 3, 4, 5] [0, 1, 2, 3, 4, 5, 6, 9, 7, 8, 13, 14] (.exit 0) (spec.Mount.l0.e0 a0 a1 x3), .loop [] [1, 2, 3, 4, 6] [0, 1, 2, 3, 4, 5, 6, 7, 8, 9, 10, 11] (.exit 2) (spec.Mount.l1.e0 K a0 a1 x4)] [] [0, 1, 7, 8, 9] (nd (spec.ChipOk.spec K a0 a1 _ e1) (nd (nf c1) (nd (spec.l2Copy.spec a0 a1 _ e2) (nd (by decide : (0 : Int) ≤ 26) (nd (rfl : (26 : Int) = (26 : Int)) (nd p1 (nd (spec.Mount.l0.spec a0 a1 K [] 0 _ e3) (nd (spec.Mount.l1.spec K a0 a1 K x3 1 (List.replicate 26 (0 : Int)) 0 _ e4) trivial)))))))) (by kernel_rfl)
  · obtain rfl := Option.some.inj h
    exact Den.Spec.of_walk tab mixed Tryz.func20 (by kernel_rfl) [.call [(0, false), (1, false)] [] (one (.bool x1)) [some ⟨false, .strs a0⟩, some ⟨false, .ints .i64 a1⟩], bT] [] [0, 1, 7, 8, 9] (nd (spec.ChipOk.spec K a0 a1 _ e1) (nd (nt c1) trivial)) (by kernel_rfl)
def spec.l1Byte.f (a0 : List Int) (a1 : Int) (a2 : Int) : Option (Int × Int) :=
  cond (decide (a1 < (a0.length : Int))) (ck (0 ≤ a1) (some (bits2 .i64 (· &&& ·) (w64 ((bits2 .i64 (· &&& ·) (bits2 .i64 (· ^^^ ·) ((w64 ((w64 (a2 * 6364136223846793005)) + 1442695040888963407)).fdiv (2 ^ 33)) ((w64 ((w64 (a2 * 6364136223846793005)) + 1442695040888963407)).fdiv (2 ^ 45))) 255) + (w64 (a0.getD a1.toNat 0)))) 255, w64 (a1 + 1)))) (some (bits2 .i64 (· &&& ·) (bits2 .i64 (· ^^^ ·) ((w64 ((w64 (a2 * 6364136223846793005)) + 1442695040888963407)).fdiv (2 ^ 33)) ((w64 ((w64 (a2 * 6364136223846793005)) + 1442695040888963407)).fdiv (2 ^ 45))) 255, a1))
theorem spec.l1Byte.spec (a0 : List Int) (a1 : Int) (a2 : Int) (o : Int × Int) (h : spec.l1Byte.f a0 a1 a2 = some o) : Den.Spec Tryz.prog 86 [one (.ptr 0 0 0)] [some ⟨true, .cells [.sl 1 0 a0.length, .int .i64 a1, .int .i64 a2]⟩, some ⟨false, .ints .u8 a0⟩] (one (.int .i64 o.1)) [some ⟨true, .cells [.sl 1 0 a0.length, .int .i64 o.2, .int .i64 (w64 ((w64 (a2 * 6364136223846793005)) + 1442695040888963407))]⟩, some ⟨false, .ints .u8 a0⟩] := by
  unfold spec.l1Byte.f at h
  rcases br_cases h with ⟨c1, h⟩ | ⟨c1, h⟩
  · obtain ⟨p1, h⟩ := ck_some h
    obtain rfl := Option.some.inj h
    exact Den.Spec.of_walk tab mixed Tryz.func86 (by kernel_rfl) [bT] [] [0, 1] (nd (by decide : (0 : Int) ≤ 33) (nd (by decide : (0 : Int) ≤ 45) (nd c1 (nd p1 (nd (of_decide_eq_true c1) (nd (tn p1 (of_decide_eq_true c1)) trivial)))))) (by kernel_rfl)
  · obtain rfl := Option.some.inj h
    exact Den.Spec.of_walk tab mixed Tryz.func86 (by kernel_rfl) [bF] [] [0, 1] (nd (by decide : (0 : Int) ≤ 33) (nd (by decide : (0 : Int) ≤ 45) (nd c1 trivial))) (by kernel_rfl)
def spec.l1Below.f (a0 : List Int) (a1 : Int) (a2 : Int) (a3 : Int) : Option (Int × Int × Int) :=
  cond (decide (a3 ≤ 0)) (some (0, a1, a2)) (cond (decide (a3 ≤ 256)) (Option.bind (spec.l1Byte.f a0 a1 a2) fun x1 => ck (a3 ≠ 0) (some (x1.1.tmod a3, x1.2, w64 ((w64 (a2 * 6364136223846793005)) + 1442695040888963407)))) (Option.bind (spec.l1Byte.f a0 a1 a2) fun x1 => Option.bind (spec.l1Byte.f a0 x1.2 (w64 ((w64 (a2 * 6364136223846793005)) + 1442695040888963407))) fun x2 => Option.bind (spec.l1Byte.f a0 x2.2 (w64 ((w64 ((w64 ((w64 (a2 * 6364136223846793005)) + 1442695040888963407)) * 6364136223846793005)) + 1442695040888963407))) fun x3 => Option.bind (spec.l1Byte.f a0 x3.2 (w64 ((w64 ((w64 ((w64 ((w64 ((w64 (a2 * 6364136223846793005)) + 1442695040888963407)) * 6364136223846793005)) + 1442695040888963407)) * 6364136223846793005)) + 1442695040888963407))) fun x4 => ck (a3 ≠ 0) (some ((w64 ((w64 ((w64 ((w64 (x1.1 * 16777216)) + (w64 (x2.1 * 65536)))) + (w64 (x3.1 * 256)))) + x4.1)).tmod a3, x4.2, w64 ((w64 ((w64 ((w64 ((w64 ((w64 ((w64 ((w64 (a2 * 6364136223846793005)) + 1442695040888963407)) * 6364136223846793005)) + 1442695040888963407)) * 6364136223846793005)) + 1442695040888963407)) * 6364136223846793005)) + 1442695040888963407)))))
theorem spec.l1Below.spec (a0 : List Int) (a1 : Int) (a2 : Int) (a3 : Int) (o : Int × Int × Int) (h : spec.l1Below.f a0 a1 a2 a3 = some o) : Den.Spec Tryz.prog 49 [one (.ptr 0 0 0), one (.int .i64 a3)] [some ⟨true, .cells [.sl 1 0 a0.length, .int .i64 a1, .int .i64 a2]⟩, some ⟨false, .ints .u8 a0⟩] (one (.int .i64 o.1)) [some ⟨true, .cells [.sl 1 0 a0.length, .int .i64 o.2.1, .int .i64 o.2.2]⟩, some ⟨false, .ints .u8 a0⟩] := by
  unfold spec.l1Below.f at h
  rcases br_cases h with ⟨c1, h⟩ | ⟨c1, h⟩
  · obtain rfl := Option.some.inj h
    exact Den.Spec.of_walk tab mixed Tryz.func49 (by kernel_rfl) [bT] [] [0, 1] (nd c1 trivial) (by kernel_rfl)
  · rcases br_cases h with ⟨c2, h⟩ | ⟨c2, h⟩
    · obtain ⟨x1, e1, h⟩ := bind_some h
      obtain ⟨p1, h⟩ := ck_some h
      obtain rfl := Option.some.inj h
      exact Den.Spec.of_walk tab mixed Tryz.func49 (by kernel_rfl) [bF, bT, .call [(0, true), (1, false)] [] (one (.int .i64 x1.1)) [some ⟨true, .cells [.sl 1 0 a0.length, .int .i64 x1.2, .int .i64 (w64 ((w64 (a2 * 6364136223846793005)) + 1442695040888963407))]⟩, some ⟨false, .ints .u8 a0⟩]] [] [0, 1] (nd c1 (nd c2 (nd (spec.l1Byte.spec a0 a1 a2 _ e1) (nd p1 trivial)))) (by kernel_rfl)
    · obtain ⟨x1, e1, h⟩ := bind_some h
      obtain ⟨x2, e2, h⟩ := bind_some h
      obtain ⟨x3, e3, h⟩ := bind_some h
      obtain ⟨x4, e4, h⟩ := bind_some h
      obtain ⟨p1, h⟩ := ck_some h
      obtain rfl := Option.some.inj h
      exact Den.Spec.of_walk tab mixed Tryz.func49 (by kernel_rfl) [bF, bF, .call [(0, true), (1, false)] [] (one (.int .i64 x1.1)) [some ⟨true, .cells [.sl 1 0 a0.length, .int .i64 x1.2, .int .i64 (w64 ((w64 (a2 * 6364136223846793005)) + 1442695040888963407))]⟩, some ⟨false, .ints .u8 a0⟩], .call [(0, true), (1, false)] [] (one (.int .i64 x2.1)) [some ⟨true, .cells [.sl 1 0 a0.length, .int .i64 x2.2, .int .i64 (w64 ((w64 ((w64 ((w64 (a2 * 6364136223846793005)) + 1442695040888963407)) * 6364136223846793005)) + 1442695040888963407))]⟩, some ⟨false, .ints .u8 a0⟩], .call [(0, true), (1, false)] [] (one (.int .i64 x3.1)) [some ⟨true, .cells [.sl 1 0 a0.length, .int .i64 x3.2, .int .i64 (w64 ((w64 ((w64 ((w64 ((w64 ((w64 (a2 * 6364136223846793005)) + 1442695040888963407)) * 6364136223846793005)) + 1442695040888963407)) * 6364136223846793005)) + 1442695040888963407))]⟩, some ⟨false, .ints .u8 a0⟩], .call [(0, true), (1, false)] [] (one (.int .i64 x4.1)) [some ⟨true, .cells [.sl 1 0 a0.length, .int .i64 x4.2, .int .i64 (w64 ((w64 ((w64 ((w64 ((w64 ((w64 ((w64 ((w64 (a2 * 6364136223846793005)) + 1442695040888963407)) * 6364136223846793005)) + 1442695040888963407)) * 6364136223846793005)) + 1442695040888963407)) * 6364136223846793005)) + 1442695040888963407))]⟩, some ⟨false, .ints .u8 a0⟩]] [] [0, 1] (nd c1 (nd c2 (nd (spec.l1Byte.spec a0 a1 a2 _ e1) (nd (spec.l1Byte.spec a0 x1.2 (w64 ((w64 (a2 * 6364136223846793005)) + 1442695040888963407)) _ e2) (nd (spec.l1Byte.spec a0 x2.2 (w64 ((w64 ((w64 ((w64 (a2 * 6364136223846793005)) + 1442695040888963407)) * 6364136223846793005)) + 1442695040888963407)) _ e3) (nd (spec.l1Byte.spec a0 x3.2 (w64 ((w64 ((w64 ((w64 ((w64 ((w64 (a2 * 6364136223846793005)) + 1442695040888963407)) * 6364136223846793005)) + 1442695040888963407)) * 6364136223846793005)) + 1442695040888963407)) _ e4) (nd p1 trivial))))))) (by kernel_rfl)
def spec.l1Once.f (a0 : List Int) (a1 : Int) (a2 : Int) (a3 : Int) : Option (Bool × Int × Int) :=
  Option.bind (spec.l1Below.f a0 a1 a2 a3) fun x1 => some (x1.1 == 0, x1.2.1, x1.2.2)
theorem spec.l1Once.spec (a0 : List Int) (a1 : Int) (a2 : Int) (a3 : Int) (o : Bool × Int × Int) (h : spec.l1Once.f a0 a1 a2 a3 = some o) : Den.Spec Tryz.prog 103 [one (.ptr 0 0 0), one (.int .i64 a3)] [some ⟨true, .cells [.sl 1 0 a0.length, .int .i64 a1, .int .i64 a2]⟩, some ⟨false, .ints .u8 a0⟩] (one (.bool o.1)) [some ⟨true, .cells [.sl 1 0 a0.length, .int .i64 o.2.1, .int .i64 o.2.2]⟩, some ⟨false, .ints .u8 a0⟩] := by
  unfold spec.l1Once.f at h
  obtain ⟨x1, e1, h⟩ := bind_some h
  obtain rfl := Option.some.inj h
  exact Den.Spec.of_walk tab mixed Tryz.func103 (by kernel_rfl) [.call [(0, true), (1, false)] [] (one (.int .i64 x1.1)) [some ⟨true, .cells [.sl 1 0 a0.length, .int .i64 x1.2.1, .int .i64 x1.2.2]⟩, some ⟨false, .ints .u8 a0⟩]] [] [0, 1] (nd (spec.l1Below.spec a0 a1 a2 a3 _ e1) trivial) (by kernel_rfl)
def spec.l1Pick.f (a0 : List Int) (a1 : Int) (a2 : Int) (a3 : List ByteArray) : Option (ByteArray × Int × Int) :=
  Option.bind (spec.l1Below.f a0 a1 a2 (a3.length : Int)) fun x1 => ck (0 ≤ x1.1) (ck (x1.1 < (a3.length : Int)) (some (a3.getD x1.1.toNat noVal, x1.2.1, x1.2.2)))
theorem spec.l1Pick.spec (a0 : List Int) (a1 : Int) (a2 : Int) (a3 : List ByteArray) (o : ByteArray × Int × Int) (h : spec.l1Pick.f a0 a1 a2 a3 = some o) : Den.Spec Tryz.prog 50 [one (.ptr 0 0 0), one (.sl 2 0 a3.length)] [some ⟨true, .cells [.sl 1 0 a0.length, .int .i64 a1, .int .i64 a2]⟩, some ⟨false, .ints .u8 a0⟩, some ⟨false, .strs a3⟩] (one (.str o.1)) [some ⟨true, .cells [.sl 1 0 a0.length, .int .i64 o.2.1, .int .i64 o.2.2]⟩, some ⟨false, .ints .u8 a0⟩, some ⟨false, .strs a3⟩] := by
  unfold spec.l1Pick.f at h
  obtain ⟨x1, e1, h⟩ := bind_some h
  obtain ⟨p1, h⟩ := ck_some h
  obtain ⟨p2, h⟩ := ck_some h
  obtain rfl := Option.some.inj h
  exact Den.Spec.of_walk tab mixed Tryz.func50 (by kernel_rfl) [.call [(0, true), (1, false)] [] (one (.int .i64 x1.1)) [some ⟨true, .cells [.sl 1 0 a0.length, .int .i64 x1.2.1, .int .i64 x1.2.2]⟩, some ⟨false, .ints .u8 a0⟩]] [] [0, 1, 2] (nd (spec.l1Below.spec a0 a1 a2 (a3.length : Int) _ e1) (nd p1 (nd p2 (nd (tn p1 p2) trivial)))) (by kernel_rfl)
def spec.l4Ints.l0.f (a0 : List Int) (a1 : List Int) : Nat → Int → Option (Unit ⊕ Unit)
  | 0, _ => none
  | k + 1, v40_0 =>
    cond (decide (v40_0 < (a0.length : Int))) (cond (decide (v40_0 < (a1.length : Int))) (ck (0 ≤ v40_0) (cond ((a0.getD v40_0.toNat 0) != (a1.getD v40_0.toNat 0)) (some (.inl ())) (spec.l4Ints.l0.f a0 a1 k (w64 (v40_0 + 1))))) (some (.inr (())))) (some (.inr (())))
def spec.l4Ints.l0.s (a0 : List Int) (a1 : List Int) (v40_0 : Int) : St := mkSt 32 [(0, one (.sl 0 0 a0.length)), (1, one (.sl 1 0 a1.length)), (5, one (.int .i64 v40_0))] [some ⟨false, .ints .i64 a0⟩, some ⟨false, .ints .i64 a1⟩]
def spec.l4Ints.l0.e0 (a0 : List Int) (a1 : List Int) (o : Unit) : St := mkSt 32 [(4, one (.bool false))] [some ⟨false, .ints .i64 a0⟩, some ⟨false, .ints .i64 a1⟩]
def spec.l4Ints.l0.e1 (a0 : List Int) (a1 : List Int) (o : Unit) : St := mkSt 32 [(0, one (.sl 0 0 a0.length)), (1, one (.sl 1 0 a1.length))] [some ⟨false, .ints .i64 a0⟩, some ⟨false, .ints .i64 a1⟩]
def spec.l4Ints.l0.x (a0 : List Int) (a1 : List Int) : (Unit ⊕ Unit) → AExit × St := Sum.elim (fun o => (.ret, spec.l4Ints.l0.e0 a0 a1 o)) (fun o => (.exit 0, spec.l4Ints.l0.e1 a0 a1 o))
theorem spec.l4Ints.l0.spec (a0 : List Int) (a1 : List Int) : ∀ (k : Nat) (v40_0 : Int) (o : Unit ⊕ Unit), spec.l4Ints.l0.f a0 a1 k v40_0 = some o → LoopSpec Tryz.prog 2 (loopN Tryz.f88 0) (spec.l4Ints.l0.s a0 a1 v40_0) (spec.l4Ints.l0.x a0 a1 o).1 (spec.l4Ints.l0.x a0 a1 o).2
  | 0, _, _, h => by cases h
  | k + 1, v40_0, o, h => by
    unfold spec.l4Ints.l0.f at h
    rcases br_cases h with ⟨c1, h⟩ | ⟨c1, h⟩
    · rcases br_cases h with ⟨c2, h⟩ | ⟨c2, h⟩
      · obtain ⟨p1, h⟩ := ck_some h
        rcases br_cases h with ⟨c3, h⟩ | ⟨c3, h⟩
        · obtain rfl := Option.some.inj h
          exact .of_done tab mixed [bT, bT, bT, bT, bT, bT, bT] [] [4] [0, 1] rfl (nd c1 (nd c1 (nd c1 (nd c1 (nd c1 (nd c2 (nd p1 (nd (of_decide_eq_true c1) (nd (tn p1 (of_decide_eq_true c1)) (nd p1 (nd (of_decide_eq_true c2) (nd (tn p1 (of_decide_eq_true c2)) (nd c3 trivial))))))))))))) (by kernel_rfl)
        · exact .of_step tab mixed [bT, bT, bT, bT, bT, bT, bF] [] [0, 1, 5] [0, 1] (s1 := spec.l4Ints.l0.s a0 a1 (w64 (v40_0 + 1))) (nd c1 (nd c1 (nd c1 (nd c1 (nd c1 (nd c2 (nd p1 (nd (of_decide_eq_true c1) (nd (tn p1 (of_decide_eq_true c1)) (nd p1 (nd (of_decide_eq_true c2) (nd (tn p1 (of_decide_eq_true c2)) (nd c3 trivial))))))))))))) (by kernel_rfl) (spec.l4Ints.l0.spec a0 a1 k (w64 (v40_0 + 1)) _ h)
      · obtain rfl := Option.some.inj h
        exact .of_done tab mixed [bT, bT, bT, bT, bT, bF] [] [0, 1] [0, 1] rfl (nd c1 (nd c1 (nd c1 (nd c1 (nd c1 (nd c2 trivial)))))) (by kernel_rfl)
    · obtain rfl := Option.some.inj h
      exact .of_done tab mixed [bF, bF, bF, bF, bF, bF] [] [0, 1] [0, 1] rfl (nd c1 (nd c1 (nd c1 (nd c1 (nd c1 (nd ff trivial)))))) (by kernel_rfl)
def spec.l4Ints.f (K : Nat) (a0 : List Int) (a1 : List Int) : Option (Bool) :=
  Option.bind (spec.l4Ints.l0.f a0 a1 K 0) fun x1 => (Sum.elim (fun x1 => some false) (fun x1 => some ((a0.length : Int) == (a1.length : Int)))) x1
theorem spec.l4Ints.spec (K : Nat) (a0 : List Int) (a1 : List Int) (o : Bool) (h : spec.l4Ints.f K a0 a1 = some o) : Den.Spec Tryz.prog 88 [one (.sl 0 0 a0.length), one (.sl 1 0 a1.length)] [some ⟨false, .ints .i64 a0⟩, some ⟨false, .ints .i64 a1⟩] (one (.bool o)) [some ⟨false, .ints .i64 a0⟩, some ⟨false, .ints .i64 a1⟩] := by
  unfold spec.l4Ints.f at h
  obtain ⟨x1, e1, h⟩ := bind_some h
  rcases x1 with x1 | x1
  · obtain rfl := Option.some.inj h
    exact Den.Spec.of_walk tab mixed Tryz.func88 (by kernel_rfl) [.loop [] [0, 1, 5] [0, 1] (.ret) (spec.l4Ints.l0.e0 a0 a1 x1)] [] [0, 1] (nd (spec.l4Ints.l0.spec a0 a1 K 0 _ e1) trivial) (by kernel_rfl)
  · obtain rfl := Option.some.inj h
    exact Den.Spec.of_walk tab mixed Tryz.func88 (by kernel_rfl) [.loop [] [0, 1, 5] [0, 1] (.exit 0) (spec.l4Ints.l0.e1 a0 a1 x1)] [] [0, 1] (nd (spec.l4Ints.l0.spec a0 a1 K 0 _ e1) trivial) (by kernel_rfl)
def spec.FtlOk.f (K : Nat) (a0 : List ByteArray) (a1 : List Int) (a2 : List Int) (a3 : Int) : Option (Bool) :=
  Option.bind (spec.Mount.f K a0 a1) fun x1 => Option.bind (spec.ChipOk.f K a0 a1) fun x2 => cond (x2) (Option.bind (spec.l4Ints.f K x1.2.2.1 a2) fun x3 => cond (x3) (some (x1.2.2.2 == a3)) (some false)) (some false)
theorem spec.FtlOk.spec (K : Nat) (a0 : List ByteArray) (a1 : List Int) (a2 : List Int) (a3 : Int) (o : Bool) (h : spec.FtlOk.f K a0 a1 a2 a3 = some o) : Den.Spec Tryz.prog 58 [.v (.agg [.sl 0 0 a0.length, .sl 1 0 a1.length, .sl 2 0 a2.length, .int .i64 a3])] [some ⟨false, .strs a0⟩, some ⟨false, .ints .i64 a1⟩, some ⟨false, .ints .i64 a2⟩] (one (.bool o)) [some ⟨false, .strs a0⟩, some ⟨false, .ints .i64 a1⟩, some ⟨false, .ints .i64 a2⟩] := by
  unfold spec.FtlOk.f at h
  obtain ⟨x1, e1, h⟩ := bind_some h
  obtain ⟨x2, e2, h⟩ := bind_some h
  rcases br_cases h with ⟨c1, h⟩ | ⟨c1, h⟩
  · obtain ⟨x3, e3, h⟩ := bind_some h
    rcases br_cases h with ⟨c2, h⟩ | ⟨c2, h⟩
    · obtain rfl := Option.some.inj h
      exact Den.Spec.of_walk tab mixed Tryz.func58 (by kernel_rfl) [.call [(0, false), (1, false)] [] (.v (.agg [.sl 2 0 x1.1.length, .sl 3 0 x1.2.1.length, .sl 4 0 x1.2.2.1.length, .int .i64 x1.2.2.2])) [some ⟨false, .strs a0⟩, some ⟨false, .ints .i64 a1⟩, some ⟨true, .strs x1.1⟩, some ⟨true, .ints .i64 x1.2.1⟩, some ⟨true, .ints .i64 x1.2.2.1⟩], .call [(0, false), (1, false)] [] (one (.bool x2)) [some ⟨false, .strs a0⟩, some ⟨false, .ints .i64 a1⟩], bT, bT, bT, bT, bT, .call [] [(0, true), (1, true)] (one (.bool x3)) [some ⟨false, .ints .i64 x1.2.2.1⟩, some ⟨false, .ints .i64 a2⟩], bT, bT, bT, bT, bT, bT, bT] [] [0, 1, 2] (nd (spec.Mount.spec K a0 a1 _ e1) (nd (spec.ChipOk.spec K a0 a1 _ e2) (nd c1 (nd c1 (nd c1 (nd c1 (nd c1 (nd (spec.l4Ints.spec K x1.2.2.1 a2 _ e3) (n0 (nl x1.2.2.1 (n0 (nl a2 (nd c1 (nd c2 (nd c2 (nd c2 (nd c2 (nd c2 (nd c2 trivial))))))))))))))))))) (by kernel_rfl)
    · obtain rfl := Option.some.inj h
      exact Den.Spec.of_walk tab mixed Tryz.func58 (by kernel_rfl) [.call [(0, false), (1, false)] [] (.v (.agg [.sl 2 0 x1.1.length, .sl 3 0 x1.2.1.length, .sl 4 0 x1.2.2.1.length, .int .i64 x1.2.2.2])) [some ⟨false, .strs a0⟩, some ⟨false, .ints .i64 a1⟩, some ⟨true, .strs x1.1⟩, some ⟨true, .ints .i64 x1.2.1⟩, some ⟨true, .ints .i64 x1.2.2.1⟩], .call [(0, false), (1, false)] [] (one (.bool x2)) [some ⟨false, .strs a0⟩, some ⟨false, .ints .i64 a1⟩], bT, bT, bT, bT, bT, .call [] [(0, true), (1, true)] (one (.bool x3)) [some ⟨false, .ints .i64 x1.2.2.1⟩, some ⟨false, .ints .i64 a2⟩], bT, bF, bF, bF, bF, bF, bF] [] [0, 1, 2] (nd (spec.Mount.spec K a0 a1 _ e1) (nd (spec.ChipOk.spec K a0 a1 _ e2) (nd c1 (nd c1 (nd c1 (nd c1 (nd c1 (nd (spec.l4Ints.spec K x1.2.2.1 a2 _ e3) (n0 (nl x1.2.2.1 (n0 (nl a2 (nd c1 (nd c2 (nd c2 (nd c2 (nd c2 (nd c2 (nd c2 trivial))))))))))))))))))) (by kernel_rfl)
  · obtain rfl := Option.some.inj h
    exact Den.Spec.of_walk tab mixed Tryz.func58 (by kernel_rfl) [.call [(0, false), (1, false)] [] (.v (.agg [.sl 2 0 x1.1.length, .sl 3 0 x1.2.1.length, .sl 4 0 x1.2.2.1.length, .int .i64 x1.2.2.2])) [some ⟨false, .strs a0⟩, some ⟨false, .ints .i64 a1⟩, some ⟨true, .strs x1.1⟩, some ⟨true, .ints .i64 x1.2.1⟩, some ⟨true, .ints .i64 x1.2.2.1⟩], .call [(0, false), (1, false)] [] (one (.bool x2)) [some ⟨false, .strs a0⟩, some ⟨false, .ints .i64 a1⟩], bF, bF, bF, bF, bF, bF, bF, bF, bF, bF, bF, bF] [] [0, 1, 2] (nd (spec.Mount.spec K a0 a1 _ e1) (nd (spec.ChipOk.spec K a0 a1 _ e2) (nd c1 (nd c1 (nd c1 (nd c1 (nd c1 (nd c1 (nd ff (nd ff (nd ff (nd ff (nd ff (nd ff trivial)))))))))))))) (by kernel_rfl)
def spec.l4Copy.f (a0 : List ByteArray) (a1 : List Int) (a2 : List Int) (a3 : Int) : Option (Unit) :=
  Option.bind (spec.l2Copy.f a0 a1) fun x1 => ck (([] ++ a2).length * 8 ≤ 70368744177664) (some ())
theorem spec.l4Copy.spec (a0 : List ByteArray) (a1 : List Int) (a2 : List Int) (a3 : Int) (o : Unit) (h : spec.l4Copy.f a0 a1 a2 a3 = some o) : Den.Spec Tryz.prog 74 [.v (.agg [.sl 0 0 a0.length, .sl 1 0 a1.length, .sl 2 0 a2.length, .int .i64 a3])] [some ⟨false, .strs a0⟩, some ⟨false, .ints .i64 a1⟩, some ⟨false, .ints .i64 a2⟩] (.v (.agg [.sl 3 0 (([] ++ a0).length), .sl 4 0 (([] ++ a1).length), .sl 5 0 (([] ++ a2).length), .int .i64 a3])) [some ⟨false, .strs a0⟩, some ⟨false, .ints .i64 a1⟩, some ⟨false, .ints .i64 a2⟩, some ⟨true, .strs ([] ++ a0)⟩, some ⟨true, .ints .i64 ([] ++ a1)⟩, some ⟨true, .ints .i64 ([] ++ a2)⟩] := by
  unfold spec.l4Copy.f at h
  obtain ⟨x1, e1, h⟩ := bind_some h
  obtain ⟨p1, h⟩ := ck_some h
  obtain rfl := Option.some.inj h
  exact Den.Spec.of_walk tab mixed Tryz.func74 (by kernel_rfl) [.call [(0, false), (1, false)] [] (.v (.agg [.sl 2 0 (([] ++ a0).length), .sl 3 0 (([] ++ a1).length)])) [some ⟨false, .strs a0⟩, some ⟨false, .ints .i64 a1⟩, some ⟨true, .strs ([] ++ a0)⟩, some ⟨true, .ints .i64 ([] ++ a1)⟩], bT] [] [0, 1, 2, 24, 25, 56] (nd (spec.l2Copy.spec a0 a1 _ e1) (n0 (nn 0 (nd p1 (n0 (nl a2 trivial)))))) (by kernel_rfl)
def spec.l4Clear.l0.f (a0 : List ByteArray) (a1 : List Int) (a2 : Int) : Nat → Int → Int → Int → Option (Int × Int)
  | 0, _, _, _ => none
  | k + 1, v47_0, v47_1, v47_2 =>
    cond (decide (v47_2 < 6)) (ck (0 ≤ (w64 ((w64 (a2 * 6)) + v47_2))) (ck ((w64 ((w64 (a2 * 6)) + v47_2)) < (a0.length : Int)) (cond (strEq (a0.getD ((w64 ((w64 (a2 * 6)) + v47_2)).toNat) noVal) noVal) (spec.l4Clear.l0.f a0 a1 a2 k (w64 (v47_0 + 1)) (w64 (v47_1 + 1)) (w64 (v47_2 + 1))) (spec.l4Clear.l0.f a0 a1 a2 k v47_0 0 (w64 (v47_2 + 1)))))) (some (v47_0, v47_1))
def spec.l4Clear.l0.s (a0 : List ByteArray) (a1 : List Int) (a2 : Int) (v47_0 : Int) (v47_1 : Int) (v47_2 : Int) : St := mkSt 28 [(1, one (.int .i64 a2)), (2, one (.ptr 2 0 0)), (6, one (.int .i64 v47_0)), (7, one (.int .i64 v47_1)), (8, one (.int .i64 v47_2))] [some ⟨false, .strs a0⟩, some ⟨false, .ints .i64 a1⟩, some ⟨true, .cells [.sl 0 0 a0.length, .sl 1 0 a1.length]⟩]
def spec.l4Clear.l0.e0 (a0 : List ByteArray) (a1 : List Int) (a2 : Int) (o : Int × Int) : St := mkSt 28 [(6, one (.int .i64 o.1)), (7, one (.int .i64 o.2))] [some ⟨false, .strs a0⟩, some ⟨false, .ints .i64 a1⟩]
def spec.l4Clear.l0.x (a0 : List ByteArray) (a1 : List Int) (a2 : Int) : (Int × Int) → AExit × St := fun o => (.exit 0, spec.l4Clear.l0.e0 a0 a1 a2 o)
theorem spec.l4Clear.l0.spec (a0 : List ByteArray) (a1 : List Int) (a2 : Int) : ∀ (k : Nat) (v47_0 : Int) (v47_1 : Int) (v47_2 : Int) (o : Int × Int), spec.l4Clear.l0.f a0 a1 a2 k v47_0 v47_1 v47_2 = some o → LoopSpec Tryz.prog 2 (loopN Tryz.f145 0) (spec.l4Clear.l0.s a0 a1 a2 v47_0 v47_1 v47_2) (spec.l4Clear.l0.x a0 a1 a2 o).1 (spec.l4Clear.l0.x a0 a1 a2 o).2
  | 0, _, _, _, _, h => by cases h
  | k + 1, v47_0, v47_1, v47_2, o, h => by
    unfold spec.l4Clear.l0.f at h
    rcases br_cases h with ⟨c1, h⟩ | ⟨c1, h⟩
    · obtain ⟨p1, h⟩ := ck_some h
      obtain ⟨p2, h⟩ := ck_some h
      rcases br_cases h with ⟨c2, h⟩ | ⟨c2, h⟩
      · exact .of_step tab mixed [bT, bT] [] [1, 2, 6, 7, 8] [0, 1, 2] (s1 := spec.l4Clear.l0.s a0 a1 a2 (w64 (v47_0 + 1)) (w64 (v47_1 + 1)) (w64 (v47_2 + 1))) (nd c1 (nd p1 (nd p2 (nd (tn p1 p2) (nd c2 trivial))))) (by kernel_rfl) (spec.l4Clear.l0.spec a0 a1 a2 k (w64 (v47_0 + 1)) (w64 (v47_1 + 1)) (w64 (v47_2 + 1)) _ h)
      · exact .of_step tab mixed [bT, bF] [] [1, 2, 6, 7, 8] [0, 1, 2] (s1 := spec.l4Clear.l0.s a0 a1 a2 v47_0 0 (w64 (v47_2 + 1))) (nd c1 (nd p1 (nd p2 (nd (tn p1 p2) (nd c2 trivial))))) (by kernel_rfl) (spec.l4Clear.l0.spec a0 a1 a2 k v47_0 0 (w64 (v47_2 + 1)) _ h)
    · obtain rfl := Option.some.inj h
      exact .of_done tab mixed [bF] [] [6, 7] [0, 1] rfl (nd c1 trivial) (by kernel_rfl)
def spec.l4Clear.f (K : Nat) (a0 : List ByteArray) (a1 : List Int) (a2 : Int) : Option (Int × Int) :=
  Option.bind (spec.l4Clear.l0.f a0 a1 a2 K 0 0 0) fun x1 => some (x1.1, x1.2)
theorem spec.l4Clear.spec (K : Nat) (a0 : List ByteArray) (a1 : List Int) (a2 : Int) (o : Int × Int) (h : spec.l4Clear.f K a0 a1 a2 = some o) : Den.Spec Tryz.prog 145 [.v (.agg [.sl 0 0 a0.length, .sl 1 0 a1.length]), one (.int .i64 a2)] [some ⟨false, .strs a0⟩, some ⟨false, .ints .i64 a1⟩] (.tup [.c (.int .i64 o.1), .c (.int .i64 o.2)]) [some ⟨false, .strs a0⟩, some ⟨false, .ints .i64 a1⟩] := by
  unfold spec.l4Clear.f at h
  obtain ⟨x1, e1, h⟩ := bind_some h
  obtain rfl := Option.some.inj h
  exact Den.Spec.of_walk tab mixed Tryz.func145 (by kernel_rfl) [.loop [] [1, 2, 6, 7, 8] [0, 1, 2] (.exit 0) (spec.l4Clear.l0.e0 a0 a1 a2 x1)] [] [0, 1] (nd (spec.l4Clear.l0.spec a0 a1 a2 K 0 0 0 _ e1) trivial) (by kernel_rfl)
def spec.FreeBlocks.l0.f (K : Nat) (a0 : List ByteArray) (a1 : List Int) : Nat → (List Int) → Int → Option ((List Int))
  | 0, _, _ => none
  | k + 1, v49_0, v49_1 =>
    cond (decide (v49_1 < 10)) (Option.bind (spec.ChipOk.f K a0 a1) fun x1 => cond (x1) (Option.bind (spec.l4Clear.f K a0 a1 v49_1) fun x2 => cond (x2.1 == 6) (ck ((v49_0 ++ [v49_1]).length * 8 ≤ 70368744177664) (spec.FreeBlocks.l0.f K a0 a1 k (v49_0 ++ [v49_1]) (w64 (v49_1 + 1)))) (spec.FreeBlocks.l0.f K a0 a1 k v49_0 (w64 (v49_1 + 1)))) (some v49_0)) (some v49_0)
def spec.FreeBlocks.l0.s (K : Nat) (a0 : List ByteArray) (a1 : List Int) (v49_0 : List Int) (v49_1 : Int) : St := mkSt 29 [(1, one (.ptr 2 0 0)), (3, one (.sl 3 0 v49_0.length)), (4, one (.int .i64 v49_1))] [some ⟨false, .strs a0⟩, some ⟨false, .ints .i64 a1⟩, some ⟨true, .cells [.sl 0 0 a0.length, .sl 1 0 a1.length]⟩, some ⟨true, .ints .i64 v49_0⟩]
def spec.FreeBlocks.l0.e0 (K : Nat) (a0 : List ByteArray) (a1 : List Int) (o : (List Int)) : St := mkSt 29 [(3, one (.sl 2 0 o.length))] [some ⟨false, .strs a0⟩, some ⟨false, .ints .i64 a1⟩, some ⟨true, .ints .i64 o⟩]
def spec.FreeBlocks.l0.x (K : Nat) (a0 : List ByteArray) (a1 : List Int) : ((List Int)) → AExit × St := fun o => (.exit 0, spec.FreeBlocks.l0.e0 K a0 a1 o)
theorem spec.FreeBlocks.l0.spec (K : Nat) (a0 : List ByteArray) (a1 : List Int) : ∀ (k : Nat) (v49_0 : List Int) (v49_1 : Int) (o : (List Int)), spec.FreeBlocks.l0.f K a0 a1 k v49_0 v49_1 = some o → LoopSpec Tryz.prog 2 (loopN Tryz.f130 0) (spec.FreeBlocks.l0.s K a0 a1 v49_0 v49_1) (spec.FreeBlocks.l0.x K a0 a1 o).1 (spec.FreeBlocks.l0.x K a0 a1 o).2
  | 0, _, _, _, h => by cases h
  | k + 1, v49_0, v49_1, o, h => by
    unfold spec.FreeBlocks.l0.f at h
    rcases br_cases h with ⟨c1, h⟩ | ⟨c1, h⟩
    · obtain ⟨x1, e1, h⟩ := bind_some h
      rcases br_cases h with ⟨c2, h⟩ | ⟨c2, h⟩
      · obtain ⟨x2, e2, h⟩ := bind_some h
        rcases br_cases h with ⟨c3, h⟩ | ⟨c3, h⟩
        · obtain ⟨p1, h⟩ := ck_some h
          exact .of_step tab mixed [bT, bT, .call [(0, false), (1, false)] [] (one (.bool x1)) [some ⟨false, .strs a0⟩, some ⟨false, .ints .i64 a1⟩], bT, bT, .call [(0, false), (1, false)] [] (.tup [.c (.int .i64 x2.1), .c (.int .i64 x2.2)]) [some ⟨false, .strs a0⟩, some ⟨false, .ints .i64 a1⟩], bT, bT] [] [1, 3, 4] [0, 1, 2, 5] (s1 := spec.FreeBlocks.l0.s K a0 a1 (v49_0 ++ [v49_1]) (w64 (v49_1 + 1))) (nd c1 (nd c1 (nd (spec.ChipOk.spec K a0 a1 _ e1) (nd c1 (nd c2 (nd (spec.l4Clear.spec K a0 a1 v49_1 _ e2) (nd c3 (n0 (nl v49_0 (nd p1 (n0 (nn 1 trivial)))))))))))) (by kernel_rfl) (spec.FreeBlocks.l0.spec K a0 a1 k (v49_0 ++ [v49_1]) (w64 (v49_1 + 1)) _ h)
        · exact .of_step tab mixed [bT, bT, .call [(0, false), (1, false)] [] (one (.bool x1)) [some ⟨false, .strs a0⟩, some ⟨false, .ints .i64 a1⟩], bT, bT, .call [(0, false), (1, false)] [] (.tup [.c (.int .i64 x2.1), .c (.int .i64 x2.2)]) [some ⟨false, .strs a0⟩, some ⟨false, .ints .i64 a1⟩], bF] [] [1, 3, 4] [0, 1, 2, 3] (s1 := spec.FreeBlocks.l0.s K a0 a1 v49_0 (w64 (v49_1 + 1))) (nd c1 (nd c1 (nd (spec.ChipOk.spec K a0 a1 _ e1) (nd c1 (nd c2 (nd (spec.l4Clear.spec K a0 a1 v49_1 _ e2) (nd c3 trivial))))))) (by kernel_rfl) (spec.FreeBlocks.l0.spec K a0 a1 k v49_0 (w64 (v49_1 + 1)) _ h)
      · obtain rfl := Option.some.inj h
        exact .of_done tab mixed [bT, bT, .call [(0, false), (1, false)] [] (one (.bool x1)) [some ⟨false, .strs a0⟩, some ⟨false, .ints .i64 a1⟩], bT, bF] [] [3] [0, 1, 3] rfl (nd c1 (nd c1 (nd (spec.ChipOk.spec K a0 a1 _ e1) (nd c1 (nd c2 trivial))))) (by kernel_rfl)
    · obtain rfl := Option.some.inj h
      exact .of_done tab mixed [bF, bF, bF, bF] [] [3] [0, 1, 3] rfl (nd c1 (nd c1 (nd c1 (nd ff trivial)))) (by kernel_rfl)
def spec.FreeBlocks.f (K : Nat) (a0 : List ByteArray) (a1 : List Int) : Option ((List Int)) :=
  Option.bind (spec.FreeBlocks.l0.f K a0 a1 K [] 0) fun x1 => some x1
theorem spec.FreeBlocks.spec (K : Nat) (a0 : List ByteArray) (a1 : List Int) (o : (List Int)) (h : spec.FreeBlocks.f K a0 a1 = some o) : Den.Spec Tryz.prog 130 [.v (.agg [.sl 0 0 a0.length, .sl 1 0 a1.length])] [some ⟨false, .strs a0⟩, some ⟨false, .ints .i64 a1⟩] (one (.sl 2 0 o.length)) [some ⟨false, .strs a0⟩, some ⟨false, .ints .i64 a1⟩, some ⟨true, .ints .i64 o⟩] := by
  unfold spec.FreeBlocks.f at h
  obtain ⟨x1, e1, h⟩ := bind_some h
  obtain rfl := Option.some.inj h
  exact Den.Spec.of_walk tab mixed Tryz.func130 (by kernel_rfl) [.loop [] [1, 3, 4] [0, 1, 2, 3] (.exit 0) (spec.FreeBlocks.l0.e0 K a0 a1 x1)] [] [0, 1, 2] (nd (spec.FreeBlocks.l0.spec K a0 a1 K [] 0 _ e1) trivial) (by kernel_rfl)
def spec.l4Next.l0.f (K : Nat) (a0 : List ByteArray) (a1 : List Int) : Nat → Int → Int → Option (Int ⊕ Int)
  | 0, _, _ => none
  | k + 1, v52_0, v52_1 =>
    cond (decide (v52_1 < 10)) (Option.bind (spec.l4Clear.f K a0 a1 v52_1) fun x1 => cond (decide (x1.1 > 0)) (cond (decide (x1.1 < 6)) (cond (x1.2 == x1.1) (some (.inl (w64 ((w64 ((w64 (v52_1 * 6)) + 6)) - x1.1)))) (cond (x1.1 == 6) (cond (decide (v52_0 < 0)) (spec.l4Next.l0.f K a0 a1 k v52_1 (w64 (v52_1 + 1))) (ck (0 ≤ v52_1) (ck (v52_1 < (a1.length : Int)) (ck (v52_0 < (a1.length : Int)) (cond (decide ((a1.getD v52_1.toNat 0) < (a1.getD v52_0.toNat 0))) (spec.l4Next.l0.f K a0 a1 k v52_1 (w64 (v52_1 + 1))) (spec.l4Next.l0.f K a0 a1 k v52_0 (w64 (v52_1 + 1)))))))) (spec.l4Next.l0.f K a0 a1 k v52_0 (w64 (v52_1 + 1))))) (cond (x1.1 == 6) (cond (decide (v52_0 < 0)) (spec.l4Next.l0.f K a0 a1 k v52_1 (w64 (v52_1 + 1))) (ck (0 ≤ v52_1) (ck (v52_1 < (a1.length : Int)) (ck (v52_0 < (a1.length : Int)) (cond (decide ((a1.getD v52_1.toNat 0) < (a1.getD v52_0.toNat 0))) (spec.l4Next.l0.f K a0 a1 k v52_1 (w64 (v52_1 + 1))) (spec.l4Next.l0.f K a0 a1 k v52_0 (w64 (v52_1 + 1)))))))) (spec.l4Next.l0.f K a0 a1 k v52_0 (w64 (v52_1 + 1))))) (cond (x1.1 == 6) (cond (decide (v52_0 < 0)) (spec.l4Next.l0.f K a0 a1 k v52_1 (w64 (v52_1 + 1))) (ck (0 ≤ v52_1) (ck (v52_1 < (a1.length : Int)) (ck (v52_0 < (a1.length : Int)) (cond (decide ((a1.getD v52_1.toNat 0) < (a1.getD v52_0.toNat 0))) (spec.l4Next.l0.f K a0 a1 k v52_1 (w64 (v52_1 + 1))) (spec.l4Next.l0.f K a0 a1 k v52_0 (w64 (v52_1 + 1)))))))) (spec.l4Next.l0.f K a0 a1 k v52_0 (w64 (v52_1 + 1))))) (some (.inr (v52_0)))
def spec.l4Next.l0.s (K : Nat) (a0 : List ByteArray) (a1 : List Int) (v52_0 : Int) (v52_1 : Int) : St := mkSt 57 [(1, one (.ptr 2 0 0)), (3, one (.int .i64 v52_0)), (4, one (.int .i64 v52_1))] [some ⟨false, .strs a0⟩, some ⟨false, .ints .i64 a1⟩, some ⟨true, .cells [.sl 0 0 a0.length, .sl 1 0 a1.length]⟩]
def spec.l4Next.l0.e0 (K : Nat) (a0 : List ByteArray) (a1 : List Int) (o : Int) : St := mkSt 57 [(2, one (.int .i64 o))] [some ⟨false, .strs a0⟩, some ⟨false, .ints .i64 a1⟩]
def spec.l4Next.l0.e1 (K : Nat) (a0 : List ByteArray) (a1 : List Int) (o : Int) : St := mkSt 57 [(3, one (.int .i64 o))] [some ⟨false, .strs a0⟩, some ⟨false, .ints .i64 a1⟩]
def spec.l4Next.l0.x (K : Nat) (a0 : List ByteArray) (a1 : List Int) : (Int ⊕ Int) → AExit × St := Sum.elim (fun o => (.ret, spec.l4Next.l0.e0 K a0 a1 o)) (fun o => (.exit 0, spec.l4Next.l0.e1 K a0 a1 o))
theorem spec.l4Next.l0.spec (K : Nat) (a0 : List ByteArray) (a1 : List Int) : ∀ (k : Nat) (v52_0 : Int) (v52_1 : Int) (o : Int ⊕ Int), spec.l4Next.l0.f K a0 a1 k v52_0 v52_1 = some o → LoopSpec Tryz.prog 2 (loopN Tryz.f134 0) (spec.l4Next.l0.s K a0 a1 v52_0 v52_1) (spec.l4Next.l0.x K a0 a1 o).1 (spec.l4Next.l0.x K a0 a1 o).2
  | 0, _, _, _, h => by cases h
  | k + 1, v52_0, v52_1, o, h => by
    unfold spec.l4Next.l0.f at h
    rcases br_cases h with ⟨c1, h⟩ | ⟨c1, h⟩
    · obtain ⟨x1, e1, h⟩ := bind_some h
      rcases br_cases h with ⟨c2, h⟩ | ⟨c2, h⟩
      · rcases br_cases h with ⟨c3, h⟩ | ⟨c3, h⟩
        · rcases br_cases h with ⟨c4, h⟩ | ⟨c4, h⟩
          · obtain rfl := Option.some.inj h
            exact .of_done tab mixed [bT, .call [(0, false), (1, false)] [] (.tup [.c (.int .i64 x1.1), .c (.int .i64 x1.2)]) [some ⟨false, .strs a0⟩, some ⟨false, .ints .i64 a1⟩], bT, bT, bT, bT, bT, bT, bT, bT] [] [2] [0, 1] rfl (nd c1 (nd (spec.l4Clear.spec K a0 a1 v52_1 _ e1) (nd c2 (nd c2 (nd c2 (nd c3 (nd c3 (nd c3 (nd c3 (nd c4 trivial)))))))))) (by kernel_rfl)
          · rcases br_cases h with ⟨c5, h⟩ | ⟨c5, h⟩
            · rcases br_cases h with ⟨c6, h⟩ | ⟨c6, h⟩
              · exact .of_step tab mixed [bT, .call [(0, false), (1, false)] [] (.tup [.c (.int .i64 x1.1), .c (.int .i64 x1.2)]) [some ⟨false, .strs a0⟩, some ⟨false, .ints .i64 a1⟩], bT, bT, bT, bT, bT, bT, bT, bF, bT, bT, bT, bT, bT, bT, bT, bT, bT, bT, bT, bT, bT, bT, bT, bT, bT, bT] [] [1, 3, 4] [0, 1, 2] (s1 := spec.l4Next.l0.s K a0 a1 v52_1 (w64 (v52_1 + 1))) (nd c1 (nd (spec.l4Clear.spec K a0 a1 v52_1 _ e1) (nd c2 (nd c2 (nd c2 (nd c3 (nd c3 (nd c3 (nd c3 (nd c4 (nd c5 (nd c5 (nd c5 (nd c6 (nd c6 (nd c6 (nd c6 (nd c6 (nd c6 (nd c6 (nd c6 (nd c6 (nd c6 (nd c6 (nd c5 (nd c6 (nd c5 (nd tt trivial)))))))))))))))))))))))))))) (by kernel_rfl) (spec.l4Next.l0.spec K a0 a1 k v52_1 (w64 (v52_1 + 1)) _ h)
              · obtain ⟨p1, h⟩ := ck_some h
                obtain ⟨p2, h⟩ := ck_some h
                obtain ⟨p3, h⟩ := ck_some h
                rcases br_cases h with ⟨c7, h⟩ | ⟨c7, h⟩
                · exact .of_step tab mixed [bT, .call [(0, false), (1, false)] [] (.tup [.c (.int .i64 x1.1), .c (.int .i64 x1.2)]) [some ⟨false, .strs a0⟩, some ⟨false, .ints .i64 a1⟩], bT, bT, bT, bT, bT, bT, bT, bF, bT, bT, bT, bF, bF, bF, bF, bF, bF, bF, bF, bF, bF, bF, bT, bF, bT, bT] [] [1, 3, 4] [0, 1, 2] (s1 := spec.l4Next.l0.s K a0 a1 v52_1 (w64 (v52_1 + 1))) (nd c1 (nd (spec.l4Clear.spec K a0 a1 v52_1 _ e1) (nd c2 (nd c2 (nd c2 (nd c3 (nd c3 (nd c3 (nd c3 (nd c4 (nd c5 (nd c5 (nd c5 (nd c6 (nd c6 (nd c6 (nd c6 (nd p1 (nd p2 (nd c6 (nd (tn p1 p2) (nd c6 (nd c6 (nd c6 (nd c6 (nd (Int.not_lt.1 (of_decide_eq_false c6)) (nd p3 (nd c6 (nd (tn (Int.not_lt.1 (of_decide_eq_false c6)) p3) (nd c6 (nd c5 (nd c6 (nd c5 (nd c7 trivial)))))))))))))))))))))))))))))))))) (by kernel_rfl) (spec.l4Next.l0.spec K a0 a1 k v52_1 (w64 (v52_1 + 1)) _ h)
                · exact .of_step tab mixed [bT, .call [(0, false), (1, false)] [] (.tup [.c (.int .i64 x1.1), .c (.int .i64 x1.2)]) [some ⟨false, .strs a0⟩, some ⟨false, .ints .i64 a1⟩], bT, bT, bT, bT, bT, bT, bT, bF, bT, bT, bT, bF, bF, bF, bF, bF, bF, bF, bF, bF, bF, bF, bT, bF, bT, bF] [] [1, 3, 4] [0, 1, 2] (s1 := spec.l4Next.l0.s K a0 a1 v52_0 (w64 (v52_1 + 1))) (nd c1 (nd (spec.l4Clear.spec K a0 a1 v52_1 _ e1) (nd c2 (nd c2 (nd c2 (nd c3 (nd c3 (nd c3 (nd c3 (nd c4 (nd c5 (nd c5 (nd c5 (nd c6 (nd c6 (nd c6 (nd c6 (nd p1 (nd p2 (nd c6 (nd (tn p1 p2) (nd c6 (nd c6 (nd c6 (nd c6 (nd (Int.not_lt.1 (of_decide_eq_false c6)) (nd p3 (nd c6 (nd (tn (Int.not_lt.1 (of_decide_eq_false c6)) p3) (nd c6 (nd c5 (nd c6 (nd c5 (nd c7 trivial)))))))))))))))))))))))))))))))))) (by kernel_rfl) (spec.l4Next.l0.spec K a0 a1 k v52_0 (w64 (v52_1 + 1)) _ h)
            · exact .of_step tab mixed [bT, .call [(0, false), (1, false)] [] (.tup [.c (.int .i64 x1.1), .c (.int .i64 x1.2)]) [some ⟨false, .strs a0⟩, some ⟨false, .ints .i64 a1⟩], bT, bT, bT, bT, bT, bT, bT, bF, bF, bF, bF, bF, bF, bF] [] [1, 3, 4] [0, 1, 2] (s1 := spec.l4Next.l0.s K a0 a1 v52_0 (w64 (v52_1 + 1))) (nd c1 (nd (spec.l4Clear.spec K a0 a1 v52_1 _ e1) (nd c2 (nd c2 (nd c2 (nd c3 (nd c3 (nd c3 (nd c3 (nd c4 (nd c5 (nd c5 (nd c5 (nd c5 (nd c5 (nd ff trivial)))))))))))))))) (by kernel_rfl) (spec.l4Next.l0.spec K a0 a1 k v52_0 (w64 (v52_1 + 1)) _ h)
        · rcases br_cases h with ⟨c4, h⟩ | ⟨c4, h⟩
          · rcases br_cases h with ⟨c5, h⟩ | ⟨c5, h⟩
            · exact .of_step tab mixed [bT, .call [(0, false), (1, false)] [] (.tup [.c (.int .i64 x1.1), .c (.int .i64 x1.2)]) [some ⟨false, .strs a0⟩, some ⟨false, .ints .i64 a1⟩], bT, bT, bT, bF, bF, bF, bF, bF, bT, bT, bT, bT, bT, bT, bT, bT, bT, bT, bT, bT, bT, bT, bT, bT, bT, bT] [] [1, 3, 4] [0, 1, 2] (s1 := spec.l4Next.l0.s K a0 a1 v52_1 (w64 (v52_1 + 1))) (nd c1 (nd (spec.l4Clear.spec K a0 a1 v52_1 _ e1) (nd c2 (nd c2 (nd c2 (nd c3 (nd c3 (nd c3 (nd c3 (nd ff (nd c4 (nd c4 (nd c4 (nd c5 (nd c5 (nd c5 (nd c5 (nd c5 (nd c5 (nd c5 (nd c5 (nd c5 (nd c5 (nd c5 (nd c4 (nd c5 (nd c4 (nd tt trivial)))))))))))))))))))))))))))) (by kernel_rfl) (spec.l4Next.l0.spec K a0 a1 k v52_1 (w64 (v52_1 + 1)) _ h)
            · obtain ⟨p1, h⟩ := ck_some h
              obtain ⟨p2, h⟩ := ck_some h
              obtain ⟨p3, h⟩ := ck_some h
              rcases br_cases h with ⟨c6, h⟩ | ⟨c6, h⟩
              · exact .of_step tab mixed [bT, .call [(0, false), (1, false)] [] (.tup [.c (.int .i64 x1.1), .c (.int .i64 x1.2)]) [some ⟨false, .strs a0⟩, some ⟨false, .ints .i64 a1⟩], bT, bT, bT, bF, bF, bF, bF, bF, bT, bT, bT, bF, bF, bF, bF, bF, bF, bF, bF, bF, bF, bF, bT, bF, bT, bT] [] [1, 3, 4] [0, 1, 2] (s1 := spec.l4Next.l0.s K a0 a1 v52_1 (w64 (v52_1 + 1))) (nd c1 (nd (spec.l4Clear.spec K a0 a1 v52_1 _ e1) (nd c2 (nd c2 (nd c2 (nd c3 (nd c3 (nd c3 (nd c3 (nd ff (nd c4 (nd c4 (nd c4 (nd c5 (nd c5 (nd c5 (nd c5 (nd p1 (nd p2 (nd c5 (nd (tn p1 p2) (nd c5 (nd c5 (nd c5 (nd c5 (nd (Int.not_lt.1 (of_decide_eq_false c5)) (nd p3 (nd c5 (nd (tn (Int.not_lt.1 (of_decide_eq_false c5)) p3) (nd c5 (nd c4 (nd c5 (nd c4 (nd c6 trivial)))))))))))))))))))))))))))))))))) (by kernel_rfl) (spec.l4Next.l0.spec K a0 a1 k v52_1 (w64 (v52_1 + 1)) _ h)
              · exact .of_step tab mixed [bT, .call [(0, false), (1, false)] [] (.tup [.c (.int .i64 x1.1), .c (.int .i64 x1.2)]) [some ⟨false, .strs a0⟩, some ⟨false, .ints .i64 a1⟩], bT, bT, bT, bF, bF, bF, bF, bF, bT, bT, bT, bF, bF, bF, bF, bF, bF, bF, bF, bF, bF, bF, bT, bF, bT, bF] [] [1, 3, 4] [0, 1, 2] (s1 := spec.l4Next.l0.s K a0 a1 v52_0 (w64 (v52_1 + 1))) (nd c1 (nd (spec.l4Clear.spec K a0 a1 v52_1 _ e1) (nd c2 (nd c2 (nd c2 (nd c3 (nd c3 (nd c3 (nd c3 (nd ff (nd c4 (nd c4 (nd c4 (nd c5 (nd c5 (nd c5 (nd c5 (nd p1 (nd p2 (nd c5 (nd (tn p1 p2) (nd c5 (nd c5 (nd c5 (nd c5 (nd (Int.not_lt.1 (of_decide_eq_false c5)) (nd p3 (nd c5 (nd (tn (Int.not_lt.1 (of_decide_eq_false c5)) p3) (nd c5 (nd c4 (nd c5 (nd c4 (nd c6 trivial)))))))))))))))))))))))))))))))))) (by kernel_rfl) (spec.l4Next.l0.spec K a0 a1 k v52_0 (w64 (v52_1 + 1)) _ h)
          · exact .of_step tab mixed [bT, .call [(0, false), (1, false)] [] (.tup [.c (.int .i64 x1.1), .c (.int .i64 x1.2)]) [some ⟨false, .strs a0⟩, some ⟨false, .ints .i64 a1⟩], bT, bT, bT, bF, bF, bF, bF, bF, bF, bF, bF, bF, bF, bF] [] [1, 3, 4] [0, 1, 2] (s1 := spec.l4Next.l0.s K a0 a1 v52_0 (w64 (v52_1 + 1))) (nd c1 (nd (spec.l4Clear.spec K a0 a1 v52_1 _ e1) (nd c2 (nd c2 (nd c2 (nd c3 (nd c3 (nd c3 (nd c3 (nd ff (nd c4 (nd c4 (nd c4 (nd c4 (nd c4 (nd ff trivial)))))))))))))))) (by kernel_rfl) (spec.l4Next.l0.spec K a0 a1 k v52_0 (w64 (v52_1 + 1)) _ h)
      · rcases br_cases h with ⟨c3, h⟩ | ⟨c3, h⟩
        · rcases br_cases h with ⟨c4, h⟩ | ⟨c4, h⟩
          · exact .of_step tab mixed [bT, .call [(0, false), (1, false)] [] (.tup [.c (.int .i64 x1.1), .c (.int .i64 x1.2)]) [some ⟨false, .strs a0⟩, some ⟨false, .ints .i64 a1⟩], bF, bF, bF, bF, bF, bF, bF, bF, bT, bT, bT, bT, bT, bT, bT, bT, bT, bT, bT, bT, bT, bT, bT, bT, bT, bT] [] [1, 3, 4] [0, 1, 2] (s1 := spec.l4Next.l0.s K a0 a1 v52_1 (w64 (v52_1 + 1))) (nd c1 (nd (spec.l4Clear.spec K a0 a1 v52_1 _ e1) (nd c2 (nd c2 (nd c2 (nd ff (nd ff (nd ff (nd ff (nd ff (nd c3 (nd c3 (nd c3 (nd c4 (nd c4 (nd c4 (nd c4 (nd c4 (nd c4 (nd c4 (nd c4 (nd c4 (nd c4 (nd c4 (nd c3 (nd c4 (nd c3 (nd tt trivial)))))))))))))))))))))))))))) (by kernel_rfl) (spec.l4Next.l0.spec K a0 a1 k v52_1 (w64 (v52_1 + 1)) _ h)
          · obtain ⟨p1, h⟩ := ck_some h
            obtain ⟨p2, h⟩ := ck_some h
            obtain ⟨p3, h⟩ := ck_some h
            rcases br_cases h with ⟨c5, h⟩ | ⟨c5, h⟩
            · exact .of_step tab mixed [bT, .call [(0, false), (1, false)] [] (.tup [.c (.int .i64 x1.1), .c (.int .i64 x1.2)]) [some ⟨false, .strs a0⟩, some ⟨false, .ints .i64 a1⟩], bF, bF, bF, bF, bF, bF, bF, bF, bT, bT, bT, bF, bF, bF, bF, bF, bF, bF, bF, bF, bF, bF, bT, bF, bT, bT] [] [1, 3, 4] [0, 1, 2] (s1 := spec.l4Next.l0.s K a0 a1 v52_1 (w64 (v52_1 + 1))) (nd c1 (nd (spec.l4Clear.spec K a0 a1 v52_1 _ e1) (nd c2 (nd c2 (nd c2 (nd ff (nd ff (nd ff (nd ff (nd ff (nd c3 (nd c3 (nd c3 (nd c4 (nd c4 (nd c4 (nd c4 (nd p1 (nd p2 (nd c4 (nd (tn p1 p2) (nd c4 (nd c4 (nd c4 (nd c4 (nd (Int.not_lt.1 (of_decide_eq_false c4)) (nd p3 (nd c4 (nd (tn (Int.not_lt.1 (of_decide_eq_false c4)) p3) (nd c4 (nd c3 (nd c4 (nd c3 (nd c5 trivial)))))))))))))))))))))))))))))))))) (by kernel_rfl) (spec.l4Next.l0.spec K a0 a1 k v52_1 (w64 (v52_1 + 1)) _ h)
            · exact .of_step tab mixed [bT, .call [(0, false), (1, false)] [] (.tup [.c (.int .i64 x1.1), .c (.int .i64 x1.2)]) [some ⟨false, .strs a0⟩, some ⟨false, .ints .i64 a1⟩], bF, bF, bF, bF, bF, bF, bF, bF, bT, bT, bT, bF, bF, bF, bF, bF, bF, bF, bF, bF, bF, bF, bT, bF, bT, bF] [] [1, 3, 4] [0, 1, 2] (s1 := spec.l4Next.l0.s K a0 a1 v52_0 (w64 (v52_1 + 1))) (nd c1 (nd (spec.l4Clear.spec K a0 a1 v52_1 _ e1) (nd c2 (nd c2 (nd c2 (nd ff (nd ff (nd ff (nd ff (nd ff (nd c3 (nd c3 (nd c3 (nd c4 (nd c4 (nd c4 (nd c4 (nd p1 (nd p2 (nd c4 (nd (tn p1 p2) (nd c4 (nd c4 (nd c4 (nd c4 (nd (Int.not_lt.1 (of_decide_eq_false c4)) (nd p3 (nd c4 (nd (tn (Int.not_lt.1 (of_decide_eq_false c4)) p3) (nd c4 (nd c3 (nd c4 (nd c3 (nd c5 trivial)))))))))))))))))))))))))))))))))) (by kernel_rfl) (spec.l4Next.l0.spec K a0 a1 k v52_0 (w64 (v52_1 + 1)) _ h)
        · exact .of_step tab mixed [bT, .call [(0, false), (1, false)] [] (.tup [.c (.int .i64 x1.1), .c (.int .i64 x1.2)]) [some ⟨false, .strs a0⟩, some ⟨false, .ints .i64 a1⟩], bF, bF, bF, bF, bF, bF, bF, bF, bF, bF, bF, bF, bF, bF] [] [1, 3, 4] [0, 1, 2] (s1 := spec.l4Next.l0.s K a0 a1 v52_0 (w64 (v52_1 + 1))) (nd c1 (nd (spec.l4Clear.spec K a0 a1 v52_1 _ e1) (nd c2 (nd c2 (nd c2 (nd ff (nd ff (nd ff (nd ff (nd ff (nd c3 (nd c3 (nd c3 (nd c3 (nd c3 (nd ff trivial)))))))))))))))) (by kernel_rfl) (spec.l4Next.l0.spec K a0 a1 k v52_0 (w64 (v52_1 + 1)) _ h)
    · obtain rfl := Option.some.inj h
      exact .of_done tab mixed [bF] [] [3] [0, 1] rfl (nd c1 trivial) (by kernel_rfl)
def spec.l4Next.f (K : Nat) (a0 : List ByteArray) (a1 : List Int) : Option (Int) :=
  Option.bind (spec.l4Next.l0.f K a0 a1 K (-1) 0) fun x1 => (Sum.elim (fun x1 => some x1) (fun x1 => cond (decide (x1 < 0)) (some (-1)) (some (w64 (x1 * 6))))) x1
theorem spec.l4Next.spec (K : Nat) (a0 : List ByteArray) (a1 : List Int) (o : Int) (h : spec.l4Next.f K a0 a1 = some o) : Den.Spec Tryz.prog 134 [.v (.agg [.sl 0 0 a0.length, .sl 1 0 a1.length])] [some ⟨false, .strs a0⟩, some ⟨false, .ints .i64 a1⟩] (one (.int .i64 o)) [some ⟨false, .strs a0⟩, some ⟨false, .ints .i64 a1⟩] := by
  unfold spec.l4Next.f at h
  obtain ⟨x1, e1, h⟩ := bind_some h
  rcases x1 with x1 | x1
  · obtain rfl := Option.some.inj h
    exact Den.Spec.of_walk tab mixed Tryz.func134 (by kernel_rfl) [.loop [] [1, 3, 4] [0, 1, 2] (.ret) (spec.l4Next.l0.e0 K a0 a1 x1)] [] [0, 1] (nd (spec.l4Next.l0.spec K a0 a1 K (-1) 0 _ e1) trivial) (by kernel_rfl)
  · rcases br_cases h with ⟨c1, h⟩ | ⟨c1, h⟩
    · obtain rfl := Option.some.inj h
      exact Den.Spec.of_walk tab mixed Tryz.func134 (by kernel_rfl) [.loop [] [1, 3, 4] [0, 1, 2] (.exit 0) (spec.l4Next.l0.e1 K a0 a1 x1), bT] [] [0, 1] (nd (spec.l4Next.l0.spec K a0 a1 K (-1) 0 _ e1) (nd c1 trivial)) (by kernel_rfl)
    · obtain rfl := Option.some.inj h
      exact Den.Spec.of_walk tab mixed Tryz.func134 (by kernel_rfl) [.loop [] [1, 3, 4] [0, 1, 2] (.exit 0) (spec.l4Next.l0.e1 K a0 a1 x1), bF] [] [0, 1] (nd (spec.l4Next.l0.spec K a0 a1 K (-1) 0 _ e1) (nd c1 trivial)) (by kernel_rfl)
def spec.l5Open.f (K : Nat) (a0 : List ByteArray) (a1 : List Int) : Option (Int) :=
  Option.bind (spec.l4Next.f K a0 a1) fun x1 => cond (decide (x1 < 0)) (some (-1)) (cond ((x1.tmod 6) == 0) (some (-1)) (some (w64 (x1.tdiv 6))))
theorem spec.l5Open.spec (K : Nat) (a0 : List ByteArray) (a1 : List Int) (o : Int) (h : spec.l5Open.f K a0 a1 = some o) : Den.Spec Tryz.prog 131 [.v (.agg [.sl 0 0 a0.length, .sl 1 0 a1.length])] [some ⟨false, .strs a0⟩, some ⟨false, .ints .i64 a1⟩] (one (.int .i64 o)) [some ⟨false, .strs a0⟩, some ⟨false, .ints .i64 a1⟩] := by
  unfold spec.l5Open.f at h
  obtain ⟨x1, e1, h⟩ := bind_some h
  rcases br_cases h with ⟨c1, h⟩ | ⟨c1, h⟩
  · obtain rfl := Option.some.inj h
    exact Den.Spec.of_walk tab mixed Tryz.func131 (by kernel_rfl) [.call [(0, false), (1, false)] [] (one (.int .i64 x1)) [some ⟨false, .strs a0⟩, some ⟨false, .ints .i64 a1⟩], bT, bT, bT, bT, bT] [] [0, 1] (nd (spec.l4Next.spec K a0 a1 _ e1) (nd c1 (nd c1 (nd c1 (nd c1 (nd tt trivial)))))) (by kernel_rfl)
  · rcases br_cases h with ⟨c2, h⟩ | ⟨c2, h⟩
    · obtain rfl := Option.some.inj h
      exact Den.Spec.of_walk tab mixed Tryz.func131 (by kernel_rfl) [.call [(0, false), (1, false)] [] (one (.int .i64 x1)) [some ⟨false, .strs a0⟩, some ⟨false, .ints .i64 a1⟩], bF, bF, bF, bF, bT] [] [0, 1] (nd (spec.l4Next.spec K a0 a1 _ e1) (nd c1 (nd c1 (nd (by decide : (6 : Int) ≠ 0) (nd c1 (nd c1 (nd c2 trivial))))))) (by kernel_rfl)
    · obtain rfl := Option.some.inj h
      exact Den.Spec.of_walk tab mixed Tryz.func131 (by kernel_rfl) [.call [(0, false), (1, false)] [] (one (.int .i64 x1)) [some ⟨false, .strs a0⟩, some ⟨false, .ints .i64 a1⟩], bF, bF, bF, bF, bF] [] [0, 1] (nd (spec.l4Next.spec K a0 a1 _ e1) (nd c1 (nd c1 (nd (by decide : (6 : Int) ≠ 0) (nd c1 (nd c1 (nd c2 (nd (by decide : (6 : Int) ≠ 0) trivial)))))))) (by kernel_rfl)
def spec.l4Lives.l1.f (a0 : List ByteArray) (a1 : List Int) (a2 : List Int) (a3 : Int) (a4 : Int) (v59_1 : Int) : Nat → (List Int) → Int → Option ((List Int))
  | 0, _, _ => none
  | k + 1, v61_0, v61_1 =>
    cond (decide (v61_1 < (a2.length : Int))) (ck (0 ≤ v61_1) (cond ((a2.getD v61_1.toNat 0) == (w64 ((w64 (a4 * 6)) + v59_1))) (ck ((v61_0 ++ [w64 ((w64 (a4 * 6)) + v59_1)]).length * 8 ≤ 70368744177664) (spec.l4Lives.l1.f a0 a1 a2 a3 a4 v59_1 k (v61_0 ++ [w64 ((w64 (a4 * 6)) + v59_1)]) (w64 (v61_1 + 1)))) (spec.l4Lives.l1.f a0 a1 a2 a3 a4 v59_1 k v61_0 (w64 (v61_1 + 1))))) (some v61_0)
def spec.l4Lives.l1.s (a0 : List ByteArray) (a1 : List Int) (a2 : List Int) (a3 : Int) (a4 : Int) (v59_1 : Int) (v61_0 : List Int) (v61_1 : Int) : St := mkSt 38 [(1, one (.int .i64 a4)), (2, one (.ptr 3 0 0)), (5, one (.sl 4 0 v61_0.length)), (6, one (.int .i64 v59_1)), (7, one (.int .i64 v61_1))] [some ⟨false, .strs a0⟩, some ⟨false, .ints .i64 a1⟩, some ⟨false, .ints .i64 a2⟩, some ⟨true, .cells [.sl 0 0 a0.length, .sl 1 0 a1.length, .sl 2 0 a2.length, .int .i64 a3]⟩, some ⟨true, .ints .i64 v61_0⟩]
def spec.l4Lives.l1.e0 (a0 : List ByteArray) (a1 : List Int) (a2 : List Int) (a3 : Int) (a4 : Int) (v59_1 : Int) (o : (List Int)) : St := mkSt 38 [(1, one (.int .i64 a4)), (2, one (.ptr 3 0 0)), (5, one (.sl 4 0 o.length)), (6, one (.int .i64 v59_1))] [some ⟨false, .strs a0⟩, some ⟨false, .ints .i64 a1⟩, some ⟨false, .ints .i64 a2⟩, some ⟨true, .cells [.sl 0 0 a0.length, .sl 1 0 a1.length, .sl 2 0 a2.length, .int .i64 a3]⟩, some ⟨true, .ints .i64 o⟩]
def spec.l4Lives.l1.x (a0 : List ByteArray) (a1 : List Int) (a2 : List Int) (a3 : Int) (a4 : Int) (v59_1 : Int) : ((List Int)) → AExit × St := fun o => (.exit 2, spec.l4Lives.l1.e0 a0 a1 a2 a3 a4 v59_1 o)
theorem spec.l4Lives.l1.spec (a0 : List ByteArray) (a1 : List Int) (a2 : List Int) (a3 : Int) (a4 : Int) (v59_1 : Int) : ∀ (k : Nat) (v61_0 : List Int) (v61_1 : Int) (o : (List Int)), spec.l4Lives.l1.f a0 a1 a2 a3 a4 v59_1 k v61_0 v61_1 = some o → LoopSpec Tryz.prog 3 (loopN Tryz.f146 1) (spec.l4Lives.l1.s a0 a1 a2 a3 a4 v59_1 v61_0 v61_1) (spec.l4Lives.l1.x a0 a1 a2 a3 a4 v59_1 o).1 (spec.l4Lives.l1.x a0 a1 a2 a3 a4 v59_1 o).2
  | 0, _, _, _, h => by cases h
  | k + 1, v61_0, v61_1, o, h => by
    unfold spec.l4Lives.l1.f at h
    rcases br_cases h with ⟨c1, h⟩ | ⟨c1, h⟩
    · obtain ⟨p1, h⟩ := ck_some h
      rcases br_cases h with ⟨c2, h⟩ | ⟨c2, h⟩
      · obtain ⟨p2, h⟩ := ck_some h
        exact .of_step tab mixed [bT, bT, bT] [] [1, 2, 5, 6, 7] [0, 1, 2, 3, 6] (s1 := spec.l4Lives.l1.s a0 a1 a2 a3 a4 v59_1 (v61_0 ++ [w64 ((w64 (a4 * 6)) + v59_1)]) (w64 (v61_1 + 1))) (nd c1 (nd p1 (nd (of_decide_eq_true c1) (nd (tn p1 (of_decide_eq_true c1)) (nd c2 (n0 (nl v61_0 (nd p2 (n0 (nn 1 trivial)))))))))) (by kernel_rfl) (spec.l4Lives.l1.spec a0 a1 a2 a3 a4 v59_1 k (v61_0 ++ [w64 ((w64 (a4 * 6)) + v59_1)]) (w64 (v61_1 + 1)) _ h)
      · exact .of_step tab mixed [bT, bF] [] [1, 2, 5, 6, 7] [0, 1, 2, 3, 4] (s1 := spec.l4Lives.l1.s a0 a1 a2 a3 a4 v59_1 v61_0 (w64 (v61_1 + 1))) (nd c1 (nd p1 (nd (of_decide_eq_true c1) (nd (tn p1 (of_decide_eq_true c1)) (nd c2 trivial))))) (by kernel_rfl) (spec.l4Lives.l1.spec a0 a1 a2 a3 a4 v59_1 k v61_0 (w64 (v61_1 + 1)) _ h)
    · obtain rfl := Option.some.inj h
      exact .of_done tab mixed [bF] [] [1, 2, 5, 6] [0, 1, 2, 3, 4] rfl (nd c1 trivial) (by kernel_rfl)
def spec.l4Lives.l0.f (K : Nat) (a0 : List ByteArray) (a1 : List Int) (a2 : List Int) (a3 : Int) (a4 : Int) : Nat → (List Int) → Int → Option ((List Int))
  | 0, _, _ => none
  | k + 1, v59_0, v59_1 =>
    cond (decide (v59_1 < 6)) (Option.bind (spec.l4Lives.l1.f a0 a1 a2 a3 a4 v59_1 K v59_0 0) fun x1 => spec.l4Lives.l0.f K a0 a1 a2 a3 a4 k x1 (w64 (v59_1 + 1))) (some v59_0)
def spec.l4Lives.l0.s (K : Nat) (a0 : List ByteArray) (a1 : List Int) (a2 : List Int) (a3 : Int) (a4 : Int) (v59_0 : List Int) (v59_1 : Int) : St := mkSt 38 [(1, one (.int .i64 a4)), (2, one (.ptr 3 0 0)), (5, one (.sl 4 0 v59_0.length)), (6, one (.int .i64 v59_1))] [some ⟨false, .strs a0⟩, some ⟨false, .ints .i64 a1⟩, some ⟨false, .ints .i64 a2⟩, some ⟨true, .cells [.sl 0 0 a0.length, .sl 1 0 a1.length, .sl 2 0 a2.length, .int .i64 a3]⟩, some ⟨true, .ints .i64 v59_0⟩]
def spec.l4Lives.l0.e0 (K : Nat) (a0 : List ByteArray) (a1 : List Int) (a2 : List Int) (a3 : Int) (a4 : Int) (o : (List Int)) : St := mkSt 38 [(5, one (.sl 3 0 o.length))] [some ⟨false, .strs a0⟩, some ⟨false, .ints .i64 a1⟩, some ⟨false, .ints .i64 a2⟩, some ⟨true, .ints .i64 o⟩]
def spec.l4Lives.l0.x (K : Nat) (a0 : List ByteArray) (a1 : List Int) (a2 : List Int) (a3 : Int) (a4 : Int) : ((List Int)) → AExit × St := fun o => (.exit 0, spec.l4Lives.l0.e0 K a0 a1 a2 a3 a4 o)
theorem spec.l4Lives.l0.spec (K : Nat) (a0 : List ByteArray) (a1 : List Int) (a2 : List Int) (a3 : Int) (a4 : Int) : ∀ (k : Nat) (v59_0 : List Int) (v59_1 : Int) (o : (List Int)), spec.l4Lives.l0.f K a0 a1 a2 a3 a4 k v59_0 v59_1 = some o → LoopSpec Tryz.prog 3 (loopN Tryz.f146 0) (spec.l4Lives.l0.s K a0 a1 a2 a3 a4 v59_0 v59_1) (spec.l4Lives.l0.x K a0 a1 a2 a3 a4 o).1 (spec.l4Lives.l0.x K a0 a1 a2 a3 a4 o).2
  | 0, _, _, _, h => by cases h
  | k + 1, v59_0, v59_1, o, h => by
    unfold spec.l4Lives.l0.f at h
    rcases br_cases h with ⟨c1, h⟩ | ⟨c1, h⟩
    · obtain ⟨x1, e1, h⟩ := bind_some h
      exact .of_step tab mixed [bT, .loop [] [1, 2, 5, 6, 7] [0, 1, 2, 3, 4] (.exit 2) (spec.l4Lives.l1.e0 a0 a1 a2 a3 a4 v59_1 x1)] [] [1, 2, 5, 6] [0, 1, 2, 3, 4] (s1 := spec.l4Lives.l0.s K a0 a1 a2 a3 a4 x1 (w64 (v59_1 + 1))) (nd c1 (nd (spec.l4Lives.l1.spec a0 a1 a2 a3 a4 v59_1 K v59_0 0 _ e1) trivial)) (by kernel_rfl) (spec.l4Lives.l0.spec K a0 a1 a2 a3 a4 k x1 (w64 (v59_1 + 1)) _ h)
    · obtain rfl := Option.some.inj h
      exact .of_done tab mixed [bF] [] [5] [0, 1, 2, 4] rfl (nd c1 trivial) (by kernel_rfl)
def spec.l4Lives.f (K : Nat) (a0 : List ByteArray) (a1 : List Int) (a2 : List Int) (a3 : Int) (a4 : Int) : Option ((List Int)) :=
  Option.bind (spec.l4Lives.l0.f K a0 a1 a2 a3 a4 K [] 0) fun x1 => some x1
theorem spec.l4Lives.spec (K : Nat) (a0 : List ByteArray) (a1 : List Int) (a2 : List Int) (a3 : Int) (a4 : Int) (o : (List Int)) (h : spec.l4Lives.f K a0 a1 a2 a3 a4 = some o) : Den.Spec Tryz.prog 146 [.v (.agg [.sl 0 0 a0.length, .sl 1 0 a1.length, .sl 2 0 a2.length, .int .i64 a3]), one (.int .i64 a4)] [some ⟨false, .strs a0⟩, some ⟨false, .ints .i64 a1⟩, some ⟨false, .ints .i64 a2⟩] (one (.sl 3 0 o.length)) [some ⟨false, .strs a0⟩, some ⟨false, .ints .i64 a1⟩, some ⟨false, .ints .i64 a2⟩, some ⟨true, .ints .i64 o⟩] := by
  unfold spec.l4Lives.f at h
  obtain ⟨x1, e1, h⟩ := bind_some h
  obtain rfl := Option.some.inj h
  exact Den.Spec.of_walk tab mixed Tryz.func146 (by kernel_rfl) [.loop [] [1, 2, 5, 6] [0, 1, 2, 3, 4] (.exit 0) (spec.l4Lives.l0.e0 K a0 a1 a2 a3 a4 x1)] [] [0, 1, 2, 3] (nd (spec.l4Lives.l0.spec K a0 a1 a2 a3 a4 K [] 0 _ e1) trivial) (by kernel_rfl)
def spec.Worst.l0.f (K : Nat) (a0 : List ByteArray) (a1 : List Int) (a2 : List Int) (a3 : Int) : Nat → Int → Int → Int → Int → Option (Int × Int)
  | 0, _, _, _, _ => none
  | k + 1, v63_0, v63_1, v63_2, v63_3 =>
    cond (decide (v63_3 < 10)) (Option.bind (spec.l4Clear.f K a0 a1 v63_3) fun x1 => Option.bind (spec.l4Lives.f K a0 a1 a2 a3 v63_3) fun x2 => cond (x1.1 == 6) (spec.Worst.l0.f K a0 a1 a2 a3 k v63_0 v63_1 v63_2 (w64 (v63_3 + 1))) (cond (v63_3 == v63_2) (spec.Worst.l0.f K a0 a1 a2 a3 k v63_0 v63_1 v63_2 (w64 (v63_3 + 1))) (cond (decide (v63_0 < 0)) (spec.Worst.l0.f K a0 a1 a2 a3 k v63_3 (x2.length : Int) v63_2 (w64 (v63_3 + 1))) (cond (decide ((x2.length : Int) < v63_1)) (spec.Worst.l0.f K a0 a1 a2 a3 k v63_3 (x2.length : Int) v63_2 (w64 (v63_3 + 1))) (cond ((x2.length : Int) == v63_1) (ck (0 ≤ v63_3) (ck (v63_3 < (a1.length : Int)) (ck (v63_0 < (a1.length : Int)) (cond (decide ((a1.getD v63_3.toNat 0) < (a1.getD v63_0.toNat 0))) (spec.Worst.l0.f K a0 a1 a2 a3 k v63_3 (x2.length : Int) v63_2 (w64 (v63_3 + 1))) (spec.Worst.l0.f K a0 a1 a2 a3 k v63_0 v63_1 v63_2 (w64 (v63_3 + 1))))))) (spec.Worst.l0.f K a0 a1 a2 a3 k v63_0 v63_1 v63_2 (w64 (v63_3 + 1)))))))) (some (v63_0, v63_1))
def spec.Worst.l0.s (K : Nat) (a0 : List ByteArray) (a1 : List Int) (a2 : List Int) (a3 : Int) (v63_0 : Int) (v63_1 : Int) (v63_2 : Int) (v63_3 : Int) : St := mkSt 70 [(1, one (.ptr 3 0 0)), (3, one (.int .i64 v63_0)), (4, one (.int .i64 v63_1)), (5, one (.int .i64 v63_2)), (6, one (.int .i64 v63_3))] [some ⟨false, .strs a0⟩, some ⟨false, .ints .i64 a1⟩, some ⟨false, .ints .i64 a2⟩, some ⟨true, .cells [.sl 0 0 a0.length, .sl 1 0 a1.length, .sl 2 0 a2.length, .int .i64 a3]⟩]
def spec.Worst.l0.e0 (K : Nat) (a0 : List ByteArray) (a1 : List Int) (a2 : List Int) (a3 : Int) (o : Int × Int) : St := mkSt 70 [(3, one (.int .i64 o.1)), (4, one (.int .i64 o.2))] [some ⟨false, .strs a0⟩, some ⟨false, .ints .i64 a1⟩, some ⟨false, .ints .i64 a2⟩]
def spec.Worst.l0.x (K : Nat) (a0 : List ByteArray) (a1 : List Int) (a2 : List Int) (a3 : Int) : (Int × Int) → AExit × St := fun o => (.exit 0, spec.Worst.l0.e0 K a0 a1 a2 a3 o)
theorem spec.Worst.l0.spec (K : Nat) (a0 : List ByteArray) (a1 : List Int) (a2 : List Int) (a3 : Int) : ∀ (k : Nat) (v63_0 : Int) (v63_1 : Int) (v63_2 : Int) (v63_3 : Int) (o : Int × Int), spec.Worst.l0.f K a0 a1 a2 a3 k v63_0 v63_1 v63_2 v63_3 = some o → LoopSpec Tryz.prog 3 (loopN Tryz.f132 0) (spec.Worst.l0.s K a0 a1 a2 a3 v63_0 v63_1 v63_2 v63_3) (spec.Worst.l0.x K a0 a1 a2 a3 o).1 (spec.Worst.l0.x K a0 a1 a2 a3 o).2
  | 0, _, _, _, _, _, h => by cases h
  | k + 1, v63_0, v63_1, v63_2, v63_3, o, h => by
    unfold spec.Worst.l0.f at h
    rcases br_cases h with ⟨c1, h⟩ | ⟨c1, h⟩
    · obtain ⟨x1, e1, h⟩ := bind_some h
      obtain ⟨x2, e2, h⟩ := bind_some h
      rcases br_cases h with ⟨c2, h⟩ | ⟨c2, h⟩
      · exact .of_step tab mixed [bT, .call [(0, false), (1, false)] [] (.tup [.c (.int .i64 x1.1), .c (.int .i64 x1.2)]) [some ⟨false, .strs a0⟩, some ⟨false, .ints .i64 a1⟩], .call [(0, false), (1, false), (2, false)] [] (one (.sl 3 0 x2.length)) [some ⟨false, .strs a0⟩, some ⟨false, .ints .i64 a1⟩, some ⟨false, .ints .i64 a2⟩, some ⟨true, .ints .i64 x2⟩], bT, bT, bT, bT, bT] [] [1, 3, 4, 5, 6] [0, 1, 2, 3] (s1 := spec.Worst.l0.s K a0 a1 a2 a3 v63_0 v63_1 v63_2 (w64 (v63_3 + 1))) (nd c1 (nd (spec.l4Clear.spec K a0 a1 v63_3 _ e1) (nd (spec.l4Lives.spec K a0 a1 a2 a3 v63_3 _ e2) (nd c2 (nd c2 (nd c2 (nd c2 (nd tt trivial)))))))) (by kernel_rfl) (spec.Worst.l0.spec K a0 a1 a2 a3 k v63_0 v63_1 v63_2 (w64 (v63_3 + 1)) _ h)
      · rcases br_cases h with ⟨c3, h⟩ | ⟨c3, h⟩
        · exact .of_step tab mixed [bT, .call [(0, false), (1, false)] [] (.tup [.c (.int .i64 x1.1), .c (.int .i64 x1.2)]) [some ⟨false, .strs a0⟩, some ⟨false, .ints .i64 a1⟩], .call [(0, false), (1, false), (2, false)] [] (one (.sl 3 0 x2.length)) [some ⟨false, .strs a0⟩, some ⟨false, .ints .i64 a1⟩, some ⟨false, .ints .i64 a2⟩, some ⟨true, .ints .i64 x2⟩], bF, bF, bF, bF, bT] [] [1, 3, 4, 5, 6] [0, 1, 2, 3] (s1 := spec.Worst.l0.s K a0 a1 a2 a3 v63_0 v63_1 v63_2 (w64 (v63_3 + 1))) (nd c1 (nd (spec.l4Clear.spec K a0 a1 v63_3 _ e1) (nd (spec.l4Lives.spec K a0 a1 a2 a3 v63_3 _ e2) (nd c2 (nd c2 (nd c2 (nd c2 (nd c3 trivial)))))))) (by kernel_rfl) (spec.Worst.l0.spec K a0 a1 a2 a3 k v63_0 v63_1 v63_2 (w64 (v63_3 + 1)) _ h)
        · rcases br_cases h with ⟨c4, h⟩ | ⟨c4, h⟩
          · exact .of_step tab mixed [bT, .call [(0, false), (1, false)] [] (.tup [.c (.int .i64 x1.1), .c (.int .i64 x1.2)]) [some ⟨false, .strs a0⟩, some ⟨false, .ints .i64 a1⟩], .call [(0, false), (1, false), (2, false)] [] (one (.sl 3 0 x2.length)) [some ⟨false, .strs a0⟩, some ⟨false, .ints .i64 a1⟩, some ⟨false, .ints .i64 a2⟩, some ⟨true, .ints .i64 x2⟩], bF, bF, bF, bF, bF, bT, bT, bT, bT, bT, bT, bT, bT, bT, bT, bT] [] [1, 3, 4, 5, 6] [0, 1, 2, 3] (s1 := spec.Worst.l0.s K a0 a1 a2 a3 v63_3 (x2.length : Int) v63_2 (w64 (v63_3 + 1))) (nd c1 (nd (spec.l4Clear.spec K a0 a1 v63_3 _ e1) (nd (spec.l4Lives.spec K a0 a1 a2 a3 v63_3 _ e2) (nd c2 (nd c2 (nd c2 (nd c2 (nd c3 (nd c4 (nd c4 (nd c4 (nd c4 (nd tt (nd tt (nd tt (nd tt (nd tt (nd tt (nd tt trivial))))))))))))))))))) (by kernel_rfl) (spec.Worst.l0.spec K a0 a1 a2 a3 k v63_3 (x2.length : Int) v63_2 (w64 (v63_3 + 1)) _ h)
          · rcases br_cases h with ⟨c5, h⟩ | ⟨c5, h⟩
            · exact .of_step tab mixed [bT, .call [(0, false), (1, false)] [] (.tup [.c (.int .i64 x1.1), .c (.int .i64 x1.2)]) [some ⟨false, .strs a0⟩, some ⟨false, .ints .i64 a1⟩], .call [(0, false), (1, false), (2, false)] [] (one (.sl 3 0 x2.length)) [some ⟨false, .strs a0⟩, some ⟨false, .ints .i64 a1⟩, some ⟨false, .ints .i64 a2⟩, some ⟨true, .ints .i64 x2⟩], bF, bF, bF, bF, bF, bF, bF, bF, bF, bT, bT, bT, bT, bT, bT, bT] [] [1, 3, 4, 5, 6] [0, 1, 2, 3] (s1 := spec.Worst.l0.s K a0 a1 a2 a3 v63_3 (x2.length : Int) v63_2 (w64 (v63_3 + 1))) (nd c1 (nd (spec.l4Clear.spec K a0 a1 v63_3 _ e1) (nd (spec.l4Lives.spec K a0 a1 a2 a3 v63_3 _ e2) (nd c2 (nd c2 (nd c2 (nd c2 (nd c3 (nd c4 (nd c4 (nd c4 (nd c4 (nd c5 (nd c5 (nd c5 (nd c5 (nd c5 (nd c5 (nd tt trivial))))))))))))))))))) (by kernel_rfl) (spec.Worst.l0.spec K a0 a1 a2 a3 k v63_3 (x2.length : Int) v63_2 (w64 (v63_3 + 1)) _ h)
            · rcases br_cases h with ⟨c6, h⟩ | ⟨c6, h⟩
              · obtain ⟨p1, h⟩ := ck_some h
                obtain ⟨p2, h⟩ := ck_some h
                obtain ⟨p3, h⟩ := ck_some h
                rcases br_cases h with ⟨c7, h⟩ | ⟨c7, h⟩
                · exact .of_step tab mixed [bT, .call [(0, false), (1, false)] [] (.tup [.c (.int .i64 x1.1), .c (.int .i64 x1.2)]) [some ⟨false, .strs a0⟩, some ⟨false, .ints .i64 a1⟩], .call [(0, false), (1, false), (2, false)] [] (one (.sl 3 0 x2.length)) [some ⟨false, .strs a0⟩, some ⟨false, .ints .i64 a1⟩, some ⟨false, .ints .i64 a2⟩, some ⟨true, .ints .i64 x2⟩], bF, bF, bF, bF, bF, bF, bF, bF, bF, bF, bF, bF, bF, bT, bT, bT, bT, bT, bT, bT, bT, bT, bT, bT, bT, bT, bF, bT, bF, bT] [] [1, 3, 4, 5, 6] [0, 1, 2, 3] (s1 := spec.Worst.l0.s K a0 a1 a2 a3 v63_3 (x2.length : Int) v63_2 (w64 (v63_3 + 1))) (nd c1 (nd (spec.l4Clear.spec K a0 a1 v63_3 _ e1) (nd (spec.l4Lives.spec K a0 a1 a2 a3 v63_3 _ e2) (nd c2 (nd c2 (nd c2 (nd c2 (nd c3 (nd c4 (nd c4 (nd c4 (nd c4 (nd c5 (nd c5 (nd c5 (nd c5 (nd c6 (nd c6 (nd c6 (nd c6 (nd c6 (nd p1 (nd p2 (nd c6 (nd (tn p1 p2) (nd c6 (nd c6 (nd c6 (nd c6 (nd c6 (nd (Int.not_lt.1 (of_decide_eq_false c4)) (nd p3 (nd c6 (nd (tn (Int.not_lt.1 (of_decide_eq_false c4)) p3) (nd c6 (nd c5 (nd c6 (nd c5 (nd c7 trivial))))))))))))))))))))))))))))))))))))))) (by kernel_rfl) (spec.Worst.l0.spec K a0 a1 a2 a3 k v63_3 (x2.length : Int) v63_2 (w64 (v63_3 + 1)) _ h)
                · exact .of_step tab mixed [bT, .call [(0, false), (1, false)] [] (.tup [.c (.int .i64 x1.1), .c (.int .i64 x1.2)]) [some ⟨false, .strs a0⟩, some ⟨false, .ints .i64 a1⟩], .call [(0, false), (1, false), (2, false)] [] (one (.sl 3 0 x2.length)) [some ⟨false, .strs a0⟩, some ⟨false, .ints .i64 a1⟩, some ⟨false, .ints .i64 a2⟩, some ⟨true, .ints .i64 x2⟩], bF, bF, bF, bF, bF, bF, bF, bF, bF, bF, bF, bF, bF, bT, bT, bT, bT, bT, bT, bT, bT, bT, bT, bT, bT, bT, bF, bT, bF, bF] [] [1, 3, 4, 5, 6] [0, 1, 2, 3] (s1 := spec.Worst.l0.s K a0 a1 a2 a3 v63_0 v63_1 v63_2 (w64 (v63_3 + 1))) (nd c1 (nd (spec.l4Clear.spec K a0 a1 v63_3 _ e1) (nd (spec.l4Lives.spec K a0 a1 a2 a3 v63_3 _ e2) (nd c2 (nd c2 (nd c2 (nd c2 (nd c3 (nd c4 (nd c4 (nd c4 (nd c4 (nd c5 (nd c5 (nd c5 (nd c5 (nd c6 (nd c6 (nd c6 (nd c6 (nd c6 (nd p1 (nd p2 (nd c6 (nd (tn p1 p2) (nd c6 (nd c6 (nd c6 (nd c6 (nd c6 (nd (Int.not_lt.1 (of_decide_eq_false c4)) (nd p3 (nd c6 (nd (tn (Int.not_lt.1 (of_decide_eq_false c4)) p3) (nd c6 (nd c5 (nd c6 (nd c5 (nd c7 trivial))))))))))))))))))))))))))))))))))))))) (by kernel_rfl) (spec.Worst.l0.spec K a0 a1 a2 a3 k v63_0 v63_1 v63_2 (w64 (v63_3 + 1)) _ h)
              · exact .of_step tab mixed [bT, .call [(0, false), (1, false)] [] (.tup [.c (.int .i64 x1.1), .c (.int .i64 x1.2)]) [some ⟨false, .strs a0⟩, some ⟨false, .ints .i64 a1⟩], .call [(0, false), (1, false), (2, false)] [] (one (.sl 3 0 x2.length)) [some ⟨false, .strs a0⟩, some ⟨false, .ints .i64 a1⟩, some ⟨false, .ints .i64 a2⟩, some ⟨true, .ints .i64 x2⟩], bF, bF, bF, bF, bF, bF, bF, bF, bF, bF, bF, bF, bF, bF, bF, bF, bF, bF, bF, bF, bF, bF, bF, bF, bF, bF, bF, bF, bF, bF] [] [1, 3, 4, 5, 6] [0, 1, 2, 3] (s1 := spec.Worst.l0.s K a0 a1 a2 a3 v63_0 v63_1 v63_2 (w64 (v63_3 + 1))) (nd c1 (nd (spec.l4Clear.spec K a0 a1 v63_3 _ e1) (nd (spec.l4Lives.spec K a0 a1 a2 a3 v63_3 _ e2) (nd c2 (nd c2 (nd c2 (nd c2 (nd c3 (nd c4 (nd c4 (nd c4 (nd c4 (nd c5 (nd c5 (nd c5 (nd c5 (nd c6 (nd c6 (nd c6 (nd c6 (nd c6 (nd c6 (nd c6 (nd c6 (nd c6 (nd c6 (nd c6 (nd c6 (nd c6 (nd c5 (nd c6 (nd c5 (nd ff trivial))))))))))))))))))))))))))))))))) (by kernel_rfl) (spec.Worst.l0.spec K a0 a1 a2 a3 k v63_0 v63_1 v63_2 (w64 (v63_3 + 1)) _ h)
    · obtain rfl := Option.some.inj h
      exact .of_done tab mixed [bF] [] [3, 4] [0, 1, 2] rfl (nd c1 trivial) (by kernel_rfl)
def spec.Worst.f (K : Nat) (a0 : List ByteArray) (a1 : List Int) (a2 : List Int) (a3 : Int) : Option (Int) :=
  Option.bind (spec.FtlOk.f K a0 a1 a2 a3) fun x1 => cond (x1) (Option.bind (spec.l5Open.f K a0 a1) fun x2 => Option.bind (spec.Worst.l0.f K a0 a1 a2 a3 K (-1) 0 x2 0) fun x3 => cond (x3.2 == 6) (some (-1)) (some x3.1)) (some (-1))
theorem spec.Worst.spec (K : Nat) (a0 : List ByteArray) (a1 : List Int) (a2 : List Int) (a3 : Int) (o : Int) (h : spec.Worst.f K a0 a1 a2 a3 = some o) : Den.Spec Tryz.prog 132 [.v (.agg [.sl 0 0 a0.length, .sl 1 0 a1.length, .sl 2 0 a2.length, .int .i64 a3])] [some ⟨false, .strs a0⟩, some ⟨false, .ints .i64 a1⟩, some ⟨false, .ints .i64 a2⟩] (one (.int .i64 o)) [some ⟨false, .strs a0⟩, some ⟨false, .ints .i64 a1⟩, some ⟨false, .ints .i64 a2⟩] := by
  unfold spec.Worst.f at h
  obtain ⟨x1, e1, h⟩ := bind_some h
  rcases br_cases h with ⟨c1, h⟩ | ⟨c1, h⟩
  · obtain ⟨x2, e2, h⟩ := bind_some h
    obtain ⟨x3, e3, h⟩ := bind_some h
    rcases br_cases h with ⟨c2, h⟩ | ⟨c2, h⟩
    · obtain rfl := Option.some.inj h
      exact Den.Spec.of_walk tab mixed Tryz.func132 (by kernel_rfl) [.call [(0, false), (1, false), (2, false)] [] (one (.bool x1)) [some ⟨false, .strs a0⟩, some ⟨false, .ints .i64 a1⟩, some ⟨false, .ints .i64 a2⟩], bF, .call [(0, false), (1, false)] [] (one (.int .i64 x2)) [some ⟨false, .strs a0⟩, some ⟨false, .ints .i64 a1⟩], .loop [] [1, 3, 4, 5, 6] [0, 1, 2, 3] (.exit 0) (spec.Worst.l0.e0 K a0 a1 a2 a3 x3), bT] [] [0, 1, 2] (nd (spec.FtlOk.spec K a0 a1 a2 a3 _ e1) (nd (nf c1) (nd (spec.l5Open.spec K a0 a1 _ e2) (nd (spec.Worst.l0.spec K a0 a1 a2 a3 K (-1) 0 x2 0 _ e3) (nd c2 trivial))))) (by kernel_rfl)
    · obtain rfl := Option.some.inj h
      exact Den.Spec.of_walk tab mixed Tryz.func132 (by kernel_rfl) [.call [(0, false), (1, false), (2, false)] [] (one (.bool x1)) [some ⟨false, .strs a0⟩, some ⟨false, .ints .i64 a1⟩, some ⟨false, .ints .i64 a2⟩], bF, .call [(0, false), (1, false)] [] (one (.int .i64 x2)) [some ⟨false, .strs a0⟩, some ⟨false, .ints .i64 a1⟩], .loop [] [1, 3, 4, 5, 6] [0, 1, 2, 3] (.exit 0) (spec.Worst.l0.e0 K a0 a1 a2 a3 x3), bF] [] [0, 1, 2] (nd (spec.FtlOk.spec K a0 a1 a2 a3 _ e1) (nd (nf c1) (nd (spec.l5Open.spec K a0 a1 _ e2) (nd (spec.Worst.l0.spec K a0 a1 a2 a3 K (-1) 0 x2 0 _ e3) (nd c2 trivial))))) (by kernel_rfl)
  · obtain rfl := Option.some.inj h
    exact Den.Spec.of_walk tab mixed Tryz.func132 (by kernel_rfl) [.call [(0, false), (1, false), (2, false)] [] (one (.bool x1)) [some ⟨false, .strs a0⟩, some ⟨false, .ints .i64 a1⟩, some ⟨false, .ints .i64 a2⟩], bT] [] [0, 1, 2] (nd (spec.FtlOk.spec K a0 a1 a2 a3 _ e1) (nd (nt c1) trivial)) (by kernel_rfl)
def spec.l5Burn.f (K : Nat) (a0 : List ByteArray) (a1 : List Int) (a2 : List Int) (a3 : Int) (a4 : List (Int × Int × ByteArray)) (a5 : Bool) (a6 : Int) (a7 : ByteArray) : Option ((List ByteArray) × (List Int) × Int × (List (Int × Int × ByteArray)) × Bool) :=
  Option.bind (spec.l4Next.f K a0 a1) fun x1 => Option.bind (spec.RecText.f K a6 a3 a7) fun x2 => cond (decide (x1 < 0)) (some (a0, a2, a3, a4, false)) (cond (strEq x2 noVal) (some (a0, a2, a3, a4, false)) (cond (a3 == 1000000000) (some (a0, a2, a3, a4, false)) (ck ((a4 ++ [((1 : Int), x1, x2)]).length * 32 ≤ 70368744177664) (ck (x1 < (a0.length : Int)) (ck (0 ≤ a6) (ck (a6 < (a2.length : Int)) (some (a0.set x1.toNat x2, a2.set a6.toNat x1, w64 (a3 + 1), a4 ++ [((1 : Int), x1, x2)], a5))))))))
theorem spec.l5Burn.spec (K : Nat) (a0 : List ByteArray) (a1 : List Int) (a2 : List Int) (a3 : Int) (a4 : List (Int × Int × ByteArray)) (a5 : Bool) (a6 : Int) (a7 : ByteArray) (o : (List ByteArray) × (List Int) × Int × (List (Int × Int × ByteArray)) × Bool) (h : spec.l5Burn.f K a0 a1 a2 a3 a4 a5 a6 a7 = some o) : Den.Spec Tryz.prog 107 [one (.ptr 0 0 0), one (.int .i64 a6), one (.str a7)] [some ⟨true, .cells [.sl 1 0 a0.length, .sl 2 0 a1.length, .sl 3 0 a2.length, .int .i64 a3, .sl 4 0 a4.length, .bool a5]⟩, some ⟨true, .strs a0⟩, some ⟨true, .ints .i64 a1⟩, some ⟨true, .ints .i64 a2⟩, some ⟨true, .acts a4⟩] (.tup []) [some ⟨true, .cells [.sl 1 0 o.1.length, .sl 2 0 a1.length, .sl 3 0 o.2.1.length, .int .i64 o.2.2.1, .sl 5 0 o.2.2.2.1.length, .bool o.2.2.2.2]⟩, some ⟨true, .strs o.1⟩, some ⟨true, .ints .i64 a1⟩, some ⟨true, .ints .i64 o.2.1⟩, none, some ⟨true, .acts o.2.2.2.1⟩] := by
  unfold spec.l5Burn.f at h
  obtain ⟨x1, e1, h⟩ := bind_some h
  obtain ⟨x2, e2, h⟩ := bind_some h
  rcases br_cases h with ⟨c1, h⟩ | ⟨c1, h⟩
  · obtain rfl := Option.some.inj h
    exact Den.Spec.of_walk tab mixed Tryz.func107 (by kernel_rfl) [.call [(1, false), (2, false)] [] (one (.int .i64 x1)) [some ⟨false, .strs a0⟩, some ⟨false, .ints .i64 a1⟩], .call [] [] (one (.str x2)) [], bT, bT, bT, bT, bT, bT, bT, bT, bT, bT, bT] [(1000004, [])] [0, 1, 2, 3, 4, 5] (nd (spec.l4Next.spec K a0 a1 _ e1) (nd (spec.RecText.spec K a6 a3 a7 _ e2) (nd c1 (nd c1 (nd c1 (nd tt (nd tt (nd tt (nd tt (nd tt (nd tt (nd tt (nd tt trivial))))))))))))) (by kernel_rfl)
  · rcases br_cases h with ⟨c2, h⟩ | ⟨c2, h⟩
    · obtain rfl := Option.some.inj h
      exact Den.Spec.of_walk tab mixed Tryz.func107 (by kernel_rfl) [.call [(1, false), (2, false)] [] (one (.int .i64 x1)) [some ⟨false, .strs a0⟩, some ⟨false, .ints .i64 a1⟩], .call [] [] (one (.str x2)) [], bF, bF, bF, bT, bT, bT, bT, bT, bT, bT, bT] [(1000004, [])] [0, 1, 2, 3, 4, 5] (nd (spec.l4Next.spec K a0 a1 _ e1) (nd (spec.RecText.spec K a6 a3 a7 _ e2) (nd c1 (nd c1 (nd c1 (nd c2 (nd c2 (nd c2 (nd c2 (nd c2 (nd c2 (nd c2 (nd tt trivial))))))))))))) (by kernel_rfl)
    · rcases br_cases h with ⟨c3, h⟩ | ⟨c3, h⟩
      · obtain rfl := Option.some.inj h
        exact Den.Spec.of_walk tab mixed Tryz.func107 (by kernel_rfl) [.call [(1, false), (2, false)] [] (one (.int .i64 x1)) [some ⟨false, .strs a0⟩, some ⟨false, .ints .i64 a1⟩], .call [] [] (one (.str x2)) [], bF, bF, bF, bF, bF, bF, bF, bF, bF, bF, bT] [(1000004, [])] [0, 1, 2, 3, 4, 5] (nd (spec.l4Next.spec K a0 a1 _ e1) (nd (spec.RecText.spec K a6 a3 a7 _ e2) (nd c1 (nd c1 (nd c1 (nd c2 (nd c2 (nd c2 (nd c2 (nd c2 (nd c2 (nd c2 (nd c3 trivial))))))))))))) (by kernel_rfl)
      · obtain ⟨p1, h⟩ := ck_some h
        obtain ⟨p2, h⟩ := ck_some h
        obtain ⟨p3, h⟩ := ck_some h
        obtain ⟨p4, h⟩ := ck_some h
        obtain rfl := Option.some.inj h
        exact Den.Spec.eqd (r := .tup []) (h' := [some ⟨true, .cells [.sl 1 0 a0.length, .sl 2 0 a1.length, .sl 3 0 a2.length, .int .i64 (w64 (a3 + 1)), .sl 5 0 ((a4 ++ [((1 : Int), x1, x2)]).length), .bool a5]⟩, some ⟨true, .strs (a0.set x1.toNat x2)⟩, some ⟨true, .ints .i64 a1⟩, some ⟨true, .ints .i64 (a2.set a6.toNat x1)⟩, none, some ⟨true, .acts (a4 ++ [((1 : Int), x1, x2)])⟩]) (Den.Spec.of_walk tab mixed Tryz.func107 (by kernel_rfl) [.call [(1, false), (2, false)] [] (one (.int .i64 x1)) [some ⟨false, .strs a0⟩, some ⟨false, .ints .i64 a1⟩], .call [] [] (one (.str x2)) [], bF, bF, bF, bF, bF, bF, bF, bF, bF, bF, bF, bT] [] [0, 1, 2, 3, 4, 6] (nd (spec.l4Next.spec K a0 a1 _ e1) (nd (spec.RecText.spec K a6 a3 a7 _ e2) (nd c1 (nd c1 (nd c1 (nd c2 (nd c2 (nd c2 (nd c2 (nd c2 (nd c2 (nd c2 (nd c3 (n0 (nl a4 (nd p1 (n0 (nn 1 (nd (Int.not_lt.1 (of_decide_eq_false c1)) (nd p2 (nd (tn (Int.not_lt.1 (of_decide_eq_false c1)) p2) (nd p3 (nd p4 (nd (tn p3 p4) trivial)))))))))))))))))))))))) (by kernel_rfl)) (by simp only [List.length_set, overL_length]) (by simp only [List.length_set, overL_length])
def spec.l5Clean.l0.f (K : Nat) (a1 : List Int) (a6 : Int) : Nat → (List ByteArray) → (List Int) → Int → (List (Int × Int × ByteArray)) → Bool → (List Int) → Int → Option (((List ByteArray) × (List Int) × Int × (List (Int × Int × ByteArray))) ⊕ ((List ByteArray) × (List Int) × Int × (List (Int × Int × ByteArray)) × Bool))
  | 0, _, _, _, _, _, _, _ => none
  | k + 1, v72_0, v72_1, v72_2, v72_3, v72_4, v72_5, v72_6 =>
    cond (decide (v72_6 < (v72_5.length : Int))) (cond (v72_4) (ck (0 ≤ v72_6) (ck (0 ≤ (v72_5.getD v72_6.toNat 0)) (ck ((v72_5.getD v72_6.toNat 0) < (v72_0.length : Int)) (Option.bind (spec.RecRead.f K (v72_0.getD ((v72_5.getD v72_6.toNat 0).toNat) noVal)) fun x1 => Option.bind (spec.l4Next.f K v72_0 a1) fun x2 => cond (decide (x2 < 0)) (some (.inl (v72_0, v72_1, v72_2, v72_3))) (cond ((w64 (x2.tdiv 6)) == a6) (some (.inl (v72_0, v72_1, v72_2, v72_3))) (Option.bind (spec.l5Burn.f K v72_0 a1 v72_1 v72_2 v72_3 v72_4 x1.1 x1.2.2.1) fun x3 => spec.l5Clean.l0.f K a1 a6 k x3.1 x3.2.1 x3.2.2.1 x3.2.2.2.1 x3.2.2.2.2 v72_5 (w64 (v72_6 + 1)))))))) (some (.inr ((v72_0, v72_1, v72_2, v72_3, v72_4))))) (some (.inr ((v72_0, v72_1, v72_2, v72_3, v72_4))))
def spec.l5Clean.l0.s (K : Nat) (a1 : List Int) (a6 : Int) (v72_0 : List ByteArray) (v72_1 : List Int) (v72_2 : Int) (v72_3 : List (Int × Int × ByteArray)) (v72_4 : Bool) (v72_5 : List Int) (v72_6 : Int) : St := mkSt 108 [(0, one (.ptr 0 0 0)), (1, one (.int .i64 a6)), (4, one (.sl 6 0 v72_5.length)), (5, one (.int .i64 v72_6))] [some ⟨true, .cells [.sl 1 0 v72_0.length, .sl 2 0 a1.length, .sl 3 0 v72_1.length, .int .i64 v72_2, .sl 5 0 v72_3.length, .bool v72_4]⟩, some ⟨true, .strs v72_0⟩, some ⟨true, .ints .i64 a1⟩, some ⟨true, .ints .i64 v72_1⟩, none, some ⟨true, .acts v72_3⟩, some ⟨true, .ints .i64 v72_5⟩]
def spec.l5Clean.l0.e0 (K : Nat) (a1 : List Int) (a6 : Int) (o : (List ByteArray) × (List Int) × Int × (List (Int × Int × ByteArray))) : St := mkSt 108 [] [some ⟨true, .cells [.sl 1 0 o.1.length, .sl 2 0 a1.length, .sl 3 0 o.2.1.length, .int .i64 o.2.2.1, .sl 5 0 o.2.2.2.length, .bool false]⟩, some ⟨true, .strs o.1⟩, some ⟨true, .ints .i64 a1⟩, some ⟨true, .ints .i64 o.2.1⟩, none, some ⟨true, .acts o.2.2.2⟩]
def spec.l5Clean.l0.e1 (K : Nat) (a1 : List Int) (a6 : Int) (o : (List ByteArray) × (List Int) × Int × (List (Int × Int × ByteArray)) × Bool) : St := mkSt 108 [(0, one (.ptr 0 0 0)), (1, one (.int .i64 a6))] [some ⟨true, .cells [.sl 1 0 o.1.length, .sl 2 0 a1.length, .sl 3 0 o.2.1.length, .int .i64 o.2.2.1, .sl 5 0 o.2.2.2.1.length, .bool o.2.2.2.2]⟩, some ⟨true, .strs o.1⟩, some ⟨true, .ints .i64 a1⟩, some ⟨true, .ints .i64 o.2.1⟩, none, some ⟨true, .acts o.2.2.2.1⟩]
def spec.l5Clean.l0.x (K : Nat) (a1 : List Int) (a6 : Int) : (((List ByteArray) × (List Int) × Int × (List (Int × Int × ByteArray))) ⊕ ((List ByteArray) × (List Int) × Int × (List (Int × Int × ByteArray)) × Bool)) → AExit × St := Sum.elim (fun o => (.ret, spec.l5Clean.l0.e0 K a1 a6 o)) (fun o => (.exit 0, spec.l5Clean.l0.e1 K a1 a6 o))
theorem spec.l5Clean.l0.spec (K : Nat) (a1 : List Int) (a6 : Int) : ∀ (k : Nat) (v72_0 : List ByteArray) (v72_1 : List Int) (v72_2 : Int) (v72_3 : List (Int × Int × ByteArray)) (v72_4 : Bool) (v72_5 : List Int) (v72_6 : Int) (o : ((List ByteArray) × (List Int) × Int × (List (Int × Int × ByteArray))) ⊕ ((List ByteArray) × (List Int) × Int × (List (Int × Int × ByteArray)) × Bool)), spec.l5Clean.l0.f K a1 a6 k v72_0 v72_1 v72_2 v72_3 v72_4 v72_5 v72_6 = some o → LoopSpec Tryz.prog 5 (loopN Tryz.f133 0) (spec.l5Clean.l0.s K a1 a6 v72_0 v72_1 v72_2 v72_3 v72_4 v72_5 v72_6) (spec.l5Clean.l0.x K a1 a6 o).1 (spec.l5Clean.l0.x K a1 a6 o).2
  | 0, _, _, _, _, _, _, _, _, h => by cases h
  | k + 1, v72_0, v72_1, v72_2, v72_3, v72_4, v72_5, v72_6, o, h => by
    unfold spec.l5Clean.l0.f at h
    rcases br_cases h with ⟨c1, h⟩ | ⟨c1, h⟩
    · rcases br_cases h with ⟨c2, h⟩ | ⟨c2, h⟩
      · obtain ⟨p1, h⟩ := ck_some h
        obtain ⟨p2, h⟩ := ck_some h
        obtain ⟨p3, h⟩ := ck_some h
        obtain ⟨x1, e1, h⟩ := bind_some h
        obtain ⟨x2, e2, h⟩ := bind_some h
        rcases br_cases h with ⟨c3, h⟩ | ⟨c3, h⟩
        · obtain rfl := Option.some.inj h
          exact .of_done tab mixed [bT, bT, bT, bT, bT, bT, .call [] [] (.tup [.agg [.int .i64 x1.1, .int .i64 x1.2.1, .str x1.2.2.1], .c (.bool x1.2.2.2)]) [], .call [(1, false), (2, false)] [] (one (.int .i64 x2)) [some ⟨false, .strs v72_0⟩, some ⟨false, .ints .i64 a1⟩], bT, bT, bT, bT, bT, bT] [] [] [0, 1, 2, 3, 4, 5] rfl (nd c1 (nd c1 (nd c1 (nd c1 (nd c1 (nd c2 (nd p1 (nd (of_decide_eq_true c1) (nd (tn p1 (of_decide_eq_true c1)) (nd p2 (nd p3 (nd (tn p2 p3) (nd (spec.RecRead.spec K (v72_0.getD ((v72_5.getD v72_6.toNat 0).toNat) noVal) _ e1) (nd (spec.l4Next.spec K v72_0 a1 _ e2) (nd c3 (nd c3 (nd c3 (nd c3 (nd c3 (nd tt trivial)))))))))))))))))))) (by kernel_rfl)
        · rcases br_cases h with ⟨c4, h⟩ | ⟨c4, h⟩
          · obtain rfl := Option.some.inj h
            exact .of_done tab mixed [bT, bT, bT, bT, bT, bT, .call [] [] (.tup [.agg [.int .i64 x1.1, .int .i64 x1.2.1, .str x1.2.2.1], .c (.bool x1.2.2.2)]) [], .call [(1, false), (2, false)] [] (one (.int .i64 x2)) [some ⟨false, .strs v72_0⟩, some ⟨false, .ints .i64 a1⟩], bF, bF, bF, bF, bF, bT] [] [] [0, 1, 2, 3, 4, 5] rfl (nd c1 (nd c1 (nd c1 (nd c1 (nd c1 (nd c2 (nd p1 (nd (of_decide_eq_true c1) (nd (tn p1 (of_decide_eq_true c1)) (nd p2 (nd p3 (nd (tn p2 p3) (nd (spec.RecRead.spec K (v72_0.getD ((v72_5.getD v72_6.toNat 0).toNat) noVal) _ e1) (nd (spec.l4Next.spec K v72_0 a1 _ e2) (nd c3 (nd c3 (nd (by decide : (6 : Int) ≠ 0) (nd c3 (nd c3 (nd c3 (nd c4 trivial))))))))))))))))))))) (by kernel_rfl)
          · obtain ⟨x3, e3, h⟩ := bind_some h
            exact .of_step tab mixed [bT, bT, bT, bT, bT, bT, .call [] [] (.tup [.agg [.int .i64 x1.1, .int .i64 x1.2.1, .str x1.2.2.1], .c (.bool x1.2.2.2)]) [], .call [(1, false), (2, false)] [] (one (.int .i64 x2)) [some ⟨false, .strs v72_0⟩, some ⟨false, .ints .i64 a1⟩], bF, bF, bF, bF, bF, bF, .call [(0, true), (1, true), (2, true), (3, true), (5, true)] [] (.tup []) [some ⟨true, .cells [.sl 1 0 x3.1.length, .sl 2 0 a1.length, .sl 3 0 x3.2.1.length, .int .i64 x3.2.2.1, .sl 5 0 x3.2.2.2.1.length, .bool x3.2.2.2.2]⟩, some ⟨true, .strs x3.1⟩, some ⟨true, .ints .i64 a1⟩, some ⟨true, .ints .i64 x3.2.1⟩, none, some ⟨true, .acts x3.2.2.2.1⟩]] [] [0, 1, 4, 5] [0, 1, 2, 3, 4, 159, 6] (s1 := spec.l5Clean.l0.s K a1 a6 x3.1 x3.2.1 x3.2.2.1 x3.2.2.2.1 x3.2.2.2.2 v72_5 (w64 (v72_6 + 1))) (nd c1 (nd c1 (nd c1 (nd c1 (nd c1 (nd c2 (nd p1 (nd (of_decide_eq_true c1) (nd (tn p1 (of_decide_eq_true c1)) (nd p2 (nd p3 (nd (tn p2 p3) (nd (spec.RecRead.spec K (v72_0.getD ((v72_5.getD v72_6.toNat 0).toNat) noVal) _ e1) (nd (spec.l4Next.spec K v72_0 a1 _ e2) (nd c3 (nd c3 (nd (by decide : (6 : Int) ≠ 0) (nd c3 (nd c3 (nd c3 (nd c4 (nd (spec.l5Burn.spec K v72_0 a1 v72_1 v72_2 v72_3 v72_4 x1.1 x1.2.2.1 _ e3) trivial)))))))))))))))))))))) (by kernel_rfl) (spec.l5Clean.l0.spec K a1 a6 k x3.1 x3.2.1 x3.2.2.1 x3.2.2.2.1 x3.2.2.2.2 v72_5 (w64 (v72_6 + 1)) _ h)
      · obtain rfl := Option.some.inj h
        exact .of_done tab mixed [bT, bT, bT, bT, bT, bF] [] [0, 1] [0, 1, 2, 3, 4, 5] rfl (nd c1 (nd c1 (nd c1 (nd c1 (nd c1 (nd c2 trivial)))))) (by kernel_rfl)
    · obtain rfl := Option.some.inj h
      exact .of_done tab mixed [bF, bF, bF, bF, bF, bF] [] [0, 1] [0, 1, 2, 3, 4, 5] rfl (nd c1 (nd c1 (nd c1 (nd c1 (nd c1 (nd ff trivial)))))) (by kernel_rfl)
def spec.l2Wipe.l0.f (a1 : List Int) (a2 : Int) (a3 : Int) : Nat → (List ByteArray) → Int → Option ((List ByteArray))
  | 0, _, _ => none
  | k + 1, v69_0, v69_1 =>
    cond (decide (v69_1 < a3)) (cond (decide (v69_1 < 6)) (ck (0 ≤ (w64 ((w64 (a2 * 6)) + v69_1))) (ck ((w64 ((w64 (a2 * 6)) + v69_1)) < (v69_0.length : Int)) (spec.l2Wipe.l0.f a1 a2 a3 k (v69_0.set ((w64 ((w64 (a2 * 6)) + v69_1)).toNat) noVal) (w64 (v69_1 + 1))))) (some v69_0)) (some v69_0)
def spec.l2Wipe.l0.s (a1 : List Int) (a2 : Int) (a3 : Int) (v69_0 : List ByteArray) (v69_1 : Int) : St := mkSt 35 [(1, one (.int .i64 a2)), (2, one (.int .i64 a3)), (3, one (.ptr 2 0 0)), (6, one (.ptr 3 0 0)), (7, one (.int .i64 v69_1))] [some ⟨true, .strs v69_0⟩, some ⟨true, .ints .i64 a1⟩, some ⟨true, .cells [.sl 0 0 v69_0.length, .sl 1 0 a1.length]⟩, some ⟨true, .cells [.sl 4 0 0, .sl 5 0 0]⟩, some ⟨true, .strs []⟩, some ⟨true, .ints .i64 []⟩]
def spec.l2Wipe.l0.e0 (a1 : List Int) (a2 : Int) (a3 : Int) (o : (List ByteArray)) : St := mkSt 35 [(1, one (.int .i64 a2)), (3, one (.ptr 2 0 0)), (6, one (.ptr 3 0 0))] [some ⟨true, .strs o⟩, some ⟨true, .ints .i64 a1⟩, some ⟨true, .cells [.sl 0 0 o.length, .sl 1 0 a1.length]⟩, some ⟨true, .cells [.sl 4 0 0, .sl 5 0 0]⟩, some ⟨true, .strs []⟩, some ⟨true, .ints .i64 []⟩]
def spec.l2Wipe.l0.x (a1 : List Int) (a2 : Int) (a3 : Int) : ((List ByteArray)) → AExit × St := fun o => (.exit 0, spec.l2Wipe.l0.e0 a1 a2 a3 o)
theorem spec.l2Wipe.l0.spec (a1 : List Int) (a2 : Int) (a3 : Int) : ∀ (k : Nat) (v69_0 : List ByteArray) (v69_1 : Int) (o : (List ByteArray)), spec.l2Wipe.l0.f a1 a2 a3 k v69_0 v69_1 = some o → LoopSpec Tryz.prog 2 (loopN Tryz.f144 0) (spec.l2Wipe.l0.s a1 a2 a3 v69_0 v69_1) (spec.l2Wipe.l0.x a1 a2 a3 o).1 (spec.l2Wipe.l0.x a1 a2 a3 o).2
  | 0, _, _, _, h => by cases h
  | k + 1, v69_0, v69_1, o, h => by
    unfold spec.l2Wipe.l0.f at h
    rcases br_cases h with ⟨c1, h⟩ | ⟨c1, h⟩
    · rcases br_cases h with ⟨c2, h⟩ | ⟨c2, h⟩
      · obtain ⟨p1, h⟩ := ck_some h
        obtain ⟨p2, h⟩ := ck_some h
        exact .of_step tab mixed [bT, bT, bT, bT] [] [1, 2, 3, 6, 7] [0, 1, 2, 3, 4, 5] (s1 := mkSt 35 [(1, one (.int .i64 a2)), (2, one (.int .i64 a3)), (3, one (.ptr 2 0 0)), (6, one (.ptr 3 0 0)), (7, one (.int .i64 (w64 (v69_1 + 1))))] [some ⟨true, .strs (v69_0.set ((w64 ((w64 (a2 * 6)) + v69_1)).toNat) noVal)⟩, some ⟨true, .ints .i64 a1⟩, some ⟨true, .cells [.sl 0 0 v69_0.length, .sl 1 0 a1.length]⟩, some ⟨true, .cells [.sl 4 0 0, .sl 5 0 0]⟩, some ⟨true, .strs []⟩, some ⟨true, .ints .i64 []⟩]) (nd c1 (nd c1 (nd c1 (nd c2 (nd p1 (nd p2 (nd (tn p1 p2) trivial))))))) (by kernel_rfl) (LoopSpec.eqs (spec.l2Wipe.l0.spec a1 a2 a3 k (v69_0.set ((w64 ((w64 (a2 * 6)) + v69_1)).toNat) noVal) (w64 (v69_1 + 1)) _ h) (by simp only [spec.l2Wipe.l0.s, List.length_set, overL_length] : spec.l2Wipe.l0.s a1 a2 a3 (v69_0.set ((w64 ((w64 (a2 * 6)) + v69_1)).toNat) noVal) (w64 (v69_1 + 1)) = mkSt 35 [(1, one (.int .i64 a2)), (2, one (.int .i64 a3)), (3, one (.ptr 2 0 0)), (6, one (.ptr 3 0 0)), (7, one (.int .i64 (w64 (v69_1 + 1))))] [some ⟨true, .strs (v69_0.set ((w64 ((w64 (a2 * 6)) + v69_1)).toNat) noVal)⟩, some ⟨true, .ints .i64 a1⟩, some ⟨true, .cells [.sl 0 0 v69_0.length, .sl 1 0 a1.length]⟩, some ⟨true, .cells [.sl 4 0 0, .sl 5 0 0]⟩, some ⟨true, .strs []⟩, some ⟨true, .ints .i64 []⟩]))
      · obtain rfl := Option.some.inj h
        exact .of_done tab mixed [bT, bT, bT, bF] [] [1, 3, 6] [0, 1, 2, 3, 4, 5] rfl (nd c1 (nd c1 (nd c1 (nd c2 trivial)))) (by kernel_rfl)
    · obtain rfl := Option.some.inj h
      exact .of_done tab mixed [bF, bF, bF, bF] [] [1, 3, 6] [0, 1, 2, 3, 4, 5] rfl (nd c1 (nd c1 (nd c1 (nd ff trivial)))) (by kernel_rfl)
def spec.l2Wipe.f (K : Nat) (a0 : List ByteArray) (a1 : List Int) (a2 : Int) (a3 : Int) : Option ((List ByteArray)) :=
  Option.bind (spec.l2Wipe.l0.f a1 a2 a3 K a0 0) fun x1 => ck (0 ≤ a2) (ck (a2 < (a1.length : Int)) (some x1))
theorem spec.l2Wipe.spec (K : Nat) (a0 : List ByteArray) (a1 : List Int) (a2 : Int) (a3 : Int) (o : (List ByteArray)) (h : spec.l2Wipe.f K a0 a1 a2 a3 = some o) : Den.Spec Tryz.prog 144 [.v (.agg [.sl 0 0 a0.length, .sl 1 0 a1.length]), one (.int .i64 a2), one (.int .i64 a3)] [some ⟨true, .strs a0⟩, some ⟨true, .ints .i64 a1⟩] (.v (.agg [.sl 0 0 o.length, .sl 1 0 ((a1.set a2.toNat (w64 ((a1.getD a2.toNat 0) + 1))).length)])) [some ⟨true, .strs o⟩, some ⟨true, .ints .i64 (a1.set a2.toNat (w64 ((a1.getD a2.toNat 0) + 1)))⟩] := by
  unfold spec.l2Wipe.f at h
  obtain ⟨x1, e1, h⟩ := bind_some h
  obtain ⟨p1, h⟩ := ck_some h
  obtain ⟨p2, h⟩ := ck_some h
  obtain rfl := Option.some.inj h
  exact Den.Spec.eqd (r := .v (.agg [.sl 0 0 x1.length, .sl 1 0 a1.length])) (h' := [some ⟨true, .strs x1⟩, some ⟨true, .ints .i64 (a1.set a2.toNat (w64 ((a1.getD a2.toNat 0) + 1)))⟩]) (Den.Spec.of_walk tab mixed Tryz.func144 (by kernel_rfl) [.loop [] [1, 2, 3, 6, 7] [0, 1, 2, 3, 4, 5] (.exit 0) (spec.l2Wipe.l0.e0 a1 a2 a3 x1)] [] [0, 1] (nd (spec.l2Wipe.l0.spec a1 a2 a3 K a0 0 _ e1) (nd p1 (nd p2 (nd (tn p1 p2) (nd p1 (nd p2 (nd (tn p1 p2) trivial))))))) (by kernel_rfl)) (by simp only [List.length_set, overL_length]) (by simp only [List.length_set, overL_length])
def spec.l5Clean.f (K : Nat) (a0 : List ByteArray) (a1 : List Int) (a2 : List Int) (a3 : Int) (a4 : List (Int × Int × ByteArray)) (a5 : Bool) (a6 : Int) : Option ((List ByteArray) × (List Int) × (List Int) × Int × (List (Int × Int × ByteArray)) × Bool) :=
  Option.bind (spec.l4Lives.f K a0 a1 a2 a3 a6) fun x1 => Option.bind (spec.l5Clean.l0.f K a1 a6 K a0 a2 a3 a4 a5 x1 0) fun x2 => (Sum.elim (fun x2 => some (x2.1, a1, x2.2.1, x2.2.2.1, x2.2.2.2, false)) (fun x2 => cond (x2.2.2.2.2) (ck (0 ≤ a6) (ck (a6 < (a1.length : Int)) (cond ((a1.getD a6.toNat 0) == 1000000000) (some (x2.1, a1, x2.2.1, x2.2.2.1, x2.2.2.2.1, false)) (ck ((x2.2.2.2.1 ++ [((2 : Int), a6, noVal)]).length * 32 ≤ 70368744177664) (Option.bind (spec.l2Wipe.f K x2.1 a1 a6 6) fun x3 => Option.bind (spec.Mount.f K x3 (a1.set a6.toNat (w64 ((a1.getD a6.toNat 0) + 1)))) fun x4 => some (x4.1, x4.2.1, x4.2.2.1, x4.2.2.2, x2.2.2.2.1 ++ [((2 : Int), a6, noVal)], x2.2.2.2.2)))))) (some (x2.1, a1, x2.2.1, x2.2.2.1, x2.2.2.2.1, false)))) x2
theorem spec.l5Clean.spec (K : Nat) (a0 : List ByteArray) (a1 : List Int) (a2 : List Int) (a3 : Int) (a4 : List (Int × Int × ByteArray)) (a5 : Bool) (a6 : Int) (o : (List ByteArray) × (List Int) × (List Int) × Int × (List (Int × Int × ByteArray)) × Bool) (h : spec.l5Clean.f K a0 a1 a2 a3 a4 a5 a6 = some o) : Den.Spec Tryz.prog 133 [one (.ptr 0 0 0), one (.int .i64 a6)] [some ⟨true, .cells [.sl 1 0 a0.length, .sl 2 0 a1.length, .sl 3 0 a2.length, .int .i64 a3, .sl 4 0 a4.length, .bool a5]⟩, some ⟨true, .strs a0⟩, some ⟨true, .ints .i64 a1⟩, some ⟨true, .ints .i64 a2⟩, some ⟨true, .acts a4⟩] (.tup []) [some ⟨true, .cells [.sl 5 0 o.1.length, .sl 6 0 o.2.1.length, .sl 7 0 o.2.2.1.length, .int .i64 o.2.2.2.1, .sl 8 0 o.2.2.2.2.1.length, .bool o.2.2.2.2.2]⟩, none, none, none, none, some ⟨true, .strs o.1⟩, some ⟨true, .ints .i64 o.2.1⟩, some ⟨true, .ints .i64 o.2.2.1⟩, some ⟨true, .acts o.2.2.2.2.1⟩] := by
  unfold spec.l5Clean.f at h
  obtain ⟨x1, e1, h⟩ := bind_some h
  obtain ⟨x2, e2, h⟩ := bind_some h
  rcases x2 with x2 | x2
  · obtain rfl := Option.some.inj h
    exact Den.Spec.of_walk tab mixed Tryz.func133 (by kernel_rfl) [.call [(1, false), (2, false), (3, false)] [] (one (.sl 3 0 x1.length)) [some ⟨false, .strs a0⟩, some ⟨false, .ints .i64 a1⟩, some ⟨false, .ints .i64 a2⟩, some ⟨true, .ints .i64 x1⟩], .loop [(1000004, [])] [0, 1, 4, 5] [0, 1, 2, 3, 4, 6, 5] (.ret) (spec.l5Clean.l0.e0 K a1 a6 x2)] [(1000001, []), (1000002, []), (1000003, [])] [0, 1, 2, 3, 4, 6, 7, 8, 5] (nd (spec.l4Lives.spec K a0 a1 a2 a3 a6 _ e1) (nd (spec.l5Clean.l0.spec K a1 a6 K a0 a2 a3 a4 a5 x1 0 _ e2) trivial)) (by kernel_rfl)
  · rcases br_cases h with ⟨c1, h⟩ | ⟨c1, h⟩
    · obtain ⟨p1, h⟩ := ck_some h
      obtain ⟨p2, h⟩ := ck_some h
      rcases br_cases h with ⟨c2, h⟩ | ⟨c2, h⟩
      · obtain rfl := Option.some.inj h
        exact Den.Spec.of_walk tab mixed Tryz.func133 (by kernel_rfl) [.call [(1, false), (2, false), (3, false)] [] (one (.sl 3 0 x1.length)) [some ⟨false, .strs a0⟩, some ⟨false, .ints .i64 a1⟩, some ⟨false, .ints .i64 a2⟩, some ⟨true, .ints .i64 x1⟩], .loop [(1000004, [])] [0, 1, 4, 5] [0, 1, 2, 3, 4, 6, 5] (.exit 0) (spec.l5Clean.l0.e1 K a1 a6 x2), bF, bF, bF, bF, bF, bF, bF, bF, bF, bF, bF, bT] [(1000001, []), (1000002, []), (1000003, [])] [0, 1, 2, 3, 4, 6, 7, 8, 5] (nd (spec.l4Lives.spec K a0 a1 a2 a3 a6 _ e1) (nd (spec.l5Clean.l0.spec K a1 a6 K a0 a2 a3 a4 a5 x1 0 _ e2) (nd (nf c1) (nd (nf c1) (nd (nf c1) (nd (nf c1) (nd (nf c1) (nd (nf c1) (nd (nf c1) (nd (nf c1) (nd p1 (nd p2 (nd (nf c1) (nd (tn p1 p2) (nd (nf c1) (nd (nf c1) (nd c2 trivial))))))))))))))))) (by kernel_rfl)
      · obtain ⟨p3, h⟩ := ck_some h
        obtain ⟨x3, e3, h⟩ := bind_some h
        obtain ⟨x4, e4, h⟩ := bind_some h
        obtain rfl := Option.some.inj h
        exact Den.Spec.of_walk tab mixed Tryz.func133 (by kernel_rfl) [.call [(1, false), (2, false), (3, false)] [] (one (.sl 3 0 x1.length)) [some ⟨false, .strs a0⟩, some ⟨false, .ints .i64 a1⟩, some ⟨false, .ints .i64 a2⟩, some ⟨true, .ints .i64 x1⟩], .loop [(1000004, [])] [0, 1, 4, 5] [0, 1, 2, 3, 4, 6, 5] (.exit 0) (spec.l5Clean.l0.e1 K a1 a6 x2), bF, bF, bF, bF, bF, bF, bF, bF, bF, bF, bF, bF, bT, .call [(1, true), (2, true)] [] (.v (.agg [.sl 0 0 x3.length, .sl 1 0 ((a1.set a6.toNat (w64 ((a1.getD a6.toNat 0) + 1))).length)])) [some ⟨true, .strs x3⟩, some ⟨true, .ints .i64 (a1.set a6.toNat (w64 ((a1.getD a6.toNat 0) + 1)))⟩], .call [(1, false), (2, false)] [] (.v (.agg [.sl 2 0 x4.1.length, .sl 3 0 x4.2.1.length, .sl 4 0 x4.2.2.1.length, .int .i64 x4.2.2.2])) [some ⟨false, .strs x3⟩, some ⟨false, .ints .i64 (a1.set a6.toNat (w64 ((a1.getD a6.toNat 0) + 1)))⟩, some ⟨true, .strs x4.1⟩, some ⟨true, .ints .i64 x4.2.1⟩, some ⟨true, .ints .i64 x4.2.2.1⟩]] [(1000001, []), (1000002, []), (1000003, [])] [0, 1, 2, 3, 4, 8, 9, 10, 7] (nd (spec.l4Lives.spec K a0 a1 a2 a3 a6 _ e1) (nd (spec.l5Clean.l0.spec K a1 a6 K a0 a2 a3 a4 a5 x1 0 _ e2) (nd (nf c1) (nd (nf c1) (nd (nf c1) (nd (nf c1) (nd (nf c1) (nd (nf c1) (nd (nf c1) (nd (nf c1) (nd p1 (nd p2 (nd (nf c1) (nd (tn p1 p2) (nd (nf c1) (nd (nf c1) (nd c2 (n0 (nl x2.2.2.2.1 (nd p3 (n0 (nn 1 (nd (spec.l2Wipe.spec K x2.1 a1 a6 6 _ e3) (nd (spec.Mount.spec K x3 (a1.set a6.toNat (w64 ((a1.getD a6.toNat 0) + 1))) _ e4) trivial)))))))))))))))))))))))) (by kernel_rfl)
    · obtain rfl := Option.some.inj h
      exact Den.Spec.of_walk tab mixed Tryz.func133 (by kernel_rfl) [.call [(1, false), (2, false), (3, false)] [] (one (.sl 3 0 x1.length)) [some ⟨false, .strs a0⟩, some ⟨false, .ints .i64 a1⟩, some ⟨false, .ints .i64 a2⟩, some ⟨true, .ints .i64 x1⟩], .loop [(1000004, [])] [0, 1, 4, 5] [0, 1, 2, 3, 4, 6, 5] (.exit 0) (spec.l5Clean.l0.e1 K a1 a6 x2), bT, bT, bT, bT, bT, bT, bT, bT, bT, bT, bT, bT] [(1000001, []), (1000002, []), (1000003, [])] [0, 1, 2, 3, 4, 6, 7, 8, 5] (nd (spec.l4Lives.spec K a0 a1 a2 a3 a6 _ e1) (nd (spec.l5Clean.l0.spec K a1 a6 K a0 a2 a3 a4 a5 x1 0 _ e2) (nd (nt c1) (nd (nt c1) (nd (nt c1) (nd (nt c1) (nd (nt c1) (nd (nt c1) (nd (nt c1) (nd (nt c1) (nd (nt c1) (nd (nt c1) (nd (nt c1) (nd tt trivial)))))))))))))) (by kernel_rfl)
def spec.l5Room.l0.f (K : Nat) : Nat → (List ByteArray) → (List Int) → (List Int) → Int → (List (Int × Int × ByteArray)) → Bool → Int → Option (((List ByteArray) × (List Int) × (List Int) × Int × (List (Int × Int × ByteArray)) × Bool) ⊕ ((List ByteArray) × (List Int) × (List Int) × Int × (List (Int × Int × ByteArray)) × Bool))
  | 0, _, _, _, _, _, _, _ => none
  | k + 1, v76_0, v76_1, v76_2, v76_3, v76_4, v76_5, v76_6 =>
    cond (decide (v76_6 < 10)) (cond (v76_5) (Option.bind (spec.FreeBlocks.f K v76_0 v76_1) fun x1 => cond (decide ((x1.length : Int) > 2)) (some (.inl (v76_0, v76_1, v76_2, v76_3, v76_4, v76_5))) (cond ((x1.length : Int) == 2) (Option.bind (spec.l5Open.f K v76_0 v76_1) fun x2 => cond (decide (x2 ≥ 0)) (some (.inl (v76_0, v76_1, v76_2, v76_3, v76_4, v76_5))) (Option.bind (spec.Worst.f K v76_0 v76_1 v76_2 v76_3) fun x3 => cond (decide (x3 < 0)) (some (.inl (v76_0, v76_1, v76_2, v76_3, v76_4, false))) (Option.bind (spec.l5Clean.f K v76_0 v76_1 v76_2 v76_3 v76_4 v76_5 x3) fun x4 => spec.l5Room.l0.f K k x4.1 x4.2.1 x4.2.2.1 x4.2.2.2.1 x4.2.2.2.2.1 x4.2.2.2.2.2 (w64 (v76_6 + 1))))) (Option.bind (spec.Worst.f K v76_0 v76_1 v76_2 v76_3) fun x2 => cond (decide (x2 < 0)) (some (.inl (v76_0, v76_1, v76_2, v76_3, v76_4, false))) (Option.bind (spec.l5Clean.f K v76_0 v76_1 v76_2 v76_3 v76_4 v76_5 x2) fun x3 => spec.l5Room.l0.f K k x3.1 x3.2.1 x3.2.2.1 x3.2.2.2.1 x3.2.2.2.2.1 x3.2.2.2.2.2 (w64 (v76_6 + 1)))))) (some (.inr ((v76_0, v76_1, v76_2, v76_3, v76_4, v76_5))))) (some (.inr ((v76_0, v76_1, v76_2, v76_3, v76_4, v76_5))))
def spec.l5Room.l0.s (K : Nat) (v76_0 : List ByteArray) (v76_1 : List Int) (v76_2 : List Int) (v76_3 : Int) (v76_4 : List (Int × Int × ByteArray)) (v76_5 : Bool) (v76_6 : Int) : St := mkSt 50 [(0, one (.ptr 0 0 0)), (2, one (.int .i64 v76_6))] [some ⟨true, .cells [.sl 5 0 v76_0.length, .sl 6 0 v76_1.length, .sl 7 0 v76_2.length, .int .i64 v76_3, .sl 8 0 v76_4.length, .bool v76_5]⟩, none, none, none, none, some ⟨true, .strs v76_0⟩, some ⟨true, .ints .i64 v76_1⟩, some ⟨true, .ints .i64 v76_2⟩, some ⟨true, .acts v76_4⟩]
def spec.l5Room.l0.e0 (K : Nat) (o : (List ByteArray) × (List Int) × (List Int) × Int × (List (Int × Int × ByteArray)) × Bool) : St := mkSt 50 [] [some ⟨true, .cells [.sl 5 0 o.1.length, .sl 6 0 o.2.1.length, .sl 7 0 o.2.2.1.length, .int .i64 o.2.2.2.1, .sl 8 0 o.2.2.2.2.1.length, .bool o.2.2.2.2.2]⟩, none, none, none, none, some ⟨true, .strs o.1⟩, some ⟨true, .ints .i64 o.2.1⟩, some ⟨true, .ints .i64 o.2.2.1⟩, some ⟨true, .acts o.2.2.2.2.1⟩]
def spec.l5Room.l0.e1 (K : Nat) (o : (List ByteArray) × (List Int) × (List Int) × Int × (List (Int × Int × ByteArray)) × Bool) : St := mkSt 50 [] [some ⟨true, .cells [.sl 5 0 o.1.length, .sl 6 0 o.2.1.length, .sl 7 0 o.2.2.1.length, .int .i64 o.2.2.2.1, .sl 8 0 o.2.2.2.2.1.length, .bool o.2.2.2.2.2]⟩, none, none, none, none, some ⟨true, .strs o.1⟩, some ⟨true, .ints .i64 o.2.1⟩, some ⟨true, .ints .i64 o.2.2.1⟩, some ⟨true, .acts o.2.2.2.2.1⟩]
def spec.l5Room.l0.x (K : Nat) : (((List ByteArray) × (List Int) × (List Int) × Int × (List (Int × Int × ByteArray)) × Bool) ⊕ ((List ByteArray) × (List Int) × (List Int) × Int × (List (Int × Int × ByteArray)) × Bool)) → AExit × St := Sum.elim (fun o => (.ret, spec.l5Room.l0.e0 K o)) (fun o => (.exit 0, spec.l5Room.l0.e1 K o))
theorem spec.l5Room.l0.spec (K : Nat) : ∀ (k : Nat) (v76_0 : List ByteArray) (v76_1 : List Int) (v76_2 : List Int) (v76_3 : Int) (v76_4 : List (Int × Int × ByteArray)) (v76_5 : Bool) (v76_6 : Int) (o : ((List ByteArray) × (List Int) × (List Int) × Int × (List (Int × Int × ByteArray)) × Bool) ⊕ ((List ByteArray) × (List Int) × (List Int) × Int × (List (Int × Int × ByteArray)) × Bool)), spec.l5Room.l0.f K k v76_0 v76_1 v76_2 v76_3 v76_4 v76_5 v76_6 = some o → LoopSpec Tryz.prog 5 (loopN Tryz.f106 0) (spec.l5Room.l0.s K v76_0 v76_1 v76_2 v76_3 v76_4 v76_5 v76_6) (spec.l5Room.l0.x K o).1 (spec.l5Room.l0.x K o).2
  | 0, _, _, _, _, _, _, _, _, h => by cases h
  | k + 1, v76_0, v76_1, v76_2, v76_3, v76_4, v76_5, v76_6, o, h => by
    unfold spec.l5Room.l0.f at h
    rcases br_cases h with ⟨c1, h⟩ | ⟨c1, h⟩
    · rcases br_cases h with ⟨c2, h⟩ | ⟨c2, h⟩
      · obtain ⟨x1, e1, h⟩ := bind_some h
        rcases br_cases h with ⟨c3, h⟩ | ⟨c3, h⟩
        · obtain rfl := Option.some.inj h
          exact .of_done tab mixed [bT, bT, bT, bT, bT, bT, .call [(5, false), (6, false)] [] (one (.sl 2 0 x1.length)) [some ⟨false, .strs v76_0⟩, some ⟨false, .ints .i64 v76_1⟩, some ⟨true, .ints .i64 x1⟩], bT, bT, bT, bT, bT, bT] [] [] [0, 1, 2, 3, 4, 5, 6, 7, 8] rfl (nd c1 (nd c1 (nd c1 (nd c1 (nd c1 (nd c2 (nd (spec.FreeBlocks.spec K v76_0 v76_1 _ e1) (nd c3 (nd c3 (nd c3 (nd c3 (nd c3 (nd tt trivial))))))))))))) (by kernel_rfl)
        · rcases br_cases h with ⟨c4, h⟩ | ⟨c4, h⟩
          · obtain ⟨x2, e2, h⟩ := bind_some h
            rcases br_cases h with ⟨c5, h⟩ | ⟨c5, h⟩
            · obtain rfl := Option.some.inj h
              exact .of_done tab mixed [bT, bT, bT, bT, bT, bT, .call [(5, false), (6, false)] [] (one (.sl 2 0 x1.length)) [some ⟨false, .strs v76_0⟩, some ⟨false, .ints .i64 v76_1⟩, some ⟨true, .ints .i64 x1⟩], bF, bF, bF, bT, bT, bT, bT, bT, bT, .call [(5, false), (6, false)] [] (one (.int .i64 x2)) [some ⟨false, .strs v76_0⟩, some ⟨false, .ints .i64 v76_1⟩], bT, bF, bT, bF, bT] [] [] [0, 1, 2, 3, 4, 5, 6, 7, 8] rfl (nd c1 (nd c1 (nd c1 (nd c1 (nd c1 (nd c2 (nd (spec.FreeBlocks.spec K v76_0 v76_1 _ e1) (nd c3 (nd c3 (nd c3 (nd c4 (nd c4 (nd c4 (nd c4 (nd c4 (nd c4 (nd (spec.l5Open.spec K v76_0 v76_1 _ e2) (nd c4 (nd c3 (nd c4 (nd c3 (nd c5 trivial)))))))))))))))))))))) (by kernel_rfl)
            · obtain ⟨x3, e3, h⟩ := bind_some h
              rcases br_cases h with ⟨c6, h⟩ | ⟨c6, h⟩
              · obtain rfl := Option.some.inj h
                exact .of_done tab mixed [bT, bT, bT, bT, bT, bT, .call [(5, false), (6, false)] [] (one (.sl 2 0 x1.length)) [some ⟨false, .strs v76_0⟩, some ⟨false, .ints .i64 v76_1⟩, some ⟨true, .ints .i64 x1⟩], bF, bF, bF, bT, bT, bT, bT, bT, bT, .call [(5, false), (6, false)] [] (one (.int .i64 x2)) [some ⟨false, .strs v76_0⟩, some ⟨false, .ints .i64 v76_1⟩], bT, bF, bT, bF, bF, .call [(5, false), (6, false), (7, false)] [] (one (.int .i64 x3)) [some ⟨false, .strs v76_0⟩, some ⟨false, .ints .i64 v76_1⟩, some ⟨false, .ints .i64 v76_2⟩], bT] [] [] [0, 1, 2, 3, 4, 5, 6, 7, 8] rfl (nd c1 (nd c1 (nd c1 (nd c1 (nd c1 (nd c2 (nd (spec.FreeBlocks.spec K v76_0 v76_1 _ e1) (nd c3 (nd c3 (nd c3 (nd c4 (nd c4 (nd c4 (nd c4 (nd c4 (nd c4 (nd (spec.l5Open.spec K v76_0 v76_1 _ e2) (nd c4 (nd c3 (nd c4 (nd c3 (nd c5 (nd (spec.Worst.spec K v76_0 v76_1 v76_2 v76_3 _ e3) (nd c6 trivial)))))))))))))))))))))))) (by kernel_rfl)
              · obtain ⟨x4, e4, h⟩ := bind_some h
                exact .of_step tab mixed [bT, bT, bT, bT, bT, bT, .call [(5, false), (6, false)] [] (one (.sl 2 0 x1.length)) [some ⟨false, .strs v76_0⟩, some ⟨false, .ints .i64 v76_1⟩, some ⟨true, .ints .i64 x1⟩], bF, bF, bF, bT, bT, bT, bT, bT, bT, .call [(5, false), (6, false)] [] (one (.int .i64 x2)) [some ⟨false, .strs v76_0⟩, some ⟨false, .ints .i64 v76_1⟩], bT, bF, bT, bF, bF, .call [(5, false), (6, false), (7, false)] [] (one (.int .i64 x3)) [some ⟨false, .strs v76_0⟩, some ⟨false, .ints .i64 v76_1⟩, some ⟨false, .ints .i64 v76_2⟩], bF, .call [(0, true), (5, true), (6, true), (7, true), (8, true)] [] (.tup []) [some ⟨true, .cells [.sl 5 0 x4.1.length, .sl 6 0 x4.2.1.length, .sl 7 0 x4.2.2.1.length, .int .i64 x4.2.2.2.1, .sl 8 0 x4.2.2.2.2.1.length, .bool x4.2.2.2.2.2]⟩, none, none, none, none, some ⟨true, .strs x4.1⟩, some ⟨true, .ints .i64 x4.2.1⟩, some ⟨true, .ints .i64 x4.2.2.1⟩, some ⟨true, .acts x4.2.2.2.2.1⟩]] [] [0, 2] [0, 1, 2, 3, 4, 10, 11, 12, 13] (s1 := spec.l5Room.l0.s K x4.1 x4.2.1 x4.2.2.1 x4.2.2.2.1 x4.2.2.2.2.1 x4.2.2.2.2.2 (w64 (v76_6 + 1))) (nd c1 (nd c1 (nd c1 (nd c1 (nd c1 (nd c2 (nd (spec.FreeBlocks.spec K v76_0 v76_1 _ e1) (nd c3 (nd c3 (nd c3 (nd c4 (nd c4 (nd c4 (nd c4 (nd c4 (nd c4 (nd (spec.l5Open.spec K v76_0 v76_1 _ e2) (nd c4 (nd c3 (nd c4 (nd c3 (nd c5 (nd (spec.Worst.spec K v76_0 v76_1 v76_2 v76_3 _ e3) (nd c6 (nd (spec.l5Clean.spec K v76_0 v76_1 v76_2 v76_3 v76_4 v76_5 x3 _ e4) trivial))))))))))))))))))))))))) (by kernel_rfl) (spec.l5Room.l0.spec K k x4.1 x4.2.1 x4.2.2.1 x4.2.2.2.1 x4.2.2.2.2.1 x4.2.2.2.2.2 (w64 (v76_6 + 1)) _ h)
          · obtain ⟨x2, e2, h⟩ := bind_some h
            rcases br_cases h with ⟨c5, h⟩ | ⟨c5, h⟩
            · obtain rfl := Option.some.inj h
              exact .of_done tab mixed [bT, bT, bT, bT, bT, bT, .call [(5, false), (6, false)] [] (one (.sl 2 0 x1.length)) [some ⟨false, .strs v76_0⟩, some ⟨false, .ints .i64 v76_1⟩, some ⟨true, .ints .i64 x1⟩], bF, bF, bF, bF, bF, bF, bF, bF, bF, bF, bF, bF, bF, bF, .call [(5, false), (6, false), (7, false)] [] (one (.int .i64 x2)) [some ⟨false, .strs v76_0⟩, some ⟨false, .ints .i64 v76_1⟩, some ⟨false, .ints .i64 v76_2⟩], bT] [] [] [0, 1, 2, 3, 4, 5, 6, 7, 8] rfl (nd c1 (nd c1 (nd c1 (nd c1 (nd c1 (nd c2 (nd (spec.FreeBlocks.spec K v76_0 v76_1 _ e1) (nd c3 (nd c3 (nd c3 (nd c4 (nd c4 (nd c4 (nd c4 (nd c4 (nd c4 (nd c4 (nd c3 (nd c4 (nd c3 (nd ff (nd (spec.Worst.spec K v76_0 v76_1 v76_2 v76_3 _ e2) (nd c5 trivial))))))))))))))))))))))) (by kernel_rfl)
            · obtain ⟨x3, e3, h⟩ := bind_some h
              exact .of_step tab mixed [bT, bT, bT, bT, bT, bT, .call [(5, false), (6, false)] [] (one (.sl 2 0 x1.length)) [some ⟨false, .strs v76_0⟩, some ⟨false, .ints .i64 v76_1⟩, some ⟨true, .ints .i64 x1⟩], bF, bF, bF, bF, bF, bF, bF, bF, bF, bF, bF, bF, bF, bF, .call [(5, false), (6, false), (7, false)] [] (one (.int .i64 x2)) [some ⟨false, .strs v76_0⟩, some ⟨false, .ints .i64 v76_1⟩, some ⟨false, .ints .i64 v76_2⟩], bF, .call [(0, true), (5, true), (6, true), (7, true), (8, true)] [] (.tup []) [some ⟨true, .cells [.sl 5 0 x3.1.length, .sl 6 0 x3.2.1.length, .sl 7 0 x3.2.2.1.length, .int .i64 x3.2.2.2.1, .sl 8 0 x3.2.2.2.2.1.length, .bool x3.2.2.2.2.2]⟩, none, none, none, none, some ⟨true, .strs x3.1⟩, some ⟨true, .ints .i64 x3.2.1⟩, some ⟨true, .ints .i64 x3.2.2.1⟩, some ⟨true, .acts x3.2.2.2.2.1⟩]] [] [0, 2] [0, 1, 2, 3, 4, 10, 11, 12, 13] (s1 := spec.l5Room.l0.s K x3.1 x3.2.1 x3.2.2.1 x3.2.2.2.1 x3.2.2.2.2.1 x3.2.2.2.2.2 (w64 (v76_6 + 1))) (nd c1 (nd c1 (nd c1 (nd c1 (nd c1 (nd c2 (nd (spec.FreeBlocks.spec K v76_0 v76_1 _ e1) (nd c3 (nd c3 (nd c3 (nd c4 (nd c4 (nd c4 (nd c4 (nd c4 (nd c4 (nd c4 (nd c3 (nd c4 (nd c3 (nd ff (nd (spec.Worst.spec K v76_0 v76_1 v76_2 v76_3 _ e2) (nd c5 (nd (spec.l5Clean.spec K v76_0 v76_1 v76_2 v76_3 v76_4 v76_5 x2 _ e3) trivial)))))))))))))))))))))))) (by kernel_rfl) (spec.l5Room.l0.spec K k x3.1 x3.2.1 x3.2.2.1 x3.2.2.2.1 x3.2.2.2.2.1 x3.2.2.2.2.2 (w64 (v76_6 + 1)) _ h)
      · obtain rfl := Option.some.inj h
        exact .of_done tab mixed [bT, bT, bT, bT, bT, bF] [] [] [0, 1, 2, 3, 4, 5, 6, 7, 8] rfl (nd c1 (nd c1 (nd c1 (nd c1 (nd c1 (nd c2 trivial)))))) (by kernel_rfl)
    · obtain rfl := Option.some.inj h
      exact .of_done tab mixed [bF, bF, bF, bF, bF, bF] [] [] [0, 1, 2, 3, 4, 5, 6, 7, 8] rfl (nd c1 (nd c1 (nd c1 (nd c1 (nd c1 (nd ff trivial)))))) (by kernel_rfl)
def spec.l5Room.f (K : Nat) (a0 : List ByteArray) (a1 : List Int) (a2 : List Int) (a3 : Int) (a4 : List (Int × Int × ByteArray)) (a5 : Bool) : Option ((List ByteArray) × (List Int) × (List Int) × Int × (List (Int × Int × ByteArray)) × Bool) :=
  Option.bind (spec.l5Room.l0.f K K a0 a1 a2 a3 a4 a5 0) fun x1 => (Sum.elim (fun x1 => some (x1.1, x1.2.1, x1.2.2.1, x1.2.2.2.1, x1.2.2.2.2.1, x1.2.2.2.2.2)) (fun x1 => some (x1.1, x1.2.1, x1.2.2.1, x1.2.2.2.1, x1.2.2.2.2.1, x1.2.2.2.2.2))) x1
theorem spec.l5Room.spec (K : Nat) (a0 : List ByteArray) (a1 : List Int) (a2 : List Int) (a3 : Int) (a4 : List (Int × Int × ByteArray)) (a5 : Bool) (o : (List ByteArray) × (List Int) × (List Int) × Int × (List (Int × Int × ByteArray)) × Bool) (h : spec.l5Room.f K a0 a1 a2 a3 a4 a5 = some o) : Den.Spec Tryz.prog 106 [one (.ptr 0 0 0)] [some ⟨true, .cells [.sl 1 0 a0.length, .sl 2 0 a1.length, .sl 3 0 a2.length, .int .i64 a3, .sl 4 0 a4.length, .bool a5]⟩, some ⟨true, .strs a0⟩, some ⟨true, .ints .i64 a1⟩, some ⟨true, .ints .i64 a2⟩, some ⟨true, .acts a4⟩] (.tup []) [some ⟨true, .cells [.sl 5 0 o.1.length, .sl 6 0 o.2.1.length, .sl 7 0 o.2.2.1.length, .int .i64 o.2.2.2.1, .sl 8 0 o.2.2.2.2.1.length, .bool o.2.2.2.2.2]⟩, none, none, none, none, some ⟨true, .strs o.1⟩, some ⟨true, .ints .i64 o.2.1⟩, some ⟨true, .ints .i64 o.2.2.1⟩, some ⟨true, .acts o.2.2.2.2.1⟩] := by
  unfold spec.l5Room.f at h
  obtain ⟨x1, e1, h⟩ := bind_some h
  rcases x1 with x1 | x1
  · obtain rfl := Option.some.inj h
    exact Den.Spec.of_walk tab mixed Tryz.func106 (by kernel_rfl) [.loop [(1000001, []), (1000002, []), (1000003, []), (1000004, [])] [0, 2] [0, 1, 2, 3, 4, 5, 6, 7, 8] (.ret) (spec.l5Room.l0.e0 K x1)] [] [0, 1, 2, 3, 4, 5, 6, 7, 8] (nd (spec.l5Room.l0.spec K K a0 a1 a2 a3 a4 a5 0 _ e1) trivial) (by kernel_rfl)
  · obtain rfl := Option.some.inj h
    exact Den.Spec.of_walk tab mixed Tryz.func106 (by kernel_rfl) [.loop [(1000001, []), (1000002, []), (1000003, []), (1000004, [])] [0, 2] [0, 1, 2, 3, 4, 5, 6, 7, 8] (.exit 0) (spec.l5Room.l0.e1 K x1)] [] [0, 1, 2, 3, 4, 5, 6, 7, 8] (nd (spec.l5Room.l0.spec K K a0 a1 a2 a3 a4 a5 0 _ e1) trivial) (by kernel_rfl)
def spec.l5Done.f (K : Nat) (a0 : List ByteArray) (a1 : List Int) (a2 : List Int) (a3 : Int) (a4 : List ByteArray) (a5 : List Int) (a6 : List Int) (a7 : Int) (a8 : List (Int × Int × ByteArray)) (a9 : Bool) : Option ((List (Int × Int × ByteArray)) × (List ByteArray) × (List Int) × (List Int) × Int × Bool) :=
  cond (a9) (Option.bind (spec.Mount.f K a4 a5) fun x1 => some (a8, x1.1, x1.2.1, x1.2.2.1, x1.2.2.2, true)) (Option.bind (spec.l4Copy.f a0 a1 a2 a3) fun x1 => some ([], [] ++ a0, [] ++ a1, [] ++ a2, a3, false))
theorem spec.l5Done.spec (K : Nat) (a0 : List ByteArray) (a1 : List Int) (a2 : List Int) (a3 : Int) (a4 : List ByteArray) (a5 : List Int) (a6 : List Int) (a7 : Int) (a8 : List (Int × Int × ByteArray)) (a9 : Bool) (o : (List (Int × Int × ByteArray)) × (List ByteArray) × (List Int) × (List Int) × Int × Bool) (h : spec.l5Done.f K a0 a1 a2 a3 a4 a5 a6 a7 a8 a9 = some o) : Den.Spec Tryz.prog 108 [.v (.agg [.sl 0 0 a0.length, .sl 1 0 a1.length, .sl 2 0 a2.length, .int .i64 a3]), one (.ptr 3 0 0)] [some ⟨false, .strs a0⟩, some ⟨false, .ints .i64 a1⟩, some ⟨false, .ints .i64 a2⟩, some ⟨true, .cells [.sl 4 0 a4.length, .sl 5 0 a5.length, .sl 6 0 a6.length, .int .i64 a7, .sl 7 0 a8.length, .bool a9]⟩, some ⟨false, .strs a4⟩, some ⟨false, .ints .i64 a5⟩, some ⟨false, .ints .i64 a6⟩, some ⟨true, .acts a8⟩] (.tup [.c (.sl 8 0 o.1.length), .agg [.sl 9 0 o.2.1.length, .sl 10 0 o.2.2.1.length, .sl 11 0 o.2.2.2.1.length, .int .i64 o.2.2.2.2.1], .c (.bool o.2.2.2.2.2)]) [some ⟨false, .strs a0⟩, some ⟨false, .ints .i64 a1⟩, some ⟨false, .ints .i64 a2⟩, none, some ⟨false, .strs a4⟩, some ⟨false, .ints .i64 a5⟩, some ⟨false, .ints .i64 a6⟩, none, some ⟨true, .acts o.1⟩, some ⟨true, .strs o.2.1⟩, some ⟨true, .ints .i64 o.2.2.1⟩, some ⟨true, .ints .i64 o.2.2.2.1⟩] := by
  unfold spec.l5Done.f at h
  rcases br_cases h with ⟨c1, h⟩ | ⟨c1, h⟩
  · obtain ⟨x1, e1, h⟩ := bind_some h
    obtain rfl := Option.some.inj h
    exact Den.Spec.of_walk tab mixed Tryz.func108 (by kernel_rfl) [bF, .call [(4, false), (5, false)] [] (.v (.agg [.sl 2 0 x1.1.length, .sl 3 0 x1.2.1.length, .sl 4 0 x1.2.2.1.length, .int .i64 x1.2.2.2])) [some ⟨false, .strs a4⟩, some ⟨false, .ints .i64 a5⟩, some ⟨true, .strs x1.1⟩, some ⟨true, .ints .i64 x1.2.1⟩, some ⟨true, .ints .i64 x1.2.2.1⟩]] [(2000003, []), (1000007, [])] [0, 1, 2, 3, 4, 5, 6, 7, 117, 85, 86, 87] (nd (nf c1) (nd (spec.Mount.spec K a4 a5 _ e1) trivial)) (by kernel_rfl)
  · obtain ⟨x1, e1, h⟩ := bind_some h
    obtain rfl := Option.some.inj h
    exact Den.Spec.of_walk tab mixed Tryz.func108 (by kernel_rfl) [bT, .call [(0, false), (1, false), (2, false)] [] (.v (.agg [.sl 3 0 (([] ++ a0).length), .sl 4 0 (([] ++ a1).length), .sl 5 0 (([] ++ a2).length), .int .i64 a3])) [some ⟨false, .strs a0⟩, some ⟨false, .ints .i64 a1⟩, some ⟨false, .ints .i64 a2⟩, some ⟨true, .strs ([] ++ a0)⟩, some ⟨true, .ints .i64 ([] ++ a1)⟩, some ⟨true, .ints .i64 ([] ++ a2)⟩]] [(2000003, []), (1000007, [])] [0, 1, 2, 3, 4, 5, 6, 7, 13, 14, 15, 16] (nd (nt c1) (nd (spec.l4Copy.spec a0 a1 a2 a3 _ e1) trivial)) (by kernel_rfl)
def spec.Plan.f (K : Nat) (a0 : List ByteArray) (a1 : List Int) (a2 : List Int) (a3 : Int) (a4 : Int) (a5 : ByteArray) : Option ((List (Int × Int × ByteArray)) × (List ByteArray) × (List Int) × (List Int) × Int × Bool) :=
  Option.bind (spec.FtlOk.f K a0 a1 a2 a3) fun x1 => cond (x1) (Option.bind (spec.l4Copy.f a0 a1 a2 a3) fun x2 => Option.bind (spec.RecOk.f a4 a3 a5) fun x3 => Option.bind (spec.l5Room.f K ([] ++ a0) ([] ++ a1) ([] ++ a2) a3 [] x3) fun x4 => cond (x4.2.2.2.2.2) (Option.bind (spec.l5Burn.f K x4.1 x4.2.1 x4.2.2.1 x4.2.2.2.1 x4.2.2.2.2.1 x4.2.2.2.2.2 a4 a5) fun x5 => Option.bind (spec.l5Done.f K a0 a1 a2 a3 x5.1 x4.2.1 x5.2.1 x5.2.2.1 x5.2.2.2.1 x5.2.2.2.2) fun x6 => some (x6.1, x6.2.1, x6.2.2.1, x6.2.2.2.1, x6.2.2.2.2.1, x6.2.2.2.2.2)) (Option.bind (spec.l5Done.f K a0 a1 a2 a3 x4.1 x4.2.1 x4.2.2.1 x4.2.2.2.1 x4.2.2.2.2.1 x4.2.2.2.2.2) fun x5 => some (x5.1, x5.2.1, x5.2.2.1, x5.2.2.2.1, x5.2.2.2.2.1, x5.2.2.2.2.2))) (some ([], [], [], [], 0, false))
theorem spec.Plan.spec (K : Nat) (a0 : List ByteArray) (a1 : List Int) (a2 : List Int) (a3 : Int) (a4 : Int) (a5 : ByteArray) (o : (List (Int × Int × ByteArray)) × (List ByteArray) × (List Int) × (List Int) × Int × Bool) (h : spec.Plan.f K a0 a1 a2 a3 a4 a5 = some o) : Den.Spec Tryz.prog 75 [.v (.agg [.sl 0 0 a0.length, .sl 1 0 a1.length, .sl 2 0 a2.length, .int .i64 a3]), one (.int .i64 a4), one (.str a5)] [some ⟨false, .strs a0⟩, some ⟨false, .ints .i64 a1⟩, some ⟨false, .ints .i64 a2⟩] (.tup [.c (.sl 3 0 o.1.length), .agg [.sl 4 0 o.2.1.length, .sl 5 0 o.2.2.1.length, .sl 6 0 o.2.2.2.1.length, .int .i64 o.2.2.2.2.1], .c (.bool o.2.2.2.2.2)]) [some ⟨false, .strs a0⟩, some ⟨false, .ints .i64 a1⟩, some ⟨false, .ints .i64 a2⟩, some ⟨true, .acts o.1⟩, some ⟨true, .strs o.2.1⟩, some ⟨true, .ints .i64 o.2.2.1⟩, some ⟨true, .ints .i64 o.2.2.2.1⟩] := by
  unfold spec.Plan.f at h
  obtain ⟨x1, e1, h⟩ := bind_some h
  rcases br_cases h with ⟨c1, h⟩ | ⟨c1, h⟩
  · obtain ⟨x2, e2, h⟩ := bind_some h
    obtain ⟨x3, e3, h⟩ := bind_some h
    obtain ⟨x4, e4, h⟩ := bind_some h
    rcases br_cases h with ⟨c2, h⟩ | ⟨c2, h⟩
    · obtain ⟨x5, e5, h⟩ := bind_some h
      obtain ⟨x6, e6, h⟩ := bind_some h
      obtain rfl := Option.some.inj h
      exact Den.Spec.of_walk tab mixed Tryz.func75 (by kernel_rfl) [.call [(0, false), (1, false), (2, false)] [] (one (.bool x1)) [some ⟨false, .strs a0⟩, some ⟨false, .ints .i64 a1⟩, some ⟨false, .ints .i64 a2⟩], bF, .call [(0, false), (1, false), (2, false)] [] (.v (.agg [.sl 3 0 (([] ++ a0).length), .sl 4 0 (([] ++ a1).length), .sl 5 0 (([] ++ a2).length), .int .i64 a3])) [some ⟨false, .strs a0⟩, some ⟨false, .ints .i64 a1⟩, some ⟨false, .ints .i64 a2⟩, some ⟨true, .strs ([] ++ a0)⟩, some ⟨true, .ints .i64 ([] ++ a1)⟩, some ⟨true, .ints .i64 ([] ++ a2)⟩], .call [] [] (one (.bool x3)) [], .call [(80, true), (16, true), (17, true), (18, true), (81, true)] [] (.tup []) [some ⟨true, .cells [.sl 5 0 x4.1.length, .sl 6 0 x4.2.1.length, .sl 7 0 x4.2.2.1.length, .int .i64 x4.2.2.2.1, .sl 8 0 x4.2.2.2.2.1.length, .bool x4.2.2.2.2.2]⟩, none, none, none, none, some ⟨true, .strs x4.1⟩, some ⟨true, .ints .i64 x4.2.1⟩, some ⟨true, .ints .i64 x4.2.2.1⟩, some ⟨true, .acts x4.2.2.2.2.1⟩], bT, .call [(80, true), (96, true), (97, true), (98, true), (99, true)] [] (.tup []) [some ⟨true, .cells [.sl 1 0 x5.1.length, .sl 2 0 x4.2.1.length, .sl 3 0 x5.2.1.length, .int .i64 x5.2.2.1, .sl 5 0 x5.2.2.2.1.length, .bool x5.2.2.2.2]⟩, some ⟨true, .strs x5.1⟩, some ⟨true, .ints .i64 x4.2.1⟩, some ⟨true, .ints .i64 x5.2.1⟩, none, some ⟨true, .acts x5.2.2.2.1⟩], .call [(0, false), (1, false), (2, false), (80, true), (96, false), (97, false), (98, false), (100, true)] [] (.tup [.c (.sl 8 0 x6.1.length), .agg [.sl 9 0 x6.2.1.length, .sl 10 0 x6.2.2.1.length, .sl 11 0 x6.2.2.2.1.length, .int .i64 x6.2.2.2.2.1], .c (.bool x6.2.2.2.2.2)]) [some ⟨false, .strs a0⟩, some ⟨false, .ints .i64 a1⟩, some ⟨false, .ints .i64 a2⟩, none, some ⟨false, .strs x5.1⟩, some ⟨false, .ints .i64 x4.2.1⟩, some ⟨false, .ints .i64 x5.2.1⟩, none, some ⟨true, .acts x6.1⟩, some ⟨true, .strs x6.2.1⟩, some ⟨true, .ints .i64 x6.2.2.1⟩, some ⟨true, .ints .i64 x6.2.2.2.1⟩]] [] [0, 1, 2, 101, 102, 103, 104] (nd (spec.FtlOk.spec K a0 a1 a2 a3 _ e1) (nd (nf c1) (nd (spec.l4Copy.spec a0 a1 a2 a3 _ e2) (nd (spec.RecOk.spec a4 a3 a5 _ e3) (nd (spec.l5Room.spec K ([] ++ a0) ([] ++ a1) ([] ++ a2) a3 [] x3 _ e4) (nd c2 (nd (spec.l5Burn.spec K x4.1 x4.2.1 x4.2.2.1 x4.2.2.2.1 x4.2.2.2.2.1 x4.2.2.2.2.2 a4 a5 _ e5) (nd (spec.l5Done.spec K a0 a1 a2 a3 x5.1 x4.2.1 x5.2.1 x5.2.2.1 x5.2.2.2.1 x5.2.2.2.2 _ e6) trivial)))))))) (by kernel_rfl)
    · obtain ⟨x5, e5, h⟩ := bind_some h
      obtain rfl := Option.some.inj h
      exact Den.Spec.of_walk tab mixed Tryz.func75 (by kernel_rfl) [.call [(0, false), (1, false), (2, false)] [] (one (.bool x1)) [some ⟨false, .strs a0⟩, some ⟨false, .ints .i64 a1⟩, some ⟨false, .ints .i64 a2⟩], bF, .call [(0, false), (1, false), (2, false)] [] (.v (.agg [.sl 3 0 (([] ++ a0).length), .sl 4 0 (([] ++ a1).length), .sl 5 0 (([] ++ a2).length), .int .i64 a3])) [some ⟨false, .strs a0⟩, some ⟨false, .ints .i64 a1⟩, some ⟨false, .ints .i64 a2⟩, some ⟨true, .strs ([] ++ a0)⟩, some ⟨true, .ints .i64 ([] ++ a1)⟩, some ⟨true, .ints .i64 ([] ++ a2)⟩], .call [] [] (one (.bool x3)) [], .call [(80, true), (16, true), (17, true), (18, true), (81, true)] [] (.tup []) [some ⟨true, .cells [.sl 5 0 x4.1.length, .sl 6 0 x4.2.1.length, .sl 7 0 x4.2.2.1.length, .int .i64 x4.2.2.2.1, .sl 8 0 x4.2.2.2.2.1.length, .bool x4.2.2.2.2.2]⟩, none, none, none, none, some ⟨true, .strs x4.1⟩, some ⟨true, .ints .i64 x4.2.1⟩, some ⟨true, .ints .i64 x4.2.2.1⟩, some ⟨true, .acts x4.2.2.2.2.1⟩], bF, .call [(0, false), (1, false), (2, false), (80, true), (96, false), (97, false), (98, false), (99, true)] [] (.tup [.c (.sl 8 0 x5.1.length), .agg [.sl 9 0 x5.2.1.length, .sl 10 0 x5.2.2.1.length, .sl 11 0 x5.2.2.2.1.length, .int .i64 x5.2.2.2.2.1], .c (.bool x5.2.2.2.2.2)]) [some ⟨false, .strs a0⟩, some ⟨false, .ints .i64 a1⟩, some ⟨false, .ints .i64 a2⟩, none, some ⟨false, .strs x4.1⟩, some ⟨false, .ints .i64 x4.2.1⟩, some ⟨false, .ints .i64 x4.2.2.1⟩, none, some ⟨true, .acts x5.1⟩, some ⟨true, .strs x5.2.1⟩, some ⟨true, .ints .i64 x5.2.2.1⟩, some ⟨true, .ints .i64 x5.2.2.2.1⟩]] [] [0, 1, 2, 100, 101, 102, 103] (nd (spec.FtlOk.spec K a0 a1 a2 a3 _ e1) (nd (nf c1) (nd (spec.l4Copy.spec a0 a1 a2 a3 _ e2) (nd (spec.RecOk.spec a4 a3 a5 _ e3) (nd (spec.l5Room.spec K ([] ++ a0) ([] ++ a1) ([] ++ a2) a3 [] x3 _ e4) (nd c2 (nd (spec.l5Done.spec K a0 a1 a2 a3 x4.1 x4.2.1 x4.2.2.1 x4.2.2.2.1 x4.2.2.2.2.1 x4.2.2.2.2.2 _ e5) trivial))))))) (by kernel_rfl)
  · obtain rfl := Option.some.inj h
    exact Den.Spec.of_walk tab mixed Tryz.func75 (by kernel_rfl) [.call [(0, false), (1, false), (2, false)] [] (one (.bool x1)) [some ⟨false, .strs a0⟩, some ⟨false, .ints .i64 a1⟩, some ⟨false, .ints .i64 a2⟩], bT] [] [0, 1, 2, 8, 9, 10, 11] (nd (spec.FtlOk.spec K a0 a1 a2 a3 _ e1) (nd (nt c1) trivial)) (by kernel_rfl)
def spec.Burn.f (K : Nat) (a0 : List ByteArray) (a1 : List Int) (a2 : Int) (a3 : ByteArray) : Option ((List ByteArray) × (List Int) × Bool) :=
  Option.bind (spec.ChipOk.f K a0 a1) fun x1 => cond (x1) (Option.bind (spec.l2Copy.f a0 a1) fun x2 => Option.bind (spec.l1In.f a2 0 (w64 ((a0.length : Int) - 1))) fun x3 => cond (x3) (ck (0 ≤ a2) (ck (a2 < (a0.length : Int)) (cond (strEq (a0.getD a2.toNat noVal) noVal) (cond (strEq a3 noVal) (some ([] ++ a0, [] ++ a1, false)) (cond (decide ((a3.size : Int) > 800)) (some ([] ++ a0, [] ++ a1, false)) (ck (a2 < (([] ++ a0).length : Int)) (some (([] ++ a0).set a2.toNat a3, [] ++ a1, true))))) (some ([] ++ a0, [] ++ a1, false))))) (some ([] ++ a0, [] ++ a1, false))) (some ([], [], false))
theorem spec.Burn.spec (K : Nat) (a0 : List ByteArray) (a1 : List Int) (a2 : Int) (a3 : ByteArray) (o : (List ByteArray) × (List Int) × Bool) (h : spec.Burn.f K a0 a1 a2 a3 = some o) : Den.Spec Tryz.prog 142 [.v (.agg [.sl 0 0 a0.length, .sl 1 0 a1.length]), one (.int .i64 a2), one (.str a3)] [some ⟨false, .strs a0⟩, some ⟨false, .ints .i64 a1⟩] (.tup [.agg [.sl 2 0 o.1.length, .sl 3 0 o.2.1.length], .c (.bool o.2.2)]) [some ⟨false, .strs a0⟩, some ⟨false, .ints .i64 a1⟩, some ⟨true, .strs o.1⟩, some ⟨true, .ints .i64 o.2.1⟩] := by
  unfold spec.Burn.f at h
  obtain ⟨x1, e1, h⟩ := bind_some h
  rcases br_cases h with ⟨c1, h⟩ | ⟨c1, h⟩
  · obtain ⟨x2, e2, h⟩ := bind_some h
    obtain ⟨x3, e3, h⟩ := bind_some h
    rcases br_cases h with ⟨c2, h⟩ | ⟨c2, h⟩
    · obtain ⟨p1, h⟩ := ck_some h
      obtain ⟨p2, h⟩ := ck_some h
      rcases br_cases h with ⟨c3, h⟩ | ⟨c3, h⟩
      · rcases br_cases h with ⟨c4, h⟩ | ⟨c4, h⟩
        · obtain rfl := Option.some.inj h
          exact Den.Spec.of_walk tab mixed Tryz.func142 (by kernel_rfl) [.call [(0, false), (1, false)] [] (one (.bool x1)) [some ⟨false, .strs a0⟩, some ⟨false, .ints .i64 a1⟩], bF, .call [(0, false), (1, false)] [] (.v (.agg [.sl 2 0 (([] ++ a0).length), .sl 3 0 (([] ++ a1).length)])) [some ⟨false, .strs a0⟩, some ⟨false, .ints .i64 a1⟩, some ⟨true, .strs ([] ++ a0)⟩, some ⟨true, .ints .i64 ([] ++ a1)⟩], .call [] [] (one (.bool x3)) [], bF, bF, bF, bF, bF, bF, bF, bF, bF, bF, bT, bT, bT, bT, bT] [] [0, 1, 6, 7] (nd (spec.ChipOk.spec K a0 a1 _ e1) (nd (nf c1) (nd (spec.l2Copy.spec a0 a1 _ e2) (nd (spec.l1In.spec a2 0 (w64 ((a0.length : Int) - 1)) _ e3) (nd (nf c2) (nd (nf c2) (nd (nf c2) (nd (nf c2) (nd p1 (nd p2 (nd (nf c2) (nd (tn p1 p2) (nd (nf c2) (nd (nf c2) (nd (nf c3) (nd (nf c3) (nd (nf c3) (nd c4 (nd c4 (nd c4 (nd c4 (nd tt trivial)))))))))))))))))))))) (by kernel_rfl)
        · rcases br_cases h with ⟨c5, h⟩ | ⟨c5, h⟩
          · obtain rfl := Option.some.inj h
            exact Den.Spec.of_walk tab mixed Tryz.func142 (by kernel_rfl) [.call [(0, false), (1, false)] [] (one (.bool x1)) [some ⟨false, .strs a0⟩, some ⟨false, .ints .i64 a1⟩], bF, .call [(0, false), (1, false)] [] (.v (.agg [.sl 2 0 (([] ++ a0).length), .sl 3 0 (([] ++ a1).length)])) [some ⟨false, .strs a0⟩, some ⟨false, .ints .i64 a1⟩, some ⟨true, .strs ([] ++ a0)⟩, some ⟨true, .ints .i64 ([] ++ a1)⟩], .call [] [] (one (.bool x3)) [], bF, bF, bF, bF, bF, bF, bF, bF, bF, bF, bF, bF, bF, bF, bT] [] [0, 1, 6, 7] (nd (spec.ChipOk.spec K a0 a1 _ e1) (nd (nf c1) (nd (spec.l2Copy.spec a0 a1 _ e2) (nd (spec.l1In.spec a2 0 (w64 ((a0.length : Int) - 1)) _ e3) (nd (nf c2) (nd (nf c2) (nd (nf c2) (nd (nf c2) (nd p1 (nd p2 (nd (nf c2) (nd (tn p1 p2) (nd (nf c2) (nd (nf c2) (nd (nf c3) (nd (nf c3) (nd (nf c3) (nd c4 (nd c4 (nd c4 (nd c4 (nd c5 trivial)))))))))))))))))))))) (by kernel_rfl)
          · obtain ⟨p3, h⟩ := ck_some h
            obtain rfl := Option.some.inj h
            exact Den.Spec.eqd (r := .tup [.agg [.sl 2 0 (([] ++ a0).length), .sl 3 0 (([] ++ a1).length)], .c (.bool true)]) (h' := [some ⟨false, .strs a0⟩, some ⟨false, .ints .i64 a1⟩, some ⟨true, .strs (([] ++ a0).set a2.toNat a3)⟩, some ⟨true, .ints .i64 ([] ++ a1)⟩]) (Den.Spec.of_walk tab mixed Tryz.func142 (by kernel_rfl) [.call [(0, false), (1, false)] [] (one (.bool x1)) [some ⟨false, .strs a0⟩, some ⟨false, .ints .i64 a1⟩], bF, .call [(0, false), (1, false)] [] (.v (.agg [.sl 2 0 (([] ++ a0).length), .sl 3 0 (([] ++ a1).length)])) [some ⟨false, .strs a0⟩, some ⟨false, .ints .i64 a1⟩, some ⟨true, .strs ([] ++ a0)⟩, some ⟨true, .ints .i64 ([] ++ a1)⟩], .call [] [] (one (.bool x3)) [], bF, bF, bF, bF, bF, bF, bF, bF, bF, bF, bF, bF, bF, bF, bF] [] [0, 1, 6, 7] (nd (spec.ChipOk.spec K a0 a1 _ e1) (nd (nf c1) (nd (spec.l2Copy.spec a0 a1 _ e2) (nd (spec.l1In.spec a2 0 (w64 ((a0.length : Int) - 1)) _ e3) (nd (nf c2) (nd (nf c2) (nd (nf c2) (nd (nf c2) (nd p1 (nd p2 (nd (nf c2) (nd (tn p1 p2) (nd (nf c2) (nd (nf c2) (nd (nf c3) (nd (nf c3) (nd (nf c3) (nd c4 (nd c4 (nd c4 (nd c4 (nd c5 (nd p1 (nd p3 (nd (tn p1 p3) trivial))))))))))))))))))))))))) (by kernel_rfl)) (by simp only [List.length_set, overL_length]) (by simp only [List.length_set, overL_length])
      · obtain rfl := Option.some.inj h
        exact Den.Spec.of_walk tab mixed Tryz.func142 (by kernel_rfl) [.call [(0, false), (1, false)] [] (one (.bool x1)) [some ⟨false, .strs a0⟩, some ⟨false, .ints .i64 a1⟩], bF, .call [(0, false), (1, false)] [] (.v (.agg [.sl 2 0 (([] ++ a0).length), .sl 3 0 (([] ++ a1).length)])) [some ⟨false, .strs a0⟩, some ⟨false, .ints .i64 a1⟩, some ⟨true, .strs ([] ++ a0)⟩, some ⟨true, .ints .i64 ([] ++ a1)⟩], .call [] [] (one (.bool x3)) [], bF, bF, bF, bF, bF, bF, bF, bT, bT, bT, bT, bT, bT, bT, bT] [] [0, 1, 6, 7] (nd (spec.ChipOk.spec K a0 a1 _ e1) (nd (nf c1) (nd (spec.l2Copy.spec a0 a1 _ e2) (nd (spec.l1In.spec a2 0 (w64 ((a0.length : Int) - 1)) _ e3) (nd (nf c2) (nd (nf c2) (nd (nf c2) (nd (nf c2) (nd p1 (nd p2 (nd (nf c2) (nd (tn p1 p2) (nd (nf c2) (nd (nf c2) (nd (nt c3) (nd (nt c3) (nd (nt c3) (nd tt (nd tt (nd tt (nd tt (nd tt trivial)))))))))))))))))))))) (by kernel_rfl)
    · obtain rfl := Option.some.inj h
      exact Den.Spec.of_walk tab mixed Tryz.func142 (by kernel_rfl) [.call [(0, false), (1, false)] [] (one (.bool x1)) [some ⟨false, .strs a0⟩, some ⟨false, .ints .i64 a1⟩], bF, .call [(0, false), (1, false)] [] (.v (.agg [.sl 2 0 (([] ++ a0).length), .sl 3 0 (([] ++ a1).length)])) [some ⟨false, .strs a0⟩, some ⟨false, .ints .i64 a1⟩, some ⟨true, .strs ([] ++ a0)⟩, some ⟨true, .ints .i64 ([] ++ a1)⟩], .call [] [] (one (.bool x3)) [], bT, bT, bT, bT, bT, bT, bT, bT, bT, bT, bT, bT, bT, bT, bT] [] [0, 1, 6, 7] (nd (spec.ChipOk.spec K a0 a1 _ e1) (nd (nf c1) (nd (spec.l2Copy.spec a0 a1 _ e2) (nd (spec.l1In.spec a2 0 (w64 ((a0.length : Int) - 1)) _ e3) (nd (nt c2) (nd (nt c2) (nd (nt c2) (nd (nt c2) (nd (nt c2) (nd (nt c2) (nd (nt c2) (nd tt (nd tt (nd tt (nd tt (nd tt (nd tt (nd tt (nd tt trivial))))))))))))))))))) (by kernel_rfl)
  · obtain rfl := Option.some.inj h
    exact Den.Spec.of_walk tab mixed Tryz.func142 (by kernel_rfl) [.call [(0, false), (1, false)] [] (one (.bool x1)) [some ⟨false, .strs a0⟩, some ⟨false, .ints .i64 a1⟩], bT] [] [0, 1, 6, 7] (nd (spec.ChipOk.spec K a0 a1 _ e1) (nd (nt c1) trivial)) (by kernel_rfl)
def spec.Clear.f (K : Nat) (a0 : List ByteArray) (a1 : List Int) (a2 : Int) : Option ((List ByteArray) × (List Int) × Bool) :=
  Option.bind (spec.ChipOk.f K a0 a1) fun x1 => cond (x1) (Option.bind (spec.l1In.f a2 0 9) fun x2 => cond (x2) (ck (0 ≤ a2) (ck (a2 < (a1.length : Int)) (cond ((a1.getD a2.toNat 0) == 1000000000) (Option.bind (spec.l2Copy.f a0 a1) fun x3 => some ([] ++ a0, [] ++ a1, false)) (Option.bind (spec.l2Copy.f a0 a1) fun x3 => Option.bind (spec.l2Wipe.f K ([] ++ a0) ([] ++ a1) a2 6) fun x4 => some (x4, ([] ++ a1).set a2.toNat (w64 ((([] ++ a1).getD a2.toNat 0) + 1)), true))))) (Option.bind (spec.l2Copy.f a0 a1) fun x3 => some ([] ++ a0, [] ++ a1, false))) (some ([], [], false))
theorem spec.Clear.spec (K : Nat) (a0 : List ByteArray) (a1 : List Int) (a2 : Int) (o : (List ByteArray) × (List Int) × Bool) (h : spec.Clear.f K a0 a1 a2 = some o) : Den.Spec Tryz.prog 143 [.v (.agg [.sl 0 0 a0.length, .sl 1 0 a1.length]), one (.int .i64 a2)] [some ⟨false, .strs a0⟩, some ⟨false, .ints .i64 a1⟩] (.tup [.agg [.sl 2 0 o.1.length, .sl 3 0 o.2.1.length], .c (.bool o.2.2)]) [some ⟨false, .strs a0⟩, some ⟨false, .ints .i64 a1⟩, some ⟨true, .strs o.1⟩, some ⟨true, .ints .i64 o.2.1⟩] := by
  unfold spec.Clear.f at h
  obtain ⟨x1, e1, h⟩ := bind_some h
  rcases br_cases h with ⟨c1, h⟩ | ⟨c1, h⟩
  · obtain ⟨x2, e2, h⟩ := bind_some h
    rcases br_cases h with ⟨c2, h⟩ | ⟨c2, h⟩
    · obtain ⟨p1, h⟩ := ck_some h
      obtain ⟨p2, h⟩ := ck_some h
      rcases br_cases h with ⟨c3, h⟩ | ⟨c3, h⟩
      · obtain ⟨x3, e3, h⟩ := bind_some h
        obtain rfl := Option.some.inj h
        exact Den.Spec.of_walk tab mixed Tryz.func143 (by kernel_rfl) [.call [(0, false), (1, false)] [] (one (.bool x1)) [some ⟨false, .strs a0⟩, some ⟨false, .ints .i64 a1⟩], bF, .call [] [] (one (.bool x2)) [], bF, bF, bF, bF, bF, bF, bF, bT, .call [(0, false), (1, false)] [] (.v (.agg [.sl 2 0 (([] ++ a0).length), .sl 3 0 (([] ++ a1).length)])) [some ⟨false, .strs a0⟩, some ⟨false, .ints .i64 a1⟩, some ⟨true, .strs ([] ++ a0)⟩, some ⟨true, .ints .i64 ([] ++ a1)⟩]] [] [0, 1, 6, 7] (nd (spec.ChipOk.spec K a0 a1 _ e1) (nd (nf c1) (nd (spec.l1In.spec a2 0 9 _ e2) (nd (nf c2) (nd (nf c2) (nd (nf c2) (nd (nf c2) (nd p1 (nd p2 (nd (nf c2) (nd (tn p1 p2) (nd (nf c2) (nd (nf c2) (nd c3 (nd (spec.l2Copy.spec a0 a1 _ e3) trivial))))))))))))))) (by kernel_rfl)
      · obtain ⟨x3, e3, h⟩ := bind_some h
        obtain ⟨x4, e4, h⟩ := bind_some h
        obtain rfl := Option.some.inj h
        exact Den.Spec.of_walk tab mixed Tryz.func143 (by kernel_rfl) [.call [(0, false), (1, false)] [] (one (.bool x1)) [some ⟨false, .strs a0⟩, some ⟨false, .ints .i64 a1⟩], bF, .call [] [] (one (.bool x2)) [], bF, bF, bF, bF, bF, bF, bF, bF, .call [(0, false), (1, false)] [] (.v (.agg [.sl 2 0 (([] ++ a0).length), .sl 3 0 (([] ++ a1).length)])) [some ⟨false, .strs a0⟩, some ⟨false, .ints .i64 a1⟩, some ⟨true, .strs ([] ++ a0)⟩, some ⟨true, .ints .i64 ([] ++ a1)⟩], .call [(6, true), (7, true)] [] (.v (.agg [.sl 0 0 x4.length, .sl 1 0 ((([] ++ a1).set a2.toNat (w64 ((([] ++ a1).getD a2.toNat 0) + 1))).length)])) [some ⟨true, .strs x4⟩, some ⟨true, .ints .i64 (([] ++ a1).set a2.toNat (w64 ((([] ++ a1).getD a2.toNat 0) + 1)))⟩]] [] [0, 1, 6, 7] (nd (spec.ChipOk.spec K a0 a1 _ e1) (nd (nf c1) (nd (spec.l1In.spec a2 0 9 _ e2) (nd (nf c2) (nd (nf c2) (nd (nf c2) (nd (nf c2) (nd p1 (nd p2 (nd (nf c2) (nd (tn p1 p2) (nd (nf c2) (nd (nf c2) (nd c3 (nd (spec.l2Copy.spec a0 a1 _ e3) (nd (spec.l2Wipe.spec K ([] ++ a0) ([] ++ a1) a2 6 _ e4) trivial)))))))))))))))) (by kernel_rfl)
    · obtain ⟨x3, e3, h⟩ := bind_some h
      obtain rfl := Option.some.inj h
      exact Den.Spec.of_walk tab mixed Tryz.func143 (by kernel_rfl) [.call [(0, false), (1, false)] [] (one (.bool x1)) [some ⟨false, .strs a0⟩, some ⟨false, .ints .i64 a1⟩], bF, .call [] [] (one (.bool x2)) [], bT, bT, bT, bT, bT, bT, bT, bT, .call [(0, false), (1, false)] [] (.v (.agg [.sl 2 0 (([] ++ a0).length), .sl 3 0 (([] ++ a1).length)])) [some ⟨false, .strs a0⟩, some ⟨false, .ints .i64 a1⟩, some ⟨true, .strs ([] ++ a0)⟩, some ⟨true, .ints .i64 ([] ++ a1)⟩]] [] [0, 1, 6, 7] (nd (spec.ChipOk.spec K a0 a1 _ e1) (nd (nf c1) (nd (spec.l1In.spec a2 0 9 _ e2) (nd (nt c2) (nd (nt c2) (nd (nt c2) (nd (nt c2) (nd (nt c2) (nd (nt c2) (nd (nt c2) (nd tt (nd (spec.l2Copy.spec a0 a1 _ e3) trivial)))))))))))) (by kernel_rfl)
  · obtain rfl := Option.some.inj h
    exact Den.Spec.of_walk tab mixed Tryz.func143 (by kernel_rfl) [.call [(0, false), (1, false)] [] (one (.bool x1)) [some ⟨false, .strs a0⟩, some ⟨false, .ints .i64 a1⟩], bT] [] [0, 1, 6, 7] (nd (spec.ChipOk.spec K a0 a1 _ e1) (nd (nt c1) trivial)) (by kernel_rfl)
def spec.Apply.f (K : Nat) (a0 : List ByteArray) (a1 : List Int) (a2 : Int) (a3 : Int) (a4 : ByteArray) : Option ((List ByteArray) × (List Int) × Bool) :=
  Option.bind (spec.ChipOk.f K a0 a1) fun x1 => cond (x1) (cond (a2 == 1) (Option.bind (spec.Burn.f K a0 a1 a3 a4) fun x2 => some (x2.1, x2.2.1, x2.2.2)) (cond (a2 == 2) (Option.bind (spec.Clear.f K a0 a1 a3) fun x2 => some (x2.1, x2.2.1, x2.2.2)) (Option.bind (spec.l2Copy.f a0 a1) fun x2 => some ([] ++ a0, [] ++ a1, false)))) (some ([], [], false))
theorem spec.Apply.spec (K : Nat) (a0 : List ByteArray) (a1 : List Int) (a2 : Int) (a3 : Int) (a4 : ByteArray) (o : (List ByteArray) × (List Int) × Bool) (h : spec.Apply.f K a0 a1 a2 a3 a4 = some o) : Den.Spec Tryz.prog 141 [.v (.agg [.sl 0 0 a0.length, .sl 1 0 a1.length]), .v (.agg [.int .i64 a2, .int .i64 a3, .str a4])] [some ⟨false, .strs a0⟩, some ⟨false, .ints .i64 a1⟩] (.tup [.agg [.sl 2 0 o.1.length, .sl 3 0 o.2.1.length], .c (.bool o.2.2)]) [some ⟨false, .strs a0⟩, some ⟨false, .ints .i64 a1⟩, some ⟨true, .strs o.1⟩, some ⟨true, .ints .i64 o.2.1⟩] := by
  unfold spec.Apply.f at h
  obtain ⟨x1, e1, h⟩ := bind_some h
  rcases br_cases h with ⟨c1, h⟩ | ⟨c1, h⟩
  · rcases br_cases h with ⟨c2, h⟩ | ⟨c2, h⟩
    · obtain ⟨x2, e2, h⟩ := bind_some h
      obtain rfl := Option.some.inj h
      exact Den.Spec.of_walk tab mixed Tryz.func141 (by kernel_rfl) [.call [(0, false), (1, false)] [] (one (.bool x1)) [some ⟨false, .strs a0⟩, some ⟨false, .ints .i64 a1⟩], bF, bT, .call [(0, false), (1, false)] [] (.tup [.agg [.sl 2 0 x2.1.length, .sl 3 0 x2.2.1.length], .c (.bool x2.2.2)]) [some ⟨false, .strs a0⟩, some ⟨false, .ints .i64 a1⟩, some ⟨true, .strs x2.1⟩, some ⟨true, .ints .i64 x2.2.1⟩]] [] [0, 1, 7, 8] (nd (spec.ChipOk.spec K a0 a1 _ e1) (nd (nf c1) (nd c2 (nd (spec.Burn.spec K a0 a1 a3 a4 _ e2) trivial)))) (by kernel_rfl)
    · rcases br_cases h with ⟨c3, h⟩ | ⟨c3, h⟩
      · obtain ⟨x2, e2, h⟩ := bind_some h
        obtain rfl := Option.some.inj h
        exact Den.Spec.of_walk tab mixed Tryz.func141 (by kernel_rfl) [.call [(0, false), (1, false)] [] (one (.bool x1)) [some ⟨false, .strs a0⟩, some ⟨false, .ints .i64 a1⟩], bF, bF, bT, .call [(0, false), (1, false)] [] (.tup [.agg [.sl 2 0 x2.1.length, .sl 3 0 x2.2.1.length], .c (.bool x2.2.2)]) [some ⟨false, .strs a0⟩, some ⟨false, .ints .i64 a1⟩, some ⟨true, .strs x2.1⟩, some ⟨true, .ints .i64 x2.2.1⟩]] [] [0, 1, 7, 8] (nd (spec.ChipOk.spec K a0 a1 _ e1) (nd (nf c1) (nd c2 (nd c3 (nd (spec.Clear.spec K a0 a1 a3 _ e2) trivial))))) (by kernel_rfl)
      · obtain ⟨x2, e2, h⟩ := bind_some h
        obtain rfl := Option.some.inj h
        exact Den.Spec.of_walk tab mixed Tryz.func141 (by kernel_rfl) [.call [(0, false), (1, false)] [] (one (.bool x1)) [some ⟨false, .strs a0⟩, some ⟨false, .ints .i64 a1⟩], bF, bF, bF, .call [(0, false), (1, false)] [] (.v (.agg [.sl 2 0 (([] ++ a0).length), .sl 3 0 (([] ++ a1).length)])) [some ⟨false, .strs a0⟩, some ⟨false, .ints .i64 a1⟩, some ⟨true, .strs ([] ++ a0)⟩, some ⟨true, .ints .i64 ([] ++ a1)⟩]] [] [0, 1, 7, 8] (nd (spec.ChipOk.spec K a0 a1 _ e1) (nd (nf c1) (nd c2 (nd c3 (nd (spec.l2Copy.spec a0 a1 _ e2) trivial))))) (by kernel_rfl)
  · obtain rfl := Option.some.inj h
    exact Den.Spec.of_walk tab mixed Tryz.func141 (by kernel_rfl) [.call [(0, false), (1, false)] [] (one (.bool x1)) [some ⟨false, .strs a0⟩, some ⟨false, .ints .i64 a1⟩], bT] [] [0, 1, 7, 8] (nd (spec.ChipOk.spec K a0 a1 _ e1) (nd (nt c1) trivial)) (by kernel_rfl)
def spec.ApplyAll.l0.f (K : Nat) (a0 : List ByteArray) (a1 : List Int) (a2 : List (Int × Int × ByteArray)) : Nat → (List ByteArray) → (List Int) → Int → Option (((List ByteArray) × (List Int)) ⊕ ((List ByteArray) × (List Int)))
  | 0, _, _, _ => none
  | k + 1, v84_0, v84_1, v84_2 =>
    cond (decide (v84_2 < (a2.length : Int))) (ck (0 ≤ v84_2) (Option.bind (spec.Apply.f K v84_0 v84_1 ((a2.getD v84_2.toNat (0, 0, noVal)).1) ((a2.getD v84_2.toNat (0, 0, noVal)).2.1) ((a2.getD v84_2.toNat (0, 0, noVal)).2.2)) fun x1 => cond (x1.2.2) (spec.ApplyAll.l0.f K a0 a1 a2 k x1.1 x1.2.1 (w64 (v84_2 + 1))) (some (.inl (v84_0, v84_1))))) (some (.inr ((v84_0, v84_1))))
def spec.ApplyAll.l0.s (K : Nat) (a0 : List ByteArray) (a1 : List Int) (a2 : List (Int × Int × ByteArray)) (v84_0 : List ByteArray) (v84_1 : List Int) (v84_2 : Int) : St := mkSt 36 [(1, one (.sl 2 0 a2.length)), (4, one (.ptr 3 0 0)), (6, one (.ptr 6 0 0)), (7, one (.int .i64 v84_2))] [some ⟨false, .strs a0⟩, some ⟨false, .ints .i64 a1⟩, some ⟨false, .acts a2⟩, some ⟨true, .cells [.sl 4 0 0, .sl 5 0 0]⟩, some ⟨true, .strs []⟩, some ⟨true, .ints .i64 []⟩, some ⟨true, .cells [.sl 7 0 v84_0.length, .sl 8 0 v84_1.length]⟩, some ⟨true, .strs v84_0⟩, some ⟨true, .ints .i64 v84_1⟩]
def spec.ApplyAll.l0.e0 (K : Nat) (a0 : List ByteArray) (a1 : List Int) (a2 : List (Int × Int × ByteArray)) (o : (List ByteArray) × (List Int)) : St := mkSt 36 [(4, one (.ptr 3 0 0)), (5, one (.bool false))] [some ⟨false, .strs a0⟩, some ⟨false, .ints .i64 a1⟩, some ⟨false, .acts a2⟩, some ⟨true, .cells [.sl 4 0 o.1.length, .sl 5 0 o.2.length]⟩, some ⟨true, .strs o.1⟩, some ⟨true, .ints .i64 o.2⟩]
def spec.ApplyAll.l0.e1 (K : Nat) (a0 : List ByteArray) (a1 : List Int) (a2 : List (Int × Int × ByteArray)) (o : (List ByteArray) × (List Int)) : St := mkSt 36 [(4, one (.ptr 3 0 0)), (6, one (.ptr 6 0 0))] [some ⟨false, .strs a0⟩, some ⟨false, .ints .i64 a1⟩, some ⟨false, .acts a2⟩, some ⟨true, .cells [.sl 4 0 0, .sl 5 0 0]⟩, some ⟨true, .strs []⟩, some ⟨true, .ints .i64 []⟩, some ⟨true, .cells [.sl 7 0 o.1.length, .sl 8 0 o.2.length]⟩, some ⟨true, .strs o.1⟩, some ⟨true, .ints .i64 o.2⟩]
def spec.ApplyAll.l0.x (K : Nat) (a0 : List ByteArray) (a1 : List Int) (a2 : List (Int × Int × ByteArray)) : (((List ByteArray) × (List Int)) ⊕ ((List ByteArray) × (List Int))) → AExit × St := Sum.elim (fun o => (.ret, spec.ApplyAll.l0.e0 K a0 a1 a2 o)) (fun o => (.exit 0, spec.ApplyAll.l0.e1 K a0 a1 a2 o))
theorem spec.ApplyAll.l0.spec (K : Nat) (a0 : List ByteArray) (a1 : List Int) (a2 : List (Int × Int × ByteArray)) : ∀ (k : Nat) (v84_0 : List ByteArray) (v84_1 : List Int) (v84_2 : Int) (o : ((List ByteArray) × (List Int)) ⊕ ((List ByteArray) × (List Int))), spec.ApplyAll.l0.f K a0 a1 a2 k v84_0 v84_1 v84_2 = some o → LoopSpec Tryz.prog 3 (loopN Tryz.f127 0) (spec.ApplyAll.l0.s K a0 a1 a2 v84_0 v84_1 v84_2) (spec.ApplyAll.l0.x K a0 a1 a2 o).1 (spec.ApplyAll.l0.x K a0 a1 a2 o).2
  | 0, _, _, _, _, h => by cases h
  | k + 1, v84_0, v84_1, v84_2, o, h => by
    unfold spec.ApplyAll.l0.f at h
    rcases br_cases h with ⟨c1, h⟩ | ⟨c1, h⟩
    · obtain ⟨p1, h⟩ := ck_some h
      obtain ⟨x1, e1, h⟩ := bind_some h
      rcases br_cases h with ⟨c2, h⟩ | ⟨c2, h⟩
      · exact .of_step tab mixed [bT, .call [(7, false), (8, false)] [] (.tup [.agg [.sl 2 0 x1.1.length, .sl 3 0 x1.2.1.length], .c (.bool x1.2.2)]) [some ⟨false, .strs v84_0⟩, some ⟨false, .ints .i64 v84_1⟩, some ⟨true, .strs x1.1⟩, some ⟨true, .ints .i64 x1.2.1⟩], bF] [] [1, 4, 6, 7] [0, 1, 2, 3, 4, 5, 6, 49, 50] (s1 := spec.ApplyAll.l0.s K a0 a1 a2 x1.1 x1.2.1 (w64 (v84_2 + 1))) (nd c1 (nd p1 (nd (of_decide_eq_true c1) (nd (tn p1 (of_decide_eq_true c1)) (nd (spec.Apply.spec K v84_0 v84_1 ((a2.getD v84_2.toNat (0, 0, noVal)).1) ((a2.getD v84_2.toNat (0, 0, noVal)).2.1) ((a2.getD v84_2.toNat (0, 0, noVal)).2.2) _ e1) (nd (nf c2) trivial)))))) (by kernel_rfl) (spec.ApplyAll.l0.spec K a0 a1 a2 k x1.1 x1.2.1 (w64 (v84_2 + 1)) _ h)
      · obtain rfl := Option.some.inj h
        exact .of_done tab mixed [bT, .call [(7, false), (8, false)] [] (.tup [.agg [.sl 2 0 x1.1.length, .sl 3 0 x1.2.1.length], .c (.bool x1.2.2)]) [some ⟨false, .strs v84_0⟩, some ⟨false, .ints .i64 v84_1⟩, some ⟨true, .strs x1.1⟩, some ⟨true, .ints .i64 x1.2.1⟩], bT] [] [4, 5] [0, 1, 2, 3, 7, 8] rfl (nd c1 (nd p1 (nd (of_decide_eq_true c1) (nd (tn p1 (of_decide_eq_true c1)) (nd (spec.Apply.spec K v84_0 v84_1 ((a2.getD v84_2.toNat (0, 0, noVal)).1) ((a2.getD v84_2.toNat (0, 0, noVal)).2.1) ((a2.getD v84_2.toNat (0, 0, noVal)).2.2) _ e1) (nd (nt c2) trivial)))))) (by kernel_rfl)
    · obtain rfl := Option.some.inj h
      exact .of_done tab mixed [bF] [] [4, 6] [0, 1, 2, 3, 4, 5, 6, 7, 8] rfl (nd c1 trivial) (by kernel_rfl)
def spec.ApplyAll.f (K : Nat) (a0 : List ByteArray) (a1 : List Int) (a2 : List (Int × Int × ByteArray)) : Option ((List ByteArray) × (List Int) × Bool) :=
  Option.bind (spec.ChipOk.f K a0 a1) fun x1 => cond (x1) (Option.bind (spec.l2Copy.f a0 a1) fun x2 => Option.bind (spec.ApplyAll.l0.f K a0 a1 a2 K ([] ++ a0) ([] ++ a1) 0) fun x3 => (Sum.elim (fun x3 => some (x3.1, x3.2, false)) (fun x3 => some (x3.1, x3.2, true))) x3) (some ([], [], false))
theorem spec.ApplyAll.spec (K : Nat) (a0 : List ByteArray) (a1 : List Int) (a2 : List (Int × Int × ByteArray)) (o : (List ByteArray) × (List Int) × Bool) (h : spec.ApplyAll.f K a0 a1 a2 = some o) : Den.Spec Tryz.prog 127 [.v (.agg [.sl 0 0 a0.length, .sl 1 0 a1.length]), one (.sl 2 0 a2.length)] [some ⟨false, .strs a0⟩, some ⟨false, .ints .i64 a1⟩, some ⟨false, .acts a2⟩] (.tup [.agg [.sl 3 0 o.1.length, .sl 4 0 o.2.1.length], .c (.bool o.2.2)]) [some ⟨false, .strs a0⟩, some ⟨false, .ints .i64 a1⟩, some ⟨false, .acts a2⟩, some ⟨true, .strs o.1⟩, some ⟨true, .ints .i64 o.2.1⟩] := by
  unfold spec.ApplyAll.f at h
  obtain ⟨x1, e1, h⟩ := bind_some h
  rcases br_cases h with ⟨c1, h⟩ | ⟨c1, h⟩
  · obtain ⟨x2, e2, h⟩ := bind_some h
    obtain ⟨x3, e3, h⟩ := bind_some h
    rcases x3 with x3 | x3
    · obtain rfl := Option.some.inj h
      exact Den.Spec.of_walk tab mixed Tryz.func127 (by kernel_rfl) [.call [(0, false), (1, false)] [] (one (.bool x1)) [some ⟨false, .strs a0⟩, some ⟨false, .ints .i64 a1⟩], bF, .call [(0, false), (1, false)] [] (.v (.agg [.sl 2 0 (([] ++ a0).length), .sl 3 0 (([] ++ a1).length)])) [some ⟨false, .strs a0⟩, some ⟨false, .ints .i64 a1⟩, some ⟨true, .strs ([] ++ a0)⟩, some ⟨true, .ints .i64 ([] ++ a1)⟩], .loop [] [1, 4, 6, 7] [0, 1, 2, 4, 5, 6, 9, 7, 8] (.ret) (spec.ApplyAll.l0.e0 K a0 a1 a2 x3)] [] [0, 1, 2, 4, 5] (nd (spec.ChipOk.spec K a0 a1 _ e1) (nd (nf c1) (nd (spec.l2Copy.spec a0 a1 _ e2) (nd (spec.ApplyAll.l0.spec K a0 a1 a2 K ([] ++ a0) ([] ++ a1) 0 _ e3) trivial)))) (by kernel_rfl)
    · obtain rfl := Option.some.inj h
      exact Den.Spec.of_walk tab mixed Tryz.func127 (by kernel_rfl) [.call [(0, false), (1, false)] [] (one (.bool x1)) [some ⟨false, .strs a0⟩, some ⟨false, .ints .i64 a1⟩], bF, .call [(0, false), (1, false)] [] (.v (.agg [.sl 2 0 (([] ++ a0).length), .sl 3 0 (([] ++ a1).length)])) [some ⟨false, .strs a0⟩, some ⟨false, .ints .i64 a1⟩, some ⟨true, .strs ([] ++ a0)⟩, some ⟨true, .ints .i64 ([] ++ a1)⟩], .loop [] [1, 4, 6, 7] [0, 1, 2, 4, 5, 6, 9, 7, 8] (.exit 0) (spec.ApplyAll.l0.e1 K a0 a1 a2 x3)] [] [0, 1, 2, 7, 8] (nd (spec.ChipOk.spec K a0 a1 _ e1) (nd (nf c1) (nd (spec.l2Copy.spec a0 a1 _ e2) (nd (spec.ApplyAll.l0.spec K a0 a1 a2 K ([] ++ a0) ([] ++ a1) 0 _ e3) trivial)))) (by kernel_rfl)
  · obtain rfl := Option.some.inj h
    exact Den.Spec.of_walk tab mixed Tryz.func127 (by kernel_rfl) [.call [(0, false), (1, false)] [] (one (.bool x1)) [some ⟨false, .strs a0⟩, some ⟨false, .ints .i64 a1⟩], bT] [] [0, 1, 2, 7, 8] (nd (spec.ChipOk.spec K a0 a1 _ e1) (nd (nt c1) trivial)) (by kernel_rfl)
end Go.Proofs.YtmodnnokcmabhaaGreat.GFnFlash
